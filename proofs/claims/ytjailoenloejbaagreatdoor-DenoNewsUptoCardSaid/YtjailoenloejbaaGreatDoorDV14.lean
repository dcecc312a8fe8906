/- Part 14. -/
import Derived.Test.YtjailoenloejbaaGreatDoorDV13
set_option linter.all false
namespace Go.Proofs.YtjailoenloejbaaGreatDoor
open Go Go.Sx Go.Proofs.Tryz
set_option maxRecDepth 100000
set_option maxHeartbeats 0
theorem VZ:BN prog 259=some 3:=by kernel_rfl
theorem aggO:HC prog 259=some true:=by kernel_rfl
theorem Cb:HL prog 259=some 24:=by kernel_rfl
theorem dW:DK prog 259=some (.agg #[iv 0,iv 0,iv 0]):=by kernel_rfl
theorem ry:HN prog (match prog.underlying 259 with|some (.struct a)=>a.toList|_=>[])=some [(0,1),(1,1),(2,1)]:=by kernel_rfl
abbrev X0(a b c:Int):Value:=.agg #[iv a,iv b,iv c]
theorem Cc{a b c:Int}:flat (X0 a b c)=true:=rfl
theorem Xw{a b:Int}:CL prog 259 [(0,iv a),(1,iv b)]=some (X0 a b 0):=by have h:=ry;rw[underlying259]at h;simp only at h;simp only[CL,dW,Cc,ai,underlying259,h];rfl
section
variable {id off:Nat} {h:AA}
theorem Jg:BC prog 259 (qP id off) 0=some (qP id off):=by simp[BC,underlying259,B_,CB]
theorem kN:BC prog 259 (qP id off) 1=some (qP id (off+1)):=by simp[BC,underlying259,B_,CB]
theorem Av:BC prog 259 (qP id off) 2=some (qP id (off+2)):=by simp[BC,underlying259,B_,CB]
theorem rz:EP prog h 259 (qP id off)=AX 3 off (h.c id):=NF aggO VZ
theorem Hj{n c i:Nat}(hi:i<n:=by omega):BW prog 257 (qS id n c) (iv (i:Int))=some (.pointer (some ⟨id,i*3,none⟩)):=by simp only[BW,ig,VZ,CB];grind
theorem SA{a:Option Addr}{n c:Nat}:CU prog h 257 (.slice a n c)=some (iv (n:Int)):=by simp[CU,ig]
theorem bsO{a b c:Int}:FP prog h 257 1 [(0,X0 a b c)]=some (qS h.a 1 1,h.d (.row [iv a,iv b,iv c] 259 false false)):=by simp[FP,ig,VZ,dW,flat,B7,GW,I6,CF,Go.Sx.lay]
theorem Yf{n k:Nat}(a:k<=n):H9 prog h 257 (qS id n AT) none (some (iv (k:Int))) none=some (qS id k AT):=by simp only[H9,ig,VZ,ai,FI];grind
theorem PG{cs:List Value}{x:Int}{ty:TypeId}{g:Bool}(b:h.c id=.row cs ty g false)(hi:off<cs.length)(d:h.b<=id):BD prog h 3 (qP id off) (iv x)=some (h.e id (.row (cs.set off (iv x)) ty g false)):=by have c:(iv x).cells=#[iv x]:=rfl;have a:(some 1:Option Nat)=some (#[iv x]:Array Value).size:=rfl;simp only[BD,c,B_,HW,b];rw[ag a,ag (by simp[one];omega),qT hi]
noncomputable def uS(h:AA)(id:Nat)(a b c:Int):BO->Option AA|.row [_,_,_] d g false=>if h.b<=id then some (h.e id (.row [iv a,iv b,iv c] d g false))else none|_=>BD prog h 259 (qP id 0) (X0 a b c)
theorem rC{a b c:Int}:BD prog h 259 (qP id 0) (X0 a b c)=uS h id a b c (h.c id):=by
 unfold uS;split
 .rename_i x y z f g e;split;.rename_i d;simp[BD,VZ,HW,e,d,Go.Sx.lay,Value.cells,one]
  .rename_i d;simp[BD,VZ,HW,e,d,Value.cells,one]
 .rfl
theorem rE{a b c:Int}{x y z:Value}{ty:TypeId}{g:Bool}:uS h id a b c (.row [x,y,z] ty g false)=if h.b<=id then some (h.e id (.row [iv a,iv b,iv c] ty g false))else none:=rfl
end
def KQ(f:D9):List Value:=[iv f.a,iv (f.c:Int),iv (f.b:Int)]
def HT:List D9->List Value|[]=>[]|f::s=>HT s++KQ f
theorem ZR:∀s,(HT s).length=s.length*3|[]=>rfl|f::s=>by simp[HT,ZR s,KQ];omega
theorem Ix:∀s,(HT s).all one=true|[]=>rfl|f::s=>by rw[HT,iy,Ix s];rfl
def PA(m:Nat)(h:AA)(v:Value)(s:List D9):Prop:=(s=[]/\v=Z0)\/∃a b,v=qS a s.length AT/\h.c a=.row (HT s++b) 259 true false/\m<=a/\a<h.a
theorem PA.a{m:Nat}{h h':AA}{v:Value}{s:List D9}(a:PA m h v s):CU prog h' 257 v=some (iv (s.length:Int)):=by
 rcases a with⟨rfl,rfl⟩|⟨b,c,rfl,_⟩;.exact SA
 .exact SA
theorem PA.b{m:Nat}{h:AA}{v:Value}{f:D9}{s:List D9}(d:PA m h v (f::s)):∃a b,v=qS a (s.length+1) AT/\h.c a=.row (HT s++(KQ f++b)) 259 true false/\m<=a/\a<h.a:=by
 rcases d with⟨c,_⟩|⟨a,b,c,e,g,i⟩;.cases c
 .exact⟨a,b,c,by rw[e,HT,gh],g,i⟩
theorem tM{s:List D9}{f:D9}{ex:List Value}{ty:TypeId}{g ro:Bool}:AI (s.length*3) (.row (HT s++(KQ f++ex)) ty g ro)=some (iv f.a)/\AI (s.length*3+1) (.row (HT s++(KQ f++ex)) ty g ro)=some (iv (f.c:Int))/\AI (s.length*3+2) (.row (HT s++(KQ f++ex)) ty g ro)=some (iv (f.b:Int))/\AX 3 (s.length*3) (.row (HT s++(KQ f++ex)) ty g ro)=some (X0 f.a f.c f.b):=by
 have a:=ZR s;refine⟨?_,?_,?_,?_⟩;.simp only[AI];rw[cz (by omega),show s.length*3-(HT s).length=0 by omega];rfl
 .simp only[AI];rw[cz (by omega),show s.length*3+1-(HT s).length=1 by omega];rfl
 .simp only[AI];rw[cz (by omega),show s.length*3+2-(HT s).length=2 by omega];rfl
 .simp only[AX,GN];rw[List.drop_append_of_le_length (by omega),eC (by omega),dw];simp[KQ]
theorem Wj{s:List D9}{f:D9}{ex:List Value}{x:Nat}:(HT s++(KQ f++ex)).set (s.length*3+2) (iv (x:Int))=HT s++(KQ ⟨f.a,f.c,x⟩++ex):=by have a:=ZR s;rw[List.set_append_right _ _ (by omega),show s.length*3+2-(HT s).length=2 by omega];rfl
theorem sd{s:List D9}{f:D9}{ex:List Value}{x:Nat}:(HT s++(KQ f++ex)).set (s.length*3+1) (iv (x:Int))=HT s++(KQ ⟨f.a,x,f.b⟩++ex):=by have a:=ZR s;rw[List.set_append_right _ _ (by omega),show s.length*3+1-(HT s).length=1 by omega];rfl
theorem se{m:Nat}{h:AA}{v:Value}{s:List D9}{a b c:Int}{f:D9}(l:KQ f=[iv a,iv b,iv c])(B:PA m h v s)(J:h.b<=m)(K:m<=h.a)(L:s.length<2932031007403):∃u n,DR prog (h.d (.row [iv a,iv b,iv c] 259 false false)) 257 v (qS h.a 1 1)=some (u,n)/\PA m n u (f::s)/\n.b=h.b/\h.a<=n.a/\∀i,i<m->n.c i=h.c i:=by
 have o:(h.d (.row [iv a,iv b,iv c] 259 false false)).c h.a=.row [iv a,iv b,iv c] 259 false false:=BJ;have e:∀i,i<h.a->(h.d (.row [iv a,iv b,iv c] 259 false false)).c i=h.c i:=fun i q=>AV q;have g:(h.d (.row [iv a,iv b,iv c] 259 false false)).b=h.b:=rfl;have w:(h.d (.row [iv a,iv b,iv c] 259 false false)).a=h.a+1:=rfl;generalize h.d (.row [iv a,iv b,iv c] 259 false false)=d at*;have j:EL d 3 1 (qS h.a 1 1)=some [iv a,iv b,iv c]:=by simp[EL,o,GN]
 have x:(Value.agg #[iv 0,iv 0,iv 0]).cells.size=3:=rfl;have k:([iv a,iv b,iv c]:List Value).all one=true:=rfl;have y:=ZR s;rcases B with⟨rfl,rfl⟩|⟨r,z,rfl,M,C,A⟩
 .refine⟨qS d.a 1 AT,d.d (.row [iv a,iv b,iv c] 259 true false),?_,.inr ⟨d.a,[],rfl,?_,by omega,by show d.a<d.a+1;omega⟩,g,by show h.a<=d.a+1;omega,fun i q=>by rw[AV,e i (by omega)]⟩
  .have D:(0:Nat)≠AT:=by unfold AT;omega
   have E:EL d 3 0 (Z0)=some []:=rfl;simp only[DR,ig,VZ,Cb,dW,x,j,k,D,E,show(0<3)=True by simp,ee,fg,ao,ai,bi,af,ab,ff,show(1<=0)=False by simp,bg,dw,Nat.one_mul,show(24<=140737488355328)=True by simp,show(1<=140737488355328)=True by simp]
  .rw[BJ,dm,HT,l];rfl
 .have F:(s.length+1)*24<=140737488355328:=by omega
  have G:s.length+1<=140737488355328:=by omega
  have H:d.b<=r:=by omega
  have I:s.length<=AT:=by unfold AT;omega
  have t:d.c r=.row (HT s++z) 259 true false:=by grind
  have p:GN (HT s++z) 0 (s.length*3)=some (HT s):=by
   simp only[GN,gn];grind
  refine⟨qS d.a (s.length+1) AT,(d.e r .dead).d (.row (HT s++[iv a,iv b,iv c]) 259 true false),?_,.inr ⟨d.a,[],rfl,?_,by omega,by show d.a<d.a+1;omega⟩,g,by show h.a<=d.a+1;omega,fun i q=>?_⟩;.simp only[DR,ig,VZ,Cb,dW,x,j,k,F,G,H,I,t,p,Ix,ee,ao,fg,show(0<3)=True by simp,ai,Nat.one_ne_zero,bi]
  .rw[dm,HT,l];exact BJ
  .rw[AV (by show i<d.a;omega),AP (by omega) (by omega),e i (by omega)]
structure JS where
 d:ByteArray
 a:Int
 c:Int
 b:Int
structure AS where
 a:List AF
 b:List (ByteArray × Bool)
 f:List ByteArray
 g:List ByteArray
 d:List Int
 h:List Int
 c:Int
 e:List JS
def I8(l:List JS)(x:ByteArray):Option JS:=l.find? fun t=>x==t.d
def CI(s:AS)(k:Int):Nat:=if k=1 then s.b.length else if k=2 then s.f.length else if k=3 then s.g.length else s.d.length
def JY(k:Int):Int:=if k=1 then 16 else if k=2 then 16 else if k=3 then 4 else 64
def JF(l:List AF)(at_:Nat)(n:Int):List AF:=match l[at_]? with|some x=>l.set at_ {x with n:=n}|none=>l
def HE(at_:Nat)(end_:Int)(x:AF)(s:AS):AS:=let k:=CR x.a
 { a:=JF s.a at_ (CI s k)
   b:=if k=1 then s.b++[(x.c,x.a==3)]else s.b
   f:=if k=2 then s.f++[x.c]else s.f
   g:=if k=3 then s.g++[x.c]else s.g
   d:=if k=4 then s.d++[(at_:Int)+1]else s.d
   h:=if k=1 then s.h++[-1]else s.h
   c:=s.c
   e:=s.e++[⟨x.c,k,CI s k,end_⟩]}
def FV(x:AF)(s:AS):Int:=if CR x.a=0 then 0 else if(I8 s.e x.c).isSome=true then 31 else if(CI s (CR x.a):Int)=JY (CR x.a)then 3 else 0
def CQ(at_:Nat)(end_:Int)(x:AF)(s:AS):AS:=if CR x.a=0 then s else HE at_ end_ x s
def EI(at_:Nat)(x:AF)(s:AS):Int:=if FN x.a=0 then 0 else match I8 s.e x.c with|none=>32|some t=>if t.b>at_ then 32 else if t.a≠FN x.a then 33 else 0
def C2(at_:Nat)(x:AF)(s:AS):AS:=if FN x.a=0 then s else match I8 s.e x.c with|none=>s|some t=>{s with a:=JF s.a at_ t.c}
def EY(x:AF)(s:AS):Int:=if E9 x.a=false then 0 else if x.a=10 then(if s.c>=0 then 31 else 0)else match s.h[x.n.toNat]? with|some v=>if v>=0 then 31 else 0|none=>0
def EZ(at_:Nat)(x:AF)(s:AS):AS:=if E9 x.a=false then s else if x.a=10 then{s with c:=(at_:Int)+1}else{s with h:=s.h.set x.n.toNat ((at_:Int)+1)}
def EH(l:List (ByteArray×Bool)):List Value:=l.flatMap fun q=>[.string q.1,.bool q.2]
def DN(l:List ByteArray):List Value:=l.map (.string .)
def N5(t:JS):Value×Value:=(.string t.d,.agg #[iv t.a,iv t.c,iv t.b])
theorem RF:∀l,(EH l).length=l.length*2|[]=>rfl|q::l=>by have:=RF l;simp only[EH,dh,ch,bx,du]at*;omega
theorem ZU:∀l,(EH l).all one=true|[]=>rfl|q::l=>by have:=ZU l;assumption
theorem VN(l:List ByteArray):(DN l).all one=true:=by simp[DN,one]
theorem Z8(l:List ByteArray):(DN l).length=l.length:=by simp[DN]
theorem MT:∀l:List AF,(l.flatMap AQ).length=l.length*5|[]=>rfl|r::l=>by have:=MT l;rw[dh,ch,this];simp only[AQ,bx,du];omega
theorem mY:∀(l:List AF)(k:Nat),(l.flatMap AQ).drop (k*5)=(l.drop k).flatMap AQ
 |l,0=>by simp|[],k+1=>by simp|r::l,k+1=>by
  rw[dh,List.drop_succ_cons,<-mY l k,show(k+1)*5=5+k*5 by omega,<-jl];rfl
theorem U_{l:List AF}{k:Nat}{r:AF}(h:l[k]?=some r):((l.flatMap AQ).drop (k*5)).take 5=AQ r:=by obtain⟨a,rfl⟩:=ae.1 h;rw[mY,cd a,dh];rfl
theorem Ac{h:AA}{r:Nat}{l:List AF}{c:Nat}(a:h.c r=.row (l.flatMap AQ) 125 true false)(b:r<h.a):A8 h (qS r l.length c) l:=⟨_,_,rfl,.inr ⟨r,0,_,_,_,_,rfl,a,b,fun k x d=>by rw[ab];exact U_ d⟩⟩
theorem aW{l:List AF}{k:Nat}{x:AF}{n:Int}(b:l[k]?=some x):(l.flatMap AQ).set (k*5+3) (iv n)=(JF l k n).flatMap AQ:=by
 unfold JF;rw[b];obtain⟨c,rfl⟩:=ae.1 b;simp only;clear b;induction l generalizing k with
 |nil=>simp|cons a l d=>cases k with
  |zero=>rfl|succ k=>
   simp only[bx,Nat.add_lt_add_iff_right]at c;have:=d c;rw[dh,gp,dh,List.getElem_cons_succ,<-this];rw[List.set_append_right _ _ (by simp[AQ];omega)];congr 2;simp only[AQ,bx,du];omega
theorem TM{l:List AF}{k:Nat}{n:Int}:(JF l k n).length=l.length:=by unfold JF;grind
def GV(h:AA)(lo:Nat)(tag:Nat->Nat)(j:Nat)(v:Value)(n:Nat)(cs:List Value)(ty:TypeId):Prop:=(n=0/\cs=[]/\v=Z0)\/∃a b,v=qS a n AT/\h.c a=.row (cs++b) ty true false/\lo<=a/\a<h.a/\tag a=j
theorem GV.a{h h':AA}{lo:Nat}{tag tag':Nat->Nat}{j:Nat}{v:Value}{n:Nat}{cs:List Value}{ty:TypeId}(b:GV h lo tag j v n cs ty)(f:h.a<=h'.a)(g:∀i,i<h.a->tag' i=tag i)(k:∀i,lo<=i->i<h.a->tag i=j->h'.c i=h.c i):GV h' lo tag' j v n cs ty:=by
 rcases b with a|⟨c,d,a,l,e,m,o⟩;.exact .inl a
 .exact .inr ⟨c,d,a,by grind,e,by omega,by grind⟩
theorem GV.c{h:AA}{lo:Nat}{tag tag':Nat->Nat}{j:Nat}{v:Value}{n:Nat}{cs:List Value}{ty:TypeId}(b:GV h lo tag j v n cs ty)(k:∀i,i<h.a->tag' i=tag i\/tag i≠j):GV h lo tag' j v n cs ty:=by
 rcases b with a|⟨c,d,a,e,f,g,l⟩;.exact .inl a
 .refine .inr ⟨c,d,a,e,f,g,?_⟩;grind
theorem YE{h:AA}{lo:Nat}{tag:Nat->Nat}{j:Nat}{ty:TypeId}:GV h lo tag j (Z0) 0 [] ty:=.inl ⟨rfl,rfl,rfl⟩
theorem UW{t et:TypeId}{w bb:Nat}{z:Value}(G:prog.underlying t=some (.slice et))(a:BN prog et=some w)(b:HL prog et=some bb)(d:DK prog et=some z)(H:z.cells.size=w)(I:0<w)(u:bb<=48){lo:Nat}{h:AA}{tag:Nat->Nat}{j:Nat}{v:Value}{n:Nat}{cs xs:List Value}{c:Nat}(M:GV h lo tag j v n cs et)(N:cs.length=n*w)(x:cs.all one=true)(y:xs.length=c*w)(f:xs.all one=true)(hc:0<c)(O:c<2)(P:n<2932031007402){src:Nat}{g ro:Bool}{sc:Nat}(k:h.c src=.row xs et g ro)(Q:src<h.a)(R:h.b<=lo)(S:¬(lo<=src/\tag src=j)):∃l o,DR prog h t v (qS src c sc)=some (l,o)/\(GV o lo (fun i=>if i=h.a then j else tag i) j l (n+c) (cs++xs) et\/¬lo<=h.a)/\o.b=h.b/\o.a=h.a+1/\one l=true/\l.cells=#[l]/\∀i,i<h.a->¬(lo<=i/\tag i=j)->o.c i=h.c i:=by
 have p:EL h w c (qS src c sc)=some xs:=by
  have A:c≠0:=by omega
  simp[EL,k,GN,A,y];grind
 have q:∀m,m<2932031007403->m*bb<=140737488355328:=fun m hm=>by have h1:=Nat.mul_le_mul_left m u;omega
 rcases M with⟨rfl,rfl,rfl⟩|⟨J,T,rfl,U,V,K,L⟩
 .refine⟨qS h.a c AT,h.d (.row xs et true false),?_,?_,rfl,rfl,rfl,rfl,fun i B _=>AV B⟩
  .have r:(0:Nat)≠AT:=by unfold AT;omega
   have W:EL h w 0 (Z0)=some []:=by simp[EL]
   have C:¬(c<=0):=by omega
   have D:=q c (by omega);have E:c<=140737488355328:=by omega
   simp only[DR,G,a,b,d,H,p,f,r,W,I,C,D,E,ee,fg,ao,ai,bi,af,ab,ff,bg,dw]
  .by_cases X:lo<=h.a
   .refine .inl (.inr ⟨h.a,[],by simp,?_,X,by show h.a<h.a+1;omega,by simp⟩);rw[BJ,dm,dw]
   omega
 .have C:(n+c)*bb<=140737488355328:=q _ (by omega);have D:n+c<=140737488355328:=by omega
  have E:h.b<=J:=by omega
  have Y:n<=AT:=by unfold AT;omega
  have Z:c≠0:=by omega
  have s:GN (cs++T) 0 (n*w)=some cs:=by simp only[GN,gn];grind
  refine⟨qS h.a (n+c) AT,(h.e J .dead).d (.row (cs++xs) et true false),?_,.inl (.inr ⟨h.a,[],rfl,?_,by omega,by show h.a<h.a+1;omega,by simp⟩),rfl,rfl,rfl,rfl,fun i B F=>?_⟩;.simp only[DR,G,a,b,d,H,p,f,C,D,E,Y,U,s,x,ee,ao,fg,I,ai,Z,bi]
  .rw[dm];exact BJ
  .rw[AV (by exact B),AP (by omega) (fun e=>F (by grind))]
structure O4 (h:AA) (lo:Nat) (tag:Nat->Nat) (r n:Nat) (vq vv vt vu vo:Value) (s:AS):Prop where
 a:h.c r=.row (s.a.flatMap AQ) 125 true false
 c:s.a.length=n
 d:tag r=1
 b:lo<=r/\r<h.a
 q:GV h lo tag 2 vq s.b.length (EH s.b) 158
 v:GV h lo tag 3 vv s.f.length (DN s.f) 9
 t:GV h lo tag 4 vt s.g.length (DN s.g) 9
 u:GV h lo tag 5 vu s.d.length (ints s.d) 3
 o:GV h lo tag 6 vo s.h.length (ints s.h) 3
theorem O4.e{h h':AA}{lo:Nat}{tag tag':Nat->Nat}{r n:Nat}{vq vv vt vu vo:Value}{s:AS}(a:O4 h lo tag r n vq vv vt vu vo s)(f:h.a<=h'.a)(d:∀i,i<h.a->tag' i=tag i)(e:∀i,lo<=i->i<h.a->1<=tag i->tag i<=6->h'.c i=h.c i):O4 h' lo tag' r n vq vv vt vu vo s where
 a:=by rw[e r a.b.1 a.b.2 (by rw[a.d];omega) (by rw[a.d];omega)];exact a.a
 c:=a.c
 d:=by rw[d r a.b.2];exact a.d
 b:=⟨a.b.1,by have:=a.b.2;omega⟩
 q:=a.q.a f d fun i b c g=>e i b c (by omega) (by omega)
 v:=a.v.a f d fun i b c g=>e i b c (by omega) (by omega)
 t:=a.t.a f d fun i b c g=>e i b c (by omega) (by omega)
 u:=a.u.a f d fun i b c g=>e i b c (by omega) (by omega)
 o:=a.o.a f d fun i b c g=>e i b c (by omega) (by omega)
theorem O4.h{h:AA}{lo:Nat}{tag:Nat->Nat}{r n:Nat}{vq vv vt vu vo:Value}{s:AS}(a:O4 h lo tag r n vq vv vt vu vo s):A8 h (qS r n AT) s.a:=by have:=Ac (c:=AT) a.a a.b.2;rw[a.c]at this;exact this
theorem rM:∀(l:List JS)(x:ByteArray),NT (.string x) (l.map N5)=some ((I8 l x).map fun t=>.agg #[iv t.a,iv t.c,iv t.b])
 |[],x=>rfl|t::l,x=>by
  simp only[dp,NT,N5,M_,I8,List.find?_cons];cases a:(x==t.d)with
  |true=>rfl|false=>exact rM l x
theorem Hn:∀(l:List JS)(x:ByteArray)(v:Value),I8 l x=none->JU (.string x) v (l.map N5)=l.map N5++[(.string x,v)]|[],x,v,_=>rfl|t::l,x,v,a=>by simp only[I8,List.find?_cons]at a;cases b:(x==t.d)with|true=>grind|false=>rw[b]at a;have:=Hn l x v a;simp only[dp,N5,JU,M_,b,aj,aV,bi,jn];grind
def jP(a:List (Value×Value)):Prop:=∀p∈a,∃j:Int,p.1=iv j
theorem Eh:∀(b:List (Value×Value))(k a:Int)(v:Value),jP b->NT (iv k) (JU (iv a) v b)=if k=a then some (some v)else NT (iv k) b
 |[],k,a,v,_=>by
  simp only[JU,NT,M_,ai];grind|(x,u)::b,k,a,v,d=>by
  obtain⟨j,e⟩:=d (x,u) (by simp);simp only at e;subst e;have g:=Eh b k a v fun p f=>d p (by simp[f]);simp only[JU,M_,ai,aj,ak];by_cases c:a=j;.subst c;rw[ag rfl];simp only[NT,M_,ai];grind
  .rw[ad c];simp only[NT,M_,ai];grind
theorem Mn:∀(b:List (Value×Value))(k:Int)(v:Value),jP b->jP (JU (iv k) v b)
 |[],k,v,_=>by intro p a;simp[JU]at a;grind|(x,u)::b,k,v,c=>by
  have d:=Mn b k v fun p a=>c p (by simp[a]);intro p a;simp only[JU]at a;split at a
  .simp only[fv]at a;rcases a with rfl|a;.simp
   .exact c p (by simp[a])
  .simp only[fv]at a;rcases a with rfl|a;.exact c _ (by simp)
   .exact d p a
def aF(a:List (Value×Value))(s:AS):Prop:=jP a/\∀k:Int,1<=k->k<=4->NT (iv k) a=some (if CI s k=0 then none else some (iv (CI s k:Int)))
theorem cO:BN prog 22=some 1:=by kernel_rfl
theorem ZN:BN prog 23=some 1:=by kernel_rfl
theorem SQ:BN prog 24=some 1:=by kernel_rfl
theorem FW:BN prog 25=some 1:=by kernel_rfl
theorem EQ:BN prog 27=some 8:=by kernel_rfl
theorem PS:BN prog 158=some 2:=by kernel_rfl
theorem sz79:BN prog 119=some 1:=by kernel_rfl
theorem Wn:BN prog 120=some 1:=by kernel_rfl
theorem sz81:BN prog 121=some 1:=by kernel_rfl
theorem Xi:BN prog 123=some 10:=by kernel_rfl
theorem On:BN prog 200=some 2:=by kernel_rfl
theorem Be:BN prog 202=some 3:=by kernel_rfl
theorem sf:HC prog 22=some false:=by kernel_rfl
theorem Zr:HC prog 23=some false:=by kernel_rfl
theorem sh:HC prog 24=some false:=by kernel_rfl
theorem si:HC prog 25=some false:=by kernel_rfl
theorem sj:HC prog 27=some true:=by kernel_rfl
theorem sm:HC prog 119=some false:=by kernel_rfl
theorem ss:HC prog 120=some false:=by kernel_rfl
theorem sx:HC prog 121=some false:=by kernel_rfl
theorem sy:HC prog 200=some true:=by kernel_rfl
theorem SE:HL prog 9=some 16:=by kernel_rfl
theorem WO:HL prog 125=some 48:=by kernel_rfl
theorem dN:HL prog 158=some 24:=by kernel_rfl
theorem RJ:DK prog 9=some (.string ByteArray.empty):=by kernel_rfl
theorem SU:DK prog 158=some (.agg #[.string ByteArray.empty,.bool false]):=by kernel_rfl
theorem ZG:DK prog 202=some (.agg #[iv 0,iv 0,iv 0]):=by kernel_rfl
theorem sE:DK prog 200=some (.agg #[iv 0,iv 0]):=by kernel_rfl
theorem sF:DK prog 27=some (.agg #[.string ByteArray.empty,Z0,Z0,Z0,Z0,Z0,Z0,iv 0]):=by kernel_rfl
section
variable {h:AA} {id off:Nat}
theorem CJ:EP prog h 22 (qP id off)=AI off (h.c id):=JL sf
theorem DZ:EP prog h 23 (qP id off)=AI off (h.c id):=JL Zr
theorem I7:EP prog h 24 (qP id off)=AI off (h.c id):=JL sh
theorem BH:EP prog h 25 (qP id off)=AI off (h.c id):=JL si
theorem cW:EP prog h 119 (qP id off)=AI off (h.c id):=JL sm
theorem uZ:EP prog h 120 (qP id off)=AI off (h.c id):=JL ss
theorem Eo:EP prog h 121 (qP id off)=AI off (h.c id):=JL sx
theorem C7:EP prog h 27 (qP id off)=AX 8 off (h.c id):=NF sj EQ
theorem Sb:EP prog h 200 (qP id off)=AX 2 off (h.c id):=NF sy On
theorem M5:BC prog 123 (qP id off) 0=some (qP id off):=by simp[BC,underlying123,EQ,CB]
theorem qY:BC prog 123 (qP id off) 1=some (qP id (off+8)):=by simp[BC,underlying123,Wn,CB]
theorem Sh:BC prog 123 (qP id off) 2=some (qP id (off+9)):=by simp[BC,underlying123,sz81,CB]
theorem MY:BC prog 27 (qP id off) 0=some (qP id off):=by simp[BC,bG,KN,CB]
theorem CK:BC prog 27 (qP id off) 1=some (qP id (off+1)):=by simp[BC,bG,cO,CB]
theorem DY:BC prog 27 (qP id off) 2=some (qP id (off+2)):=by simp[BC,bG,ZN,CB]
theorem KS:BC prog 27 (qP id off) 3=some (qP id (off+3)):=by simp[BC,bG,SQ,CB]
theorem KG:BC prog 27 (qP id off) 4=some (qP id (off+4)):=by simp[BC,bG,SQ,CB]
theorem GF:BC prog 27 (qP id off) 5=some (qP id (off+5)):=by simp[BC,bG,FW,CB]
theorem I_:BC prog 27 (qP id off) 6=some (qP id (off+6)):=by simp[BC,bG,FW,CB]
theorem JV:BC prog 27 (qP id off) 7=some (qP id (off+7)):=by simp[BC,bG,B_,CB]
theorem Ic:BC prog 202 (qP id off) 0=some (qP id off):=by simp[BC,underlying202,On,CB]
theorem rT:BC prog 202 (qP id off) 1=some (qP id (off+2)):=by simp[BC,underlying202,B_,CB]
theorem Gv:BC prog 200 (qP id off) 1=some (qP id (off+1)):=by simp[BC,underlying200,B_,CB]
theorem KR:BC prog 158 (qP id off) 1=some (qP id (off+1)):=by simp[BC,fo,MZ,CB]
theorem NE{n c i:Nat}(hi:i<n):BW prog 22 (qS id n c) (iv (i:Int))=some (.pointer (some ⟨id,i*5,none⟩)):=by simp only[BW,bq,GC,CB];grind
theorem EO{t:TypeId}{v:Value}{cs:List Value}{ty:TypeId}{g:Bool}(b:BN prog t=some 1)(c:v.cells=#[v])(e:one v=true)(d:h.c id=.row cs ty g false)(hi:off<cs.length)(f:h.b<=id):BD prog h t (qP id off) v=some (h.e id (.row (cs.set off v) ty g false)):=by
 have a:(some 1:Option Nat)=some (#[v]:Array Value).size:=rfl;simp only[BD,c,b,HW,d];rw[ag a,ag (by grind),qT hi]
end
theorem jM:HN prog (match prog.underlying 158 with|some (.struct a)=>a.toList|_=>[])=some [(0,1),(1,1)]:=by kernel_rfl
theorem sP:HN prog (match prog.underlying 200 with|some (.struct a)=>a.toList|_=>[])=some [(0,1),(1,1)]:=by kernel_rfl
theorem td:HN prog (match prog.underlying 202 with|some (.struct a)=>a.toList|_=>[])=some [(0,2),(2,1)]:=by kernel_rfl
theorem zD{a b:Value}:flat (.agg #[a,b])=(B7 a&&(B7 b&&true)):=by simp[flat]
theorem Pb{a b c:Value}:flat (.agg #[a,b,c])=(B7 a&&(B7 b&&(B7 c&&true))):=by simp[flat]
theorem Kv{nm:ByteArray}{g:Bool}:CL prog 158 [(0,.string nm),(1,.bool g)]=some (.agg #[.string nm,.bool g]):=by have h:=jM;rw[fo]at h;simp only at h;simp only[CL,SU,zD,QZ,Oc,ao,ai,fo,h];rfl
theorem wV{a b:Int}:CL prog 200 [(0,iv a),(1,iv b)]=some (.agg #[iv a,iv b]):=by have h:=sP;rw[underlying200]at h;simp only at h;simp only[CL,sE,zD,NO,ao,ai,underlying200,h];rfl
theorem Zq{a b c:Int}:CL prog 202 [(0,.agg #[iv a,iv b]),(1,iv c)]=some (.agg #[iv a,iv b,iv c]):=by have h:=td;rw[underlying202]at h;simp only at h;simp only[CL,ZG,Pb,NO,ao,ai,underlying202,h];rfl
section
variable {h:AA}
theorem xX{nm:ByteArray}{g:Bool}:FP prog h 23 1 [(0,.agg #[.string nm,.bool g])]=some (qS h.a 1 1,h.d (.row [.string nm,.bool g] 158 false false)):=by simp[FP,ci,PS,SU,flat,B7,GW,I6,CF,Go.Sx.lay]
theorem ZZ{nm:ByteArray}:FP prog h 24 1 [(0,.string nm)]=some (qS h.a 1 1,h.d (.row [.string nm] 9 false false)):=by have a:∀x,(Value.string x).cells=#[.string x]:=fun _=>rfl;simp[FP,cN,KN,RJ,flat,B7,a,I6,CF,Go.Sx.lay]
theorem KE{x:Int}:FP prog h 25 1 [(0,iv x)]=some (qS h.a 1 1,h.d (.row [iv x] 3 false false)):=by have a:∀x:Int,(iv x).cells=#[iv x]:=fun _=>rfl;simp[FP,au,B_,GD,flat,B7,a,I6,CF,Go.Sx.lay]
theorem Ez{k:Nat}{l:List JS}{x:ByteArray}(a:h.c k=.map (l.map N5)):VK prog h 120 (.map (some k)) (.string x) true=some (match I8 l x with
  |some t=>.tuple #[.agg #[iv t.a,iv t.c,iv t.b],.bool true]|none=>.tuple #[.agg #[iv 0,iv 0,iv 0],.bool false]):=by
 have b:QX prog 9 (.string x)=true:=by simp[QX,fh]
 simp only[VK,underlying120,b,a,rM,ai];cases I8 l x with
 |some t=>rfl|none=>simp only[jq,ZG,Pb,NO,ao,ai]
theorem Vl{k:Nat}{l:List JS}{x:ByteArray}{a b c:Int}(e:h.c k=.map (l.map N5))(f:I8 l x=none)(d:h.b<=k):P7 prog h 120 (.map (some k)) (.string x) (.agg #[iv a,iv b,iv c])=some (h.e k (.map ((l++[(⟨x,a,b,c⟩:JS)]).map N5))):=by
 have g:QX prog 9 (.string x)=true:=by simp[QX,fh]
 simp only[P7,underlying120,g,e,rM,bh d,ao,ai,Hn _ _ _ f,fw,dp,dz,N5]
theorem tf{c:Nat}{a:List (Value×Value)}{s:AS}{k:Int}(d:h.c c=.map a)(e:aF a s)(h1:1<=k)(f:k<=4):VK prog h 121 (.map (some c)) (iv k) false=some (iv (CI s k:Int)):=by
 have g:QX prog 3 (iv k)=true:=by simp[QX,dc]
 simp only[VK,underlying121,g,d,e.2 k h1 f,ai];by_cases b:CI s k=0
 .rw[ag b,b];simp only[GD,UM,ai,aV,bi];rfl
 grind
theorem ti{c:Nat}{a:List (Value×Value)}{s:AS}{k:Int}{v:Value}(d:h.c c=.map a)(e:aF a s)(h1:1<=k)(f:k<=4)(b:h.b<=c):P7 prog h 121 (.map (some c)) (iv k) v=some (h.e c (.map (JU (iv k) v a))):=by
 have g:QX prog 3 (iv k)=true:=by simp[QX,dc]
 simp only[P7,underlying121,g,d,e.2 k h1 f,bh b,ao,ai]
end
structure DD (h:AA) (lo m k c e r n:Nat) (nm:ByteArray) (E:List Int) (tag:Nat->Nat) (vq vv vt vu vo:Value) (es:List (Value × Value)) (s:AS):Prop where
 b:h.c m=.row [.string nm,qS r n AT,vq,vv,vt,vu,vo,iv s.c,.map (some k),.map (some c)] 123 false false
 a:O4 h lo tag r n vq vv vt vu vo s
 d:h.c k=.map (s.e.map N5)
 j:h.c c=.map es
 g:h.c e=.row (ints E) 3 false false
 i:tag m=0
 x:tag k=8
 w:tag c=9
 z:tag e=10
 f:lo<=m/\m<h.a
 l:lo<=k/\k<h.a
 q:lo<=c/\c<h.a
 v:lo<=e/\e<h.a
 t:h.b<=lo
section
variable {h h':AA} {lo m k c e r n:Nat} {nm:ByteArray} {E:List Int} {tag tag':Nat->Nat} {vq vv vt vu vo:Value} {es:List (Value × Value)} {s s':AS}
theorem VQ{a i:Nat}(b:lo<=a)(d:tag a<=10)(hi:i<lo\/(i<h.a/\11<=tag i)):a≠i:=by grind
theorem IS{a b:Nat}(h:tag a≠tag b):a≠b:=fun e=>h (by rw[e])
theorem DD.o(a:DD h lo m k c e r n nm E tag vq vv vt vu vo es s)(f:h.a<=h'.a)(g:h'.b=h.b)(b:∀i,i<h.a->tag' i=tag i)(d:∀i,lo<=i->i<h.a->h'.c i=h.c i):DD h' lo m k c e r n nm E tag' vq vv vt vu vo es s where
 b:=by rw[d m a.f.1 a.f.2];exact a.b
 a:=a.a.e f b fun i j l _ _=>d i j l
 d:=by rw[d k a.l.1 a.l.2];exact a.d
 j:=by rw[d c a.q.1 a.q.2];exact a.j
 g:=by rw[d e a.v.1 a.v.2];exact a.g
 i:=by rw[b m a.f.2];exact a.i
 x:=by rw[b k a.l.2];exact a.x
 w:=by rw[b c a.q.2];exact a.w
 z:=by rw[b e a.v.2];exact a.z
 f:=⟨a.f.1,by have:=a.f.2;omega⟩
 l:=⟨a.l.1,by have:=a.l.2;omega⟩
 q:=⟨a.q.1,by have:=a.q.2;omega⟩
 v:=⟨a.v.1,by have:=a.v.2;omega⟩
 t:=by rw[g];exact a.t
theorem DD.u(a:DD h lo m k c e r n nm E tag vq vv vt vu vo es s){o o':BO}:DD ((h.d o').e h.a o) lo m k c e r n nm E tag vq vv vt vu vo es s:=a.o (by show h.a<=h.a+1;omega) rfl (fun _ _=>rfl) fun i _ b=>by rw[AP (by show h.a<h.a+1;omega) (by omega),AV b]
theorem DD.J(a:DD h lo m k c e r n nm E tag vq vv vt vu vo es s)(b:List (Value×Value)):DD (h.e c (.map b)) lo m k c e r n nm E tag vq vv vt vu vo b s where
 b:=by rw[AP a.q.2 (IS (tag:=tag) (by rw[a.i,a.w];decide))];exact a.b
 a:=a.a.e (af _) (fun _ _=>rfl) fun i _ _ d f=>AP a.q.2 (IS (tag:=tag) (by rw[a.w];omega))
 d:=by rw[AP a.q.2 (IS (tag:=tag) (by rw[a.x,a.w];decide))];exact a.d
 j:=BE rfl a.q.2
 g:=by rw[AP a.q.2 (IS (tag:=tag) (by rw[a.z,a.w];decide))];exact a.g
 i:=a.i
 x:=a.x
 w:=a.w
 z:=a.z
 f:=a.f
 l:=a.l
 q:=a.q
 v:=a.v
 t:=a.t
theorem DD.H(a:DD h lo m k c e r n nm E tag vq vv vt vu vo es s)(l:List JS):DD (h.e k (.map (l.map N5))) lo m k c e r n nm E tag vq vv vt vu vo es {s with e:=l}where
 b:=by rw[AP a.l.2 (IS (tag:=tag) (by rw[a.i,a.x];decide))];exact a.b
 a:=by have:=a.a.e (h':=h.e k (.map (l.map N5))) (af _) (fun _ _=>rfl) fun i _ _ b d=>AP a.l.2 (IS (tag:=tag) (by rw[a.x];omega));exact⟨this.a,this.c,this.d,this.b,this.q,this.v,this.t,this.u,this.o⟩
 d:=BE rfl a.l.2
 j:=by rw[AP a.l.2 (IS (tag:=tag) (by rw[a.w,a.x];decide))];exact a.j
 g:=by rw[AP a.l.2 (IS (tag:=tag) (by rw[a.z,a.x];decide))];exact a.g
 i:=a.i
 x:=a.x
 w:=a.w
 z:=a.z
 f:=a.f
 l:=a.l
 q:=a.q
 v:=a.v
 t:=a.t
theorem DD.p(a:DD h lo m k c e r n nm E tag vq vv vt vu vo es s){b d f g j:Value}(v:h.a<=h'.a)(t:h'.b=h.b)(l:∀i,i<h.a->tag' i=tag i)(o:∀i,lo<=i->i<h.a->8<=tag i->h'.c i=h.c i)(u:h'.c m=.row [.string nm,qS r n AT,b,d,f,g,j,iv s'.c,.map (some k),.map (some c)] 123 false false)(p:O4 h' lo tag' r n b d f g j s')(q:s'.e=s.e):DD h' lo m k c e r n nm E tag' b d f g j es s' where
 b:=u
 a:=p
 d:=by rw[o k a.l.1 a.l.2 (by rw[a.x];omega),q];exact a.d
 j:=by rw[o c a.q.1 a.q.2 (by rw[a.w];omega)];exact a.j
 g:=by rw[o e a.v.1 a.v.2 (by rw[a.z];omega)];exact a.g
 i:=by rw[l m a.f.2];exact a.i
 x:=by rw[l k a.l.2];exact a.x
 w:=by rw[l c a.q.2];exact a.w
 z:=by rw[l e a.v.2];exact a.z
 f:=⟨a.f.1,by have:=a.f.2;omega⟩
 l:=⟨a.l.1,by have:=a.l.2;omega⟩
 q:=⟨a.q.1,by have:=a.q.2;omega⟩
 v:=⟨a.v.1,by have:=a.v.2;omega⟩
 t:=by rw[t];exact a.t
theorem O4.g(a:O4 h lo tag r n vq vv vt vu vo s){l:List AF}(f:l.length=s.a.length):O4 (h.e r (.row (l.flatMap AQ) 125 true false)) lo tag r n vq vv vt vu vo {s with a:=l}:=have d:∀i j,2<=j->tag i=j->(h.e r (.row (l.flatMap AQ) 125 true false)).c i=h.c i:=fun i j g o=>AP a.b.2 (IS (tag:=tag) (by rw[a.d];omega))
 ⟨BE rfl a.b.2,f.trans a.c,a.d,a.b,a.q.a (af _) (fun _ _=>rfl) fun i _ _ b=>d i 2 (by omega) b,a.v.a (af _) (fun _ _=>rfl) fun i _ _ b=>d i 3 (by omega) b,a.t.a (af _) (fun _ _=>rfl) fun i _ _ b=>d i 4 (by omega) b,a.u.a (af _) (fun _ _=>rfl) fun i _ _ b=>d i 5 (by omega) b,a.o.a (af _) (fun _ _=>rfl) fun i _ _ b=>d i 6 (by omega) b⟩
theorem DD.B(a:DD h lo m k c e r n nm E tag vq vv vt vu vo es s){l:List AF}(b:l.length=s.a.length):DD (h.e r (.row (l.flatMap AQ) 125 true false)) lo m k c e r n nm E tag vq vv vt vu vo es {s with a:=l}:=a.p (af _) rfl (fun _ _=>rfl) (fun i _ _ d=>AP a.a.b.2 (IS (tag:=tag) (by rw[a.a.d];omega))) (by rw[AP a.a.b.2 (IS (tag:=tag) (by rw[a.a.d,a.i];decide))];exact a.b) (a.a.g b) rfl
theorem DD.L(a:DD h lo m k c e r n nm E tag vq vv vt vu vo es s):AI 1 (h.c m)=some (qS r n AT):=by rw[a.b];rfl
theorem DD.T(a:DD h lo m k c e r n nm E tag vq vv vt vu vo es s):AI 2 (h.c m)=some vq:=by rw[a.b];rfl
theorem DD.S(a:DD h lo m k c e r n nm E tag vq vv vt vu vo es s):AI 3 (h.c m)=some vv:=by rw[a.b];rfl
theorem DD.U(a:DD h lo m k c e r n nm E tag vq vv vt vu vo es s):AI 4 (h.c m)=some vt:=by rw[a.b];rfl
theorem DD.P(a:DD h lo m k c e r n nm E tag vq vv vt vu vo es s):AI 5 (h.c m)=some vu:=by rw[a.b];rfl
theorem DD.O(a:DD h lo m k c e r n nm E tag vq vv vt vu vo es s):AI 6 (h.c m)=some vo:=by rw[a.b];rfl
theorem DD.Q(a:DD h lo m k c e r n nm E tag vq vv vt vu vo es s):AI 7 (h.c m)=some (iv s.c):=by rw[a.b];rfl
theorem DD.M(a:DD h lo m k c e r n nm E tag vq vv vt vu vo es s):AI 8 (h.c m)=some (.map (some k)):=by rw[a.b];rfl
theorem DD.R(a:DD h lo m k c e r n nm E tag vq vv vt vu vo es s):AI 9 (h.c m)=some (.map (some c)):=by rw[a.b];rfl
theorem DD.y(a:DD h lo m k c e r n nm E tag vq vv vt vu vo es s){at_:Nat}{x:AF}(b:s.a[at_]?=some x):at_<n/\AI (at_*5) (h.c r)=some (iv x.a)/\AI (at_*5+1) (h.c r)=some (.string x.c)/\AI (at_*5+2) (h.c r)=some (iv x.d)/\AI (at_*5+3) (h.c r)=some (iv x.n)/\AI (at_*5+4) (h.c r)=some (iv x.b)/\AX 5 (at_*5) (h.c r)=some (.agg #[iv x.a,.string x.c,iv x.d,iv x.n,iv x.b]):=by
 have d:at_<n:=by rw[<-a.a.c];grind
 obtain⟨i,q,f,g,j,l,o,p,t,u⟩:=a.a.h.b b;rw[NE d]at f;grind
end
section
variable {h:AA} {lo m k c e r n:Nat} {nm:ByteArray} {E:List Int} {tag:Nat->Nat} {vq vv vt vu vo:Value} {es:List (Value × Value)} {s:AS}
theorem tj{l:List (ByteArray×Bool)}{x:ByteArray×Bool}:EH l++[.string x.1,.bool x.2]=EH (l++[x]):=by simp[EH]
theorem Cu{l:List ByteArray}{x:ByteArray}:DN l++[.string x]=DN (l++[x]):=by simp[DN]
theorem Nk{l:List Int}{x:Int}:ints l++[iv x]=ints (l++[x]):=by simp[ints]
theorem DD.K(a:DD h lo m k c e r n nm E tag vq vv vt vu vo es s)(x:(ByteArray×Bool))(V:s.b.length<10000000):∃d b,DR prog (h.d (.row [.string x.1,.bool x.2] 158 false false)) 23 vq (qS h.a 1 1)=some (d,b)/\b.c m=h.c m/\one d=true/\d.cells=#[d]/\b.b=h.b/\b.a=h.a+2/\(∀i,i<h.a->i<lo\/11<=tag i->b.c i=h.c i)/\DD (b.e m (.row [.string nm,qS r n AT,d,vv,vt,vu,vo,iv s.c,.map (some k),.map (some c)] 123 false false)) lo m k c e r n nm E (fun i=>if i=h.a+1 then 2 else tag i) d vv vt vu vo es {s with b:=s.b++[x]}:=by
 have D:=a.f;have F:=a.o (h':=h.d (.row [.string x.1,.bool x.2] 158 false false)) (tag':=fun i=>if i=h.a then 11 else tag i) (by show h.a<=h.a+1;omega) rfl (fun i p=>ad (by omega)) fun i _ p=>AV p;obtain⟨d,b,M,B,L,N,O,P,Q⟩:=UW (et:=158) (w:=2) (c:=1) (sc:=1) (xs:=[.string x.1,.bool x.2]) ci PS dN SU rfl (by decide) (by decide) F.a.q (RF _) (ZU _) rfl rfl (by decide) (by decide) (by omega) (src:=h.a) BJ (by show h.a<h.a+1;omega) a.t (by simp);have G:b.a=h.a+2:=N;have g:∀i,i<h.a->¬(lo<=i/\tag i=2)->b.c i=h.c i:=fun i p R=>by rw[Q i (by omega) (by grind),AV p]
 have y:m<b.a:=by omega
 have H:=g m D.2 (by rw[a.i];omega);have I:GV b lo (fun i=>if i=h.a+1 then 2 else tag i) 2 d (s.b.length+1) (EH s.b++[.string x.1,.bool x.2]) 158:=by
  rcases B with B|B;.refine B.c fun i p=>?_;grind
  omega
 refine⟨d,b,M,H,O,P,L,G,fun i p S=>g i p (by omega),?_⟩;have j:h.a<=(b.e m (.row [.string nm,qS r n AT,d,vv,vt,vu,vo,iv s.c,.map (some k),.map (some c)] 123 false false)).a:=by show h.a<=b.a;omega
 have f:∀i,i<h.a->(fun i=>if i=h.a+1 then 2 else tag i) i=tag i:=by grind
 have z:∀i,lo<=i->i<h.a->tag i≠0->tag i≠2->(b.e m (.row [.string nm,qS r n AT,d,vv,vt,vu,vo,iv s.c,.map (some k),.map (some c)] 123 false false)).c i=h.c i:=fun i A J K T=>by rw[AP y (IS (tag:=tag) (by rw[a.i];omega)),g i J (fun e=>T e.2)]
 have l:∀C,C≠0->C≠2->(C≠2)->∀i,lo<=i->i<h.a->tag i=C->(b.e m (.row [.string nm,qS r n AT,d,vv,vt,vu,vo,iv s.c,.map (some k),.map (some c)] 123 false false)).c i=h.c i:=by grind
 refine a.p j L f (fun i A J K=>z i A J (by omega) (by omega)) (BE rfl y) ?_ rfl;exact
  { a:=by rw[z r a.a.b.1 a.a.b.2 (by rw[a.a.d];decide) (by rw[a.a.d];decide)];exact a.a.a
    c:=a.a.c
    d:=(f r a.a.b.2).trans a.a.d
    b:=⟨a.a.b.1,by have:=a.a.b.2;omega⟩
    q:=by
     have U:=I.a (h':=(b.e m (.row [.string nm,qS r n AT,d,vv,vt,vu,vo,iv s.c,.map (some k),.map (some c)] 123 false false))) (af _) (fun _ _=>rfl) fun i _ _ K=>AP y (IS (tag:=fun i=>if i=h.a+1 then 2 else tag i) (by rw[K];show(if m=h.a+1 then _ else tag m)≠_;rw[ad (by omega),a.i];decide));rw[tj]at U;grind
    v:=a.a.v.a j f (l 3 (by decide) (by decide) (by decide))
    t:=a.a.t.a j f (l 4 (by decide) (by decide) (by decide))
    u:=a.a.u.a j f (l 5 (by decide) (by decide) (by decide))
    o:=a.a.o.a j f (l 6 (by decide) (by decide) (by decide))}
theorem DD.G(a:DD h lo m k c e r n nm E tag vq vv vt vu vo es s)(x:ByteArray)(V:s.f.length<10000000):∃d b,DR prog (h.d (.row [.string x] 9 false false)) 24 vv (qS h.a 1 1)=some (d,b)/\b.c m=h.c m/\one d=true/\d.cells=#[d]/\b.b=h.b/\b.a=h.a+2/\(∀i,i<h.a->i<lo\/11<=tag i->b.c i=h.c i)/\DD (b.e m (.row [.string nm,qS r n AT,vq,d,vt,vu,vo,iv s.c,.map (some k),.map (some c)] 123 false false)) lo m k c e r n nm E (fun i=>if i=h.a+1 then 3 else tag i) vq d vt vu vo es {s with f:=s.f++[x]}:=by
 have D:=a.f;have F:=a.o (h':=h.d (.row [.string x] 9 false false)) (tag':=fun i=>if i=h.a then 11 else tag i) (by show h.a<=h.a+1;omega) rfl (fun i p=>ad (by omega)) fun i _ p=>AV p;obtain⟨d,b,M,B,L,N,O,P,Q⟩:=UW (et:=9) (w:=1) (c:=1) (sc:=1) (xs:=[.string x]) cN KN SE RJ rfl (by decide) (by decide) F.a.v (by rw[cy];exact Z8 _) (VN _) rfl rfl (by decide) (by decide) (by omega) (src:=h.a) BJ (by show h.a<h.a+1;omega) a.t (by simp);have G:b.a=h.a+2:=N;have g:∀i,i<h.a->¬(lo<=i/\tag i=3)->b.c i=h.c i:=fun i p R=>by rw[Q i (by omega) (by grind),AV p]
 have y:m<b.a:=by omega
 have H:=g m D.2 (by rw[a.i];omega);have I:GV b lo (fun i=>if i=h.a+1 then 3 else tag i) 3 d (s.f.length+1) (DN s.f++[.string x]) 9:=by
  rcases B with B|B
  .refine B.c fun i p=>?_;grind
  omega
 refine⟨d,b,M,H,O,P,L,G,fun i p S=>g i p (by omega),?_⟩;have j:h.a<=(b.e m (.row [.string nm,qS r n AT,vq,d,vt,vu,vo,iv s.c,.map (some k),.map (some c)] 123 false false)).a:=by show h.a<=b.a;omega
 have f:∀i,i<h.a->(fun i=>if i=h.a+1 then 3 else tag i) i=tag i:=by grind
 have z:∀i,lo<=i->i<h.a->tag i≠0->tag i≠3->(b.e m (.row [.string nm,qS r n AT,vq,d,vt,vu,vo,iv s.c,.map (some k),.map (some c)] 123 false false)).c i=h.c i:=fun i A J K T=>by rw[AP y (IS (tag:=tag) (by rw[a.i];omega)),g i J (fun e=>T e.2)]
 have l:∀C,C≠0->C≠3->(C≠3)->∀i,lo<=i->i<h.a->tag i=C->(b.e m (.row [.string nm,qS r n AT,vq,d,vt,vu,vo,iv s.c,.map (some k),.map (some c)] 123 false false)).c i=h.c i:=by grind
 refine a.p j L f (fun i A J K=>z i A J (by omega) (by omega)) (BE rfl y) ?_ rfl;exact
  { a:=by rw[z r a.a.b.1 a.a.b.2 (by rw[a.a.d];decide) (by rw[a.a.d];decide)];exact a.a.a
    c:=a.a.c
    d:=(f r a.a.b.2).trans a.a.d
    b:=⟨a.a.b.1,by have:=a.a.b.2;omega⟩
    q:=a.a.q.a j f (l 2 (by decide) (by decide) (by decide))
    v:=by
     have U:=I.a (h':=(b.e m (.row [.string nm,qS r n AT,vq,d,vt,vu,vo,iv s.c,.map (some k),.map (some c)] 123 false false))) (af _) (fun _ _=>rfl) fun i _ _ K=>AP y (IS (tag:=fun i=>if i=h.a+1 then 3 else tag i) (by rw[K];show(if m=h.a+1 then _ else tag m)≠_;rw[ad (by omega),a.i];decide));rw[Cu]at U;grind
    t:=a.a.t.a j f (l 4 (by decide) (by decide) (by decide))
    u:=a.a.u.a j f (l 5 (by decide) (by decide) (by decide))
    o:=a.a.o.a j f (l 6 (by decide) (by decide) (by decide))}
theorem DD.F(a:DD h lo m k c e r n nm E tag vq vv vt vu vo es s)(x:ByteArray)(V:s.g.length<10000000):∃d b,DR prog (h.d (.row [.string x] 9 false false)) 24 vt (qS h.a 1 1)=some (d,b)/\b.c m=h.c m/\one d=true/\d.cells=#[d]/\b.b=h.b/\b.a=h.a+2/\(∀i,i<h.a->i<lo\/11<=tag i->b.c i=h.c i)/\DD (b.e m (.row [.string nm,qS r n AT,vq,vv,d,vu,vo,iv s.c,.map (some k),.map (some c)] 123 false false)) lo m k c e r n nm E (fun i=>if i=h.a+1 then 4 else tag i) vq vv d vu vo es {s with g:=s.g++[x]}:=by
 have D:=a.f;have F:=a.o (h':=h.d (.row [.string x] 9 false false)) (tag':=fun i=>if i=h.a then 11 else tag i) (by show h.a<=h.a+1;omega) rfl (fun i p=>ad (by omega)) fun i _ p=>AV p;obtain⟨d,b,M,B,L,N,O,P,Q⟩:=UW (et:=9) (w:=1) (c:=1) (sc:=1) (xs:=[.string x]) cN KN SE RJ rfl (by decide) (by decide) F.a.t (by rw[cy];exact Z8 _) (VN _) rfl rfl (by decide) (by decide) (by omega) (src:=h.a) BJ (by show h.a<h.a+1;omega) a.t (by simp);have G:b.a=h.a+2:=N;have g:∀i,i<h.a->¬(lo<=i/\tag i=4)->b.c i=h.c i:=fun i p R=>by rw[Q i (by omega) (by grind),AV p]
 have y:m<b.a:=by omega
 have H:=g m D.2 (by rw[a.i];omega);have I:GV b lo (fun i=>if i=h.a+1 then 4 else tag i) 4 d (s.g.length+1) (DN s.g++[.string x]) 9:=by
  rcases B with B|B
  .refine B.c fun i p=>?_;grind
  omega
 refine⟨d,b,M,H,O,P,L,G,fun i p S=>g i p (by omega),?_⟩;have j:h.a<=(b.e m (.row [.string nm,qS r n AT,vq,vv,d,vu,vo,iv s.c,.map (some k),.map (some c)] 123 false false)).a:=by show h.a<=b.a;omega
 have f:∀i,i<h.a->(fun i=>if i=h.a+1 then 4 else tag i) i=tag i:=by grind
 have z:∀i,lo<=i->i<h.a->tag i≠0->tag i≠4->(b.e m (.row [.string nm,qS r n AT,vq,vv,d,vu,vo,iv s.c,.map (some k),.map (some c)] 123 false false)).c i=h.c i:=fun i A J K T=>by rw[AP y (IS (tag:=tag) (by rw[a.i];omega)),g i J (fun e=>T e.2)]
 have l:∀C,C≠0->C≠4->(C≠4)->∀i,lo<=i->i<h.a->tag i=C->(b.e m (.row [.string nm,qS r n AT,vq,vv,d,vu,vo,iv s.c,.map (some k),.map (some c)] 123 false false)).c i=h.c i:=by grind
 refine a.p j L f (fun i A J K=>z i A J (by omega) (by omega)) (BE rfl y) ?_ rfl;exact
  { a:=by rw[z r a.a.b.1 a.a.b.2 (by rw[a.a.d];decide) (by rw[a.a.d];decide)];exact a.a.a
    c:=a.a.c
    d:=(f r a.a.b.2).trans a.a.d
    b:=⟨a.a.b.1,by have:=a.a.b.2;omega⟩
    q:=a.a.q.a j f (l 2 (by decide) (by decide) (by decide))
    v:=a.a.v.a j f (l 3 (by decide) (by decide) (by decide))
    t:=by
     have U:=I.a (h':=(b.e m (.row [.string nm,qS r n AT,vq,vv,d,vu,vo,iv s.c,.map (some k),.map (some c)] 123 false false))) (af _) (fun _ _=>rfl) fun i _ _ K=>AP y (IS (tag:=fun i=>if i=h.a+1 then 4 else tag i) (by rw[K];show(if m=h.a+1 then _ else tag m)≠_;rw[ad (by omega),a.i];decide));rw[Cu]at U;grind
    u:=a.a.u.a j f (l 5 (by decide) (by decide) (by decide))
    o:=a.a.o.a j f (l 6 (by decide) (by decide) (by decide))}
theorem DD.I(a:DD h lo m k c e r n nm E tag vq vv vt vu vo es s)(x:Int)(V:s.d.length<10000000):∃d b,DR prog (h.d (.row [iv x] 3 false false)) 25 vu (qS h.a 1 1)=some (d,b)/\b.c m=h.c m/\one d=true/\d.cells=#[d]/\b.b=h.b/\b.a=h.a+2/\(∀i,i<h.a->i<lo\/11<=tag i->b.c i=h.c i)/\DD (b.e m (.row [.string nm,qS r n AT,vq,vv,vt,d,vo,iv s.c,.map (some k),.map (some c)] 123 false false)) lo m k c e r n nm E (fun i=>if i=h.a+1 then 5 else tag i) vq vv vt d vo es {s with d:=s.d++[x]}:=by
 have D:=a.f;have F:=a.o (h':=h.d (.row [iv x] 3 false false)) (tag':=fun i=>if i=h.a then 11 else tag i) (by show h.a<=h.a+1;omega) rfl (fun i p=>ad (by omega)) fun i _ p=>AV p;obtain⟨d,b,M,B,L,N,O,P,Q⟩:=UW (et:=3) (w:=1) (c:=1) (sc:=1) (xs:=[iv x]) au B_ IZ GD rfl (by decide) (by decide) F.a.u (by rw[cy];exact IE _) (MJ _) rfl rfl (by decide) (by decide) (by omega) (src:=h.a) BJ (by show h.a<h.a+1;omega) a.t (by simp);have G:b.a=h.a+2:=N;have g:∀i,i<h.a->¬(lo<=i/\tag i=5)->b.c i=h.c i:=fun i p R=>by rw[Q i (by omega) (by grind),AV p]
 have y:m<b.a:=by omega
 have H:=g m D.2 (by rw[a.i];omega);have I:GV b lo (fun i=>if i=h.a+1 then 5 else tag i) 5 d (s.d.length+1) (ints s.d++[iv x]) 3:=by
  rcases B with B|B
  .refine B.c fun i p=>?_;grind
  omega
 refine⟨d,b,M,H,O,P,L,G,fun i p S=>g i p (by omega),?_⟩;have j:h.a<=(b.e m (.row [.string nm,qS r n AT,vq,vv,vt,d,vo,iv s.c,.map (some k),.map (some c)] 123 false false)).a:=by show h.a<=b.a;omega
 have f:∀i,i<h.a->(fun i=>if i=h.a+1 then 5 else tag i) i=tag i:=by grind
 have z:∀i,lo<=i->i<h.a->tag i≠0->tag i≠5->(b.e m (.row [.string nm,qS r n AT,vq,vv,vt,d,vo,iv s.c,.map (some k),.map (some c)] 123 false false)).c i=h.c i:=fun i A J K T=>by rw[AP y (IS (tag:=tag) (by rw[a.i];omega)),g i J (fun e=>T e.2)]
 have l:∀C,C≠0->C≠5->(C≠5)->∀i,lo<=i->i<h.a->tag i=C->(b.e m (.row [.string nm,qS r n AT,vq,vv,vt,d,vo,iv s.c,.map (some k),.map (some c)] 123 false false)).c i=h.c i:=by grind
 refine a.p j L f (fun i A J K=>z i A J (by omega) (by omega)) (BE rfl y) ?_ rfl;exact
  { a:=by rw[z r a.a.b.1 a.a.b.2 (by rw[a.a.d];decide) (by rw[a.a.d];decide)];exact a.a.a
    c:=a.a.c
    d:=(f r a.a.b.2).trans a.a.d
    b:=⟨a.a.b.1,by have:=a.a.b.2;omega⟩
    q:=a.a.q.a j f (l 2 (by decide) (by decide) (by decide))
    v:=a.a.v.a j f (l 3 (by decide) (by decide) (by decide))
    t:=a.a.t.a j f (l 4 (by decide) (by decide) (by decide))
    u:=by
     have U:=I.a (h':=(b.e m (.row [.string nm,qS r n AT,vq,vv,vt,d,vo,iv s.c,.map (some k),.map (some c)] 123 false false))) (af _) (fun _ _=>rfl) fun i _ _ K=>AP y (IS (tag:=fun i=>if i=h.a+1 then 5 else tag i) (by rw[K];show(if m=h.a+1 then _ else tag m)≠_;rw[ad (by omega),a.i];decide));rw[Nk]at U;grind
    o:=a.a.o.a j f (l 6 (by decide) (by decide) (by decide))}
theorem DD.D(a:DD h lo m k c e r n nm E tag vq vv vt vu vo es s)(x:Int)(V:s.h.length<10000000):∃d b,DR prog (h.d (.row [iv x] 3 false false)) 25 vo (qS h.a 1 1)=some (d,b)/\b.c m=h.c m/\one d=true/\d.cells=#[d]/\b.b=h.b/\b.a=h.a+2/\(∀i,i<h.a->i<lo\/11<=tag i->b.c i=h.c i)/\DD (b.e m (.row [.string nm,qS r n AT,vq,vv,vt,vu,d,iv s.c,.map (some k),.map (some c)] 123 false false)) lo m k c e r n nm E (fun i=>if i=h.a+1 then 6 else tag i) vq vv vt vu d es {s with h:=s.h++[x]}:=by
 have D:=a.f;have F:=a.o (h':=h.d (.row [iv x] 3 false false)) (tag':=fun i=>if i=h.a then 11 else tag i) (by show h.a<=h.a+1;omega) rfl (fun i p=>ad (by omega)) fun i _ p=>AV p;obtain⟨d,b,M,B,L,N,O,P,Q⟩:=UW (et:=3) (w:=1) (c:=1) (sc:=1) (xs:=[iv x]) au B_ IZ GD rfl (by decide) (by decide) F.a.o (by rw[cy];exact IE _) (MJ _) rfl rfl (by decide) (by decide) (by omega) (src:=h.a) BJ (by show h.a<h.a+1;omega) a.t (by simp);have G:b.a=h.a+2:=N;have g:∀i,i<h.a->¬(lo<=i/\tag i=6)->b.c i=h.c i:=fun i p R=>by rw[Q i (by omega) (by grind),AV p]
 have y:m<b.a:=by omega
 have H:=g m D.2 (by rw[a.i];omega);have I:GV b lo (fun i=>if i=h.a+1 then 6 else tag i) 6 d (s.h.length+1) (ints s.h++[iv x]) 3:=by
  rcases B with B|B
  .refine B.c fun i p=>?_;grind
  omega
 refine⟨d,b,M,H,O,P,L,G,fun i p S=>g i p (by omega),?_⟩;have j:h.a<=(b.e m (.row [.string nm,qS r n AT,vq,vv,vt,vu,d,iv s.c,.map (some k),.map (some c)] 123 false false)).a:=by show h.a<=b.a;omega
 have f:∀i,i<h.a->(fun i=>if i=h.a+1 then 6 else tag i) i=tag i:=by grind
 have z:∀i,lo<=i->i<h.a->tag i≠0->tag i≠6->(b.e m (.row [.string nm,qS r n AT,vq,vv,vt,vu,d,iv s.c,.map (some k),.map (some c)] 123 false false)).c i=h.c i:=fun i A J K T=>by rw[AP y (IS (tag:=tag) (by rw[a.i];omega)),g i J (fun e=>T e.2)]
 have l:∀C,C≠0->C≠6->(C≠6)->∀i,lo<=i->i<h.a->tag i=C->(b.e m (.row [.string nm,qS r n AT,vq,vv,vt,vu,d,iv s.c,.map (some k),.map (some c)] 123 false false)).c i=h.c i:=by grind
 refine a.p j L f (fun i A J K=>z i A J (by omega) (by omega)) (BE rfl y) ?_ rfl;exact
  { a:=by rw[z r a.a.b.1 a.a.b.2 (by rw[a.a.d];decide) (by rw[a.a.d];decide)];exact a.a.a
    c:=a.a.c
    d:=(f r a.a.b.2).trans a.a.d
    b:=⟨a.a.b.1,by have:=a.a.b.2;omega⟩
    q:=a.a.q.a j f (l 2 (by decide) (by decide) (by decide))
    v:=a.a.v.a j f (l 3 (by decide) (by decide) (by decide))
    t:=a.a.t.a j f (l 4 (by decide) (by decide) (by decide))
    u:=a.a.u.a j f (l 5 (by decide) (by decide) (by decide))
    o:=by have U:=I.a (h':=(b.e m (.row [.string nm,qS r n AT,vq,vv,vt,vu,d,iv s.c,.map (some k),.map (some c)] 123 false false))) (af _) (fun _ _=>rfl) fun i _ _ K=>AP y (IS (tag:=fun i=>if i=h.a+1 then 6 else tag i) (by rw[K];show(if m=h.a+1 then _ else tag m)≠_;rw[ad (by omega),a.i];decide));rw[Nk]at U;grind}
end
noncomputable def D5:Code:=rt (rt (rt (rt (f65.body.getD .skip))))
noncomputable def D8:Code:=rt D5
noncomputable def Qu:Code:=rt (rt (rt D8))
noncomputable def D13:Code:=rt Qu
noncomputable def Ih:Array Oper:=B9 f65 5
def tl:List (Bool×Bool×List Operand):=[AO,AO,AO,AO,AH [.tmp 29],AH [.tmp 29],AH [.tmp 29],AH [.tmp 29],AJ,AJ,AJ,AJ,AH [.tmp 29,.tmp 33,.tmp 30],AJ,AJ]
theorem tn:CA Ih=tl:=by kernel_rfl
def rU:List (Bool×Bool×List Operand):=[AO,AO,AO,AO,AH [.tmp 58],AH [.tmp 58],AH [.tmp 58],AH [.tmp 58],AH [.tmp 58,.tmp 62],AH [.tmp 58,.tmp 62],AH [.tmp 58,.tmp 62],AH [.tmp 58,.tmp 62],AH [.tmp 58,.tmp 62],AJ]
def sX:List (Bool×Bool×List Operand):=[DT,AO,AO,AO,AO,AO,AH [.tmp 80],AH [.tmp 80],AH [.tmp 80],AH [.tmp 80],AH [.tmp 80,.tmp 84],AH [.tmp 80,.tmp 84],AH [.tmp 80,.tmp 84],AH [.tmp 80,.tmp 84],AH [.tmp 80,.tmp 84],AH [.tmp 80],AH [.tmp 80],AJ,AJ,AJ,AJ,AJ]
def qI:List (Bool×Bool×List Operand):=[DT,AO,AO,AO,AO,AO,AH [.tmp 114],AH [.tmp 114],AH [.tmp 114],AH [.tmp 114],AH [.tmp 114],AJ,AJ,AJ,AJ,AJ]
def sQ:List (Bool×Bool×List Operand):=[DT,AO,AO,AO,AO,AO,AH [.tmp 131],AH [.tmp 131],AH [.tmp 131],AH [.tmp 131],AH [.tmp 131],AJ,AJ,AJ,AJ,AJ]
theorem Kz{h:AA}{id:Nat}{a b c x y z:Value}{ty:TypeId}{g:Bool}(d:h.c id=.row [x,y,z] ty g false)(i:h.b<=id)(j:[a,b,c].all one=true):BD prog h 202 (qP id 0) (.agg #[a,b,c])=some (h.e id (.row [a,b,c] ty g false)):=by
 have k:Go.Sx.lay [x,y,z] 0 [a,b,c]=[a,b,c]:=rfl;have e:(Value.agg #[a,b,c]).cells=#[a,b,c]:=rfl;have f:(some 3:Option Nat)=some (#[a,b,c]:Array Value).size:=rfl;simp only[BD,e,Be,HW,d];grind
theorem Mc{b t:Nat}(c:t<=b){T:Tr}{d:Nat}{v:Value}(a:b<d):(T.c (some d) v).a t=T.a t:=qG (b:=b+1) a (by omega)
theorem DB{T:Tr}{v:Value}:T.c none v=T:=rfl
section
variable {call:AY} {N:Nat} {h:AA} {lo m k c e r n:Nat} {nm:ByteArray} {E:List Int} {tag:Nat->Nat} {vq vv vt vu vo:Value} {es:List (Value × Value)} {s:AS}
theorem tq(f:C_ call){T:Tr}{at_:Nat}{x:AF}{K:DH}(j:DD h lo m k c e r n nm E tag vq vv vt vu vo es s)(F:s.a[at_]?=some x)(G:T.a 0=qP m 0)(I:T.a 7=.pointer (some ⟨r,at_*5,none⟩))(z:∀u H,(I8 s.e x.c).isSome=true->u.a 6=iv 31->(∀i,i<h.a->H.c i=h.c i)->h.a<=H.a->H.b=h.b->K.a prog call N .ret ⟨u,H⟩)(A:∀u H,I8 s.e x.c=none->(∀t,t<=8->u.a t=T.a t)->(∀i,i<h.a->H.c i=h.c i)->h.a<=H.a->H.b=h.b->WK prog call N D8 ⟨u,H⟩ K):WK prog call N D5 ⟨T,h⟩ K:=by
 show WK _ _ _ (.seq (.seq (.region _ _ true) _) D8) _ _;rw[NB,NB];have J:=j.M;obtain⟨L,R,M,S,U,V,W⟩:=j.y F;have g:=Ez (x:=x.c) j.d;have X:=j.f.2;have O:=j.l.2;have Y:=j.a.b.2;have v:h.b<=h.a:=by have:=j.t;have:=j.f.1;omega
 have Z:(some m !=some h.a)=true:=by grind
 have n2:(some r !=some h.a)=true:=by grind
 have n3:(some k !=some h.a)=true:=by grind
 have w:(h.d (.row [iv 0,iv 0,iv 0] 202 false false)).c h.a=.row [iv 0,iv 0,iv 0] 202 false false:=BJ;have y:=fun a b d=>Kz (a:=iv a) (b:=iv b) (c:=iv d) w (by exact v) rfl;have l:∀o i,i<h.a->((h.d (.row [iv 0,iv 0,iv 0] 202 false false)).e h.a o).c i=h.c i:=fun o i P=>by rw[AP (by show h.a<h.a+1;omega) (by omega),AV P]
 have p:flat (.agg #[iv 0,iv 0,iv 0])=true:=rfl;have q:=C9 [iv 0,iv 0,iv 0];have i1:DP (qP m 8)=some m:=rfl;have i2:DP (.pointer (some ⟨r,at_*5+1,none⟩))=some r:=rfl;have C:DP (.map (some k))=some k:=rfl;have D:DP (qP h.a 0)=some h.a:=rfl;refine WK.a (ops:=Ih) tn ?_;refine BV.a ?_;refine AG f 0 (some 27) (.move (.tmp 0)) none ?_;simp only[rG,seval,AB,AD,AC,G];refine AG f 1 (some 28) (.nilCheck (.tmp 27)) none ?_;simp only[rG,seval,AB,AD,AC];refine AG f 2 (some 29) (.fieldAddr 123 (.tmp 28) 1) none ?_;simp only[rG,seval,AB,AD,AC,ab,qY];refine AG f 3 (some 30) (.load 120 (.tmp 29)) none ?_;simp only[rG,seval,AB,AC,A7,uZ,J];refine AG f 4 (some 31) (.move (.tmp 7)) none ?_;simp only[rG,seval,AB,AD,AC,I];refine AG f 5 (some 32) (.nilCheck (.tmp 31)) none ?_;simp only[rG,seval,AB,AD,AC];refine AG f 6 (some 33) (.fieldAddr 125 (.tmp 32) 1) none ?_;simp only[rG,seval,AB,AD,AC,PY];refine AG f 7 (some 34) (.load 9 (.tmp 33)) none ?_;simp only[rG,seval,AB,AC,A7,HS,M];cases B:I8 s.e x.c with
 |some t=>
  rw[B]at g;refine AG f 8 (some 35) (.lookup 120 (.tmp 30) (.tmp 34) true) none ?_;simp only[rG,seval,AB,AC,A7,g,C];refine AG f 9 (some 26) (.move (.tmp 35)) none ?_;simp only[rG,seval,AB,AD,AC];refine AG f 10 (some 36) (.extract (.tmp 26) 0) none ?_;simp only[rG,seval,AB,AD,AC,dr,dl];refine AG f 11 (some 37) (.extract (.tmp 26) 1) none ?_;simp only[rG,seval,AB,AD,AC,dr,fc,dl];refine AG f 12 (some 9) (.alloc 202) none ?_;simp only[rG,seval,AB,AC,KY,ZG,p,q];refine AG f 13 (none) (.store 202 (.tmp 9) (.tmp 36)) none ?_;simp only[rG,seval,AB,AC,target,BY,y,D,target];refine AG f 14 (some 10) (.assign (.tmp 37)) none ?_;simp only[rG,seval,AB,AD,AC];refine BV.b (i:=15) (by kernel_rfl) ?_;simp only[eE,seval,↓eP];exact z _ _ (by grind) (by simp only[Tr.b,ai]) (l _) (by show h.a<=h.a+1;omega) rfl|none=>
  rw[B]at g;refine AG f 8 (some 35) (.lookup 120 (.tmp 30) (.tmp 34) true) none ?_;simp only[rG,seval,AB,AC,A7,g,C];refine AG f 9 (some 26) (.move (.tmp 35)) none ?_;simp only[rG,seval,AB,AD,AC];refine AG f 10 (some 36) (.extract (.tmp 26) 0) none ?_;simp only[rG,seval,AB,AD,AC,dr,dl];refine AG f 11 (some 37) (.extract (.tmp 26) 1) none ?_;simp only[rG,seval,AB,AD,AC,dr,fc,dl];refine AG f 12 (some 9) (.alloc 202) none ?_;simp only[rG,seval,AB,AC,KY,ZG,p,q];refine AG f 13 (none) (.store 202 (.tmp 9) (.tmp 36)) none ?_;simp only[rG,seval,AB,AC,target,BY,y,D,target];refine AG f 14 (some 10) (.assign (.tmp 37)) none ?_;simp only[rG,seval,AB,AD,AC];refine BV.b (i:=15) (by kernel_rfl) ?_;simp only[eE,seval,↓eP];refine A _ _ B (fun t Q=>?_) (l _) (by show h.a<=h.a+1;omega) rfl;simp only[Mc Q,DB,Nat.reduceLT]
noncomputable def pR:Code:=rt D13
theorem tt(D:C_ call){T:Tr}{at_:Nat}{x:AF}{K:DH}{kd end_:Int}(j:DD h lo m k c e r n nm E tag vq vv vt vu vo es s)(O:s.a[at_]?=some x)(P:aF es s)(h1:1<=kd)(Q:kd<=4)(Z:CI s kd<1000)(o:∀R,call 125 [iv kd] R=some (iv (JY kd),R))(hf:I8 s.e x.c=none)(F:T.a 0=qP m 0)(t2:T.a 2=iv end_)(S:T.a 7=.pointer (some ⟨r,at_*5,none⟩))(G:T.a 8=iv kd)(I:∀p,(CI s kd:Int)=JY kd->p.a 6=iv 3->K.a prog call N .ret ⟨p,h⟩)(J:∀p H,(CI s kd:Int)≠JY kd->(∀t,t<=8->p.a t=T.a t)->DD H lo m k c e r n nm E tag vq vv vt vu vo (JU (iv kd) (iv ((CI s kd:Int)+1)) es) {s with a:=JF s.a at_ (CI s kd),e:=s.e++[⟨x.c,kd,(CI s kd:Int),end_⟩]}->(∀i,i<lo\/(i<h.a/\11<=tag i)->H.c i=h.c i)->H.a=h.a->H.b=h.b->WK prog call N pR ⟨p,H⟩ K):WK prog call N D8 ⟨T,h⟩ K:=by show WK _ _ _ (.seq _ (.seq _ (.seq _ Qu))) _ _;have U:=j.R;have g:=tf j.j P h1 Q;have w1:IntKind.i64.wrap ((CI s kd:Int)+1)=(CI s kd:Int)+1:=BR;have q:=ti (v:=iv ((CI s kd:Int)+1)) j.j P h1 Q (by have:=j.t;have:=j.q.1;omega);cases V:((CI s kd:Int)==JY kd)with|true=>simp only[eE,seval,↓eP,F,G,Sh,Eo,U,g,o,V];exact I _ (by grind) (by simp only[Tr.b,ai])|false=>
  simp only[eE,seval,↓eP,F,G,Sh,Eo,U,g,o,V,w1,q];have d:=j.J (JU (iv kd) (iv ((CI s kd:Int)+1)) es);have W:∀i,i<lo\/(i<h.a/\11<=tag i)->(h.e c (.map (JU (iv kd) (iv ((CI s kd:Int)+1)) es))).c i=h.c i:=fun i u=>AP j.q.2 (VQ j.q.1 (by rw[j.w];decide) u);have w:(h.e c (.map (JU (iv kd) (iv ((CI s kd:Int)+1)) es))).a=h.a:=rfl;have y:(h.e c (.map (JU (iv kd) (iv ((CI s kd:Int)+1)) es))).b=h.b:=rfl;generalize h.e c (.map (JU (iv kd) (iv ((CI s kd:Int)+1)) es))=C at*;show WK _ _ _ (.seq (.region _ _ true) (.seq _ pR)) _ _;rw[NB];have b8:=d.M;obtain⟨h0,l0,l1,l2,l3,l4,lr⟩:=d.y O;have L:=Vl (a:=kd) (b:=(CI s kd:Int)) (c:=end_) d.d hf (by have:=d.t;have:=d.l.1;omega);refine WK.a (fs:=rU) (by kernel_rfl) ?_;unfold rU;iterate 14 refine DG D ?_;simp only[rG,seval,AB,AD,AC,A7,BL,target,BY,F,qY,uZ,b8,S,PY,HS,l1,G,wV,t2,Zq,L]
  refine DF ?_;have f:=d.H (s.e++[⟨x.c,kd,(CI s kd:Int),end_⟩]);have X:∀i,i<lo\/(i<h.a/\11<=tag i)->(C.e k (.map ((s.e++[(⟨x.c,kd,(CI s kd:Int),end_⟩:JS)]).map N5))).c i=h.c i:=fun i u=>by rw[AP d.l.2 (VQ d.l.1 (by rw[d.x];decide) u)];grind
  have z:(C.e k (.map ((s.e++[(⟨x.c,kd,(CI s kd:Int),end_⟩:JS)]).map N5))).a=h.a:=w;have A:(C.e k (.map ((s.e++[(⟨x.c,kd,(CI s kd:Int),end_⟩:JS)]).map N5))).b=h.b:=y;generalize C.e k (.map ((s.e++[(⟨x.c,kd,(CI s kd:Int),end_⟩:JS)]).map N5))=H2 at*;have h2:=MT s.a;have Y:=j.a.c;have B:=EO (off:=at_*5+3) B_ (v:=iv (CI s kd:Int)) rfl rfl f.a.a (by grind) (by have:=f.t;have:=f.a.b.1;omega);rw[aW O]at B;have M:=f.B (l:=JF s.a at_ (CI s kd:Int)) TM;simp only[eE,seval,rP,S,B];refine J _ _ (by grind) (fun t ht=>?_) M (fun i u=>?_) z A;.simp only[Mc ht,DB,Nat.reduceLT]
  .rw[AP f.a.b.2 (VQ f.a.b.1 (by rw[f.a.d];decide) u)];grind
def dP(kd:Int)(at_:Nat)(x:AF)(s:AS):AS:={s with
   b:=if kd=1 then s.b++[(x.c,x.a==3)]else s.b
   f:=if kd=2 then s.f++[x.c]else s.f
   g:=if kd=3 then s.g++[x.c]else s.g
   d:=if kd=4 then s.d++[(at_:Int)+1]else s.d
   h:=if kd=1 then s.h++[-1]else s.h}
theorem tu(z:C_ call){T:Tr}{at_:Nat}{x:AF}{K:DH}{kd:Int}(f:DD h lo m k c e r n nm E tag vq vv vt vu vo es s)(hx:s.a[at_]?=some x)(h1:1<=kd)(h4:kd<=4)(hb:s.b.length<1000/\s.f.length<1000/\s.g.length<1000/\s.d.length<1000/\s.h.length<1000)(hn:n<30000000000000)(G:T.a 0=qP m 0)(t1:T.a 1=iv at_)(Q:T.a 7=.pointer (some ⟨r,at_*5,none⟩))(L:T.a 8=iv kd)(M:∀T' H u R S U V W,T'.a 6=iv 0->DD H lo m k c e r n nm E u R S U V W es (dP kd at_ x s)->(∀i,i<h.a->u i=tag i)->(∀i,i<lo\/(i<h.a/\11<=tag i)->H.c i=h.c i)->h.a<=H.a->H.b=h.b->K.a prog call N .ret ⟨T',H⟩):WK prog call N pR ⟨T,h⟩ K:=by
 show WK _ _ _ (.seq (.seq _ (.block _ _)) (.seq _ _)) _ _;have hm:=f.f.2;have I:=f.f.1;have g:h.b<=m:=by have:=f.t;omega
 obtain⟨h7,l0,X,l2,l3,l4,lr⟩:=f.y hx;have Y:kd=1\/kd=2\/kd=3\/kd=4:=by omega
 have O:∀(o o':BO)i,i<lo\/(i<h.a/\11<=tag i)->∀P:AA,(∀i,i<h.a->i<lo\/11<=tag i->P.c i=h.c i)->P.a=h.a+2->(P.e m o).c i=h.c i:=fun o o' i l P h1 h2=>by rw[AP (by omega) (VQ I (by rw[f.i];decide) l),h1 i (by omega) (by omega)]
 have Z:∀j i,i<h.a->(fun i=>if i=h.a+1 then j else tag i) i=tag i:=fun j i l=>ad (by omega);rcases Y with rfl|rfl|rfl|rfl
 .obtain⟨q,a,A,B,C,D,p,v,F,d⟩:=f.K (x.c,x.a==3) (by omega);have c2:=f.T;have t:a.f h.b=a:=by rw[<-p];exact C0 a
  have b:BD prog a 23 (qP m 2) q=_:=EO ZN D C (B.trans f.b) (by simp only[bx,du];omega) (by rw[p];exact g);have h0:=O (.row [.string nm,qS r n AT,q,vv,vt,vu,vo,iv s.c,.map (some k),.map (some c)] 123 false false) .dead;simp only[gp,fy]at b;simp only[eE,seval,↓eP,L];show WK _ _ _ (.region _ _ true) _ _;refine WK.a (fs:=sX) (by kernel_rfl) ?_;unfold sX;iterate 22
   refine DG z ?_;simp only[rG,seval,AB,AD,AC,A7,BL,target,BY,C8,G,M5,DY,DZ,c2,Q,PY,HS,X,BB,AM,l0,Kv,xX,A,t,b]
  refine DF ?_;have h3:=fun i l=>h0 i l a F v;have w:(a.e m (.row [.string nm,qS r n AT,q,vv,vt,vu,vo,iv s.c,.map (some k),.map (some c)] 123 false false)).b=h.b:=p;have h6:(a.e m (.row [.string nm,qS r n AT,q,vv,vt,vu,vo,iv s.c,.map (some k),.map (some c)] 123 false false)).a=h.a+2:=v;generalize a.e m (.row [.string nm,qS r n AT,q,vv,vt,vu,vo,iv s.c,.map (some k),.map (some c)] 123 false false)=H2 at*;obtain⟨v2,J,b1,b2,b3,b4,b5,b6,b7,h5⟩:=d.D (-1) (by simp only;omega);have d6:=d.O;have y:BD prog J 25 (qP m 6) v2=_:=EO FW b4 b3 (b2.trans d.b) (by simp only[bx,du];omega) (by rw[b5,w];exact g);simp only[gp,fy]at y;simp only[eE,seval,G,M5,I_,BH,d6,KE,b1,y];refine M _ _ _ _ _ _ _ _ (by simp only[Tr.b,ai]) h5 (fun i l=>?_) (fun i l=>?_) ?_ (b5.trans w)
  .show(if i=H2.a+1 then 6 else if i=h.a+1 then 2 else tag i)=tag i;rw[ad (by omega),ad (by omega)]
  .rw[AP (by omega) (VQ I (by rw[f.i];decide) l),b7 i (by omega) (by show i<lo\/11<=(if i=h.a+1 then 2 else tag i);rw[ad (by omega)];omega),h3 i l]
  .show h.a<=J.a;omega
 .obtain⟨q,a,A,B,C,D,p,v,F,d⟩:=f.G x.c (by omega);have c3:=f.S;have t:a.f h.b=a:=by rw[<-p];exact C0 a
  have b:BD prog a 24 (qP m 3) q=_:=EO SQ D C (B.trans f.b) (by simp only[bx,du];omega) (by rw[p];exact g);simp only[gp,fy]at b;simp only[eE,seval,↓eP,L,Int.reduceBEq];show WK _ _ _ (.region _ _ true) _ _;refine WK.a (fs:=qI) (by kernel_rfl) ?_;unfold qI;iterate 16 refine DG z ?_;simp only[rG,seval,AB,AD,AC,A7,BL,target,BY,G,M5,KS,I7,c3,Q,PY,HS,X,ZZ,A,t,b]
  refine DF ?_;simp only[eE,seval];refine M _ _ _ _ _ _ _ _ (by simp only[Tr.b,ai]) d (Z _) (fun i l=>O _ .dead i l a F v) ?_ p;show h.a<=a.a;omega
 .obtain⟨q,a,A,B,C,D,p,v,F,d⟩:=f.F x.c (by omega);have c4:=f.U;have t:a.f h.b=a:=by rw[<-p];exact C0 a
  have b:BD prog a 24 (qP m 4) q=_:=EO SQ D C (B.trans f.b) (by simp only[bx,du];omega) (by rw[p];exact g);simp only[gp,fy]at b;simp only[eE,seval,↓eP,L,Int.reduceBEq];show WK _ _ _ (.region _ _ true) _ _;refine WK.a (fs:=sQ) (by kernel_rfl) ?_;unfold sQ;iterate 16 refine DG z ?_;simp only[rG,seval,AB,AD,AC,A7,BL,target,BY,G,M5,KG,I7,c4,Q,PY,HS,X,ZZ,A,t,b]
  refine DF ?_;simp only[eE,seval];refine M _ _ _ _ _ _ _ _ (by simp only[Tr.b,ai]) d (Z _) (fun i l=>O _ .dead i l a F v) ?_ p;show h.a<=a.a;omega
 .obtain⟨q,a,A,B,C,D,p,v,F,d⟩:=f.I ((at_:Int)+1) (by omega);have c5:=f.P;have w1:IntKind.i64.wrap ((at_:Int)+1)=(at_:Int)+1:=BR;have b:BD prog a 25 (qP m 5) q=_:=EO FW D C (B.trans f.b) (by simp only[bx,du];omega) (by rw[p];exact g);simp only[gp,fy]at b;simp only[eE,seval,↓eP,G,t1,L,Int.reduceBEq,M5,GF,BH,c5,w1,KE,A,b];refine M _ _ _ _ _ _ _ _ (by simp only[Tr.b,ai]) d (Z _) (fun i l=>O _ .dead i l a F v) ?_ p;show h.a<=a.a;omega
end
end Go.Proofs.YtjailoenloejbaaGreatDoor




