/- Part 23. -/
import Derived.Test.YtjailoenloejbaaGreatDoorDV22
set_option linter.all false
namespace Go.Proofs.YtjailoenloejbaaGreatDoor
open Go Go.Sx Go.Proofs.Tryz
set_option maxRecDepth 100000
set_option maxHeartbeats 0
theorem Jq{h:AA}{x:AF}:FP prog h 22 1 [(0,CW x)]=some (qS h.a 1 1,h.d (.row (AQ x) 125 false false)):=by simp[FP,bq,GC,FC,flat,B7,GW,I6,CF,Go.Sx.lay];rfl
theorem Bg{h:AA}{lo:Nat}{v:Value}{l:List AF}{x:AF}(j:GV h lo (fun _=>1) 1 v l.length (l.flatMap AQ) 125)(k:lo<=h.a)(m:h.b<=lo)(z:l.length<2932031007402):∃b a,DR prog (h.d (.row (AQ x) 125 false false)) 22 v (qS h.a 1 1)=some (b,a)/\GV a lo (fun _=>1) 1 b (l++[x]).length ((l++[x]).flatMap AQ) 125/\a.b=h.b/\h.a<=a.a/\∀i,i<lo->a.c i=h.c i:=by
 have e:GV (h.d (.row (AQ x) 125 false false)) lo (fun i=>if i=h.a then 0 else 1) 1 v l.length (l.flatMap AQ) 125:=j.a (by show h.a<=h.a+1;omega) (fun i f=>ad (by omega)) fun i _ f _=>AV f;obtain⟨b,g,n,d,o,p,A,B,q⟩:=UW (et:=125) (w:=5) (c:=1) (sc:=1) (xs:=AQ x) bq GC WO FC rfl (by decide) (by decide) e (MT l) (X_ l) rfl rfl (by decide) (by decide) (by omega) (src:=h.a) BJ (by show h.a<h.a+1;omega) m (by simp);have r:g.a=h.a+2:=p;refine⟨b,g,n,?_,o,by omega,fun i f=>?_⟩
 .rcases d with d|d
  .rcases d with⟨C,_⟩|⟨s,t,D,E,u,y,F⟩;.omega
   .refine .inr ⟨s,t,?_,?_,u,y,rfl⟩;.grind
    grind
  omega
 .rw[q i (by omega) (by omega),AV]
section
variable {call:AY} {n N:Nat} {h:AA}
theorem Xf{l:List AF}{v:Value}(Y:A8 h v l)(hl:l.length<2932031007403)(Z:h.b<=h.a)(hN:l.length+5<N):∃q b,AW prog call N 178 [v] h=some (q,b)/\AL h.a b q (AU l).length 5 ((AU l).flatMap AQ)/\b.b=h.b/\h.a<=b.a/\∀i,i<h.a->b.c i=h.c i:=by
 refine G_ (R:=fun q b=>AL h.a b q (AU l).length 5 ((AU l).flatMap AQ)/\b.b=h.b/\h.a<=b.a/\∀i,i<h.a->b.c i=h.c i) func178 rfl (by simp) ?_;have hr:f178.results.toList=[.tmp 2]:=rfl;simp only[eE,seval];refine WK.b (fun i g=>g.T.a 0=v/\g.T.a 4=iv i/\i<=l.length/\h.a<=g.h.a/\g.h.b=h.b/\(∀i,i<h.a->g.h.c i=h.c i)/\∃u,g.T.a 3=u/\GV g.h h.a (fun _=>1) 1 u (AU (l.take i)).length ((AU (l.take i)).flatMap AQ) 125) l.length (by omega) ?_ ?_;.exact⟨by simp only[eE,↓reduceIte,reduceCtorEq],by simp only[eE,↓reduceIte];rfl,by omega,af _,rfl,fun _ _=>rfl,_,by simp only[eE,↓reduceIte,Nat.reduceEqDiff],YE⟩
 rintro i⟨T1,a⟩e⟨A,B,h0,E,O,F,u,C,r⟩;simp only at A B E O F C r;have s:A8 a v l:=Y.a E F;have c:=fun b=>s.c (h':=b);by_cases j:i<l.length
 .have D:decide ((i:Int)<(l.length:Int))=true:=by grind
  obtain⟨x,P⟩:∃x,l[i]?=some x:=⟨_,aa j⟩;obtain⟨h1,p,Q,h2,l0,l1,l2,l3,l4,S⟩:=s.b P;have T:flat (.agg #[.int .i64 0,.string ByteArray.empty,.int .i64 0,.int .i64 0,.int .i64 0])=true:=rfl;have w:=C9 FG;have y:BD prog (a.d (.row FG 125 false false)) 125 (qP a.a 0) (.agg #[.int .i64 x.a,.string x.c,.int .i64 x.d,.int .i64 x.n,.int .i64 x.b])=some ((a.d (.row FG 125 false false)).e a.a (.row (AQ x) 125 false false)):=wB (by omega);have H:((a.d (.row FG 125 false false)).e a.a (.row (AQ x) 125 false false)).c a.a=.row (AQ x) 125 false false:=BE rfl (by show a.a<a.a+1;omega);have U:∀i,i<a.a->((a.d (.row FG 125 false false)).e a.a (.row (AQ x) 125 false false)).c i=a.c i:=fun i e=>by rw[AP (by show a.a<a.a+1;omega) (by omega),AV e]
  have nG:((a.d (.row FG 125 false false)).e a.a (.row (AQ x) 125 false false)).a=a.a+1:=rfl;have fG:((a.d (.row FG 125 false false)).e a.a (.row (AQ x) 125 false false)).b=a.b:=rfl;generalize(a.d (.row FG 125 false false)).e a.a (.row (AQ x) 125 false false)=G at*;have V:=DU i;have W:AI 0 (G.c a.a)=some (iv x.a):=by rw[H];rfl
  have z:AU (l.take (i+1))=AU (l.take i)++[J9 x]:=by
   rw[cY,P,AU,AU,fw];rfl
  have f:(AU (l.take i)).length<2932031007402:=by
   rw[AU,bw,fu];omega
  cases d:(x.a !=27)with
  |false=>
   have k:J9 x=x:=by unfold J9;rw[ad (by grind)]
   have I:AX 5 0 (G.c a.a)=some (CW x):=by rw[H];rfl
   have m:GV G h.a (fun _=>1) 1 u (AU (l.take i)).length ((AU (l.take i)).flatMap AQ) 125:=r.a (by omega) (fun _ _=>rfl) fun i _ e _=>U i e;obtain⟨q,H2,J,o,f2,n2,o2⟩:=Bg (x:=x) m (by omega) (by omega) f;simp only[eE,seval,↓eP,A,C,B,c,D,Q,FX,S,FC,T,w,y,BB,AM,W,d,I,Jq,J,V];refine⟨j,by omega,by omega,by omega,fun i e=>by grind,?_⟩;rw[z,k];exact o|true=>
   have k:J9 x={x with n:=0}:=by unfold J9;rw[ag (by grind)]
   have K:=EO (t:=3) (off:=3) (v:=iv 0) B_ rfl rfl H (by show 3<5;omega) (by omega);have L:(G.e a.a (.row ((AQ x).set 3 (iv 0)) 125 false false)).c a.a=.row (AQ {x with n:=0}) 125 false false:=BE rfl (by omega);have M:∀i,i<a.a->(G.e a.a (.row ((AQ x).set 3 (iv 0)) 125 false false)).c i=a.c i:=fun i e=>by rw[AP (by omega) (by omega),U i e]
   have h3:(G.e a.a (.row ((AQ x).set 3 (iv 0)) 125 false false)).a=a.a+1:=nG;have h4:(G.e a.a (.row ((AQ x).set 3 (iv 0)) 125 false false)).b=a.b:=fG;generalize G.e a.a (.row ((AQ x).set 3 (iv 0)) 125 false false)=X at*;have I:AX 5 0 (X.c a.a)=some (CW {x with n:=0}):=by rw[L];rfl
   have m:GV X h.a (fun _=>1) 1 u (AU (l.take i)).length ((AU (l.take i)).flatMap AQ) 125:=r.a (by omega) (fun _ _=>rfl) fun i _ e _=>M i e;obtain⟨q,H2,J,o,f2,n2,o2⟩:=Bg (x:={x with n:=0}) m (by omega) (by omega) f;simp only[eE,seval,↓eP,ab,A,C,B,c,D,Q,FX,S,FC,T,w,y,BB,FY,AM,W,d,K,I,Jq,J,V];refine⟨j,by omega,by omega,by omega,fun i e=>by grind,?_⟩;rw[z,k];exact o
 have D:decide ((i:Int)<(l.length:Int))=false:=by grind
 have:i=l.length:=by omega
 subst this;rw[List.take_length]at r;simp only[eE,seval,↓eP,hr,A,C,B,c,D];exact⟨r.b (MT _),O,E,F⟩
theorem k8{l:List AF}{v:Value}(m:A8 h v l)(o:l.length<2932031007403)(j:h.b<=h.a)(p:l.length+10<n):∃d b,AN n 178 [v] h=some (d,b)/\A8 b d (AU l)/\b.b=h.b/\h.a<=b.a/\∀i,i<h.a->b.c i=h.c i:=by
 obtain⟨n,rfl⟩:=BX p;have k:=GY (n:=n) (R:=fun d b=>AL h.a b d (AU l).length 5 ((AU l).flatMap AQ)/\b.b=h.b/\h.a<=b.a/\∀i,i<h.a->b.c i=h.c i) (BF (f:=178) (args:=[v]) (h:=h) ⟨rfl,rfl,rfl⟩) (Xf (call:=AN n) (N:=n) m o j (by omega)) fun d r q _⟨g,_⟩=>⟨g.h ?_ _ _,rfl,af _,fun _ _=>rfl⟩
 .obtain⟨d,b,e,g,a⟩:=k;exact⟨d,b,e,(JZ.b g).1,a⟩
 .obtain⟨_,a,c,rfl,_⟩:=g;exact q
theorem k9{nm:ByteArray}{s:AS}{F:Value}{lo:Nat}(hp:CG lo h F nm s)(G:∀x∈s.a,x.b<=9223372036854775807)(hs:F7 s)(hl:s.a.length<2932031007403)(h4:h.b<=h.a)(hn:DS s+100200<n):∃E,AW prog (AN n) N 115 [F] h=some (iv (DQ nm s),E)/\∀i,i<h.a->E.c i=h.c i:=by
 obtain⟨c,d,f,g,j,k,rfl,I,W,X,Y,Z,p6⟩:=hp;refine EA (R:=fun E=>∀i,i<h.a->E.c i=h.c i) func115 rfl (by simp) ?_;have J:f115.results.toList=[.tmp 2]:=rfl;have h0:DS s=s.a.length+s.b.length+s.f.length+s.g.length+s.d.length+s.h.length:=rfl;have ca:=C9 [.string nm,c,d,f,g,j,k,iv s.c];have oa:=IV (nm:=nm) I W X Y Z p6;have gA:(h.d (.row [.string nm,c,d,f,g,j,k,iv s.c] 27 false false)).c h.a=.row [.string nm,c,d,f,g,j,k,iv s.c] 27 false false:=BJ;have gO:∀i,i<h.a->(h.d (.row [.string nm,c,d,f,g,j,k,iv s.c] 27 false false)).c i=h.c i:=fun i a=>AV a;have nA:(h.d (.row [.string nm,c,d,f,g,j,k,iv s.c] 27 false false)).a=h.a+1:=rfl;have fA:(h.d (.row [.string nm,c,d,f,g,j,k,iv s.c] 27 false false)).b=h.b:=rfl;show WK _ _ _ (.seq _ (.seq _ (.seq _ _))) _ _;simp only[eE,seval,ca,oa,EQ];generalize h.d (.row [.string nm,c,d,f,g,j,k,iv s.c] 27 false false)=A at*;have l1:AI 1 (A.c h.a)=some c:=by rw[gA];rfl
 have P1:A8 A c s.a:=I.1.a (by omega) gO;obtain⟨v',h1,K,L,f1,n1,o1⟩:=k8 (n:=n) P1 hl (by omega) (by omega);have h5:(AU s.a).length=s.a.length:=by rw[AU,bw]
 have B:∀x∈AU s.a,x.b<=9223372036854775807:=fun x hx=>by obtain⟨y,hy,rfl⟩:=jr.1 hx;have:=G y hy;unfold J9;split<;>exact this
 obtain⟨v2,M,C,F,rfl,O,f2,n2,o2⟩:=yv (n:=n) (h:=h1) (by omega) L (by omega) B (by omega);obtain⟨m,o,q,r,t,u,rfl,b1,b2,b3,b4,b5,b6⟩:=O;obtain⟨⟨hb,v⟩,s1,s2,P,n3,f3,o3⟩:=Sr (H:=M) (cs:=[.string (FE (AU s.a)).1,m,o,q,r,t,u,iv (FE (AU s.a)).2.c]) (e:=(DA (AU s.a)).1.1) (p:=(DA (AU s.a)).1.2) rfl (IV b1 b2 b3 b4 b5 b6) (by omega);simp only at s1 s2 P n3 f3 o3;have w:∀i,i<h.a->v.c i=h.c i:=by grind
 have HA:v.c h.a=.row [.string nm,c,d,f,g,j,k,iv s.c] 27 false false:=by grind
 have LA:AX 8 0 (v.c h.a)=some (.agg #[.string nm,c,d,f,g,j,k,iv s.c]):=by rw[HA];rfl
 have LB:AX 8 0 (v.c M.a)=some (.agg #[.string (FE (AU s.a)).1,m,o,q,r,t,u,iv (FE (AU s.a)).2.c]):=by rw[P.1];rfl
 have Q:AI 0 (v.c (M.a+1))=some (iv (DA (AU s.a)).1.1):=by rw[P.2];rfl
 have z:h.a<=v.a:=by omega
 have S:CG lo v (.agg #[.string nm,c,d,f,g,j,k,iv s.c]) nm s:=⟨c,d,f,g,j,k,rfl,I.a z fun i _ a=>w i a,W.b z fun i _ a=>w i a,X.b z fun i _ a=>w i a,Y.b z fun i _ a=>w i a,AK.U Z z fun i _ a=>w i a,AK.U p6 z fun i _ a=>w i a⟩;have T:CG h1.a v (.agg #[.string (FE (AU s.a)).1,m,o,q,r,t,u,iv (FE (AU s.a)).2.c]) (FE (AU s.a)).1 (FE (AU s.a)).2:=CG.a ⟨m,o,q,r,t,u,rfl,b1,b2,b3,b4,b5,b6⟩ (by omega) fun i _ a=>o3 i a;obtain⟨b,l,D⟩:=Zh (n:=n) (h:=v) S T hs (by omega);simp only[eE,seval,ab,CK,CJ,l1,K,C,NR,NQ,PK,GO,GS,I3,BU,s1,s2];cases U:((DA (AU s.a)).1.1 !=0)with
 |true=>
  rw[show DQ nm s=23 from ad fun V=>absurd V.1 (by grind)];simp only[eE,seval,↓eP,J,HX,HV,Q,U];exact w|false=>cases b with
  |true=>rw[show DQ nm s=0 from ag ⟨by grind,D.1 rfl⟩];simp only[eE,seval,↓eP,J,HX,HV,Q,U,C7,LA,LB,l];exact w|false=>rw[show DQ nm s=23 from ad fun V=>by have:=D.2 V.2;cases this];simp only[eE,seval,↓eP,J,HX,HV,Q,U,C7,LA,LB,l];exact w
theorem lM{nm:ByteArray}{s:AS}{c:Value}{lo:Nat}(d:CG lo h c nm s)(a:∀x∈s.a,x.b<=9223372036854775807)(e:F7 s)(f:s.a.length<2932031007403)(b:h.b<=h.a)(g:DS s+100300<n):AN n 115 [c] h=some (iv (DQ nm s),h):=by obtain⟨n,rfl⟩:=BX g;exact HF BF rfl (k9 (N:=n) d a e f b (by omega))
end
theorem uC{l:List AF}:∀(a b p q r:Nat),F_ l a p q->F_ l b q r->F_ l (a+b) p r|0,b,p,q,r,h,c=>by have:p=q:=h;grind|a+1,b,p,q,r,⟨d,e,f,g,i⟩,c=>by rw[show a+1+b=(a+b)+1 by omega];exact⟨d,e,f,g,uC a b d q r i c⟩
section
variable {call:AY} {N:Nat} {h:AA}
theorem o_{Z L:List AF}{v:Value}{at_ q:Nat}(a:KW L Z)(j:A8 h v L)(k:FQ Z at_ q)(l:L.length<30000000000000)(S:L.length+3<N:=by omega):AW prog call N 137 [v,iv at_] h=some (iv q,h):=by
 refine DO func137 rfl (by simp) ?_;have w:f137.results.toList=[.tmp 4]:=rfl;have z:=fun A=>j.c (h':=A);have m:=k.b;have T:=a.1;simp only[eE,seval,w];refine WK.b (fun i c=>c.h=h/\c.T.a 0=v/\c.T.a 1=iv ((at_+i:Nat):Int)/\∃r:Nat,c.T.a 5=iv r/\F_ Z r (at_+i) q) (q-at_) (by omega) ?_ ?_;.exact⟨rfl,by simp only[eE,seval],by simp only[eE,seval,fe],1,by simp only[eE,seval],q,k,m.1,m.2,rfl⟩
 rintro i⟨U,V⟩W⟨rfl,n,d,r,e,o⟩;simp only at n d e;cases r with
 |zero=>
  have f:at_+i=q:=o;have s:decide (((0:Nat):Int)>0)=false:=rfl;rw[f]at d;simp only[eE,seval,↓eP,d,e]|succ r=>
  obtain⟨X,B,Y,h3,t⟩:=o;have C:=HM _ _ _ t;have s:decide (((r+1:Nat):Int)>0)=true:=by simp
  have D:decide (((at_+i:Nat):Int)>=0)=true:=by grind
  have E:decide (((at_+i:Nat):Int)<(L.length:Int))=true:=by grind
  obtain⟨x,F,G,_,b⟩:=B.a;obtain⟨y,H,g⟩:=a.2 _ x F;obtain⟨id,p,I,J,l0,l1,l2,l3,u,lr⟩:=j.b H;rw[g]at u;have K:=HM _ _ _ b;have M:(if(L.length:Int)<x.b then(L.length:Int)else x.b)=x.b:=by omega
  have O:(if x.b>0 then x.b else 0)=x.b:=by omega
  have P:IntKind.i64.wrap (x.b-1)=x.b-1:=BR;have Q:IntKind.i64.wrap (((r+1:Nat):Int)+(x.b-1))=((x.b.toNat+r:Nat):Int):=by rw[BR];omega
  have R:IntKind.i64.wrap (((at_+i:Nat):Int)+1)=((at_+(i+1):Nat):Int):=by rw[BR];omega
  simp only[eE,seval,↓eP,rP,n,d,e,s,D,z,E,I,u,M,O,P,Q,R];exact⟨by omega,_,rfl,uC _ _ _ _ _ b t⟩
theorem v_{n:Nat}{Z L:List AF}{v:Value}{at_ q:Nat}(b:KW L Z)(c:A8 h v L)(d:FQ Z at_ q)(a:L.length<30000000000000)(e:L.length+5<n):AN n 137 [v,iv at_] h=some (iv q,h):=by
 obtain⟨n,rfl⟩:=BX e;exact FA BF rfl (o_ b c d a)
def A9(e:Nat->Nat):Nat->Nat->List Nat|0,_=>[]|k+1,p=>p::A9 e k (e p)
theorem OE{e:Nat->Nat}:∀k p,(A9 e k p).length=k|0,p=>rfl|k+1,p=>by show(A9 e k (e p)).length+1=_;rw[OE k (e p)]
def GM(h:AA)(lo:Nat)(v:Value)(l:List Int):Prop:=(v=Z0/\l=[])\/∃a c,v=qS a l.length c/\lo<=a/\a<h.a/\((c=AT/\h.c a=.row (ints l) 3 true false)\/(c=l.length/\h.c a=.row (ints l) 3 false false))
theorem GM.a{lo lo':Nat}{v:Value}{l:List Int}(d:GM h lo v l)(e:lo'<=lo):AK lo' h v l:=by
 rcases d with⟨rfl,rfl⟩|⟨f,c,rfl,g,b,⟨_,a⟩|⟨_,a⟩⟩;.exact AL.e lo' h 1
 .exact AK.Y a ⟨by omega,b⟩ rfl
 .exact AK.Y a ⟨by omega,b⟩ rfl
theorem GM.c{h':AA}{lo:Nat}{v:Value}{l:List Int}(b:GM h lo v l)(f:h.a<=h'.a)(g:∀i,lo<=i->i<h.a->h'.c i=h.c i):GM h' lo v l:=by
 rcases b with a|⟨d,c,a,e,j,k⟩;.exact .inl a
 .exact .inr ⟨d,c,a,e,by omega,by grind⟩
theorem ZX:(Value.int .i64 0).cells.size=1:=rfl
theorem S6{lo:Nat}{v:Value}{l:List Int}{x:Int}(r:GM h lo v l)(s:lo<=h.a)(w:h.b<=lo)(y:l.length<17592186044415):∃o e,DR prog (h.d (.row [iv x] 3 false false)) 25 v (qS h.a 1 1)=some (o,e)/\GM e lo o (l++[x])/\e.b=h.b/\h.a<=e.a/\∀i,i<lo->e.c i=h.c i:=by
 have a:EL (h.d (.row [iv x] 3 false false)) 1 1 (qS h.a 1 1)=some [iv x]:=by simp only[EL,BJ];rfl
 have b:([iv x]:List Value).all one=true:=rfl;have f:ints (l++[x])=ints l++[iv x]:=by simp[ints]
 rcases r with⟨rfl,rfl⟩|⟨g,c,rfl,z,p,t⟩
 .have j:(0:Nat)≠AT:=by unfold AT;omega
  refine⟨.slice (some ⟨(h.d (.row [iv x] 3 false false)).a,0,none⟩) 1 AT,(h.d (.row [iv x] 3 false false)).d (.row [iv x] 3 true false),?_,.inr ⟨_,AT,rfl,?_,?_,.inl ⟨rfl,BJ⟩⟩,rfl,by show h.a<=h.a+1+1;omega,fun i q=>?_⟩
  .have k:EL (h.d (.row [iv x] 3 false false)) 1 0 (Z0)=some []:=by simp[EL]
   simp only[DR,au,B_,IZ,GD,ZX,a,b,k];rw[ag (by simp),ag cj,ad j,ad (by omega),ag (by simp)];rfl
  .show lo<=h.a+1;omega
  .show h.a+1<h.a+1+1;omega
  .rw[AV (by show i<h.a+1;omega),AV]
 .have u:=IE l;rcases t with⟨rfl,m⟩|⟨rfl,m⟩
  .have A:l.length<=AT:=by unfold AT;omega
   have n:(h.d (.row [iv x] 3 false false)).c g=.row (ints l) 3 true false:=by rw[AV p];exact m
   have d:GN (ints l) 0 (l.length*1)=some (ints l):=by
    simp only[GN,gn];grind
   refine⟨.slice (some ⟨(h.d (.row [iv x] 3 false false)).a,0,none⟩) (l.length+1) AT,((h.d (.row [iv x] 3 false false)).e g .dead).d (.row (ints l++[iv x]) 3 true false),?_,.inr ⟨_,AT,by rw[ch];rfl,?_,?_,.inl ⟨rfl,?_⟩⟩,rfl,by show h.a<=h.a+1+1;omega,fun i q=>?_⟩;.simp only[DR,au,B_,IZ,GD,ZX,a,b,n,d,MJ];rw[ag (by grind),ag cj,ag cj,ag (by rw[CE,bh (show(l.length+1)*8<=140737488355328 by omega),bh (show l.length+1<=140737488355328 by omega),bh (show h.b<=g by omega)];rfl),ad (by decide),ag cj,ag cj]
   .show lo<=h.a+1;omega
   .show h.a+1<h.a+1+1;omega
   .rw[f];exact BJ
   .rw[AV (by show i<h.a+1;omega),AP (by show g<h.a+1;omega) (by omega),AV]
  .have d:EL (h.d (.row [iv x] 3 false false)) 1 l.length (qS g l.length l.length)=some (ints l):=by
    by_cases k:l.length=0;.rw[fb.1 k];rfl
    .simp only[EL,AV p,m,GN,gn];grind
   refine⟨.slice (some ⟨(h.d (.row [iv x] 3 false false)).a,0,none⟩) (l.length+1) AT,(h.d (.row [iv x] 3 false false)).d (.row (ints l++[iv x]) 3 true false),?_,.inr ⟨_,AT,by rw[ch];rfl,?_,?_,.inl ⟨rfl,?_⟩⟩,rfl,by show h.a<=h.a+1+1;omega,fun i q=>?_⟩
   .simp only[DR,au,B_,IZ,GD,ZX,a,b,d];rw[ag (by simp),ag cj,ad (by unfold AT;omega),ad (by omega),ag (by simp only[ah,am];omega)]
   .show lo<=h.a+1;omega
   .show h.a+1<h.a+1+1;omega
   .rw[f];exact BJ
   .rw[AV (by show i<h.a+1;omega),AV]
theorem Ad{n:Nat}{Z L:List AF}{v:Value}{at_:Nat}{x:AF}(ht:DM Z)(d:KW L Z)(z:A8 h v L)(A:Z[at_]?=some x)(O:L.length<2932031007403)(hn:L.length+10<n)(hN:L.length+3<N)(h0:h.b<=h.a):∃t a,AW prog (AN n) N 72 [v,iv at_] h=some (t,a)/\(GM a h.a t ((A9 (AE Z) x.b.toNat (at_+1)).map (fun(k:Nat)=>(k:Int)))/\a.b=h.b/\h.a<=a.a/\∀i,i<h.a->a.c i=h.c i):=by
 refine G_ (R:=fun t a=>GM a h.a t ((A9 (AE Z) x.b.toNat (at_+1)).map (fun(k:Nat)=>(k:Int)))/\a.b=h.b/\h.a<=a.a/\∀i,i<h.a->a.c i=h.c i) func72 rfl (by simp) ?_;have hr:f72.results.toList=[.tmp 4]:=rfl;have P:=fun(a:AA)=>z.c (h':=a);have B:=(ae.1 A).1;have hZ:=d.1;have Q:=ht.U B;obtain⟨x',g,h1,_,m⟩:=Q.a;rw[A]at g;cases g;have hq:=Q.b;have h2:=HM _ _ _ m;obtain⟨y,hy,C⟩:=d.2 _ x A;obtain⟨id,p,e0,h3,l0,l1,l2,l3,S,lr⟩:=z.b hy;rw[C]at S;have c1:decide ((at_:Int)<0)=false:=by simp
 have c2:decide ((at_:Int)>=(L.length:Int))=false:=by grind
 have w1:=DU at_;simp only[eE,seval,↓eP,rP,hr,c1,P,c2,w1,e0,S];refine WK.b (fun i b=>b.T.a 0=v/\b.T.a 21=iv x.b/\b.T.a 22=iv i/\i<=x.b.toNat/\h.a<=b.h.a/\b.h.b=h.b/\(∀j,j<h.a->b.h.c j=h.c j)/\∃p l w,b.T.a 6=iv ((p:Nat):Int)/\b.T.a 5=w/\GM b.h h.a w (l.map (fun(k:Nat)=>(k:Int)))/\l.length=i/\l++A9 (AE Z) (x.b.toNat-i) p=A9 (AE Z) x.b.toNat (at_+1)/\F_ Z (x.b.toNat-i) p (AE Z at_)) x.b.toNat (by omega) ?_ ?_;.exact⟨by simp only[eE,seval],by simp only[eE,seval],by simp only[eE,seval],by omega,af _,rfl,fun _ _=>rfl,at_+1,[],Z0,by simp only[eE,seval],by simp only[eE,seval],.inl ⟨rfl,rfl⟩,rfl,rfl,m⟩
 rintro i⟨T1,H1⟩hi⟨T,e,f,h4,D,U,u,p,l,w,V,E,F,h5,c,W⟩;simp only at T e f D U u V E F;by_cases G:i<x.b.toNat
 .have H:decide ((i:Int)<x.b)=true:=by grind
  obtain⟨r,I⟩:∃r,x.b.toNat-i=r+1:=⟨x.b.toNat-i-1,by omega⟩;rw[I]at W c;obtain⟨X,Y,s2,s3,s4⟩:=W;have h6:=HM _ _ _ s4;have d2:decide ((p:Int)>=(L.length:Int))=false:=by grind
  have J:=JN Y;obtain⟨w',H',o,h7,fH,nH,oH⟩:=S6 (x:=(p:Int)) F D (by omega) (by grind);have K:A8 H' v L:=z.a (by omega) fun j q=>(oH j q).trans (u j q);have s:=v_ (n:=n) d K Y (by omega) (by omega);have w2:=DU i;simp only[eE,seval,↓eP,T,e,f,E,V,H,P,d2,KE,o,s,w2];refine⟨G,by omega,by omega,by omega,fun j q=>(oH j q).trans (u j q),X,l++[p],w',rfl,rfl,?_,by grind,?_,?_⟩;.grind
  .rw[gh,<-c,show x.b.toNat-(i+1)=r by omega];show l++(p::A9 (AE Z) r X)=l++(p::A9 (AE Z) r (AE Z p));rw[J]
  .grind
 .have H:decide ((i:Int)<x.b)=false:=by grind
  rw[show x.b.toNat-i=0 by omega]at c;have M:l=A9 (AE Z) x.b.toNat (at_+1):=by rw[<-c];exact(dm l).symm
  subst M;simp only[eE,seval,↓eP,e,f,E,H];exact⟨F,U,D,u⟩
theorem GM.b{lo:Nat}{v:Value}{l:List Int}(a:GM h lo v l)(b:E5 v=true)(h':AA)(lo':Nat):GM h' lo' v l:=by
 rcases a with d|⟨e,c,rfl,_⟩;.exact .inl d
 .cases b
theorem bB{n:Nat}{Z L:List AF}{v:Value}{at_:Nat}{x:AF}(c:DM Z)(d:KW L Z)(g:A8 h v L)(j:Z[at_]?=some x)(a:L.length<2932031007403)(l:L.length+20<n)(e:h.b<=h.a):∃f b,AN n 72 [v,iv at_] h=some (f,b)/\(GM b h.a f ((A9 (AE Z) x.b.toNat (at_+1)).map (fun(k:Nat)=>(k:Int)))/\b.b=h.b/\h.a<=b.a/\∀i,i<h.a->b.c i=h.c i):=by obtain⟨n,rfl⟩:=BX l;exact GY BF (Ad (n:=n) (N:=n) c d g j a (by omega) (by omega) e) fun f o m _ c=>⟨c.1.b m _ _,rfl,af _,fun _ _=>rfl⟩
end
section
variable {l:List AF} {m:Nat}
theorem pQ{p:Nat}{a:Int}(h:(C6 BG l m p a).2=true):∃y:AF,l[p]?=some y/\CX a y.a=true/\EW BG y=true:=by cases m with|zero=>cases h|succ m=>unfold C6 at h;grind
theorem Nu{b:Int}:∀r k p q,G9 (fun k a=>C6 BG l m a (CH b k)) r k p=(q,true)->∀(j p':Nat),(A9 (AE l) r p)[j]?=some p'->∃y:AF,l[p']?=some y/\CX (CH b (k+j)) y.a=true:=by intro r;induction r with
 |zero=>intro k p q _ j p' h;simp[A9]at h|succ r f=>
  intro k p q h j p' d;unfold G9 at h;split at h
  .rename_i c;have g:=JN (.inl ⟨m,CH b k,Prod.ext rfl c⟩);cases j with
   |zero=>
    have:p=p':=by simpa[A9]using d
    subst this;obtain⟨y,i,n,_⟩:=pQ c;grind|succ j=>
    have e:(A9 (AE l) r (AE l p))[j]?=some p':=by assumption
    grind
  .cases h
theorem Ak:∀(r:Nat)(b:Bool)(p q:Nat),GG BG l m r b p=(q,true)->∀(j p':Nat),(A9 (AE l) r p)[j]?=some p'->∃y:AF,l[p']?=some y/\2<=y.a/\y.a<=10:=by intro r;induction r with|zero=>intro k p q _ j p' h;simp[A9]at h|succ r g=>
  intro b p q h j p' d;unfold GG at h;split at h;.rename_i c;have i:=JN (.inl ⟨m,_,Prod.ext rfl c⟩);cases j with
   |zero=>
    have:p=p':=by simpa[A9]using d
    subst this;obtain⟨y,e,a,_⟩:=pQ c;refine⟨y,e,?_⟩;unfold KC at a;split at a;.unfold CX at a;grind
    .unfold CX at a;grind|succ j=>
    have f:(A9 (AE l) r (AE l p))[j]?=some p':=by assumption
    grind
  .cases h
theorem DM.Z{i:Nat}{x:AF}(d:DM l)(a:l[i]?=some x){k p:Nat}(b:(A9 (AE l) x.b.toNat (i+1))[k]?=some p):∃y:AF,l[p]?=some y/\(CX (CH x.a k) y.a=true\/(2<=y.a/\y.a<=10)):=by
 obtain⟨q,e⟩:∃q,FQ l i q:=⟨_,d.U (ae.1 a).1⟩;rcases e with⟨m,c,h⟩|⟨rfl,m,h⟩;.cases m with
  |zero=>cases h|succ m=>
   unfold C6 at h;rw[a]at h;simp only at h;split at h;.obtain⟨y,f,g⟩:=Nu _ _ _ _ h k p b;grind
   .cases h
 .unfold JD at h;rw[a]at h;simp only at h;split at h
  .obtain⟨y,f,g⟩:=Ak _ _ _ _ h k p b;grind
  .cases h
theorem DM.X{i:Nat}{x:AF}(b:DM l)(c:l[i]?=some x):EW BG x=true:=by
 obtain⟨q,d⟩:∃q,FQ l i q:=⟨_,b.U (ae.1 c).1⟩;rcases d with⟨m,a,h⟩|⟨rfl,m,h⟩
 .obtain⟨y,e,_,f⟩:=pQ (jj (·.2) h);grind
 .unfold JD at h;grind
theorem DM.O{i:Nat}{x y:AF}(j:DM l)(n:l[i]?=some x){k p:Nat}(c:(A9 (AE l) x.b.toNat (i+1))[k]?=some p)(q:l[p]?=some y)(s:y.a=24):p=i+1/\(x.a=19\/x.a=20):=by
 obtain⟨w,o,a⟩:=j.Z n c;rw[q]at o;cases o;have d:=j.X n;unfold EW at d;simp only[ah,am,bu]at d;obtain⟨⟨_,z⟩,b⟩:=d;have f:x.a=19\/x.a=20:=by
  rcases a with a|a
  .rw[s]at a;unfold CH at a;by_cases A:x.a=19;.omega
   .by_cases B:x.a=20;.omega
    .exfalso;have t:([19,20]:List Int).contains x.a=false:=by grind
     rw[t]at a;(repeat' split at a)<;>first|(simp[CX]at a;done)|simp_all[CX]
  .omega
 have u:x.b<=1:=by rcases f with e|e<;>(rw[e]at b;rcases b with b|b<;>simp[DV]at b<;>omega)
 have g:=(ae.1 c).1;rw[OE]at g;have h:k=0:=by omega
 subst h;obtain⟨r,v⟩:∃r,x.b.toNat=r+1:=⟨x.b.toNat-1,by omega⟩;rw[v]at c;have:i+1=p:=by simpa[A9]using c
 omega
theorem qF:∀(r p q:Nat),F_ l r p q->∀a,p<=a->a<q->∃(j b:Nat),(A9 (AE l) r p)[j]?=some b/\p<=b/\b<=a/\a<AE l b:=by
 intro r;induction r with
 |zero=>intro p q h a c d;have:p=q:=h;omega|succ r f=>
  intro p q⟨b,g,s,t,i⟩a c d;have u:=JN g;rcases ar a b with e|e;.exact⟨0,p,by simp[A9],af _,c,by omega⟩
  .obtain⟨j,k,v,w,n,o⟩:=f b q i a e d;refine⟨j+1,k,?_,by omega,n,o⟩;show(p::A9 (AE l) r (AE l p))[j+1]?=_;grind
theorem DM.Y(b:DM l):∀(n i at_:Nat),at_<=i+n->i<at_->at_<AE l i->i<l.length->∃(j:Nat)(x:AF)(k:Nat),l[j]?=some x/\j<at_/\(A9 (AE l) x.b.toNat (j+1))[k]?=some at_:=by
 intro n;induction n with
 |zero=>omega|succ n d=>
  intro i at_ r s e f;obtain⟨x,g,_,_,h⟩:=(b.U f).a;obtain⟨j,p,o,t,u,q⟩:=qF _ _ _ h at_ (by omega) e;rcases ar p at_ with c|c
  .have a:p<l.length:=by
    obtain⟨y,v,_⟩:=b.Z g o;grind
   exact d p at_ (by omega) c q a
  grind
end
def BM(k:Int):Int:=if[27,28,31,32,33,34,38,39,40,41,43,44,45,46].contains k then 1 else if[29,30,35,36,37,42,47,48,49,50,51,52,53,54].contains k then 2 else 0
def C4(kind:Int)(k:Nat)(first:Int):Int:=if[4,5,14,41,39,40,43,44,45,46,49,50,51,52].contains kind then 1 else if kind=15 then(if k=1 then 1 else 0)else if[6,42,53,54].contains kind then 2 else if kind=12 then(if k=0 then 2 else 0)else if kind=13 then(if k=0 then 1 else if k=1 then 2 else 0)else if[47,48].contains kind then(if k=1 then first else 0)else 0
def MD(k:Int):Bool:=[28,31,34,35,36,37,38].contains k
def KP(kind:Int)(k:Nat):Bool:=[4,5,6].contains kind||(kind==13&&k==0)
def QR(Q:List (ByteArray×Bool))(n:Int):Bool:=((Q[n.toNat]?).map (·.2)).getD false
def ME(Q:List (ByteArray×Bool))(x up:AF):Bool:=if[8,17,20].contains x.a then QR Q x.n else if[9,21].contains x.a then !(QR Q x.n)else if x.a=24 then(if up.a=20 then !(QR Q x.n)else QR Q x.n !=QR Q up.n)else false
structure K5 where
 A:List Int
 C:List Bool
 U:List Int
def K4(i:Nat)(x:AF)(first:Int)(s:K5)(k p:Nat):K5:=⟨s.A.set p (C4 x.a k first),s.C.set p (((s.C[i]?).getD false)||KP x.a k),s.U.set p (i:Int)⟩
def JW(i:Nat)(x:AF)(first:Int):Nat->List Nat->K5->K5|_,[],s=>s|k,p::a,s=>JW i x first (k+1) a (K4 i x first s k p)
def MU(R:List AF)(e:Nat->Nat)(i:Nat)(s:K5):K5:=match R[i]? with|none=>s|some x=>JW i x (BM (((R[i+1]?).map (·.a)).getD 0)) 0 (A9 e x.b.toNat (i+1)) s
def CN(R:List AF)(e:Nat->Nat):Nat->K5|0=>⟨List.replicate R.length 0,List.replicate R.length false,List.replicate R.length 0⟩|i+1=>MU R e i (CN R e i)
def KI(R:List AF)(Q:List (ByteArray×Bool))(s:K5)(i:Nat)(x:AF):Int:=if((s.A[i]?).getD 0)≠0/\BM x.a≠(s.A[i]?).getD 0 then 41 else if((s.C[i]?).getD false&&MD x.a)=true then 42 else if ME Q x ((R[((s.U[i]?).getD 0).toNat]?).getD ⟨0,ByteArray.empty,0,0,0⟩)=true then 46 else 0
def GX(R:List AF)(Q:List (ByteArray×Bool))(e:Nat->Nat):Nat->Nat->(Int×Int)×List Int|0,_=>((0,0),R.map (BM ·.a))|r+1,i=>match R[i]? with|none=>((0,0),R.map (BM ·.a))|some x=>if KI R Q (CN R e i) i x≠0 then((KI R Q (CN R e i) i x,(i:Int)),[])else GX R Q e r (i+1)
section
variable {i:Nat} {x:AF} {first:Int}
theorem oW:∀(ps:List Nat)(k:Nat)(s:K5),(JW i x first k ps s).A.length=s.A.length/\(JW i x first k ps s).C.length=s.C.length/\(JW i x first k ps s).U.length=s.U.length|[],k,s=>⟨rfl,rfl,rfl⟩|p::ps,k,s=>by have:=oW ps (k+1) (K4 i x first s k p);simpa[JW,K4]using this
theorem fI:∀(ps:List Nat)(k:Nat)(s:K5)(q:Nat),q∉ps->(JW i x first k ps s).A[q]?=s.A[q]?/\(JW i x first k ps s).C[q]?=s.C[q]?/\(JW i x first k ps s).U[q]?=s.U[q]?
 |[],k,s,q,_=>⟨rfl,rfl,rfl⟩|p::ps,k,s,q,h=>by
  have d:q≠p:=by grind
  have f:=fun e=>h (iZ _ e);obtain⟨a,b,c⟩:=fI ps (k+1) (K4 i x first s k p) q f;refine⟨a.trans ?_,b.trans ?_,c.trans ?_⟩;.exact bf (bc d)
  .exact bf (bc d)
  .exact bf (bc d)
theorem Es:∀(ps:List Nat)(k:Nat)(s:K5)(q:Nat),q∈ps->q<s.U.length->(JW i x first k ps s).U[q]?=some (i:Int)
 |[],k,s,q,h,_=>by cases h|p::ps,k,s,q,h,a=>by
  by_cases b:q∈ps;.exact Es ps (k+1) (K4 i x first s k p) q b (by simpa[K4]using a)
  .have c:q=p:=by grind
   subst c;exact(fI ps (k+1) (K4 i x first s k q) q b).2.2.trans (br a)
end
theorem RA{l:List AF}:∀r p q,F_ l r p q->∀z∈A9 (AE l) r p,p<=z
 |0,p,q,_,z,b=>by cases b|r+1,p,q,⟨c,d,f,g,e⟩,z,b=>by
  have a:z=p\/z∈A9 (AE l) r (AE l p):=by simpa[A9]using b
  rcases a with rfl|a;.omega
  .rw[JN d]at a;have:=RA r c q e z a;omega
section
variable {R:List AF}
theorem W7(e:Nat->Nat):∀i,(CN R e i).A.length=R.length/\(CN R e i).C.length=R.length/\(CN R e i).U.length=R.length|0=>by simp[CN]|i+1=>by have h:=W7 e i;unfold CN MU;cases a:R[i]? with|none=>exact h|some x=>have:=oW (i:=i) (x:=x) (first:=BM (((R[i+1]?).map (·.a)).getD 0)) (A9 e x.b.toNat (i+1)) 0 (CN R e i);grind
theorem An(d:DM R){i:Nat}:∀j,i<=j->(CN R (AE R) j).A[i]?=(CN R (AE R) i).A[i]?/\(CN R (AE R) j).C[i]?=(CN R (AE R) i).C[i]?/\(CN R (AE R) j).U[i]?=(CN R (AE R) i).U[i]?:=by
 intro j;induction j with
 |zero=>grind|succ j e=>
  intro h;rcases ar j i with a|a;.grind
  .have l:=e a;have m:(CN R (AE R) (j+1)).A[i]?=(CN R (AE R) j).A[i]?/\(CN R (AE R) (j+1)).C[i]?=(CN R (AE R) j).C[i]?/\(CN R (AE R) (j+1)).U[i]?=(CN R (AE R) j).U[i]?:=by
    have f:CN R (AE R) (j+1)=MU R (AE R) j (CN R (AE R) j):=rfl;rw[f];unfold MU;cases b:R[j]? with|none=>exact⟨rfl,rfl,rfl⟩|some x=>
     simp only;obtain⟨y,c,_,_,g⟩:=(d.U (ae.1 b).1).a;rw[b]at c;cases c;exact fI _ 0 _ i fun k=>by
      have:=RA _ _ _ g i k;omega
   grind
theorem Ap(a:DM R){at_:Nat}{y:AF}(c:R[at_]?=some y)(b:y.a=24)(h0:0<at_):(CN R (AE R) at_).U[at_]?=some ((at_-1:Nat):Int):=by
 have f:=(ae.1 c).1;have g:=JN a;obtain⟨j,x,k,d,h,e⟩:=a.Y at_ 0 at_ (by omega) h0 (by omega) (by omega);obtain⟨l,_⟩:=a.O d e c b;obtain⟨i,rfl⟩:∃i,at_=i+1:=⟨at_-1,by omega⟩;obtain rfl:j=i:=by omega
 rw[Nat.add_sub_cancel];unfold CN MU;rw[d];exact Es _ 0 _ _ (aw e) (by rw[(W7 (AE R) j).2.2];exact f)
end
def S9(s:AS)(k n:Int)(nm:ByteArray):Prop:=0<=n/\((k=1/\∃b,s.b[n.toNat]?=some (nm,b))\/(k=2/\s.f[n.toNat]?=some nm)\/(k=3/\s.g[n.toNat]?=some nm)\/(k=4/\∃a:Nat,s.d[n.toNat]?=some ((a:Int)+1)/\∃y:AF,s.a[a]?=some y/\y.c=nm))
structure XB (s s':AS):Prop where
 q:∀ (i:Nat) x,s.b[i]?=some x->s'.b[i]?=some x
 v:∀ (i:Nat) x,s.f[i]?=some x->s'.f[i]?=some x
 t:∀ (i:Nat) x,s.g[i]?=some x->s'.g[i]?=some x
 u:∀ (i:Nat) x,s.d[i]?=some x->s'.d[i]?=some x
 r:∀ (i:Nat) (y:AF),s.a[i]?=some y->∃ y':AF,s'.a[i]?=some y'/\y'.c=y.c
theorem S9.a{s s':AS}{k n:Int}{nm:ByteArray}(h:S9 s k n nm)(d:XB s s'):S9 s' k n nm:=by
 refine⟨h.1,?_⟩;rcases h.2 with⟨a,b,c⟩|⟨a,c⟩|⟨a,c⟩|⟨a,e,c,y,f,g⟩;.exact .inl ⟨a,b,d.q _ _ c⟩
 .exact .inr (.inl ⟨a,d.v _ _ c⟩)
 .exact .inr (.inr (.inl ⟨a,d.t _ _ c⟩))
 .obtain⟨i,j,l⟩:=d.r _ _ f;exact .inr (.inr (.inr ⟨a,e,d.u _ _ c,i,j,l.trans g⟩))
theorem iA{a:Type}{l:List a}{i:Nat}{x y:a}(h:l[i]?=some x):(l++[y])[i]?=some x:=by grind
theorem Rj{l:List AF}{k i:Nat}{n:Int}{y:AF}(h:l[i]?=some y):∃a:AF,(JF l k n)[i]?=some a/\a.c=y.c:=by
 by_cases b:i=k
 .subst b;exact⟨_,OH h,rfl⟩
 .exact⟨y,(SI b).trans h,rfl⟩
theorem xI{k:Int}(h:FN k≠0):CR k=0:=by
 unfold CR;unfold FN at h;split
 .rename_i a;simp only[dx,dO,dC,bu,ak]at a;rcases a with rfl|rfl<;>exact absurd rfl h
 split;.simp_all
 split;.simp_all
 split;.simp_all
 rfl
def M0(k:Int):Int:=FN k+CR k
theorem Xk{k:Int}(h:M0 k=0):FN k=0/\CR k=0:=by have:=Jt k;have:=W8 k;unfold M0 at h;omega
structure PR (l:List AF) (at_:Nat) (s:AS):Prop where
 b:∀ (i:Nat) (x:AF),i<at_->s.a[i]?=some x->(M0 x.a=0->l[i]?=some x)/\(M0 x.a≠0->S9 s (M0 x.a) x.n x.c)
 a:∀ t∈s.e,S9 s t.a t.c t.d
theorem PR.c{l:List AF}{at_:Nat}{s s':AS}(h:PR l at_ s)(c:XB s s')(f:∀i,i<at_->s'.a[i]?=s.a[i]?)(g:∀t∈s'.e,t∈s.e\/S9 s' t.a t.c t.d):PR l at_ s' where
 b:=fun i x d e=>by
  rw[f i d]at e;obtain⟨b,a⟩:=h.b i x d e;exact⟨b,fun j=>(a j).a c⟩
 a:=fun t b=>by
  rcases g t b with a|a;.exact(h.a t a).a c
  .exact a
theorem As{at_:Nat}{end_:Int}{x:AF}{s:AS}:XB s (HE at_ end_ x s)where
 q:=fun i y h=>by simp only[HE];grind
 v:=fun i y h=>by simp only[HE];grind
 t:=fun i y h=>by simp only[HE];grind
 u:=fun i y h=>by simp only[HE];grind
 r:=fun i y h=>Rj h
theorem At(s:AS):XB s s:=⟨fun _ _ h=>h,fun _ _ h=>h,fun _ _ h=>h,fun _ _ h=>h,fun _ y h=>⟨y,h,rfl⟩⟩
theorem m_{a:Type}(l:List a)(y:a):(l++[y])[l.length]?=some y:=by simp
theorem Aw{at_:Nat}{end_:Int}{x:AF}{s:AS}(a:s.a[at_]?=some x)(c:CR x.a≠0):S9 (HE at_ end_ x s) (CR x.a) (CI s (CR x.a)) x.c:=by
 have d:=W8 x.a;refine⟨by omega,?_⟩;rw[gy];have b:CR x.a=1\/CR x.a=2\/CR x.a=3\/CR x.a=4:=by omega
 rcases b with e|e|e|e
 .refine .inl ⟨e,x.a==3,?_⟩;simp only[HE,CI,e];simp
 .refine .inr (.inl ⟨e,?_⟩);simp only[HE,CI,e];simp
 .refine .inr (.inr (.inl ⟨e,?_⟩));simp only[HE,CI,e];simp
 .refine .inr (.inr (.inr ⟨e,at_,?_,_,OH a,rfl⟩));simp only[HE,CI,e];simp
theorem Az{l:List AF}{at_:Nat}{end_:Int}{x:AF}{s:AS}(h:PR l at_ s)(b:s.a[at_]?=some x):PR l at_ (CQ at_ end_ x s)/\∃n,(CQ at_ end_ x s).a[at_]?=some {x with n:=n}/\(CR x.a=0->n=x.n)/\(CR x.a≠0->S9 (CQ at_ end_ x s) (CR x.a) n x.c):=by
 unfold CQ;by_cases a:CR x.a=0;.simp_all
 .rw[ad a];have c:=Aw (end_:=end_) b a;refine⟨h.c As (fun i f=>SI) fun t d=>?_,_,OH b,fun e=>absurd e a,fun _=>c⟩;simp only[HE,ji,fv,gH,or_false]at d;grind
theorem Tn{l:List AF}{at_:Nat}{x:AF}{s:AS}(h:PR l at_ s)(g:s.a[at_]?=some x)(b:EI at_ x s=0):PR l at_ (C2 at_ x s)/\XB s (C2 at_ x s)/\∃n,(C2 at_ x s).a[at_]?=some {x with n:=n}/\(FN x.a=0->n=x.n)/\(FN x.a≠0->S9 (C2 at_ x s) (FN x.a) n x.c):=by
 unfold C2;unfold EI at b;by_cases a:FN x.a=0
 .rw[ag a];exact⟨h,At s,x.n,g,fun _=>rfl,fun c=>absurd a c⟩
 .rw[ad a]at b⊢;cases d:I8 s.e x.c with
  |none=>grind|some t=>
   simp only[d]at b⊢;have k:t.a=FN x.a:=by omega
   have e:t.d=x.c:=by
    have:=List.find?_some d;exact(OA this).symm
   have f:XB s {s with a:=JF s.a at_ t.c}:=⟨fun _ _ h=>h,fun _ _ h=>h,fun _ _ h=>h,fun _ _ h=>h,fun _ y h=>Rj h⟩;have j:=(h.a t (pY d)).a f;rw[k,e]at j;exact⟨h.c f (fun i o=>SI) fun t m=>.inl m,f,_,OH g,fun c=>absurd c a,fun _=>j⟩
theorem Bf{l:List AF}{E:List Int}{at_:Nat}{s:AS}(d:at_<l.length)(hi:JI l at_ s)(h:PR l at_ s)(h0:(GB E at_ s).1=0):PR l (at_+1) (GB E at_ s).2:=by
 obtain⟨x,e⟩:∃x,s.a[at_]?=some x:=⟨_,aa (by rw[hi.a];exact d)⟩;have B:l[at_]?=some x:=by rw[<-hi.b at_ (af _)];exact e
 unfold GB at h0⊢;rw[e]at h0⊢;simp only at h0⊢;by_cases p:FV x s=0;case neg=>rw[ag p]at h0;exact absurd h0 p
 rw[ad (by omega)]at h0⊢;obtain⟨C,q,r,M,D⟩:=Az (end_:=(E[at_]?).getD 0) h e;generalize CQ at_ ((E[at_]?).getD 0) x s=u at*;rw[r]at h0⊢;simp only at h0⊢;by_cases F:EI at_ {x with n:=q} u=0;case neg=>grind
 rw[ad (by omega)]at h0⊢;obtain⟨G,H,b,f,v,w⟩:=Tn C r F;simp only at f v w;generalize C2 at_ {x with n:=q} u=a at*;rw[f]at h0⊢;simp only at h0⊢;by_cases N:EY {x with n:=b} a=0;case neg=>grind
 rw[ad (by omega)]at h0⊢;have g:(EZ at_ {x with n:=b} a).b=a.b/\(EZ at_ {x with n:=b} a).f=a.f/\(EZ at_ {x with n:=b} a).g=a.g/\(EZ at_ {x with n:=b} a).d=a.d/\(EZ at_ {x with n:=b} a).a=a.a/\(EZ at_ {x with n:=b} a).e=a.e:=by
  unfold EZ;split;.simp
  .split<;>exact⟨rfl,rfl,rfl,rfl,rfl,rfl⟩
 obtain⟨O,P,Q,R,z,S⟩:=g;generalize EZ at_ {x with n:=b} a=I at*;have c:XB a I:=⟨fun i y h=>by grind,fun i y h=>by grind,fun i y h=>by grind,fun i y h=>by grind,fun i y h=>⟨y,by grind,rfl⟩⟩;have A:=G.c c (fun i _=>by rw[z]) fun t T=>.inl (by grind);refine⟨fun i y J j=>?_,A.a⟩;by_cases k:i=at_
 .subst k;rw[z,f]at j;cases j;simp only;refine⟨fun m=>?_,fun m=>?_⟩
  .obtain⟨K,U⟩:=Xk m;simp_all
  .by_cases o:FN x.a=0
   .have L:CR x.a≠0:=fun K=>m (by unfold M0;omega);rw[show M0 x.a=CR x.a by unfold M0;omega,v o];exact((D L).a H).a c
   .rw[show M0 x.a=FN x.a by unfold M0;rw[xI o];omega];exact(w o).a c
 .exact A.b i y (by omega) j
theorem Ng{l:List AF}{E:List Int}(d:DM l)(e:∀i:Nat,0<=(E[i]?).getD 0):∀r a s,a+r=l.length->JI l a s->PR l a s->(ED E r a s).1=0->PR l l.length (ED E r a s).2.2
 |0,a,s,g,b,h,_=>by
  have:a=l.length:=by omega
  subst this;exact h|r+1,a,s,g,b,h,c=>by
  unfold ED at c⊢;by_cases f:(GB E a s).1=0
  .rw[ad (by omega)]at c⊢;exact Ng d e r (a+1) _ (by omega) (aG d (e a) (by omega) b f) (Bf (by omega) b h f) c
  grind
theorem eU{l:List AF}(h:(DA l).1.1=0):PR l l.length (DA l).2:=by obtain⟨a,_,b,_,c,_⟩:=VR h;rw[c];exact Ng a aM l.length 0 (DC l) (by omega) (VO l) ⟨fun i x d=>by omega,fun t a=>by simp[DC]at a⟩ b
theorem Np{x:AF}(h:EW BG x=true):(x.a≠27->x.n=0)/\0<=x.n:=by unfold EW at h;grind
def vD(L Z:List AF):Prop:=∀(i:Nat)(z:AF),Z[i]?=some z->∃x:AF,L[i]?=some x/\x.a=z.a
structure FH (Z:List AF) (s:AS):Prop where
 t:DM Z
 b:KW s.a Z
 j:vD s.a Z
 l:∀ (i:Nat) (x:AF),s.a[i]?=some x->1<=x.a/\x.a<=54
 k:∀ (i:Nat) (x:AF),s.a[i]?=some x->FN x.a=1->0<=x.n/\x.n<s.b.length
 n:∃ z:AF,Z[0]?=some z/\z.a=1
 q:∀ (i:Nat) (x:AF),s.a[i]?=some x->x.a=27->0<=x.n/\x.n<=1073741824
theorem kD(x:AF):(J9 x).a=x.a/\(J9 x).b=x.b:=by unfold J9;grind
theorem nU{l:List AF}{i:Nat}{z:AF}(h:(AU l)[i]?=some z):∃x,l[i]?=some x/\z=J9 x:=by unfold AU at h;grind
theorem Bj{l:List AF}(h:KK BG l=none):∃z:AF,l[0]?=some z/\z.a=1:=by
 unfold KK at h;split at h
 .rename_i c;have a:=c.1;unfold JD at a;cases d:l[0]? with|none=>grind|some x=>
   rw[d]at a;simp only at a;split at a
   .rename_i b;rw[ah]at b;exact⟨x,rfl,by have:=b.1;simp[CX]at this;exact this⟩
   grind
 .cases h
theorem By{l:List AF}(h:(CY l).1=0):∃z:AF,l[0]?=some z/\z.a=1:=by unfold CY at h;cases a:KK BG l with|none=>exact Bj a|some p=>grind
theorem jT{nm:ByteArray}{s:AS}(h:DQ nm s=0):FH (AU s.a) s:=by
 have p:WM nm s:=by unfold DQ at h;grind
 obtain⟨c,b⟩:=p;rw[WB c]at b;obtain⟨_,q,g,r,t,u,v,w⟩:=b;simp only at q g r t u v w;obtain⟨j,l,y,_,n,A⟩:=VR c;have m:(AU s.a).length=s.a.length:=by unfold AU;simp
 have o:=eU c;have f:=Y0 j A;generalize(DA (AU s.a)).2=F at*;have d:∀(i:Nat)(x:AF),s.a[i]?=some x->i<(AU s.a).length:=fun i x a=>by grind
 refine⟨j,⟨m.symm,fun i z e=>?_⟩,fun i z e=>?_,fun i x a=>?_,fun i x a G=>?_,By l,fun i x a B=>?_⟩
 .obtain⟨x,a,rfl⟩:=nU e;exact⟨x,a,(kD x).2.symm⟩
 .obtain⟨x,a,rfl⟩:=nU e;exact⟨x,a,(kD x).1.symm⟩
 .grind
 .have C:=d i x a;rw[g]at a;have H:=xI (k:=x.a) (by omega);have D:M0 x.a=1:=by unfold M0;omega
  have:=(o.b i x (by omega) a).2 (by omega);rw[D]at this;obtain⟨I,J⟩:=this;grind
 .have C:=d i x a;rw[g]at a;have e:=(o.b i x (by omega) a).1 (by rw[B];rfl);have E:=j.X e;unfold EW at E;grind
section
variable {R Z:List AF} {e:Nat->Nat}
theorem x9(c:vD R Z)(a:KW R Z)(i:Nat):(R[i]?).map (fun x=>(x.a,x.b))=(Z[i]?).map (fun x=>(x.a,x.b)):=by cases b:Z[i]? with
 |none=>have d:=a.1;grind|some z=>
  obtain⟨x,f,d⟩:=c i z b;obtain⟨y,g,h⟩:=a.2 i z b;grind
theorem Jv{i:Nat}{x y:AF}{first:Int}(h:x.a=y.a):∀(ps:List Nat)(k:Nat)(s:K5),JW i x first k ps s=JW i y first k ps s
 |[],k,s=>rfl|p::ps,k,s=>by
  show JW i x first (k+1) ps (K4 i x first s k p)=JW i y first (k+1) ps (K4 i y first s k p);have:K4 i x first s k p=K4 i y first s k p:=by unfold K4;rw[h]
  rw[this];exact Jv h ps (k+1) _
theorem YU(c:vD R Z)(a:KW R Z):∀i,CN R e i=CN Z e i
 |0=>by
  show(⟨_,_,_⟩:K5)=⟨_,_,_⟩;rw[a.1]|i+1=>by
  show MU R e i (CN R e i)=MU Z e i (CN Z e i);rw[YU c a i];unfold MU;have b:=x9 c a i;have h:=x9 c a (i+1);have d:(R[i+1]?).map (·.a)=(Z[i+1]?).map (·.a):=by grind
  cases f:R[i]? with|none=>grind|some x=>cases g:Z[i]? with|none=>grind|some z=>rw[f,g]at b;simp only[dA,aj,aO]at b;simp only;rw[d,b.2];exact Jv b.1 _ _ _
theorem s_{i:Nat}{x:AF}{first:Int}:∀(ps:List Nat)(k q:Nat)(s:K5)(p:Nat),ps[q]?=some p->JW i x first k (ps.take (q+1)) s=K4 i x first (JW i x first k (ps.take q) s) (k+q) p
 |[],k,q,s,p,h=>by simp at h|a::ps,k,0,s,p,h=>by cases h;rfl|a::ps,k,q+1,s,p,h=>by
  have b:ps[q]?=some p:=by assumption
  have:=s_ (i:=i) (x:=x) (first:=first) ps (k+1) q (K4 i x first s k a) p b;rw[show k+1+q=k+(q+1)by omega]at this;exact this
theorem Qv{i m:Nat}{x:AF}{first:Int}(hi:i<m):∀(ps:List Nat)(k:Nat)(s:K5),(∀v∈s.U,0<=v/\v<(m:Int))->∀v∈(JW i x first k ps s).U,0<=v/\v<(m:Int)
 |[],k,s,h=>h|p::ps,k,s,h=>Qv hi ps (k+1) _ fun v a=>by have b:v∈s.U.set p (i:Int):=a;grind
theorem wO{m:Nat}(c:R.length=m)(h0:0<m):∀i,i<=m->∀v∈(CN R e i).U,0<=v/\v<(m:Int)
 |0,_,v,b=>by have:=(List.mem_replicate.1 b).2;omega|i+1,f,v,b=>by
  have d:=wO c h0 i (by omega);have a:v∈(MU R e i (CN R e i)).U:=b;unfold MU at a;split at a;.grind
  .exact Qv (by omega) _ _ _ d v a
end
section
variable {Z:List AF} {s:AS}
theorem FH.z(c:FH Z s){i:Nat}{x:AF}(e:s.a[i]?=some x):∃z:AF,Z[i]?=some z/\x.a=z.a/\x.b=z.b:=by have f:=(ae.1 e).1;have g:=c.b.1;obtain⟨z,d⟩:∃z,Z[i]?=some z:=⟨_,aa (by omega)⟩;obtain⟨a,h,j⟩:=c.j i z d;obtain⟨b,k,l⟩:=c.b.2 i z d;grind
theorem FH.o(c:FH Z s){i:Nat}{x:AF}(d:s.a[i]?=some x):([12,13].contains x.a=true->x.b<=3)/\([15,47,48].contains x.a=true->x.b<=2):=by
 obtain⟨z,e,f,g⟩:=c.z d;have b:=c.t.X e;unfold EW at b;simp only[ah,am,bu]at b;obtain⟨_,a⟩:=b;rw[<-f,<-g]at a;refine⟨fun h=>?_,fun h=>?_⟩;.simp only[dx,dO,dC,bu,ak]at h;rcases h with h|h<;>(rw[h]at a;rcases a with a|a<;>simp[DV]at a<;>omega)
 .simp only[dx,dO,dC,bu,ak]at h;rcases h with h|h|h<;>(rw[h]at a;rcases a with a|a<;>simp[DV]at a<;>omega)
theorem FH.a(a:FH Z s){i:Nat}{x:AF}(e:s.a[i]?=some x):0<=x.b/\F_ Z x.b.toNat (i+1) (AE Z i)/\AE Z i<=s.a.length/\i<AE Z i:=by
 obtain⟨z,b,g,f⟩:=a.z e;have c:=a.t.U (ae.1 b).1;obtain⟨y,d,h,_,j⟩:=c.a;rw[b]at d;cases d;rw[f];have:=c.b;have:=a.b.1;grind
theorem FH.d(a:FH Z s){i k p:Nat}{x:AF}(c:s.a[i]?=some x)(b:(A9 (AE Z) x.b.toNat (i+1))[k]?=some p):i<p/\p<s.a.length:=by
 obtain⟨z,d,j,e⟩:=a.z c;obtain⟨_,f,_⟩:=a.a c;have g:=RA _ _ _ f p (aw b);rw[e]at b;obtain⟨y,h,_⟩:=a.t.Z d b;have:=(ae.1 h).1;have:=a.b.1;omega
theorem FH.i(a:FH Z s){i:Nat}{x:AF}(b:s.a[i]?=some x)(h:0<x.b):i+1<s.a.length:=by obtain⟨r,c⟩:∃r,x.b.toNat=r+1:=⟨x.b.toNat-1,by omega⟩;exact(a.d (k:=0) (p:=i+1) b (by rw[c];rfl)).2
theorem FH.g(a:FH Z s){i:Nat}{x:AF}(m:s.a[i]?=some x)(n:x.a=24):0<i/\∃b:AF,s.a[i-1]?=some b/\(CN s.a (AE Z) i).U[i]?=some ((i-1:Nat):Int)/\(b.a≠20->0<=b.n/\b.n<s.b.length):=by
 obtain⟨z,d,v,A⟩:=a.z m;have B:=(ae.1 d).1;have o:=a.b.1;have e:0<i:=by
  rcases gN i with h|h
  .subst h;obtain⟨r,C,D⟩:=a.n;grind
  .exact h
 have p:=JN a.t;obtain⟨j,y,k,g,E,q⟩:=a.t.Y i 0 i (by omega) e (by omega) (by omega);obtain⟨F,f⟩:=a.t.O g q d (by omega);obtain⟨b,c⟩:∃b,s.a[i-1]?=some b:=⟨_,aa (by omega)⟩;obtain⟨w,l,t,_⟩:=a.z c;have:i-1=j:=by omega
 rw[this,g]at l;cases l;refine⟨e,b,c,?_,fun u=>a.k _ b c ?_⟩
 .rw[YU a.j a.b];exact Ap a.t d (by omega) e
 .rcases f with h|h;.rw[t,h];rfl
  omega
theorem Bq{k:Int}(h:[8,17,20,9,21,24].contains k=true):FN k=1:=by simp only[dx,dO,dC,bu,ak]at h;rcases h with h|h|h|h|h|h<;>(rw[h];rfl)
end
section
variable {R:List AF} {Q:List (ByteArray × Bool)} {e:Nat->Nat} {r i:Nat} {x:AF}
theorem sY(a:R[i]?=some x){b:Int}(c:KI R Q (CN R e i) i x=b)(h0:b≠0):GX R Q e (r+1) i=((b,(i:Int)),[]):=by unfold GX;grind
theorem uL(a:R[i]?=some x)(b:KI R Q (CN R e i) i x=0):GX R Q e (r+1) i=GX R Q e r (i+1):=by
 conv=>lhs;unfold GX
 grind
variable {M:K5} {a u:Int} {c:Bool} {up:AF}
theorem ZI(b:M.A[i]?=some a)(h0:a≠0)(h1:BM x.a≠a):KI R Q M i x=41:=by unfold KI;rw[b,ag ⟨h0,h1⟩]
theorem dG(b:M.A[i]?=some a)(h0:¬(a≠0/\BM x.a≠a))(d:M.C[i]?=some true)(f:MD x.a=true):KI R Q M i x=42:=by unfold KI;rw[b,ad (by assumption),d,ag (by simp[f])]
theorem pM(b:M.A[i]?=some a)(h0:¬(a≠0/\BM x.a≠a))(d:M.C[i]?=some c)(h:(c&&MD x.a)=false)(f:M.U[i]?=some u)(g:R[u.toNat]?=some up):KI R Q M i x=if ME Q x up=true then 46 else 0:=by unfold KI;rw[b,ad (by assumption),d,f];grind
end
noncomputable def DW(nm:ByteArray)(s:AS):(Int×Int)×List Int:=if DQ nm s≠0 then((DQ nm s,0),[])else GX s.a s.b (AE (AU s.a)) s.a.length 0
def iS(h:AA)(lo:Nat)(v:Value)(R:(Int×Int)×List Int):Prop:=∃a,v=.tuple #[a,EE R.1.1 R.1.2]/\AK lo h a R.2
def LP(size:Int):List (Int×Bool)->Int->Int->Option (Int×Int)|[],r,o=>some (r,o)|(n,g)::l,r,o=>if n<1\/n>1048576 then none else if g=true then LP size l r (o+n)else if n>size then none else LP size l (r+n) o
def KX(C:List Int)(Q:List (ByteArray×Bool)):List (Int×Bool):=C.zip (Q.map (·.2))
def OY(size:Int)(C:List Int)(Q:List (ByteArray×Bool)):Bool:=if size<1\/size>1048576\/C.length≠Q.length then false else match LP size (KX C Q) 0 0 with|none=>false|some (r,o)=>decide (min size r+o<=4194304)
section
variable {C:List Int} {Q:List (ByteArray × Bool)} {size r o:Int} {i:Nat}
theorem BA(h:C.length=Q.length):(KX C Q).length=C.length:=by simp[KX,h]
theorem mB{n:Int}{q:ByteArray×Bool}(h1:C[i]?=some n)(a:Q[i]?=some q):(KX C Q).drop i=(n,q.2)::(KX C Q).drop (i+1):=by
 have e:=(ae.1 h1).1;have f:=(ae.1 a).1;have b:i<(KX C Q).length:=by simp only[KX,List.length_zip,bw];omega
 rw[cd b];congr 1;have c:C[i]=n:=by grind
 have d:Q[i]=q:=by grind
 simp[KX,c,d]
theorem ZE{n:Int}{q:ByteArray×Bool}(h1:C[i]?=some n)(a:Q[i]?=some q)(b:n<1\/n>1048576\/(q.2=false/\n>size)):LP size ((KX C Q).drop i) r o=none:=by rw[mB h1 a];unfold LP;grind
theorem Mf{n:Int}{q:ByteArray×Bool}(h1:C[i]?=some n)(a:Q[i]?=some q)(b:1<=n/\n<=1048576)(c:q.2=true):LP size ((KX C Q).drop i) r o=LP size ((KX C Q).drop (i+1)) r (o+n):=by
 rw[mB h1 a];conv=>lhs;unfold LP
 grind
theorem Ck{n:Int}{q:ByteArray×Bool}(h1:C[i]?=some n)(a:Q[i]?=some q)(b:1<=n/\n<=1048576)(c:q.2=false)(d:n<=size):LP size ((KX C Q).drop i) r o=LP size ((KX C Q).drop (i+1)) (r+n) o:=by
 rw[mB h1 a];conv=>lhs;unfold LP
 grind
theorem Qk(h:C.length=Q.length)(hi:i=C.length:=by omega):LP size ((KX C Q).drop i) r o=some (r,o):=by rw[eC (by rw[BA h];omega)];rfl
end
def LX(k:Int):Bool:=[39,40,41,43,44,45,46].contains k
def QB(k:Int):Bool:=[42,47,48,49,50,51,52,53,54].contains k
def I0(k:Int):Bool:=[41,42].contains k
def IG(k:Int):Bool:=[39,40,43,44,45,46,47,48,49,50,51,52,53,54].contains k
def LM(k a b:Int):Int:=if k=39 then(if b<a then b else a)else if k=40 then(if b>a then b else a)else if k=41 then -a else if k=43 then a*b else if k=44 then OB a b else if k=45 then a+b else a-b
def OD(k a b:Int):Bool:=if k=47 then a==b else if k=48 then a !=b else if k=49 then decide (a<b)else if k=50 then decide (a<=b)else if k=51 then decide (a>b)else if k=52 then decide (a>=b)else if k=42 then a==0 else if k=53 then(a !=0&&b !=0)else(a !=0||b !=0)
def I9(k a b:Int):Int:=if LX k=true then H_ (LM k a b)else if OD k a b=true then 1 else 0
def FR(size:Int)(C:List Int)(x:AF):Option Int:=if x.a=27 then some x.n else if x.a=33 then some size else if x.a=32 then some ((C[x.n.toNat]?).getD 0)else if x.a=29 then some 1 else if x.a=30 then some 0 else none
def PO(R:List AF)(e:Nat->Nat)(size:Int)(C:List Int):Nat->Nat->Option Int
 |0,_=>none|f+1,i=>match R[i]? with
  |none=>none|some x=>if I0 x.a=true then(PO R e size C f (i+1)).map (fun a=>I9 x.a a a)else if IG x.a=true then(match PO R e size C f (i+1),PO R e size C f (e (i+1))with|some a,some b=>some (I9 x.a a b)|_,_=>none)else FR size C x
def DX(R:List AF)(e:Nat->Nat)(size:Int)(C:List Int)(i:Nat):Option Int:=PO R e size C R.length i
theorem vM{k:Int}:(I0 k=true\/IG k=true)↔(LX k=true\/QB k=true):=by simp only[I0,IG,LX,QB,dx,dO,dC,bu,ak];omega
section
variable {Z:List AF} {s:AS}
theorem FH.p(d:FH Z s){i:Nat}{x:AF}(e:s.a[i]?=some x)(h:I0 x.a=true):x.b=1:=by
 obtain⟨z,f,g,j⟩:=d.z e;have b:=d.t.X f;unfold EW at b;simp only[ah,am,bu]at b;obtain⟨⟨_,c⟩,a⟩:=b;rw[<-g,<-j]at c a;unfold I0 at h;simp only[dx,dO,dC,bu,ak]at h;rcases h with h|h<;>(rw[h]at c a;rcases a with a|a<;>simp[DV,F8]at a c<;>omega)
theorem FH.h(d:FH Z s){i:Nat}{x:AF}(e:s.a[i]?=some x)(h:IG x.a=true):x.b=2:=by
 obtain⟨z,f,g,j⟩:=d.z e;have b:=d.t.X f;unfold EW at b;simp only[ah,am,bu]at b;obtain⟨⟨_,c⟩,a⟩:=b;rw[<-g,<-j]at c a;unfold IG at h;simp only[dx,dO,dC,bu,ak]at h;rcases h with h|h|h|h|h|h|h|h|h|h|h|h|h|h<;>(rw[h]at c a;rcases a with a|a<;>simp[DV,F8]at a c<;>omega)
theorem FH.c(a:FH Z s){i:Nat}{x:AF}(b:s.a[i]?=some x)(h:0<x.b):i<i+1/\i+1<s.a.length:=⟨by omega,a.i b h⟩
theorem FH.e(a:FH Z s){i:Nat}{x:AF}(b:s.a[i]?=some x)(h:x.b=2):i<AE Z (i+1)/\AE Z (i+1)<s.a.length:=a.d (k:=1) b (by rw[h];rfl)
variable {size:Int} {C:List Int}
theorem ZM(a:FH Z s):∀(d i f g:Nat),s.a.length-i<=d->s.a.length-i<=f->s.a.length-i<=g->i<s.a.length->PO s.a (AE Z) size C f i=PO s.a (AE Z) size C g i
 |0,i,f,g,m,_,_,k=>by omega|d+1,i,f,g,m,o,p,k=>by
  obtain⟨f,rfl⟩:∃j,f=j+1:=⟨f-1,by omega⟩;obtain⟨g,rfl⟩:∃j,g=j+1:=⟨g-1,by omega⟩;obtain⟨x,b⟩:∃x,s.a[i]?=some x:=⟨_,aa k⟩;unfold PO;rw[b];simp only;by_cases c:I0 x.a=true
  .have l:=a.p b c;have e:=a.c b (by omega);rw[ag c,ag c,ZM a d (i+1) f g (by omega) (by omega) (by omega) e.2]
  .rw[ad c,ad c];by_cases h:IG x.a=true
   .have l:=a.h b h;have e:=a.c b (by omega);have n:=a.e b l;rw[ag h,ag h,ZM a d (i+1) f g (by omega) (by omega) (by omega) e.2,ZM a d (AE Z (i+1)) f g (by omega) (by omega) (by omega) n.2]
   grind
theorem XC(c:FH Z s){i:Nat}{x:AF}(d:s.a[i]?=some x):DX s.a (AE Z) size C i=if I0 x.a=true then(DX s.a (AE Z) size C (i+1)).map (fun a=>I9 x.a a a)else if IG x.a=true then(match DX s.a (AE Z) size C (i+1),DX s.a (AE Z) size C (AE Z (i+1))with|some a,some b=>some (I9 x.a a b)|_,_=>none)else FR size C x:=by
 have m:=(ae.1 d).1;unfold DX;obtain⟨f,e⟩:∃f,s.a.length=f+1:=⟨s.a.length-1,by omega⟩;by_cases g:I0 x.a=true
 .have k:=c.p d g;have h:=c.c d (by omega);rw[ag g,<-ZM c s.a.length (i+1) f s.a.length (by omega) (by omega) (by omega) h.2];conv=>lhs;rw[e];unfold PO
  grind
 .rw[ad g];by_cases j:IG x.a=true
  .have k:=c.h d j;have h:=c.c d (by omega);have l:=c.e d k;rw[ag j,<-ZM c s.a.length (i+1) f s.a.length (by omega) (by omega) (by omega) h.2,<-ZM c s.a.length (AE Z (i+1)) f s.a.length (by omega) (by omega) (by omega) l.2];conv=>lhs;rw[e];unfold PO
   grind
  .rw[ad j];conv=>lhs;rw[e];unfold PO
   grind
structure UL (s:AS) (size:Int) (C:List Int):Prop where
 d:1<=size/\size<=1048576
 a:C.length=s.b.length
 b:∀ c∈C,1<=c/\c<=1048576
theorem uU{size:Int}:∀(l:List (Int×Bool))(r o:Int){p:Int×Int},LP size l r o=some p->∀y∈l,1<=y.1/\y.1<=1048576
 |[],r,o,p,_,y,a=>by cases a|(n,g)::l,r,o,p,h,y,a=>by
  unfold LP at h;split at h;.cases h
  rename_i c;have b:1<=n/\n<=1048576:=by omega
  rcases fv.1 a with rfl|a;.exact b
  split at h;.exact uU l _ _ h y a
  split at h;.cases h
  .exact uU l _ _ h y a
theorem BT{s:AS}(h:OY size C s.b=true):UL s size C:=by
 unfold OY at h;split at h;.cases h
 rename_i m;have d:C.length=s.b.length:=by omega
 refine⟨by omega,d,fun c a=>?_⟩;cases e:LP size (KX C s.b) 0 0 with|none=>grind|some p=>obtain⟨j,b⟩:=dn a;have f:=(ae.1 b).1;obtain⟨q,g⟩:∃q,s.b[j]?=some q:=⟨_,aa (by omega)⟩;have k:=mB b g;have l:=iQ (i:=j) (by rw[k];exact List.mem_cons_self);exact uU _ _ _ e _ l
theorem Gm(k a b:Int):-1073741824<=I9 k a b/\I9 k a b<=1073741824:=by
 unfold I9;split;.exact Fz _
 omega
theorem Cq(d:FH Z s)(a:UL s size C){i:Nat}{x:AF}(e:s.a[i]?=some x){v:Int}(h:FR size C x=some v):-1073741824<=v/\v<=1073741824:=by
 unfold FR at h;have g:=a.d;split at h
 .rename_i b;have:=d.q i x e b;grind
 split at h;.grind
 split at h
 .rename_i b;have j:=d.k i x e (by rw[b];rfl);have k:=a.a;obtain⟨c,f⟩:∃c,C[x.n.toNat]?=some c:=⟨_,aa (by omega)⟩;have:=a.b c (aw f);grind
 grind
theorem ZW(b:FH Z s)(d:UL s size C){i:Nat}(hi:i<s.a.length){v:Int}(h:DX s.a (AE Z) size C i=some v):-1073741824<=v/\v<=1073741824:=by
 obtain⟨x,c⟩:∃x,s.a[i]?=some x:=⟨_,aa hi⟩;rw[XC b c]at h;split at h;.cases e:DX s.a (AE Z) size C (i+1)with|none=>grind|some a=>rw[e]at h;cases h;exact Gm _ _ _
 split at h
 .split at h;.cases h;exact Gm _ _ _
  .cases h
 .exact Cq b d c h
end
end Go.Proofs.YtjailoenloejbaaGreatDoor




