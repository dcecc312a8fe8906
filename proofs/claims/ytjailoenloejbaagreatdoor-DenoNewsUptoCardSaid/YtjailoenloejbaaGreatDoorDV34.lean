/- Part 34. -/
import Derived.Test.YtjailoenloejbaaGreatDoorDV33
set_option linter.all false
namespace Go.Proofs.YtjailoenloejbaaGreatDoor
open Go Go.Sx Go.Proofs.Tryz
set_option maxRecDepth 100000
set_option maxHeartbeats 0
def vG:List (Bool×Bool×List Operand):=[DT,(true,false,[]),(true,false,[]),(true,false,[]),(true,false,[]),AH [.tmp 25],AH [.tmp 25],AH [.tmp 25],AJ,AJ,AJ,AJ]
def qQ:List (Bool×Bool×List Operand):=[AO,AO,AO,AO,AH [.tmp 11],AH [.tmp 11],AH [.tmp 11],AH [.tmp 11],AJ,AJ]
def vH:List (Bool×Bool×List Operand):=[AO,AO,AH [.tmp 48],AH [.tmp 48],AH [.tmp 48],AH [.tmp 48],AJ,AJ,AJ]
def wC:List (Bool×Bool×List Operand):=[AO,AO,AH [.tmp 29],AO,AO,AO,AH [.tmp 29,.tmp 32],AH [.tmp 29,.tmp 32],AH [.tmp 29,.tmp 32,.tmp 35],AH [.tmp 29,.tmp 32],AH [.tmp 29,.tmp 32],AH [.tmp 29,.tmp 32],AJ]
def Ag:List (Bool×Bool×List Operand):=[AJ,AJ,(true,false,[]),AJ,AJ,AJ,AO,AO,(true,false,[]),(true,false,[]),(true,false,[]),(true,false,[]),AJ,AJ,AJ,AO,AO,(true,false,[]),(true,false,[]),(true,false,[]),(true,false,[]),AJ,AJ,AJ]
theorem bP:BN prog 81=some 2:=by kernel_rfl
theorem pH:DK prog 81=some eX:=by kernel_rfl
theorem bN:flat eX=true:=rfl
theorem vL:eX.cells.toList=[Z0,Z0]:=rfl
theorem J2y:HN prog (match prog.underlying 81 with|some (.struct a)=>a.toList|_=>[])=some [(0,1),(1,1)]:=by kernel_rfl
theorem Up{a b:Option Addr}{n c m k:Nat}:CL prog 81 [(0,.slice a n c),(1,.slice b m k)]=some (.agg #[.slice a n c,.slice b m k]):=by have h:=J2y;rw[underlying81]at h;simp only at h;simp only[CL,pH,bN,ai,underlying81,h];rfl
theorem Jai{a:Option Addr}{n c:Nat}:CL prog 185 [(1,.slice a n c)]=some (.agg #[Z0,.slice a n c]):=by have h:=Ju;rw[im]at h;simp only at h;simp only[CL,Jn,bN,ai,im,h];rfl
abbrev S5:Value:=.agg #[iv 0,iv 0,iv 0,iv 0]
theorem J7k:DK prog 62=some S5:=by kernel_rfl
theorem J6U:flat S5=true:=rfl
theorem Vf:S5.cells.toList=[iv 0,iv 0,iv 0,iv 0]:=rfl
theorem eq62:CT prog .eql 62 (.tmp 12) (.tmp 16) S5 S5=some (.bool true):=by kernel_rfl
theorem eqnE:CT prog .eql 160 (.tmp 3) (.const (Z0)) (Z0) (Z0)=some (.bool true):=by kernel_rfl
theorem eqnI:CT prog .eql 25 (.tmp 3) (.const (Z0)) (Z0) (Z0)=some (.bool true):=by kernel_rfl
theorem jJ{H:AA}:CU prog H 160 (Z0)=some (iv 0):=by simp[CU,fp]
theorem sK{H:AA}{a:Option Addr}{n c:Nat}:CU prog H 79 (.slice a n c)=some (iv (n:Int)):=by simp[CU,eo]
theorem Iw{H:AA}:FP prog H 79 1 [(0,Z0)]=some (qS H.a 1 1,H.d (.row [Z0] 160 false false)):=by have b:∀a n c,(Value.slice a n c).cells=#[.slice a n c]:=fun _ _ _=>rfl;simp[FP,eo,N8,dM,flat,B7,b,I6,CF,Go.Sx.lay]
theorem Ct{n:Nat}:List.replicate (n+1) (Z0)=List.replicate n (Z0)++[Z0]:=List.replicate_succ'
section
variable {h:AA} {id off:Nat}
theorem uV:EP prog h 81 (qP id off)=AX 2 off (h.c id):=NF (by kernel_rfl) bP
theorem aE:BC prog 81 (qP id off) 0=some (qP id off):=by simp[BC,underlying81,PX,CB]
theorem Sn:BC prog 81 (qP id off) 1=some (qP id (off+1)):=by simp[BC,underlying81,FW,CB]
end
section
variable {n N:Nat} {h:AA}
theorem Vm(a:2<n):AN n 142 [Z0] h=some (Z0,h):=by obtain⟨n,rfl⟩:=BX a;refine HF BF rfl (EA (R:=fun b=>∀i,i<h.a->b.c i=h.c i) func142 rfl (by simp) ?_);have c:f142.results.toList=[.tmp 2]:=rfl;simp only[eE,seval,↓eP,c,eqnE];exact fun _ _=>cj
theorem Ub(a:2<n):AN n 109 [Z0] h=some (Z0,h):=by obtain⟨n,rfl⟩:=BX a;refine HF BF rfl (EA (R:=fun b=>∀i,i<h.a->b.c i=h.c i) func109 rfl (by simp) ?_);have c:f109.results.toList=[.tmp 2]:=rfl;simp only[eE,seval,↓eP,c,eqnI];exact fun _ _=>cj
theorem J6o{lo m:Nat}{v:Value}{cs:List Value}(j:AL lo h v m 1 cs)(g:v=Z0\/I5 v m)(l:cs.all one=true)(o:m<1099511627776)(k:2<n):∃i f,AN n 109 [v] h=some (i,f)/\AL h.a f i m 1 cs/\f.b=h.b/\Ex h f:=by
 rcases g with rfl|p
 .refine⟨_,_,Ub k,?_,rfl,Ex.c h⟩;obtain⟨q,a,c,e,_⟩:=j;cases e;exact⟨q,none,0,rfl,.inl ⟨rfl,rfl⟩⟩
 .obtain⟨i,f,a,b,_,c,d⟩:=vF j p l o k;grind
theorem J2e(g:5<n):AN n 177 [Z0] h=some (Z0,h):=by
 obtain⟨n,rfl⟩:=BX g;refine HF BF rfl (EA (R:=fun j=>∀i,i<h.a->j.c i=h.c i) func177 rfl (by simp) ?_);have k:f177.results.toList=[.tmp 2]:=rfl;have b:=Vm (n:=n) (h:=h) (by omega);simp only[eE,seval,k,b,jJ];refine WK.b (fun i a=>a.T.a 0=Z0/\a.T.a 7=iv 0/\a.T.a 8=iv (i:Int)/\a.h=h) 0 (by omega) ?_ ?_;.exact⟨by simp only[eE,seval],by simp only[eE,seval],by simp only[eE,seval]<;>rfl,rfl⟩
 rintro i⟨m,o⟩p⟨c,d,e,f⟩;simp only at c d e f;subst f;have l:decide ((i:Int)<0)=false:=by simp
 simp only[eE,seval,↓eP,c,d,e,l];exact fun _ _=>cj
def rD(h:AA)(v:Value)(h':AA)(b:Nat)(a:List Int):Prop:=∃S d c,v=qP S 0/\(h.a<=S/\S<h'.a)/\h'.c S=.row [d,c] 185 false false/\AL h.a h' d b 1 (List.replicate b (Z0))/\AK h.a h' c a/\h'.b=h.b/\Ex h h'
theorem J1s{lo S Q a:Nat}{lv:Value}{d:List Int}(hS:h.c S=.row [qS Q a a,lv] 185 false false)(L:S<h.a)(hQ:h.c Q=.row (List.replicate a (Z0)) 160 false false)(M:Q<h.a)(hI:AK lo h lv d)(O:lv=Z0\/I5 lv d.length)(b1:a<1099511627776)(b2:d.length<1099511627776)(h6:h.b<=h.a)(hn:20<n)(hN:a+5<N):∃v G,AW prog (AN n) N 112 [qP S 0] h=some (v,G)/\rD h v G a d:=by
 have T:=(EC n).2;refine G_ (R:=fun v G=>rD h v G a d) func112 rfl ?_ ?_;.simp
 have hr:f112.results.toList=[.tmp 2]:=rfl;have s1:AI 1 (h.c S)=some lv:=by rw[hS];rfl
 obtain⟨f,b,U,V,W,x⟩:=J6o (n:=n) (h:=h) hI O (MJ _) b2 (by omega);have X:=x.1;have hb:CL prog 185 [(1,f)]=some (.agg #[Z0,f]):=by obtain⟨_,_,_,rfl,_⟩:=id V;exact Jai
 have cB:=C9 [Z0,f];have oB:([Z0,f]:List Value).all one=true:=by simp only[az,bd,V.a];rfl
 obtain⟨B,hB,gB,nB,fB,xB⟩:∃B,b.d (.row [Z0,f] 185 false false)=B/\B.c b.a=.row [Z0,f] 185 false false/\B.a=b.a+1/\B.b=h.b/\Ex b B:=⟨_,rfl,BJ,rfl,W,(Ex.c b).b⟩;have o:=x.a xB;have q0:AI 0 (B.c S)=some (qS Q a a):=by rw[o.2 _ L,hS];rfl
 simp only[eE,seval,hr,ab,aZ,BH,s1,U,hb,cB,oB,Ia,hB,tA,Q_,q0,sK];refine WK.b (fun i g=>g.T.a 3=qP b.a 0/\g.T.a 16=qS Q a a/\g.T.a 17=iv (a:Int)/\g.T.a 18=iv (i:Int)/\i<=a/\B.a<=g.h.a/\(∀j,j<B.a->j≠b.a->g.h.c j=B.c j)/\g.h.b=h.b/\∃m,g.h.c b.a=.row [m,f] 185 false false/\JM 160 g.h B.a m i (List.replicate i (Z0))) a (by omega) ?_ ?_;.refine⟨?_,?_,?_,?_,bg _,af _,fun _ _ _=>rfl,fB,Z0,gB,.inl ⟨rfl,rfl,rfl⟩⟩<;>simp only[eE,seval]<;>rfl
 rintro i⟨T1,y⟩hi⟨I,p,k,l,h7,nH,z,K,m,q,r⟩;simp only at I p k l nH z K q r;have A:y.f h.b=y:=DI K;rcases ar i a with C|h8
 .have Y:decide ((i:Int)<(a:Int))=true:=by grind
  have Z:=WZ (P:=prog) (t:=79) (e:=160) (id:=Q) (n:=a) (c:=a) (i:=i) eo N8 C;have lE:AI (i*1) (y.c Q)=some (Z0):=by
   rw[z _ (by omega) (by omega),o.2 _ M,hQ];exact yW (by grind)
  have l0:AI 0 (y.c b.a)=some m:=by rw[q];rfl
  obtain⟨s,J,ap,D,fJ,nJ,oJ⟩:=T9 (new:=[Z0]) eo N8 mP dM rfl (by decide) (by decide) r (by simp) (vT rfl _) rfl rfl (by omega) (by omega) (by omega);have E:J.b=h.b:=by omega
  have h0:J.f h.b=J:=DI E;obtain⟨h1,h2⟩:=D.c;have h3:J.c b.a=.row [m,f] 185 false false:=by grind
  have st:=EO (off:=0) PX h1 h2 h3 (by simp) (by omega);have h4:(b.a<y.a)=True:=by grind
  have F:=fun H=>J2e (n:=n) (h:=H) (by omega);have w1:=DU i;simp only[eE,seval,↓eP,p,k,l,Y,Z,iL,lE];refine WK.a (fs:=vG) (by kernel_rfl) ?_;unfold vG;iterate 12 refine DG T ?_;simp only[rG,seval,AB,AD,AC,A7,BL,target,BY,DB,I,K,A,h4,tA,Q_,l0,F,Iw,ap,E,h0,st]
  refine DF ?_;have h9:(J.e b.a (.row (([m,f]:List Value).set 0 s) 185 false false)).f h.b=J.e b.a (.row (([m,f]:List Value).set 0 s) 185 false false):=DI (by show J.b=_;omega);simp only[eE,seval,I,p,k,l,w1];exact⟨C,by omega,by show B.a<=J.a;omega,fun j w u=>by rw[AP (by omega) (bc u),oJ _ (by omega) (.inl (by omega)),z j w u],by show J.b=_;omega,s,BE rfl (by omega),by
   rw[Ct];exact D.a (af _) fun j w u g0=>AP (by omega) (by omega)⟩
 have Y:decide ((i:Int)<(a:Int))=false:=by grind
 have h5:i=a:=by omega
 subst h5;simp only[eE,seval,↓eP,I,k,l,Y];exact⟨_,m,f,rfl,⟨X,by omega⟩,q,r.b (by simp) (by omega),AK.U V (by omega) fun j _ w=>by rw[z j (by omega) (by omega),xB.2 j w],K,⟨by omega,fun j w=>by rw[z j (by omega) (by omega),o.2 j w]⟩⟩
theorem Wm{lo S Q b:Nat}{lv:Value}{a:List Int}(k:h.c S=.row [qS Q b b,lv] 185 false false)(c:S<h.a)(l:h.c Q=.row (List.replicate b (Z0)) 160 false false)(d:Q<h.a)(m:AK lo h lv a)(f:lv=Z0\/I5 lv a.length)(b1:b<1099511627776)(b2:a.length<1099511627776)(g:h.b<=h.a)(o:b+30<n):∃v i,AN n 112 [qP S 0] h=some (v,i)/\rD h v i b a:=by obtain⟨n,rfl⟩:=BX o;exact GY BF (J1s (n:=n) (N:=n) k c l d m f b1 b2 g (by omega) (by omega)) fun p q j _⟨_,_,_,e,_⟩=>by rw[e]at j;cases j
def QA(h:AA)(v:Value)(h':AA)(b:Nat)(a:List Int):Prop:=(∃d c,v=.agg #[d,c]/\AL h.a h' d b 1 (List.replicate b (Z0))/\AK h.a h' c a)/\h'.b=h.b/\Ex h h'
theorem QA.a{h h':AA}{v:Value}{i:Nat}{b:List Int}(d:E5 v=true)(j:QA h v h' i b):QA h v h i b:=by
 obtain⟨⟨l,c,rfl,m,o⟩,_⟩:=j;refine⟨⟨l,c,rfl,?_,?_⟩,rfl,Ex.c h⟩
 .obtain⟨e,a,k,rfl,⟨f,rfl⟩|⟨p,g,_,_,_,_,rfl,_⟩⟩:=m;.exact⟨e,none,k,rfl,.inl ⟨f,rfl⟩⟩
  .simp[E5,Go.Sx.flat]at d;cases d.1
 .obtain⟨e,a,k,rfl,⟨f,rfl⟩|⟨p,g,_,_,_,_,rfl,_⟩⟩:=o;.exact⟨e,none,k,rfl,.inl ⟨f,rfl⟩⟩
  .simp[E5,Go.Sx.flat]at d;cases d.2
theorem J4l{lo M f:Nat}{b:List Int}(y:O9 lo h M f b)(b1:f<1099511627776)(b2:b.length<1099511627776)(z:h.b<=h.a)(Z:f+40<n):∃v o,AW prog (AN n) N 32 [qP M 0] h=some (v,o)/\QA h v o f b:=by
 have p:=(EC n).2;refine G_ (R:=fun v o=>QA h v o f b) func32 rfl ?_ ?_;.simp
 have C:f32.results.toList=[.cell 2 81]:=rfl;obtain⟨D,⟨S,Q,lv,q,E,F,G,H,I,r⟩,_,_⟩:=y;obtain⟨A,J,K,nA,fA,g⟩:∃A,h.d (.row [Z0,Z0] 81 false false)=A/\A.c h.a=.row [Z0,Z0] 81 false false/\A.a=h.a+1/\A.b=h.b/\Ex h A:=⟨_,rfl,BJ,rfl,rfl,(Ex.c h).b⟩;have j:AI 15 (A.c M)=some (qP S 0):=by rw[g.2 _ D.2];exact q
 obtain⟨tv,B,L,s,a,c,rfl,O,k,d,t,fB,u⟩:=Wm (n:=n) (h:=A) (by rw[g.2 _ E.2];exact F) (by omega) (by rw[g.2 _ G.2];exact H) (by omega) (AK.U I (by omega) fun i _ l=>g.2 i l) r b1 b2 (by omega) (by omega);have nB:=u.1;have m:B.b=h.b:=by omega
 have w:B.f h.b=B:=DI m;have P:AI 0 (B.c s)=some a:=by rw[k];rfl
 have T:AI 1 (B.c s)=some c:=by rw[k];rfl
 have U:CL prog 81 [(0,a),(1,c)]=some (.agg #[a,c]):=by
  obtain⟨_,_,_,rfl,_⟩:=id d;obtain⟨_,_,_,rfl,_⟩:=id t;exact Up
 have V:B.c h.a=.row [Z0,Z0] 81 false false:=by rw[u.2 _ (by omega)];exact K
 have W:=GQ bP (vs:=[a,c]) V rfl rfl (by simp only[az,bd,d.a,AL.a t,ao]) (by omega);have x:(s<B.a)=True:=by grind
 simp only[eE,seval,C,pH,bN,vL,J,ab,vE,yA,j,L];refine WK.a (fs:=qQ) (by kernel_rfl) ?_;unfold qQ;iterate 10
  refine DG p ?_;simp only[rG,seval,AB,AD,AC,A7,BL,target,BY,DB,m,w,x,tA,aZ,Q_,BH,P,T,U,W]
 refine DF ?_;have hC:(B.e h.a (.row [a,c] 81 false false)).f h.b=B.e h.a (.row [a,c] 81 false false):=DI (by show B.b=_;omega);have X:AX 2 0 ((B.e h.a (.row [a,c] 81 false false)).c h.a)=some (.agg #[a,c]):=by rw[BE rfl (by omega)];rfl
 simp only[eE,seval,uV,X];have e:∀i,i≠h.a->(B.e h.a (.row [a,c] 81 false false)).c i=B.c i:=fun i l=>AP (by omega) (bc l);exact⟨⟨a,c,rfl,AL.f (AL.b (h':=B.e h.a (.row [a,c] 81 false false)) d (af _) fun i Y _=>e i (by omega)),AK.X (AK.U (h':=B.e h.a (.row [a,c] 81 false false)) t (af _) fun i Y _=>e i (by omega))⟩,by show B.b=_;omega,⟨by show h.a<=B.a;omega,fun i l=>by rw[e i (by omega),u.2 i (by omega),g.2 i l]⟩⟩
theorem J5a{lo M b:Nat}{a:List Int}(e:O9 lo h M b a)(b1:b<1099511627776)(b2:a.length<1099511627776)(c:h.b<=h.a)(f:b+50<n):∃v d,AN n 32 [qP M 0] h=some (v,d)/\QA h v d b a:=by obtain⟨n,rfl⟩:=BX f;exact GY BF (J4l (n:=n) (N:=n) e b1 b2 c (by omega)) fun j k g _ i=>i.a g
theorem J0t{lo T d:Nat}{o:List Int}(hM:QY lo h T d o)(b1:d<1099511627776)(b2:o.length<1099511627776)(g5:h.b<=h.a)(hN:d+40<N):∃v L,AW prog (AN n) N 121 [qP T 0] h=some (v,L)/\QA h v L d o:=by
 have U:=(EC n).2;refine G_ (R:=fun v L=>QA h v L d o) func121 rfl ?_ ?_;.simp[f121]
 have hr:f121.results.toList=[.cell 2 81]:=rfl;obtain⟨lt,a0,a1,a2,a3,a4,Q,lv,gT,ql,gQ,hI⟩:=hM;have g0:∀(a b:BO),let A:=(h.d a).d b
   A.c h.a=a/\A.c (h.a+1)=b/\A.a=h.a+2/\A.b=h.b/\Ex h A:=fun a b=>⟨JG,MG,rfl,rfl,(Ex.c h).b.b⟩;obtain⟨gA,gB,nA,fA,M⟩:=g0 (.row [Z0,Z0] 81 false false) (.row [Z0,Z0] 81 false false);simp only[eE,seval,hr,pH,bN,vL,BU];generalize(h.d (.row [Z0,Z0] 81 false false)).d (.row [Z0,Z0] 81 false false)=A at*;refine WK.b (fun i f=>f.T.a 0=qP T 0/\f.T.a 2=qP h.a 0/\f.T.a 3=qP (h.a+1) 0/\f.T.a 4=iv (i:Int)/\i<=d/\A.a<=f.h.a/\(∀j,j<A.a->j≠h.a+1->f.h.c j=A.c j)/\f.h.b=h.b/\∃g,f.h.c (h.a+1)=.row [g,Z0] 81 false false/\JM 160 f.h A.a g i (List.replicate i (Z0))) d (by omega) ?_ ?_;.refine⟨?_,?_,?_,?_,bg _,af _,fun _ _ _=>rfl,fA,Z0,gB,.inl ⟨rfl,rfl,rfl⟩⟩<;>simp only[eE,seval]<;>rfl
 rintro i⟨T1,m⟩hi⟨C,V,O,S,g6,nH,u,W,g,p,x⟩;simp only at C V O S nH u W p x;have D:m.f h.b=m:=DI W;have E:m.c T=.row [a0,a1,a2,a3,a4,qS Q d d,lv,.int .u64 0,Z0,Z0,iv 0] 162 false false:=by rw[u _ (by omega) (by omega),M.2 _ lt.2];exact gT
 have X:AI 5 (m.c T)=some (qS Q d d):=by rw[E];rfl
 rcases ar i d with F|g7
 .have Y:decide ((i:Int)<(d:Int))=true:=by grind
  have Z:=WZ (P:=prog) (t:=79) (e:=160) (id:=Q) (n:=d) (c:=d) (i:=i) eo N8 F;have lE:AI (i*1) (m.c Q)=some (Z0):=by
   rw[u _ (by omega) (by omega),M.2 _ ql.2,gQ];exact yW (by rw[gG,ag (by omega)])
  have l0:AI 0 (m.c (h.a+1))=some g:=by rw[p];rfl
  obtain⟨h0,J,ap,G,fJ,nJ,B⟩:=T9 (new:=[Z0]) eo N8 mP dM rfl (by decide) (by decide) x (by rw[gu,cy]) (vT rfl _) rfl rfl (by omega) (by omega) (by omega);obtain⟨h3,h4⟩:=G.c;have h5:J.c (h.a+1)=.row [g,Z0] 81 false false:=by rw[B _ (by omega) (.inl (by omega))];exact p
  have st:=EO (off:=0) PX h3 h4 h5 (by simp) (by omega);have w1:=DU i;simp only[eE,seval,↓eP,C,S,ab,mU,Q_,X,sK,Y];refine WK.b (fun k f=>f.T.a 0=qP T 0/\f.T.a 2=qP h.a 0/\f.T.a 3=qP (h.a+1) 0/\f.T.a 4=iv (i:Int)/\f.T.a 5=Z0/\f.T.a 6=iv (k:Int)/\f.h=m) 0 (by omega) ?_ ?_;.refine⟨?_,?_,?_,?_,?_,?_,rfl⟩<;>simp only[eE,seval,C,V,O,S]<;>rfl
  rintro k⟨T2,H2⟩hk⟨u0,u2,u3,u4,u5,u6,hH⟩;simp only at u0 u2 u3 u4 u5 u6 hH;subst hH;have c8:decide ((k:Int)<0)=false:=by simp
  simp only[eE,seval,↓eP,u0,u2,u3,u4,u5,u6,ab,mU,Q_,X,Z,iL,lE,jJ,c8,aE,l0,Iw,ap,st,w1];exact⟨F,by omega,by show A.a<=J.a;omega,fun j r y=>by rw[AP (by omega) (bc y),B _ (by omega) (.inl (by omega)),u j r y],by show J.b=_;omega,h0,BE rfl (by omega),by
   rw[Ct];exact G.a (af _) fun j r y g8=>AP (by omega) (by omega)⟩
 have Y:decide ((i:Int)<(d:Int))=false:=by grind
 have h6:i=d:=by omega
 subst h6;have l6:AI 6 (m.c T)=some lv:=by rw[E];rfl
 have l1:AI 1 (m.c (h.a+1))=some (Z0):=by rw[p];rfl
 obtain⟨q,J1,J,ap,st,g9,cc,gJ,fJ,nJ,B⟩:=VD (t:=25) (e:=3) (k:=1) FW au B_ IZ GD rfl (by decide) (by decide) (AL.b (h':=m) hI (by omega) fun j _ r=>by rw[u j (by omega) (by omega),M.2 j r]) (MJ _) b2 p (by omega) (by simp) (by omega);have s:J1.b=h.b:=by omega
 have H:J1.f h.b=J1:=DI s;have h7:J.b=h.b:=by omega
 have h8:J.f h.b=J:=DI h7;have h9:(h.a+1<m.a)=True:=by simp;omega
 have g1:(T<m.a)=True:=by simp;omega
 have I:=x.b (w:=1) (lo':=A.a) (by rw[gu,cy]) (af _);simp only[eE,seval,↓eP,C,S,ab,mU,Q_,X,sK,Y];refine WK.a (fs:=vH) (by kernel_rfl) ?_;unfold vH;iterate 9 refine DG U ?_;simp only[rG,seval,AB,AD,AC,A7,BL,target,BY,DB,C,O,W,D,h9,g1,Sn,BH,l1,Hx,l6,ap,s,H,st,h8]
 refine DF ?_;have g2:J.c (h.a+1)=.row [g,q] 81 false false:=gJ;have lJ:AX 2 0 (J.c (h.a+1))=some (.agg #[g,q]):=by rw[g2];rfl
 have g3:J.c h.a=.row [Z0,Z0] 81 false false:=by rw[B _ (by omega) (by omega),u _ (by omega) (by omega)];exact gA
 have g4:=GQ bP (vs:=[g,q]) g3 rfl rfl (by simp only[az,bd,I.a,cc.a,ao]) (by omega);have lF:AX 2 0 ((J.e h.a (.row [g,q] 81 false false)).c h.a)=some (.agg #[g,q]):=by rw[BE rfl (by omega)];rfl
 have K:BD prog J 81 (qP h.a 0) (.agg #[g,q])=some (J.e h.a (.row [g,q] 81 false false)):=g4;simp only[eE,seval,V,O,uV,lJ,K,lF];have z:∀j,j≠h.a->(J.e h.a (.row [g,q] 81 false false)).c j=J.c j:=fun j r=>AP (by omega) (bc r);exact⟨⟨g,q,rfl,AL.f (AL.b (h':=J.e h.a (.row [g,q] 81 false false)) I (by show m.a<=J.a;omega) fun j h1 h2=>by rw[z j (by omega),B j h2 (by omega)]),AK.X (AK.U (h':=J.e h.a (.row [g,q] 81 false false)) (l:=o) cc (af _) fun j h1 _=>z j (by omega))⟩,by show J.b=_;omega,⟨by show h.a<=J.a;omega,fun j r=>by rw[z j (by omega),B j (by omega) (by omega),u j (by omega) (by omega),M.2 j r]⟩⟩
theorem J02{lo T b:Nat}{a:List Int}(e:QY lo h T b a)(b1:b<1099511627776)(b2:a.length<1099511627776)(c:h.b<=h.a)(f:b+50<n):∃v d,AN n 121 [qP T 0] h=some (v,d)/\QA h v d b a:=by obtain⟨n,rfl⟩:=BX f;exact GY BF (J0t (n:=n) (N:=n) e b1 b2 c (by omega)) fun j k g _ i=>i.a g
theorem J06{lo R e:Nat}{a:List Int}(q:QO lo h R e a)(b1:e<1099511627776)(b2:a.length<1099511627776)(r:h.b<=h.a)(H:e+50<n):∃v j,AW prog (AN n) N 60 [qP R 0] h=some (v,j)/\QA h v j e a:=by
 have s:=(EC n).2;refine G_ (R:=fun v j=>QA h v j e a) func60 rfl ?_ ?_;.simp
 have t:f60.results.toList=[.cell 2 81]:=rfl;obtain⟨u,⟨T,w,x⟩,_,_⟩:=q;obtain⟨A,y,z,I,J,k⟩:∃A,h.d (.row [Z0,Z0] 81 false false)=A/\A.c h.a=.row [Z0,Z0] 81 false false/\A.a=h.a+1/\A.b=h.b/\Ex h A:=⟨_,rfl,BJ,rfl,rfl,(Ex.c h).b⟩;have l:AI 9 (A.c R)=some (qP T 0):=by rw[k.2 _ u.2];exact w
 obtain⟨v,B,C,⟨b,c,rfl,f,p⟩,K,m⟩:=J02 (n:=n) (h:=A) (x.a (by omega) fun i _ g=>k.2 i g) b1 b2 (by omega) (by omega);have L:=m.1;have D:B.c h.a=.row [Z0,Z0] 81 false false:=by rw[m.2 _ (by omega)];exact z
 have E:=GQ bP (vs:=[b,c]) D rfl rfl (by simp only[az,bd,f.a,AL.a p,ao]) (by omega);have o:BD prog B 81 (qP h.a 0) (.agg #[b,c])=some (B.e h.a (.row [b,c] 81 false false)):=E;have F:AX 2 0 ((B.e h.a (.row [b,c] 81 false false)).c h.a)=some (.agg #[b,c]):=by rw[BE rfl (by omega)];rfl
 simp only[eE,seval,t,pH,bN,vL,y,ab,J35,Uk,l,C,o,uV,F];have d:∀i,i≠h.a->(B.e h.a (.row [b,c] 81 false false)).c i=B.c i:=fun i g=>AP (by omega) (bc g);exact⟨⟨b,c,rfl,AL.f (AL.b (h':=B.e h.a (.row [b,c] 81 false false)) f (af _) fun i G _=>d i (by omega)),AK.X (AK.U (h':=B.e h.a (.row [b,c] 81 false false)) p (af _) fun i G _=>d i (by omega))⟩,by show B.b=_;omega,⟨by show h.a<=B.a;omega,fun i g=>by rw[d i (by omega),m.2 i (by omega),k.2 i g]⟩⟩
theorem J7i{lo R b:Nat}{a:List Int}(e:QO lo h R b a)(b1:b<1099511627776)(b2:a.length<1099511627776)(c:h.b<=h.a)(f:b+60<n):∃v d,AN n 60 [qP R 0] h=some (v,d)/\QA h v d b a:=by obtain⟨n,rfl⟩:=BX f;exact GY BF (J06 (n:=n) (N:=n) e b1 b2 c (by omega)) fun j k g _ i=>i.a g
theorem J7E{lo M e:Nat}{a:List Int}(c:O9 lo h M e a)(f:h.b<=h.a)(g:2<n):AN n 41 [qP M 0] h=some (S5,h):=by
 obtain⟨n,rfl⟩:=BX g;refine HF BF rfl (EA (R:=fun j=>∀i,i<h.a->j.c i=h.c i) func41 rfl (by simp) ?_);have k:f41.results.toList=[.cell 2 62]:=rfl;obtain⟨A,l,m,r,s,d⟩:∃A,h.d (.row [iv 0,iv 0,iv 0,iv 0] 62 false false)=A/\A.c h.a=.row [iv 0,iv 0,iv 0,iv 0] 62 false false/\A.a=h.a+1/\A.b=h.b/\Ex h A:=⟨_,rfl,BJ,rfl,rfl,(Ex.c h).b⟩;have b:AX 4 16 (A.c M)=some S5:=by rw[d.2 _ c.e.2];exact c.c
 have o:BD prog A 62 (qP h.a 0) S5=some (A.e h.a (.row [iv 0,iv 0,iv 0,iv 0] 62 false false)):=GQ RB (vs:=[iv 0,iv 0,iv 0,iv 0]) m rfl rfl rfl (by omega);have p:AX 4 0 ((A.e h.a (.row [iv 0,iv 0,iv 0,iv 0] 62 false false)).c h.a)=some S5:=by rw[BE rfl (by omega)];rfl
 simp only[eE,seval,k,J7k,J6U,Vf,l,ab,VH,Nz,b,o,p];exact fun i q=>by rw[AP (by omega) (by omega),d.2 i q]
theorem Zf{lo M b:Nat}{a:List Int}(c:O9 lo h M b a)(d:2<n):AN n 21 [qP M 0] h=some (iv 0,h):=by obtain⟨n,rfl⟩:=BX d;refine HF BF rfl (EA (R:=fun e=>∀i,i<h.a->e.c i=h.c i) func21 rfl (by simp) ?_);have f:f21.results.toList=[.tmp 2]:=rfl;have g:=c.d;simp only[eE,seval,f,ab,VL,AM,g];exact fun _ _=>cj
theorem J59{la lb lc ld e:Nat}{p c d q:Value}{l:List Int}(h1:AL la h p e 1 (List.replicate e (Z0)))(Q:AK lb h c l)(y:AL lc h d e 1 (List.replicate e (Z0)))(S:AK ld h q l)(b1:e<1099511627776)(b2:l.length<1099511627776)(hn:l.length+10<n)(hN:e+10<N):∃o,AW prog (AN n) N 39 [.agg #[p,c],.agg #[d,q]] h=some (.bool true,o)/\∀i,i<h.a->o.c i=h.c i:=by
 have z:=(EC n).2;refine EA (R:=fun o=>∀i,i<h.a->o.c i=h.c i) func39 rfl ?_ ?_;.simp
 have hr:f39.results.toList=[.tmp 4]:=rfl;have ca:=C9 [p,c];have oa:[p,c].all one=true:=by simp only[az,bd,AL.a h1,AL.a Q,ao]
 have cb:=C9 [d,q];have ob:[d,q].all one=true:=by simp only[az,bd,AL.a y,AL.a S,ao]
 have g0:∀(a b:BO),let A:=(h.d a).d b
   A.c h.a=a/\A.c (h.a+1)=b/\A.a=h.a+2/\A.b=h.b/\Ex h A:=fun a b=>⟨JG,MG,rfl,rfl,(Ex.c h).b.b⟩;obtain⟨T,U,nA,fA,xA⟩:=g0 (.row [p,c] 81 false false) (.row [d,q] 81 false false);simp only[eE,seval,DJ,hr,ca,oa,cb,ob,bP];generalize(h.d (.row [p,c] 81 false false)).d (.row [d,q] 81 false false)=H at*;have B:H.f H.b=H:=rfl;have s:AI 0 (H.c h.a)=some p:=by rw[T];rfl
 have x1:AI 1 (H.c h.a)=some c:=by rw[T];rfl
 have V:AI 0 (H.c (h.a+1))=some d:=by rw[U];rfl
 have y1:AI 1 (H.c (h.a+1))=some q:=by rw[U];rfl
 have C:=fun(o:AA)=>AL.c h1 eo (h':=o);have l3:=fun(o:AA)=>AL.c y eo (h':=o);have f:∀i,i<h.a->H.c i=h.c i:=xA.2;have D:((e:Int)!=(e:Int))=false:=by simp
 have E:((0:Int)!=0)=false:=rfl;have F:=aN (n:=n) (h:=H) (AK.U Q (by omega) fun i _ x=>f i x) (AK.U S (by omega) fun i _ x=>f i x) (by omega) (by omega);simp only[eE,seval,↓eP,ab,aE,Sn,Q_,BH,s,x1,V,y1,C,l3,D,F];refine WK.b (fun i g=>g.T.a 2=qP h.a 0/\g.T.a 3=qP (h.a+1) 0/\g.T.a 5=iv (i:Int)/\g.h=H/\i<=e) e (by omega) ?_ ?_;.refine⟨?_,?_,?_,rfl,bg _⟩<;>simp only[eE,seval]<;>rfl
 rintro i⟨T1,m⟩x⟨t,G,u,v,h0⟩;simp only at t G u v;subst v;rcases ar i e with r|h5
 .have I:decide ((i:Int)<(e:Int))=true:=by grind
  obtain⟨W,p0,X,b0,w0⟩:=AL.j (AL.b (h':=m) h1 (by omega) fun j _ J=>f j J) eo N8 r;obtain⟨Y,p1,r1,K,w1⟩:=AL.j (AL.b (h':=m) y (by omega) fun j _ J=>f j J) eo N8 r;have w:AI p0 (m.c W)=some (Z0):=by grind
  have L:AI p1 (m.c Y)=some (Z0):=by grind
  have hT:(h.a<m.a)=True:=by grind
  have M:(h.a+1<m.a)=True:=by grind
  have O:(W<m.a)=True:=by simp[b0]
  have P:(Y<m.a)=True:=by simp[K]
  have w3:=DU i;simp only[eE,seval,↓eP,t,u,aE,Q_,s,C,I];refine WK.a (fs:=wC) (by kernel_rfl) ?_;unfold wC;iterate 13 refine DG z ?_;simp only[rG,seval,AB,AD,AC,A7,BL,C8,B,t,G,u,hT,M,O,P,aE,Q_,s,V,X,r1,iL,w,L,jJ,E]
  refine DF ?_;simp only[eE,seval,↓eP];refine WK.b (fun k g=>g.T.a 2=qP h.a 0/\g.T.a 3=qP (h.a+1) 0/\g.T.a 5=iv (i:Int)/\g.T.a 6=iv (k:Int)/\g.h=m) 0 (by omega) ?_ ?_;.refine⟨?_,?_,?_,?_,rfl⟩<;>simp only[eE,seval,t,G,u]<;>rfl
  rintro k⟨T2,H2⟩hk⟨Z,u3,u5,u6,v⟩;simp only at Z u3 u5 u6 v;subst v;have c8:decide ((k:Int)<0)=false:=by simp
  simp only[eE,seval,↓eP,Z,u3,u5,u6,aE,Q_,s,X,iL,w,jJ,c8,w3];exact⟨r,by omega⟩
 have I:decide ((i:Int)<(e:Int))=false:=by grind
 simp only[eE,seval,↓eP,t,u,aE,Q_,s,C,I];exact f
theorem J1A{g i lc j b:Nat}{e c d f:Value}{a:List Int}(h1:AL g h e b 1 (List.replicate b (Z0)))(k:AK i h c a)(l:AL lc h d b 1 (List.replicate b (Z0)))(m:AK j h f a)(b1:b<1099511627776)(b2:a.length<1099511627776)(o:a.length+b+20<n):AN n 39 [.agg #[e,c],.agg #[d,f]] h=some (.bool true,h):=by obtain⟨n,rfl⟩:=BX o;exact HF BF rfl (J59 (N:=n) h1 k l m b1 b2 (by omega) (by omega))
theorem J5b{lo lo' M R m:Nat}{b:List Int}(J:O9 lo h M m b)(q:QO lo' h R m b)(b1:m<1099511627776)(b2:b.length<1099511627776)(r:h.b<=h.a)(Q:m+b.length+100<n):∃o,AW prog (AN n) N 12 [qP M 0,qP R 0] h=some (.bool true,o)/\∀i,i<h.a->o.c i=h.c i:=by
 have s:=(EC n).2;refine EA (R:=fun o=>∀i,i<h.a->o.c i=h.c i) func12 rfl ?_ ?_;.simp
 have L:f12.results.toList=[.tmp 4]:=rfl;have t:h.f h.b=h:=rfl;obtain⟨S,A,u,⟨T,c,rfl,v,O⟩,K,p⟩:=J5a (n:=n) J b1 b2 r (by omega);have U:=p.1;have w:A.f h.b=A:=DI K;have x:=q.a (h':=A) p.1 fun i _ d=>p.2 i d;obtain⟨V,B,y,⟨P,W,rfl,f,z⟩,X,e⟩:=J7i (n:=n) x b1 b2 (by omega) (by omega);have Y:=e.1;have g:B.b=h.b:=by omega
 have C:B.f h.b=B:=DI g;have a:=p.a e;have D:=J1A (n:=n) (h:=B) (AL.b v e.1 fun i _ d=>e.2 i d) (AK.U O e.1 fun i _ d=>e.2 i d) f z b1 b2 (by omega);have j:=J.a (h':=B) a.1 fun i _ d=>a.2 i d;have k:=q.a (h':=B) a.1 fun i _ d=>a.2 i d;have E:=J7E (n:=n) (h:=B.f (max h.b h.a)) (j.a (af _) fun _ _ _=>rfl) (by rw[BI,BK];have:=a.1;omega) (by omega);have F:=Zf (n:=n) (h:=B.f (max h.b h.a)) (j.a (af _) fun _ _ _=>rfl) (by omega);have G:AX 4 10 (B.c R)=some S5:=k.e;have H:=k.c;have I:(R<h.a)=True:=by simp[q.d.2]
 have l:((0:Int)==0)=true:=rfl;simp only[eE,seval,L];refine WK.a (fs:=Ag) (by kernel_rfl) ?_;unfold Ag;iterate 24 refine DG s ?_;simp only[rG,seval,AB,AD,AC,A7,BL,C8,t,u,K,w,y,g,C,D,E,F,I,J8y,J6O,Nz,AM,G,H,eq62,l]
 refine DF ?_;simp only[eE,seval];exact a.2
theorem Vu{lo lo' M R b:Nat}{a:List Int}(d:O9 lo h M b a)(e:QO lo' h R b a)(b1:b<1099511627776)(b2:a.length<1099511627776)(c:h.b<=h.a)(f:b+a.length+110<n):AN n 12 [qP M 0,qP R 0] h=some (.bool true,h):=by obtain⟨n,rfl⟩:=BX f;exact HF BF rfl (J5b (N:=n) d e b1 b2 c (by omega))
end
structure RT (h:AA) (b:Nat) (v:Value) (t:FK):Prop where
 v:v=.agg #[qS b t.V.length (t.V.length+3),qS (b+1) t.G.length (t.G.length+5),qS (b+2) t.a.length (t.a.length+5)]
 c:b+2<h.a
 g:h.c b=.row (FZ (t.V++List.replicate 3 (0,0,0))) 142 false false
 d:∃ L,PE h (b+1) t.G L
 e:∃ L,PE h (b+2) t.a L
theorem Js{l m:List (Int×Int×Int)}:FZ (l++m)=FZ l++FZ m:=by simp[FZ]
theorem RT.b{h h':AA}{b:Nat}{v:Value}{t:FK}(e:RT h b v t)(m:h.a<=h'.a)(d:∀i,b<=i->i<=b+2->h'.c i=h.c i):RT h' b v t:=by obtain⟨f,j,g,⟨k,a⟩,⟨l,c⟩⟩:=e;exact⟨f,by omega,by grind,⟨k,by rw[d _ (by omega) (by omega)];exact a.g,a.b,a.c,a.a⟩,⟨l,by rw[d _ (by omega) (by omega)];exact c.g,c.b,c.c,c.a⟩⟩
theorem RT.a{h:AA}{b:Nat}{v:Value}{t:FK}(a:RT h b v t):GH b h v t:=by obtain⟨c,d,g,⟨i,e⟩,⟨j,f⟩⟩:=a;rw[Js]at g;exact⟨_,_,_,c,AL.d g ⟨by omega,by omega⟩ (WT _),e.d ⟨by omega,by omega⟩,f.d ⟨by omega,by omega⟩⟩
theorem Sd{a b c:Option Addr}{n m k d e f:Nat}:CL prog 30 [(0,.slice a n d),(1,.slice b m e),(2,.slice c k f)]=some (.agg #[.slice a n d,.slice b m e,.slice c k f]):=by have h:=xO;rw[ei]at h;simp only at h;simp only[CL,M7,MS,ai,ei,h];rfl
noncomputable def Bh:Array Oper:=B9 f54 3
def fsLT:List (Bool×Bool×List Operand):=[DT,DT,DT,DT,DT,AH [.tmp 14,.tmp 13],AH [.tmp 14,.tmp 13],AH [.tmp 14,.tmp 13],BP [.tmp 14,.tmp 13,.tmp 18],BP [.tmp 14,.tmp 13,.tmp 18],AH [.tmp 14,.tmp 13],AJ,AJ]
theorem J6Q:CA Bh=fsLT:=by kernel_rfl
section
variable {n N:Nat} {h:AA}
theorem Yy{t:FK}{tv:Value}{lo:Nat}(ht:GH lo h tv t)(hV:t.V.length<2932031007403)(hG:t.G.length<2932031007403)(hD:t.a.length<2932031007403)(h4:h.b<=h.a)(hn:20<n):∃Z q,AW prog (AN n) N 54 [tv] h=some (Z,q)/\RT q (h.a+2) Z t/\q.a=h.a+5/\q.b=h.b/\∀i,i<h.a->q.c i=h.c i:=by
 obtain⟨v,K,E,rfl,p1,p2,p3⟩:=ht;obtain⟨_,av,cv,rfl,_⟩:=id p1;generalize h0:Value.slice av t.V.length cv=v at*;have b:=(EC n).2;refine G_ (R:=fun Z q=>RT q (h.a+2) Z t/\q.a=h.a+5/\q.b=h.b/\∀i,i<h.a->q.c i=h.c i) func54 rfl (by simp[f54]) ?_;have hr:f54.results.toList=[.cell 2 30]:=rfl;have ca:=C9 [v,K,E];have oa:[v,K,E].all one=true:=by simp only[az,bd,AL.a p1,AL.a p2,AL.a p3,ao]
 have zc:=C9 [Z0,Z0,Z0];obtain⟨gA,gZ,n0,f0,gO⟩:=OP h (.row [v,K,E] 30 false false) (.row [Z0,Z0,Z0] 30 false false);simp only[eE,seval,DJ,ca,oa,JJ,M7,MS,zc];generalize(h.d (.row [v,K,E] 30 false false)).d (.row [Z0,Z0,Z0] 30 false false)=g at*;have x0:AI 0 (g.c h.a)=some v:=by rw[gA];rfl
 have r:=fun(q:AA)=>AL.c p1 bn (h':=q);have w3:IntKind.i64.wrap ((t.V.length:Int)+3)=((t.V.length+3:Nat):Int):=BR;obtain⟨a,h1,h2,g1,n1,f1,o1⟩:=mO (P:=prog) (h:=g) (t:=28) (e:=142) (k:=3) (z:=E8 0 0 0) bn NS wM Y4 rfl rfl (by decide) (by decide) (p1.b (h':=g) (by omega) fun i _ p=>gO i p) (zP _) (by omega) (by omega);have L:AI 0 ((g.d (.row (CF (E8 0 0 0).cells.toList (t.V.length+3)) 142 false false)).c h.a)=some v:=by rw[AV];exact x0
 simp only[eE,seval,IM,IJ,x0,r,w3,h1,L,h2];have gV:a.c (h.a+2)=.row (FZ (t.V++List.replicate 3 (0,0,0))) 142 false false:=by
  rw[<-n0,g1,Js];rfl
 have s:∀i,i<h.a+2->a.c i=g.c i:=by grind
 have y0:AI 0 (a.c h.a)=some v:=by rw[s _ (by omega)];exact x0
 have y1:AI 1 (a.c h.a)=some K:=by rw[s _ (by omega),gA];rfl
 have y2:AI 2 (a.c h.a)=some E:=by rw[s _ (by omega),gA];rfl
 have m1:a.a=h.a+3:=by omega
 have M:(h.a<a.a)=True:=by simp;omega
 have O:(g.a<a.a)=True:=by simp;omega
 have Q:=fun(H:AA)=>PC (P:=prog) (h:=H) (t:=28) (e:=142) (id:=g.a) (n:=t.V.length+3) (m:=t.V.length) (c:=t.V.length+3) bn NS (by omega) (by unfold AT;omega);have w:∀i,i<h.a->a.c i=h.c i:=by grind
 obtain⟨x,y,⟨L1,I⟩,n2,f2,o2⟩:=nO (n:=n) (h:=a.f (max a.b a.a)) (AK.U p2 (by rw[BK];omega) fun i _ p=>w i p) hG (by rw[BK,BI];omega) hn;rw[BK]at y I n2 o2;obtain⟨d,l,A,m2,B⟩:∃d,x.f a.b=d/\d.b=a.b/\d.a=x.a/\∀i,d.c i=x.c i:=⟨_,rfl,rfl,rfl,fun _=>rfl⟩;obtain⟨C,D,⟨L2,J⟩,n3,f3,o3⟩:=nO (n:=n) (h:=d.f (max a.b a.a)) (AK.U p3 (by rw[BK];omega) fun i _ p=>by rw[CZ,B,o2 i (by omega),CZ];exact w i p) hD (by rw[BK,BI];omega) hn;rw[BK]at D J n3 o3;obtain⟨f,o,u,m3,S⟩:∃f,C.f a.b=f/\f.b=a.b/\f.a=C.a/\∀i,f.c i=C.c i:=⟨_,rfl,rfl,rfl,fun _=>rfl⟩;have q2:∀i,i<a.a->d.c i=a.c i:=fun i p=>by rw[B,o2 i p];rfl
 have q3:∀i,i<d.a->f.c i=d.c i:=fun i p=>by rw[S,o3 i p];rfl
 have z2:AI 2 (d.c h.a)=some E:=by rw[q2 _ (by omega)];exact y2
 have h3:f.c (h.a+1)=.row [Z0,Z0,Z0] 30 false false:=by rw[q3 _ (by omega),q2 _ (by omega),s _ (by omega)];exact gZ
 have T:=GQ JJ (vs:=[qS g.a t.V.length (t.V.length+3),qS a.a t.G.length (t.G.length+5),qS d.a t.a.length (t.a.length+5)]) h3 rfl rfl rfl (by omega);have U:a.f a.b=a:=rfl;have W:Go.Sx.ahead a.a (DP (qS g.a (t.V.length+3) (t.V.length+3)))=true:=by show decide (g.a<a.a)=true;simp;omega
 have X:d.f a.b=d:=DI A;have Y:f.f a.b=f:=DI u;refine WK.a (ops:=Bh) J6Q ?_;refine BV.a ?_;have j:=aQ @DB (aQ @BS (aQ @D7 (aQ @C0 (aQ @BI (aQ @BK (aQ @CZ (aQ @IM (aQ @LF (aQ @LN (aQ @IJ (aQ @BH (aQ @y0 (aQ @y1 (aQ @M (aQ @O (aQ @r (aQ @W (aQ @Q (aQ @y (aQ @l (aQ @A (aQ @U (aQ @X (aQ @z2 (aQ @D (aQ @o (aQ @u (aQ @Y (aQ @Sd @T)))))))))))))))))))))))))))));refine AG b 0 (some 13) (.move (.tmp 3)) none ?_;simp only[rG,seval,AB,AD,AC,ab,j];refine AG b 1 (some 14) (.fieldAddr 30 (.tmp 1) 0) none ?_;simp only[rG,seval,AB,AD,AC,j];refine AG b 2 (some 15) (.load 28 (.tmp 14)) none ?_;simp only[rG,seval,AB,AC,A7,j];refine AG b 3 (some 16) (.call {callee:=.builtin .len,args:=#[.tmp 15],argTypes:=#[28]}) none ?_;simp only[rG,seval,AB,AD,AC,BL,j];clear j;refine⟨by rw[<-h0],?_⟩;have j:=aQ @DB (aQ @BS (aQ @D7 (aQ @C0 (aQ @BI (aQ @BK (aQ @CZ (aQ @IM (aQ @LF (aQ @LN (aQ @IJ (aQ @BH (aQ @y0 (aQ @y1 (aQ @M (aQ @O (aQ @r (aQ @W (aQ @Q (aQ @y (aQ @l (aQ @A (aQ @U (aQ @X (aQ @z2 (aQ @D (aQ @o (aQ @u (aQ @Y (aQ @Sd @T)))))))))))))))))))))))))))));refine AG b 4 (some 17) (.slice 28 (.tmp 13) none (some (.tmp 16)) none) none ?_;simp only[rG,seval,AB,AC,A7,j];refine AG b 5 (some 18) (.fieldAddr 30 (.tmp 1) 1) none ?_;simp only[rG,seval,AB,AD,AC,ab,ab,j];refine AG b 6 (some 19) (.load 25 (.tmp 18)) none ?_;simp only[rG,seval,AB,AC,A7,j];refine AG b 7 (some 20) (.call {callee:=.value (.func 114),args:=#[.tmp 19],argTypes:=#[25]}) none ?_;simp only[rG,seval,AB,AC,BL,j];refine AG b 8 (some 21) (.fieldAddr 30 (.tmp 1) 2) none ?_;simp only[rG,seval,AB,AD,AC,ab,ab,j];refine AG b 9 (some 22) (.load 25 (.tmp 21)) none ?_;simp only[rG,seval,AB,AC,A7,j];refine AG b 10 (some 23) (.call {callee:=.value (.func 114),args:=#[.tmp 22],argTypes:=#[25]}) none ?_;simp only[rG,seval,AB,AC,BL,j];refine AG b 11 (some 24) (.build 30 #[(0,.tmp 17),(1,.tmp 20),(2,.tmp 23)]) none ?_;simp only[rG,seval,AB,AD,AC,dp,dz,j];refine AG b 12 (none) (.store 30 (.tmp 2) (.tmp 24)) none ?_;simp only[rG,seval,AB,AC,target,BY,j];refine BV.b (i:=13) (by kernel_rfl) ?_;clear j;have lF:AX 3 0 ((f.e (h.a+1) (.row [qS g.a t.V.length (t.V.length+3),qS a.a t.G.length (t.G.length+5),qS d.a t.a.length (t.a.length+5)] 30 false false)).c (h.a+1))=some (.agg #[qS g.a t.V.length (t.V.length+3),qS a.a t.G.length (t.G.length+5),qS d.a t.a.length (t.a.length+5)]):=by rw[BE rfl (by omega)];rfl
 have oF:∀i,i≠h.a+1->(f.e (h.a+1) (.row [qS g.a t.V.length (t.V.length+3),qS a.a t.G.length (t.G.length+5),qS d.a t.a.length (t.a.length+5)] 30 false false)).c i=f.c i:=fun i p=>AP (by omega) (bc p);have nF:(f.e (h.a+1) (.row [qS g.a t.V.length (t.V.length+3),qS a.a t.G.length (t.G.length+5),qS d.a t.a.length (t.a.length+5)] 30 false false)).a=f.a:=rfl;have fF:(f.e (h.a+1) (.row [qS g.a t.V.length (t.V.length+3),qS a.a t.G.length (t.G.length+5),qS d.a t.a.length (t.a.length+5)] 30 false false)).b=f.b:=rfl;have h5:(f.e (h.a+1) (.row [qS g.a t.V.length (t.V.length+3),qS a.a t.G.length (t.G.length+5),qS d.a t.a.length (t.a.length+5)] 30 false false)).f a.b=f.e (h.a+1) (.row [qS g.a t.V.length (t.V.length+3),qS a.a t.G.length (t.G.length+5),qS d.a t.a.length (t.a.length+5)] 30 false false):=DI u;simp only[eE,seval,hr,FU,lF];generalize f.e (h.a+1) (.row [qS g.a t.V.length (t.V.length+3),qS a.a t.G.length (t.G.length+5),qS d.a t.a.length (t.a.length+5)] 30 false false)=F at*;rw[n0,m1,show d.a=h.a+2+2 by omega];rw[m1]at I;rw[show d.a=h.a+2+2 by omega]at J;exact⟨⟨rfl,by omega,by rw[oF _ (by omega),q3 _ (by omega),q2 _ (by omega)];exact gV,⟨L1,by rw[oF _ (by omega),q3 _ (by omega),B];exact I.g,I.b,I.c,I.a⟩,⟨L2,by rw[oF _ (by omega),S];exact J.g,J.b,J.c,J.a⟩⟩,by omega,by omega,fun i p=>by rw[oF i (by omega),q3 i (by omega),q2 i (by omega)];exact w i p⟩
theorem J6K{t:FK}{e:Value}{lo:Nat}(b:GH lo h e t)(g:t.V.length<2932031007403)(j:t.G.length<2932031007403)(k:t.a.length<2932031007403)(c:h.b<=h.a)(l:30<n):∃d a,AN n 54 [e] h=some (d,a)/\RT a (h.a+2) d t/\a.a=h.a+5/\a.b=h.b/\∀i,i<h.a->a.c i=h.c i:=by obtain⟨n,rfl⟩:=BX l;refine GY BF (Yy (n:=n) (N:=n) b g j k c (by omega)) fun d m f _ b=>?_;rw[b.1.v]at f;cases f
theorem Jbn{l:List (Int×Int×Int)}{k:Nat}{a b c:Int}(j:k<l.length):Go.Sx.lay (FZ l) (k*3) [iv a,iv b,iv c]=FZ (l.set k (a,b,c)):=by induction l generalizing k with|nil=>grind|cons x l f=>
  have e:FZ (x::l)=iv x.1::iv x.2.1::iv x.2.2::FZ l:=rfl;cases k with
  |zero=>simp[Go.Sx.lay,FZ]|succ k=>
   have d:k<l.length:=by grind
   have g:=f d;have i:FZ ((x::l).set (k+1) (a,b,c))=iv x.1::iv x.2.1::iv x.2.2::FZ (l.set k (a,b,c)):=rfl;rw[i,<-g,e];simp[Go.Sx.lay,show(k+1)*3=k*3+1+1+1 by omega,List.take_succ_cons,show k*3+1+1+1+3=(k*3+3)+1+1+1 by omega]
theorem Vb{id k:Nat}{l:List (Int×Int×Int)}{a b c:Int}{ty:TypeId}{g:Bool}(d:h.c id=.row (FZ l) ty g false)(e:k<l.length)(f:h.b<=id):BD prog h 142 (.pointer (some ⟨id,k*3,none⟩)) (E8 a b c)=some (h.e id (.row (FZ (l.set k (a,b,c))) ty g false)):=by have i:=WT l;simp only[BD,NS,HW,d];rw[ag (show some 3=some (E8 a b c).cells.size from rfl),ag (by rw[i,bh f,bh (show k*3+(E8 a b c).cells.toList.length<=l.length*3 by show k*3+3<=_;omega)];rfl)];rw[<-Jbn e];rfl
theorem Un{l:List (Int×Int×Int)}{k:Nat}{x:Int×Int×Int}{ty:TypeId}{a b:Bool}(c:l[k]?=some x):AX 3 (k*3) (.row (FZ l) ty a b)=some (E8 x.1 x.2.1 x.2.2):=by have:=iD l k x c;simp[AX,GN,this]
theorem Kf:HN prog (match prog.underlying 142 with|some (.struct a)=>a.toList|_=>[])=some [(0,1),(1,1),(2,1)]:=by kernel_rfl
theorem Um:CL prog 142 []=some (E8 0 0 0):=by have h:=Kf;rw[dy]at h;simp only at h;simp only[CL,VB,VF,ai,dy,h];rfl
theorem Dt:CL prog 142 [(0,iv 5),(1,iv 5),(2,iv 5)]=some (E8 5 5 5):=by have h:=Kf;rw[dy]at h;simp only at h;simp only[CL,VB,VF,ai,dy,h];rfl
theorem J2Z{t:FK}{S v:Value}{lo b:Nat}{h0:AA}(C:RT h b v t)(ht:GH lo h0 S t)(hb:h0.a<=b)(T:∀i,i<h0.a->h.c i=h0.c i)(hf:h.b<=b)(hV:t.V.length<1099511627776)(hG:t.G.length<1099511627776)(hD:t.a.length<1099511627776)(hn:t.V.length+t.G.length+t.a.length+90<n:=by omega)(hN:t.V.length+60<N:=by omega):∃f,AW prog (AN n) N 58 [v,S] h=some (.bool true,f)/\(h.a<=f.a/\f.b=h.b/\∀i,i<h.a->(i<b\/b+2<i)->f.c i=h.c i):=by
 have h6:=C;have h7:=C.c;have U:GH b h v t:=C.a;have z:GH lo h S t:=ht.b (by omega) fun i _ d=>T i d;obtain⟨s,u,w,rfl,p1,p2,p3⟩:=id ht;obtain⟨rfl,_,gV,⟨L1,D⟩,⟨L2,E⟩⟩:=C;refine EA (R:=fun f=>h.a<=f.a/\f.b=h.b/\∀i,i<h.a->(i<b\/b+2<i)->f.c i=h.c i) func58 rfl (by simp) ?_;have hr:f58.results.toList=[.tmp 4]:=rfl;have ca:=C9 [qS b t.V.length (t.V.length+3),qS (b+1) t.G.length (t.G.length+5),qS (b+2) t.a.length (t.a.length+5)];have oa:([qS b t.V.length (t.V.length+3),qS (b+1) t.G.length (t.G.length+5),qS (b+2) t.a.length (t.a.length+5)]:List Value).all one=true:=rfl;have cb:=C9 [s,u,w];have ob:[s,u,w].all one=true:=by simp only[az,bd,AL.a p1,AL.a p2,AL.a p3,ao]
 obtain⟨F,I,nG,fG,J⟩:=OP h (.row [qS b t.V.length (t.V.length+3),qS (b+1) t.G.length (t.G.length+5),qS (b+2) t.a.length (t.a.length+5)] 30 false false) (.row [s,u,w] 30 false false);simp only[eE,seval,DJ,ca,oa,cb,ob,JJ];generalize(h.d (.row [qS b t.V.length (t.V.length+3),qS (b+1) t.G.length (t.G.length+5),qS (b+2) t.a.length (t.a.length+5)] 30 false false)).d (.row [s,u,w] 30 false false)=G at*;have lA:AX 3 0 (G.c h.a)=some (.agg #[qS b t.V.length (t.V.length+3),qS (b+1) t.G.length (t.G.length+5),qS (b+2) t.a.length (t.a.length+5)]):=by rw[F];rfl
 have lB:AX 3 0 (G.c (h.a+1))=some (.agg #[s,u,w]):=by rw[I];rfl
 have z0:∀i,i<h0.a->G.c i=h0.c i:=by grind
 have q:=Yg (n:=n) (h:=G) (U.b (by omega) fun i _ d=>J i d) (z.b (by omega) fun i _ d=>J i d) (by omega) (by omega) (by omega) (by omega);have x0:AI 0 (G.c h.a)=some (qS b t.V.length (t.V.length+3)):=by rw[F];rfl
 have x1:AI 1 (G.c h.a)=some (qS (b+1) t.G.length (t.G.length+5)):=by rw[F];rfl
 have x2:AI 2 (G.c h.a)=some (qS (b+2) t.a.length (t.a.length+5)):=by rw[F];rfl
 have W:AI 0 (G.c (h.a+1))=some s:=by rw[I];rfl
 have y1:AI 1 (G.c (h.a+1))=some u:=by rw[I];rfl
 have y2:AI 2 (G.c (h.a+1))=some w:=by rw[I];rfl
 obtain⟨X,k1,n1,f1,o1⟩:=fR (n:=n) (h:=G) (o:=b+1) (L:=L1) ⟨by rw[J _ (by omega)];exact D.g,D.b,D.c,D.a⟩ (by omega) (by omega) (AK.U p2 (by omega) fun i _ d=>z0 i d) (by omega) (by omega);obtain⟨r,k2,n2,f2,o2⟩:=fR (n:=n) (h:=X) (o:=b+2) (L:=L2) ⟨by rw[o1 _ (by omega),J _ (by omega)];exact E.g,E.b,E.c,E.a⟩ (by omega) (by omega) (AK.U p3 (by omega) fun i _ d=>by grind) (by omega) (by omega);have c6:X.c h.a=G.c h.a/\X.c (h.a+1)=G.c (h.a+1):=by grind
 have c7:r.c h.a=G.c h.a/\r.c (h.a+1)=G.c (h.a+1):=by grind
 have g:=fun(f:AA)=>AL.c p1 bn (h':=f);have w3:IntKind.i64.wrap ((t.V.length:Int)+3)=((t.V.length+3:Nat):Int):=BR;have Y:∀f:AA,CU prog f 28 (qS b (t.V.length+3) (t.V.length+3))=some (iv ((t.V.length+3:Nat):Int)):=fun f=>by simp[CU,bn]
 have Z:=fun(H:AA)=>PC (P:=prog) (h:=H) (t:=28) (e:=142) (id:=b) (n:=t.V.length) (m:=t.V.length+3) (c:=t.V.length+3) bn NS (by omega) (by unfold AT;omega);simp only[eE,seval,↓eP,ab,FU,lA,lB,q,IM,LF,LN,BH,IJ,x1,y1,k1,c6.1,c6.2,x2,y2,k2,c7.1,c7.2,x0,W,g,w3,Z];have z4:∀i,(i<b\/b+2<i)->r.c i=G.c i:=fun i d=>by rw[o2 i (by omega),o1 i (by omega)]
 have h3:r.c b=.row (FZ (t.V++List.replicate 3 (0,0,0))) 142 false false:=by grind
 refine WK.b (fun k p=>p.T.a 3=qP (h.a+1) 0/\p.T.a 5=.bool true/\p.T.a 6=qS b (t.V.length+3) (t.V.length+3)/\p.T.a 7=iv (k:Int)/\k<=t.V.length+3/\p.h.a=r.a/\p.h.b=r.b/\(∀i,i≠b->p.h.c i=r.c i)/\∃L:List (Int×Int×Int),p.h.c b=.row (FZ L) 142 false false/\L.length=t.V.length+3/\∀j,k<=j->L[j]?=(t.V++List.replicate 3 (0,0,0))[j]?) (t.V.length+3) (by omega) ?_ ?_;.exact⟨by simp only[eE,seval],by simp only[eE,seval],by simp only[eE,seval],by simp only[eE,seval]<;>rfl,by omega,rfl,rfl,fun _ _=>rfl,_,h3,by simp,fun _ _=>rfl⟩
 rintro k⟨T1,H5⟩hk⟨t3,K,M,O,h8,n5,f5,o5,L,gL,lL,eL⟩;simp only at t3 K M O n5 f5 o5 gL;have cB:H5.c (h.a+1)=G.c (h.a+1):=by grind
 by_cases l:k<t.V.length+3
 .have Q:decide ((k:Int)<((t.V.length+3:Nat):Int))=true:=by grind
  have A:=WZ (id:=b) (n:=t.V.length+3) (c:=t.V.length+3) (i:=k) bn NS l;have B:=Vb (k:=k) (a:=5) (b:=5) (c:=5) gL (by omega) (by omega);have w1:=DU k;by_cases h2:k<t.V.length
  .have c2:decide ((k:Int)<(t.V.length:Int))=true:=by grind
   simp only[eE,seval,↓eP,t3,K,M,O,Y,Q,IM,IJ,cB,W,g,c2,Dt,A,B,w1];exact⟨l,by omega,n5,f5,fun i d=>by rw[AP (by omega) (bc d)];exact o5 i d,_,BE rfl (by omega),by grind,fun j hj=>by rw[bf (by omega)];exact eL j (by omega)⟩
  .have c2:decide ((k:Int)<(t.V.length:Int))=false:=by grind
   have hx:L[k]?=some (0,0,0):=by rw[eL k (af _),cz (by omega),gG,ag (by omega)]
   have h4:AX 3 (k*3) (H5.c b)=some (E8 0 0 0):=by rw[gL];exact Un hx
   have h5:=S1 (x:=.tmp 52) (y:=.tmp 53) (a:=0) (b:=0) (c:=0);simp only[eE,seval,↓eP,t3,K,M,O,Y,Q,IM,IJ,cB,W,g,c2,Um,Dt,A,UE,h4,h5,B,w1];exact⟨l,by omega,n5,f5,fun i d=>by rw[AP (by omega) (bc d)];exact o5 i d,_,BE rfl (by omega),by grind,fun j hj=>by rw[bf (by omega)];exact eL j (by omega)⟩
 have Q:decide ((k:Int)<((t.V.length+3:Nat):Int))=false:=by grind
 simp only[eE,seval,↓eP,hr,K,M,O,Y,Q];exact⟨by omega,by omega,fun i d h1=>by grind⟩
theorem J78{t:FK}{d v:Value}{lo b:Nat}{h0:AA}(e:RT h b v t)(f:GH lo h0 d t)(g:h0.a<=b)(c:∀i,i<h0.a->h.c i=h0.c i)(j:h.b<=b)(k:t.V.length<1099511627776)(l:t.G.length<1099511627776)(m:t.a.length<1099511627776)(o:t.V.length+t.G.length+t.a.length+100<n):∃a,AN n 58 [v,d] h=some (.bool true,a)/\(h.a<=a.a/\a.b=h.b/\∀i,i<h.a->(i<b\/b+2<i)->a.c i=h.c i):=by obtain⟨n,rfl⟩:=BX o;exact RL BF (J2Z e f g c j k l m)
end
theorem Iz{x y:Operand}{i j:Nat}:CT prog .eql 34 x y (qP i j) (.pointer none)=some (.bool false):=by have a:Go.Sx.flat (qP i j)=false:=rfl;simp only[CT,a,bz,aV,bi,underlying34]
theorem Yq{x y:Operand}{i j:Nat}:CT prog .eql 35 x y (qP i j) (.pointer none)=some (.bool false):=by have a:Go.Sx.flat (qP i j)=false:=rfl;simp only[CT,a,bz,aV,bi,underlying35]
theorem eqM0:CT prog .eql 34 (.tmp 61) (.const (.pointer none)) (.pointer none) (.pointer none)=some (.bool true):=by kernel_rfl
theorem eqM1:CT prog .eql 34 (.tmp 22) (.const (.pointer none)) (.pointer none) (.pointer none)=some (.bool true):=by kernel_rfl
theorem eqR0:CT prog .eql 35 (.tmp 63) (.const (.pointer none)) (.pointer none) (.pointer none)=some (.bool true):=by kernel_rfl
theorem eqB1:CT prog .eql 4 (.tmp 62) (.tmp 64) (.bool true) (.bool true)=some (.bool true):=by kernel_rfl
theorem eqB0:CT prog .eql 4 (.tmp 62) (.tmp 64) (.bool false) (.bool false)=some (.bool true):=by kernel_rfl
def YJ(h:AA)(v:Value)(h':AA)(b:Nat)(a:List Int):Prop:=h'.b=h.b/\Ex h h'/\(v=.tuple #[.pointer none,.pointer none,.bool true]\/∃M R,v=.tuple #[qP M 0,qP R 0,.bool true]/\O9 h.a h' M b a/\QO h.a h' R b a)
theorem YJ.a{h h':AA}{v:Value}{b:Nat}{a:List Int}(c:E5 v=true)(d:YJ h v h' b a):YJ h v h b a:=by
 obtain⟨_,_,e|⟨M,R,rfl,_⟩⟩:=d;.exact⟨rfl,Ex.c h,.inl e⟩
 .simp[E5]at c;cases c.1
theorem O9.b{lo lo':Nat}{h:AA}{M j:Nat}{i:List Int}(k:O9 lo h M j i)(l:lo'<=lo):O9 lo' h M j i:=by obtain⟨p,⟨S,Q,m,a,b,c,d,e,f,g⟩,n,o⟩:=k;exact⟨by omega,⟨S,Q,m,a,by omega,c,by omega,e,AK.X f l,g⟩,n,o⟩
theorem QO.b{lo lo':Nat}{h:AA}{M d:Nat}{c:List Int}(e:QO lo h M d c)(f:lo'<=lo):QO lo' h M d c:=by obtain⟨j,⟨T,a,b⟩,g,i⟩:=e;exact⟨by omega,⟨T,a,b.b f⟩,g,i⟩
section
variable {n N:Nat} {h:AA}
theorem Xc{nm:ByteArray}{s:AS}{pv tv cv:Value}{size:Int}{C:List Int}{t:FK}(hp:CG 0 h pv nm s)(ht:GH 0 h tv t)(hc:F6 0 h cv size C)(z1:∀x∈s.a,x.b<=9223372036854775807)(hl:DS s<2000000)(hC:C.length<2000000)(h3:t.V.length<2000000/\t.G.length<2000000/\t.a.length<2000000)(hg:h.c 0=EM)(z2:0<h.a)(u0:h.b<=h.a)(hn:20000010<n):∃v h',AW prog (AN n) N 11 [pv,tv,cv] h=some (v,h')/\YJ h v h' s.b.length (t.V.map (·.1)):=by
 have u1:=(EC n).2;obtain⟨I,J,K,O,P,Q,rfl,p1,p2,p3,p4,p5,p6⟩:=id hp;obtain⟨m,p,q,rfl,t1,t2,t3⟩:=id ht;obtain⟨l,rfl,pc⟩:=id hc;have z9:DS s=s.a.length+s.b.length+s.f.length+s.g.length+s.d.length+s.h.length:=rfl;have r:F7 s:=by unfold F7;omega
 refine G_ (R:=fun v h'=>YJ h v h' s.b.length (t.V.map (·.1))) func11 rfl ?_ ?_;.simp[f11]
 have hr:f11.results.toList=[.tmp 6,.tmp 7,.tmp 8]:=rfl;have ca:=C9 [.string nm,I,J,K,O,P,Q,iv s.c];have oa:=IV (nm:=nm) p1 p2 p3 p4 p5 p6;have cb:=C9 [m,p,q];have ob:[m,p,q].all one=true:=by simp only[az,bd,AL.a t1,AL.a t2,AL.a t3,ao]
 have cc:=C9 [iv size,l];have oc:[iv size,l].all one=true:=by simp only[az,bd,AL.a pc,JQ,ao]
 have h4:=C9 [iv 0,Z0];have h5:zT.cells.toList=[Z0,Z0,Z0]:=rfl;have g0:∀(a b c:BO),let A:=((h.d a).d b).d c
   A.c h.a=a/\A.c (h.a+1)=b/\A.c (h.a+1+1)=c/\A.a=h.a+3/\A.b=h.b/\Ex h A:=fun a b c=>by
  refine⟨?_,?_,BJ (h:=(h.d a).d b),rfl,rfl,(Ex.c h).b.b.b⟩
  .rw[AV (by show h.a<h.a+1+1;omega)];exact JG
  .rw[AV (by show h.a+1<h.a+1+1;omega)];exact BJ (h:=h.d a)
 obtain⟨gA,gB,gC,nA,fA,f⟩:=g0 (.row [.string nm,I,J,K,O,P,Q,iv s.c] 27 false false) (.row [m,p,q] 30 false false) (.row [iv size,l] 32 false false);simp only[eE,seval,DJ,hr,ca,oa,cb,ob,cc,oc,EQ,JJ,HQ];generalize((h.d (.row [.string nm,I,J,K,O,P,Q,iv s.c] 27 false false)).d (.row [m,p,q] 30 false false)).d (.row [iv size,l] 32 false false)=A at*;have lA:AX 8 0 (A.c h.a)=some (.agg #[.string nm,I,J,K,O,P,Q,iv s.c]):=IY gA rfl;have lB:AX 3 0 (A.c (h.a+1))=some (.agg #[m,p,q]):=by rw[gB];rfl
 have lC:AX 2 0 (A.c (h.a+1+1))=some (.agg #[iv size,l]):=by rw[gC];rfl
 have x1:AI 1 (A.c (h.a+1+1))=some l:=by rw[gC];rfl
 have h6:CG 0 A (.agg #[.string nm,I,J,K,O,P,Q,iv s.c]) nm s:=hp.a f.1 fun i _ d=>f.2 i d;obtain⟨v1,H1,h7,hL,n1,f1,o1⟩:=E3 (n:=n) h6 r (by omega) (by omega) (by omega);have h8:=hL.v;obtain⟨B,S,z3,nB,fB,oB⟩:=OV (t:=27) EQ (H:=H1) (zs:=CO) (vs:=[.string nm,qS (A.a+3) s.a.length (s.a.length+9),qS (A.a+3+1) s.b.length (s.b.length+3),qS (A.a+3+2) s.f.length (s.f.length+3),qS (A.a+3+3) s.g.length (s.g.length+3),qS (A.a+3+4) s.d.length (s.d.length+5),qS (A.a+3+5) s.h.length (s.h.length+5),iv s.c]) rfl rfl rfl (by omega);rw[<-h8]at S;have u:∀i,i<A.a->B.c i=A.c i:=by grind
 have h9:AX 3 0 (B.c (h.a+1))=some (.agg #[m,p,q]):=by rw[u _ (by omega)];exact lB
 have z4:GH 0 B (.agg #[m,p,q]) t:=ht.b (by have:=f.1;omega) fun i _ d=>by rw[u i (by have:=f.1;omega),f.2 i d]
 obtain⟨v2,H2,g1,g2,n2,f2,o2⟩:=J6K (n:=n) z4 (by omega) (by omega) (by omega) (by omega) (by omega);have g3:=g2.v;obtain⟨D,T,z5,nD,fD,oD⟩:=OV (t:=30) JJ (H:=H2) (zs:=[Z0,Z0,Z0]) (vs:=[qS (B.a+2) t.V.length (t.V.length+3),qS (B.a+2+1) t.G.length (t.G.length+5),qS (B.a+2+2) t.a.length (t.a.length+5)]) rfl rfl rfl (by omega);rw[<-g3]at T;have w:∀i,i<B.a->D.c i=B.c i:=by grind
 have g4:AX 2 0 (D.c (h.a+1+1))=some (.agg #[iv size,l]):=by rw[w _ (by omega),u _ (by omega)];exact lC
 have z6:F6 0 D (.agg #[iv size,l]) size C:=hc.a (by have:=f.1;omega) fun i _ d=>by rw[w i (by have:=f.1;omega),u i (by have:=f.1;omega),f.2 i d]
 obtain⟨v3,H3,g5,g6,n3,f3,o3⟩:=Zu (n:=n) z6 (by omega) (by omega) (by omega);have g7:=g6.v;obtain⟨G,U,g8,nG,fG,oG⟩:=OV (t:=32) HQ (H:=H3) (zs:=[iv 0,Z0]) (vs:=[iv size,qS (D.a+2) C.length (C.length+5)]) rfl rfl rfl (by omega);rw[<-g7]at U;have y:∀i,i<D.a->G.c i=D.c i:=by grind
 have u2:=f.1;have g9:∀i,i<A.a->G.c i=A.c i:=by grind
 have gP:G.c H1.a=.row [.string nm,qS (A.a+3) s.a.length (s.a.length+9),qS (A.a+3+1) s.b.length (s.b.length+3),qS (A.a+3+2) s.f.length (s.f.length+3),qS (A.a+3+3) s.g.length (s.g.length+3),qS (A.a+3+4) s.d.length (s.d.length+5),qS (A.a+3+5) s.h.length (s.h.length+5),iv s.c] 27 false false:=by rw[y _ (by omega),w _ (by omega)];exact z3
 have gT:G.c H2.a=.row [qS (B.a+2) t.V.length (t.V.length+3),qS (B.a+2+1) t.G.length (t.G.length+5),qS (B.a+2+2) t.a.length (t.a.length+5)] 30 false false:=by rw[y _ (by omega)];exact z5
 have l1:AX 8 0 (G.c H1.a)=some (.agg #[.string nm,qS (A.a+3) s.a.length (s.a.length+9),qS (A.a+3+1) s.b.length (s.b.length+3),qS (A.a+3+2) s.f.length (s.f.length+3),qS (A.a+3+3) s.g.length (s.g.length+3),qS (A.a+3+4) s.d.length (s.d.length+5),qS (A.a+3+5) s.h.length (s.h.length+5),iv s.c]):=IY gP rfl;have l2:AX 3 0 (G.c H2.a)=some (.agg #[qS (B.a+2) t.V.length (t.V.length+3),qS (B.a+2+1) t.G.length (t.G.length+5),qS (B.a+2+2) t.a.length (t.a.length+5)]):=by rw[gT];rfl
 have l3:AX 2 0 (G.c H3.a)=some (.agg #[iv size,qS (D.a+2) C.length (C.length+5)]):=by rw[g8];rfl
 have x0:PL G (A.a+3) v1 nm s:=hL.a (by omega) fun i X z=>by rw[y i (by omega),w i (by omega),oB i (by omega)]
 have x2:RT G (B.a+2) v2 t:=g2.b (by omega) fun i X z=>by rw[y i (by omega),oD i (by omega)]
 have x3:TE G (D.a+2) v3 size C:=g6.b (by omega) (oG _ (by omega));subst h8 g3 g7;have z7:G.c 0=EM:=by rw[g9 0 (by omega),f.2 0 z2];exact hg
 obtain⟨vm,Y,x6,f4,x4,hM⟩:=Xm (n:=n) (h:=G) x0.b ⟨_,_,_,rfl⟩ ⟨_,_,_,rfl⟩ ⟨_,_,_,rfl⟩ ⟨_,_,_,rfl⟩ x2.a x3.a r hl hC h3 z7 (by omega) (by omega) (by omega);have n4:=x4.1;have E:∀i,i<A.a->Y.c i=A.c i:=fun i d=>by rw[x4.2 i (by omega),g9 i d]
 have x7:AX 8 0 (Y.c h.a)=some (.agg #[.string nm,I,J,K,O,P,Q,iv s.c]):=by rw[E _ (by omega)];exact lA
 have x8:AX 3 0 (Y.c (h.a+1))=some (.agg #[m,p,q]):=by rw[E _ (by omega)];exact lB
 have x9:AX 2 0 (Y.c (h.a+1+1))=some (.agg #[iv size,l]):=by rw[E _ (by omega)];exact lC
 have W:∀i,i<h.a->Y.c i=h.c i:=fun i d=>by rw[E i (by omega),f.2 i d]
 obtain⟨u3,Z,y0,f5,x5,hR⟩:=J1o (n:=n) (h:=Y) (hp.a (by omega) fun i _ d=>W i d) (ht.b (by omega) fun i _ d=>W i d) (hc.a (by omega) fun i _ d=>W i d) z1 r hl hC h3 (by omega) (by omega);have n5:=x5.1;have j:∀i,i<G.a->Z.c i=G.c i:=fun i d=>by rw[x5.2 i (by omega),x4.2 i d]
 have g:∀i,i<A.a->Z.c i=A.c i:=by grind
 have y1:AX 8 0 (Z.c H1.a)=some (.agg #[.string nm,qS (A.a+3) s.a.length (s.a.length+9),qS (A.a+3+1) s.b.length (s.b.length+3),qS (A.a+3+2) s.f.length (s.f.length+3),qS (A.a+3+3) s.g.length (s.g.length+3),qS (A.a+3+4) s.d.length (s.d.length+5),qS (A.a+3+5) s.h.length (s.h.length+5),iv s.c]):=by rw[j _ (by omega)];exact l1
 have y2:AX 8 0 (Z.c h.a)=some (.agg #[.string nm,I,J,K,O,P,Q,iv s.c]):=by rw[g _ (by omega)];exact lA
 obtain⟨K1,y3,m1,u4,e⟩:=Re (n:=n) (h0:=A) (x0.a (by omega) fun i X z=>j i (by omega)) h6 (by omega) g (by omega) r (by omega) (by omega);have y4:AX 3 0 (K1.c H2.a)=some (.agg #[qS (B.a+2) t.V.length (t.V.length+3),qS (B.a+2+1) t.G.length (t.G.length+5),qS (B.a+2+2) t.a.length (t.a.length+5)]):=by rw[e _ (by omega) (.inr (by omega)),j _ (by omega)];exact l2
 have y5:AX 3 0 (K1.c (h.a+1))=some (.agg #[m,p,q]):=by rw[e _ (by omega) (.inl (by omega)),g _ (by omega)];exact lB
 obtain⟨K2,y6,m2,u5,k⟩:=J78 (n:=n) (h:=K1) (h0:=h) (b:=B.a+2) (x2.b (by omega) fun i X z=>by rw[e i (by omega) (.inr (by omega)),j i (by omega)]) ht (by omega) (fun i d=>by rw[e i (by omega) (.inl (by omega)),g i (by omega),f.2 i d]) (by omega) (by omega) (by omega) (by omega) (by omega);have c1:AI 1 (K2.c H3.a)=some (qS (D.a+2) C.length (C.length+5)):=by rw[k _ (by omega) (.inr (by omega)),e _ (by omega) (.inr (by omega)),j _ (by omega),g8];rfl
 have c2:AI 1 (K2.c (h.a+1+1))=some l:=by rw[k _ (by omega) (.inl (by omega)),e _ (by omega) (.inl (by omega)),g _ (by omega)];exact x1
 obtain⟨L,F⟩:=x3.l;obtain⟨K3,y7,m3,u6,y8⟩:=fR (n:=n) (h:=K2) (o:=D.a+2) (L:=L) (v:=l) (lo:=0) ⟨by rw[k _ (by omega) (.inr (by omega)),e _ (by omega) (.inr (by omega)),j _ (by omega)];exact F.g,F.b,F.c,F.a⟩ (by omega) (by omega) (AK.U pc (by omega) fun i _ d=>by rw[k i (by omega) (.inl (by omega)),e i (by omega) (.inl (by omega)),g i (by omega),f.2 i d]) (by omega) (by omega);have y9:∀i,G.a<=i->i<Z.a->K3.c i=Z.c i:=fun i X z=>by rw[y8 i (by omega),k i (by omega) (.inr (by omega)),e i z (.inr (by omega))]
 have z0:Ex h K3:=⟨by omega,fun i d=>by rw[y8 i (by omega),k i (by omega) (.inl (by omega)),e i (by omega) (.inl (by omega)),g i (by omega),f.2 i d]⟩;have fK:K3.b=h.b:=by omega
 rcases hM with⟨e1,rfl⟩|⟨e1,M,rfl,hM⟩
 .rcases hR with⟨e2,rfl⟩|⟨e2,R,rfl,hR⟩
  .have z8:((K8 nm s size C t)==(K8 nm s size C t))=true:=by simp
   simp only[eE,seval,ab,C7,lA,h7,NR,NQ,PK,S,FU,h9,g1,M7,MS,h5,T,G7,g4,g5,fT,cE,h4,U,l1,l2,l3,x6,x7,x8,x9,y0,y1,y2,y3,y4,y5,y6,JK,BH,c1,c2,y7,eqM0,eqR0,eqB1];exact⟨fK,z0,.inl rfl⟩
  .exact absurd e2 e1
 .rcases hR with⟨e2,rfl⟩|⟨e2,R,rfl,hR⟩;.exact absurd e1 e2
  .have z8:((0:Int)==0)=true:=rfl;simp only[eE,seval,ab,C7,lA,h7,NR,NQ,PK,S,FU,h9,g1,M7,MS,h5,T,G7,g4,g5,fT,cE,h4,U,l1,l2,l3,x6,x7,x8,x9,y0,y1,y2,y3,y4,y5,y6,JK,BH,c1,c2,y7,Iz,Yq,eqB0];exact⟨fK,z0,.inr ⟨M,R,rfl,(hM.a (by omega) fun i X z=>by rw[y9 i (by omega) (by omega),x5.2 i z]).b (by omega),(hR.a (by omega) fun i X z=>y9 i (by omega) z).b (by omega)⟩⟩
theorem J7w{nm:ByteArray}{s:AS}{f g i:Value}{size:Int}{C:List Int}{t:FK}(k:CG 0 h f nm s)(a:GH 0 h g t)(l:F6 0 h i size C)(b:∀x∈s.a,x.b<=9223372036854775807)(m:DS s<2000000)(o:C.length<2000000)(c:t.V.length<2000000/\t.G.length<2000000/\t.a.length<2000000)(p:h.c 0=EM)(d:0<h.a)(e:h.b<=h.a)(q:20000020<n):∃v j,AN n 11 [f,g,i] h=some (v,j)/\YJ h v j s.b.length (t.V.map (·.1)):=by obtain⟨n,rfl⟩:=BX q;exact GY BF (Xc (n:=n) (N:=n) k a l b m o c p d e (by omega)) fun u w r _ a=>a.a r
theorem J4u{nm:ByteArray}{s:AS}{H I J:Value}{size:Int}{C:List Int}{t:FK}(K:CG 0 h H nm s)(L:GH 0 h I t)(O:F6 0 h J size C)(z:∀x∈s.a,x.b<=9223372036854775807)(U:DS s<2000000)(W:C.length<2000000)(D:t.V.length<2000000/\t.G.length<2000000/\t.a.length<2000000)(X:h.c 0=EM)(E:0<h.a)(Y:h.b<=h.a)(hn:20000030<n):∃Z,AW prog (ZH n) n 3 [H,I,J] h=some (.bool true,Z)/\True:=by
 have h0:=(qE n).2;obtain⟨p,q,r,u,w,y,rfl,p1,p2,p3,p4,p5,p6⟩:=id K;obtain⟨e,f,g,rfl,t1,t2,t3⟩:=id L;obtain⟨j,rfl,pc⟩:=id O;have P:DS s=s.a.length+s.b.length+s.f.length+s.g.length+s.d.length+s.h.length:=rfl;refine EA (R:=fun _=>True) func3 rfl ?_ ?_;.simp
 have hr:Tryz.f3.results.toList=[.tmp 6]:=rfl;have ca:=C9 [.string nm,p,q,r,u,w,y,iv s.c];have oa:=IV (nm:=nm) p1 p2 p3 p4 p5 p6;have cb:=C9 [e,f,g];have ob:[e,f,g].all one=true:=by simp only[az,bd,AL.a t1,AL.a t2,AL.a t3,ao]
 have cc:=C9 [iv size,j];have oc:[iv size,j].all one=true:=by simp only[az,bd,AL.a pc,JQ,ao]
 have g0:∀(a b c:BO),let A:=((h.d a).d b).d c
   A.c h.a=a/\A.c (h.a+1)=b/\A.c (h.a+1+1)=c/\A.a=h.a+3/\A.b=h.b/\Ex h A:=fun a b c=>by
  refine⟨?_,?_,BJ (h:=(h.d a).d b),rfl,rfl,(Ex.c h).b.b.b⟩
  .rw[AV (by show h.a<h.a+1+1;omega)];exact JG
  .rw[AV (by show h.a+1<h.a+1+1;omega)];exact BJ (h:=h.d a)
 obtain⟨gA,gB,gC,nA,fA,d⟩:=g0 (.row [.string nm,p,q,r,u,w,y,iv s.c] 27 false false) (.row [e,f,g] 30 false false) (.row [iv size,j] 32 false false);simp only[eE,seval,DJ,hr,ca,oa,cb,ob,cc,oc,EQ,JJ,HQ];generalize((h.d (.row [.string nm,p,q,r,u,w,y,iv s.c] 27 false false)).d (.row [e,f,g] 30 false false)).d (.row [iv size,j] 32 false false)=A at*;have Q:AX 8 0 (A.c h.a)=some (.agg #[.string nm,p,q,r,u,w,y,iv s.c]):=IY gA rfl;have S:AX 3 0 (A.c (h.a+1))=some (.agg #[e,f,g]):=by rw[gB];rfl
 have T:AX 2 0 (A.c (h.a+1+1))=some (.agg #[iv size,j]):=by rw[gC];rfl
 have k:A.c 0=EM:=by rw[d.2 0 E];exact X
 have l:=zn (n:=n) (h:=A) k;obtain⟨v,B,hk,fB,xB,hv⟩:=J7w (n:=n) (h:=A) (K.a d.1 fun i _ m=>d.2 i m) (L.b d.1 fun i _ m=>d.2 i m) (O.a d.1 fun i _ m=>d.2 i m) z U W D k (by omega) (by omega) (by omega);have nB:=xB.1;have o:=Ie (n:=n) (by decide) hk;rcases hv with rfl|⟨M,R,rfl,hM,hR⟩;.simp only[eE,seval,↓eP,l,C7,FU,G7,Q,S,T,o,eqM1]
 .have F:=Ie (n:=n) (by decide) (Vu (n:=n) hM hR (by omega) (by grind) (by omega) (by grind));simp only[eE,seval,↓eP,l,C7,FU,G7,Q,S,T,o,Iz,F]
end
end Go.Proofs.YtjailoenloejbaaGreatDoor




