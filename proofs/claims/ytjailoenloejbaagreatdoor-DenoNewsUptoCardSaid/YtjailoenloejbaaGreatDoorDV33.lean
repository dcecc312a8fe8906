/- Part 33. -/
import Derived.Test.YtjailoenloejbaaGreatDoorDV32
set_option linter.all false
namespace Go.Proofs.YtjailoenloejbaaGreatDoor
open Go Go.Sx Go.Proofs.Tryz
set_option maxRecDepth 100000
set_option maxHeartbeats 0
def yT:List (Bool×Bool×List Operand):=[DT,AO,AO,AO,AO,AO,AH [.tmp 47],AH [.tmp 47],AJ,AJ,AJ,AJ,AJ]
def xP:List (Bool×Bool×List Operand):=[DT,AO,AO,AO,AO,AH [.tmp 70],AH [.tmp 70],AH [.tmp 70],AH [.tmp 70],AH [.tmp 70],AH [.tmp 70],AJ,AJ,AJ,AJ]
section
variable {P:Program} {t e:TypeId} {w b:Nat} {z:Value} {H:AA}
theorem Ya(l:P.underlying t=some (.slice e))(m:BN P e=some w)(o:HL P e=some b)(p:DK P e=some z)(r:z.cells.size=w)(A:0<w)(h:b<=64){lo n:Nat}{v:Value}{cs:List Value}(i:AL lo H v n w cs)(s:cs.all one=true)(B:n<1099511627776):∃q g,DR P H t (Z0) v=some (q,g)/\AL H.a g q n w cs/\g.b=H.b/\Ex H g:=by
 have d:=i.k;have j:=i.1;obtain⟨_,a,c,rfl,_⟩:=i;have f:(0:Nat)≠AT:=by unfold AT;omega
 have u:EL H w 0 (Z0)=some []:=by simp[EL]
 have x:n*b<=n*64:=Nat.mul_le_mul_left _ h;by_cases y:n=0
 .subst y;rw[ff]at j;have k:=fb.1 j;subst k;refine⟨Z0,H,?_,⟨by simp,none,0,rfl,.inl ⟨rfl,rfl⟩⟩,rfl,Ex.c H⟩;simp only[DR,l,m,o,p,d];rw[ag (by grind),ag (show([]:List Value).all one=true from rfl),ad f,ag (af _)];simp
 .refine⟨qS H.a (0+n) AT,H.d (.row ([]++cs) e true false),?_,⟨j,some ⟨H.a,0,none⟩,AT,by simp,.inr ⟨H.a,0,cs,e,true,false,rfl,BJ,⟨af _,by show H.a<H.a+1;omega⟩,by grind,fun _=>rfl⟩⟩,rfl,(Ex.c H).b⟩;simp only[DR,l,m,o,p,d,s,u];rw[ag (by grind),ag cj,ad f,ad (by omega),ag (by grind)]
end
section
variable {t e:TypeId} {w b:Nat} {z:Value} {H:AA}
theorem VD(h:BN prog t=some 1)(u:prog.underlying t=some (.slice e))(x:BN prog e=some w)(y:HL prog e=some b)(A:DK prog e=some z)(j:z.cells.size=w)(B:0<w)(l:b<=64){lo n T k:Nat}{v:Value}{cs f:List Value}{ty:TypeId}{g:Bool}(C:AL lo H v n w cs)(D:cs.all one=true)(E:n<1099511627776)(F:H.c T=.row f ty g false)(m:T<H.a)(G:k<f.length)(L:H.b<=T):∃a c d,DR prog H t (Z0) v=some (a,c)/\BD prog c t (qP T k) a=some d/\c.b=H.b/\AL H.a d a n w cs/\d.c T=.row (f.set k a) ty g false/\d.b=H.b/\H.a<=d.a/\∀i,i<H.a->i≠T->d.c i=H.c i:=by
 obtain⟨a,c,I,o,r,p⟩:=Ya u x y A j B l C D E;have q:c.c T=.row f ty g false:=by rw[p.2 _ m];exact F
 have J:=p.1;exact⟨a,c,_,I,EO h o.g o.a q G (by omega),r,o.b (af _) fun i s _=>AP (by omega) (by omega),BE rfl (by omega),r,J,fun i s K=>by rw[AP (by omega) (bc K),p.2 i s]⟩
theorem Yb{q:Nat}{o:BO}{a b c:Value}(h:AX 3 q o=some (.agg #[a,b,c])):AI q o=some a:=by cases o with
 |row d j g k=>
  simp only[AX,GN]at h;split at h
  .rename_i l f;split at f
   .cases f;injection h with h;injection h with h;have m:(d.drop q).take 3=[a,b,c]:=by grind
    have i:((d.drop q).take 3)[0]?=some a:=by grind
    rw[List.getElem?_take,ag (by omega),jg,fe]at i;exact i
   grind
  .cases h|_=>simp[AX]at h
end
theorem Wo:BN prog 162=some 11:=by kernel_rfl
theorem XL:BN prog 84=some 1:=by kernel_rfl
theorem Gi:HL prog 4=some 1:=by kernel_rfl
theorem xD:DK prog 4=some (.bool false):=by kernel_rfl
abbrev Si:Value:=.agg #[Z0,Z0,Z0,iv 0,Z0,Z0,Z0,.int .u64 0,Z0,Z0,iv 0]
theorem Yc:DK prog 162=some Si:=by kernel_rfl
theorem Yj:HN prog (match prog.underlying 162 with|some (.struct a)=>a.toList|_=>[])=some [(0,1),(1,1),(2,1),(3,2),(5,1),(6,1),(7,1),(8,1),(9,1),(10,1)]:=by kernel_rfl
theorem Vt{n:Int}:CL prog 162 [(3,.agg #[iv n,Z0])]=some (.agg #[Z0,Z0,Z0,iv n,Z0,Z0,Z0,.int .u64 0,Z0,Z0,iv 0]):=by have h:=Yj;rw[fX]at h;simp only at h;have a:flat Si=true:=rfl;simp only[CL,Yc,a,ai,fX,h];rfl
theorem Yk{n:Int}:CL prog 32 [(0,iv n)]=some (.agg #[iv n,Z0]):=by have h:=Gw;rw[gj]at h;simp only at h;simp only[CL,fT,cE,ai,gj,h];rfl
section
variable {h:AA} {id off:Nat}
theorem Yl:EP prog h 84 (qP id off)=AI off (h.c id):=JL (by kernel_rfl)
theorem Yn:BC prog 162 (qP id off) 0=some (qP id off):=by simp[BC,fX,XL,CB]
theorem Ym:BC prog 162 (qP id off) 1=some (qP id (off+1)):=by simp[BC,fX,UD,CB]
theorem Wq:BC prog 162 (qP id off) 2=some (qP id (off+2)):=by simp[BC,fX,FW,CB]
theorem Yp:BC prog 162 (qP id off) 3=some (qP id (off+3)):=by simp[BC,fX,HQ,CB]
theorem mU:BC prog 162 (qP id off) 4=some (qP id (off+5)):=by simp[BC,fX,PX,CB]
theorem Hx:BC prog 162 (qP id off) 5=some (qP id (off+6)):=by simp[BC,fX,FW,CB]
end
structure QY (lo:Nat) (h:AA) (T nq:Nat) (ini:List Int):Prop where
 c:lo<=T/\T<h.a
 d:∃ a0 a1 a2 a3 a4 Q lv,h.c T=.row [a0,a1,a2,a3,a4,qS Q nq nq,lv,.int .u64 0,Z0,Z0,iv 0] 162 false false/\(lo<=Q/\Q<h.a)/\h.c Q=.row (List.replicate nq (Z0)) 160 false false/\AK lo h lv ini
theorem QY.a{lo:Nat}{h h':AA}{T f:Nat}{e:List Int}(g:QY lo h T f e)(j:h.a<=h'.a)(k:∀i,lo<=i->i<h.a->h'.c i=h.c i):QY lo h' T f e:=by obtain⟨r,l,m,n,o,p,Q,q,a,b,c,d⟩:=g;exact⟨by omega,l,m,n,o,p,Q,q,by grind,by omega,by grind,AK.U d j k⟩
def rV(h:AA)(v:Value)(h':AA)(b:Nat)(a:List Int):Prop:=(∃T,v=qP T 0/\QY h.a h' T b a)/\h'.b=h.b/\Ex h h'
section
variable {n N:Nat} {h:AA}
theorem J64{lg lv lt lc c:Nat}{gv vv tg m:Value}{gs:List Value}{V:List (Int×Int×Int)}{G C:List Int}{size:Int}(hg:AL lg h gv c 1 gs)(h7:gs.all one=true)(hv:AL lv h vv V.length 3 (FZ V))(ht:AK lt h tg G)(hc:AK lc h m C)(b1:c<1099511627776)(b2:V.length<1099511627776)(b3:G.length<1099511627776)(b4:C.length<1099511627776)(z3:h.b<=h.a)(hN:V.length+5<N):∃v r,AW prog (AN n) N 117 [gv,vv,tg,.agg #[iv size,m]] h=some (v,r)/\rV h v r c (V.map (·.1)):=by
 have O:=(EC n).2;refine G_ (R:=fun v r=>rV h v r c (V.map (·.1))) func117 rfl ?_ ?_;.simp[f117]
 have hr:f117.results.toList=[.tmp 8]:=rfl;have cc:=C9 [iv size,m];have oc:[iv size,m].all one=true:=by simp only[az,bd,AL.a hc,JQ,ao]
 have cS:=C9 [Z0,Z0,Z0,iv size,Z0,Z0,Z0,.int .u64 0,Z0,Z0,iv 0];have oS:([Z0,Z0,Z0,iv size,Z0,Z0,Z0,.int .u64 0,Z0,Z0,iv 0]:List Value).all one=true:=rfl;have g0:∀(a b:BO),let A:=(h.d a).d b
   A.c h.a=a/\A.c (h.a+1)=b/\A.a=h.a+2/\A.b=h.b/\Ex h A:=fun a b=>⟨JG,MG,rfl,rfl,(Ex.c h).b.b⟩;obtain⟨gA,gT,nA,fA,xA⟩:=g0 (.row [iv size,m] 32 false false) (.row [Z0,Z0,Z0,iv size,Z0,Z0,Z0,.int .u64 0,Z0,Z0,iv 0] 162 false false);have h8:AI 0 ((h.d (.row [iv size,m] 32 false false)).c h.a)=some (iv size):=by rw[BJ];rfl
 simp only[eE,seval,hr,cc,oc,HQ,ab,IW,AM,h8,Yk,Vt,cS,oS,Wo,BU];generalize(h.d (.row [iv size,m] 32 false false)).d (.row [Z0,Z0,Z0,iv size,Z0,Z0,Z0,.int .u64 0,Z0,Z0,iv 0] 162 false false)=A at*;have g1:h.a+1<A.a:=by omega
 have l0:AI 0 (A.c (h.a+1))=some (Z0):=by rw[gT];rfl
 obtain⟨E,A1,B1,g2,PG,z4,cg,Q,z5,z6,S⟩:=VD (t:=84) (e:=4) (k:=0) XL gk MZ Gi xD rfl (by decide) (by decide) (hg.b (h':=A) xA.1 fun i _ f=>xA.2 i f) h7 b1 gT g1 (by simp) (by omega);have l1:AI 1 (B1.c (h.a+1))=some (Z0):=by rw[Q];rfl
 have g3:∀i,i<h.a->B1.c i=h.c i:=fun i f=>by rw[S i (by omega) (by omega),xA.2 i f]
 obtain⟨F,A2,B2,g4,g5,z7,cv,T,z8,z9,g6⟩:=VD (t:=28) (e:=142) (k:=1) UD bn NS wM Y4 rfl (by decide) (by decide) (hv.b (h':=B1) (by omega) fun i _ f=>g3 i f) (zP _) b2 Q (by omega) (by simp) (by omega);have l2:AI 2 (B2.c (h.a+1))=some (Z0):=by rw[T];rfl
 have g7:∀i,i<h.a->B2.c i=h.c i:=by grind
 obtain⟨H,A3,l,g8,g9,u0,ct,U,u1,u2,x0⟩:=VD (t:=25) (e:=3) (k:=2) FW au B_ IZ GD rfl (by decide) (by decide) (AL.b (h':=B2) ht (by omega) fun i _ f=>g7 i f) (MJ _) b3 T (by omega) (by simp) (by omega);have x1:∀i,i<h.a->l.c i=h.c i:=by grind
 have x2:l.c h.a=.row [iv size,m] 32 false false:=by rw[x0 _ (by omega) (by omega),g6 _ (by omega) (by omega),S _ (by omega) (by omega)];exact gA
 have l4:AI 4 (l.c (h.a+1))=some (Z0):=by rw[U];rfl
 have c1:AI 1 (l.c h.a)=some m:=by rw[x2];rfl
 obtain⟨I,A4,d,x3,x4,u3,u4,x5,u5,u6,u7⟩:=VD (t:=25) (e:=3) (k:=4) FW au B_ IZ GD rfl (by decide) (by decide) (AL.b (h':=l) hc (by omega) fun i _ f=>x1 i f) (MJ _) b4 U (by omega) (by simp) (by omega);have s:l.b=h.b:=by omega
 have W:l.f h.b=l:=DI s;have u:A4.b=h.b:=by omega
 have X:A4.f h.b=A4:=DI u;have y:d.b=h.b:=by omega
 have Y:d.f h.b=d:=DI y;have x6:(h.a+1<l.a)=True:=by simp;omega
 have x7:(h.a<l.a)=True:=by simp;omega
 simp only[eE,seval,ab,Yn,Ym,Wq,Yl,IJ,BH,l0,l1,l2,g2,PG,g4,g5,g8,g9];refine WK.a (fs:=yT) (by kernel_rfl) ?_;unfold yT;iterate 13 refine DG O ?_;simp only[rG,seval,AB,AD,AC,A7,BL,target,BY,DB,s,W,x6,x7,Yp,JK,BH,l4,c1,x3,u,X,x4,Y]
 refine DF ?_;have x8:∀i,i<h.a->d.c i=h.c i:=by grind
 have Z:=fun(r:AA)=>AL.c hg gk (h':=r);have h0:=R0 (P:=prog) (h:=d) (t:=79) (e:=160) (z:=Z0) eo N8 mP dM rfl rfl (by decide) (by decide) (n:=c) (by omega);rw[UX,iP]at h0;have x9:(d.d (.row (List.replicate c (Z0)) 160 false false)).c (h.a+1)=.row [E,F,H,iv size,I,Z0,Z0,.int .u64 0,Z0,Z0,iv 0] 162 false false:=by rw[AV];exact x5
 have QP:=EO (off:=5) PX (v:=qS d.a c c) rfl rfl x9 (by simp) (by show d.b<=_;omega);obtain⟨D,hD,y0,y1,nD,fD,oD⟩:∃D,(d.d (.row (List.replicate c (Z0)) 160 false false)).e (h.a+1) (.row (([E,F,H,iv size,I,Z0,Z0,.int .u64 0,Z0,Z0,iv 0]:List Value).set 5 (qS d.a c c)) 162 false false)=D/\D.c (h.a+1)=.row [E,F,H,iv size,I,qS d.a c c,Z0,.int .u64 0,Z0,Z0,iv 0] 162 false false/\D.c d.a=.row (List.replicate c (Z0)) 160 false false/\D.a=d.a+1/\D.b=h.b/\∀i,i<h.a->D.c i=h.c i:=⟨_,rfl,BE rfl (by show h.a+1<d.a+1;omega),by rw[AP (by show h.a+1<d.a+1;omega) (by omega)];exact BJ,rfl,y,fun i f=>by rw[AP (by show h.a+1<d.a+1;omega) (by omega),AV,x8 i f]⟩;rw[hD]at QP;have PT:=fun(r:AA)=>AL.c hv bn (h':=r);simp only[eE,seval,ab,Z,h0,mU,QP];refine WK.b (fun i o=>o.T.a 0=gv/\o.T.a 1=vv/\o.T.a 9=qP (h.a+1) 0/\o.T.a 10=iv (i:Int)/\i<=V.length/\D.a<=o.h.a/\(∀j,j<D.a->j≠h.a+1->o.h.c j=D.c j)/\o.h.b=h.b/\∃p,o.h.c (h.a+1)=.row [E,F,H,iv size,I,qS d.a c c,p,.int .u64 0,Z0,Z0,iv 0] 162 false false/\JM 3 o.h D.a p i (ints ((V.take i).map (·.1)))) V.length (by omega) ?_ ?_;.refine⟨?_,?_,?_,?_,bg _,af _,fun _ _ _=>rfl,fD,Z0,y0,.inl ⟨rfl,rfl,rfl⟩⟩<;>simp only[eE,seval]<;>rfl
 rintro i⟨T1,B⟩f⟨t0,t1,t9,g,u8,nH,oH,fH,p,q,K⟩;simp only at t0 t1 t9 g nH oH fH q K;have h1:B.f h.b=B:=DI fH;have yH:∀j,j<h.a->B.c j=h.c j:=by grind
 rcases ar i V.length with h2|u9
 .have c9:decide ((i:Int)<(V.length:Int))=true:=by grind
  obtain⟨x,hx⟩:∃x,V[i]?=some x:=⟨_,aa h2⟩;have y2:ints ((V.take (i+1)).map (·.1))=ints ((V.take i).map (·.1))++[iv x.1]:=by
   rw[cY,hx,fw];exact fw
  obtain⟨y3,pv,ea,y4,el⟩:=ZJ (AL.b (h':=B) hv (by omega) fun j _ hj=>yH j hj) hx;have y5:=Yb el;have l6:AI 6 (B.c (h.a+1))=some p:=by rw[q];rfl
  have y6:(ints ((V.take i).map (·.1))).length=i*1:=by rw[ints,bw,bw,fu];omega
  obtain⟨L,J,ap,h3,fJ,nJ,oJ⟩:=T9 (new:=[iv x.1]) au B_ IZ GD rfl (by decide) (by decide) K y6 (MJ _) rfl rfl (by omega) (by omega) (by omega);have h4:J.b=h.b:=by omega
  have y7:J.f h.b=J:=DI h4;obtain⟨y8,y9⟩:=h3.c;have z0:J.c (h.a+1)=.row [E,F,H,iv size,I,qS d.a c c,p,.int .u64 0,Z0,Z0,iv 0] 162 false false:=by rw[oJ _ (by omega) (.inl (by omega))];exact q
  have st:=EO (off:=6) FW y8 y9 z0 (by simp) (by omega);have h5:(h.a+1<B.a)=True:=by simp;omega
  have z1:(y3<B.a)=True:=by simp[y4]
  have w1:=DU i;simp only[eE,seval,↓eP,t1,g,PT,c9];refine WK.a (fs:=xP) (by kernel_rfl) ?_;unfold xP;iterate 15 refine DG O ?_;simp only[rG,seval,AB,AD,AC,A7,BL,target,BY,DB,t1,t9,g,fH,h1,h5,z1,Hx,BH,l6,ea,wP,AM,y5,KE,ap,h4,y7,st]
  refine DF ?_;have v0:(J.e (h.a+1) (.row (([E,F,H,iv size,I,qS d.a c c,p,.int .u64 0,Z0,Z0,iv 0]:List Value).set 6 L) 162 false false)).f h.b=J.e (h.a+1) (.row (([E,F,H,iv size,I,qS d.a c c,p,.int .u64 0,Z0,Z0,iv 0]:List Value).set 6 L) 162 false false):=DI (by show J.b=_;omega);simp only[eE,seval,t0,t1,t9,g,w1];exact⟨h2,by omega,by show D.a<=J.a;omega,fun j hj M=>by rw[AP (by omega) (bc M),oJ _ (by omega) (.inl (by omega)),oH j hj M],by show J.b=_;omega,L,BE rfl (by omega),by rw[y2];exact h3.a (af _) fun j hj M v1=>AP (by omega) (by omega)⟩
 have c9:decide ((i:Int)<(V.length:Int))=false:=by grind
 have z2:i=V.length:=by omega
 simp only[eE,seval,↓eP,t1,t9,g,PT,c9];have h6:AK h.a B p (V.map (·.1)):=by
  have h9:=K.b (w:=1) (lo':=h.a) (by rw[ints,bw,bw,fu];omega) (by omega);rw[z2,List.take_length]at h9;unfold AK;rw[bw];exact h9
 exact⟨⟨_,rfl,⟨by omega,by omega⟩,_,_,_,_,_,d.a,p,q,⟨by omega,by omega⟩,by rw[oH _ (by omega) (by omega)];exact y1,h6⟩,fH,⟨by omega,yH⟩⟩
theorem Jbi{l lv m lc a:Nat}{d vv f g:Value}{i:List Value}{V:List (Int×Int×Int)}{G C:List Int}{size:Int}(o:AL l h d a 1 i)(b:i.all one=true)(p:AL lv h vv V.length 3 (FZ V))(q:AK m h f G)(r:AK lc h g C)(b1:a<1099511627776)(b2:V.length<1099511627776)(b3:G.length<1099511627776)(s:C.length<1099511627776)(c:h.b<=h.a)(t:V.length+10<n):∃v j,AN n 117 [d,vv,f,.agg #[iv size,g]] h=some (v,j)/\rV h v j a (V.map (·.1)):=by obtain⟨n,rfl⟩:=BX t;exact GY BF (J64 (n:=n) (N:=n) o b p q r b1 b2 b3 s c (by omega)) fun u w k _⟨⟨T,e,_⟩,_⟩=>by rw[e]at k;cases k
end
theorem J4Y:HN prog (match prog.underlying 142 with|some (.struct a)=>a.toList|_=>[])=some [(0,1),(1,1),(2,1)]:=by kernel_rfl
theorem Jbk{a b c:Int}:CL prog 142 [(0,iv a),(1,iv b),(2,iv c)]=some (E8 a b c):=by have h:=J4Y;rw[dy]at h;simp only at h;simp only[CL,Y4,ZB,ai,dy,h];rfl
section
variable {id off:Nat}
theorem pN:BC prog 142 (qP id off) 0=some (qP id off):=by simp[BC,dy,B_,CB]
theorem pZ:BC prog 142 (qP id off) 1=some (qP id (off+1)):=by simp[BC,dy,B_,CB]
theorem Eg:BC prog 142 (qP id off) 2=some (qP id (off+2)):=by simp[BC,dy,B_,CB]
end
def bX:List (Bool×Bool×List Operand):=[AO,AJ,AH [.tmp 7],AJ]
def vR:List (Bool×Bool×List Operand):=[AO,AH [.tmp 2],AH [.tmp 2,.tmp 3],AH [.tmp 2,.tmp 3],AH [.tmp 2,.tmp 3],AO,BP [.tmp 2,.tmp 3,.tmp 57],BP [.tmp 2,.tmp 3,.tmp 57,.tmp 2],BP [.tmp 2,.tmp 3,.tmp 57,.tmp 2,.tmp 3],BP [.tmp 2,.tmp 3,.tmp 57,.tmp 2,.tmp 3],BP [.tmp 2,.tmp 3,.tmp 57,.tmp 2,.tmp 3],AO,BP [.tmp 2,.tmp 3,.tmp 57,.tmp 2,.tmp 3,.tmp 63],BP [.tmp 2,.tmp 3,.tmp 57,.tmp 2,.tmp 3,.tmp 63,.tmp 2],BP [.tmp 2,.tmp 3,.tmp 57,.tmp 2,.tmp 3,.tmp 63,.tmp 2,.tmp 3],BP [.tmp 2,.tmp 3,.tmp 57,.tmp 2,.tmp 3,.tmp 63,.tmp 2,.tmp 3],BP [.tmp 2,.tmp 3,.tmp 57,.tmp 2,.tmp 3,.tmp 63,.tmp 2,.tmp 3],AJ,AJ,BP [.tmp 2,.tmp 3,.tmp 57,.tmp 2,.tmp 3,.tmp 63,.tmp 2,.tmp 3,.tmp 69],AJ]
def rI:List (Bool×Bool×List Operand):=[AO,AH [.tmp 2],AH [.tmp 2,.tmp 3],AH [.tmp 2,.tmp 3],AH [.tmp 2,.tmp 3],AJ,AJ]
def vN:List (Bool×Bool×List Operand):=[AO,AH [.tmp 2],AH [.tmp 2,.tmp 3],AH [.tmp 2,.tmp 3],AH [.tmp 2,.tmp 3],AJ,AJ]
def sS:List (Bool×Bool×List Operand):=[AO,AH [.tmp 2],AH [.tmp 2,.tmp 3],AH [.tmp 2,.tmp 3],AH [.tmp 2,.tmp 3],AJ,AJ]
section
variable {n N:Nat} {h:AA}
theorem J4f{nm:ByteArray}{s:AS}{pv cv:Value}{lo lc:Nat}{size:Int}{C:List Int}(hp:CG lo h pv nm s)(hc:F6 lc h cv size C)(z5:∀x∈s.a,x.b<=9223372036854775807)(hs:F7 s)(hl:s.a.length<2932031007403)(hC:C.length<2932031007403)(hfl:h.b<=h.a)(hn:2*DS s+101000+C.length<n)(hN:2*DS s+1000<N):∃v' h',AW prog (AN n) N 26 [pv,cv] h=some (v',h')/\jK h' h.a v' (CD nm s size C)/\h'.b=h.b/\h.a<=h'.a/\∀i,i<h.a->h'.c i=h.c i:=by
 obtain⟨vr,vq,vv,vt,vu,vo,rfl,p1,p2,p3,p4,p5,p6⟩:=id hp;obtain⟨vc,rfl,pc⟩:=id hc;have h8:=(EC n).2;have htot:DS s=s.a.length+s.b.length+s.f.length+s.g.length+s.d.length+s.h.length:=rfl;refine G_ (R:=fun v' h'=>jK h' h.a v' (CD nm s size C)/\h'.b=h.b/\h.a<=h'.a/\∀i,i<h.a->h'.c i=h.c i) func26 rfl (by simp[f26]) ?_;have hr:f26.results.toList=[.cell 4 30,.cell 5 43]:=rfl;have ca:=C9 [.string nm,vr,vq,vv,vt,vu,vo,iv s.c];have oa:=IV (nm:=nm) p1 p2 p3 p4 p5 p6;have cb:=C9 [iv size,vc];have ob:[iv size,vc].all one=true:=by simp only[az,bd,AL.a pc,JQ,ao]
 have z6:zT.cells.toList=[Z0,Z0,Z0]:=rfl;obtain⟨gA,gB,gT,gF,nG,fG,gO⟩:=i_ h (.row [.string nm,vr,vq,vv,vt,vu,vo,iv s.c] 27 false false) (.row [iv size,vc] 32 false false) (.row [Z0,Z0,Z0] 30 false false) (.row [iv 0,iv 0] 43 false false);simp only[eE,seval,DJ,ca,oa,cb,ob,EQ,HQ,M7,MS,z6,GO,GS,I3];generalize(((h.d (.row [.string nm,vr,vq,vv,vt,vu,vo,iv s.c] 27 false false)).d (.row [iv size,vc] 32 false false)).d (.row [Z0,Z0,Z0] 30 false false)).d (.row [iv 0,iv 0] 43 false false)=Q at*;have nn:h.a+1+1=h.a+2:=rfl;have A:h.a+2+1=h.a+3:=rfl;have lA:AX 8 0 (Q.c h.a)=some (.agg #[.string nm,vr,vq,vv,vt,vu,vo,iv s.c]):=IY gA rfl;have z7:CG lo Q (.agg #[.string nm,vr,vq,vv,vt,vu,vo,iv s.c]) nm s:=hp.a (by omega) fun i _ K=>gO i K;have B:=fun h'=>Q6 p1.2 h';obtain⟨v2,Y,g8,⟨tv,v6,hI⟩,f1,n1,o1⟩:=Zg (n:=n) z7 z5 hs hl (by omega) (by omega);subst v6;obtain⟨D,z8,gD,nD,fD,oD⟩:=OV (t:=43) MR (H:=Y) (zs:=[iv 0,iv 0]) (vs:=[iv (DW nm s).1.1,iv (DW nm s).1.2]) rfl rfl rfl (by omega);have h7:BD prog (Y.d (.row [iv 0,iv 0] 43 false false)) 43 (qP Y.a 0) (EE (DW nm s).1.1 (DW nm s).1.2)=some D:=z8;have h9:∀i,i<Q.a->D.c i=Q.c i:=fun i K=>by rw[oD i (by omega),o1 i K]
 have g9:∀i,i<h.a->D.c i=h.c i:=fun i K=>by rw[h9 i (by omega)];exact gO i K
 have e0:AI 0 (D.c Y.a)=some (iv (DW nm s).1.1):=by rw[gD];rfl
 have x9:D.c (h.a+2)=.row [Z0,Z0,Z0] 30 false false:=by rw[h9 _ (by omega)];exact gT
 have y0:D.c (h.a+3)=.row [iv 0,iv 0] 43 false false:=by rw[h9 _ (by omega)];exact gF
 have z9:AX 8 0 (D.c h.a)=some (.agg #[.string nm,vr,vq,vv,vt,vu,vo,iv s.c]):=by rw[h9 _ (by omega)];exact lA
 have y2:AX 2 0 (D.c (h.a+1))=some (.agg #[iv size,vc]):=by rw[h9 _ (by omega),gB];rfl
 have u0:CG lo D (.agg #[.string nm,vr,vq,vv,vt,vu,vo,iv s.c]) nm s:=hp.a (by omega) fun i _ K=>g9 i K;have u1:F6 lc D (.agg #[iv size,vc]) size C:=hc.a (by omega) fun i _ K=>g9 i K;cases d1:((DW nm s).1.1==0)with
 |false=>
  have u2:((DW nm s).1.1 !=0)=true:=by rw[bne,d1];rfl
  have eR:CD nm s size C=((DW nm s).1,U7):=by unfold CD;rw[ag (by simpa using u2)]
  rw[eR];obtain⟨G1,G2,M,u,O,w,P,s6,s7,s8,s9,sa,S⟩:=SF x9 y0 (by omega) (by omega) (TI (h.a+2+2) D) (DW nm s).1.1 (DW nm s).1.2;rw[A]at u w;have lD:AX 2 0 (D.c Y.a)=some (EE (DW nm s).1.1 (DW nm s).1.2):=by rw[gD];rfl
  have y3:(DP (qP Y.a 0)!=DP (qP (h.a+2) 0))=true:=by simp[DP];omega
  have y4:G1.f D.b=G1:=by rw[<-s8];exact C0 G1
  have v7:G2.f D.b=G2:=by rw[<-s9];exact C0 G2
  have y5:G2.f G1.b=G2:=by rw[s8,<-s9];exact C0 G2
  simp only[eE,seval,↓eP,nn,A,C7,lA,g8,GO,GS,I3,h7,HX,HV,e0,d1,u2];refine WK.a (fs:=bX) (by kernel_rfl) ?_;unfold bX;iterate 4 refine DG h8 ?_;simp only[rG,seval,AB,AD,AC,A7,BL,target,BY,DB,M4,FD,lD,y3,M,y4,u,y5]
  refine DF ?_;simp only[eE,seval,hr,FU,O,FD,w];exact⟨⟨_,rfl,P.a (by omega)⟩,by omega,by omega,fun i K=>by rw[S i (by omega)];exact g9 i K⟩|true=>
 have z1:(DW nm s).1.1=0:=by simpa using d1
 obtain⟨hck,hG,hO,hz2⟩:=mK z1;have g1:=RH (n:=n) u0 u1 z5 hl hs (by omega) (by omega) (by omega);have u3:=GQ (t:=43) MR (h:=D) (vs:=[iv (EU nm s size C),iv 0]) gD rfl rfl rfl (by omega);have g2:BD prog D 43 (qP Y.a 0) (EE (EU nm s size C) 0)=some (D.e Y.a (.row [iv (EU nm s size C),iv 0] 43 false false)):=u3;have gE:(D.e Y.a (.row [iv (EU nm s size C),iv 0] 43 false false)).c Y.a=.row [iv (EU nm s size C),iv 0] 43 false false:=BE rfl (by omega);have nE:(D.e Y.a (.row [iv (EU nm s size C),iv 0] 43 false false)).a=D.a:=rfl;have fE:(D.e Y.a (.row [iv (EU nm s size C),iv 0] 43 false false)).b=D.b:=rfl;have oE:∀i,i≠Y.a->(D.e Y.a (.row [iv (EU nm s size C),iv 0] 43 false false)).c i=D.c i:=fun i K=>AP (by omega) (bc K);generalize D.e Y.a (.row [iv (EU nm s size C),iv 0] 43 false false)=E at*;have e1:AI 0 (E.c Y.a)=some (iv (EU nm s size C)):=by rw[gE];rfl
 have y6:∀i,i<h.a->E.c i=h.c i:=fun i K=>by rw[oE i (by omega)];exact g9 i K
 have U:E.c (h.a+2)=.row [Z0,Z0,Z0] 30 false false:=by rw[oE _ (by omega)];exact x9
 have W:E.c (h.a+3)=.row [iv 0,iv 0] 43 false false:=by rw[oE _ (by omega)];exact y0
 cases d2:(EU nm s size C !=0)with
 |true=>
  have eR:CD nm s size C=((EU nm s size C,0),U7):=by unfold CD;rw[ad (by rw[z1];decide),ag (by simpa using d2)]
  rw[eR];obtain⟨G1,G2,M,u,O,w,P,s6,s7,s8,s9,sa,S⟩:=SF U W (by omega) (by omega) (TI (h.a+2+2) E) (EU nm s size C) 0;rw[A]at u w;have lE:AX 2 0 (E.c Y.a)=some (EE (EU nm s size C) 0):=by rw[gE];rfl
  have y3:(DP (qP Y.a 0)!=DP (qP (h.a+2) 0))=true:=by simp[DP];omega
  have y4:G1.f E.b=G1:=by rw[<-s8];exact C0 G1
  have v7:G2.f E.b=G2:=by rw[<-s9];exact C0 G2
  have y5:G2.f G1.b=G2:=by rw[s8,<-s9];exact C0 G2
  simp only[eE,seval,↓eP,nn,A,C7,lA,g8,GO,GS,I3,h7,HX,HV,e0,d1,z9,G7,y2,g1,g2,e1,d2];refine WK.a (fs:=bX) (by kernel_rfl) ?_;unfold bX;iterate 4 refine DG h8 ?_;simp only[rG,seval,AB,AD,AC,A7,BL,target,BY,DB,M4,FD,lE,y3,M,y4,u,y5]
  refine DF ?_;simp only[eE,seval,hr,FU,O,FD,w];exact⟨⟨_,rfl,P.a (by omega)⟩,by omega,by omega,fun i K=>by rw[S i (by omega)];exact y6 i K⟩|false=>
 have z2:EU nm s size C=0:=by simpa using d2
 have hF:=wU z2;have eR:CD nm s size C=Q3 s size C:=by unfold CD;rw[ad (by rw[z1];decide),ad (by rw[z2];decide)]
 rw[eR];have u4:E.c h.a=.row [.string nm,vr,vq,vv,vt,vu,vo,iv s.c] 27 false false:=by rw[oE _ (by omega),h9 _ (by omega)];exact gA
 have v8:AX 2 0 (E.c (h.a+1))=some (.agg #[iv size,vc]):=by rw[oE _ (by omega)];exact y2
 have x1:AI 1 (E.c h.a)=some vr:=by rw[u4];rfl
 have ML:J7 prog E 25 (iv (s.a.length:Int)) (iv (s.a.length:Int))=some (qS E.a s.a.length s.a.length,E.d (.row (ints (List.replicate s.a.length 0)) 3 false false)):=TO (by omega);obtain⟨H7,u5,g7,n7,f7,o7⟩:=OV (t:=30) JJ (H:=E.d (.row (ints (List.replicate s.a.length 0)) 3 false false)) (zs:=[Z0,Z0,Z0]) (vs:=[Z0,Z0,qS E.a s.a.length s.a.length]) rfl rfl rfl (by show E.b<=E.a+1;omega);rw[BU]at g7 n7 o7;have x7:BD prog ((E.d (.row (ints (List.replicate s.a.length 0)) 3 false false)).d (.row [Z0,Z0,Z0] 30 false false)) 30 (qP (E.a+1) 0) (.agg #[Z0,Z0,qS E.a s.a.length s.a.length])=some H7:=u5;have v9:∀i,i<E.a->H7.c i=E.c i:=fun i K=>by rw[o7 i (by omega),AV K]
 have y7:LJ E E.a s.a.length H7 ⟨[],[],List.replicate s.a.length 0⟩:=⟨by rw[o7 _ (by omega)];exact BJ,gu,⟨_,_,g7,.inl ⟨rfl,rfl,rfl⟩,.inl ⟨rfl,rfl,rfl⟩⟩,by omega,f7,v9⟩;simp only[eE,seval,↓eP,nn,A,C7,lA,g8,GO,GS,I3,h7,ab,HX,HV,e0,d1,z9,G7,y2,g1,g2,e1,d2,CK,CJ,x1,B,ML,Le,M7,MS,z6,BU,x7];clear u5 x7 g7 o7 ML g1 g8 z8 h7 u3 g2 e0 e1;obtain⟨t0,x0⟩:∃t0:FK,t0=⟨[],[],List.replicate s.a.length 0⟩:=⟨_,rfl⟩;have eG:Q3 s size C=ID s.a (AE (AU s.a)) (E6 s size C) s.a.length 0 t0:=by rw[x0];rfl
 rw[<-x0]at y7;have hv0:t0.V.length=0/\t0.G.length=0:=by rw[x0];exact⟨rfl,rfl⟩
 clear x0;obtain⟨RI,w0⟩:∃RI,RI=E.a:=⟨_,rfl⟩;rw[<-w0]at y7⊢;have hb1:h.a+4<=RI/\E.b<=RI/\E.b=h.b:=by omega
 have xR:∀H:AA,(∀j,j<RI->H.c j=E.c j)->AI 1 (H.c h.a)=some vr/\AX 8 0 (H.c h.a)=some (.agg #[.string nm,vr,vq,vv,vt,vu,vo,iv s.c])/\AX 2 0 (H.c (h.a+1))=some (.agg #[iv size,vc]):=fun H hH=>by rw[hH _ (by omega),hH _ (by omega)];exact⟨x1,IY u4 rfl,v8⟩
 clear u0 u1 z7 x9 y0 oE oD o1 gE gD;refine WK.b (fun i s'=>s'.T.a 2=qP h.a 0/\s'.T.a 3=qP (h.a+1) 0/\s'.T.a 4=qP (h.a+2) 0/\s'.T.a 5=qP (h.a+3) 0/\s'.T.a 8=qP (RI+1) 0/\s'.T.a 9=iv (i:Int)/\i<=s.a.length/\∃t,LJ E RI s.a.length s'.h t/\ID s.a (AE (AU s.a)) (E6 s size C) (s.a.length-i) i t=Q3 s size C/\t.V.length<=i/\t.G.length<=i) s.a.length (by omega) ?_ ?_;.exact⟨by simp only[eE,seval],by simp only[eE,seval],by simp only[eE,seval],by simp only[eE,seval],by simp only[eE,seval],by simp only[eE,seval]<;>rfl,by omega,t0,y7,eG.symm,by omega,by omega⟩
 rintro i⟨T,H⟩K⟨t2,t3,t4,t5,t8,Z,hil,t,hK,g,htV,htG⟩;simp only at t2 t3 t4 t5 t8 Z hK;have hnK:=hK.n;have hfK:=hK.a;have u6:∀j,j<h.a->H.c j=h.c j:=fun j F=>by rw[hK.o j (by omega)];exact y6 j F
 obtain⟨xH,_,_⟩:=xR H hK.o;by_cases h0:i<s.a.length;rotate_left
 .have c1:decide ((i:Int)<(s.a.length:Int))=false:=by simp;omega
  have w2:i=s.a.length:=by omega
  subst w2;have eZ:Q3 s size C=((0,0),t):=by rw[<-g,jc];rfl
  rw[eZ];obtain⟨v,k1,k2,k3⟩:=hK.g;obtain⟨G1,G2,M,u,O,w,P,s6,s7,s8,s9,sa,S⟩:=SF (H:=H) (a:=h.a+2) (by rw[hK.o _ (by omega)];exact U) (by rw[hK.o _ (by omega)];exact W) (by omega) (by omega) (k2.a (by omega)) 0 0;rw[A]at u w;simp only[eE,seval,↓eP,hr,t2,t4,t5,t8,Z,ab,CK,CJ,xH,B,c1,FU,k1,QV,M,u,O,FD,w];exact⟨⟨_,rfl,P.a (by omega)⟩,by omega,by omega,fun j F=>by rw[S j (by omega)];exact u6 j F⟩
 have c1:decide ((i:Int)<(s.a.length:Int))=true:=by simp;omega
 obtain⟨x,hx⟩:∃x,s.a[i]?=some x:=⟨_,aa h0⟩;obtain⟨r,w3⟩:∃r,s.a.length-i=r+1:=⟨s.a.length-i-1,by omega⟩;rw[w3]at g;have g3:s.a.length-(i+1)=r:=by omega
 have w1:=DU i;have w4:A8 H vr s.a:=p1.1.a (by omega) u6;obtain⟨zz,w5,_,w6⟩:=hG.z hx;obtain⟨kv,f,I,u7,f5,n5,o5⟩:=zB (n:=n) hG.t hG.b w4 w5 (by omega) (by omega) (by omega);rw[<-w6]at u7;have d:=hK.b (H':=f) n5 f5 o5;have nK3:=d.n;have fK3:=d.a;have h1:∀H':AA,(∀j,j<RI->H'.c j=E.c j)->∀j,j<h.a->H'.c j=h.c j:=fun H' hH j F=>by rw[hH j (by omega)];exact y6 j F
 have y8:=h1 f d.o;have w7:A8 f vr s.a:=p1.1.a (by omega) y8;obtain⟨ia,pa,ea,hia,la,_⟩:=w7.b hx;obtain⟨x3,x2,x4⟩:=xR f d.o;have w8:CG lo f (.agg #[.string nm,vr,vq,vv,vt,vu,vo,iv s.c]) nm s:=hp.a (by omega) fun j _ F=>y8 j F;have w9:F6 lc f (.agg #[iv size,vc]) size C:=hc.a (by omega) fun j _ F=>y8 j F;have hkc:AK H.a f kv _:=u7.a (af _);have g5:∀(k p:Nat),(A9 (AE (AU s.a)) x.b.toNat (i+1))[k]?=some p->KP x.a k=true->∀fl,fl<=f.a->AN n 101 [.agg #[.string nm,vr,vq,vv,vt,vu,vo,iv s.c],.agg #[iv size,vc],iv (p:Int)] (f.f fl)=some (iv (E6 s size C p),f.f fl):=fun k p hk hf fl u8=>by
  obtain⟨y,v,hy,h27,x8⟩:=Mz (size:=size) (C:=C) hG hO hx hk hf;have e:E6 s size C p=v:=by unfold E6;rw[x8];rfl
  rw[e];have hpl:=(ae.1 hy).1;exact De (lo:=lo) (lc:=lc) hG hO hF hl s.a.length n p y v (f.f fl) (by omega) (by omega) hy h27 x8 (w8.a (h':=f.f fl) (af _) fun _ _ _=>rfl) (w9.a (h':=f.f fl) (af _) fun _ _ _=>rfl) u8
 have x5:∀(k p:Nat),(A9 (AE (AU s.a)) x.b.toNat (i+1))[k]?=some p->KP x.a k=true->AN n 101 [.agg #[.string nm,vr,vq,vv,vt,vu,vo,iv s.c],.agg #[iv size,vc],iv (p:Int)] f=some (iv (E6 s size C p),f):=fun k p hk hf=>g5 k p hk hf f.b (by omega);have g0:∀(k p:Nat),(A9 (AE (AU s.a)) x.b.toNat (i+1))[k]?=some p->∃id q,BW prog 25 kv (iv (k:Int))=some (qP id q)/\id<f.a/\AI q (f.c id)=some (iv (p:Int)):=fun k p hk=>AK.V hkc (by rw[bT,hk];rfl);obtain⟨q3,q1⟩:=nS hG hx;have g6:∀m:Nat,x.b=(m:Int)->A9 (AE (AU s.a)) x.b.toNat (i+1)=A9 (AE (AU s.a)) m (i+1):=fun m hm=>by rw[hm,gy]
 generalize A9 (AE (AU s.a)) x.b.toNat (i+1)=ks at*;have X:∀m:Nat,x.b=((m+1:Nat):Int)->ks[0]?=some (i+1):=fun m hm=>by rw[g6 _ hm];rfl
 cases b4:(x.a==4)with
 |true=>
  have k4:x.a=4:=by simpa using b4
  have J:=X 2 (q3 (.inl k4));have u9:ks[1]?=some (AE (AU s.a) (i+1)):=by rw[g6 3 (q3 (.inl k4))];rfl
  have v3:ks[2]?=some (AE (AU s.a) (AE (AU s.a) (i+1))):=by rw[g6 3 (q3 (.inl k4))];rfl
  have fx:∀k,KP x.a k=true:=fun k=>by rw[k4];rfl
  obtain⟨i0,h2,e0,h3,l0⟩:=g0 0 (i+1) J;have h4:BW prog 25 kv (iv 0)=some (qP i0 h2):=e0;have h5:(i0<f.a)=True:=jf h3;obtain⟨i1,q1',e1,hi1,l1⟩:=g0 1 _ u9;have e1':BW prog 25 kv (iv 1)=some (qP i1 q1'):=e1;have hA1:(i1<f.a)=True:=jf hi1;obtain⟨i2,q2',e2,hi2,l2⟩:=g0 2 _ v3;have e2':BW prog 25 kv (iv 2)=some (qP i2 q2'):=e2;have hA2:(i2<f.a)=True:=jf hi2;have v0:=g5 0 _ J (fx 0) (max f.b f.a) (by omega);have v1:=g5 1 _ u9 (fx 1) (max f.b f.a) (by omega);have v2:=x5 2 _ v3 (fx 2);generalize z:E6 s size C (i+1)=l at*;generalize y9:E6 s size C (AE (AU s.a) (i+1))=mb at*;generalize z0:E6 s size C (AE (AU s.a) (AE (AU s.a) (i+1)))=mc at*;have zcV:(E8 0 0 0).cells.toList=[iv 0,iv 0,iv 0]:=rfl;obtain⟨H4,st4,g4,n4,f4,o4⟩:=OV (t:=142) NS (H:=f) (zs:=[iv 0,iv 0,iv 0]) (vs:=[iv l,iv mb,iv mc]) rfl rfl rfl (by omega);have o:=d.b (H':=H4) (by omega) f4 o4;have v4:BD prog (f.d (.row [iv 0,iv 0,iv 0] 142 false false)) 142 (qP f.a 0) (E8 l mb mc)=some H4:=st4;have z3:AI 0 (H4.c f.a)=some (iv l):=by rw[g4];rfl
  have z4:AI 1 (H4.c f.a)=some (iv mb):=by rw[g4];rfl
  have v5:AI 2 (H4.c f.a)=some (iv mc):=by rw[g4];rfl
  have lV:AX 3 0 (H4.c f.a)=some (E8 l mb mc):=by rw[g4];rfl
  have fH4:H4.f f.b=H4:=by rw[<-f4];exact C0 H4
  have hAp:(h.a<f.a)=True:=by simp;omega
  have hAc:(h.a+1<f.a)=True:=by simp;omega
  simp only[eE,seval,↓eP,t2,Z,ab,CK,CJ,xH,B,c1,I,x3,ea,BB,AM,la,b4];refine WK.a (fs:=vR) (by kernel_rfl) ?_;unfold vR;iterate 21
   refine DG h8 ?_;simp only[rG,seval,AB,AD,AC,A7,BL,target,BY,t2,C7,x2,hAp,t3,G7,x4,hAc,h4,AM,l0,h5,v0,e1',l1,hA1,v1,e2',l2,hA2,v2,Jbk,Y4,ZB,zcV,DB,v4,fH4]
  refine DF ?_;obtain⟨ov,nv,G1,G2,a1,a2,a3,a4,a5⟩:=o.e (by omega) (by omega) l mb mc;cases L:decide (l<mb)with
  |true=>
   have hA:l<mb:=by simpa using L
   obtain⟨K1,K2,M,u,O,w,P,s6,s7,s8,s9,sa,S⟩:=SF (H:=H4) (a:=h.a+2) (by rw[o.o _ (by omega)];exact U) (by rw[o.o _ (by omega)];exact W) (by have:=o.n;omega) (by have:=o.a;omega) (TI (h.a+2+2) H4) 43 (i:Int);rw[A]at u w;rw[<-g,N3 hx (b:=43) (by unfold ER;rw[ag k4,z,y9,z0,ag (.inl hA)]) (by decide)];simp only[eE,seval,↓eP,hr,t4,t5,Z,pN,pZ,AM,z3,z4,ab,L,M4,II,M,u,FU,O,FD,w];exact⟨⟨_,rfl,P.a (by omega)⟩,by have:=o.a;omega,by have:=o.n;omega,fun j F=>by rw[S j (by omega)];exact h1 _ o.o j F⟩|false=>
  have hA:¬l<mb:=by simpa using L
  cases dB:decide (l>mc)with
  |true=>
   have hB:l>mc:=by simpa using dB
   obtain⟨K1,K2,M,u,O,w,P,s6,s7,s8,s9,sa,S⟩:=SF (H:=H4) (a:=h.a+2) (by rw[o.o _ (by omega)];exact U) (by rw[o.o _ (by omega)];exact W) (by have:=o.n;omega) (by have:=o.a;omega) (TI (h.a+2+2) H4) 43 (i:Int);rw[A]at u w;rw[<-g,N3 hx (b:=43) (by unfold ER;rw[ag k4,z,y9,z0,ag (.inr hB)]) (by decide)];simp only[eE,seval,↓eP,hr,t4,t5,Z,pN,pZ,Eg,AM,z3,z4,v5,ab,L,dB,M4,II,M,u,FU,O,FD,w];exact⟨⟨_,rfl,P.a (by omega)⟩,by have:=o.a;omega,by have:=o.n;omega,fun j F=>by rw[S j (by omega)];exact h1 _ o.o j F⟩|false=>
   have hB:¬l>mc:=by simpa using dB
   have es:ER (AE (AU s.a)) (E6 s size C) i x t=(0,{t with V:=t.V++[(l,mb,mc)]}):=by unfold ER;rw[ag k4,z,y9,z0,ad (by omega)]
   rw[QC hx (by rw[es]),es]at g;simp only[eE,seval,↓eP,t2,t3,t4,t5,t8,Z,pN,pZ,Eg,AM,z3,z4,v5,ab,IM,IJ,a1,UE,lV,m9,a2,a3,L,dB,w1];exact⟨h0,by omega,_,a4,by rw[g3];exact g,by simp;omega,by show t.G.length<=_;omega⟩
 |false=>
 have k4:¬x.a=4:=by simpa using b4
 cases b5:(x.a==5)with
 |true=>
  have k5:x.a=5:=by simpa using b5
  have J:=X 0 (q1 (.inl k5));have fx:KP x.a 0=true:=by rw[k5];rfl
  obtain⟨i0,h2,e0,h3,l0⟩:=g0 0 (i+1) J;have h4:BW prog 25 kv (iv 0)=some (qP i0 h2):=e0;have h5:(i0<f.a)=True:=jf h3;have v0:=x5 0 _ J fx;generalize z:E6 s size C (i+1)=l at*;simp only[eE,seval,↓eP,t2,Z,ab,CK,CJ,xH,B,c1,I,x3,ea,BB,AM,la,b4,b5];refine WK.a (fs:=rI) (by kernel_rfl) ?_;unfold rI
  iterate 7
   refine DG h8 ?_
   simp only[rG,seval,AB,AD,AC,A7,BL,t2,C7,x2,t3,G7,x4,h4,AM,l0,h5,v0]
  refine DF ?_
  obtain⟨ov,nv,G1,G2,a1,a2,a3,a4,a5⟩:=d.d (by omega) (by omega) l
  cases L:decide (l<1) with
  | true=>
   have hA:l<1:=by simpa using L
   obtain⟨K1,K2,M,u,O,w,P,s6,s7,s8,s9,sa,S⟩:=SF (H:=f) (a:=h.a+2) (by rw[d.o _ (by omega)];exact U) (by rw[d.o _ (by omega)];exact W) (by have:=d.n;omega) (by have:=d.a;omega) (TI (h.a+2+2) f) 43 (i:Int)
   rw[A] at u w
   rw[<- g,N3 hx (b:=43) (by unfold ER;rw[ad k4,ag k5,z,ag (.inl hA)]) (by decide)]
   simp only[eE,seval,↓eP,hr,t4,t5,Z,L,M4,II,M,u,FU,O,FD,w]
   exact⟨⟨_,rfl,P.a (by omega)⟩,by have:=d.a;omega,by have:=d.n;omega,fun j F=>by rw[S j (by omega)];exact h1 _ d.o j F⟩
  | false=>
  have hA:¬ l<1:=by simpa using L
  cases dB:decide (l>255) with
  | true=>
   have hB:l>255:=by simpa using dB
   obtain⟨K1,K2,M,u,O,w,P,s6,s7,s8,s9,sa,S⟩:=SF (H:=f) (a:=h.a+2) (by rw[d.o _ (by omega)];exact U) (by rw[d.o _ (by omega)];exact W) (by have:=d.n;omega) (by have:=d.a;omega) (TI (h.a+2+2) f) 43 (i:Int)
   rw[A] at u w
   rw[<- g,N3 hx (b:=43) (by unfold ER;rw[ad k4,ag k5,z,ag (.inr hB)]) (by decide)]
   simp only[eE,seval,↓eP,hr,t4,t5,Z,L,dB,M4,II,M,u,FU,O,FD,w]
   exact⟨⟨_,rfl,P.a (by omega)⟩,by have:=d.a;omega,by have:=d.n;omega,fun j F=>by rw[S j (by omega)];exact h1 _ d.o j F⟩
  | false=>
   have hB:¬ l>255:=by simpa using dB
   have es:ER (AE (AU s.a)) (E6 s size C) i x t=(0,{ t with G:=t.G++[l] }):=by unfold ER;rw[ad k4,ag k5,z,ad (by omega)]
   rw[QC hx (by rw[es]),es] at g
   simp only[eE,seval,↓eP,t2,t3,t4,t5,t8,Z,LF,BH,ab,a1,KE,a2,a3,L,dB,w1]
   exact⟨h0,by omega,_,a4,by rw[g3];exact g,by show t.V.length<=_;omega,by simp;omega⟩
 | false=>
 have k5:¬ x.a=5:=by simpa using b5
 cases b6:(x.a==6) with
 | true=>
  have k6:x.a=6:=by simpa using b6
  have J:=X 0 (q1 (.inr k6))
  have fx:KP x.a 0=true:=by rw[k6];rfl
  obtain⟨i0,h2,e0,h3,l0⟩:=g0 0 (i+1) J
  have h4:BW prog 25 kv (iv 0)=some (qP i0 h2):=e0
  have h5:(i0<f.a)=True:=jf h3
  have v0:=x5 0 _ J fx
  generalize z:E6 s size C (i+1)=l at *
  simp only[eE,seval,↓eP,t2,Z,ab,CK,CJ,xH,B,c1,I,x3,ea,BB,AM,la,b4,b5,b6]
  refine WK.a (fs:=vN) (by kernel_rfl) ?_
  unfold vN
  iterate 7
   refine DG h8 ?_
   simp only[rG,seval,AB,AD,AC,A7,BL,C8,t2,C7,x2,t3,G7,x4,h4,AM,l0,h5,v0]
  refine DF ?_
  cases L:(l==0) with
  | true=>
   have hA:l=0:=by simpa using L
   obtain⟨K1,K2,M,u,O,w,P,s6,s7,s8,s9,sa,S⟩:=SF (H:=f) (a:=h.a+2) (by rw[d.o _ (by omega)];exact U) (by rw[d.o _ (by omega)];exact W) (by have:=d.n;omega) (by have:=d.a;omega) (TI (h.a+2+2) f) 44 (i:Int)
   rw[A] at u w
   rw[<- g,N3 hx (b:=44) (by unfold ER;rw[ad k4,ad k5,ag k6,z,ag hA]) (by decide)]
   simp only[eE,seval,↓eP,hr,t4,t5,Z,M4,II,M,u,FU,O,FD,w]
   exact⟨⟨_,rfl,P.a (by omega)⟩,by have:=d.a;omega,by have:=d.n;omega,fun j F=>by rw[S j (by omega)];exact h1 _ d.o j F⟩
  | false=>
   have hA:¬ l=0:=by simpa using L
   have es:ER (AE (AU s.a)) (E6 s size C) i x t=(0,t):=by unfold ER;rw[ad k4,ad k5,ag k6,z,ad hA]
   rw[QC hx (by rw[es]),es] at g
   simp only[eE,seval,↓eP,t2,t3,t4,t5,t8,Z,w1]
   exact⟨h0,by omega,_,d,by rw[g3];exact g,by omega,by omega⟩
 | false=>
 have k6:¬ x.a=6:=by simpa using b6
 cases x6:(x.a==13) with
 | true=>
  have h6:x.a=13:=by simpa using x6
  have J:=X 2 (q3 (.inr h6))
  have fx:KP x.a 0=true:=by rw[h6];rfl
  obtain⟨i0,h2,e0,h3,l0⟩:=g0 0 (i+1) J
  have h4:BW prog 25 kv (iv 0)=some (qP i0 h2):=e0
  have h5:(i0<f.a)=True:=jf h3
  have v0:=x5 0 _ J fx
  generalize z:E6 s size C (i+1)=l at *
  simp only[eE,seval,↓eP,t2,Z,ab,CK,CJ,xH,B,c1,I,x3,ea,BB,AM,la,b4,b5,b6,x6]
  refine WK.a (fs:=sS) (by kernel_rfl) ?_
  unfold sS
  iterate 7
   refine DG h8 ?_
   simp only[rG,seval,AB,AD,AC,A7,BL,t2,C7,x2,t3,G7,x4,h4,AM,l0,h5,v0]
  refine DF ?_
  have l2R:AI 2 (f.c (RI+1))=some (qS RI s.a.length s.a.length):=by
   obtain⟨_,_,y1,_⟩:=d.y
   rw[y1]
   rfl
  have ixR:=FO (id:=RI) (n:=s.a.length) (c:=s.a.length) (i:=i) h0
  obtain⟨G2,a3,a4,a5⟩:=d.f (by omega) h0 l
  cases L:decide (l<0) with
  | true=>
   have hA:l<0:=by simpa using L
   obtain⟨K1,K2,M,u,O,w,P,s6,s7,s8,s9,sa,S⟩:=SF (H:=f) (a:=h.a+2) (by rw[d.o _ (by omega)];exact U) (by rw[d.o _ (by omega)];exact W) (by have:=d.n;omega) (by have:=d.a;omega) (TI (h.a+2+2) f) 43 (i:Int)
   rw[A] at u w
   rw[<- g,N3 hx (b:=43) (by unfold ER;rw[ad k4,ad k5,ad k6,ag h6,z,ag (.inl hA)]) (by decide)]
   simp only[eE,seval,↓eP,hr,t4,t5,Z,L,M4,II,M,u,FU,O,FD,w]
   exact⟨⟨_,rfl,P.a (by omega)⟩,by have:=d.a;omega,by have:=d.n;omega,fun j F=>by rw[S j (by omega)];exact h1 _ d.o j F⟩
  | false=>
  have hA:¬ l<0:=by simpa using L
  cases dB:decide (l>4194304) with
  | true=>
   have hB:l>4194304:=by simpa using dB
   obtain⟨K1,K2,M,u,O,w,P,s6,s7,s8,s9,sa,S⟩:=SF (H:=f) (a:=h.a+2) (by rw[d.o _ (by omega)];exact U) (by rw[d.o _ (by omega)];exact W) (by have:=d.n;omega) (by have:=d.a;omega) (TI (h.a+2+2) f) 43 (i:Int)
   rw[A] at u w
   rw[<- g,N3 hx (b:=43) (by unfold ER;rw[ad k4,ad k5,ad k6,ag h6,z,ag (.inr hB)]) (by decide)]
   simp only[eE,seval,↓eP,hr,t4,t5,Z,L,dB,M4,II,M,u,FU,O,FD,w]
   exact⟨⟨_,rfl,P.a (by omega)⟩,by have:=d.a;omega,by have:=d.n;omega,fun j F=>by rw[S j (by omega)];exact h1 _ d.o j F⟩
  | false=>
   have hB:¬ l>4194304:=by simpa using dB
   have es:ER (AE (AU s.a)) (E6 s size C) i x t=(0,{ t with a:=t.a.set i l }):=by unfold ER;rw[ad k4,ad k5,ad k6,ag h6,z,ad (by omega)]
   rw[QC hx (by rw[es]),es] at g
   simp only[eE,seval,↓eP,t2,t3,t4,t5,t8,Z,LN,BH,ab,l2R,ixR,a3,L,dB,w1]
   exact⟨h0,by omega,_,a4,by rw[g3];exact g,by show t.V.length<=_;omega,by show t.G.length<=_;omega⟩
 | false=>
 have h6:¬ x.a=13:=by simpa using x6
 have es:ER (AE (AU s.a)) (E6 s size C) i x t=(0,t):=by unfold ER;rw[ad k4,ad k5,ad k6,ad h6]
 rw[QC hx (by rw[es]),es] at g
 simp only[eE,seval,↓eP,t2,t8,Z,t3,t4,t5,ab,CK,CJ,xH,B,c1,I,x3,ea,BB,AM,la,b4,b5,b6,x6,w1]
 exact⟨h0,by omega,_,d,by rw[g3];exact g,by omega,by omega⟩
theorem J1a{nm:ByteArray}{s:AS}{f g:Value}{lo lc:Nat}{size:Int}{C:List Int}(j:CG lo h f nm s)(k:F6 lc h g size C)(b:∀x∈s.a,x.b<=9223372036854775807)(l:F7 s)(m:s.a.length<2932031007403)(o:C.length<2932031007403)(c:h.b<=h.a)(p:2*DS s+101100+C.length<n):∃d a,AN n 26 [f,g] h=some (d,a)/\jK a h.a d (CD nm s size C)/\a.b=h.b/\h.a<=a.a/\∀i,i<h.a->a.c i=h.c i:=by obtain⟨n,rfl⟩:=BX p;refine GY BF (J4f (n:=n) (N:=n) j k b l m o c (by omega) (by omega)) fun d t q _ e=>?_;obtain⟨⟨r,rfl,e⟩,_⟩:=e;exact⟨⟨r,rfl,Hy e q _ h⟩,rfl,af _,fun _ _=>rfl⟩
end
def yY:List (Bool×Bool×List Operand):=[AJ,AJ,AH [.tmp 28],AJ]
def wX:List (Bool×Bool×List Operand):=[DT,BP [.tmp 11],BP [.tmp 11],AH [.tmp 11,.tmp 72],AH [.tmp 11,.tmp 72],AH [.tmp 11,.tmp 72],AH [.tmp 11,.tmp 72,.tmp 75],AH [.tmp 11,.tmp 72,.tmp 75],AH [.tmp 11,.tmp 72,.tmp 75,.tmp 77],AH [.tmp 11,.tmp 72],AJ,AJ,AJ,AJ]
theorem sz65:BN prog 65=some 16:=by kernel_rfl
theorem Aq:BN prog 60=some 1:=by kernel_rfl
abbrev Fh:Value:=.agg #[.string ByteArray.empty,Z0,Z0,Z0,Z0,Z0,Z0,iv 0,Z0,.pointer none,iv 0,iv 0,iv 0,iv 0,iv 0,Z0]
theorem J7U:DK prog 65=some Fh:=by kernel_rfl
theorem J52:HN prog (match prog.underlying 65 with|some (.struct a)=>a.toList|_=>[])=some [(0,8),(8,1),(9,1),(10,4),(14,1),(15,1)]:=by kernel_rfl
abbrev QN(nm:ByteArray)(a1 a2 a3 a4 a5 a6:Value)(m:Int)(b:Value)(T:Nat):List Value:=[.string nm,a1,a2,a3,a4,a5,a6,iv m,b,qP T 0,iv 0,iv 0,iv 0,iv 0,iv 0,Z0]
theorem J8G{nm:ByteArray}{a1 a2 a3 a4 a5 a6:Value}{m:Int}{a:Option Addr}{n k T:Nat}:CL prog 65 [(0,.agg #[.string nm,a1,a2,a3,a4,a5,a6,iv m]),(1,.slice a n k),(2,qP T 0)]=some (.agg (QN nm a1 a2 a3 a4 a5 a6 m (.slice a n k) T).toArray):=by have h:=J52;rw[underlying65]at h;simp only at h;have b:flat Fh=true:=rfl;simp only[CL,J7U,b,ai,underlying65,h];rfl
theorem J6B{m:Int}:CL prog 27 [(7,iv m)]=some (.agg #[.string ByteArray.empty,Z0,Z0,Z0,Z0,Z0,Z0,iv m]):=by have h:=YD;rw[bG]at h;simp only at h;simp only[CL,NR,NQ,ai,bG,h];rfl
theorem J8M{nm:ByteArray}{a1 a2 a3 a4 a5 a6 b:Value}{m:Int}{T:Nat}(h1:one a1=true)(a:one a2=true)(c:one a3=true)(d:one a4=true)(e:one a5=true)(f:one a6=true)(g:one b=true):(QN nm a1 a2 a3 a4 a5 a6 m b T).all one=true:=by
 simp only[QN,az,bd,h1,a,c,d,e,f,g];rfl
theorem bsG{H:AA}{b:Bool}:FP prog H 84 1 [(0,.bool b)]=some (qS H.a 1 1,H.d (.row [.bool b] 4 false false)):=by have a:∀x,(Value.bool x).cells=#[.bool x]:=fun _=>rfl;simp[FP,gk,MZ,xD,flat,B7,a,I6,CF,Go.Sx.lay]
theorem Oh:∀(l:List (ByteArray×Bool))(i:Nat)(q:ByteArray×Bool),l[i]?=some q->(EH l)[i*2+1]?=some (.bool q.2)
 |[],i,q,h=>by simp at h|x::l,0,q,h=>by simp at h;subst h;rfl|x::l,i+1,q,h=>by
  have e:EH (x::l)=.string x.1::.bool x.2::EH l:=rfl;rw[e,show(i+1)*2+1=i*2+1+1+1 by omega,fc,fc];exact Oh l i q (by assumption)
section
variable {h:AA} {id off:Nat}
theorem Uk:EP prog h 60 (qP id off)=AI off (h.c id):=JL (by kernel_rfl)
theorem J35:BC prog 65 (qP id off) 2=some (qP id (off+9)):=by simp[BC,underlying65,Aq,CB]
theorem J8y:BC prog 65 (qP id off) 3=some (qP id (off+10)):=by simp[BC,underlying65,RB,CB]
theorem J6O:BC prog 65 (qP id off) 4=some (qP id (off+14)):=by simp[BC,underlying65,B_,CB]
end
structure QO (lo:Nat) (h:AA) (R nq:Nat) (ini:List Int):Prop where
 d:lo<=R/\R<h.a
 f:∃ T,AI 9 (h.c R)=some (qP T 0)/\QY lo h T nq ini
 e:AX 4 10 (h.c R)=some (.agg #[iv 0,iv 0,iv 0,iv 0])
 c:AI 14 (h.c R)=some (iv 0)
theorem QO.a{lo:Nat}{h h':AA}{R d:Nat}{c:List Int}(e:QO lo h R d c)(f:h.a<=h'.a)(g:∀i,lo<=i->i<h.a->h'.c i=h.c i):QO lo h' R d c:=by obtain⟨j,⟨T,a,b⟩,k,l⟩:=e;exact⟨by omega,⟨T,by grind,b.a f g⟩,by grind,by grind⟩
theorem QY.b{lo lo':Nat}{h:AA}{T f:Nat}{e:List Int}(g:QY lo h T f e)(i:lo'<=lo):QY lo' h T f e:=by obtain⟨p,j,k,l,m,n,Q,o,a,b,c,d⟩:=g;exact⟨by omega,j,k,l,m,n,Q,o,a,by omega,c,AK.X d i⟩
def YQ(h:AA)(v:Value)(h':AA)(e:Int)(b:Nat)(a:List Int):Prop:=h'.b=h.b/\Ex h h'/\((e≠0/\v=.tuple #[.pointer none,iv e])\/(e=0/\∃R,v=.tuple #[qP R 0,iv 0]/\QO h.a h' R b a))
theorem YQ.a{h h':AA}{v:Value}{e:Int}{b:Nat}{a:List Int}(c:E5 v=true)(d:YQ h v h' e b a):YQ h v h e b a:=by
 obtain⟨_,_,f|⟨_,M,rfl,_⟩⟩:=d;.exact⟨rfl,Ex.c h,.inl f⟩
 .simp[E5]at c;cases c.1
section
variable {n N:Nat} {h:AA}
theorem J4n{nm:ByteArray}{s:AS}{vr vq vv vt vu vo tv L:Value}{size:Int}{C:List Int}{t:FK}{lo lt lc:Nat}(hp:CG lo h (.agg #[.string nm,vr,vq,vv,vt,vu,vo,iv s.c]) nm s)(ht:GH lt h tv t)(hc:F6 lc h (.agg #[iv size,L]) size C)(h8:∀x∈s.a,x.b<=9223372036854775807)(hs:F7 s)(hl:DS s<2000000)(hC:C.length<2000000)(y2:t.V.length<2000000/\t.G.length<2000000/\t.a.length<2000000)(v7:h.b<=h.a)(hn:20000000<n)(hN:20000000<N):∃v h',AW prog (AN n) N 56 [.agg #[.string nm,vr,vq,vv,vt,vu,vo,iv s.c],tv,.agg #[iv size,L]] h=some (v,h')/\YQ h v h' (K8 nm s size C t) s.b.length (t.V.map (·.1)):=by
 have h9:=(EC n).2;refine G_ (R:=fun v h'=>YQ h v h' (K8 nm s size C t) s.b.length (t.V.map (·.1))) func56 rfl ?_ ?_;.simp[f56]
 have hr:f56.results.toList=[.tmp 6,.tmp 7]:=rfl;have v5:DS s=s.a.length+s.b.length+s.f.length+s.g.length+s.d.length+s.h.length:=rfl;obtain⟨_,_,_,_,_,_,y3,p1,p2,p3,p4,p5,p6⟩:=id hp;cases y3;obtain⟨uv,ug,ud,rfl,t1,t2,t3⟩:=id ht;obtain⟨_,y5,pc⟩:=id hc;cases y5;have ca:=C9 [.string nm,vr,vq,vv,vt,vu,vo,iv s.c];have oa:=IV (nm:=nm) p1 p2 p3 p4 p5 p6;have cb:=C9 [uv,ug,ud];have ob:[uv,ug,ud].all one=true:=by simp only[az,bd,AL.a t1,AL.a t2,AL.a t3,ao]
 have cc:=C9 [iv size,L];have oc:[iv size,L].all one=true:=by simp only[az,bd,AL.a pc,JQ,ao]
 have Q:zT.cells.toList=[Z0,Z0,Z0]:=rfl;have g0:∀(a b c:BO),let A:=((h.d a).d b).d c
   A.c h.a=a/\A.c (h.a+1)=b/\A.c (h.a+1+1)=c/\A.a=h.a+3/\A.b=h.b/\Ex h A:=fun a b c=>by
  refine⟨?_,?_,BJ (h:=(h.d a).d b),rfl,rfl,(Ex.c h).b.b.b⟩;.rw[AV (by show h.a<h.a+1+1;omega)];exact JG
  .rw[AV (by show h.a+1<h.a+1+1;omega)];exact BJ (h:=h.d a)
 obtain⟨gA,gB,gC,nA,fA,S⟩:=g0 (.row [.string nm,vr,vq,vv,vt,vu,vo,iv s.c] 27 false false) (.row [uv,ug,ud] 30 false false) (.row [iv size,L] 32 false false);simp only[eE,seval,DJ,hr,ca,oa,cb,ob,cc,oc,EQ,JJ,HQ];generalize((h.d (.row [.string nm,vr,vq,vv,vt,vu,vo,iv s.c] 27 false false)).d (.row [uv,ug,ud] 30 false false)).d (.row [iv size,L] 32 false false)=A at*;have lP:AX 8 0 (A.c h.a)=some (.agg #[.string nm,vr,vq,vv,vt,vu,vo,iv s.c]):=IY gA rfl;have lC:AX 2 0 (A.c (h.a+1+1))=some (.agg #[iv size,L]):=by rw[gC];rfl
 have g1:=hp.a (h':=A) S.1 fun i _ d=>S.2 i d;have y6:=hc.a (h':=A) S.1 fun i _ d=>S.2 i d;have D:=lM (n:=n) g1 h8 hs (by omega) (by omega) (by omega);by_cases U:DQ nm s=0;case neg=>
  have c0:(DQ nm s !=0)=true:=by simpa using U
  have W:K8 nm s size C t=DQ nm s:=ag U;rw[W];simp only[eE,seval,↓eP,C7,lP,D,c0];exact⟨fA,S,.inl ⟨U,rfl⟩⟩
 have c0:(DQ nm s !=0)=false:=by simpa using U
 obtain⟨a1,H5,X,⟨v8,rfl,g2⟩,f5,n5,o5⟩:=J1a (n:=n) g1 y6 h8 hs (by omega) (by omega) (by omega) (by omega);obtain⟨E0,E,s1,s2,s3,s4,nE,fE,oE⟩:=Mu g2 (by omega) (CD nm s size C).1.1 (CD nm s size C).1.2;have xE:Ex A E:=⟨by omega,fun i d=>by rw[oE i (by omega),o5 i d]⟩;have g3:=g2.b (H':=E) (by omega) fun i _ d=>oE i d;have y0:AI 0 (E.c (H5.a+1))=some (iv (CD nm s size C).1.1):=by rw[s4];rfl
 by_cases e1:(CD nm s size C).1.1=0;case neg=>
  have c1:((CD nm s size C).1.1 !=0)=true:=by simpa using e1
  have W:K8 nm s size C t=(CD nm s size C).1.1:=by unfold K8;rw[ad (by simpa using U),ag e1]
  rw[W];have y7:E.f E.b=E:=rfl;simp only[eE,seval,↓eP,C7,lP,D,c0,lC,G7,X,M7,MS,Q,GO,GS,I3,BU,s1,s2,HX,HV,y0,c1];refine WK.a (fs:=yY) (by kernel_rfl) ?_;unfold yY;iterate 4
   refine DG h9 ?_;simp only[rG,seval,AB,AD,AC,A7,DB,y7,HX,HV,y0]
  refine DF ?_;simp only[eE,seval];exact⟨by omega,S.a xE,.inl ⟨e1,rfl⟩⟩
 have c1:((CD nm s size C).1.1 !=0)=false:=by simpa using e1
 obtain⟨b1,b2,r,rfl,w1,w2,w3⟩:=id g3;obtain⟨v9,w0,w4⟩:=Jx nm s size C;have F:=S.a xE;have lU:AX 3 0 (E.c (h.a+1))=some (.agg #[uv,ug,ud]):=by rw[xE.2 _ (by omega),gB];rfl
 have H:=Xs (n:=n) (h:=E) (A:=(CD nm s size C).2) (B:=t) g3 (ht.b (H':=E) F.1 fun i _ d=>F.2 i d) ⟨by omega,by omega,by omega⟩ (by omega);by_cases e2:(CD nm s size C).2.V=t.V/\(CD nm s size C).2.G=t.G/\(CD nm s size C).2.a=t.a;case neg=>
  have W:K8 nm s size C t=1:=by unfold K8;rw[ad (by simpa using U),ad (by simpa using e1),ad e2]
  rw[W];rw[bp e2]at H;simp only[eE,seval,↓eP,C7,lP,D,c0,lC,G7,X,M7,MS,Q,GO,GS,I3,BU,s1,s2,HX,HV,y0,c1,FU,s3,lU,H];exact⟨by omega,F,.inl ⟨by decide,rfl⟩⟩
 have W:K8 nm s size C t=0:=by unfold K8;rw[ad (by simpa using U),ad (by simpa using e1),ag e2]
 rw[W,<-e2.1];rw[bh e2]at H;have w5:(CD nm s size C).2.V.length<2000000:=by rw[e2.1];exact y2.1
 -- the policy laid anew
 have gE:E.c h.a=.row [.string nm,vr,vq,vv,vt,vu,vo,iv s.c] 27 false false:=by rw[xE.2 _ (by omega)];exact gA
 obtain⟨x0,x1,x2,x3,x4,x5,x6,x7⟩:=R7 gE;have w6:=C9 [.string ByteArray.empty,Z0,Z0,Z0,Z0,Z0,Z0,iv s.c];obtain⟨Z,y8,gZ,nZ,fZ,xZ⟩:∃Z,BD prog (E.d (.row CO 27 false false)) 27 (qP E.a 0) (.agg #[.string ByteArray.empty,Z0,Z0,Z0,Z0,Z0,Z0,iv s.c])=some Z/\Z.c E.a=.row [.string ByteArray.empty,Z0,Z0,Z0,Z0,Z0,Z0,iv s.c] 27 false false/\Z.a=E.a+1/\Z.b=h.b/\Ex E Z:=⟨_,GQ EQ (id:=E.a) (vs:=[.string ByteArray.empty,Z0,Z0,Z0,Z0,Z0,Z0,iv s.c]) BJ rfl rfl rfl (by show E.b<=E.a;omega),BE rfl (by show E.a<E.a+1;omega),rfl,by show E.b=_;omega,(Ex.c E).b.e (af _) (by show E.a<E.a+1;omega)⟩;have yZ:∀i,i<h.a->Z.c i=h.c i:=fun i d=>by rw[xZ.2 i (by omega),F.2 i d]
 have m1:AI 1 (Z.c E.a)=some (Z0):=by rw[gZ];rfl
 have k1:AI 1 (Z.c h.a)=some vr:=by rw[xZ.2 _ (by omega)];exact x1
 obtain⟨m,A1,B1,y9,PG,w7,cr,g4,w8,w9,Y⟩:=VD (t:=22) (e:=125) (k:=1) cO bq GC WO FC rfl (by decide) (by decide) (p1.2.b (h':=Z) (by omega) fun i _ d=>yZ i d) (X_ _) (by omega) gZ (by omega) (by simp) (by omega);have z0:∀i,i<h.a->B1.c i=h.c i:=by grind
 have m2:AI 6 (B1.c E.a)=some (Z0):=by rw[g4];rfl
 have k2:AI 6 (B1.c h.a)=some vo:=by rw[Y _ (by omega) (by omega),xZ.2 _ (by omega)];exact x6
 obtain⟨o,A2,B2,z1,z2,fA2,co,g5,fB2,nB2,g6⟩:=VD (t:=25) (e:=3) (k:=6) FW au B_ IZ GD rfl (by decide) (by decide) (AL.b (h':=B1) p6 (by omega) fun i _ d=>z0 i d) (MJ _) (by omega) g4 (by omega) (by simp) (by omega);have z3:∀i,i<h.a->B2.c i=h.c i:=by grind
 have m3:AI 5 (B2.c E.a)=some (Z0):=by rw[g5];rfl
 have k3:AI 5 (B2.c h.a)=some vu:=by rw[g6 _ (by omega) (by omega),Y _ (by omega) (by omega),xZ.2 _ (by omega)];exact x5
 obtain⟨p,A3,u,z4,z5,fA3,cu,z6,fB3,nB3,z7⟩:=VD (t:=25) (e:=3) (k:=5) FW au B_ IZ GD rfl (by decide) (by decide) (AL.b (h':=B2) p5 (by omega) fun i _ d=>z3 i d) (MJ _) (by omega) g5 (by omega) (by simp) (by omega);have yB3:∀i,i<h.a->u.c i=h.c i:=by grind
 have eB3:∀i,i<E.a->u.c i=E.c i:=fun i d=>by rw[z7 i (by omega) (by omega),g6 i (by omega) (by omega),Y i (by omega) (by omega),xZ.2 i (by omega)]
 have g7:u.c E.a=.row [.string ByteArray.empty,m,Z0,Z0,Z0,p,o,iv s.c] 27 false false:=z6;have M:u.b=h.b:=by omega
 have v6:u.f h.b=u:=DI M;simp only[eE,seval,↓eP,C7,lP,D,c0,lC,G7,X,M7,MS,Q,GO,GS,I3,BU,s1,s2,ab,HX,HV,y0,c1,FU,s3,lU,H,CK,GF,I_,JV,AM,x7,J6B,NR,NQ,PK,y8,CJ,m1,k1,y9,PG,BH,m2,k2,z1,z2,m3,k3,z4,z5];refine WK.b (fun i z=>z.T.a 3=qP h.a 0/\z.T.a 5=qP (h.a+1+1) 0/\z.T.a 9=qP H5.a 0/\z.T.a 11=qP E.a 0/\z.T.a 13=iv (i:Int)/\i<=s.b.length/\u.a<=z.h.a/\(∀j,j<u.a->z.h.c j=u.c j)/\z.h.b=h.b/\∃gs,JM 4 z.h u.a (z.T.a 12) i gs/\gs.length=i*1/\gs.all one=true) s.b.length (by omega) ?_ ?_;.refine⟨?_,?_,?_,?_,?_,bg _,af _,fun _ _=>rfl,M,[],.inl ⟨?_,rfl,rfl⟩,rfl,rfl⟩<;>simp only[eE,seval]<;>rfl
 rintro i⟨T1,f⟩d⟨q3,q5,q9,h0,h1,hik,nH,oH,fH,gs,I,h2,h3⟩;simp only at q3 q5 q9 h0 h1 nH oH fH I;obtain⟨lw,h4⟩:∃lw,T1.a 12=lw:=⟨_,rfl⟩;rw[h4]at I;have g8:f.f h.b=f:=DI fH;have yH:∀j,j<h.a->f.c j=h.c j:=by grind
 have eH:∀j,j<E.a->f.c j=E.c j:=by grind
 have lq:AI 2 (f.c h.a)=some vq:=by rw[eH _ (by omega)];exact x2
 have O:=fun(h':AA)=>AL.c p2 ci (h':=h');rcases ar i s.b.length with h5|hge
 .have c9:decide ((i:Int)<(s.b.length:Int))=true:=by grind
  obtain⟨q,hq⟩:∃q,s.b[i]?=some q:=⟨_,aa h5⟩;obtain⟨iq,pq,ea,hid,el⟩:=AL.j (AL.b (h':=f) p2 (by omega) fun j _ l=>yH j l) ci kW h5;have z8:AI (pq+1) (f.c iq)=some (.bool q.2):=by rw[el 1 (by omega)];exact Oh _ _ _ hq
  obtain⟨lw',J,ap,z9,fJ,nJ,oJ⟩:=T9 (t:=84) (new:=[.bool q.2]) gk MZ Gi xD rfl (by decide) (by decide) I h2 h3 rfl rfl (by omega) (by omega) (by omega);have u0:IntKind.i64.wrap ((i:Int)+1)=((i+1:Nat):Int):=BR;simp only[eE,seval,↓eP,q3,q5,q9,h0,h1,h4,ab,DY,DZ,lq,O,c9,ea,KR,F4,z8,bsG,ap,u0];exact⟨h5,by omega,by omega,fun j l=>by rw[oJ j (by omega) (.inl (by omega)),oH j l],by omega,_,z9,by rw[ch,h2];simp,by rw[iy,h3];rfl⟩
 have c9:decide ((i:Int)<(s.b.length:Int))=false:=by grind
 have u1:i=s.b.length:=by omega
 simp only[eE,seval,↓eP,q3,h1,ab,DY,DZ,lq,O,c9];have lN:AX 8 0 (f.c E.a)=some (.agg #[.string ByteArray.empty,m,Z0,Z0,Z0,p,o,iv s.c]):=IY (by rw[oH _ (by omega)];exact g7) rfl;have u2:AI 0 (f.c H5.a)=some b1:=by rw[eH _ (by omega)];exact u_ s3
 have u3:AI 1 (f.c H5.a)=some b2:=by rw[eH _ (by omega)];exact Bx s3
 have u4:AI 2 (f.c H5.a)=some r:=by rw[eH _ (by omega)];exact Df s3
 have u5:AX 2 0 (f.c (h.a+1+1))=some (.agg #[iv size,L]):=by rw[eH _ (by omega),xE.2 _ (by omega),gC];rfl
 have u6:=I.b (w:=1) (lo':=u.a) h2 (af _);obtain⟨tv9,g9,u7,⟨T,rfl,P⟩,_,y4⟩:=Jbi (n:=n) (h:=f.f (max h.b f.a)) (size:=size) (AL.b u6 (af _) fun _ _ _=>rfl) h3 (AL.b w1 (by rw[BK];omega) fun j _ l=>eH j l) (AK.U w2 (by rw[BK];omega) fun j _ l=>eH j l) (AK.U pc (by rw[BK];omega) fun j _ l=>yH j l) (by omega) (by omega) (by omega) (by omega) (by rw[BI,BK];omega) (by omega);rw[BK]at P;have u8:=P.a (h':=g9.f h.b) (af _) fun _ _ _=>rfl;obtain⟨g,u9,K,x8,y⟩:∃g,g9.f h.b=g/\g.b=h.b/\Ex f g/\QY f.a g T i (List.map (fun(x:Int×Int×Int)=>x.1) (CD nm s size C).2.V):=⟨_,rfl,rfl,y4.d.f,u8⟩;have nJ3:=x8.1;have x9:g.f h.b=g:=DI K;have y1:CL prog 65 [(0,.agg #[.string ByteArray.empty,m,Z0,Z0,Z0,p,o,iv s.c]),(1,r),(2,qP T 0)]=some (.agg ((QN ByteArray.empty m (Z0) (Z0) (Z0) p o s.c r T)).toArray):=by
  obtain⟨_,_,_,rfl,_⟩:=id w3;exact J8G
 have v0:(Value.agg ((QN ByteArray.empty m (Z0) (Z0) (Z0) p o s.c r T)).toArray).cells.toList=(QN ByteArray.empty m (Z0) (Z0) (Z0) p o s.c r T):=rfl;have v1:((QN ByteArray.empty m (Z0) (Z0) (Z0) p o s.c r T)).all one=true:=J8M cr.a rfl rfl rfl cu.a co.a (AL.a w3);have v2:(E.a<f.a)=True:=by simp;omega
 have v3:(H5.a<f.a)=True:=by simp;omega
 have v4:(h.a+1+1<f.a)=True:=by simp;omega
 refine WK.a (fs:=wX) (by kernel_rfl) ?_;unfold wX;iterate 14
  refine DG h9 ?_;simp only[rG,seval,AB,AD,AC,A7,BL,BY,q5,q9,h0,h4,fH,g8,v2,v3,v4,C7,lN,IM,LF,LN,IJ,BH,u2,u3,u4,G7,u5,u7,u9,x9,K,y1,v0,v1,sz65]
 refine DF ?_;have hJ4:(g.d (.row (QN ByteArray.empty m (Z0) (Z0) (Z0) p o s.c r T) 65 false false)).f h.b=g.d (.row (QN ByteArray.empty m (Z0) (Z0) (Z0) p o s.c r T) 65 false false):=DI K;have h6:(g.d (.row (QN ByteArray.empty m (Z0) (Z0) (Z0) p o s.c r T) 65 false false)).c g.a=.row (QN ByteArray.empty m (Z0) (Z0) (Z0) p o s.c r T) 65 false false:=BJ;simp only[eE,seval];have h7:QY h.a (g.d (.row (QN ByteArray.empty m (Z0) (Z0) (Z0) p o s.c r T) 65 false false)) T s.b.length ((CD nm s size C).2.V.map (·.1)):=by
  rw[u1]at y;exact(y.a (jp _) fun j _ l=>AV l).b (by omega)
 exact⟨K,⟨by show h.a<=g.a+1;omega,fun j l=>by rw[AV,x8.2 j (by omega),yH j l]⟩,.inr ⟨rfl,_,rfl,⟨by omega,by show g.a<g.a+1;omega⟩,⟨T,by rw[h6];rfl,h7⟩,by rw[h6];rfl,by rw[h6];rfl⟩⟩
theorem J1o{nm:ByteArray}{s:AS}{vr vq vv vt vu vo e f:Value}{size:Int}{C:List Int}{t:FK}{lo i lc:Nat}(j:CG lo h (.agg #[.string nm,vr,vq,vv,vt,vu,vo,iv s.c]) nm s)(a:GH i h e t)(k:F6 lc h (.agg #[iv size,f]) size C)(b:∀x∈s.a,x.b<=9223372036854775807)(l:F7 s)(m:DS s<2000000)(o:C.length<2000000)(c:t.V.length<2000000/\t.G.length<2000000/\t.a.length<2000000)(d:h.b<=h.a)(p:20000001<n):∃v g,AN n 56 [.agg #[.string nm,vr,vq,vv,vt,vu,vo,iv s.c],e,.agg #[iv size,f]] h=some (v,g)/\YQ h v g (K8 nm s size C t) s.b.length (t.V.map (·.1)):=by obtain⟨n,rfl⟩:=BX p;exact GY BF (J4n (n:=n) (N:=n) j a k b l m o c d (by omega) (by omega)) fun r u q _ a=>a.a q
end
end Go.Proofs.YtjailoenloejbaaGreatDoor




