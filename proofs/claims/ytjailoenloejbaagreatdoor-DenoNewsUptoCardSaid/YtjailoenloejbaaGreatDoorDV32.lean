/- Part 32. -/
import Derived.Test.YtjailoenloejbaaGreatDoorDV31
set_option linter.all false
namespace Go.Proofs.YtjailoenloejbaaGreatDoor
open Go Go.Sx Go.Proofs.Tryz
set_option maxRecDepth 100000
set_option maxHeartbeats 0
def pP:List (Bool×Bool×List Operand):=[AJ,AJ,AH [.tmp 33],AJ]
def zI:List (Bool×Bool×List Operand):=[AO,AO,AO,BP [.tmp 57],BP [.tmp 57],AO,BP [.tmp 57,.tmp 60],BP [.tmp 57,.tmp 60],AJ,(true,false,[]),AJ,AJ,AJ,AJ,AJ]
noncomputable def He:Array Oper:=B9 f30 10
def Wu:List (Bool×Bool×List Operand):=[DT,BP [.tmp 3],BP [.tmp 3,.tmp 9],BP [.tmp 3,.tmp 9],AH [.tmp 3,.tmp 9,.tmp 71],AH [.tmp 3,.tmp 9,.tmp 71],AH [.tmp 3,.tmp 9,.tmp 71],AH [.tmp 3,.tmp 9],BP [.tmp 3,.tmp 9,.tmp 71,.tmp 73],BP [.tmp 3,.tmp 9,.tmp 71,.tmp 73],BP [.tmp 3,.tmp 9,.tmp 71,.tmp 73],BP [.tmp 3,.tmp 9,.tmp 71,.tmp 73],BP [.tmp 3,.tmp 9,.tmp 71,.tmp 73],BP [.tmp 3,.tmp 9,.tmp 71,.tmp 73],AJ,AJ,AJ]
theorem VM:CA He=Wu:=by kernel_rfl
noncomputable def pE:Array Oper:=B9 f30 14
def wE:List (Bool×Bool×List Operand):=[DT,DT,DT,DT,AH [.tmp 94],AH [.tmp 94],AH [.tmp 94],AH [.tmp 94],AH [.tmp 94],AH [.tmp 94],AH [.tmp 94],AH [.tmp 94,.tmp 98,.tmp 101],AH [.tmp 94,.tmp 98,.tmp 101],AH [.tmp 94,.tmp 98,.tmp 101],AH [.tmp 94],AJ,AJ,AJ]
theorem VS:CA pE=wE:=by kernel_rfl
noncomputable def Nq:Array Oper:=B9 f30 16
def Wh:List (Bool×Bool×List Operand):=[AO,AH [.tmp 3],AH [.tmp 3,.tmp 9],AH [.tmp 3,.tmp 9],AH [.tmp 3,.tmp 9],AH [.tmp 3,.tmp 9],AH [.tmp 3,.tmp 9,.tmp 114],AH [.tmp 3,.tmp 9,.tmp 114],AH [.tmp 3,.tmp 9,.tmp 114],AH [.tmp 3,.tmp 9,.tmp 114],AJ,AJ,AJ]
theorem Wi:CA Nq=Wh:=by kernel_rfl
def zY:List (Bool×Bool×List Operand):=[(true,false,[]),(true,false,[]),(true,false,[]),(true,false,[]),BP [.tmp 132],AH [.tmp 132],AH [.tmp 132],AH [.tmp 132],AJ,AJ]
def rJ:List (Bool×Bool×List Operand):=[DT,(true,false,[]),(true,false,[]),(true,false,[]),(true,false,[]),AH [.tmp 150],AH [.tmp 150],AH [.tmp 150],AH [.tmp 150],AJ,AJ,AJ,AJ]
theorem Ww:SP pE 14=true:=by kernel_rfl
theorem Wy:J0 pE 14=[.tmp 94]:=by kernel_rfl
theorem Wz{H:AA}{id src n:Nat}{cs:List Value}{a:Int}{g:Bool}(e:H.c id=.row cs 3 true false)(f:H.c src=.row [iv a] 3 g false)(h:cs.length=n)(i:cs.all one=true)(j:H.b<=id)(k:n<1099511627776):DR prog H 25 (qS id n AT) (qS src 1 1)=some (qS H.a (n+1) AT,(H.e id .dead).d (.row (cs++[iv a]) 3 true false)):=by
 have b:EL H 1 1 (qS src 1 1)=some [iv a]:=by
  simp only[EL,f];rfl
 have c:GN cs 0 (n*1)=some cs:=by
  simp only[GN,gn];grind
 have d:([iv a]:List Value).all one=true:=rfl;have l:n<=AT:=by unfold AT;omega
 simp only[DR,au,B_,IZ,GD,ZX,b,d,e,c,i];rw[ag (by grind),ag cj,ag cj,ag (by grind),ad (by decide),ag cj,ag cj]
theorem WY{H:AA}{id src n f:Nat}{a:Int}{g:Bool}(d:H.c src=.row [iv a] 3 g false)(e:id<f)(h:n<1099511627776:=by omega):DR prog (H.f f) 25 (qS id n AT) (qS src 1 1)=none:=by
 have b:EL (H.f f) 1 1 (qS src 1 1)=some [iv a]:=by
  simp only[EL,CZ,d];rfl
 have c:([iv a]:List Value).all one=true:=rfl;have i:n<=AT:=by unfold AT;omega
 simp only[DR,au,B_,IZ,GD,ZX,b,c];rw[ag (by grind),ag cj,ag cj,ad (show¬((decide ((n+1)*8<=140737488355328)&&decide (n+1<=140737488355328)&&decide ((H.f f).b<=id))=true)from by rw[bp (show¬(H.f f).b<=id by show¬f<=id;omega),Bool.and_false];decide)]
theorem iP(z:Value):∀n,CF [z] n=List.replicate n z|0=>rfl|n+1=>by show[z]++CF [z] n=_;rw[iP z n];rfl
theorem wP{id off:Nat}:BC prog 142 (qP id off) 0=some (qP id off):=by simp[BC,dy,B_,CB]
theorem W4{H:AA}{a b c:Int}(e:H.b<=H.a):∃d,BD prog (H.d (.row [iv 0,iv 0,iv 0] 142 false false)) 142 (qP H.a 0) (E8 a b c)=some d/\d.c H.a=.row [iv a,iv b,iv c] 142 false false/\d.a=H.a+1/\d.b=H.b/\Ex H d:=⟨_,GQ NS (id:=H.a) (vs:=[iv a,iv b,iv c]) BJ rfl rfl rfl e,BE rfl (by show H.a<H.a+1;omega),rfl,rfl,(Ex.c H).b.e (af _) (by show H.a<H.a+1;omega)⟩
theorem Xb{H:AA}{M b src n:Nat}{cs c:List Value}{d:TypeId}{f:Bool}{a:Int}(s:H.c M=.row c d f false)(g:M<H.a)(t:H.c b=.row cs 3 true false)(k:b<H.a)(u:H.c src=.row [iv a] 3 false false)(l:b≠M)(m:src≠M)(o:cs.length=n)(v:cs.all one=true)(w:H.b<=b)(x:n<1099511627776):∃j,DR prog (OW [M] H) 25 (qS b n AT) (qS src 1 1)=some (qS H.a (n+1) AT,j)/\(MM H [M] j).a=H.a+1/\(MM H [M] j).b=H.b/\(MM H [M] j).c H.a=.row (cs++[iv a]) 3 true false/\∀i,i<H.a->i≠b->(MM H [M] j).c i=H.c i:=by
 have e:OW [M] H=H.e M (.row c d f true):=by simp only[OW,LS,s,XJ]
 have p:(H.e M (.row c d f true)).c b=.row cs 3 true false:=by rw[AP g (bc l)];exact t
 have q:(H.e M (.row c d f true)).c src=.row [iv a] 3 false false:=by rw[AP g (bc m)];exact u
 refine⟨((H.e M (.row c d f true)).e b .dead).d (.row (cs++[iv a]) 3 true false),by rw[e];exact Wz p q o v w x,rfl,rfl,?_,fun i y z=>?_⟩
 .show((((H.e M (.row c d f true)).e b .dead).d (.row (cs++[iv a]) 3 true false)).e M (H.c M)).c H.a=_;rw[AP (by show M<H.a+1;omega) (by omega)];exact BJ (h:=(H.e M (.row c d f true)).e b .dead)
 .show((((H.e M (.row c d f true)).e b .dead).d (.row (cs++[iv a]) 3 true false)).e M (H.c M)).c i=_;by_cases r:i=M
  .subst r;exact BE rfl (by show i<H.a+1;omega)
  .rw[AP (by show M<H.a+1;omega) (bc r),AV (by exact y),AP (by exact k) (bc z),AP g (bc r)]
theorem Xh{nm:ByteArray}{a1 a2 a3 a4 a5 a6 b1 b2 b3 c b a:Value}{m size:Int}{S:Nat}(h1:one a1=true)(d:one a2=true)(e:one a3=true)(f:one a4=true)(g:one a5=true)(h:one a6=true)(i:one b1=true)(j:one b2=true)(k:one b3=true)(l:one c=true)(n:one b=true)(o:one a=true):(MI nm a1 a2 a3 a4 a5 a6 m b1 b2 b3 size c b a S).all one=true:=by simp only[MI,az,bd,h1,d,e,f,g,h,i,j,k,l,n,o];rfl
theorem Xj{nm:ByteArray}{a1 a2 a3 a4 a5 a6 b1 b2 b3 c r:Value}{m size:Int}(h1:one a1=true)(a:one a2=true)(b:one a3=true)(d:one a4=true)(e:one a5=true)(f:one a6=true)(g:one b1=true)(h:one b2=true)(i:one b3=true)(j:one c=true)(k:one r=true):(TS nm a1 a2 a3 a4 a5 a6 m b1 b2 b3 size c r).all one=true:=by simp only[TS,az,bd,h1,a,b,d,e,f,g,h,i,j,k];rfl
theorem Ua{cs:List Value}{v:Value}{k:Nat}(h:cs.all one=true)(a:one v=true):(cs.set k v).all one=true:=by grind
theorem vT{v:Value}(h:one v=true)(n:Nat):(List.replicate n v).all one=true:=by simp[h]
section
variable {n N:Nat} {h:AA}
theorem Zn{nm:ByteArray}{s:AS}{vr vq vv vt vu vo tv vc:Value}{size:Int}{C:List Int}{t:FK}{lo lt lc:Nat}(hp:CG lo h (.agg #[.string nm,vr,vq,vv,vt,vu,vo,iv s.c]) nm s)(hSr:I5 vr s.a.length)(hSq:I5 vq s.b.length)(hSu:I5 vu s.d.length)(hSc:I5 vc C.length)(ht:GH lt h tv t)(hc:F6 lc h (.agg #[iv size,vc]) size C)(hs:F7 s)(hl:DS s<2000000)(hC:C.length<2000000)(htl:t.V.length<2000000/\t.G.length<2000000/\t.a.length<2000000)(hg:h.c 0=EM)(hn0:0<h.a)(hfl:h.b<=h.a)(hn:20000000<n)(hN:20000000<N):∃v h',AW prog (AN n) N 30 [.agg #[.string nm,vr,vq,vv,vt,vu,vo,iv s.c],tv,.agg #[iv size,vc]] h=some (v,h')/\XA h v h' (K8 nm s size C t) s.b.length (t.V.map (·.1)):=by
 have f:=(EC n).2;refine G_ (R:=fun v h'=>XA h v h' (K8 nm s size C t) s.b.length (t.V.map (·.1))) func30 rfl ?_ ?_;.simp[f30]
 have hr:f30.results.toList=[.tmp 6,.tmp 7]:=rfl;have htot:DS s=s.a.length+s.b.length+s.f.length+s.g.length+s.d.length+s.h.length:=rfl;obtain⟨_,_,_,_,_,_,hpe,p1,p2,p3,p4,p5,p6⟩:=id hp;cases hpe;obtain⟨uv,ug,ud,rfl,t1,t2,t3⟩:=id ht;obtain⟨_,hce,pc⟩:=id hc;cases hce;have ca:=C9 [.string nm,vr,vq,vv,vt,vu,vo,iv s.c];have oa:=IV (nm:=nm) p1 p2 p3 p4 p5 p6;have cb:=C9 [uv,ug,ud];have ob:[uv,ug,ud].all one=true:=by simp only[az,bd,AL.a t1,AL.a t2,AL.a t3,ao]
 have cc:=C9 [iv size,vc];have oc:[iv size,vc].all one=true:=by simp only[az,bd,AL.a pc,JQ,ao]
 have u5:zT.cells.toList=[Z0,Z0,Z0]:=rfl;have g0:∀(a b c:BO),let A:=((h.d a).d b).d c
   A.c h.a=a/\A.c (h.a+1)=b/\A.c (h.a+1+1)=c/\A.a=h.a+3/\A.b=h.b/\Ex h A:=fun a b c=>by
  refine⟨?_,?_,BJ (h:=(h.d a).d b),rfl,rfl,(Ex.c h).b.b.b⟩
  .rw[AV (by show h.a<h.a+1+1;omega)];exact JG
  .rw[AV (by show h.a+1<h.a+1+1;omega)];exact BJ (h:=h.d a)
 obtain⟨gA,gB,gC,nA,fA,xA⟩:=g0 (.row [.string nm,vr,vq,vv,vt,vu,vo,iv s.c] 27 false false) (.row [uv,ug,ud] 30 false false) (.row [iv size,vc] 32 false false);simp only[eE,seval,DJ,hr,ca,oa,cb,ob,cc,oc,EQ,JJ,HQ];generalize((h.d (.row [.string nm,vr,vq,vv,vt,vu,vo,iv s.c] 27 false false)).d (.row [uv,ug,ud] 30 false false)).d (.row [iv size,vc] 32 false false)=A at*;have lP:AX 8 0 (A.c h.a)=some (.agg #[.string nm,vr,vq,vv,vt,vu,vo,iv s.c]):=IY gA rfl;have lC:AX 2 0 (A.c (h.a+1+1))=some (.agg #[iv size,vc]):=by rw[gC];rfl
 have hpA:=hp.a (h':=A) xA.1 fun i _ g=>xA.2 i g;have hcA:=hc.a (h':=A) xA.1 fun i _ g=>xA.2 i g;have u6:∀nm' vr' vq' vv' vt' vu' vo' m,(Value.agg #[.string nm,vr,vq,vv,vt,vu,vo,iv s.c])=.agg #[.string nm',vr',vq',vv',vt',vu',vo',m]->M8 vr' s.a.length:=fun _ _ _ _ _ _ _ _ e=>by
  cases e;exact hSr
 have hwA:A.c 0=EM:=by rw[xA.2 0 hn0];exact hg
 have z3:=oR (n:=n) hpA u6 hs (by omega) (by omega) hwA (by omega) (by omega);by_cases e0:DQ nm s=0;case neg=>
  have c0:(DQ nm s !=0)=true:=by simpa using e0
  have eN:K8 nm s size C t=DQ nm s:=ag e0;rw[eN];simp only[eE,seval,↓eP,C7,lP,z3,c0];exact⟨fA,xA,.inl ⟨e0,rfl⟩⟩
 have c0:(DQ nm s !=0)=false:=by simpa using e0
 obtain⟨a1,H5,u7,⟨tv1,rfl,hT1⟩,f5,n5,o5⟩:=R4 (n:=n) hpA hcA u6 hs (by omega) (by omega) hwA (by omega) (by omega) (by omega);obtain⟨E0,E,s1,s2,s3,s4,nE,fE,oE⟩:=Mu hT1 (by omega) (CD nm s size C).1.1 (CD nm s size C).1.2;have xE:Ex A E:=⟨by omega,fun i g=>by rw[oE i (by omega),o5 i g]⟩;have hTE:=hT1.b (H':=E) (by omega) fun i _ g=>oE i g;have y0:AI 0 (E.c (H5.a+1))=some (iv (CD nm s size C).1.1):=by rw[s4];rfl
 by_cases e1:(CD nm s size C).1.1=0;case neg=>
  have c1:((CD nm s size C).1.1 !=0)=true:=by simpa using e1
  have eN:K8 nm s size C t=(CD nm s size C).1.1:=by unfold K8;rw[ad (by simpa using e0),ag e1]
  rw[eN];have hff:E.f E.b=E:=rfl;simp only[eE,seval,↓eP,C7,lP,z3,c0,lC,G7,u7,M7,MS,u5,GO,GS,I3,BU,s1,s2,HX,HV,y0,c1];refine WK.a (fs:=pP) (by kernel_rfl) ?_;unfold pP;iterate 4
   refine DG f ?_;simp only[rG,seval,AB,AD,AC,A7,DB,hff,HX,HV,y0]
  refine DF ?_;simp only[eE,seval];exact⟨by omega,xA.a xE,.inl ⟨e1,rfl⟩⟩
 have c1:((CD nm s size C).1.1 !=0)=false:=by simpa using e1
 obtain⟨K,O,M,rfl,w1,w2,w3⟩:=id hTE;obtain⟨cl1,cl2,cl3⟩:=Jx nm s size C;have w4:AI 0 (E.c H5.a)=some K:=u_ s3;have lT1:AI 1 (E.c H5.a)=some O:=Bx s3;have lT2:AI 2 (E.c H5.a)=some M:=Df s3;have T:=xA.a xE;have w5:AI 0 (E.c (h.a+1))=some uv:=by rw[xE.2 _ (by omega),gB];rfl
 have lU1:AI 1 (E.c (h.a+1))=some ug:=by rw[xE.2 _ (by omega),gB];rfl
 have lU2:AI 2 (E.c (h.a+1))=some ud:=by rw[xE.2 _ (by omega),gB];rfl
 have h3:=TJ (n:=n) (h:=E) (A:=(CD nm s size C).2.V) (B:=t.V) w1 (t1.b (h':=E) T.1 fun i _ g=>T.2 i g) (by omega) (by omega);have z4:=Sp (n:=n) (h:=E) (A:=(CD nm s size C).2.G) (B:=t.G) w2 (AK.U (h':=E) t2 T.1 fun i _ g=>T.2 i g) (by omega) (by omega);have w6:=Sp (n:=n) (h:=E) (A:=(CD nm s size C).2.a) (B:=t.a) w3 (AK.U (h':=E) t3 T.1 fun i _ g=>T.2 i g) (by omega) (by omega);by_cases e2:(CD nm s size C).2.V=t.V/\(CD nm s size C).2.G=t.G/\(CD nm s size C).2.a=t.a;case neg=>
  have eN:K8 nm s size C t=1:=by unfold K8;rw[ad (by simpa using e0),ad (by simpa using e1),ad e2]
  rw[eN];have fin:∀Q:Prop,(XA h (.tuple #[.pointer none,iv 1]) E 1 s.b.length (t.V.map (·.1))->Q)->Q:=fun Q hQ=>hQ ⟨by omega,T,.inl ⟨by decide,rfl⟩⟩;by_cases d1:(CD nm s size C).2.V=t.V
  .by_cases d2:(CD nm s size C).2.G=t.G
   .have d3:¬(CD nm s size C).2.a=t.a:=by grind
    rw[bh d1]at h3;rw[bh d2]at z4;rw[bp d3]at w6;simp only[eE,seval,↓eP,C7,lP,z3,c0,lC,G7,u7,M7,MS,u5,GO,GS,I3,BU,s1,s2,ab,HX,HV,y0,c1,IM,LF,LN,IJ,BH,w4,lT1,lT2,w5,lU1,lU2,h3,z4,w6];exact fin _ id
   .rw[bh d1]at h3;rw[bp d2]at z4;simp only[eE,seval,↓eP,C7,lP,z3,c0,lC,G7,u7,M7,MS,u5,GO,GS,I3,BU,s1,s2,ab,HX,HV,y0,c1,IM,LF,IJ,BH,w4,lT1,w5,lU1,h3,z4];exact fin _ id
  .rw[bp d1]at h3;simp only[eE,seval,↓eP,C7,lP,z3,c0,lC,G7,u7,M7,MS,u5,GO,GS,I3,BU,s1,s2,HX,HV,y0,c1,IM,IJ,w4,w5,h3];exact fin _ id
 have eN:K8 nm s size C t=0:=by unfold K8;rw[ad (by simpa using e0),ad (by simpa using e1),ag e2]
 rw[eN,<-e2.1];rw[bh e2.1]at h3;rw[bh e2.2.1]at z4;rw[bh e2.2.2]at w6;have z6:=ST (size:=size) (C:=C) e0 e1 (by omega)
 -- the clones
 have gE:E.c h.a=.row [.string nm,vr,vq,vv,vt,vu,vo,iv s.c] 27 false false:=by rw[xE.2 _ (by omega)];exact gA
 obtain⟨x0,x1,x2,x3,x4,x5,x6,x7⟩:=R7 gE;have fEh:E.b=h.b:=by omega
 have hEf:E.f h.b=E:=DI fEh;obtain⟨p,h4,hk3,q1,qs1,_,x1r⟩:=Ta (n:=n) (h:=E.f (max h.b E.a)) (AL.b p1.2 T.1 fun i _ g=>T.2 i g) hSr (X_ _) (by omega) (by omega);rw[BK]at q1;obtain⟨F1,hF1,fF1,U,nF1,gF1⟩:∃F1,h4.f h.b=F1/\F1.b=h.b/\Ex E F1/\F1.a=h4.a/\∀i,F1.c i=h4.c i:=⟨_,rfl,rfl,x1r.d.f,rfl,fun _=>rfl⟩;have hF1f:F1.f h.b=F1:=DI fF1;have xh1:=T.a U;have z2:AI 2 (F1.c h.a)=some vq:=by rw[U.2 _ (by omega)];exact x2
 obtain⟨r,F2r,hk4,z7,qs2,_,x2r⟩:=Tj (n:=n) (h:=F1.f (max h.b E.a)) (AL.b p2 xh1.1 fun i _ g=>xh1.2 i g) hSq (ZU _) (by omega) (by omega);rw[BK]at z7;obtain⟨F2,hF2,fF2,Y,nF2,gF2⟩:∃F2,F2r.f h.b=F2/\F2.b=h.b/\Ex F1 F2/\F2.a=F2r.a/\∀i,F2.c i=F2r.c i:=⟨_,rfl,rfl,x2r.d.f,rfl,fun _=>rfl⟩;have hF2f:F2.f h.b=F2:=DI fF2;have xh2:=xh1.a Y;have z5:AI 5 (F2.c h.a)=some vu:=by rw[Y.2 _ (by have:=U.1;omega),U.2 _ (by omega)];exact x5
 obtain⟨y,X,hk5,z8,qs3,fF3,z9⟩:=vF (n:=n) (h:=F2) (AL.b p5 xh2.1 fun i _ g=>xh2.2 i g) hSu (MJ _) (by omega) (by omega);have u8:X.b=h.b:=by omega
 have hF3f:X.f h.b=X:=DI u8;have hnx3:E.a<=X.a:=by have:=U.1;have:=Y.1;have:=z9.1;omega
 have gF3:X.c h.a=.row [.string nm,vr,vq,vv,vt,vu,vo,iv s.c] 27 false false:=by rw[z9.2 _ (by have:=U.1;have:=Y.1;omega),Y.2 _ (by have:=U.1;omega),U.2 _ (by omega)];exact gE
 have u0:h.a<X.a:=by omega
 have PG:BD prog X 22 (qP h.a 1) p=some (X.e h.a (.row [.string nm,p,vq,vv,vt,vu,vo,iv s.c] 27 false false)):=EO cO q1.g q1.a gF3 (by simp) (by omega);have gP1:(X.e h.a (.row [.string nm,p,vq,vv,vt,vu,vo,iv s.c] 27 false false)).c h.a=.row [.string nm,p,vq,vv,vt,vu,vo,iv s.c] 27 false false:=BE rfl u0;have st2:BD prog (X.e h.a (.row [.string nm,p,vq,vv,vt,vu,vo,iv s.c] 27 false false)) 23 (qP h.a 2) r=some ((X.e h.a (.row [.string nm,p,vq,vv,vt,vu,vo,iv s.c] 27 false false)).e h.a (.row [.string nm,p,r,vv,vt,vu,vo,iv s.c] 27 false false)):=EO ZN z7.g z7.a gP1 (by simp) (by show X.b<=_;omega);have gP2:((X.e h.a (.row [.string nm,p,vq,vv,vt,vu,vo,iv s.c] 27 false false)).e h.a (.row [.string nm,p,r,vv,vt,vu,vo,iv s.c] 27 false false)).c h.a=.row [.string nm,p,r,vv,vt,vu,vo,iv s.c] 27 false false:=BE rfl u0;have st3:BD prog ((X.e h.a (.row [.string nm,p,vq,vv,vt,vu,vo,iv s.c] 27 false false)).e h.a (.row [.string nm,p,r,vv,vt,vu,vo,iv s.c] 27 false false)) 25 (qP h.a 5) y=some (((X.e h.a (.row [.string nm,p,vq,vv,vt,vu,vo,iv s.c] 27 false false)).e h.a (.row [.string nm,p,r,vv,vt,vu,vo,iv s.c] 27 false false)).e h.a (.row [.string nm,p,r,vv,vt,y,vo,iv s.c] 27 false false)):=EO FW z8.g z8.a gP2 (by simp) (by show X.b<=_;omega);obtain⟨F,hF,w7,nF,fF,oF⟩:∃F,((X.e h.a (.row [.string nm,p,vq,vv,vt,vu,vo,iv s.c] 27 false false)).e h.a (.row [.string nm,p,r,vv,vt,vu,vo,iv s.c] 27 false false)).e h.a (.row [.string nm,p,r,vv,vt,y,vo,iv s.c] 27 false false)=F/\F.c h.a=.row [.string nm,p,r,vv,vt,y,vo,iv s.c] 27 false false/\F.a=X.a/\F.b=X.b/\∀i,i≠h.a->F.c i=X.c i:=⟨_,rfl,BE rfl u0,rfl,rfl,fun i g=>(AP (by exact u0) (bc g)).trans ((AP (by exact u0) (bc g)).trans (AP u0 (bc g)))⟩;have hiT:(h.a<E.a)=True:=by simp;omega
 have hf1:(X.e h.a (.row [.string nm,p,vq,vv,vt,vu,vo,iv s.c] 27 false false)).f h.b=X.e h.a (.row [.string nm,p,vq,vv,vt,vu,vo,iv s.c] 27 false false):=DI u8;simp only[eE,seval,↓eP,C7,lP,z3,c0,lC,G7,u7,M7,MS,u5,GO,GS,I3,BU,s1,s2,ab,HX,HV,y0,c1,IM,LF,LN,IJ,BH,w4,lT1,lT2,w5,lU1,lU2,h3,z4,w6];refine WK.a (fs:=zI) (by kernel_rfl) ?_;unfold zI;iterate 15
  refine DG f ?_;simp only[rG,seval,AB,AD,AC,A7,BL,target,BY,DB,fEh,hEf,CK,DY,GF,CJ,DZ,BH,x1,hiT,hk3,hF1,hF1f,z2,hk4,hF2,hF2f,z5,hk5,hF3f,fF1,fF2,u8,PG,hf1,st2,st3,hF]
 refine DF ?_
 -- the machine
 have hVl:(CD nm s size C).2.V.length<2000000:=by rw[e2.1];exact htl.1
 have h0:F.b=h.b:=by omega
 have h5:F.f h.b=F:=DI h0;have w8:∀i,i<E.a->i≠h.a->F.c i=E.c i:=fun i g hne=>by rw[oF i hne,z9.2 i (by have:=U.1;have:=Y.1;omega),Y.2 i (by have:=U.1;omega),U.2 i g]
 have hnxF:E.a<=F.a:=by omega
 have xhF:Ex h F:=⟨by have:=T.1;omega,fun i g=>by rw[w8 i (by have:=T.1;omega) (by omega),T.2 i g]⟩;have lF:AX 8 0 (F.c h.a)=some (.agg #[.string nm,p,r,vv,vt,y,vo,iv s.c]):=IY w7 rfl;have lT:AX 3 0 (F.c H5.a)=some (.agg #[K,O,M]):=by rw[w8 _ (by omega) (by omega)];exact s3
 have gCF:F.c (h.a+1+1)=.row [iv size,vc] 32 false false:=by rw[w8 _ (by omega) (by omega),xE.2 _ (by omega)];exact gC
 have l0:AI 0 (F.c (h.a+1+1))=some (iv size):=by rw[gCF];rfl
 have l1:AI 1 (F.c (h.a+1+1))=some vc:=by rw[gCF];rfl
 obtain⟨W,G1r,hk6,qc1,qs4,_,xGr⟩:=vF (n:=n) (h:=F.f (max h.b F.a)) (AL.b pc xhF.1 fun i _ g=>xhF.2 i g) hSc (MJ _) (by omega) (by omega);rw[BK]at qc1;obtain⟨d,hG1,y3,g5,nG1,gG1⟩:∃d,G1r.f h.b=d/\d.b=h.b/\Ex F d/\d.a=G1r.a/\∀i,d.c i=G1r.c i:=⟨_,rfl,rfl,xGr.d.f,rfl,fun _=>rfl⟩;have g6:d.f h.b=d:=DI y3;have hbCp:CL prog 32 [(0,iv size),(1,W)]=some (.agg #[iv size,W]):=by
  obtain⟨_,_,_,rfl⟩:=id qs4;exact Ok
 have nFG:=g5.1;have lQ:AI 2 (d.c h.a)=some r:=by rw[g5.2 _ (by omega),w7];rfl
 have lenQ:=fun(h':AA)=>AL.c z7 ci (h':=h');have mkQ:=R0 (P:=prog) (h:=d) (t:=79) (e:=160) (z:=Z0) eo N8 mP dM rfl rfl (by decide) (by decide) (n:=s.b.length) (by omega);rw[UX,iP]at mkQ;obtain⟨N1,hN1,gQ,gS,gM,nN,fN,xN⟩:∃N1,((d.d (.row (List.replicate s.b.length (Z0)) 160 false false)).d (.row [qS d.a s.b.length s.b.length,Z0] 185 false false)).d (.row (MI nm p r vv vt y vo s.c K O M size W (Z0) .nilIface (d.a+1)) 152 false false)=N1/\N1.c d.a=.row (List.replicate s.b.length (Z0)) 160 false false/\N1.c (d.a+1)=.row [qS d.a s.b.length s.b.length,Z0] 185 false false/\N1.c (d.a+1+1)=.row (MI nm p r vv vt y vo s.c K O M size W (Z0) .nilIface (d.a+1)) 152 false false/\N1.a=d.a+3/\N1.b=h.b/\Ex d N1:=by
  refine⟨_,rfl,?_,?_,BJ (h:=(d.d (.row (List.replicate s.b.length (Z0)) 160 false false)).d (.row [qS d.a s.b.length s.b.length,Z0] 185 false false)),rfl,y3,(Ex.c d).b.b.b⟩
  .rw[AV (by show d.a<d.a+1+1;omega)];exact JG
  .rw[AV (by show d.a+1<d.a+1+1;omega)];exact BJ (h:=d.d (.row (List.replicate s.b.length (Z0)) 160 false false))
 have hN1f:N1.f h.b=N1:=DI fN;have cSt:=C9 [qS d.a s.b.length s.b.length,Z0];have oSt:([qS d.a s.b.length s.b.length,Z0]:List Value).all one=true:=rfl;have cMc:(Value.agg ((MI nm p r vv vt y vo s.c K O M size W (Z0) .nilIface (d.a+1))).toArray).cells.toList=(MI nm p r vv vt y vo s.c K O M size W (Z0) .nilIface (d.a+1)):=rfl;have oMc:((MI nm p r vv vt y vo s.c K O M size W (Z0) .nilIface (d.a+1))).all one=true:=Xh q1.a z7.a (AL.a p3) (AL.a p4) z8.a (AL.a p6) (AL.a w1) (AL.a w2) (AL.a w3) (AL.a qc1) rfl rfl;have b152:=Wg (nm:=nm) (a1:=p) (a2:=r) (a3:=vv) (a4:=vt) (a5:=y) (a6:=vo) (b1:=K) (b2:=O) (b3:=M) (c:=W) (m:=s.c) (size:=size) (S:=d.a+1);have hhT:(h.a<F.a)=True:=by simp;omega
 have h2T:(h.a+1+1<F.a)=True:=by simp;omega
 have h5T:(H5.a<F.a)=True:=by simp;omega
 simp only[eE,seval,h5];refine WK.a (ops:=He) VM ?_;refine BV.a ?_;refine AG f 0 (some 69) (.load 27 (.tmp 3)) none ?_;simp only[rG,seval,AB,AC,A7,h0,h5,hhT,C7,lF];refine AG f 1 (some 70) (.load 30 (.tmp 9)) none ?_;simp only[rG,seval,AB,AC,A7,h0,h5,h5T,FU,lT];refine AG f 2 (some 71) (.fieldAddr 32 (.tmp 5) 0) none ?_;simp only[rG,seval,AB,AD,AC,h0,h5,IW];refine AG f 3 (some 72) (.load 3 (.tmp 71)) none ?_;simp only[rG,seval,AB,AC,A7,h0,h5,h2T,AM,l0];refine AG f 4 (some 73) (.fieldAddr 32 (.tmp 5) 1) none ?_;simp only[rG,seval,AB,AD,AC,ab,ab,h0,h5,JK];refine AG f 5 (some 74) (.load 25 (.tmp 73)) none ?_;simp only[rG,seval,AB,AC,A7,h0,h5,h2T,BH,l1];refine AG f 6 (some 75) (.call {callee:=.value (.func 109),args:=#[.tmp 74],argTypes:=#[25]}) none ?_;simp only[rG,seval,AB,AC,BL,h0,hk6,hG1];refine AG f 7 (some 76) (.build 32 #[(0,.tmp 72),(1,.tmp 75)]) none ?_;simp only[rG,seval,AB,AD,AC,dp,dz,g6,y3,hbCp];refine AG f 8 (some 77) (.fieldAddr 27 (.tmp 3) 2) none ?_;simp only[rG,seval,AB,AD,AC,ab,ab,g6,y3,DY];refine AG f 9 (some 78) (.load 23 (.tmp 77)) none ?_;simp only[rG,seval,AB,AC,A7,hhT,g6,y3,DZ,lQ];refine AG f 10 (some 79) (.call {callee:=.builtin .len,args:=#[.tmp 78],argTypes:=#[23]}) none ?_;simp only[rG,seval,AB,AD,AC,BL,y3,g6,lenQ];refine⟨by obtain⟨_,_,_,rfl⟩:=id qs2;rfl,?_⟩;have D:=aQ @DB (aQ @BS (aQ @D7 (aQ @C0 (aQ @BI (aQ @BK (aQ @CZ (aQ @CM (aQ @EK (aQ @BU (aQ @CE (aQ @D_ (aQ @EJ (aQ @h0 (aQ @h5 (aQ @y3 (aQ @g6 (aQ @mkQ (aQ @Uq (aQ @cSt (aQ @oSt (aQ @Ia (aQ @b152 (aQ @cMc (aQ @oMc (aQ @TV (aQ @hN1 (aQ @hN1f @fN)))))))))))))))))))))))))));refine AG f 11 (some 80) (.makeSlice 79 (.tmp 79) (.tmp 79)) none ?_;simp only[rG,seval,AB,AC,D];refine AG f 12 (some 81) (.build 185 #[(0,.tmp 80)]) none ?_;simp only[rG,seval,AB,AD,AC,dp,dz,D];refine AG f 13 (some 82) (.box 185 (.tmp 81)) none ?_;simp only[rG,seval,AB,AC,KY,D];refine AG f 14 (some 83) (.build 152 #[(0,.tmp 69),(1,.tmp 70),(2,.tmp 76),(5,.tmp 82)]) none ?_;simp only[rG,seval,AB,AD,AC,dp,dz,D];refine AG f 15 (some 84) (.box 152 (.tmp 83)) none ?_;simp only[rG,seval,AB,AC,KY,D];refine AG f 16 (some 11) (.assign (.tmp 84)) none ?_;simp only[rG,seval,AB,AD,AC,D];refine BV.b (i:=17) (by kernel_rfl) ?_;clear D
 -- the variables
 have nGN:=xN.1;have aEN:∀i,i<E.a->i≠h.a->N1.c i=E.c i:=fun i g hne=>by rw[xN.2 i (by omega),g5.2 i (by omega),w8 i g hne]
 have lB0:AI 0 (N1.c H5.a)=some K:=by rw[aEN _ (by omega) (by omega)];exact u_ s3
 have PT:=fun(h':AA)=>AL.c w1 bn (h':=h');simp only[eE,seval,IM,IJ,lB0,PT];refine WK.b (fun i I=>I.T.a 3=qP h.a 0/\I.T.a 9=qP H5.a 0/\I.T.a 11=qP (d.a+1+1) 0/\I.T.a 86=K/\I.T.a 87=iv ((CD nm s size C).2.V.length:Int)/\I.T.a 88=iv (i:Int)/\i<=(CD nm s size C).2.V.length/\d.a+3<=I.h.a/\(∀j,j<d.a+3->j≠d.a+1->I.h.c j=N1.c j)/\I.h.b=h.b/\∃lv,I.h.c (d.a+1)=.row [qS d.a s.b.length s.b.length,lv] 185 false false/\JM 3 I.h (d.a+3) lv i (ints (((CD nm s size C).2.V.take i).map (·.1)))) (CD nm s size C).2.V.length (by omega) ?_ ?_;.refine⟨?_,?_,?_,?_,?_,?_,bg _,by show d.a+3<=N1.a;omega,fun _ _ _=>rfl,fN,Z0,gS,.inl ⟨rfl,rfl,rfl⟩⟩<;>simp only[eE,seval]<;>rfl
 rintro i⟨T1,o⟩g⟨t3,t9,g7,w9,u9,v1,hik,nH,oH,fH,lv,hgS,hgr⟩;simp only at t3 t9 g7 w9 u9 v1 nH oH fH hgS hgr;have J:o.f h.b=o:=DI fH;have hgM:o.c (d.a+1+1)=.row (MI nm p r vv vt y vo s.c K O M size W (Z0) .nilIface (d.a+1)) 152 false false:=by rw[oH _ (by omega) (by omega)];exact gM
 have aEH:∀i,i<E.a->i≠h.a->o.c i=E.c i:=by grind
 rcases ar i (CD nm s size C).2.V.length with Z|hge
 .have c1:decide ((i:Int)<((CD nm s size C).2.V.length:Int))=true:=by grind
  obtain⟨x,hx⟩:∃x,(CD nm s size C).2.V[i]?=some x:=⟨_,aa Z⟩;have hti:((CD nm s size C).2.V.take (i+1)).map (·.1)=((CD nm s size C).2.V.take i).map (·.1)++[x.1]:=by rw[cY,hx,fw];rfl
  obtain⟨iv1,pv,ea,v2,el⟩:=ZJ (AL.b (h':=o) w1 (by omega) fun i hl g=>aEH i g (by omega)) hx;obtain⟨u,stv,gv,nA1,fA1,u1⟩:=W4 (H:=o) (a:=x.1) (b:=x.2.1) (c:=x.2.2) (by omega);have g8:u.b=h.b:=by omega
  have v3:u.f h.b=u:=DI g8;have m15:AI 15 (u.c (d.a+1+1))=some (qP (d.a+1) 0):=by rw[u1.2 _ (by omega),hgM];rfl
  have sg:u.c (d.a+1)=.row [qS d.a s.b.length s.b.length,lv] 185 false false:=by rw[u1.2 _ (by omega)];exact hgS
  have s1':AI 1 (u.c (d.a+1))=some lv:=by rw[sg];rfl
  have v0:AI 0 (u.c o.a)=some (iv x.1):=by rw[gv];rfl
  have hMT:(d.a+1+1<u.a)=True:=by simp;omega
  have hST:(d.a+1<u.a)=True:=by simp;omega
  have hVT:(o.a<u.a)=True:=by simp;omega
  have w1':IntKind.i64.wrap ((i:Int)+1)=((i+1:Nat):Int):=BR;simp only[eE,seval,↓eP,w9,u9,v1,c1,ea,UE,el,VB,VF,YV,stv];rcases hgr with⟨rfl,hi0,hcs⟩|⟨y5,rfl,hg1,hg2,hg3⟩
  .obtain⟨lv',H3r,ap,gr3,f3,n3,o3⟩:=T9 (P:=prog) (t:=25) (e:=3) (h:=u.f (max h.b u.a)) (lo:=u.a) (new:=[iv x.1]) au B_ IZ GD rfl (by decide) (by decide) (.inl ⟨rfl,rfl,rfl⟩) rfl rfl rfl rfl (af _) (by show max h.b u.a<=u.a;omega) (by omega);rw[BK]at ap n3;obtain⟨q,hH3,v4,nH3,gH3⟩:∃q,H3r.f h.b=q/\q.b=h.b/\q.a=H3r.a/\∀i,q.c i=H3r.c i:=⟨_,rfl,rfl,rfl,fun _=>rfl⟩;have x8:q.f h.b=q:=DI v4;have v5:∀i,i<u.a->q.c i=u.c i:=fun i g=>by rw[gH3,o3 i g (.inl g)];rfl
   obtain⟨clv,olv⟩:=gr3.c;have st:=EO (off:=1) FW clv olv (h:=q) (id:=d.a+1) (by rw[v5 _ (by omega)];exact sg) (by simp) (by omega);refine WK.a (fs:=wE) (by kernel_rfl) ?_;unfold wE;iterate 18 refine DG f ?_;simp only[rG,seval,AB,AD,AC,A7,BL,target,BY,DB,g7,g8,v3,vE,yA,m15,hMT,hST,hVT,aZ,BH,s1',wP,AM,v0,KE,ap,hH3,x8,v4,st]
   refine DF ?_;have hH4:(q.e (d.a+1) (.row (([qS d.a s.b.length s.b.length,Z0]:List Value).set 1 lv') 185 false false)).f h.b=q.e (d.a+1) (.row (([qS d.a s.b.length s.b.length,Z0]:List Value).set 1 lv') 185 false false):=DI (by show q.b=_;omega);simp only[eE,seval,t3,t9,g7,w9,u9,v1,w1'];exact⟨Z,by omega,by show d.a+3<=q.a;omega,fun j hj y6=>by rw[AP (by omega) (bc y6),v5 _ (by omega),u1.2 _ (by omega),oH j hj y6],by show q.b=_;omega,lv',BE rfl (by omega),by
    have e9:ints (((CD nm s size C).2.V.take (i+1)).map (·.1))=[]++[iv x.1]:=by
     rw[hti,show ints (((CD nm s size C).2.V.take i).map (·.1)++[x.1])=ints (((CD nm s size C).2.V.take i).map (·.1))++ints [x.1]from fw,hcs];rfl
    have g9:JM 3 q (d.a+3) lv' (i+1) (ints (((CD nm s size C).2.V.take (i+1)).map (·.1))):=by
     rw[e9,hi0];rcases gr3 with⟨_,h8,_⟩|⟨id,g1,g2,g3,g4⟩
     .omega
     .exact .inr ⟨id,g1,by omega,by omega,by rw[gH3];exact g4⟩
    exact g9.a (af _) fun j hj y6 hj3=>AP (by omega) (by omega)⟩
  .have hgl:(ints (((CD nm s size C).2.V.take i).map (·.1))).length=i:=by rw[ints,bw,bw,fu];omega
   have sM:(u.d (.row [iv x.1] 3 false false)).c (d.a+1+1)=.row (MI nm p r vv vt y vo s.c K O M size W (Z0) .nilIface (d.a+1)) 152 false false:=by rw[AV,u1.2 _ (by omega)];exact hgM
   have sG:(u.d (.row [iv x.1] 3 false false)).c y5=.row (ints (((CD nm s size C).2.V.take i).map (·.1))) 3 true false:=by rw[AV,u1.2 _ (by omega)];exact hg3
   obtain⟨h1,ap,n3,f3,gn3,o3⟩:=Xb (a:=x.1) (n:=i) sM (by show d.a+1+1<u.a+1;omega) sG (by show y5<u.a+1;omega) (BJ (h:=u)) (by omega) (by omega) hgl (MJ _) (by show u.b<=y5;omega) (by omega)
   refine WK.a (ops:=pE) VS ?_
   refine BV.a ?_
   have D:=aQ @DB (aQ @BS (aQ @D7 (aQ @C0 (aQ @BI (aQ @BK (aQ @CZ (aQ @CM (aQ @EK (aQ @BU (aQ @CE (aQ @D_ (aQ @EJ (aQ @g7 (aQ @g8 (aQ @v3 (aQ @vE (aQ @yA (aQ @m15 (aQ @hMT (aQ @hST (aQ @hVT (aQ @aZ (aQ @BH (aQ @s1' (aQ @wP (aQ @AM (aQ @v0 @KE)))))))))))))))))))))))))))
   refine AG f 0 (some 92) (.move (.tmp 11)) none ?_
   simp only[rG,seval,AB,AD,AC,ab,D]
   refine AG f 1 (some 93) (.nilCheck (.tmp 92)) none ?_
   simp only[rG,seval,AB,AD,AC,D]
   refine AG f 2 (some 94) (.fieldAddr 152 (.tmp 93) 5) none ?_
   simp only[rG,seval,AB,AD,AC,ab,ab,D]
   refine AG f 3 (some 95) (.load 150 (.tmp 94)) none ?_
   simp only[rG,seval,AB,AC,A7,D]
   refine AG f 4 (some 96) (.move (.tmp 11)) none ?_
   simp only[rG,seval,AB,AD,AC,D]
   refine AG f 5 (some 97) (.nilCheck (.tmp 96)) none ?_
   simp only[rG,seval,AB,AD,AC,D]
   refine AG f 6 (some 98) (.fieldAddr 152 (.tmp 97) 5) none ?_
   simp only[rG,seval,AB,AD,AC,ab,ab,D]
   refine AG f 7 (some 99) (.load 150 (.tmp 98)) none ?_
   simp only[rG,seval,AB,AC,A7,D]
   refine AG f 8 (some 100) (.nilCheck (.tmp 99)) none ?_
   simp only[rG,seval,AB,AD,AC,D]
   refine AG f 9 (some 101) (.fieldAddr 185 (.tmp 100) 1) none ?_
   simp only[rG,seval,AB,AD,AC,ab,ab,D]
   refine AG f 10 (some 102) (.load 25 (.tmp 101)) none ?_
   simp only[rG,seval,AB,AC,A7,D]
   refine AG f 11 (some 103) (.fieldAddr 142 (.tmp 13) 0) none ?_
   simp only[rG,seval,AB,AD,AC,D]
   refine AG f 12 (some 104) (.load 3 (.tmp 103)) none ?_
   simp only[rG,seval,AB,AC,A7,D]
   refine AG f 13 (some 105) (.buildSlice 25 1 #[(0,.tmp 104)]) none ?_
   simp only[rG,seval,AB,AC,dp,dz,D]
   clear D
   refine BV.e 14 (some 106) (Op.call { callee:=Callee.builtin Builtin.append,args:=#[Operand.tmp 102,Operand.tmp 105],argTypes:=#[25,25] }) none (L:=[.tmp 94]) (ids:=[d.a+1+1]) (v:=qS (u.a+1) (i+1) AT) (h1:=h1) (by kernel_rfl) (by rfl) Ww Wy (dJ rfl) rfl ?_ ?_ ?_ ?_ ?_
   .simp only[List.filterMap_cons,List.filterMap_nil,WA,Tr.b,aj,Nat.reduceEqDiff,↓reduceIte]
    rfl
   .intro id v2
    rw[List.mem_singleton] at v2
    subst v2
    exact⟨by show d.a+1+1<u.a+1;omega,by rw[sM];rfl⟩
   .simp only[A_,RW,evs,WA,dp,dz,Tr.b,aj,Nat.reduceEqDiff,↓reduceIte]
    exact WY (BJ (h:=u)) (by show y5<max u.b u.a;omega)
   .simp only[A_,RW,evs,WA,dp,dz,Tr.b,aj,Nat.reduceEqDiff,↓reduceIte]
    exact ap
   generalize MM (u.d (.row [iv x.1] 3 false false)) [d.a+1+1] h1=q at *
   have n3':q.a=u.a+2:=n3
   have v4:q.b=h.b:=by rw[f3];exact g8
   have x8:q.f h.b=q:=DI v4
   have v5:∀ i,i<u.a->i≠y5->q.c i=u.c i:=fun i g h9=>by rw[o3 i (by show i<u.a+1;omega) h9,AV g]
   have gn3':q.c (u.a+1)=.row (ints (((CD nm s size C).2.V.take i).map (·.1))++[iv x.1]) 3 true false:=gn3
   have st:=EO (off:=1) FW (v:=qS (u.a+1) (i+1) AT) rfl rfl (h:=q) (id:=d.a+1) (by rw[v5 _ (by omega) (by omega)];exact sg) (by simp) (by omega)
   have D:=aQ @DB (aQ @BS (aQ @D7 (aQ @C0 (aQ @BI (aQ @BK (aQ @CZ (aQ @CM (aQ @EK (aQ @BU (aQ @CE (aQ @D_ (aQ @EJ (aQ @g7 (aQ @g8 (aQ @v3 (aQ @aZ (aQ @x8 (aQ @v4 @st))))))))))))))))))
   refine AG f 15 (some 107) (.nilCheck (.tmp 95)) none ?_
   simp only[rG,seval,AB,AD,AC,D]
   refine AG f 16 (some 108) (.fieldAddr 185 (.tmp 107) 1) none ?_
   simp only[rG,seval,AB,AD,AC,ab,ab,D]
   refine AG f 17 (none) (.store 25 (.tmp 108) (.tmp 106)) none ?_
   simp only[rG,seval,AB,AC,target,BY,D]
   refine BV.b (i:=18) (by kernel_rfl) ?_
   clear D
   have hH4:(q.e (d.a+1) (.row (([qS d.a s.b.length s.b.length,qS y5 i AT]:List Value).set 1 (qS (u.a+1) (i+1) AT)) 185 false false)).f h.b=q.e (d.a+1) (.row (([qS d.a s.b.length s.b.length,qS y5 i AT]:List Value).set 1 (qS (u.a+1) (i+1) AT)) 185 false false):=DI (by show q.b=_;omega)
   simp only[eE,seval,t3,t9,g7,w9,u9,v1,w1']
   exact⟨Z,by omega,by show d.a+3<=q.a;omega,fun j hj y6=>by rw[AP (by omega) (bc y6),v5 _ (by omega) (by omega),u1.2 _ (by omega),oH j hj y6],by show q.b=_;omega,_,BE rfl (by omega),by
    have g9:JM 3 q (d.a+3) (qS (u.a+1) (i+1) AT) (i+1) (ints (((CD nm s size C).2.V.take (i+1)).map (·.1))):=by
     rw[hti,show ints (((CD nm s size C).2.V.take i).map (·.1)++[x.1])=ints (((CD nm s size C).2.V.take i).map (·.1))++[iv x.1] from fw]
     exact .inr ⟨_,rfl,by omega,by omega,gn3'⟩
    exact g9.a (af _) fun j hj y6 hj3=>AP (by omega) (by omega)⟩
 -- the maker
 have hiV:i=(CD nm s size C).2.V.length:=by omega
 have c1:decide ((i:Int)<((CD nm s size C).2.V.length:Int))=false:=by grind
 simp only[eE,seval,↓eP,u9,v1,c1]
 have lP2:AX 8 0 (o.c h.a)=some (.agg #[.string nm,p,r,vv,vt,y,vo,iv s.c]):=IY (by rw[oH _ (by omega) (by omega),xN.2 _ (by omega),g5.2 _ (by omega)];exact w7) rfl
 have v6:o.c h.a=.row [.string nm,p,r,vv,vt,y,vo,iv s.c] 27 false false:=by rw[oH _ (by omega) (by omega),xN.2 _ (by omega),g5.2 _ (by omega)];exact w7
 have lT2':AX 3 0 (o.c H5.a)=some (.agg #[K,O,M]):=by rw[aEH _ (by omega) (by omega)];exact s3
 have lC2:AX 2 11 (o.c (d.a+1+1))=some (.agg #[iv size,W]):=by rw[hgM];rfl
 have l52:AI 5 (o.c h.a)=some y:=by rw[v6];rfl
 have lenU:=fun (h':AA)=>AL.c z8 au (h':=h')
 have mkR:=R0 (P:=prog) (h:=o) (t:=147) (e:=149) (z:=.nilIface) ik MO qL RG rfl rfl (by decide) (by decide) (n:=s.d.length) (by omega)
 rw[R5,iP] at mkR
 obtain⟨N2,hN2,gR2,gK2,nN2,fN2,u3⟩:∃ N2,(o.d (.row (List.replicate s.d.length .nilIface) 149 false false)).d (.row (TS nm p r vv vt y vo s.c K O M size W (qS o.a s.d.length s.d.length)) 188 false false)=N2/\N2.c o.a=.row (List.replicate s.d.length .nilIface) 149 false false/\N2.c (o.a+1)=.row (TS nm p r vv vt y vo s.c K O M size W (qS o.a s.d.length s.d.length)) 188 false false/\N2.a=o.a+2/\N2.b=h.b/\Ex o N2:=
  ⟨_,rfl,JG,MG,rfl,fH,(Ex.c o).b.b⟩
 have hN2f:N2.f h.b=N2:=DI fN2
 have cMk:(Value.agg ((TS nm p r vv vt y vo s.c K O M size W (qS o.a s.d.length s.d.length))).toArray).cells.toList=(TS nm p r vv vt y vo s.c K O M size W (qS o.a s.d.length s.d.length)):=rfl
 have oMk:((TS nm p r vv vt y vo s.c K O M size W (qS o.a s.d.length s.d.length))).all one=true:=Xj q1.a z7.a (AL.a p3) (AL.a p4) z8.a (AL.a p6) (AL.a w1) (AL.a w2) (AL.a w3) (AL.a qc1) rfl
 have b188:=Ve (nm:=nm) (a1:=p) (a2:=r) (a3:=vv) (a4:=vt) (a5:=y) (a6:=vo) (b1:=K) (b2:=O) (b3:=M) (c:=W) (m:=s.c) (size:=size) (a:=some ⟨o.a,0,none⟩) (n:=s.d.length) (k:=s.d.length)
 have hhT2:(h.a<o.a)=True:=by simp;omega
 have h5T2:(H5.a<o.a)=True:=by simp;omega
 have hMT2:(d.a+1+1<o.a)=True:=by simp;omega
 refine WK.a (ops:=Nq) Wi ?_
 refine BV.a ?_
 refine AG f 0 (some 110) (.load 27 (.tmp 3)) none ?_
 simp only[rG,seval,AB,AC,A7,t3,fH,J,hhT2,C7,lP2]
 refine AG f 1 (some 111) (.load 30 (.tmp 9)) none ?_
 simp only[rG,seval,AB,AC,A7,t9,fH,J,h5T2,FU,lT2']
 refine AG f 2 (some 112) (.move (.tmp 11)) none ?_
 simp only[rG,seval,AB,AD,AC,g7,fH,J]
 refine AG f 3 (some 113) (.nilCheck (.tmp 112)) none ?_
 simp only[rG,seval,AB,AD,AC,fH,J]
 refine AG f 4 (some 114) (.fieldAddr 152 (.tmp 113) 2) none ?_
 simp only[rG,seval,AB,AD,AC,ab,ab,fH,J,V8]
 refine AG f 5 (some 115) (.load 32 (.tmp 114)) none ?_
 simp only[rG,seval,AB,AC,A7,fH,J,hMT2,G7,lC2]
 refine AG f 6 (some 116) (.fieldAddr 27 (.tmp 3) 5) none ?_
 simp only[rG,seval,AB,AD,AC,ab,ab,t3,fH,J,GF]
 refine AG f 7 (some 117) (.load 25 (.tmp 116)) none ?_
 simp only[rG,seval,AB,AC,A7,fH,J,hhT2,BH,l52]
 refine AG f 8 (some 118) (.call { callee:=.builtin .len,args:=#[.tmp 117],argTypes:=#[25] }) none ?_
 simp only[rG,seval,AB,AD,AC,BL,fH,J,lenU]
 refine⟨by obtain⟨_,_,_,rfl⟩:=id qs3;rfl,?_⟩
 have D:=aQ @DB (aQ @BS (aQ @D7 (aQ @C0 (aQ @BI (aQ @BK (aQ @CZ (aQ @CM (aQ @EK (aQ @BU (aQ @CE (aQ @D_ (aQ @EJ (aQ @fH (aQ @J (aQ @mkR (aQ @b188 (aQ @cMk (aQ @oMk (aQ @H8 (aQ @hN2 (aQ @hN2f @fN2)))))))))))))))))))))
 refine AG f 9 (some 119) (.makeSlice 147 (.tmp 118) (.tmp 118)) none ?_
 simp only[rG,seval,AB,AC,D]
 refine AG f 10 (some 120) (.build 188 #[(0,.tmp 110),(1,.tmp 111),(2,.tmp 115),(3,.tmp 119)]) none ?_
 simp only[rG,seval,AB,AD,AC,dp,dz,D]
 refine AG f 11 (some 121) (.box 188 (.tmp 120)) none ?_
 simp only[rG,seval,AB,AC,KY,D]
 refine AG f 12 (some 14) (.assign (.tmp 121)) none ?_
 simp only[rG,seval,AB,AD,AC,D]
 refine BV.b (i:=13) (by kernel_rfl) ?_
 clear D
 -- what the maker PV
 have aF1:∀ i,E.a<=i->i<h4.a->N1.c i=h4.c i:=fun i h8 h9=>by
  have n12:=Y.1
  have n23:=z9.1
  rw[xN.2 i (by omega),g5.2 i (by omega),oF i (by omega),z9.2 i (by omega),Y.2 i (by omega),gF1]
 have aF3:∀ i,F2.a<=i->i<X.a->N1.c i=X.c i:=fun i h8 h9=>by
  have n12:=U.1
  have n23:=Y.1
  rw[xN.2 i (by omega),g5.2 i (by omega),oF i (by omega)]
 have nF13:h4.a<=X.a/\E.a<=F2.a:=by
  have:=U.1
  have:=Y.1
  have:=z9.1
  omega
 have mkM:∀ H':AA,N2.a<=H'.a->(∀ i,i<N2.a->i≠o.a->i≠d.a+1+1->H'.c i=N2.c i)->(∃ cs,H'.c o.a=.row cs 149 false false/\cs.length=s.d.length/\cs.all one=true)->K_ H' (o.a+1) s.a (CD nm s size C).2.V.length (CD nm s size C).2.a s.d.length:=fun H' h6 h7 h8=>by
  obtain⟨cs,k1,k2,k3⟩:=h8
  have hb:∀ i,i<o.a->i≠d.a+1+1->H'.c i=o.c i:=fun i h9 h10=>by rw[h7 i (by omega) (by omega) h10,u3.2 i h9]
  have gK':H'.c (o.a+1)=.row (TS nm p r vv vt y vo s.c K O M size W (qS o.a s.d.length s.d.length)) 188 false false:=by rw[h7 _ (by omega) (by omega) (by omega)];exact gK2
  have hb1:∀ i,i<E.a->i≠h.a->H'.c i=E.c i:=by grind
  have hbF:∀ i,E.a<=i->i<h4.a->H'.c i=h4.c i:=fun i h9 h10=>by rw[hb i (by omega) (by omega),oH i (by omega) (by omega),aF1 i h9 h10]
  exact⟨by omega,⟨p,by rw[gK'];rfl,(JZ.b (AL.b (h':=H') q1 (by omega) hbF)).1⟩,⟨K,(CD nm s size C).2.V,by rw[gK'];rfl,AL.f (AL.b (h':=H') w1 (by omega) fun i hl g=>hb1 i g (by omega)) (bg _)⟩,⟨M,by rw[gK'];rfl,AK.X (AK.U (h':=H') w3 (by omega) fun i hl g=>hb1 i g (by omega)) (bg _)⟩,⟨o.a,cs,by rw[gK'];rfl,by omega,k1,k2,k3⟩⟩
 -- the rules
 have hOld:∀ i,i<h.a->o.c i=h.c i:=fun i g=>by rw[oH i (by omega) (by omega),xN.2 i (by omega),g5.2 i (by omega),xhF.2 i g]
 have l52N:AI 5 (N2.c h.a)=some y:=by rw[u3.2 _ (by omega)];exact l52
 simp only[eE,seval,t3,ab,GF,BH,l52N,lenU]
 refine WK.b (fun j I=>I.T.a 3=qP h.a 0/\I.T.a 11=qP (d.a+1+1) 0/\I.T.a 14=qP (o.a+1) 0/\I.T.a 123=y/\I.T.a 124=iv (s.d.length:Int)/\I.T.a 125=iv (j:Int)/\j<=s.d.length/\N2.a<=I.h.a/\(∀ i,i<N2.a->i≠o.a->I.h.c i=N2.c i)/\I.h.b=h.b/\∃ cs,I.h.c o.a=.row cs 149 false false/\cs.length=s.d.length/\cs.all one=true) s.d.length (by omega) ?_ ?_
 .refine⟨?_,?_,?_,?_,?_,?_,bg _,af _,fun _ _ _=>rfl,fN2,_,gR2,by simp,vT rfl _⟩ <;> simp only[eE,seval,t3,g7] <;> rfl
 rintro j ⟨T2,H2⟩ hj ⟨u3',u11,u14,v7,y7,y8,hjk,nH2,h2,fH2,cs,hgR,hcl,hco⟩
 simp only at u3' u11 u14 v7 y7 y8 nH2 h2 fH2 hgR
 have hH2f:H2.f h.b=H2:=DI fH2
 have M2:=mkM H2 nH2 (fun i a b _=>h2 i a b) ⟨cs,hgR,hcl,hco⟩
 rcases ar j s.d.length with Z | hge2
 .have c1:decide ((j:Int)<(s.d.length:Int))=true:=by grind
  obtain⟨e,he⟩:∃ e,s.d[j]?=some e:=⟨_,aa Z⟩
  obtain⟨he0,x,hx,hk⟩:=z6.g.e e (aw he)
  obtain⟨iu,pu,ea,v2,el⟩:=AK.V (h:=H2) (AK.U (h':=H2) (l:=s.d) z8 (by omega) fun i hl g=>by rw[h2 i (by omega) (by omega),u3.2 i (by omega),oH i (by omega) (by omega),aF3 i hl g]) he
  obtain⟨v,J3r,hk7,y1,y2,_,y4⟩:=Ra (n:=n) (h:=H2.f (max h.b H2.a)) z6 (by omega) hx (by omega) (M2.a (Ex.c H2).f) (by rw[BI,BK];omega) (by omega)
  rw[show ((e.toNat:Nat):Int)=e by omega] at hk7
  obtain⟨J3,hJ3,fJ3,xJ3⟩:∃ J3,J3r.f h.b=J3/\J3.b=h.b/\Ex H2 J3:=⟨_,rfl,rfl,y4.d.f⟩
  have nJ3:=xJ3.1
  have hJ3f:J3.f h.b=J3:=DI fJ3
  have hix:=WZ (P:=prog) (t:=147) (e:=149) (id:=o.a) (n:=s.d.length) (c:=s.d.length) (i:=j) ik MO Z
  have st:=EO (off:=j*1) MO y1 y2 (h:=J3) (id:=o.a) (by rw[xJ3.2 _ (by omega)];exact hgR) (by omega) (by omega)
  have lK:AI 13 (H2.c (o.a+1))=some (qS o.a s.d.length s.d.length):=by rw[h2 _ (by omega) (by omega),gK2];rfl
  have hKT:(o.a+1<H2.a)=True:=by simp;omega
  have w2':IntKind.i64.wrap ((j:Int)+1)=((j+1:Nat):Int):=BR
  simp only[eE,seval,↓eP,v7,y7,y8,c1,ea,AM,el]
  refine WK.a (fs:=zY) (by kernel_rfl) ?_
  unfold zY
  iterate 10
   refine DG f ?_
   simp only[rG,seval,AB,AD,AC,A7,BL,target,BY,DB,u14,fH2,hH2f,Hb,kM,lK,hKT,hk7,hJ3,hJ3f,fJ3,hix,st]
  refine DF ?_
  have hJ4:(J3.e o.a (.row (cs.set (j*1) v) 149 false false)).f h.b=J3.e o.a (.row (cs.set (j*1) v) 149 false false):=DI (by show J3.b=_;omega)
  simp only[eE,seval,u3',u11,u14,v7,y7,y8,w2']
  exact⟨Z,by omega,by show N2.a<=J3.a;omega,fun i g u4=>by rw[AP (by omega) (bc u4),xJ3.2 _ (by omega),h2 i g u4],by show J3.b=_;omega,_,BE rfl (by omega),by rw[bO];exact hcl,Ua hco y2⟩
 -- the events
 have c2':decide ((j:Int)<(s.d.length:Int))=false:=by grind
 have l62:AI 6 (H2.c h.a)=some vo:=by rw[h2 _ (by omega) (by omega),u3.2 _ (by omega),v6];rfl
 have SA:=fun (h':AA)=>AK.Z p6 (h':=h')
 have gM2:H2.c (d.a+1+1)=.row (MI nm p r vv vt y vo s.c K O M size W (Z0) .nilIface (d.a+1)) 152 false false:=by rw[h2 _ (by omega) (by omega),u3.2 _ (by omega)];exact hgM
 simp only[eE,seval,↓eP,u3',y7,y8,c2',ab,I_,BH,l62,SA]
 refine WK.b (fun k I=>I.T.a 3=qP h.a 0/\I.T.a 11=qP (d.a+1+1) 0/\I.T.a 14=qP (o.a+1) 0/\I.T.a 141=vo/\I.T.a 142=iv (s.h.length:Int)/\I.T.a 143=iv (k:Int)/\k<=s.h.length/\H2.a<=I.h.a/\(∀ i,i<H2.a->i≠d.a+1+1->I.h.c i=H2.c i)/\I.h.b=h.b/\∃ lw ds,I.h.c (d.a+1+1)=.row (MI nm p r vv vt y vo s.c K O M size W lw .nilIface (d.a+1)) 152 false false/\JM 149 I.h H2.a lw k ds/\ds.length=k*1/\ds.all one=true) s.h.length (by omega) ?_ ?_
 .refine⟨?_,?_,?_,?_,?_,?_,bg _,af _,fun _ _ _=>rfl,fH2,Z0,[],gM2,.inl ⟨rfl,rfl,rfl⟩,rfl,rfl⟩ <;> simp only[eE,seval,u3',u11,u14] <;> rfl
 rintro k ⟨T3,q⟩ hk ⟨x3',x11,x14,v8,y9,z0,hkk,nH3,v9,fH3,lw,ds,z1,hgr3,hdl,hdo⟩
 simp only at x3' x11 x14 v8 y9 z0 nH3 v9 fH3 z1 hgr3
 have x8:q.f h.b=q:=DI fH3
 have M3:=mkM q (by omega) (fun i a b c=>by rw[v9 i (by omega) c,h2 i a b]) ⟨cs,by rw[v9 _ (by omega) (by omega)];exact hgR,hcl,hco⟩
 have w0:∀ i,i<o.a->i≠d.a+1+1->q.c i=o.c i:=fun i g h9=>by rw[v9 i (by omega) h9,h2 i (by omega) (by omega),u3.2 i g]
 rcases ar k s.h.length with Z | hge3
 .have c1:decide ((k:Int)<(s.h.length:Int))=true:=by grind
  obtain⟨e,he⟩:∃ e,s.h[k]?=some e:=⟨_,aa Z⟩
  have heb:e=-1\/TR s e:=(z6.g.j e (aw he)).imp id And.left
  obtain⟨iu,pu,ea,v2,el⟩:=AK.V (h:=q) (AK.U (h':=q) p6 (by omega) fun i hl g=>by rw[w0 i (by omega) (by omega),hOld i g]) he
  obtain⟨v,J4r,hk8,y1,y2,_,y4⟩:=Hu (n:=n) (h:=q.f (max h.b q.a)) z6 (by omega) heb (M3.a (Ex.c q).f) (by rw[BI,BK];omega) (by omega)
  obtain⟨J4,hJ4,fJ4,x9⟩:∃ J4,J4r.f h.b=J4/\J4.b=h.b/\Ex q J4:=⟨_,rfl,rfl,y4.d.f⟩
  have nJ4:=x9.1
  have hJ4f:J4.f h.b=J4:=DI fJ4
  obtain⟨lw',J5,ap,gr5,f5',n5',o5'⟩:=T9 (new:=[v]) ik MO qL RG rfl (by decide) (by decide) (hgr3.a nJ4 fun j hj _ _=>x9.2 j hj) hdl hdo rfl (by simp[y2]) (by omega) (by omega) (by omega)
  have fJ5:J5.b=h.b:=by omega
  have hJ5f:J5.f h.b=J5:=DI fJ5
  have hbs:=Gk (H:=J4) y1
  obtain⟨clw,olw⟩:=gr5.c
  have gM5:J5.c (d.a+1+1)=.row (MI nm p r vv vt y vo s.c K O M size W lw .nilIface (d.a+1)) 152 false false:=by rw[o5' _ (by omega) (.inl (by omega)),x9.2 _ (by omega)];exact z1
  have st:=EO (off:=13) QH clw olw gM5 (by simp) (by omega)
  have l13:AI 13 (q.c (d.a+1+1))=some lw:=by rw[z1];rfl
  have hMT3:(d.a+1+1<q.a)=True:=by simp;omega
  have w3':IntKind.i64.wrap ((k:Int)+1)=((k+1:Nat):Int):=BR
  simp only[eE,seval,↓eP,v8,y9,z0,c1,ea,AM,el]
  refine WK.a (fs:=rJ) (by kernel_rfl) ?_
  unfold rJ
  iterate 13
   refine DG f ?_
   simp only[rG,seval,AB,AD,AC,A7,BL,target,BY,DB,x11,x14,fH3,x8,Vi,kM,l13,hMT3,hk8,hJ4,hJ4f,fJ4,hbs,ap,hJ5f,fJ5,st]
  refine DF ?_
  have hJ6:(J5.e (d.a+1+1) (.row ((MI nm p r vv vt y vo s.c K O M size W lw .nilIface (d.a+1)).set 13 lw') 152 false false)).f h.b=J5.e (d.a+1+1) (.row ((MI nm p r vv vt y vo s.c K O M size W lw .nilIface (d.a+1)).set 13 lw') 152 false false):=DI (by show J5.b=_;omega)
  simp only[eE,seval,x3',x11,x14,v8,y9,z0,w3']
  exact⟨Z,by omega,by show H2.a<=J5.a;omega,fun i g u4=>by rw[AP (by omega) (bc u4),o5' _ (by omega) (.inl (by omega)),x9.2 _ (by omega),v9 i g u4],by show J5.b=_;omega,lw',ds++[v],BE rfl (by omega),gr5.a (af _) fun i g u4 hi3=>AP (by omega) (by omega),by rw[ch,hdl];simp,by rw[iy,hdo];simp[y2]⟩
 -- what is told
 have c3':decide ((k:Int)<(s.h.length:Int))=false:=by grind
 have heb:s.c=-1\/TR s s.c:=z6.g.c.imp id And.left
 obtain⟨v,J4,hk8,y1,y2,fJ4,x9⟩:=Hu (n:=n) (h:=q) z6 (by omega) heb M3 (by omega) (by omega)
 have nJ4:=x9.1
 have l73:AI 7 (q.c h.a)=some (iv s.c):=by rw[w0 _ (by omega) (by omega),v6];rfl
 have gM4:J4.c (d.a+1+1)=.row (MI nm p r vv vt y vo s.c K O M size W lw .nilIface (d.a+1)) 152 false false:=by rw[x9.2 _ (by omega)];exact z1
 have st:=EO (off:=14) MO y1 y2 gM4 (by simp) (by omega)
 simp only[eE,seval,↓eP,x3',x11,x14,y9,z0,c3',ab,JV,AM,l73,hk8,Vj,st]
 have zM:∀ i,i<o.a->i≠d.a+1+1->(J4.e (d.a+1+1) (.row ((MI nm p r vv vt y vo s.c K O M size W lw .nilIface (d.a+1)).set 14 v) 152 false false)).c i=o.c i:=fun i g h9=>by rw[AP (by omega) (bc h9),x9.2 i (by omega),w0 i g h9]
 have gMz:(J4.e (d.a+1+1) (.row ((MI nm p r vv vt y vo s.c K O M size W lw .nilIface (d.a+1)).set 14 v) 152 false false)).c (d.a+1+1)=.row ((MI nm p r vv vt y vo s.c K O M size W lw .nilIface (d.a+1)).set 14 v) 152 false false:=BE rfl (by omega)
 have hlvI:AK (d.a+3) o lv ((CD nm s size C).2.V.map (·.1)):=by
  have h9:=hgr.b (w:=1) (lo':=d.a+3) (by rw[ints,bw,bw,fu];omega) (af _)
  rw[hiV,List.take_length] at h9
  unfold AK
  rw[bw]
  exact h9
 have hlvS:lv=Z0\/I5 lv ((CD nm s size C).2.V.map (·.1)).length:=by
  rcases hgr with⟨h8,_,_⟩ | ⟨id,h8,_,_,_⟩
  .exact .inl h8
  .exact .inr ⟨id,0,AT,by rw[h8,bw,<- hiV]⟩
 refine⟨by show J4.b=_;omega,⟨by show h.a<=J4.a;omega,fun i g=>by rw[zM i (by omega) (by omega),hOld i g]⟩,.inr ⟨rfl,_,rfl,⟨by omega,by show d.a+1+1<J4.a;omega⟩,⟨d.a+1,d.a,lv,by rw[gMz];rfl,⟨by omega,by show d.a+1<J4.a;omega⟩,by rw[zM _ (by omega) (by omega)];exact hgS,⟨by omega,by show d.a<J4.a;omega⟩,by rw[zM _ (by omega) (by omega),oH _ (by omega) (by omega)];exact gQ,AK.X (AK.U hlvI (by show o.a<=J4.a;omega) fun i hl g=>zM i g (by omega)),hlvS⟩,by rw[gMz];rfl,by rw[gMz];rfl⟩⟩
theorem Xm{nm:ByteArray}{s:AS}{vr vq vv vt vu vo l a:Value}{size:Int}{C:List Int}{t:FK}{lo o lc:Nat}(p:CG lo h (.agg #[.string nm,vr,vq,vv,vt,vu,vo,iv s.c]) nm s)(b:I5 vr s.a.length)(c:I5 vq s.b.length)(d:I5 vu s.d.length)(e:I5 a C.length)(f:GH o h l t)(q:F6 lc h (.agg #[iv size,a]) size C)(r:F7 s)(u:DS s<2000000)(w:C.length<2000000)(g:t.V.length<2000000/\t.G.length<2000000/\t.a.length<2000000)(x:h.c 0=EM)(i:0<h.a)(k:h.b<=h.a)(z:20000001<n):∃v m,AN n 30 [.agg #[.string nm,vr,vq,vv,vt,vu,vo,iv s.c],l,.agg #[iv size,a]] h=some (v,m)/\XA h v m (K8 nm s size C t) s.b.length (t.V.map (·.1)):=by obtain⟨n,rfl⟩:∃j,n=j+1:=⟨n-1,by omega⟩;exact GY BF (Zn (n:=n) (N:=n) p b c d e f q r u w g x i k (by omega) (by omega)) fun A B y _ f=>f.a y
end
def cL:List (Bool×Bool×List Operand):=[AO,AO,AH [.tmp 40],AO,AO,AH [.tmp 40,.tmp 43],AH [.tmp 40,.tmp 43],AH [.tmp 40,.tmp 43,.tmp 45],AH [.tmp 40,.tmp 43],AH [.tmp 40,.tmp 43],AJ]
def cT:List (Bool×Bool×List Operand):=[AO,AO,AH [.tmp 58],AO,AO,AH [.tmp 58,.tmp 61],AH [.tmp 58,.tmp 61],AH [.tmp 58,.tmp 61,.tmp 63],AH [.tmp 58,.tmp 61],AH [.tmp 58,.tmp 61],AJ]
def fV:List (Bool×Bool×List Operand):=[AO,AO,AH [.tmp 76],AO,AO,AH [.tmp 76,.tmp 79],AH [.tmp 76,.tmp 79],AH [.tmp 76,.tmp 79,.tmp 81],AH [.tmp 76,.tmp 79],AH [.tmp 76,.tmp 79],AJ]
section
variable {n N:Nat} {h:AA}
theorem Xn{la lb:Nat}{tv tw:Value}{A B:FK}(ha:GH la h tv A)(hb:GH lb h tw B)(hA:A.V.length<1099511627776/\A.G.length<1099511627776/\A.a.length<1099511627776)(hN:A.V.length+A.G.length+A.a.length+10<N):∃m,AW prog (AN n) N 116 [tv,tw] h=some (.bool (decide (A.V=B.V/\A.G=B.G/\A.a=B.a)),m)/\∀i,i<h.a->m.c i=h.c i:=by
 have t:=(EC n).2;obtain⟨u0,u1,u2,rfl,p0,p1,p2⟩:=ha;obtain⟨v0,v1,v2,rfl,q0,q1,q2⟩:=hb;refine EA (R:=fun m=>∀i,i<h.a->m.c i=h.c i) func116 rfl (by simp[f116]) ?_;have hr:f116.results.toList=[.tmp 4]:=rfl;have ca:=C9 [u0,u1,u2];have oa:[u0,u1,u2].all one=true:=by simp only[az,bd,AL.a p0,AL.a p1,AL.a p2,ao]
 have cb:=C9 [v0,v1,v2];have ob:[v0,v1,v2].all one=true:=by simp only[az,bd,AL.a q0,AL.a q1,AL.a q2,ao]
 have g0:∀(a b:BO),let A:=(h.d a).d b
   A.c h.a=a/\A.c (h.a+1)=b/\A.a=h.a+2/\A.b=h.b/\Ex h A:=fun a b=>⟨JG,MG,rfl,rfl,(Ex.c h).b.b⟩;obtain⟨gA,gB,nA,fA,xA⟩:=g0 (.row [u0,u1,u2] 30 false false) (.row [v0,v1,v2] 30 false false);simp only[eE,seval,DJ,hr,ca,oa,cb,ob,JJ];generalize(h.d (.row [u0,u1,u2] 30 false false)).d (.row [v0,v1,v2] 30 false false)=H at*;have u:H.f H.b=H:=rfl;have hT:(h.a<H.a)=True:=by simp;omega
 have v:(h.a+1<H.a)=True:=by simp;omega
 have F:AI 0 (H.c h.a)=some u0:=by rw[gA];rfl
 have J:AI 1 (H.c h.a)=some u1:=by rw[gA];rfl
 have X:AI 2 (H.c h.a)=some u2:=by rw[gA];rfl
 have y0:AI 0 (H.c (h.a+1))=some v0:=by rw[gB];rfl
 have y1:AI 1 (H.c (h.a+1))=some v1:=by rw[gB];rfl
 have y2:AI 2 (H.c (h.a+1))=some v2:=by rw[gB];rfl
 have Y:=fun(m:AA)=>AL.c p0 bn (h':=m);have l1:=fun(m:AA)=>AK.Z p1 (h':=m);have l2:=fun(m:AA)=>AK.Z p2 (h':=m);have m0:=fun(m:AA)=>AL.c q0 bn (h':=m);have m1:=fun(m:AA)=>AK.Z q1 (h':=m);have m2:=fun(m:AA)=>AK.Z q2 (h':=m);have c:∀i,i<h.a->H.c i=h.c i:=xA.2;by_cases d0:A.V.length=B.V.length;case neg=>
  have c0:((A.V.length:Int)!=(B.V.length:Int))=true:=by simp;omega
  have w:decide (A.V=B.V/\A.G=B.G/\A.a=B.a)=false:=by grind
  rw[w];simp only[eE,seval,↓eP,IM,IJ,F,y0,Y,m0,c0];exact c
 have c0:((A.V.length:Int)!=(B.V.length:Int))=false:=by simp;omega
 by_cases d1:A.G.length=B.G.length;case neg=>
  have c1:((A.G.length:Int)!=(B.G.length:Int))=true:=by simp;omega
  have w:decide (A.V=B.V/\A.G=B.G/\A.a=B.a)=false:=by grind
  rw[w];simp only[eE,seval,↓eP,ab,IM,LF,IJ,BH,F,y0,Y,m0,c0,J,y1,l1,m1,c1];exact c
 have c1:((A.G.length:Int)!=(B.G.length:Int))=false:=by simp;omega
 by_cases d2:A.a.length=B.a.length;case neg=>
  have c2:((A.a.length:Int)!=(B.a.length:Int))=true:=by simp;omega
  have w:decide (A.V=B.V/\A.G=B.G/\A.a=B.a)=false:=by grind
  rw[w];simp only[eE,seval,↓eP,ab,IM,LF,LN,IJ,BH,F,y0,Y,m0,c0,J,y1,l1,m1,c1,X,y2,l2,m2,c2];exact c
 have c2:((A.a.length:Int)!=(B.a.length:Int))=false:=by simp;omega
 simp only[eE,seval,↓eP,ab,IM,LF,LN,IJ,BH,F,y0,Y,m0,c0,J,y1,l1,m1,c1,X,y2,l2,m2,c2];refine WK.b (fun i s=>s.T.a 2=qP h.a 0/\s.T.a 3=qP (h.a+1) 0/\s.T.a 5=iv (i:Int)/\s.h=H/\i<=A.V.length/\A.V.take i=B.V.take i) A.V.length (by omega) ?_ ?_;.refine⟨?_,?_,?_,rfl,bg _,rfl⟩<;>simp only[eE,seval]<;>rfl
 rintro i⟨T0,H0⟩h0⟨e,z,o,h3,g6,h4⟩;simp only at e z o h3;subst h3;rcases ar i A.V.length with K|h5
 .have L:decide ((i:Int)<(A.V.length:Int))=true:=by grind
  obtain⟨x,M⟩:∃x,A.V[i]?=some x:=⟨_,aa K⟩;obtain⟨y,O⟩:∃y,B.V[i]?=some y:=⟨_,aa (by omega)⟩;obtain⟨i0,o0,P,b0,Q⟩:=ZJ (AL.b (h':=H0) p0 (by omega) fun i _ C=>c i C) M;obtain⟨i1,o1,S,b1,T⟩:=ZJ (AL.b (h':=H0) q0 (by omega) fun i _ C=>c i C) O;have w3:IntKind.i64.wrap ((i:Int)+1)=((i+1:Nat):Int):=by rw[BR];omega
  have f:(i0<H0.a)=True:=by simp[b0]
  have g:(i1<H0.a)=True:=by simp[b1]
  by_cases d:x=y
  .have D:(!(x.1==y.1&&(x.2.1==y.2.1&&x.2.2==y.2.2)))=false:=by simp[d]
   simp only[eE,seval,↓eP,e,o,IM,IJ,F,Y,L];refine WK.a (fs:=cL) (by kernel_rfl) ?_;unfold cL;iterate 11
    refine DG t ?_;simp only[rG,seval,AB,AD,AC,A7,u,e,z,o,hT,v,f,g,IM,IJ,F,y0,P,S,UE,Q,T,pG,D]
   refine DF ?_;simp only[eE,seval,↓eP,e,z,o,w3];exact⟨K,by omega,by rw[cY,cY,M,O,h4,d]⟩
  .have D:(!(x.1==y.1&&(x.2.1==y.2.1&&x.2.2==y.2.2)))=true:=Lg d;have w:decide (A.V=B.V/\A.G=B.G/\A.a=B.a)=false:=by grind
   rw[w];simp only[eE,seval,↓eP,e,o,IM,IJ,F,Y,L];refine WK.a (fs:=cL) (by kernel_rfl) ?_;unfold cL;iterate 11
    refine DG t ?_;simp only[rG,seval,AB,AD,AC,A7,u,e,z,o,hT,v,f,g,IM,IJ,F,y0,P,S,UE,Q,T,pG,D]
   refine DF ?_;simp only[eE,seval,↓eP];exact c
 have g3:decide ((i:Int)<(A.V.length:Int))=false:=by grind
 have g7:A.V=B.V:=by
  have:=h4;rw[di h5,di (by omega)]at this;exact this
 simp only[eE,seval,↓eP,e,o,IM,IJ,F,Y,g3];refine WK.b (fun i s=>s.T.a 2=qP h.a 0/\s.T.a 3=qP (h.a+1) 0/\s.T.a 6=iv (i:Int)/\s.h=H0/\i<=A.G.length/\A.G.take i=B.G.take i) A.G.length (by omega) ?_ ?_;.refine⟨?_,?_,?_,rfl,bg _,rfl⟩<;>simp only[eE,seval,e,z]<;>rfl
 rintro j⟨T1,Z⟩h1⟨l,E,p,h6,g8,h7⟩;simp only at l E p h6;subst h6;rcases ar j A.G.length with U|h8
 .have L:decide ((j:Int)<(A.G.length:Int))=true:=by grind
  obtain⟨x,M⟩:∃x,A.G[j]?=some x:=⟨_,aa U⟩;obtain⟨y,O⟩:∃y,B.G[j]?=some y:=⟨_,aa (by omega)⟩;obtain⟨i0,o0,P,b0,Q⟩:=AK.V (h:=Z) (AK.U (h':=Z) p1 (by omega) fun i _ C=>c i C) M;obtain⟨i1,o1,S,b1,T⟩:=AK.V (h:=Z) (AK.U (h':=Z) q1 (by omega) fun i _ C=>c i C) O;have w3:IntKind.i64.wrap ((j:Int)+1)=((j+1:Nat):Int):=by rw[BR];omega
  have f:(i0<Z.a)=True:=by simp[b0]
  have g:(i1<Z.a)=True:=by simp[b1]
  by_cases d:x=y
  .have D:(x !=y)=false:=by simp[d]
   simp only[eE,seval,↓eP,ab,l,p,LF,BH,J,l1,L];refine WK.a (fs:=cT) (by kernel_rfl) ?_;unfold cT;iterate 11
    refine DG t ?_;simp only[rG,seval,AB,AD,AC,A7,C8,u,l,E,p,hT,v,f,g,LF,BH,J,y1,P,S,AM,Q,T,D]
   refine DF ?_;simp only[eE,seval,↓eP,l,E,p,w3];exact⟨U,by omega,by rw[cY,cY,M,O,h7,d]⟩
  .have D:(x !=y)=true:=by simpa using d
   have w:decide (A.V=B.V/\A.G=B.G/\A.a=B.a)=false:=by grind
   rw[w];simp only[eE,seval,↓eP,ab,l,p,LF,BH,J,l1,L];refine WK.a (fs:=cT) (by kernel_rfl) ?_;unfold cT;iterate 11
    refine DG t ?_;simp only[rG,seval,AB,AD,AC,A7,C8,u,l,E,p,hT,v,f,g,LF,BH,J,y1,P,S,AM,Q,T,D]
   refine DF ?_;simp only[eE,seval,↓eP];exact c
 have g4:decide ((j:Int)<(A.G.length:Int))=false:=by grind
 have g9:A.G=B.G:=by
  have:=h7;rw[di h8,di (by omega)]at this;exact this
 simp only[eE,seval,↓eP,ab,l,p,LF,BH,J,l1,g4];refine WK.b (fun i s=>s.T.a 2=qP h.a 0/\s.T.a 3=qP (h.a+1) 0/\s.T.a 7=iv (i:Int)/\s.h=Z/\i<=A.a.length/\A.a.take i=B.a.take i) A.a.length (by omega) ?_ ?_;.refine⟨?_,?_,?_,rfl,bg _,rfl⟩<;>simp only[eE,seval,l,E]<;>rfl
 rintro k⟨T2,H2⟩h2⟨q,I,r,h9,x3,g1⟩;simp only at q I r h9;subst h9;rcases ar k A.a.length with W|g2
 .have L:decide ((k:Int)<(A.a.length:Int))=true:=by grind
  obtain⟨x,M⟩:∃x,A.a[k]?=some x:=⟨_,aa W⟩;obtain⟨y,O⟩:∃y,B.a[k]?=some y:=⟨_,aa (by omega)⟩;obtain⟨i0,o0,P,b0,Q⟩:=AK.V (h:=H2) (AK.U (h':=H2) p2 (by omega) fun i _ C=>c i C) M;obtain⟨i1,o1,S,b1,T⟩:=AK.V (h:=H2) (AK.U (h':=H2) q2 (by omega) fun i _ C=>c i C) O;have w3:IntKind.i64.wrap ((k:Int)+1)=((k+1:Nat):Int):=by rw[BR];omega
  have f:(i0<H2.a)=True:=by simp[b0]
  have g:(i1<H2.a)=True:=by simp[b1]
  by_cases d:x=y
  .have D:(x !=y)=false:=by simp[d]
   simp only[eE,seval,↓eP,ab,q,r,LN,BH,X,l2,L];refine WK.a (fs:=fV) (by kernel_rfl) ?_;unfold fV;iterate 11
    refine DG t ?_;simp only[rG,seval,AB,AD,AC,A7,C8,u,q,I,r,hT,v,f,g,LN,BH,X,y2,P,S,AM,Q,T,D]
   refine DF ?_;simp only[eE,seval,↓eP,q,I,r,w3];exact⟨W,by omega,by rw[cY,cY,M,O,g1,d]⟩
  .have D:(x !=y)=true:=by simpa using d
   have w:decide (A.V=B.V/\A.G=B.G/\A.a=B.a)=false:=by grind
   rw[w];simp only[eE,seval,↓eP,ab,q,r,LN,BH,X,l2,L];refine WK.a (fs:=fV) (by kernel_rfl) ?_;unfold fV;iterate 11
    refine DG t ?_;simp only[rG,seval,AB,AD,AC,A7,C8,u,q,I,r,hT,v,f,g,LN,BH,X,y2,P,S,AM,Q,T,D]
   refine DF ?_;simp only[eE,seval,↓eP];exact c
 have g5:decide ((k:Int)<(A.a.length:Int))=false:=by grind
 have x4:A.a=B.a:=by
  have:=g1;rw[di g2,di (by omega)]at this;exact this
 have w:decide (A.V=B.V/\A.G=B.G/\A.a=B.a)=true:=by grind
 rw[w];simp only[eE,seval,↓eP,ab,q,r,LN,BH,X,l2,g5];exact c
theorem Xs{c d:Nat}{a b:Value}{A B:FK}(e:GH c h a A)(f:GH d h b B)(g:A.V.length<1099511627776/\A.G.length<1099511627776/\A.a.length<1099511627776)(i:A.V.length+A.G.length+A.a.length+15<n):AN n 116 [a,b] h=some (.bool (decide (A.V=B.V/\A.G=B.G/\A.a=B.a)),h):=by obtain⟨n,rfl⟩:=BX i;exact HF BF rfl (Xn (N:=n) e f g (by omega))
end
end Go.Proofs.YtjailoenloejbaaGreatDoor




