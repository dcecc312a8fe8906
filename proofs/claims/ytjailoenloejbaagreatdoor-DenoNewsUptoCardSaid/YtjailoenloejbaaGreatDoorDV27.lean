/- Part 27. -/
import Derived.Test.YtjailoenloejbaaGreatDoorDV26
set_option linter.all false
namespace Go.Proofs.YtjailoenloejbaaGreatDoor
open Go Go.Sx Go.Proofs.Tryz
set_option maxRecDepth 100000
set_option maxHeartbeats 0
section
variable {H:AA} {t t1 t2 t3:TypeId} {z z1 z2 z3 v v1 v2 v3:Value}
theorem Am(b:BN prog t=some 1)(c:v.cells=#[v])(d:one v=true)(e:H.b<=H.a):∃a,BD prog (H.d (.row [z] t false false)) t (qP H.a 0) v=some a/\a.c H.a=.row [v] t false false/\a.a=H.a+1/\a.b=H.b/\Ex H a:=⟨_,EO (off:=0) b c d BJ Nat.one_pos (by assumption),BE rfl (by show H.a<H.a+1;omega),rfl,rfl,(Ex.c H).b.e (af _) (by show H.a<H.a+1;omega)⟩
theorem zU{c a cs2 zs2:List Value}(g:∀b:AA,b.c H.a=.row a t1 false false->b.b<=H.a->BD prog b t1 (qP H.a 0) v1=some (b.e H.a (.row c t1 false false)))(f:∀b:AA,b.c (H.a+1)=.row zs2 t2 false false->b.b<=H.a+1->BD prog b t2 (qP (H.a+1) 0) v2=some (b.e (H.a+1) (.row cs2 t2 false false)))(i:H.b<=H.a):∃e d,BD prog ((H.d (.row a t1 false false)).d (.row zs2 t2 false false)) t1 (qP H.a 0) v1=some e/\e.b=H.b/\BD prog e t2 (qP (H.a+1) 0) v2=some d/\d.c H.a=.row c t1 false false/\d.c (H.a+1)=.row cs2 t2 false false/\d.a=H.a+2/\d.b=H.b/\Ex H d:=by
 have j:(((H.d (.row a t1 false false)).d (.row zs2 t2 false false)).e H.a (.row c t1 false false)).c (H.a+1)=.row zs2 t2 false false:=by rw[AP (by show H.a<H.a+1+1;omega) (by omega)];exact BJ (h:=H.d (.row a t1 false false))
 refine⟨_,_,g _ JG i,rfl,f _ j (by show H.b<=H.a+1;omega),?_,BE rfl (by show H.a+1<H.a+1+1;omega),rfl,rfl,((Ex.c H).b.b.e (af _) (by show H.a<H.a+1+1;omega)).e (by omega) (by show H.a+1<H.a+1+1;omega)⟩;rw[AP (by show H.a+1<H.a+1+1;omega) (by omega)];exact BE rfl (by show H.a<H.a+1+1;omega)
theorem T_(b:BN prog t=some 1)(c:v.cells=#[v])(d:one v=true){id:Nat}:∀a:AA,a.c id=.row [z] t false false->a.b<=id->BD prog a t (qP id 0) v=some (a.e id (.row [v] t false false)):=fun a e f=>EO (off:=0) b c d e Nat.one_pos f
theorem Xp(d:BN prog t1=some 1)(e:BN prog t2=some 1)(f:BN prog t3=some 1)(g:v1.cells=#[v1])(i:one v1=true)(j:v2.cells=#[v2])(o2:one v2=true)(k:v3.cells=#[v3])(l:one v3=true)(m:H.b<=H.a):∃b c a,BD prog (((H.d (.row [z1] t1 false false)).d (.row [z2] t2 false false)).d (.row [z3] t3 false false)) t1 (qP H.a 0) v1=some b/\b.b=H.b/\BD prog b t2 (qP (H.a+1) 0) v2=some c/\c.b=H.b/\BD prog c t3 (qP (H.a+1+1) 0) v3=some a/\a.a=H.a+3/\a.b=H.b/\Ex H a:=by
 have q:(((H.d (.row [z1] t1 false false)).d (.row [z2] t2 false false)).d (.row [z3] t3 false false)).a=H.a+1+1+1:=rfl;have n:(((H.d (.row [z1] t1 false false)).d (.row [z2] t2 false false)).d (.row [z3] t3 false false)).c H.a=.row [z1] t1 false false:=by
  rw[AV (by show H.a<H.a+1+1;omega)];exact JG
 have o:((((H.d (.row [z1] t1 false false)).d (.row [z2] t2 false false)).d (.row [z3] t3 false false)).e H.a (.row [v1] t1 false false)).c (H.a+1)=.row [z2] t2 false false:=by
  rw[AP (by omega) (by omega),AV (by show H.a+1<H.a+1+1;omega)];exact BJ (h:=H.d (.row [z1] t1 false false))
 have p:(((((H.d (.row [z1] t1 false false)).d (.row [z2] t2 false false)).d (.row [z3] t3 false false)).e H.a (.row [v1] t1 false false)).e (H.a+1) (.row [v2] t2 false false)).c (H.a+1+1)=.row [z3] t3 false false:=by
  rw[AP (by show H.a+1<H.a+1+1+1;omega) (by omega),AP (by omega) (by omega)];exact BJ (h:=(H.d (.row [z1] t1 false false)).d (.row [z2] t2 false false))
 exact⟨_,_,_,T_ d g i _ n m,rfl,T_ e j o2 _ o (by show H.b<=H.a+1;omega),rfl,T_ f k l _ p (by show H.b<=H.a+1+1;omega),rfl,rfl,(((Ex.c H).b.b.b.e (af _) (by omega)).e (by omega) (by show H.a+1<H.a+1+1+1;omega)).e (by omega) (by show H.a+1+1<H.a+1+1+1;omega)⟩
theorem Xt{v:Value}(h:one v=true):v.cells=#[v]:=by cases v<;>first|rfl|(simp[one]at h)
theorem yW{cs:List Value}{i:Nat}{v:Value}{ty:TypeId}{g ro:Bool}(h:cs[i]?=some v):AI i (.row cs ty g ro)=some v:=by simp[AI,h]
theorem iD:∀(V:List (Int×Int×Int))(i:Nat)(x:Int×Int×Int),V[i]?=some x->((FZ V).drop (i*3)).take 3=[iv x.1,iv x.2.1,iv x.2.2]
 |[],i,x,h=>by simp at h|y::V,0,x,h=>by simp at h;subst h;simp[FZ]|y::V,i+1,x,h=>by have e:FZ (y::V)=iv y.1::iv y.2.1::iv y.2.2::FZ V:=rfl;rw[e,show(i+1)*3=i*3+1+1+1 by omega,List.drop_succ_cons,List.drop_succ_cons,List.drop_succ_cons];exact iD V i x (by assumption)
theorem LE{lo k i:Nat}{h:AA}{vv:Value}{V:List (Int×Int×Int)}(p:AL lo h vv k 3 (FZ V))(hi:i<k):∃f q a b c,BW prog 28 vv (iv (i:Int))=some (qP f q)/\f<h.a/\AX 3 q (h.c f)=some (E8 a b c):=by
 obtain⟨A,a,c,rfl,o|⟨f,d,e,B,g,C,rfl,o,r,s,_⟩⟩:=p;.omega
 .have u:=WT V;obtain⟨⟨l,m,n⟩,w⟩:∃x,V[i]?=some x:=⟨_,aa (by omega)⟩;have j:(e.drop (d+i*3)).take 3=[iv l,iv m,iv n]:=by
   have y:(e.drop (d+i*3)).take 3=(((e.drop d).take (k*3)).drop (i*3)).take 3:=by rw[List.drop_take,jl,List.take_take,Nat.min_eq_left (by omega)]
   rw[y,s];exact iD V i (l,m,n) w
  refine⟨f,d+i*3,l,m,n,?_,r.2,?_⟩
  .simp only[BW,bn,NS];rw[ag (by omega)];simp[KL]
  .rw[o];simp[AX,GN,j]
theorem DI{H:AA}{f:Nat}(h:H.b=f:=by omega):H.f f=H:=by rw[<-h];rfl
end
section
variable {n N:Nat} {h:AA} {K nV nr:Nat} {rd:List Int} {Z:List AF} {s:AS}
theorem LG{at_:Nat}{y:AF}{kv:Value}(hG:S_ Z s)(hy:s.a[at_]?=some y)(hk11:11<=y.a)(hl:s.a.length<2932031007403)(hkv:AK 0 h kv ((A9 (AE Z) y.b.toNat (at_+1)).map (fun(k:Nat)=>(k:Int))))(hM:K_ h K s.a nV rd nr)(hfl:h.b<=h.a)(hn:s.a.length+50<n)(hN:s.a.length+50<N)(hVn:y.a=14->0<=y.n/\y.n<nV)(hrd:rd.length=s.a.length)(hru:y.a=22->0<=y.n/\y.n<nr)(hR:∀(k:Nat)(z:AF),s.a[k]?=some z->27<=z.a->∀h',K_ h' K s.a nV rd nr->h'.b<=h'.a->∃v h2,AN n 230 [HY K,iv k] h'=some (v,h2)/\Wk h' v h2)(hD:∀k∈A9 (AE Z) y.b.toNat (at_+1),∀(z:AF),s.a[k]?=some z->11<=z.a->z.a<=23->∀h',K_ h' K s.a nV rd nr->h'.b<=h'.a->∃v h2,AN n 110 [HY K,iv k] h'=some (v,h2)/\Wk h' v h2):∃v h',AW prog (AN n) N 173 [HY K,iv at_,CW y,kv] h=some (v,h')/\Wk h v h':=by
 have hsn:=(EC n).2;refine G_ (R:=fun v h'=>Wk h v h') func173 rfl (by simp[f173]) ?_;have hr:f173.results.toList=[.tmp 8]:=rfl;have g0:∀(a b:BO),let A:=(h.d a).d b
   A.c h.a=a/\A.c (h.a+1)=b/\A.a=h.a+2/\A.b=h.b/\Ex h A:=fun a b=>⟨JG,MG,rfl,rfl,(Ex.c h).b.b⟩;obtain⟨gA,gB,nA,fA,xA⟩:=g0 (.row [HY K] 186 false false) (.row (AQ y) 125 false false);simp only[eE,seval,DJ,hr,Ft,Oj,Cx,Oz,Db,GC];generalize(h.d (.row [HY K] 186 false false)).d (.row (AQ y) 125 false false)=A at*;have x0:AI 0 (A.c h.a)=some (HY K):=by rw[gA];rfl
 have x1:AI 0 (A.c (h.a+1))=some (iv y.a):=by rw[gB];rfl
 have x3:AI 3 (A.c (h.a+1))=some (iv y.n):=by rw[gB];rfl
 have hnT:(h.a<A.a)=True:=by simp;omega
 have hn1T:(h.a+1<A.a)=True:=by simp;omega
 have MA:=hM.a xA;have hfA:A.b<=A.a:=by omega
 have hff:A.f A.b=A:=rfl;have hfh:A.f h.b=A:=DI fA;obtain⟨k0,hk1⟩:=hG.a at_ y hy;have kd:∀(j p:Nat),(A9 (AE Z) y.b.toNat (at_+1))[j]?=some p->∃z:AF,s.a[p]?=some z/\CX (CH y.a j) z.a=true:=fun j p hp=>by
  obtain⟨z,hz⟩:=yL hG.g hy hp;exact⟨z,hz,hG.b at_ j p y z hy (by omega) hp hz⟩
 have kx:∀(j p:Nat),(A9 (AE Z) y.b.toNat (at_+1))[j]?=some p->∃i q,BW prog 25 kv (iv (j:Int))=some (qP i q)/\i<h.a/\AI q (h.c i)=some (iv (p:Int)):=fun j p hp=>AK.V hkv (i:=j) (x:=(p:Int)) (by rw[bT,hp];rfl);have hkl:(A9 (AE Z) y.b.toNat (at_+1)).length=y.b.toNat:=OE _ _;have lenK:∀h':AA,CU prog h' 25 kv=some (iv (y.b.toNat:Int)):=fun h'=>by
  have:=AK.Z hkv (h':=h');rw[bw,hkl]at this;exact this
 cases c11:(y.a==11)with
 |true=>
  have e11:y.a=11:=by simpa using c11
  simp only[eE,seval,↓eP,x1,c11,Z5,aJ,UX,lenK];refine WK.b (fun i s'=>s'.T.a 4=qP h.a 0/\s'.T.a 9=qP A.a 0/\s'.T.a 27=kv/\s'.T.a 28=iv (y.b.toNat:Int)/\s'.T.a 29=iv (i:Int)/\i<=y.b.toNat/\Ex A s'.h/\s'.h.b=h.b/\∃lv cs,s'.h.c A.a=.row [lv] 147 false false/\A.a<s'.h.a/\JM 149 s'.h (A.a+1) lv i cs/\cs.length=i*1/\cs.all one=true) y.b.toNat (by have:=hG.g.a hy;have:=HM _ _ _ this.2.1;omega) ?_ ?_;.refine⟨?_,?_,?_,?_,?_,bg _,(Ex.c A).b,fA,Z0,[],BJ,by show A.a<A.a+1;omega,.inl ⟨rfl,rfl,rfl⟩,rfl,rfl⟩<;>simp only[eE,seval]<;>rfl
  rintro i⟨T1,H1⟩hi⟨t4,t9,t27,t28,t29,hik,xH,fH,lv,cs,hg9,hlt9,hgr,hcl,hco⟩;simp only at t4 t9 t27 t28 t29 xH fH hg9 hlt9 hgr;rcases ar i y.b.toNat with hlt|hge
  .have c1:decide ((i:Int)<(y.b.toNat:Int))=true:=by grind
   obtain⟨p,hp⟩:∃p,(A9 (AE Z) y.b.toNat (at_+1))[i]?=some p:=⟨_,aa (by rw[hkl];exact hlt)⟩;obtain⟨z,hz,hs⟩:=kd i p hp;obtain⟨i0,p0,q0,b0,e0⟩:=kx i p hp;have e0':AI p0 (H1.c i0)=some (iv (p:Int)):=by rw[(xA.a xH).2 i0 b0];exact e0
   have z11:11<=z.a/\z.a<=23:=by
    rw[e11]at hs;have:CH 11 i=3:=rfl;rw[this]at hs;simpa[CX]using hs
   have w0:AI 0 (H1.c h.a)=some (HY K):=by rw[xH.2 _ (by omega)];exact x0
   have w9:AI 0 (H1.c A.a)=some lv:=by rw[hg9];rfl
   obtain⟨v2,H2r,hc,u1,u2,_,u4r⟩:=hD p (aw hp) z hz z11.1 z11.2 (H1.f (max h.b H1.a)) (MA.a xH.f) (by rw[BI,BK];have:=xH.1;omega);obtain⟨H2,hfold,u3,u4⟩:∃H2,H2r.f h.b=H2/\H2.b=h.b/\Ex H1 H2:=⟨_,rfl,rfl,u4r.d.f⟩;have hgr2:JM 149 H2 (A.a+1) lv i cs:=hgr.a u4.1 fun j hj _ _=>u4.2 j hj;obtain⟨lv',H3,ap,gr3,f3,n3,o3⟩:=T9 (new:=[v2]) ik MO qL RG rfl (by decide) (by decide) hgr2 hcl hco rfl (by simp[u2]) (by have:=xH.1;have:=u4.1;omega) (by have:=xH.1;omega) (by have:=hG.g.a hy;have:=HM _ _ _ this.2.1;omega);have g9:H3.c A.a=.row [lv] 147 false false:=by rw[o3 _ (by have:=u4.1;omega) (.inl (by omega)),u4.2 _ hlt9];exact hg9
   obtain⟨clv,olv⟩:=gr3.c;have st:=EO (off:=0) QH clv olv g9 Nat.one_pos (by omega);have hbs:=Gk (H:=H2) u1;have hH1:H1.f h.b=H1:=DI fH;have hH2:H2.f h.b=H2:=DI;have hH3:H3.f h.b=H3:=DI;have hlT:(A.a<H1.a)=True:=by simp[hlt9]
   have hlT2:(h.a<H1.a)=True:=by simp;omega
   have w3:IntKind.i64.wrap ((i:Int)+1)=((i+1:Nat):Int):=by rw[BR (by omega) (by have:=hG.g.a hy;have:=HM _ _ _ this.2.1;omega)];omega
   simp only[eE,seval,↓eP,t27,t28,t29,c1,q0,AM,e0'];refine WK.a (ops:=Rl) Jo ?_;refine BV.a ?_;have FF:=aQ @DB (aQ @BS (aQ @D7 (aQ @C0 (aQ @BI (aQ @BK (aQ @CZ (aQ @CM (aQ @EK (aQ @BU (aQ @CE (aQ @D_ (aQ @EJ (aQ @t4 (aQ @kM (aQ @w9 (aQ @TX (aQ @w0 (aQ @hlT (aQ @hlT2 (aQ @hc (aQ @hfold (aQ @hbs (aQ @ap (aQ @st (aQ @u3 (aQ @fH (aQ @hH1 (aQ @hH2 @hH3))))))))))))))))))))))))))));refine AG hsn 0 (some 33) (.load 147 (.tmp 9)) none ?_;simp only[rG,seval,AB,AC,A7,t9,FF];refine AG hsn 1 (some 34) (.load 186 (.tmp 4)) none ?_;simp only[rG,seval,AB,AC,A7,FF];refine AG hsn 2 (some 35) (.move (.tmp 11)) none ?_;simp only[rG,seval,AB,AD,AC,FF];refine AG hsn 3 (some 36) (.call {callee:=.value (.func 110),args:=#[.tmp 34,.tmp 35],argTypes:=#[186,3]}) none ?_;simp only[rG,seval,AB,AC,BL,FF];refine AG hsn 4 (some 37) (.buildSlice 147 1 #[(0,.tmp 36)]) none ?_;simp only[rG,seval,AB,AC,dp,dz,FF];refine AG hsn 5 (some 38) (.call {callee:=.builtin .append,args:=#[.tmp 33,.tmp 37],argTypes:=#[147,147]}) none ?_;simp only[rG,seval,AB,AC,BL,FF];refine AG hsn 6 (none) (.store 147 (.tmp 9) (.tmp 38)) none ?_;simp only[rG,seval,AB,AC,target,BY,t9,FF];refine BV.b (i:=7) (by kernel_rfl) ?_;clear FF;have hH4:(H3.e A.a (.row (([lv]:List Value).set 0 lv') 147 false false)).f h.b=H3.e A.a (.row (([lv]:List Value).set 0 lv') 147 false false):=DI (by show H3.b=_;omega);simp only[eE,seval,t4,t9,t27,t28,t29,w3];have hnx:A.a+1<=H2.a:=by have:=xH.1;have:=u4.1;omega
   have x3A:Ex A H3:=⟨by omega,fun j hj=>(o3 j (by omega) (.inl (by omega))).trans ((xH.a u4).2 j hj)⟩;exact⟨hlt,by omega,x3A.e (af _) (by omega),by show H3.b=_;omega,lv',cs++[v2],BE rfl (by omega),by show A.a<H3.a;omega,gr3.a (af _) fun j hj hj2 hj3=>AP (by omega) (by omega),by rw[ch,hcl];simp,by rw[iy,hco];simp[u2]⟩
  .have c1:decide ((i:Int)<(y.b.toNat:Int))=false:=by grind
   simp only[eE,seval,↓eP,t28,t29,c1];exact⟨rfl,rfl,fH,xA.a xH⟩|false=>
 have n11:y.a≠11:=by simpa using c11
 cases c12:(y.a==12)with
 |true=>
  have e12:y.a=12:=by simpa using c12
  have h2:2<=y.b/\y.b<=3:=by
   rw[e12]at k0 hk1;have a:F8 12=2:=by decide
   have b:DV 12=3:=by decide
   rw[a]at k0;rw[b]at hk1;omega
  obtain⟨m,hm⟩:∃m,y.b.toNat=m+2:=⟨y.b.toNat-2,by omega⟩;have p0:(A9 (AE Z) y.b.toNat (at_+1))[0]?=some (at_+1):=by rw[hm];rfl
  have p1:(A9 (AE Z) y.b.toNat (at_+1))[1]?=some (AE Z (at_+1)):=by rw[hm];rfl
  obtain⟨z0,hz0,s0⟩:=kd 0 _ p0;rw[e12]at s0;have as0:CH 12 0=7:=rfl;rw[as0]at s0;obtain⟨i0,q0,ia0x,ib0,ea0x⟩:=kx 0 _ p0;have ia0:BW prog 25 kv (iv 0)=some (qP i0 q0):=ia0x;obtain⟨z1,hz1,s1⟩:=kd 1 _ p1;rw[e12]at s1;have as1:CH 12 1=2:=rfl;rw[as1]at s1;obtain⟨i1,q1,ia1x,ib1,ea1x⟩:=kx 1 _ p1;have ia1:BW prog 25 kv (iv 1)=some (qP i1 q1):=ia1x;have z1k:11<=z1.a/\z1.a<=23:=by simp[CX]at s1;omega
  have z0k:27<=z0.a:=by simp[CX]at s0;omega
  have ea0:AI q0 (A.c i0)=some (iv ((at_+1:Nat):Int)):=by rw[xA.2 _ ib0];exact ea0x
  obtain⟨v1,H1r,hc1,v1c,v1o,_,x1r⟩:=hR _ z0 hz0 z0k (A.f (max h.b A.a)) (MA.a (Ex.c A).f) (by rw[BI,BK];omega);obtain⟨H1,hfold1,f1,x1H⟩:∃H1,H1r.f h.b=H1/\H1.b=h.b/\Ex A H1:=⟨_,rfl,rfl,x1r.d.f⟩;have w01:AI 0 (H1.c h.a)=some (HY K):=by rw[x1H.2 _ (by omega)];exact x0
  have hn1:H1.b<=H1.a:=by have:=x1H.1;omega
  have hff1:H1.f h.b=H1:=DI f1;have ea1:AI q1 (H1.c i1)=some (iv ((AE Z (at_+1):Nat):Int)):=by rw[(xA.a x1H).2 _ ib1];exact ea1x
  have hi1T:(i1<A.a)=True:=by have:=xA.1;simp;omega
  obtain⟨v2,H2r,hc2,v2c,v2o,_,x2r⟩:=hD _ (aw p1) z1 hz1 z1k.1 z1k.2 H1 (MA.a x1H) hn1;obtain⟨H2,hfold2,f2,x2H⟩:∃H2,H2r.f h.b=H2/\H2.b=h.b/\Ex H1 H2:=⟨_,rfl,rfl,x2r.f⟩;have hn2:H2.b<=H2.a:=by have:=x2H.1;have:=x1H.1;omega
  have hff2:H2.f h.b=H2:=DI f2;obtain⟨B0,B,sb1,fb1,sb2,gb1,gb2,nB,fB,xB⟩:=zU (H:=H2) (T_ Z2 v1c v1o (z:=.nilIface)) (T_ MO v2c v2o (z:=.nilIface)) (by omega);have hfb1:B0.f h.b=B0:=DI;have hfB0:∀f,f=h.b->B.f f=B:=fun f hf=>DI;simp only[eE,seval,↓eP,x1,c11,c12];refine WK.a (ops:=Au) Jy ?_;refine BV.a ?_;have FF:=aQ @DB (aQ @BS (aQ @D7 (aQ @C0 (aQ @BI (aQ @BK (aQ @CZ (aQ @CM (aQ @EK (aQ @BU (aQ @CE (aQ @D_ (aQ @EJ (aQ @hff (aQ @hfh (aQ @fA (aQ @TX (aQ @x0 (aQ @ia0 (aQ @ia1 (aQ @ea0 (aQ @ea1 (aQ @hnT (aQ @AM (aQ @hc1 (aQ @hfold1 (aQ @hff1 (aQ @w01 (aQ @hi1T (aQ @hc2 (aQ @hfold2 (aQ @hff2 (aQ @f1 (aQ @f2 (aQ @RG (aQ @XO (aQ @YI (aQ @Z5 (aQ @VB (aQ @GD (aQ @TF (aQ @XS (aQ @aJ (aQ @VF (aQ @UM (aQ @R5 (aQ @XI (aQ @UX (aQ @c_ (aQ @YV (aQ @sb1 (aQ @fb1 (aQ @hfb1 @sb2))))))))))))))))))))))))))))))))))))))))))))))))))));refine AG hsn 0 (some 43) (.load 186 (.tmp 4)) none ?_;simp only[rG,seval,AB,AC,A7,FF];refine AG hsn 1 (some 44) (.move (.tmp 3)) none ?_;simp only[rG,seval,AB,AD,AC,FF];refine AG hsn 2 (some 45) (.indexAddr 25 (.tmp 44) (.const (Value.int IntKind.i64 0))) none ?_;simp only[rG,seval,AB,AD,AC,FF];refine AG hsn 3 (some 46) (.load 3 (.tmp 45)) none ?_;simp only[rG,seval,AB,AC,A7,FF];refine AG hsn 4 (some 47) (.call {callee:=.value (.func 230),args:=#[.tmp 43,.tmp 46],argTypes:=#[186,3]}) none ?_;simp only[rG,seval,AB,AC,BL,FF];refine AG hsn 5 (some 48) (.load 186 (.tmp 4)) none ?_;simp only[rG,seval,AB,AC,A7,FF];refine AG hsn 6 (some 49) (.move (.tmp 3)) none ?_;simp only[rG,seval,AB,AD,AC,FF];refine AG hsn 7 (some 50) (.indexAddr 25 (.tmp 49) (.const (Value.int IntKind.i64 1))) none ?_;simp only[rG,seval,AB,AD,AC,FF];refine AG hsn 8 (some 51) (.load 3 (.tmp 50)) none ?_;simp only[rG,seval,AB,AC,A7,FF];refine AG hsn 9 (some 52) (.call {callee:=.value (.func 110),args:=#[.tmp 48,.tmp 51],argTypes:=#[186,3]}) none ?_;simp only[rG,seval,AB,AC,BL,FF];refine AG hsn 10 (some 12) (.alloc 266) none ?_;simp only[rG,seval,AB,AC,FF];refine AG hsn 11 (some 13) (.alloc 149) none ?_;simp only[rG,seval,AB,AC,KY,FF];refine AG hsn 12 (none) (.store 266 (.tmp 12) (.tmp 47)) none ?_;simp only[rG,seval,AB,AC,target,BY,FF];refine AG hsn 13 (none) (.store 149 (.tmp 13) (.tmp 52)) none ?_;simp only[rG,seval,AB,AC,target,BY,FF];refine BV.b (i:=14) (by kernel_rfl) ?_;clear FF;have fBh:B.b=h.b:=by omega
  obtain⟨C,sc1,gc1,nC,fC,xC⟩:=Am (H:=B) (t:=149) (z:=.nilIface) (v:=.iface 238 (.func (.func 231) #[] #[])) MO rfl rfl (by omega);have fCh:C.b=h.b:=by omega
  cases c3:(y.b.toNat==3)with
  |true=>
   have e3:y.b.toNat=3:=by simpa using c3
   have p2:(A9 (AE Z) y.b.toNat (at_+1))[2]?=some (AE Z (AE Z (at_+1))):=by rw[e3];rfl
   obtain⟨z2,hz2,s2⟩:=kd 2 _ p2;have z2k:11<=z2.a/\z2.a<=23:=by
    rw[e12]at s2;have:CH 12 2=4:=rfl;rw[this]at s2;simp[CX]at s2;omega
   obtain⟨i2,q2,ia2,ib2,ea2⟩:=kx 2 _ p2;have ia2':BW prog 25 kv (iv 2)=some (qP i2 q2):=ia2;have xAC:Ex A C:=((x1H.a x2H).a xB).a xC;have ea2':AI q2 (C.c i2)=some (iv ((AE Z (AE Z (at_+1)):Nat):Int)):=by rw[(xA.a xAC).2 _ ib2];exact ea2
   have w0C:AI 0 (C.c h.a)=some (HY K):=by rw[xAC.2 _ (by omega)];exact x0
   obtain⟨v4,H4r,hc4,v4c,v4o,_,x4r⟩:=hD _ (aw p2) z2 hz2 z2k.1 z2k.2 C (MA.a xAC) (by have:=xAC.1;omega);obtain⟨H4,hfold4,f4,x4⟩:∃H4,H4r.f h.b=H4/\H4.b=h.b/\Ex C H4:=⟨_,rfl,rfl,x4r.f⟩;have st4:=T_ (a:=H4) (id:=B.a) (t:=149) (z:=.iface 238 (.func (.func 231) #[] #[])) MO v4c v4o (by rw[x4.2 _ (by omega)];exact gc1) (by have:=xB.1;have:=x2H.1;have:=x1H.1;omega);have c3':((y.b.toNat:Int)==3)=true:=by rw[e3];rfl
   have h4f:H4.f h.b=H4:=DI f4;have hC4:∀f,f=h.b->C.f f=C:=fun f hf=>DI;simp only[eE,seval,↓eP,underlying238,lenK,c3',hfB0 h.b rfl,RG,TF,R5,sc1];refine WK.a (ops:=Bn) Kx ?_;refine BV.a ?_;have FF:=aQ @DB (aQ @BS (aQ @D7 (aQ @C0 (aQ @BI (aQ @BK (aQ @CZ (aQ @CM (aQ @EK (aQ @BU (aQ @CE (aQ @D_ (aQ @EJ (aQ @TX (aQ @w0C (aQ @ia2' (aQ @ea2' (aQ @AM (aQ @hc4 (aQ @hfold4 (aQ @h4f (aQ @f4 (aQ @fCh @st4))))))))))))))))))))));refine AG hsn 0 (some 57) (.load 186 (.tmp 4)) none ?_;simp only[rG,seval,AB,AC,A7,hC4 h.b rfl,FF];refine AG hsn 1 (some 58) (.move (.tmp 3)) none ?_;simp only[rG,seval,AB,AD,AC,hC4 h.b rfl,FF];refine AG hsn 2 (some 59) (.indexAddr 25 (.tmp 58) (.const (Value.int IntKind.i64 2))) none ?_;simp only[rG,seval,AB,AD,AC,hC4 h.b rfl,FF];refine AG hsn 3 (some 60) (.load 3 (.tmp 59)) none ?_;simp only[rG,seval,AB,AC,A7,hC4 h.b rfl,FF];refine AG hsn 4 (some 61) (.call {callee:=.value (.func 110),args:=#[.tmp 57,.tmp 60],argTypes:=#[186,3]}) none ?_;simp only[rG,seval,AB,AC,BL,FF];refine AG hsn 5 (none) (.store 149 (.tmp 14) (.tmp 61)) none ?_;simp only[rG,seval,AB,AC,target,BY,FF];refine BV.b (i:=6) (by kernel_rfl) ?_;clear FF;have h5:(H4.e B.a (.row [v4] 149 false false)).f h.b=H4.e B.a (.row [v4] 149 false false):=DI f4;simp only[eE,seval];exact⟨rfl,rfl,f4,(xA.a (xAC.a x4)).e (by have:=xB.1;have:=x2H.1;have:=x1H.1;omega) (by have:=x4.1;omega)⟩|false=>
   have e3:y.b.toNat≠3:=by simpa using c3
   have c3':((y.b.toNat:Int)==3)=false:=by simp;omega
   simp only[eE,seval,↓eP,underlying238,lenK,c3',hfB0 h.b rfl,RG,TF,R5,sc1];exact⟨rfl,rfl,fCh,xA.a (((x1H.a x2H).a xB).a xC)⟩
 |false=>
 have n12:y.a≠12:=by simpa using c12
 cases c13:(y.a==13)with
 |true=>
  have e13:y.a=13:=by simpa using c13
  have h3:y.b.toNat=3:=by
   rw[e13]at k0 hk1;have a:F8 13=3:=by decide
   have b:DV 13=3:=by decide
   rw[a]at k0;rw[b]at hk1;omega
  have p0:(A9 (AE Z) y.b.toNat (at_+1))[1]?=some (AE Z (at_+1)):=by rw[h3];rfl
  have p1:(A9 (AE Z) y.b.toNat (at_+1))[2]?=some (AE Z (AE Z (at_+1))):=by rw[h3];rfl
  obtain⟨z0,hz0,s0⟩:=kd 1 _ p0;rw[e13]at s0;have as0:CH 13 1=7:=rfl;rw[as0]at s0;obtain⟨i0,q0,ia0x,ib0,ea0x⟩:=kx 1 _ p0;have ia0:BW prog 25 kv (iv 1)=some (qP i0 q0):=ia0x;obtain⟨z1,hz1,s1⟩:=kd 2 _ p1;rw[e13]at s1;have as1:CH 13 2=2:=rfl;rw[as1]at s1;obtain⟨i1,q1,ia1x,ib1,ea1x⟩:=kx 2 _ p1;have ia1:BW prog 25 kv (iv 2)=some (qP i1 q1):=ia1x;have z1k:11<=z1.a/\z1.a<=23:=by simp[CX]at s1;omega
  have z0k:27<=z0.a:=by simp[CX]at s0;omega
  obtain⟨tr,d1,d2⟩:=MA.f;obtain⟨ro,hro⟩:∃ro,rd[at_]?=some ro:=⟨_,aa (by rw[hrd];exact(ae.1 hy).1)⟩;obtain⟨i9,q9,ia9,ib9,ea9⟩:=AK.V d2 hro;have hi9T:(i9<A.a)=True:=by simp[ib9]
  have hKT:(K<A.a)=True:=by have:=MA.d;simp[this]
  have ea0:AI q0 (A.c i0)=some (iv ((AE Z (at_+1):Nat):Int)):=by rw[xA.2 _ ib0];exact ea0x
  obtain⟨v1,H1r,hc1,v1c,v1o,_,x1r⟩:=hR _ z0 hz0 z0k (A.f (max h.b A.a)) (MA.a (Ex.c A).f) (by rw[BI,BK];omega);obtain⟨H1,hfold1,f1,x1H⟩:∃H1,H1r.f h.b=H1/\H1.b=h.b/\Ex A H1:=⟨_,rfl,rfl,x1r.d.f⟩;have w01:AI 0 (H1.c h.a)=some (HY K):=by rw[x1H.2 _ (by omega)];exact x0
  have hn1:H1.b<=H1.a:=by have:=x1H.1;omega
  have hff1:H1.f h.b=H1:=DI f1;have ea1:AI q1 (H1.c i1)=some (iv ((AE Z (AE Z (at_+1)):Nat):Int)):=by rw[(xA.a x1H).2 _ ib1];exact ea1x
  have hi1T:(i1<A.a)=True:=by have:=xA.1;simp;omega
  obtain⟨v2,H2r,hc2,v2c,v2o,_,x2r⟩:=hD _ (aw p1) z1 hz1 z1k.1 z1k.2 (H1.f (max h.b A.a)) (MA.a x1H.f) (by rw[BI,BK];have:=x1H.1;omega);obtain⟨H2,hfold2,f2,x2H⟩:∃H2,H2r.f h.b=H2/\H2.b=h.b/\Ex H1 H2:=⟨_,rfl,rfl,x2r.d.f⟩;have hn2:H2.b<=H2.a:=by have:=x2H.1;have:=x1H.1;omega
  have hff2:H2.f h.b=H2:=DI f2;obtain⟨B0,B1,B,sb1,fb1,sb2,fb2,sb3,nB,fB,xB⟩:=Xp (H:=H2) (t1:=3) (z1:=iv 0) (z2:=.nilIface) (z3:=.nilIface) (v1:=iv ro) B_ Z2 MO rfl rfl v1c v1o v2c v2o (by omega);have hfb1:B0.f h.b=B0:=DI;have hfb2:B1.f h.b=B1:=DI;have fBh:B.b=h.b:=by omega
  have hfB0:B.f h.b=B:=DI fBh;simp only[eE,seval,↓eP,x1,c11,c12,c13];refine WK.a (ops:=Qa) KV ?_;refine BV.a ?_;have FF:=aQ @DB (aQ @BS (aQ @D7 (aQ @C0 (aQ @BI (aQ @BK (aQ @CZ (aQ @CM (aQ @EK (aQ @BU (aQ @CE (aQ @D_ (aQ @EJ (aQ @hff (aQ @hfh (aQ @fA (aQ @TX (aQ @x0 (aQ @Rf (aQ @LN (aQ @BH (aQ @d1 (aQ @ia9 (aQ @ea9 (aQ @hi9T (aQ @hKT (aQ @ia0 (aQ @ia1 (aQ @ea0 (aQ @ea1 (aQ @hnT (aQ @AM (aQ @hc1 (aQ @hfold1 (aQ @hff1 (aQ @w01 (aQ @hi1T (aQ @hc2 (aQ @hfold2 (aQ @hff2 (aQ @f1 (aQ @f2 (aQ @RG (aQ @XO (aQ @YI (aQ @Z5 (aQ @VB (aQ @GD (aQ @TF (aQ @XS (aQ @aJ (aQ @VF (aQ @UM (aQ @R5 (aQ @XI (aQ @UX (aQ @c_ (aQ @YV (aQ @sb1 (aQ @fb1 (aQ @hfb1 (aQ @sb2 (aQ @fb2 (aQ @hfb2 @sb3)))))))))))))))))))))))))))))))))))))))))))))))))))))))))))))));refine AG hsn 0 (some 65) (.load 186 (.tmp 4)) none ?_;simp only[rG,seval,AB,AC,A7,FF];refine AG hsn 1 (some 66) (.nilCheck (.tmp 65)) none ?_;simp only[rG,seval,AB,AD,AC,FF];refine AG hsn 2 (some 67) (.fieldAddr 188 (.tmp 66) 1) none ?_;simp only[rG,seval,AB,AD,AC,ab,ab,FF];refine AG hsn 3 (some 68) (.fieldAddr 30 (.tmp 67) 2) none ?_;simp only[rG,seval,AB,AD,AC,FF];refine AG hsn 4 (some 69) (.load 25 (.tmp 68)) none ?_;simp only[rG,seval,AB,AC,A7,FF];refine AG hsn 5 (some 70) (.move (.tmp 1)) none ?_;simp only[rG,seval,AB,AD,AC,FF];refine AG hsn 6 (some 71) (.indexAddr 25 (.tmp 69) (.tmp 70)) none ?_;simp only[rG,seval,AB,AD,AC,FF];refine AG hsn 7 (some 72) (.load 3 (.tmp 71)) none ?_;simp only[rG,seval,AB,AC,A7,FF];refine AG hsn 8 (some 73) (.load 186 (.tmp 4)) none ?_;simp only[rG,seval,AB,AC,A7,FF];refine AG hsn 9 (some 74) (.move (.tmp 3)) none ?_;simp only[rG,seval,AB,AD,AC,FF];refine AG hsn 10 (some 75) (.indexAddr 25 (.tmp 74) (.const (Value.int IntKind.i64 1))) none ?_;simp only[rG,seval,AB,AD,AC,FF];refine AG hsn 11 (some 76) (.load 3 (.tmp 75)) none ?_;simp only[rG,seval,AB,AC,A7,FF];refine AG hsn 12 (some 77) (.call {callee:=.value (.func 230),args:=#[.tmp 73,.tmp 76],argTypes:=#[186,3]}) none ?_;simp only[rG,seval,AB,AC,BL,FF];refine AG hsn 13 (some 78) (.load 186 (.tmp 4)) none ?_;simp only[rG,seval,AB,AC,A7,FF];refine AG hsn 14 (some 79) (.move (.tmp 3)) none ?_;simp only[rG,seval,AB,AD,AC,FF];refine AG hsn 15 (some 80) (.indexAddr 25 (.tmp 79) (.const (Value.int IntKind.i64 2))) none ?_;simp only[rG,seval,AB,AD,AC,FF];refine AG hsn 16 (some 81) (.load 3 (.tmp 80)) none ?_;simp only[rG,seval,AB,AC,A7,FF];refine AG hsn 17 (some 82) (.call {callee:=.value (.func 110),args:=#[.tmp 78,.tmp 81],argTypes:=#[186,3]}) none ?_;simp only[rG,seval,AB,AC,BL,FF];refine AG hsn 18 (some 15) (.alloc 3) none ?_;simp only[rG,seval,AB,AC,FF];refine AG hsn 19 (some 16) (.alloc 266) none ?_;simp only[rG,seval,AB,AC,KY,FF];refine AG hsn 20 (some 17) (.alloc 149) none ?_;simp only[rG,seval,AB,AC,KY,FF];refine AG hsn 21 (none) (.store 3 (.tmp 15) (.tmp 72)) none ?_;simp only[rG,seval,AB,AC,target,BY,FF];refine AG hsn 22 (none) (.store 266 (.tmp 16) (.tmp 77)) none ?_;simp only[rG,seval,AB,AC,target,BY,FF];refine AG hsn 23 (none) (.store 149 (.tmp 17) (.tmp 82)) none ?_;simp only[rG,seval,AB,AC,target,BY,FF];refine BV.b (i:=24) (by kernel_rfl) ?_;clear FF;simp only[eE,seval,hfB0];exact⟨rfl,rfl,fBh,xA.a ((x1H.a x2H).a xB)⟩|false=>
 have n13:y.a≠13:=by simpa using c13
 cases c14:(y.a==14)with
 |true=>
  have e14:y.a=14:=by simpa using c14
  have h1:1<=y.b:=by
   rw[e14] at k0
   have a:F8 14=1:=by decide
   rw[a] at k0
   omega
  obtain⟨m,hm⟩:∃ m,y.b.toNat=m+1:=⟨y.b.toNat-1,by omega⟩
  have p0:(A9 (AE Z) y.b.toNat (at_+1))[0]?=some (at_+1):=by rw[hm];rfl
  obtain⟨z0,hz0,s0⟩:=kd 0 _ p0
  rw[e14] at s0
  have as0:CH 14 0=7:=rfl
  rw[as0] at s0
  obtain⟨i0,q0,ia0x,ib0,ea0x⟩:=kx 0 _ p0
  have ia0:BW prog 25 kv (iv 0)=some (qP i0 q0):=ia0x
  have z0k:27<=z0.a:=by simp[CX] at s0;omega
  have ea0:AI q0 (A.c i0)=some (iv ((at_+1:Nat):Int)):=by rw[xA.2 _ ib0];exact ea0x
  obtain⟨v1,H1r,hc1,v1c,v1o,_,x1r⟩:=hR _ z0 hz0 z0k (A.f (max h.b A.a)) (MA.a (Ex.c A).f) (by rw[BI,BK];omega)
  obtain⟨H1,hfold1,f1,x1H⟩:∃ H1,H1r.f h.b=H1/\H1.b=h.b/\Ex A H1:=⟨_,rfl,rfl,x1r.d.f⟩
  have w01:AI 0 (H1.c h.a)=some (HY K):=by rw[x1H.2 _ (by omega)];exact x0
  have hn1:H1.b<=H1.a:=by have:=x1H.1;omega
  have hff1:H1.f h.b=H1:=DI f1
  obtain⟨vn0,vn1⟩:=hVn e14
  obtain⟨vv,V,b1,b2⟩:=MA.c
  have b1':AI 8 (H1.c K)=some vv:=by rw[x1H.2 _ MA.d];exact b1
  have hKT:(K<A.a)=True:=by have:=MA.d;simp[this]
  obtain⟨nv,hnv⟩:∃ nv:Nat,y.n=(nv:Int):=⟨y.n.toNat,by omega⟩
  obtain⟨i9,q9,a0,a1,a2,ia9,ib9,ea9x⟩:=LE (i:=nv) b2 (by omega)
  have ea9:AX 3 q9 (H1.c i9)=some (E8 a0 a1 a2):=by rw[x1H.2 _ ib9];exact ea9x
  have hi9T:(i9<A.a)=True:=by simp[ib9]
  have shl:∀ (a o:Nat),a<H1.a->(DP (qP a o) != DP (qP H1.a 0))=true:=fun a o ha=>by simp[DP];omega
  have hA1:=x1H.1
  have sh1:=shl h.a 0 (by omega)
  have sh2:=shl K 8 (by have:=MA.d;omega)
  have sh3:=shl (h.a+1) 3 (by omega)
  have sh4:=shl i9 q9 (by omega)
  have w3:AI 3 (H1.c (h.a+1))=some (iv (nv:Int)):=by rw[x1H.2 _ (by omega),<- hnv];exact x3
  obtain⟨B0,B,sb1,fb1,sb2,gb1,gb2,nB,fB,xB⟩:=zU (H:=H1) (zs2:=[iv 0,iv 0,iv 0]) (cs2:=[iv a0,iv a1,iv a2]) (t2:=142) (v2:=E8 a0 a1 a2) (T_ Z2 v1c v1o (z:=.nilIface)) (fun H0 hg hf=>GQ (vs:=[iv a0,iv a1,iv a2]) NS hg rfl rfl rfl hf) (by omega)
  have hfb1:B0.f h.b=B0:=DI
  have fBh:B.b=h.b:=by omega
  have hfB0:B.f h.b=B:=DI fBh
  simp only[eE,seval,↓eP,x1,c11,c12,c13,c14]
  refine WK.a (ops:=Oa) La ?_
  refine BV.a ?_
  have FF:=aQ @DB (aQ @BS (aQ @D7 (aQ @C0 (aQ @BI (aQ @BK (aQ @CZ (aQ @CM (aQ @EK (aQ @BU (aQ @CE (aQ @D_ (aQ @EJ (aQ @hff (aQ @hfh (aQ @fA (aQ @TX (aQ @x0 (aQ @ia0 (aQ @ea0 (aQ @hnT (aQ @hn1T (aQ @AM (aQ @hc1 (aQ @hfold1 (aQ @hff1 (aQ @w01 (aQ @w3 (aQ @Rf (aQ @IM (aQ @IJ (aQ @sh1 (aQ @sh2 (aQ @sh3 (aQ @sh4 (aQ @b1' (aQ @hKT (aQ @FY (aQ @ia9 (aQ @UE (aQ @ea9 (aQ @hi9T (aQ @f1 (aQ @RG (aQ @XO (aQ @YI (aQ @Z5 (aQ @VB (aQ @GD (aQ @TF (aQ @XS (aQ @aJ (aQ @VF (aQ @UM (aQ @R5 (aQ @XI (aQ @UX (aQ @c_ (aQ @YV (aQ @sb1 (aQ @fb1 (aQ @hfb1 @sb2)))))))))))))))))))))))))))))))))))))))))))))))))))))))))))))
  refine AG hsn 0 (some 86) (.load 186 (.tmp 4)) none ?_
  simp only[rG,seval,AB,AC,A7,FF]
  refine AG hsn 1 (some 87) (.move (.tmp 3)) none ?_
  simp only[rG,seval,AB,AD,AC,FF]
  refine AG hsn 2 (some 88) (.indexAddr 25 (.tmp 87) (.const (Value.int IntKind.i64 0))) none ?_
  simp only[rG,seval,AB,AD,AC,FF]
  refine AG hsn 3 (some 89) (.load 3 (.tmp 88)) none ?_
  simp only[rG,seval,AB,AC,A7,FF]
  refine AG hsn 4 (some 90) (.call { callee:=.value (.func 230),args:=#[.tmp 86,.tmp 89],argTypes:=#[186,3] }) none ?_
  simp only[rG,seval,AB,AC,BL,FF]
  refine AG hsn 5 (some 91) (.load 186 (.tmp 4)) none ?_
  simp only[rG,seval,AB,AC,A7,FF]
  refine AG hsn 6 (some 92) (.nilCheck (.tmp 91)) none ?_
  simp only[rG,seval,AB,AD,AC,FF]
  refine AG hsn 7 (some 93) (.fieldAddr 188 (.tmp 92) 1) none ?_
  simp only[rG,seval,AB,AD,AC,ab,ab,FF]
  refine AG hsn 8 (some 94) (.fieldAddr 30 (.tmp 93) 0) none ?_
  simp only[rG,seval,AB,AD,AC,FF]
  refine AG hsn 9 (some 95) (.load 28 (.tmp 94)) none ?_
  simp only[rG,seval,AB,AC,A7,FF]
  refine AG hsn 10 (some 96) (.fieldAddr 125 (.tmp 6) 3) none ?_
  simp only[rG,seval,AB,AD,AC,ab,ab,FF]
  refine AG hsn 11 (some 97) (.load 3 (.tmp 96)) none ?_
  simp only[rG,seval,AB,AC,A7,FF]
  refine AG hsn 12 (some 98) (.indexAddr 28 (.tmp 95) (.tmp 97)) none ?_
  simp only[rG,seval,AB,AD,AC,FF]
  refine AG hsn 13 (some 99) (.load 142 (.tmp 98)) none ?_
  simp only[rG,seval,AB,AC,A7,FF]
  refine AG hsn 14 (some 18) (.alloc 266) none ?_
  simp only[rG,seval,AB,AC,FF]
  refine AG hsn 15 (some 19) (.alloc 142) none ?_
  simp only[rG,seval,AB,AC,KY,FF]
  refine AG hsn 16 (none) (.store 266 (.tmp 18) (.tmp 90)) none ?_
  simp only[rG,seval,AB,AC,target,BY,FF]
  refine AG hsn 17 (none) (.store 142 (.tmp 19) (.tmp 99)) none ?_
  simp only[rG,seval,AB,AC,target,BY,FF]
  refine BV.b (i:=18) (by kernel_rfl) ?_
  clear FF
  simp only[eE,seval,hfB0]
  exact⟨rfl,rfl,fBh,xA.a (x1H.a xB)⟩
 | false=>
 have n14:y.a≠14:=by simpa using c14
 cases c15:(y.a==15) with
 | true=>
  have e15:y.a=15:=by simpa using c15
  have h2:2<=y.b:=by
   rw[e15] at k0
   have a:F8 15=2:=by decide
   rw[a] at k0
   omega
  obtain⟨m,hm⟩:∃ m,y.b.toNat=m+2:=⟨y.b.toNat-2,by omega⟩
  have p0:(A9 (AE Z) y.b.toNat (at_+1))[1]?=some (AE Z (at_+1)):=by rw[hm];rfl
  have p1:(A9 (AE Z) y.b.toNat (at_+1))[0]?=some (at_+1):=by rw[hm];rfl
  obtain⟨z0,hz0,s0⟩:=kd 1 _ p0
  rw[e15] at s0
  have as0:CH 15 1=7:=rfl
  rw[as0] at s0
  obtain⟨i0,q0,ia0x,ib0,ea0x⟩:=kx 1 _ p0
  have ia0:BW prog 25 kv (iv 1)=some (qP i0 q0):=ia0x
  obtain⟨z1,hz1,s1⟩:=kd 0 _ p1
  rw[e15] at s1
  have as1:CH 15 0=5:=rfl
  rw[as1] at s1
  obtain⟨i1,q1,ia1x,ib1,ea1x⟩:=kx 0 _ p1
  have ia1:BW prog 25 kv (iv 0)=some (qP i1 q1):=ia1x
  have z0k:27<=z0.a:=by simp[CX] at s0;omega
  have ea0:AI q0 (A.c i0)=some (iv ((AE Z (at_+1):Nat):Int)):=by rw[xA.2 _ ib0];exact ea0x
  obtain⟨v1,H1r,hc1,v1c,v1o,_,x1r⟩:=hR _ z0 hz0 z0k (A.f (max h.b A.a)) (MA.a (Ex.c A).f) (by rw[BI,BK];omega)
  obtain⟨H1,hfold1,f1,x1H⟩:∃ H1,H1r.f h.b=H1/\H1.b=h.b/\Ex A H1:=⟨_,rfl,rfl,x1r.d.f⟩
  have w01:AI 0 (H1.c h.a)=some (HY K):=by rw[x1H.2 _ (by omega)];exact x0
  have hn1:H1.b<=H1.a:=by have:=x1H.1;omega
  have hff1:H1.f h.b=H1:=DI f1
  have ea1:AI q1 (H1.c i1)=some (iv ((at_+1:Nat):Int)):=by rw[(xA.a x1H).2 _ ib1];exact ea1x
  have hi1T:(i1<A.a)=True:=by have:=xA.1;simp;omega
  obtain⟨v2,H2r,hc2,v2c,v2o,_,x2r⟩:=Qj (n:=n) hz1 (MA.a x1H) hn1 (by omega)
  obtain⟨H2,hfold2,f2,x2H⟩:∃ H2,H2r.f h.b=H2/\H2.b=h.b/\Ex H1 H2:=⟨_,rfl,rfl,x2r.f⟩
  have hn2:H2.b<=H2.a:=by have:=x2H.1;have:=x1H.1;omega
  have hff2:H2.f h.b=H2:=DI f2
  obtain⟨B0,B,sb1,fb1,sb2,gb1,gb2,nB,fB,xB⟩:=zU (H:=H2) (T_ Z2 v1c v1o (z:=.nilIface)) (T_ Iy v2c v2o (z:=.nilFunc)) (by omega)
  have hfb1:B0.f h.b=B0:=DI
  have fBh:B.b=h.b:=by omega
  have hfB0:B.f h.b=B:=DI fBh
  simp only[eE,seval,↓eP,x1,c11,c12,c13,c14,c15]
  refine WK.a (ops:=Ay) Li ?_
  refine BV.a ?_
  have FF:=aQ @DB (aQ @BS (aQ @D7 (aQ @C0 (aQ @BI (aQ @BK (aQ @CZ (aQ @CM (aQ @EK (aQ @BU (aQ @CE (aQ @D_ (aQ @EJ (aQ @hff (aQ @hfh (aQ @fA (aQ @TX (aQ @x0 (aQ @ia0 (aQ @ia1 (aQ @ea0 (aQ @ea1 (aQ @hnT (aQ @AM (aQ @hc1 (aQ @hfold1 (aQ @hff1 (aQ @w01 (aQ @hi1T (aQ @hc2 (aQ @hfold2 (aQ @hff2 (aQ @f1 (aQ @f2 (aQ @RG (aQ @XO (aQ @YI (aQ @Z5 (aQ @VB (aQ @GD (aQ @TF (aQ @XS (aQ @aJ (aQ @VF (aQ @UM (aQ @R5 (aQ @XI (aQ @UX (aQ @c_ (aQ @YV (aQ @sb1 (aQ @fb1 (aQ @hfb1 @sb2))))))))))))))))))))))))))))))))))))))))))))))))))))
  refine AG hsn 0 (some 103) (.load 186 (.tmp 4)) none ?_
  simp only[rG,seval,AB,AC,A7,FF]
  refine AG hsn 1 (some 104) (.move (.tmp 3)) none ?_
  simp only[rG,seval,AB,AD,AC,FF]
  refine AG hsn 2 (some 105) (.indexAddr 25 (.tmp 104) (.const (Value.int IntKind.i64 1))) none ?_
  simp only[rG,seval,AB,AD,AC,FF]
  refine AG hsn 3 (some 106) (.load 3 (.tmp 105)) none ?_
  simp only[rG,seval,AB,AC,A7,FF]
  refine AG hsn 4 (some 107) (.call { callee:=.value (.func 230),args:=#[.tmp 103,.tmp 106],argTypes:=#[186,3] }) none ?_
  simp only[rG,seval,AB,AC,BL,FF]
  refine AG hsn 5 (some 108) (.load 186 (.tmp 4)) none ?_
  simp only[rG,seval,AB,AC,A7,FF]
  refine AG hsn 6 (some 109) (.move (.tmp 3)) none ?_
  simp only[rG,seval,AB,AD,AC,FF]
  refine AG hsn 7 (some 110) (.indexAddr 25 (.tmp 109) (.const (Value.int IntKind.i64 0))) none ?_
  simp only[rG,seval,AB,AD,AC,FF]
  refine AG hsn 8 (some 111) (.load 3 (.tmp 110)) none ?_
  simp only[rG,seval,AB,AC,A7,FF]
  refine AG hsn 9 (some 112) (.call { callee:=.value (.func 235),args:=#[.tmp 108,.tmp 111],argTypes:=#[186,3] }) none ?_
  simp only[rG,seval,AB,AC,BL,FF]
  refine AG hsn 10 (some 20) (.alloc 266) none ?_
  simp only[rG,seval,AB,AC,FF]
  refine AG hsn 11 (some 21) (.alloc 269) none ?_
  simp only[rG,seval,AB,AC,KY,FF]
  refine AG hsn 12 (none) (.store 266 (.tmp 20) (.tmp 107)) none ?_
  simp only[rG,seval,AB,AC,target,BY,FF]
  refine AG hsn 13 (none) (.store 269 (.tmp 21) (.tmp 112)) none ?_
  simp only[rG,seval,AB,AC,target,BY,FF]
  refine BV.b (i:=14) (by kernel_rfl) ?_
  clear FF
  simp only[eE,seval,hfB0]
  exact⟨rfl,rfl,fBh,xA.a ((x1H.a x2H).a xB)⟩
 | false=>
 have n15:y.a≠15:=by simpa using c15
 cases c22:(y.a==22) with
 | true=>
  have e22:y.a=22:=by simpa using c22
  obtain⟨rn0,rn1⟩:=hru e22
  obtain⟨nv,hnv⟩:∃ nv:Nat,y.n=(nv:Int):=⟨y.n.toNat,by omega⟩
  rw[hnv] at x3
  obtain⟨RU,cs,u1,u2,u3,u4,u5⟩:=MA.e
  obtain⟨w,hw⟩:∃ w,cs[nv]?=some w:=⟨_,aa (by omega)⟩
  have ow:one w=true:=by grind
  have cw:w.cells=#[w]:=Xt ow
  have ix:BW prog 147 (qS RU nr nr) (iv (nv:Int))=some (qP RU nv):=by
   simp only[BW,ik,MO]
   rw[ag (by omega)]
   simp[KL]
  have lw:AI nv (A.c RU)=some w:=by rw[u3];exact yW hw
  have hRT:(RU<A.a)=True:=by simp[u2]
  obtain⟨B,sb1,gb1,nB,fB,xB⟩:=Am (H:=A) (t:=149) (z:=.nilIface) MO cw ow hfA
  have fBh:B.b=h.b:=by omega
  have hfB0:B.f h.b=B:=DI fBh
  simp only[eE,seval,↓eP,x1,c11,c12,c13,c14,c15,c22]
  refine WK.a (ops:=Qh) Lk ?_
  refine BV.a ?_
  have FF:=aQ @DB (aQ @BS (aQ @D7 (aQ @C0 (aQ @BI (aQ @BK (aQ @CZ (aQ @CM (aQ @EK (aQ @BU (aQ @CE (aQ @D_ (aQ @EJ (aQ @hff (aQ @hfh (aQ @fA (aQ @TX (aQ @x0 (aQ @hnT (aQ @hn1T (aQ @AM (aQ @x3 (aQ @Hb (aQ @kM (aQ @u1 (aQ @FY (aQ @ix (aQ @Io (aQ @lw (aQ @hRT (aQ @RG (aQ @XO (aQ @YI (aQ @Z5 (aQ @VB (aQ @GD (aQ @TF (aQ @XS (aQ @aJ (aQ @VF (aQ @UM (aQ @R5 (aQ @XI (aQ @UX (aQ @c_ (aQ @YV @sb1)))))))))))))))))))))))))))))))))))))))))))))
  refine AG hsn 0 (some 116) (.load 186 (.tmp 4)) none ?_
  simp only[rG,seval,AB,AC,A7,FF]
  refine AG hsn 1 (some 117) (.nilCheck (.tmp 116)) none ?_
  simp only[rG,seval,AB,AD,AC,FF]
  refine AG hsn 2 (some 118) (.fieldAddr 188 (.tmp 117) 3) none ?_
  simp only[rG,seval,AB,AD,AC,ab,ab,FF]
  refine AG hsn 3 (some 119) (.load 147 (.tmp 118)) none ?_
  simp only[rG,seval,AB,AC,A7,FF]
  refine AG hsn 4 (some 120) (.fieldAddr 125 (.tmp 6) 3) none ?_
  simp only[rG,seval,AB,AD,AC,ab,ab,FF]
  refine AG hsn 5 (some 121) (.load 3 (.tmp 120)) none ?_
  simp only[rG,seval,AB,AC,A7,FF]
  refine AG hsn 6 (some 122) (.indexAddr 147 (.tmp 119) (.tmp 121)) none ?_
  simp only[rG,seval,AB,AD,AC,FF]
  refine AG hsn 7 (some 123) (.load 149 (.tmp 122)) none ?_
  simp only[rG,seval,AB,AC,A7,FF]
  refine AG hsn 8 (some 22) (.alloc 149) none ?_
  simp only[rG,seval,AB,AC,FF]
  refine AG hsn 9 (none) (.store 149 (.tmp 22) (.tmp 123)) none ?_
  simp only[rG,seval,AB,AC,target,BY,FF]
  refine BV.b (i:=10) (by kernel_rfl) ?_
  clear FF
  simp only[eE,seval,hfB0]
  exact⟨rfl,rfl,fBh,xA.a xB⟩
 | false=>
  have kA:=AK.U hkv xA.1 fun i _ hi=>xA.2 i hi
  have lx:AX 5 0 (A.c (h.a+1))=some (CW y):=by rw[gB];rfl
  obtain⟨v,H1,hc,w1,w2,w3,w4⟩:=LC (n:=n) (y:=y) kA (fun p hp=>by
   rw[bT] at hp
   cases hq:(A9 (AE Z) y.b.toNat (at_+1))[0]? with
   | none=>rw[hq] at hp;cases hp
   | some q=>
    rw[hq] at hp
    cases hp
    obtain⟨z,hz,_⟩:=kd 0 q hq
    exact⟨q,z,rfl,hz⟩) MA hfA (by omega)
  simp only[eE,seval,↓eP,x1,c11,c12,c13,c14,c15,c22,TX,x0,FX,lx,hc]
  exact⟨w1,w2,by omega,xA.a w4⟩
end
structure eO (Z:List AF) (s:AS) (nV nr:Nat) (rd:List Int):Prop where
 g:S_ Z s
 v:∀ (i:Nat) (y:AF),s.a[i]?=some y->y.a=14->0<=y.n/\y.n<nV
 r:∀ (i:Nat) (y:AF),s.a[i]?=some y->y.a=22->0<=y.n/\y.n<nr
 a:rd.length=s.a.length
section
variable {n N:Nat} {h:AA} {K nV nr:Nat} {rd:List Int} {Z:List AF} {s:AS}
theorem Uf{at_:Nat}{y:AF}(hG:S_ Z s)(hy:s.a[at_]?=some y)(hl:s.a.length<2932031007403)(hM:K_ h K s.a nV rd nr)(h1:h.b<=h.a)(hn:s.a.length+60<n)(hd:∀(l:Value)(h':AA),AK 0 h' l ((A9 (AE Z) y.b.toNat (at_+1)).map (fun(k:Nat)=>(k:Int)))->K_ h' K s.a nV rd nr->h'.b<=h'.a->∃v h2,AN n 173 [HY K,iv at_,CW y,l] h'=some (v,h2)/\Wk h' v h2):∃v h',AW prog (AN n) N 110 [HY K,iv at_] h=some (v,h')/\Wk h v h':=by
 have a:=(EC n).2;refine G_ (R:=fun v h'=>Wk h v h') func110 rfl (by simp) ?_;have hr:f110.results.toList=[.tmp 4]:=rfl;have gQ:(h.d (.row [iv at_] 3 false false)).c h.a=.row [iv at_] 3 false false:=BJ;have xQ:Ex h (h.d (.row [iv at_] 3 false false)):=(Ex.c h).b;have nQ:(h.d (.row [iv at_] 3 false false)).a=h.a+1:=rfl;have fQ:(h.d (.row [iv at_] 3 false false)).b=h.b:=rfl;have ca:(iv (at_:Int)).cells.toList=[iv at_]:=rfl;simp only[eE,seval,DJ,hr,ca,B_];generalize h.d (.row [iv at_] 3 false false)=Q at*;have x0:AI 0 (Q.c h.a)=some (iv (at_:Int)):=by rw[gQ];rfl
 have MQ:=hM.a xQ;have F:Q.b<=Q.a:=by omega
 obtain⟨vr,a1,a2⟩:=MQ.b;obtain⟨G,pr,e0,I,l0,l1,l2,l3,l4,lr⟩:=a2.b hy;have J:=yX (y:=y) F;have gA:=r_ (h:=Q) (y:=y);have eA:=vW (h:=Q) (y:=y);have fA:=qO (h:=Q) (y:=y);have nA:=Ei (h:=Q) (y:=y);have m:Q.f Q.b=Q:=rfl;have o:Q.f h.b=Q:=DI fQ;have p:(SL Q y).f h.b=SL Q y:=DI;have L:(K<Q.a)=True:=by have:=MQ.d;simp[this]
 have M:(h.a<Q.a)=True:=by grind
 have O:(G<Q.a)=True:=by simp[I]
 refine WK.a (ops:=Ea) Lq ?_;refine BV.a ?_;have b:=aQ @DB (aQ @BS (aQ @D7 (aQ @C0 (aQ @BI (aQ @BK (aQ @CZ (aQ @CM (aQ @EK (aQ @BU (aQ @CE (aQ @D_ (aQ @EJ (aQ @fQ (aQ @m (aQ @o (aQ @L (aQ @M (aQ @O (aQ @dI (aQ @CK (aQ @CJ (aQ @a1 (aQ @AM (aQ @x0 (aQ @e0 (aQ @FX (aQ @lr (aQ @FC (aQ @C3 (aQ @NO (aQ @QZ (aQ @iC (aQ @J @p)))))))))))))))))))))))))))))))));refine AG a 0 (some 7) (.move (.tmp 0)) none ?_;simp only[rG,seval,AB,AD,AC,ab,b];refine AG a 1 (some 8) (.nilCheck (.tmp 7)) none ?_;simp only[rG,seval,AB,AD,AC,b];refine AG a 2 (some 9) (.fieldAddr 188 (.tmp 8) 0) none ?_;simp only[rG,seval,AB,AD,AC,b];refine AG a 3 (some 10) (.fieldAddr 27 (.tmp 9) 1) none ?_;simp only[rG,seval,AB,AD,AC,ab,ab,b];refine AG a 4 (some 11) (.load 22 (.tmp 10)) none ?_;simp only[rG,seval,AB,AC,A7,b];refine AG a 5 (some 12) (.load 3 (.tmp 3)) none ?_;simp only[rG,seval,AB,AC,A7,b];refine AG a 6 (some 13) (.indexAddr 22 (.tmp 11) (.tmp 12)) none ?_;simp only[rG,seval,AB,AD,AC,b];refine AG a 7 (some 14) (.load 125 (.tmp 13)) none ?_;simp only[rG,seval,AB,AC,A7,b];refine AG a 8 (some 5) (.alloc 125) none ?_;simp only[rG,seval,AB,AC,ao,b];refine AG a 9 (none) (.store 125 (.tmp 5) (.tmp 14)) none ?_;simp only[rG,seval,AB,AC,target,BY,b];refine BV.b (i:=10) (by kernel_rfl) ?_;clear b;generalize SL Q y=A at*;have P:=xQ.a eA;have y0:AI 0 (A.c Q.a)=some (iv y.a):=by rw[gA];rfl
 have yR:AX 5 0 (A.c Q.a)=some (CW y):=by rw[gA];rfl
 have S:AI 0 (A.c h.a)=some (iv (at_:Int)):=by rw[eA.2 _ (by omega)];exact x0
 have MA:=hM.a P;have q:A.f h.b=A:=DI;obtain⟨l,T,hk,hL,_,U⟩:=Bc (n:=n) hG.g hy hl (h:=A.f (max h.b A.a)) (MA.a (Ex.c A).f) (by rw[BI,BK];omega) (by omega);obtain⟨c,d,f1,E,gI⟩:∃c,T.f h.b=c/\c.b=h.b/\Ex A c/\AK 0 c l ((A9 (AE Z) y.b.toNat (at_+1)).map (fun(k:Nat)=>(k:Int))):=⟨_,rfl,rfl,U.d.f,AK.U (GM.a hL (bg _)) (af _) fun _ _ _=>rfl⟩;have r:c.f h.b=c:=DI f1;obtain⟨v,V,hc,vc,vo,_,W⟩:=hd l c gI (MA.a E) (by have:=E.1;omega);obtain⟨f,e,f2,x2⟩:∃f,V.f h.b=f/\f.b=h.b/\Ex c f:=⟨_,rfl,rfl,W.f⟩;have u:f.f h.b=f:=DI f2;have X:A.b=h.b:=by omega
 have w:(h.a<A.a)=True:=by grind
 have x:(Q.a<A.a)=True:=by grind
 obtain⟨B,Y,h0,nB,fB,xB⟩:=Am (H:=f) (t:=238) (z:=.nilFunc) If vc vo (by have:=x2.1;have:=E.1;omega);have g:B.b=h.b:=by omega
 have C:B.f h.b=B:=DI g;have j:Ex A B:=(E.a x2).a xB;simp only[eE,seval];refine WK.a (ops:=Kb) Ls ?_;refine BV.a ?_;have b:=aQ @DB (aQ @BS (aQ @D7 (aQ @C0 (aQ @BI (aQ @BK (aQ @CZ (aQ @CM (aQ @EK (aQ @BU (aQ @CE (aQ @D_ (aQ @EJ (aQ @X (aQ @q (aQ @w (aQ @x (aQ @AM (aQ @S (aQ @FX (aQ @yR (aQ @hk (aQ @d (aQ @r (aQ @f1 (aQ @hc (aQ @e (aQ @u (aQ @f2 (aQ @In (aQ @XS (aQ @XI (aQ @Y @C))))))))))))))))))))))))))))))));refine AG a 0 (some 15) (.move (.tmp 0)) none ?_;simp only[rG,seval,AB,AD,AC,ab,b];refine AG a 1 (some 16) (.load 3 (.tmp 3)) none ?_;simp only[rG,seval,AB,AC,A7,b];refine AG a 2 (some 17) (.load 125 (.tmp 5)) none ?_;simp only[rG,seval,AB,AC,A7,b];refine AG a 3 (some 18) (.move (.tmp 0)) none ?_;simp only[rG,seval,AB,AD,AC,b];refine AG a 4 (some 19) (.load 3 (.tmp 3)) none ?_;simp only[rG,seval,AB,AC,A7,b];refine AG a 5 (some 20) (.call {callee:=.value (.func 174),args:=#[.tmp 18,.tmp 19],argTypes:=#[186,3]}) none ?_;simp only[rG,seval,AB,AC,BL,b];refine AG a 6 (some 21) (.call {callee:=.value (.func 173),args:=#[.tmp 15,.tmp 16,.tmp 17,.tmp 20],argTypes:=#[186,3,125,25]}) none ?_;simp only[rG,seval,AB,AC,BL,b];refine AG a 7 (some 6) (.alloc 238) none ?_;simp only[rG,seval,AB,AC,b];refine AG a 8 (none) (.store 238 (.tmp 6) (.tmp 21)) none ?_;simp only[rG,seval,AB,AC,target,BY,b];refine BV.b (i:=9) (by kernel_rfl) ?_;clear b;have yB:AI 0 (B.c Q.a)=some (iv y.a):=by rw[j.2 _ (by omega)];exact y0
 have lB:AI 0 (B.c f.a)=some v:=by rw[h0];rfl
 cases D:(y.a==11)with
 |true=>simp only[eE,seval,↓eP,BB,AM,yB,D,Ir,lB,underlying238];exact⟨rfl,rfl,g,P.a j⟩|false=>simp only[eE,seval,↓eP,BB,AM,yB,D,underlying238];exact⟨rfl,rfl,g,P.a j⟩
end
section
variable {K nV nr:Nat} {rd:List Int} {Z:List AF} {s:AS}
theorem LT(a:eO Z s nV nr rd)(I:s.a.length<1099511627776):∀(d at_ n:Nat)(y:AF)(h:AA),AE Z at_-at_<=d->s.a[at_]?=some y->11<=y.a->K_ h K s.a nV rd nr->h.b<=h.a->3*s.a.length+200+2*d<n->∃v l,AN n 110 [HY K,iv at_] h=some (v,l)/\Wk h v l:=by
 intro d;induction d with
 |zero=>intro at_ n y h C b;have:=(a.g.g.a b).2.2.2;omega|succ d D=>
  intro at_ n y h C b m E o J;obtain⟨n,rfl⟩:∃j,n=j+2:=⟨n-2,by omega⟩;refine GY BF (Uf (N:=n+1) a.g b (by omega) E o (by omega) fun L l p q r=>?_) fun F w G _ t=>t.a;refine GY BF (LG (N:=n) a.g b m (by omega) p q r (by omega) (by omega) (a.v at_ y b) a.a (a.r at_ y b) (fun k z i f u c e=>?_) fun k x z i g A u c e=>?_) fun F w G _ t=>t.a;.exact Ja a.g (by omega) s.a.length k n z u (by have:=(a.g.g.a i).2.2.1;omega) i f c e (by omega)
  .obtain⟨j,H⟩:=dn x;obtain⟨M,B,O,P⟩:=a.g.g.a b;have w:=TD _ _ _ B j k H;have Q:=RA _ _ _ B k x;exact D k n z u (by omega) i g c e (by omega)
theorem Ra(c:eO Z s nV nr rd)(f:s.a.length<1099511627776){at_ n:Nat}{y:AF}{h:AA}(d:s.a[at_]?=some y)(a:11<=y.a)(g:K_ h K s.a nV rd nr)(b:h.b<=h.a)(i:5*s.a.length+200<n):∃v e,AN n 110 [HY K,iv at_] h=some (v,e)/\Wk h v e:=LT c f s.a.length at_ n y h (by have:=(c.g.g.a d).2.2.1;omega) d a g b (by omega)
theorem L4(g:eO Z s nV nr rd)(i:s.a.length<1099511627776){n N:Nat}{e:Int}{h:AA}(j:e=-1\/TR s e)(k:K_ h K s.a nV rd nr)(b:h.b<=h.a)(l:5*s.a.length+200<n):∃v a,AW prog (AN n) N 111 [HY K,iv e] h=some (v,a)/\Wk h v a:=by
 refine G_ (R:=fun v a=>Wk h v a) func111 rfl (by simp) ?_;have c:f111.results.toList=[.tmp 4]:=rfl;rcases j with rfl|⟨t,x,m,u⟩
 .have d:decide ((-1:Int)<0)=true:=rfl;simp only[eE,seval,↓eP,c];exact⟨rfl,rfl,rfl,Ex.c h⟩
 .have d:decide (e<0)=false:=by grind
  obtain⟨v,w,f,o,p,q,r⟩:=Ra (n:=n) (h:=h) g i m (by omega) k b l;rw[show((e.toNat:Nat):Int)=e by omega]at f;simp only[eE,seval,↓eP,c,d,f];exact⟨o,p,q,r⟩
theorem Hu(c:eO Z s nV nr rd)(d:s.a.length<1099511627776){n:Nat}{e:Int}{h:AA}(f:e=-1\/TR s e)(g:K_ h K s.a nV rd nr)(a:h.b<=h.a)(i:5*s.a.length+210<n):∃v b,AN n 111 [HY K,iv e] h=some (v,b)/\Wk h v b:=by obtain⟨n,rfl⟩:=BX i;exact GY BF (L4 (N:=n) c d f g a (by omega)) fun k l m _ j=>j.a
end
def KF(k:Int)(l:List Int):Value:=if k=4 then .iface 141 (E8 (l.getD 0 0) (l.getD 1 0) (l.getD 2 0))else if k=5 then .iface 143 (iv (l.getD 0 0))else if k=6 then .iface 144 (.bool (l.getD 0 0 !=0))else if k=13 then .iface 145 (iv (l.getD 0 0))else .nilIface
theorem j8:DK prog 141=some (E8 0 0 0):=by kernel_rfl
theorem L_:HN prog (match prog.underlying 141 with|some (.struct a)=>a.toList|_=>[])=some [(0,1),(1,1),(2,1)]:=by kernel_rfl
theorem ZB{a b c:Int}:flat (E8 a b c)=true:=rfl
theorem Mk{a b c:Int}:CL prog 141 [(0,iv a),(1,iv b),(2,iv c)]=some (E8 a b c):=by have h:=L_;rw[il]at h;simp only at h;simp only[CL,j8,ZB,ai,il,h];rfl
def tS:List (Bool×Bool×List Operand):=[AO,AO,AO,AH [.tmp 9],AH [.tmp 9],AH [.tmp 9],AH [.tmp 9,.tmp 12],AH [.tmp 9,.tmp 12],AH [.tmp 9,.tmp 12],AJ,AJ,AJ]
section
variable {n N:Nat} {h:AA}
theorem TA{l:List Int}{i:Nat}{a:Int}(h:l[i]?=some a):l.getD i 0=a:=by grind
theorem Mq{k:Int}{l:List Int}{lv:Value}{lo:Nat}(q:AK lo h lv l)(M:k=4->3<=l.length)(h1:k=5\/k=6\/k=13->1<=l.length):AW prog (AN n) N 73 [iv k,lv] h=some (KF k l,h):=by
 have x:=(EC n).2;refine DO func73 rfl (by simp) ?_;have s:f73.results.toList=[.tmp 4]:=rfl;cases r:(k==4)with
 |true=>
  have e:=ak.1 r;have O:=M e;obtain⟨a,f⟩:∃a,l[0]?=some a:=⟨_,aa (by omega)⟩;obtain⟨b,H⟩:∃b,l[1]?=some b:=⟨_,aa (by omega)⟩;obtain⟨c,I⟩:∃c,l[2]?=some c:=⟨_,aa (by omega)⟩;obtain⟨i,j,m,g,o⟩:=AK.V q f;obtain⟨J,P,Q,y,R⟩:=AK.V q H;obtain⟨K,S,T,z,U⟩:=AK.V q I;have d:BW prog 25 lv (iv 0)=some (qP i j):=m;have A:BW prog 25 lv (iv 1)=some (qP J P):=Q;have B:BW prog 25 lv (iv 2)=some (qP K S):=T;have C:(i<h.a)=True:=jf g;have D:(J<h.a)=True:=jf y;have E:(K<h.a)=True:=jf z;rw[show KF k l=.iface 141 (E8 a b c)by unfold KF;rw[ag e,TA f,TA H,TA I]];simp only[eE,seval,↓eP,r];refine WK.a (fs:=tS) (by kernel_rfl) ?_;unfold tS;iterate 12
   refine DG x ?_;simp only[rG,seval,AB,AD,AC,A7,BL,il,d,o,AM,C,A,R,D,B,U,E,Mk]
  refine DF ?_;simp only[eE,seval,s]|false=>
 have v:k≠4:=by grind
 cases t:(k==5)with|true=>have e:=ak.1 t;have u:=h1 (.inl e);obtain⟨a,f⟩:∃a,l[0]?=some a:=⟨_,aa (by omega)⟩;obtain⟨i,j,m,g,o⟩:=AK.V q f;have d:BW prog 25 lv (iv 0)=some (qP i j):=m;rw[show KF k l=.iface 143 (iv a)by unfold KF;rw[ad v,ag e,TA f]];simp only[eE,seval,↓eP,s,r,t,d,AM,o,underlying143]|false=>
 have F:k≠5:=by grind
 cases w:(k==6)with
 |true=>
  have e:=ak.1 w;have u:=h1 (.inr (.inl e));obtain⟨a,f⟩:∃a,l[0]?=some a:=⟨_,aa (by omega)⟩;obtain⟨i,j,m,g,o⟩:=AK.V q f;have d:BW prog 25 lv (iv 0)=some (qP i j):=m;rw[show KF k l=.iface 144 (.bool (a !=0))by unfold KF;rw[ad v,ad F,ag e,TA f]];simp only[eE,seval,↓eP,s,r,t,w,d,AM,o,underlying144]|false=>
 have L:k≠6:=by grind
 cases p:(k==13)with
 |true=>
  have e:=ak.1 p;have u:=h1 (.inr (.inr e));obtain⟨a,f⟩:∃a,l[0]?=some a:=⟨_,aa (by omega)⟩;obtain⟨i,j,m,g,o⟩:=AK.V q f;have d:BW prog 25 lv (iv 0)=some (qP i j):=m;rw[show KF k l=.iface 145 (iv a)by unfold KF;rw[ad v,ad F,ad L,ag e,TA f]];simp only[eE,seval,↓eP,s,r,t,w,p,d,AM,o,underlying145]|false=>
  have G:k≠13:=by grind
  rw[show KF k l=.nilIface by unfold KF;rw[ad v,ad F,ad L,ad G]];simp only[eE,seval,↓eP,s,r,t,w,p]
theorem Yh{k:Int}{l:List Int}{lv:Value}{lo:Nat}(d:AK lo h lv l)(f:k=4->3<=l.length)(h1:k=5\/k=6\/k=13->1<=l.length)(g:0<n):AN n 73 [iv k,lv] h=some (KF k l,h):=by
 obtain⟨n,rfl⟩:=BX g;have a:=Mq (n:=n) (N:=n) d f h1;cases b:E5 (KF k l)with|true=>exact FA BF b a|false=>obtain⟨c,e,rfl⟩:=PW (R:=fun c=>c=h) BF b ⟨h,a,rfl⟩;exact e
end
theorem q_(v:Value):LH prog (.iface 141 v) 141 true=some (.tuple #[v,.bool true]):=by kernel_rfl
theorem rS(v:Value):LH prog (.iface 143 v) 141 true=some (.tuple #[E8 0 0 0,.bool false]):=by kernel_rfl
theorem Ew(v:Value):LH prog (.iface 144 v) 141 true=some (.tuple #[E8 0 0 0,.bool false]):=by kernel_rfl
theorem yP(v:Value):LH prog (.iface 145 v) 141 true=some (.tuple #[E8 0 0 0,.bool false]):=by kernel_rfl
theorem Mt:LH prog .nilIface 141 true=some (.tuple #[E8 0 0 0,.bool false]):=by kernel_rfl
theorem zA(v:Value):LH prog (.iface 143 v) 143 true=some (.tuple #[v,.bool true]):=by kernel_rfl
theorem Sf(v:Value):LH prog (.iface 144 v) 143 true=some (.tuple #[iv 0,.bool false]):=by kernel_rfl
theorem rH(v:Value):LH prog (.iface 145 v) 143 true=some (.tuple #[iv 0,.bool false]):=by kernel_rfl
theorem My:LH prog .nilIface 143 true=some (.tuple #[iv 0,.bool false]):=by kernel_rfl
theorem Du(v:Value):LH prog (.iface 144 v) 144 true=some (.tuple #[v,.bool true]):=by kernel_rfl
theorem rR(v:Value):LH prog (.iface 145 v) 144 true=some (.tuple #[.bool false,.bool false]):=by kernel_rfl
theorem MX:LH prog .nilIface 144 true=some (.tuple #[.bool false,.bool false]):=by kernel_rfl
theorem pV(v:Value):LH prog (.iface 145 v) 145 true=some (.tuple #[v,.bool true]):=by kernel_rfl
theorem M9:LH prog .nilIface 145 true=some (.tuple #[iv 0,.bool false]):=by kernel_rfl
def O0(lo:Nat)(H:AA)(v:Value)(t:FK):Prop:=∃a b c,v=.agg #[a,b,c]/\JM 142 H lo a t.V.length (FZ t.V)/\JM 3 H lo b t.G.length (ints t.G)/\QE lo H c t.a
theorem QE.c{lo:Nat}{h h':AA}{v:Value}{l:List Int}(a:QE lo h v l)(f:h.a<=h'.a)(g:∀i,lo<=i->i<h.a->(∃b,h.c i=.row b 3 false false)->h'.c i=h.c i):QE lo h' v l:=by
 rcases a with c|⟨d,rfl,e,j,k⟩;.exact .inl c
 .exact .inr ⟨d,rfl,e,by omega,by grind⟩
theorem QE.b{lo lo':Nat}{h:AA}{v:Value}{l:List Int}(a:QE lo h v l)(b:lo'<=lo):QE lo' h v l:=by
 rcases a with c|⟨d,rfl,g,e,f⟩;.exact .inl c
 .exact .inr ⟨d,rfl,by omega,e,f⟩
theorem JM.d{e:TypeId}{h:AA}{lo lo':Nat}{v:Value}{n:Nat}{cs:List Value}(b:JM e h lo v n cs)(c:lo'<=lo):JM e h lo' v n cs:=by
 rcases b with a|⟨d,a,i,f,g⟩;.exact .inl a
 .exact .inr ⟨d,a,by omega,f,g⟩
theorem O0.b{lo:Nat}{H:AA}{v:Value}{t:FK}(a:O0 lo H v t):GH lo H v t:=by obtain⟨b,c,d,rfl,e,f,g⟩:=a;exact⟨b,c,d,rfl,e.b (WT _) (af _),f.b (by rw[IE];omega) (af _),g.a⟩
theorem O0.c{lo:Nat}{H H':AA}{v:Value}{t:FK}(e:O0 lo H v t)(c:H.a<=H'.a)(d:∀i,lo<=i->i<H.a->H'.c i=H.c i):O0 lo H' v t:=by obtain⟨f,g,h,rfl,j,k,l⟩:=e;exact⟨f,g,h,rfl,j.a c fun i a _ b=>d i b a,k.a c fun i a _ b=>d i b a,l.c c fun i a b _=>d i a b⟩
theorem O0.a{lo lo':Nat}{H:AA}{v:Value}{t:FK}(b:O0 lo H v t)(a:lo'<=lo):O0 lo' H v t:=by obtain⟨c,d,e,rfl,f,g,h⟩:=b;exact⟨c,d,e,rfl,f.d a,g.d a,h.b a⟩
theorem TG(lo:Nat)(H:AA):O0 lo H zT U7:=⟨_,_,_,rfl,.inl ⟨rfl,rfl,rfl⟩,.inl ⟨rfl,rfl,rfl⟩,.inl ⟨rfl,rfl⟩⟩
theorem Zk{lo:Nat}{H:AA}{v f:Value}{t:FK}(g:O0 lo H v t)(h:E5 (.tuple #[v,f])=true)(lo':Nat)(H':AA):O0 lo' H' v t:=by
 obtain⟨b,c,d,rfl,a,i,j⟩:=g;have k:B7 b=true/\B7 c=true/\B7 d=true:=by
  simp[E5,flat,B7]at h⊢;grind
 obtain⟨l,m,n⟩:=k;refine⟨b,c,d,rfl,?_,?_,?_⟩
 .rcases a with a|⟨e,rfl,_⟩;.exact .inl a
  .cases l
 .rcases i with a|⟨e,rfl,_⟩;.exact .inl a
  .cases m
 .rcases j with a|⟨e,rfl,_⟩;.exact .inl a
  .cases n
section
variable {B H:AA} {RI m:Nat} {t:FK}
theorem LJ.c(a:LJ B RI m H t):∃v,AX 3 0 (H.c (RI+1))=some v/\O0 RI H v t/\v.cells.size=3:=by have h:=a.n;have d:=a.l;obtain⟨b,c,e,f,g⟩:=a.y;subst d;exact⟨.agg #[b,c,qS RI t.a.length t.a.length],by rw[e];rfl,⟨b,c,_,rfl,f.d (by omega),g.d (by omega),.inr ⟨RI,rfl,af _,by omega,a.r⟩⟩,rfl⟩
theorem SH{a:Nat}{v:Value}(l:H.c a=.row [Z0,Z0,Z0] 30 false false)(F:H.c (a+1)=.row [iv 0,iv 0] 43 false false)(n:a+1<H.a)(o:H.b<=a)(h:O0 (a+2) H v t)(e x:Int):∃c b,BD prog H 30 (qP a 0) v=some c/\BD prog c 43 (qP (a+1) 0) (EE e x)=some b/\AX 3 0 (b.c a)=some v/\AX 2 0 (b.c (a+1))=some (EE e x)/\O0 (a+2) b v t/\c.a=H.a/\b.a=H.a/\c.b=H.b/\b.b=H.b/\(∀i,i≠a->c.c i=H.c i)/\∀i,i<a->b.c i=H.c i:=by
 obtain⟨d,f,g,rfl,p,q,r⟩:=id h.b;have s:([d,f,g]:List Value).all one=true:=by simp only[az,bd,AL.a p,AL.a q,AL.a r,ao]
 have u:=GQ (vs:=[d,f,g]) JJ l rfl rfl s o;have w:∀j,j≠a->(H.e a (.row [d,f,g] 30 false false)).c j=H.c j:=fun j y=>AP (by omega) (bc y);obtain⟨b,z,A,k,C,D⟩:=U6 (H:=H.e a (.row [d,f,g] 30 false false)) (id:=a+1) (by grind) n (by show H.b<=a+1;omega) e x;have E:b.c a=.row [d,f,g] 30 false false:=by rw[D a (by omega),BE rfl (by omega)]
 exact⟨_,b,u,z,by rw[E];rfl,A,h.c (by rw[k];exact af _) fun i G I=>by grind,rfl,k,rfl,C,w,fun i J=>by grind⟩
end
end Go.Proofs.YtjailoenloejbaaGreatDoor




