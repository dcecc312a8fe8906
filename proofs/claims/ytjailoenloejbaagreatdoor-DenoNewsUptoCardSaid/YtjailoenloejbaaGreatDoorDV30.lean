/- Part 30. -/
import Derived.Test.YtjailoenloejbaaGreatDoorDV29
set_option linter.all false
namespace Go.Proofs.YtjailoenloejbaaGreatDoor
open Go Go.Sx Go.Proofs.Tryz
set_option maxRecDepth 100000
set_option maxHeartbeats 0
noncomputable def E6(s:AS)(size:Int)(C:List Int)(p:Nat):Int:=(DX s.a (AE (AU s.a)) size C p).getD 0
noncomputable def Q3(s:AS)(size:Int)(C:List Int):(Int×Int)×FK:=ID s.a (AE (AU s.a)) (E6 s size C) s.a.length 0 ⟨[],[],List.replicate s.a.length 0⟩
noncomputable def CD(nm:ByteArray)(s:AS)(size:Int)(C:List Int):(Int×Int)×FK:=if(DW nm s).1.1≠0 then((DW nm s).1,U7)else if EU nm s size C≠0 then((EU nm s size C,0),U7)else Q3 s size C
def jK(H:AA)(lo:Nat)(v:Value)(r:(Int×Int)×FK):Prop:=∃a,v=.tuple #[a,EE r.1.1 r.1.2]/\GH lo H a r.2
def vP(H:AA)(lo:Nat)(v:Value)(r:(Int×Int)×FK):Prop:=∃a,v=.tuple #[a,EE r.1.1 r.1.2]/\O0 lo H a r.2
section
variable {P:Program} {call:AY} {n:Nat} {a b c p d:Code} {s:St} {k:DH}
theorem RK(h:WK P call n (.seq a p) s (.seq d k)):WK P call n (.seq a (.seq p d)) s k:=by rw[NB]at h⊢;refine WS.a h fun e f g=>?_;cases e with
 |normal=>
  show WK P call n (.seq p d) f k;rw[NB];exact g|exit i=>exact g|ret=>exact g
theorem Xz(h:WK P call n (.seq a (.seq b p)) s (.seq d k)):WK P call n (.seq a (.seq b (.seq p d))) s k:=by rw[NB]at h⊢;refine WS.a h fun e f g=>?_;cases e with|normal=>exact RK g|exit i=>exact g|ret=>exact g
theorem Hg(h:WK P call n (.seq a (.seq b (.seq c p))) s (.seq d k)):WK P call n (.seq a (.seq b (.seq c (.seq p d)))) s k:=by rw[NB]at h⊢;refine WS.a h fun e f g=>?_;cases e with|normal=>exact Xz g|exit i=>exact g|ret=>exact g
end
theorem Ln:BN prog 141=some 3:=by kernel_rfl
theorem Uh:HC prog 141=some true:=by kernel_rfl
section
variable {h:AA} {id off:Nat}
theorem p_:EP prog h 141 (qP id off)=AX 3 off (h.c id):=NF Uh Ln
theorem zH:BC prog 141 (qP id off) 0=some (qP id off):=by simp[BC,il,B_,CB]
theorem z_:BC prog 141 (qP id off) 1=some (qP id (off+1)):=by simp[BC,il,B_,CB]
theorem Ry:BC prog 141 (qP id off) 2=some (qP id (off+2)):=by simp[BC,il,B_,CB]
end
def QT(k:Int):Bool:=k==4||(k==5||(k==6||k==13))
def p7:List (Bool×Bool×List Operand):=[AO,AJ,AH [.tmp 7],AJ]
def rZ:List (Bool×Bool×List Operand):=[AO,AJ,AH [.tmp 8],AJ]
section
variable {s:AS} {i:Nat} {x:AF}
theorem nS(d:FH (AU s.a) s)(e:s.a[i]?=some x):(x.a=4\/x.a=13->x.b=3)/\(x.a=5\/x.a=6->x.b=1):=by
 obtain⟨z,f,g,j⟩:=d.z e;have b:=d.t.X f;unfold EW at b;simp only[ah,am,bu]at b;obtain⟨⟨_,c⟩,a⟩:=b;rw[<-g,<-j]at c a;refine⟨fun h=>?_,fun h=>?_⟩<;>(rcases h with h|h<;>(rw[h]at c a;rcases a with a|a<;>simp[DV,F8]at a c<;>omega))
theorem RP(a:FH (AU s.a) s)(b:s.a[i]?=some x)(c:QT x.a=true)(f:Nat->Int):(x.a=4->(A9 (AE (AU s.a)) x.b.toNat (i+1)).map f=[f (i+1),f (AE (AU s.a) (i+1)),f (AE (AU s.a) (AE (AU s.a) (i+1)))])/\((A9 (AE (AU s.a)) x.b.toNat (i+1)).map f)[0]?=some (f (i+1)):=by
 obtain⟨d,g⟩:=nS a b;refine⟨fun h=>?_,?_⟩
 .rw[d (.inl h)];rfl
 .have j:0<x.b:=by
   unfold QT at c;grind
  obtain⟨r,e⟩:∃r,x.b.toNat=r+1:=⟨x.b.toNat-1,by omega⟩;rw[e];rfl
end
def MidP(B:AA)(a c D i:Nat)(h:AA)(vr:Value)(s:AS)(x:AF)(t:FK)(L:List Int)(e:FJ)(s':St):Prop:=e=.normal/\s'.T.a 2=qP h.a 0/\s'.T.a 4=qP (h.a+2) 0/\s'.T.a 5=qP (h.a+3) 0/\s'.T.a 9=qS c s.a.length s.a.length/\s'.T.a 11=qP (a+1) 0/\s'.T.a 52=vr/\s'.T.a 53=iv (s.a.length:Int)/\s'.T.a 54=iv (i:Int)/\s'.T.a 12=iv (i:Int)/\s'.T.a 13=qP D 0/\s'.T.a 14=iv 0/\LJ B a s.a.length s'.h t/\s'.h.c D=.row (AQ x) 125 false false/\∃b,s'.T.a 15=b/\AK 0 s'.h b L
section
variable {n N:Nat} {h:AA}
theorem RX{nm:ByteArray}{s:AS}{pv cv:Value}{lo lc:Nat}{size:Int}{C:List Int}(hp:CG lo h pv nm s)(hc:F6 lc h cv size C)(x4:∀nm' W vq vv vt vu vo m,pv=.agg #[.string nm',W,vq,vv,vt,vu,vo,m]->M8 W s.a.length)(hs:F7 s)(hl:s.a.length<2932031007403)(hC:C.length<17592186044416)(hg:h.c 0=EM)(hn0:0<h.a)(hfl:h.b<=h.a)(hn:2*DS s+101000+C.length<n)(hN:2*DS s+1000<N):∃v' h',AW prog (AN n) N 14 [pv,cv] h=some (v',h')/\vP h' h.a v' (CD nm s size C)/\h'.b=h.b/\h.a<=h'.a/\∀i,i<h.a->h'.c i=h.c i:=by
 obtain⟨W,vq,vv,vt,vu,vo,rfl,p1,p2,p3,p4,p5,p6⟩:=id hp;obtain⟨vc,rfl,pc⟩:=id hc;have hsn:=(EC n).2;have htot:DS s=s.a.length+s.b.length+s.f.length+s.g.length+s.d.length+s.h.length:=rfl;refine G_ (R:=fun v' h'=>vP h' h.a v' (CD nm s size C)/\h'.b=h.b/\h.a<=h'.a/\∀i,i<h.a->h'.c i=h.c i) func14 rfl (by simp[f14]) ?_;have hr:f14.results.toList=[.cell 4 30,.cell 5 43]:=rfl;have ca:=C9 [.string nm,W,vq,vv,vt,vu,vo,iv s.c];have oa:=IV (nm:=nm) p1 p2 p3 p4 p5 p6;have cb:=C9 [iv size,vc];have ob:[iv size,vc].all one=true:=by simp only[az,bd,AL.a pc,JQ,ao]
 have zcT:zT.cells.toList=[Z0,Z0,Z0]:=rfl;obtain⟨gA,gB,gT,gF,nG,fG,gO⟩:=i_ h (.row [.string nm,W,vq,vv,vt,vu,vo,iv s.c] 27 false false) (.row [iv size,vc] 32 false false) (.row [Z0,Z0,Z0] 30 false false) (.row [iv 0,iv 0] 43 false false);simp only[eE,seval,DJ,ca,oa,cb,ob,EQ,HQ,M7,MS,zcT,GO,GS,I3];generalize(((h.d (.row [.string nm,W,vq,vv,vt,vu,vo,iv s.c] 27 false false)).d (.row [iv size,vc] 32 false false)).d (.row [Z0,Z0,Z0] 30 false false)).d (.row [iv 0,iv 0] 43 false false)=Q at*;have nn:h.a+1+1=h.a+2:=rfl;have J:h.a+2+1=h.a+3:=rfl;have lA:AX 8 0 (Q.c h.a)=some (.agg #[.string nm,W,vq,vv,vt,vu,vo,iv s.c]):=IY gA rfl;have hpQ:CG lo Q (.agg #[.string nm,W,vq,vv,vt,vu,vo,iv s.c]) nm s:=hp.a (by omega) fun i _ hi=>gO i hi;have len1:=fun h'=>Q6 p1.2 h';obtain⟨v2,H1,y4,⟨tv,z5,hI⟩,f1,n1,o1⟩:=Wc (n:=n) hpQ x4 hs (by omega) (by rw[gO 0 hn0];exact hg) (by omega) (by omega) (by omega);subst z5;obtain⟨Y,stD,gD,nD,fD,oD⟩:=OV (t:=43) MR (H:=H1) (zs:=[iv 0,iv 0]) (vs:=[iv (DW nm s).1.1,iv (DW nm s).1.2]) rfl rfl rfl (by omega);have g2:BD prog (H1.d (.row [iv 0,iv 0] 43 false false)) 43 (qP H1.a 0) (EE (DW nm s).1.1 (DW nm s).1.2)=some Y:=stD;have x5:∀i,i<Q.a->Y.c i=Q.c i:=by grind
 have y5:∀i,i<h.a->Y.c i=h.c i:=by grind
 have e0:AI 0 (Y.c H1.a)=some (iv (DW nm s).1.1):=by rw[gD];rfl
 have z6:Y.c (h.a+2)=.row [Z0,Z0,Z0] 30 false false:=by rw[x5 _ (by omega)];exact gT
 have z7:Y.c (h.a+3)=.row [iv 0,iv 0] 43 false false:=by rw[x5 _ (by omega)];exact gF
 have z8:AX 8 0 (Y.c h.a)=some (.agg #[.string nm,W,vq,vv,vt,vu,vo,iv s.c]):=by rw[x5 _ (by omega)];exact lA
 have z9:AX 2 0 (Y.c (h.a+1))=some (.agg #[iv size,vc]):=by rw[x5 _ (by omega),gB];rfl
 have hpD:CG lo Y (.agg #[.string nm,W,vq,vv,vt,vu,vo,iv s.c]) nm s:=hp.a (by omega) fun i _ hi=>y5 i hi;have hcD:F6 lc Y (.agg #[iv size,vc]) size C:=hc.a (by omega) fun i _ hi=>y5 i hi;cases d1:((DW nm s).1.1 !=0)with
 |true=>
  have eR:CD nm s size C=((DW nm s).1,U7):=by unfold CD;rw[ag (by simpa using d1)]
  rw[eR];obtain⟨G1,y,Z,A,s3,F,s5,s6,s7,s8,s9,sa,sb⟩:=SH z6 z7 (by omega) (by omega) (TG (h.a+2+2) Y) (DW nm s).1.1 (DW nm s).1.2;rw[J]at A F;have lD:AX 2 0 (Y.c H1.a)=some (EE (DW nm s).1.1 (DW nm s).1.2):=by rw[gD];rfl
  have u0:(DP (qP H1.a 0)!=DP (qP (h.a+2) 0))=true:=by simp[DP];omega
  have u1:G1.f Y.b=G1:=by rw[<-s8];exact C0 G1
  have fH2:y.f Y.b=y:=by rw[<-s9];exact C0 y
  have u3:y.f G1.b=y:=by rw[s8,<-s9];exact C0 y
  simp only[eE,seval,↓eP,nn,J,C7,lA,y4,GO,GS,I3,g2,HX,HV,e0,d1];refine WK.a (fs:=p7) (by kernel_rfl) ?_;unfold p7;iterate 4
   refine DG hsn ?_;simp only[rG,seval,AB,AD,AC,A7,BL,target,BY,DB,M4,FD,lD,u0,Z,u1,A,u3]
  refine DF ?_;simp only[eE,seval,hr,FU,s3,FD,F];exact⟨⟨_,rfl,s5.a (by omega)⟩,by omega,by omega,fun i hi=>by rw[sb i (by omega)];exact y5 i hi⟩|false=>
 have z1:(DW nm s).1.1=0:=by simpa using d1
 obtain⟨hck,hG,hO,hz2⟩:=mK z1;have x6:=Rn (n:=n) hpD hcD x4 (by omega) (by rw[y5 0 hn0];exact hg) (by omega) hs (by omega) (by omega) (by omega);obtain⟨E,stE,gE,nE,fE,oE⟩:=OV (t:=43) MR (H:=Y) (zs:=[iv 0,iv 0]) (vs:=[iv (EU nm s size C),iv 0]) rfl rfl rfl (by omega);have x8:BD prog (Y.d (.row [iv 0,iv 0] 43 false false)) 43 (qP Y.a 0) (EE (EU nm s size C) 0)=some E:=stE;have e1:AI 0 (E.c Y.a)=some (iv (EU nm s size C)):=by rw[gE];rfl
 have y6:∀i,i<h.a->E.c i=h.c i:=by grind
 have u6:E.c (h.a+2)=.row [Z0,Z0,Z0] 30 false false:=by rw[oE _ (by omega)];exact z6
 have u7:E.c (h.a+3)=.row [iv 0,iv 0] 43 false false:=by rw[oE _ (by omega)];exact z7
 cases d2:(EU nm s size C !=0)with
 |true=>
  have eR:CD nm s size C=((EU nm s size C,0),U7):=by unfold CD;rw[ad (by rw[z1];decide),ag (by simpa using d2)]
  rw[eR];obtain⟨G1,y,Z,A,s3,F,s5,s6,s7,s8,s9,sa,sb⟩:=SH u6 u7 (by omega) (by omega) (TG (h.a+2+2) E) (EU nm s size C) 0;rw[J]at A F;have lE:AX 2 0 (E.c Y.a)=some (EE (EU nm s size C) 0):=by rw[gE];rfl
  have u0:(DP (qP Y.a 0)!=DP (qP (h.a+2) 0))=true:=by simp[DP];omega
  have u1:G1.f E.b=G1:=by rw[<-s8];exact C0 G1
  have fH2:y.f E.b=y:=by rw[<-s9];exact C0 y
  have u3:y.f G1.b=y:=by rw[s8,<-s9];exact C0 y
  simp only[eE,seval,↓eP,nn,J,C7,lA,y4,GO,GS,I3,g2,HX,HV,e0,d1,z8,G7,z9,x6,x8,e1,d2];refine WK.a (fs:=rZ) (by kernel_rfl) ?_;unfold rZ;iterate 4 refine DG hsn ?_;simp only[rG,seval,AB,AD,AC,A7,BL,target,BY,DB,M4,FD,lE,u0,Z,u1,A,u3]
  refine DF ?_;simp only[eE,seval,hr,FU,s3,FD,F];exact⟨⟨_,rfl,s5.a (by omega)⟩,by omega,by omega,fun i hi=>by rw[sb i (by omega)];exact y6 i hi⟩|false=>
 have z2:EU nm s size C=0:=by simpa using d2
 have hF:=wU z2;have eR:CD nm s size C=Q3 s size C:=by unfold CD;rw[ad (by rw[z1];decide),ad (by rw[z2];decide)]
 rw[eR];have lAE:AX 8 0 (E.c h.a)=some (.agg #[.string nm,W,vq,vv,vt,vu,vo,iv s.c]):=by rw[oE _ (by omega)];exact z8
 have lBE:AX 2 0 (E.c (h.a+1))=some (.agg #[iv size,vc]):=by rw[oE _ (by omega)];exact z9
 obtain⟨B,z0,Pp,CC,V,I,hT,hV⟩:=Yd (n:=n) (h:=E) hG hF (hp.a (by omega) fun i _ hi=>y6 i hi) (hc.a (by omega) fun i _ hi=>y6 i hi) hl (by omega) (by omega);obtain⟨hV1,hV2,hV3⟩:=hV;have hmal:∀p,p<s.a.length->V[p]?=some (E6 s size C p):=fun p hp=>((hV3 p hp).1 (bg _)).1;have nB:=hT.n;have fB:=hT.f;have gV:=hT.v;have oBh:∀i,i<h.a->B.c i=h.c i:=fun i hi=>by rw[hT.o i (by omega)];exact y6 i hi
 have gAB:B.c h.a=.row [.string nm,W,vq,vv,vt,vu,vo,iv s.c] 27 false false:=by rw[hT.o _ (by omega),oE _ (by omega),x5 _ (by omega)];exact gA
 have h3:B.c (h.a+2)=.row [Z0,Z0,Z0] 30 false false:=by rw[hT.o _ (by omega)];exact u6
 have h4:B.c (h.a+3)=.row [iv 0,iv 0] 43 false false:=by rw[hT.o _ (by omega)];exact u7
 have x1:AI 1 (B.c h.a)=some W:=by rw[gAB];rfl
 have ML:J7 prog B 25 (iv (s.a.length:Int)) (iv (s.a.length:Int))=some (qS B.a s.a.length s.a.length,B.d (.row (ints (List.replicate s.a.length 0)) 3 false false)):=by
  have:=R0 (P:=prog) (h:=B) (t:=25) (e:=3) (z:=.int .i64 0) au B_ IZ GD rfl rfl (by decide) (by decide) (n:=s.a.length) (by omega);rw[show CF (Value.int IntKind.i64 0).cells.toList s.a.length=ints (List.replicate s.a.length 0)from WQ _]at this;exact this
 obtain⟨H7,stT,g7,n7,f7,o7⟩:=OV (t:=30) JJ (H:=B.d (.row (ints (List.replicate s.a.length 0)) 3 false false)) (zs:=[Z0,Z0,Z0]) (vs:=[Z0,Z0,qS B.a s.a.length s.a.length]) rfl rfl rfl (by show B.b<=B.a+1;omega);rw[BU]at g7 n7 o7;have z3:BD prog ((B.d (.row (ints (List.replicate s.a.length 0)) 3 false false)).d (.row [Z0,Z0,Z0] 30 false false)) 30 (qP (B.a+1) 0) (.agg #[Z0,Z0,qS B.a s.a.length s.a.length])=some H7:=stT;have o7B:∀i,i<B.a->H7.c i=B.c i:=fun i hi=>by rw[o7 i (by omega),AV hi]
 have x7:AI 1 (H7.c h.a)=some W:=by rw[o7B _ (by omega)];exact x1
 have u8:LJ B B.a s.a.length H7 ⟨[],[],List.replicate s.a.length 0⟩:=⟨by rw[o7 _ (by omega)];exact BJ,gu,⟨_,_,g7,.inl ⟨rfl,rfl,rfl⟩,.inl ⟨rfl,rfl,rfl⟩⟩,by omega,f7,o7B⟩;simp only[eE,seval,↓eP,nn,J,C7,lA,y4,GO,GS,I3,g2,ab,HX,HV,e0,d1,z8,G7,z9,x6,x8,e1,d2,lAE,lBE,z0,CK,CJ,x1,len1,ML,Le,M7,MS,zcT,BU,z3,x7];clear stT z3 g7 o7 ML x7 x6 y4 stD g2 stE x8 e0 e1 z0;obtain⟨t0,y7⟩:∃t0:FK,t0=⟨[],[],List.replicate s.a.length 0⟩:=⟨_,rfl⟩;have eG:Q3 s size C=ID s.a (AE (AU s.a)) (E6 s size C) s.a.length 0 t0:=by rw[y7];rfl
 rw[<-y7]at u8;have hv0:t0.V.length=0/\t0.G.length=0:=by rw[y7];exact⟨rfl,rfl⟩
 clear y7;obtain⟨RI,hRI⟩:∃RI,RI=B.a:=⟨_,rfl⟩;obtain⟨VI,hVI⟩:∃VI,VI=E.a+2:=⟨_,rfl⟩;rw[<-hRI]at u8⊢;rw[<-hVI]at gV⊢;have hb1:h.a+4<=VI/\VI<RI/\B.b<=RI/\B.b=h.b:=by omega
 clear nB fB hT hpD hcD hpQ lAE lBE u6 u7 z6 z7 oE oD o1 gE gD;refine WK.b (fun i g=>g.T.a 2=qP h.a 0/\g.T.a 4=qP (h.a+2) 0/\g.T.a 5=qP (h.a+3) 0/\g.T.a 9=qS VI s.a.length s.a.length/\g.T.a 11=qP (RI+1) 0/\g.T.a 52=W/\g.T.a 53=iv (s.a.length:Int)/\g.T.a 54=iv (i:Int)/\i<=s.a.length/\∃t,LJ B RI s.a.length g.h t/\ID s.a (AE (AU s.a)) (E6 s size C) (s.a.length-i) i t=Q3 s size C/\t.V.length<=i/\t.G.length<=i) s.a.length (by omega) ?_ ?_;.exact⟨by simp only[eE,seval],by simp only[eE,seval],by simp only[eE,seval],by simp only[eE,seval],by simp only[eE,seval],by simp only[eE,seval],by simp only[eE,seval],by simp only[eE,seval]<;>rfl,by omega,t0,u8,eG.symm,by omega,by omega⟩
 rintro i⟨T,H⟩hi⟨t2,t4,t5,t9,g5,x9,h6,h7,hil,t,hK,l,htV,htG⟩;simp only at t2 t4 t5 t9 g5 x9 h6 h7 hK;have hnK:=hK.n;have hfK:=hK.a;have v0:∀j,j<h.a->H.c j=h.c j:=fun j X=>by rw[hK.o j (by omega)];exact oBh j X
 by_cases h5:i<s.a.length;rotate_left
 .have c1:decide ((i:Int)<(s.a.length:Int))=false:=by simp;omega
  have hin:i=s.a.length:=by omega
  subst hin;have eZ:Q3 s size C=((0,0),t):=by rw[<-l,jc];rfl
  rw[eZ];obtain⟨v,k1,k2,k3⟩:=hK.c;obtain⟨G1,y,Z,A,s3,F,s5,s6,s7,s8,s9,sa,sb⟩:=SH (H:=H) (a:=h.a+2) (by rw[hK.o _ (by omega)];exact h3) (by rw[hK.o _ (by omega)];exact h4) (by omega) (by omega) (k2.a (by omega)) 0 0;rw[J]at A F;simp only[eE,seval,↓eP,hr,t4,t5,g5,h6,h7,c1,FU,k1,QV,Z,A,s3,FD,F];exact⟨⟨_,rfl,s5.a (by omega)⟩,by omega,by omega,fun j X=>by rw[sb j (by omega)];exact v0 j X⟩
 have c1:decide ((i:Int)<(s.a.length:Int))=true:=by simp;omega
 obtain⟨x,hx⟩:∃x,s.a[i]?=some x:=⟨_,aa h5⟩;obtain⟨r,hr1⟩:∃r,s.a.length-i=r+1:=⟨s.a.length-i-1,by omega⟩;rw[hr1]at l;have y2:s.a.length-(i+1)=r:=by omega
 have hvH:A8 H W s.a:=p1.1.a (by omega) v0;obtain⟨ia,pa,ea,hia,_,_,_,_,_,la⟩:=hvH.b hx;have fz:flat (CW DL)=true:=rfl;obtain⟨H2,stX,gX,n2,f2,o2⟩:=OV (t:=125) GC (H:=H) (zs:=AQ DL) (vs:=AQ x) rfl rfl rfl (by omega);have g3:BD prog (H.d (.row (AQ DL) 125 false false)) 125 (qP H.a 0) (CW x)=some H2:=stX;have hK2:=hK.b (H':=H2) (by omega) f2 o2;have y0:AI 0 (H2.c H.a)=some (iv x.a):=by rw[gX];rfl
 have w1:=DU i;simp only[TC,seval,↓eP,h6,h7,c1];rw[XF];refine Hg ?_;obtain⟨D,hD⟩:∃D,D=H.a:=⟨_,rfl⟩;obtain⟨L,hL⟩:∃L:List Int,L=if QT x.a=true then(A9 (AE (AU s.a)) x.b.toNat (i+1)).map (E6 s size C)else[]:=⟨_,rfl⟩;refine iH (MidP B RI VI D i h W s x t L) ?_ ?_
 .refine Hg ?_;refine iH (fun e g=>e=.normal/\g.h=H2/\g.T.a 2=qP h.a 0/\g.T.a 4=qP (h.a+2) 0/\g.T.a 5=qP (h.a+3) 0/\g.T.a 9=qS VI s.a.length s.a.length/\g.T.a 11=qP (RI+1) 0/\g.T.a 52=W/\g.T.a 53=iv (s.a.length:Int)/\g.T.a 54=iv (i:Int)/\g.T.a 12=iv (i:Int)/\g.T.a 13=qP D 0/\g.T.a 14=iv 0/\g.T.a 15=Z0/\g.T.a 76=.bool (QT x.a)) ?_ ?_;.cases c4:(x.a==4)with|true=>simp only[eE,seval,t2,t4,t5,t9,g5,x9,h6,h7,ea,FX,la,FC,fz,zr,g3,BB,AM,y0,c4,QT,fa,hD]|false=>cases c5:(x.a==5)with|true=>simp only[eE,seval,t2,t4,t5,t9,g5,x9,h6,h7,ea,FX,la,FC,fz,zr,g3,BB,AM,y0,c4,c5,QT,fa,eg,hD]|false=>cases c6:(x.a==6)with
   |true=>simp only[eE,seval,t2,t4,t5,t9,g5,x9,h6,h7,ea,FX,la,FC,fz,zr,g3,BB,AM,y0,c4,c5,c6,QT,fa,eg,hD]|false=>simp only[eE,seval,t2,t4,t5,t9,g5,x9,h6,h7,ea,FX,la,FC,fz,zr,g3,BB,AM,y0,c4,c5,c6,QT,eg,hD]
  rintro e⟨T3,HH⟩⟨rfl,hh,u2,u4,u5,u9,v1,v3,v6,v7,y8,v8,w0,w3,y3⟩;simp only at hh u2 u4 u5 u9 v1 v3 v6 v7 y8 v8 w0 w3 y3;subst hh;cases hd:QT x.a with
  |false=>
   rw[hd]at y3;have h8:L=[]:=by rw[hL,ad (by rw[hd];decide)]
   simp only[eE,seval,↓eP,y3];exact⟨rfl,by simp only[seval,u2],by simp only[seval,u4],by simp only[seval,u5],by simp only[seval,u9],by simp only[seval,v1],by simp only[seval,v3],by simp only[seval,v6],by simp only[seval,v7],by simp only[seval,y8],by simp only[seval,v8],by simp only[seval,w0],hK2,by rw[hD];exact gX,_,w3,by rw[h8];exact AL.e 0 _ 1⟩|true=>
   rw[hd]at y3;have hL1:L=(A9 (AE (AU s.a)) x.b.toNat (i+1)).map (E6 s size C):=by rw[hL,ag hd]
   have x2:AI 1 (HH.c h.a)=some W:=by rw[o2 _ (by omega),hK.o _ (by omega)];exact x1
   have z5:A8 HH W s.a:=p1.1.a (by omega) fun j X=>by rw[o2 j (by omega)];exact v0 j X
   obtain⟨zz,hzz,_,hzk⟩:=hG.z hx;obtain⟨kv,H5,w6,hkL,f5,n5,o5⟩:=bB (n:=n) hG.t hG.b z5 hzz (by omega) (by omega) (by omega);rw[<-hzk]at hkL;have hkc:=hkL.a (af _);have z4:=fun h'=>J8 hkc h';have hkl:((A9 (AE (AU s.a)) x.b.toNat (i+1)).map (fun(k:Nat)=>(k:Int))).length=x.b.toNat:=by rw[bw,OE]
   obtain⟨k0,hch,hel,hei⟩:=hG.a hx;rw[hkl,show((x.b.toNat:Nat):Int)=x.b by omega]at z4;have hK5:=hK2.b (H':=H5) (by omega) f5 o5;have gX5:H5.c D=.row (AQ x) 125 false false:=by rw[o5 D (by omega),hD];exact gX
   have gV5:∀j,j<RI->H5.c j=B.c j:=hK5.o;simp only[eE,seval,↓eP,u2,y8,y3,ab,CK,CJ,x2,w6,z4];generalize hks:A9 (AE (AU s.a)) x.b.toNat (i+1)=ks at*;have hksl:ks.length=x.b.toNat:=by rw[<-hks,OE]
   have hk3:x.b<=3:=by
    obtain⟨q3,q1⟩:=nS hG hx;unfold QT at hd;simp at hd;rcases hd with h|h|h|h;.rw[q3 (.inl h)];decide
    .rw[q1 (.inl h)];decide
    .rw[q1 (.inr h)];decide
    .rw[q3 (.inr h)];decide
   refine WK.b (fun q g=>g.T.a 2=qP h.a 0/\g.T.a 4=qP (h.a+2) 0/\g.T.a 5=qP (h.a+3) 0/\g.T.a 9=qS VI s.a.length s.a.length/\g.T.a 11=qP (RI+1) 0/\g.T.a 52=W/\g.T.a 53=iv (s.a.length:Int)/\g.T.a 54=iv (i:Int)/\g.T.a 12=iv (i:Int)/\g.T.a 13=qP D 0/\g.T.a 14=iv 0/\g.T.a 80=kv/\g.T.a 81=iv x.b/\g.T.a 82=iv (q:Int)/\q<=x.b.toNat/\H5.a<=g.h.a/\g.h.b=H5.b/\(∀j,j<H5.a->g.h.c j=H5.c j)/\∃w,g.T.a 15=w/\GM g.h H5.a w ((ks.take q).map (E6 s size C))) x.b.toNat (by omega) ?_ ?_;.exact⟨by simp only[eE,seval,u2],by simp only[eE,seval,u4],by simp only[eE,seval,u5],by simp only[eE,seval,u9],by simp only[eE,seval,v1],by simp only[eE,seval,v3],by simp only[eE,seval,v6],by simp only[eE,seval,v7],by simp only[eE,seval,y8],by simp only[eE,seval,v8],by simp only[eE,seval,w0],by simp only[eE,seval],by simp only[eE,seval],by simp only[eE,seval]<;>rfl,by omega,af _,rfl,fun _ _=>rfl,Z0,by simp only[eE,seval,w3],.inl ⟨rfl,rfl⟩⟩
   rintro q⟨T4,H6⟩hq⟨w2,w4,w5,w9,w7,w8,w53,w54,w12,w13,w14,w80,w81,w82,hqk,n6,f6,o6,w,w15,y9⟩;simp only at w2 w4 w5 w9 w7 w8 w53 w54 w12 w13 w14 w80 w81 w82 n6 f6 o6 w15 y9;by_cases hql:q<x.b.toNat;rotate_left
   .have c3:decide ((q:Int)<x.b)=false:=by simp;omega
    have hq9:q=x.b.toNat:=by omega
    subst hq9;rw[di (by omega)]at y9;simp only[eE,seval,↓eP,w81,w82,c3];exact⟨rfl,by simp only[eE,seval,w2],by simp only[eE,seval,w4],by simp only[eE,seval,w5],by simp only[eE,seval,w9],by simp only[eE,seval,w7],by simp only[eE,seval,w8],by simp only[eE,seval,w53],by simp only[eE,seval,w54],by simp only[eE,seval,w12],by simp only[eE,seval,w13],by simp only[eE,seval,w14],hK5.b n6 f6 o6,by rw[o6 D (by omega)];exact gX5,_,by simp only[eE,seval,w15];rfl,by rw[hL1];exact y9.a (bg _)⟩
   have c3:decide ((q:Int)<x.b)=true:=by simp;omega
   obtain⟨p,hpk⟩:∃p,ks[q]?=some p:=⟨_,aa (by omega)⟩;obtain⟨hip,hpl⟩:=hG.d (k:=q) hx (by rw[hks];exact hpk);have hkc6:AK HH.a H6 kv (ks.map (fun(k:Nat)=>(k:Int))):=AK.U hkc (by omega) fun j h1 h2=>o6 j h2;obtain⟨ip,pp,ep,hip2,lp⟩:=AK.V hkc6 (i:=q) (x:=(p:Int)) (by rw[bT,hpk];rfl);have wq:=DU q;have jxv:=FO (id:=VI) (n:=s.a.length) (c:=s.a.length) (i:=p) hpl;have lv:AI p (H6.c VI)=some (iv (E6 s size C p)):=by rw[o6 VI (by omega),gV5 VI (by omega),gV];exact KM (hmal p hpl)
   obtain⟨w',H7,happ,hL',f7',n7',o7'⟩:=S6 (x:=E6 s size C p) y9 (by omega) (by omega) (by rw[bw,fu];omega);have etk:ks.take (q+1)=ks.take q++[p]:=by rw[cY,hpk];rfl
   have emap:(ks.take q).map (E6 s size C)++[E6 s size C p]=(ks.take (q+1)).map (E6 s size C):=by rw[etk,fw];rfl
   rw[emap]at hL';simp only[eE,seval,↓eP,w2,w4,w5,w9,w7,w8,w53,w54,w12,w13,w14,w15,w80,w81,w82,c3,ep,AM,lp,jxv,lv,KE,happ,wq];exact⟨hql,by omega,by omega,by omega,fun j X=>by rw[o7' j (by omega)];exact o6 j X,hL'⟩
 rintro e⟨T3,H3⟩⟨rfl,v2,v4,v5,v9,O,g6,g8,g9,h0,K,x0,u,gX3,lv,M,hLi⟩;simp only at v2 v4 v5 v9 O g6 g8 g9 h0 K x0 u gX3 M hLi;have nK3:=u.n;have fK3:=u.a;have g0:∀H':AA,(∀j,j<RI->H'.c j=B.c j)->∀j,j<h.a->H'.c j=h.c j:=by grind
 have yk:AI 0 (H3.c D)=some (iv x.a):=by rw[gX3];rfl
 have hlist:=fun hd=>RP hG hx hd (E6 s size C)
 have x3:∀ hd:QT x.a=true,(x.a=4->L=[E6 s size C (i+1),E6 s size C (AE (AU s.a) (i+1)),E6 s size C (AE (AU s.a) (AE (AU s.a) (i+1)))])/\L[0]?=some (E6 s size C (i+1)):=fun hd=>by
  rw[hL,ag hd]
  exact hlist hd
 have d:=Yh (n:=n) (h:=H3) (k:=x.a) hLi (fun h9=>by rw[(x3 (by rw[h9];rfl)).1 h9];simp) (fun h9=>by
  have:=(ae.1 (x3 (by unfold QT;simp;omega)).2).1
  omega) (by omega)
 clear hL
 generalize S:E6 s size C (i+1)=o at *
 generalize hmb:E6 s size C (AE (AU s.a) (i+1))=mb at *
 generalize hmc:E6 s size C (AE (AU s.a) (AE (AU s.a) (i+1)))=mc at *
 by_cases k4:x.a=4
 .have hL4:=(x3 (by rw[k4];rfl)).1 k4
  have eT:KF x.a L=.iface 141 (E8 o mb mc):=by unfold KF;rw[ag k4,hL4];rfl
  have zcV:(E8 0 0 0).cells.toList=[iv 0,iv 0,iv 0]:=rfl
  obtain⟨H4,st4,g4,n4,f4,o4⟩:=OV (t:=141) Ln (H:=H3) (zs:=[iv 0,iv 0,iv 0]) (vs:=[iv o,iv mb,iv mc]) rfl rfl rfl (by omega)
  have hK4:=u.b (H':=H4) (by omega) f4 o4
  have l40:AI 0 (H4.c H3.a)=some (iv o):=by rw[g4];rfl
  have l41:AI 1 (H4.c H3.a)=some (iv mb):=by rw[g4];rfl
  have l42:AI 2 (H4.c H3.a)=some (iv mc):=by rw[g4];rfl
  have lV:AX 3 0 (H4.c H3.a)=some (E8 o mb mc):=by rw[g4];rfl
  obtain⟨ov,nv,G1,y,q1,q2,q3,f,q5⟩:=hK4.e (by omega) (by omega) o mb mc
  cases U:decide (o<mb) with
  | true=>
   have hA:o<mb:=by simpa using U
   obtain⟨K1,K2,Z,A,s3,F,s5,s6,s7,s8,s9,sa,sb⟩:=SH (H:=y) (a:=h.a+2) (by rw[f.o _ (by omega)];exact h3) (by rw[f.o _ (by omega)];exact h4) (by have:=f.n;omega) (by have:=f.a;omega) (TG (h.a+2+2) y) 43 (i:Int)
   rw[J] at A F
   rw[<- l,N3 hx (b:=43) (by unfold ER;rw[ag k4,S,hmb,hmc,ag (.inl hA)]) (by decide)]
   simp only[eE,seval,↓eP,hr,v4,v5,O,h0,K,M,yk,BB,AM,ab,d,eT,q_,j8,ZB,zcV,st4,zH,z_,l40,l41,IM,IJ,q1,p_,lV,m9,q2,q3,U,M4,II,Z,A,FU,s3,FD,F]
   exact⟨⟨_,rfl,s5.a (by omega)⟩,by have:=f.a;omega,by have:=f.n;omega,fun j X=>by rw[sb j (by omega)];exact g0 _ f.o j X⟩
  | false=>
  have hA:¬ o<mb:=by simpa using U
  cases dB:decide (o>mc) with
  | true=>
   have hB:o>mc:=by simpa using dB
   obtain⟨K1,K2,Z,A,s3,F,s5,s6,s7,s8,s9,sa,sb⟩:=SH (H:=y) (a:=h.a+2) (by rw[f.o _ (by omega)];exact h3) (by rw[f.o _ (by omega)];exact h4) (by have:=f.n;omega) (by have:=f.a;omega) (TG (h.a+2+2) y) 43 (i:Int)
   rw[J] at A F
   rw[<- l,N3 hx (b:=43) (by unfold ER;rw[ag k4,S,hmb,hmc,ag (.inr hB)]) (by decide)]
   simp only[eE,seval,↓eP,hr,v4,v5,O,h0,K,M,yk,BB,AM,ab,d,eT,q_,j8,ZB,zcV,st4,zH,z_,Ry,l40,l41,l42,IM,IJ,q1,p_,lV,m9,q2,q3,U,dB,M4,II,Z,A,FU,s3,FD,F]
   exact⟨⟨_,rfl,s5.a (by omega)⟩,by have:=f.a;omega,by have:=f.n;omega,fun j X=>by rw[sb j (by omega)];exact g0 _ f.o j X⟩
  | false=>
   have hB:¬ o>mc:=by simpa using dB
   have es:ER (AE (AU s.a)) (E6 s size C) i x t=(0,{ t with V:=t.V++[(o,mb,mc)] }):=by unfold ER;rw[ag k4,S,hmb,hmc,ad (by omega)]
   rw[QC hx (by rw[es]),es] at l
   simp only[eE,seval,↓eP,v2,v4,v5,v9,O,g6,g8,g9,K,x0,M,yk,BB,AM,ab,d,eT,q_,j8,ZB,zcV,st4,zH,z_,Ry,l40,l41,l42,IM,IJ,q1,p_,lV,m9,q2,q3,U,dB,w1]
   exact⟨h5,by omega,_,f,by rw[y2];exact l,by simp;omega,by show t.G.length<=_;omega⟩
 by_cases k5:x.a=5
 .have h8:=(x3 (by rw[k5];rfl)).2
  have eT:KF x.a L=.iface 143 (iv o):=by unfold KF;rw[ad k4,ag k5,TA h8]
  obtain⟨ov,nv,G1,y,q1,q2,q3,f,q5⟩:=u.d (by omega) (by omega) o
  cases U:decide (o<1) with
  | true=>
   have hA:o<1:=by simpa using U
   obtain⟨K1,K2,Z,A,s3,F,s5,s6,s7,s8,s9,sa,sb⟩:=SH (H:=y) (a:=h.a+2) (by rw[f.o _ (by omega)];exact h3) (by rw[f.o _ (by omega)];exact h4) (by have:=f.n;omega) (by have:=f.a;omega) (TG (h.a+2+2) y) 43 (i:Int)
   rw[J] at A F
   rw[<- l,N3 hx (b:=43) (by unfold ER;rw[ad k4,ag k5,S,ag (.inl hA)]) (by decide)]
   simp only[eE,seval,↓eP,hr,v4,v5,O,h0,K,M,yk,BB,AM,ab,d,eT,rS,zA,LF,BH,ab,q1,KE,q2,q3,U,M4,II,Z,A,FU,s3,FD,F]
   exact⟨⟨_,rfl,s5.a (by omega)⟩,by have:=f.a;omega,by have:=f.n;omega,fun j X=>by rw[sb j (by omega)];exact g0 _ f.o j X⟩
  | false=>
  have hA:¬ o<1:=by simpa using U
  cases dB:decide (o>255) with
  | true=>
   have hB:o>255:=by simpa using dB
   obtain⟨K1,K2,Z,A,s3,F,s5,s6,s7,s8,s9,sa,sb⟩:=SH (H:=y) (a:=h.a+2) (by rw[f.o _ (by omega)];exact h3) (by rw[f.o _ (by omega)];exact h4) (by have:=f.n;omega) (by have:=f.a;omega) (TG (h.a+2+2) y) 43 (i:Int)
   rw[J] at A F
   rw[<- l,N3 hx (b:=43) (by unfold ER;rw[ad k4,ag k5,S,ag (.inr hB)]) (by decide)]
   simp only[eE,seval,↓eP,hr,v4,v5,O,h0,K,M,yk,BB,AM,ab,d,eT,rS,zA,LF,BH,ab,q1,KE,q2,q3,U,dB,M4,II,Z,A,FU,s3,FD,F]
   exact⟨⟨_,rfl,s5.a (by omega)⟩,by have:=f.a;omega,by have:=f.n;omega,fun j X=>by rw[sb j (by omega)];exact g0 _ f.o j X⟩
  | false=>
   have hB:¬ o>255:=by simpa using dB
   have es:ER (AE (AU s.a)) (E6 s size C) i x t=(0,{ t with G:=t.G++[o] }):=by unfold ER;rw[ad k4,ag k5,S,ad (by omega)]
   rw[QC hx (by rw[es]),es] at l
   simp only[eE,seval,↓eP,v2,v4,v5,v9,O,g6,g8,g9,K,x0,M,yk,BB,AM,ab,d,eT,rS,zA,LF,BH,ab,q1,KE,q2,q3,U,dB,w1]
   exact⟨h5,by omega,_,f,by rw[y2];exact l,by show t.V.length<=_;omega,by simp;omega⟩
 by_cases k6:x.a=6
 .have h8:=(x3 (by rw[k6];rfl)).2
  have eT:KF x.a L=.iface 144 (.bool (o != 0)):=by unfold KF;rw[ad k4,ad k5,ag k6,TA h8]
  cases U:(o != 0) with
  | false=>
   have hA:o=0:=by simpa using U
   obtain⟨K1,K2,Z,A,s3,F,s5,s6,s7,s8,s9,sa,sb⟩:=SH (H:=H3) (a:=h.a+2) (by rw[u.o _ (by omega)];exact h3) (by rw[u.o _ (by omega)];exact h4) (by have:=u.n;omega) (by have:=u.a;omega) (TG (h.a+2+2) H3) 44 (i:Int)
   rw[J] at A F
   rw[<- l,N3 hx (b:=44) (by unfold ER;rw[ad k4,ad k5,ag k6,S,ag hA]) (by decide)]
   simp only[eE,seval,↓eP,hr,v4,v5,h0,K,M,yk,BB,AM,d,eT,Ew,Sf,Du,U,M4,II,Z,A,FU,s3,FD,F]
   exact⟨⟨_,rfl,s5.a (by omega)⟩,by have:=u.a;omega,by have:=u.n;omega,fun j X=>by rw[sb j (by omega)];exact g0 _ u.o j X⟩
  | true=>
   have hA:¬ o=0:=by simpa using U
   have es:ER (AE (AU s.a)) (E6 s size C) i x t=(0,t):=by unfold ER;rw[ad k4,ad k5,ag k6,S,ad hA]
   rw[QC hx (by rw[es]),es] at l
   simp only[eE,seval,↓eP,v2,v4,v5,v9,O,g6,g8,g9,K,x0,M,yk,BB,AM,d,eT,Ew,Sf,Du,U,w1]
   exact⟨h5,by omega,_,u,by rw[y2];exact l,by omega,by omega⟩
 by_cases g1:x.a=13
 .have h8:=(x3 (by rw[g1];rfl)).2
  have eT:KF x.a L=.iface 145 (iv o):=by unfold KF;rw[ad k4,ad k5,ad k6,ag g1,TA h8]
  have l2R:AI 2 (H3.c (RI+1))=some (qS RI s.a.length s.a.length):=by
   obtain⟨_,_,y1,_⟩:=u.y
   rw[y1]
   rfl
  have ixR:=FO (id:=RI) (n:=s.a.length) (c:=s.a.length) (i:=i) h5
  obtain⟨y,q3,f,q5⟩:=u.f (by omega) h5 o
  cases U:decide (o<0) with
  | true=>
   have hA:o<0:=by simpa using U
   obtain⟨K1,K2,Z,A,s3,F,s5,s6,s7,s8,s9,sa,sb⟩:=SH (H:=y) (a:=h.a+2) (by rw[f.o _ (by omega)];exact h3) (by rw[f.o _ (by omega)];exact h4) (by have:=f.n;omega) (by have:=f.a;omega) (TG (h.a+2+2) y) 43 (i:Int)
   rw[J] at A F
   rw[<- l,N3 hx (b:=43) (by unfold ER;rw[ad k4,ad k5,ad k6,ag g1,S,ag (.inl hA)]) (by decide)]
   simp only[eE,seval,↓eP,hr,v4,v5,O,h0,K,M,yk,BB,AM,ab,d,eT,yP,rH,rR,pV,LN,BH,ab,l2R,ixR,q3,U,M4,II,Z,A,FU,s3,FD,F]
   exact⟨⟨_,rfl,s5.a (by omega)⟩,by have:=f.a;omega,by have:=f.n;omega,fun j X=>by rw[sb j (by omega)];exact g0 _ f.o j X⟩
  | false=>
  have hA:¬ o<0:=by simpa using U
  cases dB:decide (o>4194304) with
  | true=>
   have hB:o>4194304:=by simpa using dB
   obtain⟨K1,K2,Z,A,s3,F,s5,s6,s7,s8,s9,sa,sb⟩:=SH (H:=y) (a:=h.a+2) (by rw[f.o _ (by omega)];exact h3) (by rw[f.o _ (by omega)];exact h4) (by have:=f.n;omega) (by have:=f.a;omega) (TG (h.a+2+2) y) 43 (i:Int)
   rw[J] at A F
   rw[<- l,N3 hx (b:=43) (by unfold ER;rw[ad k4,ad k5,ad k6,ag g1,S,ag (.inr hB)]) (by decide)]
   simp only[eE,seval,↓eP,hr,v4,v5,O,h0,K,M,yk,BB,AM,ab,d,eT,yP,rH,rR,pV,LN,BH,ab,l2R,ixR,q3,U,dB,M4,II,Z,A,FU,s3,FD,F]
   exact⟨⟨_,rfl,s5.a (by omega)⟩,by have:=f.a;omega,by have:=f.n;omega,fun j X=>by rw[sb j (by omega)];exact g0 _ f.o j X⟩
  | false=>
   have hB:¬ o>4194304:=by simpa using dB
   have es:ER (AE (AU s.a)) (E6 s size C) i x t=(0,{ t with a:=t.a.set i o }):=by unfold ER;rw[ad k4,ad k5,ad k6,ag g1,S,ad (by omega)]
   rw[QC hx (by rw[es]),es] at l
   simp only[eE,seval,↓eP,v2,v4,v5,v9,O,g6,g8,g9,h0,K,x0,M,yk,BB,AM,ab,d,eT,yP,rH,rR,pV,LN,BH,ab,l2R,ixR,q3,U,dB,w1]
   exact⟨h5,by omega,_,f,by rw[y2];exact l,by show t.V.length<=_;omega,by show t.G.length<=_;omega⟩
 have eT:KF x.a L=.nilIface:=by unfold KF;rw[ad k4,ad k5,ad k6,ad g1]
 have es:ER (AE (AU s.a)) (E6 s size C) i x t=(0,t):=by unfold ER;rw[ad k4,ad k5,ad k6,ad g1]
 rw[QC hx (by rw[es]),es] at l
 simp only[eE,seval,↓eP,v2,v4,v5,v9,O,g6,g8,g9,K,x0,M,yk,BB,AM,d,eT,Mt,My,MX,M9,w1]
 exact⟨h5,by omega,_,u,by rw[y2];exact l,by omega,by omega⟩
theorem Wt{nm:ByteArray}{s:AS}{c k:Value}{lo lc:Nat}{size:Int}{C:List Int}(o:CG lo h c nm s)(p:F6 lc h k size C)(a:∀d l q r t u v m,c=.agg #[.string d,l,q,r,t,u,v,m]->M8 l s.a.length)(w:F7 s)(x:s.a.length<2932031007403)(y:C.length<17592186044416)(z:h.c 0=EM)(e:0<h.a)(f:h.b<=h.a)(A:2*DS s+101100+C.length<n):∃g b,AN n 14 [c,k] h=some (g,b)/\vP b h.a g (CD nm s size C)/\b.b=h.b/\h.a<=b.a/\∀i,i<h.a->b.c i=h.c i:=by
 obtain⟨n,rfl⟩:=BX A;refine GY BF (RX (n:=n) (N:=n) o p a w x y z e f (by omega) (by omega)) fun g E B _ j=>?_;obtain⟨⟨D,rfl,j⟩,_⟩:=j;exact⟨⟨D,rfl,Zk j B _ h⟩,rfl,af _,fun _ _=>rfl⟩
theorem R4{nm:ByteArray}{s:AS}{d k:Value}{lo lc:Nat}{size:Int}{C:List Int}(o:CG lo h d nm s)(p:F6 lc h k size C)(a:∀f l q r t u v m,d=.agg #[.string f,l,q,r,t,u,v,m]->M8 l s.a.length)(w:F7 s)(x:s.a.length<2932031007403)(y:C.length<17592186044416)(z:h.c 0=EM)(g:0<h.a)(j:h.b<=h.a)(A:2*DS s+101100+C.length<n):∃c b,AN n 14 [d,k] h=some (c,b)/\jK b h.a c (CD nm s size C)/\b.b=h.b/\h.a<=b.a/\∀i,i<h.a->b.c i=h.c i:=by obtain⟨c,b,B,⟨D,e,E⟩,F⟩:=Wt (n:=n) o p a w x y z g j A;exact⟨c,b,B,⟨D,e,E.b⟩,F⟩
end
theorem Uv:prog.stoodInHeld 142=false:=by simp
theorem vK{a b c:Int}:BZ prog (part 3 #[.int .i64 a,.int .i64 b,.int .i64 c] 0)=some (.int .i64 a)/\BZ prog (part 3 #[.int .i64 a,.int .i64 b,.int .i64 c] 1)=some (.int .i64 b)/\BZ prog (part 3 #[.int .i64 a,.int .i64 b,.int .i64 c] 2)=some (.int .i64 c):=⟨rfl,rfl,rfl⟩
theorem Se{a b c:Int}:flat (E8 a b c)=true:=rfl
theorem Tc{a b c:Int}(n:Nat):BZ prog (Op.equalIn (n+2) 142 (E8 a b c) (E8 a b c))=some true:=by rw[Op.equalIn,EF,R3 dy];simp only[cp,EF,OS,Uv,aV,bi];simp[EF,KU,vK.1,vK.2.1,vK.2.2,O8 dc]
theorem Xg{x y:Operand}{a b c:Int}:CT prog .neq 142 x y (E8 a b c) (E8 a b c)=some (.bool false):=by
 have k:BZ prog (Op.equal 142 (E8 a b c) (E8 a b c))=some true:=Tc 9998;have e:BZ prog (do eqGuard .neq 142 x y (E8 a b c) (E8 a b c);binOp .neq 142 (E8 a b c) (E8 a b c))=some (.bool false):=by
  rw[EF];have g:BZ prog (eqGuard .neq 142 x y (E8 a b c) (E8 a b c))=some ():=by
   unfold eqGuard;simp[EF,OS,KU]
  rw[g];show BZ prog ((do pure (.bool (!(<-Op.equal 142 (E8 a b c) (E8 a b c))))):Sem Value)=_;rw[EF,k];rfl
 simp only[CT,Se,ao,ai,e,OL]
theorem Lp:∀{l:List (Int×Int×Int)}{i:Nat}{x:Int×Int×Int},l[i]?=some x->((FZ l).drop (i*3)).take 3=[iv x.1,iv x.2.1,iv x.2.2]
 |[],i,x,h=>by simp at h|y::l,0,x,h=>by
  cases h;rfl|y::l,i+1,x,h=>by
  have a:l[i]?=some x:=by assumption
  rw[show(i+1)*3=i*3+1+1+1 by omega];exact Lp a
theorem Ar{R:List AF}{e:Nat->Nat}{val:Nat->Int}:∀(r i:Nat)(t:FK),(ID R e val r i t).2.V.length<=r+t.V.length/\(ID R e val r i t).2.G.length<=r+t.G.length/\(ID R e val r i t).2.a.length<=t.a.length
 |0,i,t=>⟨by simp[ID],by simp[ID],by simp[ID]⟩|r+1,i,t=>by
  unfold ID;cases d:R[i]? with
  |none=>exact⟨by simp,by simp,by simp⟩|some x=>
   simp only;by_cases h:(ER e val i x t).1≠0;.rw[ag h];simp
   .rw[ad h];obtain⟨a,b,c⟩:=Ar (R:=R) (e:=e) (val:=val) r (i+1) (ER e val i x t).2;have f:(ER e val i x t).2.V.length<=t.V.length+1/\(ER e val i x t).2.G.length<=t.G.length+1/\(ER e val i x t).2.a.length<=t.a.length:=by unfold ER;(repeat' split)<;>simp
    omega
theorem Jx(nm:ByteArray)(s:AS)(size:Int)(C:List Int):(CD nm s size C).2.V.length<=s.a.length/\(CD nm s size C).2.G.length<=s.a.length/\(CD nm s size C).2.a.length<=s.a.length:=by
 unfold CD;split;.simp
 .split;.simp
  .have h:=Ar (R:=s.a) (e:=AE (AU s.a)) (val:=E6 s size C) s.a.length 0 ⟨[],[],List.replicate s.a.length 0⟩;simp only[du,gu,fe]at h;exact h
def wL:List (Bool×Bool×List Operand):=[AO,AO,AH [.tmp 36],AO,AO,AH [.tmp 36,.tmp 39],AH [.tmp 36,.tmp 39],AH [.tmp 36,.tmp 39,.tmp 41],AH [.tmp 36,.tmp 39],AH [.tmp 36,.tmp 39],AJ]
section
variable {n N:Nat} {h:AA}
theorem Sg{L M:Value}{t:FK}{Y Z:Nat}(ha:GH Y h L t)(hb:GH Z h M t)(hV:t.V.length<2932031007403)(h0:t.G.length<2932031007403)(hR:t.a.length<2932031007403)(hN:t.V.length+10<N)(hn:t.G.length+t.a.length+20<n):∃f,AW prog (AN n) N 120 [L,M] h=some (.bool true,f)/\∀i,i<h.a->f.c i=h.c i:=by
 obtain⟨k,l,m,rfl,z,O,P⟩:=ha;obtain⟨o,p,d,rfl,B,S,U⟩:=hb;have C:=(EC n).2;refine EA (R:=fun f=>∀i,i<h.a->f.c i=h.c i) func120 rfl (by simp) ?_;have hr:f120.results.toList=[.tmp 4]:=rfl;have ca:=C9 [k,l,m];have cb:=C9 [o,p,d];have oa:[k,l,m].all one=true:=by simp only[az,bd,AL.a z,AL.a O,AL.a P,ao]
 have ob:[o,p,d].all one=true:=by simp only[az,bd,AL.a B,AL.a S,AL.a U,ao]
 have g0:∀(a b:BO),let A:=(h.d a).d b
   A.c h.a=a/\A.c (h.a+1)=b/\A.a=h.a+2/\∀i,i<h.a->A.c i=h.c i:=fun a b=>⟨JG,MG,rfl,fun i c=>by rw[AV (by show i<h.a+1;omega),AV c]⟩;obtain⟨D,E,nQ,g⟩:=g0 (.row [k,l,m] 30 false false) (.row [o,p,d] 30 false false);simp only[eE,seval,DJ,ca,oa,cb,ob,JJ];generalize(h.d (.row [k,l,m] 30 false false)).d (.row [o,p,d] 30 false false)=Q at*;have w:AI 0 (Q.c h.a)=some k:=by rw[D];rfl
 have x1:AI 1 (Q.c h.a)=some l:=by rw[D];rfl
 have x2:AI 2 (Q.c h.a)=some m:=by rw[D];rfl
 have W:AI 0 (Q.c (h.a+1))=some o:=by rw[E];rfl
 have y1:AI 1 (Q.c (h.a+1))=some p:=by rw[E];rfl
 have y2:AI 2 (Q.c (h.a+1))=some d:=by rw[E];rfl
 have F:=z.b (h':=Q) (by omega) fun i _ c=>g i c;have I:=B.b (h':=Q) (by omega) fun i _ c=>g i c;have k1:=aN (n:=n) (h:=Q) (AK.U O (by omega) fun i _ c=>g i c) (AK.U S (by omega) fun i _ c=>g i c) (by omega) (by omega);have k2:=aN (n:=n) (h:=Q) (AK.U P (by omega) fun i _ c=>g i c) (AK.U U (by omega) fun i _ c=>g i c) (by omega) (by omega);have e:=fun f=>AL.c z bn (h':=f);have q:=fun f=>AL.c B bn (h':=f);have c0:((t.V.length:Int)!=(t.V.length:Int))=false:=by simp
 simp only[eE,seval,↓eP,ab,IM,LF,LN,IJ,BH,w,x1,x2,W,y1,y2,e,q,c0,k1,k2];refine WK.b (fun i y=>y.T.a 2=qP h.a 0/\y.T.a 3=qP (h.a+1) 0/\y.T.a 5=iv (i:Int)/\y.h=Q/\i<=t.V.length) t.V.length (by omega) ?_ ?_;.exact⟨by simp only[eE,seval],by simp only[eE,seval],by simp only[eE,seval]<;>rfl,rfl,by omega⟩
 rintro i⟨T,H⟩c⟨r,J,s,X,h1⟩;simp only at r J s X;subst X;by_cases j:i<t.V.length
 .have K:decide ((i:Int)<(t.V.length:Int))=true:=by grind
  obtain⟨x,hx⟩:∃x,t.V[i]?=some x:=⟨_,aa j⟩;obtain⟨h2,pa,ea,h3,u⟩:=AL.i F bn NS j;obtain⟨h4,pb,eb,h5,v⟩:=AL.i I bn NS j;rw[Lp hx]at u v;have w1:=DU i;simp only[eE,seval,↓eP,r,s,IM,IJ,w,e,K];refine WK.a (fs:=wL) (by kernel_rfl) ?_;unfold wL;iterate 11
   refine DG C ?_;simp only[rG,seval,AB,AD,AC,A7,r,IM,IJ,w,s,ea,UE,u,J,W,eb,v,Xg]
  refine DF ?_;simp only[eE,seval,↓eP,r,J,s,w1];omega
 .have K:decide ((i:Int)<(t.V.length:Int))=false:=by grind
  simp only[eE,seval,↓eP,hr,r,s,IM,IJ,w,e,K];exact g
theorem Yg{b c:Value}{t:FK}{d e:Nat}(f:GH d h b t)(g:GH e h c t)(i:t.V.length<2932031007403)(a:t.G.length<2932031007403)(j:t.a.length<2932031007403)(k:t.V.length+t.G.length+t.a.length+40<n):AN n 120 [b,c] h=some (.bool true,h):=by
 obtain⟨n,rfl⟩:=BX k;exact HF BF rfl (Sg (n:=n) (N:=n) f g i a j (by omega) (by omega))
end
def JC(R:List AF)(k:Int):Nat->Nat|0=>0|i+1=>JC R k i+(match R[i]? with|some x=>if x.a=k then 1 else 0|none=>0)
theorem jD{R:List AF}{k:Int}{i:Nat}{x:AF}(a:R[i]?=some x):JC R k (i+1)=JC R k i+if x.a=k then 1 else 0:=by show JC R k i+_=_;rw[a]
theorem zG{R:List AF}{k:Int}{i:Nat}:∀d,JC R k i<=JC R k (i+d)|0=>af _|d+1=>by have:=zG (R:=R) (k:=k) (i:=i) d;exact dj this (Nat.le_add_right _ _)
structure Sl (R:List AF) (e:Nat->Nat) (val:Nat->Int) (u:FK) (j:Nat) (x:AF):Prop where
 v:x.a=4->∃ a b c,u.V[JC R 4 j]?=some (a,b,c)/\a=val (j+1)/\b<=a/\a<=c
 g:x.a=5->u.G[JC R 5 j]?=some (val (j+1))/\1<=val (j+1)/\val (j+1)<=255
 q:x.a=6->val (j+1)≠0
 r:x.a=13->u.a[j]?=some (val (j+1))/\0<=val (j+1)/\val (j+1)<=4194304
 n:x.a≠13->u.a[j]?=some 0
theorem Ly{R:List AF}{e:Nat->Nat}{val:Nat->Int}:∀(r i:Nat)(t:FK),i+r=R.length->t.V.length=JC R 4 i->t.G.length=JC R 5 i->t.a.length=R.length->(∀j,i<=j->j<R.length->t.a[j]?=some 0)->(ID R e val r i t).1.1=0->(ID R e val r i t).2.V.length=JC R 4 R.length/\(ID R e val r i t).2.G.length=JC R 5 R.length/\(ID R e val r i t).2.a.length=R.length/\(∀j,j<t.V.length->(ID R e val r i t).2.V[j]?=t.V[j]?)/\(∀j,j<t.G.length->(ID R e val r i t).2.G[j]?=t.G[j]?)/\(∀j,j<i->(ID R e val r i t).2.a[j]?=t.a[j]?)/\∀(j:Nat)(x:AF),i<=j->R[j]?=some x->Sl R e val (ID R e val r i t).2 j x
 |0,i,t,E,w,z,g,_,_=>by
  have:i=R.length:=by omega
  subst this;exact⟨w,z,g,fun _ _=>rfl,fun _ _=>rfl,fun _ _=>rfl,fun j x q F=>by grind⟩|r+1,i,t,E,w,z,g,H,n=>by
  obtain⟨x,l⟩:∃x,R[i]?=some x:=⟨_,aa (by omega)⟩;have a:(ER e val i x t).1=0:=Decidable.byContradiction fun h=>by rw[N3 l rfl h]at n;grind
  rw[QC l a]at n⊢;have A:=jD (k:=4) l;have s:=jD (k:=5) l;have u:i<t.a.length:=by omega
  -- one row
  have v:∃b,(ER e val i x t).2=b/\b.V.length=JC R 4 (i+1)/\b.G.length=JC R 5 (i+1)/\b.a.length=R.length/\(∀j,j<t.V.length->b.V[j]?=t.V[j]?)/\(∀j,j<t.G.length->b.G[j]?=t.G[j]?)/\(∀j,j≠i->b.a[j]?=t.a[j]?)/\(x.a=4->b.V[JC R 4 i]?=some (val (i+1),val (e (i+1)),val (e (e (i+1))))/\val (e (i+1))<=val (i+1)/\val (i+1)<=val (e (e (i+1))))/\(x.a=5->b.G[JC R 5 i]?=some (val (i+1))/\1<=val (i+1)/\val (i+1)<=255)/\(x.a=6->val (i+1)≠0)/\(x.a=13->b.a[i]?=some (val (i+1))/\0<=val (i+1)/\val (i+1)<=4194304)/\(x.a≠13->b.a[i]?=some 0):=by
   refine⟨_,rfl,?_⟩;unfold ER at a⊢;have c:=H i (af _) (by omega);by_cases o:x.a=4
   .rw[ag o]at a⊢;rw[ag o]at A;rw[ad (by omega)]at s;split at a;.cases a
    .rename_i d;rw[ad d];refine⟨by grind,by grind,g,fun j f=>dt f,fun _ _=>rfl,fun _ _=>rfl,fun _=>⟨?_,by omega,by omega⟩,fun h=>by omega,fun h=>by omega,fun h=>by omega,fun _=>c⟩;grind
   rw[ad o]at a⊢;rw[ad o]at A;by_cases p:x.a=5
   .rw[ag p]at a⊢;rw[ag p]at s;split at a;.cases a
    .rename_i d;rw[ad d];refine⟨by grind,by grind,g,fun _ _=>rfl,fun j f=>dt f,fun _ _=>rfl,fun h=>by omega,fun _=>⟨?_,by omega,by omega⟩,fun h=>by omega,fun h=>by omega,fun _=>c⟩;grind
   rw[ad p]at a⊢;rw[ad p]at s;by_cases B:x.a=6
   .rw[ag B]at a⊢;split at a;.cases a
    .rename_i d;rw[ad d];exact⟨by grind,by grind,g,fun _ _=>rfl,fun _ _=>rfl,fun _ _=>rfl,fun h=>by omega,fun h=>by omega,fun _=>d,fun h=>by omega,fun _=>c⟩
   rw[ad B]at a⊢;by_cases m:x.a=13
   .rw[ag m]at a⊢;split at a;.cases a
    .rename_i d;rw[ad d];exact⟨by grind,by grind,by simp[g],fun _ _=>rfl,fun _ _=>rfl,fun j f=>bf (bc f),fun h=>by omega,fun h=>by omega,fun h=>by omega,fun _=>⟨br u,by omega,by omega⟩,fun h=>by omega⟩
   rw[ad m];exact⟨by grind,by grind,g,fun _ _=>rfl,fun _ _=>rfl,fun _ _=>rfl,fun h=>by omega,fun h=>by omega,fun h=>by omega,fun h=>by omega,fun _=>c⟩
  obtain⟨b,I,J,K,L,S,T,U,W,X,M,N,Y⟩:=v;rw[I]at n⊢;obtain⟨O,P,Q,Z,r5,r6,r7⟩:=Ly r (i+1) b (by omega) J K L (fun j q F=>by grind) n;have m4:t.V.length<=b.V.length:=by omega
  have m5:t.G.length<=b.G.length:=by omega
  refine⟨O,P,Q,fun j f=>by grind,fun j f=>by grind,fun j f=>by grind,fun j y q C=>?_⟩;rcases gY q with D|D
  .subst D;rw[l]at C;cases C;refine⟨fun k=>?_,fun k=>?_,M,fun k=>?_,fun k=>by grind⟩;.grind
   .grind
   grind
  grind
section
variable {nm:ByteArray} {s:AS} {size:Int} {C:List Int}
end
structure k_ (pos:Nat) (s:AS):Prop where
 v:s.f.length=JC s.a 4 pos
 g:s.g.length=JC s.a 5 pos
def rN(s t:AS):Prop:=∀j:Nat,(t.a[j]?).map (fun x:AF=>x.a)=(s.a[j]?).map (fun x:AF=>x.a)
theorem bY{s t:AS}(h:rN s t)(k:Int):∀i,JC t.a k i=JC s.a k i|0=>rfl|i+1=>by unfold JC;rw[bY h k i];have:=h i;grind
theorem Qc{l:List AF}{k:Nat}{n:Int}(j:Nat):((JF l k n)[j]?).map (fun x:AF=>x.a)=(l[j]?).map (fun x:AF=>x.a):=by
 by_cases e:j=k
 .subst e;cases h:l[j]? with|none=>have:(JF l j n)[j]?=none:=de (by rw[TM];grind);rw[this]|some x=>rw[OH h];rfl
 .rw[SI e]
theorem So{E:List Int}{i:Nat}{s:AS}{x:AF}(h:k_ i s)(c:s.a[i]?=some x)(h0:(GB E i s).1=0):k_ (i+1) (GB E i s).2/\(GB E i s).2.a.length=s.a.length:=by
 have f:=jD (k:=4) c;have l:=jD (k:=5) c;by_cases a:CR x.a=0
 .have p:x.a≠4/\x.a≠5:=by refine⟨fun e=>?_,fun e=>?_⟩<;>(rw[e]at a;cases a)
  rw[ad p.1]at f;rw[ad p.2]at l;rw[lH c a]at h0⊢;by_cases q:EI i x s=0;case neg=>grind
  rw[ad (by omega)]at h0⊢;have w:(C2 i x s).f=s.f/\(C2 i x s).g=s.g/\rN s (C2 i x s)/\(C2 i x s).a.length=s.a.length:=by
   unfold C2;split;.exact⟨rfl,rfl,fun _=>rfl,rfl⟩
   .split;.exact⟨rfl,rfl,fun _=>rfl,rfl⟩
    .exact⟨rfl,rfl,fun j=>Qc j,TM⟩
  obtain⟨y,z,d,F⟩:=w;obtain⟨n,A,_⟩:=aB c q;generalize C2 i x s=b at*;rw[A]at h0⊢;simp only at h0⊢;by_cases G:EY {x with n:=n} b=0;case neg=>grind
  rw[ad (by omega)];have B:(EZ i {x with n:=n} b).f=b.f/\(EZ i {x with n:=n} b).g=b.g/\(EZ i {x with n:=n} b).a=b.a:=by unfold EZ;(repeat' split)<;>exact⟨rfl,rfl,rfl⟩
  obtain⟨C,D,r⟩:=B;have m:=bY d 4 (i+1);have o:=bY d 5 (i+1);exact⟨⟨by rw[C,r,y,m,f];exact h.v,by rw[D,r,z,o,l];exact h.g⟩,by grind⟩
 .rw[oU c a]at h0⊢;by_cases q:FV x s=0;case neg=>grind
  rw[ad (by omega)];have d:rN s (CQ i ((E[i]?).getD 0) x s):=fun j=>by rw[h_,ad a];exact Qc j
  have m:=bY d 4 (i+1);have o:=bY d 5 (i+1);have t:CR x.a=2↔x.a=4:=by refine⟨fun e=>?_,fun e=>by rw[e];rfl⟩;unfold CR at e;omega
  have u:CR x.a=3↔x.a=5:=by
   refine⟨fun e=>?_,fun e=>by rw[e];rfl⟩;unfold CR at e;omega
  refine⟨⟨?_,?_⟩,by rw[h_,ad a];exact TM⟩
  .rw[m,f];have e:(CQ i ((E[i]?).getD 0) x s).f=if CR x.a=2 then s.f++[x.c]else s.f:=by
    unfold CQ;rw[ad a];rfl
   rw[e];by_cases k:x.a=4;.rw[ag (t.2 k),ag k,ch,h.v];rfl
   .rw[ad (fun e=>k (t.1 e)),ad k];exact h.v
  .rw[o,l];have e:(CQ i ((E[i]?).getD 0) x s).g=if CR x.a=3 then s.g++[x.c]else s.g:=by unfold CQ;rw[ad a];rfl
   rw[e];by_cases k:x.a=5
   .rw[ag (u.2 k),ag k,ch,h.g];rfl
   .rw[ad (fun e=>k (u.1 e)),ad k];exact h.g
theorem Sz{E:List Int}:∀(r i:Nat)(s:AS),k_ i s->i+r=s.a.length->(ED E r i s).1=0->k_ (i+r) (ED E r i s).2.2
 |0,i,s,h,_,_=>h|r+1,i,s,h,f,a=>by
  have e:ED E (r+1) i s=if(GB E i s).1≠0 then((GB E i s).1,i,s)else ED E r (i+1) (GB E i s).2:=rfl;rw[e]at a⊢;by_cases c:(GB E i s).1=0;case neg=>grind
  rw[ad (by omega)]at a⊢;obtain⟨x,b⟩:∃x,s.a[i]?=some x:=⟨_,aa (by omega)⟩;obtain⟨d,g⟩:=So h b c;rw[show i+(r+1)=i+1+r by omega];exact Sz r (i+1) _ d (by omega) a
theorem Yo{l:List AF}(h:(DA l).1.1=0):(DA l).2.f.length=JC (DA l).2.a 4 (DA l).2.a.length/\(DA l).2.g.length=JC (DA l).2.a 5 (DA l).2.a.length:=by obtain⟨_,_,a,_,b,c⟩:=VR h;have d:=c.a;have:=Sz (E:=AZ l) l.length 0 (DC l) ⟨rfl,rfl⟩ (by show 0+l.length=l.length;omega) a;rw[ab]at this;rw[d,b];exact⟨this.v,this.g⟩
theorem SO{nm:ByteArray}{s:AS}(h:DQ nm s=0):(∀(i:Nat)(x:AF),s.a[i]?=some x->FN x.a=2->0<=x.n/\x.n<s.f.length)/\s.f.length=JC s.a 4 s.a.length:=by
 have f:WM nm s:=by
  unfold DQ at h;grind
 obtain⟨b,a⟩:=f;rw[WB b]at a;obtain⟨_,g,c,j,l,m,o,p⟩:=a;simp only at g c j l m o p;obtain⟨w,q,r,_,d,y⟩:=VR b;have t:(AU s.a).length=s.a.length:=by unfold AU;simp
 have u:=eU b;have z:=Yo b;generalize(DA (AU s.a)).2=A at*;refine⟨fun i x e B=>?_,by grind⟩;have C:i<(AU s.a).length:=by grind
 rw[c]at e;have D:=xI (k:=x.a) (by omega);have v:M0 x.a=2:=by unfold M0;omega
 have:=(u.b i x (by omega) e).2 (by omega);rw[v]at this;obtain⟨E,F⟩:=this;grind
theorem Zx{nm:ByteArray}{s:AS}{size:Int}{C:List Int}(c:(CD nm s size C).1.1=0):(CD nm s size C).2.V.length=JC s.a 4 s.a.length/\(CD nm s size C).2.a.length=s.a.length:=by
 unfold CD at c⊢;by_cases d:(DW nm s).1.1≠0;.grind
 rw[ad d]at c⊢;by_cases f:EU nm s size C≠0;.grind
 rw[ad f]at c⊢;obtain⟨a,_,b,_⟩:=Ly (R:=s.a) (e:=AE (AU s.a)) (val:=E6 s size C) s.a.length 0 ⟨[],[],List.replicate s.a.length 0⟩ (by omega) rfl rfl (by simp) (fun j _ g=>by grind) c;exact⟨a,b⟩
theorem ST{nm:ByteArray}{s:AS}{size:Int}{C:List Int}(h:DQ nm s=0)(e:(CD nm s size C).1.1=0)(a:s.a.length<2932031007403):eO (AU s.a) s (CD nm s size C).2.V.length s.d.length (CD nm s size C).2.a:=by
 have d:=Xu h a;obtain⟨f,j⟩:=SO h;obtain⟨k,g⟩:=Zx e;exact⟨d,fun i y b c=>by
  have:=f i y b (by rw[c];rfl);omega,fun i y b c=>(d.d.a.a y (aw b) c),g⟩
section
variable {call:AY} {n:Nat} {h:AA} {v:Value} {l:List Int}
end
section
variable {call:AY} {n:Nat} {h:AA} {v:Value} {l:List Int}
end
section
variable {call:AY} {n:Nat} {h:AA} {v:Value} {l:List Int}
end
section
variable {n lo:Nat} {h:AA} {v:Value} {l:List Int}
end
section
variable {h:AA} {id off:Nat}
end
structure RM (h:AA) (b:Nat) (vr tr vS:Value) (R:List AF) (rd S:List Int):Prop where
 f:AI 1 (h.c b)=some vr
 e:AI 10 (h.c b)=some tr
 d:AI 11 (h.c b)=some vS
 c:b<h.a
 a:A8 h vr R
 g:AK 0 h tr rd
 s:AK 0 h vS S
section
variable {n N:Nat}
end
structure PB where
 b:List Int
 a:Int
abbrev cV(v:Value)(m:Int):Value:=.agg #[v,iv m]
theorem R8:DK prog 71=some (cV (Z0) 0):=by kernel_rfl
section
variable {h:AA} {id off:Nat}
end
def vcells(l:List (Int×Int×Int)):List Value:=l.flatMap fun x=>[iv x.1,iv x.2.1,iv x.2.2]
section
variable {n N:Nat}
end
abbrev IA(a b c:Int):Value:=.agg #[iv a,iv b,iv c]
theorem SX:prog.stoodInHeld 142=false:=by simp
theorem wZ{a b c:Int}:BZ prog (part 3 #[.int .i64 a,.int .i64 b,.int .i64 c] 0)=some (.int .i64 a)/\BZ prog (part 3 #[.int .i64 a,.int .i64 b,.int .i64 c] 1)=some (.int .i64 b)/\BZ prog (part 3 #[.int .i64 a,.int .i64 b,.int .i64 c] 2)=some (.int .i64 c):=⟨rfl,rfl,rfl⟩
theorem Fl{a b c:Int}:flat (IA a b c)=true:=rfl
theorem Pa{a b c d e f:Int}(n:Nat):BZ prog (Op.equalIn (n+2) 142 (IA a b c) (IA d e f))=some (a==d&&(b==e&&c==f)):=by rw[Op.equalIn,EF,R3 dy];simp only[cp,EF,OS,SX,aV,bi];simp only[List.forIn_toArray,List.forIn_cons,List.forIn_nil,ne_eq,String.reduceEq,not_false_eq_true,ai,EF,wZ.1,cp,O8 dc];cases i:(a==d)<;>cases g:(b==e)<;>cases h:(c==f)<;>simp[EF,KU,wZ.2.1,wZ.2.2,O8 dc,g,h,-beq_iff_eq,-beq_eq_false_iff_ne]
theorem eqVr{x y:Operand}{a b c d f h:Int}:CT prog .eql 142 x y (IA a b c) (IA d f h)=some (.bool (a==d&&(b==f&&c==h))):=by
 have k:BZ prog (Op.equal 142 (IA a b c) (IA d f h))=some (a==d&&(b==f&&c==h)):=Pa 9998;have e:BZ prog (do eqGuard .eql 142 x y (IA a b c) (IA d f h);binOp .eql 142 (IA a b c) (IA d f h))=some (.bool (a==d&&(b==f&&c==h))):=by
  rw[EF];have g:BZ prog (eqGuard .eql 142 x y (IA a b c) (IA d f h))=some ():=by
   unfold eqGuard;simp[EF,OS,KU]
  rw[g];show BZ prog ((do pure (.bool (<-Op.equal 142 (IA a b c) (IA d f h)))):Sem Value)=_;rw[EF,k];rfl
 simp only[CT,Fl,ao,ai,e,OL]
theorem S1{x y:Operand}{a b c:Int}:CT prog .eql 142 x y (IA a b c) (IA a b c)=some (.bool true):=by rw[eqVr];simp
end Go.Proofs.YtjailoenloejbaaGreatDoor




