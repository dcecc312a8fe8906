/- Part 19. -/
import Derived.Test.YtjailoenloejbaaGreatDoorDV18
set_option linter.all false
namespace Go.Proofs.YtjailoenloejbaaGreatDoor
open Go Go.Sx Go.Proofs.Tryz
set_option maxRecDepth 100000
set_option maxHeartbeats 0
theorem yb{h:AA}{r:Nat}{rows:List AF}{lo hi:Nat}(b:h.c r=.row (rows.flatMap AQ) 125 true false)(d:r<h.a)(e:lo<=hi)(f:hi<=rows.length):∃c,H9 prog h 22 (qS r rows.length AT) (some (iv lo)) (some (iv hi)) none=some c/\A8 h c ((rows.drop lo).take (hi-lo)):=by
 have g:((rows.drop lo).take (hi-lo)).length=hi-lo:=by grind
 refine⟨.slice (some ⟨r,lo*5,none⟩) (hi-lo) AT,?_,?_⟩
 .simp only[H9,bq,GC,FI,ai];rw[ag (by omega)];simp only[gy];rw[ag (by omega)];simp only[gy];by_cases i:lo=0;.grind
  .rw[ad i,b];simp only[GC,ai,ab]
 .refine⟨some ⟨r,lo*5,none⟩,AT,by rw[g],.inr ⟨r,lo*5,_,_,_,_,rfl,b,d,fun k x a=>?_⟩⟩;have j:=(ae.1 a).1;rw[List.getElem?_take_of_lt (by omega),jg]at a;rw[show lo*5+k*5=(lo+k)*5 by omega];exact U_ a
section
variable {n lo m k c e r L:Nat} {h:AA} {nm:ByteArray} {E:List Int} {F:List Nat} {s:AS}
theorem Ep{pb eb sb row:Nat}{rows:List AF}{E rules d:List Int}(g:TH rows E rules)(p:NW h pb eb sb rows E d)(t:FM d)(i:d.length=rules.length)(j:h.b<=h.a)(f:row<rows.length)(u:rows.length+8<n:=by omega):AN n 190 [iv row,qP pb 0,qP eb 0,qP sb 0] h=some (iv (Gz0 rows E d row),h):=by
 obtain⟨n,rfl⟩:=BX u;obtain⟨q,v,w,y,D⟩:=g.f f;have l:Gz0 rows E d row=IN d ((rows.drop row).take (q-row)) 0:=by unfold Gz0;grind
 rw[l];exact HF BF rfl (uc (EC n).2 p t j v w y (by have:=g.c;omega) (by omega)
  (fun x z o=>by rw[i];exact g.a x (iQ (List.mem_of_mem_take z)) o) fun a b A B C=>IX (Nw A B C))
theorem yc{rows:List AF}{E rules:List Int}(u:TH rows E rules){v0 vr v2 v3 v4 vu v6 v7:Value}{e ce:Nat}{y:Bool}(d:[v0,vr,v2,v3,v4,vu,v6,v7].all one=true)(l:h.b<=h.a)(z:rows.length+rules.length+12<n)(o:∀(lo hi:Nat)b,(∀i,i<h.a->b.c i=h.c i)->h.a<=b.a->lo<=hi->hi<=rows.length->∃v,H9 prog b 22 vr (some (iv lo)) (some (iv hi)) none=some v/\A8 b v ((rows.drop lo).take (hi-lo))){A:Nat}(q:AK A h vu rules)(B:h.c e=.row (ints E) 3 y false)(t:e<h.a):∃b,AN n 128 [.agg #[v0,vr,v2,v3,v4,vu,v6,v7],qS e E.length ce] h=some (.func (.func 190) #[] #[qP h.a 0,qP (h.a+1) 0,qP (h.a+3) 0],b)/\(NW b h.a (h.a+1) (h.a+3) rows E (I1 rows E rules)/\h.a<=b.a/\b.b=h.b/\∀i,i<h.a->b.c i=h.c i):=by
 obtain⟨n,rfl⟩:=BX z;refine PW BF rfl (ue (EC n).2 u d l (by omega) (by omega) o (fun b=>q.Z) ?_ ?_ B t ?_);.obtain⟨_,a,c,C,_⟩:=q;grind
 .intro b w i I hi;obtain⟨J,p,C,K,M⟩:=AK.V q hi;grind
 .intro N O P D x b G f H g j;exact Ep u G H f g j
theorem yd{tag:Nat->Nat}{vq vv vt vu vo:Value}{x:List (Value×Value)}{l:List AF}(d:DD h lo m k c e r l.length nm (AZ l) tag vq vv vt vu vo x s)(p:DM l)(t:l.length<2932031007403)(hi:JI l l.length s)(hfl:h.b<=h.a)(y:l.length+100<n):AN n 68 [qP m 0,qS e l.length l.length] h=some (iv (LI s.a (AZ l) s.d),h):=by
 obtain⟨n,rfl⟩:=BX y;have q:=Me p (by omega) hi;have z:=hi.e.u;have A:=hi.a;have B:=d.a.c;refine HF BF rfl (uf (pb:=h.a) (eb:=h.a+1) (sb:=h.a+3) d q hfl (by omega) (Y0 p hi) (xG p hi) ?_ (fun k h' C=>IX (JO (Hv k h' C))) (fun a b h' D G=>IX (Nw h' D G)) ?_)
 .have R:(AZ l).length=l.length:=UC;have H:∀(lo hi:Nat)(h':AA),(∀i,i<h.a->h'.c i=h.c i)->h.a<=h'.a->lo<=hi->hi<=s.a.length->∃v,H9 prog h' 22 (qS r l.length AT) (some (iv lo)) (some (iv hi)) none=some v/\A8 h' v ((s.a.drop lo).take (hi-lo)):=fun lo hi h' I S a b=>by
   have:=yb (h:=h') (r:=r) (rows:=s.a) (by rw[I r d.a.b.2];exact d.a.a) (by have:=d.a.b.2;omega) a b;grind
  have:=yc (n:=n) (h:=h) (ce:=l.length) (v0:=.string nm) (v2:=vq) (v3:=vv) (v4:=vt) (v6:=vo) (v7:=iv s.c) (vr:=qS r l.length AT) q ?_ hfl (by omega) H (AK.X (d.a.u.b (by rw[IE,cy])) (bg _)) d.g d.v.2;.grind
  .have J:=(d.a.q.b (w:=2) (RF _)).a;have K:=(d.a.v.b (w:=1) (by rw[Z8,cy])).a;have M:=(d.a.t.b (w:=1) (by rw[Z8,cy])).a;have N:=(d.a.u.b (w:=1) (by rw[IE,cy])).a;have O:=(d.a.o.b (w:=1) (by rw[IE,cy])).a;simp only[az,bd,J,K,M,N,O,TL,JQ,ao];rfl
 .intro P h' Q j o;exact Ep q Q (Y8).1 (Y8).2 j o
end
theorem IR.a{h H H':AA}{lo:Nat}{F:List Nat}(a:IR h H lo F)(b:IR H H' lo F):IR h H' lo F:=⟨fun i c=>(b.1 i c).trans (a.1 i c),dj a.2.1 b.2.1,b.2.2.trans a.2.2⟩
section
variable {n N:Nat}
theorem Xy{l:List AF}{v:Value}{T:Tr}{H:AA}{K:DH}{a fl lo m k c e r X Y:Nat}{nm:ByteArray}{F:List Nat}(B:DM l)(hL:l.length<2932031007403)(hn:3<n)(hN:l.length+3<N)(t0:T.a 0=v)(t2:T.a 2=qP a 0)(t3:T.a 3=qP (a+1) 0)(t7:T.a 7=qS fl 3 3)(hv:A8 H v l)(hp:HG H lo m k c e r l.length nm (AZ l) F (DC l))(I:l9 H m e X Y fl l.length (AZ l))(h5:X∈F)(h6:Y∈F)(J:fl∈F)(ha:a+1<lo)(h8:lo<=H.a)(R:GZ a H CO 0 0)(g0:H.b<=a)(S:(ED (AZ l) l.length 0 (DC l)).1≠0->∀w g,w.a 2=qP a 0->w.a 3=qP (a+1) 0->GZ a g CO (ED (AZ l) l.length 0 (DC l)).1 (ED (AZ l) l.length 0 (DC l)).2.1->H.a<=g.a->g.b=H.b->(∀i,i<a->g.c i=H.c i)->K.a prog (AN n) N .ret ⟨w,g⟩)(L:(ED (AZ l) l.length 0 (DC l)).1=0->∀w g,(∀t,t<=7->w.a t=T.a t)->HG g lo m k c e r l.length nm (AZ l) F (ED (AZ l) l.length 0 (DC l)).2.2->JI l l.length (ED (AZ l) l.length 0 (DC l)).2.2->IR H g lo F->WK prog (AN n) N kX ⟨w,g⟩ K):WK prog (AN n) N g_ ⟨T,H⟩ K:=by
 show WK _ _ _ (.seq (.seq _ (.block 0 (.loop (.seq _ (.seq _ (.seq (.block 1 Mo) _)))))) kX) _ _;have U:=fun h'=>hv.c (h':=h');simp only[eE,seval,t0,U];refine WK.b (fun i V=>V.T.a 43=iv l.length/\V.T.a 44=iv i/\i<=l.length/\(∀t,t<=7->V.T.a t=T.a t)/\IR H V.h lo F/\∃s,HG V.h lo m k c e r l.length nm (AZ l) F s/\JI l i s/\ED (AZ l) (l.length-i) i s=ED (AZ l) l.length 0 (DC l)) l.length (by omega) ?_ ?_
 .refine⟨by simp only[eE,↓reduceIte,Nat.reduceEqDiff],by simp only[eE,↓reduceIte];rfl,by omega,fun t B=>?_,⟨fun _ _=>rfl,af _,rfl⟩,DC l,hp,VO l,rfl⟩;simp only[Tr.b,aj];repeat rw[ad (by omega)]
 .rintro i⟨T1,H1⟩hi⟨y,o,g1,b,d,s,M,z,A⟩;simp only at y o b d M;by_cases p:i<l.length
  .have c1:decide ((i:Int)<(l.length:Int))=true:=by simp;omega
   obtain⟨x,hx⟩:∃x,s.a[i]?=some x:=⟨_,aa (by rw[z.a];exact p)⟩;obtain⟨Z,h1⟩:=x8 (end_:=AE l i) hx;have C:l9 H1 m e X Y fl l.length (AZ l):=⟨(d.1 X (.inr h5)).trans I.a,(d.1 Y (.inr h6)).trans I.b,(d.1 fl (.inr J)).trans I.c⟩;obtain⟨x2,h0,O⟩:=ya (n:=n) (lo:=lo) (k:=k) (c:=c) (r:=r) (nm:=nm) (F:=F) B hL p z hx h1 C h5 h6 J hn;obtain⟨sb,sg⟩:=xx (E:=AZ l) hx (NU p) h1 h0;have hr:l.length-i=(l.length-(i+1))+1:=by omega
   rw[hr]at A;have P:GZ a H1 CO 0 0:=R.a (d.1 a (.inl (by omega))) (d.1 (a+1) (.inl ha));have g4:=d.2.1;have g5:=d.2.2;have w1:=DU i;have f:∀t,t<=44->(T1.c (some 45) (Value.bool true)).a t=T1.a t:=fun t B=>by rw[Tr.b,ad (fun h=>by have h9:(45:Nat)=t:=fm h;omega)]
   simp only[eE,seval,↓eP,y,o,c1];refine xv (a:=a) (fl:=fl) (er:=UN i (AE l i) x {x with n:=Z} x2 s) (st:=cU i (AE l i) x {x with n:=Z} x2 s) (E:=AZ l) (F:=F) ((f 2 (by omega)).trans ((b 2 (by omega)).trans t2)) ((f 3 (by omega)).trans ((b 3 (by omega)).trans t3)) ((f 7 (by omega)).trans ((b 7 (by omega)).trans t7)) ((f 44 (by omega)).trans o) (by omega) M ha (by omega) P (by omega) C.c J O ?_ ?_
   .intro j hj he hz w g g2 g3 ho g6 g7 h2;have u:=sb j hj he hz;have D:ED (AZ l) l.length 0 (DC l)=(UN i (AE l i) x {x with n:=Z} x2 s j,i,s):=by
     rw[<-A];unfold ED;rw[u,ag he]
    simp only[eE,seval];refine S (by rw[D];exact he) w g g2 g3 (by rw[D];exact ho) (by omega) (by omega) fun q hq=>(h2 q hq).trans (d.1 q (.inl (by omega)))
   .intro hz w g Q h3 W;have u:=sg hz;have e0:(GB (AZ l) i s).1=0:=by rw[u]
    have G:=aG B (aM i) p z e0;rw[u]at G;have D:ED (AZ l) (l.length-(i+1)) (i+1) (cU i (AE l i) x {x with n:=Z} x2 s 3)=ED (AZ l) l.length 0 (DC l):=by
     rw[<-A];conv=>rhs;unfold ED
     rw[ad (by rw[e0];simp),u]
    have h4:=(Q 43 (by omega)).trans ((f 43 (by omega)).trans y);have h7:=(Q 44 (by omega)).trans ((f 44 (by omega)).trans o);simp only[eE,seval,h4,h7,w1];refine⟨p,by omega,fun t B=>?_,d.a W,_,h3,G,D⟩;repeat rw[ad (by omega)]
    exact(Q t (by omega)).trans ((f t (by omega)).trans (b t B))
  .have c1:decide ((i:Int)<(l.length:Int))=false:=by simp;omega
   have:i=l.length:=by omega
   subst this;have D:ED (AZ l) l.length 0 (DC l)=(0,l.length,s):=by
    rw[<-A,jc];rfl
   simp only[eE,seval,↓eP,y,o,c1];refine L (by rw[D]) _ _ (fun t B=>?_) (by rw[D];exact M) (by rw[D];exact z) d;simp only[Tr.b,aj];repeat rw[ad (by omega)]
   exact b t B
theorem CG.b{lo lo':Nat}{h:AA}{b:Value}{nm:ByteArray}{s:AS}(c:CG lo h b nm s)(a:lo'<=lo):CG lo' h b nm s:=by obtain⟨d,e,f,g,i,j,k,l,m,o,p,q,r⟩:=c;exact⟨d,e,f,g,i,j,k,JZ.b (l.2.f a),m.f a,o.f a,p.f a,q.X a,r.X a⟩
def R9(lo:Nat)(h:AA)(g:Value)(nm:ByteArray)(s:AS):Prop:=∃a r b c d e f,g=.agg #[.string nm,qS r s.a.length AT,b,c,d,e,f,iv s.c]/\O4 h lo a r s.a.length b c d e f s
theorem GV.d{h:AA}{lo lo':Nat}{tag:Nat->Nat}{j:Nat}{v:Value}{n:Nat}{cs:List Value}{ty:TypeId}(b:GV h lo tag j v n cs ty)(i:lo'<=lo):GV h lo' tag j v n cs ty:=by
 rcases b with a|⟨c,d,a,e,k,f,g⟩;.exact .inl a
 .exact .inr ⟨c,d,a,e,by omega,f,g⟩
theorem O4.f{h:AA}{lo lo':Nat}{tag:Nat->Nat}{r n:Nat}{vq vv vt vu vo:Value}{s:AS}(a:O4 h lo tag r n vq vv vt vu vo s)(b:lo'<=lo):O4 h lo' tag r n vq vv vt vu vo s:=⟨a.a,a.c,a.d,⟨by have:=a.b.1;omega,a.b.2⟩,a.q.d b,a.v.d b,a.t.d b,a.u.d b,a.o.d b⟩
theorem R9.b{lo lo':Nat}{h:AA}{b:Value}{nm:ByteArray}{s:AS}(c:R9 lo h b nm s)(d:lo'<=lo):R9 lo' h b nm s:=by obtain⟨a,r,e,f,g,i,j,k,l⟩:=c;exact⟨a,r,e,f,g,i,j,k,l.f d⟩
theorem R9.a{lo:Nat}{h h':AA}{d:Value}{nm:ByteArray}{s:AS}(e:R9 lo h d nm s)(f:h.a<=h'.a)(g:∀i,lo<=i->i<h.a->h'.c i=h.c i):R9 lo h' d nm s:=by obtain⟨c,r,j,k,l,m,o,p,q⟩:=e;exact⟨c,r,j,k,l,m,o,p,q.e f (fun _ _=>rfl) fun i a b _ _=>g i a b⟩
theorem R9.c{lo:Nat}{h:AA}{b:Value}{nm:ByteArray}{s:AS}(c:R9 lo h b nm s):CG lo h b nm s:=by obtain⟨d,r,e,f,g,i,j,k,a⟩:=c;exact⟨_,e,f,g,i,j,k,JZ.b (AL.d (ex:=[]) (by rw[dm];exact a.a) a.b (MT _)),a.q.b (RF _),a.v.b (by simp[DN]),a.t.b (by simp[DN]),a.u.b (by rw[IE,cy]),a.o.b (by rw[IE,cy])⟩
theorem DD.c{h:AA}{lo m k c e r n:Nat}{nm:ByteArray}{E:List Int}{tag:Nat->Nat}{vq vv vt vu vo:Value}{b:List (Value×Value)}{s:AS}(a:DD h lo m k c e r n nm E tag vq vv vt vu vo b s):R9 lo h (.agg #[.string nm,qS r n AT,vq,vv,vt,vu,vo,iv s.c]) nm s:=by have d:=a.a.c;subst d;exact⟨tag,r,vq,vv,vt,vu,vo,rfl,a.a⟩
theorem ye{l:List AF}{T:Tr}{H:AA}{K:DH}{a lo m k c e r x y:Nat}{nm:ByteArray}{F:List Nat}{s:AS}(U:DM l)(V:l.length<2932031007403)(W:l.length+100<n)(t2:T.a 2=qP a 0)(u:T.a 3=qP (a+1) 0)(O:T.a 5=qP x 0)(P:T.a 6=qP y 0)(X:HG H lo m k c e r l.length nm (AZ l) F s)(z:JI l l.length s)(Y:H.c x=.row [qP m 0] 119 false false)(Z:H.c y=.row [qS e l.length l.length] 25 false false)(ha:a+1<lo)(h0:lo<=H.a)(g:GZ a H CO 0 0)(h1:H.b<=a)(o:LI s.a (AZ l) s.d>=0->∀h f,h.a 2=qP a 0->h.a 3=qP (a+1) 0->GZ a f CO 34 (LI s.a (AZ l) s.d)->H.a<=f.a->f.b=H.b->(∀i,i<a->f.c i=H.c i)->K.a prog (AN n) N .ret ⟨h,f⟩)(j:¬LI s.a (AZ l) s.d>=0->∀h f A,h.a 2=qP a 0->h.a 3=qP (a+1) 0->A.length=8->GZ a f A 0 0->R9 lo f (.agg A.toArray) nm s->H.a<=f.a->f.b=H.b->(∀i,i<a->f.c i=H.c i)->K.a prog (AN n) N .ret ⟨h,f⟩):WK prog (AN n) N kX ⟨T,H⟩ K:=by
 show WK _ _ _ (.seq (.seq _ (.seq _ _)) (.seq _ _)) _ _;obtain⟨h2,B,C,D,E,G,es,b,_⟩:=id X;have p:=yd (n:=n) b U V z (by omega) W;have Q:AI 0 (H.c x)=some (qP m 0):=by rw[Y];rfl
 have R:AI 0 (H.c y)=some (qS e l.length l.length):=by rw[Z];rfl
 cases d:decide (LI s.a (AZ l) s.d>=0)with
 |true=>
  obtain⟨f,I,J,L,r2,M,v⟩:=UA g rfl (by omega) (by omega) (cs':=CO) rfl rfl (e':=34) (p':=LI s.a (AZ l) s.d);simp only[eE,seval,↓eP,cW,BH,t2,u,O,P,Q,R,p,d,WI,II,I,J];refine o (by grind) _ _ ?_ ?_ L (by omega) M fun i S=>v i (by omega) (by omega);.simp only[eE,seval,t2]
  .simp only[eE,seval,u]|false=>
  have l8:AX 8 0 (H.c m)=some (.agg #[.string nm,qS r l.length AT,B,C,D,E,G,iv s.c]):=by rw[b.b];rfl
  have q:=b.c;have t:([.string nm,qS r l.length AT,B,C,D,E,G,iv s.c]:List Value).all one=true:=by
   have q1:=(b.a.q.b (w:=2) (RF _)).a;have q2:=(b.a.v.b (w:=1) (by simp[DN])).a;have q3:=(b.a.t.b (w:=1) (by simp[DN])).a;have q4:=(b.a.u.b (w:=1) (by rw[IE,cy])).a;have q5:=(b.a.o.b (w:=1) (by rw[IE,cy])).a;simp only[az,bd,q1,q2,q3,q4,q5,TL,JQ,ao];rfl
  obtain⟨f,I,J,L,r2,M,v⟩:=UA g rfl (by omega) (by omega) (cs':=[.string nm,qS r l.length AT,B,C,D,E,G,iv s.c]) rfl t (e':=0) (p':=0);simp only[eE,seval,↓eP,cW,BH,t2,u,O,P,Q,R,p,d,M5,C7,l8,QV,I,J];refine j (by grind) _ _ _ ?_ ?_ rfl L (q.a (by omega) fun i S _=>v i (by omega) (by omega)) (by omega) M fun i S=>v i (by omega) (by omega);.simp only[eE,seval,t2]
  .simp only[eE,seval,u]
end
theorem IY{a:Nat}{H:AA}{cs:List Value}{ty:TypeId}{g ro:Bool}(h:H.c a=.row cs ty g ro)(b:cs.length=8):AX 8 0 (H.c a)=some (.agg cs.toArray):=by
 rw[h];have:cs.take 8=cs:=by grind
 simp only[AX,GN,gn,this,b,ai]
theorem qC{l:List AF}(h:(CY l).1=0):KK BG l=none:=by unfold CY at h;grind
def U1(h:AA)(l:List AF)(v:Value)(h':AA):Prop:=∃a,v=.tuple #[a,EE (DA l).1.1 (DA l).1.2]/\CG h.a h' a (FE l).1 (FE l).2/\h'.b=h.b/\h.a<=h'.a/\∀i,i<h.a->h'.c i=h.c i
theorem AL.h{lo:Nat}{h:AA}{v:Value}{n w:Nat}{cs:List Value}(b:AL lo h v n w cs)(d:B7 v=true)(lo':Nat)(h':AA):AL lo' h' v n w cs:=by
 obtain⟨e,a,c,rfl,⟨f,rfl⟩|⟨k,i,j,l,g,m,rfl,o,p,q⟩⟩:=b;.exact⟨e,_,_,rfl,.inl ⟨f,rfl⟩⟩
 .cases d
theorem yg{h h1:AA}{l:List AF}{v:Value}(b:E5 v=true)(j:U1 h l v h1):U1 h l v h:=by
 obtain⟨y,rfl,⟨c,d,e,f,g,i,rfl,k,m,n,o,p,q⟩,_⟩:=j;have a:flat (.agg #[.string (FE l).1,c,d,e,f,g,i,iv (FE l).2.c])=true:=by
  simp only[E5,List.all_toArray,az,ah]at b;exact b.1
 simp only[flat,az,ah]at a;obtain⟨_,r,s,t,u,w,x,_⟩:=a;exact⟨_,rfl,⟨c,d,e,f,g,i,rfl,JZ.b (k.2.h r _ _),m.h s _ _,n.h t _ _,o.h u _ _,AL.h p w _ _,AL.h q x _ _⟩,rfl,af _,fun _ _=>rfl⟩
def bZ(lo:Nat)(h:AA)(a:Value)(nm:ByteArray)(s:AS):Prop:=(a=XM/\nm=ByteArray.empty/\s=sZ)\/R9 lo h a nm s
theorem bZ.a{lo:Nat}{h:AA}{b:Value}{nm:ByteArray}{s:AS}(a:bZ lo h b nm s):CG lo h b nm s:=by
 rcases a with⟨rfl,rfl,rfl⟩|a;.exact Qx lo h
 .exact a.c
def VA(h:AA)(l:List AF)(v:Value)(h':AA):Prop:=∃a,v=.tuple #[a,EE (DA l).1.1 (DA l).1.2]/\bZ h.a h' a (FE l).1 (FE l).2/\h'.b=h.b/\h.a<=h'.a/\∀i,i<h.a->h'.c i=h.c i
theorem VA.a{h h':AA}{l:List AF}{v:Value}(a:VA h l v h'):U1 h l v h':=by obtain⟨b,c,d,e⟩:=a;exact⟨b,c,d.a,e⟩
theorem yh{h h1:AA}{l:List AF}{v:Value}(c:E5 v=true)(d:VA h l v h1):VA h l v h:=by
 obtain⟨e,rfl,b,_⟩:=d;refine⟨e,rfl,?_,rfl,af _,fun _ _=>rfl⟩;rcases b with b|⟨f,r,g,i,j,k,m,rfl,_⟩;.exact .inl b
 .have a:flat (.agg #[.string (FE l).1,qS r (FE l).2.a.length AT,g,i,j,k,m,iv (FE l).2.c])=true:=by
   simp only[E5,List.all_toArray,az,ah]at c;exact c.1
  simp only[flat,az,ah]at a;exact absurd a.2.1 (by simp[B7])
section
variable {n N:Nat}
theorem Vk{l:List AF}{v:Value}{h:AA}(h0:h.b<=h.a)(hg:h.c 0=EM)(h1:0<h.a)(hv:A8 h v l)(hL:l.length<2932031007403)(hn:2*l.length+100<n)(hN:l.length+3<N):∃v' h',AW prog (AN n) N 13 [v] h=some (v',h')/\VA h l v' h':=by
 refine G_ (R:=VA h l) func13 rfl (by simp) ?_;have hr:f13.results.toList=[.cell 2 27,.cell 3 43]:=rfl;generalize h2:DH.top (fun e s=>(e=FJ.normal\/e=FJ.ret)/\∃vs,F5 prog s f13.results.toList=some vs/\VA h l (GU vs) s.h)=K;have u:∀(y:Tr)(H':AA)E e p nm s,y.a 2=qP h.a 0->y.a 3=qP (h.a+1) 0->E.length=8->GZ h.a H' E e p->bZ h.a H' (.agg E.toArray) nm s->(DA l).1=(e,p)->FE l=(nm,s)->h.a<=H'.a->H'.b=h.b->(∀i,i<h.a->H'.c i=h.c i)->K.a prog (AN n) N .ret ⟨y,H'⟩:=by
  intro y H' E e p nm s F G hl I hp he g3 z X b;have h3:=IY I.1 hl;have h4:AX 2 0 (H'.c (h.a+1))=some (EE e p):=by rw[I.2];rfl
  rw[<-h2];simp only[eE,seval,hr,F,G,C7,FD,h3,h4];exact⟨_,by rw[he],by grind,X,z,b⟩
 have hz:∀H',bZ h.a H' XM ByteArray.empty sZ:=fun H'=>.inl ⟨rfl,rfl,rfl⟩;refine xr (EC n).2 h0 hv hg h1 (fun H t h5 h6 L=>ut (by omega) (by omega) t h5 h6 L) ?_ ?_
 .intro M y H F G I z X b;refine u y H _ _ _ ByteArray.empty sZ F G rfl I (hz H) ?_ ?_ (by omega) X b;.unfold DA;rw[ag M]
  .unfold FE;have:(DA l).1.1≠0:=by unfold DA;rw[ag M];exact M
   rw[ag this]
 .intro M y H t0 F G I z X b;have O:=jG (qC M);have P:A8 H v l:=hv.a (by omega) b;have Q:=fun H'(t:A8 H' v l)=>PW (n:=n-1) (BF (f:=62) (args:=[v]) (h:=H') ⟨rfl,rfl,rfl⟩) rfl (Ql (call:=AN (n-1)) (N:=n-1) t O.V (by omega));rw[show n-1+1=n by omega]at Q;refine xu (EC n).2 O hL (by omega) P t0 Q (fun H' t h7=>uu O t (by omega) (by omega) h7) ?_;intro T1 H1 m k c e r c5 c6 fl u0 u2 u3 u5 u6 u7 hp A S g7 d;have T:GZ h.a H1 CO 0 0:=I.a (d _ (by omega)) (d _ (by omega));refine Xy (a:=h.a) O hL (by omega) hN u0 (u2.trans F) (u3.trans G) u7 (P.a S d) hp A (by simp) (by simp) (by simp) (by omega) (by omega) T (by omega) ?_ ?_
  .intro w T2 Y w2 w3 B g4 h8 h9;refine u T2 Y _ _ _ ByteArray.empty sZ w2 w3 rfl B (hz Y) ?_ ?_ (by omega) (by omega) fun i J=>by grind
   .unfold DA;rw[ad (by omega)];simp only;rw[ag w]
   .unfold FE;have:(DA l).1.1≠0:=by
     unfold DA;rw[ad (by omega)];simp only;rw[ag w];exact w
    rw[ag this]
  .intro w T2 Y x g0 U g;have g5:=(g.1 c5 (.inr (by simp))).trans A.a;have g6:=(g.1 c6 (.inr (by simp))).trans A.b;have B:GZ h.a Y CO 0 0:=T.a (g.1 _ (.inl (by omega))) (g.1 _ (.inl (by omega)));have h8:=g.2.2;have g8:=g.2.1;refine ye (a:=h.a) O hL (by omega) ((x 2 (by omega)).trans (u2.trans F)) ((x 3 (by omega)).trans (u3.trans G)) ((x 5 (by omega)).trans u5) ((x 6 (by omega)).trans u6) g0 U g5 g6 (by omega) (by omega) B (by omega) ?_ ?_
   .intro C T3 Z x2 x3 D V g1 hold3;have hres:(DA l).1=(34,LI (ED (AZ l) l.length 0 (DC l)).2.2.a (AZ l) (ED (AZ l) l.length 0 (DC l)).2.2.d):=by
     unfold DA;rw[ad (by omega)];simp only;rw[ad (by omega),ag C]
    refine u T3 Z _ _ _ ByteArray.empty sZ x2 x3 rfl D (hz Z) hres ?_ (by omega) (by omega) fun i J=>by rw[hold3 i J,g.1 i (.inl (by omega)),d i (by omega),b i J]
    unfold FE;rw[ag (by grind)]
   .intro C T3 Z E x2 x3 g2 D W V g1 hold3;have hres:DA l=((0,0),(ED (AZ l) l.length 0 (DC l)).2.2):=by
     unfold DA;rw[ad (by omega)];simp only;rw[ad (by omega),ad C]
    refine u T3 Z E _ _ (PJ l) (ED (AZ l) l.length 0 (DC l)).2.2 x2 x3 g2 D (.inr (W.b (by omega))) (by rw[hres]) ?_ (by omega) (by omega) fun i J=>by rw[hold3 i J,g.1 i (.inl (by omega)),d i (by omega),b i J]
    unfold FE;rw[hres];simp
theorem Wp{l:List AF}{v:Value}{h:AA}(a:h.b<=h.a)(e:h.c 0=EM)(b:0<h.a)(f:A8 h v l)(g:l.length<2932031007403)(i:2*l.length+110<n):∃c d,AN n 13 [v] h=some (c,d)/\VA h l c d:=by obtain⟨n,rfl⟩:=BX i;exact GY BF (Vk (n:=n) (N:=n) a e b f g (by omega) (by omega)) fun c m j _ k=>yh j k
theorem yi{l:List AF}{v:Value}{h:AA}(c:h.b<=h.a)(e:h.c 0=EM)(d:0<h.a)(f:A8 h v l)(g:l.length<2932031007403)(i:2*l.length+110<n):∃a b,AN n 13 [v] h=some (a,b)/\U1 h l a b:=by obtain⟨a,b,j,k⟩:=Wp (n:=n) c e d f g i;exact⟨a,b,j,k.a⟩
end
def O_(s:AS):Prop:=s.e.length=s.b.length+s.f.length+s.g.length+s.d.length
theorem yj(l:List AF):O_ (DC l):=rfl
theorem Yi{at_:Nat}{end_:Int}{x:AF}{s:AS}(h:O_ s):O_ (CQ at_ end_ x s):=by
 unfold CQ;split;.exact h
 .rename_i a;have b:=W8 x.a;unfold O_ at h⊢;simp only[HE,ch,bx,du];grind
theorem yl{at_:Nat}{x:AF}{s:AS}(h:O_ s):O_ (C2 at_ x s):=by
 unfold C2;split;.exact h
 .split<;>exact h
theorem ym{at_:Nat}{x:AF}{s:AS}(h:O_ s):O_ (EZ at_ x s):=by
 unfold EZ;split;.exact h
 .split<;>exact h
theorem yo{E:List Int}{at_:Nat}{s:AS}(h:O_ s):O_ (GB E at_ s).2:=by unfold GB;(repeat' split)<;>first|exact h|exact ym (yl (Yi h))
theorem yp{s:AS}(h:O_ s)(a:ON s):s.e.length<100000:=by have:=a.q;have:=a.v;have:=a.t;have:=a.u;unfold O_ at h;omega
theorem yq{S Z:List Int}{k:Int}(h0:0<=k)(h1:k<S.length):GL (S++Z) k=GL S k:=by unfold GL;grind
theorem Iv{S Z:List Int}:∀(l:List AF)(a:Int),(∀x∈l,x.a=22->0<=x.n/\x.n<S.length)->IN (S++Z) l a=IN S l a
 |[],a,_=>rfl|x::l,a,h=>by
  have d:=fun b=>Iv (S:=S) (Z:=Z) l b fun y e=>h y (iZ _ e);unfold IN;rw[d];by_cases c:x.a=22;.rw[ag c,ag c,yq (h x (.head _) c).1 (h x (.head _) c).2]
  grind
theorem Cg{rows:List AF}{E rules:List Int}(e:XH rows E rules):KA rows E rules []=I1 rows E rules:=by
 have f:∀(r S:List Int),(∃a,rules=a++r/\a.length=S.length)->UQ rows E r S.length (S++List.replicate r.length 0)=KA rows E r S:=by intro r;induction r with|nil=>intro S _;simp[UQ,KA]|cons b r i=>
   rintro S⟨a,j,k⟩;have c:rules[S.length]?=some b:=by grind
   have h:=e.a.g b (aw c);have l:Gz0 rows E (S++List.replicate (b::r).length 0) b.toNat=Gz0 rows E S b.toNat:=by unfold Gz0;refine Iv _ _ fun x g d=>?_;have m:=e.b _ _ c x g d;have n:=e.a.a x (iQ (List.mem_of_mem_take g)) d;omega
   unfold UQ KA;grind
 have:=f rules [] ⟨[],rfl,rfl⟩;exact this.symm
theorem IQ.a{h H H':AA}{lo:Nat}(a:IQ h H lo)(b:IQ H H' lo):IQ h H' lo:=⟨fun i c=>(b.1 i c).trans (a.1 i c),dj a.2.1 b.2.1,b.2.2.trans a.2.2⟩
theorem IQ.b(h:AA)(lo:Nat):IQ h h lo:=⟨fun _ _=>rfl,af _,rfl⟩
noncomputable def sH:Code:=inB (iB f25 1)
noncomputable def Rp:Code:=rt (rt (rt (rt sH)))
section
variable {n N:Nat}
theorem fO{T:Tr}{H:AA}{K:DH}{a lo m e r L at_:Nat}{nm:ByteArray}{E:List Int}{s:AS}{x:AF}{e1 l:Int}(A:1<=l/\l<=54)(hn:100020<n)(U:at_<2932031007403)(t2:T.a 2=qP a 0)(u:T.a 3=qP (a+1) 0)(O:T.a 5=qP m 0)(B:T.a 6=iv at_)(v:T.a 7=iv e1)(C:T.a 8=iv l)(V:e1=0->IP H lo m e r L nm E s/\s.a[at_]?=some x/\x.a=l/\(E9 x.a=true->x.a≠10->0<=x.n/\x.n<s.h.length))(W:a+1<lo)(X:lo<=H.a)(f:GZ a H CO 0 0)(Y:H.b<=a)(g:∀w,w≠0->((e1≠0/\w=e1)\/(e1=0/\w=EY x s))->∀o b,o.a 2=qP a 0->o.a 3=qP (a+1) 0->GZ a b CO w at_->H.a<=b.a->b.b=H.b->(∀i,i<a->b.c i=H.c i)->K.a prog (AN n) N .ret ⟨o,b⟩)(c:e1=0->EY x s=0->∀o b,(∀t:Nat,t<=6->o.a t=T.a t)->IP b lo m e r L nm E (EZ at_ x s)->IQ H b lo->K.a prog (AN n) N .normal ⟨o,b⟩):WK prog (AN n) N Rp ⟨T,H⟩ K:=by show WK _ _ _ (.seq (.seq _ _) (.seq _ _)) _ _;cases d:(e1 !=0)with
 |true=>
  have Z:(e1==0)=false:=by grind
  have y:e1≠0:=by grind
  obtain⟨b,D,F,G,r2,P,I⟩:=UA f rfl (by omega) (by omega) (cs':=CO) rfl rfl (e':=e1) (p':=at_);simp only[eE,seval,↓eP,t2,u,B,v,d,Z,WI,II,D,F];refine g e1 y (.inl ⟨y,rfl⟩) _ _ ?_ ?_ G (by omega) P fun i hi=>I i (by omega) (by omega);.simp only[eE,seval,t2]
  .simp only[eE,seval,u]|false=>
  have y:e1=0:=by grind
  subst y;obtain⟨J,hx,Q,M⟩:=V rfl;have q:=IX (n:=n) (JO (k:=12) (kC l H A));have z0:((0:Int)==0)=true:=rfl;cases h:E9 l with
  |false=>
   rw[h]at q;rw[<-Q]at h;have h1:EY x s=0:=by unfold EY;rw[ag h]
   have h2:EZ at_ x s=s:=by unfold EZ;rw[ag h]
   simp only[eE,seval,↓eP,v,C,d,q];refine c rfl h1 _ _ (fun t ht=>?_) (by grind) (IQ.b _ _);simp only[Tr.b,aj];repeat grind|true=>
   rw[h]at q;rw[<-Q]at h;obtain⟨H2,R,p,q3⟩:=wx (n:=n) (at_:=at_) J hx h (by omega) (M h) (by omega);have n2:=p.2.1;have f2:=p.2.2;have j:GZ a H2 CO 0 0:=f.a (p.1 a (by omega)) (p.1 (a+1) W);cases S:(EY x s !=0)with
   |true=>
    have z:EY x s≠0:=by grind
    obtain⟨b,D,F,G,r2,P,I⟩:=UA j rfl (by omega) (by omega) (cs':=CO) rfl rfl (e':=EY x s) (p':=at_);simp only[eE,seval,↓eP,t2,u,O,B,v,C,q,R,S,WI,II,D,F];refine g _ z (.inr ⟨rfl,rfl⟩) _ _ ?_ ?_ G (by omega) (by omega) fun i hi=>by rw[I i (by omega) (by omega),p.1 i (by omega)]
    .simp only[eE,seval,t2]
    .simp only[eE,seval,u]|false=>
    have z:EY x s=0:=by grind
    simp only[eE,seval,↓eP,O,B,v,C,q,R,S];refine c rfl z _ _ (fun t ht=>?_) (q3 z) p;simp only[Tr.b,aj];repeat rw[ad (by omega)]
theorem yr{l:List AF}{v:Value}{T:Tr}{H:AA}{K:DH}{a lo m e r at_:Nat}{nm:ByteArray}{s:AS}{x:AF}(ht:DM l)(hL:l.length<2932031007403)(hn:100020<n)(hat:at_<l.length)(t0:T.a 0=v)(t2:T.a 2=qP a 0)(t3:T.a 3=qP (a+1) 0)(t5:T.a 5=qP m 0)(t6:T.a 6=iv at_)(hv:A8 H v l)(hp:IP H lo m e r l.length nm (AZ l) s)(hi:JI l at_ s)(hT:O_ s)(hx:s.a[at_]?=some x)(ha:a+1<lo)(hlo:lo<=H.a)(hout:GZ a H CO 0 0)(hfa:H.b<=a)(hbad:(GB (AZ l) at_ s).1≠0->∀T' H',T'.a 2=qP a 0->T'.a 3=qP (a+1) 0->GZ a H' CO (GB (AZ l) at_ s).1 at_->H.a<=H'.a->H'.b=H.b->(∀i,i<a->H'.c i=H.c i)->K.a prog (AN n) N .ret ⟨T',H'⟩)(hgood:(GB (AZ l) at_ s).1=0->∀T' H',(∀t:Nat,t<=6->T'.a t=T.a t)->IP H' lo m e r l.length nm (AZ l) (GB (AZ l) at_ s).2->IQ H H' lo->K.a prog (AN n) N .normal ⟨T',H'⟩):WK prog (AN n) N sH ⟨T,H⟩ K:=by
 have hkind:=Y0 ht hi x (aw hx);have hxl:l[at_]?=some x:=by rw[<-hi.b at_ (af _)];exact hx
 have hth:=yp hT hi.e;have hEat:(AZ l)[at_]?=some (AE l at_:Int):=NU hat;have hEd:((AZ l)[at_]?).getD 0=(AE l at_:Int):=by grind
 have hD:=fun H=>IX (n:=n) (JO (k:=12) (wv x.a H hkind));have hC:=fun H=>IX (n:=n) (JO (k:=12) (Ul x.a H hkind));have hV:=fun H=>IX (n:=n) (JO (k:=12) (kC x.a H hkind));have z0:((0:Int)!=0)=false:=rfl;have hnx:=hi.e;obtain⟨rid,p,e0,hid,l0,l1,l2,l3,l4,lr⟩:=hv.b hxl;show WK _ _ _ (.seq _ (.seq _ (.seq (.seq _ _) (.seq (.seq _ _) Rp)))) _ _;by_cases hd:CR x.a=0
 .rw[hd]at hD;rw[lH hx hd]at hbad hgood;have hxn:∀x2 s2,EI at_ x s=0->(C2 at_ x s).a[at_]?=some x2->s2=C2 at_ x s->ON s2->x2.a=x.a->E9 x2.a=true->x2.a≠10->0<=x2.n/\x2.n<s2.h.length:=by
   intro x2 s2 hc hx2 hs2 hw hk2 hev h10;obtain⟨n2,a1,a2,a3,a4,a5,a6⟩:=aB hx hc;rw[a1]at hx2;cases hx2;have hdd:=tR (k:=x.a) hev h10;rcases a6 with⟨b1,_⟩|⟨t,b1,b2,b3,_⟩;.omega
   .rw[hdd.1]at b2;rw[<-a5,<-hs2]at b1;obtain⟨_,_,q1,q2,_⟩:=hw.a t b1;rw[b2]at q2;have q3:t.c<(s2.b.length:Int):=q2;rw[<-hw.o]at q3;simp only;rw[b3];exact⟨q1,q3⟩
  by_cases hc:FN x.a=0
  .rw[hc]at hC;have h1:EI at_ x s=0:=by unfold EI;rw[ag hc]
   have h2:C2 at_ x s=s:=by unfold C2;rw[ag hc]
   rw[h1,h2]at hbad hgood;rw[ad (by simp),hx]at hbad hgood;simp only at hbad hgood;simp only[eE,seval,↓eP,t0,t6,e0,BB,AM,l0,hD,hC,z0];refine fO (e1:=0) (l:=x.a) (x:=x) (s:=s) (E:=AZ l) (lo:=lo) (m:=m) hkind hn (by omega) (by simp only[eE,seval,t2]) (by simp only[eE,seval,t3]) (by simp only[eE,seval,t5]) (by simp only[eE,seval,t6]) (by simp only[eE,seval]) (by simp only[eE,seval]) (fun _=>⟨hp,hx,rfl,fun hev h10=>hxn x s h1 (by grind) h2.symm hi.e rfl hev h10⟩) ha hlo hout hfa ?_ ?_;.grind
   .intro _ hev T' H' hk' hp' ha';rw[ad (by omega)]at hgood;refine hgood rfl T' H' (fun t ht=>?_) hp' ha';rw[hk' t ht];simp only[Tr.b,aj];repeat rw[ad (by omega)]
  .have d2:(FN x.a !=0)=true:=by grind
   obtain⟨H2,q1,q2,q3⟩:=Wl (n:=n) (at_:=at_) hp hx hc (by omega) hth (by omega);have n2:=q2.2.1;have f2:=q2.2.2;have hout2:=hout.a (q2.1 a (by omega)) (q2.1 (a+1) ha);simp only[eE,seval,↓eP,t0,t5,t6,e0,BB,AM,l0,hD,hC,z0,d2,q1];by_cases h1:EI at_ x s=0
   .obtain⟨n1,a1,_⟩:=aB hx h1;have hp2:=q3 h1;have hw2:ON (C2 at_ x s):=by obtain⟨_,_,_,hw⟩:=id hp2;exact hw
    rw[ad (by omega),a1]at hbad hgood;simp only at hbad hgood;rw[h1];refine fO (e1:=0) (l:=x.a) (x:={x with n:=n1}) (s:=C2 at_ x s) (E:=AZ l) (lo:=lo) (m:=m) hkind hn (by omega) (by simp only[eE,seval,t2]) (by simp only[eE,seval,t3]) (by simp only[eE,seval,t5]) (by simp only[eE,seval,t6]) (by simp only[eE,seval]) (by simp only[eE,seval]) (fun _=>⟨hp2,a1,rfl,fun hev h10=>hxn _ _ h1 a1 rfl hw2 rfl hev h10⟩) ha (by omega) hout2 (by omega) ?_ ?_
    .rintro e' he'(⟨h,_⟩|⟨_,rfl⟩);.omega
     .rw[ag he']at hbad;exact fun T' H' w2 w3 ho hnx hfx hox=>hbad he' T' H' w2 w3 ho (by omega) (by omega) fun i hi=>by rw[hox i hi,q2.1 i (by omega)]
    .intro _ hev T' H' hk' hp' ha';rw[ad (by omega)]at hgood;refine hgood rfl T' H' (fun t ht=>?_) hp' (q2.a ha');rw[hk' t ht];simp only[Tr.b,aj];repeat rw[ad (by omega)]
   .rw[ag h1]at hbad;refine fO (e1:=EI at_ x s) (l:=x.a) (x:=x) (s:=s) (E:=AZ l) (lo:=lo) (m:=m) (e:=e) (r:=r) (nm:=nm) (L:=l.length) (at_:=at_) hkind hn (by omega) (by simp only[eE,seval,t2]) (by simp only[eE,seval,t3]) (by simp only[eE,seval,t5]) (by simp only[eE,seval,t6]) (by simp only[eE,seval]) (by simp only[eE,seval]) (fun h=>absurd h h1) ha (by omega) hout2 (by omega) ?_ (fun h=>absurd h h1);rintro e' he'(⟨_,rfl⟩|⟨h,_⟩);.exact fun T' H' w2 w3 ho hnx hfx hox=>hbad he' T' H' w2 w3 ho (by omega) (by omega) fun i hi=>by rw[hox i hi,q2.1 i (by omega)]
    .omega
 .have d1:(CR x.a !=0)=true:=by grind
  obtain⟨hc0,hv0⟩:=Lh hd;rw[hc0]at hC;rw[oU hx hd,hEd]at hbad hgood;obtain⟨H2,q1,q2,q3⟩:=ww (n:=n) (at_:=at_) hp hx hd (by omega) hEat (by omega) hth (by omega);have n2:=q2.2.1;have f2:=q2.2.2;have hout2:=hout.a (q2.1 a (by omega)) (q2.1 (a+1) ha);simp only[eE,seval,↓eP,t0,t5,t6,e0,BB,AM,l0,hD,hC,z0,d1,q1];by_cases h1:FV x s=0
  .obtain⟨n1,a1⟩:=x8 (end_:=(AE l at_:Int)) hx;have hp2:=q3 h1;have hev:E9 ({x with n:=n1}:AF).a=false:=hv0;have g1:EY {x with n:=n1} (CQ at_ (AE l at_) x s)=0:=by unfold EY;rw[ag hev]
   have g2:EZ at_ {x with n:=n1} (CQ at_ (AE l at_) x s)=CQ at_ (AE l at_) x s:=by unfold EZ;rw[ag hev]
   rw[ad (by omega)]at hbad hgood;rw[h1];refine fO (e1:=0) (l:=x.a) (x:={x with n:=n1}) (s:=CQ at_ (AE l at_) x s) (E:=AZ l) (lo:=lo) (m:=m) hkind hn (by omega) (by simp only[eE,seval,t2]) (by simp only[eE,seval,t3]) (by simp only[eE,seval,t5]) (by simp only[eE,seval,t6]) (by simp only[eE,seval]) (by simp only[eE,seval]) (fun _=>⟨hp2,a1,rfl,fun h=>by grind⟩) ha (by omega) hout2 (by omega) ?_ ?_;.omega
   .intro _ _ T' H' hk' hp' ha';rw[g2]at hp';refine hgood rfl T' H' (fun t ht=>?_) hp' (q2.a ha');rw[hk' t ht];simp only[Tr.b,aj];repeat rw[ad (by omega)]
  .rw[ag h1]at hbad;refine fO (e1:=FV x s) (l:=x.a) (x:=x) (s:=s) (E:=AZ l) (lo:=lo) (m:=m) (e:=e) (r:=r) (nm:=nm) (L:=l.length) (at_:=at_) hkind hn (by omega) (by simp only[eE,seval,t2]) (by simp only[eE,seval,t3]) (by simp only[eE,seval,t5]) (by simp only[eE,seval,t6]) (by simp only[eE,seval]) (by simp only[eE,seval]) (fun h=>absurd h h1) ha (by omega) hout2 (by omega) ?_ (fun h=>absurd h h1);rintro e' he'(⟨_,rfl⟩|⟨h,_⟩);.exact fun T' H' w2 w3 ho hnx hfx hox=>hbad he' T' H' w2 w3 ho (by omega) (by omega) fun i hi=>by rw[hox i hi,q2.1 i (by omega)]
   .omega
end
def qK:List (Bool×Bool×List Operand):=[AO,AO,AO,AO,AH [.tmp 83],AH [.tmp 83],AH [.tmp 83],AH [.tmp 83],AJ,AJ]
def pS:List (Bool×Bool×List Operand):=[DT,AO,AO,AO,AO,AH [.tmp 105],AH [.tmp 105],AH [.tmp 105],AH [.tmp 105],AH [.tmp 105,.tmp 109],AH [.tmp 105,.tmp 109],AH [.tmp 105,.tmp 109],AJ,AJ,AJ]
theorem NX{T:Tr}{d t:Nat}{v:Value}(h:t<d:=by omega):(T.c (some d) v).a t=T.a t:=by rw[Tr.b,ad (fun a=>by grind)]
section
variable {n N:Nat}
theorem ys{l:List AF}{v:Value}{T:Tr}{H:AA}{K:DH}{a lo m e r:Nat}{nm:ByteArray}(o:DM l)(W:l.length<2932031007403)(X:100020<n)(hN:l.length+3<N)(Y:T.a 0=v)(t2:T.a 2=qP a 0)(Z:T.a 3=qP (a+1) 0)(t5:T.a 5=qP m 0)(hv:A8 H v l)(L:∀d,(∀i,i<lo->d.c i=H.c i)->H.a<=d.a->A8 d v l)(hp:IP H lo m e r l.length nm (AZ l) (DC l))(R:a+1<lo)(h0:lo<=H.a)(A:GZ a H CO 0 0)(h1:H.b<=a)(B:(ED (AZ l) l.length 0 (DC l)).1≠0->∀g d,g.a 2=qP a 0->g.a 3=qP (a+1) 0->GZ a d CO (ED (AZ l) l.length 0 (DC l)).1 (ED (AZ l) l.length 0 (DC l)).2.1->H.a<=d.a->d.b=H.b->(∀i,i<a->d.c i=H.c i)->K.a prog (AN n) N .ret ⟨g,d⟩)(w:(ED (AZ l) l.length 0 (DC l)).1=0->∀g d,(∀t,t<=5->g.a t=T.a t)->IP d lo m e r l.length nm (AZ l) (ED (AZ l) l.length 0 (DC l)).2.2->JI l l.length (ED (AZ l) l.length 0 (DC l)).2.2->IQ H d lo->WK prog (AN n) N jW ⟨g,d⟩ K):WK prog (AN n) N jC ⟨T,H⟩ K:=by
 show WK _ _ _ (.seq (.seq _ (.block 0 (.loop (.seq _ (.seq (.block 1 sH) _))))) jW) _ _;simp only[eE,seval];refine WK.b (fun i J=>J.T.a 6=iv i/\i<=l.length/\(∀t,t<=5->J.T.a t=T.a t)/\IQ H J.h lo/\∃s,IP J.h lo m e r l.length nm (AZ l) s/\JI l i s/\O_ s/\ED (AZ l) (l.length-i) i s=ED (AZ l) l.length 0 (DC l)) l.length (by omega) ?_ ?_
 .refine⟨by simp only[eE,↓reduceIte];rfl,by omega,fun t o=>?_,IQ.b _ _,DC l,hp,VO l,yj l,rfl⟩;simp only[Tr.b,aj];repeat rw[ad (by omega)]
 .rintro i⟨S,U⟩hi⟨C,h2,b,c,s,y,h,V,j⟩;simp only at C b c y;have M:=(b 0 (by omega)).trans Y;have D:=L U c.1 c.2.1;have p:=fun h'=>D.c (h':=h');by_cases k:i<l.length
  .have O:decide ((i:Int)<(l.length:Int))=true:=by simp;omega
   obtain⟨x,hx⟩:∃x,s.a[i]?=some x:=⟨_,aa (by rw[h.a];exact k)⟩;have hr:l.length-i=(l.length-(i+1))+1:=by omega
   rw[hr]at j;have z:GZ a U CO 0 0:=A.a (c.1 a (by omega)) (c.1 (a+1) R);have h3:=c.2.1;have h4:=c.2.2;have w1:=DU i;have f:∀t:Nat,t<=6->((((S.c (some 39) (iv i)).c (some 40) v).c (some 41) (iv l.length)).c (some 42) (Value.bool true)).a t=S.a t:=fun t o=>by rw[NX,NX,NX,NX]
   simp only[eE,seval,↓eP,M,C,p,O];refine yr (a:=a) (at_:=i) (s:=s) (x:=x) o W X k ((f 0 (by omega)).trans M) ((f 2 (by omega)).trans ((b 2 (by omega)).trans t2)) ((f 3 (by omega)).trans ((b 3 (by omega)).trans Z)) ((f 5 (by omega)).trans ((b 5 (by omega)).trans t5)) ((f 6 (by omega)).trans C) D y h V hx R (by omega) z (by omega) ?_ ?_
   .intro E g d g2 g3 ho h5 h6 P;have u:ED (AZ l) l.length 0 (DC l)=((GB (AZ l) i s).1,i,s):=by
     rw[<-j];unfold ED;rw[ag E]
    simp only[eE,seval];refine B (by rw[u];exact E) g d g2 g3 (by rw[u];exact ho) (by omega) (by omega) fun q hq=>(P q hq).trans (c.1 q (by omega))
   .intro E g d F Q G;have I:=aG o (aM i) k h E;have u:ED (AZ l) (l.length-(i+1)) (i+1) (GB (AZ l) i s).2=ED (AZ l) l.length 0 (DC l):=by
     rw[<-j];conv=>rhs;unfold ED
     rw[ad (by rw[E];simp)]
    have u6:=(F 6 (by omega)).trans ((f 6 (by omega)).trans C);simp only[eE,seval,u6,w1];refine⟨k,by omega,fun t o=>?_,c.a G,_,Q,I,yo V,u⟩;repeat rw[ad (by omega)]
    exact(F t (by omega)).trans ((f t (by omega)).trans (b t o))
  .have O:decide ((i:Int)<(l.length:Int))=false:=by simp;omega
   have:i=l.length:=by omega
   subst this;have u:ED (AZ l) l.length 0 (DC l)=(0,l.length,s):=by
    rw[<-j,jc];rfl
   simp only[eE,seval,↓eP,M,C,p,O];refine w (by rw[u]) _ _ (fun t o=>?_) (by rw[u];exact y) (by rw[u];exact h) c;simp only[Tr.b,aj];repeat rw[ad (by omega)]
   exact b t o
theorem D3.e{h:AA}{lo m e r n:Nat}{nm:ByteArray}{E:List Int}{tag:Nat->Nat}{V:Nat->Value}{C:List Int}{s:AS}(b:D3 h lo m e r n nm E tag V C s):CG lo h (.agg #[.string nm,qS r n AT,V 2,V 3,V 4,V 5,V 6,iv s.c]) nm s:=by
 have a:=fun j c d=>b.p j c d;refine⟨_,V 2,V 3,V 4,V 5,V 6,rfl,JZ.b ?_,(a 2 (by omega) (by omega)).b (RF _),(a 3 (by omega) (by omega)).b (by simp[HU,HD,DN]),(a 4 (by omega) (by omega)).b (by simp[HU,HD,DN]),(a 5 (by omega) (by omega)).b (by simp[HU,HD,IE]),(a 6 (by omega) (by omega)).b (by simp[HU,HD,IE])⟩;have f:=b.g;subst f;exact AL.d (ex:=[]) (by rw[dm];exact b.b) b.f (MT _)
theorem Zc(U:C_ (AN n)){l:List AF}{v:Value}{T:Tr}{H:AA}{K:DH}{a lo m e r:Nat}{nm:ByteArray}{s:AS}(J:DM l)(hL:l.length<2932031007403)(hn:l.length+200<n)(hN:l.length+3<N)(t0:T.a 0=v)(t2:T.a 2=qP a 0)(t3:T.a 3=qP (a+1) 0)(t5:T.a 5=qP m 0)(hv:A8 H v l)(hp:IP H lo m e r l.length nm (AZ l) s)(B:JI l l.length s)(L:XH s.a (AZ l) s.d)(ha:a+1<lo)(x6:lo<=H.a)(W:GZ a H CO 0 0)(x7:H.b<=a)(X:LI s.a (AZ l) s.d>=0->∀M u,M.a 2=qP a 0->M.a 3=qP (a+1) 0->GZ a u CO 34 (LI s.a (AZ l) s.d)->H.a<=u.a->u.b=H.b->(∀i,i<a->u.c i=H.c i)->K.a prog (AN n) N .ret ⟨M,u⟩)(O:¬LI s.a (AZ l) s.d>=0->∀M u cs,M.a 2=qP a 0->M.a 3=qP (a+1) 0->cs.length=8->GZ a u cs 0 0->CG lo u (.agg cs.toArray) nm s->H.a<=u.a->u.b=H.b->(∀i,i<a->u.c i=H.c i)->K.a prog (AN n) N .ret ⟨M,u⟩):WK prog (AN n) N jW ⟨T,H⟩ K:=by
 show WK _ _ _ (.seq (.region _ _ true) (.seq _ (.seq (.seq _ (.block 2 (.loop (.seq _ (.seq (.block 3 (.seq _ (.cond _ (.seq (.region _ _ true) _) _))) _))))) (.seq _ _)))) _ _;obtain⟨x8,V,g,hw⟩:=id hp;have Y:=L.a;have g5:s.a.length=l.length:=B.a;have hu:=B.e.u;have Z:=g.d;have l8:AX 8 0 (H.c m)=some (.agg #[.string nm,qS r l.length AT,V 2,V 3,V 4,V 5,V 6,iv s.c]):=by rw[g.a];rfl
 have c8:=g.I;have h0:=g.e;have cR:=fun j h2 h8=>g.p j h2 h8;have q2:=((cR 2 (by omega) (by omega)).b (w:=2) (RF _)).a;have q3:=((cR 3 (by omega) (by omega)).b (w:=1) (by simp[HU,HD,DN])).a;have q4:=((cR 4 (by omega) (by omega)).b (w:=1) (by simp[HU,HD,DN])).a;have C5:AK lo H (V 5) s.d:=(cR 5 (by omega) (by omega)).b (w:=1) (by simp[HU,HD,IE]);have q5:=AL.a C5;have q6:=((cR 6 (by omega) (by omega)).b (w:=1) (by simp[HU,HD,IE])).a;have hE:(AZ l).length=l.length:=UC;have h3:AK lo H (qS e (AZ l).length (AZ l).length) (AZ l):=AK.Y g.c g.l rfl;have h4:A8 H (qS r l.length AT) s.a:=by rw[<-g5];exact Ac g.b g.f.2
 have x9:∀(f i:Nat),(H.f f).c i=H.c i:=fun _ _=>rfl;obtain⟨vS,H2,hS,hI,f2,n2,o2⟩:=wy (n:=n) (h:=H) (v0:=.string nm) (vr:=qS r l.length AT) (vq:=V 2) (vv:=V 3) (vt:=V 4) (vu:=V 5) (vo:=V 6) (v7:=iv s.c) (rows:=s.a) (rules:=s.d) ⟨rfl,q2,q3,q4,q6,rfl⟩ h4 h3 C5 L (by omega) (by omega);rw[Cg L]at hI;have g6:(m<H.a)=True:=by simp;omega
 rw[NB];refine WK.a (fs:=qK) (by kernel_rfl) ?_;unfold qK;iterate 10 refine DG U ?_;simp only[rG,seval,AB,AD,AC,A7,BL,t5,K0,g6,C7,l8,qW,BH,c8,hS]
 refine DF ?_;have F:∀i,i<H.a->(H2.f H.b).c i=H.c i:=o2;have nA:H.a<=(H2.f H.b).a:=n2;have fA:(H2.f H.b).b=H.b:=rfl;have g7:AK H.a (H2.f H.b) vS (I1 s.a (AZ l) s.d):=by assumption
 generalize H2.f H.b=A at*;have h5:AX 8 0 (A.c m)=some (.agg #[.string nm,qS r l.length AT,V 2,V 3,V 4,V 5,V 6,iv s.c]):=by rw[F m Z.2];exact l8
 have g8:AI 8 (A.c m)=some (qS e (AZ l).length (AZ l).length):=by rw[F m Z.2];exact c8
 have h6:A8 A v l:=hv.a nA F;have h7:A8 A (qS r l.length AT) s.a:=h4.a nA F;have h9:AK lo A (qS e (AZ l).length (AZ l).length) (AZ l):=h3.U nA fun i _ hi=>F i hi;have C:GZ a A CO 0 0:=W.a (F a (by omega)) (F (a+1) (by omega));have g9:(m<A.a)=True:=by simp;omega
 have D:=(Y8 (rows:=s.a) (E:=AZ l) (rules:=s.d));have o:=fun h'=>h6.c (h':=h');simp only[eE,seval];refine WK.b (fun i s'=>s'.T.a 9=vS/\s'.T.a 11=iv i/\i<=l.length/\(∀t:Nat,t<=5->s'.T.a t=T.a t)/\s'.h=A/\∃G:Int,s'.T.a 10=iv G/\0<=G/\G<=4611686018427387904/\RV s.a (AZ l) (I1 s.a (AZ l) s.d) (s.a.drop i) i G=LI s.a (AZ l) s.d) l.length (by omega) ?_ ?_
 .refine⟨by simp only[eE,↓reduceIte,Nat.reduceEqDiff],by simp only[eE,↓reduceIte];rfl,by omega,fun t J=>?_,rfl,0,by simp only[eE,↓reduceIte,Nat.reduceEqDiff],by omega,by omega,rfl⟩;rw[NX,NX,NX,NX,NX,NX,NX,NX,NX,NX,NX,NX]
 .rintro i⟨T1,H1⟩hi⟨t9,q,y0,b,hh,G,P,Q,g0,c⟩;simp only at t9 q b hh P;subst hh;have u0:=(b 0 (by omega)).trans t0;have u2:=(b 2 (by omega)).trans t2;have u3:=(b 3 (by omega)).trans t3;have u5:=(b 5 (by omega)).trans t5;by_cases x0:i<l.length
  .have c1:decide ((i:Int)<(l.length:Int))=true:=by simp;omega
   obtain⟨y,hy⟩:∃y,l[i]?=some y:=⟨_,aa x0⟩;obtain⟨x,hx⟩:∃x,s.a[i]?=some x:=⟨_,aa (by omega)⟩;have I:x.a=y.a:=by
    obtain⟨y',g1,he⟩:=B.d i x hx;rw[hy]at g1;cases g1;rw[he]
   obtain⟨y1,p,e0,y2,l0,l1,l2,l3,l4,lr⟩:=h6.b hy;have g2:=Y0 J B x (aw hx);rw[I]at g2;have hV:=IX (n:=n) (JO (k:=12) (kC y.a H1 g2));have w1:=DU i;have x1:s.a.drop i=x::s.a.drop (i+1):=by
    obtain⟨hl,rfl⟩:=ae.1 hx;exact cd hl
   rw[x1]at c;change(if E9 x.a=false then RV s.a (AZ l) (I1 s.a (AZ l) s.d) (s.a.drop (i+1)) (i+1) G else if CP G (Gz0 s.a (AZ l) (I1 s.a (AZ l) s.d) (i+1))>16384 then(i:Int)else RV s.a (AZ l) (I1 s.a (AZ l) s.d) (s.a.drop (i+1)) (i+1) (CP G (Gz0 s.a (AZ l) (I1 s.a (AZ l) s.d) (i+1))))=_ at c;cases dv:E9 y.a with
   |false=>
    rw[dv]at hV;rw[ag (by rw[I];exact dv)]at c;simp only[eE,seval,↓eP,u0,t9,P,q,o,c1,e0,BB,AM,l0,hV,w1];refine⟨by omega,by omega,fun t J=>?_,Q,g0,c⟩;repeat rw[ad (by omega)]
    exact b t J|true=>
    rw[dv]at hV;rw[ad (by rw[I,dv];simp)]at c;have x2:=xG J B i x hx (by rw[I];exact dv);have R:=Jm (n:=n) (h:=H1) (v0:=.string nm) (vr:=qS r l.length AT) (vq:=V 2) (vv:=V 3) (vt:=V 4) (vu:=V 5) (vo:=V 6) (v7:=iv s.c) (row:=i+1) ⟨rfl,q2,q3,q4,q5,q6,rfl⟩ h7 h9 g7 D.1 Y x2 (by omega) (fun z hz x3=>by rw[D.2];exact Y.a z (iQ (List.mem_of_mem_take hz)) x3);have S:=WN (rows:=s.a) (E:=AZ l) D.1 (i+1);have x4:=IX (n:=n) (Dw H1 S ⟨Q,g0⟩);have g3:=K7 Q S.1 S.2;simp only[eE,seval,↓eP,u0,q,o,c1,e0,BB,AM,l0,hV];refine WK.a (fs:=pS) (by kernel_rfl) ?_;unfold pS;iterate 15
     refine DG U ?_;simp only[rG,seval,AB,AD,AC,A7,BL,C8,P,u5,K0,g9,C7,h5,qW,BH,g8,t9,q,w1,R,x4]
    refine DF ?_;cases dg:decide (CP G (Gz0 s.a (AZ l) (I1 s.a (AZ l) s.d) (i+1))>16384)with
    |true=>
     rw[ag (by simpa using dg)]at c;obtain⟨u,s1,s2,r1,r2,r3,r4⟩:=UA C rfl (by omega) (by omega) (cs':=CO) rfl rfl (e':=34) (p':=(i:Int));simp only[eE,seval,↓eP,u2,u3,q,dg,WI,II,s1,s2];refine X (by rw[<-c];omega) _ _ ?_ ?_ (by rw[<-c];exact r1) (by omega) (by omega) fun i hi=>by rw[r4 i (by omega) (by omega),F i (by omega)]
     .simp only[eE,seval,u2]
     .simp only[eE,seval,u3]|false=>
     rw[ad (by simpa using dg)]at c;simp only[eE,seval,↓eP,t9,q,dg,w1];refine⟨by omega,by omega,fun t J=>?_,g3.1,g3.2,c⟩;have x5:∀d:Nat,5<d->¬(d=t):=by omega
     repeat rw[ad (x5 _ (by decide))]
     exact b t J
  .have c1:decide ((i:Int)<(l.length:Int))=false:=by simp;omega
   have g4:¬LI s.a (AZ l) s.d>=0:=by rw[<-c,eC (by omega)];show¬((-1:Int)>=0);omega
   obtain⟨u,s1,s2,r1,r2,r3,r4⟩:=UA C rfl (by omega) (by omega) (cs':=[.string nm,qS r l.length AT,V 2,V 3,V 4,V 5,V 6,iv s.c]) rfl (by simp only[az,bd,q2,q3,q4,q5,q6,TL,JQ,ao];rfl) (e':=0) (p':=0);simp only[eE,seval,↓eP,u0,u2,u3,u5,q,o,c1,K0,C7,h5,QV,s1,s2];refine O g4 _ _ _ ?_ ?_ rfl r1 (h0.a (by omega) fun i h1 h2=>by rw[r4 i (by omega) (by omega),F i h2]) (by omega) (by omega) fun i hi=>by rw[r4 i (by omega) (by omega),F i (by omega)]
   .simp only[eE,seval,u2]
   .simp only[eE,seval,u3]
end
section
variable {n N:Nat}
theorem yu{l:List AF}{v:Value}{h:AA}(Y:h.b<=h.a)(hv:A8 h v l)(U:l.length<2932031007403)(Z:∀x∈l,x.b<=9223372036854775807)(hn:l.length+100100<n)(hN:l.length+3<N):∃v' h',AW prog (AN n) N 25 [v] h=some (v',h')/\U1 h l v' h':=by
 refine G_ (R:=U1 h l) func25 rfl (by simp) ?_;have hr:f25.results.toList=[.cell 2 27,.cell 3 43]:=rfl;generalize h0:DH.top (fun e s=>(e=FJ.normal\/e=FJ.ret)/\∃vs,F5 prog s f25.results.toList=some vs/\U1 h l (GU vs) s.h)=K;have t:∀(z:Tr)(j:AA)F e p nm s,z.a 2=qP h.a 0->z.a 3=qP (h.a+1) 0->F.length=8->GZ h.a j F e p->CG h.a j (.agg F.toArray) nm s->(DA l).1=(e,p)->FE l=(nm,s)->h.a<=j.a->j.b=h.b->(∀i,i<h.a->j.c i=h.c i)->K.a prog (AN n) N .ret ⟨z,j⟩:=by
  intro z j F e p nm s G I hl J hp he g1 A V d;have h1:=IY J.1 hl;have h2:AX 2 0 (j.c (h.a+1))=some (EE e p):=by rw[J.2];rfl
  rw[<-h0];simp only[eE,seval,hr,G,I,C7,FD,h1,h2];exact⟨_,by rw[he],by grind,V,A,d⟩
 have hz:∀j,CG h.a j XM ByteArray.empty sZ:=fun j=>Qx h.a j;refine Yu (EC n).2 Y hv (fun H B M=>wl (by omega) U Z B M) ?_ ?_
 .intro O z H G I J A V d;refine t z H _ _ _ ByteArray.empty sZ G I rfl J (hz H) ?_ ?_ (by omega) V d;.unfold DA;rw[ag O]
  .unfold FE;have:(DA l).1.1≠0:=by unfold DA;rw[ag O];exact O
   rw[ag this]
 .intro O z H t0 G I J A V d;have L:=jG (qC O);have u:A8 H v l:=hv.a (by omega) d;refine Ti (EC n).2 L U (by omega) u t0 (fun j B h3=>Ho L B (by omega) (by omega) h3) ?_;intro T1 H1 m e r u0 u2 u3 u5 hp P g3 c;have Q:GZ h.a H1 CO 0 0:=J.a (c _ (by omega)) (c _ (by omega));have h4:=u.a P c;refine ys (a:=h.a) L U (by omega) hN u0 (u2.trans G) (u3.trans I) u5 h4 (fun j a b=>u.a (by omega) fun i o=>(a i o).trans (c i o)) hp (by omega) (by omega) Q (by omega) ?_ ?_
  .intro q T2 W w2 w3 C g2 h5 h6;refine t T2 W _ _ _ ByteArray.empty sZ w2 w3 rfl C (hz W) ?_ ?_ (by omega) (by omega) fun i o=>by grind
   .unfold DA;rw[ad (by omega)];simp only;rw[ag q]
   .unfold FE;have:(DA l).1.1≠0:=by unfold DA;rw[ad (by omega)];simp only;rw[ag q];exact q
    rw[ag this]
  .intro q T2 W w h7 y f;have C:GZ h.a W CO 0 0:=Q.a (f.1 _ (by omega)) (f.1 _ (by omega));have h5:=f.2.2;have g4:=f.2.1;have h8:=q8 L (by omega) y (mT L l.length 0 (DC l) (by omega) (VO l) (vO l) q);refine Zc (a:=h.a) (EC n).2 L U (by omega) hN ((w 0 (by omega)).trans u0) ((w 2 (by omega)).trans (u2.trans G)) ((w 3 (by omega)).trans (u3.trans I)) ((w 5 (by omega)).trans u5) (u.a (by omega) fun i o=>(f.1 i o).trans (c i o)) h7 y h8 (by omega) (by omega) C (by omega) ?_ ?_
   .intro D T3 X x2 x3 E S h9 g;have k:(DA l).1=(34,LI (ED (AZ l) l.length 0 (DC l)).2.2.a (AZ l) (ED (AZ l) l.length 0 (DC l)).2.2.d):=by
     unfold DA;rw[ad (by omega)];simp only;rw[ad (by omega),ag D]
    refine t T3 X _ _ _ ByteArray.empty sZ x2 x3 rfl E (hz X) k ?_ (by omega) (by omega) fun i o=>by rw[g i o,f.1 i (by omega),c i (by omega),d i o]
    unfold FE;rw[ag (by grind)]
   .intro D T3 X F x2 x3 g0 E T S h9 g;have k:DA l=((0,0),(ED (AZ l) l.length 0 (DC l)).2.2):=by
     unfold DA;rw[ad (by omega)];simp only;rw[ad (by omega),ad D]
    refine t T3 X F _ _ (PJ l) (ED (AZ l) l.length 0 (DC l)).2.2 x2 x3 g0 E (T.b (by omega)) (by rw[k]) ?_ (by omega) (by omega) fun i o=>by rw[g i o,f.1 i (by omega),c i (by omega),d i o]
    unfold FE;rw[k];simp
theorem yv{l:List AF}{v:Value}{h:AA}(a:h.b<=h.a)(e:A8 h v l)(f:l.length<2932031007403)(b:∀x∈l,x.b<=9223372036854775807)(g:l.length+100110<n):∃c d,AN n 25 [v] h=some (c,d)/\U1 h l c d:=by obtain⟨n,rfl⟩:=BX g;exact GY BF (yu (n:=n) (N:=n) a e f b (by omega) (by omega)) fun c k i _ j=>yg i j
end
def H_(x:Int):Int:=if x< -1073741824 then -1073741824 else if x>1073741824 then 1073741824 else x
def U0(a b:Int):Int:=if Int.tmod a b≠0/\(decide (Int.tmod a b<0)!=decide (b<0))=true then Int.tdiv a b-1 else Int.tdiv a b
def OB(a b:Int):Int:=if b=0 then 0 else H_ (U0 a b)
def N0(x:Int):Prop:=-9223372036854775808<=x/\x<9223372036854775808
theorem Fz(x:Int):-1073741824<=H_ x/\H_ x<=1073741824:=by unfold H_;omega
theorem j_{x:Int}(h:-1073741824<=x/\x<=1073741824):H_ x=x:=by unfold H_;omega
theorem bR(a b:Int)(d:b≠0):∃p,p=b*a.tdiv b/\a=p+a.tmod b/\(0<=a->0<=a.tmod b)/\(a<=0->a.tmod b<=0)/\(a.tmod b).natAbs<b.natAbs/\(a.tdiv b).natAbs<=a.natAbs/\(2<=b.natAbs->2*(a.tdiv b).natAbs<=a.natAbs)/\(b=1->a.tdiv b=a)/\(b=-1->a.tdiv b=-a)/\(a.tmod b).natAbs<=a.natAbs:=by
 refine⟨b*a.tdiv b,rfl,?_,?_,?_,?_,?_,?_,?_,?_,?_⟩;.have:=Int.tmod_add_mul_tdiv a b;omega
 .exact fun h=>Int.tmod_nonneg b h
 .intro h;have c:=Int.tmod_nonneg (a:=-a) b (by omega);simp_all
 .rw[Int.natAbs_tmod];exact Nat.mod_lt _ (by omega)
 .rw[Int.natAbs_tdiv];exact Nat.div_le_self _ _
 .intro h;rw[Int.natAbs_tdiv];have c:a.natAbs/b.natAbs<=a.natAbs/2:=Nat.div_le_div_left h (by omega);have e:Nat.div a.natAbs b.natAbs=a.natAbs/b.natAbs:=rfl;omega
 .simp_all
 .simp_all
 .rw[Int.natAbs_tmod];exact Nat.mod_le _ _
section
variable {call:AY} {n:Nat} {h:AA}
theorem yw{x:Int}:AW prog call n 247 [.int .i64 x] h=some (.int .i64 (H_ x),h):=by refine DO func247 rfl (by simp) ?_;have a:f247.results.toList=[.tmp 2]:=rfl;simp only[eE,seval,a];unfold H_;(omega)<;>omega
theorem yx{x:Int}:AW prog call n 226 [.int .i64 x] h=some (.int .i64 (H_ x),h):=by refine DO func226 rfl (by simp) ?_;have a:f226.results.toList=[.tmp 2]:=rfl;simp only[eE,seval,a];unfold H_;(omega)<;>omega
theorem Rb{a b:Int}(c:N0 a)(d:N0 b)(h0:b≠0)(e:¬(b=-1/\a< -1073741824)):N0 (Int.tdiv a b)/\N0 (Int.tmod a b)/\(Int.tmod a b≠0->N0 (Int.tdiv a b-1)):=by obtain⟨p,f,g,i,j,k,l,m,o,q,r⟩:=bR a b h0;unfold N0 at*;grind
theorem rQ{a b:Int}:(Int.tmod a b=0->U0 a b=Int.tdiv a b)/\(Int.tmod a b≠0->U0 a b=if(decide (Int.tmod a b<0)!=decide (b<0))=true then Int.tdiv a b-1 else Int.tdiv a b):=by unfold U0;exact⟨fun h=>by omega,fun h=>by grind⟩
theorem yy(i:∀x h,call 247 [.int .i64 x] h=some (.int .i64 (H_ x),h)){a b:Int}(t:N0 a)(u:N0 b):AW prog call n 195 [.int .i64 a,.int .i64 b] h=some (.int .i64 (OB a b),h):=by
 refine DO func195 rfl (by simp) ?_;have f:f195.results.toList=[.tmp 4]:=rfl;by_cases c:b=0
 .subst c;simp only[eE,seval,↓eP,f];rfl
 have j:(b==0)=false:=by grind
 have m:OB a b=H_ (U0 a b):=by unfold OB;rw[ad c]
 by_cases k:b=-1/\a< -1073741824
 .obtain⟨rfl,k⟩:=k;have e:decide (a< -1073741824)=true:=by grind
  simp only[eE,seval,↓eP,f,j,e];rw[m];obtain⟨p,v,w,y,z,A,B,C,D,o,E⟩:=bR a (-1) c;have:=o rfl;unfold U0;rw[ad (by omega),this];unfold H_;rw[ad (by omega),ag (by omega)]
 .obtain⟨d,I,F⟩:=Rb t u c k;obtain⟨G,H⟩:=rQ (a:=a) (b:=b);rw[m];by_cases l:Int.tmod a b=0
  .have g:(Int.tmod a b !=0)=false:=by grind
   rw[G l];by_cases q:b=-1
   .have e:decide (a< -1073741824)=false:=by grind
    subst q;simp only[eE,seval,↓eP,f,j,e];refine WK.c (by kernel_rfl) ?_;simp only[eE,seval,↓eP,UZ c,nY c,g,i];rw[BR d.1 d.2]
   .have e:(b== -1)=false:=by grind
    simp only[eE,seval,↓eP,f,j,e];refine WK.c (by kernel_rfl) ?_;simp only[eE,seval,↓eP,UZ c,nY c,g,i];rw[BR d.1 d.2]
  .have g:(Int.tmod a b !=0)=true:=by grind
   rw[H l];have r:=F l;have q:b≠-1:=by
    rintro rfl;obtain⟨p,v,w,y,z,A,B,C,D,o,E⟩:=bR a (-1) c;omega
   have e:(b== -1)=false:=by grind
   simp only[eE,seval,↓eP,f,j,e];refine WK.c (by kernel_rfl) ?_;cases s:(decide (Int.tmod a b<0)!=decide (b<0))with|true=>simp only[eE,seval,↓eP,UZ c,nY c,g,i,dL gm,s];rw[BR d.1 d.2,BR r.1 r.2]|false=>simp only[eE,seval,↓eP,UZ c,nY c,g,i,dL gm,s];rw[BR d.1 d.2]
theorem yz(m:∀x h,call 226 [.int .i64 x] h=some (.int .i64 (H_ x),h)){a b:Int}(q:N0 a)(z:N0 b):AW prog call n 227 [.int .i64 a,.int .i64 b] h=some (.int .i64 (OB a b),h):=by
 refine DO func227 rfl (by simp) ?_;have j:f227.results.toList=[.tmp 4]:=rfl;by_cases c:b=0
 .subst c;simp only[eE,seval,↓eP,j];rfl
 have k:(b==0)=false:=by grind
 have A:OB a b=H_ (U0 a b):=by unfold OB;rw[ad c]
 rw[A];by_cases s:b=-1
 .subst s;obtain⟨p,B,C,D,E,F,G,H,I,t,J⟩:=bR a (-1) c;have K:=t rfl;have L:U0 a (-1)=-a:=by rw[rQ.1 (by omega),K]
  rw[L];by_cases M:a=-9223372036854775808;.subst M;simp only[eE,seval,↓eP,j,k];rfl
  .have l:(a== -9223372036854775808)=false:=by grind
   simp only[eE,seval,↓eP,j,k,l,m];unfold N0 at q;rw[BR,Int.zero_sub]
 .have l:(b== -1)=false:=by grind
  obtain⟨u,v,N⟩:=Rb q z c (fun h=>s h.1);obtain⟨p,B,C,D,E,F,G,H,I,t,J⟩:=bR a b c;obtain⟨O,P⟩:=rQ (a:=a) (b:=b);have d:IntKind.i64.wrap (Int.tdiv a b)=Int.tdiv a b:=BR u.1 u.2;have f:Int.tdiv a b*b=p:=by grind
  have g:IntKind.i64.wrap p=p:=by unfold N0 at q;exact BR
  have i:IntKind.i64.wrap (a-p)=Int.tmod a b:=by
   have e:a-p=Int.tmod a b:=by omega
   rw[e,BR v.1 v.2]
  by_cases r:Int.tmod a b=0
  .have o:(Int.tmod a b !=0)=false:=by grind
   rw[O r];simp only[eE,seval,↓eP,j,UZ c,k,l,m,d,f,g,i,o]
  .have o:(Int.tmod a b !=0)=true:=by grind
   rw[P r];have w:=N r;cases y:(decide (Int.tmod a b<0)!=decide (b<0))with|true=>simp only[eE,seval,↓eP,j,UZ c,k,l,m,d,f,g,i,o,dL gm,y];rw[BR w.1 w.2]|false=>simp only[eE,seval,↓eP,j,UZ c,k,l,m,d,f,g,i,o,dL gm,y]
end
section
variable {n:Nat} {h:AA}
theorem wK{x:Int}(a:0<n):AN n 247 [.int .i64 x] h=some (.int .i64 (H_ x),h):=by obtain⟨n,rfl⟩:=BX a;exact FA BF rfl yw
theorem Kn{x:Int}(a:0<n):AN n 226 [.int .i64 x] h=some (.int .i64 (H_ x),h):=by obtain⟨n,rfl⟩:=BX a;exact FA BF rfl yx
theorem yK{a b:Int}(c:N0 a)(d:N0 b)(e:1<n:=by omega):AN n 195 [.int .i64 a,.int .i64 b] h=some (.int .i64 (OB a b),h):=by obtain⟨n,rfl⟩:=BX e;exact FA BF rfl (yy (fun _ _=>wK (by omega)) c d)
theorem za{a b:Int}(c:N0 a)(d:N0 b)(e:1<n):AN n 227 [.int .i64 a,.int .i64 b] h=some (.int .i64 (OB a b),h):=by obtain⟨n,rfl⟩:=BX e;exact FA BF rfl (yz (fun _ _=>Kn (by omega)) c d)
end
theorem zb{d:B8}{id off n:Nat}{V:Value}(h:AR d (.slice (some ⟨id,off,none⟩) n AT) V)(l:0<n:=by omega):∃c L,n<=c/\c<AT/\AR d (.slice (some ⟨id,off,none⟩) n c) V/\d id=some L/\off+c*L.z=L.e:=by
 rcases LU h with⟨b,_⟩|⟨e,a,L,b,f,i,_⟩|⟨e,a,L,A,C,b,f,_,g,rfl,j⟩;.cases b
 .omega
 .cases b;rcases j with(rfl|⟨rfl,_⟩)|⟨rfl,k⟩;.omega
  .omega
  .exact⟨C,L,g.1,g.2,.slice f g.2,f,k⟩
theorem ZT:BN prog 155=some 2:=by kernel_rfl
theorem Jw:HL prog 155=some 32:=by kernel_rfl
abbrev jF:Value:=.agg #[.int .u64 0,.slice none 0 0]
theorem sI:DK prog 155=some jF:=by kernel_rfl
def eB:List Value:=[.int .u64 0,.slice none 0 0]
noncomputable def NI(h:AA)(id:Nat)(cs:List Value)(g:Bool)(L i:Nat):AA:=if i+1=L then h else h.e id (.row (lay cs (i*2) (cs.drop ((i+1)*2))) 155 g false)
def bU(cs:List Value)(L i j:Nat):List Value:=lay (lay cs (i*2) (cs.drop (j*2))) ((L-1)*2) eB
theorem vI(cs:List Value)(off:Nat):lay cs off []=cs:=by unfold lay;simp
theorem zd{cs new:List Value}{off:Nat}(h:off+new.length<=cs.length):(lay cs off new).length=cs.length:=by unfold lay;grind
section
variable {call:AY} {N:Nat} {h:AA}
def qR:List (Bool×Bool×List Operand):=[AO,AO,AO,AH [.tmp 20],AH [.tmp 20],AH [.tmp 20],AJ,AJ]
theorem oY{a:Option Addr}{L c l r m:Nat}(e:c≠AT)(i:r<=m)(j:l<=r):(m<=c->H9 prog h 160 (.slice a L c) (some (iv l)) (some (iv r)) (some (iv m))=some (.slice (if m=l then a else a.map (·.add (l*2))) (r-l) (m-l)))/\(r<=c->H9 prog h 160 (.slice a L c) (some (iv l)) (some (iv r)) none=some (.slice (if c=l then a else a.map (·.add (l*2))) (r-l) (c-l)))/\(r<=c->H9 prog h 160 (.slice a L c) none (some (iv r)) none=some (.slice (if c=0 then a else a.map (·.add (0*2))) (r-0) (c-0)))/\(l<=L->L<=c->H9 prog h 160 (.slice a L c) (some (iv l)) none none=some (.slice (if c=l then a else a.map (·.add (l*2))) (L-l) (c-l))):=by
 refine⟨fun f=>?_,fun f=>?_,fun f=>?_,fun f k=>?_⟩
 .have g:FI (some (iv m)) 0 0 c=some m:=by simp only[FI];grind
  have b:FI (some (iv r)) L 0 m=some r:=by simp only[FI];grind
  have d:FI (some (iv l)) 0 0 r=some l:=by simp only[FI];grind
  simp only[H9,fp,ZT,ad e,g,b,d]
 .have b:FI (some (iv r)) L 0 c=some r:=by simp only[FI];grind
  have d:FI (some (iv l)) 0 0 r=some l:=by simp only[FI];grind
  simp only[H9,fp,ZT,ad e,b,d]
 .have b:FI (some (iv r)) L 0 c=some r:=by simp only[FI];grind
  have d:FI none 0 0 r=some 0:=rfl;simp only[H9,fp,ZT,ad e,b,d]
 .have b:FI none L 0 c=some L:=rfl;have d:FI (some (iv l)) 0 0 L=some l:=by simp only[FI];grind
  simp only[H9,fp,ZT,ad e,b,d]
theorem Nf(w:C_ call){id L c i:Nat}{cs:List Value}{g:Bool}(y:h.c id=.row cs 155 g false)(p:id<h.a)(Y:h.b<=id)(R:cs.length=L*2)(M:cs.all one=true)(hi:i<L)(f:L<=c)(o:c≠AT)(Z:L<1099511627776):AW prog call N 141 [.slice (some ⟨id,0,none⟩) L c,iv i,iv ((i+1:Nat):Int)] h=some (.slice (some ⟨id,0,none⟩) (L-1) c,(NI h id cs g L i).e id (.row (bU cs L i (i+1)) 155 g false)):=by
 refine DO func141 rfl (by simp) ?_;have S:f141.results.toList=[.tmp 6]:=rfl;have e:∀(O:AA)(a:Option Addr)(n m:Nat),CU prog O 160 (.slice a n m)=some (iv (n:Int)):=fun O a n m=>by simp[CU,fp]
 have T:=fun(h:AA)=>(oY (h:=h) (a:=some ⟨id,0,none⟩) (L:=L) (c:=c) (l:=i) (r:=i+1) (m:=L) o (by omega) (by omega)).1 f;have z:=fun(h:AA)=>(oY (h:=h) (a:=some ⟨id,0,none⟩) (L:=L) (c:=c) (l:=0) (r:=i) (m:=c) o (by omega) (by omega)).2.2.1 (by omega);have U:=fun(h:AA)=>(oY (h:=h) (a:=some ⟨id,0,none⟩) (L:=L) (c:=c) (l:=i+1) (r:=L) (m:=c) o (by omega) (by omega)).2.2.2 (by omega) f;have v:=fun(h:AA)=>(oY (h:=h) (a:=some ⟨id,0,none⟩) (L:=L-1) (c:=c) (l:=L-1) (r:=L) (m:=c) o (by omega) (by omega)).2.1 f;rw[ad (by omega)]at z v;simp only[dA,KL,ff,fe,Nat.sub_zero,ab]at z v;rw[show L-(L-1)=1 by omega]at v;have V:((i:Int)==((i+1:Nat):Int))=false:=by grind
 have P:(id<h.a)=True:=by simp[p]
 -- the append
 have b:∃A B,H9 prog h 160 (.slice (some ⟨id,0,none⟩) L c) (some (iv ((i+1:Nat):Int))) none none=some (.slice A (L-(i+1)) B)/\DR prog h 160 (.slice (some ⟨id,0,none⟩) i c) (.slice A (L-(i+1)) B)=some (.slice (some ⟨id,0,none⟩) (L-1) c,NI h id cs g L i):=by
  refine⟨_,_,U h,?_⟩;have q:jF.cells.size=2:=rfl;by_cases Q:i+1=L
  .have C:L-(i+1)=0:=by omega
   have W:cs.drop ((i+1)*2)=[]:=by simp_all
   have D:NI h id cs g L i=h:=ag Q;rw[C,D];obtain⟨E,F,d⟩:∃E:Option Addr,(if c=i+1 then some ⟨id,0,none⟩else Option.map (fun x:Addr=>x.add ((i+1)*2)) (some ⟨id,0,none⟩))=E/\∀k,EL h 2 0 (.slice E 0 k)=some []:=by refine⟨_,rfl,fun k=>?_⟩;split<;>simp[EL,KL]
   rw[F];have G:i=L-1:=by omega
   simp only[DR,fp,ZT,Jw,sI,q,d];rw[ag (by grind),ag (by rfl),ad o,ag (by omega),ag cj,fe,G]
  .have D:NI h id cs g L i=h.e id (.row (lay cs (i*2) (cs.drop ((i+1)*2))) 155 g false):=ad Q;rw[D];have H:c≠i+1:=by omega
   rw[ad H];simp only[dA,KL,ab];have s:GN cs ((i+1)*2) ((L-(i+1))*2)=some (cs.drop ((i+1)*2)):=by
    simp only[GN];rw[di (by grind),ag (by grind)]
   have d:EL h 2 (L-(i+1)) (.slice (some ⟨id,(i+1)*2,none⟩) (L-(i+1)) (c-(i+1)))=some (cs.drop ((i+1)*2)):=by
    simp only[EL,y];rw[ad (by omega)];exact s
   have I:(cs.drop ((i+1)*2)).all one=true:=by grind
   have j:HW h id (0+i*2) (cs.drop ((i+1)*2))=some (h.e id (.row (lay cs (i*2) (cs.drop ((i+1)*2))) 155 g false)):=by simp only[HW,y,ab];rw[ag (by grind)]
   simp only[DR,fp,ZT,Jw,sI,q,d];rw[ag (by grind),ag I,ad o,ag (by omega),ad (by omega)];simp only[j];rw[show i+(L-(i+1))=L-1 by omega]
 obtain⟨A,B,J,b⟩:=b;have t:XV prog (NI h id cs g L i) 160 (.slice (some ⟨id,(L-1)*2,none⟩) 1 (c-(L-1)))=some (.tuple #[],(NI h id cs g L i).e id (.row (bU cs L i (i+1)) 155 g false)):=by
  have X:CF jF.cells.toList 1=eB:=rfl;have K:flat jF=true:=rfl;have e3:eB.all one=true:=rfl;have e4:eB.length=2:=rfl;have W:(lay cs (i*2) (cs.drop ((i+1)*2))).length=cs.length:=zd (by grind);have C:(NI h id cs g L i).c id=.row (lay cs (i*2) (cs.drop ((i+1)*2))) 155 g false:=by
   unfold NI;split;.rw[List.drop_eq_nil_of_le (by omega),vI];exact y
   .exact BE rfl p
  have ef:(NI h id cs g L i).b=h.b:=by unfold NI;split<;>rfl
  have j:HW (NI h id cs g L i) id ((L-1)*2) eB=some ((NI h id cs g L i).e id (.row (bU cs L i (i+1)) 155 g false)):=by
   simp only[HW,C];rw[ag (by grind)];rfl
  simp only[XV,fp,sI,X,K,j];rfl
 simp only[eE,seval,↓eP,S,e,T,V];refine WK.a (fs:=qR) (by kernel_rfl) ?_;unfold qR;iterate 8
  refine DG w ?_;simp only[rG,seval,AB,AD,AC,A7,BL,z,J,b]
 refine DF ?_;have u:(NI h id cs g L i).f h.b=NI h id cs g L i:=by unfold NI;split<;>rfl
 simp only[eE,seval,e,v,u,t,DB]
end
noncomputable def fM:AY:=fun f b h=>if f=141 then match b with
 |[.slice (some ⟨a,0,none⟩) L d,.int .i64 i,.int .i64 j]=>match h.c a with
  |.row c e g false=>if d=AT/\0<=i/\j=i+1/\j<=(L:Int)/\L<1099511627776/\e=155/\h.b<=a/\c.length=L*2/\c.all one=true/\a<h.a then some (.slice (some ⟨a,0,none⟩) (L-1) AT,(NI h a c g L i.toNat).e a (.row (bU c L i.toNat (i.toNat+1)) e g false))else none|_=>none
 |_=>none else none
theorem ze:EN prog fM/\C_ fM:=by
 have r:∀f d h v s,fM f d h=some (v,s)->∃k L i n g,f=141/\d=[.slice (some ⟨k,0,none⟩) L AT,iv (i:Nat),iv ((i+1:Nat):Int)]/\h.c k=.row n 155 g false/\k<h.a/\h.b<=k/\n.length=L*2/\n.all one=true/\i<L/\L<1099511627776/\v=.slice (some ⟨k,0,none⟩) (L-1) AT/\s=(NI h k n g L i).e k (.row (bU n L i (i+1)) 155 g false):=by intro f d h v s t;unfold fM at t;grind
 have x:=WC NA (dF (P:=prog)).1 (dF (P:=prog)).2 1000;refine⟨fun f d h v s t=>?_,fun f d h v s t=>?_⟩
 .obtain⟨k,L,i,n,g,rfl,rfl,y,o,z,p,j,A,B,rfl,rfl⟩:=r _ _ _ _ _ t;have E:=fun c G H=>Nf (call:=PN) (N:=1000) (dF (P:=prog)).2 y o z p j A (c:=c) G H B;refine⟨(x.1 _ _ _ _ _ (E L (af _) (by unfold AT;omega))).1,fun I W m J b=>?_⟩;obtain⟨K,M,rfl⟩:∃a l,m=(a::l).toArray:=by cases O:m.toList with
   |nil=>rw[O]at b;cases b|cons a l=>grind
  simp only[List.toList_toArray]at b;cases b with|cons Q R=>
  obtain⟨c,LL,S,T,U,X,Y⟩:=zb Q;refine((x.1 _ _ _ _ _ (E c S (by omega))).2 I W (K::M).toArray J (.cons U R)).mono fun e W'⟨V,C,Z,F,hv⟩=>⟨V,C,Z,F,?_⟩;rcases LU hv with⟨w,_⟩|⟨D,u,L',w,q,h0,rfl⟩|⟨D,u,L',A',C',w,q,h7,_⟩;.cases w
  .cases w;have:=F.e _ _ X;rw[q]at this;cases this;exact .sliceU q (by omega) T (.inr ⟨rfl,Y⟩)
  .omega
 .obtain⟨k,L,i,n,g,rfl,rfl,y,o,z,p,j,A,B,rfl,rfl⟩:=r _ _ _ _ _ t;exact x.2 _ _ _ _ _ (Nf (call:=PN) (N:=1000) (dF (P:=prog)).2 y o z p j A (af L) (by unfold AT;omega) B)
end Go.Proofs.YtjailoenloejbaaGreatDoor




