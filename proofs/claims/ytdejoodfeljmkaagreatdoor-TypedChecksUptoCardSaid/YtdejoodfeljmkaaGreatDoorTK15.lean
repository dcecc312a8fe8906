/- Part 15 of what the claim leans on: 9 texts laid one behind another. -/
import Derived.Test.YtdejoodfeljmkaaGreatDoorTK14
namespace Go.Proofs.YtdejoodfeljmkaaGreatDoor
open Go Go.Sx
set_option maxRecDepth 100000
set_option linter.unusedSimpArgs false
set_option linter.unusedVariables false
set_option maxHeartbeats 64000000
theorem pK:DM Tryz.prog 60 [(0,iv 23)]=some (CE ⟨23,ByteArray.empty,0,0,0⟩):=by
 have h:=XI
 rw[Tryz.underlying60] at h
 simp only at h
 have hf:flat (.agg #[.int .i64 0,.string ByteArray.empty,.int .i64 0,.int .i64 0,.int .i64 0])=true:=rfl
 simp only[DM,E1,hf,if_true,Tryz.underlying60,h]
 rfl
theorem mY:flat (.agg #[.string ByteArray.empty,.bool false])=true:=rfl
theorem Dv:DM Tryz.prog 75 []=some (.agg #[.string ByteArray.empty,.bool false]):=by
 have h:=cX
 rw[Tryz.underlying75] at h
 simp only at h
 simp only[DM,R0,mY,if_true,Tryz.underlying75,h]
 rfl
theorem nX {nm:ByteArray} {b:Bool}:DM Tryz.prog 75 [(0,.string nm),(1,.bool b)]=some (.agg #[.string nm,.bool b]):=by
 have h:=cX
 rw[Tryz.underlying75] at h
 simp only at h
 simp only[DM,R0,mY,if_true,Tryz.underlying75,h]
 rfl
theorem pT {n off:Nat} {cs:List Value} {ty:TypeId} {a b:Bool} (hl:off+n≤cs.length):A_ n off (.row cs ty a b)=some (.agg ((cs.drop off).take n).toArray):=by
 simp only[A_,GS]
 rw[if_pos (by rw[List.length_take,List.length_drop];omega)]
theorem Xh {L:List AB} {k:Nat} {x:AB} {ty:TypeId} {a b:Bool} (hx:L[k]?=some x):A_ 5 (k*5) (.row (L.flatMap AV) ty a b)=some (CE x):=by
 have hk:=(List.getElem?_eq_some_iff.1 hx).1
 rw[pT (by rw[J7];omega),RR hx]
 rfl
theorem wW:∀ {l:List (ByteArray × Bool)} {k:Nat} {x:ByteArray × Bool},l[k]?=some x→(DE l)[k*2]?=some (.string x.1)∧(DE l)[k*2+1]?=some (.bool x.2)
 | [],k,x,h=>by simp at h
 | y :: l,0,x,h=>by
  cases h
  exact⟨rfl,rfl⟩
 | y :: l,k+1,x,h=>by
  have h':l[k]?=some x:=by simpa using h
  have e:DE (y :: l)=.string y.1 :: .bool y.2 :: DE l:=rfl
  obtain⟨a,b⟩:=wW h'
  rw[e]
  refine⟨?_,?_⟩
  ·rw[show (k+1)*2=k*2+1+1 by omega]
   exact a
  ·rw[show (k+1)*2+1=k*2+1+1+1 by omega]
   exact b
theorem kN:∀ {l:List (ByteArray × Bool)} {k:Nat} {x:ByteArray × Bool},k<l.length→Go.Sx.lay (DE l) (k*2) [.string x.1,.bool x.2]=DE (l.set k x)
 | [],k,x,h=>by simp at h
 | y :: l,0,x,h=>rfl
 | y :: l,k+1,x,h=>by
  have ih:=kN (l:=l) (k:=k) (x:=x) (by simpa using h)
  have e:DE (y :: l)=.string y.1 :: .bool y.2 :: DE l:=rfl
  have e2:DE ((y :: l).set (k+1) x)=.string y.1 :: .bool y.2 :: DE (l.set k x):=rfl
  rw[e,e2,← ih]
  have:(k+1)*2=k*2+1+1:=by omega
  rw[this]
  simp[Go.Sx.lay,List.take_succ_cons,show k*2+1+1+2=(k*2+2)+1+1 by omega]
theorem Cl {l:List (ByteArray × Bool)} {k:Nat} {x:ByteArray × Bool} {ty:TypeId} {a b:Bool} (hx:l[k]?=some x):A_ 2 (k*2) (.row (DE l) ty a b)=some (.agg #[.string x.1,.bool x.2]):=by
 have hk:=(List.getElem?_eq_some_iff.1 hx).1
 rw[pT (by rw[N6];omega),gM hx]
theorem Bk {h:AA} {id k:Nat} {l:List (ByteArray × Bool)} {a:ByteArray} {b:Bool} {ty:TypeId} {g:Bool} (hg:h.get id=.row (DE l) ty g false) (hk:k<l.length) (hf:h.floor≤id):BB Tryz.prog h 75 (.pointer (some ⟨id,k*2,none⟩)) (.agg #[.string a,.bool b])=some (h.put id (.row (DE (l.set k (a,b))) ty g false)):=by
 have hl:=N6 l
 have:=kN (l:=l) (k:=k) (x:=(a,b)) hk
 simp only[BB,OS,GZ,hg]
 rw[if_pos (show some 2=some (Value.agg #[Value.string a,Value.bool b]).cells.size from rfl),if_pos (by rw[hl,decide_eq_true hf,decide_eq_true (show k*2+(Value.agg #[Value.string a,Value.bool b]).cells.toList.length≤l.length*2 by show k*2+2≤_;omega)];rfl)]
 rw[← this]
 rfl
section
variable {n N:Nat} {h:AA}
theorem Dn {nm:ByteArray} {s:AM} {pv v:Value} {lo b:Nat} {h0:AA} (hL:ME h b v nm s) (hp:BP lo h0 pv nm s) (hb:h0.next≤b) (h0g:∀ i,i<h0.next→h.get i=h0.get i) (hf:h.floor≤b) (hs:FR s) (hl:C_ s<900000000) (hn:C_ s+60<n) (hN:C_ s+60<N) :
  ∃ h',AY Tryz.prog (AK n) N 11 [v,pv] h=some (.bool true,h')∧(h.next≤h'.next∧h'.floor=h.floor∧∀ i,i<h.next→(i<b∨b+5<i)→h'.get i=h.get i):=by
 have hL0:=hL
 have hpl:=hL.pol
 have hlt:=hL.lt
 have hph:BP lo h pv nm s:=hp.mono (by omega) fun i _ hi=>h0g i hi
 obtain⟨vr,vq,vv,vt,vu,vo,rfl,p1,p2,p3,p4,p5,p6⟩:=id hp
 obtain⟨rfl,_,⟨L1,g1⟩,gq,gw,gt,⟨L5,g5⟩,⟨L6,g6⟩⟩:=hL
 obtain⟨_,_,_,_,_,_,hq,q1,q2,q3,q4,q5,q6⟩:=id hpl
 cases hq
 refine DW (R:=fun h'=>h.next≤h'.next∧h'.floor=h.floor∧∀ i,i<h.next→(i<b∨b+5<i)→h'.get i=h.get i) Tryz.func11 rfl (by simp[Tryz.f11]) ?_
 have hr:Tryz.f11.results.toList=[.tmp 4]:=rfl
 have hs0:=hs
 obtain⟨r1,r2,r3,r4,r5,r6⟩:=hs
 have hl0:=hl
 have hn0:=hn
 unfold C_ at hl hn hN
 have ca:=DV [.string nm,qS b s.rows.length (s.rows.length+9),qS (b+1) s.queues.length (s.queues.length+3),qS (b+2) s.vars.length (s.vars.length+3),qS (b+3) s.tags.length (s.tags.length+3),qS (b+4) s.rules.length (s.rules.length+5),qS (b+5) s.on.length (s.on.length+5),iv s.miss]
 have cb:=DV [.string nm,vr,vq,vv,vt,vu,vo,iv s.miss]
 have oa:=HU (nm:=nm) q1 q2 q3 q4 q5 q6
 have ob:=HU (nm:=nm) p1 p2 p3 p4 p5 p6
 obtain⟨gA,gB,nG,fG,gO⟩:=MJ h (.row [.string nm,qS b s.rows.length (s.rows.length+9),qS (b+1) s.queues.length (s.queues.length+3),qS (b+2) s.vars.length (s.vars.length+3),qS (b+3) s.tags.length (s.tags.length+3),qS (b+4) s.rules.length (s.rules.length+5),qS (b+5) s.on.length (s.on.length+5),iv s.miss] 27 false false) (.row [.string nm,vr,vq,vv,vt,vu,vo,iv s.miss] 27 false false)
 simp only[eE,seval,↓eP,C2,CW,C6,ca,oa,cb,ob,FM]
 generalize (h.push (.row [.string nm,qS b s.rows.length (s.rows.length+9),qS (b+1) s.queues.length (s.queues.length+3),qS (b+2) s.vars.length (s.vars.length+3),qS (b+3) s.tags.length (s.tags.length+3),qS (b+4) s.rules.length (s.rules.length+5),qS (b+5) s.on.length (s.on.length+5),iv s.miss] 27 false false)).push (.row [.string nm,vr,vq,vv,vt,vu,vo,iv s.miss] 27 false false)=G at *
 have lA:A_ 8 0 (G.get h.next)=some (.agg #[.string nm,qS b s.rows.length (s.rows.length+9),qS (b+1) s.queues.length (s.queues.length+3),qS (b+2) s.vars.length (s.vars.length+3),qS (b+3) s.tags.length (s.tags.length+3),qS (b+4) s.rules.length (s.rules.length+5),qS (b+5) s.on.length (s.on.length+5),iv s.miss]):=IW gA rfl
 have lB:A_ 8 0 (G.get (h.next+1))=some (.agg #[.string nm,vr,vq,vv,vt,vu,vo,iv s.miss]):=IW gB rfl
 have hsame:=yW (n:=n) (hpl.mono (h':=G) (by omega) fun i _ hi=>gO i hi) (hph.mono (h':=G) (by omega) fun i _ hi=>gO i hi) hs0 (by unfold C_;omega)
 obtain⟨x0,x1,x2,x3,x4,x5,x6,x7⟩:=OU gA
 obtain⟨y0,y1,y2,y3,y4,y5,y6,y7⟩:=OU gB
 have z0:∀ i,i<h0.next→G.get i=h0.get i:=fun i hi=>by rw[gO i (by omega)];exact h0g i hi
 obtain⟨H1,k1,n1,f1,o1⟩:=aZ (n:=n) (h:=G) (o:=b+4) (L:=L5) ⟨by rw[gO _ (by omega)];exact g5.g,g5.len,g5.own,g5.marks⟩ (by omega) (by omega) (AW.mono p5 (by omega) fun i _ hi=>z0 i hi) (by omega) (by omega)
 obtain⟨H2,k2,n2,f2,o2⟩:=aZ (n:=n) (h:=H1) (o:=b+5) (L:=L6) ⟨by rw[o1 _ (by omega),gO _ (by omega)];exact g6.g,g6.len,g6.own,g6.marks⟩ (by omega) (by omega) (AW.mono p6 (by omega) fun i _ hi=>by rw[o1 i (by omega)];exact z0 i hi) (by omega) (by omega)
 obtain⟨H3,k3,n3,f3,o3⟩:=t_ (n:=n) (h:=H2) (o:=b+2) (by rw[o2 _ (by omega),o1 _ (by omega),gO _ (by omega)];exact gw) (by omega) (by omega) (p3.mono (by omega) fun i _ hi=>by rw[o2 i (by omega),o1 i (by omega)];exact z0 i hi) (by omega) (by omega)
 obtain⟨H4,k4,n4,f4,o4⟩:=t_ (n:=n) (h:=H3) (o:=b+3) (by rw[o3 _ (by omega),o2 _ (by omega),o1 _ (by omega),gO _ (by omega)];exact gt) (by omega) (by omega) (p4.mono (by omega) fun i _ hi=>by rw[o3 i (by omega),o2 i (by omega),o1 i (by omega)];exact z0 i hi) (by omega) (by omega)
 have c6:H1.get h.next=G.get h.next∧H1.get (h.next+1)=G.get (h.next+1):=⟨o1 _ (by omega),o1 _ (by omega)⟩
 have c7:H2.get h.next=G.get h.next∧H2.get (h.next+1)=G.get (h.next+1):=⟨by rw[o2 _ (by omega),c6.1],by rw[o2 _ (by omega),c6.2]⟩
 have c8:H3.get h.next=G.get h.next∧H3.get (h.next+1)=G.get (h.next+1):=⟨by rw[o3 _ (by omega),c7.1],by rw[o3 _ (by omega),c7.2]⟩
 have c9:H4.get h.next=G.get h.next∧H4.get (h.next+1)=G.get (h.next+1):=⟨by rw[o4 _ (by omega),c8.1],by rw[o4 _ (by omega),c8.2]⟩
 have len1:=fun h'=>NO p1.2 h'
 have len2:=fun h'=>OF p2 h'
 have w9:IntKind.i64.wrap ((s.rows.length:Int)+9)=((s.rows.length+9:Nat):Int):=BT (by omega) (by omega)
 have w3:IntKind.i64.wrap ((s.queues.length:Int)+3)=((s.queues.length+3:Nat):Int):=BT (by omega) (by omega)
 have lenR:∀ h':AA,CY Tryz.prog h' 22 (qS b (s.rows.length+9) (s.rows.length+9))=some (iv ((s.rows.length+9:Nat):Int)):=fun h'=>TH
 have lenQ:∀ h':AA,CY Tryz.prog h' 23 (qS (b+1) (s.queues.length+3) (s.queues.length+3))=some (iv ((s.queues.length+3:Nat):Int)):=fun h'=>by simp[CY,Tryz.underlying23]
 have slR:=fun (H:AA)=>R8 (P:=Tryz.prog) (h:=H) (t:=22) (e:=60) (id:=b) (n:=s.rows.length) (m:=s.rows.length+9) (c:=s.rows.length+9) Tryz.underlying22 FN (by omega) (by unfold AO;omega)
 have slQ:=fun (H:AA)=>R8 (P:=Tryz.prog) (h:=H) (t:=23) (e:=75) (id:=b+1) (n:=s.queues.length) (m:=s.queues.length+3) (c:=s.queues.length+3) Tryz.underlying23 OS (by omega) (by unfold AO;omega)
 simp only[eE,seval,↓eP,Nat.zero_add,DT,lA,lB,hsame,H9,ID,JM,JR,BN,C3,II,BO,x5,y5,k1,c6.1,c6.2,x6,y6,k2,c7.1,c7.2,x3,y3,k3,c8.1,c8.2,x4,y4,k4,c9.1,c9.2,x1,y1,len1,w9,slR]
 have z4:∀ i,(i<b∨b+5<i)→H4.get i=G.get i:=fun i hi=>by rw[o4 i (by omega),o3 i (by omega),o2 i (by omega),o1 i (by omega)]
 have gR:H4.get b=.row (L1.flatMap AV) 60 false false:=by rw[o4 _ (by omega),o3 _ (by omega),o2 _ (by omega),o1 _ (by omega),gO _ (by omega)];exact g1.g
 have gQ:H4.get (b+1)=.row (DE (s.queues++List.replicate 3 (ByteArray.empty,false))) 75 false false:=by
  rw[o4 _ (by omega),o3 _ (by omega),o2 _ (by omega),o1 _ (by omega),gO _ (by omega),gq]
  simp[DE,B0]
 refine WK.loop (fun k s'=>s'.T.get 2=qP h.next 0∧s'.T.get 3=qP (h.next+1) 0∧s'.T.get 5=.bool true∧s'.T.get 6=qS b (s.rows.length+9) (s.rows.length+9)∧s'.T.get 7=iv (k:Int)∧k≤s.rows.length+9∧s'.h.next=H4.next∧s'.h.floor=H4.floor∧(∀ i,i≠b→s'.h.get i=H4.get i)∧∃ L:List AB,s'.h.get b=.row (L.flatMap AV) 60 false false∧L.length=s.rows.length+9∧∀ j,k≤j→L[j]?=L1[j]?) (s.rows.length+9) (by omega) ?_ ?_
 ·exact⟨by simp only[eE,seval,↓eP,rP],by simp only[eE,seval,↓eP,rP],by simp only[eE,seval,↓eP,rP],by simp only[eE,seval,↓eP,rP],by simp only[eE,seval,↓eP,rP] <;> rfl,by omega,rfl,rfl,fun _ _=>rfl,L1,gR,g1.len,fun _ _=>rfl⟩
 rintro k ⟨T1,H5⟩ hk ⟨t2,t3,t5,t6,t7,hk9,n5,f5,o5,L,gL,lL,eL⟩
 simp only at t2 t3 t5 t6 t7 n5 f5 o5 gL
 have cB:H5.get (h.next+1)=G.get (h.next+1):=by rw[o5 _ (by omega),c9.2]
 have cA:H5.get h.next=G.get h.next:=by rw[o5 _ (by omega),c9.1]
 by_cases hlt1:k<s.rows.length+9
 ·have c1:decide ((k:Int)<((s.rows.length+9:Nat):Int))=true:=by simp;omega
  have hix:=i6 (id:=b) (n:=s.rows.length+9) (c:=s.rows.length+9) (i:=k) hlt1
  have hst:=sD (h:=H5) (i:=k) (x:=⟨23,ByteArray.empty,0,0,0⟩) rfl gL (by omega) (by omega)
  have w1:=DF k (by omega)
  by_cases h2:k<s.rows.length
  ·have c2:decide ((k:Int)<(s.rows.length:Int))=true:=by simp;omega
   simp only[eE,seval,↓eP,Nat.zero_add,t2,t3,t5,t6,t7,lenR,c1,BN,BO,cB,y1,len1,c2,pK,hix,hst,w1]
   exact⟨hlt1,by omega,n5,f5,fun i hi=>by rw[AR (by omega) (Ne.symm hi)];exact o5 i hi,_,BL rfl (by omega),by rw[List.length_set];exact lL,fun j hj=>by rw[List.getElem?_set_ne (by omega)];exact eL j (by omega)⟩
  ·have c2:decide ((k:Int)<(s.rows.length:Int))=false:=by simp;omega
   have hx:L[k]?=some (SS k):=by
    rw[eL k (Nat.le_refl _)]
    have:=g1.marks (k-s.rows.length) (by omega)
    rwa [show s.rows.length+(k-s.rows.length)=k by omega] at this
   have hld:A_ 5 (k*5) (H5.get b)=some (CE (SS k)):=by rw[gL];exact Xh hx
   have hbe:CP Tryz.prog .eql 60 (.tmp 64) (.tmp 66) (CE (SS k)) (CE ⟨-9,ByteArray.empty,0,k,0⟩)=some (.bool true):=Rp.trans (by rw[show (⟨-9,ByteArray.empty,0,(k:Int),0⟩:AB)=SS k from rfl,Dq])
   simp only[eE,seval,↓eP,Nat.zero_add,t2,t3,t5,t6,t7,lenR,c1,BN,BO,cB,y1,len1,c2,uZ,pK,hix,FQ,hld,hbe,hst,w1]
   exact⟨hlt1,by omega,n5,f5,fun i hi=>by rw[AR (by omega) (Ne.symm hi)];exact o5 i hi,_,BL rfl (by omega),by rw[List.length_set];exact lL,fun j hj=>by rw[List.getElem?_set_ne (by omega)];exact eL j (by omega)⟩
 have c1:decide ((k:Int)<((s.rows.length+9:Nat):Int))=false:=by simp;omega
 simp only[eE,seval,↓eP,Nat.zero_add,t2,t3,t6,t7,lenR,c1,D2,DZ,cA,cB,x2,y2,len2,w3,slQ]
 have gQ5:H5.get (b+1)=.row (DE (s.queues++List.replicate 3 (ByteArray.empty,false))) 75 false false:=by rw[o5 _ (by omega)];exact gQ
 refine WK.loop (fun k s'=>s'.T.get 2=qP h.next 0∧s'.T.get 3=qP (h.next+1) 0∧s'.T.get 5=.bool true∧s'.T.get 8=qS (b+1) (s.queues.length+3) (s.queues.length+3)∧s'.T.get 9=iv (k:Int)∧k≤s.queues.length+3∧s'.h.next=H4.next∧s'.h.floor=H4.floor∧(∀ i,i≠b→i≠b+1→s'.h.get i=H4.get i)∧∃ L:List (ByteArray × Bool),s'.h.get (b+1)=.row (DE L) 75 false false∧L.length=s.queues.length+3∧∀ j,k≤j→L[j]?=(s.queues++List.replicate 3 (ByteArray.empty,false))[j]?) (s.queues.length+3) (by omega) ?_ ?_
 ·exact⟨by simp only[eE,seval,↓eP,rP,t2],by simp only[eE,seval,↓eP,rP,t3],by simp only[eE,seval,↓eP,rP,t5],by simp only[eE,seval,↓eP,rP],by simp only[eE,seval,↓eP,rP] <;> rfl,by omega,n5,f5,fun i hi _=>o5 i hi,_,gQ5,by simp,fun _ _=>rfl⟩
 clear hk hk9 hlt1 c1 t2 t3 t5 t6 t7
 rintro k ⟨T2,H6⟩ hk ⟨t2,t3,t5,t8,t9,hk9,n6,f6,o6,Q,gQ6,lQ,eQ⟩
 simp only at t2 t3 t5 t8 t9 n6 f6 o6 gQ6
 have cB6:H6.get (h.next+1)=G.get (h.next+1):=by rw[o6 _ (by omega) (by omega),c9.2]
 by_cases hlt1:k<s.queues.length+3
 ·have c1:decide ((k:Int)<((s.queues.length+3:Nat):Int))=true:=by simp;omega
  have hix:=aF (id:=b+1) (n:=s.queues.length+3) (c:=s.queues.length+3) (i:=k) Tryz.underlying23 OS hlt1
  obtain⟨x,hx⟩:∃ x,Q[k]?=some x:=⟨_,List.getElem?_eq_getElem (by omega)⟩
  obtain⟨xa,xb⟩:=wW hx
  have l1:AH (k*2+1) (H6.get (b+1))=some (.bool x.2):=by rw[gQ6];simp[AH,xb]
  have hst:=Bk (k:=k) (a:=XT) (b:=!x.2) gQ6 (by omega) (by omega)
  have w1:=DF k (by omega)
  by_cases h2:k<s.queues.length
  ·have c2:decide ((k:Int)<(s.queues.length:Int))=true:=by simp;omega
   simp only[eE,seval,↓eP,Nat.zero_add,t2,t3,t5,t8,t9,lenQ,c1,D2,DZ,cB6,y2,len2,c2,IR,EE,l1,nX,hix,hst,w1]
   exact⟨hlt1,by omega,n6,f6,fun i hi h1=>by rw[AR (by omega) (Ne.symm h1)];exact o6 i hi h1,_,BL rfl (by omega),by rw[List.length_set];exact lQ,fun j hj=>by rw[List.getElem?_set_ne (by omega)];exact eQ j (by omega)⟩
  ·have c2:decide ((k:Int)<(s.queues.length:Int))=false:=by simp;omega
   have hx0:x=(ByteArray.empty,false):=by
    rw[eQ k (Nat.le_refl _),List.getElem?_append_right (by omega),List.getElem?_replicate,if_pos (by omega)] at hx
    exact(Option.some.inj hx).symm
   subst hx0
   simp only[Bool.not_false] at hst
   have hld:A_ 2 (k*2) (H6.get (b+1))=some (.agg #[.string ByteArray.empty,.bool false]):=by
    rw[gQ6]
    exact Cl hx
   have hbe:CP Tryz.prog .eql 75 (.tmp 98) (.tmp 99) (.agg #[.string ByteArray.empty,.bool false]) (.agg #[.string ByteArray.empty,.bool false])=some (.bool true):=Nu.trans (by rw[LK];rfl)
   simp only[eE,seval,↓eP,Nat.zero_add,t2,t3,t5,t8,t9,lenQ,c1,D2,DZ,cB6,y2,len2,c2,IR,EE,Y5,l1,hld,hbe,Dv,nX,hix,hst,w1]
   exact⟨hlt1,by omega,n6,f6,fun i hi h1=>by rw[AR (by omega) (Ne.symm h1)];exact o6 i hi h1,_,BL rfl (by omega),by rw[List.length_set];exact lQ,fun j hj=>by rw[List.getElem?_set_ne (by omega)];exact eQ j (by omega)⟩
 have c1:decide ((k:Int)<((s.queues.length+3:Nat):Int))=false:=by simp;omega
 simp only[eE,seval,↓eP,hr,t5,t8,t9,lenQ,c1]
 exact⟨by omega,by omega,fun i hi h1=>by rw[o6 i (by omega) (by omega),z4 i h1,gO i hi]⟩
theorem Tp {nm:ByteArray} {s:AM} {pv v:Value} {lo b:Nat} {h0:AA} (hL:ME h b v nm s) (hp:BP lo h0 pv nm s) (hb:h0.next≤b) (h0g:∀ i,i<h0.next→h.get i=h0.get i) (hf:h.floor≤b) (hs:FR s) (hl:C_ s<900000000) (hn:C_ s+90<n) :
  ∃ h',AK n 11 [v,pv] h=some (.bool true,h')∧(h.next≤h'.next∧h'.floor=h.floor∧∀ i,i<h.next→(i<b∨b+5<i)→h'.get i=h.get i):=by
 obtain⟨n,rfl⟩:=B8 hn
 exact OM (BD ⟨rfl,rfl,rfl⟩) (Dn hL hp hb h0g hf hs hl (by omega) (by omega))
end
noncomputable def CL (nm:ByteArray) (s:AM) (size:Int) (C:List Int):Int:=if FD nm s≠0 then FD nm s else if K7 size C s.queues=true then 0 else 45
theorem ME.lies {h:AA} {b:Nat} {v:Value} {nm:ByteArray} {s:AM} (hL:ME h b v nm s):∀ nm' vr vq vv vt vu vo m,v=.agg #[.string nm',vr,vq,vv,vt,vu,vo,m]→LX vr s.rows.length:=by
 intro nm' vr vq vv vt vu vo m hv
 rw[hL.v] at hv
 simp only[Value.agg.injEq,Array.mk.injEq,List.cons.injEq] at hv
 obtain⟨_,h1,_⟩:=hv
 exact⟨_,_,_,h1.symm⟩
theorem ME.mono {h h':AA} {b:Nat} {v:Value} {nm:ByteArray} {s:AM} (hL:ME h b v nm s) (hn:h.next≤h'.next) (hg:∀ i,b≤i→i≤b+5→h'.get i=h.get i):ME h' b v nm s:=by
 obtain⟨hv,hlt,⟨L1,g1⟩,gq,gw,gt,⟨L5,g5⟩,⟨L6,g6⟩⟩:=hL
 exact⟨hv,by omega,⟨L1,by rw[hg _ (by omega) (by omega)];exact g1.g,g1.len,g1.own,g1.marks⟩,by rw[hg _ (by omega) (by omega)];exact gq,by rw[hg _ (by omega) (by omega)];exact gw,by rw[hg _ (by omega) (by omega)];exact gt,⟨L5,by rw[hg _ (by omega) (by omega)];exact g5.g,g5.len,g5.own,g5.marks⟩,⟨L6,by rw[hg _ (by omega) (by omega)];exact g6.g,g6.len,g6.own,g6.marks⟩⟩
section
variable {n N:Nat} {h:AA}
theorem Vg {nm:ByteArray} {s:AM} {pv cv:Value} {lo lc:Nat} {size:Int} {C:List Int} (hp:BP lo h pv nm s) (hc:ER lc h cv size C) (hlies:∀ nm' vr vq vv vt vu vo m,pv=.agg #[.string nm',vr,vq,vv,vt,vu,vo,m]→LX vr s.rows.length) (hl:s.rows.length<900000000) (hg:h.get 0=EA) (hn0:0<h.next) (hs:FR s) (hC:C.length<9000000) (hfl:h.floor≤h.next) (hn:2*C_ s+400+C.length<n) :
  ∃ h',AY Tryz.prog (AK n) N 14 [pv,cv] h=some (CI (CL nm s size C) 0,h')∧∀ i,i<h.next→h'.get i=h.get i:=by
 obtain⟨vr,vq,vv,vt,vu,vo,rfl,p1,p2,p3,p4,p5,p6⟩:=id hp
 obtain⟨vc,rfl,pc⟩:=id hc
 refine DW (R:=fun h'=>∀ i,i<h.next→h'.get i=h.get i) Tryz.func14 rfl (by simp[Tryz.f14]) ?_
 have hr:Tryz.f14.results.toList=[.cell 4 32]:=rfl
 have ca:=DV [.string nm,vr,vq,vv,vt,vu,vo,iv s.miss]
 have oa:=HU (nm:=nm) p1 p2 p3 p4 p5 p6
 have cb:=DV [iv size,vc]
 have ob:[iv size,vc].all one=true:=by simp only[List.all_cons,List.all_nil,AN.one pc,IM,Bool.and_self]
 obtain⟨gA,gB,gF,nG,fG,gO⟩:=SA h (.row [.string nm,vr,vq,vv,vt,vu,vo,iv s.miss] 27 false false) (.row [iv size,vc] 39 false false) (.row [iv 0,iv 0] 32 false false)
 simp only[eE,seval,↓eP,C2,CW,C6,ca,oa,cb,ob,FM,KS,EN,EO,FZ]
 generalize ((h.push (.row [.string nm,vr,vq,vv,vt,vu,vo,iv s.miss] 27 false false)).push (.row [iv size,vc] 39 false false)).push (.row [iv 0,iv 0] 32 false false)=Q at *
 have lA:A_ 8 0 (Q.get h.next)=some (.agg #[.string nm,vr,vq,vv,vt,vu,vo,iv s.miss]):=IW gA rfl
 have lB:A_ 2 0 (Q.get (h.next+1))=some (.agg #[iv size,vc]):=by rw[gB];rfl
 have hpQ:BP lo Q (.agg #[.string nm,vr,vq,vv,vt,vu,vo,iv s.miss]) nm s:=hp.mono (by omega) fun i _ hi=>gO i hi
 have hcQ:ER lc Q (.agg #[iv size,vc]) size C:=hc.mono (by omega) fun i _ hi=>gO i hi
 have hchk:=uD (n:=n) hpQ hlies hs hl (by omega) (by rw[gO 0 hn0];exact hg) (by omega) (by omega)
 have hfit:=Az (n:=n) hpQ hcQ hC (by omega)
 have fin:∀ e:Int,∃ H',BB Tryz.prog Q 32 (qP (h.next+2) 0) (CI e 0)=some H'∧A_ 2 0 (H'.get (h.next+2))=some (CI e 0)∧∀ i,i<h.next→H'.get i=h.get i:=fun e=>by
  refine⟨_,JN JP (vs:=[iv e,iv 0]) gF rfl rfl rfl (by omega),?_,fun i hi=>?_⟩
  ·rw[BL rfl (by omega)]
   rfl
  ·rw[AR (by omega) (by omega)]
   exact gO i hi
 have nn:h.next+1+1=h.next+2:=rfl
 cases d1:(FD nm s != 0) with
 | true=>
  have e1:CL nm s size C=FD nm s:=by unfold CL;rw[if_pos (by simpa using d1)]
  obtain⟨H',s1,s2,s3⟩:=fin (FD nm s)
  rw[e1]
  simp only[eE,seval,↓eP,hr,nn,DT,lA,hchk,d1,NB,s1,CR,s2]
  exact s3
 | false=>
 have e1:FD nm s=0:=by simpa using d1
 cases d2:K7 size C s.queues with
 | false=>
  have e2:CL nm s size C=45:=by unfold CL;rw[if_neg (by rw[e1];decide),if_neg (by rw[d2];decide)]
  obtain⟨H',s1,s2,s3⟩:=fin 45
  rw[e2]
  simp only[eE,seval,↓eP,hr,nn,DT,GR,lA,lB,hchk,d1,hfit,d2,NB,s1,CR,s2]
  exact s3
 | true=>
  have e2:CL nm s size C=0:=by unfold CL;rw[if_neg (by rw[e1];decide),if_pos d2]
  obtain⟨H',s1,s2,s3⟩:=fin 0
  rw[e2]
  simp only[eE,seval,↓eP,hr,nn,DT,GR,lA,lB,hchk,d1,hfit,d2,M2,s1,CR,s2]
  exact s3
theorem kZ {nm:ByteArray} {s:AM} {pv cv:Value} {lo lc:Nat} {size:Int} {C:List Int} (hp:BP lo h pv nm s) (hc:ER lc h cv size C) (hlies:∀ nm' vr vq vv vt vu vo m,pv=.agg #[.string nm',vr,vq,vv,vt,vu,vo,m]→LX vr s.rows.length) (hl:s.rows.length<900000000) (hg:h.get 0=EA) (hn0:0<h.next) (hs:FR s) (hC:C.length<9000000) (hfl:h.floor≤h.next) (hn:2*C_ s+400+C.length+10<n):AK n 14 [pv,cv] h=some (CI (CL nm s size C) 0,h):=by
 obtain⟨n,rfl⟩:=B8 hn
 exact HB (BD ⟨rfl,rfl,rfl⟩) rfl (Vg (n:=n) (N:=n) hp hc hlies hl hg hn0 hs hC hfl (by omega))
theorem Ik {nm:ByteArray} {s:AM} {pv cv:Value} {lo lc:Nat} {size:Int} {C:List Int} (hp:BP lo h pv nm s) (hc:ER lc h cv size C) (h64:∀ x∈s.rows,x.kids≤9223372036854775807) (hl:s.rows.length<9000000) (hs:FR s) (hC:C.length<9000000) (hfl:h.floor≤h.next) (hn:C_ s+100400+C.length<n) :
  ∃ h',AY Tryz.prog (AK n) N 16 [pv,cv] h=some (CI (CL nm s size C) 0,h')∧∀ i,i<h.next→h'.get i=h.get i:=by
 obtain⟨vr,vq,vv,vt,vu,vo,rfl,p1,p2,p3,p4,p5,p6⟩:=id hp
 obtain⟨vc,rfl,pc⟩:=id hc
 refine DW (R:=fun h'=>∀ i,i<h.next→h'.get i=h.get i) Tryz.func16 rfl (by simp[Tryz.f16]) ?_
 have hr:Tryz.f16.results.toList=[.cell 4 32]:=rfl
 have ca:=DV [.string nm,vr,vq,vv,vt,vu,vo,iv s.miss]
 have oa:=HU (nm:=nm) p1 p2 p3 p4 p5 p6
 have cb:=DV [iv size,vc]
 have ob:[iv size,vc].all one=true:=by simp only[List.all_cons,List.all_nil,AN.one pc,IM,Bool.and_self]
 obtain⟨gA,gB,gF,nG,fG,gO⟩:=SA h (.row [.string nm,vr,vq,vv,vt,vu,vo,iv s.miss] 27 false false) (.row [iv size,vc] 39 false false) (.row [iv 0,iv 0] 32 false false)
 simp only[eE,seval,↓eP,C2,CW,C6,ca,oa,cb,ob,FM,KS,EN,EO,FZ]
 generalize ((h.push (.row [.string nm,vr,vq,vv,vt,vu,vo,iv s.miss] 27 false false)).push (.row [iv size,vc] 39 false false)).push (.row [iv 0,iv 0] 32 false false)=Q at *
 have lA:A_ 8 0 (Q.get h.next)=some (.agg #[.string nm,vr,vq,vv,vt,vu,vo,iv s.miss]):=IW gA rfl
 have lB:A_ 2 0 (Q.get (h.next+1))=some (.agg #[iv size,vc]):=by rw[gB];rfl
 have hpQ:BP lo Q (.agg #[.string nm,vr,vq,vv,vt,vu,vo,iv s.miss]) nm s:=hp.mono (by omega) fun i _ hi=>gO i hi
 have hcQ:ER lc Q (.agg #[iv size,vc]) size C:=hc.mono (by omega) fun i _ hi=>gO i hi
 have hchk:=vZ (n:=n) hpQ h64 hs hl (by omega) (by omega)
 have hfit:=Up (n:=n) hpQ hcQ hC (by omega)
 have fin:∀ e:Int,∃ H',BB Tryz.prog Q 32 (qP (h.next+2) 0) (CI e 0)=some H'∧A_ 2 0 (H'.get (h.next+2))=some (CI e 0)∧∀ i,i<h.next→H'.get i=h.get i:=fun e=>by
  refine⟨_,JN JP (vs:=[iv e,iv 0]) gF rfl rfl rfl (by omega),?_,fun i hi=>?_⟩
  ·rw[BL rfl (by omega)]
   rfl
  ·rw[AR (by omega) (by omega)]
   exact gO i hi
 have nn:h.next+1+1=h.next+2:=rfl
 cases d1:(FD nm s != 0) with
 | true=>
  have e1:CL nm s size C=FD nm s:=by unfold CL;rw[if_pos (by simpa using d1)]
  obtain⟨H',s1,s2,s3⟩:=fin (FD nm s)
  rw[e1]
  simp only[eE,seval,↓eP,hr,nn,DT,lA,hchk,d1,NB,s1,CR,s2]
  exact s3
 | false=>
 have e1:FD nm s=0:=by simpa using d1
 cases d2:K7 size C s.queues with
 | false=>
  have e2:CL nm s size C=45:=by unfold CL;rw[if_neg (by rw[e1];decide),if_neg (by rw[d2];decide)]
  obtain⟨H',s1,s2,s3⟩:=fin 45
  rw[e2]
  simp only[eE,seval,↓eP,hr,nn,DT,GR,lA,lB,hchk,d1,hfit,d2,NB,s1,CR,s2]
  exact s3
 | true=>
  have e2:CL nm s size C=0:=by unfold CL;rw[if_neg (by rw[e1];decide),if_pos d2]
  obtain⟨H',s1,s2,s3⟩:=fin 0
  rw[e2]
  simp only[eE,seval,↓eP,hr,nn,DT,GR,lA,lB,hchk,d1,hfit,d2,M2,s1,CR,s2]
  exact s3
theorem wL {nm:ByteArray} {s:AM} {pv cv:Value} {lo lc:Nat} {size:Int} {C:List Int} (hp:BP lo h pv nm s) (hc:ER lc h cv size C) (h64:∀ x∈s.rows,x.kids≤9223372036854775807) (hl:s.rows.length<9000000) (hs:FR s) (hC:C.length<9000000) (hfl:h.floor≤h.next) (hn:C_ s+100400+C.length+10<n):AK n 16 [pv,cv] h=some (CI (CL nm s size C) 0,h):=by
 obtain⟨n,rfl⟩:=B8 hn
 exact HB (BD ⟨rfl,rfl,rfl⟩) rfl (Ik (n:=n) (N:=n) hp hc h64 hl hs hC hfl (by omega))
end
theorem ZU {nm:ByteArray} {s:AM} {size:Int} {C:List Int} (h:CL nm s size C=0):PG s size C:=by
 unfold CL at h
 split at h
 ·rename_i hc;exact absurd h hc
 ·split at h
  ·rename_i hf;exact Qv hf
  ·cases h
section
variable {n N:Nat} {h:AA}
theorem qH {nm:ByteArray} {s:AM} {Z:List AB} {pv cv:Value} {lo lc:Nat} {size:Int} {C:List Int} (hG:EB Z s) (hF:PG s size C) (hp:BP lo h pv nm s) (hc:ER lc h cv size C) (hl:s.rows.length<9000000) (hfl:h.floor≤h.next) (hn:s.rows.length+100<n) :
  ∃ h',AK n 43 [pv,cv] h=some (.tuple #[qS (h.next+2) s.rows.length s.rows.length,qS (h.next+3) s.rows.length s.rows.length],h')∧∃ P Cp V I,J8 h h' P Cp V I∧O0 s.rows (CG s.rows (AC Z) size C) 0 V I:=by
 obtain⟨n,rfl⟩:=B8 hn
 exact N5 (BD ⟨rfl,rfl,rfl⟩) (by simp[E9,flat,BS]) (Il (n:=n) (N:=n) hG hF hp hc hl hfl (by omega) (by omega))
end
noncomputable def EI (s:AM) (size:Int) (C:List Int) (p:Nat):Int:=(CG s.rows (AC (A8 s.rows)) size C p).getD 0
noncomputable def OY (s:AM) (size:Int) (C:List Int):(Int × Int) × IQ:=J1 s.rows (AC (A8 s.rows)) (EI s size C) s.rows.length 0 ⟨[],[],List.replicate s.rows.length 0⟩
noncomputable def GC (nm:ByteArray) (s:AM) (size:Int) (C:List Int):(Int × Int) × IQ:=
 if (B9 nm s).1.1≠0 then ((B9 nm s).1,Q2) else if CL nm s size C≠0 then ((CL nm s size C,0),Q2) else OY s size C
def SK (H:AA) (lo:Nat) (v:Value) (r:(Int × Int) × IQ):Prop:=∃ tv,v=.tuple #[tv,CI r.1.1 r.1.2]∧JZ lo H tv r.2
section
variable {P:Program} {call:AS} {n:Nat} {a b c p d:Code} {s:St} {k:B_}
theorem Ag (h:WK P call n (.seq a p) s (.seq d k)):WK P call n (.seq a (.seq p d)) s k:=by
 rw[KA] at h ⊢
 refine WS.mono h fun e s1 g=>?_
 cases e with
 | normal=>
  show WK P call n (.seq p d) s1 k
  rw[KA]
  exact g
 | exit i=>exact g
 | ret=>exact g
theorem Ar (h:WK P call n (.seq a (.seq b p)) s (.seq d k)):WK P call n (.seq a (.seq b (.seq p d))) s k:=by
 rw[KA] at h ⊢
 refine WS.mono h fun e s1 g=>?_
 cases e with
 | normal=>exact Ag g
 | exit i=>exact g
 | ret=>exact g
theorem tZ (h:WK P call n (.seq a (.seq b (.seq c p))) s (.seq d k)):WK P call n (.seq a (.seq b (.seq c (.seq p d)))) s k:=by
 rw[KA] at h ⊢
 refine WS.mono h fun e s1 g=>?_
 cases e with
 | normal=>exact Ar g
 | exit i=>exact g
 | ret=>exact g
end
theorem vW:BM Tryz.prog 81=some 3:=by kernel_rfl
theorem Jv:FW Tryz.prog 81=some true:=by kernel_rfl
section
variable {h:AA} {id off:Nat}
theorem eF:EW Tryz.prog h 81 (qP id off)=A_ 3 off (h.get id):=ND Jv vW
theorem iI:BE Tryz.prog 81 (qP id off) 0=some (qP id off):=by simp[BE,Tryz.underlying81,C7,CN]
theorem fZ:BE Tryz.prog 81 (qP id off) 1=some (qP id (off+1)):=by simp[BE,Tryz.underlying81,C7,CN]
theorem oP:BE Tryz.prog 81 (qP id off) 2=some (qP id (off+2)):=by simp[BE,Tryz.underlying81,C7,CN]
end
def M4 (k:Int):Bool:=k==4||(k==5||(k==6||k==13))
def aS:List (Bool × Bool × List Operand):=[A7,AP,AI [.tmp 7],AP]
def gJ:List (Bool × Bool × List Operand):=[A7,AP,AI [.tmp 8],AP]
section
variable {s:AM} {i:Nat} {x:AB}
theorem fN (hG:EB (A8 s.rows) s) (hx:s.rows[i]?=some x):(x.kind=4∨x.kind=13→x.kids=3)∧(x.kind=5∨x.kind=6→x.kids=1):=by
 obtain⟨z,hz,h1,h2⟩:=hG.z hx
 have hf:=hG.t.fit hz
 unfold DR at hf
 simp only[Bool.and_eq_true,decide_eq_true_eq,Bool.or_eq_true] at hf
 obtain⟨⟨_,hl⟩,hm⟩:=hf
 rw[← h1,← h2] at hl hm
 refine⟨fun h=>?_,fun h=>?_⟩ <;> (rcases h with h | h <;> (rw[h] at hl hm;rcases hm with hm | hm <;> simp[CZ,FT] at hm hl <;> omega))
theorem Ep (hG:EB (A8 s.rows) s) (hx:s.rows[i]?=some x) (hd:M4 x.kind=true) (f:Nat→Int) :
  (x.kind=4→(BA (AC (A8 s.rows)) x.kids.toNat (i+1)).map f=[f (i+1),f (AC (A8 s.rows) (i+1)),f (AC (A8 s.rows) (AC (A8 s.rows) (i+1)))])∧((BA (AC (A8 s.rows)) x.kids.toNat (i+1)).map f)[0]?=some (f (i+1)):=by
 obtain⟨h3,h1⟩:=fN hG hx
 refine⟨fun h=>?_,?_⟩
 ·rw[h3 (.inl h)]
  rfl
 ·have hk:0<x.kids:=by
   unfold M4 at hd
   simp at hd
   rcases hd with h | h | h | h
   ·rw[h3 (.inl h)];decide
   ·rw[h1 (.inl h)];decide
   ·rw[h1 (.inr h)];decide
   ·rw[h3 (.inr h)];decide
  obtain⟨r,hr⟩:∃ r,x.kids.toNat=r+1:=⟨x.kids.toNat-1,by omega⟩
  rw[hr]
  rfl
end
def En (B:AA) (RI VI D i:Nat) (h:AA) (vr:Value) (s:AM) (x:AB) (t:IQ) (L:List Int) (e:ED) (s':St):Prop:=
 e=.normal∧s'.T.get 2=qP h.next 0∧s'.T.get 4=qP (h.next+2) 0∧s'.T.get 5=qP (h.next+3) 0∧s'.T.get 9=qS VI s.rows.length s.rows.length∧s'.T.get 11=qP (RI+1) 0∧s'.T.get 52=vr∧s'.T.get 53=iv (s.rows.length:Int)∧s'.T.get 54=iv (i:Int)∧s'.T.get 12=iv (i:Int)∧s'.T.get 13=qP D 0∧s'.T.get 14=iv 0∧JO B RI s.rows.length s'.h t∧s'.h.get D=.row (AV x) 60 false false∧∃ lv,s'.T.get 15=lv∧AW 0 s'.h lv L
section
variable {n N:Nat} {h:AA}
theorem Tc {nm:ByteArray} {s:AM} {pv cv:Value} {lo lc:Nat} {size:Int} {C:List Int} (hp:BP lo h pv nm s) (hc:ER lc h cv size C) (hlies:∀ nm' vr vq vv vt vu vo m,pv=.agg #[.string nm',vr,vq,vv,vt,vu,vo,m]→LX vr s.rows.length) (hs:FR s) (hl:s.rows.length<9000000) (hC:C.length<9000000) (hg:h.get 0=EA) (hn0:0<h.next) (hfl:h.floor≤h.next) (hn:2*C_ s+101000+C.length<n) (hN:2*C_ s+1000<N) :
  ∃ v' h',AY Tryz.prog (AK n) N 19 [pv,cv] h=some (v',h')∧SK h' h.next v' (GC nm s size C)∧h'.floor=h.floor∧h.next≤h'.next∧∀ i,i<h.next→h'.get i=h.get i:=by
 obtain⟨vr,vq,vv,vt,vu,vo,rfl,p1,p2,p3,p4,p5,p6⟩:=id hp
 obtain⟨vc,rfl,pc⟩:=id hc
 have hsn:=(EJ n).2
 have htot:C_ s=s.rows.length+s.queues.length+s.vars.length+s.tags.length+s.rules.length+s.on.length:=rfl
 refine MH (R:=fun v' h'=>SK h' h.next v' (GC nm s size C)∧h'.floor=h.floor∧h.next≤h'.next∧∀ i,i<h.next→h'.get i=h.get i) Tryz.func19 rfl (by simp[Tryz.f19]) ?_
 have hr:Tryz.f19.results.toList=[.cell 4 48,.cell 5 32]:=rfl
 have ca:=DV [.string nm,vr,vq,vv,vt,vu,vo,iv s.miss]
 have oa:=HU (nm:=nm) p1 p2 p3 p4 p5 p6
 have cb:=DV [iv size,vc]
 have ob:[iv size,vc].all one=true:=by simp only[List.all_cons,List.all_nil,AN.one pc,IM,Bool.and_self]
 have zcT:zT.cells.toList=[Z0,Z0,Z0]:=rfl
 obtain⟨gA,gB,gT,gF,nG,fG,gO⟩:=o9 h (.row [.string nm,vr,vq,vv,vt,vu,vo,iv s.miss] 27 false false) (.row [iv size,vc] 39 false false) (.row [Z0,Z0,Z0] 48 false false) (.row [iv 0,iv 0] 32 false false)
 simp only[eE,seval,↓eP,C2,CW,C6,ca,oa,cb,ob,FM,KS,RX,RT,zcT,EN,EO,FZ]
 generalize (((h.push (.row [.string nm,vr,vq,vv,vt,vu,vo,iv s.miss] 27 false false)).push (.row [iv size,vc] 39 false false)).push (.row [Z0,Z0,Z0] 48 false false)).push (.row [iv 0,iv 0] 32 false false)=Q at *
 have nn:h.next+1+1=h.next+2:=rfl
 have nm3:h.next+2+1=h.next+3:=rfl
 have lA:A_ 8 0 (Q.get h.next)=some (.agg #[.string nm,vr,vq,vv,vt,vu,vo,iv s.miss]):=IW gA rfl
 have hpQ:BP lo Q (.agg #[.string nm,vr,vq,vv,vt,vu,vo,iv s.miss]) nm s:=hp.mono (by omega) fun i _ hi=>gO i hi
 have len1:=fun h'=>NO p1.2 h'
 obtain⟨v2,H1,hty,⟨tv,hv2,hI⟩,f1,n1,o1⟩:=sH (n:=n) hpQ hlies hs (by omega) (by rw[gO 0 hn0];exact hg) (by omega) (by omega) (by omega)
 subst hv2
 obtain⟨D1,stD,gD,nD,fD,oD⟩:=KB (t:=32) JP (H:=H1) (zs:=[iv 0,iv 0]) (vs:=[iv (B9 nm s).1.1,iv (B9 nm s).1.2]) rfl rfl rfl (by omega)
 have stD':BB Tryz.prog (H1.push (.row [iv 0,iv 0] 32 false false)) 32 (qP H1.next 0) (CI (B9 nm s).1.1 (B9 nm s).1.2)=some D1:=stD
 have oDQ:∀ i,i<Q.next→D1.get i=Q.get i:=fun i hi=>by rw[oD i (by omega),o1 i hi]
 have oDh:∀ i,i<h.next→D1.get i=h.get i:=fun i hi=>by rw[oDQ i (by omega)];exact gO i hi
 have e0:AH 0 (D1.get H1.next)=some (iv (B9 nm s).1.1):=by rw[gD];rfl
 have gTD:D1.get (h.next+2)=.row [Z0,Z0,Z0] 48 false false:=by rw[oDQ _ (by omega)];exact gT
 have gFD:D1.get (h.next+3)=.row [iv 0,iv 0] 32 false false:=by rw[oDQ _ (by omega)];exact gF
 have lAD:A_ 8 0 (D1.get h.next)=some (.agg #[.string nm,vr,vq,vv,vt,vu,vo,iv s.miss]):=by rw[oDQ _ (by omega)];exact lA
 have lBD:A_ 2 0 (D1.get (h.next+1))=some (.agg #[iv size,vc]):=by rw[oDQ _ (by omega),gB];rfl
 have hpD:BP lo D1 (.agg #[.string nm,vr,vq,vv,vt,vu,vo,iv s.miss]) nm s:=hp.mono (by omega) fun i _ hi=>oDh i hi
 have hcD:ER lc D1 (.agg #[iv size,vc]) size C:=hc.mono (by omega) fun i _ hi=>oDh i hi
 cases d1:((B9 nm s).1.1 != 0) with
 | true=>
  have eR:GC nm s size C=((B9 nm s).1,Q2):=by unfold GC;rw[if_pos (by simpa using d1)]
  rw[eR]
  obtain⟨G1,G2,s1,s2,s3,s4,s5,s6,s7,s8,s9,sa,sb⟩:=JB gTD gFD (by omega) (by omega) (J9 (h.next+2+2) D1) (B9 nm s).1.1 (B9 nm s).1.2
  rw[nm3] at s2 s4
  have lD:A_ 2 0 (D1.get H1.next)=some (CI (B9 nm s).1.1 (B9 nm s).1.2):=by rw[gD];rfl
  have hne:(DD (qP H1.next 0) != DD (qP (h.next+2) 0))=true:=by simp[DD];omega
  have fH1:G1.fl D1.floor=G1:=by rw[← s8];exact HX G1
  have fH2:G2.fl D1.floor=G2:=by rw[← s9];exact HX G2
  have fH3:G2.fl G1.floor=G2:=by rw[s8,← s9];exact HX G2
  simp only[eE,seval,↓eP,nn,nm3,DT,lA,hty,EN,EO,FZ,stD',FH,FG,e0,d1]
  refine WK.flags (fs:=aS) (by kernel_rfl) ?_
  unfold aS
  iterate 4
   refine DI hsn ?_
   simp only[rG,seval,AD,AF,AE,CT,DC,CM,C4,DJ,List.map_nil,JV,J2,CR,lD,hne,s1,fH1,s2,fH3]
  refine DH ?_
  simp only[eE,seval,↓eP,hr,IX,s3,CR,s4]
  exact⟨⟨_,rfl,s5.weak (by omega)⟩,by omega,by omega,fun i hi=>by rw[sb i (by omega)];exact oDh i hi⟩
 | false=>
 have z1:(B9 nm s).1.1=0:=by simpa using d1
 obtain⟨hck,hG,hO,hz2⟩:=XK z1
 have hfit:=kZ (n:=n) hpD hcD hlies (by omega) (by rw[oDh 0 hn0];exact hg) (by omega) hs (by omega) (by omega) (by omega)
 obtain⟨E,stE,gE,nE,fE,oE⟩:=KB (t:=32) JP (H:=D1) (zs:=[iv 0,iv 0]) (vs:=[iv (CL nm s size C),iv 0]) rfl rfl rfl (by omega)
 have stE':BB Tryz.prog (D1.push (.row [iv 0,iv 0] 32 false false)) 32 (qP D1.next 0) (CI (CL nm s size C) 0)=some E:=stE
 have e1:AH 0 (E.get D1.next)=some (iv (CL nm s size C)):=by rw[gE];rfl
 have oEh:∀ i,i<h.next→E.get i=h.get i:=fun i hi=>by rw[oE i (by omega)];exact oDh i hi
 have gTE:E.get (h.next+2)=.row [Z0,Z0,Z0] 48 false false:=by rw[oE _ (by omega)];exact gTD
 have gFE:E.get (h.next+3)=.row [iv 0,iv 0] 32 false false:=by rw[oE _ (by omega)];exact gFD
 cases d2:(CL nm s size C != 0) with
 | true=>
  have eR:GC nm s size C=((CL nm s size C,0),Q2):=by unfold GC;rw[if_neg (by rw[z1];decide),if_pos (by simpa using d2)]
  rw[eR]
  obtain⟨G1,G2,s1,s2,s3,s4,s5,s6,s7,s8,s9,sa,sb⟩:=JB gTE gFE (by omega) (by omega) (J9 (h.next+2+2) E) (CL nm s size C) 0
  rw[nm3] at s2 s4
  have lE:A_ 2 0 (E.get D1.next)=some (CI (CL nm s size C) 0):=by rw[gE];rfl
  have hne:(DD (qP D1.next 0) != DD (qP (h.next+2) 0))=true:=by simp[DD];omega
  have fH1:G1.fl E.floor=G1:=by rw[← s8];exact HX G1
  have fH2:G2.fl E.floor=G2:=by rw[← s9];exact HX G2
  have fH3:G2.fl G1.floor=G2:=by rw[s8,← s9];exact HX G2
  simp only[eE,seval,↓eP,nn,nm3,DT,lA,hty,EN,EO,FZ,stD',FH,FG,e0,d1,lAD,GR,lBD,hfit,stE',e1,d2]
  refine WK.flags (fs:=gJ) (by kernel_rfl) ?_
  unfold gJ
  iterate 4
   refine DI hsn ?_
   simp only[rG,seval,AD,AF,AE,CT,DC,CM,C4,DJ,List.map_nil,JV,J2,CR,lE,hne,s1,fH1,s2,fH3]
  refine DH ?_
  simp only[eE,seval,↓eP,hr,IX,s3,CR,s4]
  exact⟨⟨_,rfl,s5.weak (by omega)⟩,by omega,by omega,fun i hi=>by rw[sb i (by omega)];exact oEh i hi⟩
 | false=>
 have z2:CL nm s size C=0:=by simpa using d2
 have hF:=ZU z2
 have eR:GC nm s size C=OY s size C:=by unfold GC;rw[if_neg (by rw[z1];decide),if_neg (by rw[z2];decide)]
 rw[eR]
 have lAE:A_ 8 0 (E.get h.next)=some (.agg #[.string nm,vr,vq,vv,vt,vu,vo,iv s.miss]):=by rw[oE _ (by omega)];exact lAD
 have lBE:A_ 2 0 (E.get (h.next+1))=some (.agg #[iv size,vc]):=by rw[oE _ (by omega)];exact lBD
 obtain⟨B,hcon,Pp,CC,V,I,hT,hV⟩:=qH (n:=n) (h:=E) hG hF (hp.mono (by omega) fun i _ hi=>oEh i hi) (hc.mono (by omega) fun i _ hi=>oEh i hi) hl (by omega) (by omega)
 obtain⟨hV1,hV2,hV3⟩:=hV
 have hmal:∀ p,p<s.rows.length→V[p]?=some (EI s size C p):=fun p hp=>((hV3 p hp).1 (Nat.zero_le _)).1
 have nB:=hT.n
 have fB:=hT.fl
 have gV:=hT.v
 have oBh:∀ i,i<h.next→B.get i=h.get i:=fun i hi=>by rw[hT.o i (by omega)];exact oEh i hi
 have gAB:B.get h.next=.row [.string nm,vr,vq,vv,vt,vu,vo,iv s.miss] 27 false false:=by rw[hT.o _ (by omega),oE _ (by omega),oDQ _ (by omega)];exact gA
 have gTB:B.get (h.next+2)=.row [Z0,Z0,Z0] 48 false false:=by rw[hT.o _ (by omega)];exact gTE
 have gFB:B.get (h.next+3)=.row [iv 0,iv 0] 32 false false:=by rw[hT.o _ (by omega)];exact gFE
 have x1:AH 1 (B.get h.next)=some vr:=by rw[gAB];rfl
 have JW:HP Tryz.prog B 25 (iv (s.rows.length:Int)) (iv (s.rows.length:Int))=some (qS B.next s.rows.length s.rows.length,B.push (.row (ints (List.replicate s.rows.length 0)) 3 false false)):=by
  have:=PW (P:=Tryz.prog) (h:=B) (t:=25) (e:=3) (z:=.int .i64 0) Tryz.underlying25 C7 LS JK rfl rfl (by decide) (by decide) (n:=s.rows.length) (by omega)
  rw[show B0 (Value.int IntKind.i64 0).cells.toList s.rows.length=ints (List.replicate s.rows.length 0) from RY _] at this
  exact this
 obtain⟨H7,stT,g7,n7,f7,o7⟩:=KB (t:=48) S4 (H:=B.push (.row (ints (List.replicate s.rows.length 0)) 3 false false)) (zs:=[Z0,Z0,Z0]) (vs:=[Z0,Z0,qS B.next s.rows.length s.rows.length]) rfl rfl rfl (by show B.floor≤B.next+1;omega)
 rw[EQ] at g7 n7 o7
 have stT':BB Tryz.prog ((B.push (.row (ints (List.replicate s.rows.length 0)) 3 false false)).push (.row [Z0,Z0,Z0] 48 false false)) 48 (qP (B.next+1) 0) (.agg #[Z0,Z0,qS B.next s.rows.length s.rows.length])=some H7:=stT
 have o7B:∀ i,i<B.next→H7.get i=B.get i:=fun i hi=>by rw[o7 i (by omega),AU hi]
 have x7:AH 1 (H7.get h.next)=some vr:=by rw[o7B _ (by omega)];exact x1
 have hK0:JO B B.next s.rows.length H7 ⟨[],[],List.replicate s.rows.length 0⟩:=⟨by rw[o7 _ (by omega)];exact BX,List.length_replicate,⟨_,_,g7,.inl ⟨rfl,rfl,rfl⟩,.inl ⟨rfl,rfl,rfl⟩⟩,by omega,f7,o7B⟩
 simp only[eE,seval,↓eP,nn,nm3,DT,lA,hty,EN,EO,FZ,stD',Nat.zero_add,FH,FG,e0,d1,lAD,GR,lBD,hfit,stE',e1,d2,lAE,lBE,hcon,BN,BO,x1,len1,JW,mU,RX,RT,zcT,EQ,stT',x7]
 clear stT stT' g7 o7 JW x7 hfit hty stD stD' stE stE' e0 e1 hcon
 obtain⟨t0,ht0⟩:∃ t0:IQ,t0=⟨[],[],List.replicate s.rows.length 0⟩:=⟨_,rfl⟩
 have eG:OY s size C=J1 s.rows (AC (A8 s.rows)) (EI s size C) s.rows.length 0 t0:=by rw[ht0];rfl
 rw[← ht0] at hK0
 have hv0:t0.V.length=0∧t0.G.length=0:=by rw[ht0];exact⟨rfl,rfl⟩
 clear ht0
 obtain⟨RI,hRI⟩:∃ RI,RI=B.next:=⟨_,rfl⟩
 obtain⟨VI,hVI⟩:∃ VI,VI=E.next+2:=⟨_,rfl⟩
 rw[← hRI] at hK0 ⊢
 rw[← hVI] at gV ⊢
 have hb1:h.next+4≤VI∧VI<RI∧B.floor≤RI∧B.floor=h.floor:=by omega
 clear nB fB hT hpD hcD hpQ lAE lBE gTE gFE gTD gFD oE oD o1 gE gD
 refine WK.loop (fun i s'=>s'.T.get 2=qP h.next 0∧s'.T.get 4=qP (h.next+2) 0∧s'.T.get 5=qP (h.next+3) 0∧s'.T.get 9=qS VI s.rows.length s.rows.length∧s'.T.get 11=qP (RI+1) 0∧s'.T.get 52=vr∧s'.T.get 53=iv (s.rows.length:Int)∧s'.T.get 54=iv (i:Int)∧i≤s.rows.length∧∃ t,JO B RI s.rows.length s'.h t∧J1 s.rows (AC (A8 s.rows)) (EI s size C) (s.rows.length-i) i t=OY s size C∧t.V.length≤i∧t.G.length≤i) s.rows.length (by omega) ?_ ?_
 ·exact⟨by simp only[eE,seval,↓eP,rP],by simp only[eE,seval,↓eP,rP],by simp only[eE,seval,↓eP,rP],by simp only[eE,seval,↓eP,rP],by simp only[eE,seval,↓eP,rP],by simp only[eE,seval,↓eP,rP],by simp only[eE,seval,↓eP,rP],by simp only[eE,seval,↓eP,rP] <;> rfl,by omega,t0,hK0,eG.symm,by omega,by omega⟩
 rintro i ⟨T,H⟩ hi ⟨t2,t4,t5,t9,t11,t52,t53,t54,hil,t,hK,hgo,htV,htG⟩
 simp only at t2 t4 t5 t9 t11 t52 t53 t54 hK
 have hnK:=hK.n
 have hfK:=hK.fl
 have oKh:∀ j,j<h.next→H.get j=h.get j:=fun j hj=>by rw[hK.o j (by omega)];exact oBh j hj
 by_cases hlt:i<s.rows.length
 rotate_left
 ·have c1:decide ((i:Int)<(s.rows.length:Int))=false:=by simp;omega
  have hin:i=s.rows.length:=by omega
  subst hin
  have eZ:OY s size C=((0,0),t):=by rw[← hgo,Nat.sub_self];rfl
  rw[eZ]
  obtain⟨v,k1,k2,k3⟩:=hK.typed
  obtain⟨G1,G2,s1,s2,s3,s4,s5,s6,s7,s8,s9,sa,sb⟩:=JB (H:=H) (a:=h.next+2) (by rw[hK.o _ (by omega)];exact gTB) (by rw[hK.o _ (by omega)];exact gFB) (by omega) (by omega) (k2.weak (by omega)) 0 0
  rw[nm3] at s2 s4
  simp only[eE,seval,↓eP,hr,t4,t5,t11,t53,t54,c1,IX,k1,M2,s1,s2,s3,CR,s4]
  exact⟨⟨_,rfl,s5.weak (by omega)⟩,by omega,by omega,fun j hj=>by rw[sb j (by omega)];exact oKh j hj⟩
 have c1:decide ((i:Int)<(s.rows.length:Int))=true:=by simp;omega
 obtain⟨x,hx⟩:∃ x,s.rows[i]?=some x:=⟨_,List.getElem?_eq_getElem hlt⟩
 obtain⟨r,hr1⟩:∃ r,s.rows.length-i=r+1:=⟨s.rows.length-i-1,by omega⟩
 rw[hr1] at hgo
 have hri:s.rows.length-(i+1)=r:=by omega
 have hvH:AQ H vr s.rows:=p1.1.mono (by omega) oKh
 obtain⟨ia,pa,ea,hia,_,_,_,_,_,la⟩:=hvH.row hx
 have fz:flat (CE I2)=true:=rfl
 obtain⟨H2,stX,gX,n2,f2,o2⟩:=KB (t:=60) FN (H:=H) (zs:=AV I2) (vs:=AV x) rfl rfl rfl (by omega)
 have stX':BB Tryz.prog (H.push (.row (AV I2) 60 false false)) 60 (qP H.next 0) (CE x)=some H2:=stX
 have hK2:=hK.mono (H':=H2) (by omega) f2 o2
 have y0:AH 0 (H2.get H.next)=some (iv x.kind):=by rw[gX];rfl
 have w1:=DF i (by omega)
 simp only[PB,seval,↓eP,t53,t54,c1]
 rw[RW]
 refine tZ ?_
 obtain⟨D,hD⟩:∃ D,D=H.next:=⟨_,rfl⟩
 obtain⟨L,hL⟩:∃ L:List Int,L=if M4 x.kind=true then (BA (AC (A8 s.rows)) x.kids.toNat (i+1)).map (EI s size C) else []:=⟨_,rfl⟩
 refine W_ (En B RI VI D i h vr s x t L) ?_ ?_
 ·refine tZ ?_
  refine W_ (fun e s'=>e=.normal∧s'.h=H2∧s'.T.get 2=qP h.next 0∧s'.T.get 4=qP (h.next+2) 0∧s'.T.get 5=qP (h.next+3) 0∧s'.T.get 9=qS VI s.rows.length s.rows.length∧s'.T.get 11=qP (RI+1) 0∧s'.T.get 52=vr∧s'.T.get 53=iv (s.rows.length:Int)∧s'.T.get 54=iv (i:Int)∧s'.T.get 12=iv (i:Int)∧s'.T.get 13=qP D 0∧s'.T.get 14=iv 0∧s'.T.get 15=Z0∧s'.T.get 76=.bool (M4 x.kind)) ?_ ?_
  ·cases c4:(x.kind==4) with
   | true=>
    simp only[eE,seval,↓eP,t2,t4,t5,t9,t11,t52,t53,t54,ea,FQ,la,E1,fz,zr,stX',BC,AL,y0,c4,M4,Bool.true_or,hD]
   | false=>
   cases c5:(x.kind==5) with
   | true=>
    simp only[eE,seval,↓eP,t2,t4,t5,t9,t11,t52,t53,t54,ea,FQ,la,E1,fz,zr,stX',BC,AL,y0,c4,c5,M4,Bool.true_or,Bool.false_or,hD]
   | false=>
   cases c6:(x.kind==6) with
   | true=>
    simp only[eE,seval,↓eP,t2,t4,t5,t9,t11,t52,t53,t54,ea,FQ,la,E1,fz,zr,stX',BC,AL,y0,c4,c5,c6,M4,Bool.true_or,Bool.false_or,hD]
   | false=>
    simp only[eE,seval,↓eP,t2,t4,t5,t9,t11,t52,t53,t54,ea,FQ,la,E1,fz,zr,stX',BC,AL,y0,c4,c5,c6,M4,Bool.false_or,hD]
  rintro e ⟨T3,HH⟩ ⟨rfl,hh,u2,u4,u5,u9,u11,u52,u53,u54,u12,u13,u14,u15,u76⟩
  simp only at hh u2 u4 u5 u9 u11 u52 u53 u54 u12 u13 u14 u15 u76
  subst hh
  cases hd:M4 x.kind with
  | false=>
   rw[hd] at u76
   have hL0:L=[]:=by rw[hL,if_neg (by rw[hd];decide)]
   simp only[eE,seval,↓eP,u76]
   exact⟨rfl,by simp only[eE,seval,↓eP,rP,u2],by simp only[eE,seval,↓eP,rP,u4],by simp only[eE,seval,↓eP,rP,u5],by simp only[eE,seval,↓eP,rP,u9],by simp only[eE,seval,↓eP,rP,u11],by simp only[eE,seval,↓eP,rP,u52],by simp only[eE,seval,↓eP,rP,u53],by simp only[eE,seval,↓eP,rP,u54],by simp only[eE,seval,↓eP,rP,u12],by simp only[eE,seval,↓eP,rP,u13],by simp only[eE,seval,↓eP,rP,u14],hK2,by rw[hD];exact gX,_,u15,by rw[hL0];exact AN.nil 0 _ 1⟩
  | true=>
   rw[hd] at u76
   have hL1:L=(BA (AC (A8 s.rows)) x.kids.toNat (i+1)).map (EI s size C):=by rw[hL,if_pos hd]
   have x2:AH 1 (HH.get h.next)=some vr:=by rw[o2 _ (by omega),hK.o _ (by omega)];exact x1
   have hv2:AQ HH vr s.rows:=p1.1.mono (by omega) fun j hj=>by rw[o2 j (by omega)];exact oKh j hj
   obtain⟨zz,hzz,_,hzk⟩:=hG.z hx
   obtain⟨kv,H5,hkids,hkL,f5,n5,o5⟩:=bQ (n:=n) hG.t hG.sk hv2 hzz (by omega) (by omega) (by omega)
   rw[← hzk] at hkL
   have hkc:=hkL.ints (Nat.le_refl _)
   have lenK:=fun h'=>LL hkc h'
   have hkl:((BA (AC (A8 s.rows)) x.kids.toNat (i+1)).map (fun (k:Nat)=>(k:Int))).length=x.kids.toNat:=by rw[List.length_map,NF]
   obtain⟨k0,hch,hel,hei⟩:=hG.kids0 hx
   rw[hkl,show ((x.kids.toNat:Nat):Int)=x.kids by omega] at lenK
   have hK5:=hK2.mono (H':=H5) (by omega) f5 o5
   have gX5:H5.get D=.row (AV x) 60 false false:=by rw[o5 D (by omega),hD];exact gX
   have gV5:∀ j,j<RI→H5.get j=B.get j:=hK5.o
   simp only[eE,seval,↓eP,u2,u12,u76,Nat.zero_add,BN,BO,x2,hkids,lenK]
   generalize hks:BA (AC (A8 s.rows)) x.kids.toNat (i+1)=ks at *
   have hksl:ks.length=x.kids.toNat:=by rw[← hks,NF]
   have hk3:x.kids≤3:=by
    obtain⟨q3,q1⟩:=fN hG hx
    unfold M4 at hd
    simp at hd
    rcases hd with h | h | h | h
    ·rw[q3 (.inl h)];decide
    ·rw[q1 (.inl h)];decide
    ·rw[q1 (.inr h)];decide
    ·rw[q3 (.inr h)];decide
   refine WK.loop (fun q s'=>s'.T.get 2=qP h.next 0∧s'.T.get 4=qP (h.next+2) 0∧s'.T.get 5=qP (h.next+3) 0∧s'.T.get 9=qS VI s.rows.length s.rows.length∧s'.T.get 11=qP (RI+1) 0∧s'.T.get 52=vr∧s'.T.get 53=iv (s.rows.length:Int)∧s'.T.get 54=iv (i:Int)∧s'.T.get 12=iv (i:Int)∧s'.T.get 13=qP D 0∧s'.T.get 14=iv 0∧s'.T.get 80=kv∧s'.T.get 81=iv x.kids∧s'.T.get 82=iv (q:Int)∧q≤x.kids.toNat∧H5.next≤s'.h.next∧s'.h.floor=H5.floor∧(∀ j,j<H5.next→s'.h.get j=H5.get j)∧∃ w,s'.T.get 15=w∧IK s'.h H5.next w ((ks.take q).map (EI s size C))) x.kids.toNat (by omega) ?_ ?_
   ·exact⟨by simp only[eE,seval,↓eP,rP,u2],by simp only[eE,seval,↓eP,rP,u4],by simp only[eE,seval,↓eP,rP,u5],by simp only[eE,seval,↓eP,rP,u9],by simp only[eE,seval,↓eP,rP,u11],by simp only[eE,seval,↓eP,rP,u52],by simp only[eE,seval,↓eP,rP,u53],by simp only[eE,seval,↓eP,rP,u54],by simp only[eE,seval,↓eP,rP,u12],by simp only[eE,seval,↓eP,rP,u13],by simp only[eE,seval,↓eP,rP,u14],by simp only[eE,seval,↓eP,rP],by simp only[eE,seval,↓eP,rP],by simp only[eE,seval,↓eP,rP] <;> rfl,by omega,Nat.le_refl _,rfl,fun _ _=>rfl,Z0,by simp only[eE,seval,↓eP,rP,u15],.inl ⟨rfl,rfl⟩⟩
   rintro q ⟨T4,H6⟩ hq ⟨w2,w4,w5,w9,w11,w52,w53,w54,w12,w13,w14,w80,w81,w82,hqk,n6,f6,o6,w,w15,hLq⟩
   simp only at w2 w4 w5 w9 w11 w52 w53 w54 w12 w13 w14 w80 w81 w82 n6 f6 o6 w15 hLq
   by_cases hql:q<x.kids.toNat
   rotate_left
   ·have c3:decide ((q:Int)<x.kids)=false:=by simp;omega
    have hq9:q=x.kids.toNat:=by omega
    subst hq9
    rw[List.take_of_length_le (by omega)] at hLq
    simp only[eE,seval,↓eP,w81,w82,c3]
    exact⟨rfl,by simp only[eE,seval,↓eP,rP,w2],by simp only[eE,seval,↓eP,rP,w4],by simp only[eE,seval,↓eP,rP,w5],by simp only[eE,seval,↓eP,rP,w9],by simp only[eE,seval,↓eP,rP,w11],by simp only[eE,seval,↓eP,rP,w52],by simp only[eE,seval,↓eP,rP,w53],by simp only[eE,seval,↓eP,rP,w54],by simp only[eE,seval,↓eP,rP,w12],by simp only[eE,seval,↓eP,rP,w13],by simp only[eE,seval,↓eP,rP,w14],hK5.mono n6 f6 o6,by rw[o6 D (by omega)];exact gX5,_,by simp only[eE,seval,↓eP,rP,w15];rfl,by rw[hL1];exact hLq.ints (Nat.zero_le _)⟩
   have c3:decide ((q:Int)<x.kids)=true:=by simp;omega
   obtain⟨p,hpk⟩:∃ p,ks[q]?=some p:=⟨_,List.getElem?_eq_getElem (by omega)⟩
   obtain⟨hip,hpl⟩:=hG.kid (k:=q) hx (by rw[hks];exact hpk)
   have hkc6:AW HH.next H6 kv (ks.map (fun (k:Nat)=>(k:Int))):=AW.mono hkc (by omega) fun j h1 h2=>o6 j h2
   obtain⟨ip,pp,ep,hip2,lp⟩:=AW.get hkc6 (i:=q) (x:=(p:Int)) (by rw[List.getElem?_map,hpk];rfl)
   have wq:=DF q (by omega)
   have jxv:=EG (id:=VI) (n:=s.rows.length) (c:=s.rows.length) (i:=p) hpl
   have lv:AH p (H6.get VI)=some (iv (EI s size C p)):=by rw[o6 VI (by omega),gV5 VI (by omega),gV];exact IF (hmal p hpl)
   obtain⟨w',H7,happ,hL',f7',n7',o7'⟩:=UY (x:=EI s size C p) hLq (by omega) (by omega) (by rw[List.length_map,List.length_take];omega)
   have etk:ks.take (q+1)=ks.take q++[p]:=by rw[List.take_add_one,hpk];rfl
   have emap:(ks.take q).map (EI s size C)++[EI s size C p]=(ks.take (q+1)).map (EI s size C):=by rw[etk,List.map_append];rfl
   rw[emap] at hL'
   simp only[eE,seval,↓eP,w2,w4,w5,w9,w11,w52,w53,w54,w12,w13,w14,w15,w80,w81,w82,c3,ep,AL,lp,jxv,lv,LI,happ,wq]
   exact⟨hql,by omega,by omega,by omega,fun j hj=>by rw[o7' j (by omega)];exact o6 j hj,hL'⟩
 rintro e ⟨T3,H3⟩ ⟨rfl,v2,v4,v5,v9,v11,v52,v53,v54,v12,v13,v14,hK3,gX3,lv,v15,hLi⟩
 simp only at v2 v4 v5 v9 v11 v52 v53 v54 v12 v13 v14 hK3 gX3 v15 hLi
 have nK3:=hK3.n
 have fK3:=hK3.fl
 have oK3:∀ H':AA,(∀ j,j<RI→H'.get j=B.get j)→∀ j,j<h.next→H'.get j=h.get j:=fun H' hH j hj=>by rw[hH j (by omega)];exact oBh j hj
 have yk:AH 0 (H3.get D)=some (iv x.kind):=by rw[gX3];rfl
 have hlist:=fun hd=>Ep hG hx hd (EI s size C)
 have hLd:∀ hd:M4 x.kind=true,(x.kind=4→L=[EI s size C (i+1),EI s size C (AC (A8 s.rows) (i+1)),EI s size C (AC (A8 s.rows) (AC (A8 s.rows) (i+1)))])∧L[0]?=some (EI s size C (i+1)):=fun hd=>by
  rw[hL,if_pos hd]
  exact hlist hd
 have htell:=Dr (n:=n) (h:=H3) (k:=x.kind) hLi (fun h9=>by rw[(hLd (by rw[h9];rfl)).1 h9];simp) (fun h9=>by
  have:=(List.getElem?_eq_some_iff.1 (hLd (by unfold M4;simp;omega)).2).1
  omega) (by omega)
 clear hL
 generalize hma:EI s size C (i+1)=ma at *
 generalize hmb:EI s size C (AC (A8 s.rows) (i+1))=mb at *
 generalize hmc:EI s size C (AC (A8 s.rows) (AC (A8 s.rows) (i+1)))=mc at *
 by_cases k4:x.kind=4
 ·have hL4:=(hLd (by rw[k4];rfl)).1 k4
  have eT:HZ x.kind L=.iface 81 (FL ma mb mc):=by unfold HZ;rw[if_pos k4,hL4];rfl
  have zcV:(FL 0 0 0).cells.toList=[iv 0,iv 0,iv 0]:=rfl
  obtain⟨H4,st4,g4,n4,f4,o4⟩:=KB (t:=81) vW (H:=H3) (zs:=[iv 0,iv 0,iv 0]) (vs:=[iv ma,iv mb,iv mc]) rfl rfl rfl (by omega)
  have hK4:=hK3.mono (H':=H4) (by omega) f4 o4
  have l40:AH 0 (H4.get H3.next)=some (iv ma):=by rw[g4];rfl
  have l41:AH 1 (H4.get H3.next)=some (iv mb):=by rw[g4];rfl
  have l42:AH 2 (H4.get H3.next)=some (iv mc):=by rw[g4];rfl
  have lV:A_ 3 0 (H4.get H3.next)=some (FL ma mb mc):=by rw[g4];rfl
  obtain⟨ov,nv,G1,G2,q1,q2,q3,q4,q5⟩:=hK4.addV (by omega) (by omega) ma mb mc
  cases dA:decide (ma<mb) with
  | true=>
   have hA:ma<mb:=by simpa using dA
   obtain⟨K1,K2,s1,s2,s3,s4,s5,s6,s7,s8,s9,sa,sb⟩:=JB (H:=G2) (a:=h.next+2) (by rw[q4.o _ (by omega)];exact gTB) (by rw[q4.o _ (by omega)];exact gFB) (by have:=q4.n;omega) (by have:=q4.fl;omega) (J9 (h.next+2+2) G2) 43 (i:Int)
   rw[nm3] at s2 s4
   rw[← hgo,LZ hx (b:=43) (by unfold D_;rw[if_pos k4,hma,hmb,hmc,if_pos (.inl hA)]) (by decide)]
   simp only[eE,seval,↓eP,hr,v4,v5,v11,v12,v13,v15,yk,BC,AL,Nat.zero_add,htell,eT,jO,Y2,TZ,zcV,st4,iI,fZ,l40,l41,QG,QS,q1,eF,lV,XF,q2,q3,dA,J2,F8,s1,s2,IX,s3,CR,s4]
   exact⟨⟨_,rfl,s5.weak (by omega)⟩,by have:=q4.fl;omega,by have:=q4.n;omega,fun j hj=>by rw[sb j (by omega)];exact oK3 _ q4.o j hj⟩
  | false=>
  have hA:¬ ma<mb:=by simpa using dA
  cases dB:decide (ma>mc) with
  | true=>
   have hB:ma>mc:=by simpa using dB
   obtain⟨K1,K2,s1,s2,s3,s4,s5,s6,s7,s8,s9,sa,sb⟩:=JB (H:=G2) (a:=h.next+2) (by rw[q4.o _ (by omega)];exact gTB) (by rw[q4.o _ (by omega)];exact gFB) (by have:=q4.n;omega) (by have:=q4.fl;omega) (J9 (h.next+2+2) G2) 43 (i:Int)
   rw[nm3] at s2 s4
   rw[← hgo,LZ hx (b:=43) (by unfold D_;rw[if_pos k4,hma,hmb,hmc,if_pos (.inr hB)]) (by decide)]
   simp only[eE,seval,↓eP,hr,v4,v5,v11,v12,v13,v15,yk,BC,AL,Nat.zero_add,htell,eT,jO,Y2,TZ,zcV,st4,iI,fZ,oP,l40,l41,l42,QG,QS,q1,eF,lV,XF,q2,q3,dA,dB,J2,F8,s1,s2,IX,s3,CR,s4]
   exact⟨⟨_,rfl,s5.weak (by omega)⟩,by have:=q4.fl;omega,by have:=q4.n;omega,fun j hj=>by rw[sb j (by omega)];exact oK3 _ q4.o j hj⟩
  | false=>
   have hB:¬ ma>mc:=by simpa using dB
   have es:D_ (AC (A8 s.rows)) (EI s size C) i x t=(0,{ t with V:=t.V++[(ma,mb,mc)] }):=by unfold D_;rw[if_pos k4,hma,hmb,hmc,if_neg (by omega)]
   rw[OI hx (by rw[es]),es] at hgo
   simp only[eE,seval,↓eP,v2,v4,v5,v9,v11,v52,v53,v54,v13,v14,v15,yk,BC,AL,Nat.zero_add,htell,eT,jO,Y2,TZ,zcV,st4,iI,fZ,oP,l40,l41,l42,QG,QS,q1,eF,lV,XF,q2,q3,dA,dB,w1]
   exact⟨hlt,by omega,_,q4,by rw[hri];exact hgo,by simp;omega,by show t.G.length≤_;omega⟩
 by_cases k5:x.kind=5
 ·have hL0:=(hLd (by rw[k5];rfl)).2
  have eT:HZ x.kind L=.iface 82 (iv ma):=by unfold HZ;rw[if_neg k4,if_pos k5,PA hL0]
  obtain⟨ov,nv,G1,G2,q1,q2,q3,q4,q5⟩:=hK3.addG (by omega) (by omega) ma
  cases dA:decide (ma<1) with
  | true=>
   have hA:ma<1:=by simpa using dA
   obtain⟨K1,K2,s1,s2,s3,s4,s5,s6,s7,s8,s9,sa,sb⟩:=JB (H:=G2) (a:=h.next+2) (by rw[q4.o _ (by omega)];exact gTB) (by rw[q4.o _ (by omega)];exact gFB) (by have:=q4.n;omega) (by have:=q4.fl;omega) (J9 (h.next+2+2) G2) 43 (i:Int)
   rw[nm3] at s2 s4
   rw[← hgo,LZ hx (b:=43) (by unfold D_;rw[if_neg k4,if_pos k5,hma,if_pos (.inl hA)]) (by decide)]
   simp only[eE,seval,↓eP,hr,v4,v5,v11,v12,v13,v15,yk,BC,AL,Nat.zero_add,htell,eT,aE,iQ,UW,C3,Nat.zero_add,q1,LI,q2,q3,dA,J2,F8,s1,s2,IX,s3,CR,s4]
   exact⟨⟨_,rfl,s5.weak (by omega)⟩,by have:=q4.fl;omega,by have:=q4.n;omega,fun j hj=>by rw[sb j (by omega)];exact oK3 _ q4.o j hj⟩
  | false=>
  have hA:¬ ma<1:=by simpa using dA
  cases dB:decide (ma>255) with
  | true=>
   have hB:ma>255:=by simpa using dB
   obtain⟨K1,K2,s1,s2,s3,s4,s5,s6,s7,s8,s9,sa,sb⟩:=JB (H:=G2) (a:=h.next+2) (by rw[q4.o _ (by omega)];exact gTB) (by rw[q4.o _ (by omega)];exact gFB) (by have:=q4.n;omega) (by have:=q4.fl;omega) (J9 (h.next+2+2) G2) 43 (i:Int)
   rw[nm3] at s2 s4
   rw[← hgo,LZ hx (b:=43) (by unfold D_;rw[if_neg k4,if_pos k5,hma,if_pos (.inr hB)]) (by decide)]
   simp only[eE,seval,↓eP,hr,v4,v5,v11,v12,v13,v15,yk,BC,AL,Nat.zero_add,htell,eT,aE,iQ,UW,C3,Nat.zero_add,q1,LI,q2,q3,dA,dB,J2,F8,s1,s2,IX,s3,CR,s4]
   exact⟨⟨_,rfl,s5.weak (by omega)⟩,by have:=q4.fl;omega,by have:=q4.n;omega,fun j hj=>by rw[sb j (by omega)];exact oK3 _ q4.o j hj⟩
  | false=>
   have hB:¬ ma>255:=by simpa using dB
   have es:D_ (AC (A8 s.rows)) (EI s size C) i x t=(0,{ t with G:=t.G++[ma] }):=by unfold D_;rw[if_neg k4,if_pos k5,hma,if_neg (by omega)]
   rw[OI hx (by rw[es]),es] at hgo
   simp only[eE,seval,↓eP,v2,v4,v5,v9,v11,v52,v53,v54,v13,v14,v15,yk,BC,AL,Nat.zero_add,htell,eT,aE,iQ,UW,C3,Nat.zero_add,q1,LI,q2,q3,dA,dB,w1]
   exact⟨hlt,by omega,_,q4,by rw[hri];exact hgo,by show t.V.length≤_;omega,by simp;omega⟩
 by_cases k6:x.kind=6
 ·have hL0:=(hLd (by rw[k6];rfl)).2
  have eT:HZ x.kind L=.iface 83 (.bool (ma != 0)):=by unfold HZ;rw[if_neg k4,if_neg k5,if_pos k6,PA hL0]
  cases dA:(ma != 0) with
  | false=>
   have hA:ma=0:=by simpa using dA
   obtain⟨K1,K2,s1,s2,s3,s4,s5,s6,s7,s8,s9,sa,sb⟩:=JB (H:=H3) (a:=h.next+2) (by rw[hK3.o _ (by omega)];exact gTB) (by rw[hK3.o _ (by omega)];exact gFB) (by have:=hK3.n;omega) (by have:=hK3.fl;omega) (J9 (h.next+2+2) H3) 44 (i:Int)
   rw[nm3] at s2 s4
   rw[← hgo,LZ hx (b:=44) (by unfold D_;rw[if_neg k4,if_neg k5,if_pos k6,hma,if_pos hA]) (by decide)]
   simp only[eE,seval,↓eP,hr,v4,v5,v12,v13,v15,yk,BC,AL,htell,eT,rD,wU,oX,dA,J2,F8,s1,s2,IX,s3,CR,s4]
   exact⟨⟨_,rfl,s5.weak (by omega)⟩,by have:=hK3.fl;omega,by have:=hK3.n;omega,fun j hj=>by rw[sb j (by omega)];exact oK3 _ hK3.o j hj⟩
  | true=>
   have hA:¬ ma=0:=by simpa using dA
   have es:D_ (AC (A8 s.rows)) (EI s size C) i x t=(0,t):=by unfold D_;rw[if_neg k4,if_neg k5,if_pos k6,hma,if_neg hA]
   rw[OI hx (by rw[es]),es] at hgo
   simp only[eE,seval,↓eP,v2,v4,v5,v9,v11,v52,v53,v54,v13,v14,v15,yk,BC,AL,htell,eT,rD,wU,oX,dA,w1]
   exact⟨hlt,by omega,_,hK3,by rw[hri];exact hgo,by omega,by omega⟩
 by_cases k13:x.kind=13
 ·have hL0:=(hLd (by rw[k13];rfl)).2
  have eT:HZ x.kind L=.iface 84 (iv ma):=by unfold HZ;rw[if_neg k4,if_neg k5,if_neg k6,if_pos k13,PA hL0]
  have l2R:AH 2 (H3.get (RI+1))=some (qS RI s.rows.length s.rows.length):=by
   obtain⟨_,_,y1,_⟩:=hK3.y
   rw[y1]
   rfl
  have ixR:=EG (id:=RI) (n:=s.rows.length) (c:=s.rows.length) (i:=i) hlt
  obtain⟨G2,q3,q4,q5⟩:=hK3.setR (by omega) hlt ma
  cases dA:decide (ma<0) with
  | true=>
   have hA:ma<0:=by simpa using dA
   obtain⟨K1,K2,s1,s2,s3,s4,s5,s6,s7,s8,s9,sa,sb⟩:=JB (H:=G2) (a:=h.next+2) (by rw[q4.o _ (by omega)];exact gTB) (by rw[q4.o _ (by omega)];exact gFB) (by have:=q4.n;omega) (by have:=q4.fl;omega) (J9 (h.next+2+2) G2) 43 (i:Int)
   rw[nm3] at s2 s4
   rw[← hgo,LZ hx (b:=43) (by unfold D_;rw[if_neg k4,if_neg k5,if_neg k6,if_pos k13,hma,if_pos (.inl hA)]) (by decide)]
   simp only[eE,seval,↓eP,hr,v4,v5,v11,v12,v13,v15,yk,BC,AL,Nat.zero_add,htell,eT,g8,fV,fU,jS,VT,C3,Nat.zero_add,l2R,ixR,q3,dA,J2,F8,s1,s2,IX,s3,CR,s4]
   exact⟨⟨_,rfl,s5.weak (by omega)⟩,by have:=q4.fl;omega,by have:=q4.n;omega,fun j hj=>by rw[sb j (by omega)];exact oK3 _ q4.o j hj⟩
  | false=>
  have hA:¬ ma<0:=by simpa using dA
  cases dB:decide (ma>4194304) with
  | true=>
   have hB:ma>4194304:=by simpa using dB
   obtain⟨K1,K2,s1,s2,s3,s4,s5,s6,s7,s8,s9,sa,sb⟩:=JB (H:=G2) (a:=h.next+2) (by rw[q4.o _ (by omega)];exact gTB) (by rw[q4.o _ (by omega)];exact gFB) (by have:=q4.n;omega) (by have:=q4.fl;omega) (J9 (h.next+2+2) G2) 43 (i:Int)
   rw[nm3] at s2 s4
   rw[← hgo,LZ hx (b:=43) (by unfold D_;rw[if_neg k4,if_neg k5,if_neg k6,if_pos k13,hma,if_pos (.inr hB)]) (by decide)]
   simp only[eE,seval,↓eP,hr,v4,v5,v11,v12,v13,v15,yk,BC,AL,Nat.zero_add,htell,eT,g8,fV,fU,jS,VT,C3,Nat.zero_add,l2R,ixR,q3,dA,dB,J2,F8,s1,s2,IX,s3,CR,s4]
   exact⟨⟨_,rfl,s5.weak (by omega)⟩,by have:=q4.fl;omega,by have:=q4.n;omega,fun j hj=>by rw[sb j (by omega)];exact oK3 _ q4.o j hj⟩
  | false=>
   have hB:¬ ma>4194304:=by simpa using dB
   have es:D_ (AC (A8 s.rows)) (EI s size C) i x t=(0,{ t with Rd:=t.Rd.set i ma }):=by unfold D_;rw[if_neg k4,if_neg k5,if_neg k6,if_pos k13,hma,if_neg (by omega)]
   rw[OI hx (by rw[es]),es] at hgo
   simp only[eE,seval,↓eP,v2,v4,v5,v9,v11,v52,v53,v54,v12,v13,v14,v15,yk,BC,AL,Nat.zero_add,htell,eT,g8,fV,fU,jS,VT,C3,Nat.zero_add,l2R,ixR,q3,dA,dB,w1]
   exact⟨hlt,by omega,_,q4,by rw[hri];exact hgo,by show t.V.length≤_;omega,by show t.G.length≤_;omega⟩
 have eT:HZ x.kind L=.nilIface:=by unfold HZ;rw[if_neg k4,if_neg k5,if_neg k6,if_neg k13]
 have es:D_ (AC (A8 s.rows)) (EI s size C) i x t=(0,t):=by unfold D_;rw[if_neg k4,if_neg k5,if_neg k6,if_neg k13]
 rw[OI hx (by rw[es]),es] at hgo
 simp only[eE,seval,↓eP,v2,v4,v5,v9,v11,v52,v53,v54,v13,v14,v15,yk,BC,AL,htell,eT,Ua,Xa,Rf,Jj,w1]
 exact⟨hlt,by omega,_,hK3,by rw[hri];exact hgo,by omega,by omega⟩
theorem Ll {nm:ByteArray} {s:AM} {pv cv:Value} {lo lc:Nat} {size:Int} {C:List Int} (hp:BP lo h pv nm s) (hc:ER lc h cv size C) (hlies:∀ nm' vr vq vv vt vu vo m,pv=.agg #[.string nm',vr,vq,vv,vt,vu,vo,m]→LX vr s.rows.length) (hs:FR s) (hl:s.rows.length<9000000) (hC:C.length<9000000) (hg:h.get 0=EA) (hn0:0<h.next) (hfl:h.floor≤h.next) (hn:2*C_ s+101100+C.length<n) :
  ∃ v' h',AK n 19 [pv,cv] h=some (v',h')∧SK h' h.next v' (GC nm s size C)∧h'.floor=h.floor∧h.next≤h'.next∧∀ i,i<h.next→h'.get i=h.get i:=by
 obtain⟨n,rfl⟩:=B8 hn
 refine MG (BD ⟨rfl,rfl,rfl⟩) (Tc (n:=n) (N:=n) hp hc hlies hs hl hC hg hn0 hfl (by omega) (by omega)) fun v' h1 hf _ ht=>?_
 obtain⟨⟨tv,rfl,ht⟩,_⟩:=ht
 exact⟨⟨tv,rfl,mB ht hf _ h⟩,rfl,Nat.le_refl _,fun _ _=>rfl⟩
end
theorem Rn:IC Tryz.prog (match Tryz.prog.underlying 56 with | some (.struct fs)=>fs.toList | _=>[])=some [(0,1),(1,1),(2,1)]:=by kernel_rfl
theorem Hj {a b c:Int}:DM Tryz.prog 56 [(0,iv a),(1,iv b),(2,iv c)]=some (FL a b c):=by
 have h:=Rn
 rw[Tryz.underlying56] at h
 simp only at h
 simp only[DM,ZX,TZ,if_true,Tryz.underlying56,h]
 rfl
section
variable {id off:Nat}
theorem dC:BE Tryz.prog 56 (qP id off) 0=some (qP id off):=by simp[BE,Tryz.underlying56,C7,CN]
theorem jE:BE Tryz.prog 56 (qP id off) 1=some (qP id (off+1)):=by simp[BE,Tryz.underlying56,C7,CN]
theorem mH:BE Tryz.prog 56 (qP id off) 2=some (qP id (off+2)):=by simp[BE,Tryz.underlying56,C7,CN]
end
def UN:List (Bool × Bool × List Operand):=[A7,AP,AI [.tmp 7],AP]
def eD:List (Bool × Bool × List Operand):=[A7,AI [.tmp 2],AI [.tmp 2,.tmp 3],AI [.tmp 2,.tmp 3],AI [.tmp 2,.tmp 3],A7,F5 [.tmp 2,.tmp 3,.tmp 57],F5 [.tmp 2,.tmp 3,.tmp 57,.tmp 2],F5 [.tmp 2,.tmp 3,.tmp 57,.tmp 2,.tmp 3],F5 [.tmp 2,.tmp 3,.tmp 57,.tmp 2,.tmp 3],F5 [.tmp 2,.tmp 3,.tmp 57,.tmp 2,.tmp 3],A7,F5 [.tmp 2,.tmp 3,.tmp 57,.tmp 2,.tmp 3,.tmp 63],F5 [.tmp 2,.tmp 3,.tmp 57,.tmp 2,.tmp 3,.tmp 63,.tmp 2],F5 [.tmp 2,.tmp 3,.tmp 57,.tmp 2,.tmp 3,.tmp 63,.tmp 2,.tmp 3],F5 [.tmp 2,.tmp 3,.tmp 57,.tmp 2,.tmp 3,.tmp 63,.tmp 2,.tmp 3],F5 [.tmp 2,.tmp 3,.tmp 57,.tmp 2,.tmp 3,.tmp 63,.tmp 2,.tmp 3],AP,AP,F5 [.tmp 2,.tmp 3,.tmp 57,.tmp 2,.tmp 3,.tmp 63,.tmp 2,.tmp 3,.tmp 69],AP]
def bW:List (Bool × Bool × List Operand):=[A7,AI [.tmp 2],AI [.tmp 2,.tmp 3],AI [.tmp 2,.tmp 3],AI [.tmp 2,.tmp 3],AP,AP]
def cY:List (Bool × Bool × List Operand):=[A7,AI [.tmp 2],AI [.tmp 2,.tmp 3],AI [.tmp 2,.tmp 3],AI [.tmp 2,.tmp 3],AP,AP]
def b9:List (Bool × Bool × List Operand):=[A7,AI [.tmp 2],AI [.tmp 2,.tmp 3],AI [.tmp 2,.tmp 3],AI [.tmp 2,.tmp 3],AP,AP]
section
variable {n N:Nat} {h:AA}
theorem Ng {nm:ByteArray} {s:AM} {pv cv:Value} {lo lc:Nat} {size:Int} {C:List Int} (hp:BP lo h pv nm s) (hc:ER lc h cv size C) (h64:∀ x∈s.rows,x.kids≤9223372036854775807) (hs:FR s) (hl:s.rows.length<9000000) (hC:C.length<9000000) (hfl:h.floor≤h.next) (hn:2*C_ s+101000+C.length<n) (hN:2*C_ s+1000<N) :
  ∃ v' h',AY Tryz.prog (AK n) N 20 [pv,cv] h=some (v',h')∧SK h' h.next v' (GC nm s size C)∧h'.floor=h.floor∧h.next≤h'.next∧∀ i,i<h.next→h'.get i=h.get i:=by
 obtain⟨vr,vq,vv,vt,vu,vo,rfl,p1,p2,p3,p4,p5,p6⟩:=id hp
 obtain⟨vc,rfl,pc⟩:=id hc
 have hsn:=(EJ n).2
 have htot:C_ s=s.rows.length+s.queues.length+s.vars.length+s.tags.length+s.rules.length+s.on.length:=rfl
 refine MH (R:=fun v' h'=>SK h' h.next v' (GC nm s size C)∧h'.floor=h.floor∧h.next≤h'.next∧∀ i,i<h.next→h'.get i=h.get i) Tryz.func20 rfl (by simp[Tryz.f20]) ?_
 have hr:Tryz.f20.results.toList=[.cell 4 48,.cell 5 32]:=rfl
 have ca:=DV [.string nm,vr,vq,vv,vt,vu,vo,iv s.miss]
 have oa:=HU (nm:=nm) p1 p2 p3 p4 p5 p6
 have cb:=DV [iv size,vc]
 have ob:[iv size,vc].all one=true:=by simp only[List.all_cons,List.all_nil,AN.one pc,IM,Bool.and_self]
 have zcT:zT.cells.toList=[Z0,Z0,Z0]:=rfl
 obtain⟨gA,gB,gT,gF,nG,fG,gO⟩:=o9 h (.row [.string nm,vr,vq,vv,vt,vu,vo,iv s.miss] 27 false false) (.row [iv size,vc] 39 false false) (.row [Z0,Z0,Z0] 48 false false) (.row [iv 0,iv 0] 32 false false)
 simp only[eE,seval,↓eP,C2,CW,C6,ca,oa,cb,ob,FM,KS,RX,RT,zcT,EN,EO,FZ]
 generalize (((h.push (.row [.string nm,vr,vq,vv,vt,vu,vo,iv s.miss] 27 false false)).push (.row [iv size,vc] 39 false false)).push (.row [Z0,Z0,Z0] 48 false false)).push (.row [iv 0,iv 0] 32 false false)=Q at *
 have nn:h.next+1+1=h.next+2:=rfl
 have nm3:h.next+2+1=h.next+3:=rfl
 have lA:A_ 8 0 (Q.get h.next)=some (.agg #[.string nm,vr,vq,vv,vt,vu,vo,iv s.miss]):=IW gA rfl
 have hpQ:BP lo Q (.agg #[.string nm,vr,vq,vv,vt,vu,vo,iv s.miss]) nm s:=hp.mono (by omega) fun i _ hi=>gO i hi
 have len1:=fun h'=>NO p1.2 h'
 obtain⟨v2,H1,hty,⟨tv,hv2,hI⟩,f1,n1,o1⟩:=nV (n:=n) hpQ h64 hs hl (by omega) (by omega)
 subst hv2
 obtain⟨D,stD,gD,nD,fD,oD⟩:=KB (t:=32) JP (H:=H1) (zs:=[iv 0,iv 0]) (vs:=[iv (B9 nm s).1.1,iv (B9 nm s).1.2]) rfl rfl rfl (by omega)
 have stD':BB Tryz.prog (H1.push (.row [iv 0,iv 0] 32 false false)) 32 (qP H1.next 0) (CI (B9 nm s).1.1 (B9 nm s).1.2)=some D:=stD
 have oDQ:∀ i,i<Q.next→D.get i=Q.get i:=fun i hi=>by rw[oD i (by omega),o1 i hi]
 have oDh:∀ i,i<h.next→D.get i=h.get i:=fun i hi=>by rw[oDQ i (by omega)];exact gO i hi
 have e0:AH 0 (D.get H1.next)=some (iv (B9 nm s).1.1):=by rw[gD];rfl
 have gTD:D.get (h.next+2)=.row [Z0,Z0,Z0] 48 false false:=by rw[oDQ _ (by omega)];exact gT
 have gFD:D.get (h.next+3)=.row [iv 0,iv 0] 32 false false:=by rw[oDQ _ (by omega)];exact gF
 have lAD:A_ 8 0 (D.get h.next)=some (.agg #[.string nm,vr,vq,vv,vt,vu,vo,iv s.miss]):=by rw[oDQ _ (by omega)];exact lA
 have lBD:A_ 2 0 (D.get (h.next+1))=some (.agg #[iv size,vc]):=by rw[oDQ _ (by omega),gB];rfl
 have hpD:BP lo D (.agg #[.string nm,vr,vq,vv,vt,vu,vo,iv s.miss]) nm s:=hp.mono (by omega) fun i _ hi=>oDh i hi
 have hcD:ER lc D (.agg #[iv size,vc]) size C:=hc.mono (by omega) fun i _ hi=>oDh i hi
 cases d1:((B9 nm s).1.1==0) with
 | false=>
  have d1':((B9 nm s).1.1 != 0)=true:=by rw[bne,d1];rfl
  have eR:GC nm s size C=((B9 nm s).1,Q2):=by unfold GC;rw[if_pos (by simpa using d1')]
  rw[eR]
  obtain⟨G1,G2,s1,s2,s3,s4,s5,s6,s7,s8,s9,sa,sb⟩:=JB gTD gFD (by omega) (by omega) (J9 (h.next+2+2) D) (B9 nm s).1.1 (B9 nm s).1.2
  rw[nm3] at s2 s4
  have lD:A_ 2 0 (D.get H1.next)=some (CI (B9 nm s).1.1 (B9 nm s).1.2):=by rw[gD];rfl
  have hne:(DD (qP H1.next 0) != DD (qP (h.next+2) 0))=true:=by simp[DD];omega
  have fH1:G1.fl D.floor=G1:=by rw[← s8];exact HX G1
  have fH2:G2.fl D.floor=G2:=by rw[← s9];exact HX G2
  have fH3:G2.fl G1.floor=G2:=by rw[s8,← s9];exact HX G2
  simp only[eE,seval,↓eP,nn,nm3,DT,lA,hty,EN,EO,FZ,stD',FH,FG,e0,d1,d1']
  refine WK.flags (fs:=UN) (by kernel_rfl) ?_
  unfold UN
  iterate 4
   refine DI hsn ?_
   simp only[rG,seval,AD,AF,AE,CT,DC,CM,C4,DJ,List.map_nil,JV,J2,CR,lD,hne,s1,fH1,s2,fH3]
  refine DH ?_
  simp only[eE,seval,↓eP,hr,IX,s3,CR,s4]
  exact⟨⟨_,rfl,s5.weak (by omega)⟩,by omega,by omega,fun i hi=>by rw[sb i (by omega)];exact oDh i hi⟩
 | true=>
 have z1:(B9 nm s).1.1=0:=by simpa using d1
 obtain⟨hck,hG,hO,hz2⟩:=XK z1
 have hfit:=wL (n:=n) hpD hcD h64 hl hs (by omega) (by omega) (by omega)
 have stE:=JN (t:=32) JP (h:=D) (vs:=[iv (CL nm s size C),iv 0]) gD rfl rfl rfl (by omega)
 have stE':BB Tryz.prog D 32 (qP H1.next 0) (CI (CL nm s size C) 0)=some (D.put H1.next (.row [iv (CL nm s size C),iv 0] 32 false false)):=stE
 have gE:(D.put H1.next (.row [iv (CL nm s size C),iv 0] 32 false false)).get H1.next=.row [iv (CL nm s size C),iv 0] 32 false false:=BL rfl (by omega)
 have nE:(D.put H1.next (.row [iv (CL nm s size C),iv 0] 32 false false)).next=D.next:=rfl
 have fE:(D.put H1.next (.row [iv (CL nm s size C),iv 0] 32 false false)).floor=D.floor:=rfl
 have oE:∀ i,i≠H1.next→(D.put H1.next (.row [iv (CL nm s size C),iv 0] 32 false false)).get i=D.get i:=fun i hi=>AR (by omega) (Ne.symm hi)
 generalize D.put H1.next (.row [iv (CL nm s size C),iv 0] 32 false false)=E at *
 have e1:AH 0 (E.get H1.next)=some (iv (CL nm s size C)):=by rw[gE];rfl
 have oEh:∀ i,i<h.next→E.get i=h.get i:=fun i hi=>by rw[oE i (by omega)];exact oDh i hi
 have gTE:E.get (h.next+2)=.row [Z0,Z0,Z0] 48 false false:=by rw[oE _ (by omega)];exact gTD
 have gFE:E.get (h.next+3)=.row [iv 0,iv 0] 32 false false:=by rw[oE _ (by omega)];exact gFD
 cases d2:(CL nm s size C != 0) with
 | true=>
  have eR:GC nm s size C=((CL nm s size C,0),Q2):=by unfold GC;rw[if_neg (by rw[z1];decide),if_pos (by simpa using d2)]
  rw[eR]
  obtain⟨G1,G2,s1,s2,s3,s4,s5,s6,s7,s8,s9,sa,sb⟩:=JB gTE gFE (by omega) (by omega) (J9 (h.next+2+2) E) (CL nm s size C) 0
  rw[nm3] at s2 s4
  have lE:A_ 2 0 (E.get H1.next)=some (CI (CL nm s size C) 0):=by rw[gE];rfl
  have hne:(DD (qP H1.next 0) != DD (qP (h.next+2) 0))=true:=by simp[DD];omega
  have fH1:G1.fl E.floor=G1:=by rw[← s8];exact HX G1
  have fH2:G2.fl E.floor=G2:=by rw[← s9];exact HX G2
  have fH3:G2.fl G1.floor=G2:=by rw[s8,← s9];exact HX G2
  simp only[eE,seval,↓eP,nn,nm3,DT,lA,hty,EN,EO,FZ,stD',FH,FG,e0,d1,lAD,GR,lBD,hfit,stE',e1,d2]
  refine WK.flags (fs:=UN) (by kernel_rfl) ?_
  unfold UN
  iterate 4
   refine DI hsn ?_
   simp only[rG,seval,AD,AF,AE,CT,DC,CM,C4,DJ,List.map_nil,JV,J2,CR,lE,hne,s1,fH1,s2,fH3]
  refine DH ?_
  simp only[eE,seval,↓eP,hr,IX,s3,CR,s4]
  exact⟨⟨_,rfl,s5.weak (by omega)⟩,by omega,by omega,fun i hi=>by rw[sb i (by omega)];exact oEh i hi⟩
 | false=>
 have z2:CL nm s size C=0:=by simpa using d2
 have hF:=ZU z2
 have eR:GC nm s size C=OY s size C:=by unfold GC;rw[if_neg (by rw[z1];decide),if_neg (by rw[z2];decide)]
 rw[eR]
 have gAE:E.get h.next=.row [.string nm,vr,vq,vv,vt,vu,vo,iv s.miss] 27 false false:=by rw[oE _ (by omega),oDQ _ (by omega)];exact gA
 have lBE:A_ 2 0 (E.get (h.next+1))=some (.agg #[iv size,vc]):=by rw[oE _ (by omega)];exact lBD
 have x1:AH 1 (E.get h.next)=some vr:=by rw[gAE];rfl
 have JW:HP Tryz.prog E 25 (iv (s.rows.length:Int)) (iv (s.rows.length:Int))=some (qS E.next s.rows.length s.rows.length,E.push (.row (ints (List.replicate s.rows.length 0)) 3 false false)):=R9 (by omega)
 obtain⟨H7,stT,g7,n7,f7,o7⟩:=KB (t:=48) S4 (H:=E.push (.row (ints (List.replicate s.rows.length 0)) 3 false false)) (zs:=[Z0,Z0,Z0]) (vs:=[Z0,Z0,qS E.next s.rows.length s.rows.length]) rfl rfl rfl (by show E.floor≤E.next+1;omega)
 rw[EQ] at g7 n7 o7
 have stT':BB Tryz.prog ((E.push (.row (ints (List.replicate s.rows.length 0)) 3 false false)).push (.row [Z0,Z0,Z0] 48 false false)) 48 (qP (E.next+1) 0) (.agg #[Z0,Z0,qS E.next s.rows.length s.rows.length])=some H7:=stT
 have o7B:∀ i,i<E.next→H7.get i=E.get i:=fun i hi=>by rw[o7 i (by omega),AU hi]
 have hK0:JO E E.next s.rows.length H7 ⟨[],[],List.replicate s.rows.length 0⟩:=⟨by rw[o7 _ (by omega)];exact BX,List.length_replicate,⟨_,_,g7,.inl ⟨rfl,rfl,rfl⟩,.inl ⟨rfl,rfl,rfl⟩⟩,by omega,f7,o7B⟩
 simp only[eE,seval,↓eP,nn,nm3,DT,lA,hty,EN,EO,FZ,stD',Nat.zero_add,FH,FG,e0,d1,lAD,GR,lBD,hfit,stE',e1,d2,BN,BO,x1,len1,JW,mU,RX,RT,zcT,EQ,stT']
 clear stT stT' g7 o7 JW hfit hty stD stD' stE stE' e0 e1
 obtain⟨t0,ht0⟩:∃ t0:IQ,t0=⟨[],[],List.replicate s.rows.length 0⟩:=⟨_,rfl⟩
 have eG:OY s size C=J1 s.rows (AC (A8 s.rows)) (EI s size C) s.rows.length 0 t0:=by rw[ht0];rfl
 rw[← ht0] at hK0
 have hv0:t0.V.length=0∧t0.G.length=0:=by rw[ht0];exact⟨rfl,rfl⟩
 clear ht0
 obtain⟨RI,hRI⟩:∃ RI,RI=E.next:=⟨_,rfl⟩
 rw[← hRI] at hK0 ⊢
 have hb1:h.next+4≤RI∧E.floor≤RI∧E.floor=h.floor:=by omega
 have xR:∀ H:AA,(∀ j,j<RI→H.get j=E.get j)→AH 1 (H.get h.next)=some vr∧A_ 8 0 (H.get h.next)=some (.agg #[.string nm,vr,vq,vv,vt,vu,vo,iv s.miss])∧A_ 2 0 (H.get (h.next+1))=some (.agg #[iv size,vc]):=fun H hH=>by
  rw[hH _ (by omega),hH _ (by omega)]
  exact⟨x1,IW gAE rfl,lBE⟩
 clear hpD hcD hpQ gTD gFD oE oD o1 gE gD
 refine WK.loop (fun i s'=>s'.T.get 2=qP h.next 0∧s'.T.get 3=qP (h.next+1) 0∧s'.T.get 4=qP (h.next+2) 0∧s'.T.get 5=qP (h.next+3) 0∧s'.T.get 8=qP (RI+1) 0∧s'.T.get 9=iv (i:Int)∧i≤s.rows.length∧∃ t,JO E RI s.rows.length s'.h t∧J1 s.rows (AC (A8 s.rows)) (EI s size C) (s.rows.length-i) i t=OY s size C∧t.V.length≤i∧t.G.length≤i) s.rows.length (by omega) ?_ ?_
 ·exact⟨by simp only[eE,seval,↓eP,rP],by simp only[eE,seval,↓eP,rP],by simp only[eE,seval,↓eP,rP],by simp only[eE,seval,↓eP,rP],by simp only[eE,seval,↓eP,rP],by simp only[eE,seval,↓eP,rP] <;> rfl,by omega,t0,hK0,eG.symm,by omega,by omega⟩
 rintro i ⟨T,H⟩ hi ⟨t2,t3,t4,t5,t8,t9,hil,t,hK,hgo,htV,htG⟩
 simp only at t2 t3 t4 t5 t8 t9 hK
 have hnK:=hK.n
 have hfK:=hK.fl
 have oKh:∀ j,j<h.next→H.get j=h.get j:=fun j hj=>by rw[hK.o j (by omega)];exact oEh j hj
 obtain⟨xH,_,_⟩:=xR H hK.o
 by_cases hlt:i<s.rows.length
 rotate_left
 ·have c1:decide ((i:Int)<(s.rows.length:Int))=false:=by simp;omega
  have hin:i=s.rows.length:=by omega
  subst hin
  have eZ:OY s size C=((0,0),t):=by rw[← hgo,Nat.sub_self];rfl
  rw[eZ]
  obtain⟨v,k1,k2,k3⟩:=hK.typed
  obtain⟨G1,G2,s1,s2,s3,s4,s5,s6,s7,s8,s9,sa,sb⟩:=JB (H:=H) (a:=h.next+2) (by rw[hK.o _ (by omega)];exact gTE) (by rw[hK.o _ (by omega)];exact gFE) (by omega) (by omega) (k2.weak (by omega)) 0 0
  rw[nm3] at s2 s4
  simp only[eE,seval,↓eP,hr,t2,t4,t5,t8,t9,Nat.zero_add,BN,BO,xH,len1,c1,IX,k1,M2,s1,s2,s3,CR,s4]
  exact⟨⟨_,rfl,s5.weak (by omega)⟩,by omega,by omega,fun j hj=>by rw[sb j (by omega)];exact oKh j hj⟩
 have c1:decide ((i:Int)<(s.rows.length:Int))=true:=by simp;omega
 obtain⟨x,hx⟩:∃ x,s.rows[i]?=some x:=⟨_,List.getElem?_eq_getElem hlt⟩
 obtain⟨r,hr1⟩:∃ r,s.rows.length-i=r+1:=⟨s.rows.length-i-1,by omega⟩
 rw[hr1] at hgo
 have hri:s.rows.length-(i+1)=r:=by omega
 have w1:=DF i (by omega)
 have hvH:AQ H vr s.rows:=p1.1.mono (by omega) oKh
 obtain⟨zz,hzz,_,hzk⟩:=hG.z hx
 obtain⟨kv,H3,hkids,hkL,f5,n5,o5⟩:=h_ (n:=n) hG.t hG.sk hvH hzz (by omega) (by omega) (by omega)
 rw[← hzk] at hkL
 have hK3:=hK.mono (H':=H3) n5 f5 o5
 have nK3:=hK3.n
 have fK3:=hK3.fl
 have oK3:∀ H':AA,(∀ j,j<RI→H'.get j=E.get j)→∀ j,j<h.next→H'.get j=h.get j:=fun H' hH j hj=>by rw[hH j (by omega)];exact oEh j hj
 have o3h:=oK3 H3 hK3.o
 have hv3:AQ H3 vr s.rows:=p1.1.mono (by omega) o3h
 obtain⟨ia,pa,ea,hia,la,_⟩:=hv3.row hx
 obtain⟨x3,lA3,lB3⟩:=xR H3 hK3.o
 have hp3:BP lo H3 (.agg #[.string nm,vr,vq,vv,vt,vu,vo,iv s.miss]) nm s:=hp.mono (by omega) fun j _ hj=>o3h j hj
 have hc3:ER lc H3 (.agg #[iv size,vc]) size C:=hc.mono (by omega) fun j _ hj=>o3h j hj
 have hkc:AW H.next H3 kv _:=hkL.ints (Nat.le_refl _)
 have hval:∀ (k p:Nat),(BA (AC (A8 s.rows)) x.kids.toNat (i+1))[k]?=some p→IA x.kind k=true→∀ fl,fl≤H3.next→AK n 45 [.agg #[.string nm,vr,vq,vv,vt,vu,vo,iv s.miss],.agg #[iv size,vc],iv (p:Int)] (H3.fl fl)=some (iv (EI s size C p),H3.fl fl):=fun k p hk hf fl hfl9=>by
  obtain⟨y,v,hy,h27,hcon⟩:=xZ (size:=size) (C:=C) hG hO hx hk hf
  have e:EI s size C p=v:=by unfold EI;rw[hcon];rfl
  rw[e]
  have hpl:=(List.getElem?_eq_some_iff.1 hy).1
  exact iP (lo:=lo) (lc:=lc) hG hO hF hl s.rows.length n p y v (H3.fl fl) (by omega) (by omega) hy h27 hcon (hp3.mono (h':=H3.fl fl) (Nat.le_refl _) fun _ _ _=>rfl) (hc3.mono (h':=H3.fl fl) (Nat.le_refl _) fun _ _ _=>rfl) hfl9
 have hvP:∀ (k p:Nat),(BA (AC (A8 s.rows)) x.kids.toNat (i+1))[k]?=some p→IA x.kind k=true→AK n 45 [.agg #[.string nm,vr,vq,vv,vt,vu,vo,iv s.miss],.agg #[iv size,vc],iv (p:Int)] H3=some (iv (EI s size C p),H3):=fun k p hk hf=>hval k p hk hf H3.floor (by omega)
 have hkp:∀ (k p:Nat),(BA (AC (A8 s.rows)) x.kids.toNat (i+1))[k]?=some p→∃ id q,CB Tryz.prog 25 kv (iv (k:Int))=some (qP id q)∧id<H3.next∧AH q (H3.get id)=some (iv (p:Int)):=fun k p hk=>AW.get hkc (by rw[List.getElem?_map,hk];rfl)
 obtain⟨q3,q1⟩:=fN hG hx
 have ksub:∀ m:Nat,x.kids=(m:Int)→BA (AC (A8 s.rows)) x.kids.toNat (i+1)=BA (AC (A8 s.rows)) m (i+1):=fun m hm=>by rw[hm,Int.toNat_natCast]
 generalize BA (AC (A8 s.rows)) x.kids.toNat (i+1)=ks at *
 have FACT0:∀ m:Nat,x.kids=((m+1:Nat):Int)→ks[0]?=some (i+1):=fun m hm=>by rw[ksub _ hm];rfl
 cases b4:(x.kind==4) with
 | true=>
  have k4:x.kind=4:=by simpa using b4
  have hk0:=FACT0 2 (q3 (.inl k4))
  have hk1:ks[1]?=some (AC (A8 s.rows) (i+1)):=by rw[ksub 3 (q3 (.inl k4))];rfl
  have hk2:ks[2]?=some (AC (A8 s.rows) (AC (A8 s.rows) (i+1))):=by rw[ksub 3 (q3 (.inl k4))];rfl
  have fx:∀ k,IA x.kind k=true:=fun k=>by rw[k4];rfl
  obtain⟨i0,q0',e0,hi0,l0⟩:=hkp 0 (i+1) hk0
  have e0':CB Tryz.prog 25 kv (iv 0)=some (qP i0 q0'):=e0
  have hA0:(i0<H3.next)=True:=eq_true hi0
  obtain⟨i1,q1',e1,hi1,l1⟩:=hkp 1 _ hk1
  have e1':CB Tryz.prog 25 kv (iv 1)=some (qP i1 q1'):=e1
  have hA1:(i1<H3.next)=True:=eq_true hi1
  obtain⟨i2,q2',e2,hi2,l2⟩:=hkp 2 _ hk2
  have e2':CB Tryz.prog 25 kv (iv 2)=some (qP i2 q2'):=e2
  have hA2:(i2<H3.next)=True:=eq_true hi2
  have v0:=hval 0 _ hk0 (fx 0) (max H3.floor H3.next) (by omega)
  have v1:=hval 1 _ hk1 (fx 1) (max H3.floor H3.next) (by omega)
  have v2:=hvP 2 _ hk2 (fx 2)
  generalize hma:EI s size C (i+1)=ma at *
  generalize hmb:EI s size C (AC (A8 s.rows) (i+1))=mb at *
  generalize hmc:EI s size C (AC (A8 s.rows) (AC (A8 s.rows) (i+1)))=mc at *
  have zcV:(FL 0 0 0).cells.toList=[iv 0,iv 0,iv 0]:=rfl
  obtain⟨H4,st4,g4,n4,f4,o4⟩:=KB (t:=56) TU (H:=H3) (zs:=[iv 0,iv 0,iv 0]) (vs:=[iv ma,iv mb,iv mc]) rfl rfl rfl (by omega)
  have hK4:=hK3.mono (H':=H4) (by omega) f4 o4
  have st4':BB Tryz.prog (H3.push (.row [iv 0,iv 0,iv 0] 56 false false)) 56 (qP H3.next 0) (FL ma mb mc)=some H4:=st4
  have l40:AH 0 (H4.get H3.next)=some (iv ma):=by rw[g4];rfl
  have l41:AH 1 (H4.get H3.next)=some (iv mb):=by rw[g4];rfl
  have l42:AH 2 (H4.get H3.next)=some (iv mc):=by rw[g4];rfl
  have lV:A_ 3 0 (H4.get H3.next)=some (FL ma mb mc):=by rw[g4];rfl
  have fH4:H4.fl H3.floor=H4:=by rw[← f4];exact HX H4
  have hAp:(h.next<H3.next)=True:=by simp;omega
  have hAc:(h.next+1<H3.next)=True:=by simp;omega
  simp only[eE,seval,↓eP,t2,t9,Nat.zero_add,BN,BO,xH,len1,c1,hkids,x3,ea,BC,AL,la,b4]
  refine WK.flags (fs:=eD) (by kernel_rfl) ?_
  unfold eD
  iterate 21
   refine DI hsn ?_
   simp only[rG,seval,AD,AF,AE,CT,DC,CM,C4,DJ,t2,DT,lA3,hAp,t3,GR,lB3,hAc,e0',AL,l0,hA0,v0,NJ,e1',l1,hA1,v1,e2',l2,hA2,v2,List.map_cons,List.map_nil,Hj,ZX,TZ,zcV,JV,st4',fH4]
  refine DH ?_
  obtain⟨ov,nv,G1,G2,a1,a2,a3,a4,a5⟩:=hK4.addV (by omega) (by omega) ma mb mc
  cases dA:decide (ma<mb) with
  | true=>
   have hA:ma<mb:=by simpa using dA
   obtain⟨K1,K2,s1,s2,s3,s4,s5,s6,s7,s8,s9,sa,sb⟩:=JB (H:=H4) (a:=h.next+2) (by rw[hK4.o _ (by omega)];exact gTE) (by rw[hK4.o _ (by omega)];exact gFE) (by have:=hK4.n;omega) (by have:=hK4.fl;omega) (J9 (h.next+2+2) H4) 43 (i:Int)
   rw[nm3] at s2 s4
   rw[← hgo,LZ hx (b:=43) (by unfold D_;rw[if_pos k4,hma,hmb,hmc,if_pos (.inl hA)]) (by decide)]
   simp only[eE,seval,↓eP,hr,t4,t5,t9,dC,jE,AL,l40,l41,Nat.zero_add,dA,J2,F8,s1,s2,IX,s3,CR,s4]
   exact⟨⟨_,rfl,s5.weak (by omega)⟩,by have:=hK4.fl;omega,by have:=hK4.n;omega,fun j hj=>by rw[sb j (by omega)];exact oK3 _ hK4.o j hj⟩
  | false=>
  have hA:¬ ma<mb:=by simpa using dA
  cases dB:decide (ma>mc) with
  | true=>
   have hB:ma>mc:=by simpa using dB
   obtain⟨K1,K2,s1,s2,s3,s4,s5,s6,s7,s8,s9,sa,sb⟩:=JB (H:=H4) (a:=h.next+2) (by rw[hK4.o _ (by omega)];exact gTE) (by rw[hK4.o _ (by omega)];exact gFE) (by have:=hK4.n;omega) (by have:=hK4.fl;omega) (J9 (h.next+2+2) H4) 43 (i:Int)
   rw[nm3] at s2 s4
   rw[← hgo,LZ hx (b:=43) (by unfold D_;rw[if_pos k4,hma,hmb,hmc,if_pos (.inr hB)]) (by decide)]
   simp only[eE,seval,↓eP,hr,t4,t5,t9,dC,jE,mH,AL,l40,l41,l42,Nat.zero_add,dA,dB,J2,F8,s1,s2,IX,s3,CR,s4]
   exact⟨⟨_,rfl,s5.weak (by omega)⟩,by have:=hK4.fl;omega,by have:=hK4.n;omega,fun j hj=>by rw[sb j (by omega)];exact oK3 _ hK4.o j hj⟩
  | false=>
   have hB:¬ ma>mc:=by simpa using dB
   have es:D_ (AC (A8 s.rows)) (EI s size C) i x t=(0,{ t with V:=t.V++[(ma,mb,mc)] }):=by unfold D_;rw[if_pos k4,hma,hmb,hmc,if_neg (by omega)]
   rw[OI hx (by rw[es]),es] at hgo
   simp only[eE,seval,↓eP,t2,t3,t4,t5,t8,t9,dC,jE,mH,AL,l40,l41,l42,Nat.zero_add,QG,QS,a1,l7,lV,XF,a2,a3,dA,dB,w1]
   exact⟨hlt,by omega,_,a4,by rw[hri];exact hgo,by simp;omega,by show t.G.length≤_;omega⟩
 | false=>
 have k4:¬ x.kind=4:=by simpa using b4
 cases b5:(x.kind==5) with
 | true=>
  have k5:x.kind=5:=by simpa using b5
  have hk0:=FACT0 0 (q1 (.inl k5))
  have fx:IA x.kind 0=true:=by rw[k5];rfl
  obtain⟨i0,q0',e0,hi0,l0⟩:=hkp 0 (i+1) hk0
  have e0':CB Tryz.prog 25 kv (iv 0)=some (qP i0 q0'):=e0
  have hA0:(i0<H3.next)=True:=eq_true hi0
  have v0:=hvP 0 _ hk0 fx
  generalize hma:EI s size C (i+1)=ma at *
  simp only[eE,seval,↓eP,t2,t9,Nat.zero_add,BN,BO,xH,len1,c1,hkids,x3,ea,BC,AL,la,b4,b5]
  refine WK.flags (fs:=bW) (by kernel_rfl) ?_
  unfold bW
  iterate 7
   refine DI hsn ?_
   simp only[rG,seval,AD,AF,AE,CT,DC,CM,C4,DJ,t2,DT,lA3,t3,GR,lB3,e0',AL,l0,hA0,v0]
  refine DH ?_
  obtain⟨ov,nv,G1,G2,a1,a2,a3,a4,a5⟩:=hK3.addG (by omega) (by omega) ma
  cases dA:decide (ma<1) with
  | true=>
   have hA:ma<1:=by simpa using dA
   obtain⟨K1,K2,s1,s2,s3,s4,s5,s6,s7,s8,s9,sa,sb⟩:=JB (H:=H3) (a:=h.next+2) (by rw[hK3.o _ (by omega)];exact gTE) (by rw[hK3.o _ (by omega)];exact gFE) (by have:=hK3.n;omega) (by have:=hK3.fl;omega) (J9 (h.next+2+2) H3) 43 (i:Int)
   rw[nm3] at s2 s4
   rw[← hgo,LZ hx (b:=43) (by unfold D_;rw[if_neg k4,if_pos k5,hma,if_pos (.inl hA)]) (by decide)]
   simp only[eE,seval,↓eP,hr,t4,t5,t9,dA,J2,F8,s1,s2,IX,s3,CR,s4]
   exact⟨⟨_,rfl,s5.weak (by omega)⟩,by have:=hK3.fl;omega,by have:=hK3.n;omega,fun j hj=>by rw[sb j (by omega)];exact oK3 _ hK3.o j hj⟩
  | false=>
  have hA:¬ ma<1:=by simpa using dA
  cases dB:decide (ma>255) with
  | true=>
   have hB:ma>255:=by simpa using dB
   obtain⟨K1,K2,s1,s2,s3,s4,s5,s6,s7,s8,s9,sa,sb⟩:=JB (H:=H3) (a:=h.next+2) (by rw[hK3.o _ (by omega)];exact gTE) (by rw[hK3.o _ (by omega)];exact gFE) (by have:=hK3.n;omega) (by have:=hK3.fl;omega) (J9 (h.next+2+2) H3) 43 (i:Int)
   rw[nm3] at s2 s4
   rw[← hgo,LZ hx (b:=43) (by unfold D_;rw[if_neg k4,if_pos k5,hma,if_pos (.inr hB)]) (by decide)]
   simp only[eE,seval,↓eP,hr,t4,t5,t9,dA,dB,J2,F8,s1,s2,IX,s3,CR,s4]
   exact⟨⟨_,rfl,s5.weak (by omega)⟩,by have:=hK3.fl;omega,by have:=hK3.n;omega,fun j hj=>by rw[sb j (by omega)];exact oK3 _ hK3.o j hj⟩
  | false=>
   have hB:¬ ma>255:=by simpa using dB
   have es:D_ (AC (A8 s.rows)) (EI s size C) i x t=(0,{ t with G:=t.G++[ma] }):=by unfold D_;rw[if_neg k4,if_pos k5,hma,if_neg (by omega)]
   rw[OI hx (by rw[es]),es] at hgo
   simp only[eE,seval,↓eP,t2,t3,t4,t5,t8,t9,UW,C3,Nat.zero_add,a1,LI,a2,a3,dA,dB,w1]
   exact⟨hlt,by omega,_,a4,by rw[hri];exact hgo,by show t.V.length≤_;omega,by simp;omega⟩
 | false=>
 have k5:¬ x.kind=5:=by simpa using b5
 cases b6:(x.kind==6) with
 | true=>
  have k6:x.kind=6:=by simpa using b6
  have hk0:=FACT0 0 (q1 (.inr k6))
  have fx:IA x.kind 0=true:=by rw[k6];rfl
  obtain⟨i0,q0',e0,hi0,l0⟩:=hkp 0 (i+1) hk0
  have e0':CB Tryz.prog 25 kv (iv 0)=some (qP i0 q0'):=e0
  have hA0:(i0<H3.next)=True:=eq_true hi0
  have v0:=hvP 0 _ hk0 fx
  generalize hma:EI s size C (i+1)=ma at *
  simp only[eE,seval,↓eP,t2,t9,Nat.zero_add,BN,BO,xH,len1,c1,hkids,x3,ea,BC,AL,la,b4,b5,b6]
  refine WK.flags (fs:=cY) (by kernel_rfl) ?_
  unfold cY
  iterate 7
   refine DI hsn ?_
   simp only[rG,seval,AD,AF,AE,CT,DC,CM,C4,DJ,t2,DT,lA3,t3,GR,lB3,e0',AL,l0,hA0,v0,QD]
  refine DH ?_
  cases dA:(ma==0) with
  | true=>
   have hA:ma=0:=by simpa using dA
   obtain⟨K1,K2,s1,s2,s3,s4,s5,s6,s7,s8,s9,sa,sb⟩:=JB (H:=H3) (a:=h.next+2) (by rw[hK3.o _ (by omega)];exact gTE) (by rw[hK3.o _ (by omega)];exact gFE) (by have:=hK3.n;omega) (by have:=hK3.fl;omega) (J9 (h.next+2+2) H3) 44 (i:Int)
   rw[nm3] at s2 s4
   rw[← hgo,LZ hx (b:=44) (by unfold D_;rw[if_neg k4,if_neg k5,if_pos k6,hma,if_pos hA]) (by decide)]
   simp only[eE,seval,↓eP,hr,t4,t5,t9,J2,F8,s1,s2,IX,s3,CR,s4]
   exact⟨⟨_,rfl,s5.weak (by omega)⟩,by have:=hK3.fl;omega,by have:=hK3.n;omega,fun j hj=>by rw[sb j (by omega)];exact oK3 _ hK3.o j hj⟩
  | false=>
   have hA:¬ ma=0:=by simpa using dA
   have es:D_ (AC (A8 s.rows)) (EI s size C) i x t=(0,t):=by unfold D_;rw[if_neg k4,if_neg k5,if_pos k6,hma,if_neg hA]
   rw[OI hx (by rw[es]),es] at hgo
   simp only[eE,seval,↓eP,t2,t3,t4,t5,t8,t9,w1]
   exact⟨hlt,by omega,_,hK3,by rw[hri];exact hgo,by omega,by omega⟩
 | false=>
 have k6:¬ x.kind=6:=by simpa using b6
 cases b13:(x.kind==13) with
 | true=>
  have k13:x.kind=13:=by simpa using b13
  have hk0:=FACT0 2 (q3 (.inr k13))
  have fx:IA x.kind 0=true:=by rw[k13];rfl
  obtain⟨i0,q0',e0,hi0,l0⟩:=hkp 0 (i+1) hk0
  have e0':CB Tryz.prog 25 kv (iv 0)=some (qP i0 q0'):=e0
  have hA0:(i0<H3.next)=True:=eq_true hi0
  have v0:=hvP 0 _ hk0 fx
  generalize hma:EI s size C (i+1)=ma at *
  simp only[eE,seval,↓eP,t2,t9,Nat.zero_add,BN,BO,xH,len1,c1,hkids,x3,ea,BC,AL,la,b4,b5,b6,b13]
  refine WK.flags (fs:=b9) (by kernel_rfl) ?_
  unfold b9
  iterate 7
   refine DI hsn ?_
   simp only[rG,seval,AD,AF,AE,CT,DC,CM,C4,DJ,t2,DT,lA3,t3,GR,lB3,e0',AL,l0,hA0,v0]
  refine DH ?_
  have l2R:AH 2 (H3.get (RI+1))=some (qS RI s.rows.length s.rows.length):=by
   obtain⟨_,_,y1,_⟩:=hK3.y
   rw[y1]
   rfl
  have ixR:=EG (id:=RI) (n:=s.rows.length) (c:=s.rows.length) (i:=i) hlt
  obtain⟨G2,a3,a4,a5⟩:=hK3.setR (by omega) hlt ma
  cases dA:decide (ma<0) with
  | true=>
   have hA:ma<0:=by simpa using dA
   obtain⟨K1,K2,s1,s2,s3,s4,s5,s6,s7,s8,s9,sa,sb⟩:=JB (H:=H3) (a:=h.next+2) (by rw[hK3.o _ (by omega)];exact gTE) (by rw[hK3.o _ (by omega)];exact gFE) (by have:=hK3.n;omega) (by have:=hK3.fl;omega) (J9 (h.next+2+2) H3) 43 (i:Int)
   rw[nm3] at s2 s4
   rw[← hgo,LZ hx (b:=43) (by unfold D_;rw[if_neg k4,if_neg k5,if_neg k6,if_pos k13,hma,if_pos (.inl hA)]) (by decide)]
   simp only[eE,seval,↓eP,hr,t4,t5,t9,dA,J2,F8,s1,s2,IX,s3,CR,s4]
   exact⟨⟨_,rfl,s5.weak (by omega)⟩,by have:=hK3.fl;omega,by have:=hK3.n;omega,fun j hj=>by rw[sb j (by omega)];exact oK3 _ hK3.o j hj⟩
  | false=>
  have hA:¬ ma<0:=by simpa using dA
  cases dB:decide (ma>4194304) with
  | true=>
   have hB:ma>4194304:=by simpa using dB
   obtain⟨K1,K2,s1,s2,s3,s4,s5,s6,s7,s8,s9,sa,sb⟩:=JB (H:=H3) (a:=h.next+2) (by rw[hK3.o _ (by omega)];exact gTE) (by rw[hK3.o _ (by omega)];exact gFE) (by have:=hK3.n;omega) (by have:=hK3.fl;omega) (J9 (h.next+2+2) H3) 43 (i:Int)
   rw[nm3] at s2 s4
   rw[← hgo,LZ hx (b:=43) (by unfold D_;rw[if_neg k4,if_neg k5,if_neg k6,if_pos k13,hma,if_pos (.inr hB)]) (by decide)]
   simp only[eE,seval,↓eP,hr,t4,t5,t9,dA,dB,J2,F8,s1,s2,IX,s3,CR,s4]
   exact⟨⟨_,rfl,s5.weak (by omega)⟩,by have:=hK3.fl;omega,by have:=hK3.n;omega,fun j hj=>by rw[sb j (by omega)];exact oK3 _ hK3.o j hj⟩
  | false=>
   have hB:¬ ma>4194304:=by simpa using dB
   have es:D_ (AC (A8 s.rows)) (EI s size C) i x t=(0,{ t with Rd:=t.Rd.set i ma }):=by unfold D_;rw[if_neg k4,if_neg k5,if_neg k6,if_pos k13,hma,if_neg (by omega)]
   rw[OI hx (by rw[es]),es] at hgo
   simp only[eE,seval,↓eP,t2,t3,t4,t5,t8,t9,VT,C3,Nat.zero_add,l2R,ixR,a3,dA,dB,w1]
   exact⟨hlt,by omega,_,a4,by rw[hri];exact hgo,by show t.V.length≤_;omega,by show t.G.length≤_;omega⟩
 | false=>
 have k13:¬ x.kind=13:=by simpa using b13
 have es:D_ (AC (A8 s.rows)) (EI s size C) i x t=(0,t):=by unfold D_;rw[if_neg k4,if_neg k5,if_neg k6,if_neg k13]
 rw[OI hx (by rw[es]),es] at hgo
 simp only[eE,seval,↓eP,t2,t8,t9,t3,t4,t5,Nat.zero_add,BN,BO,xH,len1,c1,hkids,x3,ea,BC,AL,la,b4,b5,b6,b13,w1]
 exact⟨hlt,by omega,_,hK3,by rw[hri];exact hgo,by omega,by omega⟩
theorem yY {nm:ByteArray} {s:AM} {pv cv:Value} {lo lc:Nat} {size:Int} {C:List Int} (hp:BP lo h pv nm s) (hc:ER lc h cv size C) (h64:∀ x∈s.rows,x.kids≤9223372036854775807) (hs:FR s) (hl:s.rows.length<9000000) (hC:C.length<9000000) (hfl:h.floor≤h.next) (hn:2*C_ s+101100+C.length<n) :
  ∃ v' h',AK n 20 [pv,cv] h=some (v',h')∧SK h' h.next v' (GC nm s size C)∧h'.floor=h.floor∧h.next≤h'.next∧∀ i,i<h.next→h'.get i=h.get i:=by
 obtain⟨n,rfl⟩:=B8 hn
 refine MG (BD ⟨rfl,rfl,rfl⟩) (Ng (n:=n) (N:=n) hp hc h64 hs hl hC hfl (by omega) (by omega)) fun v' h1 hf _ ht=>?_
 obtain⟨⟨tv,rfl,ht⟩,_⟩:=ht
 exact⟨⟨tv,rfl,mB ht hf _ h⟩,rfl,Nat.le_refl _,fun _ _=>rfl⟩
end
theorem Vq:Tryz.prog.stoodInHeld 56=false:=by kernel_rfl
theorem gS {a b c:Int}:BH Tryz.prog (part 3 #[.int .i64 a,.int .i64 b,.int .i64 c] 0)=some (.int .i64 a)∧BH Tryz.prog (part 3 #[.int .i64 a,.int .i64 b,.int .i64 c] 1)=some (.int .i64 b)∧BH Tryz.prog (part 3 #[.int .i64 a,.int .i64 b,.int .i64 c] 2)=some (.int .i64 c):=⟨rfl,rfl,rfl⟩
theorem Re {a b c:Int}:flat (FL a b c)=true:=rfl
theorem Jo {a b c:Int} (n:Nat):BH Tryz.prog (Op.equalIn (n+2) 56 (FL a b c) (FL a b c))=some true:=by
 rw[Op.equalIn,DO,OC Tryz.underlying56]
 simp only[Option.bind_some,DO,M7,Vq,Bool.false_eq_true,if_false]
 simp[DO,JE,gS.1,gS.2.1,gS.2.2,M_ Tryz.underlying3]
theorem Vs {x y:Operand} {a b c:Int}:CP Tryz.prog .neq 56 x y (FL a b c) (FL a b c)=some (.bool false):=by
 have k:BH Tryz.prog (Op.equal 56 (FL a b c) (FL a b c))=some true:=Jo 9998
 have e:BH Tryz.prog (do eqGuard .neq 56 x y (FL a b c) (FL a b c);binOp .neq 56 (FL a b c) (FL a b c))=some (.bool false):=by
  rw[DO]
  have g:BH Tryz.prog (eqGuard .neq 56 x y (FL a b c) (FL a b c))=some ():=by
   unfold eqGuard
   simp[DO,M7,JE]
  rw[g]
  show BH Tryz.prog ((do pure (.bool (!(← Op.equal 56 (FL a b c) (FL a b c))))):Sem Value)=_
  rw[DO,k]
  rfl
 simp only[CP,Re,Bool.and_self,if_true,e,MT]
theorem tI:∀ {l:List (Int × Int × Int)} {i:Nat} {x:Int × Int × Int},l[i]?=some x→((NW l).drop (i*3)).take 3=[iv x.1,iv x.2.1,iv x.2.2]
 | [],i,x,h=>by simp at h
 | y :: l,0,x,h=>by
  cases h
  rfl
 | y :: l,i+1,x,h=>by
  have h':l[i]?=some x:=by simpa using h
  rw[show (i+1)*3=i*3+1+1+1 by omega]
  exact tI h'
theorem lH {R:List AB} {e:Nat→Nat} {val:Nat→Int}:∀ (r i:Nat) (t:IQ),(J1 R e val r i t).2.V.length≤r+t.V.length∧(J1 R e val r i t).2.G.length≤r+t.G.length∧(J1 R e val r i t).2.Rd.length≤t.Rd.length
 | 0,i,t=>⟨by simp[J1],by simp[J1],by simp[J1]⟩
 | r + 1,i,t=>by
  unfold J1
  cases hx:R[i]? with
  | none=>exact⟨by simp,by simp,by simp⟩
  | some x=>
   simp only
   by_cases h:(D_ e val i x t).1≠0
   ·rw[if_pos h]
    exact⟨by simp,by simp,by simp⟩
   ·rw[if_neg h]
    obtain⟨a,b,c⟩:=lH (R:=R) (e:=e) (val:=val) r (i+1) (D_ e val i x t).2
    have hs:(D_ e val i x t).2.V.length≤t.V.length+1∧(D_ e val i x t).2.G.length≤t.G.length+1∧(D_ e val i x t).2.Rd.length≤t.Rd.length:=by
     unfold D_
     (repeat' split) <;> simp
    omega
theorem Gg (nm:ByteArray) (s:AM) (size:Int) (C:List Int):(GC nm s size C).2.V.length≤s.rows.length∧(GC nm s size C).2.G.length≤s.rows.length∧(GC nm s size C).2.Rd.length≤s.rows.length:=by
 unfold GC
 split
 ·exact⟨by simp,by simp,by simp⟩
 ·split
  ·exact⟨by simp,by simp,by simp⟩
  ·have h:=lH (R:=s.rows) (e:=AC (A8 s.rows)) (val:=EI s size C) s.rows.length 0 ⟨[],[],List.replicate s.rows.length 0⟩
   simp only[List.length_nil,List.length_replicate,Nat.add_zero] at h
   exact h
def iR:List (Bool × Bool × List Operand):=[A7,A7,AI [.tmp 36],A7,A7,AI [.tmp 36,.tmp 39],AI [.tmp 36,.tmp 39],AI [.tmp 36,.tmp 39,.tmp 41],AI [.tmp 36,.tmp 39],AI [.tmp 36,.tmp 39],AP]
section
variable {n N:Nat} {h:AA}
theorem Rv {va wa:Value} {t:IQ} {la lb:Nat} (ha:JZ la h va t) (hb:JZ lb h wa t) (hV:t.V.length<90000000) (hGl:t.G.length<90000000) (hR:t.Rd.length<90000000) (hN:t.V.length+10<N) (hn:t.G.length+t.Rd.length+20<n) :
  ∃ h',AY Tryz.prog (AK n) N 21 [va,wa] h=some (.bool true,h')∧∀ i,i<h.next→h'.get i=h.get i:=by
 obtain⟨vv,gv,rv,rfl,a1,a2,a3⟩:=ha
 obtain⟨vw,gw,rw',rfl,b1,b2,b3⟩:=hb
 have hsn:=(EJ n).2
 refine DW (R:=fun h'=>∀ i,i<h.next→h'.get i=h.get i) Tryz.func21 rfl (by simp[Tryz.f21]) ?_
 have hr:Tryz.f21.results.toList=[.tmp 4]:=rfl
 have ca:=DV [vv,gv,rv]
 have cb:=DV [vw,gw,rw']
 have oa:[vv,gv,rv].all one=true:=by simp only[List.all_cons,List.all_nil,AN.one a1,AN.one a2,AN.one a3,Bool.and_self]
 have ob:[vw,gw,rw'].all one=true:=by simp only[List.all_cons,List.all_nil,AN.one b1,AN.one b2,AN.one b3,Bool.and_self]
 have g0:∀ (a b:BF),let A:=(h.push a).push b
   A.get h.next=a∧A.get (h.next+1)=b∧A.next=h.next+2∧∀ i,i<h.next→A.get i=h.get i:=fun a b=>
  ⟨NH,NC,rfl,fun i hi=>by rw[AU (by show i<h.next+1;omega),AU hi]⟩
 obtain⟨gA,gB,nQ,gO⟩:=g0 (.row [vv,gv,rv] 48 false false) (.row [vw,gw,rw'] 48 false false)
 simp only[eE,seval,↓eP,C2,CW,C6,ca,oa,cb,ob,S4]
 generalize (h.push (.row [vv,gv,rv] 48 false false)).push (.row [vw,gw,rw'] 48 false false)=Q at *
 have x0:AH 0 (Q.get h.next)=some vv:=by rw[gA];rfl
 have x1:AH 1 (Q.get h.next)=some gv:=by rw[gA];rfl
 have x2:AH 2 (Q.get h.next)=some rv:=by rw[gA];rfl
 have y0:AH 0 (Q.get (h.next+1))=some vw:=by rw[gB];rfl
 have y1:AH 1 (Q.get (h.next+1))=some gw:=by rw[gB];rfl
 have y2:AH 2 (Q.get (h.next+1))=some rw':=by rw[gB];rfl
 have a1':=a1.mono (h':=Q) (by omega) fun i _ hi=>gO i hi
 have b1':=b1.mono (h':=Q) (by omega) fun i _ hi=>gO i hi
 have k1:=VZ (n:=n) (h:=Q) (AW.mono a2 (by omega) fun i _ hi=>gO i hi) (AW.mono b2 (by omega) fun i _ hi=>gO i hi) (by omega) (by omega)
 have k2:=VZ (n:=n) (h:=Q) (AW.mono a3 (by omega) fun i _ hi=>gO i hi) (AW.mono b3 (by omega) fun i _ hi=>gO i hi) (by omega) (by omega)
 have lenA:=fun h'=>AN.len a1 Tryz.underlying46 (h':=h')
 have lenB:=fun h'=>AN.len b1 Tryz.underlying46 (h':=h')
 have c0:((t.V.length:Int) != (t.V.length:Int))=false:=by simp
 simp only[eE,seval,↓eP,Nat.zero_add,QG,UW,VT,QS,C3,x0,x1,x2,y0,y1,y2,lenA,lenB,c0,k1,k2]
 refine WK.loop (fun i s'=>s'.T.get 2=qP h.next 0∧s'.T.get 3=qP (h.next+1) 0∧s'.T.get 5=iv (i:Int)∧s'.h=Q∧i≤t.V.length) t.V.length (by omega) ?_ ?_
 ·exact⟨by simp only[eE,seval,↓eP,rP],by simp only[eE,seval,↓eP,rP],by simp only[eE,seval,↓eP,rP] <;> rfl,rfl,by omega⟩
 rintro i ⟨T,H⟩ hi ⟨t2,t3,t5,hh,hil⟩
 simp only at t2 t3 t5 hh
 subst hh
 by_cases hlt:i<t.V.length
 ·have c1:decide ((i:Int)<(t.V.length:Int))=true:=by simp;omega
  obtain⟨x,hx⟩:∃ x,t.V[i]?=some x:=⟨_,List.getElem?_eq_getElem hlt⟩
  obtain⟨ida,pa,ea,ha1,la'⟩:=AN.whole a1' Tryz.underlying46 TU hlt
  obtain⟨idb,pb,eb,hb1,lb'⟩:=AN.whole b1' Tryz.underlying46 TU hlt
  rw[tI hx] at la' lb'
  have w1:=DF i (by omega)
  simp only[eE,seval,↓eP,t2,t5,QG,QS,x0,lenA,c1]
  refine WK.flags (fs:=iR) (by kernel_rfl) ?_
  unfold iR
  iterate 11
   refine DI hsn ?_
   simp only[rG,seval,AD,AF,AE,CT,DC,CM,C4,DJ,t2,QG,QS,x0,t5,ea,l7,la',t3,y0,eb,lb',Vs]
  refine DH ?_
  simp only[eE,seval,↓eP,t2,t3,t5,w1]
  omega
 ·have c1:decide ((i:Int)<(t.V.length:Int))=false:=by simp;omega
  simp only[eE,seval,↓eP,hr,t2,t5,QG,QS,x0,lenA,c1]
  exact gO
theorem Av {va wa:Value} {t:IQ} {la lb:Nat} (ha:JZ la h va t) (hb:JZ lb h wa t) (hV:t.V.length<90000000) (hGl:t.G.length<90000000) (hR:t.Rd.length<90000000) (hn:t.V.length+t.G.length+t.Rd.length+40<n) :
  AK n 21 [va,wa] h=some (.bool true,h):=by
 obtain⟨n,rfl⟩:=B8 hn
 exact HB (BD ⟨rfl,rfl,rfl⟩) rfl (Rv (n:=n) (N:=n) ha hb hV hGl hR (by omega) (by omega))
end
theorem Vl {e a:Int}:∀ x y,CP Tryz.prog .eql 32 x y (CI e a) (CI e a)=some (.bool true):=fun x y=>by
 have:=Gb (x:=x) (y:=y) (a:=e) (b:=a) (c:=e) (d:=a)
 simpa using this
theorem vG {H:AA} {v:Value} {t:IQ} {lo:Nat} (ht:JZ lo H v t) (hf:H.floor≤H.next) (e x:Int) :
  ∃ H1 H2,BB Tryz.prog ((H.push (.row [Z0,Z0,Z0] 48 false false)).push (.row [iv 0,iv 0] 32 false false)) 48 (qP H.next 0) v=some H1 ∧
   BB Tryz.prog H1 32 (qP (H.next+1) 0) (CI e x)=some H2∧A_ 3 0 (H2.get H.next)=some v∧A_ 2 0 (H2.get (H.next+1))=some (CI e x)∧H2.next=H.next+2∧H2.floor=H.floor∧∀ i,i<H.next→H2.get i=H.get i:=by
 obtain⟨vv,gv,rv,rfl,h1,h2,h3⟩:=id ht
 have o1:([vv,gv,rv]:List Value).all one=true:=by simp only[List.all_cons,List.all_nil,AN.one h1,AN.one h2,AN.one h3,Bool.and_self]
 have g0:∀ (a b:BF),let A:=(H.push a).push b
   A.get H.next=a∧A.get (H.next+1)=b∧A.next=H.next+2∧A.floor=H.floor∧∀ i,i<H.next→A.get i=H.get i:=fun a b=>
  ⟨NH,NC,rfl,rfl,fun i hi=>by rw[AU (by show i<H.next+1;omega),AU hi]⟩
 obtain⟨ga,gb,n2,f2,o2⟩:=g0 (.row [Z0,Z0,Z0] 48 false false) (.row [iv 0,iv 0] 32 false false)
 generalize (H.push (.row [Z0,Z0,Z0] 48 false false)).push (.row [iv 0,iv 0] 32 false false)=A at *
 have s1:=JN (vs:=[vv,gv,rv]) S4 ga rfl rfl o1 (by omega)
 have g1:∀ j,j≠H.next→(A.put H.next (.row [vv,gv,rv] 48 false false)).get j=A.get j:=fun j hj=>AR (by omega) (Ne.symm hj)
 obtain⟨H2,s2,s3,s4,s5,s6⟩:=I8 (H:=A.put H.next (.row [vv,gv,rv] 48 false false)) (id:=H.next+1) (by rw[g1 _ (by omega)];exact gb) (by show H.next+1<A.next;omega) (by show A.floor≤H.next+1;omega) e x
 have e2:H2.get H.next=.row [vv,gv,rv] 48 false false:=by rw[s6 _ (by omega),BL rfl (by omega)]
 exact⟨_,H2,s1,s2,by rw[e2];rfl,s3,by rw[s4];exact n2,by rw[s5];exact f2,fun i hi=>by rw[s6 i (by omega),g1 i (by omega),o2 i hi]⟩
section
variable {n:Nat} {h:AA}
theorem Bw {nm:ByteArray} {s:AM} {pv cv:Value} {size:Int} {C:List Int} (hp:BP 0 h pv nm s) (hc:ER 0 h cv size C) (h64:∀ x∈s.rows,x.kids≤9223372036854775807) (hb:C_ s<2000000) (hC:C.length<2000000) (hfl:h.floor≤h.next) (hg:h.get 0=EA) (hn0:0<h.next) (hn:9000000<n) :
  ∃ h',AY Tryz.prog (S6 n) n 6 [pv,cv] h=some (.bool true,h')∧True:=by
 obtain⟨vr,vq,vv,vt,vu,vo,rfl,p1,p2,p3,p4,p5,p6⟩:=id hp
 obtain⟨vc,rfl,pc⟩:=id hc
 have hsn:=(eB n).2
 have htot:C_ s=s.rows.length+s.queues.length+s.vars.length+s.tags.length+s.rules.length+s.on.length:=rfl
 have hsm:FR s:=by unfold FR;omega
 refine DW (R:=fun _=>True) Tryz.func6 rfl (by simp[Tryz.f6]) ?_
 have hr:Tryz.f6.results.toList=[.tmp 4]:=rfl
 have ca:=DV [.string nm,vr,vq,vv,vt,vu,vo,iv s.miss]
 have oa:=HU (nm:=nm) p1 p2 p3 p4 p5 p6
 have cb:=DV [iv size,vc]
 have ob:[iv size,vc].all one=true:=by simp only[List.all_cons,List.all_nil,AN.one pc,IM,Bool.and_self]
 have zcC:=DV [iv 0,Z0]
 obtain⟨gA,gB,nA,fA,gO⟩:=MJ h (.row [.string nm,vr,vq,vv,vt,vu,vo,iv s.miss] 27 false false) (.row [iv size,vc] 39 false false)
 simp only[eE,seval,↓eP,C2,CW,C6,ca,oa,cb,ob,FM,KS]
 generalize (h.push (.row [.string nm,vr,vq,vv,vt,vu,vo,iv s.miss] 27 false false)).push (.row [iv size,vc] 39 false false)=A at *
 have lA:A_ 8 0 (A.get h.next)=some (.agg #[.string nm,vr,vq,vv,vt,vu,vo,iv s.miss]):=IW gA rfl
 have lC:A_ 2 0 (A.get (h.next+1))=some (.agg #[iv size,vc]):=by rw[gB];rfl
 have x1:AH 1 (A.get (h.next+1))=some vc:=by rw[gB];rfl
 have hhd:=Sy (n:=n) (h:=A) (by rw[gO 0 hn0];exact hg)
 have hpA:BP 0 A (.agg #[.string nm,vr,vq,vv,vt,vu,vo,iv s.miss]) nm s:=hp.mono (by omega) fun i _ hi=>gO i hi
 obtain⟨v1,H1,hk1,hL,n1,f1,o1⟩:=Wm (n:=n) hpA hsm (by omega) (by omega) (by omega)
 have hk1':=RB (n:=n) (by decide) hk1
 have hv1:=hL.v
 obtain⟨B,stB,gB1,nB,fB,oB⟩:=KB (t:=27) FM (H:=H1) (zs:=BY) (vs:=[.string nm,qS (A.next+3) s.rows.length (s.rows.length+9),qS (A.next+3+1) s.queues.length (s.queues.length+3),qS (A.next+3+2) s.vars.length (s.vars.length+3),qS (A.next+3+3) s.tags.length (s.tags.length+3),qS (A.next+3+4) s.rules.length (s.rules.length+5),qS (A.next+3+5) s.on.length (s.on.length+5),iv s.miss]) rfl rfl rfl (by omega)
 rw[← hv1] at stB
 have oBA:∀ i,i<A.next→B.get i=A.get i:=fun i hi=>by rw[oB i (by omega),o1 i hi]
 have lCB:A_ 2 0 (B.get (h.next+1))=some (.agg #[iv size,vc]):=by rw[oBA _ (by omega)];exact lC
 have hcB:ER 0 B (.agg #[iv size,vc]) size C:=hc.mono (by omega) fun i _ hi=>by rw[oBA i (by omega),gO i hi]
 obtain⟨v2,H2,hk2,hM,n2,f2,o2⟩:=Xi (n:=n) hcB (by omega) (by omega) (by omega)
 have hk2':=RB (n:=n) (by decide) hk2
 have hv2:=hM.v
 obtain⟨D,stD,gD1,nD,fD,oD⟩:=KB (t:=39) KS (H:=H2) (zs:=[iv 0,Z0]) (vs:=[iv size,qS (B.next+2) C.length (C.length+5)]) rfl rfl rfl (by omega)
 rw[← hv2] at stD
 have oDB:∀ i,i<B.next→D.get i=B.get i:=fun i hi=>by rw[oD i (by omega),o2 i hi]
 have lP:A_ 8 0 (D.get H1.next)=some v1:=by rw[oDB _ (by omega),hv1];exact IW gB1 rfl
 have lM:A_ 2 0 (D.get H2.next)=some v2:=by rw[hv2,gD1];rfl
 have hLD:ME D (A.next+3) v1 nm s:=hL.mono (by omega) fun i h1 h2=>by rw[oDB i (by omega),oB i (by omega)]
 have hMD:OE D (B.next+2) v2 size C:=hM.mono (by omega) (oD _ (by omega))
 obtain⟨a1,H5,hfit,⟨tv1,rfl,hT1⟩,f5,n5,o5⟩:=Ll (n:=n) hLD.pol hMD.caps hLD.lies hsm (by omega) (by omega) (by rw[oDB 0 (by omega),oBA 0 (by omega),gO 0 hn0];exact hg) (by omega) (by omega) (by omega)
 have hfit':=RB (n:=n) (by decide) hfit
 obtain⟨E0,E,s1,s2,s3,s4,nE,fE,oE⟩:=vG hT1 (by omega) (GC nm s size C).1.1 (GC nm s size C).1.2
 have oEA0:∀ i,i<A.next→E.get i=A.get i:=fun i hi=>by rw[oE i (by omega),o5 i (by omega),oDB i (by omega),oBA i hi]
 have lAE0:A_ 8 0 (E.get h.next)=some (.agg #[.string nm,vr,vq,vv,vt,vu,vo,iv s.miss]):=by rw[oEA0 _ (by omega)];exact lA
 have lCE0:A_ 2 0 (E.get (h.next+1))=some (.agg #[iv size,vc]):=by rw[oEA0 _ (by omega)];exact lC
 obtain⟨a2,H6,hcd,⟨tv2,rfl,hT2⟩,f6,n6,o6⟩:=yY (n:=n) (h:=E) (hp.mono (by omega) fun i _ hi=>by rw[oEA0 i (by omega),gO i hi]) (hc.mono (by omega) fun i _ hi=>by rw[oEA0 i (by omega),gO i hi]) h64 hsm (by omega) (by omega) (by omega) (by omega)
 have hcd':=RB (n:=n) (by decide) hcd
 obtain⟨F0,F,w1,w2,w3,w4,nF,fF,oF⟩:=vG hT2 (by omega) (GC nm s size C).1.1 (GC nm s size C).1.2
 have oFE:∀ i,i<E.next→F.get i=E.get i:=fun i hi=>by rw[oF i (by omega),o6 i hi]
 have oEA:∀ i,i<A.next→F.get i=A.get i:=fun i hi=>by rw[oFE i (by omega),oEA0 i hi]
 have hLE:ME F (A.next+3) v1 nm s:=hLD.mono (by omega) fun i h1 h2=>by rw[oFE i (by omega),oE i (by omega),o5 i (by omega)]
 have hME:OE F (B.next+2) v2 size C:=hMD.mono (by omega) (by rw[oFE _ (by omega),oE _ (by omega),o5 _ (by omega)])
 have lPE:A_ 8 0 (F.get H1.next)=some v1:=by rw[oFE _ (by omega),oE _ (by omega),o5 _ (by omega)];exact lP
 have lAE:A_ 8 0 (F.get h.next)=some (.agg #[.string nm,vr,vq,vv,vt,vu,vo,iv s.miss]):=by rw[oEA _ (by omega)];exact lA
 obtain⟨K1,hk3,n3,f3,o3⟩:=Tp (n:=n) hLE hpA (by omega) oEA (by omega) hsm (by omega) (by omega)
 have hk3':=RB (n:=n) (by decide) hk3
 have m1:AH 1 (K1.get H2.next)=some (qS (B.next+2) C.length (C.length+5)):=by rw[o3 _ (by omega) (.inr (by omega)),oFE _ (by omega),oE _ (by omega),o5 _ (by omega),gD1];rfl
 have m2:AH 1 (K1.get (h.next+1))=some vc:=by rw[o3 _ (by omega) (.inl (by omega)),oEA _ (by omega)];exact x1
 obtain⟨L,hLC⟩:=hME.l
 obtain⟨K2,hk4,n4,f4,o4⟩:=aZ (n:=n) (h:=K1) (o:=B.next+2) (L:=L) (v:=vc) (lo:=0) ⟨by rw[o3 _ (by omega) (.inr (by omega))];exact hLC.g,hLC.len,hLC.own,hLC.marks⟩ (by omega) (by omega) (AW.mono pc (by omega) fun i _ hi=>by rw[o3 i (by omega) (.inl (by omega)),oEA i (by omega),gO i hi]) (by omega) (by omega)
 have hk4':=RB (n:=n) (by decide) hk4
 have oKF:∀ i,D.next≤i→i<F.next→K2.get i=F.get i:=fun i h1 h2=>by rw[o4 i (by omega),o3 i (by omega) (.inr (by omega))]
 have lF:A_ 2 0 (K2.get (H5.next+1))=some (CI (GC nm s size C).1.1 (GC nm s size C).1.2):=by rw[oKF _ (by omega) (by omega),oFE _ (by omega)];exact s4
 have lF2:A_ 2 0 (K2.get (H6.next+1))=some (CI (GC nm s size C).1.1 (GC nm s size C).1.2):=by rw[oKF _ (by omega) (by omega)];exact w4
 have lT:A_ 3 0 (K2.get H5.next)=some tv1:=by rw[oKF _ (by omega) (by omega),oFE _ (by omega)];exact s3
 have lT2:A_ 3 0 (K2.get H6.next)=some tv2:=by rw[oKF _ (by omega) (by omega)];exact w3
 obtain⟨c1,c2,c3⟩:=Gg nm s size C
 have hsame:=Av (n:=n) (h:=K2) (hT1.mono (by omega) fun i h1 h2=>by rw[oKF i (by omega) (by omega),oFE i (by omega),oE i h2]) (hT2.mono (by omega) fun i h1 h2=>by rw[oKF i (by omega) (by omega),oF i h2]) (by omega) (by omega) (by omega) (by omega)
 have hsame':=RB (n:=n) (by decide) hsame
 have zcT:zT.cells.toList=[Z0,Z0,Z0]:=rfl
 simp only[eE,seval,↓eP,hr,Nat.zero_add,LY,C3,DT,GR,hhd,lA,hk1',N3,NS,O9,stB,lCB,hk2',j6,cP,zcC,stD,lP,lM,hfit',RX,RT,zcT,EN,EO,FZ,EQ,s1,s2,lAE0,lCE0,hcd',w1,w2,lPE,lAE,hk3',m1,m2,hk4',CR,lF,lF2,Vl,IX,lT,lT2,hsame']
end
end Go.Proofs.YtdejoodfeljmkaaGreatDoor
namespace Go.Proofs.YtdejoodfeljmkaaGreatDoor
open Go Go.Sx Go.ChangeShapes Go.WideShapes Go.ChangeAt Go.RowKit
set_option maxRecDepth 100000
set_option linter.unusedSimpArgs false
set_option linter.unusedVariables false
set_option maxHeartbeats 64000000
section
variable {α:Type} {cells:α→List Value} {w:Nat} {l:List α}
theorem yE (hcl:∀ x,(cells x).length=w):(l.flatMap cells).length=l.length*w:=by
 induction l with
 | nil=>simp
 | cons x l ih=>
  rw[List.flatMap_cons,List.length_append,ih,hcl,List.length_cons,Nat.succ_mul]
  omega
theorem tX (hcl:∀ x,(cells x).length=w):∀ {l:List α} {i j:Nat} {x:α},l[i]?=some x→j<w→(l.flatMap cells)[i*w+j]?=(cells x)[j]?
 | [],i,j,x,h,_=>by simp at h
 | y :: l,0,j,x,h,hj=>by
  cases h
  rw[List.flatMap_cons,Nat.zero_mul,Nat.zero_add,List.getElem?_append_left (by rw[hcl];exact hj)]
 | y :: l,i+1,j,x,h,hj=>by
  have h':l[i]?=some x:=h
  rw[List.flatMap_cons,List.getElem?_append_right (by rw[hcl,Nat.succ_mul];omega),hcl,← tX hcl h' hj]
  congr 1
  rw[Nat.succ_mul]
  omega
end
def KQ (W:World) (v:Value) (n w:Nat) (cs:List Value):Prop:=cs.length=n*w∧((n=0∧v=Z0) ∨
 ∃ b off cap CS ty fr,v=.slice (some ⟨b,off,none⟩) n cap∧n≤cap∧cap<AO∧W.heap[b]?=some (.cells CS ty fr)∧∀ k,k<n*w→CS[off+k]?=cs[k]?)
section
variable {H:Type} {enc:TypeId × Value→H} {W:World} {base b0:Nat} {sp:Nat→Bool} {hd:Bool}
theorem O_ {α:Type} {cells:α→List Value} {Q:α→Prop} {w:Nat} {t e:TypeId} (ht:Tryz.prog.underlying t=some (.slice e)) (hw:Tryz.prog.cellsOf e=w)
  (hopen:∀ n cs y,DataW.trod enc Tryz.prog W base sp hd n e cs=some y→∃ x,cs=cells x∧Q x) (hcl:∀ x,(cells x).length=w) (hw0:0<w)
  {v:Value} {n:Nat} {y:DataW H × List MemPlace} (hval:Cell.okWide Tryz.prog W .any b0 t v) (h:DataW.trod enc Tryz.prog W base sp hd n t [v]=some y):∃ l:List α,(∀ x∈l,Q x)∧KQ W v l.length w (l.flatMap cells):=by
 rcases DataW.trod_slice ht h with⟨h1,h2⟩ | ⟨a',len,cap,elems,rest,n',_,h1,_,hb,hl,hm,hlen,hel,_⟩
 ·cases h1
  exact⟨[],fun x hx=>(by cases hx),by simp,.inl ⟨rfl,rfl⟩⟩
 ·cases h1
  simp only[Cell.okWide,ht,Cell.ok] at hval
  obtain⟨_,_,_,hsp,row,cells',hsh,_⟩:=hval
  obtain⟨b,off,spot⟩:=a'
  simp only at hsp
  subst hsp
  have hblk:∃ CS ty fr,W.heap[b]?=some (.cells CS ty fr):=by
   simp only[World.shape?] at hsh
   split at hsh
   ·rename_i CS ty fr hh;exact⟨_,_,_,hh⟩
   ·cases hsh
  obtain⟨CS,ty,fr,hblk⟩:=hblk
  have each:∀ i,i<len→∃ x:α,Q x∧∀ j,j<w→CS[off+(i*w+j)]?=(cells x)[j]?:=fun i hi=>by
   have:=hel i hi
   obtain⟨y,hy⟩:∃ y,elems[i]?=some y:=⟨_,List.getElem?_eq_getElem (by omega)⟩
   rw[hy,bV,hw,Option.bind_eq_some_iff] at this
   obtain⟨cs,hcs,ht⟩:=this
   obtain⟨x,rfl,hx⟩:=hopen _ _ _ ht
   obtain⟨_,hc⟩:=k8 hcs
   refine⟨x,hx,fun j hj=>?_⟩
   rw[← hc j hj,← Nat.add_assoc]
   simp only[World.cell?,hblk,Option.isSome_none,Bool.false_eq_true,if_false]
  obtain⟨l,hll,hl1⟩:∃ l:List α,l.length=len∧∀ i x,l[i]?=some x→Q x∧∀ j,j<w→CS[off+(i*w+j)]?=(cells x)[j]?:=by
   have : ∀ m,m≤len→∃ l:List α,l.length=m∧∀ i x,l[i]?=some x→Q x∧∀ j,j<w→CS[off+(i*w+j)]?=(cells x)[j]?:=by
    intro m
    induction m with
    | zero=>exact fun _=>⟨[],rfl,fun i x h=>by simp at h⟩
    | succ m ih=>
     intro hm
     obtain⟨l,h1,h2⟩:=ih (by omega)
     obtain⟨x,hx⟩:=each m (by omega)
     refine⟨l++[x],by simp[h1],fun i y hy=>?_⟩
     rcases Nat.lt_or_ge i l.length with h3 | h3
     ·rw[List.getElem?_append_left h3] at hy
      exact h2 i y hy
     ·rw[List.getElem?_append_right h3] at hy
      have:i-l.length=0:=by
       rcases Nat.eq_zero_or_pos (i-l.length) with h4 | h4
       ·exact h4
       ·rw[List.getElem?_eq_none (by simp;omega)] at hy
        cases hy
      rw[this] at hy
      cases hy
      have:i=m:=by omega
      subst this
      exact hx
   exact this len (Nat.le_refl _)
  unfold maxLen at hm
  refine⟨l,fun x hx=>?_,yE hcl,.inr ⟨b,off,cap,CS,ty,fr,by rw[hll],by omega,by unfold AO;omega,hblk,fun k hk=>?_⟩⟩
  ·obtain⟨i,hi⟩:=List.getElem?_of_mem hx
   exact(hl1 i x hi).1
  ·have hdm:=Nat.div_add_mod k w
   rw[Nat.mul_comm] at hdm
   have hj:=Nat.mod_lt k hw0
   have hi:k/w<l.length:=(Nat.div_lt_iff_lt_mul hw0).2 hk
   have hx:=List.getElem?_eq_getElem hi
   rw[← hdm,(hl1 _ _ hx).2 _ hj,tX hcl hx hj]
end
structure OR where
 v:Value
 n:Nat
 w:Nat
 cs:List Value
 ty:TypeId
noncomputable def KL:AA→List OR→AA
 | h,[]=>h
 | h,p :: ps=>KL (h.push (.row p.cs p.ty false true)) ps
theorem cW:∀ (ps:List OR) (h:AA),(KL h ps).next=h.next+ps.length∧(KL h ps).floor=h.floor∧∀ i,i<h.next→(KL h ps).get i=h.get i
 | [],h=>⟨rfl,rfl,fun _ _=>rfl⟩
 | p :: ps,h=>by
  obtain⟨h1,h2,h3⟩:=cW ps (h.push (.row p.cs p.ty false true))
  rw[EQ] at h1 h3
  refine⟨by show (KL _ ps).next=_;rw[h1,List.length_cons];omega,h2,fun i hi=>?_⟩
  show (KL _ ps).get i=_
  rw[h3 i (by omega),AU hi]
theorem pJ:∀ {ps:List OR} {h:AA} {i:Nat} {p:OR},ps[i]?=some p→(KL h ps).get (h.next+i)=.row p.cs p.ty false true
 | [],h,i,p,hp=>by simp at hp
 | q :: ps,h,0,p,hp=>by
  cases hp
  show (KL _ ps).get h.next=_
  rw[(cW ps _).2.2 _ (by rw[EQ];omega),BX]
 | q :: ps,h,i+1,p,hp=>by
  have:=pJ (ps:=ps) (h:=h.push (.row q.cs q.ty false true)) (i:=i) (p:=p) hp
  rw[EQ] at this
  show (KL _ ps).get (h.next+(i+1))=_
  rw[← this]
  congr 1
  omega
def OG (p:OR):Go.Sx.Loc:=match p.v with
 | .slice (some a) _ _=>⟨a.block,a.off,0,0⟩
 | _=>⟨0,0,0,0⟩
def SU (ps:List OR):BK:=fun i=>if i=0 then some ⟨0,0,0,0⟩ else (ps[i-1]?).map OG
def T_ (i:Nat) (p:OR):Value:=match p.v with
 | .slice (some _) n c=>qS i n c
 | v=>v
theorem dM {ps:List OR} {i:Nat} {p:OR} (h:ps[i]?=some p):SU ps (i+1)=some (OG p):=by
 unfold SU
 rw[if_neg (by omega),Nat.add_sub_cancel,h]
 rfl
theorem fO {W : World} (h : laidMetH Tryz.prog [("winnow/lex.words", Rows.laid_winnow_lex_words)] W) {ps : List OR} (hps : ∀ p ∈ ps, KQ W p.v p.n p.w p.cs ∧ ∀ v ∈ p.cs, BS v = true) :
  CH Tryz.prog (SU ps) (KL K_ ps) W∧(∀ i,¬ wr ((KL K_ ps).get i))∧(KL K_ ps).next=ps.length+1∧(KL K_ ps).floor=0∧(KL K_ ps).get 0=EA ∧
   ∀ (i:Nat) p,ps[i]?=some p→AJ (SU ps) (T_ (i+1) p) p.v∧AN 0 (KL K_ ps) (T_ (i+1) p) p.n p.w p.cs:=by
 obtain⟨hn,hf,ho⟩:=cW ps K_
 have h01:K_.next=1:=rfl
 rw[h01] at hn ho
 obtain⟨CS0,ty0,fr0,hb0,hcs0⟩:=bP (zs:=IL) (rest:=[]) cV fJ Tryz.underlying145 Tryz.underlying9 bE cF h
 have hget:∀ (i:Nat) p,ps[i]?=some p→(KL K_ ps).get (i+1)=.row p.cs p.ty false true:=fun i p hp=>by
  have:=pJ (h:=K_) hp
  rw[h01,Nat.add_comm] at this
  exact this
 have hro:=Y3 (P:=Tryz.prog) (W:=W) (ρ:=SU ps) (h:=KL K_ ps) rfl (fun i hi=>by
   unfold SU
   rw[if_neg (by omega),List.getElem?_eq_none (by omega)]
   rfl) (fun g hg=>by
   rw[XN] at hg
   obtain rfl:g=0:=by omega
   exact⟨_,rfl,rfl,rfl⟩) (fun i hi=>by
   rw[hn] at hi
   cases i with
   | zero=>
    refine⟨M6,9,false,⟨0,0,0,0⟩,CS0,ty0,fr0,(ho 0 (by omega)).trans rfl,rfl,hb0,fun k v hv=>⟨v,?_,?_⟩⟩
    ·have:CS0.toList[k]?=some v:=by rw[hcs0];exact hv
     simpa using this
    ·have hm:v∈M6:=List.mem_of_getElem? hv
     obtain⟨z,_,rfl⟩:=List.mem_map.1 hm
     exact .flat rfl
   | succ i=>
    obtain⟨p,hp⟩:∃ p,ps[i]?=some p:=⟨_,List.getElem?_eq_getElem (by omega)⟩
    obtain⟨⟨hl,hor⟩,hfl⟩:=hps p (List.mem_of_getElem? hp)
    rcases hor with⟨h0,hv⟩ | ⟨b,off,cap,CS,ty,fr,hv,h1,h2,h3,h4⟩
    ·refine⟨p.cs,p.ty,false,OG p,CS0,ty0,fr0,hget i p hp,dM hp,by unfold OG;rw[hv];exact hb0,fun k v hk=>?_⟩
     have:=(List.getElem?_eq_some_iff.1 hk).1
     rw[hl,h0,Nat.zero_mul] at this
     omega
    ·refine⟨p.cs,p.ty,false,OG p,CS,ty,fr,hget i p hp,dM hp,by unfold OG;rw[hv];exact h3,fun k v hk=>⟨v,?_,.flat (hfl v (List.mem_of_getElem? hk))⟩⟩
     have hkl:=(List.getElem?_eq_some_iff.1 hk).1
     have e:(OG p).d=off:=by unfold OG;rw[hv]
     rw[e,h4 k (by omega)]
     exact hk)
 refine⟨hro.1,hro.2,by omega,hf,(ho 0 (by omega)).trans rfl,fun i p hp=>?_⟩
 obtain⟨⟨hl,hor⟩,hfl⟩:=hps p (List.mem_of_getElem? hp)
 have hil:=(List.getElem?_eq_some_iff.1 hp).1
 rcases hor with⟨h0,hv⟩ | ⟨b,off,cap,CS,ty,fr,hv,h1,h2,h3,h4⟩
 ·have e:T_ (i+1) p=Z0:=by unfold T_;rw[hv]
  have ecs:p.cs=[]:=List.length_eq_zero_iff.1 (by rw[hl,h0,Nat.zero_mul])
  rw[e,hv,ecs,h0]
  exact⟨.flat rfl,AN.nil _ _ _⟩
 ·have e:T_ (i+1) p=qS (i+1) p.n cap:=by unfold T_;rw[hv]
  have eL:OG p=⟨b,off,0,0⟩:=by unfold OG;rw[hv]
  rw[e]
  refine⟨?_,AN.rowR (ex:=[]) (by rw[List.append_nil];exact hget i p hp) ⟨Nat.zero_le _,by omega⟩ hl fun h=>absurd h (Nat.lt_irrefl 0)⟩
  rw[hv]
  exact AJ.slice (L:=⟨b,off,0,0⟩) (by rw[dM hp,eL]) h2
theorem Wb:Tryz.prog.cellsOf 27=8:=by kernel_rfl
theorem wQ:Tryz.prog.cellsOf 75=2:=by kernel_rfl
theorem yL:Tryz.prog.cellsOf 4=1:=by kernel_rfl
theorem MR:Tryz.prog.cellsOf 22=1∧Tryz.prog.cellsOf 23=1∧Tryz.prog.cellsOf 24=1∧Tryz.prog.cellsOf 25=1:=⟨by kernel_rfl,by kernel_rfl,by kernel_rfl,by kernel_rfl⟩
theorem zB:Tryz.prog.cellTypes Tryz.prog.depth 27=some [9,22,23,24,24,25,25,3]:=by kernel_rfl
structure YU (W:World) (v:Value) (nm:ByteArray) (s:AM):Prop where
 ok:∃ vr vq vv vt vu vo,v=.agg #[.string nm,vr,vq,vv,vt,vu,vo,iv s.miss]∧KQ W vr s.rows.length 5 (s.rows.flatMap AV)∧KQ W vq s.queues.length 2 (DE s.queues)∧KQ W vv s.vars.length 1 (CJ s.vars)∧KQ W vt s.tags.length 1 (CJ s.tags)∧KQ W vu s.rules.length 1 (ints s.rules)∧KQ W vo s.on.length 1 (ints s.on)
 rows:∀ x∈s.rows,R4 x
 miss:-9223372036854775808≤s.miss∧s.miss≤9223372036854775807
 rules:∀ x∈s.rules,-9223372036854775808≤x∧x≤9223372036854775807
 on:∀ x∈s.on,-9223372036854775808≤x∧x≤9223372036854775807
theorem Ox (l:List ByteArray):l.flatMap (fun x=>[Value.string x])=CJ l:=by
 induction l with
 | nil=>rfl
 | cons x l ih=>rw[List.flatMap_cons,ih];rfl
theorem iC (l:List Int):l.flatMap (fun x=>[iv x])=ints l:=by
 induction l with
 | nil=>rfl
 | cons x l ih=>rw[List.flatMap_cons,ih];rfl
section
variable {H:Type} {enc:TypeId × Value→H} {W:World} {base b0:Nat} {sp:Nat→Bool} {hd:Bool}
theorem Je {n:Nat} {cs:List Value} {y:DataW H × List MemPlace} (h:DataW.trod enc Tryz.prog W base sp hd n 75 cs=some y):∃ x:ByteArray × Bool,cs=[.string x.1,.bool x.2]∧True:=by
 obtain⟨xs,m,_,_,hl,hxl,hf⟩:=DataW.trod_struct Tryz.underlying75 h
 rw[wQ] at hl
 obtain⟨c0,c1,rfl⟩:∃ c0 c1,cs=[c0,c1]:=by
  match cs,hl with
  | [a,b],_=>exact⟨a,b,rfl⟩
 have hxl:xs.length=2:=hxl
 have g:∀ i,i<2→∃ y,xs[i]?=some y:=fun i hi=>⟨_,List.getElem?_eq_getElem (by omega)⟩
 obtain⟨y0,e0⟩:=g 0 (by omega)
 obtain⟨y1,e1⟩:=g 1 (by omega)
 have f0:DataW.trod enc Tryz.prog W base sp hd m 9 (([c0,c1].drop 0).take (Tryz.prog.cellsOf 9))=xs[0]?:=hf 0 _ rfl
 rw[V8,e0] at f0
 have f1:DataW.trod enc Tryz.prog W base sp hd m 4 (([c0,c1].drop 1).take (Tryz.prog.cellsOf 4))=xs[1]?:=hf 1 _ rfl
 rw[yL,e1] at f1
 obtain⟨a,ha,_⟩:=DataW.trod_string Tryz.underlying9 f0
 obtain⟨b,hb,_⟩:=DataW.trod_bool Tryz.underlying4 f1
 cases ha
 cases hb
 exact⟨(a,b),rfl,trivial⟩
theorem gY {n:Nat} {cs:List Value} {y:DataW H × List MemPlace} (h:DataW.trod enc Tryz.prog W base sp hd n 9 cs=some y):∃ x:ByteArray,cs=[.string x]∧True:=by
 obtain⟨a,ha,_⟩:=DataW.trod_string Tryz.underlying9 h
 exact⟨a,ha,trivial⟩
theorem SN {n:Nat} {cs:List Value} {y:DataW H × List MemPlace} (h:DataW.trod enc Tryz.prog W base sp hd n 3 cs=some y):∃ x:Int,cs=[iv x]∧(-9223372036854775808≤x∧x≤9223372036854775807):=by
 obtain⟨a,ha,_,wa⟩:=DataW.trod_int Tryz.underlying3 h
 exact⟨a,ha,bounds_i64 wa⟩
theorem Ks {v:Value} {d:DataW H} {p:List MemPlace} (hval:Value.okWide Tryz.prog W .any b0 27 v) (h:DataW.Trod enc Tryz.prog W base sp hd 27 v d p):∃ nm s,YU W v nm s:=by
 simp only[Value.okWide,Tryz.underlying27] at hval
 obtain⟨CS,rfl,hsz,ts,hts,_,hcell⟩:=hval
 rw[zB] at hts
 cases hts
 obtain⟨fuel,hf⟩:=h
 have hcs:(Value.agg CS).cells.toList=CS.toList:=rfl
 rw[hcs] at hf
 obtain⟨xs,m,_,_,hl,hxl,hf⟩:=DataW.trod_struct Tryz.underlying27 hf
 rw[Wb] at hl
 obtain⟨c0,c1,c2,c3,c4,c5,c6,c7,hcs⟩:∃ c0 c1 c2 c3 c4 c5 c6 c7,CS.toList=[c0,c1,c2,c3,c4,c5,c6,c7]:=by
  match CS.toList,hl with
  | [a,b,c,d,e,f,g,i],_=>exact⟨a,b,c,d,e,f,g,i,rfl⟩
 obtain rfl:CS=#[c0,c1,c2,c3,c4,c5,c6,c7]:=by cases CS;simp_all
 have hxl:xs.length=8:=hxl
 have g:∀ i,i<8→∃ y,xs[i]?=some y:=fun i hi=>⟨_,List.getElem?_eq_getElem (by omega)⟩
 obtain⟨y0,e0⟩:=g 0 (by omega)
 obtain⟨y1,e1⟩:=g 1 (by omega)
 obtain⟨y2,e2⟩:=g 2 (by omega)
 obtain⟨y3,e3⟩:=g 3 (by omega)
 obtain⟨y4,e4⟩:=g 4 (by omega)
 obtain⟨y5,e5⟩:=g 5 (by omega)
 obtain⟨y6,e6⟩:=g 6 (by omega)
 obtain⟨y7,e7⟩:=g 7 (by omega)
 have f0:DataW.trod enc Tryz.prog W base sp hd m 9 (([c0,c1,c2,c3,c4,c5,c6,c7].drop 0).take (Tryz.prog.cellsOf 9))=xs[0]?:=hf 0 _ rfl
 rw[V8,e0] at f0
 have f1:DataW.trod enc Tryz.prog W base sp hd m 22 (([c0,c1,c2,c3,c4,c5,c6,c7].drop 1).take (Tryz.prog.cellsOf 22))=xs[1]?:=hf 1 _ rfl
 rw[MR.1,e1] at f1
 have f2:DataW.trod enc Tryz.prog W base sp hd m 23 (([c0,c1,c2,c3,c4,c5,c6,c7].drop 2).take (Tryz.prog.cellsOf 23))=xs[2]?:=hf 2 _ rfl
 rw[MR.2.1,e2] at f2
 have f3:DataW.trod enc Tryz.prog W base sp hd m 24 (([c0,c1,c2,c3,c4,c5,c6,c7].drop 3).take (Tryz.prog.cellsOf 24))=xs[3]?:=hf 3 _ rfl
 rw[MR.2.2.1,e3] at f3
 have f4:DataW.trod enc Tryz.prog W base sp hd m 24 (([c0,c1,c2,c3,c4,c5,c6,c7].drop 4).take (Tryz.prog.cellsOf 24))=xs[4]?:=hf 4 _ rfl
 rw[MR.2.2.1,e4] at f4
 have f5:DataW.trod enc Tryz.prog W base sp hd m 25 (([c0,c1,c2,c3,c4,c5,c6,c7].drop 5).take (Tryz.prog.cellsOf 25))=xs[5]?:=hf 5 _ rfl
 rw[MR.2.2.2,e5] at f5
 have f6:DataW.trod enc Tryz.prog W base sp hd m 25 (([c0,c1,c2,c3,c4,c5,c6,c7].drop 6).take (Tryz.prog.cellsOf 25))=xs[6]?:=hf 6 _ rfl
 rw[MR.2.2.2,e6] at f6
 have f7:DataW.trod enc Tryz.prog W base sp hd m 3 (([c0,c1,c2,c3,c4,c5,c6,c7].drop 7).take (Tryz.prog.cellsOf 3))=xs[7]?:=hf 7 _ rfl
 rw[N8,e7] at f7
 have hc:∀ i v u,(#[c0,c1,c2,c3,c4,c5,c6,c7]:Array Value)[i]?=some v→([9,22,23,24,24,25,25,3]:List Nat)[i%8]?=some u→Cell.okWide Tryz.prog W .any b0 u v:=fun i v u hi hu=>by
  obtain⟨u',h1,h2⟩:=hcell i v hi
  have:u'=u:=Option.some.inj (h1.symm.trans hu)
  subst this
  exact h2
 obtain⟨nm,hnm,_⟩:=gY f0
 obtain⟨lr,ir,sr⟩:=O_ Tryz.underlying22 XA (fun n cs y h=>iA h) (fun _=>rfl) (by decide) (hc 1 _ _ rfl rfl) f1
 obtain⟨lq,_,sq⟩:=O_ (cells:=fun x:ByteArray × Bool=>[.string x.1,.bool x.2]) Tryz.underlying23 wQ (fun n cs y h=>Je h) (fun _=>rfl) (by decide) (hc 2 _ _ rfl rfl) f2
 obtain⟨lv,_,sv⟩:=O_ (cells:=fun x:ByteArray=>[.string x]) Tryz.underlying24 V8 (fun n cs y h=>gY h) (fun _=>rfl) (by decide) (hc 3 _ _ rfl rfl) f3
 obtain⟨lt,_,st⟩:=O_ (cells:=fun x:ByteArray=>[.string x]) Tryz.underlying24 V8 (fun n cs y h=>gY h) (fun _=>rfl) (by decide) (hc 4 _ _ rfl rfl) f4
 obtain⟨lu,iu,su⟩:=O_ (cells:=fun x:Int=>[iv x]) Tryz.underlying25 N8 (fun n cs y h=>SN h) (fun _=>rfl) (by decide) (hc 5 _ _ rfl rfl) f5
 obtain⟨lo,io,so⟩:=O_ (cells:=fun x:Int=>[iv x]) Tryz.underlying25 N8 (fun n cs y h=>SN h) (fun _=>rfl) (by decide) (hc 6 _ _ rfl rfl) f6
 obtain⟨ms,hms,bms⟩:=SN f7
 obtain rfl:c0=.string nm:=by simpa using hnm
 obtain rfl:c7=iv ms:=by simpa using hms
 rw[Ox] at sv st
 rw[iC] at su so
 exact⟨nm,⟨lr,lq,lv,lt,lu,lo,ms,[]⟩,⟨c1,c2,c3,c4,c5,c6,rfl,sr,sq,sv,st,su,so⟩,ir,bms,iu,io⟩
end
section
variable {H:Type} {enc:TypeId × Value→H} {W:World} {base b0:Nat} {sp:Nat→Bool} {hd:Bool} {v:Value} {d:DataW H} {p:List MemPlace}
end
theorem Lx {H:Type} (d:DataW H):1≤Rows.uptoBulk d:=by
 cases d with
 | lit l=>cases l <;> simp[Rows.uptoBulk]
 | nil=>simp[Rows.uptoBulk]
 | ptr d=>simp[Rows.uptoBulk]
 | slice elems spare=>simp[Rows.uptoBulk]
 | agg parts=>simp[Rows.uptoBulk]
 | iface t d=>simp[Rows.uptoBulk]
 | map entries=>simp[Rows.uptoBulk]
 | held h=>simp[Rows.uptoBulk]
theorem Fd {H:Type} (l:List (DataW H)):l.length≤Rows.uptoBulkAll l:=by
 induction l with
 | nil=>simp[Rows.uptoBulkAll]
 | cons x r ih=>have:=Lx x;simp only[Rows.uptoBulkAll,List.length_cons];omega
theorem KQ.sl {W:World} {v:Value} {n w:Nat} {cs:List Value} (h:KQ W v n w cs):∃ a c,v=.slice a n c:=by
 obtain⟨_,⟨rfl,rfl⟩ | ⟨b,off,cap,CS,ty,fr,rfl,_⟩⟩:=h
 ·exact⟨_,_,rfl⟩
 ·exact⟨_,_,rfl⟩
theorem Ca:Tryz.prog.cellsOf 39=2:=by kernel_rfl
theorem Fu:Tryz.prog.cellTypes Tryz.prog.depth 39=some [3,25]:=by kernel_rfl
def lO (W:World) (v:Value) (size:Int) (C:List Int):Prop:=∃ vc,v=.agg #[iv size,vc]∧KQ W vc C.length 1 (ints C)∧(-9223372036854775808≤size∧size≤9223372036854775807)∧∀ x∈C,-9223372036854775808≤x∧x≤9223372036854775807
section
variable {H:Type} {enc:TypeId × Value→H} {W:World} {base b0:Nat} {sp:Nat→Bool} {hd:Bool}
theorem Q1 {t e:TypeId} (ht:Tryz.prog.underlying t=some (.slice e)) {n m:Nat} {v:Value} {cs:List Value} {w:Nat} (hv:KQ W v m w cs) {y:DataW H × List MemPlace} (h:DataW.trod enc Tryz.prog W base sp hd n t [v]=some y):m≤Rows.uptoBulk y.1:=by
 obtain⟨a,c,rfl⟩:=hv.sl
 rcases DataW.trod_slice ht h with⟨h1,h2⟩ | ⟨a',len,cap,elems,rest,n',_,h1,h2,_,_,_,hlen,_⟩
 ·cases h1
  omega
 ·cases h1
  subst h2
  have h3:=Fd (elems.map (·.1))
  rw[List.length_map] at h3
  simp only[Rows.uptoBulk]
  omega
theorem Hx {v:Value} {nm:ByteArray} {s:AM} (hp:YU W v nm s) {d:DataW H} {p:List MemPlace} (h:DataW.Trod enc Tryz.prog W base sp hd 27 v d p):C_ s≤Rows.uptoBulk d:=by
 obtain⟨c1,c2,c3,c4,c5,c6,rfl,s1,s2,s3,s4,s5,s6⟩:=hp.ok
 obtain⟨fuel,hf⟩:=h
 have hcs:=DV [.string nm,c1,c2,c3,c4,c5,c6,iv s.miss]
 rw[hcs] at hf
 obtain⟨xs,m,_,hx,hl,hxl,hf⟩:=DataW.trod_struct Tryz.underlying27 hf
 have hxl:xs.length=8:=hxl
 obtain⟨y0,y1,y2,y3,y4,y5,y6,y7,rfl⟩:∃ y0 y1 y2 y3 y4 y5 y6 y7,xs=[y0,y1,y2,y3,y4,y5,y6,y7]:=by
  match xs,hxl with
  | [a,b,c,d,e,f,g,i],_=>exact⟨a,b,c,d,e,f,g,i,rfl⟩
 have f1:DataW.trod enc Tryz.prog W base sp hd m 22 (([.string nm,c1,c2,c3,c4,c5,c6,iv s.miss].drop 1).take (Tryz.prog.cellsOf 22))=some y1:=hf 1 _ rfl
 rw[MR.1] at f1
 have f2:DataW.trod enc Tryz.prog W base sp hd m 23 (([.string nm,c1,c2,c3,c4,c5,c6,iv s.miss].drop 2).take (Tryz.prog.cellsOf 23))=some y2:=hf 2 _ rfl
 rw[MR.2.1] at f2
 have f3:DataW.trod enc Tryz.prog W base sp hd m 24 (([.string nm,c1,c2,c3,c4,c5,c6,iv s.miss].drop 3).take (Tryz.prog.cellsOf 24))=some y3:=hf 3 _ rfl
 rw[MR.2.2.1] at f3
 have f4:DataW.trod enc Tryz.prog W base sp hd m 24 (([.string nm,c1,c2,c3,c4,c5,c6,iv s.miss].drop 4).take (Tryz.prog.cellsOf 24))=some y4:=hf 4 _ rfl
 rw[MR.2.2.1] at f4
 have f5:DataW.trod enc Tryz.prog W base sp hd m 25 (([.string nm,c1,c2,c3,c4,c5,c6,iv s.miss].drop 5).take (Tryz.prog.cellsOf 25))=some y5:=hf 5 _ rfl
 rw[MR.2.2.2] at f5
 have f6:DataW.trod enc Tryz.prog W base sp hd m 25 (([.string nm,c1,c2,c3,c4,c5,c6,iv s.miss].drop 6).take (Tryz.prog.cellsOf 25))=some y6:=hf 6 _ rfl
 rw[MR.2.2.2] at f6
 have b1:=Q1 Tryz.underlying22 s1 f1
 have b2:=Q1 Tryz.underlying23 s2 f2
 have b3:=Q1 Tryz.underlying24 s3 f3
 have b4:=Q1 Tryz.underlying24 s4 f4
 have b5:=Q1 Tryz.underlying25 s5 f5
 have b6:=Q1 Tryz.underlying25 s6 f6
 have e:d=.agg ([y0,y1,y2,y3,y4,y5,y6,y7].map (·.1)):=congrArg (·.1) hx
 rw[e]
 simp only[Rows.uptoBulk,Rows.uptoBulkAll,List.map_cons,List.map_nil,C_]
 omega
theorem Vd {v:Value} {d:DataW H} {p:List MemPlace} (hval:Value.okWide Tryz.prog W .any b0 39 v) (h:DataW.Trod enc Tryz.prog W base sp hd 39 v d p):∃ size C,lO W v size C∧C.length≤Rows.uptoBulk d:=by
 simp only[Value.okWide,Tryz.underlying39] at hval
 obtain⟨CS,rfl,hsz,ts,hts,_,hcell⟩:=hval
 rw[Fu] at hts
 cases hts
 obtain⟨fuel,hf⟩:=h
 have hcs:(Value.agg CS).cells.toList=CS.toList:=rfl
 rw[hcs] at hf
 obtain⟨xs,m,_,hx,hl,hxl,hf⟩:=DataW.trod_struct Tryz.underlying39 hf
 rw[Ca] at hl
 obtain⟨c0,c1,hcs⟩:∃ c0 c1,CS.toList=[c0,c1]:=by
  match CS.toList,hl with
  | [a,b],_=>exact⟨a,b,rfl⟩
 obtain rfl:CS=#[c0,c1]:=by cases CS;simp_all
 have hxl:xs.length=2:=hxl
 obtain⟨y0,y1,rfl⟩:∃ y0 y1,xs=[y0,y1]:=by
  match xs,hxl with
  | [a,b],_=>exact⟨a,b,rfl⟩
 have f0:DataW.trod enc Tryz.prog W base sp hd m 3 (([c0,c1].drop 0).take (Tryz.prog.cellsOf 3))=some y0:=hf 0 _ rfl
 rw[N8] at f0
 have f1:DataW.trod enc Tryz.prog W base sp hd m 25 (([c0,c1].drop 1).take (Tryz.prog.cellsOf 25))=some y1:=hf 1 _ rfl
 rw[MR.2.2.2] at f1
 have hc:Cell.okWide Tryz.prog W .any b0 25 c1:=by
  obtain⟨u',h1,h2⟩:=hcell 1 c1 rfl
  have:u'=25:=Option.some.inj (h1.symm.trans rfl)
  subst this
  exact h2
 obtain⟨a,ha,wa⟩:=SN f0
 obtain rfl:c0=iv a:=by simpa using ha
 obtain⟨l,hQ,sl⟩:=O_ (cells:=fun x:Int=>[iv x]) Tryz.underlying25 N8 (fun n cs y h=>SN h) (fun _=>rfl) (by decide) hc f1
 rw[iC] at sl
 refine⟨a,l,⟨c1,rfl,sl,wa,hQ⟩,?_⟩
 have b1:=Q1 Tryz.underlying25 sl f1
 have e:d=.agg ([y0,y1].map (·.1)):=congrArg (·.1) hx
 rw[e]
 simp only[Rows.uptoBulk,Rows.uptoBulkAll,List.map_cons,List.map_nil]
 omega
end
theorem Io {W : World} (h : laidMetH Tryz.prog [("winnow/lex.words", Rows.laid_winnow_lex_words)] W) {v w : Value} {nm : ByteArray} {s : AM} {size : Int} {C : List Int} (hv : YU W v nm s) (hw : lO W w size C) :
  ∃ hp ρ sv sw,CH Tryz.prog ρ hp W∧(∀ i,¬ wr (hp.get i))∧AJ ρ sv v∧AJ ρ sw w∧BP 0 hp sv nm s∧ER 0 hp sw size C∧hp.floor=0∧hp.get 0=EA∧0<hp.next:=by
 obtain⟨vr,vq,vv,vt,vu,vo,rfl,s1,s2,s3,s4,s5,s6⟩:=hv.ok
 obtain⟨vc,rfl,t1,_⟩:=hw
 have hR:=fO h (ps:=[⟨vr,_,_,_,60⟩,⟨vq,_,_,_,75⟩,⟨vv,_,_,_,9⟩,⟨vt,_,_,_,9⟩,⟨vu,_,_,_,3⟩,⟨vo,_,_,_,3⟩,⟨vc,_,_,_,3⟩]) (fun p hp=>by
  simp only[List.mem_cons,List.not_mem_nil,or_false] at hp
  have hi:∀ {l:List Int},∀ v∈ints l,BS v=true:=fun v hv=>by
   obtain⟨x,_,rfl⟩:=List.mem_map.1 hv
   rfl
  have hs:∀ {l:List ByteArray},∀ v∈CJ l,BS v=true:=fun v hv=>by
   obtain⟨x,_,rfl⟩:=List.mem_map.1 hv
   rfl
  rcases hp with rfl | rfl | rfl | rfl | rfl | rfl | rfl
  ·refine⟨s1,fun v hv=>?_⟩
   obtain⟨x,_,hx⟩:=List.mem_flatMap.1 hv
   obtain⟨j,hj⟩:=List.getElem?_of_mem hx
   exact ZH hj
  ·refine⟨s2,fun v hv=>?_⟩
   obtain⟨x,_,hx⟩:=List.mem_flatMap.1 hv
   simp only[List.mem_cons,List.not_mem_nil,or_false] at hx
   rcases hx with rfl | rfl <;> rfl
  ·exact⟨s3,hs⟩
  ·exact⟨s4,hs⟩
  ·exact⟨s5,hi⟩
  ·exact⟨s6,hi⟩
  ·exact⟨t1,hi⟩)
 obtain⟨r1,r2,r3,r4,r5,r6⟩:=hR
 obtain⟨a0,b0⟩:=r6 0 _ rfl
 obtain⟨a1,b1⟩:=r6 1 _ rfl
 obtain⟨a2,b2⟩:=r6 2 _ rfl
 obtain⟨a3,b3⟩:=r6 3 _ rfl
 obtain⟨a4,b4⟩:=r6 4 _ rfl
 obtain⟨a5,b5⟩:=r6 5 _ rfl
 obtain⟨a6,b6⟩:=r6 6 _ rfl
 refine⟨_,_,.agg #[.string nm,_,_,_,_,_,_,iv s.miss],.agg #[iv size,_],r1,r2,.agg (.cons (.flat rfl) (.cons a0 (.cons a1 (.cons a2 (.cons a3 (.cons a4 (.cons a5 (.cons (.flat rfl) .nil)))))))),.agg (.cons (.flat rfl) (.cons a6 .nil)),⟨_,_,_,_,_,_,rfl,IN.of b0,b1,b2,b3,b4,b5⟩,⟨_,rfl,b6⟩,r4,r5,by omega⟩
end Go.Proofs.YtdejoodfeljmkaaGreatDoor
