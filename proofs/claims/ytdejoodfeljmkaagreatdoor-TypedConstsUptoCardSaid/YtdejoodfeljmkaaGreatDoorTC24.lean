/- Part 24 of what the claim leans on: 6 texts laid one behind another. -/
import Derived.Test.YtdejoodfeljmkaaGreatDoorTC23
namespace Go.Proofs.YtdejoodfeljmkaaGreatDoor
open Go Go.Sx
set_option maxRecDepth 100000
set_option linter.unusedSimpArgs false
set_option linter.unusedVariables false
set_option maxHeartbeats 64000000
theorem Jqe:J1P Tryz.prog 60 [(0,iv 23)]=some (rowV ⟨23,ByteArray.empty,0,0,0⟩):=by
 have h:=J9X
 rw[Tryz.underlying60] at h
 simp only at h
 have hf:flat (.agg #[.int .i64 0,.string ByteArray.empty,.int .i64 0,.int .i64 0,.int .i64 0])=true:=rfl
 simp only[J1P,J40,hf,if_true,Tryz.underlying60,h]
 rfl
theorem Jry:flat (.agg #[.string ByteArray.empty,.bool false])=true:=rfl
theorem Jr2:J1P Tryz.prog 75 []=some (.agg #[.string ByteArray.empty,.bool false]):=by
 have h:=Jgp
 rw[Tryz.underlying75] at h
 simp only at h
 simp only[J1P,J9V,Jry,if_true,Tryz.underlying75,h]
 rfl
theorem Jqn {nm:ByteArray} {b:Bool}:J1P Tryz.prog 75 [(0,.string nm),(1,.bool b)]=some (.agg #[.string nm,.bool b]):=by
 have h:=Jgp
 rw[Tryz.underlying75] at h
 simp only at h
 simp only[J1P,J9V,Jry,if_true,Tryz.underlying75,h]
 rfl
theorem Jr6 {n off:Nat} {cs:List Value} {ty:TypeId} {a b:Bool} (hl:off+n≤cs.length):ldN n off (.row cs ty a b)=some (.agg ((cs.drop off).take n).toArray):=by
 simp only[ldN,cut]
 rw[if_pos (by rw[List.length_take,List.length_drop];omega)]
theorem Jrn {L:List RowN} {k:Nat} {x:RowN} {ty:TypeId} {a b:Bool} (hx:L[k]?=some x):ldN 5 (k*5) (.row (L.flatMap J0e) ty a b)=some (rowV x):=by
 have hk:=(List.getElem?_eq_some_iff.1 hx).1
 rw[Jr6 (by rw[J0N];omega),J2Y hx]
 rfl
theorem Jqr:∀ {l:List (ByteArray × Bool)} {k:Nat} {x:ByteArray × Bool},l[k]?=some x→(J3S l)[k*2]?=some (.string x.1)∧(J3S l)[k*2+1]?=some (.bool x.2)
 | [],k,x,h=>by simp at h
 | y :: l,0,x,h=>by
  cases h
  exact⟨rfl,rfl⟩
 | y :: l,k+1,x,h=>by
  have h':l[k]?=some x:=by simpa using h
  have e:J3S (y :: l)=.string y.1 :: .bool y.2 :: J3S l:=rfl
  obtain⟨a,b⟩:=Jqr h'
  rw[e]
  refine⟨?_,?_⟩
  ·rw[show (k+1)*2=k*2+1+1 by omega]
   exact a
  ·rw[show (k+1)*2+1=k*2+1+1+1 by omega]
   exact b
theorem Jqh:∀ {l:List (ByteArray × Bool)} {k:Nat} {x:ByteArray × Bool},k<l.length→Go.Sx.lay (J3S l) (k*2) [.string x.1,.bool x.2]=J3S (l.set k x)
 | [],k,x,h=>by simp at h
 | y :: l,0,x,h=>rfl
 | y :: l,k+1,x,h=>by
  have ih:=Jqh (l:=l) (k:=k) (x:=x) (by simpa using h)
  have e:J3S (y :: l)=.string y.1 :: .bool y.2 :: J3S l:=rfl
  have e2:J3S ((y :: l).set (k+1) x)=.string y.1 :: .bool y.2 :: J3S (l.set k x):=rfl
  rw[e,e2,← ih]
  have:(k+1)*2=k*2+1+1:=by omega
  rw[this]
  simp[Go.Sx.lay,List.take_succ_cons,show k*2+1+1+2=(k*2+2)+1+1 by omega]
theorem Js1 {l:List (ByteArray × Bool)} {k:Nat} {x:ByteArray × Bool} {ty:TypeId} {a b:Bool} (hx:l[k]?=some x):ldN 2 (k*2) (.row (J3S l) ty a b)=some (.agg #[.string x.1,.bool x.2]):=by
 have hk:=(List.getElem?_eq_some_iff.1 hx).1
 rw[Jr6 (by rw[J2J];omega),J7n hx]
theorem JrV {h:SHeap} {id k:Nat} {l:List (ByteArray × Bool)} {a:ByteArray} {b:Bool} {ty:TypeId} {g:Bool} (hg:h.get id=.row (J3S l) ty g false) (hk:k<l.length) (hf:h.floor≤id):J0K Tryz.prog h 75 (.pointer (some ⟨id,k*2,none⟩)) (.agg #[.string a,.bool b])=some (h.put id (.row (J3S (l.set k (a,b))) ty g false)):=by
 have hl:=J2J l
 have:=Jqh (l:=l) (k:=k) (x:=(a,b)) hk
 simp only[J0K,sz57,J1q,hg]
 rw[if_pos (show some 2=some (Value.agg #[Value.string a,Value.bool b]).cells.size from rfl),if_pos (by rw[hl,decide_eq_true hf,decide_eq_true (show k*2+(Value.agg #[Value.string a,Value.bool b]).cells.toList.length≤l.length*2 by show k*2+2≤_;omega)];rfl)]
 rw[← this]
 rfl
section
variable {n N:Nat} {h:SHeap}
theorem JqH {nm:ByteArray} {s:StN} {pv v:Value} {lo b:Nat} {h0:SHeap} (hL:Lent8 h b v nm s) (hp:J3x lo h0 pv nm s) (hb:h0.next≤b) (h0g:∀ i,i<h0.next→h.get i=h0.get i) (hf:h.floor≤b) (hs:JdC s) (hl:Jbg s<900000000) (hn:Jbg s+60<n) (hN:Jbg s+60<N) :
  ∃ h',J0L Tryz.prog (J0T n) N 11 [v,pv] h=some (.bool true,h')∧(h.next≤h'.next∧h'.floor=h.floor∧∀ i,i<h.next→(i<b∨b+5<i)→h'.get i=h.get i):=by
 have hL0:=hL
 have hpl:=hL.pol
 have hlt:=hL.lt
 have hph:J3x lo h pv nm s:=hp.mono (by omega) fun i _ hi=>h0g i hi
 obtain⟨vr,vq,vv,vt,vu,vo,rfl,p1,p2,p3,p4,p5,p6⟩:=id hp
 obtain⟨rfl,_,⟨L1,g1⟩,gq,gw,gt,⟨L5,g5⟩,⟨L6,g6⟩⟩:=hL
 obtain⟨_,_,_,_,_,_,hq,q1,q2,q3,q4,q5,q6⟩:=id hpl
 cases hq
 refine J1N (R:=fun h'=>h.next≤h'.next∧h'.floor=h.floor∧∀ i,i<h.next→(i<b∨b+5<i)→h'.get i=h.get i) Tryz.func11 rfl (by simp[Tryz.f11]) ?_
 have hr:Tryz.f11.results.toList=[.tmp 4]:=rfl
 have hs0:=hs
 obtain⟨r1,r2,r3,r4,r5,r6⟩:=hs
 have hl0:=hl
 have hn0:=hn
 unfold Jbg at hl hn hN
 have ca:(Value.agg #[.string nm,qS b s.rows.length (s.rows.length+9),qS (b+1) s.queues.length (s.queues.length+3),qS (b+2) s.vars.length (s.vars.length+3),qS (b+3) s.tags.length (s.tags.length+3),qS (b+4) s.rules.length (s.rules.length+5),qS (b+5) s.on.length (s.on.length+5),iv s.miss]).cells.toList=[.string nm,qS b s.rows.length (s.rows.length+9),qS (b+1) s.queues.length (s.queues.length+3),qS (b+2) s.vars.length (s.vars.length+3),qS (b+3) s.tags.length (s.tags.length+3),qS (b+4) s.rules.length (s.rules.length+5),qS (b+5) s.on.length (s.on.length+5),iv s.miss]:=rfl
 have cb:(Value.agg #[.string nm,vr,vq,vv,vt,vu,vo,iv s.miss]).cells.toList=[.string nm,vr,vq,vv,vt,vu,vo,iv s.miss]:=rfl
 have oa:=all8 (nm:=nm) q1 q2 q3 q4 q5 q6
 have ob:=all8 (nm:=nm) p1 p2 p3 p4 p5 p6
 have g0:∀ (a b:SObj),let A:=(h.push a).push b
   A.get h.next=a∧A.get (h.next+1)=b∧A.next=h.next+2∧A.floor=h.floor∧∀ i,i<h.next→A.get i=h.get i:=fun a b=>
  ⟨J4c,J48,rfl,rfl,fun i hi=>by rw[J06 (by show i<h.next+1;omega),J06 hi]⟩
 obtain⟨gA,gB,nG,fG,gO⟩:=g0 (.row [.string nm,qS b s.rows.length (s.rows.length+9),qS (b+1) s.queues.length (s.queues.length+3),qS (b+2) s.vars.length (s.vars.length+3),qS (b+3) s.tags.length (s.tags.length+3),qS (b+4) s.rules.length (s.rules.length+5),qS (b+5) s.on.length (s.on.length+5),iv s.miss] 27 false false) (.row [.string nm,vr,vq,vv,vt,vu,vo,iv s.miss] 27 false false)
 simp only[evC,seval,↓evP,rpD,J0X,J2t,ca,oa,cb,ob,sz30]
 generalize (h.push (.row [.string nm,qS b s.rows.length (s.rows.length+9),qS (b+1) s.queues.length (s.queues.length+3),qS (b+2) s.vars.length (s.vars.length+3),qS (b+3) s.tags.length (s.tags.length+3),qS (b+4) s.rules.length (s.rules.length+5),qS (b+5) s.on.length (s.on.length+5),iv s.miss] 27 false false)).push (.row [.string nm,vr,vq,vv,vt,vu,vo,iv s.miss] 27 false false)=G at *
 have lA:ldN 8 0 (G.get h.next)=some (.agg #[.string nm,qS b s.rows.length (s.rows.length+9),qS (b+1) s.queues.length (s.queues.length+3),qS (b+2) s.vars.length (s.vars.length+3),qS (b+3) s.tags.length (s.tags.length+3),qS (b+4) s.rules.length (s.rules.length+5),qS (b+5) s.on.length (s.on.length+5),iv s.miss]):=J9E gA rfl
 have lB:ldN 8 0 (G.get (h.next+1))=some (.agg #[.string nm,vr,vq,vv,vt,vu,vo,iv s.miss]):=J9E gB rfl
 have hsame:=JrL (n:=n) (hpl.mono (h':=G) (by omega) fun i _ hi=>gO i hi) (hph.mono (h':=G) (by omega) fun i _ hi=>gO i hi) hs0 (by unfold Jbg;omega)
 obtain⟨x0,x1,x2,x3,x4,x5,x6,x7⟩:=box8 gA
 obtain⟨y0,y1,y2,y3,y4,y5,y6,y7⟩:=box8 gB
 have z0:∀ i,i<h0.next→G.get i=h0.get i:=fun i hi=>by rw[gO i (by omega)];exact h0g i hi
 obtain⟨H1,k1,n1,f1,o1⟩:=JqA (n:=n) (h:=G) (o:=b+4) (L:=L5) ⟨by rw[gO _ (by omega)];exact g5.g,g5.len,g5.own,g5.marks⟩ (by omega) (by omega) (J1S.mono p5 (by omega) fun i _ hi=>z0 i hi) (by omega) (by omega)
 obtain⟨H2,k2,n2,f2,o2⟩:=JqA (n:=n) (h:=H1) (o:=b+5) (L:=L6) ⟨by rw[o1 _ (by omega),gO _ (by omega)];exact g6.g,g6.len,g6.own,g6.marks⟩ (by omega) (by omega) (J1S.mono p6 (by omega) fun i _ hi=>by rw[o1 i (by omega)];exact z0 i hi) (by omega) (by omega)
 obtain⟨H3,k3,n3,f3,o3⟩:=Jr5 (n:=n) (h:=H2) (o:=b+2) (by rw[o2 _ (by omega),o1 _ (by omega),gO _ (by omega)];exact gw) (by omega) (by omega) (p3.mono (by omega) fun i _ hi=>by rw[o2 i (by omega),o1 i (by omega)];exact z0 i hi) (by omega) (by omega)
 obtain⟨H4,k4,n4,f4,o4⟩:=Jr5 (n:=n) (h:=H3) (o:=b+3) (by rw[o3 _ (by omega),o2 _ (by omega),o1 _ (by omega),gO _ (by omega)];exact gt) (by omega) (by omega) (p4.mono (by omega) fun i _ hi=>by rw[o3 i (by omega),o2 i (by omega),o1 i (by omega)];exact z0 i hi) (by omega) (by omega)
 have c6:H1.get h.next=G.get h.next∧H1.get (h.next+1)=G.get (h.next+1):=⟨o1 _ (by omega),o1 _ (by omega)⟩
 have c7:H2.get h.next=G.get h.next∧H2.get (h.next+1)=G.get (h.next+1):=⟨by rw[o2 _ (by omega),c6.1],by rw[o2 _ (by omega),c6.2]⟩
 have c8:H3.get h.next=G.get h.next∧H3.get (h.next+1)=G.get (h.next+1):=⟨by rw[o3 _ (by omega),c7.1],by rw[o3 _ (by omega),c7.2]⟩
 have c9:H4.get h.next=G.get h.next∧H4.get (h.next+1)=G.get (h.next+1):=⟨by rw[o4 _ (by omega),c8.1],by rw[o4 _ (by omega),c8.2]⟩
 have len1:=fun h'=>JfA p1.2 h'
 have len2:=fun h'=>JfC p2 h'
 have w9:IntKind.i64.wrap ((s.rows.length:Int)+9)=((s.rows.length+9:Nat):Int):=J0s (by omega) (by omega)
 have w3:IntKind.i64.wrap ((s.queues.length:Int)+3)=((s.queues.length+3:Nat):Int):=J0s (by omega) (by omega)
 have lenR:∀ h':SHeap,lenS Tryz.prog h' 22 (qS b (s.rows.length+9) (s.rows.length+9))=some (iv ((s.rows.length+9:Nat):Int)):=fun h'=>JeK
 have lenQ:∀ h':SHeap,lenS Tryz.prog h' 23 (qS (b+1) (s.queues.length+3) (s.queues.length+3))=some (iv ((s.queues.length+3:Nat):Int)):=fun h'=>by simp[lenS,Tryz.underlying23]
 have slR:=fun (H:SHeap)=>JnH (P:=Tryz.prog) (h:=H) (t:=22) (e:=60) (id:=b) (n:=s.rows.length) (m:=s.rows.length+9) (c:=s.rows.length+9) Tryz.underlying22 sz46 (by omega) (by unfold unk;omega)
 have slQ:=fun (H:SHeap)=>JnH (P:=Tryz.prog) (h:=H) (t:=23) (e:=75) (id:=b+1) (n:=s.queues.length) (m:=s.queues.length+3) (c:=s.queues.length+3) Tryz.underlying23 sz57 (by omega) (by unfold unk;omega)
 simp only[evC,seval,↓evP,Nat.zero_add,J1b,lA,lB,hsame,J36,J1T,J1A,J1B,J0y,J0n,J0Y,J0F,x5,y5,k1,c6.1,c6.2,x6,y6,k2,c7.1,c7.2,x3,y3,k3,c8.1,c8.2,x4,y4,k4,c9.1,c9.2,x1,y1,len1,w9,slR]
 have z4:∀ i,(i<b∨b+5<i)→H4.get i=G.get i:=fun i hi=>by rw[o4 i (by omega),o3 i (by omega),o2 i (by omega),o1 i (by omega)]
 have gR:H4.get b=.row (L1.flatMap J0e) 60 false false:=by rw[o4 _ (by omega),o3 _ (by omega),o2 _ (by omega),o1 _ (by omega),gO _ (by omega)];exact g1.g
 have gQ:H4.get (b+1)=.row (J3S (s.queues++List.replicate 3 (ByteArray.empty,false))) 75 false false:=by
  rw[o4 _ (by omega),o3 _ (by omega),o2 _ (by omega),o1 _ (by omega),gO _ (by omega),gq]
  simp[J3S,J3e]
 refine WK.loop (fun k s'=>s'.T.get 2=qP h.next 0∧s'.T.get 3=qP (h.next+1) 0∧s'.T.get 5=.bool true∧s'.T.get 6=qS b (s.rows.length+9) (s.rows.length+9)∧s'.T.get 7=iv (k:Int)∧k≤s.rows.length+9∧s'.h.next=H4.next∧s'.h.floor=H4.floor∧(∀ i,i≠b→s'.h.get i=H4.get i)∧∃ L:List RowN,s'.h.get b=.row (L.flatMap J0e) 60 false false∧L.length=s.rows.length+9∧∀ j,k≤j→L[j]?=L1[j]?) (s.rows.length+9) (by omega) ?_ ?_
 ·exact⟨by simp only[evC,seval,↓evP,rpC],by simp only[evC,seval,↓evP,rpC],by simp only[evC,seval,↓evP,rpC],by simp only[evC,seval,↓evP,rpC],by simp only[evC,seval,↓evP,rpC] <;> rfl,by omega,rfl,rfl,fun _ _=>rfl,L1,gR,g1.len,fun _ _=>rfl⟩
 rintro k ⟨T1,H5⟩ hk ⟨t2,t3,t5,t6,t7,hk9,n5,f5,o5,L,gL,lL,eL⟩
 simp only at t2 t3 t5 t6 t7 n5 f5 o5 gL
 have cB:H5.get (h.next+1)=G.get (h.next+1):=by rw[o5 _ (by omega),c9.2]
 have cA:H5.get h.next=G.get h.next:=by rw[o5 _ (by omega),c9.1]
 by_cases hlt1:k<s.rows.length+9
 ·have c1:decide ((k:Int)<((s.rows.length+9:Nat):Int))=true:=by simp;omega
  have hix:=JaW (id:=b) (n:=s.rows.length+9) (c:=s.rows.length+9) (i:=k) hlt1
  have hst:=JaU (h:=H5) (i:=k) (x:=⟨23,ByteArray.empty,0,0,0⟩) rfl gL (by omega) (by omega)
  have w1:IntKind.i64.wrap ((k:Int)+1)=((k+1:Nat):Int):=J0s (by omega) (by omega)
  by_cases h2:k<s.rows.length
  ·have c2:decide ((k:Int)<(s.rows.length:Int))=true:=by simp;omega
   simp only[evC,seval,↓evP,Nat.zero_add,t2,t3,t5,t6,t7,lenR,c1,J0y,J0F,cB,y1,len1,c2,Jqe,hix,hst,w1]
   exact⟨hlt1,by omega,n5,f5,fun i hi=>by rw[J05 (by omega) (Ne.symm hi)];exact o5 i hi,_,J0b rfl (by omega),by rw[List.length_set];exact lL,fun j hj=>by rw[List.getElem?_set_ne (by omega)];exact eL j (by omega)⟩
  ·have c2:decide ((k:Int)<(s.rows.length:Int))=false:=by simp;omega
   have hx:L[k]?=some (mk8 k):=by
    rw[eL k (Nat.le_refl _)]
    have:=g1.marks (k-s.rows.length) (by omega)
    rwa [show s.rows.length+(k-s.rows.length)=k by omega] at this
   have hld:ldN 5 (k*5) (H5.get b)=some (rowV (mk8 k)):=by rw[gL];exact Jrn hx
   have hbe:binS Tryz.prog .eql 60 (.tmp 64) (.tmp 66) (rowV (mk8 k)) (rowV ⟨-9,ByteArray.empty,0,k,0⟩)=some (.bool true):=eq46.trans (by rw[show (⟨-9,ByteArray.empty,0,(k:Int),0⟩:RowN)=mk8 k from rfl,J1K])
   simp only[evC,seval,↓evP,Nat.zero_add,t2,t3,t5,t6,t7,lenR,c1,J0y,J0F,cB,y1,len1,c2,Jqv,Jqe,hix,J0u,hld,hbe,hst,w1]
   exact⟨hlt1,by omega,n5,f5,fun i hi=>by rw[J05 (by omega) (Ne.symm hi)];exact o5 i hi,_,J0b rfl (by omega),by rw[List.length_set];exact lL,fun j hj=>by rw[List.getElem?_set_ne (by omega)];exact eL j (by omega)⟩
 have c1:decide ((k:Int)<((s.rows.length+9:Nat):Int))=false:=by simp;omega
 simp only[evC,seval,↓evP,Nat.zero_add,t2,t3,t5,t6,t7,lenR,c1,J0B,J0S,cA,cB,x2,y2,len2,w3,slQ]
 have gQ5:H5.get (b+1)=.row (J3S (s.queues++List.replicate 3 (ByteArray.empty,false))) 75 false false:=by rw[o5 _ (by omega)];exact gQ
 refine WK.loop (fun k s'=>s'.T.get 2=qP h.next 0∧s'.T.get 3=qP (h.next+1) 0∧s'.T.get 5=.bool true∧s'.T.get 8=qS (b+1) (s.queues.length+3) (s.queues.length+3)∧s'.T.get 9=iv (k:Int)∧k≤s.queues.length+3∧s'.h.next=H4.next∧s'.h.floor=H4.floor∧(∀ i,i≠b→i≠b+1→s'.h.get i=H4.get i)∧∃ L:List (ByteArray × Bool),s'.h.get (b+1)=.row (J3S L) 75 false false∧L.length=s.queues.length+3∧∀ j,k≤j→L[j]?=(s.queues++List.replicate 3 (ByteArray.empty,false))[j]?) (s.queues.length+3) (by omega) ?_ ?_
 ·exact⟨by simp only[evC,seval,↓evP,rpC,t2],by simp only[evC,seval,↓evP,rpC,t3],by simp only[evC,seval,↓evP,rpC,t5],by simp only[evC,seval,↓evP,rpC],by simp only[evC,seval,↓evP,rpC] <;> rfl,by omega,n5,f5,fun i hi _=>o5 i hi,_,gQ5,by simp,fun _ _=>rfl⟩
 clear hk hk9 hlt1 c1 t2 t3 t5 t6 t7
 rintro k ⟨T2,H6⟩ hk ⟨t2,t3,t5,t8,t9,hk9,n6,f6,o6,Q,gQ6,lQ,eQ⟩
 simp only at t2 t3 t5 t8 t9 n6 f6 o6 gQ6
 have cB6:H6.get (h.next+1)=G.get (h.next+1):=by rw[o6 _ (by omega) (by omega),c9.2]
 by_cases hlt1:k<s.queues.length+3
 ·have c1:decide ((k:Int)<((s.queues.length+3:Nat):Int))=true:=by simp;omega
  have hix:=idxA (id:=b+1) (n:=s.queues.length+3) (c:=s.queues.length+3) (i:=k) Tryz.underlying23 sz57 hlt1
  obtain⟨x,hx⟩:∃ x,Q[k]?=some x:=⟨_,List.getElem?_eq_getElem (by omega)⟩
  obtain⟨xa,xb⟩:=Jqr hx
  have l1:ld1 (k*2+1) (H6.get (b+1))=some (.bool x.2):=by rw[gQ6];simp[ld1,xb]
  have hst:=JrV (k:=k) (a:=J9F) (b:=!x.2) gQ6 (by omega) (by omega)
  have w1:IntKind.i64.wrap ((k:Int)+1)=((k+1:Nat):Int):=J0s (by omega) (by omega)
  by_cases h2:k<s.queues.length
  ·have c2:decide ((k:Int)<(s.queues.length:Int))=true:=by simp;omega
   simp only[evC,seval,↓evP,Nat.zero_add,t2,t3,t5,t8,t9,lenQ,c1,J0B,J0S,cB6,y2,len2,c2,JiN,J1V,l1,Jqn,hix,hst,w1]
   exact⟨hlt1,by omega,n6,f6,fun i hi h1=>by rw[J05 (by omega) (Ne.symm h1)];exact o6 i hi h1,_,J0b rfl (by omega),by rw[List.length_set];exact lQ,fun j hj=>by rw[List.getElem?_set_ne (by omega)];exact eQ j (by omega)⟩
  ·have c2:decide ((k:Int)<(s.queues.length:Int))=false:=by simp;omega
   have hx0:x=(ByteArray.empty,false):=by
    rw[eQ k (Nat.le_refl _),List.getElem?_append_right (by omega),List.getElem?_replicate,if_pos (by omega)] at hx
    exact(Option.some.inj hx).symm
   subst hx0
   simp only[Bool.not_false] at hst
   have hld:ldN 2 (k*2) (H6.get (b+1))=some (.agg #[.string ByteArray.empty,.bool false]):=by
    rw[gQ6]
    exact Js1 hx
   have hbe:binS Tryz.prog .eql 75 (.tmp 98) (.tmp 99) (.agg #[.string ByteArray.empty,.bool false]) (.agg #[.string ByteArray.empty,.bool false])=some (.bool true):=eq57.trans (by rw[J34];rfl)
   simp only[evC,seval,↓evP,Nat.zero_add,t2,t3,t5,t8,t9,lenQ,c1,J0B,J0S,cB6,y2,len2,c2,JiN,J1V,J3z,l1,hld,hbe,Jr2,Jqn,hix,hst,w1]
   exact⟨hlt1,by omega,n6,f6,fun i hi h1=>by rw[J05 (by omega) (Ne.symm h1)];exact o6 i hi h1,_,J0b rfl (by omega),by rw[List.length_set];exact lQ,fun j hj=>by rw[List.getElem?_set_ne (by omega)];exact eQ j (by omega)⟩
 have c1:decide ((k:Int)<((s.queues.length+3:Nat):Int))=false:=by simp;omega
 simp only[evC,seval,↓evP,hr,t2,t3,t5,t8,t9,lenQ,c1]
 exact⟨by omega,by omega,fun i hi h1=>by rw[o6 i (by omega) (by omega),z4 i h1,gO i hi]⟩
theorem JrD {nm:ByteArray} {s:StN} {pv v:Value} {lo b:Nat} {h0:SHeap} (hL:Lent8 h b v nm s) (hp:J3x lo h0 pv nm s) (hb:h0.next≤b) (h0g:∀ i,i<h0.next→h.get i=h0.get i) (hf:h.floor≤b) (hs:JdC s) (hl:Jbg s<900000000) (hn:Jbg s+90<n) :
  ∃ h',J0T n 11 [v,pv] h=some (.bool true,h')∧(h.next≤h'.next∧h'.floor=h.floor∧∀ i,i<h.next→(i<b∨b+5<i)→h'.get i=h.get i):=by
 obtain⟨n,rfl⟩:∃ j,n=j+1:=⟨n-1,by omega⟩
 exact k_wr (J13 ⟨rfl,rfl,rfl⟩) (JqH hL hp hb h0g hf hs hl (by omega) (by omega))
end
noncomputable def fitE (nm:ByteArray) (s:StN) (size:Int) (C:List Int):Int:=if JkA nm s≠0 then JkA nm s else if Jq9 size C s.queues=true then 0 else 45
theorem Lent8.lies {h:SHeap} {b:Nat} {v:Value} {nm:ByteArray} {s:StN} (hL:Lent8 h b v nm s):∀ nm' vr vq vv vt vu vo m,v=.agg #[.string nm',vr,vq,vv,vt,vu,vo,m]→Lies vr s.rows.length:=by
 intro nm' vr vq vv vt vu vo m hv
 rw[hL.v] at hv
 simp only[Value.agg.injEq,Array.mk.injEq,List.cons.injEq] at hv
 obtain⟨_,h1,_⟩:=hv
 exact⟨_,_,_,h1.symm⟩
theorem Lent8.mono {h h':SHeap} {b:Nat} {v:Value} {nm:ByteArray} {s:StN} (hL:Lent8 h b v nm s) (hn:h.next≤h'.next) (hg:∀ i,b≤i→i≤b+5→h'.get i=h.get i):Lent8 h' b v nm s:=by
 obtain⟨hv,hlt,⟨L1,g1⟩,gq,gw,gt,⟨L5,g5⟩,⟨L6,g6⟩⟩:=hL
 exact⟨hv,by omega,⟨L1,by rw[hg _ (by omega) (by omega)];exact g1.g,g1.len,g1.own,g1.marks⟩,by rw[hg _ (by omega) (by omega)];exact gq,by rw[hg _ (by omega) (by omega)];exact gw,by rw[hg _ (by omega) (by omega)];exact gt,⟨L5,by rw[hg _ (by omega) (by omega)];exact g5.g,g5.len,g5.own,g5.marks⟩,⟨L6,by rw[hg _ (by omega) (by omega)];exact g6.g,g6.len,g6.own,g6.marks⟩⟩
section
variable {n N:Nat} {h:SHeap}
theorem JqS {nm:ByteArray} {s:StN} {pv cv:Value} {lo lc:Nat} {size:Int} {C:List Int} (hp:J3x lo h pv nm s) (hc:JpX lc h cv size C) (hlies:∀ nm' vr vq vv vt vu vo m,pv=.agg #[.string nm',vr,vq,vv,vt,vu,vo,m]→Lies vr s.rows.length) (hl:s.rows.length<900000000) (hg:h.get 0=J14) (hn0:0<h.next) (hs:JdC s) (hC:C.length<9000000) (hfl:h.floor≤h.next) (hn:2*Jbg s+400+C.length<n) :
  ∃ h',J0L Tryz.prog (J0T n) N 14 [pv,cv] h=some (J2k (fitE nm s size C) 0,h')∧∀ i,i<h.next→h'.get i=h.get i:=by
 obtain⟨vr,vq,vv,vt,vu,vo,rfl,p1,p2,p3,p4,p5,p6⟩:=id hp
 obtain⟨vc,rfl,pc⟩:=id hc
 refine J1N (R:=fun h'=>∀ i,i<h.next→h'.get i=h.get i) Tryz.func14 rfl (by simp[Tryz.f14]) ?_
 have hr:Tryz.f14.results.toList=[.cell 4 32]:=rfl
 have ca:(Value.agg #[.string nm,vr,vq,vv,vt,vu,vo,iv s.miss]).cells.toList=[.string nm,vr,vq,vv,vt,vu,vo,iv s.miss]:=rfl
 have oa:=all8 (nm:=nm) p1 p2 p3 p4 p5 p6
 have cb:(Value.agg #[iv size,vc]).cells.toList=[iv size,vc]:=rfl
 have ob:[iv size,vc].all one=true:=by simp only[List.all_cons,List.all_nil,J0p.one pc,J5K,Bool.and_self]
 have zc33:(Value.agg #[Value.int IntKind.i64 0,Value.int IntKind.i64 0]).cells.toList=[iv 0,iv 0]:=rfl
 have g0:∀ (a b c:SObj),let A:=((h.push a).push b).push c
   A.get h.next=a∧A.get (h.next+1)=b∧A.get (h.next+2)=c∧A.next=h.next+3∧A.floor=h.floor∧∀ i,i<h.next→A.get i=h.get i:=fun a b c=>
  ⟨by rw[J06 (by show h.next<h.next+2;omega)];exact J4c,by rw[J06 (by show h.next+1<h.next+2;omega)];exact J48,J0h (h:=(h.push a).push b),rfl,rfl,fun i hi=>by rw[J06 (by show i<h.next+2;omega),J06 (by show i<h.next+1;omega),J06 hi]⟩
 obtain⟨gA,gB,gF,nG,fG,gO⟩:=g0 (.row [.string nm,vr,vq,vv,vt,vu,vo,iv s.miss] 27 false false) (.row [iv size,vc] 39 false false) (.row [iv 0,iv 0] 32 false false)
 simp only[evC,seval,↓evP,rpD,J0X,J2t,ca,oa,cb,ob,sz30,szCp,J3C,J1t,zc33]
 generalize ((h.push (.row [.string nm,vr,vq,vv,vt,vu,vo,iv s.miss] 27 false false)).push (.row [iv size,vc] 39 false false)).push (.row [iv 0,iv 0] 32 false false)=Q at *
 have lA:ldN 8 0 (Q.get h.next)=some (.agg #[.string nm,vr,vq,vv,vt,vu,vo,iv s.miss]):=J9E gA rfl
 have lB:ldN 2 0 (Q.get (h.next+1))=some (.agg #[iv size,vc]):=by rw[gB];rfl
 have hpQ:J3x lo Q (.agg #[.string nm,vr,vq,vv,vt,vu,vo,iv s.miss]) nm s:=hp.mono (by omega) fun i _ hi=>gO i hi
 have hcQ:JpX lc Q (.agg #[iv size,vc]) size C:=hc.mono (by omega) fun i _ hi=>gO i hi
 have hchk:=JnE (n:=n) hpQ hlies hs hl (by omega) (by rw[gO 0 hn0];exact hg) (by omega) (by omega)
 have hfit:=JrA (n:=n) hpQ hcQ hC (by omega)
 have fin:∀ e:Int,∃ H',J0K Tryz.prog Q 32 (qP (h.next+2) 0) (J2k e 0)=some H'∧ldN 2 0 (H'.get (h.next+2))=some (J2k e 0)∧∀ i,i<h.next→H'.get i=h.get i:=fun e=>by
  refine⟨_,stW sz33 (vs:=[iv e,iv 0]) gF rfl rfl rfl (by omega),?_,fun i hi=>?_⟩
  ·rw[J0b rfl (by omega)]
   rfl
  ·rw[J05 (by omega) (by omega)]
   exact gO i hi
 have nn:h.next+1+1=h.next+2:=rfl
 cases d1:(JkA nm s != 0) with
 | true=>
  have e1:fitE nm s size C=JkA nm s:=by unfold fitE;rw[if_pos (by simpa using d1)]
  obtain⟨H',s1,s2,s3⟩:=fin (JkA nm s)
  rw[e1]
  simp only[evC,seval,↓evP,hr,nn,J1b,Jq3,lA,lB,hchk,d1,J96,s1,J2n,s2]
  exact s3
 | false=>
 have e1:JkA nm s=0:=by simpa using d1
 cases d2:Jq9 size C s.queues with
 | false=>
  have e2:fitE nm s size C=45:=by unfold fitE;rw[if_neg (by rw[e1];decide),if_neg (by rw[d2];decide)]
  obtain⟨H',s1,s2,s3⟩:=fin 45
  rw[e2]
  simp only[evC,seval,↓evP,hr,nn,J1b,Jq3,lA,lB,hchk,d1,hfit,d2,J96,s1,J2n,s2]
  exact s3
 | true=>
  have e2:fitE nm s size C=0:=by unfold fitE;rw[if_neg (by rw[e1];decide),if_pos d2]
  obtain⟨H',s1,s2,s3⟩:=fin 0
  rw[e2]
  simp only[evC,seval,↓evP,hr,nn,J1b,Jq3,lA,lB,hchk,d1,hfit,d2,J5n,s1,J2n,s2]
  exact s3
theorem JrB {nm:ByteArray} {s:StN} {pv cv:Value} {lo lc:Nat} {size:Int} {C:List Int} (hp:J3x lo h pv nm s) (hc:JpX lc h cv size C) (hlies:∀ nm' vr vq vv vt vu vo m,pv=.agg #[.string nm',vr,vq,vv,vt,vu,vo,m]→Lies vr s.rows.length) (hl:s.rows.length<900000000) (hg:h.get 0=J14) (hn0:0<h.next) (hs:JdC s) (hC:C.length<9000000) (hfl:h.floor≤h.next) (hn:2*Jbg s+400+C.length+10<n):J0T n 14 [pv,cv] h=some (J2k (fitE nm s size C) 0,h):=by
 obtain⟨n,rfl⟩:∃ j,n=j+1:=⟨n-1,by omega⟩
 exact J4r (J13 ⟨rfl,rfl,rfl⟩) rfl (JqS (n:=n) (N:=n) hp hc hlies hl hg hn0 hs hC hfl (by omega))
theorem JqW {nm:ByteArray} {s:StN} {pv cv:Value} {lo lc:Nat} {size:Int} {C:List Int} (hp:J3x lo h pv nm s) (hc:JpX lc h cv size C) (h64:∀ x∈s.rows,x.kids≤9223372036854775807) (hl:s.rows.length<9000000) (hs:JdC s) (hC:C.length<9000000) (hfl:h.floor≤h.next) (hn:Jbg s+100400+C.length<n) :
  ∃ h',J0L Tryz.prog (J0T n) N 16 [pv,cv] h=some (J2k (fitE nm s size C) 0,h')∧∀ i,i<h.next→h'.get i=h.get i:=by
 obtain⟨vr,vq,vv,vt,vu,vo,rfl,p1,p2,p3,p4,p5,p6⟩:=id hp
 obtain⟨vc,rfl,pc⟩:=id hc
 refine J1N (R:=fun h'=>∀ i,i<h.next→h'.get i=h.get i) Tryz.func16 rfl (by simp[Tryz.f16]) ?_
 have hr:Tryz.f16.results.toList=[.cell 4 32]:=rfl
 have ca:(Value.agg #[.string nm,vr,vq,vv,vt,vu,vo,iv s.miss]).cells.toList=[.string nm,vr,vq,vv,vt,vu,vo,iv s.miss]:=rfl
 have oa:=all8 (nm:=nm) p1 p2 p3 p4 p5 p6
 have cb:(Value.agg #[iv size,vc]).cells.toList=[iv size,vc]:=rfl
 have ob:[iv size,vc].all one=true:=by simp only[List.all_cons,List.all_nil,J0p.one pc,J5K,Bool.and_self]
 have zc33:(Value.agg #[Value.int IntKind.i64 0,Value.int IntKind.i64 0]).cells.toList=[iv 0,iv 0]:=rfl
 have g0:∀ (a b c:SObj),let A:=((h.push a).push b).push c
   A.get h.next=a∧A.get (h.next+1)=b∧A.get (h.next+2)=c∧A.next=h.next+3∧A.floor=h.floor∧∀ i,i<h.next→A.get i=h.get i:=fun a b c=>
  ⟨by rw[J06 (by show h.next<h.next+2;omega)];exact J4c,by rw[J06 (by show h.next+1<h.next+2;omega)];exact J48,J0h (h:=(h.push a).push b),rfl,rfl,fun i hi=>by rw[J06 (by show i<h.next+2;omega),J06 (by show i<h.next+1;omega),J06 hi]⟩
 obtain⟨gA,gB,gF,nG,fG,gO⟩:=g0 (.row [.string nm,vr,vq,vv,vt,vu,vo,iv s.miss] 27 false false) (.row [iv size,vc] 39 false false) (.row [iv 0,iv 0] 32 false false)
 simp only[evC,seval,↓evP,rpD,J0X,J2t,ca,oa,cb,ob,sz30,szCp,J3C,J1t,zc33]
 generalize ((h.push (.row [.string nm,vr,vq,vv,vt,vu,vo,iv s.miss] 27 false false)).push (.row [iv size,vc] 39 false false)).push (.row [iv 0,iv 0] 32 false false)=Q at *
 have lA:ldN 8 0 (Q.get h.next)=some (.agg #[.string nm,vr,vq,vv,vt,vu,vo,iv s.miss]):=J9E gA rfl
 have lB:ldN 2 0 (Q.get (h.next+1))=some (.agg #[iv size,vc]):=by rw[gB];rfl
 have hpQ:J3x lo Q (.agg #[.string nm,vr,vq,vv,vt,vu,vo,iv s.miss]) nm s:=hp.mono (by omega) fun i _ hi=>gO i hi
 have hcQ:JpX lc Q (.agg #[iv size,vc]) size C:=hc.mono (by omega) fun i _ hi=>gO i hi
 have hchk:=JpH (n:=n) hpQ h64 hs hl (by omega) (by omega)
 have hfit:=JrK (n:=n) hpQ hcQ hC (by omega)
 have fin:∀ e:Int,∃ H',J0K Tryz.prog Q 32 (qP (h.next+2) 0) (J2k e 0)=some H'∧ldN 2 0 (H'.get (h.next+2))=some (J2k e 0)∧∀ i,i<h.next→H'.get i=h.get i:=fun e=>by
  refine⟨_,stW sz33 (vs:=[iv e,iv 0]) gF rfl rfl rfl (by omega),?_,fun i hi=>?_⟩
  ·rw[J0b rfl (by omega)]
   rfl
  ·rw[J05 (by omega) (by omega)]
   exact gO i hi
 have nn:h.next+1+1=h.next+2:=rfl
 cases d1:(JkA nm s != 0) with
 | true=>
  have e1:fitE nm s size C=JkA nm s:=by unfold fitE;rw[if_pos (by simpa using d1)]
  obtain⟨H',s1,s2,s3⟩:=fin (JkA nm s)
  rw[e1]
  simp only[evC,seval,↓evP,hr,nn,J1b,Jq3,lA,lB,hchk,d1,J96,s1,J2n,s2]
  exact s3
 | false=>
 have e1:JkA nm s=0:=by simpa using d1
 cases d2:Jq9 size C s.queues with
 | false=>
  have e2:fitE nm s size C=45:=by unfold fitE;rw[if_neg (by rw[e1];decide),if_neg (by rw[d2];decide)]
  obtain⟨H',s1,s2,s3⟩:=fin 45
  rw[e2]
  simp only[evC,seval,↓evP,hr,nn,J1b,Jq3,lA,lB,hchk,d1,hfit,d2,J96,s1,J2n,s2]
  exact s3
 | true=>
  have e2:fitE nm s size C=0:=by unfold fitE;rw[if_neg (by rw[e1];decide),if_pos d2]
  obtain⟨H',s1,s2,s3⟩:=fin 0
  rw[e2]
  simp only[evC,seval,↓evP,hr,nn,J1b,Jq3,lA,lB,hchk,d1,hfit,d2,J5n,s1,J2n,s2]
  exact s3
theorem JrO {nm:ByteArray} {s:StN} {pv cv:Value} {lo lc:Nat} {size:Int} {C:List Int} (hp:J3x lo h pv nm s) (hc:JpX lc h cv size C) (h64:∀ x∈s.rows,x.kids≤9223372036854775807) (hl:s.rows.length<9000000) (hs:JdC s) (hC:C.length<9000000) (hfl:h.floor≤h.next) (hn:Jbg s+100400+C.length+10<n):J0T n 16 [pv,cv] h=some (J2k (fitE nm s size C) 0,h):=by
 obtain⟨n,rfl⟩:∃ j,n=j+1:=⟨n-1,by omega⟩
 exact J4r (J13 ⟨rfl,rfl,rfl⟩) rfl (JqW (n:=n) (N:=n) hp hc h64 hl hs hC hfl (by omega))
end
noncomputable def Juc (nm:ByteArray) (s:StN) (size:Int) (C:List Int) (row:Int):Int × Int × Int:=
 if (Jsb nm s).1.1≠0 then (0,(Jsb nm s).1.1,(Jsb nm s).1.2) else if fitE nm s size C≠0 then (0,fitE nm s size C,0)
 else if row<0∨row≥(s.rows.length:Int) then (0,1,0) else match conN s.rows (endN (Jk8 s.rows)) size C row.toNat with
  | none=>(0,42,row)
  | some v=>(v,0,0)
theorem Jvn {nm:ByteArray} {s:StN} {size:Int} {C:List Int} (h:fitE nm s size C=0):FitC s size C:=by
 unfold fitE at h
 split at h
 ·rename_i hc;exact absurd h hc
 ·split at h
  ·rename_i hf;exact Jvs hf
  ·cases h
theorem Jvv:∀ k∈JbX,(typN k=0↔k<27):=by decide
theorem JuK {k:Int} (hk:1≤k∧k≤54):typN k=0↔k<27:=Jvv k (JcT hk)
theorem Jv2 {Z:List RowN} {s:StN} {size:Int} {C:List Int} (hG:GoodT Z s) {i:Nat} {x:RowN} (hx:s.rows[i]?=some x) (h:x.kind<27):conN s.rows (endN Z) size C i=none:=by
 have hu:unK x.kind=false:=by unfold unK;simp;omega
 have hb:binK x.kind=false:=by unfold binK;simp;omega
 rw[Juq hG hx,if_neg (by rw[hu];decide),if_neg (by rw[hb];decide)]
 unfold Jue
 rw[if_neg (by omega),if_neg (by omega),if_neg (by omega),if_neg (by omega),if_neg (by omega)]
theorem JuZ {v e a:Int}:J3m (.tuple #[iv v,J2k e a])=true:=by simp[J3m,flat,J1i]
section
variable {n N:Nat} {h:SHeap}
theorem JuF {nm:ByteArray} {s:StN} {Z:List RowN} {pv cv:Value} {lo lc:Nat} {size:Int} {C:List Int} (hG:GoodT Z s) (hF:FitC s size C) (hp:J3x lo h pv nm s) (hc:JpX lc h cv size C) (hl:s.rows.length<9000000) (hfl:h.floor≤h.next) (hn:s.rows.length+100<n) :
  ∃ h',J0T n 43 [pv,cv] h=some (.tuple #[qS (h.next+2) s.rows.length s.rows.length,qS (h.next+3) s.rows.length s.rows.length],h')∧∃ P Cp V I,KoH h h' P Cp V I∧KoV s.rows (conN s.rows (endN Z) size C) 0 V I:=by
 obtain⟨n,rfl⟩:∃ j,n=j+1:=⟨n-1,by omega⟩
 exact Jc0 (J13 ⟨rfl,rfl,rfl⟩) (by simp[J3m,flat,J1i]) (Jv9 (n:=n) (N:=n) hG hF hp hc hl hfl (by omega) (by omega))
def JvM:List (Bool × Bool × List Operand):=[fa0,fa3 [.tmp 9],fa0]
def JvO:List (Bool × Bool × List Operand):=[fa0,fa3 [.tmp 10],fa0]
def JvL:List (Bool × Bool × List Operand):=[fa0,fa3 [.tmp 9],fa0]
theorem JuI {nm:ByteArray} {s:StN} {pv cv:Value} {lo lc:Nat} {size:Int} {C:List Int} {row:Int} (hp:J3x lo h pv nm s) (hc:JpX lc h cv size C) (hlies:∀ nm' vr vq vv vt vu vo m,pv=.agg #[.string nm',vr,vq,vv,vt,vu,vo,m]→Lies vr s.rows.length) (hg:h.get 0=J14) (hn0:0<h.next) (hs:JdC s) (hl:s.rows.length<9000000) (hC:C.length<9000000) (hrow:-9223372036854775808≤row∧row≤9223372036854775807) (hfl:h.floor≤h.next) (hn:2*Jbg s+101000+C.length<n) (hN:2*Jbg s+1000<N) :
  ∃ h',J0L Tryz.prog (J0T n) N 17 [pv,cv,iv row] h=some (.tuple #[iv (Juc nm s size C row).1,J2k (Juc nm s size C row).2.1 (Juc nm s size C row).2.2],h')∧∀ i,i<h.next→h'.get i=h.get i:=by
 obtain⟨vr,vq,vv,vt,vu,vo,rfl,p1,p2,p3,p4,p5,p6⟩:=id hp
 obtain⟨vc,rfl,pc⟩:=id hc
 have hsn:=(J1z n).2
 have htot:Jbg s=s.rows.length+s.queues.length+s.vars.length+s.tags.length+s.rules.length+s.on.length:=rfl
 refine J1N (R:=fun h'=>∀ i,i<h.next→h'.get i=h.get i) Tryz.func17 rfl (by simp[Tryz.f17]) ?_
 have hr:Tryz.f17.results.toList=[.tmp 6,.cell 7 32]:=rfl
 have ca:(Value.agg #[.string nm,vr,vq,vv,vt,vu,vo,iv s.miss]).cells.toList=[.string nm,vr,vq,vv,vt,vu,vo,iv s.miss]:=rfl
 have oa:=all8 (nm:=nm) p1 p2 p3 p4 p5 p6
 have cb:(Value.agg #[iv size,vc]).cells.toList=[iv size,vc]:=rfl
 have ob:[iv size,vc].all one=true:=by simp only[List.all_cons,List.all_nil,J0p.one pc,J5K,Bool.and_self]
 have zc33:(Value.agg #[Value.int IntKind.i64 0,Value.int IntKind.i64 0]).cells.toList=[iv 0,iv 0]:=rfl
 have g0:∀ (a b c:SObj),let A:=((h.push a).push b).push c
   A.get h.next=a∧A.get (h.next+1)=b∧A.get (h.next+2)=c∧A.next=h.next+3∧A.floor=h.floor∧∀ i,i<h.next→A.get i=h.get i:=fun a b c=>
  ⟨by rw[J06 (by show h.next<h.next+2;omega)];exact J4c,by rw[J06 (by show h.next+1<h.next+2;omega)];exact J48,J0h (h:=(h.push a).push b),rfl,rfl,fun i hi=>by rw[J06 (by show i<h.next+2;omega),J06 (by show i<h.next+1;omega),J06 hi]⟩
 obtain⟨gA,gB,gF,nG,fG,gO⟩:=g0 (.row [.string nm,vr,vq,vv,vt,vu,vo,iv s.miss] 27 false false) (.row [iv size,vc] 39 false false) (.row [iv 0,iv 0] 32 false false)
 simp only[evC,seval,↓evP,rpD,J0X,J2t,ca,oa,cb,ob,sz30,szCp,J3C,J1t,zc33]
 generalize ((h.push (.row [.string nm,vr,vq,vv,vt,vu,vo,iv s.miss] 27 false false)).push (.row [iv size,vc] 39 false false)).push (.row [iv 0,iv 0] 32 false false)=Q at *
 have nn:h.next+1+1=h.next+2:=rfl
 have lA:ldN 8 0 (Q.get h.next)=some (.agg #[.string nm,vr,vq,vv,vt,vu,vo,iv s.miss]):=J9E gA rfl
 have hpQ:J3x lo Q (.agg #[.string nm,vr,vq,vv,vt,vu,vo,iv s.miss]) nm s:=hp.mono (by omega) fun i _ hi=>gO i hi
 have len1:=fun h'=>JfA p1.2 h'
 obtain⟨v2,H1,hty,⟨tv,hv2,hI⟩,f1,n1,o1⟩:=JtT (n:=n) hpQ hlies hs (by omega) (by rw[gO 0 hn0];exact hg) (by omega) (by omega) (by omega)
 subst hv2
 obtain⟨D,stD,gD,nD,fD,oD⟩:=Jsj (t:=32) sz33 (H:=H1) (zs:=[iv 0,iv 0]) (vs:=[iv (Jsb nm s).1.1,iv (Jsb nm s).1.2]) rfl rfl rfl (by omega)
 have stD':J0K Tryz.prog (H1.push (.row [iv 0,iv 0] 32 false false)) 32 (qP H1.next 0) (J2k (Jsb nm s).1.1 (Jsb nm s).1.2)=some D:=stD
 have oDQ:∀ i,i<Q.next→D.get i=Q.get i:=fun i hi=>by rw[oD i (by omega),o1 i hi]
 have oDh:∀ i,i<h.next→D.get i=h.get i:=fun i hi=>by rw[oDQ i (by omega)];exact gO i hi
 have e0:ld1 0 (D.get H1.next)=some (iv (Jsb nm s).1.1):=by rw[gD];rfl
 have gFD:D.get (h.next+2)=.row [iv 0,iv 0] 32 false false:=by rw[oDQ _ (by omega)];exact gF
 have lAD:ldN 8 0 (D.get h.next)=some (.agg #[.string nm,vr,vq,vv,vt,vu,vo,iv s.miss]):=by rw[oDQ _ (by omega)];exact lA
 have lBD:ldN 2 0 (D.get (h.next+1))=some (.agg #[iv size,vc]):=by rw[oDQ _ (by omega),gB];rfl
 have hpD:J3x lo D (.agg #[.string nm,vr,vq,vv,vt,vu,vo,iv s.miss]) nm s:=hp.mono (by omega) fun i _ hi=>oDh i hi
 have hcD:JpX lc D (.agg #[iv size,vc]) size C:=hc.mono (by omega) fun i _ hi=>oDh i hi
 cases d1:((Jsb nm s).1.1 != 0) with
 | true=>
  have eR:Juc nm s size C row=(0,(Jsb nm s).1.1,(Jsb nm s).1.2):=by unfold Juc;rw[if_pos (by simpa using d1)]
  rw[eR]
  obtain⟨H',s1,s2,s3,s4,s5⟩:=Jsm gFD (by omega) (by omega) (Jsb nm s).1.1 (Jsb nm s).1.2
  have lD:ldN 2 0 (D.get H1.next)=some (J2k (Jsb nm s).1.1 (Jsb nm s).1.2):=by rw[gD];rfl
  have hne:(H1.next==h.next+2)=false:=by simp;omega
  have fH':H'.fl D.floor=H':=by rw[← s4];exact J6L H'
  simp only[evC,seval,↓evP,nn,J1b,lA,hty,J3C,J1t,zc33,stD',Nat.zero_add,J6a,J7G,e0,d1]
  refine WK.flags (fs:=JvM) (by kernel_rfl) ?_
  unfold JvM
  iterate 3
   refine wcs hsn ?_
   simp only[rgC,seval,J04,J02,WKFC,rgL,rgK,J17,rgS,rgB,Option.bind_some,JcC,nn,J2n,lD,s1,fH',JiM,J1g,J0J,Jk2,J6L]
  refine JvR ?_
  simp only[evC,seval,↓evP,hr,nn,J2n,s2]
  exact fun i hi=>by rw[s5 i (by omega)];exact oDh i hi
 | false=>
 have z1:(Jsb nm s).1.1=0:=by simpa using d1
 obtain⟨hck,hG,hO,hz2⟩:=JuN z1
 have hfit:=JrB (n:=n) hpD hcD hlies (by omega) (by rw[oDh 0 hn0];exact hg) (by omega) hs (by omega) (by omega) (by omega)
 obtain⟨E,stE,gE,nE,fE,oE⟩:=Jsj (t:=32) sz33 (H:=D) (zs:=[iv 0,iv 0]) (vs:=[iv (fitE nm s size C),iv 0]) rfl rfl rfl (by omega)
 have stE':J0K Tryz.prog (D.push (.row [iv 0,iv 0] 32 false false)) 32 (qP D.next 0) (J2k (fitE nm s size C) 0)=some E:=stE
 have e1:ld1 0 (E.get D.next)=some (iv (fitE nm s size C)):=by rw[gE];rfl
 have oEh:∀ i,i<h.next→E.get i=h.get i:=fun i hi=>by rw[oE i (by omega)];exact oDh i hi
 have gFE:E.get (h.next+2)=.row [iv 0,iv 0] 32 false false:=by rw[oE _ (by omega)];exact gFD
 cases d2:(fitE nm s size C != 0) with
 | true=>
  have eR:Juc nm s size C row=(0,fitE nm s size C,0):=by unfold Juc;rw[if_neg (by rw[z1];decide),if_pos (by simpa using d2)]
  rw[eR]
  obtain⟨H',s1,s2,s3,s4,s5⟩:=Jsm gFE (by omega) (by omega) (fitE nm s size C) 0
  have lE:ldN 2 0 (E.get D.next)=some (J2k (fitE nm s size C) 0):=by rw[gE];rfl
  have hne:(D.next==h.next+2)=false:=by simp;omega
  have fH':H'.fl E.floor=H':=by rw[← s4];exact J6L H'
  simp only[evC,seval,↓evP,nn,J1b,lA,hty,J3C,J1t,zc33,stD',Nat.zero_add,J6a,J7G,e0,d1,lAD,Jq3,lBD,hfit,stE',e1,d2]
  refine WK.flags (fs:=JvO) (by kernel_rfl) ?_
  unfold JvO
  iterate 3
   refine wcs hsn ?_
   simp only[rgC,seval,J04,J02,WKFC,rgL,rgK,J17,rgS,rgB,Option.bind_some,JcC,nn,J2n,lE,s1,fH',JiM,J1g,J0J,Jk2,J6L]
  refine JvR ?_
  simp only[evC,seval,↓evP,hr,nn,J2n,s2]
  exact fun i hi=>by rw[s5 i (by omega)];exact oEh i hi
 | false=>
 have z2:fitE nm s size C=0:=by simpa using d2
 have hF:=Jvn z2
 have x1:ld1 1 (E.get h.next)=some vr:=by rw[oE _ (by omega),oDQ _ (by omega),gA];rfl
 have lAE:ldN 8 0 (E.get h.next)=some (.agg #[.string nm,vr,vq,vv,vt,vu,vo,iv s.miss]):=by rw[oE _ (by omega)];exact lAD
 have lBE:ldN 2 0 (E.get (h.next+1))=some (.agg #[iv size,vc]):=by rw[oE _ (by omega)];exact lBD
 have bad1:∀ b:Bool,b=true→(row<0∨row≥(s.rows.length:Int))→Juc nm s size C row=(0,1,0):=fun _ _ hb=>by unfold Juc;rw[if_neg (by rw[z1];decide),if_neg (by rw[z2];decide),if_pos hb]
 cases d3:decide (row<0) with
 | true=>
  rw[bad1 true rfl (.inl (by simpa using d3))]
  obtain⟨H',s1,s2,s3,s4,s5⟩:=Jsm gFE (by omega) (by omega) 1 0
  simp only[evC,seval,↓evP,hr,nn,J1b,lA,hty,J3C,J1t,zc33,stD',Nat.zero_add,J6a,J7G,e0,d1,lAD,Jq3,lBD,hfit,stE',e1,d2,d3,J96,s1,J2n,s2]
  exact fun i hi=>by rw[s5 i (by omega)];exact oEh i hi
 | false=>
 cases d4:decide (row≥(s.rows.length:Int)) with
 | true=>
  rw[bad1 true rfl (.inr (by simpa using d4))]
  obtain⟨H',s1,s2,s3,s4,s5⟩:=Jsm gFE (by omega) (by omega) 1 0
  simp only[evC,seval,↓evP,hr,nn,J1b,lA,hty,J3C,J1t,zc33,stD',Nat.zero_add,J6a,J7G,e0,d1,lAD,Jq3,lBD,hfit,stE',e1,d2,d3,J0y,J0F,x1,len1,d4,J96,s1,J2n,s2]
  exact fun i hi=>by rw[s5 i (by omega)];exact oEh i hi
 | false=>
 have h3:¬ row<0:=by simpa using d3
 have h4:¬ row≥(s.rows.length:Int):=by simpa using d4
 obtain⟨m,hm⟩:∃ m:Nat,row=(m:Int):=⟨row.toNat,by omega⟩
 subst hm
 have hml:m<s.rows.length:=by omega
 obtain⟨H5,hcon,PP,CC,V,I,hT,hV⟩:=JuF (n:=n) (h:=E) hG hF (hp.mono (by omega) fun i _ hi=>oEh i hi) (hc.mono (by omega) fun i _ hi=>oEh i hi) hl (by omega) (by omega)
 obtain⟨hV1,hV2,hV3⟩:=hV
 obtain⟨hvm,him⟩:=(hV3 m hml).1 (Nat.zero_le _)
 have hnx:=hT.n
 have hfl5:=hT.fl
 have ho5:=hT.o
 have ixv:=J1F (id:=E.next+2) (n:=s.rows.length) (c:=s.rows.length) (i:=m) hml
 have ixb:=idxB (id:=E.next+3) (n:=s.rows.length) (c:=s.rows.length) (i:=m) hml
 have lb:ld1 m (H5.get (E.next+3))=some (.bool (conN s.rows (endN (Jk8 s.rows)) size C m).isSome):=by rw[hT.b];exact Jst him
 have lv:ld1 m (H5.get (E.next+2))=some (iv ((conN s.rows (endN (Jk8 s.rows)) size C m).getD 0)):=by rw[hT.v];exact J2z hvm
 have gF5:H5.get (h.next+2)=.row [iv 0,iv 0] 32 false false:=by rw[ho5 _ (by omega)];exact gFE
 have eR:Juc nm s size C (m:Int)=(match conN s.rows (endN (Jk8 s.rows)) size C m with
  | none=>(0,42,(m:Int))
  | some v=>(v,0,0)):=by unfold Juc;rw[if_neg (by rw[z1];decide),if_neg (by rw[z2];decide),if_neg (by omega),Int.toNat_natCast]
 rw[eR]
 cases hcm:conN s.rows (endN (Jk8 s.rows)) size C m with
 | none=>
  rw[hcm] at lb
  obtain⟨H',s1,s2,s3,s4,s5⟩:=Jsm gF5 (by omega) (by omega) 42 m
  simp only[evC,seval,↓evP,hr,nn,J1b,lA,hty,J3C,J1t,zc33,stD',Nat.zero_add,J6a,J7G,e0,d1,lAD,Jq3,lBD,hfit,stE',e1,d2,d3,J0y,J0F,x1,len1,d4,lAE,lBE,hcon,ixb,J1V,lb,Option.isSome_none,J4G,s1,J2n,s2]
  exact fun i hi=>by rw[s5 i (by omega),ho5 i (by omega)];exact oEh i hi
 | some v=>
  rw[hcm] at lb lv
  obtain⟨H',s1,s2,s3,s4,s5⟩:=Jsm gF5 (by omega) (by omega) 0 0
  simp only[evC,seval,↓evP,hr,nn,J1b,lA,hty,J3C,J1t,zc33,stD',Nat.zero_add,J6a,J7G,e0,d1,lAD,Jq3,lBD,hfit,stE',e1,d2,d3,J0y,J0F,x1,len1,d4,lAE,lBE,hcon,ixb,J1V,lb,Option.isSome_some,ixv,J0m,lv,Option.getD_some,J5n,s1,J2n,s2]
  exact fun i hi=>by rw[s5 i (by omega),ho5 i (by omega)];exact oEh i hi
theorem Jvh {nm:ByteArray} {s:StN} {pv cv:Value} {lo lc:Nat} {size:Int} {C:List Int} {row:Int} (hp:J3x lo h pv nm s) (hc:JpX lc h cv size C) (hlies:∀ nm' vr vq vv vt vu vo m,pv=.agg #[.string nm',vr,vq,vv,vt,vu,vo,m]→Lies vr s.rows.length) (hg:h.get 0=J14) (hn0:0<h.next) (hs:JdC s) (hl:s.rows.length<9000000) (hC:C.length<9000000) (hrow:-9223372036854775808≤row∧row≤9223372036854775807) (hfl:h.floor≤h.next) (hn:2*Jbg s+102000+C.length<n) :
  J0T n 17 [pv,cv,iv row] h=some (.tuple #[iv (Juc nm s size C row).1,J2k (Juc nm s size C row).2.1 (Juc nm s size C row).2.2],h):=by
 obtain⟨n,rfl⟩:∃ j,n=j+1:=⟨n-1,by omega⟩
 exact J4r (J13 ⟨rfl,rfl,rfl⟩) JuZ (JuI (n:=n) (N:=n) hp hc hlies hg hn0 hs hl hC hrow hfl (by omega) (by omega))
theorem JuE {nm:ByteArray} {s:StN} {pv cv:Value} {lo lc:Nat} {size:Int} {C:List Int} {row:Int} (hp:J3x lo h pv nm s) (hc:JpX lc h cv size C) (h64:∀ x∈s.rows,x.kids≤9223372036854775807) (hs:JdC s) (hl:s.rows.length<9000000) (hC:C.length<9000000) (hrow:-9223372036854775808≤row∧row≤9223372036854775807) (hfl:h.floor≤h.next) (hn:2*Jbg s+101000+C.length<n) (hN:2*Jbg s+1000<N) :
  ∃ h',J0L Tryz.prog (J0T n) N 18 [pv,cv,iv row] h=some (.tuple #[iv (Juc nm s size C row).1,J2k (Juc nm s size C row).2.1 (Juc nm s size C row).2.2],h')∧∀ i,i<h.next→h'.get i=h.get i:=by
 obtain⟨vr,vq,vv,vt,vu,vo,rfl,p1,p2,p3,p4,p5,p6⟩:=id hp
 obtain⟨vc,rfl,pc⟩:=id hc
 have hsn:=(J1z n).2
 have htot:Jbg s=s.rows.length+s.queues.length+s.vars.length+s.tags.length+s.rules.length+s.on.length:=rfl
 refine J1N (R:=fun h'=>∀ i,i<h.next→h'.get i=h.get i) Tryz.func18 rfl (by simp[Tryz.f18]) ?_
 have hr:Tryz.f18.results.toList=[.tmp 6,.cell 7 32]:=rfl
 have ca:(Value.agg #[.string nm,vr,vq,vv,vt,vu,vo,iv s.miss]).cells.toList=[.string nm,vr,vq,vv,vt,vu,vo,iv s.miss]:=rfl
 have oa:=all8 (nm:=nm) p1 p2 p3 p4 p5 p6
 have cb:(Value.agg #[iv size,vc]).cells.toList=[iv size,vc]:=rfl
 have ob:[iv size,vc].all one=true:=by simp only[List.all_cons,List.all_nil,J0p.one pc,J5K,Bool.and_self]
 have zc33:(Value.agg #[Value.int IntKind.i64 0,Value.int IntKind.i64 0]).cells.toList=[iv 0,iv 0]:=rfl
 have g0:∀ (a b c:SObj),let A:=((h.push a).push b).push c
   A.get h.next=a∧A.get (h.next+1)=b∧A.get (h.next+2)=c∧A.next=h.next+3∧A.floor=h.floor∧∀ i,i<h.next→A.get i=h.get i:=fun a b c=>
  ⟨by rw[J06 (by show h.next<h.next+2;omega)];exact J4c,by rw[J06 (by show h.next+1<h.next+2;omega)];exact J48,J0h (h:=(h.push a).push b),rfl,rfl,fun i hi=>by rw[J06 (by show i<h.next+2;omega),J06 (by show i<h.next+1;omega),J06 hi]⟩
 obtain⟨gA,gB,gF,nG,fG,gO⟩:=g0 (.row [.string nm,vr,vq,vv,vt,vu,vo,iv s.miss] 27 false false) (.row [iv size,vc] 39 false false) (.row [iv 0,iv 0] 32 false false)
 simp only[evC,seval,↓evP,rpD,J0X,J2t,ca,oa,cb,ob,sz30,szCp,J3C,J1t,zc33]
 generalize ((h.push (.row [.string nm,vr,vq,vv,vt,vu,vo,iv s.miss] 27 false false)).push (.row [iv size,vc] 39 false false)).push (.row [iv 0,iv 0] 32 false false)=Q at *
 have nn:h.next+1+1=h.next+2:=rfl
 have lA:ldN 8 0 (Q.get h.next)=some (.agg #[.string nm,vr,vq,vv,vt,vu,vo,iv s.miss]):=J9E gA rfl
 have hpQ:J3x lo Q (.agg #[.string nm,vr,vq,vv,vt,vu,vo,iv s.miss]) nm s:=hp.mono (by omega) fun i _ hi=>gO i hi
 have len1:=fun h'=>JfA p1.2 h'
 obtain⟨v2,H1,hty,⟨tv,hv2,hI⟩,f1,n1,o1⟩:=Jtv (n:=n) hpQ h64 hs hl (by omega) (by omega)
 subst hv2
 obtain⟨D,stD,gD,nD,fD,oD⟩:=Jsj (t:=32) sz33 (H:=H1) (zs:=[iv 0,iv 0]) (vs:=[iv (Jsb nm s).1.1,iv (Jsb nm s).1.2]) rfl rfl rfl (by omega)
 have stD':J0K Tryz.prog (H1.push (.row [iv 0,iv 0] 32 false false)) 32 (qP H1.next 0) (J2k (Jsb nm s).1.1 (Jsb nm s).1.2)=some D:=stD
 have oDQ:∀ i,i<Q.next→D.get i=Q.get i:=fun i hi=>by rw[oD i (by omega),o1 i hi]
 have oDh:∀ i,i<h.next→D.get i=h.get i:=fun i hi=>by rw[oDQ i (by omega)];exact gO i hi
 have e0:ld1 0 (D.get H1.next)=some (iv (Jsb nm s).1.1):=by rw[gD];rfl
 have gFD:D.get (h.next+2)=.row [iv 0,iv 0] 32 false false:=by rw[oDQ _ (by omega)];exact gF
 have lAD:ldN 8 0 (D.get h.next)=some (.agg #[.string nm,vr,vq,vv,vt,vu,vo,iv s.miss]):=by rw[oDQ _ (by omega)];exact lA
 have lBD:ldN 2 0 (D.get (h.next+1))=some (.agg #[iv size,vc]):=by rw[oDQ _ (by omega),gB];rfl
 have hpD:J3x lo D (.agg #[.string nm,vr,vq,vv,vt,vu,vo,iv s.miss]) nm s:=hp.mono (by omega) fun i _ hi=>oDh i hi
 have hcD:JpX lc D (.agg #[iv size,vc]) size C:=hc.mono (by omega) fun i _ hi=>oDh i hi
 have gF2:∀ H:SHeap,(∀ i,i<Q.next→H.get i=Q.get i)→H.get (h.next+2)=.row [iv 0,iv 0] 32 false false:=fun H hH=>by rw[hH _ (by omega)];exact gF
 cases d1:((Jsb nm s).1.1==0) with
 | false=>
  have d1':((Jsb nm s).1.1 != 0)=true:=by rw[bne,d1];rfl
  have eR:Juc nm s size C row=(0,(Jsb nm s).1.1,(Jsb nm s).1.2):=by unfold Juc;rw[if_pos (by simpa using d1')]
  rw[eR]
  obtain⟨H',s1,s2,s3,s4,s5⟩:=Jsm gFD (by omega) (by omega) (Jsb nm s).1.1 (Jsb nm s).1.2
  have lD:ldN 2 0 (D.get H1.next)=some (J2k (Jsb nm s).1.1 (Jsb nm s).1.2):=by rw[gD];rfl
  have fH':H'.fl D.floor=H':=by rw[← s4];exact J6L H'
  simp only[evC,seval,↓evP,nn,J1b,lA,hty,J3C,J1t,zc33,stD',Nat.zero_add,J6a,J7G,e0,d1,d1']
  refine WK.flags (fs:=JvL) (by kernel_rfl) ?_
  unfold JvL
  iterate 3
   refine wcs hsn ?_
   simp only[rgC,seval,J04,J02,WKFC,rgL,rgK,J17,rgS,rgB,Option.bind_some,JcC,nn,J2n,lD,s1,fH',JiM,J1g,J0J,Jk2,J6L]
  refine JvR ?_
  simp only[evC,seval,↓evP,hr,nn,J2n,s2]
  exact fun i hi=>by rw[s5 i (by omega)];exact oDh i hi
 | true=>
 have z1:(Jsb nm s).1.1=0:=by simpa using d1
 obtain⟨hck,hG,hO,hz2⟩:=JuN z1
 have hfit:=JrO (n:=n) hpD hcD h64 hl hs (by omega) (by omega) (by omega)
 have stE:=stW (t:=32) sz33 (h:=D) (vs:=[iv (fitE nm s size C),iv 0]) gD rfl rfl rfl (by omega)
 have stE':J0K Tryz.prog D 32 (qP H1.next 0) (J2k (fitE nm s size C) 0)=some (D.put H1.next (.row [iv (fitE nm s size C),iv 0] 32 false false)):=stE
 have gE:(D.put H1.next (.row [iv (fitE nm s size C),iv 0] 32 false false)).get H1.next=.row [iv (fitE nm s size C),iv 0] 32 false false:=J0b rfl (by omega)
 have nE:(D.put H1.next (.row [iv (fitE nm s size C),iv 0] 32 false false)).next=D.next:=rfl
 have fE:(D.put H1.next (.row [iv (fitE nm s size C),iv 0] 32 false false)).floor=D.floor:=rfl
 have oE:∀ i,i≠H1.next→(D.put H1.next (.row [iv (fitE nm s size C),iv 0] 32 false false)).get i=D.get i:=fun i hi=>J05 (by omega) (Ne.symm hi)
 generalize D.put H1.next (.row [iv (fitE nm s size C),iv 0] 32 false false)=E at *
 have e1:ld1 0 (E.get H1.next)=some (iv (fitE nm s size C)):=by rw[gE];rfl
 have oEh:∀ i,i<h.next→E.get i=h.get i:=fun i hi=>by rw[oE i (by omega)];exact oDh i hi
 have gFE:E.get (h.next+2)=.row [iv 0,iv 0] 32 false false:=by rw[oE _ (by omega)];exact gFD
 cases d2:(fitE nm s size C != 0) with
 | true=>
  have eR:Juc nm s size C row=(0,fitE nm s size C,0):=by unfold Juc;rw[if_neg (by rw[z1];decide),if_pos (by simpa using d2)]
  rw[eR]
  obtain⟨H',s1,s2,s3,s4,s5⟩:=Jsm gFE (by omega) (by omega) (fitE nm s size C) 0
  have lE:ldN 2 0 (E.get H1.next)=some (J2k (fitE nm s size C) 0):=by rw[gE];rfl
  have fH':H'.fl E.floor=H':=by rw[← s4];exact J6L H'
  simp only[evC,seval,↓evP,nn,J1b,lA,hty,J3C,J1t,zc33,stD',Nat.zero_add,J6a,J7G,e0,d1,lAD,Jq3,lBD,hfit,stE',e1,d2]
  refine WK.flags (fs:=JvL) (by kernel_rfl) ?_
  unfold JvL
  iterate 3
   refine wcs hsn ?_
   simp only[rgC,seval,J04,J02,WKFC,rgL,rgK,J17,rgS,rgB,Option.bind_some,JcC,nn,J2n,lE,s1,fH',JiM,J1g,J0J,Jk2,J6L]
  refine JvR ?_
  simp only[evC,seval,↓evP,hr,nn,J2n,s2]
  exact fun i hi=>by rw[s5 i (by omega)];exact oEh i hi
 | false=>
 have z2:fitE nm s size C=0:=by simpa using d2
 have hF:=Jvn z2
 have gAE:E.get h.next=.row [.string nm,vr,vq,vv,vt,vu,vo,iv s.miss] 27 false false:=by rw[oE _ (by omega),oDQ _ (by omega)];exact gA
 have x1:ld1 1 (E.get h.next)=some vr:=by rw[gAE];rfl
 have lAE:ldN 8 0 (E.get h.next)=some (.agg #[.string nm,vr,vq,vv,vt,vu,vo,iv s.miss]):=J9E gAE rfl
 have lBE:ldN 2 0 (E.get (h.next+1))=some (.agg #[iv size,vc]):=by rw[oE _ (by omega)];exact lBD
 have bad1:∀ b:Bool,b=true→(row<0∨row≥(s.rows.length:Int))→Juc nm s size C row=(0,1,0):=fun _ _ hb=>by unfold Juc;rw[if_neg (by rw[z1];decide),if_neg (by rw[z2];decide),if_pos hb]
 cases d3:decide (row<0) with
 | true=>
  rw[bad1 true rfl (.inl (by simpa using d3))]
  obtain⟨H',s1,s2,s3,s4,s5⟩:=Jsm gFE (by omega) (by omega) 1 0
  simp only[evC,seval,↓evP,hr,nn,J1b,lA,hty,J3C,J1t,zc33,stD',Nat.zero_add,J6a,J7G,e0,d1,lAD,Jq3,lBD,hfit,stE',e1,d2,d3,J96,s1,J2n,s2]
  exact fun i hi=>by rw[s5 i (by omega)];exact oEh i hi
 | false=>
 cases d4:decide (row≥(s.rows.length:Int)) with
 | true=>
  rw[bad1 true rfl (.inr (by simpa using d4))]
  obtain⟨H',s1,s2,s3,s4,s5⟩:=Jsm gFE (by omega) (by omega) 1 0
  simp only[evC,seval,↓evP,hr,nn,J1b,lA,hty,J3C,J1t,zc33,stD',Nat.zero_add,J6a,J7G,e0,d1,lAD,Jq3,lBD,hfit,stE',e1,d2,d3,J0y,J0F,x1,len1,d4,J96,s1,J2n,s2]
  exact fun i hi=>by rw[s5 i (by omega)];exact oEh i hi
 | false=>
 have h3:¬ row<0:=by simpa using d3
 have h4:¬ row≥(s.rows.length:Int):=by simpa using d4
 obtain⟨m,hm⟩:∃ m:Nat,row=(m:Int):=⟨row.toNat,by omega⟩
 subst hm
 have hml:m<s.rows.length:=by omega
 obtain⟨x,hx⟩:∃ x,s.rows[m]?=some x:=⟨_,List.getElem?_eq_getElem hml⟩
 have hvE:J0l E vr s.rows:=p1.1.mono (by omega) oEh
 obtain⟨ia,pa,ea,hia,la,_⟩:=hvE.row hx
 have kx:=hG.ks m x hx
 have htd:=JtH (n:=n) (h:=E) kx (by omega)
 obtain⟨zz,hzz,_,_⟩:=hG.z hx
 have hend:=Ju1 (n:=n) (h:=E) hG.sk hvE (hG.t.end (List.getElem?_eq_some_iff.1 hzz).1) (by omega) (by omega)
 obtain⟨_,_,hel,hei⟩:=hG.kids0 hx
 have eR:Juc nm s size C (m:Int)=(match conN s.rows (endN (Jk8 s.rows)) size C m with
  | none=>(0,42,(m:Int))
  | some v=>(v,0,0)):=by unfold Juc;rw[if_neg (by rw[z1];decide),if_neg (by rw[z2];decide),if_neg (by omega),Int.toNat_natCast]
 rw[eR]
 simp only[evC,seval,↓evP,nn,J1b,lA,hty,J3C,J1t,zc33,stD',Nat.zero_add,J6a,J7G,e0,d1,lAD,Jq3,lBD,hfit,stE',e1,d2,d3,J0y,J0F,x1,len1,d4,ea,J0t,J0m,la,htd]
 refine WK.loop (fun k s'=>s'.T.get 2=iv (m:Int)∧s'.T.get 3=qP h.next 0∧s'.T.get 4=qP (h.next+1) 0∧s'.T.get 7=qP (h.next+2) 0∧s'.T.get 11=iv ((m+k:Nat):Int)∧s'.h=E∧m+k≤endN (Jk8 s.rows) m∧∃ b:Bool,s'.T.get 10=.bool b∧(b=false↔(typN x.kind≠0∧∀ (j:Nat) (y:RowN),m≤j→j<m+k→s.rows[j]?=some y→Jsi y.kind=false))) (endN (Jk8 s.rows) m-m) (by omega) ?_ ?_
 ·exact⟨by simp only[evC,seval,↓evP,rpC],by simp only[evC,seval,↓evP,rpC],by simp only[evC,seval,↓evP,rpC],by simp only[evC,seval,↓evP,rpC,nn],by simp only[evC,seval,↓evP,rpC] <;> rfl,rfl,by omega,(typN x.kind==0),by simp only[evC,seval,↓evP,rpC],by
   rw[beq_eq_false_iff_ne]
   exact⟨fun h9=>⟨h9,fun j y h1 h2=>by omega⟩,fun h9=>h9.1⟩⟩
 rintro k ⟨T,H⟩ hk ⟨t2,t3,t4,t7,t11,hh,hke,b,t10,hbv⟩
 simp only at t2 t3 t4 t7 t11 hh t10
 subst hh
 by_cases hlt:m+k<endN (Jk8 s.rows) m
 ·have c1:decide (((m+k:Nat):Int)<((endN (Jk8 s.rows) m:Nat):Int))=true:=by simp;omega
  obtain⟨y,hy⟩:∃ y,s.rows[m+k]?=some y:=⟨_,List.getElem?_eq_getElem (by omega)⟩
  obtain⟨ib,pb,eb,hib,lb,_⟩:=hvE.row hy
  have hfr:=Ju5 (n:=n) (h:=H) (hG.ks _ y hy) (by omega)
  have w1:IntKind.i64.wrap (((m+k:Nat):Int)+1)=((m+(k+1):Nat):Int):=J0s (by omega) (by omega)
  cases b with
  | true=>
   simp only[evC,seval,↓evP,t2,t3,t4,t7,t11,t10,Nat.zero_add,J0y,J0F,x1,hend,c1,w1]
   refine⟨by omega,by omega,_,rfl,?_⟩
   constructor
   ·intro h9;cases h9
   ·intro h9
    exact absurd (hbv.2 ⟨h9.1,fun j y h1 h2=>h9.2 j y h1 (by omega)⟩) (by decide)
  | false=>
   obtain⟨ha,hb⟩:=hbv.1 rfl
   simp only[evC,seval,↓evP,t2,t3,t4,t7,t11,t10,Nat.zero_add,J0y,J0F,x1,hend,c1,eb,J0t,J0m,lb,hfr,w1]
   refine⟨by omega,by omega,_,rfl,?_⟩
   constructor
   ·intro h9
    refine⟨ha,fun j y' h1 h2 h3=>?_⟩
    rcases Nat.lt_or_ge j (m+k) with h5 | h5
    ·exact hb j y' h1 h5 h3
    ·have:j=m+k:=by omega
     subst this
     rw[hy] at h3
     cases h3
     exact h9
   ·intro h9
    exact h9.2 (m+k) y (by omega) (by omega) hy
 have c1:decide (((m+k:Nat):Int)<((endN (Jk8 s.rows) m:Nat):Int))=false:=by simp;omega
 have hke2:m+k=endN (Jk8 s.rows) m:=by omega
 rw[hke2] at hbv
 have hcf:b=false↔(conN s.rows (endN (Jk8 s.rows)) size C m).isSome=true:=by
  rw[hbv]
  rcases Int.lt_or_le x.kind 27 with h9 | h9
  ·rw[Jv2 hG hx h9]
   exact⟨fun h8=>absurd ((JuK kx).2 h9) h8.1,fun h8=>by cases h8⟩
  ·rw[Jup hG s.rows.length m x (by omega) hx h9]
   exact⟨fun h8=>h8.2,fun h8=>⟨fun h7=>by have:=(JuK kx).1 h7;omega,h8⟩⟩
 cases hcm:conN s.rows (endN (Jk8 s.rows)) size C m with
 | none=>
  have hb1:b=true:=by
   cases b with
   | true=>rfl
   | false=>rw[hcm] at hcf;have:=hcf.1 rfl;cases this
  subst hb1
  obtain⟨H',s1,s2,s3,s4,s5⟩:=Jsm gFE (by omega) (by omega) 42 m
  simp only[evC,seval,↓evP,hr,t2,t3,t4,t7,t11,t10,Nat.zero_add,J0y,J0F,x1,hend,c1,J4G,s1,J2n,s2]
  exact fun i hi=>by rw[s5 i (by omega)];exact oEh i hi
 | some v=>
  have hb1:b=false:=hcf.2 (by rw[hcm];rfl)
  subst hb1
  have h27:27≤x.kind:=by
   rcases Int.lt_or_le x.kind 27 with h9 | h9
   ·rw[Jv2 hG hx h9] at hcm;cases hcm
   ·exact h9
  have hval:=JuU (lo:=lo) (lc:=lc) hG hO hF hl s.rows.length n m x v H (by omega) (by omega) hx h27 hcm (hp.mono (by omega) fun i _ hi=>oEh i hi) (hc.mono (by omega) fun i _ hi=>oEh i hi) (by omega)
  obtain⟨H',s1,s2,s3,s4,s5⟩:=Jsm gFE (by omega) (by omega) 0 0
  simp only[evC,seval,↓evP,hr,t2,t3,t4,t7,t11,t10,Nat.zero_add,J0y,J0F,x1,hend,c1,J1b,lAE,Jq3,lBE,hval,J5n,s1,J2n,s2]
  exact fun i hi=>by rw[s5 i (by omega)];exact oEh i hi
theorem Jv7 {nm:ByteArray} {s:StN} {pv cv:Value} {lo lc:Nat} {size:Int} {C:List Int} {row:Int} (hp:J3x lo h pv nm s) (hc:JpX lc h cv size C) (h64:∀ x∈s.rows,x.kids≤9223372036854775807) (hs:JdC s) (hl:s.rows.length<9000000) (hC:C.length<9000000) (hrow:-9223372036854775808≤row∧row≤9223372036854775807) (hfl:h.floor≤h.next) (hn:2*Jbg s+102000+C.length<n) :
  J0T n 18 [pv,cv,iv row] h=some (.tuple #[iv (Juc nm s size C row).1,J2k (Juc nm s size C row).2.1 (Juc nm s size C row).2.2],h):=by
 obtain⟨n,rfl⟩:∃ j,n=j+1:=⟨n-1,by omega⟩
 exact J4r (J13 ⟨rfl,rfl,rfl⟩) JuZ (JuE (n:=n) (N:=n) hp hc h64 hs hl hC hrow hfl (by omega) (by omega))
end
theorem Jtx {e a:Int}:∀ x y,binS Tryz.prog .eql 32 x y (J2k e a) (J2k e a)=some (.bool true):=fun x y=>by
 have:=eq33 (x:=x) (y:=y) (a:=e) (b:=a) (c:=e) (d:=a)
 simpa using this
section
variable {n:Nat} {h:SHeap}
theorem JuA {nm:ByteArray} {s:StN} {pv cv:Value} {size:Int} {C:List Int} {row:Int} (hp:J3x 0 h pv nm s) (hc:JpX 0 h cv size C) (h64:∀ x∈s.rows,x.kids≤9223372036854775807) (hrow:-9223372036854775808≤row∧row≤9223372036854775807) (hb:Jbg s<2000000) (hC:C.length<2000000) (hfl:h.floor≤h.next) (hg:h.get 0=J14) (hn0:0<h.next) (hn:9000000<n) :
  ∃ h',J0L Tryz.prog (JqX n) n 5 [pv,cv,iv row] h=some (.bool true,h')∧True:=by
 obtain⟨vr,vq,vv,vt,vu,vo,rfl,p1,p2,p3,p4,p5,p6⟩:=id hp
 obtain⟨vc,rfl,pc⟩:=id hc
 have hsn:=(Jqk n).2
 have htot:Jbg s=s.rows.length+s.queues.length+s.vars.length+s.tags.length+s.rules.length+s.on.length:=rfl
 have hsm:JdC s:=by unfold JdC;omega
 refine J1N (R:=fun _=>True) Tryz.func5 rfl (by simp[Tryz.f5]) ?_
 have hr:Tryz.f5.results.toList=[.tmp 6]:=rfl
 have ca:(Value.agg #[.string nm,vr,vq,vv,vt,vu,vo,iv s.miss]).cells.toList=[.string nm,vr,vq,vv,vt,vu,vo,iv s.miss]:=rfl
 have oa:=all8 (nm:=nm) p1 p2 p3 p4 p5 p6
 have cb:(Value.agg #[iv size,vc]).cells.toList=[iv size,vc]:=rfl
 have ob:[iv size,vc].all one=true:=by simp only[List.all_cons,List.all_nil,J0p.one pc,J5K,Bool.and_self]
 have zc30:zPol.cells.toList=zPc:=rfl
 have zcC:(Value.agg #[iv 0,Z0]).cells.toList=[iv 0,Z0]:=rfl
 have zc33:(Value.agg #[Value.int IntKind.i64 0,Value.int IntKind.i64 0]).cells.toList=[iv 0,iv 0]:=rfl
 have g0:∀ (a b:SObj),let A:=(h.push a).push b
   A.get h.next=a∧A.get (h.next+1)=b∧A.next=h.next+2∧A.floor=h.floor∧∀ i,i<h.next→A.get i=h.get i:=fun a b=>
  ⟨J4c,J48,rfl,rfl,fun i hi=>by rw[J06 (by show i<h.next+1;omega),J06 hi]⟩
 obtain⟨gA,gB,nA,fA,gO⟩:=g0 (.row [.string nm,vr,vq,vv,vt,vu,vo,iv s.miss] 27 false false) (.row [iv size,vc] 39 false false)
 simp only[evC,seval,↓evP,rpD,J0X,J2t,ca,oa,cb,ob,sz30,szCp]
 generalize (h.push (.row [.string nm,vr,vq,vv,vt,vu,vo,iv s.miss] 27 false false)).push (.row [iv size,vc] 39 false false)=A at *
 have lA:ldN 8 0 (A.get h.next)=some (.agg #[.string nm,vr,vq,vv,vt,vu,vo,iv s.miss]):=J9E gA rfl
 have lC:ldN 2 0 (A.get (h.next+1))=some (.agg #[iv size,vc]):=by rw[gB];rfl
 have x1:ld1 1 (A.get (h.next+1))=some vc:=by rw[gB];rfl
 have hhd:=JrR (n:=n) (h:=A) (by rw[gO 0 hn0];exact hg)
 have hpA:J3x 0 A (.agg #[.string nm,vr,vq,vv,vt,vu,vo,iv s.miss]) nm s:=hp.mono (by omega) fun i _ hi=>gO i hi
 obtain⟨v1,H1,hk1,hL,n1,f1,o1⟩:=JrC (n:=n) hpA hsm (by omega) (by omega) (by omega)
 have hk1':=x_k (n:=n) (by decide) hk1
 have hv1:=hL.v
 obtain⟨B,stB,gB1,nB,fB,oB⟩:=Jsj (t:=27) sz30 (H:=H1) (zs:=zPc) (vs:=[.string nm,qS (A.next+3) s.rows.length (s.rows.length+9),qS (A.next+3+1) s.queues.length (s.queues.length+3),qS (A.next+3+2) s.vars.length (s.vars.length+3),qS (A.next+3+3) s.tags.length (s.tags.length+3),qS (A.next+3+4) s.rules.length (s.rules.length+5),qS (A.next+3+5) s.on.length (s.on.length+5),iv s.miss]) rfl rfl rfl (by omega)
 rw[← hv1] at stB
 have oBA:∀ i,i<A.next→B.get i=A.get i:=fun i hi=>by rw[oB i (by omega),o1 i hi]
 have lCB:ldN 2 0 (B.get (h.next+1))=some (.agg #[iv size,vc]):=by rw[oBA _ (by omega)];exact lC
 have hcB:JpX 0 B (.agg #[iv size,vc]) size C:=hc.mono (by omega) fun i _ hi=>by rw[oBA i (by omega),gO i hi]
 obtain⟨v2,H2,hk2,hM,n2,f2,o2⟩:=JrJ (n:=n) hcB (by omega) (by omega) (by omega)
 have hk2':=x_k (n:=n) (by decide) hk2
 have hv2:=hM.v
 obtain⟨D,stD,gD1,nD,fD,oD⟩:=Jsj (t:=39) szCp (H:=H2) (zs:=[iv 0,Z0]) (vs:=[iv size,qS (B.next+2) C.length (C.length+5)]) rfl rfl rfl (by omega)
 rw[← hv2] at stD
 have oDB:∀ i,i<B.next→D.get i=B.get i:=fun i hi=>by rw[oD i (by omega),o2 i hi]
 have lP:ldN 8 0 (D.get H1.next)=some v1:=by rw[oDB _ (by omega),hv1];exact J9E gB1 rfl
 have lM:ldN 2 0 (D.get H2.next)=some v2:=by rw[hv2,gD1];rfl
 have hLD:Lent8 D (A.next+3) v1 nm s:=hL.mono (by omega) fun i h1 h2=>by rw[oDB i (by omega),oB i (by omega)]
 have hMD:LentCp D (B.next+2) v2 size C:=hM.mono (by omega) (oD _ (by omega))
 have hfit:=Jvh (n:=n) (row:=row) hLD.pol hMD.caps hLD.lies (by rw[oDB 0 (by omega),oBA 0 (by omega),gO 0 hn0];exact hg) (by omega) hsm (by omega) (by omega) hrow (by omega) (by omega)
 have hfit':=x_k (n:=n) (by decide) hfit
 obtain⟨E,stE,gE1,nE,fE,oE⟩:=Jsj (t:=32) sz33 (H:=D) (zs:=[iv 0,iv 0]) (vs:=[iv (Juc nm s size C row).2.1,iv (Juc nm s size C row).2.2]) rfl rfl rfl (by omega)
 have stE':J0K Tryz.prog (D.push (.row [iv 0,iv 0] 32 false false)) 32 (qP D.next 0) (J2k (Juc nm s size C row).2.1 (Juc nm s size C row).2.2)=some E:=stE
 have oEA0:∀ i,i<A.next→E.get i=A.get i:=fun i hi=>by rw[oE i (by omega),oDB i (by omega),oBA i hi]
 have lAE0:ldN 8 0 (E.get h.next)=some (.agg #[.string nm,vr,vq,vv,vt,vu,vo,iv s.miss]):=by rw[oEA0 _ (by omega)];exact lA
 have lCE0:ldN 2 0 (E.get (h.next+1))=some (.agg #[iv size,vc]):=by rw[oEA0 _ (by omega)];exact lC
 have hcd:=Jv7 (n:=n) (row:=row) (h:=E) (hp.mono (by omega) fun i _ hi=>by rw[oEA0 i (by omega),gO i hi]) (hc.mono (by omega) fun i _ hi=>by rw[oEA0 i (by omega),gO i hi]) h64 hsm (by omega) (by omega) hrow (by omega) (by omega)
 have hcd':=x_k (n:=n) (by decide) hcd
 obtain⟨E2,stF,gF1,nF,fF,oF⟩:=Jsj (t:=32) sz33 (H:=E) (zs:=[iv 0,iv 0]) (vs:=[iv (Juc nm s size C row).2.1,iv (Juc nm s size C row).2.2]) rfl rfl rfl (by omega)
 have stF':J0K Tryz.prog (E.push (.row [iv 0,iv 0] 32 false false)) 32 (qP E.next 0) (J2k (Juc nm s size C row).2.1 (Juc nm s size C row).2.2)=some E2:=stF
 have oEA:∀ i,i<A.next→E2.get i=A.get i:=fun i hi=>by rw[oF i (by omega),oEA0 i hi]
 have hLE:Lent8 E2 (A.next+3) v1 nm s:=hLD.mono (by omega) fun i h1 h2=>by rw[oF i (by omega),oE i (by omega)]
 have hME:LentCp E2 (B.next+2) v2 size C:=hMD.mono (by omega) (by rw[oF _ (by omega),oE _ (by omega)])
 have lPE:ldN 8 0 (E2.get H1.next)=some v1:=by rw[oF _ (by omega),oE _ (by omega)];exact lP
 have lAE:ldN 8 0 (E2.get h.next)=some (.agg #[.string nm,vr,vq,vv,vt,vu,vo,iv s.miss]):=by rw[oEA _ (by omega)];exact lA
 obtain⟨K1,hk3,n3,f3,o3⟩:=JrD (n:=n) hLE hpA (by omega) oEA (by omega) hsm (by omega) (by omega)
 have hk3':=x_k (n:=n) (by decide) hk3
 have m1:ld1 1 (K1.get H2.next)=some (qS (B.next+2) C.length (C.length+5)):=by rw[o3 _ (by omega) (.inr (by omega)),oF _ (by omega),oE _ (by omega),gD1];rfl
 have m2:ld1 1 (K1.get (h.next+1))=some vc:=by rw[o3 _ (by omega) (.inl (by omega)),oEA _ (by omega)];exact x1
 obtain⟨L,hLC⟩:=hME.l
 obtain⟨K2,hk4,n4,f4,o4⟩:=JqA (n:=n) (h:=K1) (o:=B.next+2) (L:=L) (v:=vc) (lo:=0) ⟨by rw[o3 _ (by omega) (.inr (by omega))];exact hLC.g,hLC.len,hLC.own,hLC.marks⟩ (by omega) (by omega) (J1S.mono pc (by omega) fun i _ hi=>by rw[o3 i (by omega) (.inl (by omega)),oEA i (by omega),gO i hi]) (by omega) (by omega)
 have hk4':=x_k (n:=n) (by decide) hk4
 have lF:ldN 2 0 (K2.get D.next)=some (J2k (Juc nm s size C row).2.1 (Juc nm s size C row).2.2):=by rw[o4 _ (by omega),o3 _ (by omega) (.inr (by omega)),oF _ (by omega),gE1];rfl
 have lF2:ldN 2 0 (K2.get E.next)=some (J2k (Juc nm s size C row).2.1 (Juc nm s size C row).2.2):=by rw[o4 _ (by omega),o3 _ (by omega) (.inr (by omega)),gF1];rfl
 simp only[evC,seval,↓evP,hr,Nat.zero_add,JpV,J0n,J1b,Jq3,hhd,lA,hk1',J5F,J3Y,zc30,stB,lCB,hk2',Jrd,Jr0,zcC,stD,lP,lM,hfit',J3C,J1t,zc33,stE',lAE0,lCE0,hcd',stF',lPE,lAE,hk3',m1,m2,hk4',J2n,lF,lF2,Jtx,BEq.rfl]
end
end Go.Proofs.YtdejoodfeljmkaaGreatDoor
namespace Go.Proofs.YtdejoodfeljmkaaGreatDoor
open Go Go.Sx Go.ChangeShapes Go.WideShapes Go.ChangeAt Go.RowKit
set_option maxRecDepth 100000
set_option linter.unusedSimpArgs false
set_option linter.unusedVariables false
set_option maxHeartbeats 64000000
section
variable {α:Type} {cells:α→List Value} {w:Nat} {l:List α}
theorem Jrr (hcl:∀ x,(cells x).length=w):(l.flatMap cells).length=l.length*w:=by
 induction l with
 | nil=>simp
 | cons x l ih=>
  rw[List.flatMap_cons,List.length_append,ih,hcl,List.length_cons,Nat.succ_mul]
  omega
theorem Jr3 (hcl:∀ x,(cells x).length=w):∀ {l:List α} {i j:Nat} {x:α},l[i]?=some x→j<w→(l.flatMap cells)[i*w+j]?=(cells x)[j]?
 | [],i,j,x,h,_=>by simp at h
 | y :: l,0,j,x,h,hj=>by
  cases h
  rw[List.flatMap_cons,Nat.zero_mul,Nat.zero_add,List.getElem?_append_left (by rw[hcl];exact hj)]
 | y :: l,i+1,j,x,h,hj=>by
  have h':l[i]?=some x:=h
  rw[List.flatMap_cons,List.getElem?_append_right (by rw[hcl,Nat.succ_mul];omega),hcl,← Jr3 hcl h' hj]
  congr 1
  rw[Nat.succ_mul]
  omega
end
def Jq0 (W:World) (v:Value) (n w:Nat) (cs:List Value):Prop:=cs.length=n*w∧((n=0∧v=Z0) ∨
 ∃ b off cap CS ty fr,v=.slice (some ⟨b,off,none⟩) n cap∧n≤cap∧cap<unk∧W.heap[b]?=some (.cells CS ty fr)∧∀ k,k<n*w→CS[off+k]?=cs[k]?)
section
variable {H:Type} {enc:TypeId × Value→H} {W:World} {base b0:Nat} {sp:Nat→Bool} {hd:Bool}
theorem Jq1 {α:Type} {cells:α→List Value} {Q:α→Prop} {w:Nat} {t e:TypeId} (ht:Tryz.prog.underlying t=some (.slice e)) (hw:Tryz.prog.cellsOf e=w)
  (hopen:∀ n cs y,DataW.trod enc Tryz.prog W base sp hd n e cs=some y→∃ x,cs=cells x∧Q x) (hcl:∀ x,(cells x).length=w) (hw0:0<w)
  {v:Value} {n:Nat} {y:DataW H × List MemPlace} (hval:Cell.okWide Tryz.prog W .any b0 t v) (h:DataW.trod enc Tryz.prog W base sp hd n t [v]=some y):∃ l:List α,(∀ x∈l,Q x)∧Jq0 W v l.length w (l.flatMap cells):=by
 rcases DataW.trod_slice ht h with⟨h1,h2⟩ | ⟨a',len,cap,elems,rest,n',_,h1,_,hb,hl,hm,hlen,hel,_⟩
 ·cases h1
  exact⟨[],fun x hx=>(by cases hx),by simp,.inl ⟨rfl,rfl⟩⟩
 ·cases h1
  simp only[Cell.okWide,ht,Cell.ok] at hval
  obtain⟨_,_,_,hsp,row,cells',hsh,_⟩:=hval
  obtain⟨b,off,spot⟩:=a'
  simp only at hsp
  subst hsp
  have hblk:∃ CS ty fr,W.heap[b]?=some (.cells CS ty fr):=by
   simp only[World.shape?] at hsh
   split at hsh
   ·rename_i CS ty fr hh;exact⟨_,_,_,hh⟩
   ·cases hsh
  obtain⟨CS,ty,fr,hblk⟩:=hblk
  have each:∀ i,i<len→∃ x:α,Q x∧∀ j,j<w→CS[off+(i*w+j)]?=(cells x)[j]?:=fun i hi=>by
   have:=hel i hi
   obtain⟨y,hy⟩:∃ y,elems[i]?=some y:=⟨_,List.getElem?_eq_getElem (by omega)⟩
   rw[hy,J9W,hw,Option.bind_eq_some_iff] at this
   obtain⟨cs,hcs,ht⟩:=this
   obtain⟨x,rfl,hx⟩:=hopen _ _ _ ht
   obtain⟨_,hc⟩:=Jen hcs
   refine⟨x,hx,fun j hj=>?_⟩
   rw[← hc j hj,← Nat.add_assoc]
   simp only[World.cell?,hblk,Option.isSome_none,Bool.false_eq_true,if_false]
  obtain⟨l,hll,hl1⟩:∃ l:List α,l.length=len∧∀ i x,l[i]?=some x→Q x∧∀ j,j<w→CS[off+(i*w+j)]?=(cells x)[j]?:=by
   have : ∀ m,m≤len→∃ l:List α,l.length=m∧∀ i x,l[i]?=some x→Q x∧∀ j,j<w→CS[off+(i*w+j)]?=(cells x)[j]?:=by
    intro m
    induction m with
    | zero=>exact fun _=>⟨[],rfl,fun i x h=>by simp at h⟩
    | succ m ih=>
     intro hm
     obtain⟨l,h1,h2⟩:=ih (by omega)
     obtain⟨x,hx⟩:=each m (by omega)
     refine⟨l++[x],by simp[h1],fun i y hy=>?_⟩
     rcases Nat.lt_or_ge i l.length with h3 | h3
     ·rw[List.getElem?_append_left h3] at hy
      exact h2 i y hy
     ·rw[List.getElem?_append_right h3] at hy
      have:i-l.length=0:=by
       rcases Nat.eq_zero_or_pos (i-l.length) with h4 | h4
       ·exact h4
       ·rw[List.getElem?_eq_none (by simp;omega)] at hy
        cases hy
      rw[this] at hy
      cases hy
      have:i=m:=by omega
      subst this
      exact hx
   exact this len (Nat.le_refl _)
  unfold maxLen at hm
  refine⟨l,fun x hx=>?_,Jrr hcl,.inr ⟨b,off,cap,CS,ty,fr,by rw[hll],by omega,by unfold unk;omega,hblk,fun k hk=>?_⟩⟩
  ·obtain⟨i,hi⟩:=List.getElem?_of_mem hx
   exact(hl1 i x hi).1
  ·have hdm:=Nat.div_add_mod k w
   rw[Nat.mul_comm] at hdm
   have hj:=Nat.mod_lt k hw0
   have hi:k/w<l.length:=(Nat.div_lt_iff_lt_mul hw0).2 hk
   have hx:=List.getElem?_eq_getElem hi
   rw[← hdm,(hl1 _ _ hx).2 _ hj,Jr3 hcl hx hj]
end
structure Piece where
 v:Value
 n:Nat
 w:Nat
 cs:List Value
 ty:TypeId
noncomputable def JpW:SHeap→List Piece→SHeap
 | h,[]=>h
 | h,p :: ps=>JpW (h.push (.row p.cs p.ty false true)) ps
theorem Jq4:∀ (ps:List Piece) (h:SHeap),(JpW h ps).next=h.next+ps.length∧(JpW h ps).floor=h.floor∧∀ i,i<h.next→(JpW h ps).get i=h.get i
 | [],h=>⟨rfl,rfl,fun _ _=>rfl⟩
 | p :: ps,h=>by
  obtain⟨h1,h2,h3⟩:=Jq4 ps (h.push (.row p.cs p.ty false true))
  rw[J1D] at h1 h3
  refine⟨by show (JpW _ ps).next=_;rw[h1,List.length_cons];omega,h2,fun i hi=>?_⟩
  show (JpW _ ps).get i=_
  rw[h3 i (by omega),J06 hi]
theorem Jqa:∀ {ps:List Piece} {h:SHeap} {i:Nat} {p:Piece},ps[i]?=some p→(JpW h ps).get (h.next+i)=.row p.cs p.ty false true
 | [],h,i,p,hp=>by simp at hp
 | q :: ps,h,0,p,hp=>by
  cases hp
  show (JpW _ ps).get h.next=_
  rw[(Jq4 ps _).2.2 _ (by rw[J1D];omega),J0h]
 | q :: ps,h,i+1,p,hp=>by
  have:=Jqa (ps:=ps) (h:=h.push (.row q.cs q.ty false true)) (i:=i) (p:=p) hp
  rw[J1D] at this
  show (JpW _ ps).get (h.next+(i+1))=_
  rw[← this]
  congr 1
  omega
def locP (p:Piece):Go.Sx.Loc:=match p.v with
 | .slice (some a) _ _=>⟨a.block,a.off,0,0⟩
 | _=>⟨0,0,0,0⟩
def mapL (ps:List Piece):Map:=fun i=>if i=0 then some ⟨0,0,0,0⟩ else (ps[i-1]?).map locP
def svP (i:Nat) (p:Piece):Value:=match p.v with
 | .slice (some _) n c=>qS i n c
 | v=>v
theorem Jql {ps:List Piece} {i:Nat} {p:Piece} (h:ps[i]?=some p):mapL ps (i+1)=some (locP p):=by
 unfold mapL
 rw[if_neg (by omega),Nat.add_sub_cancel,h]
 rfl
theorem relL {W : World} (h : laidMetH Tryz.prog [("winnow/lex.words", Rows.laid_winnow_lex_words)] W) {ps : List Piece} (hps : ∀ p ∈ ps, Jq0 W p.v p.n p.w p.cs ∧ ∀ v ∈ p.cs, J1i v = true) :
  Rel Tryz.prog (mapL ps) (JpW Jfv ps) W∧(∀ i,¬ wr ((JpW Jfv ps).get i))∧(JpW Jfv ps).next=ps.length+1∧(JpW Jfv ps).floor=0∧(JpW Jfv ps).get 0=J14 ∧
   ∀ (i:Nat) p,ps[i]?=some p→vrel (mapL ps) (svP (i+1) p) p.v∧J0p 0 (JpW Jfv ps) (svP (i+1) p) p.n p.w p.cs:=by
 obtain⟨hn,hf,ho⟩:=Jq4 ps Jfv
 have h01:Jfv.next=1:=rfl
 rw[h01] at hn ho
 obtain⟨CS0,ty0,fr0,hb0,hcs0⟩:=J5Q (zs:=J2D) (rest:=[]) JfI J7e Tryz.underlying145 Tryz.underlying9 JfP J7w h
 have hget:∀ (i:Nat) p,ps[i]?=some p→(JpW Jfv ps).get (i+1)=.row p.cs p.ty false true:=fun i p hp=>by
  have:=Jqa (h:=Jfv) hp
  rw[h01,Nat.add_comm] at this
  exact this
 have hro:=Jcz (P:=Tryz.prog) (W:=W) (ρ:=mapL ps) (h:=JpW Jfv ps) rfl (fun i hi=>by
   unfold mapL
   rw[if_neg (by omega),List.getElem?_eq_none (by omega)]
   rfl) (fun g hg=>by
   rw[Jg1] at hg
   obtain rfl:g=0:=by omega
   exact⟨_,rfl,rfl,rfl⟩) (fun i hi=>by
   rw[hn] at hi
   cases i with
   | zero=>
    refine⟨J5v,9,false,⟨0,0,0,0⟩,CS0,ty0,fr0,(ho 0 (by omega)).trans rfl,rfl,hb0,fun k v hv=>⟨v,?_,?_⟩⟩
    ·have:CS0.toList[k]?=some v:=by rw[hcs0];exact hv
     simpa using this
    ·have hm:v∈J5v:=List.mem_of_getElem? hv
     obtain⟨z,_,rfl⟩:=List.mem_map.1 hm
     exact .flat rfl
   | succ i=>
    obtain⟨p,hp⟩:∃ p,ps[i]?=some p:=⟨_,List.getElem?_eq_getElem (by omega)⟩
    obtain⟨⟨hl,hor⟩,hfl⟩:=hps p (List.mem_of_getElem? hp)
    rcases hor with⟨h0,hv⟩ | ⟨b,off,cap,CS,ty,fr,hv,h1,h2,h3,h4⟩
    ·refine⟨p.cs,p.ty,false,locP p,CS0,ty0,fr0,hget i p hp,Jql hp,by unfold locP;rw[hv];exact hb0,fun k v hk=>?_⟩
     have:=(List.getElem?_eq_some_iff.1 hk).1
     rw[hl,h0,Nat.zero_mul] at this
     omega
    ·refine⟨p.cs,p.ty,false,locP p,CS,ty,fr,hget i p hp,Jql hp,by unfold locP;rw[hv];exact h3,fun k v hk=>⟨v,?_,.flat (hfl v (List.mem_of_getElem? hk))⟩⟩
     have hkl:=(List.getElem?_eq_some_iff.1 hk).1
     have e:(locP p).d=off:=by unfold locP;rw[hv]
     rw[e,h4 k (by omega)]
     exact hk)
 refine⟨hro.1,hro.2,by omega,hf,(ho 0 (by omega)).trans rfl,fun i p hp=>?_⟩
 obtain⟨⟨hl,hor⟩,hfl⟩:=hps p (List.mem_of_getElem? hp)
 have hil:=(List.getElem?_eq_some_iff.1 hp).1
 rcases hor with⟨h0,hv⟩ | ⟨b,off,cap,CS,ty,fr,hv,h1,h2,h3,h4⟩
 ·have e:svP (i+1) p=Z0:=by unfold svP;rw[hv]
  have ecs:p.cs=[]:=List.length_eq_zero_iff.1 (by rw[hl,h0,Nat.zero_mul])
  rw[e,hv,ecs,h0]
  exact⟨.flat rfl,J0p.nil _ _ _⟩
 ·have e:svP (i+1) p=qS (i+1) p.n cap:=by unfold svP;rw[hv]
  have eL:locP p=⟨b,off,0,0⟩:=by unfold locP;rw[hv]
  rw[e]
  refine⟨?_,J0p.rowR (ex:=[]) (by rw[List.append_nil];exact hget i p hp) ⟨Nat.zero_le _,by omega⟩ hl fun h=>absurd h (Nat.lt_irrefl 0)⟩
  rw[hv]
  exact vrel.slice (L:=⟨b,off,0,0⟩) (by rw[Jql hp,eL]) h2
theorem Jrg:Tryz.prog.cellsOf 27=8:=by kernel_rfl
theorem Jr8:Tryz.prog.cellsOf 75=2:=by kernel_rfl
theorem JrW:Tryz.prog.cellsOf 4=1:=by kernel_rfl
theorem JpY:Tryz.prog.cellsOf 22=1∧Tryz.prog.cellsOf 23=1∧Tryz.prog.cellsOf 24=1∧Tryz.prog.cellsOf 25=1:=⟨by kernel_rfl,by kernel_rfl,by kernel_rfl,by kernel_rfl⟩
theorem JqV:Tryz.prog.cellTypes Tryz.prog.depth 27=some [9,22,23,24,24,25,25,3]:=by kernel_rfl
structure PolW (W:World) (v:Value) (nm:ByteArray) (s:StN):Prop where
 ok:∃ vr vq vv vt vu vo,v=.agg #[.string nm,vr,vq,vv,vt,vu,vo,iv s.miss]∧Jq0 W vr s.rows.length 5 (s.rows.flatMap J0e)∧Jq0 W vq s.queues.length 2 (J3S s.queues)∧Jq0 W vv s.vars.length 1 (strs s.vars)∧Jq0 W vt s.tags.length 1 (strs s.tags)∧Jq0 W vu s.rules.length 1 (ints s.rules)∧Jq0 W vo s.on.length 1 (ints s.on)
 rows:∀ x∈s.rows,Jd7 x
 miss:-9223372036854775808≤s.miss∧s.miss≤9223372036854775807
 rules:∀ x∈s.rules,-9223372036854775808≤x∧x≤9223372036854775807
 on:∀ x∈s.on,-9223372036854775808≤x∧x≤9223372036854775807
theorem Jr9 (l:List ByteArray):l.flatMap (fun x=>[Value.string x])=strs l:=by
 induction l with
 | nil=>rfl
 | cons x l ih=>rw[List.flatMap_cons,ih];rfl
theorem Jqb (l:List Int):l.flatMap (fun x=>[iv x])=ints l:=by
 induction l with
 | nil=>rfl
 | cons x l ih=>rw[List.flatMap_cons,ih];rfl
section
variable {H:Type} {enc:TypeId × Value→H} {W:World} {base b0:Nat} {sp:Nat→Bool} {hd:Bool}
theorem JqP {n:Nat} {cs:List Value} {y:DataW H × List MemPlace} (h:DataW.trod enc Tryz.prog W base sp hd n 75 cs=some y):∃ x:ByteArray × Bool,cs=[.string x.1,.bool x.2]∧True:=by
 obtain⟨xs,m,_,_,hl,hxl,hf⟩:=DataW.trod_struct Tryz.underlying75 h
 rw[Jr8] at hl
 obtain⟨c0,c1,rfl⟩:∃ c0 c1,cs=[c0,c1]:=by
  match cs,hl with
  | [a,b],_=>exact⟨a,b,rfl⟩
 have hxl:xs.length=2:=hxl
 have g:∀ i,i<2→∃ y,xs[i]?=some y:=fun i hi=>⟨_,List.getElem?_eq_getElem (by omega)⟩
 obtain⟨y0,e0⟩:=g 0 (by omega)
 obtain⟨y1,e1⟩:=g 1 (by omega)
 have f0:DataW.trod enc Tryz.prog W base sp hd m 9 (([c0,c1].drop 0).take (Tryz.prog.cellsOf 9))=xs[0]?:=hf 0 _ rfl
 rw[Jhu,e0] at f0
 have f1:DataW.trod enc Tryz.prog W base sp hd m 4 (([c0,c1].drop 1).take (Tryz.prog.cellsOf 4))=xs[1]?:=hf 1 _ rfl
 rw[JrW,e1] at f1
 obtain⟨a,ha,_⟩:=DataW.trod_string Tryz.underlying9 f0
 obtain⟨b,hb,_⟩:=DataW.trod_bool Tryz.underlying4 f1
 cases ha
 cases hb
 exact⟨(a,b),rfl,trivial⟩
theorem Jqm {n:Nat} {cs:List Value} {y:DataW H × List MemPlace} (h:DataW.trod enc Tryz.prog W base sp hd n 9 cs=some y):∃ x:ByteArray,cs=[.string x]∧True:=by
 obtain⟨a,ha,_⟩:=DataW.trod_string Tryz.underlying9 h
 exact⟨a,ha,trivial⟩
theorem Jq6 {n:Nat} {cs:List Value} {y:DataW H × List MemPlace} (h:DataW.trod enc Tryz.prog W base sp hd n 3 cs=some y):∃ x:Int,cs=[iv x]∧(-9223372036854775808≤x∧x≤9223372036854775807):=by
 obtain⟨a,ha,_,wa⟩:=DataW.trod_int Tryz.underlying3 h
 exact⟨a,ha,bounds_i64 wa⟩
theorem JrU {v:Value} {d:DataW H} {p:List MemPlace} (hval:Value.okWide Tryz.prog W .any b0 27 v) (h:DataW.Trod enc Tryz.prog W base sp hd 27 v d p):∃ nm s,PolW W v nm s:=by
 simp only[Value.okWide,Tryz.underlying27] at hval
 obtain⟨CS,rfl,hsz,ts,hts,_,hcell⟩:=hval
 rw[JqV] at hts
 cases hts
 obtain⟨fuel,hf⟩:=h
 have hcs:(Value.agg CS).cells.toList=CS.toList:=rfl
 rw[hcs] at hf
 obtain⟨xs,m,_,_,hl,hxl,hf⟩:=DataW.trod_struct Tryz.underlying27 hf
 rw[Jrg] at hl
 obtain⟨c0,c1,c2,c3,c4,c5,c6,c7,hcs⟩:∃ c0 c1 c2 c3 c4 c5 c6 c7,CS.toList=[c0,c1,c2,c3,c4,c5,c6,c7]:=by
  match CS.toList,hl with
  | [a,b,c,d,e,f,g,i],_=>exact⟨a,b,c,d,e,f,g,i,rfl⟩
 obtain rfl:CS=#[c0,c1,c2,c3,c4,c5,c6,c7]:=by cases CS;simp_all
 have hxl:xs.length=8:=hxl
 have g:∀ i,i<8→∃ y,xs[i]?=some y:=fun i hi=>⟨_,List.getElem?_eq_getElem (by omega)⟩
 obtain⟨y0,e0⟩:=g 0 (by omega)
 obtain⟨y1,e1⟩:=g 1 (by omega)
 obtain⟨y2,e2⟩:=g 2 (by omega)
 obtain⟨y3,e3⟩:=g 3 (by omega)
 obtain⟨y4,e4⟩:=g 4 (by omega)
 obtain⟨y5,e5⟩:=g 5 (by omega)
 obtain⟨y6,e6⟩:=g 6 (by omega)
 obtain⟨y7,e7⟩:=g 7 (by omega)
 have f0:DataW.trod enc Tryz.prog W base sp hd m 9 (([c0,c1,c2,c3,c4,c5,c6,c7].drop 0).take (Tryz.prog.cellsOf 9))=xs[0]?:=hf 0 _ rfl
 rw[Jhu,e0] at f0
 have f1:DataW.trod enc Tryz.prog W base sp hd m 22 (([c0,c1,c2,c3,c4,c5,c6,c7].drop 1).take (Tryz.prog.cellsOf 22))=xs[1]?:=hf 1 _ rfl
 rw[JpY.1,e1] at f1
 have f2:DataW.trod enc Tryz.prog W base sp hd m 23 (([c0,c1,c2,c3,c4,c5,c6,c7].drop 2).take (Tryz.prog.cellsOf 23))=xs[2]?:=hf 2 _ rfl
 rw[JpY.2.1,e2] at f2
 have f3:DataW.trod enc Tryz.prog W base sp hd m 24 (([c0,c1,c2,c3,c4,c5,c6,c7].drop 3).take (Tryz.prog.cellsOf 24))=xs[3]?:=hf 3 _ rfl
 rw[JpY.2.2.1,e3] at f3
 have f4:DataW.trod enc Tryz.prog W base sp hd m 24 (([c0,c1,c2,c3,c4,c5,c6,c7].drop 4).take (Tryz.prog.cellsOf 24))=xs[4]?:=hf 4 _ rfl
 rw[JpY.2.2.1,e4] at f4
 have f5:DataW.trod enc Tryz.prog W base sp hd m 25 (([c0,c1,c2,c3,c4,c5,c6,c7].drop 5).take (Tryz.prog.cellsOf 25))=xs[5]?:=hf 5 _ rfl
 rw[JpY.2.2.2,e5] at f5
 have f6:DataW.trod enc Tryz.prog W base sp hd m 25 (([c0,c1,c2,c3,c4,c5,c6,c7].drop 6).take (Tryz.prog.cellsOf 25))=xs[6]?:=hf 6 _ rfl
 rw[JpY.2.2.2,e6] at f6
 have f7:DataW.trod enc Tryz.prog W base sp hd m 3 (([c0,c1,c2,c3,c4,c5,c6,c7].drop 7).take (Tryz.prog.cellsOf 3))=xs[7]?:=hf 7 _ rfl
 rw[Jag,e7] at f7
 have hc:∀ i v u,(#[c0,c1,c2,c3,c4,c5,c6,c7]:Array Value)[i]?=some v→([9,22,23,24,24,25,25,3]:List Nat)[i%8]?=some u→Cell.okWide Tryz.prog W .any b0 u v:=fun i v u hi hu=>by
  obtain⟨u',h1,h2⟩:=hcell i v hi
  have:u'=u:=Option.some.inj (h1.symm.trans hu)
  subst this
  exact h2
 obtain⟨nm,hnm,_⟩:=Jqm f0
 obtain⟨lr,ir,sr⟩:=Jq1 Tryz.underlying22 J9Y (fun n cs y h=>JcH h) (fun _=>rfl) (by decide) (hc 1 _ _ rfl rfl) f1
 obtain⟨lq,_,sq⟩:=Jq1 (cells:=fun x:ByteArray × Bool=>[.string x.1,.bool x.2]) Tryz.underlying23 Jr8 (fun n cs y h=>JqP h) (fun _=>rfl) (by decide) (hc 2 _ _ rfl rfl) f2
 obtain⟨lv,_,sv⟩:=Jq1 (cells:=fun x:ByteArray=>[.string x]) Tryz.underlying24 Jhu (fun n cs y h=>Jqm h) (fun _=>rfl) (by decide) (hc 3 _ _ rfl rfl) f3
 obtain⟨lt,_,st⟩:=Jq1 (cells:=fun x:ByteArray=>[.string x]) Tryz.underlying24 Jhu (fun n cs y h=>Jqm h) (fun _=>rfl) (by decide) (hc 4 _ _ rfl rfl) f4
 obtain⟨lu,iu,su⟩:=Jq1 (cells:=fun x:Int=>[iv x]) Tryz.underlying25 Jag (fun n cs y h=>Jq6 h) (fun _=>rfl) (by decide) (hc 5 _ _ rfl rfl) f5
 obtain⟨lo,io,so⟩:=Jq1 (cells:=fun x:Int=>[iv x]) Tryz.underlying25 Jag (fun n cs y h=>Jq6 h) (fun _=>rfl) (by decide) (hc 6 _ _ rfl rfl) f6
 obtain⟨ms,hms,bms⟩:=Jq6 f7
 obtain rfl:c0=.string nm:=by simpa using hnm
 obtain rfl:c7=iv ms:=by simpa using hms
 rw[Jr9] at sv st
 rw[Jqb] at su so
 exact⟨nm,⟨lr,lq,lv,lt,lu,lo,ms,[]⟩,⟨c1,c2,c3,c4,c5,c6,rfl,sr,sq,sv,st,su,so⟩,ir,bms,iu,io⟩
end
section
variable {H:Type} {enc:TypeId × Value→H} {W:World} {base b0:Nat} {sp:Nat→Bool} {hd:Bool} {v:Value} {d:DataW H} {p:List MemPlace}
end
theorem JrH {H:Type} (d:DataW H):1≤Rows.uptoBulk d:=by
 cases d with
 | lit l=>cases l <;> simp[Rows.uptoBulk]
 | nil=>simp[Rows.uptoBulk]
 | ptr d=>simp[Rows.uptoBulk]
 | slice elems spare=>simp[Rows.uptoBulk]
 | agg parts=>simp[Rows.uptoBulk]
 | iface t d=>simp[Rows.uptoBulk]
 | map entries=>simp[Rows.uptoBulk]
 | held h=>simp[Rows.uptoBulk]
theorem JqY {H:Type} (l:List (DataW H)):l.length≤Rows.uptoBulkAll l:=by
 induction l with
 | nil=>simp[Rows.uptoBulkAll]
 | cons x r ih=>have:=JrH x;simp only[Rows.uptoBulkAll,List.length_cons];omega
theorem Jq0.sl {W:World} {v:Value} {n w:Nat} {cs:List Value} (h:Jq0 W v n w cs):∃ a c,v=.slice a n c:=by
 obtain⟨_,⟨rfl,rfl⟩ | ⟨b,off,cap,CS,ty,fr,rfl,_⟩⟩:=h
 ·exact⟨_,_,rfl⟩
 ·exact⟨_,_,rfl⟩
theorem JrM:Tryz.prog.cellsOf 39=2:=by kernel_rfl
theorem JqM:Tryz.prog.cellTypes Tryz.prog.depth 39=some [3,25]:=by kernel_rfl
def JrT (W:World) (v:Value) (size:Int) (C:List Int):Prop:=∃ vc,v=.agg #[iv size,vc]∧Jq0 W vc C.length 1 (ints C)∧(-9223372036854775808≤size∧size≤9223372036854775807)∧∀ x∈C,-9223372036854775808≤x∧x≤9223372036854775807
section
variable {H:Type} {enc:TypeId × Value→H} {W:World} {base b0:Nat} {sp:Nat→Bool} {hd:Bool}
theorem JpZ {t e:TypeId} (ht:Tryz.prog.underlying t=some (.slice e)) {n m:Nat} {v:Value} {cs:List Value} {w:Nat} (hv:Jq0 W v m w cs) {y:DataW H × List MemPlace} (h:DataW.trod enc Tryz.prog W base sp hd n t [v]=some y):m≤Rows.uptoBulk y.1:=by
 obtain⟨a,c,rfl⟩:=hv.sl
 rcases DataW.trod_slice ht h with⟨h1,h2⟩ | ⟨a',len,cap,elems,rest,n',_,h1,h2,_,_,_,hlen,_⟩
 ·cases h1
  omega
 ·cases h1
  subst h2
  have h3:=JqY (elems.map (·.1))
  rw[List.length_map] at h3
  simp only[Rows.uptoBulk]
  omega
theorem Jrm {v:Value} {nm:ByteArray} {s:StN} (hp:PolW W v nm s) {d:DataW H} {p:List MemPlace} (h:DataW.Trod enc Tryz.prog W base sp hd 27 v d p):Jbg s≤Rows.uptoBulk d:=by
 obtain⟨c1,c2,c3,c4,c5,c6,rfl,s1,s2,s3,s4,s5,s6⟩:=hp.ok
 obtain⟨fuel,hf⟩:=h
 have hcs:(Value.agg #[.string nm,c1,c2,c3,c4,c5,c6,iv s.miss]).cells.toList=[.string nm,c1,c2,c3,c4,c5,c6,iv s.miss]:=rfl
 rw[hcs] at hf
 obtain⟨xs,m,_,hx,hl,hxl,hf⟩:=DataW.trod_struct Tryz.underlying27 hf
 have hxl:xs.length=8:=hxl
 obtain⟨y0,y1,y2,y3,y4,y5,y6,y7,rfl⟩:∃ y0 y1 y2 y3 y4 y5 y6 y7,xs=[y0,y1,y2,y3,y4,y5,y6,y7]:=by
  match xs,hxl with
  | [a,b,c,d,e,f,g,i],_=>exact⟨a,b,c,d,e,f,g,i,rfl⟩
 have f1:DataW.trod enc Tryz.prog W base sp hd m 22 (([.string nm,c1,c2,c3,c4,c5,c6,iv s.miss].drop 1).take (Tryz.prog.cellsOf 22))=some y1:=hf 1 _ rfl
 rw[JpY.1] at f1
 have f2:DataW.trod enc Tryz.prog W base sp hd m 23 (([.string nm,c1,c2,c3,c4,c5,c6,iv s.miss].drop 2).take (Tryz.prog.cellsOf 23))=some y2:=hf 2 _ rfl
 rw[JpY.2.1] at f2
 have f3:DataW.trod enc Tryz.prog W base sp hd m 24 (([.string nm,c1,c2,c3,c4,c5,c6,iv s.miss].drop 3).take (Tryz.prog.cellsOf 24))=some y3:=hf 3 _ rfl
 rw[JpY.2.2.1] at f3
 have f4:DataW.trod enc Tryz.prog W base sp hd m 24 (([.string nm,c1,c2,c3,c4,c5,c6,iv s.miss].drop 4).take (Tryz.prog.cellsOf 24))=some y4:=hf 4 _ rfl
 rw[JpY.2.2.1] at f4
 have f5:DataW.trod enc Tryz.prog W base sp hd m 25 (([.string nm,c1,c2,c3,c4,c5,c6,iv s.miss].drop 5).take (Tryz.prog.cellsOf 25))=some y5:=hf 5 _ rfl
 rw[JpY.2.2.2] at f5
 have f6:DataW.trod enc Tryz.prog W base sp hd m 25 (([.string nm,c1,c2,c3,c4,c5,c6,iv s.miss].drop 6).take (Tryz.prog.cellsOf 25))=some y6:=hf 6 _ rfl
 rw[JpY.2.2.2] at f6
 have b1:=JpZ Tryz.underlying22 s1 f1
 have b2:=JpZ Tryz.underlying23 s2 f2
 have b3:=JpZ Tryz.underlying24 s3 f3
 have b4:=JpZ Tryz.underlying24 s4 f4
 have b5:=JpZ Tryz.underlying25 s5 f5
 have b6:=JpZ Tryz.underlying25 s6 f6
 have e:d=.agg ([y0,y1,y2,y3,y4,y5,y6,y7].map (·.1)):=congrArg (·.1) hx
 rw[e]
 simp only[Rows.uptoBulk,Rows.uptoBulkAll,List.map_cons,List.map_nil,Jbg]
 omega
theorem JrG {v:Value} {d:DataW H} {p:List MemPlace} (hval:Value.okWide Tryz.prog W .any b0 39 v) (h:DataW.Trod enc Tryz.prog W base sp hd 39 v d p):∃ size C,JrT W v size C∧C.length≤Rows.uptoBulk d:=by
 simp only[Value.okWide,Tryz.underlying39] at hval
 obtain⟨CS,rfl,hsz,ts,hts,_,hcell⟩:=hval
 rw[JqM] at hts
 cases hts
 obtain⟨fuel,hf⟩:=h
 have hcs:(Value.agg CS).cells.toList=CS.toList:=rfl
 rw[hcs] at hf
 obtain⟨xs,m,_,hx,hl,hxl,hf⟩:=DataW.trod_struct Tryz.underlying39 hf
 rw[JrM] at hl
 obtain⟨c0,c1,hcs⟩:∃ c0 c1,CS.toList=[c0,c1]:=by
  match CS.toList,hl with
  | [a,b],_=>exact⟨a,b,rfl⟩
 obtain rfl:CS=#[c0,c1]:=by cases CS;simp_all
 have hxl:xs.length=2:=hxl
 obtain⟨y0,y1,rfl⟩:∃ y0 y1,xs=[y0,y1]:=by
  match xs,hxl with
  | [a,b],_=>exact⟨a,b,rfl⟩
 have f0:DataW.trod enc Tryz.prog W base sp hd m 3 (([c0,c1].drop 0).take (Tryz.prog.cellsOf 3))=some y0:=hf 0 _ rfl
 rw[Jag] at f0
 have f1:DataW.trod enc Tryz.prog W base sp hd m 25 (([c0,c1].drop 1).take (Tryz.prog.cellsOf 25))=some y1:=hf 1 _ rfl
 rw[JpY.2.2.2] at f1
 have hc:Cell.okWide Tryz.prog W .any b0 25 c1:=by
  obtain⟨u',h1,h2⟩:=hcell 1 c1 rfl
  have:u'=25:=Option.some.inj (h1.symm.trans rfl)
  subst this
  exact h2
 obtain⟨a,ha,wa⟩:=Jq6 f0
 obtain rfl:c0=iv a:=by simpa using ha
 obtain⟨l,hQ,sl⟩:=Jq1 (cells:=fun x:Int=>[iv x]) Tryz.underlying25 Jag (fun n cs y h=>Jq6 h) (fun _=>rfl) (by decide) hc f1
 rw[Jqb] at sl
 refine⟨a,l,⟨c1,rfl,sl,wa,hQ⟩,?_⟩
 have b1:=JpZ Tryz.underlying25 sl f1
 have e:d=.agg ([y0,y1].map (·.1)):=congrArg (·.1) hx
 rw[e]
 simp only[Rows.uptoBulk,Rows.uptoBulkAll,List.map_cons,List.map_nil]
 omega
end
theorem Js4 {W : World} (h : laidMetH Tryz.prog [("winnow/lex.words", Rows.laid_winnow_lex_words)] W) {v w : Value} {nm : ByteArray} {s : StN} {size : Int} {C : List Int} (hv : PolW W v nm s) (hw : JrT W w size C) :
  ∃ hp ρ sv sw,Rel Tryz.prog ρ hp W∧(∀ i,¬ wr (hp.get i))∧vrel ρ sv v∧vrel ρ sw w∧J3x 0 hp sv nm s∧JpX 0 hp sw size C∧hp.floor=0∧hp.get 0=J14∧0<hp.next:=by
 obtain⟨vr,vq,vv,vt,vu,vo,rfl,s1,s2,s3,s4,s5,s6⟩:=hv.ok
 obtain⟨vc,rfl,t1,_⟩:=hw
 have hR:=relL h (ps:=[⟨vr,_,_,_,60⟩,⟨vq,_,_,_,75⟩,⟨vv,_,_,_,9⟩,⟨vt,_,_,_,9⟩,⟨vu,_,_,_,3⟩,⟨vo,_,_,_,3⟩,⟨vc,_,_,_,3⟩]) (fun p hp=>by
  simp only[List.mem_cons,List.not_mem_nil,or_false] at hp
  have hi:∀ {l:List Int},∀ v∈ints l,J1i v=true:=fun v hv=>by
   obtain⟨x,_,rfl⟩:=List.mem_map.1 hv
   rfl
  have hs:∀ {l:List ByteArray},∀ v∈strs l,J1i v=true:=fun v hv=>by
   obtain⟨x,_,rfl⟩:=List.mem_map.1 hv
   rfl
  rcases hp with rfl | rfl | rfl | rfl | rfl | rfl | rfl
  ·refine⟨s1,fun v hv=>?_⟩
   obtain⟨x,_,hx⟩:=List.mem_flatMap.1 hv
   obtain⟨j,hj⟩:=List.getElem?_of_mem hx
   exact J7Q hj
  ·refine⟨s2,fun v hv=>?_⟩
   obtain⟨x,_,hx⟩:=List.mem_flatMap.1 hv
   simp only[List.mem_cons,List.not_mem_nil,or_false] at hx
   rcases hx with rfl | rfl <;> rfl
  ·exact⟨s3,hs⟩
  ·exact⟨s4,hs⟩
  ·exact⟨s5,hi⟩
  ·exact⟨s6,hi⟩
  ·exact⟨t1,hi⟩)
 obtain⟨r1,r2,r3,r4,r5,r6⟩:=hR
 obtain⟨a0,b0⟩:=r6 0 _ rfl
 obtain⟨a1,b1⟩:=r6 1 _ rfl
 obtain⟨a2,b2⟩:=r6 2 _ rfl
 obtain⟨a3,b3⟩:=r6 3 _ rfl
 obtain⟨a4,b4⟩:=r6 4 _ rfl
 obtain⟨a5,b5⟩:=r6 5 _ rfl
 obtain⟨a6,b6⟩:=r6 6 _ rfl
 refine⟨_,_,.agg #[.string nm,_,_,_,_,_,_,iv s.miss],.agg #[iv size,_],r1,r2,.agg (.cons (.flat rfl) (.cons a0 (.cons a1 (.cons a2 (.cons a3 (.cons a4 (.cons a5 (.cons (.flat rfl) .nil)))))))),.agg (.cons (.flat rfl) (.cons a6 .nil)),⟨_,_,_,_,_,_,rfl,J3P.of b0,b1,b2,b3,b4,b5⟩,⟨_,rfl,b6⟩,r4,r5,by omega⟩
end Go.Proofs.YtdejoodfeljmkaaGreatDoor
