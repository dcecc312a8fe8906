/- Part 14 of what the claim leans on: 15 texts laid one behind another. -/
import Derived.Test.YtdejoodfeljmkaaGreatDoorTK13
namespace Go.Proofs.YtdejoodfeljmkaaGreatDoor
open Go Go.Sx
set_option maxRecDepth 100000
set_option linter.unusedSimpArgs false
set_option linter.unusedVariables false
set_option maxHeartbeats 64000000
def SS (i:Nat):AB:=⟨-9,ByteArray.empty,0,i,0⟩
theorem uZ {i:Int}:DM Tryz.prog 60 [(0,iv (-9)),(3,iv i)]=some (CE ⟨-9,ByteArray.empty,0,i,0⟩):=by
 have h:=XI
 rw[Tryz.underlying60] at h
 simp only at h
 have hf:flat (.agg #[.int .i64 0,.string ByteArray.empty,.int .i64 0,.int .i64 0,.int .i64 0])=true:=rfl
 simp only[DM,E1,hf,if_true,Tryz.underlying60,h]
 rfl
theorem Kk {nm:ByteArray} {m:Int}:DM Tryz.prog 27 [(0,.string nm),(7,iv m)]=some (.agg #[.string nm,Z0,Z0,Z0,Z0,Z0,Z0,iv m]):=by
 have h:=YM
 rw[Tryz.underlying27] at h
 simp only at h
 simp only[DM,N3,NS,if_true,Tryz.underlying27,h]
 rfl
structure iD (h:AA) (o:Nat) (l L:List AB):Prop where
 g:h.get o=.row (L.flatMap AV) 60 false false
 len:L.length=l.length+9
 own:∀ j,j<l.length→L[j]?=l[j]?
 marks:∀ q,q<9→L[l.length+q]?=some (SS (l.length+q))
structure ME (h:AA) (b:Nat) (v:Value) (nm:ByteArray) (s:AM):Prop where
 v:v=.agg #[.string nm,qS b s.rows.length (s.rows.length+9),qS (b+1) s.queues.length (s.queues.length+3),qS (b+2) s.vars.length (s.vars.length+3),qS (b+3) s.tags.length (s.tags.length+3),qS (b+4) s.rules.length (s.rules.length+5),qS (b+5) s.on.length (s.on.length+5),iv s.miss]
 lt:b+5<h.next
 r:∃ L,iD h b s.rows L
 q:h.get (b+1)=.row (DE s.queues++B0 [.string ByteArray.empty,.bool false] 3) 75 false false
 w:h.get (b+2)=.row (CJ s.vars++B0 [.string ByteArray.empty] 3) 9 false false
 t:h.get (b+3)=.row (CJ s.tags++B0 [.string ByteArray.empty] 3) 9 false false
 u:∃ L,NL h (b+4) s.rules L
 o:∃ L,NL h (b+5) s.on L
theorem iD.cells {h:AA} {o:Nat} {l L:List AB} (hl:iD h o l L) {lo c:Nat} (ho:lo≤o∧o<h.next):IN lo h (qS o l.length c) l:=by
 have e:L=l++L.drop l.length:=by
  apply List.ext_getElem?
  intro j
  rcases Nat.lt_or_ge j l.length with h1 | h1
  ·rw[List.getElem?_append_left h1,hl.own j h1]
  ·rw[List.getElem?_append_right h1,List.getElem?_drop]
   congr 1
   omega
 have g:=hl.g
 rw[e] at g
 have g':h.get o=.row (l.flatMap AV++(L.drop l.length).flatMap AV) 60 false false:=by rw[g,List.flatMap_append]
 exact IN.of (AN.row g' ho (J7 l))
theorem ME.pol {h:AA} {b:Nat} {v:Value} {nm:ByteArray} {s:AM} (hl:ME h b v nm s):BP b h v nm s:=by
 obtain⟨hv,hlt,⟨L1,r⟩,q,w,t,⟨L2,u⟩,⟨L3,o⟩⟩:=hl
 have qn:∀ l:List (ByteArray × Bool),(DE l).length=l.length*2:=fun l=>by
  unfold DE
  induction l with
  | nil=>rfl
  | cons x l ih=>rw[List.flatMap_cons,List.length_append,ih,List.length_cons];simp only[List.length_cons,List.length_nil];omega
 have ql:=qn s.queues
 exact⟨_,_,_,_,_,_,hv,r.cells ⟨by omega,by omega⟩,AN.row q ⟨by omega,by omega⟩ ql,AN.row w ⟨by omega,by omega⟩ (by simp[CJ]),AN.row t ⟨by omega,by omega⟩ (by simp[CJ]),u.cells ⟨by omega,by omega⟩,o.cells ⟨by omega,by omega⟩⟩
section
variable {t e:TypeId} {w b:Nat} {z:Value} {H:AA}
theorem jK (ht:Tryz.prog.underlying t=some (.slice e)) (he:BM Tryz.prog e=some w) (hb:HC Tryz.prog e=some b) (hz:DX Tryz.prog e=some z) (hzc:z.cells.size=w) (hzf:flat z=true) (hw:0<w) (hbb:b≤64) (hst:BM Tryz.prog t=some 1)
  {lo n k D slot:Nat} {v:Value} {c cs:List Value} {ty:TypeId} (hv:AN lo H v n w c) (hone:c.all one=true) (hn:n+k<1099511627776) (hfl:H.floor≤D) (hD:D<H.next) (hg:H.get D=.row cs ty false false) (hs:slot<cs.length) :
  ∃ Hc H',HP Tryz.prog H t (iv ((n+k:Nat):Int)) (iv ((n+k:Nat):Int))=some (qS H.next (n+k) (n+k),H.push (.row (B0 z.cells.toList (n+k)) e false false)) ∧
   MM Tryz.prog (H.push (.row (B0 z.cells.toList (n+k)) e false false)) t (qS H.next (n+k) (n+k)) v=some (iv (n:Int),Hc)∧Hc.get D=.row cs ty false false∧Hc.get H.next=.row (c++B0 z.cells.toList k) e false false∧Hc.next=H.next+1∧Hc.floor=H.floor∧(∀ i,i<H.next→Hc.get i=H.get i) ∧
   HW Tryz.prog Hc t (qS H.next (n+k) (n+k)) none (some (iv (n:Int))) none=some (qS H.next n (n+k)) ∧
   BB Tryz.prog Hc t (qP D slot) (qS H.next n (n+k))=some H'∧H'.get D=.row (cs.set slot (qS H.next n (n+k))) ty false false∧H'.next=H.next+1∧H'.floor=H.floor∧∀ i,i≠D→H'.get i=Hc.get i:=by
 obtain⟨Hc,m1,m2,m3,m4,m5,m6⟩:=aG (k:=k) ht he hb hz hzc hzf hw hbb hv hone hn (by omega)
 have gD:Hc.get D=.row cs ty false false:=by rw[m6 D hD];exact hg
 have hst1:=GM (v:=qS H.next n (n+k)) hst rfl rfl gD hs (by omega)
 exact⟨Hc,_,m1,m2,gD,m3,m4,m5,m6,R8 ht he (by omega) (by unfold AO;omega),hst1,BL rfl (by omega),m4,m5,fun i hi=>AR (by omega) (Ne.symm hi)⟩
theorem oZ {H:AA} {n:Nat} {lo D slot:Nat} {v:Value} {l:List Int} {cs:List Value} {ty:TypeId} (hv:AW lo H v l) (hl:l.length<900000000) (hfl:H.floor≤D) (hD:D<H.next) (hg:H.get D=.row cs ty false false) (hs:slot<cs.length) (hn:20<n) :
  ∃ Hc H' L,AK n 26 [v] H=some (qS H.next l.length (l.length+5),Hc)∧NL H' H.next l L∧(∀ i,i<H.next→Hc.get i=H.get i) ∧
   BB Tryz.prog Hc 25 (qP D slot) (qS H.next l.length (l.length+5))=some H'∧H'.get D=.row (cs.set slot (qS H.next l.length (l.length+5))) ty false false∧H'.next=H.next+1∧H'.floor=H.floor∧∀ i,i≠D→i<H.next→H'.get i=H.get i:=by
 obtain⟨Hc,m,⟨L,hL⟩,n',f',o'⟩:=rR (n:=n) hv hl (by omega) hn
 have gE:Hc.get D=.row cs ty false false:=(o' D hD).trans hg
 have hst:=GM (v:=qS H.next l.length (l.length+5)) (off:=slot) K8 rfl rfl gE hs (by omega)
 exact⟨Hc,_,L,m,⟨by rw[AR (by omega) (by omega)];exact hL.g,hL.len,hL.own,hL.marks⟩,o',hst,BL rfl (by omega),n',f',fun i hi h2=>by rw[AR (by omega) (Ne.symm hi)];exact o' i h2⟩
end
section
variable {n N:Nat} {h:AA}
theorem zH {nm:ByteArray} {s:AM} {pv:Value} {lo:Nat} (hp:BP lo h pv nm s) (hs:FR s) (hl:C_ s<900000000) (hfl:h.floor≤h.next) (hN:20<N) (hn:30<n) :
  ∃ v' h',AY Tryz.prog (AK n) N 8 [pv] h=some (v',h')∧ME h' (h.next+3) v' nm s∧h'.next=h.next+9∧h'.floor=h.floor∧∀ i,i<h.next→h'.get i=h.get i:=by
 refine MH (R:=fun v' h'=>ME h' (h.next+3) v' nm s∧h'.next=h.next+9∧h'.floor=h.floor∧∀ i,i<h.next→h'.get i=h.get i) Tryz.func8 rfl (by simp[Tryz.f8]) ?_
 have hr:Tryz.f8.results.toList=[.cell 2 27]:=rfl
 obtain⟨vr,vq,vv,vt,vu,vo,rfl,p1,p2,p3,p4,p5,p6⟩:=id hp
 have ca:=DV [.string nm,vr,vq,vv,vt,vu,vo,iv s.miss]
 have oa:=HU (nm:=nm) p1 p2 p3 p4 p5 p6
 obtain⟨gA,gZ,nA,fA,gO⟩:=MJ h (.row [.string nm,vr,vq,vv,vt,vu,vo,iv s.miss] 27 false false) (.row BY 27 false false)
 simp only[eE,seval,↓eP,C2,CW,C6,ca,oa,FM,N3,NS,O9]
 generalize (h.push (.row [.string nm,vr,vq,vv,vt,vu,vo,iv s.miss] 27 false false)).push (.row BY 27 false false)=A at *
 have q0:AH 0 (A.get h.next)=some (.string nm):=by rw[gA];rfl
 have q1:AH 1 (A.get h.next)=some vr:=by rw[gA];rfl
 have q7:AH 7 (A.get h.next)=some (iv s.miss):=by rw[gA];rfl
 have hst3:=JN (t:=27) FM (h:=A.push (.row BY 27 false false)) (id:=A.next) (vs:=[.string nm,Z0,Z0,Z0,Z0,Z0,Z0,iv s.miss]) (BX (h:=A)) rfl rfl rfl (by rw[JQ];omega)
 have hst3':BB Tryz.prog (A.push (.row BY 27 false false)) 27 (qP A.next 0) (.agg #[.string nm,Z0,Z0,Z0,Z0,Z0,Z0,iv s.miss])=some ((A.push (.row BY 27 false false)).put A.next (.row [.string nm,Z0,Z0,Z0,Z0,Z0,Z0,iv s.miss] 27 false false)):=hst3
 simp only[eE,seval,↓eP,Nat.zero_add,KO,IV,FU,AL,q0,q7,Kk,N3,NS,O9,hst3']
 have gB:((A.push (.row BY 27 false false)).put A.next (.row [.string nm,Z0,Z0,Z0,Z0,Z0,Z0,iv s.miss] 27 false false)).get A.next=.row [.string nm,Z0,Z0,Z0,Z0,Z0,Z0,iv s.miss] 27 false false:=BL rfl (by show A.next<A.next+1;omega)
 have oB:∀ i,i<A.next→((A.push (.row BY 27 false false)).put A.next (.row [.string nm,Z0,Z0,Z0,Z0,Z0,Z0,iv s.miss] 27 false false)).get i=A.get i:=fun i hi=>by rw[AR (by show A.next<A.next+1;omega) (by omega),AU hi]
 have nB:((A.push (.row BY 27 false false)).put A.next (.row [.string nm,Z0,Z0,Z0,Z0,Z0,Z0,iv s.miss] 27 false false)).next=A.next+1:=rfl
 have fB:((A.push (.row BY 27 false false)).put A.next (.row [.string nm,Z0,Z0,Z0,Z0,Z0,Z0,iv s.miss] 27 false false)).floor=A.floor:=rfl
 generalize (A.push (.row BY 27 false false)).put A.next (.row [.string nm,Z0,Z0,Z0,Z0,Z0,Z0,iv s.miss] 27 false false)=B at *
 generalize hcs:[.string nm,Z0,Z0,Z0,Z0,Z0,Z0,iv s.miss]=cs0 at *
 have l0:cs0.length=8:=by rw[← hcs];rfl
 have P1:AN lo B vr s.rows.length 5 (s.rows.flatMap AV):=p1.2.mono (by omega) fun i _ hi=>by rw[oB i (by omega),gO i hi]
 obtain⟨H1,mk1,cp1,g1,n1,f1,o1⟩:=aG (P:=Tryz.prog) (t:=22) (e:=60) (k:=9) (z:=CE I2) Tryz.underlying22 FN TE E1 rfl rfl (by decide) (by decide) P1 (UU s.rows) (by have:=hs.1;omega) (by omega)
 have len1:=fun h'=>NO p1.2 h'
 have hl1:=hs.1
 have qB1:AH 1 (B.get h.next)=some vr:=by rw[oB _ (by omega)];exact q1
 have w9:IntKind.i64.wrap ((s.rows.length:Int)+9)=((s.rows.length+9:Nat):Int):=BT (by omega) (by omega)
 have H_:∀ h':AA,CY Tryz.prog h' 22 (qS B.next (s.rows.length+9) (s.rows.length+9))=some (iv ((s.rows.length+9:Nat):Int)):=fun h'=>TH
 have qp:∀ r,AH 1 ((B.push r).get h.next)=some vr:=fun r=>by rw[AU (by omega)];exact qB1
 have q11:AH 1 (H1.get h.next)=some vr:=by rw[o1 _ (by omega)];exact qB1
 simp only[eE,seval,↓eP,Nat.zero_add,BN,BO,qB1,len1,w9,mk1,qp,cp1,q11]
 refine WK.loop (fun k s'=>s'.T.get 1=qP h.next 0∧s'.T.get 2=qP (h.next+1) 0∧s'.T.get 3=qP A.next 0∧s'.T.get 4=qS B.next (s.rows.length+9) (s.rows.length+9)∧s'.T.get 5=iv ((s.rows.length+k:Nat):Int)∧k≤9∧s'.h.next=B.next+1∧s'.h.floor=h.floor∧(∀ i,i<B.next→s'.h.get i=B.get i) ∧
  ∃ L:List AB,s'.h.get B.next=.row (L.flatMap AV) 60 false false∧L.length=s.rows.length+9∧(∀ j,j<s.rows.length→L[j]?=s.rows[j]?)∧∀ q,q<k→L[s.rows.length+q]?=some (SS (s.rows.length+q))) 9 (by omega) ?_ ?_
 ·refine⟨by simp only[eE,seval,↓eP,rP],by simp only[eE,seval,↓eP,rP],by simp only[eE,seval,↓eP,rP],by simp only[eE,seval,↓eP,rP],by simp only[eE,seval,↓eP,rP];rfl,by omega,n1,f1.trans (by omega),o1,s.rows++List.replicate 9 I2,?_,by simp,fun j hj=>by rw[List.getElem?_append_left hj],fun q hq=>by omega⟩
  show H1.get B.next=_
  have zz:B0 (CE I2).cells.toList 9=(List.replicate 9 I2).flatMap AV:=jY 9
  rw[g1,zz,List.flatMap_append]
 rintro k ⟨T1,H2⟩ hk ⟨t1,t2,t3,t4,t5,hk9,n2,f2,o2,L,gL,lL,own,marks⟩
 simp only at t1 t2 t3 t4 t5 n2 f2 o2 gL
 by_cases hlt:k<9
 ·have c1:decide (((s.rows.length+k:Nat):Int)<((s.rows.length+9:Nat):Int))=true:=by simp;omega
  have hix:=i6 (id:=B.next) (n:=s.rows.length+9) (c:=s.rows.length+9) (i:=s.rows.length+k) (by omega)
  have hst:=sD (h:=H2) (i:=s.rows.length+k) (x:=⟨-9,ByteArray.empty,0,((s.rows.length+k:Nat):Int),0⟩) rfl gL (by omega) (by omega)
  have w1:IntKind.i64.wrap (((s.rows.length+k:Nat):Int)+1)=((s.rows.length+(k+1):Nat):Int):=BT (by omega) (by omega)
  simp only[eE,seval,↓eP,t1,t2,t3,t4,t5,H_,c1,uZ,hix,hst,w1]
  refine⟨hlt,by omega,n2,f2,fun i hi=>by rw[AR (by omega) (by omega)];exact o2 i hi,_,BL rfl (by omega),by rw[List.length_set];exact lL,fun j hj=>?_,fun q hq=>?_⟩
  ·rw[List.getElem?_set_ne (by omega)]
   exact own j hj
  ·rcases Nat.lt_or_ge q k with h1 | h1
   ·rw[List.getElem?_set_ne (by omega)]
    exact marks q h1
   ·have:q=k:=by omega
    subst this
    rw[List.getElem?_set_self (by omega)]
    rfl
 have c1:decide (((s.rows.length+k:Nat):Int)<((s.rows.length+9:Nat):Int))=false:=by simp;omega
 have:k=9:=by omega
 subst this
 have hs0:=hs
 unfold C_ at hl
 obtain⟨r1,r2,r3,r4,r5,r6⟩:=hs
 have q21:AH 1 (H2.get h.next)=some vr:=by rw[o2 _ (by omega)];exact qB1
 have gD2:H2.get A.next=.row cs0 27 false false:=by rw[o2 _ (by omega)];exact gB
 have hsl1:=fun (H:AA)=>R8 (P:=Tryz.prog) (h:=H) (t:=22) (e:=60) (id:=B.next) (n:=s.rows.length+9) (m:=s.rows.length) (c:=s.rows.length+9) Tryz.underlying22 FN (by omega) (by unfold AO;omega)
 have hst1:=GM (v:=qS B.next s.rows.length (s.rows.length+9)) (off:=1) bA rfl rfl gD2 (by omega) (by omega)
 simp only[eE,seval,↓eP,Nat.zero_add,t1,t3,t4,t5,H_,c1,BN,BO,q21,len1,hsl1,hst1]
 have gD3:(H2.put A.next (.row (cs0.set 1 (qS B.next s.rows.length (s.rows.length+9))) 27 false false)).get A.next=.row (cs0.set 1 (qS B.next s.rows.length (s.rows.length+9))) 27 false false:=BL rfl (by omega)
 have n3:(H2.put A.next (.row (cs0.set 1 (qS B.next s.rows.length (s.rows.length+9))) 27 false false)).next=H2.next:=rfl
 have f3:(H2.put A.next (.row (cs0.set 1 (qS B.next s.rows.length (s.rows.length+9))) 27 false false)).floor=H2.floor:=rfl
 have o3:∀ i,i≠A.next→(H2.put A.next (.row (cs0.set 1 (qS B.next s.rows.length (s.rows.length+9))) 27 false false)).get i=H2.get i:=fun i hi=>AR (by omega) (Ne.symm hi)
 generalize H2.put A.next (.row (cs0.set 1 (qS B.next s.rows.length (s.rows.length+9))) 27 false false)=H3 at *
 have z3:∀ i,i<A.next→H3.get i=A.get i:=fun i hi=>by rw[o3 i (by omega),o2 i (by omega),oB i hi]
 have w3:∀ m:Nat,m<900000000→IntKind.i64.wrap ((m:Int)+3)=((m+3:Nat):Int):=fun m hm=>BT (by omega) (by omega)
 have len2:=fun h'=>OF p2 h'
 have a2:AH 2 (A.get h.next)=some vq:=by rw[gA];rfl
 have P2:AN lo H3 vq s.queues.length 2 (DE s.queues):=p2.mono (by omega) fun i _ hi=>by rw[z3 i (by omega),gO i hi]
 obtain⟨G2,H4,m21,m22,m23,m24,m25,m26,m27,m28,m29,g4,n4,f4,o4⟩:=jK (k:=3) (slot:=2) (D:=A.next) (t:=23) (e:=75) (z:=.agg #[.string ByteArray.empty,.bool false]) Tryz.underlying23 OS iY R0 rfl rfl (by decide) (by decide) YX P2 (X8 s.queues) (by omega) (by omega) (by omega) gD3 (by simp only[List.length_set];omega)
 have b2:AH 2 (H3.get h.next)=some vq:=by rw[z3 _ (by omega)];exact a2
 have d2:∀ r,AH 2 ((H3.push r).get h.next)=some vq:=fun r=>by rw[AU (by omega)];exact b2
 have e2:AH 2 (G2.get h.next)=some vq:=by rw[m27 _ (by omega)];exact b2
 simp only[eE,seval,↓eP,Nat.zero_add,t1,t3,D2,DZ,b2,len2,w3 s.queues.length (by omega),m21,d2,m22,e2,m28,m29]
 have z4:∀ i,i<A.next→H4.get i=A.get i:=fun i hi=>by rw[o4 i (by omega),m27 i (by omega),z3 i hi]
 have gD4:=g4
 have len3:=fun h'=>OA p3 h'
 have a3:AH 3 (A.get h.next)=some vv:=by rw[gA];rfl
 have P3:AN lo H4 vv s.vars.length 1 (CJ s.vars):=p3.mono (by omega) fun i _ hi=>by rw[z4 i (by omega),gO i hi]
 obtain⟨G3,H5,m31,m32,m33,m34,m35,m36,m37,m38,m39,g5,n5,f5,o5⟩:=jK (k:=3) (slot:=3) (D:=A.next) (t:=24) (e:=9) (z:=.string ByteArray.empty) Tryz.underlying24 KH UK RE rfl rfl (by decide) (by decide) QH P3 (TV s.vars) (by omega) (by omega) (by omega) gD4 (by simp only[List.length_set];omega)
 have b3:AH 3 (H4.get h.next)=some vv:=by rw[z4 _ (by omega)];exact a3
 have d3:∀ r,AH 3 ((H4.push r).get h.next)=some vv:=fun r=>by rw[AU (by omega)];exact b3
 have e3:AH 3 (G3.get h.next)=some vv:=by rw[m37 _ (by omega)];exact b3
 simp only[eE,seval,↓eP,Nat.zero_add,t1,t3,JM,II,b3,len3,w3 s.vars.length (by omega),m31,d3,m32,e3,m38,m39]
 have z5:∀ i,i<A.next→H5.get i=A.get i:=fun i hi=>by rw[o5 i (by omega),m37 i (by omega),z4 i hi]
 have gD5:=g5
 have len4:=fun h'=>OA p4 h'
 have a4:AH 4 (A.get h.next)=some vt:=by rw[gA];rfl
 have P4:AN lo H5 vt s.tags.length 1 (CJ s.tags):=p4.mono (by omega) fun i _ hi=>by rw[z5 i (by omega),gO i hi]
 obtain⟨G4,H6,m41,m42,m43,m44,m45,m46,m47,m48,m49,g6,n6,f6,o6⟩:=jK (k:=3) (slot:=4) (D:=A.next) (t:=24) (e:=9) (z:=.string ByteArray.empty) Tryz.underlying24 KH UK RE rfl rfl (by decide) (by decide) QH P4 (TV s.tags) (by omega) (by omega) (by omega) gD5 (by simp only[List.length_set];omega)
 have b4:AH 4 (H5.get h.next)=some vt:=by rw[z5 _ (by omega)];exact a4
 have d4:∀ r,AH 4 ((H5.push r).get h.next)=some vt:=fun r=>by rw[AU (by omega)];exact b4
 have e4:AH 4 (G4.get h.next)=some vt:=by rw[m47 _ (by omega)];exact b4
 simp only[eE,seval,↓eP,Nat.zero_add,t1,t3,JR,II,b4,len4,w3 s.tags.length (by omega),m41,d4,m42,e4,m48,m49]
 have z6:∀ i,i<A.next→H6.get i=A.get i:=fun i hi=>by rw[o6 i (by omega),m47 i (by omega),z5 i hi]
 have gD6:=g6
 have a5:AH 5 (A.get h.next)=some vu:=by rw[gA];rfl
 have P5:AW lo H6 vu s.rules:=AW.mono p5 (by omega) fun i _ hi=>by rw[z6 i (by omega),gO i hi]
 obtain⟨G5,H7,L5,m5,l5,_,m58,gD7,n7,f7,o7⟩:=oZ (n:=n) (slot:=5) P5 (by omega) (by omega) (by omega) gD6 (by simp only[List.length_set];omega) (by omega)
 have b5:AH 5 (H6.get h.next)=some vu:=by rw[z6 _ (by omega)];exact a5
 simp only[eE,seval,↓eP,Nat.zero_add,t1,t3,H9,C3,b5,m5,m58]
 have z7:∀ i,i<A.next→H7.get i=A.get i:=fun i hi=>by rw[o7 i (by omega) (by omega),z6 i hi]
 have a6:AH 6 (A.get h.next)=some vo:=by rw[gA];rfl
 have P6:AW lo H7 vo s.on:=AW.mono p6 (by omega) fun i _ hi=>by rw[z7 i (by omega),gO i hi]
 obtain⟨G6,H8,L6,m6,l6,_,m68,gD8,n8,f8,o8⟩:=oZ (n:=n) (slot:=6) P6 (by omega) (by omega) (by omega) gD7 (by simp only[List.length_set];omega) (by omega)
 have b6:AH 6 (H7.get h.next)=some vo:=by rw[z7 _ (by omega)];exact a6
 simp only[eE,seval,↓eP,Nat.zero_add,t3,ID,C3,b6,m6,m68]
 have z8:∀ i,i<A.next→H8.get i=A.get i:=fun i hi=>by rw[o8 i (by omega) (by omega),z7 i hi]
 have lC:A_ 8 0 (H8.get A.next)=some (.agg #[.string nm,qS B.next s.rows.length (s.rows.length+9),qS H3.next s.queues.length (s.queues.length+3),qS H4.next s.vars.length (s.vars.length+3),qS H5.next s.tags.length (s.tags.length+3),qS H6.next s.rules.length (s.rules.length+5),qS H7.next s.on.length (s.on.length+5),iv s.miss]):=by
  rw[IW gD8 (by simp only[List.length_set];omega),← hcs]
  rfl
 have gZ8:H8.get (h.next+1)=.row BY 27 false false:=by rw[z8 _ (by omega)];exact gZ
 have hstW:=JN (t:=27) FM (h:=H8) (vs:=[.string nm,qS B.next s.rows.length (s.rows.length+9),qS H3.next s.queues.length (s.queues.length+3),qS H4.next s.vars.length (s.vars.length+3),qS H5.next s.tags.length (s.tags.length+3),qS H6.next s.rules.length (s.rules.length+5),qS H7.next s.on.length (s.on.length+5),iv s.miss]) gZ8 rfl rfl rfl (by omega)
 have hstW':BB Tryz.prog H8 27 (qP (h.next+1) 0) (.agg #[.string nm,qS B.next s.rows.length (s.rows.length+9),qS H3.next s.queues.length (s.queues.length+3),qS H4.next s.vars.length (s.vars.length+3),qS H5.next s.tags.length (s.tags.length+3),qS H6.next s.rules.length (s.rules.length+5),qS H7.next s.on.length (s.on.length+5),iv s.miss])=_:=hstW
 have gF:(H8.put (h.next+1) (.row [.string nm,qS B.next s.rows.length (s.rows.length+9),qS H3.next s.queues.length (s.queues.length+3),qS H4.next s.vars.length (s.vars.length+3),qS H5.next s.tags.length (s.tags.length+3),qS H6.next s.rules.length (s.rules.length+5),qS H7.next s.on.length (s.on.length+5),iv s.miss] 27 false false)).get (h.next+1)=_:=BL rfl (by omega)
 have oF:∀ i,i≠h.next+1→(H8.put (h.next+1) (.row [.string nm,qS B.next s.rows.length (s.rows.length+9),qS H3.next s.queues.length (s.queues.length+3),qS H4.next s.vars.length (s.vars.length+3),qS H5.next s.tags.length (s.tags.length+3),qS H6.next s.rules.length (s.rules.length+5),qS H7.next s.on.length (s.on.length+5),iv s.miss] 27 false false)).get i=H8.get i:=fun i hi=>AR (by omega) (Ne.symm hi)
 have lF:=IW gF rfl
 have nF:(H8.put (h.next+1) (.row [.string nm,qS B.next s.rows.length (s.rows.length+9),qS H3.next s.queues.length (s.queues.length+3),qS H4.next s.vars.length (s.vars.length+3),qS H5.next s.tags.length (s.tags.length+3),qS H6.next s.rules.length (s.rules.length+5),qS H7.next s.on.length (s.on.length+5),iv s.miss] 27 false false)).next=H8.next:=rfl
 have fF:(H8.put (h.next+1) (.row [.string nm,qS B.next s.rows.length (s.rows.length+9),qS H3.next s.queues.length (s.queues.length+3),qS H4.next s.vars.length (s.vars.length+3),qS H5.next s.tags.length (s.tags.length+3),qS H6.next s.rules.length (s.rules.length+5),qS H7.next s.on.length (s.on.length+5),iv s.miss] 27 false false)).floor=H8.floor:=rfl
 simp only[eE,seval,↓eP,hr,t2,DT,lC,hstW',lF]
 generalize H8.put (h.next+1) _=F at *
 have e3:H3.next=h.next+4:=by omega
 have e4:H4.next=h.next+5:=by omega
 have e5:H5.next=h.next+6:=by omega
 have e6:H6.next=h.next+7:=by omega
 have e7:H7.next=h.next+8:=by omega
 have e2:B.next=h.next+3:=by omega
 refine⟨⟨by rw[e2,e3,e4,e5,e6,e7],by omega,⟨L,?_,lL,own,marks⟩,?_,?_,?_,⟨L5,?_,l5.len,l5.own,l5.marks⟩,⟨L6,?_,l6.len,l6.own,l6.marks⟩⟩,by omega,by omega,fun i hi=>by rw[oF i (by omega),z8 i (by omega),gO i hi]⟩
 ·rw[← e2,oF _ (by omega),o8 _ (by omega) (by omega),o7 _ (by omega) (by omega),o6 _ (by omega),m47 _ (by omega),o5 _ (by omega),m37 _ (by omega),o4 _ (by omega),m27 _ (by omega),o3 _ (by omega)]
  exact gL
 ·have:h.next+3+1=H3.next:=by omega
  rw[this,oF _ (by omega),o8 _ (by omega) (by omega),o7 _ (by omega) (by omega),o6 _ (by omega),m47 _ (by omega),o5 _ (by omega),m37 _ (by omega),o4 _ (by omega)]
  exact m24
 ·have:h.next+3+2=H4.next:=by omega
  rw[this,oF _ (by omega),o8 _ (by omega) (by omega),o7 _ (by omega) (by omega),o6 _ (by omega),m47 _ (by omega),o5 _ (by omega)]
  exact m34
 ·have:h.next+3+3=H5.next:=by omega
  rw[this,oF _ (by omega),o8 _ (by omega) (by omega),o7 _ (by omega) (by omega),o6 _ (by omega)]
  exact m44
 ·have:h.next+3+4=H6.next:=by omega
  rw[this,oF _ (by omega),o8 _ (by omega) (by omega)]
  exact l5.g
 ·have:h.next+3+5=H7.next:=by omega
  rw[this,oF _ (by omega)]
  exact l6.g
theorem Wm {nm:ByteArray} {s:AM} {pv:Value} {lo:Nat} (hp:BP lo h pv nm s) (hs:FR s) (hl:C_ s<900000000) (hfl:h.floor≤h.next) (hn:40<n) :
  ∃ v' h',AK n 8 [pv] h=some (v',h')∧ME h' (h.next+3) v' nm s∧h'.next=h.next+9∧h'.floor=h.floor∧∀ i,i<h.next→h'.get i=h.get i:=by
 obtain⟨n,rfl⟩:=B8 hn
 refine MG (BD ⟨rfl,rfl,rfl⟩) (zH (n:=n) (N:=n) hp hs hl hfl (by omega) (by omega)) fun v' h1 hf _ ht=>?_
 rw[ht.1.v] at hf
 cases hf
end
theorem aF {P:Program} {t e:TypeId} {w id n c i:Nat} (ht:P.underlying t=some (.slice e)) (he:BM P e=some w) (hi:i<n):CB P t (qS id n c) (iv (i:Int))=some (.pointer (some ⟨id,i*w,none⟩)):=by
 simp only[CB,ht,he,CN]
 rw[if_pos (by omega)]
 simp
theorem OU {H:AA} {id:Nat} {a b c d e f g i:Value} {ty:TypeId} {x y:Bool} (hg:H.get id=.row [a,b,c,d,e,f,g,i] ty x y):AH 0 (H.get id)=some a∧AH 1 (H.get id)=some b∧AH 2 (H.get id)=some c∧AH 3 (H.get id)=some d∧AH 4 (H.get id)=some e∧AH 5 (H.get id)=some f∧AH 6 (H.get id)=some g∧AH 7 (H.get id)=some i:=by
 rw[hg]
 exact U_
section
variable {n N:Nat} {h:AA}
theorem Wp {nm:ByteArray} {s:AM} {va vb:Value} {la lb:Nat} (ha:BP la h va nm s) (hb:BP lb h vb nm s) (hs:FR s) (hn:C_ s+10<n) :
  ∃ h',AY Tryz.prog (AK n) N 39 [va,vb] h=some (.bool true,h')∧∀ i,i<h.next→h'.get i=h.get i:=by
 obtain⟨ar,aq,av,at_,au,ao,rfl,a1,a2,a3,a4,a5,a6⟩:=id ha
 obtain⟨br,bq,bv,bt,bu,bo,rfl,b1,b2,b3,b4,b5,b6⟩:=id hb
 refine DW (R:=fun h'=>∀ i,i<h.next→h'.get i=h.get i) Tryz.func39 rfl (by simp[Tryz.f39]) ?_
 have hr:Tryz.f39.results.toList=[.tmp 4]:=rfl
 have ca:=DV [.string nm,ar,aq,av,at_,au,ao,iv s.miss]
 have cb:=DV [.string nm,br,bq,bv,bt,bu,bo,iv s.miss]
 have oa:=HU (nm:=nm) a1 a2 a3 a4 a5 a6
 have ob:=HU (nm:=nm) b1 b2 b3 b4 b5 b6
 obtain⟨gA,gB,nG,fG,gO⟩:=MJ h (.row [.string nm,ar,aq,av,at_,au,ao,iv s.miss] 27 false false) (.row [.string nm,br,bq,bv,bt,bu,bo,iv s.miss] 27 false false)
 simp only[eE,seval,↓eP,C2,CW,C6,ca,oa,cb,ob,FM]
 generalize (h.push (.row [.string nm,ar,aq,av,at_,au,ao,iv s.miss] 27 false false)).push (.row [.string nm,br,bq,bv,bt,bu,bo,iv s.miss] 27 false false)=Q at *
 obtain⟨x0,x1,x2,x3,x4,x5,x6,x7⟩:=OU gA
 obtain⟨y0,y1,y2,y3,y4,y5,y6,y7⟩:=OU gB
 obtain⟨r1,r2,r3,r4,r5,r6⟩:=hs
 unfold C_ at hn
 have s1:=Gy (n:=n) (a1.1.mono (by omega) gO) (b1.1.mono (by omega) gO) r1 (by omega)
 have s2:=Ke (n:=n) (a2.mono (by omega) fun i _ hi=>gO i hi) (b2.mono (by omega) fun i _ hi=>gO i hi) r2 (by omega)
 have s3:=eU (n:=n) (a3.mono (by omega) fun i _ hi=>gO i hi) (b3.mono (by omega) fun i _ hi=>gO i hi) r3 (by omega)
 have s4:=eU (n:=n) (a4.mono (by omega) fun i _ hi=>gO i hi) (b4.mono (by omega) fun i _ hi=>gO i hi) r4 (by omega)
 have s5:=VZ (n:=n) (AW.mono a5 (by omega) fun i _ hi=>gO i hi) (AW.mono b5 (by omega) fun i _ hi=>gO i hi) r5 (by omega)
 have s6:=VZ (n:=n) (AW.mono a6 (by omega) fun i _ hi=>gO i hi) (AW.mono b6 (by omega) fun i _ hi=>gO i hi) r6 (by omega)
 have hnm:=LK nm
 simp only[eE,seval,↓eP,hr,Nat.zero_add,KO,BN,D2,JM,JR,H9,ID,IV,FU,BO,DZ,II,C3,AL,x0,x1,x2,x3,x4,x5,x6,x7,y0,y1,y2,y3,y4,y5,y6,y7,RL,hnm,s1,s2,s3,s4,s5,s6]
 exact gO
theorem yW {nm:ByteArray} {s:AM} {va vb:Value} {la lb:Nat} (ha:BP la h va nm s) (hb:BP lb h vb nm s) (hs:FR s) (hn:C_ s+20<n):AK n 39 [va,vb] h=some (.bool true,h):=by
 obtain⟨n,rfl⟩:=B8 hn
 exact HB (BD ⟨rfl,rfl,rfl⟩) rfl (Wp (n:=n) (N:=n) ha hb hs (by omega))
theorem Es {l:List ByteArray} {i:Nat} {x:ByteArray} {ty:TypeId} {a b:Bool} (hx:l[i]?=some x):AH i (.row (CJ l) ty a b)=some (.string x):=by
 simp[AH,CJ,hx]
theorem Rm {l:List ByteArray} {i:Nat} {x:ByteArray}:(CJ l).set i (.string x)=CJ (l.set i x):=by simp[CJ,List.map_set]
theorem Ce {l:List ByteArray} {v:Value} {o lo:Nat} (hg:h.get o=.row (CJ l++B0 [.string ByteArray.empty] 3) 9 false false) (ho:o<h.next) (hf:h.floor≤o) (hv:AN lo h v l.length 1 (CJ l)) (hl:l.length<900000000) (hn:l.length+10<n) (hN:l.length+10<N) :
  ∃ h',AY Tryz.prog (AK n) N 40 [qS o l.length (l.length+3),v] h=some (.bool true,h')∧(h'.next=h.next∧h'.floor=h.floor∧∀ i,i≠o→h'.get i=h.get i):=by
 refine DW (R:=fun h'=>h'.next=h.next∧h'.floor=h.floor∧∀ i,i≠o→h'.get i=h.get i) Tryz.func40 rfl (by simp[Tryz.f40]) ?_
 have hr:Tryz.f40.results.toList=[.tmp 4]:=rfl
 have hM:AN 0 h (qS o l.length (l.length+3)) l.length 1 (CJ l):=AN.row hg ⟨Nat.zero_le _,ho⟩ (by simp[CJ])
 have hs:=eU (n:=n) hM hv (by omega) (by omega)
 have hz:CJ l++B0 [.string ByteArray.empty] 3=CJ (l++List.replicate 3 ByteArray.empty):=by simp[CJ,B0]
 rw[hz] at hg
 have lenV:=fun h'=>OA hv h'
 have lenM:=fun h'=>OA hM h'
 have lenA:∀ h':AA,CY Tryz.prog h' 24 (qS o (l.length+3) (l.length+3))=some (iv ((l.length+3:Nat):Int)):=fun h'=>by simp[CY,Tryz.underlying24]
 have w3:IntKind.i64.wrap ((l.length:Int)+3)=((l.length+3:Nat):Int):=BT (by omega) (by omega)
 have hsl:=fun (H:AA)=>R8 (P:=Tryz.prog) (h:=H) (t:=24) (e:=9) (id:=o) (n:=l.length) (m:=l.length+3) (c:=l.length+3) Tryz.underlying24 KH (by omega) (by unfold AO;omega)
 simp only[eE,seval,↓eP,hs,lenM,w3,hsl]
 refine WK.loop (fun k s'=>s'.T.get 1=v∧s'.T.get 5=.bool true∧s'.T.get 6=qS o (l.length+3) (l.length+3)∧s'.T.get 7=iv (k:Int)∧k≤l.length+3∧s'.h.next=h.next∧s'.h.floor=h.floor∧(∀ i,i≠o→s'.h.get i=h.get i)∧∃ W,s'.h.get o=.row (CJ W) 9 false false∧W.length=l.length+3∧∀ j,k≤j→W[j]?=(l++List.replicate 3 ByteArray.empty)[j]?) (l.length+3) (by omega) ?_ ?_
 ·exact⟨by simp only[eE,seval,↓eP,rP],by simp only[eE,seval,↓eP,rP],by simp only[eE,seval,↓eP,rP],by simp only[eE,seval,↓eP,rP] <;> rfl,by omega,rfl,rfl,fun _ _=>rfl,_,hg,by simp,fun _ _=>rfl⟩
 rintro k ⟨T1,H1⟩ hk ⟨t1,t5,t6,t7,hk3,n1,f1,o1,W,gW,lW,eW⟩
 simp only at t1 t5 t6 t7 n1 f1 o1 gW
 by_cases hlt:k<l.length+3
 ·have c1:decide ((k:Int)<((l.length+3:Nat):Int))=true:=by simp;omega
  have hix:CB Tryz.prog 24 (qS o (l.length+3) (l.length+3)) (iv (k:Int))=some (qP o k):=by
   have:=aF (id:=o) (n:=l.length+3) (c:=l.length+3) (i:=k) Tryz.underlying24 KH hlt
   rwa [Nat.mul_one] at this
  have hst:=GM (v:=.string XT) (off:=k) KH rfl rfl gW (by rw[show (CJ W).length=W.length by simp[CJ]];omega) (by omega)
  rw[Rm] at hst
  have w1:=DF k (by omega)
  by_cases h2:k<l.length
  ·have c2:decide ((k:Int)<(l.length:Int))=true:=by simp;omega
   simp only[eE,seval,↓eP,t1,t5,t6,t7,lenA,lenV,c1,c2,hix,hst,w1]
   exact⟨hlt,by omega,n1,f1,fun i hi=>by rw[AR (by omega) (Ne.symm hi)];exact o1 i hi,_,BL rfl (by omega),by rw[List.length_set];exact lW,fun j hj=>by rw[List.getElem?_set_ne (by omega)];exact eW j (by omega)⟩
  ·have c2:decide ((k:Int)<(l.length:Int))=false:=by simp;omega
   have hx:W[k]?=some ByteArray.empty:=by
    rw[eW k (Nat.le_refl _),List.getElem?_append_right (by omega),List.getElem?_replicate,if_pos (by omega)]
   have hld:AH k (H1.get o)=some (.string ByteArray.empty):=by rw[gW];exact Es hx
   have hbe:((ByteArray.empty:ByteArray) == { data:=#[] })=true:=LK _
   simp only[eE,seval,↓eP,t1,t5,t6,t7,lenA,lenV,c1,c2,hix,FU,hld,RL,hbe,hst,w1]
   exact⟨hlt,by omega,n1,f1,fun i hi=>by rw[AR (by omega) (Ne.symm hi)];exact o1 i hi,_,BL rfl (by omega),by rw[List.length_set];exact lW,fun j hj=>by rw[List.getElem?_set_ne (by omega)];exact eW j (by omega)⟩
 have c1:decide ((k:Int)<((l.length+3:Nat):Int))=false:=by simp;omega
 simp only[eE,seval,↓eP,hr,t5,t6,t7,lenA,c1]
 exact⟨n1,f1,o1⟩
theorem t_ {l:List ByteArray} {v:Value} {o lo:Nat} (hg:h.get o=.row (CJ l++B0 [.string ByteArray.empty] 3) 9 false false) (ho:o<h.next) (hf:h.floor≤o) (hv:AN lo h v l.length 1 (CJ l)) (hl:l.length<900000000) (hn:l.length+20<n) :
  ∃ h',AK n 40 [qS o l.length (l.length+3),v] h=some (.bool true,h')∧(h'.next=h.next∧h'.floor=h.floor∧∀ i,i≠o→h'.get i=h.get i):=by
 obtain⟨n,rfl⟩:=B8 hn
 exact OM (BD ⟨rfl,rfl,rfl⟩) (Ce hg ho hf hv hl (by omega) (by omega))
end
theorem tK:∀ {l:List (ByteArray × Bool)} {k:Nat} {x:ByteArray × Bool},l[k]?=some x→(DE l)[k*2]?=some (.string x.1)∧(DE l)[k*2+1]?=some (.bool x.2)
 | [],k,x,h=>by simp at h
 | y :: l,0,x,h=>by
  cases h
  exact⟨rfl,rfl⟩
 | y :: l,k+1,x,h=>by
  have h':l[k]?=some x:=by simpa using h
  have e:DE (y :: l)=.string y.1 :: .bool y.2 :: DE l:=rfl
  obtain⟨a,b⟩:=tK h'
  rw[e]
  refine⟨?_,?_⟩
  ·rw[show (k+1)*2=k*2+1+1 by omega]
   exact a
  ·rw[show (k+1)*2+1=k*2+1+1+1 by omega]
   exact b
theorem dK {l:List (ByteArray × Bool)} {i:Nat} {x:ByteArray × Bool} (hx:l[i]?=some x) {lo:Nat} {h:AA} {v:Value} (hc:AN lo h v l.length 2 (DE l)):∃ id p,CB Tryz.prog 23 v (iv (i:Int))=some (qP id p)∧id<h.next∧AH (p+1) (h.get id)=some (.bool x.2):=by
 obtain⟨id,p,h1,h2,h3⟩:=AN.idx hc Tryz.underlying23 OS (List.getElem?_eq_some_iff.1 hx).1
 refine⟨id,p,h1,h2,?_⟩
 rw[h3 1 (by decide)]
 exact(tK hx).2
theorem S_ {size:Int} {C:List Int} {Q:List (ByteArray × Bool)} (h:size<1∨size>1048576∨C.length≠Q.length):K7 size C Q=false:=by
 unfold K7
 rw[if_pos h]
theorem SF {size:Int} {C:List Int} {Q:List (ByteArray × Bool)} (h:I0 size (IP C Q) 0 0=none):K7 size C Q=false:=by
 unfold K7
 split
 ·rfl
 ·rw[h]
theorem mF {size r o:Int} {C:List Int} {Q:List (ByteArray × Bool)} (h1:1≤size) (h2:size≤1048576) (h3:C.length=Q.length) (h:I0 size (IP C Q) 0 0=some (r,o)):K7 size C Q=decide (min size r+o≤4194304):=by
 unfold K7
 rw[if_neg (by omega),h]
theorem nO (a b:Int):(if b<a then b else a)=min a b:=by
 by_cases h:b<a
 ·rw[if_pos h];omega
 ·rw[if_neg h];omega
section
variable {n N:Nat} {h:AA}
theorem Vb {nm:ByteArray} {s:AM} {pv cv:Value} {lo lc:Nat} {size:Int} {C:List Int} (hp:BP lo h pv nm s) (hc:ER lc h cv size C) (hC:C.length<9000000) (hN:C.length+10<N) :
  ∃ h',AY Tryz.prog (AK n) N 41 [pv,cv] h=some (.bool (K7 size C s.queues),h')∧∀ i,i<h.next→h'.get i=h.get i:=by
 obtain⟨vr,vq,vv,vt,vu,vo,rfl,p1,p2,p3,p4,p5,p6⟩:=id hp
 obtain⟨vc,rfl,pc⟩:=id hc
 refine DW (R:=fun h'=>∀ i,i<h.next→h'.get i=h.get i) Tryz.func41 rfl (by simp[Tryz.f41]) ?_
 have hr:Tryz.f41.results.toList=[.tmp 4]:=rfl
 have ca:=DV [.string nm,vr,vq,vv,vt,vu,vo,iv s.miss]
 have oa:=HU (nm:=nm) p1 p2 p3 p4 p5 p6
 have cb:=DV [iv size,vc]
 have ob:[iv size,vc].all one=true:=by simp only[List.all_cons,List.all_nil,AN.one pc,IM,Bool.and_self]
 obtain⟨gA,gB,nG,fG,gO⟩:=MJ h (.row [.string nm,vr,vq,vv,vt,vu,vo,iv s.miss] 27 false false) (.row [iv size,vc] 39 false false)
 simp only[eE,seval,↓eP,C2,CW,C6,ca,oa,cb,ob,FM,KS]
 generalize (h.push (.row [.string nm,vr,vq,vv,vt,vu,vo,iv s.miss] 27 false false)).push (.row [iv size,vc] 39 false false)=Q at *
 obtain⟨x0,x1,x2,x3,x4,x5,x6,x7⟩:=OU gA
 have y0:AH 0 (Q.get (h.next+1))=some (iv size):=by rw[gB];rfl
 have y1:AH 1 (Q.get (h.next+1))=some vc:=by rw[gB];rfl
 have lenC:=fun h'=>LL pc h'
 have lenQ:=fun h'=>OF p2 h'
 have pq:AN lo Q vq s.queues.length 2 (DE s.queues):=p2.mono (by omega) fun i _ hi=>gO i hi
 have pC:AW lc Q vc C:=AW.mono pc (by omega) fun i _ hi=>gO i hi
 cases d1:decide (size<1) with
 | true=>
  rw[S_ (.inl (by simpa using d1))]
  simp only[eE,seval,↓eP,hr,KG,AL,y0,d1]
  exact gO
 | false=>
 have e1:1≤size:=by simp only[decide_eq_false_iff_not] at d1;omega
 cases d2:decide (size>1048576) with
 | true=>
  rw[S_ (.inr (.inl (by simpa using d2)))]
  simp only[eE,seval,↓eP,hr,KG,AL,y0,d1,d2]
  exact gO
 | false=>
 have e2:size≤1048576:=by simp only[decide_eq_false_iff_not] at d2;omega
 cases d3:((C.length:Int) != (s.queues.length:Int)) with
 | true=>
  rw[S_ (.inr (.inr (fun h9=>by rw[h9] at d3;simp at d3)))]
  simp only[eE,seval,↓eP,hr,Nat.zero_add,KG,LY,D2,AL,C3,DZ,y0,y1,x2,lenC,lenQ,d1,d2,d3]
  exact gO
 | false=>
 have e3:C.length=s.queues.length:=by
  have h9:(C.length:Int)=(s.queues.length:Int):=by simpa using d3
  omega
 simp only[eE,seval,↓eP,Nat.zero_add,KG,LY,D2,AL,C3,DZ,y0,y1,x2,lenC,lenQ,d1,d2,d3]
 refine WK.loop (fun i s'=>s'.T.get 2=qP h.next 0∧s'.T.get 3=qP (h.next+1) 0∧s'.T.get 27=vc∧s'.T.get 28=iv (C.length:Int)∧s'.T.get 29=iv (i:Int)∧s'.h=Q∧i≤C.length∧∃ r o:Int,s'.T.get 5=iv r∧s'.T.get 6=iv o∧0≤r∧r≤1048576*(i:Int)∧0≤o∧o≤1048576*(i:Int)∧I0 size ((IP C s.queues).drop i) r o=I0 size (IP C s.queues) 0 0) C.length (by omega) ?_ ?_
 ·exact⟨by simp only[eE,seval,↓eP,rP],by simp only[eE,seval,↓eP,rP],by simp only[eE,seval,↓eP,rP],by simp only[eE,seval,↓eP,rP],by simp only[eE,seval,↓eP,rP] <;> rfl,rfl,by omega,0,0,by simp only[eE,seval,↓eP,rP] <;> rfl,by simp only[eE,seval,↓eP,rP] <;> rfl,by omega,by omega,by omega,by omega,by rw[List.drop_zero]⟩
 rintro i ⟨T1,H1⟩ hi ⟨t2,t3,t27,t28,t29,hh,hil,r,o,t5,t6,r0,r1,o0,o1,hgo⟩
 simp only at t2 t3 t27 t28 t29 t5 t6 hh
 subst hh
 have hbd:1048576*(i:Int)≤1048576*9000000:=by omega
 by_cases hlt:i<C.length
 ·have c1:decide ((i:Int)<(C.length:Int))=true:=by simp;omega
  obtain⟨m,hm⟩:∃ m,C[i]?=some m:=⟨_,List.getElem?_eq_getElem hlt⟩
  obtain⟨q,hq⟩:∃ q,s.queues[i]?=some q:=⟨_,List.getElem?_eq_getElem (by omega)⟩
  obtain⟨ida,pa,ea,_,xa⟩:=AW.get pC hm
  obtain⟨idb,pb,eb,_,xb⟩:=dK hq pq
  have w1:=DF i (by omega)
  cases d4:decide (m<1) with
  | true=>
   rw[SF (by rw[← hgo];exact SW hm hq (.inl (by simpa using d4)))]
   simp only[eE,seval,↓eP,hr,t27,t28,t29,c1,AL,ea,xa,d4]
   exact gO
  | false=>
  have e4:1≤m:=by simp only[decide_eq_false_iff_not] at d4;omega
  cases d5:decide (m>1048576) with
  | true=>
   rw[SF (by rw[← hgo];exact SW hm hq (.inr (.inl (by simpa using d5))))]
   simp only[eE,seval,↓eP,hr,t27,t28,t29,c1,AL,ea,xa,d4,d5]
   exact gO
  | false=>
  have e5:m≤1048576:=by simp only[decide_eq_false_iff_not] at d5;omega
  have wo:IntKind.i64.wrap (o+m)=o+m:=BT (by omega) (by omega)
  have wr:IntKind.i64.wrap (r+m)=r+m:=BT (by omega) (by omega)
  cases d6:q.2 with
  | true=>
   have xb':AH (pb+1) (H1.get idb)=some (.bool true):=by rw[← d6];exact xb
   simp only[eE,seval,↓eP,hr,Nat.zero_add,t2,t3,t27,t28,t29,t5,t6,c1,D2,IR,AL,DZ,EE,x2,ea,xa,eb,d4,d5,xb',wo,w1]
   exact⟨hlt,by omega,r,o+m,rfl,rfl,by omega,by omega,by omega,by omega,by rw[← hgo,tP hm hq ⟨e4,e5⟩ d6]⟩
  | false=>
  have xb':AH (pb+1) (H1.get idb)=some (.bool false):=by rw[← d6];exact xb
  cases d7:decide (m>size) with
  | true=>
   rw[SF (by rw[← hgo];exact SW hm hq (.inr (.inr ⟨d6,by simpa using d7⟩)))]
   simp only[eE,seval,↓eP,hr,Nat.zero_add,t2,t3,t27,t28,t29,c1,KG,D2,IR,AL,DZ,EE,y0,x2,ea,xa,eb,d4,d5,xb',d7]
   exact gO
  | false=>
  have e7:m≤size:=by simp only[decide_eq_false_iff_not] at d7;omega
  simp only[eE,seval,↓eP,hr,Nat.zero_add,t2,t3,t27,t28,t29,t5,t6,c1,KG,D2,IR,AL,DZ,EE,y0,x2,ea,xa,eb,d4,d5,xb',d7,wr,w1]
  exact⟨hlt,by omega,r+m,o,rfl,rfl,by omega,by omega,by omega,by omega,by rw[← hgo,vK hm hq ⟨e4,e5⟩ d6 e7]⟩
 have c1:decide ((i:Int)<(C.length:Int))=false:=by simp;omega
 rw[mF (r:=r) (o:=o) e1 e2 e3 (by rw[← hgo];exact rU e3 (by omega))]
 have wz:IntKind.i64.wrap ((if r<size then r else size)+o)=(if r<size then r else size)+o:=BT (by split <;> omega) (by split <;> omega)
 simp only[eE,seval,↓eP,hr,t3,t28,t29,t5,t6,c1,KG,AL,y0,wz]
 rw[nO]
 exact⟨rfl,gO⟩
theorem Az {nm:ByteArray} {s:AM} {pv cv:Value} {lo lc:Nat} {size:Int} {C:List Int} (hp:BP lo h pv nm s) (hc:ER lc h cv size C) (hC:C.length<9000000) (hn:C.length+20<n):AK n 41 [pv,cv] h=some (.bool (K7 size C s.queues),h):=by
 obtain⟨n,rfl⟩:=B8 hn
 exact HB (BD ⟨rfl,rfl,rfl⟩) rfl (Vb (n:=n) (N:=n) hp hc hC (by omega))
theorem z_ {nm:ByteArray} {s:AM} {pv cv:Value} {lo lc:Nat} {size:Int} {C:List Int} (hp:BP lo h pv nm s) (hc:ER lc h cv size C) (hC:C.length<9000000) (hN:C.length+10<N) :
  ∃ h',AY Tryz.prog (AK n) N 42 [pv,cv] h=some (.bool (K7 size C s.queues),h')∧∀ i,i<h.next→h'.get i=h.get i:=by
 obtain⟨vr,vq,vv,vt,vu,vo,rfl,p1,p2,p3,p4,p5,p6⟩:=id hp
 obtain⟨vc,rfl,pc⟩:=id hc
 refine DW (R:=fun h'=>∀ i,i<h.next→h'.get i=h.get i) Tryz.func42 rfl (by simp[Tryz.f42]) ?_
 have hr:Tryz.f42.results.toList=[.tmp 4]:=rfl
 have ca:=DV [.string nm,vr,vq,vv,vt,vu,vo,iv s.miss]
 have oa:=HU (nm:=nm) p1 p2 p3 p4 p5 p6
 have cb:=DV [iv size,vc]
 have ob:[iv size,vc].all one=true:=by simp only[List.all_cons,List.all_nil,AN.one pc,IM,Bool.and_self]
 obtain⟨gA,gB,nG,fG,gO⟩:=MJ h (.row [.string nm,vr,vq,vv,vt,vu,vo,iv s.miss] 27 false false) (.row [iv size,vc] 39 false false)
 simp only[eE,seval,↓eP,C2,CW,C6,ca,oa,cb,ob,FM,KS]
 generalize (h.push (.row [.string nm,vr,vq,vv,vt,vu,vo,iv s.miss] 27 false false)).push (.row [iv size,vc] 39 false false)=Q at *
 obtain⟨x0,x1,x2,x3,x4,x5,x6,x7⟩:=OU gA
 have y0:AH 0 (Q.get (h.next+1))=some (iv size):=by rw[gB];rfl
 have y1:AH 1 (Q.get (h.next+1))=some vc:=by rw[gB];rfl
 have lenC:=fun h'=>LL pc h'
 have lenQ:=fun h'=>OF p2 h'
 have pq:AN lo Q vq s.queues.length 2 (DE s.queues):=p2.mono (by omega) fun i _ hi=>gO i hi
 have pC:AW lc Q vc C:=AW.mono pc (by omega) fun i _ hi=>gO i hi
 cases d1:decide (size<1) with
 | true=>
  rw[S_ (.inl (by simpa using d1))]
  simp only[eE,seval,↓eP,hr,KG,AL,y0,d1]
  exact gO
 | false=>
 have e1:1≤size:=by simp only[decide_eq_false_iff_not] at d1;omega
 cases d2:decide (size>1048576) with
 | true=>
  rw[S_ (.inr (.inl (by simpa using d2)))]
  simp only[eE,seval,↓eP,hr,KG,AL,y0,d1,d2]
  exact gO
 | false=>
 have e2:size≤1048576:=by simp only[decide_eq_false_iff_not] at d2;omega
 cases d3:((C.length:Int) != (s.queues.length:Int)) with
 | true=>
  rw[S_ (.inr (.inr (fun h9=>by rw[h9] at d3;simp at d3)))]
  simp only[eE,seval,↓eP,hr,Nat.zero_add,KG,LY,D2,AL,C3,DZ,y0,y1,x2,lenC,lenQ,d1,d2,d3]
  exact gO
 | false=>
 have e3:C.length=s.queues.length:=by
  have h9:(C.length:Int)=(s.queues.length:Int):=by simpa using d3
  omega
 simp only[eE,seval,↓eP,Nat.zero_add,KG,LY,D2,AL,C3,DZ,y0,y1,x2,lenC,lenQ,d1,d2,d3]
 refine WK.loop (fun i s'=>s'.T.get 2=qP h.next 0∧s'.T.get 3=qP (h.next+1) 0∧s'.T.get 7=iv (i:Int)∧s'.h=Q∧i≤C.length∧∃ r o:Int,s'.T.get 5=iv r∧s'.T.get 6=iv o∧0≤r∧r≤1048576*(i:Int)∧0≤o∧o≤1048576*(i:Int)∧I0 size ((IP C s.queues).drop i) r o=I0 size (IP C s.queues) 0 0) C.length (by omega) ?_ ?_
 ·exact⟨by simp only[eE,seval,↓eP,rP],by simp only[eE,seval,↓eP,rP],by simp only[eE,seval,↓eP,rP] <;> rfl,rfl,by omega,0,0,by simp only[eE,seval,↓eP,rP] <;> rfl,by simp only[eE,seval,↓eP,rP] <;> rfl,by omega,by omega,by omega,by omega,by rw[List.drop_zero]⟩
 rintro i ⟨T1,H1⟩ hi ⟨t2,t3,t7,hh,hil,r,o,t5,t6,r0,r1,o0,o1,hgo⟩
 simp only at t2 t3 t7 t5 t6 hh
 subst hh
 have hbd:1048576*(i:Int)≤1048576*9000000:=by omega
 by_cases hlt:i<C.length
 ·have c1:decide ((i:Int)<(C.length:Int))=true:=by simp;omega
  obtain⟨m,hm⟩:∃ m,C[i]?=some m:=⟨_,List.getElem?_eq_getElem hlt⟩
  obtain⟨q,hq⟩:∃ q,s.queues[i]?=some q:=⟨_,List.getElem?_eq_getElem (by omega)⟩
  obtain⟨ida,pa,ea,_,xa⟩:=AW.get pC hm
  obtain⟨idb,pb,eb,_,xb⟩:=dK hq pq
  have w1:=DF i (by omega)
  cases d4:decide (m<1) with
  | true=>
   rw[SF (by rw[← hgo];exact SW hm hq (.inl (by simpa using d4)))]
   simp only[eE,seval,↓eP,hr,Nat.zero_add,t3,t7,lenC,c1,LY,AL,C3,y1,ea,xa,d4]
   exact gO
  | false=>
  have e4:1≤m:=by simp only[decide_eq_false_iff_not] at d4;omega
  cases d5:decide (m>1048576) with
  | true=>
   rw[SF (by rw[← hgo];exact SW hm hq (.inr (.inl (by simpa using d5))))]
   simp only[eE,seval,↓eP,hr,Nat.zero_add,t3,t7,lenC,c1,LY,AL,C3,y1,ea,xa,d4,d5]
   exact gO
  | false=>
  have e5:m≤1048576:=by simp only[decide_eq_false_iff_not] at d5;omega
  have wo:IntKind.i64.wrap (o+m)=o+m:=BT (by omega) (by omega)
  have wr:IntKind.i64.wrap (r+m)=r+m:=BT (by omega) (by omega)
  cases d6:q.2 with
  | true=>
   have xb':AH (pb+1) (H1.get idb)=some (.bool true):=by rw[← d6];exact xb
   simp only[eE,seval,↓eP,hr,Nat.zero_add,t2,t3,t7,t5,t6,lenC,c1,LY,D2,IR,AL,C3,DZ,EE,y1,x2,ea,xa,eb,d4,d5,xb',wo,w1]
   exact⟨hlt,by omega,r,o+m,rfl,rfl,by omega,by omega,by omega,by omega,by rw[← hgo,tP hm hq ⟨e4,e5⟩ d6]⟩
  | false=>
  have xb':AH (pb+1) (H1.get idb)=some (.bool false):=by rw[← d6];exact xb
  cases d7:decide (m>size) with
  | true=>
   rw[SF (by rw[← hgo];exact SW hm hq (.inr (.inr ⟨d6,by simpa using d7⟩)))]
   simp only[eE,seval,↓eP,hr,Nat.zero_add,t2,t3,t7,lenC,c1,KG,LY,D2,IR,AL,C3,DZ,EE,y0,y1,x2,ea,xa,eb,d4,d5,xb',d7]
   exact gO
  | false=>
  have e7:m≤size:=by simp only[decide_eq_false_iff_not] at d7;omega
  simp only[eE,seval,↓eP,hr,Nat.zero_add,t2,t3,t7,t5,t6,lenC,c1,KG,LY,D2,IR,AL,C3,DZ,EE,y0,y1,x2,ea,xa,eb,d4,d5,xb',d7,wr,w1]
  exact⟨hlt,by omega,r+m,o,rfl,rfl,by omega,by omega,by omega,by omega,by rw[← hgo,vK hm hq ⟨e4,e5⟩ d6 e7]⟩
 have c1:decide ((i:Int)<(C.length:Int))=false:=by simp;omega
 rw[mF (r:=r) (o:=o) e1 e2 e3 (by rw[← hgo];exact rU e3 (by omega))]
 have wz:IntKind.i64.wrap ((if size<r then size else r)+o)=(if size<r then size else r)+o:=BT (by split <;> omega) (by split <;> omega)
 simp only[eE,seval,↓eP,hr,Nat.zero_add,t3,t7,t5,t6,lenC,c1,KG,LY,AL,C3,y0,y1,wz]
 rw[nO,Int.min_comm]
 exact⟨rfl,gO⟩
theorem Up {nm:ByteArray} {s:AM} {pv cv:Value} {lo lc:Nat} {size:Int} {C:List Int} (hp:BP lo h pv nm s) (hc:ER lc h cv size C) (hC:C.length<9000000) (hn:C.length+20<n):AK n 42 [pv,cv] h=some (.bool (K7 size C s.queues),h):=by
 obtain⟨n,rfl⟩:=B8 hn
 exact HB (BD ⟨rfl,rfl,rfl⟩) rfl (z_ (n:=n) (N:=n) hp hc hC (by omega))
end
theorem L9 {Q:List (ByteArray × Bool)} {lo:Nat} {h:AA} {v:Value} (hc:AN lo h v Q.length 2 (DE Q)) {m:Int} (h0:0≤m) (h1:m<Q.length):∃ id p,CB Tryz.prog 23 v (iv m)=some (qP id p)∧id<h.next∧AH (p+1) (h.get id)=some (.bool (M0 Q m)):=by
 obtain⟨q,hq⟩:∃ q,Q[m.toNat]?=some q:=⟨_,List.getElem?_eq_getElem (by omega)⟩
 obtain⟨id,p,a,b,c⟩:=dK hq hc
 rw[show ((m.toNat:Nat):Int)=m by omega] at a
 refine⟨id,p,a,b,?_⟩
 rw[c]
 unfold M0
 rw[hq]
 rfl
section
variable {Q:List (ByteArray × Bool)} {x up:AB}
theorem ST (h:x.kind=8∨x.kind=17∨x.kind=20):JS Q x up=M0 Q x.n:=by
 unfold JS
 rw[if_pos (by rcases h with h | h | h <;> rw[h] <;> rfl)]
theorem ZB (h:x.kind=9∨x.kind=21):JS Q x up = !(M0 Q x.n):=by
 unfold JS
 rw[if_neg (by rcases h with h | h <;> rw[h] <;> decide),if_pos (by rcases h with h | h <;> rw[h] <;> rfl)]
theorem pF (h:x.kind=24) (h2:up.kind=20):JS Q x up = !(M0 Q x.n):=by
 unfold JS
 rw[if_neg (by rw[h];decide),if_neg (by rw[h];decide),if_pos h,if_pos h2]
theorem uN (h:x.kind=24) (h2:up.kind≠20):JS Q x up=(M0 Q x.n != M0 Q up.n):=by
 unfold JS
 rw[if_neg (by rw[h];decide),if_neg (by rw[h];decide),if_pos h,if_neg h2]
theorem wZ (h:x.kind≠8∧x.kind≠17∧x.kind≠20∧x.kind≠9∧x.kind≠21∧x.kind≠24):JS Q x up=false:=by
 obtain⟨h1,h2,h3,h4,h5,h6⟩:=h
 unfold JS
 rw[if_neg (by simp[h1,h2,h3]),if_neg (by simp[h4,h5]),if_neg h6]
end
theorem KB {t:TypeId} {k:Nat} (ht:BM Tryz.prog t=some k) {H:AA} {vs zs:List Value} (hz:zs.length=k) (hl:vs.length=k) (ho:vs.all one=true) (hf:H.floor≤H.next) :
  ∃ H',BB Tryz.prog (H.push (.row zs t false false)) t (qP H.next 0) (.agg vs.toArray)=some H'∧H'.get H.next=.row vs t false false∧H'.next=H.next+1∧H'.floor=H.floor∧∀ i,i<H.next→H'.get i=H.get i:=
 ⟨_,JN ht (BX (h:=H)) hz hl ho hf,BL rfl (by show H.next<H.next+1;omega),rfl,rfl,fun i hi=>by rw[AR (by show H.next<H.next+1;omega) (by omega),AU hi]⟩
def fX:List (Bool × Bool × List Operand):=[A7,A7,AI [.tmp 44],AI [.tmp 44],A7,A7,A7,AI [.tmp 44,.tmp 46,.tmp 49],AI [.tmp 44,.tmp 46,.tmp 49],AI [.tmp 44,.tmp 46,.tmp 49,.tmp 51],AI [.tmp 44,.tmp 46,.tmp 49,.tmp 51],AI [.tmp 44,.tmp 46,.tmp 49],AI [.tmp 44,.tmp 46,.tmp 49],AI [.tmp 44,.tmp 46,.tmp 49],AP,AP]
section
variable {n N:Nat} {h:AA}
theorem Gp {nm:ByteArray} {s:AM} {pv:Value} {lo:Nat} {x up:AB} (hp:BP lo h pv nm s) (hx:[8,17,20,9,21,24].contains x.kind=true→0≤x.n∧x.n<s.queues.length) (hu:x.kind=24→up.kind≠20→0≤up.n∧up.n<s.queues.length) :
  ∃ h',AY Tryz.prog (AK n) N 30 [pv,CE x,CE up] h=some (.bool (JS s.queues x up),h')∧∀ i,i<h.next→h'.get i=h.get i:=by
 obtain⟨vr,vq,vv,vt,vu,vo,rfl,p1,p2,p3,p4,p5,p6⟩:=id hp
 have hsn:=(EJ n).2
 refine DW (R:=fun h'=>∀ i,i<h.next→h'.get i=h.get i) Tryz.func30 rfl (by simp[Tryz.f30]) ?_
 have hr:Tryz.f30.results.toList=[.tmp 6]:=rfl
 have ca:=DV [.string nm,vr,vq,vv,vt,vu,vo,iv s.miss]
 have oa:=HU (nm:=nm) p1 p2 p3 p4 p5 p6
 have cx:(CE x).cells.toList=AV x:=rfl
 have ox:(AV x).all one=true:=rfl
 have cu:(CE up).cells.toList=AV up:=rfl
 have ou:(AV up).all one=true:=rfl
 obtain⟨gA,gX,gU,nG,fG,gO⟩:=SA h (.row [.string nm,vr,vq,vv,vt,vu,vo,iv s.miss] 27 false false) (.row (AV x) 60 false false) (.row (AV up) 60 false false)
 simp only[eE,seval,↓eP,C2,CW,C6,ca,oa,cx,ox,cu,ou,FM,FN]
 generalize ((h.push (.row [.string nm,vr,vq,vv,vt,vu,vo,iv s.miss] 27 false false)).push (.row (AV x) 60 false false)).push (.row (AV up) 60 false false)=G at *
 have nn:h.next+1+1=h.next+2:=rfl
 obtain⟨a0,a1,a2,a3,a4,a5,a6,a7⟩:=OU gA
 have x0:AH 0 (G.get (h.next+1))=some (iv x.kind):=by rw[gX];rfl
 have x3:AH 3 (G.get (h.next+1))=some (iv x.n):=by rw[gX];rfl
 have u0:AH 0 (G.get (h.next+2))=some (iv up.kind):=by rw[gU];rfl
 have u3:AH 3 (G.get (h.next+2))=some (iv up.n):=by rw[gU];rfl
 have pq:AN lo G vq s.queues.length 2 (DE s.queues):=p2.mono (by omega) fun i _ hi=>gO i hi
 cases c8:(x.kind==8) with
 | true=>
  have k:=beq_iff_eq.1 c8
  obtain⟨h1,h2⟩:=hx (by rw[k];rfl)
  obtain⟨id,p,e1,e2,e3⟩:=L9 pq h1 h2
  rw[ST (.inl k)]
  simp only[eE,seval,↓eP,hr,nn,Nat.zero_add,F1,AL,D2,DZ,IR,EE,a2,x0,x3,c8,e1,e3]
  exact gO
 | false=>
 cases c17:(x.kind==17) with
 | true=>
  have k:=beq_iff_eq.1 c17
  obtain⟨h1,h2⟩:=hx (by rw[k];rfl)
  obtain⟨id,p,e1,e2,e3⟩:=L9 pq h1 h2
  rw[ST (.inr (.inl k))]
  simp only[eE,seval,↓eP,hr,nn,Nat.zero_add,F1,AL,D2,DZ,IR,EE,a2,x0,x3,c8,c17,e1,e3]
  exact gO
 | false=>
 cases c20:(x.kind==20) with
 | true=>
  have k:=beq_iff_eq.1 c20
  obtain⟨h1,h2⟩:=hx (by rw[k];rfl)
  obtain⟨id,p,e1,e2,e3⟩:=L9 pq h1 h2
  rw[ST (.inr (.inr k))]
  simp only[eE,seval,↓eP,hr,nn,Nat.zero_add,F1,AL,D2,DZ,IR,EE,a2,x0,x3,c8,c17,c20,e1,e3]
  exact gO
 | false=>
 cases c9:(x.kind==9) with
 | true=>
  have k:=beq_iff_eq.1 c9
  obtain⟨h1,h2⟩:=hx (by rw[k];rfl)
  obtain⟨id,p,e1,e2,e3⟩:=L9 pq h1 h2
  rw[ZB (.inl k)]
  simp only[eE,seval,↓eP,hr,nn,Nat.zero_add,F1,AL,D2,DZ,IR,EE,a2,x0,x3,c8,c17,c20,c9,e1,e3]
  exact gO
 | false=>
 cases c21:(x.kind==21) with
 | true=>
  have k:=beq_iff_eq.1 c21
  obtain⟨h1,h2⟩:=hx (by rw[k];rfl)
  obtain⟨id,p,e1,e2,e3⟩:=L9 pq h1 h2
  rw[ZB (.inr k)]
  simp only[eE,seval,↓eP,hr,nn,Nat.zero_add,F1,AL,D2,DZ,IR,EE,a2,x0,x3,c8,c17,c20,c9,c21,e1,e3]
  exact gO
 | false=>
 cases c24:(x.kind==24) with
 | false=>
  simp only[beq_eq_false_iff_ne] at c8 c17 c20 c9 c21 c24
  rw[wZ ⟨c8,c17,c20,c9,c21,c24⟩]
  rw[← beq_eq_false_iff_ne] at c8 c17 c20 c9 c21 c24
  simp only[eE,seval,↓eP,hr,nn,x0,c8,c17,c20,c9,c21,c24]
  exact gO
 | true=>
 have k:=beq_iff_eq.1 c24
 obtain⟨h1,h2⟩:=hx (by rw[k];rfl)
 obtain⟨id,p,e1,e2,e3⟩:=L9 pq h1 h2
 cases cu20:(up.kind==20) with
 | true=>
  rw[pF k (beq_iff_eq.1 cu20)]
  simp only[eE,seval,↓eP,hr,nn,Nat.zero_add,BC,F1,AL,D2,DZ,IR,EE,a2,x0,x3,u0,c8,c17,c20,c9,c21,c24,cu20,e1,e3]
  exact gO
 | false=>
 have ku:up.kind≠20:=by simpa using cu20
 obtain⟨h3,h4⟩:=hu k ku
 obtain⟨id2,p2',e4,e5,e6⟩:=L9 pq h3 h4
 rw[uN k ku]
 simp only[eE,seval,↓eP,nn,BC,AL,x0,u0,c8,c17,c20,c9,c21,c24,cu20]
 refine WK.flags (fs:=fX) (by kernel_rfl) ?_
 unfold fX
 iterate 16
  refine DI hsn ?_
  simp only[rG,seval,AD,AF,AE,CT,DC,CM,C4,DJ,D2,DZ,a2,F1,AL,x3,e1,IR,e3,EE,u3,e4,e6,XS]
 refine DH ?_
 simp only[eE,seval,↓eP,hr]
 exact gO
theorem Xl {nm:ByteArray} {s:AM} {pv:Value} {lo:Nat} {x up:AB} (hp:BP lo h pv nm s) (hx:[8,17,20,9,21,24].contains x.kind=true→0≤x.n∧x.n<s.queues.length) (hu:x.kind=24→up.kind≠20→0≤up.n∧up.n<s.queues.length) (hn:0<n):AK n 30 [pv,CE x,CE up] h=some (.bool (JS s.queues x up),h):=by
 obtain⟨n,rfl⟩:=B8 hn
 exact HB (BD ⟨rfl,rfl,rfl⟩) rfl (Gp (n:=n) (N:=n) hp hx hu)
end
def dF:List (Bool × Bool × List Operand):=[A7,A7,AI [.tmp 55],AI [.tmp 55],A7,A7,A7,AI [.tmp 55,.tmp 57,.tmp 60],AI [.tmp 55,.tmp 57,.tmp 60],AI [.tmp 55,.tmp 57,.tmp 60,.tmp 62],AI [.tmp 55,.tmp 57,.tmp 60,.tmp 62],AI [.tmp 55,.tmp 57,.tmp 60],AI [.tmp 55,.tmp 57,.tmp 60],AI [.tmp 55,.tmp 57,.tmp 60],AP,AP]
section
variable {n N:Nat} {h:AA}
theorem Nn {nm:ByteArray} {s:AM} {pv:Value} {lo:Nat} {x up:AB} (hp:BP lo h pv nm s) {a:Nat} (hxa:s.rows[a]?=some x) (hua:x.kind=24→s.rows[a-1]?=some up∧0<a) (hla:s.rows.length<900000000) (hx:[8,17,20,9,21,24].contains x.kind=true→0≤x.n∧x.n<s.queues.length) (hu:x.kind=24→up.kind≠20→0≤up.n∧up.n<s.queues.length) (hfl:h.floor≤h.next) :
  ∃ h',AY Tryz.prog (AK n) N 38 [pv,iv (a:Int)] h=some (.bool (JS s.queues x up),h')∧∀ i,i<h.next→h'.get i=h.get i:=by
 obtain⟨vr,vq,vv,vt,vu,vo,rfl,p1,p2,p3,p4,p5,p6⟩:=id hp
 have hsn:=(EJ n).2
 refine DW (R:=fun h'=>∀ i,i<h.next→h'.get i=h.get i) Tryz.func38 rfl (by simp[Tryz.f38]) ?_
 have hr:Tryz.f38.results.toList=[.tmp 4]:=rfl
 have ca:=DV [.string nm,vr,vq,vv,vt,vu,vo,iv s.miss]
 have oa:=HU (nm:=nm) p1 p2 p3 p4 p5 p6
 have g0:∀ (a:BF),(h.push a).get h.next=a∧(h.push a).next=h.next+1∧(h.push a).floor=h.floor∧∀ i,i<h.next→(h.push a).get i=h.get i:=fun a=>⟨BX,rfl,rfl,fun i hi=>AU hi⟩
 obtain⟨gA0,nG0,fG0,gO0⟩:=g0 (.row [.string nm,vr,vq,vv,vt,vu,vo,iv s.miss] 27 false false)
 simp only[eE,seval,↓eP,C2,CW,C6,ca,oa,FM]
 generalize h.push (.row [.string nm,vr,vq,vv,vt,vu,vo,iv s.miss] 27 false false)=B at *
 have hvB:AQ B vr s.rows:=p1.1.mono (by omega) gO0
 obtain⟨ia,pa,ea,ha,_,_,_,_,_,la⟩:=hvB.row hxa
 obtain⟨G,stG,gX,nG,fG,oG⟩:=KB (t:=60) FN (H:=B) (zs:=AV I2) (vs:=AV x) rfl rfl rfl (by omega)
 have stG':BB Tryz.prog (B.push (.row (AV I2) 60 false false)) 60 (qP B.next 0) (CE x)=some G:=stG
 obtain⟨b0,b1,b2,b3,b4,b5,b6,b7⟩:=OU gA0
 have gA:G.get h.next=.row [.string nm,vr,vq,vv,vt,vu,vo,iv s.miss] 27 false false:=by rw[oG _ (by omega)];exact gA0
 obtain⟨a0,a1,a2,a3,a4,a5,a6,a7⟩:=OU gA
 have x0:AH 0 (G.get B.next)=some (iv x.kind):=by rw[gX];rfl
 have x3:AH 3 (G.get B.next)=some (iv x.n):=by rw[gX];rfl
 have gO:∀ i,i<h.next→G.get i=h.get i:=fun i hi=>by rw[oG i (by omega)];exact gO0 i hi
 have pq:AN lo G vq s.queues.length 2 (DE s.queues):=p2.mono (by omega) fun i _ hi=>gO i hi
 have fz:flat (CE I2)=true:=rfl
 simp only[eE,seval,↓eP,Nat.zero_add,BN,BO,b1,ea,FQ,la,E1,fz,zr,stG']
 cases c8:(x.kind==8) with
 | true=>
  have k:=beq_iff_eq.1 c8
  obtain⟨h1,h2⟩:=hx (by rw[k];rfl)
  obtain⟨id,p,e1,e2,e3⟩:=L9 pq h1 h2
  rw[ST (.inl k)]
  simp only[eE,seval,↓eP,hr,Nat.zero_add,BC,F1,AL,D2,DZ,IR,EE,a2,x0,x3,c8,e1,e3]
  exact gO
 | false=>
 cases c17:(x.kind==17) with
 | true=>
  have k:=beq_iff_eq.1 c17
  obtain⟨h1,h2⟩:=hx (by rw[k];rfl)
  obtain⟨id,p,e1,e2,e3⟩:=L9 pq h1 h2
  rw[ST (.inr (.inl k))]
  simp only[eE,seval,↓eP,hr,Nat.zero_add,BC,F1,AL,D2,DZ,IR,EE,a2,x0,x3,c8,c17,e1,e3]
  exact gO
 | false=>
 cases c20:(x.kind==20) with
 | true=>
  have k:=beq_iff_eq.1 c20
  obtain⟨h1,h2⟩:=hx (by rw[k];rfl)
  obtain⟨id,p,e1,e2,e3⟩:=L9 pq h1 h2
  rw[ST (.inr (.inr k))]
  simp only[eE,seval,↓eP,hr,Nat.zero_add,BC,F1,AL,D2,DZ,IR,EE,a2,x0,x3,c8,c17,c20,e1,e3]
  exact gO
 | false=>
 cases c9:(x.kind==9) with
 | true=>
  have k:=beq_iff_eq.1 c9
  obtain⟨h1,h2⟩:=hx (by rw[k];rfl)
  obtain⟨id,p,e1,e2,e3⟩:=L9 pq h1 h2
  rw[ZB (.inl k)]
  simp only[eE,seval,↓eP,hr,Nat.zero_add,BC,F1,AL,D2,DZ,IR,EE,a2,x0,x3,c8,c17,c20,c9,e1,e3]
  exact gO
 | false=>
 cases c21:(x.kind==21) with
 | true=>
  have k:=beq_iff_eq.1 c21
  obtain⟨h1,h2⟩:=hx (by rw[k];rfl)
  obtain⟨id,p,e1,e2,e3⟩:=L9 pq h1 h2
  rw[ZB (.inr k)]
  simp only[eE,seval,↓eP,hr,Nat.zero_add,BC,F1,AL,D2,DZ,IR,EE,a2,x0,x3,c8,c17,c20,c9,c21,e1,e3]
  exact gO
 | false=>
 cases c24:(x.kind==24) with
 | false=>
  simp only[beq_eq_false_iff_ne] at c8 c17 c20 c9 c21 c24
  rw[wZ ⟨c8,c17,c20,c9,c21,c24⟩]
  rw[← beq_eq_false_iff_ne] at c8 c17 c20 c9 c21 c24
  simp only[eE,seval,↓eP,hr,BC,AL,x0,c8,c17,c20,c9,c21,c24]
  exact gO
 | true=>
 have k:=beq_iff_eq.1 c24
 obtain⟨h1,h2⟩:=hx (by rw[k];rfl)
 obtain⟨hua1,hua2⟩:=hua k
 have al:=(List.getElem?_eq_some_iff.1 hua1).1
 have hvG:AQ G vr s.rows:=p1.1.mono (by omega) gO
 obtain⟨iu,pu,eu,_,_,_,_,_,_,lu⟩:=hvG.row hua1
 have wa:IntKind.i64.wrap ((a:Int)-1)=((a-1:Nat):Int):=(BT (by omega) (by omega)).trans (by omega)
 obtain⟨K,stK,gU,nK,fK,oK⟩:=KB (t:=60) FN (H:=G) (zs:=AV I2) (vs:=AV up) rfl rfl rfl (by omega)
 have stK':BB Tryz.prog (G.push (.row (AV I2) 60 false false)) 60 (qP G.next 0) (CE up)=some K:=stK
 have u0:AH 0 (K.get G.next)=some (iv up.kind):=by rw[gU];rfl
 have u3:AH 3 (K.get G.next)=some (iv up.n):=by rw[gU];rfl
 have kO:∀ i,i<h.next→K.get i=h.get i:=fun i hi=>by rw[oK i (by omega)];exact gO i hi
 have kx3:AH 3 (K.get B.next)=some (iv x.n):=by rw[oK _ (by omega)];exact x3
 have ka2:AH 2 (K.get h.next)=some vq:=by rw[oK _ (by omega)];exact a2
 have pqK:AN lo K vq s.queues.length 2 (DE s.queues):=p2.mono (by omega) fun i _ hi=>kO i hi
 obtain⟨id,p,e1,e2,e3⟩:=L9 pqK h1 h2
 cases cu20:(up.kind==20) with
 | true=>
  rw[pF k (beq_iff_eq.1 cu20)]
  simp only[eE,seval,↓eP,hr,Nat.zero_add,BC,F1,AL,D2,DZ,IR,EE,x0,c8,c17,c20,c9,c21,c24,BN,BO,a1,wa,eu,FQ,lu,E1,fz,zr,stK',u0,cu20,ka2,kx3,e1,e3]
  exact kO
 | false=>
 have ku:up.kind≠20:=by simpa using cu20
 obtain⟨h3,h4⟩:=hu k ku
 obtain⟨id2,p2',e4,e5,e6⟩:=L9 pqK h3 h4
 rw[uN k ku]
 simp only[eE,seval,↓eP,Nat.zero_add,BC,AL,x0,c8,c17,c20,c9,c21,c24,BN,BO,a1,wa,eu,FQ,lu,E1,fz,zr,stK',u0,cu20]
 refine WK.flags (fs:=dF) (by kernel_rfl) ?_
 unfold dF
 iterate 16
  refine DI hsn ?_
  simp only[rG,seval,AD,AF,AE,CT,DC,CM,C4,DJ,JV,D2,DZ,ka2,F1,AL,kx3,e1,IR,e3,EE,u3,e4,e6,XS]
 refine DH ?_
 simp only[eE,seval,↓eP,hr]
 exact kO
theorem Jk {nm:ByteArray} {s:AM} {pv:Value} {lo:Nat} {x up:AB} (hp:BP lo h pv nm s) {a:Nat} (hxa:s.rows[a]?=some x) (hua:x.kind=24→s.rows[a-1]?=some up∧0<a) (hla:s.rows.length<900000000) (hx:[8,17,20,9,21,24].contains x.kind=true→0≤x.n∧x.n<s.queues.length) (hu:x.kind=24→up.kind≠20→0≤up.n∧up.n<s.queues.length) (hfl:h.floor≤h.next) (hn:0<n):AK n 38 [pv,iv (a:Int)] h=some (.bool (JS s.queues x up),h):=by
 obtain⟨n,rfl⟩:=B8 hn
 exact HB (BD ⟨rfl,rfl,rfl⟩) rfl (Nn (n:=n) (N:=n) hp hxa hua hla hx hu hfl)
end
theorem W_ {P:Program} {call:AS} {n:Nat} {c:Code} {s:St} {k:B_} (Q:ED→St→Prop) (h1:WK P call n c s (.top Q)) (h2:∀ e s',Q e s'→k.ap P call n e s'):WK P call n c s k:=WS.mono h1 h2
def DK (l:List Bool):List Value:=l.map (.bool ·)
theorem Oq (l:List Bool):(DK l).length=l.length:=by simp[DK]
theorem d_:HC Tryz.prog 4=some 1:=by kernel_rfl
theorem aL:DX Tryz.prog 4=some (.bool false):=by kernel_rfl
theorem dJ (n:Nat):B0 [Value.bool false] n=DK (List.replicate n false):=by
 induction n with
 | zero=>rfl
 | succ n ih=>
  rw[List.replicate_succ]
  show [Value.bool false]++B0 [Value.bool false] n=_
  rw[ih]
  rfl
theorem OV {l:List Bool} {i:Nat} {x:Bool} {ty:TypeId} {g ro:Bool} (hx:l[i]?=some x):AH i (.row (DK l) ty g ro)=some (.bool x):=by simp[AH,DK,hx]
theorem UP {h:AA} {id i:Nat} {l:List Bool} {x:Bool} {ty:TypeId} {g:Bool} (hg:h.get id=.row (DK l) ty g false) (hi:i<l.length) (hf:h.floor≤id):BB Tryz.prog h 4 (qP id i) (.bool x)=some (h.put id (.row (DK (l.set i x)) ty g false)):=by
 have:=GM (v:=.bool x) (off:=i) PI rfl rfl hg (by rw[Oq];exact hi) hf
 rw[this]
 simp[DK,List.map_set]
theorem QO {id n c i:Nat} (hi:i<n):CB Tryz.prog 63 (qS id n c) (iv (i:Int))=some (qP id i):=by
 have:=aF (id:=id) (n:=n) (c:=c) (i:=i) Tryz.underlying63 PI hi
 rwa [Nat.mul_one] at this
structure OP (h H:AA) (P:List Value) (TP:List Int) (M:IJ):Prop where
 p:H.get h.next=.row P 27 false false
 f:H.get (h.next+1)=.row [iv 0,iv 0] 32 false false
 t:H.get (h.next+2)=.row (ints TP) 3 false false
 a:H.get (h.next+3)=.row (ints M.A) 3 false false
 c:H.get (h.next+4)=.row (DK M.C) 4 false false
 u:H.get (h.next+5)=.row (ints M.U) 3 false false
 n:h.next+6≤H.next
 fl:H.floor=h.floor
 o:∀ i,i<h.next→H.get i=h.get i
theorem OP.mono {h H H':AA} {P:List Value} {TP:List Int} {M:IJ} (hT:OP h H P TP M) (hn:H.next≤H'.next) (hf:H'.floor=H.floor) (hg:∀ i,i<h.next+6→H'.get i=H.get i):OP h H' P TP M:=
 ⟨by rw[hg _ (by omega)];exact hT.p,by rw[hg _ (by omega)];exact hT.f,by rw[hg _ (by omega)];exact hT.t,by rw[hg _ (by omega)];exact hT.a,by rw[hg _ (by omega)];exact hT.c,by rw[hg _ (by omega)];exact hT.u,by have:=hT.n;omega,hf.trans hT.fl,fun i hi=>by rw[hg i (by omega)];exact hT.o i hi⟩
theorem I8 {H:AA} {id:Nat} (hg:H.get id=.row [iv 0,iv 0] 32 false false) (hid:id<H.next) (hf:H.floor≤id) (e a:Int) :
  ∃ H',BB Tryz.prog H 32 (qP id 0) (CI e a)=some H'∧A_ 2 0 (H'.get id)=some (CI e a)∧H'.next=H.next∧H'.floor=H.floor∧∀ i,i≠id→H'.get i=H.get i:=
 ⟨_,JN JP (vs:=[iv e,iv a]) hg rfl rfl rfl hf,by rw[BL rfl hid];rfl,rfl,rfl,fun i hi=>AR hid (Ne.symm hi)⟩
def VX:List (Bool × Bool × List Operand):=[AP,AP,AP,AP,AP,AP,A7,A7,A7,A7,AI [.tmp 59],AI [.tmp 59],AI [.tmp 59],AI [.tmp 59],AP,AP,AP]
def U6:List (Bool × Bool × List Operand):=[A7,AI [.tmp 1],AI [.tmp 1,.tmp 10],AI [.tmp 1,.tmp 10],AI [.tmp 1,.tmp 10,.tmp 84],AI [.tmp 1,.tmp 10,.tmp 84],AI [.tmp 1,.tmp 10,.tmp 84],AI [.tmp 1,.tmp 10,.tmp 84],AI [.tmp 1,.tmp 10],AI [.tmp 1,.tmp 10],AP,AP]
def VU:List (Bool × Bool × List Operand):=[HT,HT,HT,HT,HT,HT,A7,A7,AI [.tmp 122],AI [.tmp 122],A7,F5 [.tmp 122],F5 [.tmp 122],F5 [.tmp 122],F5 [.tmp 122],AP,AP,AP,AI [.tmp 132],AP,AP,F5 [.tmp 122,.tmp 129,.tmp 132],AP,AP,AP,AP,AP,AP]
def Sf (h H2:AA) (D m i:Nat) (vr:Value) (B:Int) (e:ED) (s':St):Prop:=
 (e=.normal∧s'.h=H2∧s'.T.get 1=qP h.next 0∧s'.T.get 3=qP (h.next+1) 0∧s'.T.get 5=qS (h.next+2) m m∧s'.T.get 6=qS (h.next+3) m m∧s'.T.get 7=qS (h.next+4) m m∧s'.T.get 8=qS (h.next+5) m m∧s'.T.get 37=vr∧s'.T.get 38=iv (m:Int)∧s'.T.get 39=iv (i:Int)∧s'.T.get 9=iv (i:Int)∧s'.T.get 10=qP D 0∧B=0) ∨
  (e=.ret∧s'.T.get 2=Z0∧s'.T.get 3=qP (h.next+1) 0∧B≠0∧A_ 2 0 (s'.h.get (h.next+1))=some (CI B i)∧s'.h.floor=h.floor∧h.next≤s'.h.next∧∀ j,j<h.next→s'.h.get j=h.get j)
theorem xL {h1:AA} {lo:Nat} {tv:Value} {l:List Int} {e a:Int} (ht:AW lo h1 tv l) (hf:E9 (.tuple #[tv,CI e a])=true) (h:AA):AW lo h tv l:=by
 obtain⟨hl,a',c,rfl,⟨h0,h1⟩ | ⟨id,off,row,ty,g,ro,rfl,_⟩⟩:=ht
 ·exact⟨hl,a',c,rfl,.inl ⟨h0,h1⟩⟩
 ·simp[E9,flat,BS] at hf
section
variable {n N:Nat} {h:AA}
theorem Sz {nm : ByteArray} {s:AM} {pv:Value} {lo:Nat} (hp:BP lo h pv nm s) (hlies:∀ nm' vr vq vv vt vu vo m,pv=.agg #[.string nm',vr,vq,vv,vt,vu,vo,m]→LX vr s.rows.length) (hs:FR s) (hl:s.rows.length<9000000) (hg:h.get 0=EA) (hn0:0<h.next) (hfl:h.floor≤h.next) (hn:2*C_ s+400<n) (hN:s.rows.length+40<N) :
  ∃ v' h',AY Tryz.prog (AK n) N 9 [pv] h=some (v',h')∧TL h' h.next v' (B9 nm s)∧h'.floor=h.floor∧h.next≤h'.next∧∀ i,i<h.next→h'.get i=h.get i:=by
 obtain⟨vr,vq,vv,vt,vu,vo,rfl,p1,p2,p3,p4,p5,p6⟩:=id hp
 have hsn:=(EJ n).2
 have htot:C_ s=s.rows.length+s.queues.length+s.vars.length+s.tags.length+s.rules.length+s.on.length:=rfl
 refine MH (R:=fun v' h'=>TL h' h.next v' (B9 nm s)∧h'.floor=h.floor∧h.next≤h'.next∧∀ i,i<h.next→h'.get i=h.get i) Tryz.func9 rfl (by simp[Tryz.f9]) ?_
 have hr:Tryz.f9.results.toList=[.tmp 2,.cell 3 32]:=rfl
 have ca:=DV [.string nm,vr,vq,vv,vt,vu,vo,iv s.miss]
 have oa:=HU (nm:=nm) p1 p2 p3 p4 p5 p6
 obtain⟨gA,gF,nG,fG,gO⟩:=MJ h (.row [.string nm,vr,vq,vv,vt,vu,vo,iv s.miss] 27 false false) (.row [iv 0,iv 0] 32 false false)
 simp only[eE,seval,↓eP,C2,CW,C6,ca,oa,FM,EN,EO,FZ]
 generalize (h.push (.row [.string nm,vr,vq,vv,vt,vu,vo,iv s.miss] 27 false false)).push (.row [iv 0,iv 0] 32 false false)=Q at *
 have lA:A_ 8 0 (Q.get h.next)=some (.agg #[.string nm,vr,vq,vv,vt,vu,vo,iv s.miss]):=IW gA rfl
 have x1:AH 1 (Q.get h.next)=some vr:=by rw[gA];rfl
 have hpQ:BP lo Q (.agg #[.string nm,vr,vq,vv,vt,vu,vo,iv s.miss]) nm s:=hp.mono (by omega) fun i _ hi=>gO i hi
 have hchk:=uD (n:=n) hpQ hlies hs (by omega) (by omega) (by rw[gO 0 hn0];exact hg) (by omega) (by omega)
 cases d1:(FD nm s != 0) with
 | true=>
  obtain⟨H',s1,s2,s3,s4,s5⟩:=I8 gF (by omega) (by omega) (FD nm s) 0
  have e:B9 nm s=((FD nm s,0),[]):=by unfold B9;rw[if_pos (by simpa using d1)]
  rw[e]
  simp only[eE,seval,↓eP,hr,DT,lA,hchk,d1,NB,s1,CR,s2]
  exact⟨⟨_,rfl,AN.nil _ _ _⟩,by omega,by omega,fun i hi=>by rw[s5 i (by omega)];exact gO i hi⟩
 | false=>
 have e1:FD nm s=0:=by simpa using d1
 have hG:=aR e1
 have eR:B9 nm s=HG s.rows s.queues (AC (A8 s.rows)) s.rows.length 0:=by unfold B9;rw[if_neg (by rw[e1];decide)]
 rw[eR]
 generalize hZ:A8 s.rows=Z at *
 clear hZ eR
 have hsl:=hG.sk.1
 have npos:0<s.rows.length:=by have:=hG.t.pos;omega
 have len1:=fun h'=>NO p1.2 h'
 have JW:∀ H:AA,HP Tryz.prog H 25 (iv (s.rows.length:Int)) (iv (s.rows.length:Int))=some (qS H.next s.rows.length s.rows.length,H.push (.row (ints (List.replicate s.rows.length 0)) 3 false false)):=fun H=>by
  have:=PW (P:=Tryz.prog) (h:=H) (t:=25) (e:=3) (z:=.int .i64 0) Tryz.underlying25 C7 LS JK rfl rfl (by decide) (by decide) (n:=s.rows.length) (by omega)
  rw[show B0 (Value.int IntKind.i64 0).cells.toList s.rows.length=ints (List.replicate s.rows.length 0) from RY _] at this
  exact this
 have mkB:∀ H:AA,HP Tryz.prog H 63 (iv (s.rows.length:Int)) (iv (s.rows.length:Int))=some (qS H.next s.rows.length s.rows.length,H.push (.row (DK (List.replicate s.rows.length false)) 4 false false)):=fun H=>by
  have:=PW (P:=Tryz.prog) (h:=H) (t:=63) (e:=4) (z:=.bool false) Tryz.underlying63 PI d_ aL rfl rfl (by decide) (by decide) (n:=s.rows.length) (by omega)
  rw[show B0 (Value.bool false).cells.toList s.rows.length=DK (List.replicate s.rows.length false) from dJ _] at this
  exact this
 have q1:∀ a,AH 1 ((Q.push a).get h.next)=some vr:=fun a=>by rw[AU (by omega)];exact x1
 have q2:∀ a b,AH 1 (((Q.push a).push b).get h.next)=some vr:=fun a b=>by rw[AU (by show h.next<Q.next+1;omega)];exact q1 a
 have q3:∀ a b c,AH 1 ((((Q.push a).push b).push c).get h.next)=some vr:=fun a b c=>by rw[AU (by show h.next<Q.next+2;omega)];exact q2 a b
 have q4:∀ a b c d,AH 1 (((((Q.push a).push b).push c).push d).get h.next)=some vr:=fun a b c d=>by rw[AU (by show h.next<Q.next+3;omega)];exact q3 a b c
 have g4:∀ (a b c d:BF),let A:=(((Q.push a).push b).push c).push d
   A.get Q.next=a∧A.get (Q.next+1)=b∧A.get (Q.next+2)=c∧A.get (Q.next+3)=d∧A.next=Q.next+4∧A.floor=Q.floor∧∀ i,i<Q.next→A.get i=Q.get i:=fun a b c d=>
  ⟨by rw[AU (by show Q.next<Q.next+3;omega),AU (by show Q.next<Q.next+2;omega)];exact NH,
   by rw[AU (by show Q.next+1<Q.next+3;omega),AU (by show Q.next+1<Q.next+2;omega)];exact NC,
   by rw[AU (by show Q.next+2<Q.next+3;omega)];exact BX (h:=(Q.push a).push b),BX (h:=((Q.push a).push b).push c),rfl,rfl,
   fun i hi=>by rw[AU (by show i<Q.next+3;omega),AU (by show i<Q.next+2;omega),AU (by show i<Q.next+1;omega),AU hi]⟩
 have h4:=g4 (.row (ints (List.replicate s.rows.length 0)) 3 false false) (.row (ints (List.replicate s.rows.length 0)) 3 false false) (.row (DK (List.replicate s.rows.length false)) 4 false false) (.row (ints (List.replicate s.rows.length 0)) 3 false false)
 simp only[eE,seval,↓eP,DT,lA,hchk,d1,Nat.zero_add,BN,BO,x1,q1,q2,q3,q4,len1,JW,mkB]
 obtain⟨ga,gb,gc,gd,n4,f4,o4⟩:=h4
 generalize (((Q.push (.row (ints (List.replicate s.rows.length 0)) 3 false false)).push (.row (ints (List.replicate s.rows.length 0)) 3 false false)).push (.row (DK (List.replicate s.rows.length false)) 4 false false)).push (.row (ints (List.replicate s.rows.length 0)) 3 false false)=B at *
 have hT0:OP h B [.string nm,vr,vq,vv,vt,vu,vo,iv s.miss] (List.replicate s.rows.length 0) (BJ s.rows (AC Z) 0):=by
  rw[nG] at ga gb gc gd
  exact⟨by rw[o4 _ (by omega)];exact gA,by rw[o4 _ (by omega)];exact gF,ga,gb,gc,gd,by omega,by omega,fun i hi=>by rw[o4 i (by omega)];exact gO i hi⟩
 refine WK.loop (fun i s'=>s'.T.get 1=qP h.next 0∧s'.T.get 3=qP (h.next+1) 0∧s'.T.get 5=qS (h.next+2) s.rows.length s.rows.length∧s'.T.get 6=qS (h.next+3) s.rows.length s.rows.length∧s'.T.get 7=qS (h.next+4) s.rows.length s.rows.length∧s'.T.get 8=qS (h.next+5) s.rows.length s.rows.length∧s'.T.get 37=vr∧s'.T.get 38=iv (s.rows.length:Int)∧s'.T.get 39=iv (i:Int)∧i≤s.rows.length∧HG s.rows s.queues (AC Z) (s.rows.length-i) i=HG s.rows s.queues (AC Z) s.rows.length 0∧∃ TP:List Int,TP.length=s.rows.length∧(∀ j,j<i→TP[j]?=(s.rows.map (A9 ·.kind))[j]?)∧OP h s'.h [.string nm,vr,vq,vv,vt,vu,vo,iv s.miss] TP (BJ s.rows (AC Z) i)) s.rows.length (by omega) ?_ ?_
 ·exact⟨by simp only[eE,seval,↓eP,rP],by simp only[eE,seval,↓eP,rP],by simp only[eE,seval,↓eP,rP,nG],by simp only[eE,seval,↓eP,rP,nG],by simp only[eE,seval,↓eP,rP,nG],by simp only[eE,seval,↓eP,rP,nG],by simp only[eE,seval,↓eP,rP],by simp only[eE,seval,↓eP,rP],by simp only[eE,seval,↓eP,rP] <;> rfl,by omega,rfl,_,by simp,fun j hj=>by omega,hT0⟩
 rintro i ⟨T,H⟩ hi ⟨t1,t3,t5,t6,t7,t8,t37,t38,t39,hil,hgo,TP,hTl,hTP,hT⟩
 simp only at t1 t3 t5 t6 t7 t8 t37 t38 t39 hT
 by_cases hlt:i<s.rows.length
 rotate_left
 ·have c1:decide ((i:Int)<(s.rows.length:Int))=false:=by simp;omega
  have hin:i=s.rows.length:=by omega
  subst hin
  have hTe:TP=s.rows.map (A9 ·.kind):=by
   apply List.ext_getElem?
   intro j
   rcases Nat.lt_or_ge j s.rows.length with h1 | h1
   ·exact hTP j h1
   ·rw[List.getElem?_eq_none (by omega),List.getElem?_eq_none (by rw[List.length_map];omega)]
  have hnx:=hT.n
  have hfl':=hT.fl
  obtain⟨H',s1,s2,s3,s4,s5⟩:=I8 hT.f (by omega) (by omega) 0 0
  have eG:HG s.rows s.queues (AC Z) s.rows.length 0=((0,0),s.rows.map (A9 ·.kind)):=by rw[← hgo,Nat.sub_self];rfl
  rw[eG]
  simp only[eE,seval,↓eP,hr,t3,t5,t38,t39,c1,M2,s1,CR,s2]
  exact⟨⟨_,rfl,by rw[← hTe];exact AW.row' (by rw[s5 _ (by omega)];exact hT.t) ⟨by omega,by omega⟩ hTl.symm⟩,by omega,by omega,fun j hj=>by rw[s5 j (by omega)];exact hT.o j hj⟩
 have c1:decide ((i:Int)<(s.rows.length:Int))=true:=by simp;omega
 obtain⟨x,hx⟩:∃ x,s.rows[i]?=some x:=⟨_,List.getElem?_eq_getElem hlt⟩
 obtain⟨r,hr1⟩:∃ r,s.rows.length-i=r+1:=⟨s.rows.length-i-1,by omega⟩
 rw[hr1] at hgo
 have hri:s.rows.length-(i+1)=r:=by omega
 have hnx:=hT.n
 have hfl':=hT.fl
 have hvH:AQ H vr s.rows:=p1.1.mono (by omega) hT.o
 obtain⟨ia,pa,ea,hia,_,_,_,_,_,la⟩:=hvH.row hx
 have fz:flat (CE I2)=true:=rfl
 obtain⟨H1,stX,gX,n1,f1,o1⟩:=KB (t:=60) FN (H:=H) (zs:=AV I2) (vs:=AV x) rfl rfl rfl (by omega)
 have stX':BB Tryz.prog (H.push (.row (AV I2) 60 false false)) 60 (qP H.next 0) (CE x)=some H1:=stX
 have hT1:OP h H1 [.string nm,vr,vq,vv,vt,vu,vo,iv s.miss] TP (BJ s.rows (AC Z) i):=hT.mono (by omega) f1 fun j hj=>o1 j (by omega)
 have kx:=hG.ks i x hx
 have ht1:=uV (n:=n) (h:=H1) kx (by omega)
 have y0:AH 0 (H1.get H.next)=some (iv x.kind):=by rw[gX];rfl
 have ix0:=EG (id:=h.next+2) (n:=s.rows.length) (c:=s.rows.length) (i:=i) hlt
 have st0:BB Tryz.prog H1 3 (qP (h.next+2) i) (iv (A9 x.kind))=some (H1.put (h.next+2) (.row (ints (TP.set i (A9 x.kind))) 3 false false)):=KZ hT1.t (by omega) (by omega)
 have hT2:OP h (H1.put (h.next+2) (.row (ints (TP.set i (A9 x.kind))) 3 false false)) [.string nm,vr,vq,vv,vt,vu,vo,iv s.miss] (TP.set i (A9 x.kind)) (BJ s.rows (AC Z) i):=by
  have g:∀ j,j≠h.next+2→(H1.put (h.next+2) (.row (ints (TP.set i (A9 x.kind))) 3 false false)).get j=H1.get j:=fun j hj=>AR (by omega) (Ne.symm hj)
  exact⟨by rw[g _ (by omega)];exact hT1.p,by rw[g _ (by omega)];exact hT1.f,BL rfl (by omega),by rw[g _ (by omega)];exact hT1.a,by rw[g _ (by omega)];exact hT1.c,by rw[g _ (by omega)];exact hT1.u,hT1.n,hT1.fl,fun j hj=>by rw[g j (by omega)];exact hT1.o j hj⟩
 have gX2:(H1.put (h.next+2) (.row (ints (TP.set i (A9 x.kind))) 3 false false)).get H.next=.row (AV x) 60 false false:=by rw[AR (by omega) (by omega)];exact gX
 have n2:(H1.put (h.next+2) (.row (ints (TP.set i (A9 x.kind))) 3 false false)).next=H.next+1:=n1
 simp only[PB,seval,↓eP,t38,t39,c1]
 rw[RW]
 simp only[PB,seval,↓eP,t5,t37,t39,ea,FQ,la,E1,fz,zr,stX',BC,AL,y0,ht1,ix0,st0]
 have hTl2:(TP.set i (A9 x.kind)).length=s.rows.length:=by rw[List.length_set];exact hTl
 have hTP2:∀ j,j<i+1→(TP.set i (A9 x.kind))[j]?=(s.rows.map (A9 ·.kind))[j]?:=fun j hj=>by
  rcases Nat.lt_or_ge j i with h1 | h1
  ·rw[List.getElem?_set_ne (by omega)]
   exact hTP j h1
  ·have:j=i:=by omega
   subst this
   rw[List.getElem?_set_self (by omega),List.getElem?_map,hx]
   rfl
 generalize H1.put (h.next+2) (.row (ints (TP.set i (A9 x.kind))) 3 false false)=H2 at *
 generalize TP.set i (A9 x.kind)=TP2 at *
 generalize hD:H.next=D at *
 clear st0 stX stX' y0 ht1 hT1 hT hTP
 obtain⟨m1,m2,m3⟩:=RN (R:=s.rows) (AC Z) i
 obtain⟨a,hA⟩:∃ a,(BJ s.rows (AC Z) i).A[i]?=some a:=⟨_,List.getElem?_eq_getElem (by omega)⟩
 obtain⟨c,hC⟩:∃ c,(BJ s.rows (AC Z) i).C[i]?=some c:=⟨_,List.getElem?_eq_getElem (by omega)⟩
 obtain⟨u,hU⟩:∃ u,(BJ s.rows (AC Z) i).U[i]?=some u:=⟨_,List.getElem?_eq_getElem (by omega)⟩
 have hUb:=jF (R:=s.rows) (e:=AC Z) rfl npos i (by omega) u (List.mem_of_getElem? hU)
 obtain⟨up,hup⟩:∃ up,s.rows[u.toNat]?=some up:=⟨_,List.getElem?_eq_getElem (by omega)⟩
 have hnx2:=hT2.n
 have hfl2:=hT2.fl
 have lA':A_ 8 0 (H2.get h.next)=some (.agg #[.string nm,vr,vq,vv,vt,vu,vo,iv s.miss]):=IW hT2.p rfl
 have xa1:AH 1 (H2.get h.next)=some vr:=by rw[hT2.p];rfl
 have y0:AH 0 (H2.get D)=some (iv x.kind):=by rw[gX2];rfl
 have y4:AH 4 (H2.get D)=some (iv x.kids):=by rw[gX2];rfl
 have yN:A_ 5 0 (H2.get D)=some (CE x):=by rw[gX2];rfl
 have ix1:=EG (id:=h.next+3) (n:=s.rows.length) (c:=s.rows.length) (i:=i) hlt
 have ix2:=QO (id:=h.next+4) (n:=s.rows.length) (c:=s.rows.length) (i:=i) hlt
 have ix3:=EG (id:=h.next+5) (n:=s.rows.length) (c:=s.rows.length) (i:=i) hlt
 have l0:AH i (H2.get (h.next+2))=some (iv (A9 x.kind)):=by
  rw[hT2.t]
  refine IF ?_
  rw[hTP2 i (by omega),List.getElem?_map,hx]
  rfl
 have l1:AH i (H2.get (h.next+3))=some (iv a):=by rw[hT2.a];exact IF hA
 have l2:AH i (H2.get (h.next+4))=some (.bool c):=by rw[hT2.c];exact OV hC
 have l3:AH i (H2.get (h.next+5))=some (iv u):=by rw[hT2.u];exact IF hU
 have hv2:AQ H2 vr s.rows:=p1.1.mono (by omega) hT2.o
 obtain⟨iu,pu,eu,hiu,_,_,_,_,_,lu⟩:=hv2.row hup
 rw[show ((u.toNat:Nat):Int)=u by omega] at eu
 have hvar:=Hv (n:=n) (h:=H2) kx (by omega)
 have hp2:BP lo H2 (.agg #[.string nm,vr,vq,vv,vt,vu,vo,iv s.miss]) nm s:=hp.mono (by omega) fun j _ hj=>hT2.o j hj
 have hoth:=Xl (n:=n) (x:=x) (up:=up) hp2 (fun h9=>hG.qn i x hx (nJ h9)) (fun h24 h20=>by
  obtain⟨h0i,up',hup',hU',hrange⟩:=hG.place hx h24
  rw[hU] at hU'
  cases hU'
  rw[show ((i-1:Nat):Int).toNat=i-1 by omega,hup'] at hup
  cases hup
  exact hrange h20) (by omega)
 refine W_ (Sf h H2 D s.rows.length i vr (IZ s.rows s.queues (BJ s.rows (AC Z) i) i x)) ?_ ?_
 ·have bad:∀ b:Int,∃ H',BB Tryz.prog H2 32 (qP (h.next+1) 0) (CI b i)=some H'∧A_ 2 0 (H'.get (h.next+1))=some (CI b i)∧H'.floor=h.floor∧h.next≤H'.next∧∀ j,j<h.next→H'.get j=h.get j:=fun b=>by
   obtain⟨H',s1,s2,s3,s4,s5⟩:=I8 hT2.f (by omega) (by omega) b i
   exact⟨H',s1,s2,by omega,by omega,fun j hj=>by rw[s5 j (by omega)];exact hT2.o j hj⟩
  rw[RW]
  simp only[eE,seval,↓eP]
  refine W_ (fun e s'=>e=.normal∧s'.h=H2∧s'.T.get 1=qP h.next 0∧s'.T.get 3=qP (h.next+1) 0∧s'.T.get 5=qS (h.next+2) s.rows.length s.rows.length∧s'.T.get 6=qS (h.next+3) s.rows.length s.rows.length∧s'.T.get 7=qS (h.next+4) s.rows.length s.rows.length∧s'.T.get 8=qS (h.next+5) s.rows.length s.rows.length∧s'.T.get 37=vr∧s'.T.get 38=iv (s.rows.length:Int)∧s'.T.get 39=iv (i:Int)∧s'.T.get 9=iv (i:Int)∧s'.T.get 10=qP D 0∧s'.T.get 50=.bool (a != 0&&A9 x.kind != a)) ?_ ?_
  ·cases da:(a != 0) with
   | false=>
    refine WK.flags (fs:=VX) (by kernel_rfl) ?_
    unfold VX
    iterate 17
     refine DI hsn ?_
     simp only[rG,seval,AD,AF,AE,CT,DC,CM,C4,DJ,Option.bind_some,JV,t6,ix1,l1,AL,da]
    refine DH ?_
    exact⟨rfl,rfl,by simp only[eE,seval,↓eP,rP,t1],by simp only[eE,seval,↓eP,rP,t3],by simp only[eE,seval,↓eP,rP,t5],by simp only[eE,seval,↓eP,rP,t6],by simp only[eE,seval,↓eP,rP,t7],by simp only[eE,seval,↓eP,rP,t8],by simp only[eE,seval,↓eP,rP,t37],by simp only[eE,seval,↓eP,rP,t38],by simp only[eE,seval,↓eP,rP,t39],by simp only[eE,seval,↓eP,rP],by simp only[eE,seval,↓eP,rP],by simp only[eE,seval,↓eP,rP,Bool.false_and]⟩
   | true=>
    refine WK.flags (fs:=VX) (by kernel_rfl) ?_
    unfold VX
    iterate 17
     refine DI hsn ?_
     simp only[rG,seval,AD,AF,AE,CT,DC,CM,C4,DJ,Option.bind_some,JV,t6,ix1,l1,AL,da,t5,ix0,l0]
    refine DH ?_
    exact⟨rfl,rfl,by simp only[eE,seval,↓eP,rP,t1],by simp only[eE,seval,↓eP,rP,t3],by simp only[eE,seval,↓eP,rP,t5],by simp only[eE,seval,↓eP,rP,t6],by simp only[eE,seval,↓eP,rP,t7],by simp only[eE,seval,↓eP,rP,t8],by simp only[eE,seval,↓eP,rP,t37],by simp only[eE,seval,↓eP,rP,t38],by simp only[eE,seval,↓eP,rP,t39],by simp only[eE,seval,↓eP,rP],by simp only[eE,seval,↓eP,rP],by simp only[eE,seval,↓eP,rP]⟩
  rintro e ⟨T2,HH⟩ ⟨rfl,hh,u1,u3,u5,u6,u7,u8,u37,u38,u39,u9,u10,u50⟩
  simp only at hh u1 u3 u5 u6 u7 u8 u37 u38 u39 u9 u10 u50
  subst hh
  cases d50:(a != 0&&A9 x.kind != a) with
  | true=>
   obtain⟨H',s1,s2,s3,s4,s5⟩:=bad 41
   simp only[eE,seval,↓eP,u3,u9,u50,d50,F8,s1]
   simp only[Bool.and_eq_true,bne_iff_ne] at d50
   exact .inr ⟨rfl,by simp only[eE,seval,↓eP,rP],by simp only[eE,seval,↓eP,rP,u3],by rw[SZ hA d50.1 d50.2];decide,by rw[SZ hA d50.1 d50.2];exact s2,s3,s4,s5⟩
  | false=>
  have n41:¬(a≠0∧A9 x.kind≠a):=by
   intro hc
   rw[show (a != 0&&A9 x.kind != a)=true by simp[hc.1,hc.2]] at d50
   cases d50
  cases c with
  | false=>
   have b46:=bZ (Q:=s.queues) hA n41 hC (x:=x) (by rw[Bool.false_and]) hU hup
   simp only[eE,seval,↓eP,u7,u9,u50,d50,ix2,EE,l2]
   refine WK.flags (fs:=U6) (by kernel_rfl) ?_
   unfold U6
   iterate 12
    refine DI hsn ?_
    simp only[rG,seval,AD,AF,AE,CT,DC,CM,C4,DJ,Option.bind_some,u1,DT,lA',u10,FQ,yN,BN,BO,xa1,u8,u9,ix3,AL,l3,eu,lu,hoth]
   refine DH ?_
   cases do_:JS s.queues x up with
   | true=>
    obtain⟨H',s1,s2,s3,s4,s5⟩:=bad 46
    simp only[eE,seval,↓eP,u3,u9,F8,s1]
    exact .inr ⟨rfl,by simp only[eE,seval,↓eP,rP],by simp only[eE,seval,↓eP,rP,u3],by rw[b46,do_];decide,by rw[b46,do_];exact s2,s3,s4,s5⟩
   | false=>
    simp only[eE,seval,↓eP]
    exact .inl ⟨rfl,rfl,by simp only[eE,seval,↓eP,rP,u1],by simp only[eE,seval,↓eP,rP,u3],by simp only[eE,seval,↓eP,rP,u5],by simp only[eE,seval,↓eP,rP,u6],by simp only[eE,seval,↓eP,rP,u7],by simp only[eE,seval,↓eP,rP,u8],by simp only[eE,seval,↓eP,rP,u37],by simp only[eE,seval,↓eP,rP,u38],by simp only[eE,seval,↓eP,rP,u39],by simp only[eE,seval,↓eP,rP,u9],by simp only[eE,seval,↓eP,rP,u10],by rw[b46,do_];rfl⟩
  | true=>
   cases dv:I9 x.kind with
   | true=>
    rw[dv] at hvar
    obtain⟨H',s1,s2,s3,s4,s5⟩:=bad 42
    simp only[eE,seval,↓eP,u3,u7,u9,u10,u50,d50,ix2,EE,l2,BC,AL,y0,hvar,F8,s1]
    exact .inr ⟨rfl,by simp only[eE,seval,↓eP,rP],by simp only[eE,seval,↓eP,rP,u3],by rw[VB hA n41 hC dv];decide,by rw[VB hA n41 hC dv];exact s2,s3,s4,s5⟩
   | false=>
    rw[dv] at hvar
    have b46:=bZ (Q:=s.queues) hA n41 hC (x:=x) (by rw[dv,Bool.and_false]) hU hup
    simp only[eE,seval,↓eP,u7,u9,u10,u50,d50,ix2,EE,l2,BC,AL,y0,hvar]
    refine WK.flags (fs:=U6) (by kernel_rfl) ?_
    unfold U6
    iterate 12
     refine DI hsn ?_
     simp only[rG,seval,AD,AF,AE,CT,DC,CM,C4,DJ,Option.bind_some,u1,DT,lA',u10,FQ,yN,BN,BO,xa1,u8,u9,ix3,AL,l3,eu,lu,hoth]
    refine DH ?_
    cases do_:JS s.queues x up with
    | true=>
     obtain⟨H',s1,s2,s3,s4,s5⟩:=bad 46
     simp only[eE,seval,↓eP,u3,u9,F8,s1]
     exact .inr ⟨rfl,by simp only[eE,seval,↓eP,rP],by simp only[eE,seval,↓eP,rP,u3],by rw[b46,do_];decide,by rw[b46,do_];exact s2,s3,s4,s5⟩
    | false=>
     simp only[eE,seval,↓eP]
     exact .inl ⟨rfl,rfl,by simp only[eE,seval,↓eP,rP,u1],by simp only[eE,seval,↓eP,rP,u3],by simp only[eE,seval,↓eP,rP,u5],by simp only[eE,seval,↓eP,rP,u6],by simp only[eE,seval,↓eP,rP,u7],by simp only[eE,seval,↓eP,rP,u8],by simp only[eE,seval,↓eP,rP,u37],by simp only[eE,seval,↓eP,rP,u38],by simp only[eE,seval,↓eP,rP,u39],by simp only[eE,seval,↓eP,rP,u9],by simp only[eE,seval,↓eP,rP,u10],by rw[b46,do_];rfl⟩
 rintro e ⟨T3,HH⟩ (⟨rfl,hh,u1,u3,u5,u6,u7,u8,u37,u38,u39,u9,u10,b0⟩ | ⟨rfl,u2,u3,hb0,lF,fF,nF,oF⟩)
 rotate_left
 ·simp only at u2 u3 lF fF nF oF
  have eG:HG s.rows s.queues (AC Z) s.rows.length 0=((IZ s.rows s.queues (BJ s.rows (AC Z) i) i x,(i:Int)),[]):=by rw[← hgo];exact iL hx rfl hb0
  rw[eG]
  simp only[eE,seval,↓eP,hr,u2,u3,CR,lF]
  exact⟨⟨_,rfl,AN.nil _ _ _⟩,fF,nF,oF⟩
 simp only at hh u1 u3 u5 u6 u7 u8 u37 u38 u39 u9 u10
 subst hh
 have hgo2:HG s.rows s.queues (AC Z) (s.rows.length-(i+1)) (i+1)=HG s.rows s.queues (AC Z) s.rows.length 0:=by rw[← hgo,hri];exact(cU hx b0).symm
 have w1:=DF i (by omega)
 obtain⟨k0,hch,hel,hei⟩:=hG.kids0 hx
 have eM:BJ s.rows (AC Z) (i+1)=G_ i x (A9 (((s.rows[i+1]?).map (·.kind)).getD 0)) 0 (BA (AC Z) x.kids.toNat (i+1)) (BJ s.rows (AC Z) i):=by
  show J5 s.rows (AC Z) i (BJ s.rows (AC Z) i)=_
  unfold J5
  rw[hx]
 cases dk:(x.kids==0) with
 | true=>
  have hk0:x.kids.toNat=0:=by have:=beq_iff_eq.1 dk;omega
  have eM0:BJ s.rows (AC Z) (i+1)=BJ s.rows (AC Z) i:=by rw[eM,hk0];rfl
  simp only[eE,seval,↓eP,u1,u3,u5,u6,u7,u8,u37,u38,u39,u10,Nat.zero_add,SI,AL,y4,dk,w1]
  exact⟨hlt,by omega,hgo2,TP2,hTl2,hTP2,by rw[eM0];exact hT2⟩
 | false=>
 have hk1 : 0 < x.kids := by have:x.kids≠0:=by simpa using dk
                             omega
 have hi1:=hG.next hx hk1
 obtain⟨y,hy⟩:∃ y,s.rows[i+1]?=some y:=⟨_,List.getElem?_eq_getElem hi1⟩
 have ky:=hG.ks _ y hy
 obtain⟨ib,pb,eb,hib,lb,_⟩:=hv2.row hy
 have hty:=uV (n:=n) (h:=HH) ky (by omega)
 obtain⟨zz,hzz,_,hzk⟩:=hG.z hx
 obtain⟨kv,H5,hkids,hkL,f5,n5,o5⟩:=bQ (n:=n) hG.t hG.sk hv2 hzz (by omega) (by omega) (by omega)
 rw[← hzk] at hkL
 have hkc:=hkL.ints (Nat.le_refl _)
 have lenK:=fun h'=>LL hkc h'
 have hkl:((BA (AC Z) x.kids.toNat (i+1)).map (fun (k:Nat)=>(k:Int))).length=x.kids.toNat:=by rw[List.length_map,NF]
 rw[hkl,show ((x.kids.toNat:Nat):Int)=x.kids by omega] at lenK
 simp only[eE,seval,↓eP,u1,u9,u10,Nat.zero_add,SI,BC,AL,y4,dk,BN,BO,xa1,w1,eb,lb,hty,hkids,lenK]
 have eY:((s.rows[i+1]?).map (·.kind)).getD 0=y.kind:=by rw[hy];rfl
 rw[eY] at eM
 have hT5:OP h H5 [.string nm,vr,vq,vv,vt,vu,vo,iv s.miss] TP2 (BJ s.rows (AC Z) i):=hT2.mono (by omega) (by omega) fun j hj=>o5 j (by omega)
 obtain⟨mo1,mo2⟩:=hG.most hx
 have hkn:x.kids.toNat≤s.rows.length:=by have:=HJ _ _ _ hch;omega
 refine WK.loop (fun q s'=>s'.T.get 1=qP h.next 0∧s'.T.get 3=qP (h.next+1) 0∧s'.T.get 5=qS (h.next+2) s.rows.length s.rows.length∧s'.T.get 6=qS (h.next+3) s.rows.length s.rows.length∧s'.T.get 7=qS (h.next+4) s.rows.length s.rows.length∧s'.T.get 8=qS (h.next+5) s.rows.length s.rows.length∧s'.T.get 37=vr∧s'.T.get 38=iv (s.rows.length:Int)∧s'.T.get 39=iv (i:Int)∧s'.T.get 9=iv (i:Int)∧s'.T.get 10=qP D 0∧s'.T.get 11=iv (A9 y.kind)∧s'.T.get 109=kv∧s'.T.get 110=iv x.kids∧s'.T.get 111=iv (q:Int)∧q≤x.kids.toNat∧H5.next≤s'.h.next∧(∀ j,h.next+6≤j→j<H5.next→s'.h.get j=H5.get j)∧OP h s'.h [.string nm,vr,vq,vv,vt,vu,vo,iv s.miss] TP2 (G_ i x (A9 y.kind) 0 ((BA (AC Z) x.kids.toNat (i+1)).take q) (BJ s.rows (AC Z) i))) x.kids.toNat (by omega) ?_ ?_
 ·exact⟨by simp only[eE,seval,↓eP,rP,u1],by simp only[eE,seval,↓eP,rP,u3],by simp only[eE,seval,↓eP,rP,u5],by simp only[eE,seval,↓eP,rP,u6],by simp only[eE,seval,↓eP,rP,u7],by simp only[eE,seval,↓eP,rP,u8],by simp only[eE,seval,↓eP,rP,u37],by simp only[eE,seval,↓eP,rP,u38],by simp only[eE,seval,↓eP,rP,u39],by simp only[eE,seval,↓eP,rP,u9],by simp only[eE,seval,↓eP,rP,u10],by simp only[eE,seval,↓eP,rP],by simp only[eE,seval,↓eP,rP],by simp only[eE,seval,↓eP,rP],by simp only[eE,seval,↓eP,rP] <;> rfl,by omega,Nat.le_refl _,fun _ _ _=>rfl,by rw[List.take_zero];exact hT5⟩
 rintro q ⟨T4,H6⟩ hq ⟨wt1,wt3,wt5,wt6,wt7,wt8,wt37,wt38,w39,w9,w10,w11,w109,w110,w111,hqk,n6,o6,hT6⟩
 simp only at wt1 wt3 wt5 wt6 wt7 wt8 wt37 wt38 w39 w9 w10 w11 w109 w110 w111 n6 o6 hT6
 by_cases hql:q<x.kids.toNat
 rotate_left
 ·have c3:decide ((q:Int)<x.kids)=false:=by simp;omega
  simp only[eE,seval,↓eP,wt1,wt3,wt5,wt6,wt7,wt8,wt37,wt38,w39,w110,w111,c3,w1]
  have hq9:q=x.kids.toNat:=by omega
  subst hq9
  have hTk:(BA (AC Z) x.kids.toNat (i+1)).take x.kids.toNat=BA (AC Z) x.kids.toNat (i+1):=List.take_of_length_le (by rw[NF];omega)
  rw[hTk] at hT6
  exact⟨hlt,by omega,hgo2,TP2,hTl2,hTP2,by rw[eM];exact hT6⟩
 have c3:decide ((q:Int)<x.kids)=true:=by simp;omega
 obtain⟨p,hpk⟩:∃ p,(BA (AC Z) x.kids.toNat (i+1))[q]?=some p:=⟨_,List.getElem?_eq_getElem (by rw[NF];exact hql)⟩
 obtain⟨hip,hpl⟩:=hG.kid hx hpk
 have hkc6:AW (h.next+6) H6 kv ((BA (AC Z) x.kids.toNat (i+1)).map (fun (k:Nat)=>(k:Int))):=AW.mono (hkL.ints (by omega)) (by omega) fun j h1 h2=>o6 j h1 h2
 obtain⟨ip,pp,ep,hip2,lp⟩:=AW.get hkc6 (i:=q) (x:=(p:Int)) (by rw[List.getElem?_map,hpk];rfl)
 have w2:=DF q (by omega)
 have eS:=eJ (i:=i) (x:=x) (first:=A9 y.kind) (BA (AC Z) x.kids.toNat (i+1)) 0 q (BJ s.rows (AC Z) i) p hpk
 rw[Nat.zero_add] at eS
 obtain⟨b1,b2,b3⟩:=XG (i:=i) (x:=x) (first:=A9 y.kind) ((BA (AC Z) x.kids.toNat (i+1)).take q) 0 (BJ s.rows (AC Z) i)
 generalize G_ i x (A9 y.kind) 0 ((BA (AC Z) x.kids.toNat (i+1)).take q) (BJ s.rows (AC Z) i)=Mq at *
 obtain⟨cq,hcq⟩:∃ cq,Mq.C[i]?=some cq:=⟨_,List.getElem?_eq_getElem (by omega)⟩
 have hnx6:=hT6.n
 have hfl6:=hT6.fl
 have z0:AH 0 (H6.get D)=some (iv x.kind):=by rw[o6 D (by omega) (by omega),o5 D (by omega)];exact y0
 have hask:∀ G:AA,AK n 32 [iv x.kind,iv (q:Int),iv (A9 y.kind)] G=some (iv (BU x.kind q (A9 y.kind)),G):=fun G=>Bq kx (fun h9=>by have:=mo1 h9;omega) (fun h9=>by have:=mo2 h9;omega) (by omega)
 have hfix:∀ G:AA,AK n 33 [iv x.kind,iv (q:Int)] G=some (.bool (IA x.kind q),G):=fun G=>Ij (by omega)
 have jx1:=EG (id:=h.next+3) (n:=s.rows.length) (c:=s.rows.length) (i:=p) hpl
 have jx2:=QO (id:=h.next+4) (n:=s.rows.length) (c:=s.rows.length) (i:=p) hpl
 have jx3:=EG (id:=h.next+5) (n:=s.rows.length) (c:=s.rows.length) (i:=p) hpl
 have lc:AH i (H6.get (h.next+4))=some (.bool cq):=by rw[hT6.c];exact OV hcq
 have hA0:(h.next+4<H6.next)=True:=by simp;omega
 have sa:BB Tryz.prog H6 3 (qP (h.next+3) p) (iv (BU x.kind q (A9 y.kind)))=some (H6.put (h.next+3) (.row (ints (Mq.A.set p (BU x.kind q (A9 y.kind)))) 3 false false)):=KZ hT6.a (by omega) (by omega)
 have na:∀ j,j≠h.next+3→(H6.put (h.next+3) (.row (ints (Mq.A.set p (BU x.kind q (A9 y.kind)))) 3 false false)).get j=H6.get j:=fun j hj=>AR (by omega) (Ne.symm hj)
 have ga1:(H6.put (h.next+3) (.row (ints (Mq.A.set p (BU x.kind q (A9 y.kind)))) 3 false false)).get (h.next+3)=.row (ints (Mq.A.set p (BU x.kind q (A9 y.kind)))) 3 false false:=BL rfl (by omega)
 have nna:(H6.put (h.next+3) (.row (ints (Mq.A.set p (BU x.kind q (A9 y.kind)))) 3 false false)).next=H6.next:=rfl
 have ffa:(H6.put (h.next+3) (.row (ints (Mq.A.set p (BU x.kind q (A9 y.kind)))) 3 false false)).floor=H6.floor:=rfl
 have fla:(H6.put (h.next+3) (.row (ints (Mq.A.set p (BU x.kind q (A9 y.kind)))) 3 false false)).fl H6.floor=H6.put (h.next+3) (.row (ints (Mq.A.set p (BU x.kind q (A9 y.kind)))) 3 false false):=rfl
 generalize H6.put (h.next+3) (.row (ints (Mq.A.set p (BU x.kind q (A9 y.kind)))) 3 false false)=Ha at *
 have sc:∀ v:Bool,BB Tryz.prog Ha 4 (qP (h.next+4) p) (.bool v)=some (Ha.put (h.next+4) (.row (DK (Mq.C.set p v)) 4 false false)):=fun v=>UP (by rw[na _ (by omega)];exact hT6.c) (by omega) (by omega)
 have su:∀ v:Bool,BB Tryz.prog (Ha.put (h.next+4) (.row (DK (Mq.C.set p v)) 4 false false)) 3 (qP (h.next+5) p) (iv (i:Int))=some ((Ha.put (h.next+4) (.row (DK (Mq.C.set p v)) 4 false false)).put (h.next+5) (.row (ints (Mq.U.set p (i:Int))) 3 false false)):=fun v=>KZ (by rw[AR (by omega) (by omega),na _ (by omega)];exact hT6.u) (by omega) (by show Ha.floor≤_;omega)
 have fin:∀ v:Bool,v=(((Mq.C[i]?).getD false)||IA x.kind q)→OP h ((Ha.put (h.next+4) (.row (DK (Mq.C.set p v)) 4 false false)).put (h.next+5) (.row (ints (Mq.U.set p (i:Int))) 3 false false)) [.string nm,vr,vq,vv,vt,vu,vo,iv s.miss] TP2 (IT i x (A9 y.kind) Mq q p) ∧
   ∀ j,h.next+6≤j→((Ha.put (h.next+4) (.row (DK (Mq.C.set p v)) 4 false false)).put (h.next+5) (.row (ints (Mq.U.set p (i:Int))) 3 false false)).get j=H6.get j:=fun v hv=>by
  have g:∀ j,j≠h.next+4→j≠h.next+5→((Ha.put (h.next+4) (.row (DK (Mq.C.set p v)) 4 false false)).put (h.next+5) (.row (ints (Mq.U.set p (i:Int))) 3 false false)).get j=Ha.get j:=fun j h1 h2=>by rw[AR (by show _<Ha.next;omega) (Ne.symm h2),AR (by omega) (Ne.symm h1)]
  refine⟨⟨by rw[g _ (by omega) (by omega),na _ (by omega)];exact hT6.p,by rw[g _ (by omega) (by omega),na _ (by omega)];exact hT6.f,by rw[g _ (by omega) (by omega),na _ (by omega)];exact hT6.t,by rw[g _ (by omega) (by omega)];exact ga1,?_,BL rfl (by show _<Ha.next;omega),by show _≤Ha.next;omega,by show Ha.floor=_;omega,fun j hj=>by rw[g j (by omega) (by omega),na j (by omega)];exact hT6.o j hj⟩,fun j hj=>by rw[g j (by omega) (by omega),na j (by omega)]⟩
  rw[AR (by show _<Ha.next;omega) (by omega),BL rfl (by omega)]
  show BF.row (DK (Mq.C.set p v)) 4 false false=.row (DK (Mq.C.set p (((Mq.C[i]?).getD false)||IA x.kind q))) 4 false false
  rw[hv]
 simp only[eE,seval,↓eP,w109,w110,w111,c3,ep,AL,lp]
 cases cq with
 | true=>
  refine WK.flags (fs:=VU) (by kernel_rfl) ?_
  unfold VU
  iterate 28
   refine DI hsn ?_
   simp only[rG,seval,AD,AF,AE,CT,DC,CM,C4,DJ,Option.bind_some,wt6,wt7,wt8,w10,BC,AL,z0,w11,hask,NJ,w9,ix2,EE,lc,hA0,jx1,JV,sa,fla,jx2,ffa,sc,PE,jx3,NY,su]
  refine DH ?_
  obtain⟨hT7,o7⟩:=fin (true) (by rw[hcq];rfl)
  simp only[eE,seval,↓eP,wt1,wt3,wt5,wt6,wt7,wt8,wt37,wt38,w39,w9,w10,w11,w109,w110,w111,w2]
  exact⟨hql,by omega,Nat.le_trans n6 (Nat.le_of_eq nna.symm),fun j h1 h2=>by rw[o7 j h1];exact o6 j h1 h2,by rw[eS];exact hT7⟩
 | false=>
  refine WK.flags (fs:=VU) (by kernel_rfl) ?_
  unfold VU
  iterate 28
   refine DI hsn ?_
   simp only[rG,seval,AD,AF,AE,CT,DC,CM,C4,DJ,Option.bind_some,wt6,wt7,wt8,w10,BC,AL,z0,w11,hask,NJ,w9,ix2,EE,lc,hA0,hfix,jx1,JV,sa,fla,jx2,ffa,sc,PE,jx3,NY,su]
  refine DH ?_
  obtain⟨hT7,o7⟩:=fin (IA x.kind q) (by rw[hcq];rfl)
  simp only[eE,seval,↓eP,wt1,wt3,wt5,wt6,wt7,wt8,wt37,wt38,w39,w9,w10,w11,w109,w110,w111,w2]
  exact⟨hql,by omega,Nat.le_trans n6 (Nat.le_of_eq nna.symm),fun j h1 h2=>by rw[o7 j h1];exact o6 j h1 h2,by rw[eS];exact hT7⟩
theorem sH {nm:ByteArray} {s:AM} {pv:Value} {lo:Nat} (hp:BP lo h pv nm s) (hlies:∀ nm' vr vq vv vt vu vo m,pv=.agg #[.string nm',vr,vq,vv,vt,vu,vo,m]→LX vr s.rows.length) (hs:FR s) (hl:s.rows.length<9000000) (hg:h.get 0=EA) (hn0:0<h.next) (hfl:h.floor≤h.next) (hn:2*C_ s+450<n) :
  ∃ v' h',AK n 9 [pv] h=some (v',h')∧TL h' h.next v' (B9 nm s)∧h'.floor=h.floor∧h.next≤h'.next∧∀ i,i<h.next→h'.get i=h.get i:=by
 obtain⟨n,rfl⟩:=B8 hn
 have htot:C_ s=s.rows.length+s.queues.length+s.vars.length+s.tags.length+s.rules.length+s.on.length:=rfl
 refine MG (BD ⟨rfl,rfl,rfl⟩) (Sz (n:=n) (N:=n) hp hlies hs hl hg hn0 hfl (by omega) (by omega)) fun v' h1 hf _ ht=>?_
 obtain⟨⟨tv,rfl,ht⟩,_⟩:=ht
 exact⟨⟨tv,rfl,xL ht hf h⟩,rfl,Nat.le_refl _,fun _ _=>rfl⟩
end
def NZ (e:TypeId) (h:AA) (lo:Nat) (v:Value) (n:Nat) (cs:List Value):Prop:=
 (v=Z0∧n=0∧cs=[])∨∃ id,v=qS id n AO∧lo≤id∧id<h.next∧h.get id=.row cs e true false
theorem NZ.mono {e:TypeId} {h h':AA} {lo:Nat} {v:Value} {n:Nat} {cs:List Value} (hl:NZ e h lo v n cs) (hn:h.next≤h'.next) (hg:∀ i,i<h.next→(∃ cs' g,h.get i=.row cs' e g false)→lo≤i→h'.get i=h.get i):NZ e h' lo v n cs:=by
 rcases hl with h1 | ⟨id,h1,h2,h3,h4⟩
 ·exact .inl h1
 ·exact .inr ⟨id,h1,h2,by omega,by rw[hg id h3 ⟨_,_,h4⟩ h2];exact h4⟩
theorem NZ.cells {e:TypeId} {h:AA} {lo lo':Nat} {v:Value} {n w:Nat} {cs:List Value} (hl:NZ e h lo v n cs) (hw:cs.length=n*w) (hle:lo'≤lo):AN lo' h v n w cs:=by
 rcases hl with⟨rfl,rfl,rfl⟩ | ⟨id,rfl,h2,h3,h4⟩
 ·exact⟨by simp,_,_,rfl,.inl ⟨rfl,rfl⟩⟩
 ·exact⟨hw,_,_,rfl,.inr ⟨id,0,cs,e,true,false,rfl,h4,by omega,by rw[List.drop_zero,List.take_of_length_le (by omega)],fun _=>rfl⟩⟩
section
variable {P:Program} {t e:TypeId} {w b:Nat} {z:Value} {h:AA}
theorem vL (ht:P.underlying t=some (.slice e)) (he:BM P e=some w) (hb:HC P e=some b) (hz:DX P e=some z) (hzc:z.cells.size=w) (hw:0<w) (hbb:b≤64) {lo n:Nat} {v:Value} {cs new:List Value} (hl:NZ e h lo v n cs) (hcl:cs.length=n*w) (hco:cs.all one=true) (hnl:new.length=w) (hno:new.all one=true) (hlo:lo≤h.next) (hf:h.floor≤lo) (hn:n<1000000000) :
  ∃ v' h',D9 P (h.push (.row new e false false)) t v (qS h.next 1 1)=some (v',h')∧NZ e h' lo v' (n+1) (cs++new)∧h'.floor=h.floor∧h.next≤h'.next∧∀ i,i<h.next→(i<lo∨∃ cs' e' g,e'≠e∧h.get i=.row cs' e' g false)→h'.get i=h.get i:=by
 have hsrc:EU (h.push (.row new e false false)) w 1 (qS h.next 1 1)=some new:=by
  simp only[EU,BX,GS,List.drop_zero,Nat.one_mul]
  rw[if_neg (by decide),List.take_of_length_le (by omega),if_pos hnl]
 have hb1:(n+1)*b≤(n+1)*64:=Nat.mul_le_mul_left _ hbb
 rcases hl with⟨rfl,rfl,rfl⟩ | ⟨id,rfl,h1,h2,hg⟩
 ·have hnu:(0:Nat)≠AO:=by unfold AO;omega
  refine⟨.slice (some ⟨(h.push (.row new e false false)).next,0,none⟩) (0+1) AO,(h.push (.row new e false false)).push (.row ([]++new) e true false),?_,.inr ⟨_,rfl,?_,?_,BX⟩,rfl,by show h.next≤h.next+1+1;omega,fun i hi _=>?_⟩
  ·have h0:EU (h.push (.row new e false false)) w 0 (Z0)=some []:=by simp[EU]
   simp only[D9,ht,he,hb,hz,hsrc,hno,h0]
   rw[if_pos (by simp[hzc,hw]),if_pos trivial,if_neg hnu,if_neg (by omega),if_pos (by simp;omega)]
  ·show lo≤h.next+1;omega
  ·show h.next+1<h.next+1+1;omega
  ·rw[AU (by show i<h.next+1;omega),AU (by omega)]
 ·have hu:n≤AO:=by unfold AO;omega
  have hg':(h.push (.row new e false false)).get id=.row cs e true false:=by rw[AU h2];exact hg
  have hcut:GS cs 0 (n*w)=some cs:=by
   simp only[GS,List.drop_zero]
   rw[List.take_of_length_le (by omega),if_pos (by omega)]
  refine⟨.slice (some ⟨(h.push (.row new e false false)).next,0,none⟩) (n+1) AO,((h.push (.row new e false false)).put id .dead).push (.row (cs++new) e true false),?_,.inr ⟨_,rfl,?_,?_,BX⟩,rfl,by show h.next≤h.next+1+1;omega,fun i hi hi2=>?_⟩
  ·simp only[D9,ht,he,hb,hz,hsrc,hno,hg',hcut,hco]
   rw[if_pos (by simp[hzc,hw];omega),if_pos trivial,if_pos trivial,if_pos (by rw[JQ,decide_eq_true (show (n+1)*b≤140737488355328 by omega),decide_eq_true (show n+1≤140737488355328 by omega),decide_eq_true (show h.floor≤id by omega)];rfl),if_neg (by decide),if_pos trivial,if_pos trivial]
  ·show lo≤h.next+1;omega
  ·show h.next+1<h.next+1+1;omega
  ·have hne:id≠i:=by
    rintro rfl
    rcases hi2 with h9 | ⟨cs',e',g,h8,h9⟩
    ·omega
    ·rw[hg] at h9
     injection h9 with _ h7
     exact h8 h7.symm
   rw[AU (by show i<h.next+1;omega),AR (by show id<h.next+1;omega) hne,AU (by omega)]
end
def NW (l:List (Int × Int × Int)):List Value:=l.flatMap fun x=>[iv x.1,iv x.2.1,iv x.2.2]
theorem dL:∀ l,(NW l).length=l.length*3
 | []=>rfl
 | x :: l=>by
  have e:NW (x :: l)=iv x.1 :: iv x.2.1 :: iv x.2.2 :: NW l:=rfl
  rw[e]
  simp only[List.length_cons,dL l]
  omega
theorem Iw (l:List (Int × Int × Int)):(NW l).all one=true:=by
 unfold NW
 rw[List.all_flatMap]
 exact List.all_eq_true.2 fun x _=>rfl
theorem TU:BM Tryz.prog 56=some 3:=by kernel_rfl
theorem nZ:BM Tryz.prog 46=some 1:=by kernel_rfl
theorem Nk:HC Tryz.prog 56=some 24:=by kernel_rfl
abbrev FL (a b c:Int):Value:=.agg #[iv a,iv b,iv c]
theorem ZX:DX Tryz.prog 56=some (FL 0 0 0):=by kernel_rfl
theorem Qe:FW Tryz.prog 56=some true:=by kernel_rfl
theorem S4:BM Tryz.prog 48=some 3:=by kernel_rfl
theorem Oi:FW Tryz.prog 48=some true:=by kernel_rfl
abbrev zT:Value:=.agg #[Z0,Z0,Z0]
theorem RX:DX Tryz.prog 48=some zT:=by kernel_rfl
theorem RT:flat zT=true:=rfl
theorem kC:IC Tryz.prog (match Tryz.prog.underlying 48 with | some (.struct fs)=>fs.toList | _=>[])=some [(0,1),(1,1),(2,1)]:=by kernel_rfl
theorem J2:DM Tryz.prog 48 []=some zT:=by
 have h:=kC
 rw[Tryz.underlying48] at h
 simp only at h
 simp only[DM,RX,RT,if_true,Tryz.underlying48,h]
 rfl
theorem mU {a:Option Addr} {n c:Nat}:DM Tryz.prog 48 [(2,.slice a n c)]=some (.agg #[Z0,Z0,.slice a n c]):=by
 have h:=kC
 rw[Tryz.underlying48] at h
 simp only at h
 simp only[DM,RX,RT,if_true,Tryz.underlying48,h]
 rfl
section
variable {h:AA} {id off:Nat}
theorem IX:EW Tryz.prog h 48 (qP id off)=A_ 3 off (h.get id):=ND Oi S4
theorem l7:EW Tryz.prog h 56 (qP id off)=A_ 3 off (h.get id):=ND Qe TU
theorem QS:EW Tryz.prog h 46 (qP id off)=AH off (h.get id):=LT (by kernel_rfl)
theorem QG:BE Tryz.prog 48 (qP id off) 0=some (qP id off):=by simp[BE,Tryz.underlying48,nZ,CN]
theorem UW:BE Tryz.prog 48 (qP id off) 1=some (qP id (off+1)):=by simp[BE,Tryz.underlying48,K8,CN]
theorem VT:BE Tryz.prog 48 (qP id off) 2=some (qP id (off+2)):=by simp[BE,Tryz.underlying48,K8,CN]
theorem XF {a b c:Int}:GD Tryz.prog h 46 1 [(0,FL a b c)]=some (qS h.next 1 1,h.push (.row [iv a,iv b,iv c] 56 false false)):=by
 simp[GD,Tryz.underlying46,TU,ZX,flat,BS,FI,JX,B0,Go.Sx.lay]
end
def JZ (lo:Nat) (H:AA) (v:Value) (t:IQ):Prop:=∃ vv gv rv,v=.agg #[vv,gv,rv]∧AN lo H vv t.V.length 3 (NW t.V)∧AW lo H gv t.G∧AW lo H rv t.Rd
theorem JZ.mono {lo:Nat} {H H':AA} {v:Value} {t:IQ} (ht:JZ lo H v t) (hn:H.next≤H'.next) (hg:∀ i,lo≤i→i<H.next→H'.get i=H.get i):JZ lo H' v t:=by
 obtain⟨vv,gv,rv,rfl,h1,h2,h3⟩:=ht
 exact⟨vv,gv,rv,rfl,h1.mono hn hg,h2.mono hn hg,h3.mono hn hg⟩
theorem JZ.weak {lo lo':Nat} {H:AA} {v:Value} {t:IQ} (ht:JZ lo H v t) (hl:lo'≤lo):JZ lo' H v t:=by
 obtain⟨vv,gv,rv,rfl,h1,h2,h3⟩:=ht
 exact⟨vv,gv,rv,rfl,h1.weak hl,h2.weak hl,h3.weak hl⟩
abbrev Q2:IQ:=⟨[],[],[]⟩
theorem J9 (lo:Nat) (H:AA):JZ lo H zT Q2:=⟨_,_,_,rfl,⟨rfl,_,_,rfl,.inl ⟨rfl,rfl⟩⟩,AN.nil lo H 1,AN.nil lo H 1⟩
theorem dG {lo:Nat} {h:AA} {v:Value} {n w:Nat} {cs:List Value} (hc:AN lo h v n w cs) (hf:BS v=true) (lo':Nat) (h':AA):AN lo' h' v n w cs:=by
 obtain⟨hl,a,c,rfl,⟨h0,rfl⟩ | ⟨id,off,row,ty,g,ro,rfl,g1,g2,g3⟩⟩:=hc
 ·exact⟨hl,_,_,rfl,.inl ⟨h0,rfl⟩⟩
 ·cases hf
theorem mB {lo:Nat} {H:AA} {v f:Value} {t:IQ} (ht:JZ lo H v t) (hf:E9 (.tuple #[v,f])=true) (lo':Nat) (H':AA):JZ lo' H' v t:=by
 obtain⟨vv,gv,rv,rfl,h1,h2,h3⟩:=ht
 have h9:BS vv=true∧BS gv=true∧BS rv=true:=by
  simp[E9,flat,BS] at hf ⊢
  exact⟨hf.1.1,hf.1.2.1,hf.1.2.2⟩
 exact⟨vv,gv,rv,rfl,dG h1 h9.1 lo' H',dG h2 h9.2.1 lo' H',dG h3 h9.2.2 lo' H'⟩
structure JO (B:AA) (RI m:Nat) (H:AA) (t:IQ):Prop where
 r:H.get RI=.row (ints t.Rd) 3 false false
 l:t.Rd.length=m
 y:∃ vv gv,H.get (RI+1)=.row [vv,gv,qS RI m m] 48 false false∧NZ 56 H (RI+2) vv t.V.length (NW t.V)∧NZ 3 H (RI+2) gv t.G.length (ints t.G)
 n:RI+2≤H.next
 fl:H.floor=B.floor
 o:∀ i,i<RI→H.get i=B.get i
section
variable {B H H':AA} {RI m:Nat} {t:IQ}
theorem JO.mono (hK:JO B RI m H t) (hn:H.next≤H'.next) (hf:H'.floor=H.floor) (hg:∀ i,i<H.next→H'.get i=H.get i):JO B RI m H' t:=by
 have h1:=hK.n
 obtain⟨vv,gv,y1,y2,y3⟩:=hK.y
 exact⟨by rw[hg _ (by omega)];exact hK.r,hK.l,⟨vv,gv,by rw[hg _ (by omega)];exact y1,y2.mono hn fun i hi _ _=>hg i hi,y3.mono hn fun i hi _ _=>hg i hi⟩,by omega,hf.trans hK.fl,fun i hi=>by rw[hg i (by omega)];exact hK.o i hi⟩
theorem JO.typed (hK:JO B RI m H t):∃ v,A_ 3 0 (H.get (RI+1))=some v∧JZ RI H v t∧v.cells.size=3:=by
 have h1:=hK.n
 obtain⟨vv,gv,y1,y2,y3⟩:=hK.y
 exact⟨.agg #[vv,gv,qS RI m m],by rw[y1];rfl,⟨vv,gv,_,rfl,y2.cells (dL _) (by omega),y3.cells (by rw[F9];omega) (by omega),AW.row' hK.r ⟨by omega,by omega⟩ hK.l.symm⟩,rfl⟩
theorem JO.setR (hK:JO B RI m H t) (hf:B.floor≤RI) {i:Nat} (hi:i<m) (v:Int) :
  ∃ H2,BB Tryz.prog H 3 (qP RI i) (iv v)=some H2∧JO B RI m H2 { t with Rd:=t.Rd.set i v }∧H2.next=H.next:=by
 have h1:=hK.n
 have h2:=hK.l
 have h3:=hK.fl
 obtain⟨vv,gv,y1,y2,y3⟩:=hK.y
 have g:∀ j,j≠RI→(H.put RI (.row (ints (t.Rd.set i v)) 3 false false)).get j=H.get j:=fun j hj=>AR (by omega) (Ne.symm hj)
 exact⟨_,KZ hK.r (by omega) (by omega),⟨BL rfl (by omega),by rw[List.length_set];exact h2,⟨vv,gv,by rw[g _ (by omega)];exact y1,y2.mono (Nat.le_refl _) fun j _ _ hj=>g j (by omega),y3.mono (Nat.le_refl _) fun j _ _ hj=>g j (by omega)⟩,h1,h3,fun j hj=>by rw[g j (by omega)];exact hK.o j hj⟩,rfl⟩
theorem Rc:(FL 0 0 0).cells.size=3:=rfl
theorem NZ.cell {e:TypeId} {lo n:Nat} {v:Value} {cs:List Value} (hl:NZ e H lo v n cs):v.cells=#[v]∧one v=true:=by
 rcases hl with⟨rfl,_⟩ | ⟨id,rfl,_⟩
 ·exact⟨rfl,rfl⟩
 ·exact⟨rfl,rfl⟩
theorem JO.addV (hK:JO B RI m H t) (hf:B.floor≤RI) (hb:t.V.length<1000000000) (a b c:Int) :
  ∃ vv v' H1 H2,AH 0 (H.get (RI+1))=some vv∧D9 Tryz.prog (H.push (.row [iv a,iv b,iv c] 56 false false)) 46 vv (qS H.next 1 1)=some (v',H1) ∧
   BB Tryz.prog H1 46 (qP (RI+1) 0) v'=some H2∧JO B RI m H2 { t with V:=t.V++[(a,b,c)] }∧H.next≤H2.next:=by
 have h1:=hK.n
 have h3:=hK.fl
 obtain⟨vv,gv,y1,y2,y3⟩:=hK.y
 obtain⟨v',H1,e1,e2,e3,e4,e5⟩:=vL (new:=[iv a,iv b,iv c]) Tryz.underlying46 TU Nk ZX Rc (by decide) (by decide) y2 (dL _) (Iw _) rfl rfl (by omega) (by omega) hb
 have g1:H1.get (RI+1)=.row [vv,gv,qS RI m m] 48 false false:=by rw[e5 _ (by omega) (.inl (by omega))];exact y1
 have hst:=GM (off:=0) nZ e2.cell.1 e2.cell.2 g1 (by simp) (by omega)
 have g:∀ j,j≠RI+1→(H1.put (RI+1) (.row [v',gv,qS RI m m] 48 false false)).get j=H1.get j:=fun j hj=>AR (by omega) (Ne.symm hj)
 refine⟨vv,v',H1,_,by rw[y1];rfl,e1,hst,⟨by rw[List.set_cons_zero,g _ (by omega),e5 _ (by omega) (.inl (by omega))];exact hK.r,hK.l,⟨v',gv,BL rfl (by omega),?_,?_⟩,?_,?_,fun i hi=>by rw[List.set_cons_zero,g _ (by omega),e5 _ (by omega) (.inl (by omega))];exact hK.o i hi⟩,e4⟩
 ·have ev:NW (t.V++[(a,b,c)])=NW t.V++[iv a,iv b,iv c]:=by simp[NW]
  rw[ev,List.length_append]
  exact e2.mono (Nat.le_refl _) fun j _ _ hj=>g j (by omega)
 ·exact y3.mono e4 fun j hj hj2 hj3=>by
   obtain⟨cs',g',hj4⟩:=hj2
   rw[List.set_cons_zero,g j (by omega),e5 j hj (.inr ⟨cs',3,g',by decide,hj4⟩)]
 ·show RI+2≤H1.next;omega
 ·show H1.floor=_;omega
theorem JO.addG (hK:JO B RI m H t) (hf:B.floor≤RI) (hb:t.G.length<1000000000) (a:Int) :
  ∃ vv v' H1 H2,AH 1 (H.get (RI+1))=some vv∧D9 Tryz.prog (H.push (.row [iv a] 3 false false)) 25 vv (qS H.next 1 1)=some (v',H1) ∧
   BB Tryz.prog H1 25 (qP (RI+1) 1) v'=some H2∧JO B RI m H2 { t with G:=t.G++[a] }∧H.next≤H2.next:=by
 have h1:=hK.n
 have h3:=hK.fl
 obtain⟨vv,gv,y1,y2,y3⟩:=hK.y
 obtain⟨v',H1,e1,e2,e3,e4,e5⟩:=vL (new:=[iv a]) Tryz.underlying25 C7 LS JK WP (by decide) (by decide) y3 (by rw[F9];omega) (QK _) rfl rfl (by omega) (by omega) hb
 have g1:H1.get (RI+1)=.row [vv,gv,qS RI m m] 48 false false:=by rw[e5 _ (by omega) (.inl (by omega))];exact y1
 have hst:=GM (off:=1) K8 e2.cell.1 e2.cell.2 g1 (by simp) (by omega)
 have g:∀ j,j≠RI+1→(H1.put (RI+1) (.row [vv,v',qS RI m m] 48 false false)).get j=H1.get j:=fun j hj=>AR (by omega) (Ne.symm hj)
 have es:([vv,gv,qS RI m m]:List Value).set 1 v'=[vv,v',qS RI m m]:=rfl
 rw[es] at hst
 refine⟨gv,v',H1,_,by rw[y1];rfl,e1,hst,⟨by rw[g _ (by omega),e5 _ (by omega) (.inl (by omega))];exact hK.r,hK.l,⟨vv,v',BL rfl (by omega),?_,?_⟩,?_,?_,fun i hi=>by rw[g _ (by omega),e5 _ (by omega) (.inl (by omega))];exact hK.o i hi⟩,e4⟩
 ·exact y2.mono e4 fun j hj hj2 hj3=>by
   obtain⟨cs',g',hj4⟩:=hj2
   rw[g j (by omega),e5 j hj (.inr ⟨cs',56,g',by decide,hj4⟩)]
 ·have ev:ints (t.G++[a])=ints t.G++[iv a]:=by simp[ints]
  rw[ev,List.length_append]
  exact e2.mono (Nat.le_refl _) fun j _ _ hj=>g j (by omega)
 ·show RI+2≤H1.next;omega
 ·show H1.floor=_;omega
theorem JB {a:Nat} {v:Value} (ga:H.get a=.row [Z0,Z0,Z0] 48 false false) (gb:H.get (a+1)=.row [iv 0,iv 0] 32 false false) (hb:a+1<H.next) (hf:H.floor≤a) (ht:JZ (a+2) H v t) (e x:Int) :
  ∃ H1 H2,BB Tryz.prog H 48 (qP a 0) v=some H1∧BB Tryz.prog H1 32 (qP (a+1) 0) (CI e x)=some H2∧A_ 3 0 (H2.get a)=some v∧A_ 2 0 (H2.get (a+1))=some (CI e x) ∧
   JZ (a+2) H2 v t∧H1.next=H.next∧H2.next=H.next∧H1.floor=H.floor∧H2.floor=H.floor∧(∀ i,i≠a→H1.get i=H.get i)∧∀ i,i<a→H2.get i=H.get i:=by
 obtain⟨vv,gv,rv,rfl,h1,h2,h3⟩:=id ht
 have o1:([vv,gv,rv]:List Value).all one=true:=by simp only[List.all_cons,List.all_nil,AN.one h1,AN.one h2,AN.one h3,Bool.and_self]
 have s1:=JN (vs:=[vv,gv,rv]) S4 ga rfl rfl o1 hf
 have g1:∀ j,j≠a→(H.put a (.row [vv,gv,rv] 48 false false)).get j=H.get j:=fun j hj=>AR (by omega) (Ne.symm hj)
 obtain⟨H2,s2,s3,s4,s5,s6⟩:=I8 (H:=H.put a (.row [vv,gv,rv] 48 false false)) (id:=a+1) (by rw[g1 _ (by omega)];exact gb) hb (by show H.floor≤a+1;omega) e x
 have e2:H2.get a=.row [vv,gv,rv] 48 false false:=by rw[s6 a (by omega),BL rfl (by omega)]
 exact⟨_,H2,s1,s2,by rw[e2];rfl,s3,ht.mono (by rw[s4];exact Nat.le_refl _) fun i h8 h9=>by rw[s6 i (by omega),g1 i (by omega)],rfl,s4,rfl,s5,g1,fun i hi=>by rw[s6 i (by omega),g1 i (by omega)]⟩
end
def HZ (k:Int) (l:List Int):Value:=
 if k=4 then .iface 81 (FL (l.getD 0 0) (l.getD 1 0) (l.getD 2 0)) else if k=5 then .iface 82 (iv (l.getD 0 0)) else if k=6 then .iface 83 (.bool (l.getD 0 0 != 0)) else if k=13 then .iface 84 (iv (l.getD 0 0)) else .nilIface
theorem Y2:DX Tryz.prog 81=some (FL 0 0 0):=by kernel_rfl
theorem zL:IC Tryz.prog (match Tryz.prog.underlying 81 with | some (.struct fs)=>fs.toList | _=>[])=some [(0,1),(1,1),(2,1)]:=by kernel_rfl
theorem TZ {a b c:Int}:flat (FL a b c)=true:=rfl
theorem Ls {a b c:Int}:DM Tryz.prog 81 [(0,iv a),(1,iv b),(2,iv c)]=some (FL a b c):=by
 have h:=zL
 rw[Tryz.underlying81] at h
 simp only at h
 simp only[DM,Y2,TZ,if_true,Tryz.underlying81,h]
 rfl
def bM:List (Bool × Bool × List Operand):=[A7,A7,A7,AI [.tmp 9],AI [.tmp 9],AI [.tmp 9],AI [.tmp 9,.tmp 12],AI [.tmp 9,.tmp 12],AI [.tmp 9,.tmp 12],AP,AP,AP]
section
variable {n N:Nat} {h:AA}
theorem PA {l:List Int} {i:Nat} {a:Int} (h:l[i]?=some a):l.getD i 0=a:=by rw[List.getD_eq_getElem?_getD,h];rfl
theorem Hd {k:Int} {l:List Int} {lv:Value} {lo:Nat} (hl:AW lo h lv l) (h4:k=4→3≤l.length) (h1:k=5∨k=6∨k=13→1≤l.length) :
  AY Tryz.prog (AK n) N 46 [iv k,lv] h=some (HZ k l,h):=by
 have hsn:=(EJ n).2
 refine CO Tryz.func46 rfl (by simp[Tryz.f46]) ?_
 have hr:Tryz.f46.results.toList=[.tmp 4]:=rfl
 cases c4:(k==4) with
 | true=>
  have e:=beq_iff_eq.1 c4
  have hl3:=h4 e
  obtain⟨a,ha⟩:∃ a,l[0]?=some a:=⟨_,List.getElem?_eq_getElem (by omega)⟩
  obtain⟨b,hb⟩:∃ b,l[1]?=some b:=⟨_,List.getElem?_eq_getElem (by omega)⟩
  obtain⟨c,hc⟩:∃ c,l[2]?=some c:=⟨_,List.getElem?_eq_getElem (by omega)⟩
  obtain⟨ia,pa,ea,hia,la⟩:=AW.get hl ha
  obtain⟨ib,pb,eb,hib,lb⟩:=AW.get hl hb
  obtain⟨ic,pc,ec,hic,lc⟩:=AW.get hl hc
  have ea':CB Tryz.prog 25 lv (iv 0)=some (qP ia pa):=ea
  have eb':CB Tryz.prog 25 lv (iv 1)=some (qP ib pb):=eb
  have ec':CB Tryz.prog 25 lv (iv 2)=some (qP ic pc):=ec
  have hA0:(ia<h.next)=True:=eq_true hia
  have hB0:(ib<h.next)=True:=eq_true hib
  have hC0:(ic<h.next)=True:=eq_true hic
  rw[show HZ k l=.iface 81 (FL a b c) by unfold HZ;rw[if_pos e,PA ha,PA hb,PA hc]]
  simp only[eE,seval,↓eP,c4]
  refine WK.flags (fs:=bM) (by kernel_rfl) ?_
  unfold bM
  iterate 12
   refine DI hsn ?_
   simp only[rG,seval,AD,AF,AE,CT,DC,CM,C4,DJ,Tryz.underlying81,ea',la,AL,hA0,eb',lb,hB0,ec',lc,hC0,List.map_cons,List.map_nil,Ls]
  refine DH ?_
  simp only[eE,seval,↓eP,hr]
 | false=>
 have n4:k≠4:=by simpa using c4
 cases c5:(k==5) with
 | true=>
  have e:=beq_iff_eq.1 c5
  have hl1:=h1 (.inl e)
  obtain⟨a,ha⟩:∃ a,l[0]?=some a:=⟨_,List.getElem?_eq_getElem (by omega)⟩
  obtain⟨ia,pa,ea,hia,la⟩:=AW.get hl ha
  have ea':CB Tryz.prog 25 lv (iv 0)=some (qP ia pa):=ea
  rw[show HZ k l=.iface 82 (iv a) by unfold HZ;rw[if_neg n4,if_pos e,PA ha]]
  simp only[eE,seval,↓eP,hr,c4,c5,ea',AL,la,Tryz.underlying82]
 | false=>
 have n5:k≠5:=by simpa using c5
 cases c6:(k==6) with
 | true=>
  have e:=beq_iff_eq.1 c6
  have hl1:=h1 (.inr (.inl e))
  obtain⟨a,ha⟩:∃ a,l[0]?=some a:=⟨_,List.getElem?_eq_getElem (by omega)⟩
  obtain⟨ia,pa,ea,hia,la⟩:=AW.get hl ha
  have ea':CB Tryz.prog 25 lv (iv 0)=some (qP ia pa):=ea
  rw[show HZ k l=.iface 83 (.bool (a != 0)) by unfold HZ;rw[if_neg n4,if_neg n5,if_pos e,PA ha]]
  simp only[eE,seval,↓eP,hr,c4,c5,c6,ea',AL,la,Tryz.underlying83]
 | false=>
 have n6:k≠6:=by simpa using c6
 cases c13:(k==13) with
 | true=>
  have e:=beq_iff_eq.1 c13
  have hl1:=h1 (.inr (.inr e))
  obtain⟨a,ha⟩:∃ a,l[0]?=some a:=⟨_,List.getElem?_eq_getElem (by omega)⟩
  obtain⟨ia,pa,ea,hia,la⟩:=AW.get hl ha
  have ea':CB Tryz.prog 25 lv (iv 0)=some (qP ia pa):=ea
  rw[show HZ k l=.iface 84 (iv a) by unfold HZ;rw[if_neg n4,if_neg n5,if_neg n6,if_pos e,PA ha]]
  simp only[eE,seval,↓eP,hr,c4,c5,c6,c13,ea',AL,la,Tryz.underlying84]
 | false=>
  have n13:k≠13:=by simpa using c13
  rw[show HZ k l=.nilIface by unfold HZ;rw[if_neg n4,if_neg n5,if_neg n6,if_neg n13]]
  simp only[eE,seval,↓eP,hr,c4,c5,c6,c13]
theorem Dr {k:Int} {l:List Int} {lv:Value} {lo:Nat} (hl:AW lo h lv l) (h4:k=4→3≤l.length) (h1:k=5∨k=6∨k=13→1≤l.length) (hn:0<n) :
  AK n 46 [iv k,lv] h=some (HZ k l,h):=by
 obtain⟨n,rfl⟩:=B8 hn
 have hw:=Hd (n:=n) (N:=n) hl h4 h1
 cases hv:E9 (HZ k l) with
 | true=>exact D4 (BD ⟨rfl,rfl,rfl⟩) hv hw
 | false=>
  obtain⟨h',e,rfl⟩:=N5 (R:=fun h'=>h'=h) (BD ⟨rfl,rfl,rfl⟩) hv ⟨h,hw,rfl⟩
  exact e
end
theorem jO (v:Value):I3 Tryz.prog (.iface 81 v) 81 true=some (.tuple #[v,.bool true]):=by kernel_rfl
theorem aE (v:Value):I3 Tryz.prog (.iface 82 v) 81 true=some (.tuple #[FL 0 0 0,.bool false]):=by kernel_rfl
theorem rD (v:Value):I3 Tryz.prog (.iface 83 v) 81 true=some (.tuple #[FL 0 0 0,.bool false]):=by kernel_rfl
theorem g8 (v:Value):I3 Tryz.prog (.iface 84 v) 81 true=some (.tuple #[FL 0 0 0,.bool false]):=by kernel_rfl
theorem Ua:I3 Tryz.prog .nilIface 81 true=some (.tuple #[FL 0 0 0,.bool false]):=by kernel_rfl
theorem iQ (v:Value):I3 Tryz.prog (.iface 82 v) 82 true=some (.tuple #[v,.bool true]):=by kernel_rfl
theorem wU (v:Value):I3 Tryz.prog (.iface 83 v) 82 true=some (.tuple #[iv 0,.bool false]):=by kernel_rfl
theorem fV (v:Value):I3 Tryz.prog (.iface 84 v) 82 true=some (.tuple #[iv 0,.bool false]):=by kernel_rfl
theorem Xa:I3 Tryz.prog .nilIface 82 true=some (.tuple #[iv 0,.bool false]):=by kernel_rfl
theorem oX (v:Value):I3 Tryz.prog (.iface 83 v) 83 true=some (.tuple #[v,.bool true]):=by kernel_rfl
theorem fU (v:Value):I3 Tryz.prog (.iface 84 v) 83 true=some (.tuple #[.bool false,.bool false]):=by kernel_rfl
theorem Rf:I3 Tryz.prog .nilIface 83 true=some (.tuple #[.bool false,.bool false]):=by kernel_rfl
theorem jS (v:Value):I3 Tryz.prog (.iface 84 v) 84 true=some (.tuple #[v,.bool true]):=by kernel_rfl
theorem Jj:I3 Tryz.prog .nilIface 84 true=some (.tuple #[iv 0,.bool false]):=by kernel_rfl
def I4 (k:Int):FuncId:=if k=39 then 91 else if k=40 then 92 else if k=41 then 93 else if k=43 then 94 else if k=44 then 24 else if k=45 then 95 else if k=46 then 96 else if k=47 then 97 else if k=48 then 98 else if k=49 then 99 else if k=50 then 100 else if k=51 then 101 else if k=52 then 102 else if k=42 then 103 else if k=53 then 104 else 105
abbrev HS (k:Int):Value:=.func (.func (I4 k)) #[] #[]
def DL (size:Int) (C:List Int) (x:AB):Value:=match EF size C x with
 | some v=>.iface 103 (iv v)
 | none=>if I6 x.kind=true then .iface 123 (HS x.kind) else if M3 x.kind=true then .iface 124 (HS x.kind) else .nilIface
section
variable {n N:Nat} {h:AA}
theorem yU {x:AB} {cv:Value} {size:Int} {C:List Int} {lc:Nat} (hc:ER lc h cv size C) (h32:x.kind=32→0≤x.n∧x.n<C.length) :
  ∃ h',AY Tryz.prog (AK n) N 68 [CE x,cv] h=some (DL size C x,h')∧h'.next=h.next+2∧h'.floor=h.floor∧∀ i,i<h.next→h'.get i=h.get i:=by
 obtain⟨vc,rfl,pc⟩:=id hc
 refine DW (R:=fun h'=>h'.next=h.next+2∧h'.floor=h.floor∧∀ i,i<h.next→h'.get i=h.get i) Tryz.func68 rfl (by simp[Tryz.f68]) ?_
 have hr:Tryz.f68.results.toList=[.tmp 4]:=rfl
 have cx:(CE x).cells.toList=AV x:=rfl
 have ox:(AV x).all one=true:=rfl
 have cb:=DV [iv size,vc]
 have ob:[iv size,vc].all one=true:=by simp only[List.all_cons,List.all_nil,AN.one pc,IM,Bool.and_self]
 obtain⟨gA,gB,nG,fG,gO⟩:=MJ h (.row (AV x) 60 false false) (.row [iv size,vc] 39 false false)
 simp only[eE,seval,↓eP,C2,CW,C6,cx,ox,cb,ob,FN,KS]
 generalize (h.push (.row (AV x) 60 false false)).push (.row [iv size,vc] 39 false false)=Q at *
 have x0:AH 0 (Q.get h.next)=some (iv x.kind):=by rw[gA];rfl
 have x3:AH 3 (Q.get h.next)=some (iv x.n):=by rw[gA];rfl
 have y0:AH 0 (Q.get (h.next+1))=some (iv size):=by rw[gB];rfl
 have y1:AH 1 (Q.get (h.next+1))=some vc:=by rw[gB];rfl
 have pC:AW lc Q vc C:=AW.mono pc (by omega) fun i _ hi=>gO i hi
 cases c27:(x.kind==27) with
 | true=>
  have k:=beq_iff_eq.1 c27
  rw[show DL size C x=.iface 103 (iv x.n) by unfold DL EF;rw[k];rfl]
  simp only[eE,seval,↓eP,hr,Nat.zero_add,F1,AL,x0,x3,Tryz.underlying103,Tryz.underlying123,Tryz.underlying124,c27]
  exact⟨nG,fG,gO⟩
 | false=>
 cases c33:(x.kind==33) with
 | true=>
  have k:=beq_iff_eq.1 c33
  rw[show DL size C x=.iface 103 (iv size) by unfold DL EF;rw[k];rfl]
  simp only[eE,seval,↓eP,hr,KG,AL,x0,y0,Tryz.underlying103,Tryz.underlying123,Tryz.underlying124,c27,c33]
  exact⟨nG,fG,gO⟩
 | false=>
 cases c32:(x.kind==32) with
 | true=>
  have k:=beq_iff_eq.1 c32
  obtain⟨r0,r1⟩:=h32 k
  obtain⟨c0,hc0⟩:∃ c,C[x.n.toNat]?=some c:=⟨_,List.getElem?_eq_getElem (by omega)⟩
  obtain⟨ia,pa,ea,_,la⟩:=AW.get pC hc0
  rw[show ((x.n.toNat:Nat):Int)=x.n by omega] at ea
  rw[show DL size C x=.iface 103 (iv c0) by unfold DL EF;rw[k,hc0];rfl]
  simp only[eE,seval,↓eP,hr,Nat.zero_add,F1,LY,AL,C3,x0,x3,y1,Tryz.underlying103,Tryz.underlying123,Tryz.underlying124,c27,c33,c32,ea,la]
  exact⟨nG,fG,gO⟩
 | false=>
 cases c29:(x.kind==29) with
 | true=>
  have k:=beq_iff_eq.1 c29
  rw[show DL size C x=.iface 103 (iv 1) by unfold DL EF;rw[k];rfl]
  simp only[eE,seval,↓eP,hr,x0,Tryz.underlying103,Tryz.underlying123,Tryz.underlying124,c27,c33,c32,c29]
  exact⟨nG,fG,gO⟩
 | false=>
 cases c30:(x.kind==30) with
 | true=>
  have k:=beq_iff_eq.1 c30
  rw[show DL size C x=.iface 103 (iv 0) by unfold DL EF;rw[k];rfl]
  simp only[eE,seval,↓eP,hr,x0,Tryz.underlying103,Tryz.underlying123,Tryz.underlying124,c27,c33,c32,c29,c30]
  exact⟨nG,fG,gO⟩
 | false=>
 cases c39:(x.kind==39) with
 | true=>
  have k:=beq_iff_eq.1 c39
  rw[show DL size C x=.iface 123 (.func (.func 91) #[] #[]) by unfold DL EF HS I4;rw[k];rfl]
  simp only[eE,seval,↓eP,hr,x0,Tryz.underlying103,Tryz.underlying123,Tryz.underlying124,c27,c33,c32,c29,c30,c39]
  exact⟨nG,fG,gO⟩
 | false=>
 cases c40:(x.kind==40) with
 | true=>
  have k:=beq_iff_eq.1 c40
  rw[show DL size C x=.iface 123 (.func (.func 92) #[] #[]) by unfold DL EF HS I4;rw[k];rfl]
  simp only[eE,seval,↓eP,hr,x0,Tryz.underlying103,Tryz.underlying123,Tryz.underlying124,c27,c33,c32,c29,c30,c39,c40]
  exact⟨nG,fG,gO⟩
 | false=>
 cases c41:(x.kind==41) with
 | true=>
  have k:=beq_iff_eq.1 c41
  rw[show DL size C x=.iface 123 (.func (.func 93) #[] #[]) by unfold DL EF HS I4;rw[k];rfl]
  simp only[eE,seval,↓eP,hr,x0,Tryz.underlying103,Tryz.underlying123,Tryz.underlying124,c27,c33,c32,c29,c30,c39,c40,c41]
  exact⟨nG,fG,gO⟩
 | false=>
 cases c43:(x.kind==43) with
 | true=>
  have k:=beq_iff_eq.1 c43
  rw[show DL size C x=.iface 123 (.func (.func 94) #[] #[]) by unfold DL EF HS I4;rw[k];rfl]
  simp only[eE,seval,↓eP,hr,x0,Tryz.underlying103,Tryz.underlying123,Tryz.underlying124,c27,c33,c32,c29,c30,c39,c40,c41,c43]
  exact⟨nG,fG,gO⟩
 | false=>
 cases c44:(x.kind==44) with
 | true=>
  have k:=beq_iff_eq.1 c44
  rw[show DL size C x=.iface 123 (.func (.func 24) #[] #[]) by unfold DL EF HS I4;rw[k];rfl]
  simp only[eE,seval,↓eP,hr,x0,Tryz.underlying103,Tryz.underlying123,Tryz.underlying124,c27,c33,c32,c29,c30,c39,c40,c41,c43,c44]
  exact⟨nG,fG,gO⟩
 | false=>
 cases c45:(x.kind==45) with
 | true=>
  have k:=beq_iff_eq.1 c45
  rw[show DL size C x=.iface 123 (.func (.func 95) #[] #[]) by unfold DL EF HS I4;rw[k];rfl]
  simp only[eE,seval,↓eP,hr,x0,Tryz.underlying103,Tryz.underlying123,Tryz.underlying124,c27,c33,c32,c29,c30,c39,c40,c41,c43,c44,c45]
  exact⟨nG,fG,gO⟩
 | false=>
 cases c46:(x.kind==46) with
 | true=>
  have k:=beq_iff_eq.1 c46
  rw[show DL size C x=.iface 123 (.func (.func 96) #[] #[]) by unfold DL EF HS I4;rw[k];rfl]
  simp only[eE,seval,↓eP,hr,x0,Tryz.underlying103,Tryz.underlying123,Tryz.underlying124,c27,c33,c32,c29,c30,c39,c40,c41,c43,c44,c45,c46]
  exact⟨nG,fG,gO⟩
 | false=>
 cases c47:(x.kind==47) with
 | true=>
  have k:=beq_iff_eq.1 c47
  rw[show DL size C x=.iface 124 (.func (.func 97) #[] #[]) by unfold DL EF HS I4;rw[k];rfl]
  simp only[eE,seval,↓eP,hr,x0,Tryz.underlying103,Tryz.underlying123,Tryz.underlying124,c27,c33,c32,c29,c30,c39,c40,c41,c43,c44,c45,c46,c47]
  exact⟨nG,fG,gO⟩
 | false=>
 cases c48:(x.kind==48) with
 | true=>
  have k:=beq_iff_eq.1 c48
  rw[show DL size C x=.iface 124 (.func (.func 98) #[] #[]) by unfold DL EF HS I4;rw[k];rfl]
  simp only[eE,seval,↓eP,hr,x0,Tryz.underlying103,Tryz.underlying123,Tryz.underlying124,c27,c33,c32,c29,c30,c39,c40,c41,c43,c44,c45,c46,c47,c48]
  exact⟨nG,fG,gO⟩
 | false=>
 cases c49:(x.kind==49) with
 | true=>
  have k:=beq_iff_eq.1 c49
  rw[show DL size C x=.iface 124 (.func (.func 99) #[] #[]) by unfold DL EF HS I4;rw[k];rfl]
  simp only[eE,seval,↓eP,hr,x0,Tryz.underlying103,Tryz.underlying123,Tryz.underlying124,c27,c33,c32,c29,c30,c39,c40,c41,c43,c44,c45,c46,c47,c48,c49]
  exact⟨nG,fG,gO⟩
 | false=>
 cases c50:(x.kind==50) with
 | true=>
  have k:=beq_iff_eq.1 c50
  rw[show DL size C x=.iface 124 (.func (.func 100) #[] #[]) by unfold DL EF HS I4;rw[k];rfl]
  simp only[eE,seval,↓eP,hr,x0,Tryz.underlying103,Tryz.underlying123,Tryz.underlying124,c27,c33,c32,c29,c30,c39,c40,c41,c43,c44,c45,c46,c47,c48,c49,c50]
  exact⟨nG,fG,gO⟩
 | false=>
 cases c51:(x.kind==51) with
 | true=>
  have k:=beq_iff_eq.1 c51
  rw[show DL size C x=.iface 124 (.func (.func 101) #[] #[]) by unfold DL EF HS I4;rw[k];rfl]
  simp only[eE,seval,↓eP,hr,x0,Tryz.underlying103,Tryz.underlying123,Tryz.underlying124,c27,c33,c32,c29,c30,c39,c40,c41,c43,c44,c45,c46,c47,c48,c49,c50,c51]
  exact⟨nG,fG,gO⟩
 | false=>
 cases c52:(x.kind==52) with
 | true=>
  have k:=beq_iff_eq.1 c52
  rw[show DL size C x=.iface 124 (.func (.func 102) #[] #[]) by unfold DL EF HS I4;rw[k];rfl]
  simp only[eE,seval,↓eP,hr,x0,Tryz.underlying103,Tryz.underlying123,Tryz.underlying124,c27,c33,c32,c29,c30,c39,c40,c41,c43,c44,c45,c46,c47,c48,c49,c50,c51,c52]
  exact⟨nG,fG,gO⟩
 | false=>
 cases c42:(x.kind==42) with
 | true=>
  have k:=beq_iff_eq.1 c42
  rw[show DL size C x=.iface 124 (.func (.func 103) #[] #[]) by unfold DL EF HS I4;rw[k];rfl]
  simp only[eE,seval,↓eP,hr,x0,Tryz.underlying103,Tryz.underlying123,Tryz.underlying124,c27,c33,c32,c29,c30,c39,c40,c41,c43,c44,c45,c46,c47,c48,c49,c50,c51,c52,c42]
  exact⟨nG,fG,gO⟩
 | false=>
 cases c53:(x.kind==53) with
 | true=>
  have k:=beq_iff_eq.1 c53
  rw[show DL size C x=.iface 124 (.func (.func 104) #[] #[]) by unfold DL EF HS I4;rw[k];rfl]
  simp only[eE,seval,↓eP,hr,x0,Tryz.underlying103,Tryz.underlying123,Tryz.underlying124,c27,c33,c32,c29,c30,c39,c40,c41,c43,c44,c45,c46,c47,c48,c49,c50,c51,c52,c42,c53]
  exact⟨nG,fG,gO⟩
 | false=>
 cases c54:(x.kind==54) with
 | true=>
  have k:=beq_iff_eq.1 c54
  rw[show DL size C x=.iface 124 (.func (.func 105) #[] #[]) by unfold DL EF HS I4;rw[k];rfl]
  simp only[eE,seval,↓eP,hr,x0,Tryz.underlying103,Tryz.underlying123,Tryz.underlying124,c27,c33,c32,c29,c30,c39,c40,c41,c43,c44,c45,c46,c47,c48,c49,c50,c51,c52,c42,c53,c54]
  exact⟨nG,fG,gO⟩
 | false=>
 have e:DL size C x=.nilIface:=by
  simp only[beq_eq_false_iff_ne] at c27 c33 c32 c29 c30 c39 c40 c41 c43 c44 c45 c46 c47 c48 c49 c50 c51 c52 c42 c53 c54
  unfold DL EF
  rw[if_neg c27,if_neg c33,if_neg c32,if_neg c29,if_neg c30]
  simp[I6,M3,c39,c40,c41,c43,c44,c45,c46,c47,c48,c49,c50,c51,c52,c42,c53,c54]
 rw[e]
 simp only[eE,seval,↓eP,hr,x0,Tryz.underlying103,Tryz.underlying123,Tryz.underlying124,c27,c33,c32,c29,c30,c39,c40,c41,c43,c44,c45,c46,c47,c48,c49,c50,c51,c52,c42,c53,c54]
 exact⟨nG,fG,gO⟩
theorem Bb {x:AB} {cv:Value} {size:Int} {C:List Int} {lc:Nat} (hc:ER lc h cv size C) (h32:x.kind=32→0≤x.n∧x.n<C.length) (hn:0<n) :
  ∃ h',AK n 68 [CE x,cv] h=some (DL size C x,h')∧h.next≤h'.next∧h'.floor=h.floor∧∀ i,i<h.next→h'.get i=h.get i:=by
 obtain⟨n,rfl⟩:=B8 hn
 obtain⟨v,h',h1,h2,h3,h4,h5⟩:=MG (R:=fun v h'=>v=DL size C x∧h.next≤h'.next∧h'.floor=h.floor∧∀ i,i<h.next→h'.get i=h.get i) (n:=n) (f:=68) (args:=[CE x,cv]) (h:=h) (BD ⟨rfl,rfl,rfl⟩) (by
  obtain⟨h',h1,h2,h3,h4⟩:=yU (n:=n) (N:=n) hc h32
  exact⟨_,h',h1,rfl,by omega,h3,h4⟩) fun v h1 _ _ ht=>⟨ht.1,Nat.le_refl _,rfl,fun _ _=>rfl⟩
 subst h2
 exact⟨h',h1,h3,h4,h5⟩
theorem nL {a b:Int} (ha:-1073741824≤a∧a≤1073741824) (hb:-1073741824≤b∧b≤1073741824):-1152921504606846976≤a*b∧a*b≤1152921504606846976:=by
 have h1:(a*b).natAbs≤1073741824*1073741824:=by
  rw[Int.natAbs_mul]
  exact Nat.mul_le_mul (by omega) (by omega)
 omega
theorem mD {k a b:Int} (hk:I6 k=true) (ha:-1073741824≤a∧a≤1073741824) (hb:-1073741824≤b∧b≤1073741824) (hn:3<n):AK n (I4 k) [iv a,iv b] h=some (iv (I1 k a b),h):=by
 have hk':k=39∨k=40∨k=41∨k=43∨k=44∨k=45∨k=46:=by
  unfold I6 at hk
  simpa using hk
 have hm:=nL ha hb
 obtain⟨n,rfl⟩:=B8 hn
 rcases hk' with rfl | rfl | rfl | rfl | rfl | rfl | rfl
 ·show AK (n+1) 91 [iv a,iv b] h=some (iv (if b<a then b else a),h)
  refine D4 (BD ⟨rfl,rfl,rfl⟩) rfl ?_
  refine CO Tryz.func91 rfl (by simp[Tryz.f91]) ?_
  have hr:Tryz.f91.results.toList=[.tmp 4]:=rfl
  simp only[eE,seval,↓eP,hr]
 ·show AK (n+1) 92 [iv a,iv b] h=some (iv (if b>a then b else a),h)
  refine D4 (BD ⟨rfl,rfl,rfl⟩) rfl ?_
  refine CO Tryz.func92 rfl (by simp[Tryz.f92]) ?_
  have hr:Tryz.f92.results.toList=[.tmp 4]:=rfl
  simp only[eE,seval,↓eP,hr]
 ·show AK (n+1) 93 [iv a,iv b] h=some (iv (-a),h)
  refine D4 (BD ⟨rfl,rfl,rfl⟩) rfl ?_
  refine CO Tryz.func93 rfl (by simp[Tryz.f93]) ?_
  have hr:Tryz.f93.results.toList=[.tmp 4]:=rfl
  have w:IntKind.i64.wrap (0-a)=-a:=by rw[BT (by omega) (by omega)];omega
  simp only[eE,seval,↓eP,hr,w]
 ·show AK (n+1) 94 [iv a,iv b] h=some (iv (a*b),h)
  refine D4 (BD ⟨rfl,rfl,rfl⟩) rfl ?_
  refine CO Tryz.func94 rfl (by simp[Tryz.f94]) ?_
  have hr:Tryz.f94.results.toList=[.tmp 4]:=rfl
  have w:IntKind.i64.wrap (a*b)=(a*b):=BT (by omega) (by omega)
  simp only[eE,seval,↓eP,hr,w]
 ·show AK (n+1) 24 [iv a,iv b] h=some (iv (LP a b),h)
  exact Uy ⟨by omega,by omega⟩ ⟨by omega,by omega⟩ (by omega)
 ·show AK (n+1) 95 [iv a,iv b] h=some (iv (a+b),h)
  refine D4 (BD ⟨rfl,rfl,rfl⟩) rfl ?_
  refine CO Tryz.func95 rfl (by simp[Tryz.f95]) ?_
  have hr:Tryz.f95.results.toList=[.tmp 4]:=rfl
  have w:IntKind.i64.wrap (a+b)=(a+b):=BT (by omega) (by omega)
  simp only[eE,seval,↓eP,hr,w]
 ·show AK (n+1) 96 [iv a,iv b] h=some (iv (a-b),h)
  refine D4 (BD ⟨rfl,rfl,rfl⟩) rfl ?_
  refine CO Tryz.func96 rfl (by simp[Tryz.f96]) ?_
  have hr:Tryz.f96.results.toList=[.tmp 4]:=rfl
  have w:IntKind.i64.wrap (a-b)=(a-b):=BT (by omega) (by omega)
  simp only[eE,seval,↓eP,hr,w]
theorem pV {k a b:Int} (hk:M3 k=true) (hn:0<n):AK n (I4 k) [iv a,iv b] h=some (.bool (LH k a b),h):=by
 have hk':k=42∨k=47∨k=48∨k=49∨k=50∨k=51∨k=52∨k=53∨k=54:=by
  unfold M3 at hk
  simpa using hk
 obtain⟨n,rfl⟩:=B8 hn
 rcases hk' with rfl | rfl | rfl | rfl | rfl | rfl | rfl | rfl | rfl
 ·show AK (n+1) 103 [iv a,iv b] h=some (.bool (a==0),h)
  refine D4 (BD ⟨rfl,rfl,rfl⟩) rfl ?_
  refine CO Tryz.func103 rfl (by simp[Tryz.f103]) ?_
  have hr:Tryz.f103.results.toList=[.tmp 4]:=rfl
  simp only[eE,seval,↓eP,hr]
 ·show AK (n+1) 97 [iv a,iv b] h=some (.bool (a==b),h)
  refine D4 (BD ⟨rfl,rfl,rfl⟩) rfl ?_
  refine CO Tryz.func97 rfl (by simp[Tryz.f97]) ?_
  have hr:Tryz.f97.results.toList=[.tmp 4]:=rfl
  simp only[eE,seval,↓eP,hr]
 ·show AK (n+1) 98 [iv a,iv b] h=some (.bool (a != b),h)
  refine D4 (BD ⟨rfl,rfl,rfl⟩) rfl ?_
  refine CO Tryz.func98 rfl (by simp[Tryz.f98]) ?_
  have hr:Tryz.f98.results.toList=[.tmp 4]:=rfl
  simp only[eE,seval,↓eP,hr]
 ·show AK (n+1) 99 [iv a,iv b] h=some (.bool (decide (a<b)),h)
  refine D4 (BD ⟨rfl,rfl,rfl⟩) rfl ?_
  refine CO Tryz.func99 rfl (by simp[Tryz.f99]) ?_
  have hr:Tryz.f99.results.toList=[.tmp 4]:=rfl
  simp only[eE,seval,↓eP,hr]
 ·show AK (n+1) 100 [iv a,iv b] h=some (.bool (decide (a≤b)),h)
  refine D4 (BD ⟨rfl,rfl,rfl⟩) rfl ?_
  refine CO Tryz.func100 rfl (by simp[Tryz.f100]) ?_
  have hr:Tryz.f100.results.toList=[.tmp 4]:=rfl
  simp only[eE,seval,↓eP,hr]
 ·show AK (n+1) 101 [iv a,iv b] h=some (.bool (decide (a>b)),h)
  refine D4 (BD ⟨rfl,rfl,rfl⟩) rfl ?_
  refine CO Tryz.func101 rfl (by simp[Tryz.f101]) ?_
  have hr:Tryz.f101.results.toList=[.tmp 4]:=rfl
  simp only[eE,seval,↓eP,hr]
 ·show AK (n+1) 102 [iv a,iv b] h=some (.bool (decide (a≥b)),h)
  refine D4 (BD ⟨rfl,rfl,rfl⟩) rfl ?_
  refine CO Tryz.func102 rfl (by simp[Tryz.f102]) ?_
  have hr:Tryz.f102.results.toList=[.tmp 4]:=rfl
  simp only[eE,seval,↓eP,hr]
 ·show AK (n+1) 104 [iv a,iv b] h=some (.bool (a != 0&&b != 0),h)
  refine D4 (BD ⟨rfl,rfl,rfl⟩) rfl ?_
  refine CO Tryz.func104 rfl (by simp[Tryz.f104]) ?_
  have hr:Tryz.f104.results.toList=[.tmp 4]:=rfl
  cases d:(a != 0) with
  | true=>simp only[eE,seval,↓eP,hr,d,Bool.true_and]
  | false=>simp only[eE,seval,↓eP,hr,d,Bool.false_and]
 ·show AK (n+1) 105 [iv a,iv b] h=some (.bool (a != 0||b != 0),h)
  refine D4 (BD ⟨rfl,rfl,rfl⟩) rfl ?_
  refine CO Tryz.func105 rfl (by simp[Tryz.f105]) ?_
  have hr:Tryz.f105.results.toList=[.tmp 4]:=rfl
  cases d:(a != 0) with
  | true=>simp only[eE,seval,↓eP,hr,d,Bool.true_or]
  | false=>simp only[eE,seval,↓eP,hr,d,Bool.false_or]
def dZ:List (Bool × Bool × List Operand):=[A7,A7,A7,A7,AI [.tmp 7],AI [.tmp 7],AI [.tmp 7],AI [.tmp 7],AI [.tmp 7],AI [.tmp 7],AP,AP,AP]
theorem Jf {k a b:Int} {l:List Int} {lv:Value} {lo:Nat} (hk:I6 k=true) (hl:AW lo h lv l) (h0:l[0]?=some a) (h1:l[l.length-1]?=some b) (ha:-1073741824≤a∧a≤1073741824) (hb:-1073741824≤b∧b≤1073741824) (hll:l.length<1000) (hn:4<n) :
  AY Tryz.prog (AK n) N 164 [HS k,lv] h=some (iv (FX (I1 k a b)),h):=by
 obtain⟨_,al,cl,rfl,_⟩:=id hl
 have hsn:=(EJ n).2
 have hpos:=(List.getElem?_eq_some_iff.1 h0).1
 refine CO Tryz.func164 rfl (by simp[Tryz.f164]) ?_
 have hr:Tryz.f164.results.toList=[.tmp 4]:=rfl
 obtain⟨ia,pa,ea,hia,la⟩:=AW.get hl h0
 obtain⟨ib,pb,eb,hib,lb⟩:=AW.get hl h1
 have ea':CB Tryz.prog 25 (.slice al l.length cl) (iv 0)=some (qP ia pa):=ea
 have lenL:=fun h'=>LL hl h'
 have w1:IntKind.i64.wrap ((l.length:Int)-1)=((l.length-1:Nat):Int):=by rw[BT (by omega) (by omega)];omega
 have hA0:(ia<h.next)=True:=eq_true hia
 have hB0:(ib<h.next)=True:=eq_true hib
 have hc1:∀ fl:Nat,AK n (I4 k) [iv a,iv b] (h.fl fl)=some (iv (I1 k a b),h.fl fl):=fun fl=>mD hk ha hb (by omega)
 have hc2:∀ fl:Nat,AK n 25 [iv (I1 k a b)] (h.fl fl)=some (iv (FX (I1 k a b)),h.fl fl):=fun fl=>bN (by omega)
 have hc1':=mD (n:=n) (h:=h) hk ha hb (by omega)
 have hc2':=bN (n:=n) (h:=h) (x:=I1 k a b) (by omega)
 simp only[eE,seval,↓eP]
 refine WK.flags (fs:=dZ) (by kernel_rfl) ?_
 unfold dZ
 iterate 13
  refine DI hsn ?_
  simp only[rG,seval,AD,AF,AE,CT,DC,CM,C4,DJ,ea',la,AL,hA0,lenL,w1,eb,lb,hB0,hc1',hc2']
 refine DH ?_
 simp only[eE,seval,↓eP,hr]
def dO:List (Bool × Bool × List Operand):=[A7,A7,A7,A7,AI [.tmp 7],AI [.tmp 7],AI [.tmp 7],AI [.tmp 7],AI [.tmp 7],AI [.tmp 7],AP]
theorem Ao {k a b:Int} {l:List Int} {lv:Value} {lo:Nat} (hk:M3 k=true) (hl:AW lo h lv l) (h0:l[0]?=some a) (h1:l[l.length-1]?=some b) (ha:-1073741824≤a∧a≤1073741824) (hb:-1073741824≤b∧b≤1073741824) (hll:l.length<1000) (hn:4<n) :
  AY Tryz.prog (AK n) N 165 [HS k,lv] h=some (iv (if LH k a b=true then 1 else 0),h):=by
 obtain⟨_,al,cl,rfl,_⟩:=id hl
 have hsn:=(EJ n).2
 have hpos:=(List.getElem?_eq_some_iff.1 h0).1
 refine CO Tryz.func165 rfl (by simp[Tryz.f165]) ?_
 have hr:Tryz.f165.results.toList=[.tmp 4]:=rfl
 obtain⟨ia,pa,ea,hia,la⟩:=AW.get hl h0
 obtain⟨ib,pb,eb,hib,lb⟩:=AW.get hl h1
 have ea':CB Tryz.prog 25 (.slice al l.length cl) (iv 0)=some (qP ia pa):=ea
 have lenL:=fun h'=>LL hl h'
 have w1:IntKind.i64.wrap ((l.length:Int)-1)=((l.length-1:Nat):Int):=by rw[BT (by omega) (by omega)];omega
 have hA0:(ia<h.next)=True:=eq_true hia
 have hB0:(ib<h.next)=True:=eq_true hib
 have hc1:∀ fl:Nat,AK n (I4 k) [iv a,iv b] (h.fl fl)=some (.bool (LH k a b),h.fl fl):=fun fl=>pV hk (by omega)
 have hc1':=pV (n:=n) (h:=h) (k:=k) (a:=a) (b:=b) hk (by omega)
 simp only[eE,seval,↓eP]
 refine WK.flags (fs:=dO) (by kernel_rfl) ?_
 unfold dO
 iterate 11
  refine DI hsn ?_
  simp only[rG,seval,AD,AF,AE,CT,DC,CM,C4,DJ,ea',la,AL,hA0,lenL,w1,eb,lb,hB0,hc1']
 refine DH ?_
 cases LH k a b with
 | true=>simp only[eE,seval,↓eP,hr]
 | false=>simp only[eE,seval,↓eP,hr]
theorem Gw {v:Int} {lv:Value}:AY Tryz.prog (AK n) N 163 [iv v,lv] h=some (iv v,h):=by
 refine CO Tryz.func163 rfl (by simp[Tryz.f163]) ?_
 have hr:Tryz.f163.results.toList=[.tmp 4]:=rfl
 simp only[eE,seval,↓eP,hr]
end
theorem Qz (v : Value) : UA Tryz.prog 103 v "winnow/typed.of" = some (163, v) := by kernel_rfl
theorem Nb (v : Value) : UA Tryz.prog 123 v "winnow/typed.of" = some (164, v) := by kernel_rfl
theorem Cq (v : Value) : UA Tryz.prog 124 v "winnow/typed.of" = some (165, v) := by kernel_rfl
theorem Py (v:Value):I3 Tryz.prog (.iface 103 v) 103 true=some (.tuple #[v,.bool true]):=by kernel_rfl
theorem z9 (v:Value):I3 Tryz.prog (.iface 123 v) 103 true=some (.tuple #[iv 0,.bool false]):=by kernel_rfl
theorem Gd (v:Value):I3 Tryz.prog (.iface 124 v) 103 true=some (.tuple #[iv 0,.bool false]):=by kernel_rfl
theorem Qm:CP Tryz.prog .eql 101 (.tmp 38) (.const .nilIface) .nilIface .nilIface=some (.bool true):=by kernel_rfl
theorem iU (t:TypeId) (v:Value):CP Tryz.prog .eql 101 (.tmp 38) (.const .nilIface) (.iface t v) .nilIface=some (.bool false):=by kernel_rfl
section
variable {n:Nat} {h:AA}
theorem Bm {v:Int} {lv:Value} (hn:0<n):AK n 163 [iv v,lv] h=some (iv v,h):=by
 obtain⟨n,rfl⟩:=B8 hn
 exact D4 (BD ⟨rfl,rfl,rfl⟩) rfl Gw
theorem Ld {k a b:Int} {l:List Int} {lv:Value} {lo:Nat} (hk:I6 k=true) (hl:AW lo h lv l) (h0:l[0]?=some a) (h1:l[l.length-1]?=some b) (ha:-1073741824≤a∧a≤1073741824) (hb:-1073741824≤b∧b≤1073741824) (hll:l.length<1000) (hn:6<n):AK n 164 [HS k,lv] h=some (iv (GU k a b),h):=by
 obtain⟨n,rfl⟩:=B8 hn
 have e:GU k a b=FX (I1 k a b):=by unfold GU;rw[if_pos hk]
 rw[e]
 exact D4 (BD ⟨rfl,rfl,rfl⟩) rfl (Jf hk hl h0 h1 ha hb hll (by omega))
theorem Rj {k a b:Int} {l:List Int} {lv:Value} {lo:Nat} (hr:I6 k=false) (hk:M3 k=true) (hl:AW lo h lv l) (h0:l[0]?=some a) (h1:l[l.length-1]?=some b) (ha:-1073741824≤a∧a≤1073741824) (hb:-1073741824≤b∧b≤1073741824) (hll:l.length<1000) (hn:6<n):AK n 165 [HS k,lv] h=some (iv (GU k a b),h):=by
 obtain⟨n,rfl⟩:=B8 hn
 have e:GU k a b=if LH k a b=true then 1 else 0:=by unfold GU;rw[if_neg (by rw[hr];decide)]
 rw[e]
 exact D4 (BD ⟨rfl,rfl,rfl⟩) rfl (Ao hk hl h0 h1 ha hb hll (by omega))
end
theorem Uf {size:Int} {C:List Int} {x:AB} {v:Int} (h:EF size C x=some v):GJ x.kind=false∧F4 x.kind=false:=by
 unfold EF at h
 split at h
 ·rename_i hk;rw[hk];exact⟨rfl,rfl⟩
 split at h
 ·rename_i hk;rw[hk];exact⟨rfl,rfl⟩
 split at h
 ·rename_i hk;rw[hk];exact⟨rfl,rfl⟩
 split at h
 ·rename_i hk;rw[hk];exact⟨rfl,rfl⟩
 split at h
 ·rename_i hk;rw[hk];exact⟨rfl,rfl⟩
 ·cases h
structure J8 (h H:AA) (P Cp:List Value) (V:List Int) (I:List Bool):Prop where
 p:H.get h.next=.row P 27 false false
 c:H.get (h.next+1)=.row Cp 39 false false
 v:H.get (h.next+2)=.row (ints V) 3 false false
 b:H.get (h.next+3)=.row (DK I) 4 false false
 n:h.next+4≤H.next
 fl:H.floor=h.floor
 o:∀ i,i<h.next→H.get i=h.get i
theorem J8.mono {h H H':AA} {P Cp:List Value} {V:List Int} {I:List Bool} (hT:J8 h H P Cp V I) (hn:H.next≤H'.next) (hf:H'.floor=H.floor) (hg:∀ i,i<h.next+4→H'.get i=H.get i):J8 h H' P Cp V I:=
 ⟨by rw[hg _ (by omega)];exact hT.p,by rw[hg _ (by omega)];exact hT.c,by rw[hg _ (by omega)];exact hT.v,by rw[hg _ (by omega)];exact hT.b,by have:=hT.n;omega,hf.trans hT.fl,fun i hi=>by rw[hg i (by omega)];exact hT.o i hi⟩
theorem J8.setV {h H:AA} {P Cp:List Value} {V:List Int} {I:List Bool} (hT:J8 h H P Cp V I) (V':List Int):J8 h (H.put (h.next+2) (.row (ints V') 3 false false)) P Cp V' I:=by
 have hn:=hT.n
 have g:∀ j,j≠h.next+2→(H.put (h.next+2) (.row (ints V') 3 false false)).get j=H.get j:=fun j hj=>AR (by omega) (Ne.symm hj)
 exact⟨by rw[g _ (by omega)];exact hT.p,by rw[g _ (by omega)];exact hT.c,BL rfl (by omega),by rw[g _ (by omega)];exact hT.b,hn,hT.fl,fun j hj=>by rw[g j (by omega)];exact hT.o j hj⟩
theorem J8.setB {h H:AA} {P Cp:List Value} {V:List Int} {I:List Bool} (hT:J8 h H P Cp V I) (I':List Bool):J8 h (H.put (h.next+3) (.row (DK I') 4 false false)) P Cp V I':=by
 have hn:=hT.n
 have g:∀ j,j≠h.next+3→(H.put (h.next+3) (.row (DK I') 4 false false)).get j=H.get j:=fun j hj=>AR (by omega) (Ne.symm hj)
 exact⟨by rw[g _ (by omega)];exact hT.p,by rw[g _ (by omega)];exact hT.c,by rw[g _ (by omega)];exact hT.v,BL rfl (by omega),hn,hT.fl,fun j hj=>by rw[g j (by omega)];exact hT.o j hj⟩
theorem Qf {Z:List AB} {s:AM} {size:Int} {C:List Int} (hG:EB Z s) (hF:PG s size C) {m:Nat} {x:AB} (hx:s.rows[m]?=some x) (hop:GJ x.kind=true∨F4 x.kind=true) :
  ((BA (AC Z) x.kids.toNat (m+1)).all (fun p=>(CG s.rows (AC Z) size C p).isSome)=true→∃ a b,((BA (AC Z) x.kids.toNat (m+1)).map (fun p=>(CG s.rows (AC Z) size C p).getD 0))[0]?=some a∧((BA (AC Z) x.kids.toNat (m+1)).map (fun p=>(CG s.rows (AC Z) size C p).getD 0))[((BA (AC Z) x.kids.toNat (m+1)).map (fun p=>(CG s.rows (AC Z) size C p).getD 0)).length-1]?=some b∧(-1073741824≤a∧a≤1073741824)∧(-1073741824≤b∧b≤1073741824)∧CG s.rows (AC Z) size C m=some (GU x.kind a b)) ∧
  ((BA (AC Z) x.kids.toNat (m+1)).all (fun p=>(CG s.rows (AC Z) size C p).isSome)=false→CG s.rows (AC Z) size C m=none)∧x.kids.toNat≤2:=by
 have hcq:=R6 (size:=size) (C:=C) hG hx
 cases hu:GJ x.kind with
 | true=>
  have hk:=hG.un hx hu
  have k0:=hG.kid0 hx (by omega)
  rw[if_pos hu] at hcq
  have e:BA (AC Z) x.kids.toNat (m+1)=[m+1]:=by rw[hk];rfl
  rw[e,hcq]
  cases hc:CG s.rows (AC Z) size C (m+1) with
  | none=>exact⟨fun h=>by simp[hc] at h,fun _=>rfl,by omega⟩
  | some a=>
   have hr:=U4 hG hF k0.2 hc
   exact⟨fun _=>⟨a,a,by simp[hc],by simp[hc],hr,hr,rfl⟩,fun h=>by simp[hc] at h,by omega⟩
 | false=>
  have hb:F4 x.kind=true:=by
   rcases hop with h | h
   ·rw[hu] at h;cases h
   ·exact h
  have hk:=hG.bin hx hb
  have k0:=hG.kid0 hx (by omega)
  have k1:=hG.kid1 hx hk
  rw[if_neg (by rw[hu];decide),if_pos hb] at hcq
  have e:BA (AC Z) x.kids.toNat (m+1)=[m+1,AC Z (m+1)]:=by rw[hk];rfl
  rw[e,hcq]
  cases hc:CG s.rows (AC Z) size C (m+1) with
  | none=>exact⟨fun h=>by simp[hc] at h,fun _=>rfl,by omega⟩
  | some a=>
   cases hd:CG s.rows (AC Z) size C (AC Z (m+1)) with
   | none=>exact⟨fun h=>by simp[hc,hd] at h,fun _=>rfl,by omega⟩
   | some b=>
    exact⟨fun _=>⟨a,b,by simp[hc],by simp[hc,hd],U4 hG hF k0.2 hc,U4 hG hF k1.2 hd,rfl⟩,fun h=>by simp[hc,hd] at h,by omega⟩
def O0 (R:List AB) (con:Nat→Option Int) (i:Nat) (V:List Int) (I:List Bool):Prop:=V.length=R.length∧I.length=R.length∧∀ j,j<R.length→(i≤j→V[j]?=some ((con j).getD 0)∧I[j]?=some (con j).isSome)∧(j<i→V[j]?=some 0∧I[j]?=some false)
theorem O0.step {R:List AB} {con:Nat→Option Int} {m:Nat} {V:List Int} {I:List Bool} (hK:O0 R con (m+1) V I) (hm:m<R.length) {V':List Int} {I':List Bool} (h1:V'.length=V.length) (h2:I'.length=I.length) (h3:V'[m]?=some ((con m).getD 0)) (h4:I'[m]?=some (con m).isSome) (h5:∀ j,j≠m→V'[j]?=V[j]?∧I'[j]?=I[j]?):O0 R con m V' I':=by
 obtain⟨a,b,c⟩:=hK
 refine⟨by omega,by omega,fun j hj=>⟨fun h=>?_,fun h=>?_⟩⟩
 ·rcases Nat.eq_or_lt_of_le h with e | e
  ·subst e
   exact⟨h3,h4⟩
  ·rw[(h5 j (by omega)).1,(h5 j (by omega)).2]
   exact(c j hj).1 (by omega)
 ·rw[(h5 j (by omega)).1,(h5 j (by omega)).2]
  exact(c j hj).2 (by omega)
def jR:List (Bool × Bool × List Operand):=[A7,A7,A7,A7,F5 [.tmp 15],F5 [.tmp 15],F5 [.tmp 15],F5 [.tmp 15],F5 [.tmp 19],AP]
def dI:List (Bool × Bool × List Operand):=[A7,A7,AI [.tmp 31],A7,A7,AI [.tmp 31,.tmp 34],AP,AP]
section
variable {n N:Nat} {h:AA}
theorem Il {nm:ByteArray} {s:AM} {Z:List AB} {pv cv:Value} {lo lc:Nat} {size:Int} {C:List Int} (hG:EB Z s) (hF:PG s size C) (hp:BP lo h pv nm s) (hc:ER lc h cv size C) (hl:s.rows.length<9000000) (hfl:h.floor≤h.next) (hn:s.rows.length+60<n) (hN:s.rows.length+40<N) :
  ∃ h',AY Tryz.prog (AK n) N 43 [pv,cv] h=some (.tuple #[qS (h.next+2) s.rows.length s.rows.length,qS (h.next+3) s.rows.length s.rows.length],h')∧∃ P Cp V I,J8 h h' P Cp V I∧O0 s.rows (CG s.rows (AC Z) size C) 0 V I:=by
 obtain⟨vr,vq,vv,vt,vu,vo,rfl,p1,p2,p3,p4,p5,p6⟩:=id hp
 obtain⟨vc,rfl,pc⟩:=id hc
 obtain⟨_,ar,cr,rfl,_⟩:=id p1.2
 have hsn:=(EJ n).2
 have htot:C_ s=s.rows.length+s.queues.length+s.vars.length+s.tags.length+s.rules.length+s.on.length:=rfl
 refine DW (R:=fun h'=>∃ P Cp V I,J8 h h' P Cp V I∧O0 s.rows (CG s.rows (AC Z) size C) 0 V I) Tryz.func43 rfl (by simp[Tryz.f43]) ?_
 have hr:Tryz.f43.results.toList=[.tmp 4,.tmp 5]:=rfl
 have ca:=DV [.string nm,.slice ar s.rows.length cr,vq,vv,vt,vu,vo,iv s.miss]
 have oa:=HU (nm:=nm) p1 p2 p3 p4 p5 p6
 have cb:=DV [iv size,vc]
 have ob:[iv size,vc].all one=true:=by simp only[List.all_cons,List.all_nil,AN.one pc,IM,Bool.and_self]
 obtain⟨gA,gB,nG,fG,gO⟩:=MJ h (.row [.string nm,.slice ar s.rows.length cr,vq,vv,vt,vu,vo,iv s.miss] 27 false false) (.row [iv size,vc] 39 false false)
 simp only[eE,seval,↓eP,C2,CW,C6,ca,oa,cb,ob,FM,KS]
 generalize (h.push (.row [.string nm,.slice ar s.rows.length cr,vq,vv,vt,vu,vo,iv s.miss] 27 false false)).push (.row [iv size,vc] 39 false false)=Q at *
 have hsl:=hG.sk.1
 have npos:0<s.rows.length:=by have:=hG.t.pos;omega
 have len1:=fun h'=>NO p1.2 h'
 have x1:AH 1 (Q.get h.next)=some (.slice ar s.rows.length cr):=by rw[gA];rfl
 have JW:∀ H:AA,HP Tryz.prog H 25 (iv (s.rows.length:Int)) (iv (s.rows.length:Int))=some (qS H.next s.rows.length s.rows.length,H.push (.row (ints (List.replicate s.rows.length 0)) 3 false false)):=fun H=>by
  have:=PW (P:=Tryz.prog) (h:=H) (t:=25) (e:=3) (z:=.int .i64 0) Tryz.underlying25 C7 LS JK rfl rfl (by decide) (by decide) (n:=s.rows.length) (by omega)
  rw[show B0 (Value.int IntKind.i64 0).cells.toList s.rows.length=ints (List.replicate s.rows.length 0) from RY _] at this
  exact this
 have mkB:∀ H:AA,HP Tryz.prog H 63 (iv (s.rows.length:Int)) (iv (s.rows.length:Int))=some (qS H.next s.rows.length s.rows.length,H.push (.row (DK (List.replicate s.rows.length false)) 4 false false)):=fun H=>by
  have:=PW (P:=Tryz.prog) (h:=H) (t:=63) (e:=4) (z:=.bool false) Tryz.underlying63 PI d_ aL rfl rfl (by decide) (by decide) (n:=s.rows.length) (by omega)
  rw[show B0 (Value.bool false).cells.toList s.rows.length=DK (List.replicate s.rows.length false) from dJ _] at this
  exact this
 have q1:∀ a,AH 1 ((Q.push a).get h.next)=some (.slice ar s.rows.length cr):=fun a=>by rw[AU (by omega)];exact x1
 have q2:∀ a b,AH 1 (((Q.push a).push b).get h.next)=some (.slice ar s.rows.length cr):=fun a b=>by rw[AU (by show h.next<Q.next+1;omega)];exact q1 a
 have g2:∀ (a b:BF),let A:=(Q.push a).push b
   A.get Q.next=a∧A.get (Q.next+1)=b∧A.next=Q.next+2∧A.floor=Q.floor∧∀ i,i<Q.next→A.get i=Q.get i:=fun a b=>
  ⟨NH,NC,rfl,rfl,fun i hi=>by rw[AU (by show i<Q.next+1;omega),AU hi]⟩
 have h4:=g2 (.row (ints (List.replicate s.rows.length 0)) 3 false false) (.row (DK (List.replicate s.rows.length false)) 4 false false)
 have hA0:(h.next<Q.next)=True:=by simp;omega
 have qf:∀ a,(Q.push a).fl Q.floor=Q.push a:=fun a=>rfl
 have qf2:∀ a b,((Q.push a).push b).fl Q.floor=(Q.push a).push b:=fun a b=>rfl
 refine WK.flags (fs:=jR) (by kernel_rfl) ?_
 unfold jR
 iterate 10
  refine DI hsn ?_
  simp only[rG,seval,AD,AF,AE,CT,DC,CM,C4,DJ,Option.bind_some,BN,BO,x1,hA0,len1,JW,qf,JQ,q1,mkB,qf2,EQ]
 refine DH ?_
 obtain⟨ga,gb,n4,f4,o4⟩:=h4
 have xB:AH 1 (((Q.push (.row (ints (List.replicate s.rows.length 0)) 3 false false)).push (.row (DK (List.replicate s.rows.length false)) 4 false false)).get h.next)=some (.slice ar s.rows.length cr):=q2 _ _
 have w9:IntKind.i64.wrap ((s.rows.length:Int)-1)=(s.rows.length:Int)-1:=BT (by omega) (by omega)
 simp only[eE,seval,↓eP,Nat.zero_add,BN,BO,xB,len1,w9]
 generalize (Q.push (.row (ints (List.replicate s.rows.length 0)) 3 false false)).push (.row (DK (List.replicate s.rows.length false)) 4 false false)=B at *
 rw[nG] at ga gb
 have hT0:J8 h B [.string nm,.slice ar s.rows.length cr,vq,vv,vt,vu,vo,iv s.miss] [iv size,vc] (List.replicate s.rows.length 0) (List.replicate s.rows.length false):=⟨by rw[o4 _ (by omega)];exact gA,by rw[o4 _ (by omega)];exact gB,ga,gb,by omega,by omega,fun i hi=>by rw[o4 i (by omega)];exact gO i hi⟩
 have hK0:O0 s.rows (CG s.rows (AC Z) size C) s.rows.length (List.replicate s.rows.length 0) (List.replicate s.rows.length false):=⟨by simp,by simp,fun j hj=>⟨fun h9=>by omega,fun _=>⟨by rw[List.getElem?_replicate,if_pos hj],by rw[List.getElem?_replicate,if_pos hj]⟩⟩⟩
 refine WK.loop (fun k s'=>s'.T.get 2=qP h.next 0∧s'.T.get 3=qP (h.next+1) 0∧s'.T.get 6=qS (h.next+2) s.rows.length s.rows.length∧s'.T.get 7=qS (h.next+3) s.rows.length s.rows.length∧s'.T.get 8=iv ((s.rows.length:Int)-1-(k:Int))∧k≤s.rows.length∧∃ V I,J8 h s'.h [.string nm,.slice ar s.rows.length cr,vq,vv,vt,vu,vo,iv s.miss] [iv size,vc] V I∧O0 s.rows (CG s.rows (AC Z) size C) (s.rows.length-k) V I) s.rows.length (by omega) ?_ ?_
 ·exact⟨by simp only[eE,seval,↓eP,rP],by simp only[eE,seval,↓eP,rP],by simp only[eE,seval,↓eP,rP,nG],by simp only[eE,seval,↓eP,rP,nG],by simp only[eE,seval,↓eP,rP] <;> omega,by omega,_,_,hT0,hK0⟩
 rintro k ⟨T,H⟩ hk ⟨t2,t3,t6,t7,t8,hkl,V,I,hT,hK⟩
 simp only at t2 t3 t6 t7 t8 hT
 by_cases hlt:k<s.rows.length
 rotate_left
 ·have c1:decide ((s.rows.length:Int)-1-(k:Int)≥0)=false:=by simp;omega
  have hkn:k=s.rows.length:=by omega
  subst hkn
  rw[Nat.sub_self] at hK
  simp only[eE,seval,↓eP,hr,t6,t7,t8,c1]
  exact⟨_,_,_,_,hT,hK⟩
 obtain⟨m,hm⟩:∃ m,s.rows.length=k+1+m:=⟨s.rows.length-(k+1),by omega⟩
 have hml:m<s.rows.length:=by omega
 have em:(s.rows.length:Int)-1-(k:Int)=(m:Int):=by omega
 rw[em] at t8
 rw[show s.rows.length-k=m+1 by omega] at hK
 have c1:decide ((m:Int)≥0)=true:=by simp
 obtain⟨x,hx⟩:∃ x,s.rows[m]?=some x:=⟨_,List.getElem?_eq_getElem hml⟩
 have hnx:=hT.n
 have hfl':=hT.fl
 obtain⟨hVl,hIl,hKj⟩:=id hK
 have hvH:AQ H (.slice ar s.rows.length cr) s.rows:=p1.1.mono (by omega) hT.o
 obtain⟨ia,pa,ea,hia,_,_,_,_,_,la⟩:=hvH.row hx
 have xa1:AH 1 (H.get h.next)=some (.slice ar s.rows.length cr):=by rw[hT.p];rfl
 have lC:A_ 2 0 (H.get (h.next+1))=some (.agg #[iv size,vc]):=by rw[hT.c];rfl
 have hcH:ER lc H (.agg #[iv size,vc]) size C:=hc.mono (by omega) fun j _ hj=>hT.o j hj
 obtain⟨H1,hmean,n1,f1,o1⟩:=Bb (n:=n) (x:=x) hcH (fun h9=>by have:=hG.qn m x hx (by rw[h9];rfl);have:=hF.len;omega) (by omega)
 have hT1:J8 h H1 [.string nm,.slice ar s.rows.length cr,vq,vv,vt,vu,vo,iv s.miss] [iv size,vc] V I:=hT.mono n1 f1 fun j hj=>o1 j (by omega)
 have w1:IntKind.i64.wrap ((m:Int)-1)=(s.rows.length:Int)-1-((k+1:Nat):Int):=by rw[BT (by omega) (by omega)];omega
 have ek:s.rows.length-(k+1)=m:=by omega
 simp only[eE,seval,↓eP,t8,c1]
 refine WK.flags (fs:=dI) (by kernel_rfl) ?_
 unfold dI
 iterate 8
  refine DI hsn ?_
  simp only[rG,seval,AD,AF,AE,CT,DC,CM,C4,DJ,Option.bind_some,t2,BN,BO,xa1,t8,ea,FQ,la,t3,GR,lC,hmean,RZ,NJ]
 refine DH ?_
 have hcq:=R6 (size:=size) (C:=C) hG hx
 obtain⟨hV0,hI0⟩:=(hKj m hml).2 (by omega)
 have ixv:=EG (id:=h.next+2) (n:=s.rows.length) (c:=s.rows.length) (i:=m) hml
 have ixb:=QO (id:=h.next+3) (n:=s.rows.length) (c:=s.rows.length) (i:=m) hml
 have fH1:H1.fl H.floor=H1:=by rw[← f1];exact HX H1
 have hnx1:=hT1.n
 have hfl1:=hT1.fl
 have hcast:IntKind.i64.wrap ((m:Int)-1)=IntKind.i64.wrap ((m:Int)-1):=rfl
 have split3:EF size C x≠none∨(EF size C x=none∧(GJ x.kind=true∨F4 x.kind=true))∨(EF size C x=none∧GJ x.kind=false∧F4 x.kind=false):=by
  cases EF size C x <;> cases GJ x.kind <;> cases F4 x.kind <;> simp
 rcases split3 with hlf | ⟨hlf,hop⟩ | ⟨hlf,hun,hbn⟩
 ·obtain⟨v,hv⟩:∃ v,EF size C x=some v:=Option.ne_none_iff_exists'.1 hlf
  have hnu:GJ x.kind=false∧F4 x.kind=false:=Uf hv
  have hc0:CG s.rows (AC Z) size C m=some v:=by rw[hcq,if_neg (by rw[hnu.1];decide),if_neg (by rw[hnu.2];decide)];exact hv
  have e:DL size C x=.iface 103 (iv v):=by unfold DL;rw[hv]
  rw[e]
  have sb:BB Tryz.prog H1 4 (qP (h.next+3) m) (.bool true)=some (H1.put (h.next+3) (.row (DK (I.set m true)) 4 false false)):=UP hT1.b (by omega) (by omega)
  have hT2:=hT1.setB (I.set m true)
  have n2:(H1.put (h.next+3) (.row (DK (I.set m true)) 4 false false)).next=H1.next:=rfl
  have f2:(H1.put (h.next+3) (.row (DK (I.set m true)) 4 false false)).floor=H1.floor:=rfl
  generalize H1.put (h.next+3) (.row (DK (I.set m true)) 4 false false)=H2 at *
  have lb:AH m (H2.get (h.next+3))=some (.bool true):=by rw[hT2.b];exact OV (List.getElem?_set_self (by omega))
  have hof:=Bm (n:=n) (h:=H2) (v:=v) (lv:=Z0) (by omega)
  have sv:BB Tryz.prog H2 3 (qP (h.next+2) m) (iv v)=some (H2.put (h.next+2) (.row (ints (V.set m v)) 3 false false)):=KZ hT2.v (by omega) (by omega)
  simp only[eE,seval,↓eP,t2,t3,t6,t7,t8,iU,fH1,ixb,sb,Py,EE,lb,Qz,hof,ixv,sv,w1]
  exact⟨hlt,by omega,_,_,hT2.setV _,by rw[ek];exact hK.step hml (by rw[List.length_set]) (by rw[List.length_set]) (by rw[hc0,List.getElem?_set_self (by omega)];rfl) (by rw[hc0,List.getElem?_set_self (by omega)];rfl) fun j hj=>⟨List.getElem?_set_ne (Ne.symm hj),List.getElem?_set_ne (Ne.symm hj)⟩⟩
 ·obtain⟨mv,hmv⟩:∃ mv,mv=DL size C x:=⟨_,rfl⟩
  rw[← hmv]
  have hrh:=jH.1 hop
  have emv:(I6 x.kind=true∧mv=.iface 123 (HS x.kind))∨(I6 x.kind=false∧M3 x.kind=true∧mv=.iface 124 (HS x.kind)):=by
   cases h9:I6 x.kind with
   | true=>exact .inl ⟨rfl,by rw[hmv];unfold DL;rw[hlf];simp[h9]⟩
   | false=>
    have h8:M3 x.kind=true:=by
     rcases hrh with h7 | h7
     ·rw[h9] at h7;cases h7
     ·exact h7
    exact .inr ⟨rfl,h8,by rw[hmv];unfold DL;rw[hlf];simp[h9,h8]⟩
  have hAs:I3 Tryz.prog mv 103 true=some (.tuple #[iv 0,.bool false]):=by
   rcases emv with⟨_,e⟩ | ⟨_,_,e⟩
   ·rw[e];exact z9 _
   ·rw[e];exact Gd _
  have hIf:CP Tryz.prog .eql 101 (.tmp 38) (.const .nilIface) mv .nilIface=some (.bool false):=by
   rcases emv with⟨_,e⟩ | ⟨_,_,e⟩
   ·rw[e];exact iU _ _
   ·rw[e];exact iU _ _
  have sb:BB Tryz.prog H1 4 (qP (h.next+3) m) (.bool true)=some (H1.put (h.next+3) (.row (DK (I.set m true)) 4 false false)):=UP hT1.b (by omega) (by omega)
  have hT2:=hT1.setB (I.set m true)
  have n2:(H1.put (h.next+3) (.row (DK (I.set m true)) 4 false false)).next=H1.next:=rfl
  have f2:(H1.put (h.next+3) (.row (DK (I.set m true)) 4 false false)).floor=H1.floor:=rfl
  have xa2:AH 1 ((H1.put (h.next+3) (.row (DK (I.set m true)) 4 false false)).get h.next)=some (.slice ar s.rows.length cr):=by rw[hT2.p];rfl
  have hv2:AQ (H1.put (h.next+3) (.row (DK (I.set m true)) 4 false false)) (.slice ar s.rows.length cr) s.rows:=p1.1.mono (by omega) hT2.o
  obtain⟨zz,hzz,_,hzk⟩:=hG.z hx
  obtain⟨kv,H5,hkids,hkL,f5,n5,o5⟩:=bQ (n:=n) hG.t hG.sk hv2 hzz (by omega) (by omega) (by omega)
  rw[← hzk] at hkL
  have hkc:=hkL.ints (Nat.le_refl _)
  have lenK:=fun h'=>LL hkc h'
  have hkl:((BA (AC Z) x.kids.toNat (m+1)).map (fun (k:Nat)=>(k:Int))).length=x.kids.toNat:=by rw[List.length_map,NF]
  obtain⟨k0,hch,hel,hei⟩:=hG.kids0 hx
  rw[hkl,show ((x.kids.toNat:Nat):Int)=x.kids by omega] at lenK
  have hT5:J8 h H5 [.string nm,.slice ar s.rows.length cr,vq,vv,vt,vu,vo,iv s.miss] [iv size,vc] V (I.set m true):=hT2.mono (by omega) (by omega) fun j hj=>o5 j (by omega)
  obtain⟨hyes,hno,hk2⟩:=Qf (size:=size) (C:=C) hG hF hx hop
  simp only[eE,seval,↓eP,t2,t7,t8,hIf,fH1,ixb,sb,hAs,Nat.zero_add,BN,BO,xa2,hkids,lenK]
  generalize H1.put (h.next+3) (.row (DK (I.set m true)) 4 false false)=H2 at *
  generalize hks:BA (AC Z) x.kids.toNat (m+1)=ks at *
  have hksl:ks.length=x.kids.toNat:=by rw[← hks,NF]
  refine WK.loop (fun q s'=>s'.T.get 2=qP h.next 0∧s'.T.get 3=qP (h.next+1) 0∧s'.T.get 6=qS (h.next+2) s.rows.length s.rows.length∧s'.T.get 7=qS (h.next+3) s.rows.length s.rows.length∧s'.T.get 8=iv (m:Int)∧s'.T.get 9=mv∧s'.T.get 53=kv∧s'.T.get 54=iv x.kids∧s'.T.get 55=iv (q:Int)∧q≤x.kids.toNat∧H5.next≤s'.h.next∧(∀ j,h.next+4≤j→j<H5.next→s'.h.get j=H5.get j)∧∃ w,s'.T.get 10=w∧IK s'.h H5.next w ((ks.take q).map (fun p=>(CG s.rows (AC Z) size C p).getD 0))∧J8 h s'.h [.string nm,.slice ar s.rows.length cr,vq,vv,vt,vu,vo,iv s.miss] [iv size,vc] V (I.set m ((ks.take q).all (fun p=>(CG s.rows (AC Z) size C p).isSome)))) x.kids.toNat (by omega) ?_ ?_
  ·exact⟨by simp only[eE,seval,↓eP,rP,t2],by simp only[eE,seval,↓eP,rP,t3],by simp only[eE,seval,↓eP,rP,t6],by simp only[eE,seval,↓eP,rP,t7],by simp only[eE,seval,↓eP,rP,t8],by simp only[eE,seval,↓eP,rP],by simp only[eE,seval,↓eP,rP],by simp only[eE,seval,↓eP,rP],by simp only[eE,seval,↓eP,rP] <;> rfl,by omega,Nat.le_refl _,fun _ _ _=>rfl,Z0,by simp only[eE,seval,↓eP,rP],.inl ⟨rfl,rfl⟩,hT5⟩
  rintro q ⟨T4,H6⟩ hq ⟨u2,u3,u6,u7,u8,u9,u53,u54,u55,hqk,n6,o6,w,u10,hL,hT6⟩
  simp only at u2 u3 u6 u7 u8 u9 u53 u54 u55 n6 o6 u10 hL hT6
  by_cases hql:q<x.kids.toNat
  rotate_left
  ·have c3:decide ((q:Int)<x.kids)=false:=by simp;omega
   have hq9:q=x.kids.toNat:=by omega
   subst hq9
   rw[List.take_of_length_le (by omega)] at hL hT6
   have hnx6:=hT6.n
   have hfl6:=hT6.fl
   have lb:AH m (H6.get (h.next+3))=some (.bool (ks.all (fun p=>(CG s.rows (AC Z) size C p).isSome))):=by rw[hT6.b];exact OV (List.getElem?_set_self (by omega))
   cases hall:ks.all (fun p=>(CG s.rows (AC Z) size C p).isSome) with
   | false=>
    rw[hall] at lb hT6
    have hc0:=hno hall
    simp only[eE,seval,↓eP,u2,u3,u6,u7,u8,u54,u55,c3,ixb,EE,lb,w1]
    exact⟨hlt,by omega,_,_,hT6,by rw[ek];exact hK.step hml rfl (by rw[List.length_set]) (by rw[hc0];exact hV0) (by rw[hc0,List.getElem?_set_self (by omega)];rfl) fun j hj=>⟨rfl,List.getElem?_set_ne (Ne.symm hj)⟩⟩
   | true=>
    rw[hall] at lb hT6
    obtain⟨a,b,ha0,hb0,har,hbr,hc0⟩:=hyes hall
    have hLi:=hL.ints (Nat.le_refl _)
    have sv:BB Tryz.prog H6 3 (qP (h.next+2) m) (iv (GU x.kind a b))=some (H6.put (h.next+2) (.row (ints (V.set m (GU x.kind a b))) 3 false false)):=KZ hT6.v (by omega) (by omega)
    have fin:O0 s.rows (CG s.rows (AC Z) size C) m (V.set m (GU x.kind a b)) (I.set m true):=hK.step hml (by rw[List.length_set]) (by rw[List.length_set]) (by rw[hc0,List.getElem?_set_self (by omega)];rfl) (by rw[hc0,List.getElem?_set_self (by omega)];rfl) fun j hj=>⟨List.getElem?_set_ne (Ne.symm hj),List.getElem?_set_ne (Ne.symm hj)⟩
    have hl1000:(ks.map (fun p=>(CG s.rows (AC Z) size C p).getD 0)).length<1000:=by rw[List.length_map];omega
    rcases emv with⟨hr1,e⟩ | ⟨hr1,hh1,e⟩
    ·have hof:=Ld (n:=n) hr1 hLi ha0 hb0 har hbr hl1000 (by omega)
     rw[e] at u9
     simp only[eE,seval,↓eP,u2,u3,u6,u7,u8,u9,u54,u55,u10,c3,ixb,EE,lb,Nb,hof,ixv,sv,w1]
     exact⟨hlt,by omega,_,_,hT6.setV _,by rw[ek];exact fin⟩
    ·have hof:=Rj (n:=n) hr1 hh1 hLi ha0 hb0 har hbr hl1000 (by omega)
     rw[e] at u9
     simp only[eE,seval,↓eP,u2,u3,u6,u7,u8,u9,u54,u55,u10,c3,ixb,EE,lb,Cq,hof,ixv,sv,w1]
     exact⟨hlt,by omega,_,_,hT6.setV _,by rw[ek];exact fin⟩
  have c3:decide ((q:Int)<x.kids)=true:=by simp;omega
  obtain⟨p,hpk⟩:∃ p,ks[q]?=some p:=⟨_,List.getElem?_eq_getElem (by omega)⟩
  obtain⟨hip,hpl⟩:=hG.kid (k:=q) hx (by rw[hks];exact hpk)
  have hnx6:=hT6.n
  have hfl6:=hT6.fl
  have hnx5:=hT5.n
  have hkc6:AW (h.next+4) H6 kv (ks.map (fun (k:Nat)=>(k:Int))):=AW.mono (hkL.ints (by omega)) (by omega) fun j h1 h2=>o6 j h1 h2
  obtain⟨ip,pp,ep,hip2,lp⟩:=AW.get hkc6 (i:=q) (x:=(p:Int)) (by rw[List.getElem?_map,hpk];rfl)
  have wq:=DF q (by omega)
  obtain⟨hVp,hIp⟩:=(hKj p hpl).1 (by omega)
  have jxv:=EG (id:=h.next+2) (n:=s.rows.length) (c:=s.rows.length) (i:=p) hpl
  have jxb:=QO (id:=h.next+3) (n:=s.rows.length) (c:=s.rows.length) (i:=p) hpl
  have lv:AH p (H6.get (h.next+2))=some (iv ((CG s.rows (AC Z) size C p).getD 0)):=by rw[hT6.v];exact IF hVp
  obtain⟨w',H7,happ,hL',f7,n7,o7⟩:=UY (x:=(CG s.rows (AC Z) size C p).getD 0) hL (by omega) (by omega) (by rw[List.length_map,List.length_take];omega)
  have hT7:=hT6.mono (H':=H7) (by omega) f7 fun j hj=>o7 j (by omega)
  have etk:ks.take (q+1)=ks.take q++[p]:=by rw[List.take_add_one,hpk];rfl
  have eall:(ks.take (q+1)).all (fun p=>(CG s.rows (AC Z) size C p).isSome)=((ks.take q).all (fun p=>(CG s.rows (AC Z) size C p).isSome)&&(CG s.rows (AC Z) size C p).isSome):=by rw[etk,List.all_append];simp
  have emap:(ks.take q).map (fun p=>(CG s.rows (AC Z) size C p).getD 0)++[(CG s.rows (AC Z) size C p).getD 0]=(ks.take (q+1)).map (fun p=>(CG s.rows (AC Z) size C p).getD 0):=by rw[etk,List.map_append];rfl
  rw[emap] at hL'
  have lm7:AH m (H7.get (h.next+3))=some (.bool ((ks.take q).all (fun p=>(CG s.rows (AC Z) size C p).isSome))):=by rw[hT7.b];exact OV (List.getElem?_set_self (by omega))
  have lp7:AH p (H7.get (h.next+3))=some (.bool (CG s.rows (AC Z) size C p).isSome):=by rw[hT7.b];exact OV (by rw[List.getElem?_set_ne (by omega)];exact hIp)
  have sb7:∀ v:Bool,BB Tryz.prog H7 4 (qP (h.next+3) m) (.bool v)=some (H7.put (h.next+3) (.row (DK (I.set m v)) 4 false false)):=fun v=>by
   have:=UP (x:=v) (i:=m) hT7.b (by rw[List.length_set];omega) (by omega)
   rw[List.set_set] at this
   exact this
  have hnx7:=hT7.n
  have fin:∀ v:Bool,v=(ks.take (q+1)).all (fun p=>(CG s.rows (AC Z) size C p).isSome)→IK (H7.put (h.next+3) (.row (DK (I.set m v)) 4 false false)) H5.next w' ((ks.take (q+1)).map (fun p=>(CG s.rows (AC Z) size C p).getD 0))∧J8 h (H7.put (h.next+3) (.row (DK (I.set m v)) 4 false false)) [.string nm,.slice ar s.rows.length cr,vq,vv,vt,vu,vo,iv s.miss] [iv size,vc] V (I.set m ((ks.take (q+1)).all (fun p=>(CG s.rows (AC Z) size C p).isSome)))∧∀ j,h.next+4≤j→j<H5.next→(H7.put (h.next+3) (.row (DK (I.set m v)) 4 false false)).get j=H5.get j:=fun v hv=>by
   refine⟨hL'.mono (Nat.le_refl _) fun j h1 h2=>AR (by omega) (by omega),by rw[← hv];exact hT7.setB _,fun j h1 h2=>by rw[AR (by omega) (by omega),o7 j h2];exact o6 j h1 h2⟩
  have nn7:∀ v:Bool,H5.next≤(H7.put (h.next+3) (.row (DK (I.set m v)) 4 false false)).next:=fun v=>by show H5.next≤H7.next;omega
  cases hb:(ks.take q).all (fun p=>(CG s.rows (AC Z) size C p).isSome) with
  | false=>
   rw[hb] at lm7 eall
   simp only[eE,seval,↓eP,u2,u3,u6,u7,u8,u9,u53,u54,u55,u10,c3,ep,AL,lp,jxv,lv,LI,happ,ixb,EE,lm7,sb7,wq]
   obtain⟨a1,a2,a3⟩:=fin false (by simp[eall])
   exact⟨hql,by omega,nn7 _,a3,a1,a2⟩
  | true=>
   rw[hb] at lm7 eall
   simp only[eE,seval,↓eP,u2,u3,u6,u7,u8,u9,u53,u54,u55,u10,c3,ep,AL,lp,jxv,lv,LI,happ,ixb,EE,lm7,jxb,lp7,sb7,wq]
   obtain⟨a1,a2,a3⟩:=fin (CG s.rows (AC Z) size C p).isSome (by rw[eall,Bool.true_and])
   exact⟨hql,by omega,nn7 _,a3,a1,a2⟩
 ·have hr0:I6 x.kind=false:=by
   cases h9:I6 x.kind with
   | false=>rfl
   | true=>rcases jH.2 (.inl h9) with h8 | h8 <;> simp_all
  have hh0:M3 x.kind=false:=by
   cases h9:M3 x.kind with
   | false=>rfl
   | true=>rcases jH.2 (.inr h9) with h8 | h8 <;> simp_all
  have e:DL size C x=.nilIface:=by unfold DL;rw[hlf];simp[hr0,hh0]
  have hc0:CG s.rows (AC Z) size C m=none:=by rw[hcq,if_neg (by rw[hun];decide),if_neg (by rw[hbn];decide)];exact hlf
  rw[e]
  simp only[eE,seval,↓eP,t2,t3,t6,t7,t8,Qm,fH1,w1]
  exact⟨hlt,by omega,V,I,hT1,by rw[ek];exact hK.step hml rfl rfl (by rw[hc0];exact hV0) (by rw[hc0];exact hI0) fun _ _=>⟨rfl,rfl⟩⟩
end
def bI (b:Bool):Int:=if b=true then 1 else 0
def DP (k a b:Int):Int:=if k=39 then (if b<a then b else a) else if k=40 then (if b>a then b else a) else if k=43 then FX (a*b) else if k=44 then LP a b else if k=45 then FX (a+b) else if k=46 then FX (a-b) else if k=47 then bI (a==b) else if k=48 then bI (a != b) else if k=49 then bI (decide (a<b)) else if k=50 then bI (decide (a≤b)) else if k=51 then bI (decide (a>b)) else if k=52 then bI (decide (a≥b)) else if k=53 then a*b else (if b>a then b else a)
theorem rH {k:Int} (hk:F4 k=true):k=39∨k=40∨k=43∨k=44∨k=45∨k=46∨k=47∨k=48∨k=49∨k=50∨k=51∨k=52∨k=53∨k=54:=by
 unfold F4 at hk
 simpa using hk
section
variable {a b:Int}
theorem TJ {k:Int} (h:I6 k=true):GU k a b=FX (I1 k a b):=by unfold GU;rw[if_pos h]
theorem P8 {k:Int} (h:I6 k=false):GU k a b=bI (LH k a b):=by
 unfold GU bI
 rw[if_neg (by rw[h];decide)]
theorem Dy {k:Int} (hk:F4 k=true) (ha:-1073741824≤a∧a≤1073741824) (hb:-1073741824≤b∧b≤1073741824) (hbool:53≤k→(a=0∨a=1)∧(b=0∨b=1)):DP k a b=GU k a b:=by
 rcases rH hk with rfl | rfl | rfl | rfl | rfl | rfl | rfl | rfl | rfl | rfl | rfl | rfl | rfl | rfl
 ·rw[TJ rfl]
  have e:I1 39 a b=if b<a then b else a:=by unfold I1;simp
  have e2:DP 39 a b=if b<a then b else a:=by unfold DP;simp
  rw[e,e2,XU (by split <;> omega)]
 ·rw[TJ rfl]
  have e:I1 40 a b=if b>a then b else a:=by unfold I1;simp
  have e2:DP 40 a b=if b>a then b else a:=by unfold DP;simp
  rw[e,e2,XU (by split <;> omega)]
 ·rw[TJ rfl]
  have e:I1 43 a b=a*b:=by unfold I1;simp
  have e2:DP 43 a b=FX (a*b):=by unfold DP;simp
  rw[e,e2]
 ·rw[TJ rfl]
  have e:I1 44 a b=LP a b:=by unfold I1;simp
  have e2:DP 44 a b=LP a b:=by unfold DP;simp
  rw[e,e2,XU]
  unfold LP
  split
  ·omega
  ·exact wY _
 ·rw[TJ rfl]
  have e:I1 45 a b=a+b:=by unfold I1;simp
  have e2:DP 45 a b=FX (a+b):=by unfold DP;simp
  rw[e,e2]
 ·rw[TJ rfl]
  have e:I1 46 a b=a-b:=by unfold I1;simp
  have e2:DP 46 a b=FX (a-b):=by unfold DP;simp
  rw[e,e2]
 ·rw[P8 rfl];unfold DP LH;simp
 ·rw[P8 rfl];unfold DP LH;simp
 ·rw[P8 rfl];unfold DP LH;simp
 ·rw[P8 rfl];unfold DP LH;simp
 ·rw[P8 rfl];unfold DP LH;simp
 ·rw[P8 rfl];unfold DP LH;simp
 ·obtain⟨h1,h2⟩:=hbool (by decide)
  rw[P8 rfl]
  rcases h1 with rfl | rfl <;> rcases h2 with rfl | rfl <;> simp[DP,LH,bI]
 ·obtain⟨h1,h2⟩:=hbool (by decide)
  rw[P8 rfl]
  rcases h1 with rfl | rfl <;> rcases h2 with rfl | rfl <;> simp[DP,LH,bI]
end
section
variable {n N:Nat} {h:AA}
theorem Ja {b:Bool} (hn:0<n):AK n 108 [.bool b] h=some (iv (bI b),h):=by
 obtain⟨n,rfl⟩:=B8 hn
 refine D4 (BD ⟨rfl,rfl,rfl⟩) rfl ?_
 refine CO Tryz.func108 rfl (by simp[Tryz.f108]) ?_
 have hr:Tryz.f108.results.toList=[.tmp 2]:=rfl
 cases b with
 | true=>simp only[eE,seval,↓eP,hr,bI]
 | false=>simp only[eE,seval,↓eP,hr,bI]
theorem Ws {k a b:Int} (hk:F4 k=true) (ha:-1073741824≤a∧a≤1073741824) (hb:-1073741824≤b∧b≤1073741824) (hn:3<n):AY Tryz.prog (AK n) N 69 [iv k,iv a,iv b] h=some (iv (DP k a b),h):=by
 refine CO Tryz.func69 rfl (by simp[Tryz.f69]) ?_
 have hr:Tryz.f69.results.toList=[.tmp 6]:=rfl
 have hm:=nL ha hb
 have wm:IntKind.i64.wrap (a*b)=a*b:=BT (by omega) (by omega)
 have wa:IntKind.i64.wrap (a+b)=a+b:=BT (by omega) (by omega)
 have ws:IntKind.i64.wrap (a-b)=a-b:=BT (by omega) (by omega)
 have hc:=fun x=>rA (n:=n) (h:=h) (x:=x) (by omega)
 have hd:=zZ (n:=n) (h:=h) (a:=a) (b:=b) ⟨by omega,by omega⟩ ⟨by omega,by omega⟩ (by omega)
 have ht:=fun x=>Ja (n:=n) (h:=h) (b:=x) (by omega)
 rcases rH hk with rfl | rfl | rfl | rfl | rfl | rfl | rfl | rfl | rfl | rfl | rfl | rfl | rfl | rfl
 ·rw[show DP 39 a b=if b<a then b else a by unfold DP;simp]
  simp only[eE,seval,↓eP,hr]
 ·rw[show DP 40 a b=if b>a then b else a by unfold DP;simp]
  simp only[eE,seval,↓eP,Int.reduceBEq,hr]
 ·rw[show DP 43 a b=FX (a*b) by unfold DP;simp]
  simp only[eE,seval,↓eP,Int.reduceBEq,hr,wm,hc]
 ·rw[show DP 44 a b=LP a b by unfold DP;simp]
  simp only[eE,seval,↓eP,Int.reduceBEq,hr,hd]
 ·rw[show DP 45 a b=FX (a+b) by unfold DP;simp]
  simp only[eE,seval,↓eP,Int.reduceBEq,hr,wa,hc]
 ·rw[show DP 46 a b=FX (a-b) by unfold DP;simp]
  simp only[eE,seval,↓eP,Int.reduceBEq,hr,ws,hc]
 ·rw[show DP 47 a b=bI (a==b) by unfold DP;simp]
  simp only[eE,seval,↓eP,Int.reduceBEq,hr,ht]
 ·rw[show DP 48 a b=bI (a != b) by unfold DP;simp]
  simp only[eE,seval,↓eP,Int.reduceBEq,hr,ht]
 ·rw[show DP 49 a b=bI (decide (a<b)) by unfold DP;simp]
  simp only[eE,seval,↓eP,Int.reduceBEq,hr,ht]
 ·rw[show DP 50 a b=bI (decide (a≤b)) by unfold DP;simp]
  simp only[eE,seval,↓eP,Int.reduceBEq,hr,ht]
 ·rw[show DP 51 a b=bI (decide (a>b)) by unfold DP;simp]
  simp only[eE,seval,↓eP,Int.reduceBEq,hr,ht]
 ·rw[show DP 52 a b=bI (decide (a≥b)) by unfold DP;simp]
  simp only[eE,seval,↓eP,Int.reduceBEq,hr,ht]
 ·rw[show DP 53 a b=a*b by unfold DP;simp]
  simp only[eE,seval,↓eP,Int.reduceBEq,hr,wm]
 ·rw[show DP 54 a b=if b>a then b else a by unfold DP;simp]
  simp only[eE,seval,↓eP,Int.reduceBEq,hr]
theorem Tz {k a b:Int} (hk:F4 k=true) (ha:-1073741824≤a∧a≤1073741824) (hb:-1073741824≤b∧b≤1073741824) (hn:4<n):AK n 69 [iv k,iv a,iv b] h=some (iv (DP k a b),h):=by
 obtain⟨n,rfl⟩:=B8 hn
 exact D4 (BD ⟨rfl,rfl,rfl⟩) rfl (Ws (n:=n) (N:=n) hk ha hb (by omega))
end
section
variable {call:AS} {N:Nat} {h:AA}
theorem zX {Z L:List AB} {v:Value} {at_ q:Nat} (hsk:KY L Z) (hv:AQ h v L) (hs:EK Z at_ q) (hlen:L.length<1099511627776) (hN:L.length+3<N) :
  AY Tryz.prog call N 44 [v,iv at_] h=some (iv q,h):=by
 refine CO Tryz.func44 rfl (by simp[Tryz.f44]) ?_
 have hr:Tryz.f44.results.toList=[.tmp 4]:=rfl
 have hq:=hs.lt
 have hZ:=hsk.1
 simp only[eE,seval,↓eP,rP,hr]
 refine WK.loop (fun i s'=>s'.h=h∧s'.T.get 0=v∧s'.T.get 1=iv ((at_+i:Nat):Int)∧∃ r:Nat,s'.T.get 5=iv r∧EY Z r (at_+i) q) (q-at_) (by omega) ?_ ?_
 ·exact⟨rfl,by simp only[eE,seval,↓eP,rP],by simp only[eE,seval,↓eP,rP,Nat.add_zero],1,by simp only[eE,seval,↓eP,rP],q,hs,hq.1,hq.2,rfl⟩
 rintro i ⟨T1,H1⟩ hi ⟨rfl,t0,t1,r,t5,hc⟩
 simp only at t0 t1 t5
 cases r with
 | zero=>
  have hpq:at_+i=q:=hc
  have c1:decide (((0:Nat):Int)>0)=false:=rfl
  rw[hpq] at t1
  simp only[eE,seval,↓eP,rP,t1,t5]
 | succ r=>
  obtain⟨p',h1,h2,h3,h4⟩:=hc
  have hle:=HJ _ _ _ h4
  have c1:decide (((r+1:Nat):Int)>0)=true:=decide_eq_true (by omega)
  obtain⟨x,hx,hk0,_,hch⟩:=h1.kids
  obtain⟨y,hy,hyk⟩:=hsk.2 _ x hx
  obtain⟨id,p,e0,hid,l0,l1,l2,l3,l4,lr⟩:=hv.row hy
  rw[hyk] at l4
  have hcl:=HJ _ _ _ hch
  have w1:IntKind.i64.wrap (((r+1:Nat):Int)-1)=(r:Int):=by rw[BT (by omega) (by omega)];omega
  have w2:IntKind.i64.wrap ((r:Int)+x.kids)=((x.kids.toNat+r:Nat):Int):=by rw[BT (by omega) (by omega)];omega
  have w3:IntKind.i64.wrap (((at_+i:Nat):Int)+1)=((at_+(i+1):Nat):Int):=by rw[BT (by omega) (by omega)];omega
  simp only[eE,seval,↓eP,rP,t0,t1,t5,c1,e0,l4,w1,w2,w3]
  exact⟨by omega,_,rfl,gH _ _ _ _ _ hch h4⟩
theorem sK {n:Nat} {Z L:List AB} {v:Value} {at_ q:Nat} (hsk:KY L Z) (hv:AQ h v L) (hs:EK Z at_ q) (hlen:L.length<1099511627776) (hn:L.length+5<n) :
  AK n 44 [v,iv at_] h=some (iv q,h):=by
 obtain⟨n,rfl⟩:=B8 hn
 exact D4 (BD ⟨rfl,rfl,rfl⟩) rfl (zX hsk hv hs hlen (by omega))
theorem Wt {n:Nat} {Z L:List AB} {v:Value} {at_:Nat} {x:AB} (ht:CU Z) (hsk:KY L Z) (hv:AQ h v L) (hx:Z[at_]?=some x) (hlen:L.length<100000000) (hn:L.length+10<n) (hN:L.length+3<N) (hfl:h.floor≤h.next) :
  ∃ v' h',AY Tryz.prog (AK n) N 47 [v,iv at_] h=some (v',h')∧(IK h' h.next v' ((BA (AC Z) x.kids.toNat (at_+1)).map (fun (k:Nat)=>(k:Int)))∧h'.floor=h.floor∧h.next≤h'.next∧∀ i,i<h.next→h'.get i=h.get i):=by
 refine MH (R:=fun v' h'=>IK h' h.next v' ((BA (AC Z) x.kids.toNat (at_+1)).map (fun (k:Nat)=>(k:Int)))∧h'.floor=h.floor∧h.next≤h'.next∧∀ i,i<h.next→h'.get i=h.get i) Tryz.func47 rfl (by simp[Tryz.f47]) ?_
 have hr:Tryz.f47.results.toList=[.tmp 4]:=rfl
 have hal:=(List.getElem?_eq_some_iff.1 hx).1
 have hZ:=hsk.1
 have hs:=ht.end hal
 obtain⟨x',hx',hk0,_,hch⟩:=hs.kids
 rw[hx] at hx'
 cases hx'
 have hq:=hs.lt
 have hcl:=HJ _ _ _ hch
 obtain⟨y,hy,hyk⟩:=hsk.2 _ x hx
 have w1:=DF at_ (by omega)
 simp only[eE,seval,↓eP,rP,hr,w1]
 refine WK.loop (fun i s'=>s'.T.get 0=v∧s'.T.get 1=iv (at_:Int)∧s'.T.get 7=iv i∧i≤x.kids.toNat∧h.next≤s'.h.next∧s'.h.floor=h.floor∧(∀ j,j<h.next→s'.h.get j=h.get j)∧∃ p l w,s'.T.get 6=iv ((p:Nat):Int)∧s'.T.get 5=w∧IK s'.h h.next w (l.map (fun (k:Nat)=>(k:Int)))∧l.length=i∧l++BA (AC Z) (x.kids.toNat-i) p=BA (AC Z) x.kids.toNat (at_+1)∧EY Z (x.kids.toNat-i) p (AC Z at_)) x.kids.toNat (by omega) ?_ ?_
 ·exact⟨by simp only[eE,seval,↓eP,rP],by simp only[eE,seval,↓eP,rP],by simp only[eE,seval,↓eP,rP] <;> rfl,by omega,Nat.le_refl _,rfl,fun _ _=>rfl,at_+1,[],Z0,by simp only[eE,seval,↓eP,rP],by simp only[eE,seval,↓eP,rP],.inl ⟨rfl,rfl⟩,rfl,rfl,hch⟩
 rintro i ⟨T1,H1⟩ hi ⟨t0,t1,t7,hil,m1,m2,m3,p,l,w,t6,t5,hL,hll,hlk,hc⟩
 simp only at t0 t1 t7 m1 m2 m3 t6 t5 hL
 have hv1:AQ H1 v L:=hv.mono (by omega) m3
 obtain⟨id,pp,e0,hid,l0,l1,l2,l3,l4,lr⟩:=hv1.row hy
 rw[hyk] at l4
 by_cases hlt:i<x.kids.toNat
 ·have d1:decide ((i:Int)<x.kids)=true:=by simp;omega
  obtain⟨r,hr1⟩:∃ r,x.kids.toNat-i=r+1:=⟨x.kids.toNat-i-1,by omega⟩
  rw[hr1] at hc hlk
  obtain⟨p',s1,s2,s3,s4⟩:=hc
  have hle:=HJ _ _ _ s4
  have hep:=IY s1
  obtain⟨w',H',happ,hL',fH,nH,oH⟩:=UY (x:=(p:Int)) hL m1 (by omega) (by rw[List.length_map];omega)
  have hvH:AQ H' v L:=hv.mono (by omega) fun j hj=>(oH j hj).trans (m3 j hj)
  have hend:=sK (n:=n) hsk hvH s1 (by omega) (by omega)
  have w2:=DF i (by omega)
  simp only[eE,seval,↓eP,t0,t1,t7,t5,t6,e0,SI,AL,l4,d1,LI,happ,hend,w2]
  refine⟨hlt,by omega,by omega,by omega,fun j hj=>(oH j hj).trans (m3 j hj),p',l++[p],w',rfl,rfl,?_,by rw[List.length_append,hll];rfl,?_,?_⟩
  ·rw[List.map_append]
   exact hL'
  ·rw[List.append_assoc,← hlk,show x.kids.toNat-(i+1)=r by omega]
   show l++(p :: BA (AC Z) r p')=l++(p :: BA (AC Z) r (AC Z p))
   rw[hep]
  ·rw[show x.kids.toNat-(i+1)=r by omega]
   exact s4
 ·have d1:decide ((i:Int)<x.kids)=false:=by simp;omega
  rw[show x.kids.toNat-i=0 by omega] at hlk
  have hl9:l=BA (AC Z) x.kids.toNat (at_+1):=by
   rw[← hlk]
   exact(List.append_nil l).symm
  subst hl9
  simp only[eE,seval,↓eP,t0,t1,t7,t5,e0,SI,AL,l4,d1]
  exact⟨hL,m2,m1,m3⟩
theorem h_ {n:Nat} {Z L:List AB} {v:Value} {at_:Nat} {x:AB} (ht:CU Z) (hsk:KY L Z) (hv:AQ h v L) (hx:Z[at_]?=some x) (hlen:L.length<100000000) (hn:L.length+20<n) (hfl:h.floor≤h.next) :
  ∃ v' h',AK n 47 [v,iv at_] h=some (v',h')∧(IK h' h.next v' ((BA (AC Z) x.kids.toNat (at_+1)).map (fun (k:Nat)=>(k:Int)))∧h'.floor=h.floor∧h.next≤h'.next∧∀ i,i<h.next→h'.get i=h.get i):=by
 obtain⟨n,rfl⟩:=B8 hn
 exact MG (BD ⟨rfl,rfl,rfl⟩) (Wt (n:=n) (N:=n) ht hsk hv hx hlen (by omega) (by omega) hfl) fun v' h1 hf _ ht=>⟨ht.1.flat hf _ _,rfl,Nat.le_refl _,fun _ _=>rfl⟩
end
def dW:List (Bool × Bool × List Operand):=[A7,AI [.tmp 3],AI [.tmp 3,.tmp 4],AI [.tmp 3,.tmp 4],AI [.tmp 3,.tmp 4],AP,AP]
def cT:List (Bool × Bool × List Operand):=[HT,HT,F5 [.tmp 57],AI [.tmp 57],AI [.tmp 57,.tmp 3],AI [.tmp 57,.tmp 3,.tmp 4],AI [.tmp 57,.tmp 3,.tmp 4],AI [.tmp 57,.tmp 3,.tmp 4],AI [.tmp 57],AP,AP]
section
variable {n N:Nat} {h:AA}
theorem Tv {nm:ByteArray} {s:AM} {Z:List AB} {pv cv:Value} {lo lc:Nat} {size:Int} {C:List Int} (hG:EB Z s) (hO:RJ Z s) (hF:PG s size C) (hp:BP lo h pv nm s) (hc:ER lc h cv size C) (hl:s.rows.length<9000000) (hfl:h.floor≤h.next) (hn:s.rows.length+60<n) (hN:s.rows.length+40<N)
  {i:Nat} {x:AB} {v:Int} (hx:s.rows[i]?=some x) (h27:27≤x.kind) (hv:CG s.rows (AC Z) size C i=some v)
  (IH:∀ (p:Nat) (y:AB) (w:Int) (H:AA),i<p→s.rows[p]?=some y→27≤y.kind→CG s.rows (AC Z) size C p=some w→BP lo H pv nm s→ER lc H cv size C→H.floor≤H.next→AK n 45 [pv,cv,iv (p:Int)] H=some (iv w,H)) :
  ∃ h',AY Tryz.prog (AK n) N 45 [pv,cv,iv (i:Int)] h=some (iv v,h')∧∀ j,j<h.next→h'.get j=h.get j:=by
 obtain⟨vr,vq,vv,vt,vu,vo,rfl,p1,p2,p3,p4,p5,p6⟩:=id hp
 obtain⟨vc,rfl,pc⟩:=id hc
 have hsn:=(EJ n).2
 refine DW (R:=fun h'=>∀ j,j<h.next→h'.get j=h.get j) Tryz.func45 rfl (by simp[Tryz.f45]) ?_
 have hr:Tryz.f45.results.toList=[.tmp 6]:=rfl
 have ca:=DV [.string nm,vr,vq,vv,vt,vu,vo,iv s.miss]
 have oa:=HU (nm:=nm) p1 p2 p3 p4 p5 p6
 have cb:=DV [iv size,vc]
 have ob:[iv size,vc].all one=true:=by simp only[List.all_cons,List.all_nil,AN.one pc,IM,Bool.and_self]
 obtain⟨gA,gB,nG,fG,gO⟩:=MJ h (.row [.string nm,vr,vq,vv,vt,vu,vo,iv s.miss] 27 false false) (.row [iv size,vc] 39 false false)
 simp only[eE,seval,↓eP,C2,CW,C6,ca,oa,cb,ob,FM,KS]
 generalize (h.push (.row [.string nm,vr,vq,vv,vt,vu,vo,iv s.miss] 27 false false)).push (.row [iv size,vc] 39 false false)=Q at *
 have hil:=(List.getElem?_eq_some_iff.1 hx).1
 have hvQ:AQ Q vr s.rows:=p1.1.mono (by omega) gO
 obtain⟨ia,pa,ea,hia,_,_,_,_,_,la⟩:=hvQ.row hx
 have x1:AH 1 (Q.get h.next)=some vr:=by rw[gA];rfl
 have fz:flat (CE I2)=true:=rfl
 obtain⟨H1,stX,gX,n1,f1,o1⟩:=KB (t:=60) FN (H:=Q) (zs:=AV I2) (vs:=AV x) rfl rfl rfl (by omega)
 have stX':BB Tryz.prog (Q.push (.row (AV I2) 60 false false)) 60 (qP Q.next 0) (CE x)=some H1:=stX
 have x11:AH 1 (H1.get h.next)=some vr:=by rw[o1 _ (by omega)];exact x1
 have hv1:AQ H1 vr s.rows:=p1.1.mono (by omega) fun j hj=>by rw[o1 j (by omega)];exact gO j hj
 obtain⟨zz,hzz,_,hzk⟩:=hG.z hx
 obtain⟨kv,H2,hkids,hkL,f2,n2,o2⟩:=h_ (n:=n) hG.t hG.sk hv1 hzz (by omega) (by omega) (by omega)
 rw[← hzk] at hkL
 have oh:∀ j,j<h.next→H2.get j=h.get j:=fun j hj=>by rw[o2 j (by omega),o1 j (by omega)];exact gO j hj
 have gX2:H2.get Q.next=.row (AV x) 60 false false:=by rw[o2 _ (by omega)];exact gX
 have y0:AH 0 (H2.get Q.next)=some (iv x.kind):=by rw[gX2];rfl
 have y3:AH 3 (H2.get Q.next)=some (iv x.n):=by rw[gX2];rfl
 have gB2:H2.get (h.next+1)=.row [iv size,vc] 39 false false:=by rw[o2 _ (by omega),o1 _ (by omega)];exact gB
 have c0:AH 0 (H2.get (h.next+1))=some (iv size):=by rw[gB2];rfl
 have c1:AH 1 (H2.get (h.next+1))=some vc:=by rw[gB2];rfl
 have lC:A_ 2 0 (H2.get (h.next+1))=some (.agg #[iv size,vc]):=by rw[gB2];rfl
 have lP:A_ 8 0 (H2.get h.next)=some (.agg #[.string nm,vr,vq,vv,vt,vu,vo,iv s.miss]):=by rw[o2 _ (by omega),o1 _ (by omega)];exact IW gA rfl
 have hp2:BP lo H2 (.agg #[.string nm,vr,vq,vv,vt,vu,vo,iv s.miss]) nm s:=hp.mono (by omega) fun j _ hj=>oh j hj
 have hc2:ER lc H2 (.agg #[iv size,vc]) size C:=hc.mono (by omega) fun j _ hj=>oh j hj
 have hcq:=R6 (size:=size) (C:=C) hG hx
 rw[hv] at hcq
 cases d27:(x.kind==27) with
 | true=>
  have k:=beq_iff_eq.1 d27
  have e:v=x.n:=by
   rw[if_neg (by rw[k];decide),if_neg (by rw[k];decide)] at hcq
   unfold EF at hcq
   simp only[k] at hcq
   exact Option.some.inj hcq
  rw[e]
  simp only[eE,seval,↓eP,hr,Nat.zero_add,BN,BO,x1,ea,FQ,la,E1,fz,zr,stX',x11,hkids,BC,y0,F1,AL,y3,d27]
  exact oh
 | false=>
 cases d32:(x.kind==32) with
 | true=>
  have k:=beq_iff_eq.1 d32
  have hq:=hG.qn i x hx (by rw[k];rfl)
  have hCl:=hF.len
  obtain⟨cc,hcc⟩:∃ c,C[x.n.toNat]?=some c:=⟨_,List.getElem?_eq_getElem (by omega)⟩
  have pC2:AW lc H2 vc C:=AW.mono pc (by omega) fun j _ hj=>oh j hj
  obtain⟨ic,pcc,ec,_,lcc⟩:=AW.get pC2 hcc
  rw[show ((x.n.toNat:Nat):Int)=x.n by omega] at ec
  have e:v=cc:=by
   rw[if_neg (by rw[k];decide),if_neg (by rw[k];decide)] at hcq
   unfold EF at hcq
   rw[if_neg (by rw[k];decide),if_neg (by rw[k];decide),if_pos k,hcc] at hcq
   exact Option.some.inj hcq
  rw[e]
  simp only[eE,seval,↓eP,hr,Nat.zero_add,BN,BO,x1,ea,FQ,la,E1,fz,zr,stX',x11,hkids,BC,y0,F1,AL,y3,LY,C3,c1,d27,d32,ec,lcc]
  exact oh
 | false=>
 cases d33:(x.kind==33) with
 | true=>
  have k:=beq_iff_eq.1 d33
  have e:v=size:=by
   rw[if_neg (by rw[k];decide),if_neg (by rw[k];decide)] at hcq
   unfold EF at hcq
   simp only[k] at hcq
   exact Option.some.inj hcq
  rw[e]
  simp only[eE,seval,↓eP,hr,Nat.zero_add,BN,BO,x1,ea,FQ,la,E1,fz,zr,stX',x11,hkids,BC,y0,AL,KG,c0,d27,d32,d33]
  exact oh
 | false=>
 cases d29:(x.kind==29) with
 | true=>
  have k:=beq_iff_eq.1 d29
  have e:v=1:=by
   rw[if_neg (by rw[k];decide),if_neg (by rw[k];decide)] at hcq
   unfold EF at hcq
   simp only[k] at hcq
   exact Option.some.inj hcq
  rw[e]
  simp only[eE,seval,↓eP,hr,Nat.zero_add,BN,BO,x1,ea,FQ,la,E1,fz,zr,stX',x11,hkids,BC,y0,AL,d27,d32,d33,d29]
  exact oh
 | false=>
 cases d30:(x.kind==30) with
 | true=>
  have k:=beq_iff_eq.1 d30
  have e:v=0:=by
   rw[if_neg (by rw[k];decide),if_neg (by rw[k];decide)] at hcq
   unfold EF at hcq
   simp only[k] at hcq
   exact Option.some.inj hcq
  rw[e]
  simp only[eE,seval,↓eP,hr,Nat.zero_add,BN,BO,x1,ea,FQ,la,E1,fz,zr,stX',x11,hkids,BC,y0,AL,d27,d32,d33,d29,d30]
  exact oh
 | false=>
 have hop:GJ x.kind=true∨F4 x.kind=true:=by
  cases hu:GJ x.kind with
  | true=>exact .inl rfl
  | false=>
   cases hb:F4 x.kind with
   | true=>exact .inr rfl
   | false=>
    rw[if_neg (by rw[hu];decide),if_neg (by rw[hb];decide)] at hcq
    unfold EF at hcq
    simp only[beq_eq_false_iff_ne] at d27 d32 d33 d29 d30
    rw[if_neg d27,if_neg d33,if_neg d32,if_neg d29,if_neg d30] at hcq
    cases hcq
 have h39:39≤x.kind:=by
  rcases hop with h9 | h9
  ·unfold GJ at h9;simp at h9;omega
  ·unfold F4 at h9;simp at h9;omega
 have hkp:0<x.kids:=by
  rcases hop with h9 | h9
  ·have:=hG.un hx h9;omega
  ·have:=hG.bin hx h9;omega
 obtain⟨r9,hr9⟩:∃ r,x.kids.toNat=r+1:=⟨x.kids.toNat-1,by omega⟩
 have hk0:(BA (AC Z) x.kids.toNat (i+1))[0]?=some (i+1):=by rw[hr9];rfl
 obtain⟨y,hy,hy27,_⟩:=hG.expr (k:=0) hx h39 hk0
 have hkc:AW 0 H2 kv ((BA (AC Z) x.kids.toNat (i+1)).map (fun (k:Nat)=>(k:Int))):=hkL.ints (Nat.zero_le _)
 obtain⟨i0,p0,e0,hi0,l0⟩:=AW.get hkc (i:=0) (x:=((i+1:Nat):Int)) (by rw[List.getElem?_map,hk0];rfl)
 have e0':CB Tryz.prog 25 kv (iv 0)=some (qP i0 p0):=e0
 obtain⟨a,hca⟩:∃ a,CG s.rows (AC Z) size C (i+1)=some a:=by
  cases hc9:CG s.rows (AC Z) size C (i+1) with
  | some a=>exact⟨a,rfl⟩
  | none=>
   rw[hc9] at hcq
   split at hcq
   ·cases hcq
   ·split at hcq
    ·cases hcq
    ·rename_i h7 h8
     rcases hop with h9 | h9
     ·exact absurd h9 h7
     ·exact absurd h9 h8
 have hiy:=(List.getElem?_eq_some_iff.1 hy).1
 have har:=U4 hG hF hiy hca
 have hva:=IH (i+1) y a H2 (by omega) hy hy27 hca hp2 hc2 (by omega)
 simp only[eE,seval,↓eP,Nat.zero_add,BN,BO,x1,ea,FQ,la,E1,fz,zr,stX',x11,hkids,BC,AL,y0,d27,d32,d33,d29,d30]
 refine WK.flags (fs:=dW) (by kernel_rfl) ?_
 unfold dW
 iterate 7
  refine DI hsn ?_
  simp only[rG,seval,AD,AF,AE,CT,DC,CM,C4,DJ,JV,DT,lP,GR,lC,e0',AL,l0,hva]
 refine DH ?_
 cases d41:(x.kind==41) with
 | true=>
  have k:=beq_iff_eq.1 d41
  have e:v=-a:=by
   rw[if_pos (by rw[k];rfl),hca,k] at hcq
   have:v=GU 41 a a:=Option.some.inj hcq
   rw[this]
   show FX (-a)=-a
   exact XU (by omega)
  have w:IntKind.i64.wrap (0-a)=-a:=by rw[BT (by omega) (by omega)];omega
  rw[e]
  simp only[eE,seval,↓eP,hr,BC,AL,y0,d41,w]
  exact oh
 | false=>
 cases d42:(x.kind==42) with
 | true=>
  have k:=beq_iff_eq.1 d42
  have hty:=(VA hG hO hx hk0 hy).1
  rw[k] at hty
  have ask:∀ f,BU 42 0 f=2:=fun f=>rfl
  rw[ask] at hty
  have hb:=e_ (size:=size) (C:=C) hG hy (hty (by decide)) hca
  have e:v=1-a:=by
   rw[if_pos (by rw[k];rfl),hca,k] at hcq
   have:v=GU 42 a a:=Option.some.inj hcq
   rw[this]
   rcases hb with h9 | h9 <;> (rw[h9];rfl)
  have w:IntKind.i64.wrap (1-a)=1-a:=BT (by omega) (by omega)
  rw[e]
  simp only[eE,seval,↓eP,hr,BC,AL,y0,d41,d42,w]
  exact oh
 | false=>
 have hbn:F4 x.kind=true:=by
  rcases hop with h9 | h9
  ·unfold GJ at h9
   simp only[beq_eq_false_iff_ne] at d41 d42
   simp[d41,d42] at h9
  ·exact h9
 have hun:GJ x.kind=false:=by
  simp only[beq_eq_false_iff_ne] at d41 d42
  unfold GJ
  simp[d41,d42]
 have hk2:=hG.bin hx hbn
 have hk1:(BA (AC Z) x.kids.toNat (i+1))[1]?=some (AC Z (i+1)):=by rw[hk2];rfl
 obtain⟨w,hw,hw27,_⟩:=hG.expr (k:=1) hx h39 hk1
 have hkid1:=hG.kid1 hx hk2
 obtain⟨i1,q1,e1,hi1,l1⟩:=AW.get hkc (i:=1) (x:=((AC Z (i+1):Nat):Int)) (by rw[List.getElem?_map,hk1];rfl)
 have e1':CB Tryz.prog 25 kv (iv 1)=some (qP i1 q1):=e1
 rw[if_neg (by rw[hun];decide),if_pos hbn,hca] at hcq
 obtain⟨b,hcb⟩:∃ b,CG s.rows (AC Z) size C (AC Z (i+1))=some b:=by
  cases hc9:CG s.rows (AC Z) size C (AC Z (i+1)) with
  | some b=>exact⟨b,rfl⟩
  | none=>rw[hc9] at hcq;cases hcq
 rw[hcb] at hcq
 have hbr:=U4 hG hF hkid1.2 hcb
 have e:v=DP x.kind a b:=by
  rw[Dy hbn har hbr fun h53=>?_]
  ·exact Option.some.inj hcq
  ·have h9:=(hG.ks i x hx).2
   have hk53:x.kind=53∨x.kind=54:=by omega
   have ta:=(VA hG hO hx hk0 hy).1
   have tb:=(VA hG hO hx hk1 hw).1
   have ask:∀ j f,BU x.kind j f=2:=fun j f=>by rcases hk53 with h8 | h8 <;> (rw[h8];rfl)
   rw[ask] at ta tb
   exact⟨e_ (size:=size) (C:=C) hG hy (ta (by decide)) hca,e_ (size:=size) (C:=C) hG hw (tb (by decide)) hcb⟩
 rw[e]
 have hvb:=fun fl (hfl9:fl≤H2.next)=>IH (AC Z (i+1)) w b (H2.fl fl) (by omega) hw hw27 hcb (hp2.mono (Nat.le_refl _) fun j _ _=>rfl) (hc2.mono (Nat.le_refl _) fun j _ _=>rfl) hfl9
 have hvb':=hvb (max H2.floor H2.next) (by omega)
 have htw:=Tz (n:=n) (h:=H2) hbn har hbr (by omega)
 have hA1:(Q.next<H2.next)=True:=by simp;omega
 simp only[eE,seval,↓eP,BC,AL,y0,d41,d42]
 refine WK.flags (fs:=cT) (by kernel_rfl) ?_
 unfold cT
 iterate 11
  refine DI hsn ?_
  simp only[rG,seval,AD,AF,AE,CT,DC,CM,C4,DJ,BC,AL,y0,hA1,DT,lP,GR,lC,e1',l1,hvb',NJ,htw]
 refine DH ?_
 simp only[eE,seval,↓eP,hr]
 exact oh
theorem iP {nm:ByteArray} {s:AM} {Z:List AB} {pv cv:Value} {lo lc:Nat} {size:Int} {C:List Int} (hG:EB Z s) (hO:RJ Z s) (hF:PG s size C) (hl:s.rows.length<9000000):∀ (d n i:Nat) (x:AB) (v:Int) (h:AA),s.rows.length-i≤d→s.rows.length+100+d<n→s.rows[i]?=some x→27≤x.kind→CG s.rows (AC Z) size C i=some v→BP lo h pv nm s→ER lc h cv size C→h.floor≤h.next→AK n 45 [pv,cv,iv (i:Int)] h=some (iv v,h)
 | 0,n,i,x,v,h,hd,_,hx,_,_,_,_,_=>by have:=(List.getElem?_eq_some_iff.1 hx).1;omega
 | d+1,n,i,x,v,h,hd,hn,hx,h27,hv,hp,hc,hfl=>by
  obtain⟨n,rfl⟩:∃ j,n=j+1:=⟨n-1,by omega⟩
  exact HB (BD ⟨rfl,rfl,rfl⟩) rfl (Tv (n:=n) (N:=n) hG hO hF hp hc hl hfl (by omega) (by omega) hx h27 hv fun p y w H hip hy hy27 hw hpH hcH hfH=>iP hG hO hF hl d n p y w H (by omega) (by omega) hy hy27 hw hpH hcH hfH)
end
section
variable {n N:Nat} {h:AA}
theorem Dh {R:List AB} {v:Value} (hv:AQ h v R) {a f j:Nat} {x y:AB} (hx:R[a]?=some x) (hy:R[f]?=some y) (ky:1≤y.kind∧y.kind≤54) (hn:0<n) :
  AY Tryz.prog (AK n) N 64 [v,iv (a:Int),iv (f:Int),iv (j:Int)] h=some (iv (BU x.kind j (A9 y.kind)),h):=by
 refine CO Tryz.func64 rfl (by simp[Tryz.f64]) ?_
 have hr:Tryz.f64.results.toList=[.tmp 8]:=rfl
 obtain⟨ia,pa,ea,_,la,_⟩:=hv.row hx
 obtain⟨ib,pb,eb,_,lb,_⟩:=hv.row hy
 have ht:=fR (n:=n) (h:=h) ky hn
 cases c4:(x.kind==4) with
 | true=>
  have k:=beq_iff_eq.1 c4
  rw[show BU x.kind j (A9 y.kind)=1 by rw[k];rfl]
  simp only[eE,seval,↓eP,hr,Nat.zero_add,ea,BC,AL,la,c4]
 | false=>
 cases c5:(x.kind==5) with
 | true=>
  have k:=beq_iff_eq.1 c5
  rw[show BU x.kind j (A9 y.kind)=1 by rw[k];rfl]
  simp only[eE,seval,↓eP,hr,Nat.zero_add,ea,BC,AL,la,c4,c5]
 | false=>
 cases c14:(x.kind==14) with
 | true=>
  have k:=beq_iff_eq.1 c14
  rw[show BU x.kind j (A9 y.kind)=1 by rw[k];rfl]
  simp only[eE,seval,↓eP,hr,Nat.zero_add,ea,BC,AL,la,c4,c5,c14]
 | false=>
 cases c41:(x.kind==41) with
 | true=>
  have k:=beq_iff_eq.1 c41
  rw[show BU x.kind j (A9 y.kind)=1 by rw[k];rfl]
  simp only[eE,seval,↓eP,hr,Nat.zero_add,ea,BC,AL,la,c4,c5,c14,c41]
 | false=>
 cases c39:(x.kind==39) with
 | true=>
  have k:=beq_iff_eq.1 c39
  rw[show BU x.kind j (A9 y.kind)=1 by rw[k];rfl]
  simp only[eE,seval,↓eP,hr,Nat.zero_add,ea,BC,AL,la,c4,c5,c14,c41,c39]
 | false=>
 cases c40:(x.kind==40) with
 | true=>
  have k:=beq_iff_eq.1 c40
  rw[show BU x.kind j (A9 y.kind)=1 by rw[k];rfl]
  simp only[eE,seval,↓eP,hr,Nat.zero_add,ea,BC,AL,la,c4,c5,c14,c41,c39,c40]
 | false=>
 cases c43:(x.kind==43) with
 | true=>
  have k:=beq_iff_eq.1 c43
  rw[show BU x.kind j (A9 y.kind)=1 by rw[k];rfl]
  simp only[eE,seval,↓eP,hr,Nat.zero_add,ea,BC,AL,la,c4,c5,c14,c41,c39,c40,c43]
 | false=>
 cases c44:(x.kind==44) with
 | true=>
  have k:=beq_iff_eq.1 c44
  rw[show BU x.kind j (A9 y.kind)=1 by rw[k];rfl]
  simp only[eE,seval,↓eP,hr,Nat.zero_add,ea,BC,AL,la,c4,c5,c14,c41,c39,c40,c43,c44]
 | false=>
 cases c45:(x.kind==45) with
 | true=>
  have k:=beq_iff_eq.1 c45
  rw[show BU x.kind j (A9 y.kind)=1 by rw[k];rfl]
  simp only[eE,seval,↓eP,hr,Nat.zero_add,ea,BC,AL,la,c4,c5,c14,c41,c39,c40,c43,c44,c45]
 | false=>
 cases c46:(x.kind==46) with
 | true=>
  have k:=beq_iff_eq.1 c46
  rw[show BU x.kind j (A9 y.kind)=1 by rw[k];rfl]
  simp only[eE,seval,↓eP,hr,Nat.zero_add,ea,BC,AL,la,c4,c5,c14,c41,c39,c40,c43,c44,c45,c46]
 | false=>
 cases c49:(x.kind==49) with
 | true=>
  have k:=beq_iff_eq.1 c49
  rw[show BU x.kind j (A9 y.kind)=1 by rw[k];rfl]
  simp only[eE,seval,↓eP,hr,Nat.zero_add,ea,BC,AL,la,c4,c5,c14,c41,c39,c40,c43,c44,c45,c46,c49]
 | false=>
 cases c50:(x.kind==50) with
 | true=>
  have k:=beq_iff_eq.1 c50
  rw[show BU x.kind j (A9 y.kind)=1 by rw[k];rfl]
  simp only[eE,seval,↓eP,hr,Nat.zero_add,ea,BC,AL,la,c4,c5,c14,c41,c39,c40,c43,c44,c45,c46,c49,c50]
 | false=>
 cases c51:(x.kind==51) with
 | true=>
  have k:=beq_iff_eq.1 c51
  rw[show BU x.kind j (A9 y.kind)=1 by rw[k];rfl]
  simp only[eE,seval,↓eP,hr,Nat.zero_add,ea,BC,AL,la,c4,c5,c14,c41,c39,c40,c43,c44,c45,c46,c49,c50,c51]
 | false=>
 cases c52:(x.kind==52) with
 | true=>
  have k:=beq_iff_eq.1 c52
  rw[show BU x.kind j (A9 y.kind)=1 by rw[k];rfl]
  simp only[eE,seval,↓eP,hr,Nat.zero_add,ea,BC,AL,la,c4,c5,c14,c41,c39,c40,c43,c44,c45,c46,c49,c50,c51,c52]
 | false=>
 cases c6:(x.kind==6) with
 | true=>
  have k:=beq_iff_eq.1 c6
  rw[show BU x.kind j (A9 y.kind)=2 by rw[k];rfl]
  simp only[eE,seval,↓eP,hr,Nat.zero_add,ea,BC,AL,la,c4,c5,c14,c41,c39,c40,c43,c44,c45,c46,c49,c50,c51,c52,c6]
 | false=>
 cases c42:(x.kind==42) with
 | true=>
  have k:=beq_iff_eq.1 c42
  rw[show BU x.kind j (A9 y.kind)=2 by rw[k];rfl]
  simp only[eE,seval,↓eP,hr,Nat.zero_add,ea,BC,AL,la,c4,c5,c14,c41,c39,c40,c43,c44,c45,c46,c49,c50,c51,c52,c6,c42]
 | false=>
 cases c53:(x.kind==53) with
 | true=>
  have k:=beq_iff_eq.1 c53
  rw[show BU x.kind j (A9 y.kind)=2 by rw[k];rfl]
  simp only[eE,seval,↓eP,hr,Nat.zero_add,ea,BC,AL,la,c4,c5,c14,c41,c39,c40,c43,c44,c45,c46,c49,c50,c51,c52,c6,c42,c53]
 | false=>
 cases c54:(x.kind==54) with
 | true=>
  have k:=beq_iff_eq.1 c54
  rw[show BU x.kind j (A9 y.kind)=2 by rw[k];rfl]
  simp only[eE,seval,↓eP,hr,Nat.zero_add,ea,BC,AL,la,c4,c5,c14,c41,c39,c40,c43,c44,c45,c46,c49,c50,c51,c52,c6,c42,c53,c54]
 | false=>
 cases c15:(x.kind==15) with
 | true=>
  have k:=beq_iff_eq.1 c15
  cases j1:((j:Int)==1) with
  | true=>
   have hj:j=1:=by have:=beq_iff_eq.1 j1;omega
   rw[show BU x.kind j (A9 y.kind)=1 by rw[k,hj];rfl]
   simp only[eE,seval,↓eP,hr,Nat.zero_add,ea,BC,AL,la,c4,c5,c14,c41,c39,c40,c43,c44,c45,c46,c49,c50,c51,c52,c6,c42,c53,c54,c15,j1]
  | false=>
  have h1:j≠1:=by simp only[beq_eq_false_iff_ne] at j1;omega
  rw[show BU x.kind j (A9 y.kind)=0 by rw[k];simp[BU,h1]]
  simp only[eE,seval,↓eP,hr,Nat.zero_add,ea,BC,AL,la,c4,c5,c14,c41,c39,c40,c43,c44,c45,c46,c49,c50,c51,c52,c6,c42,c53,c54,c15,j1]
 | false=>
 cases c12:(x.kind==12) with
 | true=>
  have k:=beq_iff_eq.1 c12
  cases j0:((j:Int)==0) with
  | true=>
   have hj:j=0:=by have:=beq_iff_eq.1 j0;omega
   rw[show BU x.kind j (A9 y.kind)=2 by rw[k,hj];rfl]
   simp only[eE,seval,↓eP,hr,Nat.zero_add,ea,BC,AL,la,c4,c5,c14,c41,c39,c40,c43,c44,c45,c46,c49,c50,c51,c52,c6,c42,c53,c54,c15,c12,j0]
  | false=>
  have h0:j≠0:=by simp only[beq_eq_false_iff_ne] at j0;omega
  rw[show BU x.kind j (A9 y.kind)=0 by rw[k];simp[BU,h0]]
  simp only[eE,seval,↓eP,hr,Nat.zero_add,ea,BC,AL,la,c4,c5,c14,c41,c39,c40,c43,c44,c45,c46,c49,c50,c51,c52,c6,c42,c53,c54,c15,c12,j0]
 | false=>
 cases c13:(x.kind==13) with
 | true=>
  have k:=beq_iff_eq.1 c13
  cases j0:((j:Int)==0) with
  | true=>
   have hj:j=0:=by have:=beq_iff_eq.1 j0;omega
   rw[show BU x.kind j (A9 y.kind)=1 by rw[k,hj];rfl]
   simp only[eE,seval,↓eP,hr,Nat.zero_add,ea,BC,AL,la,c4,c5,c14,c41,c39,c40,c43,c44,c45,c46,c49,c50,c51,c52,c6,c42,c53,c54,c15,c12,c13,j0]
  | false=>
  have h0:j≠0:=by simp only[beq_eq_false_iff_ne] at j0;omega
  cases j1:((j:Int)==1) with
  | true=>
   have hj:j=1:=by have:=beq_iff_eq.1 j1;omega
   rw[show BU x.kind j (A9 y.kind)=2 by rw[k,hj];rfl]
   simp only[eE,seval,↓eP,hr,Nat.zero_add,ea,BC,AL,la,c4,c5,c14,c41,c39,c40,c43,c44,c45,c46,c49,c50,c51,c52,c6,c42,c53,c54,c15,c12,c13,j0,j1]
  | false=>
  have h1:j≠1:=by simp only[beq_eq_false_iff_ne] at j1;omega
  rw[show BU x.kind j (A9 y.kind)=0 by rw[k];simp[BU,h0,h1]]
  simp only[eE,seval,↓eP,hr,Nat.zero_add,ea,BC,AL,la,c4,c5,c14,c41,c39,c40,c43,c44,c45,c46,c49,c50,c51,c52,c6,c42,c53,c54,c15,c12,c13,j0,j1]
 | false=>
 cases c47:(x.kind==47) with
 | true=>
  have k:=beq_iff_eq.1 c47
  cases j1:((j:Int)==1) with
  | true=>
   have hj:j=1:=by have:=beq_iff_eq.1 j1;omega
   rw[show BU x.kind j (A9 y.kind)=A9 y.kind by rw[k,hj];rfl]
   simp only[eE,seval,↓eP,hr,Nat.zero_add,ea,eb,BC,AL,la,lb,ht,c4,c5,c14,c41,c39,c40,c43,c44,c45,c46,c49,c50,c51,c52,c6,c42,c53,c54,c15,c12,c13,c47,j1]
  | false=>
  have h1:j≠1:=by simp only[beq_eq_false_iff_ne] at j1;omega
  rw[show BU x.kind j (A9 y.kind)=0 by rw[k];simp[BU,h1]]
  simp only[eE,seval,↓eP,hr,Nat.zero_add,ea,BC,AL,la,c4,c5,c14,c41,c39,c40,c43,c44,c45,c46,c49,c50,c51,c52,c6,c42,c53,c54,c15,c12,c13,c47,j1]
 | false=>
 cases c48:(x.kind==48) with
 | true=>
  have k:=beq_iff_eq.1 c48
  cases j1:((j:Int)==1) with
  | true=>
   have hj:j=1:=by have:=beq_iff_eq.1 j1;omega
   rw[show BU x.kind j (A9 y.kind)=A9 y.kind by rw[k,hj];rfl]
   simp only[eE,seval,↓eP,hr,Nat.zero_add,ea,eb,BC,AL,la,lb,ht,c4,c5,c14,c41,c39,c40,c43,c44,c45,c46,c49,c50,c51,c52,c6,c42,c53,c54,c15,c12,c13,c47,c48,j1]
  | false=>
  have h1:j≠1:=by simp only[beq_eq_false_iff_ne] at j1;omega
  rw[show BU x.kind j (A9 y.kind)=0 by rw[k];simp[BU,h1]]
  simp only[eE,seval,↓eP,hr,Nat.zero_add,ea,BC,AL,la,c4,c5,c14,c41,c39,c40,c43,c44,c45,c46,c49,c50,c51,c52,c6,c42,c53,c54,c15,c12,c13,c47,c48,j1]
 | false=>
 have e:BU x.kind j (A9 y.kind)=0:=by
  simp only[beq_eq_false_iff_ne] at c4 c5 c14 c41 c39 c40 c43 c44 c45 c46 c49 c50 c51 c52 c6 c42 c53 c54 c15 c12 c13 c47 c48
  simp[BU,c4,c5,c14,c41,c39,c40,c43,c44,c45,c46,c49,c50,c51,c52,c6,c42,c53,c54,c15,c12,c13,c47,c48]
 rw[e]
 simp only[eE,seval,↓eP,hr,Nat.zero_add,ea,BC,AL,la,c4,c5,c14,c41,c39,c40,c43,c44,c45,c46,c49,c50,c51,c52,c6,c42,c53,c54,c15,c12,c13,c47,c48]
theorem Pn {R:List AB} {v:Value} (hv:AQ h v R) {a f j:Nat} {x y:AB} (hx:R[a]?=some x) (hy:R[f]?=some y) (ky:1≤y.kind∧y.kind≤54) (hn:1<n):AK n 64 [v,iv (a:Int),iv (f:Int),iv (j:Int)] h=some (iv (BU x.kind j (A9 y.kind)),h):=by
 obtain⟨n,rfl⟩:=B8 hn
 exact D4 (BD ⟨rfl,rfl,rfl⟩) rfl (Dh (n:=n) (N:=n) hv hx hy ky (by omega))
end
structure M8 (h H:AA) (M:IJ):Prop where
 a:H.get h.next=.row (ints M.A) 3 false false
 c:H.get (h.next+1)=.row (DK M.C) 4 false false
 n:h.next+2≤H.next
 fl:H.floor=h.floor
 o:∀ i,i<h.next→H.get i=h.get i
theorem M8.mono {h H H':AA} {M:IJ} (hT:M8 h H M) (hn:H.next≤H'.next) (hf:H'.floor=H.floor) (hg:∀ i,i<h.next+2→H'.get i=H.get i):M8 h H' M:=
 ⟨by rw[hg _ (by omega)];exact hT.a,by rw[hg _ (by omega)];exact hT.c,by have:=hT.n;omega,hf.trans hT.fl,fun i hi=>by rw[hg i (by omega)];exact hT.o i hi⟩
def aT:List (Bool × Bool × List Operand):=[HT,HT,HT,HT,HT,AI [.tmp 34],AI [.tmp 34],AI [.tmp 34],AI [.tmp 34],AI [.tmp 34],AI [.tmp 34,.tmp 39],AI [.tmp 34],AP,AP]
def cS:List (Bool × Bool × List Operand):=[A7,A7,A7,A7,A7,AI [.tmp 52],AI [.tmp 52],AI [.tmp 52],AI [.tmp 52],AI [.tmp 52],AI [.tmp 52],AI [.tmp 52],AI [.tmp 52],AI [.tmp 52],AI [.tmp 52],AI [.tmp 52],AI [.tmp 52],AI [.tmp 52],AI [.tmp 52],AI [.tmp 52],AI [.tmp 52],AI [.tmp 52],AI [.tmp 52],AI [.tmp 52],AI [.tmp 52],AI [.tmp 52],AI [.tmp 52],AI [.tmp 52],AI [.tmp 52],AP,AP]
section
variable {n N:Nat} {h:AA}
theorem Dm {Z:List AB} {s:AM} {v:Value} (hG:EB Z s) (hv:AQ h v s.rows) (hl:s.rows.length<9000000) (hfl:h.floor≤h.next) (hn:s.rows.length+60<n) (hN:s.rows.length+40<N) :
  ∃ h',AY Tryz.prog (AK n) N 35 [v] h=some (.tuple #[qS h.next s.rows.length s.rows.length,qS (h.next+1) s.rows.length s.rows.length],h')∧M8 h h' (BJ s.rows (AC Z) s.rows.length):=by
 have hsn:=(EJ n).2
 refine DW (R:=fun h'=>M8 h h' (BJ s.rows (AC Z) s.rows.length)) Tryz.func35 rfl (by simp[Tryz.f35]) ?_
 have hr:Tryz.f35.results.toList=[.tmp 2,.tmp 3]:=rfl
 have hsl:=hG.sk.1
 have npos:0<s.rows.length:=by have:=hG.t.pos;omega
 have len1:∀ h':AA,CY Tryz.prog h' 22 v=some (iv (s.rows.length:Int)):=fun h'=>hv.len (h':=h')
 have JW:∀ H:AA,HP Tryz.prog H 25 (iv (s.rows.length:Int)) (iv (s.rows.length:Int))=some (qS H.next s.rows.length s.rows.length,H.push (.row (ints (List.replicate s.rows.length 0)) 3 false false)):=fun H=>by
  have:=PW (P:=Tryz.prog) (h:=H) (t:=25) (e:=3) (z:=.int .i64 0) Tryz.underlying25 C7 LS JK rfl rfl (by decide) (by decide) (n:=s.rows.length) (by omega)
  rw[show B0 (Value.int IntKind.i64 0).cells.toList s.rows.length=ints (List.replicate s.rows.length 0) from RY _] at this
  exact this
 have mkB:∀ H:AA,HP Tryz.prog H 63 (iv (s.rows.length:Int)) (iv (s.rows.length:Int))=some (qS H.next s.rows.length s.rows.length,H.push (.row (DK (List.replicate s.rows.length false)) 4 false false)):=fun H=>by
  have:=PW (P:=Tryz.prog) (h:=H) (t:=63) (e:=4) (z:=.bool false) Tryz.underlying63 PI d_ aL rfl rfl (by decide) (by decide) (n:=s.rows.length) (by omega)
  rw[show B0 (Value.bool false).cells.toList s.rows.length=DK (List.replicate s.rows.length false) from dJ _] at this
  exact this
 have g2:∀ (a b:BF),let A:=(h.push a).push b
   A.get h.next=a∧A.get (h.next+1)=b∧A.next=h.next+2∧A.floor=h.floor∧∀ i,i<h.next→A.get i=h.get i:=fun a b=>
  ⟨NH,NC,rfl,rfl,fun i hi=>by rw[AU (by show i<h.next+1;omega),AU hi]⟩
 have h4:=g2 (.row (ints (List.replicate s.rows.length 0)) 3 false false) (.row (DK (List.replicate s.rows.length false)) 4 false false)
 simp only[eE,seval,↓eP,len1,JW,mkB,EQ]
 obtain⟨ga,gb,n4,f4,o4⟩:=h4
 generalize (h.push (.row (ints (List.replicate s.rows.length 0)) 3 false false)).push (.row (DK (List.replicate s.rows.length false)) 4 false false)=B at *
 have hT0:M8 h B (BJ s.rows (AC Z) 0):=⟨ga,gb,by omega,f4,o4⟩
 refine WK.loop (fun i s'=>s'.T.get 0=v∧s'.T.get 4=qS h.next s.rows.length s.rows.length∧s'.T.get 5=qS (h.next+1) s.rows.length s.rows.length∧s'.T.get 6=iv (i:Int)∧i≤s.rows.length∧M8 h s'.h (BJ s.rows (AC Z) i)) s.rows.length (by omega) ?_ ?_
 ·exact⟨by simp only[eE,seval,↓eP,rP],by simp only[eE,seval,↓eP,rP],by simp only[eE,seval,↓eP,rP],by simp only[eE,seval,↓eP,rP] <;> rfl,by omega,hT0⟩
 rintro i ⟨T,H⟩ hi ⟨t0,t4,t5,t6,hil,hT⟩
 simp only at t0 t4 t5 t6 hT
 by_cases hlt:i<s.rows.length
 rotate_left
 ·have c1:decide ((i:Int)<(s.rows.length:Int))=false:=by simp;omega
  have hin:i=s.rows.length:=by omega
  subst hin
  simp only[eE,seval,↓eP,hr,t0,t4,t5,t6,len1,c1]
  exact hT
 have c1:decide ((i:Int)<(s.rows.length:Int))=true:=by simp;omega
 obtain⟨x,hx⟩:∃ x,s.rows[i]?=some x:=⟨_,List.getElem?_eq_getElem hlt⟩
 have hnx:=hT.n
 have hfl':=hT.fl
 have hvH:AQ H v s.rows:=hv.mono (by omega) hT.o
 obtain⟨zz,hzz,_,hzk⟩:=hG.z hx
 obtain⟨kv,H5,hkids,hkL,f5,n5,o5⟩:=h_ (n:=n) hG.t hG.sk hvH hzz (by omega) (by omega) (by omega)
 rw[← hzk] at hkL
 have hkc:=hkL.ints (Nat.le_refl _)
 have lenK:=fun h'=>LL hkc h'
 have hkl:((BA (AC Z) x.kids.toNat (i+1)).map (fun (k:Nat)=>(k:Int))).length=x.kids.toNat:=by rw[List.length_map,NF]
 obtain⟨k0,hch,hel,hei⟩:=hG.kids0 hx
 rw[hkl,show ((x.kids.toNat:Nat):Int)=x.kids by omega] at lenK
 have w1:=DF i (by omega)
 have hT5:M8 h H5 (BJ s.rows (AC Z) i):=hT.mono (by omega) (by omega) fun j hj=>o5 j (by omega)
 have hkn:x.kids.toNat≤s.rows.length:=by have:=HJ _ _ _ hch;omega
 simp only[eE,seval,↓eP,t0,t6,len1,c1,hkids]
 have eM:BJ s.rows (AC Z) (i+1)=G_ i x (A9 (((s.rows[i+1]?).map (·.kind)).getD 0)) 0 (BA (AC Z) x.kids.toNat (i+1)) (BJ s.rows (AC Z) i):=by
  show J5 s.rows (AC Z) i (BJ s.rows (AC Z) i)=_
  unfold J5
  rw[hx]
 refine WK.loop (fun q s'=>s'.T.get 0=v∧s'.T.get 4=qS h.next s.rows.length s.rows.length∧s'.T.get 5=qS (h.next+1) s.rows.length s.rows.length∧s'.T.get 6=iv (i:Int)∧s'.T.get 7=kv∧s'.T.get 8=iv (q:Int)∧q≤x.kids.toNat∧H5.next≤s'.h.next∧(∀ j,h.next+2≤j→j<H5.next→s'.h.get j=H5.get j)∧M8 h s'.h (G_ i x (A9 (((s.rows[i+1]?).map (·.kind)).getD 0)) 0 ((BA (AC Z) x.kids.toNat (i+1)).take q) (BJ s.rows (AC Z) i))) x.kids.toNat (by omega) ?_ ?_
 ·exact⟨by simp only[eE,seval,↓eP,rP,t0],by simp only[eE,seval,↓eP,rP,t4],by simp only[eE,seval,↓eP,rP,t5],by simp only[eE,seval,↓eP,rP,t6],by simp only[eE,seval,↓eP,rP],by simp only[eE,seval,↓eP,rP] <;> rfl,by omega,Nat.le_refl _,fun _ _ _=>rfl,by rw[List.take_zero];exact hT5⟩
 rintro q ⟨T4,H6⟩ hq ⟨u0,u4,u5,u6,u7,u8,hqk,n6,o6,hT6⟩
 simp only at u0 u4 u5 u6 u7 u8 n6 o6 hT6
 by_cases hql:q<x.kids.toNat
 rotate_left
 ·have c3:decide ((q:Int)<x.kids)=false:=by simp;omega
  simp only[eE,seval,↓eP,u0,u4,u5,u6,u7,u8,lenK,c3,w1]
  have hq9:q=x.kids.toNat:=by omega
  subst hq9
  have hTk:(BA (AC Z) x.kids.toNat (i+1)).take x.kids.toNat=BA (AC Z) x.kids.toNat (i+1):=List.take_of_length_le (by rw[NF];omega)
  rw[hTk] at hT6
  exact⟨hlt,by omega,by rw[eM];exact hT6⟩
 have c3:decide ((q:Int)<x.kids)=true:=by simp;omega
 have hi1:=hG.next hx (by omega)
 obtain⟨y,hy⟩:∃ y,s.rows[i+1]?=some y:=⟨_,List.getElem?_eq_getElem hi1⟩
 have ky:=hG.ks _ y hy
 have eY:((s.rows[i+1]?).map (·.kind)).getD 0=y.kind:=by rw[hy];rfl
 rw[eY] at hT6 ⊢
 obtain⟨p,hpk⟩:∃ p,(BA (AC Z) x.kids.toNat (i+1))[q]?=some p:=⟨_,List.getElem?_eq_getElem (by rw[NF];exact hql)⟩
 obtain⟨hip,hpl⟩:=hG.kid hx hpk
 have hkc6:AW (h.next+2) H6 kv ((BA (AC Z) x.kids.toNat (i+1)).map (fun (k:Nat)=>(k:Int))):=AW.mono (hkL.ints (by omega)) (by omega) fun j h1 h2=>o6 j h1 h2
 obtain⟨ip,pp,ep,hip2,lp⟩:=AW.get hkc6 (i:=q) (x:=(p:Int)) (by rw[List.getElem?_map,hpk];rfl)
 obtain⟨r9,hr9⟩:∃ r,x.kids.toNat=r+1:=⟨x.kids.toNat-1,by omega⟩
 obtain⟨if_,pf,ef,hif2,lf⟩:=AW.get hkc6 (i:=0) (x:=((i+1:Nat):Int)) (by rw[List.getElem?_map,hr9];rfl)
 have ef':CB Tryz.prog 25 kv (iv 0)=some (qP if_ pf):=ef
 have w2:=DF q (by omega)
 have eS:=eJ (i:=i) (x:=x) (first:=A9 y.kind) (BA (AC Z) x.kids.toNat (i+1)) 0 q (BJ s.rows (AC Z) i) p hpk
 rw[Nat.zero_add] at eS
 rw[eS]
 obtain⟨b1,b2,b3⟩:=XG (i:=i) (x:=x) (first:=A9 y.kind) ((BA (AC Z) x.kids.toNat (i+1)).take q) 0 (BJ s.rows (AC Z) i)
 obtain⟨m1,m2,m3⟩:=RN (R:=s.rows) (AC Z) i
 generalize G_ i x (A9 y.kind) 0 ((BA (AC Z) x.kids.toNat (i+1)).take q) (BJ s.rows (AC Z) i)=Mq at *
 obtain⟨c,hcq⟩:∃ cq,Mq.C[i]?=some cq:=⟨_,List.getElem?_eq_getElem (by omega)⟩
 have hnx6:=hT6.n
 have hfl6:=hT6.fl
 have hask:∀ fl:Nat,AK n 64 [v,iv (i:Int),iv ((i+1:Nat):Int),iv (q:Int)] (H6.fl fl)=some (iv (BU x.kind q (A9 y.kind)),H6.fl fl):=fun fl=>Pn (h:=H6.fl fl) (AQ.mono hv (by show h.next≤H6.next;omega) fun j hj=>hT6.o j hj) hx hy ky (by omega)
 have jx1:=EG (id:=h.next) (n:=s.rows.length) (c:=s.rows.length) (i:=p) hpl
 have jx2:=QO (id:=h.next+1) (n:=s.rows.length) (c:=s.rows.length) (i:=p) hpl
 have ix2:=QO (id:=h.next+1) (n:=s.rows.length) (c:=s.rows.length) (i:=i) hlt
 have sa:BB Tryz.prog H6 3 (qP h.next p) (iv (BU x.kind q (A9 y.kind)))=some (H6.put h.next (.row (ints (Mq.A.set p (BU x.kind q (A9 y.kind)))) 3 false false)):=KZ hT6.a (by omega) (by omega)
 have na:∀ j,j≠h.next→(H6.put h.next (.row (ints (Mq.A.set p (BU x.kind q (A9 y.kind)))) 3 false false)).get j=H6.get j:=fun j hj=>AR (by omega) (Ne.symm hj)
 have ga1:(H6.put h.next (.row (ints (Mq.A.set p (BU x.kind q (A9 y.kind)))) 3 false false)).get h.next=.row (ints (Mq.A.set p (BU x.kind q (A9 y.kind)))) 3 false false:=BL rfl (by omega)
 have nna:(H6.put h.next (.row (ints (Mq.A.set p (BU x.kind q (A9 y.kind)))) 3 false false)).next=H6.next:=rfl
 have ffa:(H6.put h.next (.row (ints (Mq.A.set p (BU x.kind q (A9 y.kind)))) 3 false false)).floor=H6.floor:=rfl
 have fla:(H6.put h.next (.row (ints (Mq.A.set p (BU x.kind q (A9 y.kind)))) 3 false false)).fl H6.floor=H6.put h.next (.row (ints (Mq.A.set p (BU x.kind q (A9 y.kind)))) 3 false false):=rfl
 simp only[eE,seval,↓eP,u7,u8,lenK,c3]
 have hAp:(ip<H6.next)=True:=eq_true hip2
 generalize hHa:H6.put h.next (.row (ints (Mq.A.set p (BU x.kind q (A9 y.kind)))) 3 false false)=Ha at *
 refine WK.flags (fs:=aT) (by kernel_rfl) ?_
 unfold aT
 iterate 14
  refine DI hsn ?_
  simp only[rG,seval,AD,AF,AE,CT,DC,CM,C4,DJ,Option.bind_some,u4,u7,u8,ep,lp,hAp,AL,u0,u6,ef',lf,hask,NJ,jx1,JV,sa,fla]
 refine DH ?_
 have hvA:AQ Ha v s.rows:=hv.mono (by omega) fun j hj=>by rw[na j (by omega)];exact hT6.o j hj
 obtain⟨ib,pb,eb,hib,lb,_⟩:=hvA.row hx
 have hkcA:AW (h.next+2) Ha kv ((BA (AC Z) x.kids.toNat (i+1)).map (fun (k:Nat)=>(k:Int))):=AW.mono hkc6 (by omega) fun j h1 h2=>na j (by omega)
 obtain⟨iq,pq,eq_,hiq2,lq⟩:=AW.get hkcA (i:=q) (x:=(p:Int)) (by rw[List.getElem?_map,hpk];rfl)
 have lc:AH i (Ha.get (h.next+1))=some (.bool c):=by rw[na _ (by omega),hT6.c];exact OV hcq
 have sc:∀ v:Bool,BB Tryz.prog Ha 4 (qP (h.next+1) p) (.bool v)=some (Ha.put (h.next+1) (.row (DK (Mq.C.set p v)) 4 false false)):=fun v=>UP (by rw[na _ (by omega)];exact hT6.c) (by omega) (by omega)
 have fin:∀ v:Bool,v=(((Mq.C[i]?).getD false)||IA x.kind q)→M8 h (Ha.put (h.next+1) (.row (DK (Mq.C.set p v)) 4 false false)) (IT i x (A9 y.kind) Mq q p) ∧
   ∀ j,h.next+2≤j→(Ha.put (h.next+1) (.row (DK (Mq.C.set p v)) 4 false false)).get j=H6.get j:=fun v hv=>by
  have g:∀ j,j≠h.next+1→(Ha.put (h.next+1) (.row (DK (Mq.C.set p v)) 4 false false)).get j=Ha.get j:=fun j h1=>by rw[AR (by omega) (Ne.symm h1)]
  refine⟨⟨by rw[g _ (by omega)];exact ga1,?_,by show _≤Ha.next;omega,by show Ha.floor=_;omega,fun j hj=>by rw[g j (by omega),na j (by omega)];exact hT6.o j hj⟩,fun j hj=>by rw[g j (by omega),na j (by omega)]⟩
  rw[BL rfl (by omega),hv]
  rfl
 simp only[eE,seval,↓eP,u0,u6,eb,BC,AL,lb]
 have ef9:=vN x.kind q
 generalize e4:(x.kind==4)=b4 at *
 generalize e5:(x.kind==5)=b5 at *
 generalize e6:(x.kind==6)=b6 at *
 generalize e13:(x.kind==13)=b13 at *
 generalize ej:((q:Int)==0)=bj at *
 have six:c=true∨(c=false∧b4=true)∨(c=false∧b4=false∧b5=true)∨(c=false∧b4=false∧b5=false∧b6=true)∨(c=false∧b4=false∧b5=false∧b6=false∧b13=true)∨(c=false∧b4=false∧b5=false∧b6=false∧b13=false):=by
  cases c <;> cases b4 <;> cases b5 <;> cases b6 <;> cases b13 <;> simp
 rcases six with rfl | ⟨rfl,rfl⟩ | ⟨rfl,rfl,rfl⟩ | ⟨rfl,rfl,rfl,rfl⟩ | ⟨rfl,rfl,rfl,rfl,rfl⟩ | ⟨rfl,rfl,rfl,rfl,rfl⟩
 all_goals
  refine WK.flags (fs:=cS) (by kernel_rfl) ?_
  unfold cS
  iterate 31
   refine DI hsn ?_
   simp only[rG,seval,AD,AF,AE,CT,DC,CM,C4,DJ,Option.bind_some,u5,u7,u8,eq_,lq,AL,u6,ix2,EE,lc,e4,e5,e6,e13,ej,jx2,JV,sc,PE]
  refine DH ?_
  simp only[eE,seval,↓eP,u0,u4,u5,u6,u7,u8,w2]
  have go:∀ v:Bool,v=(((Mq.C[i]?).getD false)||IA x.kind q)→(∀ j,h.next+2≤j→j<H5.next→(Ha.put (h.next+1) (.row (DK (Mq.C.set p v)) 4 false false)).get j=H5.get j)∧M8 h (Ha.put (h.next+1) (.row (DK (Mq.C.set p v)) 4 false false)) (IT i x (A9 y.kind) Mq q p):=fun v hv=>⟨fun j h1 h2=>by rw[(fin v hv).2 j h1];exact o6 j h1 h2,(fin v hv).1⟩
  first
   | exact⟨hql,by omega,Nat.le_trans n6 (Nat.le_of_eq nna.symm),go true (by simp[hcq,ef9])⟩
   | exact⟨hql,by omega,Nat.le_trans n6 (Nat.le_of_eq nna.symm),go bj (by simp[hcq,ef9])⟩
   | exact⟨hql,by omega,Nat.le_trans n6 (Nat.le_of_eq nna.symm),go false (by simp[hcq,ef9])⟩
end
section
variable {n N:Nat} {h:AA}
theorem Mr {Z:List AB} {s:AM} {v:Value} (hG:EB Z s) (hv:AQ h v s.rows) (hl:s.rows.length<9000000) (hfl:h.floor≤h.next) (hn:s.rows.length+100<n) :
  ∃ h',AK n 35 [v] h=some (.tuple #[qS h.next s.rows.length s.rows.length,qS (h.next+1) s.rows.length s.rows.length],h')∧M8 h h' (BJ s.rows (AC Z) s.rows.length):=by
 obtain⟨n,rfl⟩:=B8 hn
 exact N5 (BD ⟨rfl,rfl,rfl⟩) (by simp[E9,flat,BS]) (Dm (n:=n) (N:=n) hG hv hl hfl (by omega) (by omega))
theorem zA {nm:ByteArray} {s:AM} {pv:Value} {lo:Nat} (hp:BP lo h pv nm s) (h64:∀ x∈s.rows,x.kids≤9223372036854775807) (hs:FR s) (hl:s.rows.length<9000000) (hfl:h.floor≤h.next) (hn:C_ s+100400<n) (hN:s.rows.length+40<N) :
  ∃ v' h',AY Tryz.prog (AK n) N 10 [pv] h=some (v',h')∧TL h' h.next v' (B9 nm s)∧h'.floor=h.floor∧h.next≤h'.next∧∀ i,i<h.next→h'.get i=h.get i:=by
 obtain⟨vr,vq,vv,vt,vu,vo,rfl,p1,p2,p3,p4,p5,p6⟩:=id hp
 have htot:C_ s=s.rows.length+s.queues.length+s.vars.length+s.tags.length+s.rules.length+s.on.length:=rfl
 refine MH (R:=fun v' h'=>TL h' h.next v' (B9 nm s)∧h'.floor=h.floor∧h.next≤h'.next∧∀ i,i<h.next→h'.get i=h.get i) Tryz.func10 rfl (by simp[Tryz.f10]) ?_
 have hr:Tryz.f10.results.toList=[.tmp 2,.cell 3 32]:=rfl
 have ca:=DV [.string nm,vr,vq,vv,vt,vu,vo,iv s.miss]
 have oa:=HU (nm:=nm) p1 p2 p3 p4 p5 p6
 obtain⟨gA,gF,nG,fG,gO⟩:=MJ h (.row [.string nm,vr,vq,vv,vt,vu,vo,iv s.miss] 27 false false) (.row [iv 0,iv 0] 32 false false)
 simp only[eE,seval,↓eP,C2,CW,C6,ca,oa,FM,EN,EO,FZ]
 generalize (h.push (.row [.string nm,vr,vq,vv,vt,vu,vo,iv s.miss] 27 false false)).push (.row [iv 0,iv 0] 32 false false)=Q at *
 have lA:A_ 8 0 (Q.get h.next)=some (.agg #[.string nm,vr,vq,vv,vt,vu,vo,iv s.miss]):=IW gA rfl
 have x1:AH 1 (Q.get h.next)=some vr:=by rw[gA];rfl
 have hpQ:BP lo Q (.agg #[.string nm,vr,vq,vv,vt,vu,vo,iv s.miss]) nm s:=hp.mono (by omega) fun i _ hi=>gO i hi
 have hchk:=vZ (n:=n) hpQ h64 hs (by omega) (by omega) (by omega)
 cases d1:(FD nm s != 0) with
 | true=>
  obtain⟨H',s1,s2,s3,s4,s5⟩:=I8 gF (by omega) (by omega) (FD nm s) 0
  have e:B9 nm s=((FD nm s,0),[]):=by unfold B9;rw[if_pos (by simpa using d1)]
  rw[e]
  simp only[eE,seval,↓eP,hr,DT,lA,hchk,d1,NB,s1,CR,s2]
  exact⟨⟨_,rfl,AN.nil _ _ _⟩,by omega,by omega,fun i hi=>by rw[s5 i (by omega)];exact gO i hi⟩
 | false=>
 have e1:FD nm s=0:=by simpa using d1
 have hG:=aR e1
 have eR:B9 nm s=HG s.rows s.queues (AC (A8 s.rows)) s.rows.length 0:=by unfold B9;rw[if_neg (by rw[e1];decide)]
 rw[eR]
 generalize hZ:A8 s.rows=Z at *
 clear hZ eR
 have hsl:=hG.sk.1
 have npos:0<s.rows.length:=by have:=hG.t.pos;omega
 have len1:=fun h'=>NO p1.2 h'
 have hvQ:AQ Q vr s.rows:=p1.1.mono (by omega) gO
 obtain⟨B,hmk,hM⟩:=Mr (n:=n) hG hvQ hl (by omega) (by omega)
 have nB:=hM.n
 have fB:=hM.fl
 have oB:=hM.o
 have xB:AH 1 (B.get h.next)=some vr:=by rw[oB _ (by omega)];exact x1
 simp only[eE,seval,↓eP,DT,lA,hchk,d1,Nat.zero_add,BN,BO,x1,hmk]
 refine WK.loop (fun i s'=>s'.T.get 1=qP h.next 0∧s'.T.get 3=qP (h.next+1) 0∧s'.T.get 5=qS Q.next s.rows.length s.rows.length∧s'.T.get 6=qS (Q.next+1) s.rows.length s.rows.length∧s'.T.get 8=iv (i:Int)∧i≤s.rows.length∧HG s.rows s.queues (AC Z) (s.rows.length-i) i=HG s.rows s.queues (AC Z) s.rows.length 0∧B.next≤s'.h.next∧s'.h.floor=h.floor∧(∀ j,j<B.next→s'.h.get j=B.get j)∧∃ w,s'.T.get 7=w∧IK s'.h B.next w ((s.rows.take i).map (A9 ·.kind))) s.rows.length (by omega) ?_ ?_
 ·exact⟨by simp only[eE,seval,↓eP,rP],by simp only[eE,seval,↓eP,rP],by simp only[eE,seval,↓eP,rP],by simp only[eE,seval,↓eP,rP],by simp only[eE,seval,↓eP,rP] <;> rfl,by omega,rfl,Nat.le_refl _,by show B.floor=_;omega,fun _ _=>rfl,Z0,by simp only[eE,seval,↓eP,rP],.inl ⟨rfl,rfl⟩⟩
 rintro i ⟨T,H⟩ hi ⟨t1,t3,t5,t6,t8,hil,hgo,nH,fH,oH,w,t7,hL⟩
 simp only at t1 t3 t5 t6 t8 nH fH oH t7 hL
 have xH:AH 1 (H.get h.next)=some vr:=by rw[oH _ (by omega)];exact xB
 have gFH:H.get (h.next+1)=.row [iv 0,iv 0] 32 false false:=by rw[oH _ (by omega),oB _ (by omega)];exact gF
 have oHh:∀ j,j<h.next→H.get j=h.get j:=fun j hj=>by rw[oH j (by omega),oB j (by omega)];exact gO j hj
 by_cases hlt:i<s.rows.length
 rotate_left
 ·have c1:decide ((i:Int)<(s.rows.length:Int))=false:=by simp;omega
  have hin:i=s.rows.length:=by omega
  subst hin
  rw[List.take_of_length_le (Nat.le_refl _)] at hL
  obtain⟨H',s1,s2,s3,s4,s5⟩:=I8 gFH (by omega) (by omega) 0 0
  have eG:HG s.rows s.queues (AC Z) s.rows.length 0=((0,0),s.rows.map (A9 ·.kind)):=by rw[← hgo,Nat.sub_self];rfl
  rw[eG]
  simp only[eE,seval,↓eP,hr,t1,t3,t7,t8,Nat.zero_add,BN,BO,xH,len1,c1,M2,s1,CR,s2]
  exact⟨⟨_,rfl,(hL.mono (h':=H') (by omega) fun j h1 h2=>s5 j (by omega)).ints (by omega)⟩,by omega,by omega,fun j hj=>by rw[s5 j (by omega)];exact oHh j hj⟩
 have c1:decide ((i:Int)<(s.rows.length:Int))=true:=by simp;omega
 obtain⟨x,hx⟩:∃ x,s.rows[i]?=some x:=⟨_,List.getElem?_eq_getElem hlt⟩
 obtain⟨r,hr1⟩:∃ r,s.rows.length-i=r+1:=⟨s.rows.length-i-1,by omega⟩
 rw[hr1] at hgo
 have hri:s.rows.length-(i+1)=r:=by omega
 have hvH:AQ H vr s.rows:=p1.1.mono (by omega) oHh
 obtain⟨ia,pa,ea,hia,la,_⟩:=hvH.row hx
 have kx:=hG.ks i x hx
 have ht1:=fR (n:=n) (h:=H) kx (by omega)
 have hfr:=mG (n:=n) (h:=H) kx (by omega)
 obtain⟨m1,m2,m3⟩:=RN (R:=s.rows) (AC Z) i
 have eZ:=fun j=>TT (e:=AC Z) hG.kk hG.sk j
 obtain⟨Q0,st2,_⟩:=Mw hG.t (i:=i) s.rows.length (by omega)
 rw[← eZ,← eZ] at Q0 st2
 obtain⟨a,hA⟩:∃ a,(BJ s.rows (AC Z) i).A[i]?=some a:=⟨_,List.getElem?_eq_getElem (by omega)⟩
 obtain⟨c,hC⟩:∃ c,(BJ s.rows (AC Z) i).C[i]?=some c:=⟨_,List.getElem?_eq_getElem (by omega)⟩
 obtain⟨u,hU⟩:∃ u,(BJ s.rows (AC Z) i).U[i]?=some u:=⟨_,List.getElem?_eq_getElem (by omega)⟩
 have hUb:=jF (R:=s.rows) (e:=AC Z) rfl npos i (by omega) u (List.mem_of_getElem? hU)
 obtain⟨up,hup⟩:∃ up,s.rows[u.toNat]?=some up:=⟨_,List.getElem?_eq_getElem (by omega)⟩
 have ix1:=EG (id:=Q.next) (n:=s.rows.length) (c:=s.rows.length) (i:=i) hlt
 have ix2:=QO (id:=Q.next+1) (n:=s.rows.length) (c:=s.rows.length) (i:=i) hlt
 have l1:AH i (H.get Q.next)=some (iv a):=by rw[oH _ (by omega),hM.a];exact IF (Q0.trans hA)
 have l2:AH i (H.get (Q.next+1))=some (.bool c):=by rw[oH _ (by omega),hM.c];exact OV (st2.trans hC)
 have lAH:A_ 8 0 (H.get h.next)=some (.agg #[.string nm,vr,vq,vv,vt,vu,vo,iv s.miss]):=by rw[oH _ (by omega),oB _ (by omega)];exact lA
 have hpH:BP lo H (.agg #[.string nm,vr,vq,vv,vt,vu,vo,iv s.miss]) nm s:=hp.mono (by omega) fun j _ hj=>oHh j hj
 have hoth:=Jk (n:=n) (x:=x) (up:=up) hpH (a:=i) hx (fun h24=>by
  obtain⟨h0i,up',hup',hU',_⟩:=hG.place hx h24
  rw[hU] at hU'
  cases hU'
  rw[show ((i-1:Nat):Int).toNat=i-1 by omega] at hup
  exact⟨hup,h0i⟩) (by omega) (fun h9=>hG.qn i x hx (nJ h9)) (fun h24 h20=>by
  obtain⟨h0i,up',hup',hU',hrange⟩:=hG.place hx h24
  rw[hU] at hU'
  cases hU'
  rw[show ((i-1:Nat):Int).toNat=i-1 by omega,hup'] at hup
  cases hup
  exact hrange h20) (by omega) (by omega)
 have w1:=DF i (by omega)
 obtain⟨w',H',happ,hL',fH',nH',oH'⟩:=UY (x:=A9 x.kind) hL nH (by omega) (by rw[List.length_map,List.length_take];omega)
 have eT:(s.rows.take i).map (A9 ·.kind)++[A9 x.kind]=(s.rows.take (i+1)).map (A9 ·.kind):=by
  rw[List.take_add_one,hx,List.map_append]
  rfl
 rw[eT] at hL'
 have bad:∀ b:Int,∃ H',BB Tryz.prog H 32 (qP (h.next+1) 0) (CI b i)=some H'∧A_ 2 0 (H'.get (h.next+1))=some (CI b i)∧H'.floor=h.floor∧h.next≤H'.next∧∀ j,j<h.next→H'.get j=h.get j:=fun b=>by
  obtain⟨H',s1,s2,s3,s4,s5⟩:=I8 gFH (by omega) (by omega) b i
  exact⟨H',s1,s2,by omega,by omega,fun j hj=>by rw[s5 j (by omega)];exact oHh j hj⟩
 have ea0:∀ b:Int,IZ s.rows s.queues (BJ s.rows (AC Z) i) i x=b→b≠0→HG s.rows s.queues (AC Z) s.rows.length 0=((b,(i:Int)),[]):=fun b hb h0=>by rw[← hgo];exact iL hx hb h0
 generalize e1':(a != 0)=ba
 generalize e2':(a != A9 x.kind)=bt
 generalize e3':I9 x.kind=bv at *
 generalize e4':JS s.queues x up=bo at *
 have hAB:(ba=true∧bt=true)∨ba=false∨(ba=true∧bt=false):=by cases ba <;> cases bt <;> simp
 have hCV:(c=true∧bv=true)∨c=false∨(c=true∧bv=false):=by cases c <;> cases bv <;> simp
 rcases hAB with⟨rfl,rfl⟩ | hAB
 ·obtain⟨H',s1,s2,s3,s4,s5⟩:=bad 41
  rw[ea0 41 (SZ hA (by simpa using e1') (fun h9=>by rw[h9] at e2';simp at e2')) (by decide)]
  simp only[eE,seval,↓eP,hr,t1,t3,t5,t8,Nat.zero_add,BN,BO,xH,len1,c1,ea,BC,AL,la,ht1,ix1,l1,e1',e2',F8,s1,CR,s2]
  exact⟨⟨_,rfl,AN.nil _ _ _⟩,s3,s4,s5⟩
 have n41 : ¬(a ≠ 0∧A9 x.kind≠a):=by
  rintro ⟨h1,h2⟩
  rcases hAB with rfl | ⟨rfl,rfl⟩
  ·exact h1 (by simpa using e1')
  ·exact h2 (by have:a=A9 x.kind:=by simpa using e2'
                exact this.symm)
 rcases hCV with⟨rfl,rfl⟩ | hCV
 ·obtain⟨H',s1,s2,s3,s4,s5⟩:=bad 42
  rw[ea0 42 (VB hA n41 hC e3') (by decide)]
  rcases hAB with rfl | ⟨rfl,rfl⟩
  all_goals
   simp only[eE,seval,↓eP,hr,t1,t3,t5,t6,t8,Nat.zero_add,BN,BO,xH,len1,c1,ea,BC,AL,la,ht1,ix1,l1,e1',e2',ix2,EE,l2,hfr,F8,s1,CR,s2]
   exact⟨⟨_,rfl,AN.nil _ _ _⟩,s3,s4,s5⟩
 have hcv:(c&&I9 x.kind)=false:=by
  rw[e3']
  rcases hCV with rfl | ⟨rfl,rfl⟩ <;> rfl
 have b46:=bZ (Q:=s.queues) hA n41 hC hcv hU hup
 rw[e4'] at b46
 cases bo with
 | true=>
  obtain⟨H',s1,s2,s3,s4,s5⟩:=bad 46
  rw[ea0 46 (b46.trans rfl) (by decide)]
  rcases hAB with rfl | ⟨rfl,rfl⟩ <;> rcases hCV with rfl | ⟨rfl,rfl⟩
  all_goals
   simp only[eE,seval,↓eP,hr,t1,t3,t5,t6,t8,Nat.zero_add,BN,BO,xH,len1,c1,ea,BC,AL,la,ht1,ix1,l1,e1',e2',ix2,EE,l2,hfr,DT,lAH,hoth,F8,s1,CR,s2]
   exact⟨⟨_,rfl,AN.nil _ _ _⟩,s3,s4,s5⟩
 | false=>
  have hgo2:HG s.rows s.queues (AC Z) (s.rows.length-(i+1)) (i+1)=HG s.rows s.queues (AC Z) s.rows.length 0:=by rw[← hgo,hri];exact(cU hx (b46.trans rfl)).symm
  rcases hAB with rfl | ⟨rfl,rfl⟩ <;> rcases hCV with rfl | ⟨rfl,rfl⟩
  all_goals
   simp only[eE,seval,↓eP,hr,t1,t3,t5,t6,t7,t8,Nat.zero_add,BN,BO,xH,len1,c1,ea,BC,AL,la,ht1,ix1,l1,e1',e2',ix2,EE,l2,hfr,DT,lAH,hoth,LI,happ,w1]
   exact⟨hlt,by omega,hgo2,by omega,by omega,fun j hj=>(oH' j hj).trans (oH j hj),hL'⟩
theorem nV {nm:ByteArray} {s:AM} {pv:Value} {lo:Nat} (hp:BP lo h pv nm s) (h64:∀ x∈s.rows,x.kids≤9223372036854775807) (hs:FR s) (hl:s.rows.length<9000000) (hfl:h.floor≤h.next) (hn:C_ s+100450<n) :
  ∃ v' h',AK n 10 [pv] h=some (v',h')∧TL h' h.next v' (B9 nm s)∧h'.floor=h.floor∧h.next≤h'.next∧∀ i,i<h.next→h'.get i=h.get i:=by
 obtain⟨n,rfl⟩:=B8 hn
 have htot:C_ s=s.rows.length+s.queues.length+s.vars.length+s.tags.length+s.rules.length+s.on.length:=rfl
 refine MG (BD ⟨rfl,rfl,rfl⟩) (zA (n:=n) (N:=n) hp h64 hs hl hfl (by omega) (by omega)) fun v' h1 hf _ ht=>?_
 obtain⟨⟨tv,rfl,ht⟩,_⟩:=ht
 exact⟨⟨tv,rfl,xL ht hf h⟩,rfl,Nat.le_refl _,fun _ _=>rfl⟩
end
end Go.Proofs.YtdejoodfeljmkaaGreatDoor
