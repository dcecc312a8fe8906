/- Part 21 of what the claim leans on: 6 texts laid one behind another. -/
import Derived.Test.YtdejoodfeljmkaaGreatDoorTT20
namespace Go.Proofs.YtdejoodfeljmkaaGreatDoor
open Go Go.Sx
set_option maxRecDepth 100000
set_option linter.unusedSimpArgs false
set_option linter.unusedVariables false
def mk8 (i:Nat):RowN:=⟨-9,ByteArray.empty,0,i,0⟩
theorem Jqv {i:Int}:J1P Tryz.prog 60 [(0,iv (-9)),(3,iv i)]=some (rowV ⟨-9,ByteArray.empty,0,i,0⟩):=by
 have h:=J9X
 rw[Tryz.underlying60] at h
 simp only at h
 have hf:flat (.agg #[.int .i64 0,.string ByteArray.empty,.int .i64 0,.int .i64 0,.int .i64 0])=true:=rfl
 simp only[J1P,J40,hf,if_true,Tryz.underlying60,h]
 rfl
theorem Jra {nm:ByteArray} {m:Int}:J1P Tryz.prog 27 [(0,.string nm),(7,iv m)]=some (.agg #[.string nm,.slice none 0 0,.slice none 0 0,.slice none 0 0,.slice none 0 0,.slice none 0 0,.slice none 0 0,iv m]):=by
 have h:=J82
 rw[Tryz.underlying27] at h
 simp only at h
 simp only[J1P,J5F,J3Y,if_true,Tryz.underlying27,h]
 rfl
structure LentR (h:SHeap) (o:Nat) (l L:List RowN):Prop where
 g:h.get o=.row (L.flatMap J0e) 60 false false
 len:L.length=l.length+9
 own:∀ j,j<l.length→L[j]?=l[j]?
 marks:∀ q,q<9→L[l.length+q]?=some (mk8 (l.length+q))
structure Lent8 (h:SHeap) (b:Nat) (v:Value) (nm:ByteArray) (s:StN):Prop where
 v:v=.agg #[.string nm,.slice (some ⟨b,0,none⟩) s.rows.length (s.rows.length+9),.slice (some ⟨b+1,0,none⟩) s.queues.length (s.queues.length+3),.slice (some ⟨b+2,0,none⟩) s.vars.length (s.vars.length+3),.slice (some ⟨b+3,0,none⟩) s.tags.length (s.tags.length+3),.slice (some ⟨b+4,0,none⟩) s.rules.length (s.rules.length+5),.slice (some ⟨b+5,0,none⟩) s.on.length (s.on.length+5),iv s.miss]
 lt:b+5<h.next
 r:∃ L,LentR h b s.rows L
 q:h.get (b+1)=.row (J3S s.queues++J3e [.string ByteArray.empty,.bool false] 3) 75 false false
 w:h.get (b+2)=.row (strs s.vars++J3e [.string ByteArray.empty] 3) 9 false false
 t:h.get (b+3)=.row (strs s.tags++J3e [.string ByteArray.empty] 3) 9 false false
 u:∃ L,LentI h (b+4) s.rules L
 o:∃ L,LentI h (b+5) s.on L
theorem LentR.cells {h:SHeap} {o:Nat} {l L:List RowN} (hl:LentR h o l L) {lo c:Nat} (ho:lo≤o∧o<h.next):J3P lo h (.slice (some ⟨o,0,none⟩) l.length c) l:=by
 have e:L=l++L.drop l.length:=by
  apply List.ext_getElem?
  intro j
  rcases Nat.lt_or_ge j l.length with h1 | h1
  ·rw[List.getElem?_append_left h1,hl.own j h1]
  ·rw[List.getElem?_append_right h1,List.getElem?_drop]
   congr 1
   omega
 have g:=hl.g
 rw[e] at g
 have g':h.get o=.row (l.flatMap J0e++(L.drop l.length).flatMap J0e) 60 false false:=by rw[g,List.flatMap_append]
 exact J3P.of (J0p.row g' ho (J0N l))
theorem Lent8.pol {h:SHeap} {b:Nat} {v:Value} {nm:ByteArray} {s:StN} (hl:Lent8 h b v nm s):J3x b h v nm s:=by
 obtain⟨hv,hlt,⟨L1,r⟩,q,w,t,⟨L2,u⟩,⟨L3,o⟩⟩:=hl
 have qn:∀ l:List (ByteArray × Bool),(J3S l).length=l.length*2:=fun l=>by
  unfold J3S
  induction l with
  | nil=>rfl
  | cons x l ih=>rw[List.flatMap_cons,List.length_append,ih,List.length_cons];simp only[List.length_cons,List.length_nil];omega
 have ql:=qn s.queues
 exact⟨_,_,_,_,_,_,hv,r.cells ⟨by omega,by omega⟩,J0p.row q ⟨by omega,by omega⟩ ql,J0p.row w ⟨by omega,by omega⟩ (by simp[strs]),J0p.row t ⟨by omega,by omega⟩ (by simp[strs]),u.cells ⟨by omega,by omega⟩,o.cells ⟨by omega,by omega⟩⟩
section
variable {t e:TypeId} {w b:Nat} {z:Value} {H:SHeap}
theorem JrP (ht:Tryz.prog.underlying t=some (.slice e)) (he:szOf Tryz.prog e=some w) (hb:byOf Tryz.prog e=some b) (hz:J1w Tryz.prog e=some z) (hzc:z.cells.size=w) (hzf:flat z=true) (hw:0<w) (hbb:b≤64) (hst:szOf Tryz.prog t=some 1)
  {lo n k D slot:Nat} {v:Value} {c cs:List Value} {ty:TypeId} (hv:J0p lo H v n w c) (hone:c.all one=true) (hn:n+k<1099511627776) (hfl:H.floor≤D) (hD:D<H.next) (hg:H.get D=.row cs ty false false) (hs:slot<cs.length) :
  ∃ Hc H',J2l Tryz.prog H t (iv ((n+k:Nat):Int)) (iv ((n+k:Nat):Int))=some (.slice (some ⟨H.next,0,none⟩) (n+k) (n+k),H.push (.row (J3e z.cells.toList (n+k)) e false false)) ∧
   J8N Tryz.prog (H.push (.row (J3e z.cells.toList (n+k)) e false false)) t (.slice (some ⟨H.next,0,none⟩) (n+k) (n+k)) v=some (iv (n:Int),Hc)∧Hc.get D=.row cs ty false false∧Hc.get H.next=.row (c++J3e z.cells.toList k) e false false∧Hc.next=H.next+1∧Hc.floor=H.floor∧(∀ i,i<H.next→Hc.get i=H.get i) ∧
   J2M Tryz.prog Hc t (.slice (some ⟨H.next,0,none⟩) (n+k) (n+k)) none (some (iv (n:Int))) none=some (.slice (some ⟨H.next,0,none⟩) n (n+k)) ∧
   J0K Tryz.prog Hc t (.pointer (some ⟨D,slot,none⟩)) (.slice (some ⟨H.next,0,none⟩) n (n+k))=some H'∧H'.get D=.row (cs.set slot (.slice (some ⟨H.next,0,none⟩) n (n+k))) ty false false∧H'.next=H.next+1∧H'.floor=H.floor∧∀ i,i≠D→H'.get i=Hc.get i:=by
 obtain⟨Hc,m1,m2,m3,m4,m5,m6⟩:=JqZ (k:=k) ht he hb hz hzc hzf hw hbb hv hone hn (by omega)
 have gD:Hc.get D=.row cs ty false false:=by rw[m6 D hD];exact hg
 have hst1:=stc (v:=.slice (some ⟨H.next,0,none⟩) n (n+k)) hst rfl rfl gD hs (by omega)
 exact⟨Hc,_,m1,m2,gD,m3,m4,m5,m6,JnH ht he (by omega) (by unfold unk;omega),hst1,J0b rfl (by omega),m4,m5,fun i hi=>J05 (by omega) (Ne.symm hi)⟩
theorem Jrx {H:SHeap} {n:Nat} {lo D slot:Nat} {v:Value} {l:List Int} {cs:List Value} {ty:TypeId} (hv:J1S lo H v l) (hl:l.length<900000000) (hfl:H.floor≤D) (hD:D<H.next) (hg:H.get D=.row cs ty false false) (hs:slot<cs.length) (hn:20<n) :
  ∃ Hc H' L,J0T n 26 [v] H=some (.slice (some ⟨H.next,0,none⟩) l.length (l.length+5),Hc)∧LentI H' H.next l L∧(∀ i,i<H.next→Hc.get i=H.get i) ∧
   J0K Tryz.prog Hc 25 (.pointer (some ⟨D,slot,none⟩)) (.slice (some ⟨H.next,0,none⟩) l.length (l.length+5))=some H'∧H'.get D=.row (cs.set slot (.slice (some ⟨H.next,0,none⟩) l.length (l.length+5))) ty false false∧H'.next=H.next+1∧H'.floor=H.floor∧∀ i,i≠D→i<H.next→H'.get i=H.get i:=by
 obtain⟨Hc,m,⟨L,hL⟩,n',f',o'⟩:=Jr7 (n:=n) hv hl (by omega) hn
 have gE:Hc.get D=.row cs ty false false:=(o' D hD).trans hg
 have hst:=stc (v:=.slice (some ⟨H.next,0,none⟩) l.length (l.length+5)) (off:=slot) sz28 rfl rfl gE hs (by omega)
 exact⟨Hc,_,L,m,⟨by rw[J05 (by omega) (by omega)];exact hL.g,hL.len,hL.own,hL.marks⟩,o',hst,J0b rfl (by omega),n',f',fun i hi h2=>by rw[J05 (by omega) (Ne.symm hi)];exact o' i h2⟩
end
section
variable {n N:Nat} {h:SHeap}
set_option maxHeartbeats 32000000 in
theorem JqR {nm:ByteArray} {s:StN} {pv:Value} {lo:Nat} (hp:J3x lo h pv nm s) (hs:JdC s) (hl:Jbg s<900000000) (hfl:h.floor≤h.next) (hN:20<N) (hn:30<n) :
  ∃ v' h',J0L Tryz.prog (J0T n) N 8 [pv] h=some (v',h')∧Lent8 h' (h.next+3) v' nm s∧h'.next=h.next+9∧h'.floor=h.floor∧∀ i,i<h.next→h'.get i=h.get i:=by
 refine J65 (R:=fun v' h'=>Lent8 h' (h.next+3) v' nm s∧h'.next=h.next+9∧h'.floor=h.floor∧∀ i,i<h.next→h'.get i=h.get i) Tryz.func8 rfl (by simp[Tryz.f8]) ?_
 have hr:Tryz.f8.results.toList=[.cell 2 27]:=rfl
 obtain⟨vr,vq,vv,vt,vu,vo,rfl,p1,p2,p3,p4,p5,p6⟩:=id hp
 have ca:(Value.agg #[.string nm,vr,vq,vv,vt,vu,vo,iv s.miss]).cells.toList=[.string nm,vr,vq,vv,vt,vu,vo,iv s.miss]:=rfl
 have oa:=all8 (nm:=nm) p1 p2 p3 p4 p5 p6
 have zc30:zPol.cells.toList=[.string ByteArray.empty,.slice none 0 0,.slice none 0 0,.slice none 0 0,.slice none 0 0,.slice none 0 0,.slice none 0 0,iv 0]:=rfl
 have g0:∀ (a b:SObj),let A:=(h.push a).push b
   A.get h.next=a∧A.get (h.next+1)=b∧A.next=h.next+2∧A.floor=h.floor∧∀ i,i<h.next→A.get i=h.get i:=fun a b=>
  ⟨J4c,J48,rfl,rfl,fun i hi=>by rw[J06 (by show i<h.next+1;omega),J06 hi]⟩
 obtain⟨gA,gZ,nA,fA,gO⟩:=g0 (.row [.string nm,vr,vq,vv,vt,vu,vo,iv s.miss] 27 false false) (.row [.string ByteArray.empty,.slice none 0 0,.slice none 0 0,.slice none 0 0,.slice none 0 0,.slice none 0 0,.slice none 0 0,iv 0] 27 false false)
 simp only[evC,seval,↓evP,rpD,J0X,J2t,ca,oa,sz30,J5F,J3Y,zc30]
 generalize (h.push (.row [.string nm,vr,vq,vv,vt,vu,vo,iv s.miss] 27 false false)).push (.row [.string ByteArray.empty,.slice none 0 0,.slice none 0 0,.slice none 0 0,.slice none 0 0,.slice none 0 0,.slice none 0 0,iv 0] 27 false false)=A at *
 have q0:ld1 0 (A.get h.next)=some (.string nm):=by rw[gA];rfl
 have q1:ld1 1 (A.get h.next)=some vr:=by rw[gA];rfl
 have q7:ld1 7 (A.get h.next)=some (iv s.miss):=by rw[gA];rfl
 have hst3:=stW (t:=27) sz30 (h:=A.push (.row [.string ByteArray.empty,.slice none 0 0,.slice none 0 0,.slice none 0 0,.slice none 0 0,.slice none 0 0,.slice none 0 0,iv 0] 27 false false)) (id:=A.next) (vs:=[.string nm,.slice none 0 0,.slice none 0 0,.slice none 0 0,.slice none 0 0,.slice none 0 0,.slice none 0 0,iv s.miss]) (J0h (h:=A)) rfl rfl rfl (by rw[J0i];omega)
 have hst3':J0K Tryz.prog (A.push (.row [.string ByteArray.empty,.slice none 0 0,.slice none 0 0,.slice none 0 0,.slice none 0 0,.slice none 0 0,.slice none 0 0,iv 0] 27 false false)) 27 (.pointer (some ⟨A.next,0,none⟩)) (.agg #[.string nm,.slice none 0 0,.slice none 0 0,.slice none 0 0,.slice none 0 0,.slice none 0 0,.slice none 0 0,iv s.miss])=some ((A.push (.row [.string ByteArray.empty,.slice none 0 0,.slice none 0 0,.slice none 0 0,.slice none 0 0,.slice none 0 0,.slice none 0 0,iv 0] 27 false false)).put A.next (.row [.string nm,.slice none 0 0,.slice none 0 0,.slice none 0 0,.slice none 0 0,.slice none 0 0,.slice none 0 0,iv s.miss] 27 false false)):=hst3
 simp only[evC,seval,↓evP,Nat.zero_add,J5g,J38,J0d,J0m,q0,q7,Jra,J5F,J3Y,zc30,hst3']
 have gB:((A.push (.row [.string ByteArray.empty,.slice none 0 0,.slice none 0 0,.slice none 0 0,.slice none 0 0,.slice none 0 0,.slice none 0 0,iv 0] 27 false false)).put A.next (.row [.string nm,.slice none 0 0,.slice none 0 0,.slice none 0 0,.slice none 0 0,.slice none 0 0,.slice none 0 0,iv s.miss] 27 false false)).get A.next=.row [.string nm,.slice none 0 0,.slice none 0 0,.slice none 0 0,.slice none 0 0,.slice none 0 0,.slice none 0 0,iv s.miss] 27 false false:=J0b rfl (by show A.next<A.next+1;omega)
 have oB:∀ i,i<A.next→((A.push (.row [.string ByteArray.empty,.slice none 0 0,.slice none 0 0,.slice none 0 0,.slice none 0 0,.slice none 0 0,.slice none 0 0,iv 0] 27 false false)).put A.next (.row [.string nm,.slice none 0 0,.slice none 0 0,.slice none 0 0,.slice none 0 0,.slice none 0 0,.slice none 0 0,iv s.miss] 27 false false)).get i=A.get i:=fun i hi=>by rw[J05 (by show A.next<A.next+1;omega) (by omega),J06 hi]
 have nB:((A.push (.row [.string ByteArray.empty,.slice none 0 0,.slice none 0 0,.slice none 0 0,.slice none 0 0,.slice none 0 0,.slice none 0 0,iv 0] 27 false false)).put A.next (.row [.string nm,.slice none 0 0,.slice none 0 0,.slice none 0 0,.slice none 0 0,.slice none 0 0,.slice none 0 0,iv s.miss] 27 false false)).next=A.next+1:=rfl
 have fB:((A.push (.row [.string ByteArray.empty,.slice none 0 0,.slice none 0 0,.slice none 0 0,.slice none 0 0,.slice none 0 0,.slice none 0 0,iv 0] 27 false false)).put A.next (.row [.string nm,.slice none 0 0,.slice none 0 0,.slice none 0 0,.slice none 0 0,.slice none 0 0,.slice none 0 0,iv s.miss] 27 false false)).floor=A.floor:=rfl
 generalize (A.push (.row [.string ByteArray.empty,.slice none 0 0,.slice none 0 0,.slice none 0 0,.slice none 0 0,.slice none 0 0,.slice none 0 0,iv 0] 27 false false)).put A.next (.row [.string nm,.slice none 0 0,.slice none 0 0,.slice none 0 0,.slice none 0 0,.slice none 0 0,.slice none 0 0,iv s.miss] 27 false false)=B at *
 generalize hcs:[.string nm,.slice none 0 0,.slice none 0 0,.slice none 0 0,.slice none 0 0,.slice none 0 0,.slice none 0 0,iv s.miss]=cs0 at *
 have l0:cs0.length=8:=by rw[← hcs];rfl
 have P1:J0p lo B vr s.rows.length 5 (s.rows.flatMap J0e):=p1.2.mono (by omega) fun i _ hi=>by rw[oB i (by omega),gO i hi]
 obtain⟨H1,mk1,cp1,g1,n1,f1,o1⟩:=JqZ (P:=Tryz.prog) (t:=22) (e:=60) (k:=9) (z:=rowV zRow) Tryz.underlying22 sz46 by46 J40 rfl rfl (by decide) (by decide) P1 (J4y s.rows) (by have:=hs.1;omega) (by omega)
 have len1:=fun h'=>JfA p1.2 h'
 have hl1:=hs.1
 have qB1:ld1 1 (B.get h.next)=some vr:=by rw[oB _ (by omega)];exact q1
 have w9:IntKind.i64.wrap ((s.rows.length:Int)+9)=((s.rows.length+9:Nat):Int):=J0s (by omega) (by omega)
 have len9:∀ h':SHeap,lenS Tryz.prog h' 22 (.slice (some ⟨B.next,0,none⟩) (s.rows.length+9) (s.rows.length+9))=some (iv ((s.rows.length+9:Nat):Int)):=fun h'=>JeK
 have qp:∀ r,ld1 1 ((B.push r).get h.next)=some vr:=fun r=>by rw[J06 (by omega)];exact qB1
 have q11:ld1 1 (H1.get h.next)=some vr:=by rw[o1 _ (by omega)];exact qB1
 have zr:(rowV zRow).cells.toList=J0e zRow:=rfl
 simp only[evC,seval,↓evP,Nat.zero_add,J0y,J0F,qB1,len1,w9,mk1,qp,cp1,q11]
 refine WK.loop (fun k s'=>s'.T.get 1=.pointer (some ⟨h.next,0,none⟩)∧s'.T.get 2=.pointer (some ⟨h.next+1,0,none⟩)∧s'.T.get 3=.pointer (some ⟨A.next,0,none⟩)∧s'.T.get 4=.slice (some ⟨B.next,0,none⟩) (s.rows.length+9) (s.rows.length+9)∧s'.T.get 5=iv ((s.rows.length+k:Nat):Int)∧k≤9∧s'.h.next=B.next+1∧s'.h.floor=h.floor∧(∀ i,i<B.next→s'.h.get i=B.get i) ∧
  ∃ L:List RowN,s'.h.get B.next=.row (L.flatMap J0e) 60 false false∧L.length=s.rows.length+9∧(∀ j,j<s.rows.length→L[j]?=s.rows[j]?)∧∀ q,q<k→L[s.rows.length+q]?=some (mk8 (s.rows.length+q))) 9 (by omega) ?_ ?_
 ·refine⟨by simp only[evC,seval,↓evP,rpC],by simp only[evC,seval,↓evP,rpC],by simp only[evC,seval,↓evP,rpC],by simp only[evC,seval,↓evP,rpC],by simp only[evC,seval,↓evP,rpC];rfl,by omega,n1,f1.trans (by omega),o1,s.rows++List.replicate 9 zRow,?_,by simp,fun j hj=>by rw[List.getElem?_append_left hj],fun q hq=>by omega⟩
  show H1.get B.next=_
  have zz:J3e (rowV zRow).cells.toList 9=(List.replicate 9 zRow).flatMap J0e:=J7r 9
  rw[g1,zz,List.flatMap_append]
 rintro k ⟨T1,H2⟩ hk ⟨t1,t2,t3,t4,t5,hk9,n2,f2,o2,L,gL,lL,own,marks⟩
 simp only at t1 t2 t3 t4 t5 n2 f2 o2 gL
 by_cases hlt:k<9
 ·have c1:decide (((s.rows.length+k:Nat):Int)<((s.rows.length+9:Nat):Int))=true:=by simp;omega
  have hix:=JaW (id:=B.next) (n:=s.rows.length+9) (c:=s.rows.length+9) (i:=s.rows.length+k) (by omega)
  have hst:=JaU (h:=H2) (i:=s.rows.length+k) (x:=⟨-9,ByteArray.empty,0,((s.rows.length+k:Nat):Int),0⟩) rfl gL (by omega) (by omega)
  have w1:IntKind.i64.wrap (((s.rows.length+k:Nat):Int)+1)=((s.rows.length+(k+1):Nat):Int):=J0s (by omega) (by omega)
  simp only[evC,seval,↓evP,t1,t2,t3,t4,t5,len9,c1,Jqv,hix,hst,w1]
  refine⟨hlt,by omega,n2,f2,fun i hi=>by rw[J05 (by omega) (by omega)];exact o2 i hi,_,J0b rfl (by omega),by rw[List.length_set];exact lL,fun j hj=>?_,fun q hq=>?_⟩
  ·rw[List.getElem?_set_ne (by omega)]
   exact own j hj
  ·rcases Nat.lt_or_ge q k with h1 | h1
   ·rw[List.getElem?_set_ne (by omega)]
    exact marks q h1
   ·have:q=k:=by omega
    subst this
    rw[List.getElem?_set_self (by omega)]
    rfl
 have c1:decide (((s.rows.length+k:Nat):Int)<((s.rows.length+9:Nat):Int))=false:=by simp;omega
 have:k=9:=by omega
 subst this
 have hs0:=hs
 unfold Jbg at hl
 obtain⟨r1,r2,r3,r4,r5,r6⟩:=hs
 have q21:ld1 1 (H2.get h.next)=some vr:=by rw[o2 _ (by omega)];exact qB1
 have gD2:H2.get A.next=.row cs0 27 false false:=by rw[o2 _ (by omega)];exact gB
 have hsl1:=fun (H:SHeap)=>JnH (P:=Tryz.prog) (h:=H) (t:=22) (e:=60) (id:=B.next) (n:=s.rows.length+9) (m:=s.rows.length) (c:=s.rows.length+9) Tryz.underlying22 sz46 (by omega) (by unfold unk;omega)
 have hst1:=stc (v:=.slice (some ⟨B.next,0,none⟩) s.rows.length (s.rows.length+9)) (off:=1) sz22 rfl rfl gD2 (by omega) (by omega)
 simp only[evC,seval,↓evP,Nat.zero_add,t1,t2,t3,t4,t5,len9,c1,J0y,J0F,q21,len1,hsl1,hst1]
 have gD3:(H2.put A.next (.row (cs0.set 1 (.slice (some ⟨B.next,0,none⟩) s.rows.length (s.rows.length+9))) 27 false false)).get A.next=.row (cs0.set 1 (.slice (some ⟨B.next,0,none⟩) s.rows.length (s.rows.length+9))) 27 false false:=J0b rfl (by omega)
 have n3:(H2.put A.next (.row (cs0.set 1 (.slice (some ⟨B.next,0,none⟩) s.rows.length (s.rows.length+9))) 27 false false)).next=H2.next:=rfl
 have f3:(H2.put A.next (.row (cs0.set 1 (.slice (some ⟨B.next,0,none⟩) s.rows.length (s.rows.length+9))) 27 false false)).floor=H2.floor:=rfl
 have o3:∀ i,i≠A.next→(H2.put A.next (.row (cs0.set 1 (.slice (some ⟨B.next,0,none⟩) s.rows.length (s.rows.length+9))) 27 false false)).get i=H2.get i:=fun i hi=>J05 (by omega) (Ne.symm hi)
 generalize H2.put A.next (.row (cs0.set 1 (.slice (some ⟨B.next,0,none⟩) s.rows.length (s.rows.length+9))) 27 false false)=H3 at *
 have z3:∀ i,i<A.next→H3.get i=A.get i:=fun i hi=>by rw[o3 i (by omega),o2 i (by omega),oB i hi]
 have w3:∀ m:Nat,m<900000000→IntKind.i64.wrap ((m:Int)+3)=((m+3:Nat):Int):=fun m hm=>J0s (by omega) (by omega)
 have len2:=fun h'=>JfC p2 h'
 have a2:ld1 2 (A.get h.next)=some vq:=by rw[gA];rfl
 have P2:J0p lo H3 vq s.queues.length 2 (J3S s.queues):=p2.mono (by omega) fun i _ hi=>by rw[z3 i (by omega),gO i hi]
 obtain⟨G2,H4,m21,m22,m23,m24,m25,m26,m27,m28,m29,g4,n4,f4,o4⟩:=JrP (k:=3) (slot:=2) (D:=A.next) (t:=23) (e:=75) (z:=.agg #[.string ByteArray.empty,.bool false]) Tryz.underlying23 sz57 by57 J9V rfl rfl (by decide) (by decide) sz26 P2 (J5A s.queues) (by omega) (by omega) (by omega) gD3 (by simp only[List.length_set];omega)
 have b2:ld1 2 (H3.get h.next)=some vq:=by rw[z3 _ (by omega)];exact a2
 have d2:∀ r,ld1 2 ((H3.push r).get h.next)=some vq:=fun r=>by rw[J06 (by omega)];exact b2
 have e2:ld1 2 (G2.get h.next)=some vq:=by rw[m27 _ (by omega)];exact b2
 simp only[evC,seval,↓evP,Nat.zero_add,t1,t2,t3,J0B,J0S,b2,len2,w3 s.queues.length (by omega),m21,d2,m22,e2,m28,m29]
 have z4:∀ i,i<A.next→H4.get i=A.get i:=fun i hi=>by rw[o4 i (by omega),m27 i (by omega),z3 i hi]
 have gD4:=g4
 have len3:=fun h'=>JfT p3 h'
 have a3:ld1 3 (A.get h.next)=some vv:=by rw[gA];rfl
 have P3:J0p lo H4 vv s.vars.length 1 (strs s.vars):=p3.mono (by omega) fun i _ hi=>by rw[z4 i (by omega),gO i hi]
 obtain⟨G3,H5,m31,m32,m33,m34,m35,m36,m37,m38,m39,g5,n5,f5,o5⟩:=JrP (k:=3) (slot:=3) (D:=A.next) (t:=24) (e:=9) (z:=.string ByteArray.empty) Tryz.underlying24 sz9 by9 Jdg rfl rfl (by decide) (by decide) sz27 P3 (J6e s.vars) (by omega) (by omega) (by omega) gD4 (by simp only[List.length_set];omega)
 have b3:ld1 3 (H4.get h.next)=some vv:=by rw[z4 _ (by omega)];exact a3
 have d3:∀ r,ld1 3 ((H4.push r).get h.next)=some vv:=fun r=>by rw[J06 (by omega)];exact b3
 have e3:ld1 3 (G3.get h.next)=some vv:=by rw[m37 _ (by omega)];exact b3
 simp only[evC,seval,↓evP,Nat.zero_add,t1,t2,t3,J1A,J0Y,b3,len3,w3 s.vars.length (by omega),m31,d3,m32,e3,m38,m39]
 have z5:∀ i,i<A.next→H5.get i=A.get i:=fun i hi=>by rw[o5 i (by omega),m37 i (by omega),z4 i hi]
 have gD5:=g5
 have len4:=fun h'=>JfT p4 h'
 have a4:ld1 4 (A.get h.next)=some vt:=by rw[gA];rfl
 have P4:J0p lo H5 vt s.tags.length 1 (strs s.tags):=p4.mono (by omega) fun i _ hi=>by rw[z5 i (by omega),gO i hi]
 obtain⟨G4,H6,m41,m42,m43,m44,m45,m46,m47,m48,m49,g6,n6,f6,o6⟩:=JrP (k:=3) (slot:=4) (D:=A.next) (t:=24) (e:=9) (z:=.string ByteArray.empty) Tryz.underlying24 sz9 by9 Jdg rfl rfl (by decide) (by decide) sz27 P4 (J6e s.tags) (by omega) (by omega) (by omega) gD5 (by simp only[List.length_set];omega)
 have b4:ld1 4 (H5.get h.next)=some vt:=by rw[z5 _ (by omega)];exact a4
 have d4:∀ r,ld1 4 ((H5.push r).get h.next)=some vt:=fun r=>by rw[J06 (by omega)];exact b4
 have e4:ld1 4 (G4.get h.next)=some vt:=by rw[m47 _ (by omega)];exact b4
 simp only[evC,seval,↓evP,Nat.zero_add,t1,t2,t3,J1B,J0Y,b4,len4,w3 s.tags.length (by omega),m41,d4,m42,e4,m48,m49]
 have z6:∀ i,i<A.next→H6.get i=A.get i:=fun i hi=>by rw[o6 i (by omega),m47 i (by omega),z5 i hi]
 have gD6:=g6
 have a5:ld1 5 (A.get h.next)=some vu:=by rw[gA];rfl
 have P5:J1S lo H6 vu s.rules:=J1S.mono p5 (by omega) fun i _ hi=>by rw[z6 i (by omega),gO i hi]
 obtain⟨G5,H7,L5,m5,l5,_,m58,gD7,n7,f7,o7⟩:=Jrx (n:=n) (slot:=5) P5 (by omega) (by omega) (by omega) gD6 (by simp only[List.length_set];omega) (by omega)
 have b5:ld1 5 (H6.get h.next)=some vu:=by rw[z6 _ (by omega)];exact a5
 simp only[evC,seval,↓evP,Nat.zero_add,t1,t2,t3,J36,J0n,b5,m5,m58]
 have z7:∀ i,i<A.next→H7.get i=A.get i:=fun i hi=>by rw[o7 i (by omega) (by omega),z6 i hi]
 have a6:ld1 6 (A.get h.next)=some vo:=by rw[gA];rfl
 have P6:J1S lo H7 vo s.on:=J1S.mono p6 (by omega) fun i _ hi=>by rw[z7 i (by omega),gO i hi]
 obtain⟨G6,H8,L6,m6,l6,_,m68,gD8,n8,f8,o8⟩:=Jrx (n:=n) (slot:=6) P6 (by omega) (by omega) (by omega) gD7 (by simp only[List.length_set];omega) (by omega)
 have b6:ld1 6 (H7.get h.next)=some vo:=by rw[z7 _ (by omega)];exact a6
 simp only[evC,seval,↓evP,Nat.zero_add,t1,t2,t3,J1T,J0n,b6,m6,m68]
 have z8:∀ i,i<A.next→H8.get i=A.get i:=fun i hi=>by rw[o8 i (by omega) (by omega),z7 i hi]
 have lC:ldN 8 0 (H8.get A.next)=some (.agg #[.string nm,.slice (some ⟨B.next,0,none⟩) s.rows.length (s.rows.length+9),.slice (some ⟨H3.next,0,none⟩) s.queues.length (s.queues.length+3),.slice (some ⟨H4.next,0,none⟩) s.vars.length (s.vars.length+3),.slice (some ⟨H5.next,0,none⟩) s.tags.length (s.tags.length+3),.slice (some ⟨H6.next,0,none⟩) s.rules.length (s.rules.length+5),.slice (some ⟨H7.next,0,none⟩) s.on.length (s.on.length+5),iv s.miss]):=by
  rw[J9E gD8 (by simp only[List.length_set];omega),← hcs]
  rfl
 have gZ8:H8.get (h.next+1)=.row [.string ByteArray.empty,.slice none 0 0,.slice none 0 0,.slice none 0 0,.slice none 0 0,.slice none 0 0,.slice none 0 0,iv 0] 27 false false:=by rw[z8 _ (by omega)];exact gZ
 have hstW:=stW (t:=27) sz30 (h:=H8) (vs:=[.string nm,.slice (some ⟨B.next,0,none⟩) s.rows.length (s.rows.length+9),.slice (some ⟨H3.next,0,none⟩) s.queues.length (s.queues.length+3),.slice (some ⟨H4.next,0,none⟩) s.vars.length (s.vars.length+3),.slice (some ⟨H5.next,0,none⟩) s.tags.length (s.tags.length+3),.slice (some ⟨H6.next,0,none⟩) s.rules.length (s.rules.length+5),.slice (some ⟨H7.next,0,none⟩) s.on.length (s.on.length+5),iv s.miss]) gZ8 rfl rfl rfl (by omega)
 have hstW':J0K Tryz.prog H8 27 (.pointer (some ⟨h.next+1,0,none⟩)) (.agg #[.string nm,.slice (some ⟨B.next,0,none⟩) s.rows.length (s.rows.length+9),.slice (some ⟨H3.next,0,none⟩) s.queues.length (s.queues.length+3),.slice (some ⟨H4.next,0,none⟩) s.vars.length (s.vars.length+3),.slice (some ⟨H5.next,0,none⟩) s.tags.length (s.tags.length+3),.slice (some ⟨H6.next,0,none⟩) s.rules.length (s.rules.length+5),.slice (some ⟨H7.next,0,none⟩) s.on.length (s.on.length+5),iv s.miss])=_:=hstW
 have gF:(H8.put (h.next+1) (.row [.string nm,.slice (some ⟨B.next,0,none⟩) s.rows.length (s.rows.length+9),.slice (some ⟨H3.next,0,none⟩) s.queues.length (s.queues.length+3),.slice (some ⟨H4.next,0,none⟩) s.vars.length (s.vars.length+3),.slice (some ⟨H5.next,0,none⟩) s.tags.length (s.tags.length+3),.slice (some ⟨H6.next,0,none⟩) s.rules.length (s.rules.length+5),.slice (some ⟨H7.next,0,none⟩) s.on.length (s.on.length+5),iv s.miss] 27 false false)).get (h.next+1)=_:=J0b rfl (by omega)
 have oF:∀ i,i≠h.next+1→(H8.put (h.next+1) (.row [.string nm,.slice (some ⟨B.next,0,none⟩) s.rows.length (s.rows.length+9),.slice (some ⟨H3.next,0,none⟩) s.queues.length (s.queues.length+3),.slice (some ⟨H4.next,0,none⟩) s.vars.length (s.vars.length+3),.slice (some ⟨H5.next,0,none⟩) s.tags.length (s.tags.length+3),.slice (some ⟨H6.next,0,none⟩) s.rules.length (s.rules.length+5),.slice (some ⟨H7.next,0,none⟩) s.on.length (s.on.length+5),iv s.miss] 27 false false)).get i=H8.get i:=fun i hi=>J05 (by omega) (Ne.symm hi)
 have lF:=J9E gF rfl
 have nF:(H8.put (h.next+1) (.row [.string nm,.slice (some ⟨B.next,0,none⟩) s.rows.length (s.rows.length+9),.slice (some ⟨H3.next,0,none⟩) s.queues.length (s.queues.length+3),.slice (some ⟨H4.next,0,none⟩) s.vars.length (s.vars.length+3),.slice (some ⟨H5.next,0,none⟩) s.tags.length (s.tags.length+3),.slice (some ⟨H6.next,0,none⟩) s.rules.length (s.rules.length+5),.slice (some ⟨H7.next,0,none⟩) s.on.length (s.on.length+5),iv s.miss] 27 false false)).next=H8.next:=rfl
 have fF:(H8.put (h.next+1) (.row [.string nm,.slice (some ⟨B.next,0,none⟩) s.rows.length (s.rows.length+9),.slice (some ⟨H3.next,0,none⟩) s.queues.length (s.queues.length+3),.slice (some ⟨H4.next,0,none⟩) s.vars.length (s.vars.length+3),.slice (some ⟨H5.next,0,none⟩) s.tags.length (s.tags.length+3),.slice (some ⟨H6.next,0,none⟩) s.rules.length (s.rules.length+5),.slice (some ⟨H7.next,0,none⟩) s.on.length (s.on.length+5),iv s.miss] 27 false false)).floor=H8.floor:=rfl
 simp only[evC,seval,↓evP,hr,t1,t2,t3,J1b,lC,hstW',lF]
 generalize H8.put (h.next+1) _=F at *
 have e3:H3.next=h.next+4:=by omega
 have e4:H4.next=h.next+5:=by omega
 have e5:H5.next=h.next+6:=by omega
 have e6:H6.next=h.next+7:=by omega
 have e7:H7.next=h.next+8:=by omega
 have e2:B.next=h.next+3:=by omega
 refine⟨⟨by rw[e2,e3,e4,e5,e6,e7],by omega,⟨L,?_,lL,own,marks⟩,?_,?_,?_,⟨L5,?_,l5.len,l5.own,l5.marks⟩,⟨L6,?_,l6.len,l6.own,l6.marks⟩⟩,by omega,by omega,fun i hi=>by rw[oF i (by omega),z8 i (by omega),gO i hi]⟩
 ·rw[← e2,oF _ (by omega),o8 _ (by omega) (by omega),o7 _ (by omega) (by omega),o6 _ (by omega),m47 _ (by omega),o5 _ (by omega),m37 _ (by omega),o4 _ (by omega),m27 _ (by omega),o3 _ (by omega)]
  exact gL
 ·have:h.next+3+1=H3.next:=by omega
  rw[this,oF _ (by omega),o8 _ (by omega) (by omega),o7 _ (by omega) (by omega),o6 _ (by omega),m47 _ (by omega),o5 _ (by omega),m37 _ (by omega),o4 _ (by omega)]
  exact m24
 ·have:h.next+3+2=H4.next:=by omega
  rw[this,oF _ (by omega),o8 _ (by omega) (by omega),o7 _ (by omega) (by omega),o6 _ (by omega),m47 _ (by omega),o5 _ (by omega)]
  exact m34
 ·have:h.next+3+3=H5.next:=by omega
  rw[this,oF _ (by omega),o8 _ (by omega) (by omega),o7 _ (by omega) (by omega),o6 _ (by omega)]
  exact m44
 ·have:h.next+3+4=H6.next:=by omega
  rw[this,oF _ (by omega),o8 _ (by omega) (by omega)]
  exact l5.g
 ·have:h.next+3+5=H7.next:=by omega
  rw[this,oF _ (by omega)]
  exact l6.g
theorem JrC {nm:ByteArray} {s:StN} {pv:Value} {lo:Nat} (hp:J3x lo h pv nm s) (hs:JdC s) (hl:Jbg s<900000000) (hfl:h.floor≤h.next) (hn:40<n) :
  ∃ v' h',J0T n 8 [pv] h=some (v',h')∧Lent8 h' (h.next+3) v' nm s∧h'.next=h.next+9∧h'.floor=h.floor∧∀ i,i<h.next→h'.get i=h.get i:=by
 obtain⟨n,rfl⟩:∃ j,n=j+1:=⟨n-1,by omega⟩
 refine k_ex (J13 ⟨rfl,rfl,rfl⟩) (JqR (n:=n) (N:=n) hp hs hl hfl (by omega) (by omega)) fun v' h1 hf _ ht=>?_
 rw[ht.1.v] at hf
 cases hf
end
theorem idxA {P:Program} {t e:TypeId} {w id n c i:Nat} (ht:P.underlying t=some (.slice e)) (he:szOf P e=some w) (hi:i<n):J0R P t (.slice (some ⟨id,0,none⟩) n c) (iv (i:Int))=some (.pointer (some ⟨id,i*w,none⟩)):=by
 simp only[J0R,ht,he,J0q]
 rw[if_pos (by omega)]
 simp
theorem box8 {H:SHeap} {id:Nat} {a b c d e f g i:Value} {ty:TypeId} {x y:Bool} (hg:H.get id=.row [a,b,c,d,e,f,g,i] ty x y):ld1 0 (H.get id)=some a∧ld1 1 (H.get id)=some b∧ld1 2 (H.get id)=some c∧ld1 3 (H.get id)=some d∧ld1 4 (H.get id)=some e∧ld1 5 (H.get id)=some f∧ld1 6 (H.get id)=some g∧ld1 7 (H.get id)=some i:=by
 rw[hg]
 exact Jhw
section
variable {n N:Nat} {h:SHeap}
set_option maxHeartbeats 8000000 in
theorem JqT {nm:ByteArray} {s:StN} {va vb:Value} {la lb:Nat} (ha:J3x la h va nm s) (hb:J3x lb h vb nm s) (hs:JdC s) (hn:Jbg s+10<n) :
  ∃ h',J0L Tryz.prog (J0T n) N 39 [va,vb] h=some (.bool true,h')∧∀ i,i<h.next→h'.get i=h.get i:=by
 obtain⟨ar,aq,av,at_,au,ao,rfl,a1,a2,a3,a4,a5,a6⟩:=id ha
 obtain⟨br,bq,bv,bt,bu,bo,rfl,b1,b2,b3,b4,b5,b6⟩:=id hb
 refine J1N (R:=fun h'=>∀ i,i<h.next→h'.get i=h.get i) Tryz.func39 rfl (by simp[Tryz.f39]) ?_
 have hr:Tryz.f39.results.toList=[.tmp 4]:=rfl
 have ca:(Value.agg #[.string nm,ar,aq,av,at_,au,ao,iv s.miss]).cells.toList=[.string nm,ar,aq,av,at_,au,ao,iv s.miss]:=rfl
 have cb:(Value.agg #[.string nm,br,bq,bv,bt,bu,bo,iv s.miss]).cells.toList=[.string nm,br,bq,bv,bt,bu,bo,iv s.miss]:=rfl
 have oa:=all8 (nm:=nm) a1 a2 a3 a4 a5 a6
 have ob:=all8 (nm:=nm) b1 b2 b3 b4 b5 b6
 have g0:∀ (a b:SObj),let A:=(h.push a).push b
   A.get h.next=a∧A.get (h.next+1)=b∧A.next=h.next+2∧A.floor=h.floor∧∀ i,i<h.next→A.get i=h.get i:=fun a b=>
  ⟨J4c,J48,rfl,rfl,fun i hi=>by rw[J06 (by show i<h.next+1;omega),J06 hi]⟩
 obtain⟨gA,gB,nG,fG,gO⟩:=g0 (.row [.string nm,ar,aq,av,at_,au,ao,iv s.miss] 27 false false) (.row [.string nm,br,bq,bv,bt,bu,bo,iv s.miss] 27 false false)
 simp only[evC,seval,↓evP,rpD,J0X,J2t,ca,oa,cb,ob,sz30]
 generalize (h.push (.row [.string nm,ar,aq,av,at_,au,ao,iv s.miss] 27 false false)).push (.row [.string nm,br,bq,bv,bt,bu,bo,iv s.miss] 27 false false)=Q at *
 obtain⟨x0,x1,x2,x3,x4,x5,x6,x7⟩:=box8 gA
 obtain⟨y0,y1,y2,y3,y4,y5,y6,y7⟩:=box8 gB
 obtain⟨r1,r2,r3,r4,r5,r6⟩:=hs
 unfold Jbg at hn
 have s1:=Jru (n:=n) (a1.1.mono (by omega) gO) (b1.1.mono (by omega) gO) r1 (by omega)
 have s2:=Jrt (n:=n) (a2.mono (by omega) fun i _ hi=>gO i hi) (b2.mono (by omega) fun i _ hi=>gO i hi) r2 (by omega)
 have s3:=Jqi (n:=n) (a3.mono (by omega) fun i _ hi=>gO i hi) (b3.mono (by omega) fun i _ hi=>gO i hi) r3 (by omega)
 have s4:=Jqi (n:=n) (a4.mono (by omega) fun i _ hi=>gO i hi) (b4.mono (by omega) fun i _ hi=>gO i hi) r4 (by omega)
 have s5:=Jqd (n:=n) (J1S.mono a5 (by omega) fun i _ hi=>gO i hi) (J1S.mono b5 (by omega) fun i _ hi=>gO i hi) r5 (by omega)
 have s6:=Jqd (n:=n) (J1S.mono a6 (by omega) fun i _ hi=>gO i hi) (J1S.mono b6 (by omega) fun i _ hi=>gO i hi) r6 (by omega)
 have hnm:=J34 nm
 simp only[evC,seval,↓evP,hr,Nat.zero_add,J5g,J0y,J0B,J1A,J1B,J36,J1T,J38,J0d,J0F,J0S,J0Y,J0n,J0m,x0,x1,x2,x3,x4,x5,x6,x7,y0,y1,y2,y3,y4,y5,y6,y7,J1y,hnm,s1,s2,s3,s4,s5,s6,BEq.rfl]
 exact gO
theorem JrL {nm:ByteArray} {s:StN} {va vb:Value} {la lb:Nat} (ha:J3x la h va nm s) (hb:J3x lb h vb nm s) (hs:JdC s) (hn:Jbg s+20<n):J0T n 39 [va,vb] h=some (.bool true,h):=by
 obtain⟨n,rfl⟩:∃ j,n=j+1:=⟨n-1,by omega⟩
 exact J4r (J13 ⟨rfl,rfl,rfl⟩) rfl (JqT (n:=n) (N:=n) ha hb hs (by omega))
theorem JrQ {l:List ByteArray} {i:Nat} {x:ByteArray} {ty:TypeId} {a b:Bool} (hx:l[i]?=some x):ld1 i (.row (strs l) ty a b)=some (.string x):=by
 simp[ld1,strs,hx]
theorem Jrl {l:List ByteArray} {i:Nat} {x:ByteArray}:(strs l).set i (.string x)=strs (l.set i x):=by simp[strs,List.map_set]
set_option maxHeartbeats 8000000 in
theorem JqO {l:List ByteArray} {v:Value} {o lo:Nat} (hg:h.get o=.row (strs l++J3e [.string ByteArray.empty] 3) 9 false false) (ho:o<h.next) (hf:h.floor≤o) (hv:J0p lo h v l.length 1 (strs l)) (hl:l.length<900000000) (hn:l.length+10<n) (hN:l.length+10<N) :
  ∃ h',J0L Tryz.prog (J0T n) N 40 [.slice (some ⟨o,0,none⟩) l.length (l.length+3),v] h=some (.bool true,h')∧(h'.next=h.next∧h'.floor=h.floor∧∀ i,i≠o→h'.get i=h.get i):=by
 refine J1N (R:=fun h'=>h'.next=h.next∧h'.floor=h.floor∧∀ i,i≠o→h'.get i=h.get i) Tryz.func40 rfl (by simp[Tryz.f40]) ?_
 have hr:Tryz.f40.results.toList=[.tmp 4]:=rfl
 have hM:J0p 0 h (.slice (some ⟨o,0,none⟩) l.length (l.length+3)) l.length 1 (strs l):=J0p.row hg ⟨Nat.zero_le _,ho⟩ (by simp[strs])
 have hs:=Jqi (n:=n) hM hv (by omega) (by omega)
 have hz:strs l++J3e [.string ByteArray.empty] 3=strs (l++List.replicate 3 ByteArray.empty):=by simp[strs,J3e]
 rw[hz] at hg
 have lenV:=fun h'=>JfT hv h'
 have lenM:=fun h'=>JfT hM h'
 have lenA:∀ h':SHeap,lenS Tryz.prog h' 24 (.slice (some ⟨o,0,none⟩) (l.length+3) (l.length+3))=some (iv ((l.length+3:Nat):Int)):=fun h'=>by simp[lenS,Tryz.underlying24]
 have w3:IntKind.i64.wrap ((l.length:Int)+3)=((l.length+3:Nat):Int):=J0s (by omega) (by omega)
 have hsl:=fun (H:SHeap)=>JnH (P:=Tryz.prog) (h:=H) (t:=24) (e:=9) (id:=o) (n:=l.length) (m:=l.length+3) (c:=l.length+3) Tryz.underlying24 sz9 (by omega) (by unfold unk;omega)
 simp only[evC,seval,↓evP,hs,lenM,w3,hsl]
 refine WK.loop (fun k s'=>s'.T.get 1=v∧s'.T.get 5=.bool true∧s'.T.get 6=.slice (some ⟨o,0,none⟩) (l.length+3) (l.length+3)∧s'.T.get 7=iv (k:Int)∧k≤l.length+3∧s'.h.next=h.next∧s'.h.floor=h.floor∧(∀ i,i≠o→s'.h.get i=h.get i)∧∃ W,s'.h.get o=.row (strs W) 9 false false∧W.length=l.length+3∧∀ j,k≤j→W[j]?=(l++List.replicate 3 ByteArray.empty)[j]?) (l.length+3) (by omega) ?_ ?_
 ·exact⟨by simp only[evC,seval,↓evP,rpC],by simp only[evC,seval,↓evP,rpC],by simp only[evC,seval,↓evP,rpC],by simp only[evC,seval,↓evP,rpC] <;> rfl,by omega,rfl,rfl,fun _ _=>rfl,_,hg,by simp,fun _ _=>rfl⟩
 rintro k ⟨T1,H1⟩ hk ⟨t1,t5,t6,t7,hk3,n1,f1,o1,W,gW,lW,eW⟩
 simp only at t1 t5 t6 t7 n1 f1 o1 gW
 by_cases hlt:k<l.length+3
 ·have c1:decide ((k:Int)<((l.length+3:Nat):Int))=true:=by simp;omega
  have hix:J0R Tryz.prog 24 (.slice (some ⟨o,0,none⟩) (l.length+3) (l.length+3)) (iv (k:Int))=some (.pointer (some ⟨o,k,none⟩)):=by
   have:=idxA (id:=o) (n:=l.length+3) (c:=l.length+3) (i:=k) Tryz.underlying24 sz9 hlt
   rwa [Nat.mul_one] at this
  have hst:=stc (v:=.string J9F) (off:=k) sz9 rfl rfl gW (by rw[show (strs W).length=W.length by simp[strs]];omega) (by omega)
  rw[Jrl] at hst
  have w1:IntKind.i64.wrap ((k:Int)+1)=((k+1:Nat):Int):=J0s (by omega) (by omega)
  by_cases h2:k<l.length
  ·have c2:decide ((k:Int)<(l.length:Int))=true:=by simp;omega
   simp only[evC,seval,↓evP,t1,t5,t6,t7,lenA,lenV,c1,c2,hix,hst,w1]
   exact⟨hlt,by omega,n1,f1,fun i hi=>by rw[J05 (by omega) (Ne.symm hi)];exact o1 i hi,_,J0b rfl (by omega),by rw[List.length_set];exact lW,fun j hj=>by rw[List.getElem?_set_ne (by omega)];exact eW j (by omega)⟩
  ·have c2:decide ((k:Int)<(l.length:Int))=false:=by simp;omega
   have hx:W[k]?=some ByteArray.empty:=by
    rw[eW k (Nat.le_refl _),List.getElem?_append_right (by omega),List.getElem?_replicate,if_pos (by omega)]
   have hld:ld1 k (H1.get o)=some (.string ByteArray.empty):=by rw[gW];exact JrQ hx
   have hbe:((ByteArray.empty:ByteArray) == { data:=#[] })=true:=J34 _
   simp only[evC,seval,↓evP,t1,t5,t6,t7,lenA,lenV,c1,c2,hix,J0d,hld,J1y,hbe,hst,w1]
   exact⟨hlt,by omega,n1,f1,fun i hi=>by rw[J05 (by omega) (Ne.symm hi)];exact o1 i hi,_,J0b rfl (by omega),by rw[List.length_set];exact lW,fun j hj=>by rw[List.getElem?_set_ne (by omega)];exact eW j (by omega)⟩
 have c1:decide ((k:Int)<((l.length+3:Nat):Int))=false:=by simp;omega
 simp only[evC,seval,↓evP,hr,t1,t5,t6,t7,lenA,c1]
 exact⟨n1,f1,o1⟩
theorem Jr5 {l:List ByteArray} {v:Value} {o lo:Nat} (hg:h.get o=.row (strs l++J3e [.string ByteArray.empty] 3) 9 false false) (ho:o<h.next) (hf:h.floor≤o) (hv:J0p lo h v l.length 1 (strs l)) (hl:l.length<900000000) (hn:l.length+20<n) :
  ∃ h',J0T n 40 [.slice (some ⟨o,0,none⟩) l.length (l.length+3),v] h=some (.bool true,h')∧(h'.next=h.next∧h'.floor=h.floor∧∀ i,i≠o→h'.get i=h.get i):=by
 obtain⟨n,rfl⟩:∃ j,n=j+1:=⟨n-1,by omega⟩
 exact k_wr (J13 ⟨rfl,rfl,rfl⟩) (JqO hg ho hf hv hl (by omega) (by omega))
end
theorem Jqe:J1P Tryz.prog 60 [(0,iv 23)]=some (rowV ⟨23,ByteArray.empty,0,0,0⟩):=by
 have h:=J9X
 rw[Tryz.underlying60] at h
 simp only at h
 have hf:flat (.agg #[.int .i64 0,.string ByteArray.empty,.int .i64 0,.int .i64 0,.int .i64 0])=true:=rfl
 simp only[J1P,J40,hf,if_true,Tryz.underlying60,h]
 rfl
theorem Jry:flat (.agg #[.string ByteArray.empty,.bool false])=true:=rfl
theorem Jr2:J1P Tryz.prog 75 []=some (.agg #[.string ByteArray.empty,.bool false]):=by
 have h:=Jgp
 rw[Tryz.underlying75] at h
 simp only at h
 simp only[J1P,J9V,Jry,if_true,Tryz.underlying75,h]
 rfl
theorem Jqn {nm:ByteArray} {b:Bool}:J1P Tryz.prog 75 [(0,.string nm),(1,.bool b)]=some (.agg #[.string nm,.bool b]):=by
 have h:=Jgp
 rw[Tryz.underlying75] at h
 simp only at h
 simp only[J1P,J9V,Jry,if_true,Tryz.underlying75,h]
 rfl
theorem Jr6 {n off:Nat} {cs:List Value} {ty:TypeId} {a b:Bool} (hl:off+n≤cs.length):ldN n off (.row cs ty a b)=some (.agg ((cs.drop off).take n).toArray):=by
 simp only[ldN,cut]
 rw[if_pos (by rw[List.length_take,List.length_drop];omega)]
theorem Jrn {L:List RowN} {k:Nat} {x:RowN} {ty:TypeId} {a b:Bool} (hx:L[k]?=some x):ldN 5 (k*5) (.row (L.flatMap J0e) ty a b)=some (rowV x):=by
 have hk:=(List.getElem?_eq_some_iff.1 hx).1
 rw[Jr6 (by rw[J0N];omega),J2Y hx]
 rfl
theorem Jqr:∀ {l:List (ByteArray × Bool)} {k:Nat} {x:ByteArray × Bool},l[k]?=some x→(J3S l)[k*2]?=some (.string x.1)∧(J3S l)[k*2+1]?=some (.bool x.2)
 | [],k,x,h=>by simp at h
 | y :: l,0,x,h=>by
  cases h
  exact⟨rfl,rfl⟩
 | y :: l,k+1,x,h=>by
  have h':l[k]?=some x:=by simpa using h
  have e:J3S (y :: l)=.string y.1 :: .bool y.2 :: J3S l:=rfl
  obtain⟨a,b⟩:=Jqr h'
  rw[e]
  refine⟨?_,?_⟩
  ·rw[show (k+1)*2=k*2+1+1 by omega]
   exact a
  ·rw[show (k+1)*2+1=k*2+1+1+1 by omega]
   exact b
theorem Jqh:∀ {l:List (ByteArray × Bool)} {k:Nat} {x:ByteArray × Bool},k<l.length→Go.Sx.lay (J3S l) (k*2) [.string x.1,.bool x.2]=J3S (l.set k x)
 | [],k,x,h=>by simp at h
 | y :: l,0,x,h=>rfl
 | y :: l,k+1,x,h=>by
  have ih:=Jqh (l:=l) (k:=k) (x:=x) (by simpa using h)
  have e:J3S (y :: l)=.string y.1 :: .bool y.2 :: J3S l:=rfl
  have e2:J3S ((y :: l).set (k+1) x)=.string y.1 :: .bool y.2 :: J3S (l.set k x):=rfl
  rw[e,e2,← ih]
  have:(k+1)*2=k*2+1+1:=by omega
  rw[this]
  simp[Go.Sx.lay,List.take_succ_cons,show k*2+1+1+2=(k*2+2)+1+1 by omega]
theorem Js1 {l:List (ByteArray × Bool)} {k:Nat} {x:ByteArray × Bool} {ty:TypeId} {a b:Bool} (hx:l[k]?=some x):ldN 2 (k*2) (.row (J3S l) ty a b)=some (.agg #[.string x.1,.bool x.2]):=by
 have hk:=(List.getElem?_eq_some_iff.1 hx).1
 rw[Jr6 (by rw[J2J];omega),J7n hx]
theorem JrV {h:SHeap} {id k:Nat} {l:List (ByteArray × Bool)} {a:ByteArray} {b:Bool} {ty:TypeId} {g:Bool} (hg:h.get id=.row (J3S l) ty g false) (hk:k<l.length) (hf:h.floor≤id):J0K Tryz.prog h 75 (.pointer (some ⟨id,k*2,none⟩)) (.agg #[.string a,.bool b])=some (h.put id (.row (J3S (l.set k (a,b))) ty g false)):=by
 have hl:=J2J l
 have:=Jqh (l:=l) (k:=k) (x:=(a,b)) hk
 simp only[J0K,sz57,J1q,hg]
 rw[if_pos (show some 2=some (Value.agg #[Value.string a,Value.bool b]).cells.size from rfl),if_pos (by rw[hl,decide_eq_true hf,decide_eq_true (show k*2+(Value.agg #[Value.string a,Value.bool b]).cells.toList.length≤l.length*2 by show k*2+2≤_;omega)];rfl)]
 rw[← this]
 rfl
section
variable {n N:Nat} {h:SHeap}
set_option maxHeartbeats 32000000 in
theorem JqH {nm:ByteArray} {s:StN} {pv v:Value} {lo b:Nat} {h0:SHeap} (hL:Lent8 h b v nm s) (hp:J3x lo h0 pv nm s) (hb:h0.next≤b) (h0g:∀ i,i<h0.next→h.get i=h0.get i) (hf:h.floor≤b) (hs:JdC s) (hl:Jbg s<900000000) (hn:Jbg s+60<n) (hN:Jbg s+60<N) :
  ∃ h',J0L Tryz.prog (J0T n) N 11 [v,pv] h=some (.bool true,h')∧(h.next≤h'.next∧h'.floor=h.floor∧∀ i,i<h.next→(i<b∨b+5<i)→h'.get i=h.get i):=by
 have hL0:=hL
 have hpl:=hL.pol
 have hlt:=hL.lt
 have hph:J3x lo h pv nm s:=hp.mono (by omega) fun i _ hi=>h0g i hi
 obtain⟨vr,vq,vv,vt,vu,vo,rfl,p1,p2,p3,p4,p5,p6⟩:=id hp
 obtain⟨rfl,_,⟨L1,g1⟩,gq,gw,gt,⟨L5,g5⟩,⟨L6,g6⟩⟩:=hL
 obtain⟨_,_,_,_,_,_,hq,q1,q2,q3,q4,q5,q6⟩:=id hpl
 cases hq
 refine J1N (R:=fun h'=>h.next≤h'.next∧h'.floor=h.floor∧∀ i,i<h.next→(i<b∨b+5<i)→h'.get i=h.get i) Tryz.func11 rfl (by simp[Tryz.f11]) ?_
 have hr:Tryz.f11.results.toList=[.tmp 4]:=rfl
 have hs0:=hs
 obtain⟨r1,r2,r3,r4,r5,r6⟩:=hs
 have hl0:=hl
 have hn0:=hn
 unfold Jbg at hl hn hN
 have ca:(Value.agg #[.string nm,.slice (some ⟨b,0,none⟩) s.rows.length (s.rows.length+9),.slice (some ⟨b+1,0,none⟩) s.queues.length (s.queues.length+3),.slice (some ⟨b+2,0,none⟩) s.vars.length (s.vars.length+3),.slice (some ⟨b+3,0,none⟩) s.tags.length (s.tags.length+3),.slice (some ⟨b+4,0,none⟩) s.rules.length (s.rules.length+5),.slice (some ⟨b+5,0,none⟩) s.on.length (s.on.length+5),iv s.miss]).cells.toList=[.string nm,.slice (some ⟨b,0,none⟩) s.rows.length (s.rows.length+9),.slice (some ⟨b+1,0,none⟩) s.queues.length (s.queues.length+3),.slice (some ⟨b+2,0,none⟩) s.vars.length (s.vars.length+3),.slice (some ⟨b+3,0,none⟩) s.tags.length (s.tags.length+3),.slice (some ⟨b+4,0,none⟩) s.rules.length (s.rules.length+5),.slice (some ⟨b+5,0,none⟩) s.on.length (s.on.length+5),iv s.miss]:=rfl
 have cb:(Value.agg #[.string nm,vr,vq,vv,vt,vu,vo,iv s.miss]).cells.toList=[.string nm,vr,vq,vv,vt,vu,vo,iv s.miss]:=rfl
 have oa:=all8 (nm:=nm) q1 q2 q3 q4 q5 q6
 have ob:=all8 (nm:=nm) p1 p2 p3 p4 p5 p6
 have g0:∀ (a b:SObj),let A:=(h.push a).push b
   A.get h.next=a∧A.get (h.next+1)=b∧A.next=h.next+2∧A.floor=h.floor∧∀ i,i<h.next→A.get i=h.get i:=fun a b=>
  ⟨J4c,J48,rfl,rfl,fun i hi=>by rw[J06 (by show i<h.next+1;omega),J06 hi]⟩
 obtain⟨gA,gB,nG,fG,gO⟩:=g0 (.row [.string nm,.slice (some ⟨b,0,none⟩) s.rows.length (s.rows.length+9),.slice (some ⟨b+1,0,none⟩) s.queues.length (s.queues.length+3),.slice (some ⟨b+2,0,none⟩) s.vars.length (s.vars.length+3),.slice (some ⟨b+3,0,none⟩) s.tags.length (s.tags.length+3),.slice (some ⟨b+4,0,none⟩) s.rules.length (s.rules.length+5),.slice (some ⟨b+5,0,none⟩) s.on.length (s.on.length+5),iv s.miss] 27 false false) (.row [.string nm,vr,vq,vv,vt,vu,vo,iv s.miss] 27 false false)
 simp only[evC,seval,↓evP,rpD,J0X,J2t,ca,oa,cb,ob,sz30]
 generalize (h.push (.row [.string nm,.slice (some ⟨b,0,none⟩) s.rows.length (s.rows.length+9),.slice (some ⟨b+1,0,none⟩) s.queues.length (s.queues.length+3),.slice (some ⟨b+2,0,none⟩) s.vars.length (s.vars.length+3),.slice (some ⟨b+3,0,none⟩) s.tags.length (s.tags.length+3),.slice (some ⟨b+4,0,none⟩) s.rules.length (s.rules.length+5),.slice (some ⟨b+5,0,none⟩) s.on.length (s.on.length+5),iv s.miss] 27 false false)).push (.row [.string nm,vr,vq,vv,vt,vu,vo,iv s.miss] 27 false false)=G at *
 have lA:ldN 8 0 (G.get h.next)=some (.agg #[.string nm,.slice (some ⟨b,0,none⟩) s.rows.length (s.rows.length+9),.slice (some ⟨b+1,0,none⟩) s.queues.length (s.queues.length+3),.slice (some ⟨b+2,0,none⟩) s.vars.length (s.vars.length+3),.slice (some ⟨b+3,0,none⟩) s.tags.length (s.tags.length+3),.slice (some ⟨b+4,0,none⟩) s.rules.length (s.rules.length+5),.slice (some ⟨b+5,0,none⟩) s.on.length (s.on.length+5),iv s.miss]):=J9E gA rfl
 have lB:ldN 8 0 (G.get (h.next+1))=some (.agg #[.string nm,vr,vq,vv,vt,vu,vo,iv s.miss]):=J9E gB rfl
 have hsame:=JrL (n:=n) (hpl.mono (h':=G) (by omega) fun i _ hi=>gO i hi) (hph.mono (h':=G) (by omega) fun i _ hi=>gO i hi) hs0 (by unfold Jbg;omega)
 obtain⟨x0,x1,x2,x3,x4,x5,x6,x7⟩:=box8 gA
 obtain⟨y0,y1,y2,y3,y4,y5,y6,y7⟩:=box8 gB
 have z0:∀ i,i<h0.next→G.get i=h0.get i:=fun i hi=>by rw[gO i (by omega)];exact h0g i hi
 obtain⟨H1,k1,n1,f1,o1⟩:=JqA (n:=n) (h:=G) (o:=b+4) (L:=L5) ⟨by rw[gO _ (by omega)];exact g5.g,g5.len,g5.own,g5.marks⟩ (by omega) (by omega) (J1S.mono p5 (by omega) fun i _ hi=>z0 i hi) (by omega) (by omega)
 obtain⟨H2,k2,n2,f2,o2⟩:=JqA (n:=n) (h:=H1) (o:=b+5) (L:=L6) ⟨by rw[o1 _ (by omega),gO _ (by omega)];exact g6.g,g6.len,g6.own,g6.marks⟩ (by omega) (by omega) (J1S.mono p6 (by omega) fun i _ hi=>by rw[o1 i (by omega)];exact z0 i hi) (by omega) (by omega)
 obtain⟨H3,k3,n3,f3,o3⟩:=Jr5 (n:=n) (h:=H2) (o:=b+2) (by rw[o2 _ (by omega),o1 _ (by omega),gO _ (by omega)];exact gw) (by omega) (by omega) (p3.mono (by omega) fun i _ hi=>by rw[o2 i (by omega),o1 i (by omega)];exact z0 i hi) (by omega) (by omega)
 obtain⟨H4,k4,n4,f4,o4⟩:=Jr5 (n:=n) (h:=H3) (o:=b+3) (by rw[o3 _ (by omega),o2 _ (by omega),o1 _ (by omega),gO _ (by omega)];exact gt) (by omega) (by omega) (p4.mono (by omega) fun i _ hi=>by rw[o3 i (by omega),o2 i (by omega),o1 i (by omega)];exact z0 i hi) (by omega) (by omega)
 have c6:H1.get h.next=G.get h.next∧H1.get (h.next+1)=G.get (h.next+1):=⟨o1 _ (by omega),o1 _ (by omega)⟩
 have c7:H2.get h.next=G.get h.next∧H2.get (h.next+1)=G.get (h.next+1):=⟨by rw[o2 _ (by omega),c6.1],by rw[o2 _ (by omega),c6.2]⟩
 have c8:H3.get h.next=G.get h.next∧H3.get (h.next+1)=G.get (h.next+1):=⟨by rw[o3 _ (by omega),c7.1],by rw[o3 _ (by omega),c7.2]⟩
 have c9:H4.get h.next=G.get h.next∧H4.get (h.next+1)=G.get (h.next+1):=⟨by rw[o4 _ (by omega),c8.1],by rw[o4 _ (by omega),c8.2]⟩
 have len1:=fun h'=>JfA p1.2 h'
 have len2:=fun h'=>JfC p2 h'
 have w9:IntKind.i64.wrap ((s.rows.length:Int)+9)=((s.rows.length+9:Nat):Int):=J0s (by omega) (by omega)
 have w3:IntKind.i64.wrap ((s.queues.length:Int)+3)=((s.queues.length+3:Nat):Int):=J0s (by omega) (by omega)
 have lenR:∀ h':SHeap,lenS Tryz.prog h' 22 (.slice (some ⟨b,0,none⟩) (s.rows.length+9) (s.rows.length+9))=some (iv ((s.rows.length+9:Nat):Int)):=fun h'=>JeK
 have lenQ:∀ h':SHeap,lenS Tryz.prog h' 23 (.slice (some ⟨b+1,0,none⟩) (s.queues.length+3) (s.queues.length+3))=some (iv ((s.queues.length+3:Nat):Int)):=fun h'=>by simp[lenS,Tryz.underlying23]
 have slR:=fun (H:SHeap)=>JnH (P:=Tryz.prog) (h:=H) (t:=22) (e:=60) (id:=b) (n:=s.rows.length) (m:=s.rows.length+9) (c:=s.rows.length+9) Tryz.underlying22 sz46 (by omega) (by unfold unk;omega)
 have slQ:=fun (H:SHeap)=>JnH (P:=Tryz.prog) (h:=H) (t:=23) (e:=75) (id:=b+1) (n:=s.queues.length) (m:=s.queues.length+3) (c:=s.queues.length+3) Tryz.underlying23 sz57 (by omega) (by unfold unk;omega)
 simp only[evC,seval,↓evP,Nat.zero_add,J1b,lA,lB,hsame,J36,J1T,J1A,J1B,J0y,J0n,J0Y,J0F,x5,y5,k1,c6.1,c6.2,x6,y6,k2,c7.1,c7.2,x3,y3,k3,c8.1,c8.2,x4,y4,k4,c9.1,c9.2,x1,y1,len1,w9,slR]
 have z4:∀ i,(i<b∨b+5<i)→H4.get i=G.get i:=fun i hi=>by rw[o4 i (by omega),o3 i (by omega),o2 i (by omega),o1 i (by omega)]
 have gR:H4.get b=.row (L1.flatMap J0e) 60 false false:=by rw[o4 _ (by omega),o3 _ (by omega),o2 _ (by omega),o1 _ (by omega),gO _ (by omega)];exact g1.g
 have gQ:H4.get (b+1)=.row (J3S (s.queues++List.replicate 3 (ByteArray.empty,false))) 75 false false:=by
  rw[o4 _ (by omega),o3 _ (by omega),o2 _ (by omega),o1 _ (by omega),gO _ (by omega),gq]
  simp[J3S,J3e]
 refine WK.loop (fun k s'=>s'.T.get 2=.pointer (some ⟨h.next,0,none⟩)∧s'.T.get 3=.pointer (some ⟨h.next+1,0,none⟩)∧s'.T.get 5=.bool true∧s'.T.get 6=.slice (some ⟨b,0,none⟩) (s.rows.length+9) (s.rows.length+9)∧s'.T.get 7=iv (k:Int)∧k≤s.rows.length+9∧s'.h.next=H4.next∧s'.h.floor=H4.floor∧(∀ i,i≠b→s'.h.get i=H4.get i)∧∃ L:List RowN,s'.h.get b=.row (L.flatMap J0e) 60 false false∧L.length=s.rows.length+9∧∀ j,k≤j→L[j]?=L1[j]?) (s.rows.length+9) (by omega) ?_ ?_
 ·exact⟨by simp only[evC,seval,↓evP,rpC],by simp only[evC,seval,↓evP,rpC],by simp only[evC,seval,↓evP,rpC],by simp only[evC,seval,↓evP,rpC],by simp only[evC,seval,↓evP,rpC] <;> rfl,by omega,rfl,rfl,fun _ _=>rfl,L1,gR,g1.len,fun _ _=>rfl⟩
 rintro k ⟨T1,H5⟩ hk ⟨t2,t3,t5,t6,t7,hk9,n5,f5,o5,L,gL,lL,eL⟩
 simp only at t2 t3 t5 t6 t7 n5 f5 o5 gL
 have cB:H5.get (h.next+1)=G.get (h.next+1):=by rw[o5 _ (by omega),c9.2]
 have cA:H5.get h.next=G.get h.next:=by rw[o5 _ (by omega),c9.1]
 by_cases hlt1:k<s.rows.length+9
 ·have c1:decide ((k:Int)<((s.rows.length+9:Nat):Int))=true:=by simp;omega
  have hix:=JaW (id:=b) (n:=s.rows.length+9) (c:=s.rows.length+9) (i:=k) hlt1
  have hst:=JaU (h:=H5) (i:=k) (x:=⟨23,ByteArray.empty,0,0,0⟩) rfl gL (by omega) (by omega)
  have w1:IntKind.i64.wrap ((k:Int)+1)=((k+1:Nat):Int):=J0s (by omega) (by omega)
  by_cases h2:k<s.rows.length
  ·have c2:decide ((k:Int)<(s.rows.length:Int))=true:=by simp;omega
   simp only[evC,seval,↓evP,Nat.zero_add,t2,t3,t5,t6,t7,lenR,c1,J0y,J0F,cB,y1,len1,c2,Jqe,hix,hst,w1]
   exact⟨hlt1,by omega,n5,f5,fun i hi=>by rw[J05 (by omega) (Ne.symm hi)];exact o5 i hi,_,J0b rfl (by omega),by rw[List.length_set];exact lL,fun j hj=>by rw[List.getElem?_set_ne (by omega)];exact eL j (by omega)⟩
  ·have c2:decide ((k:Int)<(s.rows.length:Int))=false:=by simp;omega
   have hx:L[k]?=some (mk8 k):=by
    rw[eL k (Nat.le_refl _)]
    have:=g1.marks (k-s.rows.length) (by omega)
    rwa [show s.rows.length+(k-s.rows.length)=k by omega] at this
   have hld:ldN 5 (k*5) (H5.get b)=some (rowV (mk8 k)):=by rw[gL];exact Jrn hx
   have hbe:binS Tryz.prog .eql 60 (.tmp 64) (.tmp 66) (rowV (mk8 k)) (rowV ⟨-9,ByteArray.empty,0,k,0⟩)=some (.bool true):=eq46.trans (by rw[show (⟨-9,ByteArray.empty,0,(k:Int),0⟩:RowN)=mk8 k from rfl,J1K])
   simp only[evC,seval,↓evP,Nat.zero_add,t2,t3,t5,t6,t7,lenR,c1,J0y,J0F,cB,y1,len1,c2,Jqv,Jqe,hix,J0u,hld,hbe,hst,w1]
   exact⟨hlt1,by omega,n5,f5,fun i hi=>by rw[J05 (by omega) (Ne.symm hi)];exact o5 i hi,_,J0b rfl (by omega),by rw[List.length_set];exact lL,fun j hj=>by rw[List.getElem?_set_ne (by omega)];exact eL j (by omega)⟩
 have c1:decide ((k:Int)<((s.rows.length+9:Nat):Int))=false:=by simp;omega
 simp only[evC,seval,↓evP,Nat.zero_add,t2,t3,t5,t6,t7,lenR,c1,J0B,J0S,cA,cB,x2,y2,len2,w3,slQ]
 have gQ5:H5.get (b+1)=.row (J3S (s.queues++List.replicate 3 (ByteArray.empty,false))) 75 false false:=by rw[o5 _ (by omega)];exact gQ
 refine WK.loop (fun k s'=>s'.T.get 2=.pointer (some ⟨h.next,0,none⟩)∧s'.T.get 3=.pointer (some ⟨h.next+1,0,none⟩)∧s'.T.get 5=.bool true∧s'.T.get 8=.slice (some ⟨b+1,0,none⟩) (s.queues.length+3) (s.queues.length+3)∧s'.T.get 9=iv (k:Int)∧k≤s.queues.length+3∧s'.h.next=H4.next∧s'.h.floor=H4.floor∧(∀ i,i≠b→i≠b+1→s'.h.get i=H4.get i)∧∃ L:List (ByteArray × Bool),s'.h.get (b+1)=.row (J3S L) 75 false false∧L.length=s.queues.length+3∧∀ j,k≤j→L[j]?=(s.queues++List.replicate 3 (ByteArray.empty,false))[j]?) (s.queues.length+3) (by omega) ?_ ?_
 ·exact⟨by simp only[evC,seval,↓evP,rpC,t2],by simp only[evC,seval,↓evP,rpC,t3],by simp only[evC,seval,↓evP,rpC,t5],by simp only[evC,seval,↓evP,rpC],by simp only[evC,seval,↓evP,rpC] <;> rfl,by omega,n5,f5,fun i hi _=>o5 i hi,_,gQ5,by simp,fun _ _=>rfl⟩
 clear hk hk9 hlt1 c1 t2 t3 t5 t6 t7
 rintro k ⟨T2,H6⟩ hk ⟨t2,t3,t5,t8,t9,hk9,n6,f6,o6,Q,gQ6,lQ,eQ⟩
 simp only at t2 t3 t5 t8 t9 n6 f6 o6 gQ6
 have cB6:H6.get (h.next+1)=G.get (h.next+1):=by rw[o6 _ (by omega) (by omega),c9.2]
 by_cases hlt1:k<s.queues.length+3
 ·have c1:decide ((k:Int)<((s.queues.length+3:Nat):Int))=true:=by simp;omega
  have hix:=idxA (id:=b+1) (n:=s.queues.length+3) (c:=s.queues.length+3) (i:=k) Tryz.underlying23 sz57 hlt1
  obtain⟨x,hx⟩:∃ x,Q[k]?=some x:=⟨_,List.getElem?_eq_getElem (by omega)⟩
  obtain⟨xa,xb⟩:=Jqr hx
  have l1:ld1 (k*2+1) (H6.get (b+1))=some (.bool x.2):=by rw[gQ6];simp[ld1,xb]
  have hst:=JrV (k:=k) (a:=J9F) (b:=!x.2) gQ6 (by omega) (by omega)
  have w1:IntKind.i64.wrap ((k:Int)+1)=((k+1:Nat):Int):=J0s (by omega) (by omega)
  by_cases h2:k<s.queues.length
  ·have c2:decide ((k:Int)<(s.queues.length:Int))=true:=by simp;omega
   simp only[evC,seval,↓evP,Nat.zero_add,t2,t3,t5,t8,t9,lenQ,c1,J0B,J0S,cB6,y2,len2,c2,JiN,J1V,l1,Jqn,hix,hst,w1]
   exact⟨hlt1,by omega,n6,f6,fun i hi h1=>by rw[J05 (by omega) (Ne.symm h1)];exact o6 i hi h1,_,J0b rfl (by omega),by rw[List.length_set];exact lQ,fun j hj=>by rw[List.getElem?_set_ne (by omega)];exact eQ j (by omega)⟩
  ·have c2:decide ((k:Int)<(s.queues.length:Int))=false:=by simp;omega
   have hx0:x=(ByteArray.empty,false):=by
    rw[eQ k (Nat.le_refl _),List.getElem?_append_right (by omega),List.getElem?_replicate,if_pos (by omega)] at hx
    exact(Option.some.inj hx).symm
   subst hx0
   simp only[Bool.not_false] at hst
   have hld:ldN 2 (k*2) (H6.get (b+1))=some (.agg #[.string ByteArray.empty,.bool false]):=by
    rw[gQ6]
    exact Js1 hx
   have hbe:binS Tryz.prog .eql 75 (.tmp 98) (.tmp 99) (.agg #[.string ByteArray.empty,.bool false]) (.agg #[.string ByteArray.empty,.bool false])=some (.bool true):=eq57.trans (by rw[J34];rfl)
   simp only[evC,seval,↓evP,Nat.zero_add,t2,t3,t5,t8,t9,lenQ,c1,J0B,J0S,cB6,y2,len2,c2,JiN,J1V,J3z,l1,hld,hbe,Jr2,Jqn,hix,hst,w1]
   exact⟨hlt1,by omega,n6,f6,fun i hi h1=>by rw[J05 (by omega) (Ne.symm h1)];exact o6 i hi h1,_,J0b rfl (by omega),by rw[List.length_set];exact lQ,fun j hj=>by rw[List.getElem?_set_ne (by omega)];exact eQ j (by omega)⟩
 have c1:decide ((k:Int)<((s.queues.length+3:Nat):Int))=false:=by simp;omega
 simp only[evC,seval,↓evP,hr,t2,t3,t5,t8,t9,lenQ,c1]
 exact⟨by omega,by omega,fun i hi h1=>by rw[o6 i (by omega) (by omega),z4 i h1,gO i hi]⟩
theorem JrD {nm:ByteArray} {s:StN} {pv v:Value} {lo b:Nat} {h0:SHeap} (hL:Lent8 h b v nm s) (hp:J3x lo h0 pv nm s) (hb:h0.next≤b) (h0g:∀ i,i<h0.next→h.get i=h0.get i) (hf:h.floor≤b) (hs:JdC s) (hl:Jbg s<900000000) (hn:Jbg s+90<n) :
  ∃ h',J0T n 11 [v,pv] h=some (.bool true,h')∧(h.next≤h'.next∧h'.floor=h.floor∧∀ i,i<h.next→(i<b∨b+5<i)→h'.get i=h.get i):=by
 obtain⟨n,rfl⟩:∃ j,n=j+1:=⟨n-1,by omega⟩
 exact k_wr (J13 ⟨rfl,rfl,rfl⟩) (JqH hL hp hb h0g hf hs hl (by omega) (by omega))
end
theorem Jsw {l:List RowN}:∀ (a b p q r:Nat),J35 l a p q→J35 l b q r→J35 l (a+b) p r
 | 0,b,p,q,r,h,h2=>by
  have:p=q:=h
  subst this
  rw[Nat.zero_add]
  exact h2
 | a+1,b,p,q,r,⟨p',h1,h3,h4,h5⟩,h2=>by
  rw[show a+1+b=(a+b)+1 by omega]
  exact⟨p',h1,h3,h4,Jsw a b p' q r h5 h2⟩
section
variable {call:J0r} {N:Nat} {h:SHeap}
set_option maxHeartbeats 4000000 in
theorem Jts {Z L:List RowN} {v:Value} {at_ q:Nat} (hsk:Jkk L Z) (hv:J0l h v L) (hs:SubT Z at_ q) (hlen:L.length<1099511627776) (hN:L.length+3<N) :
  J0L Tryz.prog call N 60 [v,iv at_] h=some (iv q,h):=by
 refine J1m Tryz.func60 rfl (by simp[Tryz.f60]) ?_
 have hr:Tryz.f60.results.toList=[.tmp 4]:=rfl
 have hl:=fun h'=>hv.len (h':=h')
 have hq:=hs.lt
 have hZ:=hsk.1
 simp only[evC,seval,↓evP,rpC,hr]
 refine WK.loop (fun i s'=>s'.h=h∧s'.T.get 0=v∧s'.T.get 1=iv ((at_+i:Nat):Int)∧∃ r:Nat,s'.T.get 5=iv r∧J35 Z r (at_+i) q) (q-at_) (by omega) ?_ ?_
 ·exact⟨rfl,by simp only[evC,seval,↓evP,rpC],by simp only[evC,seval,↓evP,rpC,Nat.add_zero],1,by simp only[evC,seval,↓evP,rpC],q,hs,hq.1,hq.2,rfl⟩
 rintro i ⟨T1,H1⟩ hi ⟨rfl,t0,t1,r,t5,hc⟩
 simp only at t0 t1 t5
 cases r with
 | zero=>
  have hpq:at_+i=q:=hc
  have c1:decide (((0:Nat):Int)>0)=false:=rfl
  rw[hpq] at t1
  simp only[evC,seval,↓evP,rpC,hr,t0,t1,t5,c1]
 | succ r=>
  obtain⟨p',h1,h2,h3,h4⟩:=hc
  have hle:=J2o _ _ _ h4
  have c1:decide (((r+1:Nat):Int)>0)=true:=decide_eq_true (by omega)
  have c2:decide (((at_+i:Nat):Int)≥0)=true:=decide_eq_true (by omega)
  have c3:decide (((at_+i:Nat):Int)<(L.length:Int))=true:=by simp;omega
  obtain⟨x,hx,hk0,_,hch⟩:=h1.kids
  obtain⟨y,hy,hyk⟩:=hsk.2 _ x hx
  obtain⟨id,p,e0,hid,l0,l1,l2,l3,l4,lr⟩:=hv.row hy
  rw[hyk] at l4
  have hcl:=J2o _ _ _ hch
  have m1:(if (L.length:Int)<x.kids then (L.length:Int) else x.kids)=x.kids:=if_neg (by omega)
  have m2:(if x.kids>0 then x.kids else 0)=x.kids:=by split <;> omega
  have w1:IntKind.i64.wrap (x.kids-1)=x.kids-1:=J0s (by omega) (by omega)
  have w2:IntKind.i64.wrap (((r+1:Nat):Int)+(x.kids-1))=((x.kids.toNat+r:Nat):Int):=by rw[J0s (by omega) (by omega)];omega
  have w3:IntKind.i64.wrap (((at_+i:Nat):Int)+1)=((at_+(i+1):Nat):Int):=by rw[J0s (by omega) (by omega)];omega
  simp only[evC,seval,↓evP,rpC,t0,t1,t5,c1,c2,hl,c3,e0,l4,m1,m2,w1,w2,w3]
  exact⟨by omega,_,rfl,Jsw _ _ _ _ _ hch h4⟩
theorem Jua {n:Nat} {Z L:List RowN} {v:Value} {at_ q:Nat} (hsk:Jkk L Z) (hv:J0l h v L) (hs:SubT Z at_ q) (hlen:L.length<1099511627776) (hn:L.length+5<n) :
  J0T n 60 [v,iv at_] h=some (iv q,h):=by
 obtain⟨n,rfl⟩:∃ j,n=j+1:=⟨n-1,by omega⟩
 exact J6r (J13 ⟨rfl,rfl,rfl⟩) rfl (Jts hsk hv hs hlen (by omega))
def Js9 (e:Nat→Nat):Nat→Nat→List Nat
 | 0,_=>[]
 | k+1,p=>p :: Js9 e k (e p)
theorem Jsg {e:Nat→Nat}:∀ k p,(Js9 e k p).length=k
 | 0,p=>rfl
 | k+1,p=>by show (Js9 e k (e p)).length+1=_;rw[Jsg k (e p)]
def IntL (h:SHeap) (lo:Nat) (v:Value) (l:List Int):Prop:=
 (v=.slice none 0 0∧l=[])∨∃ id c,v=.slice (some ⟨id,0,none⟩) l.length c∧lo≤id∧id<h.next∧((c=unk∧h.get id=.row (ints l) 3 true false)∨(c=l.length∧h.get id=.row (ints l) 3 false false))
theorem IntL.ints {lo lo':Nat} {v:Value} {l:List Int} (hl:IntL h lo v l) (hle:lo'≤lo):J1S lo' h v l:=by
 rcases hl with⟨rfl,rfl⟩ | ⟨id,c,rfl,h1,h2,⟨_,h3⟩ | ⟨_,h3⟩⟩
 ·exact J0p.nil lo' h 1
 ·exact J1S.row' h3 ⟨by omega,h2⟩ rfl
 ·exact J1S.row' h3 ⟨by omega,h2⟩ rfl
theorem IntL.mono {h':SHeap} {lo:Nat} {v:Value} {l:List Int} (hl:IntL h lo v l) (hn:h.next≤h'.next) (hg:∀ i,lo≤i→i<h.next→h'.get i=h.get i):IntL h' lo v l:=by
 rcases hl with h1 | ⟨id,c,h1,h2,h3,h4⟩
 ·exact .inl h1
 ·exact .inr ⟨id,c,h1,h2,by omega,by rw[hg id h2 h3];exact h4⟩
theorem Jte:(Value.int .i64 0).cells.size=1:=rfl
theorem JsR {lo:Nat} {v:Value} {l:List Int} {x:Int} (hl:IntL h lo v l) (hlo:lo≤h.next) (hf:h.floor≤lo) (hb:l.length<100000000000) :
  ∃ v' h',J1o Tryz.prog (h.push (.row [iv x] 3 false false)) 25 v (.slice (some ⟨h.next,0,none⟩) 1 1)=some (v',h')∧IntL h' lo v' (l++[x])∧h'.floor=h.floor∧h.next≤h'.next∧∀ i,i<lo→h'.get i=h.get i:=by
 have hsrc:J16 (h.push (.row [iv x] 3 false false)) 1 1 (.slice (some ⟨h.next,0,none⟩) 1 1)=some [iv x]:=by
  simp only[J16,J0h]
  rfl
 have hone:([iv x]:List Value).all one=true:=rfl
 have hi1:ints (l++[x])=ints l++[iv x]:=by simp[ints]
 rcases hl with⟨rfl,rfl⟩ | ⟨id,c,rfl,h1,h2,h3⟩
 ·have hnu:(0:Nat)≠unk:=by unfold unk;omega
  refine⟨.slice (some ⟨(h.push (.row [iv x] 3 false false)).next,0,none⟩) 1 unk,(h.push (.row [iv x] 3 false false)).push (.row [iv x] 3 true false),?_,.inr ⟨_,unk,rfl,?_,?_,.inl ⟨rfl,J0h⟩⟩,rfl,by show h.next≤h.next+1+1;omega,fun i hi=>?_⟩
  ·have h0:J16 (h.push (.row [iv x] 3 false false)) 1 0 (.slice none 0 0)=some []:=by simp[J16]
   simp only[J1o,Tryz.underlying25,sz3,by3,J8P,Jte,hsrc,hone,h0]
   rw[if_pos (by simp),if_pos trivial,if_neg hnu,if_neg (by omega),if_pos (by simp)]
   rfl
  ·show lo≤h.next+1;omega
  ·show h.next+1<h.next+1+1;omega
  ·rw[J06 (by show i<h.next+1;omega),J06 (by omega)]
 ·have hll:(ints l).length=l.length:=J1h l
  rcases h3 with⟨rfl,hg⟩ | ⟨rfl,hg⟩
  ·have hu:l.length≤unk:=by unfold unk;omega
   have hg':(h.push (.row [iv x] 3 false false)).get id=.row (ints l) 3 true false:=by rw[J06 h2];exact hg
   have hcut:cut (ints l) 0 (l.length*1)=some (ints l):=by
    simp only[cut,List.drop_zero]
    rw[List.take_of_length_le (by omega),if_pos (by omega)]
   refine⟨.slice (some ⟨(h.push (.row [iv x] 3 false false)).next,0,none⟩) (l.length+1) unk,((h.push (.row [iv x] 3 false false)).put id .dead).push (.row (ints l++[iv x]) 3 true false),?_,.inr ⟨_,unk,by rw[List.length_append];rfl,?_,?_,.inl ⟨rfl,?_⟩⟩,rfl,by show h.next≤h.next+1+1;omega,fun i hi=>?_⟩
   ·simp only[J1o,Tryz.underlying25,sz3,by3,J8P,Jte,hsrc,hone,hg',hcut,J5u]
    rw[if_pos (by simp;omega),if_pos trivial,if_pos trivial,if_pos (by rw[J0i,decide_eq_true (show (l.length+1)*8≤140737488355328 by omega),decide_eq_true (show l.length+1≤140737488355328 by omega),decide_eq_true (show h.floor≤id by omega)];rfl),if_neg (by decide),if_pos trivial,if_pos trivial]
   ·show lo≤h.next+1;omega
   ·show h.next+1<h.next+1+1;omega
   ·rw[hi1]
    exact J0h
   ·rw[J06 (by show i<h.next+1;omega),J05 (by show id<h.next+1;omega) (by omega),J06 (by omega)]
  ·have hcut:J16 (h.push (.row [iv x] 3 false false)) 1 l.length (.slice (some ⟨id,0,none⟩) l.length l.length)=some (ints l):=by
    by_cases h0:l.length=0
    ·rw[List.length_eq_zero_iff.1 h0]
     rfl
    ·simp only[J16,J06 h2,hg,cut,List.drop_zero]
     rw[if_neg h0,List.take_of_length_le (by omega),if_pos (by omega)]
   refine⟨.slice (some ⟨(h.push (.row [iv x] 3 false false)).next,0,none⟩) (l.length+1) unk,(h.push (.row [iv x] 3 false false)).push (.row (ints l++[iv x]) 3 true false),?_,.inr ⟨_,unk,by rw[List.length_append];rfl,?_,?_,.inl ⟨rfl,?_⟩⟩,rfl,by show h.next≤h.next+1+1;omega,fun i hi=>?_⟩
   ·simp only[J1o,Tryz.underlying25,sz3,by3,J8P,Jte,hsrc,hone,hcut]
    rw[if_pos (by simp),if_pos trivial,if_neg (by unfold unk;omega),if_neg (by omega),if_pos (by simp only[Bool.and_eq_true,decide_eq_true_eq];omega)]
   ·show lo≤h.next+1;omega
   ·show h.next+1<h.next+1+1;omega
   ·rw[hi1]
    exact J0h
   ·rw[J06 (by show i<h.next+1;omega),J06 (by omega)]
set_option maxHeartbeats 8000000 in
theorem Jtg {n:Nat} {Z L:List RowN} {v:Value} {at_:Nat} {x:RowN} (ht:J2c Z) (hsk:Jkk L Z) (hv:J0l h v L) (hx:Z[at_]?=some x) (hlen:L.length<100000000) (hn:L.length+10<n) (hN:L.length+3<N) (hfl:h.floor≤h.next) :
  ∃ v' h',J0L Tryz.prog (J0T n) N 31 [v,iv at_] h=some (v',h')∧(IntL h' h.next v' ((Js9 (endN Z) x.kids.toNat (at_+1)).map (fun (k:Nat)=>(k:Int)))∧h'.floor=h.floor∧h.next≤h'.next∧∀ i,i<h.next→h'.get i=h.get i):=by
 refine J65 (R:=fun v' h'=>IntL h' h.next v' ((Js9 (endN Z) x.kids.toNat (at_+1)).map (fun (k:Nat)=>(k:Int)))∧h'.floor=h.floor∧h.next≤h'.next∧∀ i,i<h.next→h'.get i=h.get i) Tryz.func31 rfl (by simp[Tryz.f31]) ?_
 have hr:Tryz.f31.results.toList=[.tmp 4]:=rfl
 have hl:=fun (h':SHeap)=>hv.len (h':=h')
 have hal:=(List.getElem?_eq_some_iff.1 hx).1
 have hZ:=hsk.1
 have hs:=ht.end hal
 obtain⟨x',hx',hk0,_,hch⟩:=hs.kids
 rw[hx] at hx'
 cases hx'
 have hq:=hs.lt
 have hcl:=J2o _ _ _ hch
 obtain⟨y,hy,hyk⟩:=hsk.2 _ x hx
 obtain⟨id,p,e0,hid,l0,l1,l2,l3,l4,lr⟩:=hv.row hy
 rw[hyk] at l4
 have c1:decide ((at_:Int)<0)=false:=by simp
 have c2:decide ((at_:Int)≥(L.length:Int))=false:=by simp;omega
 have w1:IntKind.i64.wrap ((at_:Int)+1)=((at_+1:Nat):Int):=J0s (by omega) (by omega)
 simp only[evC,seval,↓evP,rpC,hr,c1,hl,c2,w1,e0,l4]
 refine WK.loop (fun i s'=>s'.T.get 0=v∧s'.T.get 21=iv x.kids∧s'.T.get 22=iv i∧i≤x.kids.toNat∧h.next≤s'.h.next∧s'.h.floor=h.floor∧(∀ j,j<h.next→s'.h.get j=h.get j)∧∃ p l w,s'.T.get 6=iv ((p:Nat):Int)∧s'.T.get 5=w∧IntL s'.h h.next w (l.map (fun (k:Nat)=>(k:Int)))∧l.length=i∧l++Js9 (endN Z) (x.kids.toNat-i) p=Js9 (endN Z) x.kids.toNat (at_+1)∧J35 Z (x.kids.toNat-i) p (endN Z at_)) x.kids.toNat (by omega) ?_ ?_
 ·exact⟨by simp only[evC,seval,↓evP,rpC],by simp only[evC,seval,↓evP,rpC],by simp only[evC,seval,↓evP,rpC],by omega,Nat.le_refl _,rfl,fun _ _=>rfl,at_+1,[],.slice none 0 0,by simp only[evC,seval,↓evP,rpC],by simp only[evC,seval,↓evP,rpC],.inl ⟨rfl,rfl⟩,rfl,rfl,hch⟩
 rintro i ⟨T1,H1⟩ hi ⟨t0,t21,t22,hil,m1,m2,m3,p,l,w,t6,t5,hL,hll,hlk,hc⟩
 simp only at t0 t21 t22 m1 m2 m3 t6 t5 hL
 by_cases hlt:i<x.kids.toNat
 ·have d1:decide ((i:Int)<x.kids)=true:=by simp;omega
  obtain⟨r,hr1⟩:∃ r,x.kids.toNat-i=r+1:=⟨x.kids.toNat-i-1,by omega⟩
  rw[hr1] at hc hlk
  obtain⟨p',s1,s2,s3,s4⟩:=hc
  have hle:=J2o _ _ _ s4
  have d2:decide ((p:Int)≥(L.length:Int))=false:=by simp;omega
  have hep:=J5P s1
  obtain⟨w',H',happ,hL',fH,nH,oH⟩:=JsR (x:=(p:Int)) hL m1 (by omega) (by rw[List.length_map];omega)
  have hvH:J0l H' v L:=hv.mono (by omega) fun j hj=>(oH j hj).trans (m3 j hj)
  have hend:=Jua (n:=n) hsk hvH s1 (by omega) (by omega)
  have w2:IntKind.i64.wrap ((i:Int)+1)=((i+1:Nat):Int):=J0s (by omega) (by omega)
  simp only[evC,seval,↓evP,t0,t21,t22,t5,t6,d1,hl,d2,bs28,happ,hend,w2]
  refine⟨hlt,by omega,by omega,by omega,fun j hj=>(oH j hj).trans (m3 j hj),p',l++[p],w',rfl,rfl,?_,by rw[List.length_append,hll];rfl,?_,?_⟩
  ·rw[List.map_append]
   exact hL'
  ·rw[List.append_assoc,← hlk,show x.kids.toNat-(i+1)=r by omega]
   show l++(p :: Js9 (endN Z) r p')=l++(p :: Js9 (endN Z) r (endN Z p))
   rw[hep]
  ·rw[show x.kids.toNat-(i+1)=r by omega]
   exact s4
 ·have d1:decide ((i:Int)<x.kids)=false:=by simp;omega
  rw[show x.kids.toNat-i=0 by omega] at hlk
  have hl9:l=Js9 (endN Z) x.kids.toNat (at_+1):=by
   rw[← hlk]
   exact(List.append_nil l).symm
  subst hl9
  simp only[evC,seval,↓evP,hr,t0,t21,t22,t5,t6,d1]
  exact⟨hL,m2,m1,m3⟩
theorem IntL.flat {lo:Nat} {v:Value} {l:List Int} (hl:IntL h lo v l) (hf:J3m v=true) (h':SHeap) (lo':Nat):IntL h' lo' v l:=by
 rcases hl with h1 | ⟨id,c,rfl,_⟩
 ·exact .inl h1
 ·cases hf
theorem Ju7 {n:Nat} {Z L:List RowN} {v:Value} {at_:Nat} {x:RowN} (ht:J2c Z) (hsk:Jkk L Z) (hv:J0l h v L) (hx:Z[at_]?=some x) (hlen:L.length<100000000) (hn:L.length+20<n) (hfl:h.floor≤h.next) :
  ∃ v' h',J0T n 31 [v,iv at_] h=some (v',h')∧(IntL h' h.next v' ((Js9 (endN Z) x.kids.toNat (at_+1)).map (fun (k:Nat)=>(k:Int)))∧h'.floor=h.floor∧h.next≤h'.next∧∀ i,i<h.next→h'.get i=h.get i):=by
 obtain⟨n,rfl⟩:∃ j,n=j+1:=⟨n-1,by omega⟩
 exact k_ex (J13 ⟨rfl,rfl,rfl⟩) (Jtg (n:=n) (N:=n) ht hsk hv hx hlen (by omega) (by omega) hfl) fun v' h1 hf _ ht=>⟨ht.1.flat hf _ _,rfl,Nat.le_refl _,fun _ _=>rfl⟩
end
section
variable {l:List RowN} {m:Nat}
theorem JsE {p:Nat} {what:Int} (h:(rowN J09 l m p what).2=true):∃ y:RowN,l[p]?=some y∧J1l what y.kind=true∧fitN J09 y=true:=by
 cases m with
 | zero=>cases h
 | succ m=>
  unfold rowN at h
  cases hx:l[p]? with
  | none=>rw[hx] at h;cases h
  | some y=>
   rw[hx] at h
   simp only at h
   split at h
   ·rename_i hc
    rw[Bool.and_eq_true] at hc
    exact⟨y,rfl,hc.1,hc.2⟩
   ·cases h
theorem Jti {κ:Int}:∀ r k p q,J2r (fun k next=>rowN J09 l m next (J0A κ k)) r k p=(q,true)→∀ (j p':Nat),(Js9 (endN l) r p)[j]?=some p'→∃ y:RowN,l[p']?=some y∧J1l (J0A κ (k+j)) y.kind=true:=by
 intro r
 induction r with
 | zero=>intro k p q _ j p' h;simp[Js9] at h
 | succ r ih=>
  intro k p q h j p' hj
  unfold J2r at h
  split at h
  ·rename_i hc
   have he:endN l p=(rowN J09 l m p (J0A κ k)).1:=J5P (.inl ⟨m,J0A κ k,Prod.ext rfl hc⟩)
   cases j with
   | zero=>
    have:p=p':=by simpa [Js9] using hj
    subst this
    obtain⟨y,h1,h2,_⟩:=JsE hc
    exact⟨y,h1,h2⟩
   | succ j=>
    have hj':(Js9 (endN l) r (endN l p))[j]?=some p':=by simpa [Js9] using hj
    rw[he] at hj'
    have:=ih (k+1) _ _ h j p' hj'
    rwa [show k+1+j=k+(j+1) by omega] at this
  ·cases h
theorem Jtr:∀ (r:Nat) (ev:Bool) (p q:Nat),polN J09 l m r ev p=(q,true)→∀ (j p':Nat),(Js9 (endN l) r p)[j]?=some p'→∃ y:RowN,l[p']?=some y∧2≤y.kind∧y.kind≤10:=by
 intro r
 induction r with
 | zero=>intro k p q _ j p' h;simp[Js9] at h
 | succ r ih=>
  intro ev p q h j p' hj
  unfold polN at h
  split at h
  ·rename_i hc
   have he:endN l p=(rowN J09 l m p (J3J ev l[p]?)).1:=J5P (.inl ⟨m,_,Prod.ext rfl hc⟩)
   cases j with
   | zero=>
    have:p=p':=by simpa [Js9] using hj
    subst this
    obtain⟨y,h1,h2,_⟩:=JsE hc
    refine⟨y,h1,?_⟩
    unfold J3J at h2
    split at h2
    ·unfold J1l at h2
     simp at h2
     omega
    ·unfold J1l at h2
     simp at h2
     omega
   | succ j=>
    have hj':(Js9 (endN l) r (endN l p))[j]?=some p':=by simpa [Js9] using hj
    rw[he] at hj'
    exact ih _ _ _ h j p' hj'
  ·cases h
theorem J2c.kid {i:Nat} {x:RowN} (ht:J2c l) (hx:l[i]?=some x) {k p:Nat} (hk:(Js9 (endN l) x.kids.toNat (i+1))[k]?=some p):∃ y:RowN,l[p]?=some y∧(J1l (J0A x.kind k) y.kind=true∨(2≤y.kind∧y.kind≤10)):=by
 obtain⟨q,hq⟩:∃ q,SubT l i q:=⟨_,ht.end (List.getElem?_eq_some_iff.1 hx).1⟩
 rcases hq with⟨m,what,h⟩ | ⟨rfl,m,h⟩
 ·cases m with
  | zero=>cases h
  | succ m=>
   unfold rowN at h
   rw[hx] at h
   simp only at h
   split at h
   ·obtain⟨y,h1,h2⟩:=Jti _ _ _ _ h k p hk
    rw[Nat.zero_add] at h2
    exact⟨y,h1,.inl h2⟩
   ·cases h
 ·unfold topN at h
  rw[hx] at h
  simp only at h
  split at h
  ·obtain⟨y,h1,h2⟩:=Jtr _ _ _ _ h k p hk
   exact⟨y,h1,.inr h2⟩
  ·cases h
theorem J2c.fit {i:Nat} {x:RowN} (ht:J2c l) (hx:l[i]?=some x):fitN J09 x=true:=by
 obtain⟨q,hq⟩:∃ q,SubT l i q:=⟨_,ht.end (List.getElem?_eq_some_iff.1 hx).1⟩
 rcases hq with⟨m,what,h⟩ | ⟨rfl,m,h⟩
 ·obtain⟨y,h1,_,h3⟩:=JsE (congrArg (·.2) h)
  rw[hx] at h1
  cases h1
  exact h3
 ·unfold topN at h
  rw[hx] at h
  simp only at h
  split at h
  ·rename_i hc
   rw[Bool.and_eq_true] at hc
   exact hc.2
  ·cases h
theorem J2c.place {i:Nat} {x y:RowN} (ht:J2c l) (hx:l[i]?=some x) {k p:Nat} (hk:(Js9 (endN l) x.kids.toNat (i+1))[k]?=some p) (hy:l[p]?=some y) (hp:y.kind=24):p=i+1∧(x.kind=19∨x.kind=20):=by
 obtain⟨y',h1,h2⟩:=ht.kid hx hk
 rw[hy] at h1
 cases h1
 have hf:=ht.fit hx
 unfold fitN at hf
 simp only[Bool.and_eq_true,decide_eq_true_eq,Bool.or_eq_true] at hf
 obtain⟨⟨_,hl⟩,hm⟩:=hf
 have h19:x.kind=19∨x.kind=20:=by
  rcases h2 with h2 | h2
  ·rw[hp] at h2
   unfold J0A at h2
   by_cases e1:x.kind=19
   ·exact .inl e1
   ·by_cases e2:x.kind=20
    ·exact .inr e2
    ·exfalso
     have c6:([19,20]:List Int).contains x.kind=false:=by simp[e1,e2]
     rw[c6] at h2
     (repeat' split at h2) <;> first | (simp[J1l] at h2;done) | simp_all [J1l]
  ·omega
 have hm1:x.kids≤1:=by
  rcases h19 with e | e <;> (rw[e] at hm;rcases hm with hm | hm <;> simp[J1r] at hm <;> omega)
 have hkl:=(List.getElem?_eq_some_iff.1 hk).1
 rw[Jsg] at hkl
 have hk0:k=0:=by omega
 subst hk0
 obtain⟨r,hr⟩:∃ r,x.kids.toNat=r+1:=⟨x.kids.toNat-1,by omega⟩
 rw[hr] at hk
 have:i+1=p:=by simpa [Js9] using hk
 exact⟨this.symm,h19⟩
theorem Jt7:∀ (r p q:Nat),J35 l r p q→∀ at_,p≤at_→at_<q→∃ (j p':Nat),(Js9 (endN l) r p)[j]?=some p'∧p≤p'∧p'≤at_∧at_<endN l p':=by
 intro r
 induction r with
 | zero=>intro p q h at_ h1 h2;have:p=q:=h;omega
 | succ r ih=>
  intro p q ⟨p',s1,s2,s3,s4⟩ at_ h1 h2
  have he:=J5P s1
  rcases Nat.lt_or_ge at_ p' with h3 | h3
  ·exact⟨0,p,by simp[Js9],Nat.le_refl _,h1,by omega⟩
  ·obtain⟨j,p2,j1,j2,j3,j4⟩:=ih p' q s4 at_ h3 h2
   refine⟨j+1,p2,?_,by omega,j3,j4⟩
   show (p :: Js9 (endN l) r (endN l p))[j+1]?=_
   rw[he]
   exact j1
theorem J2c.kidOf (ht:J2c l):∀ (n i at_:Nat),at_≤i+n→i<at_→at_<endN l i→i<l.length→∃ (j:Nat) (x:RowN) (k:Nat),l[j]?=some x∧j<at_∧(Js9 (endN l) x.kids.toNat (j+1))[k]?=some at_:=by
 intro n
 induction n with
 | zero=>intro i at_ h1 h2;omega
 | succ n ih=>
  intro i at_ h1 h2 h3 h4
  obtain⟨x,hx,_,_,hc⟩:=(ht.end h4).kids
  obtain⟨j,p,j1,j2,j3,j4⟩:=Jt7 _ _ _ hc at_ (by omega) h3
  rcases Nat.lt_or_ge p at_ with h5 | h5
  ·have hpl:p<l.length:=by
    obtain⟨y,hy,_⟩:=ht.kid hx j1
    exact(List.getElem?_eq_some_iff.1 hy).1
   exact ih p at_ (by omega) h5 j4 hpl
  ·obtain rfl:p=at_:=by omega
   exact⟨i,x,j,hx,h2,j1⟩
end
def typN (k:Int):Int:=
 if [27,28,31,32,33,34,38,39,40,41,43,44,45,46].contains k then 1 else if [29,30,35,36,37,42,47,48,49,50,51,52,53,54].contains k then 2 else 0
def Js8 (kind:Int) (k:Nat) (first:Int):Int:=
 if [4,5,14,41,39,40,43,44,45,46,49,50,51,52].contains kind then 1 else if kind=15 then (if k=1 then 1 else 0) else if [6,42,53,54].contains kind then 2
 else if kind=12 then (if k=0 then 2 else 0) else if kind=13 then (if k=0 then 1 else if k=1 then 2 else 0) else if [47,48].contains kind then (if k=1 then first else 0) else 0
def Jsi (k:Int):Bool:=[28,31,34,35,36,37,38].contains k
def Jsn (kind:Int) (k:Nat):Bool:=[4,5,6].contains kind||(kind==13&&k==0)
def Jsl (Q:List (ByteArray × Bool)) (n:Int):Bool:=((Q[n.toNat]?).map (·.2)).getD false
def Jse (Q:List (ByteArray × Bool)) (x up:RowN):Bool:=
 if [8,17,20].contains x.kind then Jsl Q x.n else if [9,21].contains x.kind then !(Jsl Q x.n)
 else if x.kind=24 then (if up.kind=20 then !(Jsl Q x.n) else Jsl Q x.n != Jsl Q up.n) else false
structure MkT where
 A:List Int
 C:List Bool
 U:List Int
def Jsf (i:Nat) (x:RowN) (first:Int) (s:MkT) (k p:Nat):MkT:=⟨s.A.set p (Js8 x.kind k first),s.C.set p (((s.C[i]?).getD false)||Jsn x.kind k),s.U.set p (i:Int)⟩
def setL (i:Nat) (x:RowN) (first:Int):Nat→List Nat→MkT→MkT
 | _,[],s=>s
 | k,p :: ps,s=>setL i x first (k+1) ps (Jsf i x first s k p)
def Jsq (R:List RowN) (e:Nat→Nat) (i:Nat) (s:MkT):MkT:=match R[i]? with
 | none=>s
 | some x=>setL i x (typN (((R[i+1]?).map (·.kind)).getD 0)) 0 (Js9 e x.kids.toNat (i+1)) s
def Js7 (R:List RowN) (e:Nat→Nat):Nat→MkT
 | 0=>⟨List.replicate R.length 0,List.replicate R.length false,List.replicate R.length 0⟩
 | i+1=>Jsq R e i (Js7 R e i)
def badN (R:List RowN) (Q:List (ByteArray × Bool)) (s:MkT) (i:Nat) (x:RowN):Int:=
 if ((s.A[i]?).getD 0)≠0∧typN x.kind≠(s.A[i]?).getD 0 then 41 else if ((s.C[i]?).getD false&&Jsi x.kind)=true then 42
 else if Jse Q x ((R[((s.U[i]?).getD 0).toNat]?).getD ⟨0,ByteArray.empty,0,0,0⟩)=true then 46 else 0
def Jsa (R:List RowN) (Q:List (ByteArray × Bool)) (e:Nat→Nat):Nat→Nat→(Int × Int) × List Int
 | 0,_=>((0,0),R.map (typN ·.kind))
 | r+1,i=>match R[i]? with
  | none=>((0,0),R.map (typN ·.kind))
  | some x=>if badN R Q (Js7 R e i) i x≠0 then ((badN R Q (Js7 R e i) i x,(i:Int)),[]) else Jsa R Q e r (i+1)
section
variable {i:Nat} {x:RowN} {first:Int}
theorem Jss:∀ (ps:List Nat) (k:Nat) (s:MkT),(setL i x first k ps s).A.length=s.A.length∧(setL i x first k ps s).C.length=s.C.length∧(setL i x first k ps s).U.length=s.U.length
 | [],k,s=>⟨rfl,rfl,rfl⟩
 | p :: ps,k,s=>by
  have:=Jss ps (k+1) (Jsf i x first s k p)
  simpa [setL,Jsf] using this
theorem Jsr:∀ (ps:List Nat) (k:Nat) (s:MkT) (q:Nat),q∉ps→(setL i x first k ps s).A[q]?=s.A[q]?∧(setL i x first k ps s).C[q]?=s.C[q]?∧(setL i x first k ps s).U[q]?=s.U[q]?
 | [],k,s,q,_=>⟨rfl,rfl,rfl⟩
 | p :: ps,k,s,q,h=>by
  have h1:q≠p:=fun e=>h (by rw[e];exact List.mem_cons_self)
  have h2:q∉ps:=fun e=>h (List.mem_cons_of_mem _ e)
  obtain⟨a,b,c⟩:=Jsr ps (k+1) (Jsf i x first s k p) q h2
  refine⟨a.trans ?_,b.trans ?_,c.trans ?_⟩
  ·exact List.getElem?_set_ne (Ne.symm h1)
  ·exact List.getElem?_set_ne (Ne.symm h1)
  ·exact List.getElem?_set_ne (Ne.symm h1)
theorem JtG:∀ (ps:List Nat) (k:Nat) (s:MkT) (q:Nat),q∈ps→q<s.U.length→(setL i x first k ps s).U[q]?=some (i:Int)
 | [],k,s,q,h,_=>by cases h
 | p :: ps,k,s,q,h,hq=>by
  by_cases h2:q∈ps
  ·exact JtG ps (k+1) (Jsf i x first s k p) q h2 (by simpa [Jsf] using hq)
  ·have h1:q=p:=by
    rcases List.mem_cons.1 h with h | h
    ·exact h
    ·exact absurd h h2
   subst h1
   exact(Jsr ps (k+1) (Jsf i x first s k q) q h2).2.2.trans (List.getElem?_set_self hq)
end
theorem JsG {l:List RowN}:∀ r p q,J35 l r p q→∀ z∈Js9 (endN l) r p,p≤z
 | 0,p,q,_,z,hz=>by cases hz
 | r+1,p,q,⟨p',s1,s2,s3,s4⟩,z,hz=>by
  have hz':z=p∨z∈Js9 (endN l) r (endN l p):=by simpa [Js9] using hz
  rcases hz' with rfl | hz'
  ·exact Nat.le_refl _
  ·rw[J5P s1] at hz'
   have:=JsG r p' q s4 z hz'
   omega
section
variable {R:List RowN}
theorem Jsk (e:Nat→Nat):∀ i,(Js7 R e i).A.length=R.length∧(Js7 R e i).C.length=R.length∧(Js7 R e i).U.length=R.length
 | 0=>by simp[Js7]
 | i+1=>by
  have h:=Jsk e i
  unfold Js7 Jsq
  cases hx:R[i]? with
  | none=>exact h
  | some x=>
   have:=Jss (i:=i) (x:=x) (first:=typN (((R[i+1]?).map (·.kind)).getD 0)) (Js9 e x.kids.toNat (i+1)) 0 (Js7 R e i)
   exact⟨this.1.trans h.1,this.2.1.trans h.2.1,this.2.2.trans h.2.2⟩
theorem JsC (ht:J2c R) {i:Nat}:∀ j,i≤j→(Js7 R (endN R) j).A[i]?=(Js7 R (endN R) i).A[i]?∧(Js7 R (endN R) j).C[i]?=(Js7 R (endN R) i).C[i]?∧(Js7 R (endN R) j).U[i]?=(Js7 R (endN R) i).U[i]?:=by
 intro j
 induction j with
 | zero=>
  intro h
  have:i=0:=by omega
  subst this
  exact⟨rfl,rfl,rfl⟩
 | succ j ih=>
  intro h
  rcases Nat.lt_or_ge j i with h1 | h1
  ·obtain rfl:i=j+1:=by omega
   exact⟨rfl,rfl,rfl⟩
  ·have h2:=ih h1
   have h3:(Js7 R (endN R) (j+1)).A[i]?=(Js7 R (endN R) j).A[i]?∧(Js7 R (endN R) (j+1)).C[i]?=(Js7 R (endN R) j).C[i]?∧(Js7 R (endN R) (j+1)).U[i]?=(Js7 R (endN R) j).U[i]?:=by
    have hs:Js7 R (endN R) (j+1)=Jsq R (endN R) j (Js7 R (endN R) j):=rfl
    rw[hs]
    unfold Jsq
    cases hx:R[j]? with
    | none=>exact⟨rfl,rfl,rfl⟩
    | some x=>
     simp only
     obtain⟨y,hy,_,_,hc⟩:=(ht.end (List.getElem?_eq_some_iff.1 hx).1).kids
     rw[hx] at hy
     cases hy
     exact Jsr _ 0 _ i fun hm=>by
      have:=JsG _ _ _ hc i hm
      omega
   exact⟨h3.1.trans h2.1,h3.2.1.trans h2.2.1,h3.2.2.trans h2.2.2⟩
theorem JsK (ht:J2c R) {at_:Nat} {y:RowN} (hy:R[at_]?=some y) (h24:y.kind=24) (h0:0<at_):(Js7 R (endN R) at_).U[at_]?=some ((at_-1:Nat):Int):=by
 have hl:=(List.getElem?_eq_some_iff.1 hy).1
 have h0l:endN R 0=R.length:=J5P ht
 obtain⟨j,x,k,hx,hj,hk⟩:=ht.kidOf at_ 0 at_ (by omega) h0 (by omega) (by omega)
 obtain⟨hp,_⟩:=ht.place hx hk hy h24
 obtain⟨i,rfl⟩:∃ i,at_=i+1:=⟨at_-1,by omega⟩
 obtain rfl:j=i:=by omega
 rw[Nat.add_sub_cancel]
 unfold Js7 Jsq
 rw[hx]
 exact JtG _ 0 _ _ (List.mem_of_getElem? hk) (by rw[(Jsk (endN R) j).2.2];exact hl)
end
end Go.Proofs.YtdejoodfeljmkaaGreatDoor
