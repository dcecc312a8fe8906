/- Part 15 of what the claim leans on: 6 texts laid one behind another. -/
import Derived.Test.YtdejoodfeljmkaaGreatDoorTC14
namespace Go.Proofs.YtdejoodfeljmkaaGreatDoor
open Go Go.Sx
set_option maxRecDepth 100000
set_option linter.unusedSimpArgs false
set_option linter.unusedVariables false
set_option maxHeartbeats 64000000
def inL:Code→Code
 | .loop c=>c
 | .block _ c=>c
 | c=>c
noncomputable def b84:Code:=Tryz.f116.body.getD .skip
noncomputable def LB84:Code:=inL (inL (rt (lf (rt (rt (rt b84))))))
noncomputable def BB84:Code:=inL (lf (rt LB84))
noncomputable def X1:Code:=rt BB84
noncomputable def X2:Code:=rt X1
noncomputable def X3:Code:=rt X2
noncomputable def X4:Code:=rt X3
noncomputable def X5:Code:=rt X4
noncomputable def X6:Code:=rt X5
def Jgi (i:Nat) (f:Frame):Prop:=(1≤f.kind∧f.kind≤54)∧0<f.left∧(f.kind=1∨f.kind=11∨(f.next:Int)+f.left≤J1r f.kind)∧f.left≤9223372036854775807∧f.next≤i
theorem J6I {k:Int} {j:Nat}:J3q (J0A k j)=J0A k j∧J4C (J0A k j):=by
 unfold J0A
 (repeat' split) <;> exact⟨rfl,by unfold J4C;omega⟩
theorem JeM {f:Frame} {s:List Frame}:kidR f.kind f.next=J3q (J60 (f :: s)):=by
 show _=J3q (if f.kind=1 then 9 else J0A f.kind f.next)
 unfold kidR
 split
 ·rfl
 ·exact J6I.1.symm
theorem JaY {s:List Frame}:J4C (J60 s):=by
 cases s with
 | nil=>exact .inl rfl
 | cons f s=>
  show J4C (if f.kind=1 then 9 else J0A f.kind f.next)
  split
  ·exact .inr (.inl rfl)
  ·exact J6I.2
theorem JdW {w:Int} (h:J4C w):(J3q w==1)=decide (w=9):=by
 rcases h with rfl | rfl | rfl | rfl | rfl | rfl | rfl | rfl <;> rfl
section
variable {call:J0r} {n:Nat}
def B84 (h:SHeap) (v:Value) (i:Nat) (T:Tr) (H:SHeap) (s:List Frame) (ev:Bool):Prop:=
 T.get 0=v∧T.get 5=iv i∧T.get 4=.bool ev∧J2U h.next H (T.get 3) s∧H.floor=h.floor∧h.next≤H.next∧∀ j,j<h.next→H.get j=h.get j
structure Calls84 (call:J0r):Prop where
 kid:∀ (κ:Int) (j:Nat) h,1≤κ∧κ≤54→(κ=1∨κ=11∨(j:Int)<J1r κ)→call 125 [iv κ,iv j] h=some (iv (kidR κ j),h)
 right:∀ w (x:RowN) h,J4C w→call 126 [rowV x,iv (J3q w)] h=some (.bool (J1c w x.kind&&fitN J09 x),h)
 decl:∀ k h,call 127 [iv k] h=some (.bool (J1l 0 k),h)
 event:∀ k h,call 128 [iv k] h=some (.bool (J1l 1 k),h)
theorem JaS {h:SHeap} {v:Value} {i:Nat} {T:Tr} {H:SHeap} {s:List Frame} {ev:Bool} {k:Kont} (hc:Calls84 call) (hB:B84 h v i T H s ev) (hfl:h.floor≤h.next) (hs:s.length<1000000000) (hi:i<1000000000) (hok:∀ f s',s=f :: s'→Jgi i f)
  (hk:∀ T' H',B84 h v i T' H' (decF s) ev→T'.get 6=iv (J3q (J60 s))→WK Tryz.prog call n X2 ⟨T',H'⟩ k):WK Tryz.prog call n BB84 ⟨T,H⟩ k:=by
 obtain⟨t0,t5,t4,hst,hf,hn,hold⟩:=hB
 show WK _ _ _ (.seq _ (.seq _ X2)) _ _
 have hlen:=fun h'=>hst.len (h':=h')
 cases s with
 | nil=>
  have c0:decide (((([]:List Frame).length:Nat):Int)>0)=false:=rfl
  simp only[evC,seval,↓evP,rpC,t0,t5,t4,hlen,c0]
  refine hk _ _ ⟨?_,?_,?_,?_,hf,hn,hold⟩ ?_
  ·simp only[evC,seval,↓evP,rpC,t0]
  ·simp only[evC,seval,↓evP,rpC,t5]
  ·simp only[evC,seval,↓evP,rpC,t4]
  ·simp only[evC,seval,↓evP,rpC];exact hst
  ·simp only[evC,seval,↓evP,rpC];rfl
 | cons f s0=>
  obtain⟨id,ex,hvs,hg,hid,hidn⟩:=hst.top
  have c0:decide (((s0.length+1:Nat):Int)>0)=true:=by simp
  have w1:IntKind.i64.wrap (((s0.length+1:Nat):Int)-1)=(s0.length:Int):=by rw[J0s (by simp only[List.length_cons] at *;omega) (by simp only[List.length_cons] at *;omega)];simp
  have ix:∀ {n c},s0.length<n→J0R Tryz.prog 138 (qS id n c) (iv (s0.length:Int))=some (.pointer (some ⟨id,s0.length*3,none⟩)):=fun h=>idxO h
  have ix':=ix (n:=s0.length+1) (c:=unk) (by omega)
  obtain⟨c1,c2,c3,c4⟩:=J8f (s:=s0) (f:=f) (ex:=ex) (ty:=140) (g:=true) (ro:=false)
  have okf:=hok f s0 rfl
  have hkid:=fun hh=>hc.kid f.kind f.next hh okf.1 (by
   rcases okf.2.2.1 with h | h | h
   ·exact .inl h
   ·exact .inr (.inl h)
   ·exact .inr (.inr (by have:=okf.2.1;omega)))
  have hflT:(H.floor≤H.next)=True:=by simp;omega
  have hltT:(H.next<H.next+1)=True:=by simp
  simp only[evC,seval,↓evP,rpC,t0,t5,t4,hvs,lenO,c0,w1,ix',hg,c1,c2,c3,c4,JhB,Je7,J97,J79,Ji8,Jfd,hflT,hltT,Jaa,J6c,J9Z]
  have hgH:((H.push (.row [iv 0,iv 0,iv 0] 140 false false)).put H.next (.row [iv f.kind,iv (f.left:Int),iv (f.next:Int)] 140 false false)).get id=.row (J1L s0++(fr3 f++ex)) 140 true false:=by
   rw[J05 (by show H.next<H.next+1;omega) (by omega),J06 hidn];exact hg
  have hnH:((H.push (.row [iv 0,iv 0,iv 0] 140 false false)).put H.next (.row [iv f.kind,iv (f.left:Int),iv (f.next:Int)] 140 false false)).next=H.next+1:=rfl
  have hfH:((H.push (.row [iv 0,iv 0,iv 0] 140 false false)).put H.next (.row [iv f.kind,iv (f.left:Int),iv (f.next:Int)] 140 false false)).floor=h.floor:=hf
  have hoH:∀ j,j<h.next→((H.push (.row [iv 0,iv 0,iv 0] 140 false false)).put H.next (.row [iv f.kind,iv (f.left:Int),iv (f.next:Int)] 140 false false)).get j=h.get j:=fun j hj=>by
   rw[J05 (by show H.next<H.next+1;omega) (by omega),J06 (by omega)];exact hold j hj
  generalize (H.push (.row [iv 0,iv 0,iv 0] 140 false false)).put H.next (.row [iv f.kind,iv (f.left:Int),iv (f.next:Int)] 140 false false)=H1 at *
  have okl:=okf.2.2.2
  have ok0:=okf.2.1
  have hll:=J3t s0
  have w2:IntKind.i64.wrap ((f.next:Int)+1)=((f.next+1:Nat):Int):=J0s (by omega) (by omega)
  have w3:IntKind.i64.wrap ((f.left:Int)-1)=((f.left-1:Nat):Int):=by rw[J0s (by omega) (by omega)];omega
  have sa:=st1 (x:=((f.next+1:Nat):Int)) (off:=s0.length*3+2) hgH (by simp[fr3];omega) (by omega)
  rw[Jeg] at sa
  have hgH2:(H1.put id (.row (J1L s0++(fr3 ⟨f.kind,f.left,f.next+1⟩++ex)) 140 true false)).get id=.row (J1L s0++(fr3 ⟨f.kind,f.left,f.next+1⟩++ex)) 140 true false:=J0b rfl (by omega)
  obtain⟨_,d2,_,_⟩:=J8f (s:=s0) (f:=⟨f.kind,f.left,f.next+1⟩) (ex:=ex) (ty:=140) (g:=true) (ro:=false)
  have sb:=st1 (h:=H1.put id (.row (J1L s0++(fr3 ⟨f.kind,f.left,f.next+1⟩++ex)) 140 true false)) (x:=((f.left-1:Nat):Int)) (off:=s0.length*3+1) hgH2 (by simp[fr3];omega) (by show H1.floor≤id;omega)
  rw[Jfg] at sb
  simp only[evC,seval,↓evP,rpD,J0G,J29,J0X,J2t,hkid,t0,t5,t4,hvs,lenO,w1,w2,w3,ix',hgH,hgH2,c1,c2,c3,d2,Jaa,J6c,J9Z,sa,sb]
  have hnp:((H1.put id (.row (J1L s0++(fr3 ⟨f.kind,f.left,f.next+1⟩++ex)) 140 true false)).put id (.row (J1L s0++(fr3 ⟨f.kind,f.left-1,f.next+1⟩++ex)) 140 true false)).next=H1.next:=rfl
  refine hk _ _ ⟨?_,?_,?_,?_,hfH,?_,fun j hj=>?_⟩ ?_
  ·simp only[evC,seval,↓evP,rpC,t0]
  ·simp only[evC,seval,↓evP,rpC,t5]
  ·simp only[evC,seval,↓evP,rpC,t4]
  ·simp only[evC,seval,↓evP,rpC,hvs]
   refine .inr ⟨id,ex,by rw[decF];rfl,?_,hid,by rw[hnp];omega⟩
   rw[J0b rfl (by show id<H1.next;omega),decF,J1L,List.append_assoc]
  ·rw[hnp];omega
  ·rw[J05 (by show id<H1.next;omega) (by omega),J05 (by omega) (by omega)];exact hoH j hj
  ·simp only[evC,seval,↓evP,rpC];rw[← JeM]
theorem Jab {h:SHeap} {v:Value} {i:Nat} {T:Tr} {H:SHeap} {s:List Frame} {ev:Bool} {k:Kont} {l:List RowN} {w:Int} (hc:Calls84 call) (hv:J0l h v l) (hB:B84 h v i T H s ev) (hw:J4C w) (h6:T.get 6=iv (J3q w))
  (hbad:(l[i]?=none∨∃ x,l[i]?=some x∧(J1c w x.kind&&fitN J09 x)=false)→∀ T':Tr,T'.get 2=iv i→k.ap Tryz.prog call n .ret ⟨T',H⟩)
  (hgood:∀ x,l[i]?=some x→(J1c w x.kind&&fitN J09 x)=true→∀ T':Tr,B84 h v i T' H s ev→T'.get 6=iv (J3q w)→WK Tryz.prog call n X3 ⟨T',H⟩ k):WK Tryz.prog call n X2 ⟨T,H⟩ k:=by
 have hB':=hB
 obtain⟨t0,t5,t4,hst,hf,hn,hold⟩:=hB
 have hvH:J0l H v l:=hv.mono hn hold
 have hl22:∀ h',lenS Tryz.prog h' 22 v=some (.int .i64 l.length):=fun h'=>hv.len
 show WK _ _ _ (.seq _ X3) _ _
 by_cases hi:i<l.length
 ·obtain⟨x,hx⟩:∃ x,l[i]?=some x:=⟨_,List.getElem?_eq_getElem hi⟩
  have c1:decide ((i:Int)≥(l.length:Int))=false:=by simp;omega
  obtain⟨id,q,e0,hid,l0,l1,l2,l3,l4,lr⟩:=hvH.row hx
  have hr:=fun hh=>hc.right w x hh hw
  cases d:(J1c w x.kind&&fitN J09 x) with
  | false=>
   rw[d] at hr
   simp only[evC,seval,↓evP,rpC,t0,t5,h6,hl22,c1,e0,lr,hr]
   exact hbad (.inr ⟨x,hx,d⟩) _ (by simp only[evC,seval,↓evP,rpC])
  | true=>
   rw[d] at hr
   simp only[evC,seval,↓evP,rpC,t0,t5,h6,hl22,c1,e0,lr,hr]
   refine hgood x hx d _ ⟨?_,?_,?_,?_,hf,hn,hold⟩ ?_
   ·simp only[evC,seval,↓evP,rpC,t0]
   ·simp only[evC,seval,↓evP,rpC,t5]
   ·simp only[evC,seval,↓evP,rpC,t4]
   ·simp only[evC,seval,↓evP,rpC];exact hst
   ·simp only[evC,seval,↓evP,rpC,h6]
 ·have c1:decide ((i:Int)≥(l.length:Int))=true:=by simp;omega
  simp only[evC,seval,↓evP,rpC,t0,t5,h6,hl22,c1]
  exact hbad (.inl (List.getElem?_eq_none (by omega))) _ (by simp only[evC,seval,↓evP,rpC])
theorem JaC {h:SHeap} {v:Value} {i:Nat} {T:Tr} {H:SHeap} {s:List Frame} {ev:Bool} {k:Kont} {l:List RowN} {w:Int} {x:RowN} (hc:Calls84 call) (hv:J0l h v l) (hB:B84 h v i T H s ev) (hw:J4C w) (h6:T.get 6=iv (J3q w)) (hx:l[i]?=some x)
  (hbad:w=9∧ev=true∧J1l 0 x.kind=true→∀ T':Tr,T'.get 2=iv i→k.ap Tryz.prog call n .ret ⟨T',H⟩)
  (hgood:¬ (w=9∧ev=true∧J1l 0 x.kind=true)→∀ T':Tr,B84 h v i T' H s (if w=9 then ev||J1l 1 x.kind else ev)→WK Tryz.prog call n X4 ⟨T',H⟩ k):WK Tryz.prog call n X3 ⟨T,H⟩ k:=by
 obtain⟨t0,t5,t4,hst,hf,hn,hold⟩:=hB
 have hvH:J0l H v l:=hv.mono hn hold
 obtain⟨id,q,e0,hid,l0,l1,l2,l3,l4,lr⟩:=hvH.row hx
 have hd:=hc.decl x.kind
 have he:=hc.event x.kind
 have hw1:=JdW hw
 show WK _ _ _ (.seq _ X4) _ _
 by_cases h9:w=9
 ·subst h9
  have c9:(J3q 9==1)=true:=rfl
  have done:∀ ev':Bool,(ev||J1l 1 x.kind)=ev'→¬ ((9:Int)=9∧ev=true∧J1l 0 x.kind=true)→∀ T':Tr,T'.get 0=v→T'.get 5=iv i→T'.get 4=.bool ev'→T'.get 3=T.get 3→WK Tryz.prog call n X4 ⟨T',H⟩ k:=fun ev' e1 e2 T' u0 u5 u4 u3=>hgood e2 T' ⟨u0,u5,by rw[if_pos rfl,e1];exact u4,by rw[u3];exact hst,hf,hn,hold⟩
  cases ev with
  | true=>
   cases d0:J1l 0 x.kind with
   | true=>
    rw[d0] at hd
    simp only[evC,seval,↓evP,rpC,t0,t5,t4,h6,c9,e0,l0,hd]
    exact hbad ⟨rfl,rfl,d0⟩ _ (by simp only[evC,seval,↓evP,rpC])
   | false=>
    rw[d0] at hd done
    simp only[evC,seval,↓evP,rpC,t0,t5,t4,h6,c9,e0,l0,hd,he]
    refine done true rfl (by simp) _ ?_ ?_ ?_ ?_ <;> simp only[evC,seval,↓evP,rpC,t0,t5,t4]
  | false=>
   simp only[evC,seval,↓evP,rpC,t0,t5,t4,h6,c9,e0,l0,hd,he]
   refine done (J1l 1 x.kind) (Bool.false_or _) (by simp) _ ?_ ?_ ?_ ?_ <;> simp only[evC,seval,↓evP,rpC,t0,t5,t4]
 ·have c9:(J3q w==1)=false:=by rw[hw1,decide_eq_false h9]
  simp only[evC,seval,↓evP,rpC,t0,t5,t4,h6,c9]
  refine hgood (fun h=>h9 h.1) _ ⟨?_,?_,?_,?_,hf,hn,hold⟩
  ·simp only[evC,seval,↓evP,rpC,t0]
  ·simp only[evC,seval,↓evP,rpC,t5]
  ·simp only[evC,seval,↓evP,rpC,t4,h9]
  ·simp only[evC,seval,↓evP,rpC];exact hst
end
section
variable {call:J0r} {n:Nat}
theorem Ji2 {h:SHeap} {v:Value} {i:Nat} {T:Tr} {H:SHeap} {s:List Frame} {ev:Bool} {k:Kont} {l:List RowN} {x:RowN} (hv:J0l h v l) (hB:B84 h v i T H s ev) (hx:l[i]?=some x) (hkid:0≤x.kids) (hfl:h.floor≤h.next) (hs:s.length<1000000000)
  (hk:∀ T' H',B84 h v i T' H' (⟨x.kind,x.kids.toNat,0⟩ :: s) ev→WK Tryz.prog call n X5 ⟨T',H'⟩ k):WK Tryz.prog call n X4 ⟨T,H⟩ k:=by
 obtain⟨t0,t5,t4,hst,hf,hn,hold⟩:=hB
 have hvH:J0l H v l:=hv.mono hn hold
 obtain⟨id,q,e0,hid,l0,l1,l2,l3,l4,lr⟩:=hvH.row hx
 obtain⟨v',H',ha,hst',hf',hn',hold'⟩:=J8Z (a:=x.kind) (b:=x.kids) (c:=0) (f:=⟨x.kind,x.kids.toNat,0⟩) (by simp only[fr3,Int.toNat_of_nonneg hkid];rfl) hst (by omega) hn hs
 show WK _ _ _ (.seq (.region _ _ true) X5) _ _
 rw[J4p]
 refine WK.quiet (by kernel_rfl) ?_
 simp only[evC,seval,↓evP,rpC,t0,t5,t4,e0,l0,l4,Jif,bsO,ha]
 refine hk _ _ ⟨?_,?_,?_,?_,by omega,by omega,fun j hj=>by rw[hold' j hj];exact hold j hj⟩
 ·simp only[evC,seval,↓evP,rpC,t0]
 ·simp only[evC,seval,↓evP,rpC,t5]
 ·simp only[evC,seval,↓evP,rpC,t4]
 ·simp only[evC,seval,↓evP,rpC];exact hst'
theorem Jaw:∀ s:List Frame,(popF s).length≤s.length
 | []=>Nat.le_refl _
 | f :: s=>by
  by_cases h0:f.left=0
  ·rw[J43 h0];have:=Jaw s;simp only[List.length_cons];omega
  ·rw[J4X h0];exact Nat.le_refl _
theorem J2U.tail {m:Nat} {h:SHeap} {f:Frame} {s:List Frame} {v:Value} (hs:J2U m h v (f :: s)):∃ id,v=qS id (s.length+1) unk∧J2U m h (qS id s.length unk) s:=by
 obtain⟨id,ex,h1,h2,h3,h4⟩:=hs.top
 exact⟨id,h1,.inr ⟨id,fr3 f++ex,rfl,h2,h3,h4⟩⟩
theorem JhD {h:SHeap} {v:Value} {i:Nat} {T:Tr} {H:SHeap} {s:List Frame} {ev:Bool} {k:Kont} (hB:B84 h v i T H s ev) (hs:s.length<1000000000) (hn0:s.length<n)
  (hk:∀ T',B84 h v i T' H (popF s) ev→WK Tryz.prog call n X6 ⟨T',H⟩ k):WK Tryz.prog call n X5 ⟨T,H⟩ k:=by
 obtain⟨t0,t5,t4,hst,hf,hn,hold⟩:=hB
 show WK _ _ _ (.seq (.block _ (.loop _)) X6) _ _
 rw[J4p,Jaj]
 refine WK.loop (fun j st=>st.h=H∧st.T.get 0=v∧st.T.get 5=iv i∧st.T.get 4=.bool ev∧∃ s',J2U h.next H (st.T.get 3) s'∧popF s'=popF s∧s'.length+j≤s.length) s.length hn0 ⟨rfl,t0,t5,t4,s,hst,rfl,by omega⟩ ?_
 rintro j ⟨T1,H1⟩ hj ⟨rfl,u0,u5,u4,s',hst',hp,hl⟩
 simp only at u0 u5 u4 hst'
 have fin:popF s'=s'→∀ T':Tr,T'.get 0=v→T'.get 5=iv i→T'.get 4=.bool ev→T'.get 3=T1.get 3→WK Tryz.prog call n X6 ⟨T',H1⟩ k:=fun e T' w0 w5 w4 w3=>hk T' ⟨w0,w5,w4,by rw[w3,← hp,e];exact hst',hf,hn,hold⟩
 cases s' with
 | nil=>
  have hlen:=fun h'=>hst'.len (h':=h')
  have c0:decide (((([]:List Frame).length:Nat):Int)>0)=false:=rfl
  simp only[evC,seval,↓evP,rpC,u0,u5,u4,hlen,c0]
  refine fin rfl _ ?_ ?_ ?_ ?_ <;> simp only[evC,seval,↓evP,rpC,u0,u5,u4]
 | cons f s0=>
  obtain⟨id,ex,hvs,hg,hid,hidn⟩:=hst'.top
  obtain⟨id',hvs',htl⟩:=hst'.tail
  have:id'=id:=by
   rw[hvs] at hvs'
   simp only[Value.slice.injEq,Option.some.injEq,Addr.mk.injEq,and_true] at hvs'
   exact hvs'.symm
  subst this
  simp only[List.length_cons] at hl
  have c0:decide (((s0.length+1:Nat):Int)>0)=true:=by simp
  have w1:IntKind.i64.wrap (((s0.length+1:Nat):Int)-1)=(s0.length:Int):=by rw[J0s (by omega) (by omega)];omega
  have ix':J0R Tryz.prog 138 (qS id' (s0.length+1) unk) (iv (s0.length:Int))=some (.pointer (some ⟨id',s0.length*3,none⟩)):=idxO (by omega)
  obtain⟨c1,c2,c3,c4⟩:=J8f (s:=s0) (f:=f) (ex:=ex) (ty:=140) (g:=true) (ro:=false)
  by_cases h0:f.left=0
  ·have c5:((f.left:Int)==0)=true:=by rw[h0];rfl
   have hsl:=Jhj (id:=id') (h:=H1) (n:=s0.length+1) (k:=s0.length) (by omega)
   simp only[evC,seval,↓evP,rpC,u0,u5,u4,hvs,lenO,c0,w1,ix',hg,c2,J6c,c5,hsl]
   exact⟨by omega,s0,htl,by rw[← hp,J43 h0],by omega⟩
  ·have c5:((f.left:Int)==0)=false:=by rw[beq_eq_false_iff_ne];omega
   simp only[evC,seval,↓evP,rpC,u0,u5,u4,hvs,lenO,c0,w1,ix',hg,c2,J6c,c5]
   refine fin (J4X h0) _ ?_ ?_ ?_ ?_ <;> simp only[evC,seval,↓evP,rpC,u0,u5,u4,hvs]
theorem Ji9 {h:SHeap} {v:Value} {i:Nat} {T:Tr} {H:SHeap} {s:List Frame} {ev:Bool} {k:Kont} {l:List RowN} (hv:J0l h v l) (hB:B84 h v i T H s ev) (hi:i<1000000000)
  (hbad:s=[]→i+1<l.length→∀ T':Tr,T'.get 2=iv ((i+1:Nat):Int)→k.ap Tryz.prog call n .ret ⟨T',H⟩)
  (hgood:¬ (s=[]∧i+1<l.length)→∀ T':Tr,B84 h v i T' H s ev→k.ap Tryz.prog call n .normal ⟨T',H⟩):WK Tryz.prog call n X6 ⟨T,H⟩ k:=by
 obtain⟨t0,t5,t4,hst,hf,hn,hold⟩:=hB
 have hl22:∀ h',lenS Tryz.prog h' 22 v=some (.int .i64 l.length):=fun h'=>hv.len
 have hlen:=fun h'=>hst.len (h':=h')
 have w1:IntKind.i64.wrap ((i:Int)+1)=((i+1:Nat):Int):=J0s (by omega) (by omega)
 show WK _ _ _ (.seq _ _) _ _
 have fin:¬ (s=[]∧i+1<l.length)→∀ T':Tr,T'.get 0=v→T'.get 5=iv i→T'.get 4=.bool ev→T'.get 3=T.get 3→k.ap Tryz.prog call n .normal ⟨T',H⟩:=fun e T' w0 w5 w4 w3=>hgood e T' ⟨w0,w5,w4,by rw[w3];exact hst,hf,hn,hold⟩
 by_cases h0:s=[]
 ·have c0:((s.length:Int)==0)=true:=by rw[h0];rfl
  by_cases h1:i+1<l.length
  ·have c1:decide (((i+1:Nat):Int)<(l.length:Int))=true:=by simp only[decide_eq_true_eq];omega
   simp only[evC,seval,↓evP,rpC,t0,t5,t4,hlen,hl22,c0,w1,c1]
   exact hbad h0 h1 _ (by simp only[evC,seval,↓evP,rpC])
  ·have c1:decide (((i+1:Nat):Int)<(l.length:Int))=false:=by simp only[decide_eq_false_iff_not];omega
   simp only[evC,seval,↓evP,rpC,t0,t5,t4,hlen,hl22,c0,w1,c1]
   refine fin (fun h=>h1 h.2) _ ?_ ?_ ?_ ?_ <;> simp only[evC,seval,↓evP,rpC,t0,t5,t4]
 ·have c0:((s.length:Int)==0)=false:=by
   rw[beq_eq_false_iff_ne]
   have:s.length≠0:=fun h=>h0 (List.length_eq_zero_iff.1 h)
   omega
  simp only[evC,seval,↓evP,rpC,t0,t5,t4,hlen,hl22,c0,w1]
  refine fin (fun h=>h0 h.1) _ ?_ ?_ ?_ ?_ <;> simp only[evC,seval,↓evP,rpC,t0,t5,t4]
def FrOK (i:Nat) (f:Frame):Prop:=(1≤f.kind∧f.kind≤54)∧(f.kind=1∨f.kind=11∨(f.next:Int)+f.left≤J1r f.kind)∧f.left≤9223372036854775807∧f.next≤i
theorem JaI:∀ {s:List Frame} {f:Frame},f∈popF s→f∈s
 | [],f,h=>h
 | g :: s,f,h=>by
  by_cases h0:g.left=0
  ·rw[J43 h0] at h
   exact List.mem_cons_of_mem _ (JaI h)
  ·rw[J4X h0] at h
   exact h
theorem Ja2:∀ {s:List Frame} {f:Frame} {s':List Frame},popF s=f :: s'→f.left≠0
 | [],f,s',h=>by cases h
 | g :: s,f,s',h=>by
  by_cases h0:g.left=0
  ·rw[J43 h0] at h
   exact Ja2 h
  ·rw[J4X h0] at h
   cases h
   exact h0
theorem Jgy {i:Nat} {s:List Frame} (hs:∀ f∈s,FrOK i f) (ht:∀ f s',s=f :: s'→f.left≠0):∀ f∈decF s,FrOK (i+1) f:=by
 cases s with
 | nil=>intro f hf;cases hf
 | cons g s=>
  intro f hf
  rcases List.mem_cons.1 hf with rfl | hf
  ·obtain⟨h1,h2,h3,h4⟩:=hs g (by simp)
   have:=ht g s rfl
   refine⟨h1,?_,by simp only;omega,by simp only;omega⟩
   rcases h2 with h2 | h2 | h2
   ·exact .inl h2
   ·exact .inr (.inl h2)
   ·exact .inr (.inr (by simp only;omega))
  ·obtain⟨h1,h2,h3,h4⟩:=hs f (List.mem_cons_of_mem _ hf)
   exact⟨h1,h2,h3,by omega⟩
theorem J64 (s:List Frame):(decF s).length=s.length:=by cases s <;> rfl
theorem JeP {x:RowN} (h:fitN J09 x=true):0≤x.kids∧(x.kind=1∨x.kind=11∨x.kids≤J1r x.kind):=by
 unfold fitN at h
 simp only[Bool.and_eq_true,Bool.or_eq_true,decide_eq_true_eq] at h
 have:=J4a x.kind
 refine⟨by omega,?_⟩
 by_cases h1:x.kind=1
 ·exact .inl h1
 ·by_cases h2:x.kind=11
  ·exact .inr (.inl h2)
  ·have hm:0≤J1r x.kind:=by
    unfold J1r
    have e:([1,11]:List Int).contains x.kind=false:=by simp[h1,h2]
    rw[e]
    simp only[Bool.false_eq_true,if_false]
    (repeat' split) <;> omega
   omega
theorem J9r {w k:Int} (h:J1c w k=true):1≤k∧k≤54:=J5Z h
theorem JbO {l:List RowN} {v:Value} {h:SHeap} (hc:Calls84 call) (hv:J0l h v l) (hlen:l.length<900000000) (hn:l.length+3<n) (hfl:h.floor≤h.next) (h64:∀ x∈l,x.kids≤9223372036854775807) :
  ∃ h',J0L Tryz.prog call n 116 [v] h=some (iv (match J2L J09 l with | some p=>(p:Int) | none=>-1),h')∧∀ i,i<h.next→h'.get i=h.get i:=by
 refine J1N (R:=fun h'=>∀ i,i<h.next→h'.get i=h.get i) Tryz.func116 rfl (by simp[Tryz.f116]) ?_
 have hr:Tryz.f116.results.toList=[.tmp 2]:=rfl
 have hl22:∀ h',lenS Tryz.prog h' 22 v=some (.int .i64 l.length):=fun h'=>hv.len
 have hsim:=Jdd (isName:=J09) (l:=l) (M:=l.length+1) (by omega)
 generalize J2L J09 l=R at *
 simp only[evC,seval,↓evP,rpC,hr]
 refine WK.loop (fun j st=>∃ s ev,B84 h v j st.T st.h s ev∧s.length≤j∧(∀ f∈s,FrOK j f)∧(∀ f s',s=f :: s'→f.left≠0)∧(((s≠[]∨j=0)∧runM (isName:=J09) l (l.length+1-j) j s ev=R)∨(s=[]∧0<j∧R=none))) l.length (by omega) ?_ ?_
 ·refine⟨[],false,⟨?_,?_,?_,?_,rfl,Nat.le_refl _,fun _ _=>rfl⟩,Nat.le_refl _,(fun f hf=>by cases hf),(fun f s' hf=>by cases hf),.inl ⟨.inr rfl,hsim⟩⟩
  ·simp only[evC,seval,↓evP,rpC]
  ·simp only[evC,↓reduceIte,Nat.reduceEqDiff,reduceCtorEq,↓evP,rpC,Nat.reduceAdd,Nat.reduceLT];rfl
  ·simp only[evC,seval,↓evP,rpC]
  ·simp only[evC,seval,↓evP,rpC];exact .inl ⟨rfl,rfl⟩
 ·rintro j ⟨T1,H1⟩ hj ⟨s,ev,hB,hsl,hok,htop,hrun⟩
  have hB':=hB
  obtain⟨t0,t5,t4,hst,hf,hnx,hold⟩:=hB
  simp only at t0 t5 t4 hst hf hnx hold
  have hlenS:=fun h'=>hst.len (h':=h')
  have w1:IntKind.i64.wrap ((j:Int)+1)=((j+1:Nat):Int):=J0s (by omega) (by omega)
  -- the end: no row is open
  by_cases hend:s=[]∧0<j
  ·obtain⟨rfl,hj0⟩:=hend
   have hRn:R=none:=by
    rcases hrun with⟨h1 | h1,_⟩ | ⟨_,_,h1⟩
    ·exact absurd rfl h1
    ·omega
    ·exact h1
   subst hRn
   have c0:((j:Int)==0)=false:=by rw[beq_eq_false_iff_ne];omega
   have c1:decide (((([]:List Frame).length:Nat):Int)>0)=false:=rfl
   simp only[evC,seval,↓evP,rpC,hr,t0,t5,t4,hlenS,c0,c1]
   exact hold
  ·have hrun':runM (isName:=J09) l (l.length+1-j) j s ev=R:=by
    rcases hrun with⟨_,h1⟩ | ⟨h1,h2,_⟩
    ·exact h1
    ·exact absurd ⟨h1,h2⟩ hend
   obtain⟨m,hm⟩:∃ m,l.length+1-j=m+1:=⟨l.length-j,by omega⟩
   rw[hm,runM] at hrun'
   have head:∀ (c:Code) (k:Kont),(∀ T':Tr,B84 h v j T' H1 s ev→WK Tryz.prog call n (.block 1 BB84) ⟨T',H1⟩ (.seq c k))→WK Tryz.prog call n (lf LB84) ⟨T1,H1⟩ (.seq (.seq (.block 1 BB84) c) k):=fun c k hk=>by
    show WK _ _ _ (.seq _ (.cond _ _ _)) _ _
    by_cases hj0:j=0
    ·have c0:((j:Int)==0)=true:=by rw[hj0];rfl
     simp only[evB,seval,↓evP,rpC,t0,t5,t4,hlenS,c0]
     refine hk _ ⟨?_,?_,?_,?_,hf,hnx,hold⟩
     ·simp only[evC,seval,↓evP,rpC,t0]
     ·simp only[evC,seval,↓evP,rpC,t5]
     ·simp only[evC,seval,↓evP,rpC,t4]
     ·simp only[evC,seval,↓evP,rpC];exact hst
    ·have c0:((j:Int)==0)=false:=by rw[beq_eq_false_iff_ne];omega
     have hs0:s.length≠0:=fun e=>hend ⟨List.length_eq_zero_iff.1 e,by omega⟩
     have c1:decide (((s.length:Nat):Int)>0)=true:=by simp only[decide_eq_true_eq];omega
     simp only[evB,seval,↓evP,rpC,t0,t5,t4,hlenS,c0,c1]
     refine hk _ ⟨?_,?_,?_,?_,hf,hnx,hold⟩
     ·simp only[evC,seval,↓evP,rpC,t0]
     ·simp only[evC,seval,↓evP,rpC,t5]
     ·simp only[evC,seval,↓evP,rpC,t4]
     ·simp only[evC,seval,↓evP,rpC];exact hst
   show WK _ _ _ (.seq (lf LB84) (.seq (.block 1 BB84) _)) _ _
   rw[J4p]
   refine head _ _ fun T2 hB2=>?_
   rw[Jaj]
   refine JaS hc hB2 hfl (by omega) (by omega) (fun f s' he=>?_) fun T3 H3 hB3 h6=>?_
   ·have h1:=hok f (by rw[he];simp)
    have h2:=htop f s' he
    exact⟨h1.1,by omega,h1.2.1,h1.2.2.1,h1.2.2.2⟩
   have old3:=hB3.2.2.2.2.2.2
   refine Jab hc hv hB3 JaY h6 (fun hb T4 u2=>?_) fun x hx hgood T4 hB4 h6'=>?_
   ·have hR:R=some j:=by
     rw[← hrun']
     rcases hb with hb | ⟨x,hx,hb⟩
     ·simp only[J5e,hb]
     ·simp only[J5e,hx,hb,Bool.false_eq_true,if_false]
    subst hR
    simp only[evC,seval,↓evP,rpC,hr,u2]
    exact old3
   refine JaC hc hv hB4 JaY h6' hx (fun hb T5 u2=>?_) fun hb T5 hB5=>?_
   ·have hR:R=some j:=by
     rw[← hrun']
     simp only[J5e,hx,hgood,if_true]
     rw[if_pos hb]
    subst hR
    simp only[evC,seval,↓evP,rpC,hr,u2]
    exact old3
   have hjl:j<l.length:=(List.getElem?_eq_some_iff.1 hx).1
   have hg:=Bool.and_eq_true_iff.1 hgood
   obtain⟨hk0,hk1⟩:=JeP hg.2
   have hkk:=J9r hg.1
   have hx64:=h64 x (List.mem_of_getElem? hx)
   refine Ji2 hv hB5 hx hk0 hfl (by rw[J64];omega) fun T6 H6 hB6=>?_
   refine JhD hB6 (by simp only[List.length_cons,J64];omega) (by simp only[List.length_cons,J64];omega) fun T7 hB7=>?_
   have old7:=hB7.2.2.2.2.2.2
   simp only[J5e,hx,hgood,if_true] at hrun'
   rw[if_neg hb] at hrun'
   have hplen:=Jaw (⟨x.kind,x.kids.toNat,0⟩ :: decF s)
   simp only[List.length_cons,J64] at hplen
   have hdec:=Jgy hok htop
   have hall:∀ f∈popF (⟨x.kind,x.kids.toNat,0⟩ :: decF s),FrOK (j+1) f:=fun f hf=>by
    rcases List.mem_cons.1 (JaI hf) with rfl | hf
    ·refine⟨hkk,?_,by simp only;omega,by simp only;omega⟩
     rcases hk1 with h | h | h
     ·exact .inl h
     ·exact .inr (.inl h)
     ·exact .inr (.inr (by simp only;omega))
    ·exact hdec f hf
   have htop':∀ f s',popF (⟨x.kind,x.kids.toNat,0⟩ :: decF s)=f :: s'→f.left≠0:=fun f s' he=>Ja2 he
   generalize popF (⟨x.kind,x.kids.toNat,0⟩ :: decF s)=s2 at *
   generalize (if J60 s=9 then ev||J1l 1 x.kind else ev)=ev2 at *
   simp only at hrun'
   refine Ji9 hv hB7 (by omega) (fun e1 e2 T8 u2=>?_) fun e1 T8 hB8=>?_
   ·rw[if_pos e1,if_pos e2] at hrun'
    subst hrun'
    simp only[evC,seval,↓evP,rpC,hr,u2]
    exact old7
   ·obtain⟨y0,y5,y4,yst,yf,yn,yold⟩:=hB8
    simp only[evC,↓reduceIte,Nat.reduceEqDiff,reduceCtorEq,↓evP,rpC,Nat.reduceAdd,Nat.reduceLT,y5,w1]
    refine⟨hjl,s2,ev2,⟨?_,?_,?_,?_,yf,yn,yold⟩,by omega,hall,htop',?_⟩
    ·simp only[evC,↓reduceIte,Nat.reduceEqDiff,reduceCtorEq,↓evP,rpC,Nat.reduceAdd,Nat.reduceLT,y0]
    ·simp only[evC,↓reduceIte,Nat.reduceEqDiff,reduceCtorEq,↓evP,rpC,Nat.reduceAdd,Nat.reduceLT]
    ·simp only[evC,↓reduceIte,Nat.reduceEqDiff,reduceCtorEq,↓evP,rpC,Nat.reduceAdd,Nat.reduceLT,y4]
    ·simp only[evC,↓reduceIte,Nat.reduceEqDiff,reduceCtorEq,↓evP,rpC,Nat.reduceAdd,Nat.reduceLT];exact yst
    ·by_cases h0:s2=[]
     ·refine .inr ⟨h0,by omega,?_⟩
      rw[if_pos h0,if_neg (fun h=>e1 ⟨h0,h⟩)] at hrun'
      exact hrun'.symm
     ·rw[if_neg h0] at hrun'
      refine .inl ⟨.inl h0,?_⟩
      rw[show l.length+1-(j+1)=m by omega]
      exact hrun'
end
theorem J8M (k:Int) (h:SHeap):L0 127 [iv k] h=some (.bool (decide (k≥2)&&decide (k≤7)),h):=J0I rfl rfl rfl rfl ⟨_,J9H⟩
theorem J6Y (k:Int) (h:SHeap):L0 128 [iv k] h=some (.bool (J0E k),h):=J0I rfl rfl rfl rfl ⟨_,J83⟩
theorem JcS {w k:Int} (h:SHeap) (hw:J4C w):L1 133 [iv k,iv (J3q w)] h=some (.bool (J1c w k),h):=by
 refine J0I (J20 rfl rfl) rfl rfl rfl ⟨_,J9k hw (J55 (J8M k _)) (J55 (J6Y k _)) ?_ ?_⟩
 ·exact(J4u (n:=11) (base:=L0) (J20 rfl rfl)).trans J8F
 ·exact(J4u (n:=11) (base:=L0) (J20 rfl rfl)).trans J9e
theorem Jf9 (k:Int) (h:SHeap) (hk:1≤k∧k≤54):L0 134 [iv k] h=some (.bool (endK k),h):=J0I rfl rfl rfl rfl (J1I JdN hk)
theorem Jep (k:Int) (h:SHeap) (hk:1≤k∧k≤54):L0 135 [iv k] h=some (.bool (J3l k),h):=J0I rfl rfl rfl rfl (J1I Jct hk)
theorem Jh6 (k:Int) (h:SHeap) (hk:1≤k∧k≤54):L0 137 [iv k] h=some (.tuple #[iv (J1U k),iv (J1r k)],h):=J0I rfl rfl rfl (J93 rfl rfl) (J1I JeV hk)
theorem Jf6 {w:Int} {x:RowN} (h:SHeap) (hw:J4C w):L3 126 [rowV x,iv (J3q w)] h=some (.bool (J1c w x.kind&&fitN J09 x),h):=by
 refine J0I (J8X (J20 (J20 rfl rfl) rfl) rfl) rfl ?_ rfl (ofEx (Jbb (fun h=>J55 (J6k (JcS h hw))) (fun h hk=>J55 (J6k (J1M (Jf9 _ h hk)))) (fun h hk=>J55 (J6k (J1M (Jep _ h hk)))) (fun h=>J55 (JbH h _)) (fun h hk=>J55 (J6k (J1M (Jh6 _ h hk))))))
 simp[J3Q,flat,J1i]
section
variable {call:J0r} {n:Nat}
theorem Jgh {j:Nat} {h:SHeap}:J0L Tryz.prog call n 125 [iv 1,iv j] h=some (iv 1,h):=by
 refine J1m Tryz.func125 rfl (by simp[Tryz.f125]) ?_
 have hr:Tryz.f125.results.toList=[.tmp 4]:=rfl
 simp only[evC,seval,↓evP,rpC,hr,Int.reduceBEq]
theorem JdH {j:Nat} {h:SHeap}:J0L Tryz.prog call n 125 [iv 11,iv j] h=some (iv 3,h):=by
 refine J1m Tryz.func125 rfl (by simp[Tryz.f125]) ?_
 have hr:Tryz.f125.results.toList=[.tmp 4]:=rfl
 simp only[evC,seval,↓evP,rpC,hr,Int.reduceBEq]
end
theorem Jcd (k:Int):J1r k≤3:=by unfold J1r;(repeat' split) <;> omega
theorem JhJ (k:Int) (j:Nat) (h:SHeap) (hk:1≤k∧k≤54) (hj:k=1∨k=11∨(j:Int)<J1r k):L0 125 [iv k,iv j] h=some (iv (kidR k j),h):=by
 rcases hj with rfl | rfl | hj
 ·exact J0I rfl rfl rfl rfl ⟨_,Jgh⟩
 ·exact J0I rfl rfl rfl rfl ⟨_,JdH⟩
 ·have:=Jcd k
  obtain rfl | rfl | rfl:j=0∨j=1∨j=2:=by omega
  ·exact J0I rfl rfl rfl rfl (J1I JeS hk)
  ·exact J0I rfl rfl rfl rfl (J1I Jeu hk)
  ·exact J0I rfl rfl rfl rfl (J1I Jf0 hk)
theorem Jgl (n:Nat):Calls84 (J0T n) where
 kid:=fun κ j h hκ hj=>J2Z (J1M (JhJ κ j h hκ hj))
 right:=fun w x h hw=>Jip (Jf6 h hw)
 decl:=fun k h=>J2Z (J1M (J8M k h))
 event:=fun k h=>J2Z (J1M (J6Y k h))
section
variable {call:J0r} {n:Nat}
theorem J9O {l:List RowN} {v:Value} {h:SHeap} (hv:J0l h v l) (hfl:h.floor≤h.next)
  (h84:∀ h',J0l h' v l→h'.floor≤h'.next→call 116 [v] h'=some (iv (match J2L J09 l with | some p=>(p:Int) | none=>-1),h'))
  (h85:J2L J09 l=none→∀ h',J0l h' v l→h'.floor≤h'.next→call 117 [v] h'=some (iv (levN l (l.length+1) 0).1,h')) :
  ∃ h1,J0L Tryz.prog call n 78 [v] h=some (J2k (J0v l).1 (J0v l).2,h1)∧∀ i,i<h.next→h1.get i=h.get i:=by
 refine J1N (R:=fun h1=>∀ i,i<h.next→h1.get i=h.get i) Tryz.func78 rfl (by simp[Tryz.f78]) ?_
 have hr:Tryz.f78.results.toList=[.cell 2 32]:=rfl
 have hold:∀ o:SObj,∀ i,i<h.next→(h.push o).get i=h.get i:=fun o i hi=>J06 hi
 have hvp:=hv.mono (h':=h.push (.row [.int .i64 0,.int .i64 0] 32 false false)) (by show h.next≤h.next+1;omega) (hold _)
 have h84':=h84 _ hvp (by show h.floor≤h.next+1;omega)
 have hflT:(h.floor≤h.next)=True:=by simpa using hfl
 have hltT:(h.next<h.next+1)=True:=by simp
 unfold J0v
 cases hs:J2L J09 l with
 | some p=>
  rw[hs] at h84'
  have c1:decide ((p:Int)≥0)=true:=by simp
  simp only[evC,seval,↓evP,rpC,hr,J51,J3C,J1t,h84',c1,J4G,J5a,J4k,J2n,J4j,hflT,hltT]
  intro i hi
  rw[if_neg (by omega),if_neg (by omega)]
 | none=>
  have h85':=h85 hs _ hvp (by show h.floor≤h.next+1;omega)
  rw[hs] at h84'
  have c1:decide ((-1:Int)≥0)=false:=rfl
  cases c2:decide ((levN l (l.length+1) 0).1>64) with
  | true=>
   rw[if_pos (by simpa using c2)]
   simp only[evC,seval,↓evP,rpC,hr,c1,c2,J51,J3C,J1t,h84',h85',J96,J5a,J4k,J2n,J4j,hflT,hltT]
   intro i hi
   rw[if_neg (by omega),if_neg (by omega)]
  | false=>
   rw[if_neg (by simpa using c2)]
   simp only[evC,seval,↓evP,rpC,hr,c1,c2,J51,J3C,J1t,h84',h85',J5n,J5a,J4k,J2n,J4j,hflT,hltT]
   intro i hi
   rw[if_neg (by omega),if_neg (by omega)]
end
theorem Jfa {n:Nat} {l:List RowN} {v:Value} (hn:l.length+12<n) (hlen:l.length<900000000) (h64:∀ x∈l,x.kids≤9223372036854775807) {h:SHeap} (hv:J0l h v l) (hfl:h.floor≤h.next) :
  J0T n 78 [v] h=some (J2k (J0v l).1 (J0v l).2,h):=by
 obtain⟨n,rfl⟩:∃ k,n=k+4:=⟨n-4,by omega⟩
 refine J4r (J13 ⟨rfl,rfl,rfl⟩) rfl (J9O hv hfl (fun h' hv' hfl'=>?_) fun hs h' hv' hfl'=>?_)
 ·exact J4r (J13 ⟨rfl,rfl,rfl⟩) rfl (JbO (Jgl _) hv' hlen (by omega) hfl' h64)
 ·have ht:=J8d hs
  refine J4r (J13 ⟨rfl,rfl,rfl⟩) rfl (J90 ht hv' (by omega) (by omega) hfl' ?_ fun P K k h hP hK=>J2Z (JcA P K k h hP hK))
  refine Jc0 (J13 ⟨rfl,rfl,rfl⟩) ?_ (J8I ht hv' (by omega) (by omega) hfl' fun H hvH hflH=>JcD ht hvH (by omega) (by omega) hflH)
  simp[J3m,flat,J1i]
theorem excl {k:Int} (h:J0j k≠0):J1O k=0∧J0E k=false:=by
 have:k=2∨k=3∨k=4∨k=5∨k=7:=by
  unfold J0j at h
  split at h
  ·rename_i h1
   simp only[List.contains_cons,List.contains_nil,Bool.or_false,Bool.or_eq_true,beq_iff_eq] at h1
   omega
  ·split at h
   ·omega
   ·split at h
    ·omega
    ·split at h
     ·omega
     ·exact absurd rfl h
 obtain rfl | rfl | rfl | rfl | rfl:=this <;> exact⟨rfl,rfl⟩
theorem J8t {E:List Int} {at_:Nat} {s:StN} {x:RowN} (hx:s.rows[at_]?=some x) (hd:J0j x.kind≠0) :
  J31 E at_ s=if J25 x s≠0 then (J25 x s,s) else (0,J0W at_ ((E[at_]?).getD 0) x s):=by
 obtain⟨hc,he⟩:=excl hd
 unfold J31
 rw[hx]
 simp only
 split
 ·rfl
 ·have hr:(J0W at_ ((E[at_]?).getD 0) x s).rows[at_]?=some { x with n:=(cntN s (J0j x.kind):Int) }:=by
   rw[J8O,if_neg hd]
   exact J4g hx
  rw[hr]
  simp only
  have h1:J1v at_ { x with n:=(cntN s (J0j x.kind):Int) } (J0W at_ ((E[at_]?).getD 0) x s)=0:=by unfold J1v;rw[if_pos hc]
  have h2:J0D at_ { x with n:=(cntN s (J0j x.kind):Int) } (J0W at_ ((E[at_]?).getD 0) x s)=J0W at_ ((E[at_]?).getD 0) x s:=by unfold J0D;rw[if_pos hc]
  rw[h1,h2,hr,if_neg (by simp)]
  simp only
  have h3:evE { x with n:=(cntN s (J0j x.kind):Int) } (J0W at_ ((E[at_]?).getD 0) x s)=0:=by unfold evE;rw[if_pos he]
  have h4:evS at_ { x with n:=(cntN s (J0j x.kind):Int) } (J0W at_ ((E[at_]?).getD 0) x s)=J0W at_ ((E[at_]?).getD 0) x s:=by unfold evS;rw[if_pos he]
  rw[h3,h4,if_neg (by simp)]
theorem J8B {E:List Int} {at_:Nat} {s:StN} {x:RowN} (hx:s.rows[at_]?=some x) (hd:J0j x.kind=0) :
  J31 E at_ s=if J1v at_ x s≠0 then (J1v at_ x s,s) else match (J0D at_ x s).rows[at_]? with
   | none=>(0,s)
   | some x2=>if evE x2 (J0D at_ x s)≠0 then (evE x2 (J0D at_ x s),s) else (0,evS at_ x2 (J0D at_ x s)):=by
 have h1:J25 x s=0:=by unfold J25;rw[if_pos hd]
 have h2:J0W at_ ((E[at_]?).getD 0) x s=s:=by unfold J0W;rw[if_pos hd]
 unfold J31
 rw[hx]
 simp only
 rw[h1,h2,hx,if_neg (by simp)]
 rfl
theorem J6j {at_:Nat} {s:StN} {x:RowN} (hx:s.rows[at_]?=some x) (hc:J1v at_ x s=0) :
  ∃ n,(J0D at_ x s).rows[at_]?=some { x with n:=n }∧(∀ i,i≠at_→(J0D at_ x s).rows[i]?=s.rows[i]?)∧(J0D at_ x s).rules=s.rules∧(J0D at_ x s).on=s.on∧(J0D at_ x s).things=s.things ∧
   ((J1O x.kind=0∧n=x.n)∨∃ t∈s.things,t.kind=J1O x.kind∧n=t.num∧t.known≤at_∧J30 s.things x.name=some t):=by
 unfold J1v at hc
 unfold J0D
 by_cases h0:J1O x.kind=0
 ·rw[if_pos h0]
  exact⟨x.n,hx,fun _ _=>rfl,rfl,rfl,rfl,.inl ⟨h0,rfl⟩⟩
 ·rw [if_neg h0] at hc ⊢
  cases hf:J30 s.things x.name with
  | none=>rw[hf] at hc;cases hc
  | some t=>
   rw[hf] at hc
   simp only at hc ⊢
   refine⟨t.num,J4g hx,fun i hi=>J4M hi,trivial,trivial,trivial,.inr ⟨t,J8w hf,?_,rfl,?_,rfl⟩⟩
   ·split at hc
    ·cases hc
    ·split at hc
     ·cases hc
     ·rename_i h;simpa using h
   ·split at hc
    ·cases hc
    ·omega
def Jew (l:List RowN) (i:Nat):Prop:=∃ x,l[i]?=some x∧11≤x.kind
theorem JdM {w k:Int} (hw:2≤w∧w≤7) (h:J1l w k=true):11≤k:=by
 unfold J1l at h
 rw[if_neg (by omega),if_neg (by omega),if_neg (by omega)] at h
 (repeat' split at h) <;> simp only[beq_iff_eq,Bool.and_eq_true,Bool.or_eq_true,decide_eq_true_eq] at h <;> omega
theorem J7g (k:Int) (j:Nat):2≤J0A k j∧J0A k j≤7:=by unfold J0A;(repeat' split) <;> omega
theorem Jft {l:List RowN}:∀ m at_ what,(2≤what∧what≤7)→(rowN J09 l m at_ what).2=true→∀ i,at_≤i→i<(rowN J09 l m at_ what).1→Jew l i:=by
 intro m
 induction m with
 | zero=>intro at_ what _ h;cases h
 | succ m ih=>
  intro at_ what hw
  unfold rowN
  cases hx:l[at_]? with
  | none=>intro h;cases h
  | some x=>
   simp only
   split
   ·rename_i hc
    intro h i h1 h2
    rcases Nat.lt_or_ge at_ i with h3 | h3
    ·exact J5C (V:=Jew l) (fun k p hk i h1 h2=>ih p (J0A x.kind k) (J7g _ _) hk i h1 h2) x.kids.toNat 0 (at_+1) h i h3 h2
    ·have:i=at_:=by omega
     subst this
     exact⟨x,hx,JdM hw (Bool.and_eq_true_iff.1 hc).1⟩
   ·intro h;cases h
theorem JeQ {l:List RowN} {r q:Nat} {x:RowN} (h:SubT l r q) (hx:l[r]?=some x) (h1:x.kind≠1):∀ i,r<i→i<q→Jew l i:=by
 intro i hi hq
 rcases h with⟨m,what,h⟩ | ⟨rfl,m,h⟩
 ·cases m with
  | zero=>cases h
  | succ m=>
   rw[J5l hx] at h
   split at h
   ·have e1:(J2r (fun k next=>rowN J09 l m next (J0A x.kind k)) x.kids.toNat 0 (r+1)).2=true:=by rw[h]
    have e2:(J2r (fun k next=>rowN J09 l m next (J0A x.kind k)) x.kids.toNat 0 (r+1)).1=q:=by rw[h]
    exact J5C (V:=Jew l) (fun k p hk i h1 h2=>Jft m p (J0A x.kind k) (J7g _ _) hk i h1 h2) x.kids.toNat 0 (r+1) e1 i hi (by rw[e2];exact hq)
   ·cases h
 ·rw[J5q hx] at h
  split at h
  ·rename_i hc
   have:=(Bool.and_eq_true_iff.1 hc).1
   exact absurd (by simpa [J1l] using this) h1
  ·cases h
structure InvL (l:List RowN) (at_:Nat) (s:StN):Prop where
 rul:∀ (j:Nat) (ru:Int),s.rules[j]?=some ru→∃ r:Nat,ru=(r:Int)+1∧r<at_∧∃ x,l[r]?=some x∧x.kind=7
 inc:∀ (j j':Nat) (ru ru':Int),j<j'→s.rules[j]?=some ru→s.rules[j']?=some ru'→ru<ru'
 th:∀ t∈s.things,t.kind=4→0≤t.num∧∃ r:Nat,s.rules[t.num.toNat]?=some ((r:Int)+1)∧t.known=(endN l r:Int)
 call:∀ (i:Nat) (x:RowN),i<at_→s.rows[i]?=some x→x.kind=22→∃ r:Nat,s.rules[x.n.toNat]?=some ((r:Int)+1)∧endN l r≤i
theorem JjD (l:List RowN):InvL l 0 (s0N l) where
 rul:=fun j ru h=>by simp[s0N] at h
 inc:=fun j j' ru ru' _ h=>by simp[s0N] at h
 th:=fun t h=>by simp[s0N] at h
 call:=fun i x h=>by omega
theorem Jjh {k:Int} (h:J0j k=4):k=7:=by
 unfold J0j at h
 (repeat' split at h) <;> simp_all
theorem Jci {l:List RowN} {at_:Nat} {s:StN} (ht:J2c l) (hat:at_<l.length) (hi:InvR l at_ s) (hL:InvL l at_ s) (h0:(J31 (J0o l) at_ s).1=0):InvL l (at_+1) (J31 (J0o l) at_ s).2:=by
 obtain⟨x,hx⟩:∃ x,s.rows[at_]?=some x:=⟨_,List.getElem?_eq_getElem (by rw[hi.len];exact hat)⟩
 have hxl:l[at_]?=some x:=by rw[← hi.later at_ (Nat.le_refl _)];exact hx
 have hE:((J0o l)[at_]?).getD 0=(endN l at_:Int):=by rw[J2B hat];rfl
 by_cases hd:J0j x.kind=0
 ·rw [J8B hx hd] at h0 ⊢
  by_cases hc:J1v at_ x s=0
  case neg=>rw[if_pos hc] at h0;exact absurd h0 hc
  rw[if_neg (by simpa using hc)] at h0 ⊢
  obtain⟨n,c1,c2,c3,c4,c5,c6⟩:=J6j hx hc
  rw[c1] at h0 ⊢
  simp only at h0 ⊢
  by_cases hv:evE { x with n:=n } (J0D at_ x s)=0
  case neg=>rw[if_pos hv] at h0;exact absurd h0 hv
  rw[if_neg (by simpa using hv)]
  have e1:(evS at_ { x with n:=n } (J0D at_ x s)).rows=(J0D at_ x s).rows∧(evS at_ { x with n:=n } (J0D at_ x s)).rules=s.rules∧(evS at_ { x with n:=n } (J0D at_ x s)).things=s.things:=by
   unfold evS
   split
   ·exact⟨rfl,c3,c5⟩
   ·split
    ·exact⟨rfl,c3,c5⟩
    ·exact⟨rfl,c3,c5⟩
  obtain⟨e1,e2,e3⟩:=e1
  simp only
  refine⟨fun j ru h=>?_,fun j j' ru ru' h1 h2 h3=>?_,fun t h1 h2=>?_,fun i y h1 h2 h3=>?_⟩
  ·rw[e2] at h
   obtain⟨r,r1,r2,r3⟩:=hL.rul j ru h
   exact⟨r,r1,by omega,r3⟩
  ·rw[e2] at h2 h3
   exact hL.inc j j' ru ru' h1 h2 h3
  ·rw[e3] at h1
   rw[e2]
   exact hL.th t h1 h2
  ·rw[e1] at h2
   rw[e2]
   by_cases hia:i=at_
   ·subst hia
    rw[c1] at h2
    cases h2
    rcases c6 with⟨h4,_⟩ | ⟨t,t1,t2,t3,t4,_⟩
    ·have h3':x.kind=22:=h3
     rw[h3'] at h4
     cases h4
    ·have h3':x.kind=22:=h3
     rw[h3'] at t2
     obtain⟨k1,r,k2,k3⟩:=hL.th t t1 t2
     simp only
     rw[t3]
     exact⟨r,k2,by omega⟩
   ·rw[c2 i hia] at h2
    exact hL.call i y (by omega) h2 h3
 ·rw [J8t hx hd] at h0 ⊢
  by_cases hc:J25 x s=0
  case neg=>rw[if_pos hc] at h0;exact absurd h0 hc
  rw[if_neg (by simpa using hc)]
  simp only
  have hS:J0W at_ (((J0o l)[at_]?).getD 0) x s=addN at_ (endN l at_) x s:=by unfold J0W;rw[if_neg hd,hE]
  rw[hS]
  have hrul:(addN at_ (endN l at_) x s).rules=if J0j x.kind=4 then s.rules++[(at_:Int)+1] else s.rules:=rfl
  have hth:(addN at_ (endN l at_) x s).things=s.things++[⟨x.name,J0j x.kind,cntN s (J0j x.kind),endN l at_⟩]:=rfl
  have hrows:(addN at_ (endN l at_) x s).rows=setN s.rows at_ (cntN s (J0j x.kind)):=rfl
  have old:∀ (j:Nat) (ru:Int),s.rules[j]?=some ru→(addN at_ (endN l at_) x s).rules[j]?=some ru:=fun j ru h=>by
   rw[hrul]
   split
   ·rw[List.getElem?_append_left (List.getElem?_eq_some_iff.1 h).1];exact h
   ·exact h
  have new:∀ (j:Nat) (ru:Int),(addN at_ (endN l at_) x s).rules[j]?=some ru→s.rules[j]?=some ru∨(J0j x.kind=4∧j=s.rules.length∧ru=(at_:Int)+1):=fun j ru h=>by
   rw[hrul] at h
   split at h
   ·rename_i h4
    rcases Nat.lt_or_ge j s.rules.length with h5 | h5
    ·rw[List.getElem?_append_left h5] at h
     exact .inl h
    ·rw[List.getElem?_append_right h5] at h
     have:j-s.rules.length=0:=by
      rcases Nat.eq_zero_or_pos (j-s.rules.length) with h6 | h6
      ·exact h6
      ·rw[List.getElem?_eq_none (by simp;omega)] at h;cases h
     rw[this] at h
     cases h
     exact .inr ⟨h4,by omega,rfl⟩
   ·exact .inl h
  refine⟨fun j ru h=>?_,fun j j' ru ru' h1 h2 h3=>?_,fun t h1 h2=>?_,fun i y h1 h2 h3=>?_⟩
  ·rcases new j ru h with h | ⟨h4,_,rfl⟩
   ·obtain⟨r,r1,r2,r3⟩:=hL.rul j ru h
    exact⟨r,r1,by omega,r3⟩
   ·exact⟨at_,rfl,by omega,x,hxl,Jjh h4⟩
  ·rcases new j ru h2 with h2 | ⟨h4,g2,rfl⟩
   ·rcases new j' ru' h3 with h3 | ⟨_,_,rfl⟩
    ·exact hL.inc j j' ru ru' h1 h2 h3
    ·obtain⟨r,r1,r2,_⟩:=hL.rul j ru h2
     omega
   ·rcases new j' ru' h3 with h3 | ⟨_,g3,_⟩
    ·have:=(List.getElem?_eq_some_iff.1 h3).1
     omega
    ·omega
  ·rw[hth] at h1
   rcases List.mem_append.1 h1 with h1 | h1
   ·obtain⟨a,r,b,c⟩:=hL.th t h1 h2
    exact⟨a,r,old _ _ b,c⟩
   ·rw[List.mem_singleton.1 h1] at h2 ⊢
    simp only at h2 ⊢
    refine⟨by omega,at_,?_,rfl⟩
    rw[h2]
    have:cntN s 4=s.rules.length:=rfl
    rw[this,hrul,if_pos h2,Int.toNat_natCast,List.getElem?_append_right (Nat.le_refl _),Nat.sub_self]
    rfl
  ·rw[hrows] at h2
   by_cases hia:i=at_
   ·subst hia
    rw[J4g hx] at h2
    cases h2
    have h3':x.kind=22:=h3
    rw[h3'] at hd
    exact absurd rfl hd
   ·rw[J4M hia] at h2
    obtain⟨r,r1,r2⟩:=hL.call i y (by omega) h2 h3
    exact⟨r,old _ _ r1,r2⟩
theorem JdQ {l:List RowN} (ht:J2c l):∀ r at_ s,at_+r=l.length→InvR l at_ s→InvL l at_ s→(goN (J0o l) r at_ s).1=0→InvL l l.length (goN (J0o l) r at_ s).2.2
 | 0,at_,s,hr,_,hi,_=>by
  have:at_=l.length:=by omega
  subst this
  exact hi
 | r+1,at_,s,hr,hiR,hi,h0=>by
  unfold goN at h0 ⊢
  by_cases h:(J31 (J0o l) at_ s).1=0
  ·rw[if_neg (by simpa using h)] at h0 ⊢
   exact JdQ ht r (at_+1) _ (by omega) (J6b ht (J3T at_) (by omega) hiR h) (Jci ht (by omega) hiR hi h) h0
  ·rw[if_pos h] at h0
   exact absurd h0 h
theorem JgY {l:List RowN} {s:StN} (ht:J2c l) (hlen:l.length<1099511627) (hi:InvR l l.length s) (hL:InvL l l.length s):LayR s.rows (J0o l) s.rules where
 lay:=J8n ht hlen hi
 ahead:=fun i ru hru x hx h22=>by
  obtain⟨r,rfl,hr,y,hy,hy7⟩:=hL.rul i ru hru
  have hs:=ht.end hr
  obtain⟨z,hz,_,_,hch⟩:=hs.kids
  rw[hy] at hz
  cases hz
  have hfit:=ht.row hy
  have hk1:1≤y.kids:=by
   have h1:=hfit.2.2.1
   rw[hy7] at h1
   exact h1
  have hle:=J2o _ _ _ hch
  have hlt:=hs.lt
  have hr1:r+1<l.length:=by omega
  obtain⟨qi,s1,s2⟩:=SubT.cover (endN l r-r) (by omega) hs (r+1) (by omega) (by omega)
  have hq1:=J5P s1
  have e1:((r:Int)+1).toNat=r+1:=by omega
  rw[e1] at hx
  unfold blk at hx
  rw[J2B hr1] at hx
  simp only[Option.getD_some,Int.toNat_natCast] at hx
  rw[hq1] at hx
  obtain⟨d,hd,hxd⟩:=List.getElem_of_mem hx
  rw[List.length_take,List.length_drop] at hd
  have hxa:s.rows[r+1+d]?=some x:=by
   rw[← hxd,← List.getElem?_eq_getElem,List.getElem?_take_of_lt (by omega),List.getElem?_drop]
  obtain⟨rj,c1,c2⟩:=hL.call (r+1+d) x (by rw[← hi.len];exact(List.getElem?_eq_some_iff.1 hxa).1) hxa h22
  have hn0:=(hi.calls _ _ (by rw[← hi.len];exact(List.getElem?_eq_some_iff.1 hxa).1) hxa h22).1
  have hj:¬ i≤x.n.toNat:=by
   intro hij
   obtain⟨rj',h1,hrj,w,hw,hw7⟩:=hL.rul _ _ c1
   have:rj'=rj:=by omega
   subst this
   have hse:=(ht.end hrj).lt
   rcases Nat.eq_or_lt_of_le hij with h2 | h2
   ·rw[← h2,hru] at c1
    have:r=rj':=by
     simp only[Option.some.injEq] at c1
     omega
    subst this
    omega
   ·have h3:=hL.inc i x.n.toNat _ _ h2 hru c1
    rcases Nat.lt_or_ge rj' (endN l r) with h4 | h4
    ·obtain⟨w',hw',h5⟩:=JeQ hs hy (by omega) rj' (by omega) h4
     rw[hw] at hw'
     cases hw'
     omega
    ·omega
  omega
section
variable {call:J0r} {N:Nat} {h:SHeap}
theorem Jbq {k:Int}:J0L Tryz.prog call N 119 [iv k] h=some (iv (J3g k),h):=by
 refine J1m Tryz.func119 rfl (by simp[Tryz.f119]) ?_
 have hr:Tryz.f119.results.toList=[.tmp 2]:=rfl
 unfold J3g
 by_cases h1:k=1
 ·have c1:(k==1)=true:=by simpa using h1
  rw[if_pos h1]
  simp only[evC,seval,↓evP,rpC,hr,c1]
 have c1:(k==1)=false:=by simpa using h1
 rw[if_neg h1]
 by_cases h2:k=2
 ·have c2:(k==2)=true:=by simpa using h2
  rw[if_pos h2]
  simp only[evC,seval,↓evP,rpC,hr,c1,c2]
 have c2:(k==2)=false:=by simpa using h2
 rw[if_neg h2]
 by_cases h3:k=3
 ·have c3:(k==3)=true:=by simpa using h3
  rw[if_pos h3]
  simp only[evC,seval,↓evP,rpC,hr,c1,c2,c3]
 have c3:(k==3)=false:=by simpa using h3
 rw[if_neg h3]
 simp only[evC,seval,↓evP,rpC,hr,c1,c2,c3]
theorem Jc6 {k:Int}:J0L Tryz.prog call N 73 [iv k] h=some (iv (J3g k),h):=by
 refine J1m Tryz.func73 rfl (by simp[Tryz.f73]) ?_
 have hr:Tryz.f73.results.toList=[.tmp 2]:=rfl
 unfold J3g
 by_cases h1:k=1
 ·have c1:(k==1)=true:=by simpa using h1
  rw[if_pos h1]
  simp only[evC,seval,↓evP,rpC,hr,c1]
 have c1:(k==1)=false:=by simpa using h1
 rw[if_neg h1]
 by_cases h2:k=2
 ·have c2:(k==2)=true:=by simpa using h2
  rw[if_pos h2]
  simp only[evC,seval,↓evP,rpC,hr,c1,c2]
 have c2:(k==2)=false:=by simpa using h2
 rw[if_neg h2]
 by_cases h3:k=3
 ·have c3:(k==3)=true:=by simpa using h3
  rw[if_pos h3]
  simp only[evC,seval,↓evP,rpC,hr,c1,c2,c3]
 have c3:(k==3)=false:=by simpa using h3
 rw[if_neg h3]
 simp only[evC,seval,↓evP,rpC,hr,c1,c2,c3]
end
theorem Jfh (k:Int) (h:SHeap):L1 119 [iv k] h=some (iv (J3g k),h):=J0I (J20 rfl rfl) rfl rfl rfl ⟨_,Jbq⟩
theorem Jf8 (k:Int) (h:SHeap):L1 73 [iv k] h=some (iv (J3g k),h):=J0I (J20 rfl rfl) rfl rfl rfl ⟨_,Jc6⟩
theorem Jgc (k:Int) (h:SHeap) (hk:1≤k∧k≤54):L0 80 [iv k] h=some (iv (J0j k),h):=J0I rfl rfl rfl rfl (J1I J8g hk)
theorem Jfb (k:Int) (h:SHeap) (hk:1≤k∧k≤54):L0 82 [iv k] h=some (iv (J1O k),h):=J0I rfl rfl rfl rfl (J1I JbA hk)
theorem Jgw (k:Int) (h:SHeap) (hk:1≤k∧k≤54):L0 84 [iv k] h=some (.bool (J0E k),h):=J0I rfl rfl rfl rfl (J1I J8q hk)
section
variable {n lo m e r k:Nat} {h:SHeap} {nm:ByteArray} {E:List Int} {s:StN}
theorem JfN {y:ByteArray} {tag:Nat→Nat} {V:Nat→Value} {C:List Int} (hp:MkR h lo m e r k nm E tag V C s) (hth:s.things.length<100000) (hn:100005<n):J0T n 118 [qP m 0,.string y] h=some (iv (J3M s.things y 0),h):=by
 obtain⟨n,rfl⟩:∃ j,n=j+1:=⟨n-1,by omega⟩
 exact J6r (J13 ⟨rfl,rfl,rfl⟩) rfl (JbE hp (by omega) (by omega))
theorem JgC {at_:Nat} {end_:Int} {x:RowN} (hp:MkRE h lo m e r k nm E s) (hx:s.rows[at_]?=some x) (hd:J0j x.kind≠0) (hat:at_<1099511627776) (hE:E[at_]?=some end_) (he:0≤end_) (hth:s.things.length<100000) (hn:100010<n) :
  ∃ h',J0T n 81 [qP m 0,iv at_,iv (J0j x.kind)] h=some (iv (J25 x s),h')∧(AftR h h' lo∧(J25 x s=0→MkRE h' lo m e r k nm E (J0W at_ end_ x s))):=by
 obtain⟨n,rfl⟩:∃ j,n=j+1:=⟨n-1,by omega⟩
 exact k_wr (J13 ⟨rfl,rfl,rfl⟩) (JbZ hp hx hd hat hE he hth (by omega) (fun y H tag V C hp'=>JfN hp' hth (by omega)) fun k h'=>J2Z (Jfh k h'))
theorem Jez {at_:Nat} {x:RowN} (hp:MkRE h lo m e r k nm E s) (hx:s.rows[at_]?=some x) (hd:J1O x.kind≠0) (hat:at_<1099511627776) (hth:s.things.length<100000) (hn:100010<n) :
  ∃ h',J0T n 83 [qP m 0,iv at_,iv (J1O x.kind)] h=some (iv (J1v at_ x s),h')∧(AftR h h' lo∧(J1v at_ x s=0→MkRE h' lo m e r k nm E (J0D at_ x s))):=by
 obtain⟨n,rfl⟩:∃ j,n=j+1:=⟨n-1,by omega⟩
 exact k_wr (J13 ⟨rfl,rfl,rfl⟩) (J9A hp hx hd hat fun y H tag V C hp'=>JfN hp' hth (by omega))
theorem Jf5 {at_:Nat} {x:RowN} (hp:MkRE h lo m e r k nm E s) (hx:s.rows[at_]?=some x) (hev:J0E x.kind=true) (hat:at_<1099511627776) (hxn:x.kind≠10→0≤x.n∧x.n<s.on.length) (hn:0<n) :
  ∃ h',J0T n 85 [qP m 0,iv at_] h=some (iv (evE x s),h')∧(AftR h h' lo∧(evE x s=0→MkRE h' lo m e r k nm E (evS at_ x s))):=by
 obtain⟨n,rfl⟩:∃ j,n=j+1:=⟨n-1,by omega⟩
 exact k_wr (J13 ⟨rfl,rfl,rfl⟩) (J9Q hp hx hev hat hxn)
end
section
variable {n:Nat} {h:SHeap} {rows:List RowN} {E rules:List Int} {vr v0 vq vv vt vu vo v7 ve:Value}
theorem JdU {S:List Int} {row le ls:Nat} {vs:Value} (hone:one v0=true∧one vq=true∧one vv=true∧one vt=true∧one vu=true∧one vo=true∧one v7=true) (hv:J0l h vr rows) (he:J1S le h ve E) (hS:J1S ls h vs S) (hs:Sums S) (hL:Laying rows E rules) (hrow:row<rows.length) (hn:rows.length+8<n)
  (hcalls:∀ x∈blk rows E row,x.kind=22→0≤x.n∧x.n<S.length):J0T n 88 [.agg #[v0,vr,vq,vv,vt,vu,vo,v7],ve,vs,iv (row:Int)] h=some (iv (cAt rows E S row),h):=by
 obtain⟨n,rfl⟩:∃ j,n=j+1:=⟨n-1,by omega⟩
 obtain⟨q,q1,q2,q3,q4⟩:=hL.end hrow
 have hc:cAt rows E S row=J2j S ((rows.drop row).take (q-row)) 0:=by unfold cAt;rw[q1];rfl
 rw[hc]
 rw[q4] at hcalls
 exact J4r (J13 ⟨rfl,rfl,rfl⟩) rfl (JbQ hone hv he hS hs q1 q2 q3 (by have:=hL.len;omega) (by omega) hcalls fun a b h' hb ha=>J2Z (JaD h' hb ha))
theorem JgX {le lu:Nat} (hone:one v0=true∧one vq=true∧one vv=true∧one vt=true∧one vo=true∧one v7=true) (hv:J0l h vr rows) (he:J1S le h ve E) (hu:J1S lu h vu rules) (hL:LayR rows E rules) (hfl:h.floor≤h.next) (hn:rows.length+rules.length+12<n) :
  ∃ v h',J0T n 86 [.agg #[v0,vr,vq,vv,vt,vu,vo,v7],ve] h=some (v,h')∧(J1S h.next h' v (J4Y rows E rules [])∧h'.floor=h.floor∧h.next≤h'.next∧∀ i,i<h.next→h'.get i=h.get i):=by
 obtain⟨n,rfl⟩:∃ j,n=j+1:=⟨n-1,by omega⟩
 refine k_ex (J13 ⟨rfl,rfl,rfl⟩) (Jbz hone hv he hu hL hfl (by omega) fun vs S row H ho hnx hS hSS hrow hc=>?_) fun v h1 hf ho ⟨h2,_,_,_⟩=>⟨?_,rfl,Nat.le_refl _,fun _ _=>rfl⟩
 ·obtain⟨a,b,c,d,e,f⟩:=hone
  exact JdU ⟨a,b,c,d,J0p.one hu,e,f⟩ (hv.mono hnx ho) (he.mono hnx fun i _ hi=>ho i hi) hS hSS hL.lay hrow (by omega) hc
 ·obtain⟨hl,a,c,rfl,⟨h0,rfl⟩ | ⟨id,off,row,ty,g,ro,rfl,g1,g2,g3⟩⟩:=h2
  ·exact⟨hl,_,_,rfl,.inl ⟨h0,rfl⟩⟩
  ·have:J3m (.slice (some ⟨id,off,none⟩) (J4Y rows E rules []).length c)=false:=rfl
   rw[this] at hf
   cases hf
end
def sZ:StN:=⟨[],[],[],[],[],[],0,[]⟩
def J52 (l:List RowN):ByteArray:=match l[0]? with
 | some x=>x.name
 | none=>ByteArray.empty
noncomputable def outN (l:List RowN):ByteArray × StN:=if (resN l).1.1≠0 then (ByteArray.empty,sZ) else (J52 l,(resN l).2)
abbrev zPol:Value:=.agg #[.string ByteArray.empty,Z0,Z0,Z0,Z0,Z0,Z0,iv 0]
theorem JcV (lo:Nat) (h:SHeap):J3x lo h zPol ByteArray.empty sZ:=
 ⟨_,_,_,_,_,_,rfl,J3P.of (J0p.nil lo h 5),J0p.nil lo h 2,J0p.nil lo h 1,J0p.nil lo h 1,J0p.nil lo h 1,J0p.nil lo h 1⟩
theorem stW {t:TypeId} {k:Nat} (ht:szOf Tryz.prog t=some k) {h:SHeap} {id:Nat} {vs cs:List Value} {ty:TypeId} {g:Bool} (hg:h.get id=.row cs ty g false) (hl:cs.length=k) (hn:vs.length=k) (ho:vs.all one=true) (hf:h.floor≤id) :
  J0K Tryz.prog h t (qP id 0) (.agg vs.toArray)=some (h.put id (.row vs ty g false)):=by
 have hc:(Value.agg vs.toArray).cells=vs.toArray:=rfl
 have hlay:Go.Sx.lay cs 0 vs=vs:=by
  simp only[Go.Sx.lay,List.take_zero,List.nil_append,Nat.zero_add]
  rw[List.drop_of_length_le (by omega),List.append_nil]
 simp only[J0K,hc,ht,J1q,hg]
 rw[if_pos (by simp[hn]),if_pos (by simp only[ho];simp;omega),hlay]
theorem J5F:J1w Tryz.prog 27=some zPol:=Jir
theorem J3Y:flat zPol=true:=rfl
theorem J82:J2Q Tryz.prog (match Tryz.prog.underlying 27 with | some (.struct fs)=>fs.toList | _=>[])=some [(0,1),(1,1),(2,1),(3,1),(4,1),(5,1),(6,1),(7,1)]:=by kernel_rfl
theorem J28:J1P Tryz.prog 27 []=some zPol:=by
 have h:=J82
 rw[Tryz.underlying27] at h
 simp only at h
 simp only[J1P,J5F,J3Y,if_true,Tryz.underlying27,h]
 rfl
theorem J2E {nm:ByteArray} {m:Int}:J1P Tryz.prog 27 [(0,.string nm),(7,iv m)]=some (.agg #[.string nm,Z0,Z0,Z0,Z0,Z0,Z0,iv m]):=by
 have h:=J82
 rw[Tryz.underlying27] at h
 simp only at h
 simp only[J1P,J5F,J3Y,if_true,Tryz.underlying27,h]
 rfl
theorem JeW:J2Q Tryz.prog (match Tryz.prog.underlying 120 with | some (.struct fs)=>fs.toList | _=>[])=some [(0,8),(8,1),(9,1),(10,5)]:=by kernel_rfl
theorem JhX:J1w Tryz.prog 120=some (.agg #[.string ByteArray.empty,Z0,Z0,Z0,Z0,Z0,Z0,iv 0,Z0,Z0,iv 0,iv 0,iv 0,iv 0,iv 0]):=by kernel_rfl
abbrev mk0V (nm:ByteArray) (m:Int) (e k:Nat):Value:=.agg #[.string nm,Z0,Z0,Z0,Z0,Z0,Z0,iv m,qS e k k,Z0,iv 0,iv 0,iv 0,iv 0,iv 0]
theorem J3V {nm:ByteArray} {m:Int} {e k:Nat}:J1P Tryz.prog 120 [(0,.agg #[.string nm,Z0,Z0,Z0,Z0,Z0,Z0,iv m]),(1,qS e k k)]=some (mk0V nm m e k):=by
 have h:=JeW
 rw[Tryz.underlying120] at h
 simp only at h
 have hf:flat (.agg #[.string ByteArray.empty,Z0,Z0,Z0,Z0,Z0,Z0,iv 0,Z0,Z0,iv 0,iv 0,iv 0,iv 0,iv 0])=true:=rfl
 simp only[J1P,JhX,hf,if_true,Tryz.underlying120,h]
 rfl
theorem sz31:szOf Tryz.prog 30=some 1:=by kernel_rfl
theorem Jj9:J2X Tryz.prog 30=some false:=by kernel_rfl
theorem J7G {h:SHeap} {id off:Nat}:J2x Tryz.prog h 30 (qP id off)=ld1 off (h.get id):=J41 Jj9
theorem J6a {id off:Nat}:J08 Tryz.prog 32 (qP id off) 0=some (qP id off):=by simp[J08,Tryz.underlying32,sz3,sz31,J0q]
theorem Jer {h:SHeap} {l:List RowN} {v:Value} (hv:J0l h v l) (hne:0<l.length) (hlen:l.length<1099511627) :
  J1o Tryz.prog h 22 (Z0) v=some (qS h.next l.length unk,h.push (.row (l.flatMap J0e) 60 true false)):=by
 have hsrc:=hv.src
 obtain⟨a,c,rfl,h1⟩:=hv
 have hzs:(Value.agg #[.int .i64 0,.string ByteArray.empty,.int .i64 0,.int .i64 0,.int .i64 0]).cells.size=5:=rfl
 have hu:(0:Nat)≠unk:=by unfold unk;omega
 have e1:¬ (l.length≤0):=by omega
 have e2:l.length*48≤140737488355328:=by omega
 have e3:l.length≤140737488355328:=by omega
 have h0:J16 h 5 0 (Z0)=some []:=rfl
 simp only[J1o,Tryz.underlying22,sz46,by46,J40,hzs,hsrc,J4y,hu,h0,e1,e2,e3,decide_true,beq_self_eq_true,Bool.and_self,if_true,if_false,Nat.le_refl,Nat.zero_add,Nat.zero_mul,Nat.zero_le,List.nil_append,show (0<5)=True by simp]
noncomputable def RR4:Code:=rt (rt (rt (Tryz.f61.body.getD .skip)))
noncomputable def RR5:Code:=rt RR4
noncomputable def RR6:Code:=rt RR5
noncomputable def RR19:Code:=rt RR6
def JhQ:List (Bool × Bool × List Operand):=[fa1,fa0,fa3 [.tmp 4],fa0]
def JhK:List (Bool × Bool × List Operand):=[(true,false,[]),(true,false,[]),(true,false,[]),(true,false,[]),(true,false,[]),fa3 [.tmp 21],fa3 [.tmp 21],fa0,fa0,fa0]
def Out2 (a:Nat) (H:SHeap) (pcs:List Value) (e p:Int):Prop:=H.get a=.row pcs 27 false false∧H.get (a+1)=.row [iv e,iv p] 32 false false
section
variable {N:Nat} {call:J0r}
theorem Jf3 (hsn:J1G call) {l:List RowN} {v:Value} {h:SHeap} {K:Kont} (hfl:h.floor≤h.next) (hv:J0l h v l)
  (hchk:∀ H,J0l H v l→H.floor≤H.next→call 78 [v] H=some (J2k (J0v l).1 (J0v l).2,H))
  (hk1:(J0v l).1≠0→∀ T' H,T'.get 2=qP h.next 0→T'.get 3=qP (h.next+1) 0→Out2 h.next H zPc (J0v l).1 (J0v l).2 →
   h.next+2≤H.next→H.floor=h.floor→(∀ i,i<h.next→H.get i=h.get i)→K.ap Tryz.prog call N .ret ⟨T',H⟩)
  (hk2:(J0v l).1=0→∀ T' H,T'.get 0=v→T'.get 2=qP h.next 0→T'.get 3=qP (h.next+1) 0→Out2 h.next H zPc 0 0 →
   h.next+2≤H.next→H.floor=h.floor→(∀ i,i<h.next→H.get i=h.get i)→WK Tryz.prog call N RR4 ⟨T',H⟩ K) :
  WK Tryz.prog call N (Tryz.f61.body.getD .skip) ⟨J00 0 [v] .leaf,h⟩ K:=by
 show WK _ _ _ (.seq _ (.seq _ (.seq _ RR4))) _ _
 have zc30:(Value.agg #[.string ByteArray.empty,Z0,Z0,Z0,Z0,Z0,Z0,iv 0]).cells.toList=zPc:=rfl
 have zc33:(J2k 0 0).cells.toList=[iv 0,iv 0]:=rfl
 have ho2:∀ i,i<h.next→((h.push (.row zPc 27 false false)).push (.row [iv 0,iv 0] 32 false false)).get i=h.get i:=fun i hi=>by rw[J06 (by show i<h.next+1;omega),J06 hi]
 have hc:=hchk ((h.push (.row zPc 27 false false)).push (.row [iv 0,iv 0] 32 false false)) (hv.mono (by show h.next≤h.next+1+1;omega) ho2) (by show h.floor≤h.next+1+1;omega)
 have ga:=J4c (h:=h) (o:=.row zPc 27 false false) (o':=.row [iv 0,iv 0] 32 false false)
 have gb:=J48 (h:=h) (o:=.row zPc 27 false false) (o':=.row [iv 0,iv 0] 32 false false)
 simp only[evC,seval,↓evP,rpD,J0X,J2t,J5F,J3Y,zc30,J3C,J1t,zc33]
 generalize hH2:(h.push (.row zPc 27 false false)).push (.row [iv 0,iv 0] 32 false false)=H2 at *
 have hn2:H2.next=h.next+1+1:=by rw[← hH2];rfl
 have hf2:H2.floor=h.floor:=by rw[← hH2];rfl
 have sF:=stW (t:=32) sz33 (h:=H2.push (.row [iv 0,iv 0] 32 false false)) (vs:=[iv (J0v l).1,iv (J0v l).2]) J0h rfl rfl rfl (by show H2.floor≤H2.next;omega)
 simp only[evC,seval,↓evP,rpD,J0X,J2t,hc,J3C,J1t,zc33,sF]
 have hg4:((H2.push (.row [iv 0,iv 0] 32 false false)).put H2.next (.row [iv (J0v l).1,iv (J0v l).2] 32 false false)).get H2.next=.row [iv (J0v l).1,iv (J0v l).2] 32 false false:=J0b rfl (by show H2.next<H2.next+1;omega)
 have hga:((H2.push (.row [iv 0,iv 0] 32 false false)).put H2.next (.row [iv (J0v l).1,iv (J0v l).2] 32 false false)).get h.next=.row zPc 27 false false:=by
  rw[J05 (by show H2.next<H2.next+1;omega) (by omega),J06 (by omega)];exact ga
 have hgb:((H2.push (.row [iv 0,iv 0] 32 false false)).put H2.next (.row [iv (J0v l).1,iv (J0v l).2] 32 false false)).get (h.next+1)=.row [iv 0,iv 0] 32 false false:=by
  rw[J05 (by show H2.next<H2.next+1;omega) (by omega),J06 (by omega)];exact gb
 have hgo:∀ i,i<h.next→((H2.push (.row [iv 0,iv 0] 32 false false)).put H2.next (.row [iv (J0v l).1,iv (J0v l).2] 32 false false)).get i=h.get i:=fun i hi=>by
  rw[J05 (by show H2.next<H2.next+1;omega) (by omega),J06 (by omega)];exact ho2 i hi
 have hn3:((H2.push (.row [iv 0,iv 0] 32 false false)).put H2.next (.row [iv (J0v l).1,iv (J0v l).2] 32 false false)).next=h.next+3:=by show H2.next+1=_;omega
 have hf3:((H2.push (.row [iv 0,iv 0] 32 false false)).put H2.next (.row [iv (J0v l).1,iv (J0v l).2] 32 false false)).floor=h.floor:=hf2
 generalize (H2.push (.row [iv 0,iv 0] 32 false false)).put H2.next (.row [iv (J0v l).1,iv (J0v l).2] 32 false false)=H3 at *
 have l4:ld1 0 (H3.get H2.next)=some (iv (J0v l).1):=by rw[hg4];rfl
 cases d:((J0v l).1 != 0) with
 | false=>
  have e0:(J0v l).1=0:=by simpa using d
  simp only[evC,seval,↓evP,rpD,J0G,J0X,J2t,J6a,J7G,l4,d]
  refine hk2 e0 _ _ ?_ ?_ ?_ ⟨hga,hgb⟩ (by omega) hf3 hgo <;> simp only[evC,seval,↓evP,rpC]
 | true=>
  have e0:(J0v l).1≠0:=by simpa using d
  have l42:ldN 2 0 (H3.get H2.next)=some (J2k (J0v l).1 (J0v l).2):=by rw[hg4];rfl
  have sP:=stW sz30 (vs:=zPc) hga rfl rfl rfl (by omega)
  have hgb':=(J05 (h:=H3) (i:=h.next) (j:=h.next+1) (o:=.row zPc 27 false false) (by omega) (by omega)).trans hgb
  have sF2:=stW (t:=32) sz33 (vs:=[iv (J0v l).1,iv (J0v l).2]) hgb' rfl rfl rfl (by show H3.floor≤_;omega)
  have n1:(some H2.next != some h.next)=true:=by simp;omega
  have i1:idOf (qP H2.next 0)=some H2.next:=rfl
  have i2:idOf (qP h.next 0)=some h.next:=rfl
  simp only[evC,seval,↓evP,rpD,J0G,J0X,J2t,J6a,J7G,l4,d]
  refine WK.flags (fs:=JhQ) (by kernel_rfl) ?_
  unfold JhQ
  iterate 4
   refine wcs hsn ?_
   simp only[rgC,seval,J04,J02,WKFC,rgL,rgK,J17,rgS,rgB,List.map_cons,List.map_nil,J2n,l42,J28,i1,i2,n1,sP,sF2]
  refine JvR ?_
  simp only[evC,seval,↓evP,rpD,J0G,J0X,J2t]
  have ha:∀ i,i≠h.next→(H3.put h.next (.row zPc 27 false false)).get i=H3.get i:=fun i hi=>J05 (by omega) (Ne.symm hi)
  refine hk1 e0 _ _ ?_ ?_ ⟨?_,J0b rfl (by show h.next+1<H3.next;omega)⟩ (by show h.next+2≤H3.next;omega) hf3 fun i hi=>?_
  ·simp only[evC,seval,↓evP,rpC]
  ·simp only[evC,seval,↓evP,rpC]
  ·rw[J05 (by show h.next+1<H3.next;omega) (by omega)]
   exact J0b rfl (by omega)
  ·rw[J05 (by show h.next+1<H3.next;omega) (by omega),ha i (by omega)]
   exact hgo i hi
theorem JeX (hsn:J1G call) {l:List RowN} {v:Value} {T:Tr} {H:SHeap} {K:Kont} (ht:J2c l) (hlen:l.length<900000000) (hfl:H.floor≤H.next) (hv:J0l H v l) (t0:T.get 0=v)
  (hends:∀ H,J0l H v l→H.floor≤H.next→∃ h',call 79 [v] H=some (qS H.next l.length l.length,h')∧(h'.get H.next=.row (ints (J0o l)) 3 false false∧h'.next=H.next+1∧h'.floor=H.floor∧∀ i,i<H.next→h'.get i=H.get i))
  (hk:∀ T' H' m e r,T'.get 0=v→T'.get 2=T.get 2→T'.get 3=T.get 3→T'.get 5=qP m 0→MkRE H' H.next m e r l.length (J52 l) (J0o l) (s0N l)→H.next≤H'.next→H'.floor=H.floor→(∀ i,i<H.next→H'.get i=H.get i)→WK Tryz.prog call N RR6 ⟨T',H'⟩ K) :
  WK Tryz.prog call N RR4 ⟨T,H⟩ K:=by
 show WK _ _ _ (.seq (.region _ _ true) (.seq _ RR6)) _ _
 rw[J4p]
 have hpos:=ht.pos
 obtain⟨x,hx⟩:∃ x,l[0]?=some x:=⟨_,List.getElem?_eq_getElem hpos⟩
 obtain⟨id,q,e0,hid,l0,l1,l2,l3,l4,lr⟩:=hv.row hx
 have hvf:J0l (H.fl (max H.floor H.next)) v l:=hv.mono (Nat.le_refl _) fun _ _=>rfl
 obtain⟨h3,hE,g1,g2,g3,g4⟩:=hends (H.fl (max H.floor H.next)) hvf (by show max H.floor H.next≤H.next;omega)
 simp only[J0J] at hE g1 g2 g4
 have g3':h3.floor=max H.floor H.next:=g3
 have g4':∀ i,i<H.next→h3.get i=H.get i:=g4
 have hnm:J52 l=x.name:=by unfold J52;rw[hx]
 have e0':J0R Tryz.prog 22 v (iv 0)=some (qP id q):=e0
 have hidT:(id<H.next)=True:=by simp[hid]
 have hone:(mk0V x.name (-1) H.next l.length).cells.toList.all one=true:=rfl
 have hcl:(mk0V x.name (-1) H.next l.length).cells.toList=[.string x.name,Z0,Z0,Z0,Z0,Z0,Z0,iv (-1),qS H.next l.length l.length,Z0,iv 0,iv 0,iv 0,iv 0,iv 0]:=rfl
 refine WK.flags (fs:=JhK) (by kernel_rfl) ?_
 unfold JhK
 iterate 10
  refine wcs hsn ?_
  simp only[rgC,seval,J04,J02,WKFC,rgL,rgK,J17,rgS,rgB,t0,e0',hidT,J07,J0d,l1,J2E,hE,J3V,hone,hcl,sz93,List.map_cons,List.map_nil]
 refine JvR ?_
 have hn4:((h3.fl H.floor).push (.row [.string x.name,Z0,Z0,Z0,Z0,Z0,Z0,iv (-1),qS H.next l.length l.length,Z0,iv 0,iv 0,iv 0,iv 0,iv 0] 120 false false)).next=H.next+1+1:=by show h3.next+1=_;omega
 have hf4:((h3.fl H.floor).push (.row [.string x.name,Z0,Z0,Z0,Z0,Z0,Z0,iv (-1),qS H.next l.length l.length,Z0,iv 0,iv 0,iv 0,iv 0,iv 0] 120 false false)).floor=H.floor:=rfl
 have gm:((h3.fl H.floor).push (.row [.string x.name,Z0,Z0,Z0,Z0,Z0,Z0,iv (-1),qS H.next l.length l.length,Z0,iv 0,iv 0,iv 0,iv 0,iv 0] 120 false false)).get h3.next=.row [.string x.name,Z0,Z0,Z0,Z0,Z0,Z0,iv (-1),qS H.next l.length l.length,Z0,iv 0,iv 0,iv 0,iv 0,iv 0] 120 false false:=J0h (h:=h3.fl H.floor)
 have ge:((h3.fl H.floor).push (.row [.string x.name,Z0,Z0,Z0,Z0,Z0,Z0,iv (-1),qS H.next l.length l.length,Z0,iv 0,iv 0,iv 0,iv 0,iv 0] 120 false false)).get H.next=.row (ints (J0o l)) 3 false false:=by rw[J06 (by show H.next<h3.next;omega)];exact g1
 have go:∀ i,i<H.next→((h3.fl H.floor).push (.row [.string x.name,Z0,Z0,Z0,Z0,Z0,Z0,iv (-1),qS H.next l.length l.length,Z0,iv 0,iv 0,iv 0,iv 0,iv 0] 120 false false)).get i=H.get i:=fun i hi=>by rw[J06 (by show i<h3.next;omega)];exact g4' i hi
 generalize (h3.fl H.floor).push (.row [.string x.name,Z0,Z0,Z0,Z0,Z0,Z0,iv (-1),qS H.next l.length l.length,Z0,iv 0,iv 0,iv 0,iv 0,iv 0] 120 false false)=H4 at *
 have hv4:J0l H4 v l:=hv.mono (by omega) go
 have hap:=Jer hv4 hpos (by omega)
 have hm1:ld1 1 (H4.get h3.next)=some (Z0):=by rw[gm];rfl
 have gm5:(H4.push (.row (l.flatMap J0e) 60 true false)).get h3.next=.row [.string x.name,Z0,Z0,Z0,Z0,Z0,Z0,iv (-1),qS H.next l.length l.length,Z0,iv 0,iv 0,iv 0,iv 0,iv 0] 120 false false:=by rw[J06 (by omega)];exact gm
 have hst:=stc (t:=22) (off:=1) sz22 (v:=qS H4.next l.length unk) rfl rfl gm5 (by simp) (by show H4.floor≤_;omega)
 have hfx:H4.fl (h3.fl H.floor).floor=H4:=by
  show H4.fl H.floor=H4
  rw[← hf4]
  exact J6L H4
 simp only[evC,seval,↓evP,rpD,J0G,J0X,J2t,hfx,J0J,t0,J0z,J0y,J0F,hm1,hap,hst]
 have gput:∀ (o:SObj) (i:Nat),i≠h3.next→((H4.push (.row (l.flatMap J0e) 60 true false)).put h3.next o).get i=(H4.push (.row (l.flatMap J0e) 60 true false)).get i:=fun o i hi=>J05 (by show h3.next<H4.next+1;omega) (Ne.symm hi)
 refine hk _ _ h3.next H.next H4.next ?_ ?_ ?_ ?_ ⟨fun i=>if i=h3.next then 0 else if i=H4.next then 1 else if i=H.next then 10 else 11,fun _=>Z0,?_,⟨by simp[s0N],by simp[s0N],by simp[s0N],by simp[s0N],rfl,fun t ht=>by cases ht⟩⟩ ?_ (by show H4.floor=H.floor;exact hf4) fun i hi=>?_
 ·simp only[evC,seval,↓evP,rpC,t0]
 ·simp only[evC,seval,↓evP,rpC]
 ·simp only[evC,seval,↓evP,rpC]
 ·simp only[evC,seval,↓evP,rpC]
 ·exact
   { cell:=by
      rw[J0b rfl (by show h3.next<H4.next+1;omega),hnm]
      simp only[J1p,J39]
      rfl
     rows:=by rw[gput _ _ (by omega)];exact J0h
     len:=rfl
     sl:=fun j h2 h8=>by
      have hj:j=2∨j=3∨j=4∨j=5∨j=6∨j=7∨j=8:=by omega
      rcases hj with rfl | rfl | rfl | rfl | rfl | rfl | rfl <;> exact .inl ⟨rfl,rfl,rfl⟩
     ends:=by rw[gput _ _ (by omega),J06 (by omega)];exact ge
     tm:=if_pos rfl
     tr:=by rw[if_neg (by omega),if_pos rfl]
     te:=by rw[if_neg (by omega),if_neg (by omega),if_pos rfl]
     lm:=⟨by omega,by show h3.next<H4.next+1;omega⟩
     lr:=⟨by omega,by show H4.next<H4.next+1;omega⟩
     le:=⟨Nat.le_refl _,by show H.next<H4.next+1;omega⟩
     fl:=by show H4.floor≤H.next;omega }
 ·show H.next≤H4.next+1
  omega
 ·rw[gput _ _ (by omega),J06 (by omega)];exact go i hi
end
end Go.Proofs.YtdejoodfeljmkaaGreatDoor
