/- Part 10 of what the claim leans on: 19 texts laid one behind another. -/
import Derived.Test.YtdejoodfeljmkaaGreatDoorTK9
namespace Go.Proofs.YtdejoodfeljmkaaGreatDoor
open Go Go.Sx
set_option maxRecDepth 100000
set_option linter.unusedSimpArgs false
set_option linter.unusedVariables false
set_option maxHeartbeats 64000000
structure O7 (l:List AB) (O:List Int) (j:Nat) (most:Int):Prop where
 len:O.length=l.length
 top:0<j→∀ x,l[0]?=some x→O[0]?=some (E5 x.kind)
 kid:∀ p k i x y o,i<j→IU l p k i→l[p]?=some x→l[i]?=some y→O[p]?=some o→O[i]?=some (o+HF (C1 x.kind) (C1 y.kind) k+E5 y.kind)
 le:∀ (i:Nat) o,i<j→O[i]?=some o→0≤o∧o≤2*(i:Int)+2
 max:(j=0∧most=0)∨(0<j∧NM O 0 j most)
theorem O7.most {l:List AB} {O:List Int} {j:Nat} {most:Int} (h:O7 l O j most):0≤most∧most≤2*(j:Int):=by
 rcases h.max with⟨_,h1⟩ | ⟨_,_,i,_,h2,h3⟩
 ·omega
 ·have:=h.le i _ h2 h3
  omega
theorem O7.step {l:List AB} {O:List Int} {j:Nat} {most n:Int} (ht:CU l) (h:O7 l O j most) (hj:j<l.length)
  (hn:(j=0∧∀ x,l[0]?=some x→n=E5 x.kind)∨∃ p k x y o,IU l p k j∧l[p]?=some x∧l[j]?=some y∧O[p]?=some o∧n=o+HF (C1 x.kind) (C1 y.kind) k+E5 y.kind):O7 l (O.set j n) (j+1) (if n>most then n else most):=by
 have hlO:=h.len
 have hnle:0≤n∧n≤2*(j:Int)+2:=by
  rcases hn with⟨rfl,h1⟩ | ⟨p,k,x,y,o,h1,h2,h3,h4,rfl⟩
  ·have:=V4 l[0].kind
   have:=h1 l[0] (List.getElem?_eq_getElem hj)
   omega
  ·have:=h.le p o h1.lt h4
   have:=V4 y.kind
   have:=bD (C1 x.kind) (C1 y.kind) k
   have:=h1.lt
   omega
 refine⟨by simpa using hlO,fun _ x hx=>?_,fun p k i x y o hi hk hx hy ho=>?_,fun i o hi ho=>?_,.inr ⟨by omega,?_⟩⟩
 ·by_cases h0:j=0
  ·subst h0
   rw[List.getElem?_set_self (by omega)]
   rcases hn with⟨_,h1⟩ | ⟨p,k,x,y,o,h1,_⟩
   ·rw[h1 x hx]
   ·have:=h1.lt;omega
  ·rw[List.getElem?_set_ne (by omega)]
   exact h.top (by omega) x hx
 ·have hlt:=hk.lt
  rw[List.getElem?_set_ne (by omega)] at ho
  by_cases hij:j=i
  ·subst hij
   rw[List.getElem?_set_self (by omega)]
   rcases hn with⟨rfl,_⟩ | ⟨p',k',x',y',o',h1,h2,h3,h4,rfl⟩
   ·omega
   ·obtain⟨rfl,rfl⟩:=IU.unique ht hk h1
    rw[hx] at h2
    rw[hy] at h3
    rw[ho] at h4
    cases h2
    cases h3
    cases h4
    rfl
  ·rw[List.getElem?_set_ne (by omega)]
   exact h.kid p k i x y o (by omega) hk hx hy ho
 ·by_cases hij:j=i
  ·subst hij
   rw[List.getElem?_set_self (by omega)] at ho
   cases ho
   exact hnle
  ·rw[List.getElem?_set_ne (by omega)] at ho
   exact h.le i o (by omega) ho
 ·rcases h.max with⟨rfl,rfl⟩ | ⟨hp,h1,i,h2,h3,h4⟩
  ·have he:(if n>0 then n else 0)=n:=by split <;> omega
   rw[he]
   refine⟨fun i x _ hi hx=>?_,0,by omega,by omega,List.getElem?_set_self (by omega)⟩
   obtain rfl:i=0:=by omega
   rw[List.getElem?_set_self (by omega)] at hx
   cases hx
   omega
  ·refine⟨fun t x _ ht hx=>?_,?_⟩
   ·by_cases htj:j=t
    ·subst htj
     rw[List.getElem?_set_self (by omega)] at hx
     cases hx
     split <;> omega
    ·rw[List.getElem?_set_ne htj] at hx
     have:=h1 t x (by omega) (by omega) hx
     split <;> omega
   ·split
    ·exact⟨j,by omega,by omega,List.getElem?_set_self (by omega)⟩
    ·exact⟨i,h2,by omega,by rw[List.getElem?_set_ne (by omega)];exact h4⟩
theorem O7.done {l:List AB} {O:List Int} {most:Int} (ht:CU l) (h:O7 l O l.length most):most=(DY l (l.length+1) 0).1:=by
 have hp:=ht.pos
 have hx:l[0]?=some l[0]:=List.getElem?_eq_getElem hp
 have hO:uU l O:=⟨fun x hx=>h.top hp x hx,fun p k i x y o hk hx hy ho=>h.kid p k i x y o (List.getElem?_eq_some_iff.1 hy).1 hk hx hy ho⟩
 have h1:=(zE hO (l.length+1) 0 l.length _ _ ht (by omega) hx (hO.top _ hx)).1
 rw[Int.sub_self,Int.zero_add] at h1
 rcases h.max with⟨h0,_⟩ | ⟨_,h2⟩
 ·omega
 ·exact h2.unique h1
section
variable {call:AS} {N:Nat}
theorem Ad {id n c:Nat} {i:Int} (h0:0≤i) (hi:i<n):CB Tryz.prog 25 (qS id n c) (iv i)=some (qP id i.toNat):=by
 obtain⟨k,rfl⟩:∃ k:Nat,i=(k:Int):=⟨i.toNat,by omega⟩
 exact EG (by omega)
def inB:Code→Code
 | .block _ c=>c
 | c=>c
noncomputable def kX:Code:=ZV Tryz.f117 1
noncomputable def US:Code:=rt (rt (inB kX))
theorem iE {l:List AB} {v:Value} {a:Nat} {v3 v4:Value} {y:AB} {T:Tr} {H:AA} {j:Nat} {O:List Int} {most n:Int} {K:B_} (t0:T.get 0=v) (t3:T.get 3=v3) (t4:T.get 4=v4) (t5:T.get 5=qS a l.length l.length) (t6:T.get 6=iv most) (t7:T.get 7=iv j) (t8:T.get 8=iv n)
  (hn:0≤n∧n<4611686018427387904) (hv:AQ H v l) (hy:l[j]?=some y) (gO:H.get a=.row (ints O) 3 false false) (hO:O.length=l.length) (ha:a<H.next) (hf:H.floor≤a)
  (hK:∀ T':Tr,T'.get 0=v→T'.get 3=v3→T'.get 4=v4→T'.get 5=qS a l.length l.length→T'.get 6=iv (if n+E5 y.kind>most then n+E5 y.kind else most)→T'.get 7=iv j→K.ap Tryz.prog call N .normal ⟨T',H.put a (.row (ints (O.set j (n+E5 y.kind))) 3 false false)⟩) :
  WK Tryz.prog call N US ⟨T,H⟩ K:=by
 show WK _ _ _ (.seq (.seq _ tQ) (rt US)) _ _
 have hlt:j<l.length:=(List.getElem?_eq_some_iff.1 hy).1
 obtain⟨id,q,e0,hid,l0,l1,l2,l3,l4,lr⟩:=hv.row hy
 simp only[PB,seval,↓eP,rP,t0,t7,e0,l0]
 refine Wg (κ:=y.kind) (n:=n) ?_ ?_ hn fun T' hT h8=>?_
 ·simp only[eE,seval,↓eP,rP]
 ·simp only[eE,seval,↓eP,rP,t8]
 have q0:=hT 0 (by decide)
 have q3:=hT 3 (by decide)
 have q4:=hT 4 (by decide)
 have q5:=hT 5 (by decide)
 have q6:=hT 6 (by decide)
 have q7:=hT 7 (by decide)
 simp only[eE,seval,↓eP,rP,t0,t3,t4,t5,t6,t7] at q0 q3 q4 q5 q6 q7
 have st:=KZ (x:=n+E5 y.kind) gO (show j<O.length by omega) hf
 show WK _ _ _ (rt US) _ _
 cases d:decide (n+E5 y.kind>most) with
 | true=>
  rw[if_pos (by simpa using d)] at hK
  show WK _ _ _ (.seq _ _) _ _
  simp only[eE,seval,↓eP,C2,FI,LF,CW,C6,q5,q6,q7,h8,EG hlt,st,d]
  refine hK _ ?_ ?_ ?_ ?_ ?_ ?_ <;> simp only[eE,seval,↓eP,rP,q0,q3,q4,q5,q7]
 | false=>
  rw[if_neg (by simpa using d)] at hK
  show WK _ _ _ (.seq _ _) _ _
  simp only[eE,seval,↓eP,C2,FI,LF,CW,C6,q5,q6,q7,h8,EG hlt,st,d]
  refine hK _ ?_ ?_ ?_ ?_ ?_ ?_ <;> simp only[eE,seval,↓eP,rP,q0,q3,q4,q5,q6,q7]
theorem Jd {l:List AB} {v:Value} {h:AA} (ht:CU l) (hv:AQ h v l) (hlen:l.length<1099511627776) (hn:l.length+3<N) (hfl:h.floor≤h.next)
  (hP:∃ h',call 129 [v] h=some (.tuple #[qS h.next l.length l.length,qS (h.next+1) l.length l.length],h') ∧
   (∃ U W,gC l U W∧h'.get h.next=.row (ints U) 3 false false∧h'.get (h.next+1)=.row (ints W) 3 false false∧h'.next=h.next+3∧h'.floor=h.floor∧∀ i,i<h.next→h'.get i=h.get i))
  (hL:∀ P K (k:Nat) h,1≤P∧P≤54→1≤K∧K≤54→call 130 [iv P,iv k,iv K] h=some (.bool (NR (C1 P) (C1 K) k),h)) :
  ∃ h',AY Tryz.prog call N 117 [v] h=some (iv (DY l (l.length+1) 0).1,h')∧∀ i,i<h.next→h'.get i=h.get i:=by
 refine DW (R:=fun h'=>∀ i,i<h.next→h'.get i=h.get i) Tryz.func117 rfl (by simp[Tryz.f117]) ?_
 have hr:Tryz.f117.results.toList=[.tmp 2]:=rfl
 have hl22:∀ h',CY Tryz.prog h' 22 v=some (.int .i64 l.length):=fun h'=>hv.len
 have hpos:=ht.pos
 obtain⟨h1,hP,U,W,hUW,gU,gW,hnx,hf1,hold⟩:=hP
 simp only[eE,seval,↓eP,rP,hr,hl22,R9 hlen,hP]
 refine WK.loop (fun j s=>s.T.get 0=v∧s.T.get 3=qS h.next l.length l.length∧s.T.get 4=qS (h.next+1) l.length l.length∧s.T.get 5=qS h1.next l.length l.length∧s.T.get 7=iv j∧s.h.next=h1.next+1∧s.h.floor=h.floor∧(∀ i,i<h.next→s.h.get i=h.get i) ∧
  s.h.get h.next=.row (ints U) 3 false false∧s.h.get (h.next+1)=.row (ints W) 3 false false∧∃ O most,s.T.get 6=iv most∧s.h.get h1.next=.row (ints O) 3 false false∧O7 l O j most) l.length (by omega) ?_ ?_
 ·simp only[eE,↓reduceIte,Nat.reduceEqDiff,reduceCtorEq,↓eP,rP,Nat.reduceAdd,Nat.reduceLT]
  refine⟨rfl,hf1,fun i hi=>?_,?_,?_,List.replicate l.length 0,rfl,⟨by simp,(fun h=>by omega),(fun p k i x y o h=>by omega),(fun i o h=>by omega),.inl ⟨rfl,rfl⟩⟩⟩
  ·rw[if_neg (by omega)];exact hold i hi
  ·rw[if_neg (by omega)];exact gU
  ·rw[if_neg (by omega)];exact gW
 ·rintro j ⟨T1,H⟩ hj ⟨t0,t3,t4,t5,t7,hnx1,hf2,hold1,gU1,gW1,O,most,t6,gO,hO⟩
  simp only at t0 t3 t4 t5 t6 t7 hnx1 hf2 hold1 gU1 gW1 gO
  have hmost:=hO.most
  by_cases hlt:j<l.length
  ·have c1:decide ((j:Int)<(l.length:Int))=true:=by simp only[decide_eq_true_eq];omega
   have w1:=DF j (by omega)
   have hv1:AQ H v l:=hv.mono (by omega) hold1
   obtain⟨y,hy⟩:∃ y,l[j]?=some y:=⟨_,List.getElem?_eq_getElem hlt⟩
   obtain⟨id,q,e0,hid,l0,l1,l2,l3,l4,lr⟩:=hv1.row hy
   have hky:1≤y.kind∧y.kind≤54:=(ht.end hlt).kids.elim fun z hz=>by rw[hy] at hz;cases hz.1;exact hz.2.2.1
   have hoy:=V4 y.kind
   simp only[PB,seval,↓eP,rP,t0,t7,hl22,c1]
   show WK _ _ _ kX _ _
   have fin:∀ (n:Int),0≤n∧n<4611686018427387904→(j=0∧(∀ x,l[0]?=some x→n+E5 y.kind=E5 x.kind)∨∃ p k x y' o,IU l p k j∧l[p]?=some x∧l[j]?=some y'∧O[p]?=some o∧n+E5 y.kind=o+HF (C1 x.kind) (C1 y'.kind) k+E5 y'.kind) →
     O7 l (O.set j (n+E5 y.kind)) (j+1) (if n+E5 y.kind>most then n+E5 y.kind else most):=fun n h1 h2=>hO.step ht hlt h2
   have ha:h1.next<H.next:=by omega
   have hfa:H.floor≤h1.next:=by omega
   have po:=fun (X:BF)=>BL (h:=H) (i:=h1.next) (o:=X) rfl ha
   have pn:=fun (X:BF) (i:Nat) (hi:i≠h1.next)=>AR (h:=H) (i:=h1.next) (j:=i) (o:=X) ha (Ne.symm hi)
   rcases Nat.eq_zero_or_pos j with h0 | h0
   ·subst h0
    have hU0:=hUW.top
    have cm:decide ((-1:Int)≥0)=false:=rfl
    have o0:=fin 0 (by omega) (.inl ⟨rfl,fun x hx=>by rw[hy] at hx;cases hx;omega⟩)
    have i0:CB Tryz.prog 25 (qS h.next l.length l.length) (iv ((0:Nat):Int))=some (qP h.next 0):=EG (i:=0) hpos
    show WK _ _ _ (.block 1 (.seq _ (.seq _ US))) _ _
    simp only[eE,↓reduceIte,Nat.reduceEqDiff,reduceCtorEq,↓eP,rP,Nat.reduceAdd,Nat.reduceLT,t3,t7,i0,gU1,IF hU0,cm]
    refine iE (y:=y) (O:=O) (most:=most) (n:=0) (j:=0) (a:=h1.next) ?_ rfl rfl ?_ ?_ ?_ ?_ (by omega) hv1 hy gO hO.len ha hfa fun T' u0 u3 u4 u5 u6 u7=>?_
    ·simp only[eE,seval,↓eP,rP,t0]
    ·simp only[eE,seval,↓eP,rP,t5]
    ·simp only[eE,seval,↓eP,rP,t6]
    ·simp only[eE,seval,↓eP,rP,t7]
    ·simp only[eE,seval,↓eP,rP]
    simp only[eE,seval,↓eP,rP,t3,t4] at u3 u4
    simp only[eE,↓reduceIte,Nat.reduceEqDiff,reduceCtorEq,↓eP,C2,FI,LF,CW,C6,Nat.reduceAdd,Nat.reduceLT,u0,u3,u4,u5,u6,u7,w1]
    exact⟨hlt,hnx1,hf2,fun i hi=>by rw[pn _ _ (by omega)];exact hold1 i hi,by rw[pn _ _ (by omega)];exact gU1,by rw[pn _ _ (by omega)];exact gW1,_,po _,o0⟩
   ·obtain⟨p,k,hk⟩:=ht.parent h0 hlt
    obtain⟨hUj,hWj⟩:=hUW.kid p k j hk
    have hpj:=hk.lt
    obtain⟨x,hx,hkx,hch⟩:=hk
    have hk:IU l p k j:=⟨x,hx,hkx,hch⟩
    obtain⟨o,ho⟩:∃ o,O[p]?=some o:=⟨_,List.getElem?_eq_getElem (by rw[hO.len];omega)⟩
    have hole:=hO.le p o hpj ho
    have hkx1:1≤x.kind∧x.kind≤54:=(ht.end (show p<l.length by omega)).kids.elim fun z hz=>by rw[hx] at hz;cases hz.1;exact hz.2.2.1
    obtain⟨id2,q2,f0,hid2,m0,m1,m2,m3,m4,mr⟩:=hv1.row hx
    have cm:decide ((p:Int)≥0)=true:=by simp
    have hl:=fun hh=>hL x.kind y.kind k hh hkx1 hky
    have hpl:p<l.length:=by omega
    show WK _ _ _ (.block 1 (.seq _ (.seq _ US))) _ _
    simp only[eE,seval,↓eP,rP,t3,t5,t7,EG hlt,EG hpl,gU1,gO,IF hUj,IF ho,cm]
    refine WK.quiet (by kernel_rfl) ?_
    cases hlo:NR (C1 x.kind) (C1 y.kind) k with
    | false=>
     have hI:HF (C1 x.kind) (C1 y.kind) k=0:=by unfold HF;rw[hlo];rfl
     have o0:=fin o (by omega) (.inr ⟨p,k,x,y,o,hk,hx,hy,ho,by rw[hI];omega⟩)
     simp only[eE,seval,↓eP,rP,t0,t3,t4,t7,EG hlt,gU1,gW1,IF hUj,IF hWj,e0,f0,l0,m0,hl,hlo]
     refine iE (y:=y) (O:=O) (most:=most) (n:=o) (j:=j) (a:=h1.next) ?_ rfl rfl ?_ ?_ ?_ ?_ (by omega) hv1 hy gO hO.len ha hfa fun T' u0 u3 u4 u5 u6 u7=>?_
     ·simp only[eE,seval,↓eP,rP,t0]
     ·simp only[eE,seval,↓eP,rP,t5]
     ·simp only[eE,seval,↓eP,rP,t6]
     ·simp only[eE,seval,↓eP,rP,t7]
     ·simp only[eE,seval,↓eP,rP]
     simp only[eE,seval,↓eP,rP,t3,t4] at u3 u4
     simp only[eE,↓reduceIte,Nat.reduceEqDiff,reduceCtorEq,↓eP,C2,FI,LF,CW,C6,Nat.reduceAdd,Nat.reduceLT,u0,u3,u4,u5,u6,u7,w1]
     exact⟨hlt,hnx1,hf2,fun i hi=>by rw[pn _ _ (by omega)];exact hold1 i hi,by rw[pn _ _ (by omega)];exact gU1,by rw[pn _ _ (by omega)];exact gW1,_,po _,o0⟩
    | true=>
     have hI:HF (C1 x.kind) (C1 y.kind) k=1:=by unfold HF;rw[hlo];rfl
     have o0:=fin (o+1) (by omega) (.inr ⟨p,k,x,y,o,hk,hx,hy,ho,by rw[hI]⟩)
     have w2:IntKind.i64.wrap (o+1)=o+1:=BT (by omega) (by omega)
     simp only[eE,seval,↓eP,rP,t0,t3,t4,t7,EG hlt,gU1,gW1,IF hUj,IF hWj,e0,f0,l0,m0,hl,hlo,w2]
     refine iE (y:=y) (O:=O) (most:=most) (n:=o+1) (j:=j) (a:=h1.next) ?_ rfl rfl ?_ ?_ ?_ ?_ (by omega) hv1 hy gO hO.len ha hfa fun T' u0 u3 u4 u5 u6 u7=>?_
     ·simp only[eE,seval,↓eP,rP,t0]
     ·simp only[eE,seval,↓eP,rP,t5]
     ·simp only[eE,seval,↓eP,rP,t6]
     ·simp only[eE,seval,↓eP,rP,t7]
     ·simp only[eE,seval,↓eP,rP]
     simp only[eE,seval,↓eP,rP,t3,t4] at u3 u4
     simp only[eE,↓reduceIte,Nat.reduceEqDiff,reduceCtorEq,↓eP,C2,FI,LF,CW,C6,Nat.reduceAdd,Nat.reduceLT,u0,u3,u4,u5,u6,u7,w1]
     exact⟨hlt,hnx1,hf2,fun i hi=>by rw[pn _ _ (by omega)];exact hold1 i hi,by rw[pn _ _ (by omega)];exact gU1,by rw[pn _ _ (by omega)];exact gW1,_,po _,o0⟩
  ·have c1:decide ((j:Int)<(l.length:Int))=false:=by simp only[decide_eq_false_iff_not];omega
   have:j=l.length:=by omega
   subst this
   have e:=hO.done ht
   subst e
   simp only[eE,seval,↓eP,rP,t0,t6,t7,hl22,c1]
   exact hold1
end
section
variable {call:AS} {N:Nat} {h:AA} {lo m e r n:Nat} {nm:ByteArray} {E:List Int} {s:AM}
theorem iX {H:AA} {x:AB} (hf:H.floor≤H.next):BB Tryz.prog (H.push (.row DS 60 false false)) 60 (qP H.next 0) (.agg #[.int .i64 x.kind,.string x.name,.int .i64 x.ends,.int .i64 x.n,.int .i64 x.kids])=some ((H.push (.row DS 60 false false)).put H.next (.row (AV x) 60 false false)):=by
 have hone:([.int .i64 x.kind,.string x.name,.int .i64 x.ends,.int .i64 x.n,.int .i64 x.kids]:List Value).all one=true:=rfl
 rw[CW,BX,TY,if_pos ⟨hf,hone⟩]
 rfl
theorem uQ:flat (.agg #[.int .i64 0,.string ByteArray.empty,.int .i64 0,.int .i64 0,.int .i64 0])=true:=rfl
theorem qW:(Value.agg #[.int .i64 0,.string ByteArray.empty,.int .i64 0,.int .i64 0,.int .i64 0]).cells.toList=DS:=rfl
theorem nP {l:List G9} {x:ByteArray} (h:GK l x=none):MA l x 0=-1:=by have:=eO l x 0;rw[h] at this;exact this
theorem qU {l:List G9} {x:ByteArray} {t:G9} (h:GK l x=some t):∃ k:Nat,MA l x 0=(k:Int)∧l[k]?=some t:=by
 have:=eO l x 0
 rw[h] at this
 obtain⟨k,h1,h2⟩:=this
 exact⟨k,by rw[h1];congr 1;omega,h2⟩
theorem Ai {at_:Nat} {end_:Int} {x:AB} (hp:F_ h lo m e r n nm E s) (hx:s.rows[at_]?=some x) (hd:BZ x.kind≠0) (hn:at_<1099511627776) (hE:E[at_]?=some end_) (he:0≤end_) (hth:s.things.length<100000) (hN:100004<N)
  (hfind:∀ (y:ByteArray) H tag V C,CQ H lo m e r n nm E tag V C s→call 118 [qP m 0,.string y] H=some (iv (MA s.things y 0),H))
  (h87:∀ k h',call 119 [iv k] h'=some (iv (HK k),h')) :
  ∃ h',AY Tryz.prog call N 81 [qP m 0,iv at_,iv (BZ x.kind)] h=some (iv (EH x s),h')∧(GB h h' lo∧(EH x s=0→F_ h' lo m e r n nm E (BR at_ end_ x s))):=by
 obtain⟨tag,V,hp,hw⟩:=hp
 refine DW (R:=fun h'=>GB h h' lo∧(EH x s=0→F_ h' lo m e r n nm E (BR at_ end_ x s))) Tryz.func81 rfl (by simp[Tryz.f81]) ?_
 have hr:Tryz.f81.results.toList=[.tmp 6]:=rfl
 generalize hKK:B_.top (fun ex s_1=>(ex=ED.normal∨ex=ED.ret)∧∃ vs,F2 Tryz.prog s_1 Tryz.f81.results.toList=some vs∧HL vs=iv (EH x s)∧GB h s_1.h lo∧(EH x s=0→F_ s_1.h lo m e r n nm E (BR at_ end_ x s)))=K
 have fin:∀ (T':Tr) H v,T'.get 6=iv v→v=EH x s→GB h H lo→(v=0→F_ H lo m e r n nm E (BR at_ end_ x s))→K.ap Tryz.prog call N .ret ⟨T',H⟩:=fun T' H v h6 hv ha hb=>by
  subst hv
  rw[← hKK]
  simp only[eE,↓reduceIte,Nat.reduceEqDiff,reduceCtorEq,↓eP,rP,Nat.reduceAdd,Nat.reduceLT,hr,h6]
  exact⟨ha,hb⟩
 show WK _ _ _ (.seq _ (.seq _ (.seq _ Q4))) _ _
 have hm1:=hp.c1
 obtain⟨hlt,l0,l1,l3,lr⟩:=hp.row hx
 have hdl:=Q6 x.kind
 have hlo:lo≤h.next∧h.floor≤h.next:=by have:=hp.lm;have:=hp.fl;omega
 have hrc:=iX (x:=x) hlo.2
 simp only[eE,↓reduceIte,Nat.reduceEqDiff,reduceCtorEq,↓eP,C2,Nat.reduceAdd,Nat.reduceLT,uQ,qW,IG,BN,BO,hm1,KK hlt,lr,hrc]
 have hb:((h.push (.row DS 60 false false)).put h.next (.row (AV x) 60 false false)).get h.next=.row (AV x) 60 false false:=BL rfl (by show h.next<h.next+1;omega)
 have hp1:=((hp.retag (tag':=fun i=>if i=h.next then 11 else tag i) (fun i hi=>if_neg (by omega))).putNew (o:=.row (AV x) 60 false false) (o':=.row DS 60 false false))
 have ho:∀ i,i<h.next→((h.push (.row DS 60 false false)).put h.next (.row (AV x) 60 false false)).get i=h.get i:=fun i hi=>by rw[AR (by show h.next<h.next+1;omega) (by omega),AU hi]
 have hn1:((h.push (.row DS 60 false false)).put h.next (.row (AV x) 60 false false)).next=h.next+1:=rfl
 have hf1:((h.push (.row DS 60 false false)).put h.next (.row (AV x) 60 false false)).floor=h.floor:=rfl
 generalize (h.push (.row DS 60 false false)).put h.next (.row (AV x) 60 false false)=H1 at *
 have hfc:=hfind x.name H1 _ V _ hp1
 have lb1:AH 1 (H1.get h.next)=some (.string x.name):=by rw[hb];rfl
 have aft1:GB h H1 lo:=⟨fun i hi=>ho i (by omega),by omega,hf1⟩
 cases hf:GK s.things x.name with
 | some t=>
  obtain⟨k,hk,_⟩:=qU hf
  have c1:decide ((k:Int)≥0)=true:=by simp
  rw[hk] at hfc
  simp only[eE,seval,↓eP,rP,lb1,hfc,c1]
  exact fin _ _ 31 (by simp only[Tr.get_put,if_true]) (by unfold EH;rw[if_neg hd,if_pos (by rw[hf];rfl)]) aft1 fun h=>by cases h
 | none=>
  have hE1:¬ (GK s.things x.name).isSome=true:=by rw[hf];simp
  rw[nP hf] at hfc
  have c1:decide ((-1:Int)≥0)=false:=rfl
  simp only[eE,seval,↓eP,rP,lb1,hfc]
  have cle:=cK hw (BZ x.kind)
  refine Hz (b:=h.next) (end_:=end_) hp1 hx (by omega) hdl.2 hw hth hE (fun h'=>h87 _ h') ?_ ?_ ?_ ?_ hb (by omega) (if_pos rfl) (fun T' hc h6=>?_) fun T2 H2 tag2 V2 hc hT2 hp2 htg2 ho2 hn2 hf2=>?_
  ·simp only[eE,seval,↓eP,rP]
  ·simp only[eE,seval,↓eP,rP]
  ·simp only[eE,seval,↓eP,rP]
  ·simp only[eE,seval,↓eP,rP]
  ·exact fin _ _ 3 h6 (by unfold EH;rw[if_neg hd,if_neg hE1,if_pos hc]) aft1 fun h=>by cases h
  ·have hq:=hw.q;have hv:=hw.v;have ht:=hw.t;have hu:=hw.u;have ho':=hw.o
   have g0:=hT2 0 (by decide) (by decide) (by decide)
   have g1:=hT2 1 (by decide) (by decide) (by decide)
   have g2:=hT2 2 (by decide) (by decide) (by decide)
   have g7:=hT2 7 (by decide) (by decide) (by decide)
   simp only[eE,seval,↓eP,rP] at g0 g1 g2 g7
   refine Ba (b:=h.next) (x:=x) (kd:=BZ x.kind) hp2 (by omega) hdl.2 hn ⟨by show s.queues.length<1000;omega,by show s.vars.length<1000;omega,by show s.tags.length<1000;omega,by show s.rules.length<1000;omega,by show s.on.length<1000;omega⟩ g0 g1 g2 g7
    (by rw[ho2 h.next (by omega) (.inr (if_pos rfl))];exact hb) (by omega) ((htg2 _ (by omega)).trans (if_pos rfl)) fun T3 H3 tag3 V3 h6 hp3 ho3 hn3 hf3=>?_
   have hS:BR at_ end_ x s=FK at_ end_ x s:=by unfold BR;rw[if_neg hd]
   refine fin _ _ 0 h6 (by unfold EH;rw[if_neg hd,if_neg hE1,if_neg hc]) ⟨fun i hi=>by rw[ho3 i (by omega) hi,ho2 i (by omega) (.inl hi),ho i (by omega)],by omega,by omega⟩ fun _=>?_
   rw[hS]
   refine⟨tag3,V3,?_,cZ hw hd hc he⟩
   rw[Ek (at_:=at_) (x:=x) (by omega) hdl.2] at hp3
   exact hp3
theorem Va {at_:Nat} {x:AB} (hp:F_ h lo m e r n nm E s) (hx:s.rows[at_]?=some x) (hd:EC x.kind≠0) (hn:at_<1099511627776)
  (hfind:∀ (y:ByteArray) H tag V C,CQ H lo m e r n nm E tag V C s→call 118 [qP m 0,.string y] H=some (iv (MA s.things y 0),H)) :
  ∃ h',AY Tryz.prog call N 83 [qP m 0,iv at_,iv (EC x.kind)] h=some (iv (DB at_ x s),h')∧(GB h h' lo∧(DB at_ x s=0→F_ h' lo m e r n nm E (CF at_ x s))):=by
 obtain⟨tag,V,hp,hw⟩:=hp
 refine DW (R:=fun h'=>GB h h' lo∧(DB at_ x s=0→F_ h' lo m e r n nm E (CF at_ x s))) Tryz.func83 rfl (by simp[Tryz.f83]) ?_
 have hr:Tryz.f83.results.toList=[.tmp 6]:=rfl
 generalize hKK:B_.top (fun ex s_1=>(ex=ED.normal∨ex=ED.ret)∧∃ vs,F2 Tryz.prog s_1 Tryz.f83.results.toList=some vs∧HL vs=iv (DB at_ x s)∧GB h s_1.h lo∧(DB at_ x s=0→F_ s_1.h lo m e r n nm E (CF at_ x s)))=K
 have fin:∀ (T':Tr) H v,T'.get 6=iv v→v=DB at_ x s→GB h H lo→(v=0→F_ H lo m e r n nm E (CF at_ x s))→K.ap Tryz.prog call N .ret ⟨T',H⟩:=fun T' H v h6 hv ha hb=>by
  subst hv
  rw[← hKK]
  simp only[eE,↓reduceIte,Nat.reduceEqDiff,reduceCtorEq,↓eP,rP,Nat.reduceAdd,Nat.reduceLT,hr,h6]
  exact⟨ha,hb⟩
 have c1:=hp.c1
 have c9:=hp.c9
 obtain⟨hlt,l0,l1,l3,lr⟩:=hp.row hx
 have hfc:=hfind x.name h tag V _ hp
 have aft0:GB h h lo:=⟨fun _ _=>rfl,Nat.le_refl _,rfl⟩
 show WK _ _ _ (.seq _ _) _ _
 cases hf:GK s.things x.name with
 | none=>
  rw[nP hf] at hfc
  have d1:decide ((-1:Int)<0)=true:=rfl
  simp only[eE,seval,↓eP,rP,IG,BN,BO,c1,KK hlt,l1,hfc]
  exact fin _ _ 32 (by simp only[Tr.get_put,if_true]) (by unfold DB;rw[if_neg hd,hf]) aft0 fun h=>by cases h
 | some t=>
  obtain⟨k,hk,hkt⟩:=qU hf
  have hkl:=(List.getElem?_eq_some_iff.1 hkt).1
  rw[hk] at hfc
  have d1:decide ((k:Int)<0)=false:=by simp
  rcases hp.sl 8 (by decide) (by decide) with⟨h1,_⟩ | ⟨id,ex,hv8,hg,_,_,_⟩
  ·have:s.things.length=0:=h1
   omega
  ·have hg':h.get id=.row (N7 s.things++ex) 135 true false:=hg
   have hv8':V 8=qS id s.things.length AO:=hv8
   have l1':AH (k*4+1) (h.get id)=some (iv t.kind):=by rw[hg'];exact VL (j:=1) ex hkt (by decide)
   have l2':AH (k*4+2) (h.get id)=some (iv t.num):=by rw[hg'];exact VL (j:=2) ex hkt (by decide)
   have l3':AH (k*4+3) (h.get id)=some (iv t.known):=by rw[hg'];exact VL (j:=3) ex hkt (by decide)
   cases d2:decide (t.known>(at_:Int)) with
   | true=>
    simp only[eE,seval,↓eP,rP,IG,P7,BN,BO,PQ,c1,c9,hv8',KK hlt,VK hkl,i_,l1,l3',hfc,d1,d2]
    exact fin _ _ 32 (by simp only[Tr.get_put,if_true]) (by unfold DB;rw[if_neg hd,hf];simp only;rw[if_pos (by simpa using d2)]) aft0 fun h=>by cases h
   | false=>
    cases d3:(t.kind != EC x.kind) with
    | true=>
     simp only[eE,seval,↓eP,rP,IG,P7,BN,BO,PQ,c1,c9,hv8',KK hlt,VK hkl,i_,uM,l1,l3',l1',hfc,d1,d2,d3]
     exact fin _ _ 33 (by simp only[Tr.get_put,if_true]) (by unfold DB;rw[if_neg hd,hf];simp only;rw[if_neg (by simpa using d2),if_pos (by simpa using d3)]) aft0 fun h=>by cases h
    | false=>
     have hst:=GM (off:=at_*5+3) C7 (v:=iv t.num) rfl rfl hp.rows (by rw[J7];have:=hp.len;omega) (by have:=hp.fl;have:=hp.lr.1;omega)
     rw[VN hx] at hst
     have hp3:=hp.rowsW (l:=G8 s.rows at_ t.num) UE
     simp only[eE,seval,↓eP,rP,IG,P7,BN,BO,PQ,c1,c9,hv8',KK hlt,VK hkl,i_,uM,l1,l3',l1',hfc,d1,d2,d3]
     refine WK.quiet (by kernel_rfl) ?_
     simp only[eE,seval,↓eP,C2,FI,LF,CW,C6,IG,P7,BN,BO,PQ,c1,c9,hv8',KK hlt,VK hkl,Gv,l2',hst]
     refine fin _ _ 0 (by simp only[Tr.get_put,if_true]) (by unfold DB;rw[if_neg hd,hf];simp only;rw[if_neg (by simpa using d2),if_neg (by simpa using d3)]) ⟨fun i hi=>AR hp.lr.2 (by have:=hp.lr;omega),Nat.le_refl _,rfl⟩ fun _=>?_
     have hS:CF at_ x s={ s with rows:=G8 s.rows at_ t.num }:=by unfold CF;rw[if_neg hd,hf]
     rw[hS]
     exact⟨tag,V,hp3,⟨hw.q,hw.v,hw.t,hw.u,hw.o,hw.th⟩⟩
theorem Hk {at_:Nat} {x:AB} (hp:F_ h lo m e r n nm E s) (hx:s.rows[at_]?=some x) (hev:E8 x.kind=true) (hn:at_<1099511627776) (hxn:x.kind≠10→0≤x.n∧x.n<s.on.length) :
  ∃ h',AY Tryz.prog call N 85 [qP m 0,iv at_] h=some (iv (DQ x s),h')∧(GB h h' lo∧(DQ x s=0→F_ h' lo m e r n nm E (D3 at_ x s))):=by
 obtain⟨tag,V,hp,hw⟩:=hp
 refine DW (R:=fun h'=>GB h h' lo∧(DQ x s=0→F_ h' lo m e r n nm E (D3 at_ x s))) Tryz.func85 rfl (by simp[Tryz.f85]) ?_
 have hr:Tryz.f85.results.toList=[.tmp 4]:=rfl
 generalize hKK:B_.top (fun ex s_1=>(ex=ED.normal∨ex=ED.ret)∧∃ vs,F2 Tryz.prog s_1 Tryz.f85.results.toList=some vs∧HL vs=iv (DQ x s)∧GB h s_1.h lo∧(DQ x s=0→F_ s_1.h lo m e r n nm E (D3 at_ x s)))=K
 have fin:∀ (T':Tr) H v,T'.get 4=iv v→v=DQ x s→GB h H lo→(v=0→F_ H lo m e r n nm E (D3 at_ x s))→K.ap Tryz.prog call N .ret ⟨T',H⟩:=fun T' H v h6 hv ha hb=>by
  subst hv
  rw[← hKK]
  simp only[eE,↓reduceIte,Nat.reduceEqDiff,reduceCtorEq,↓eP,rP,Nat.reduceAdd,Nat.reduceLT,hr,h6]
  exact⟨ha,hb⟩
 have hm1:=hp.c1
 obtain⟨hlt,l0,l1,l3,lr⟩:=hp.row hx
 have hlo:lo≤h.next∧h.floor≤h.next:=by have:=hp.lm;have:=hp.fl;omega
 have hrc:=iX (x:=x) hlo.2
 have w1:IntKind.i64.wrap ((at_:Int)+1)=(at_:Int)+1:=BT (by omega) (by omega)
 show WK _ _ _ (.seq _ (.seq _ (.seq (.seq _ (.cond _ _ _)) _))) _ _
 simp only[eE,↓reduceIte,Nat.reduceEqDiff,reduceCtorEq,↓eP,C2,Nat.reduceAdd,Nat.reduceLT,uQ,qW,IG,BN,BO,hm1,KK hlt,lr,hrc]
 have hb:((h.push (.row DS 60 false false)).put h.next (.row (AV x) 60 false false)).get h.next=.row (AV x) 60 false false:=BL rfl (by show h.next<h.next+1;omega)
 have hp1:=hp.putNew (o:=.row (AV x) 60 false false) (o':=.row DS 60 false false)
 have ho:∀ i,i<h.next→((h.push (.row DS 60 false false)).put h.next (.row (AV x) 60 false false)).get i=h.get i:=fun i hi=>by rw[AR (by show h.next<h.next+1;omega) (by omega),AU hi]
 have hn1:((h.push (.row DS 60 false false)).put h.next (.row (AV x) 60 false false)).next=h.next+1:=rfl
 have hf1:((h.push (.row DS 60 false false)).put h.next (.row (AV x) 60 false false)).floor=h.floor:=rfl
 generalize (h.push (.row DS 60 false false)).put h.next (.row (AV x) 60 false false)=H1 at *
 have lb0:AH 0 (H1.get h.next)=some (iv x.kind):=by rw[hb];rfl
 have lb3:AH 3 (H1.get h.next)=some (iv x.n):=by rw[hb];rfl
 have aft1:GB h H1 lo:=⟨fun i hi=>ho i (by omega),by omega,hf1⟩
 have hev':¬ E8 x.kind=false:=by rw[hev];simp
 have c7:=hp1.c7
 have c6:=hp1.c6
 by_cases h10:x.kind=10
 ·have d0:(x.kind==10)=true:=by simpa using h10
  cases d1:decide (s.miss≥0) with
  | true=>
   simp only[eE,seval,↓eP,rP,IG,IV,lb0,d0,c7,d1]
   exact fin _ _ 31 (by simp only[Tr.get_put,if_true]) (by unfold DQ;rw[if_neg hev',if_pos h10,if_pos (by simpa using d1)]) aft1 fun h=>by cases h
  | false=>
   have sM:=hp1.stM (x:=(at_:Int)+1)
   simp only[eE,seval,↓eP,C2,FI,LF,CW,C6,IG,IV,lb0,d0,c7,d1,w1,sM]
   refine fin _ _ 0 (by simp only[Tr.get_put,if_true]) (by unfold DQ;rw[if_neg hev',if_pos h10,if_neg (by simpa using d1)]) ⟨fun i hi=>?_,by show h.next≤H1.next;omega,hf1⟩ fun _=>?_
   ·rw[AR hp1.lm.2 (by have:=hp1.lm;omega)];exact ho i (by omega)
   ·have hS:D3 at_ x s={ s with miss:=(at_:Int)+1 }:=by unfold D3;rw[if_neg hev',if_pos h10]
    rw[hS]
    exact⟨tag,V,hp1.cellW (C':=J4 s) (miss':=(at_:Int)+1),⟨hw.q,hw.v,hw.t,hw.u,hw.o,hw.th⟩⟩
 ·have d0:(x.kind==10)=false:=by simpa using h10
  obtain⟨hx0,hx1⟩:=hxn h10
  obtain⟨v,hv⟩:∃ v,s.on[x.n.toNat]?=some v:=⟨_,List.getElem?_eq_getElem (by omega)⟩
  rcases hp1.sl 6 (by decide) (by decide) with⟨h1,_⟩ | ⟨id,ex,hv6,hg,hl1,hl2,htg⟩
  ·have:s.on.length=0:=h1
   omega
  ·have hg':H1.get id=.row (ints s.on++ex) 3 true false:=hg
   have hv6':V 6=qS id s.on.length AO:=hv6
   have hon:=n9 (l:=s.on) (ex:=ex) (ty:=3) (g:=true) (ro:=false) hv
   rw[← hg'] at hon
   have hix:CB Tryz.prog 25 (qS id s.on.length AO) (iv x.n)=some (qP id x.n.toNat):=Ad hx0 hx1
   cases d1:decide (v≥0) with
   | true=>
    simp only[eE,seval,↓eP,rP,lb0,d0]
    refine WK.quiet (by kernel_rfl) ?_
    simp only[eE,seval,↓eP,rP,IG,ID,C3,c6,hv6',lb3,hix,hon,d1]
    exact fin _ _ 31 (by simp only[Tr.get_put,if_true]) (by unfold DQ;rw[if_neg hev',if_neg h10,hv];simp only;rw[if_pos (by simpa using d1)]) aft1 fun h=>by cases h
   | false=>
    have hlen:=F9 s.on
    have hst:=GM (off:=x.n.toNat) C7 (v:=iv ((at_:Int)+1)) rfl rfl hg' (by rw[List.length_append,hlen];omega) (by have:=hp1.fl;omega)
    rw[List.set_append_left _ _ (by omega),WV] at hst
    have hpW:=hp1.slotW (j:=6) (s':={ s with on:=s.on.set x.n.toNat ((at_:Int)+1) }) (by decide) (by decide) (ex:=ex) hv6 htg ⟨hl1,hl2⟩ rfl rfl (by simp[FB]) (fun i hi=>by
     unfold FB Fsx
     split <;> simp_all)
    simp only[eE,seval,↓eP,rP,lb0,d0]
    refine WK.quiet (by kernel_rfl) ?_
    simp only[eE,seval,↓eP,rP,IG,ID,C3,c6,hv6',lb3,hix,hon,d1]
    refine WK.quiet (by kernel_rfl) ?_
    simp only[eE,seval,↓eP,C2,FI,LF,CW,C6,IG,ID,C3,c6,hv6',lb3,hix,w1,hst]
    refine fin _ _ 0 (by simp only[Tr.get_put,if_true]) (by unfold DQ;rw[if_neg hev',if_neg h10,hv];simp only;rw[if_neg (by simpa using d1)]) ⟨fun i hi=>?_,by show h.next≤H1.next;omega,hf1⟩ fun _=>?_
    ·rw[AR hl2 (by omega)];exact ho i (by have:=hp.lm;omega)
    ·have hS:D3 at_ x s={ s with on:=s.on.set x.n.toNat ((at_:Int)+1) }:=by unfold D3;rw[if_neg hev',if_neg h10]
     rw[hS]
     exact⟨tag,V,hpW,⟨hw.q,hw.v,hw.t,hw.u,by simp only[List.length_set];exact hw.o,hw.th⟩⟩
end
def AN (lo:Nat) (h:AA) (v:Value) (n w:Nat) (cs:List Value):Prop:=
 cs.length=n*w∧∃ a c,v=.slice a n c∧((n=0∧a=none)∨∃ id off row ty g ro,a=some ⟨id,off,none⟩∧h.get id=.row row ty g ro∧(lo≤id∧id<h.next)∧(row.drop off).take (n*w)=cs∧(0<lo→ro=false))
section
variable {lo:Nat} {h h':AA} {v:Value} {n w:Nat} {cs:List Value}
theorem AN.mono (hc:AN lo h v n w cs) (hn:h.next≤h'.next) (hg:∀ i,lo≤i→i<h.next→h'.get i=h.get i):AN lo h' v n w cs:=by
 obtain⟨hl,a,c,rfl,h1 | ⟨id,off,row,ty,g,ro,rfl,h1,h2,h3⟩⟩:=hc
 ·exact⟨hl,_,_,rfl,.inl h1⟩
 ·exact⟨hl,_,_,rfl,.inr ⟨id,off,row,ty,g,ro,rfl,by rw[hg id h2.1 h2.2];exact h1,by omega,h3⟩⟩
theorem AN.weak (hc:AN lo h v n w cs) {lo':Nat} (hl:lo'≤lo):AN lo' h v n w cs:=by
 obtain⟨hl',a,c,rfl,h1 | ⟨id,off,row,ty,g,ro,rfl,h1,h2,h3⟩⟩:=hc
 ·exact⟨hl',_,_,rfl,.inl h1⟩
 ·exact⟨hl',_,_,rfl,.inr ⟨id,off,row,ty,g,ro,rfl,h1,by omega,h3.1,fun h=>h3.2 (by omega)⟩⟩
theorem AN.len (hc:AN lo h v n w cs) {t e:TypeId} (ht:Tryz.prog.underlying t=some (.slice e)) {h':AA}:CY Tryz.prog h' t v=some (iv (n:Int)):=by
 obtain⟨_,a,c,rfl,_⟩:=hc
 simp[CY,ht]
theorem AN.idx (hc:AN lo h v n w cs) {t e:TypeId} (ht:Tryz.prog.underlying t=some (.slice e)) (he:BM Tryz.prog e=some w) {i:Nat} (hi:i<n) :
  ∃ id p,CB Tryz.prog t v (iv (i:Int))=some (qP id p)∧id<h.next∧∀ j,j<w→AH (p+j) (h.get id)=cs[i*w+j]?:=by
 obtain⟨hl,a,c,rfl,⟨h0,_⟩ | ⟨id,off,row,ty,g,ro,rfl,h1,h2,h3⟩⟩:=hc
 ·omega
 ·refine⟨id,off+i*w,?_,h2.2,fun j hj=>?_⟩
  ·simp only[CB,ht,he,CN]
   rw[if_pos (by omega)]
   simp
  ·have hlt:i*w+j<n*w:=by
    have:(i+1)*w≤n*w:=Nat.mul_le_mul_right w hi
    rw[Nat.add_mul] at this
    omega
   rw[h1,← h3.1,List.getElem?_take_of_lt hlt,List.getElem?_drop]
   simp only[AH]
   congr 1
   omega
theorem AN.whole (hc:AN lo h v n w cs) {t e:TypeId} (ht:Tryz.prog.underlying t=some (.slice e)) (he:BM Tryz.prog e=some w) {i:Nat} (hi:i<n) :
  ∃ id p,CB Tryz.prog t v (iv (i:Int))=some (qP id p)∧id<h.next∧A_ w p (h.get id)=some (.agg ((cs.drop (i*w)).take w).toArray):=by
 obtain⟨hl,a,c,rfl,⟨h0,_⟩ | ⟨id,off,row,ty,g,ro,rfl,h1,h2,h3⟩⟩:=hc
 ·omega
 ·have hle:i*w+w≤n*w:=by
   have:(i+1)*w≤n*w:=Nat.mul_le_mul_right w hi
   rw[Nat.add_mul] at this
   omega
  have e1:(cs.drop (i*w)).take w=(row.drop (off+i*w)).take w:=by
   rw[← h3.1,List.drop_take,List.drop_drop,List.take_take]
   congr 1
   omega
  have e2:((cs.drop (i*w)).take w).length=w:=by
   rw[List.length_take,List.length_drop,hl]
   omega
  refine⟨id,off+i*w,?_,h2.2,?_⟩
  ·simp only[CB,ht,he,CN]
   rw[if_pos (by omega)]
   simp
  ·rw[h1]
   simp only[A_,GS,← e1,e2,if_true]
theorem AN.src (hc:AN lo h v n w cs):EU h w n v=some cs:=by
 obtain⟨hl,a,c,rfl,⟨h0,rfl⟩ | ⟨id,off,row,ty,g,ro,rfl,h1,h2,h3⟩⟩:=hc
 ·subst h0
  rw[Nat.zero_mul] at hl
  rw[List.length_eq_zero_iff.1 hl]
  rfl
 ·by_cases h0:n=0
  ·subst h0
   rw[Nat.zero_mul] at hl
   rw[List.length_eq_zero_iff.1 hl]
   simp[EU]
  ·simp only[EU,h0,if_false,h1,GS,h3.1,hl,if_true]
theorem AN.nil (lo:Nat) (h:AA) (w:Nat):AN lo h (Z0) 0 w []:=⟨by simp,none,0,rfl,.inl ⟨rfl,rfl⟩⟩
theorem AN.rowR {r:Nat} {ty:TypeId} {g ro:Bool} {ex:List Value} {c:Nat} (hg:h.get r=.row (cs++ex) ty g ro) (hr:lo≤r∧r<h.next) (hl:cs.length=n*w) (hro:0<lo→ro=false):AN lo h (qS r n c) n w cs:=
 ⟨hl,_,_,rfl,.inr ⟨r,0,_,_,_,_,rfl,hg,hr,by rw[List.drop_zero,List.take_append_of_le_length (by omega),List.take_of_length_le (by omega)],hro⟩⟩
theorem AN.row {r:Nat} {ty:TypeId} {g:Bool} {ex:List Value} {c:Nat} (hg:h.get r=.row (cs++ex) ty g false) (hr:lo≤r∧r<h.next) (hl:cs.length=n*w):AN lo h (qS r n c) n w cs:=AN.rowR hg hr hl fun _=>rfl
theorem AN.one (hc:AN lo h v n w cs):one v=true:=by
 obtain⟨_,a,c,rfl,_⟩:=hc
 rfl
theorem E2.cells {tag:Nat→Nat} {j:Nat} {ty:TypeId} (hs:E2 h lo tag j v n cs ty) (hl:cs.length=n*w):AN lo h v n w cs:=by
 rcases hs with⟨rfl,rfl,rfl⟩ | ⟨id,ex,rfl,h2,h3,h4,h5⟩
 ·exact AN.nil lo h w
 ·exact AN.row h2 ⟨h3,h4⟩ hl
end
def AW (lo:Nat) (h:AA) (v:Value) (l:List Int):Prop:=AN lo h v l.length 1 (ints l)
section
variable {lo:Nat} {h h':AA} {v:Value} {l:List Int}
theorem AW.mono (hc:AW lo h v l) (hn:h.next≤h'.next) (hg:∀ i,lo≤i→i<h.next→h'.get i=h.get i):AW lo h' v l:=AN.mono hc hn hg
theorem AW.weak (hc:AW lo h v l) {lo':Nat} (hl:lo'≤lo):AW lo' h v l:=AN.weak hc hl
theorem AW.len (hc:AW lo h v l) {h':AA}:CY Tryz.prog h' 25 v=some (iv (l.length:Int)):=AN.len hc Tryz.underlying25
theorem AW.get (hc:AW lo h v l) {i:Nat} {x:Int} (hx:l[i]?=some x):∃ id p,CB Tryz.prog 25 v (iv (i:Int))=some (qP id p)∧id<h.next∧AH p (h.get id)=some (iv x):=by
 obtain⟨id,p,h1,h2,h3⟩:=AN.idx hc Tryz.underlying25 C7 (List.getElem?_eq_some_iff.1 hx).1
 refine⟨id,p,h1,h2,?_⟩
 have:=h3 0 (by decide)
 rw[Nat.add_zero] at this
 rw[this,Nat.mul_one,Nat.add_zero,YH,hx]
 rfl
theorem AW.row {r:Nat} {ty:TypeId} {g:Bool} {ex:List Value} {c n:Nat} (hg:h.get r=.row (ints l++ex) ty g false) (hr:lo≤r∧r<h.next) (hn:n=l.length):AW lo h (qS r n c) l:=by
 subst hn
 exact AN.row hg hr (by rw[F9,Nat.mul_one])
theorem AW.row' {r:Nat} {ty:TypeId} {g:Bool} {c n:Nat} (hg:h.get r=.row (ints l) ty g false) (hr:lo≤r∧r<h.next) (hn:n=l.length):AW lo h (qS r n c) l:=AW.row (ex:=[]) (by rw[List.append_nil];exact hg) hr hn
end
def IN (lo:Nat) (h:AA) (v:Value) (l:List AB):Prop:=AQ h v l∧AN lo h v l.length 5 (l.flatMap AV)
theorem IN.of {lo:Nat} {h:AA} {v:Value} {l:List AB} (hc:AN lo h v l.length 5 (l.flatMap AV)):IN lo h v l:=by
 refine⟨?_,hc⟩
 obtain⟨hl,a,c,rfl,⟨h0,rfl⟩ | ⟨id,off,row,ty,g,ro,rfl,h1,h2,h3⟩⟩:=hc
 ·exact⟨_,_,rfl,.inl ⟨List.length_eq_zero_iff.1 h0,rfl⟩⟩
 ·refine⟨_,_,rfl,.inr ⟨id,off,row,ty,g,ro,rfl,h1,h2.2,fun k r hk=>?_⟩⟩
  have hlt:=(List.getElem?_eq_some_iff.1 hk).1
  rw[← RR hk,← h3.1,List.drop_take,List.drop_drop,List.take_take]
  congr 1
  have:k*5+5≤l.length*5:=by omega
  omega
theorem IN.mono {lo:Nat} {h h':AA} {v:Value} {l:List AB} (hc:IN lo h v l) (hn:h.next≤h'.next) (hg:∀ i,lo≤i→i<h.next→h'.get i=h.get i):IN lo h' v l:=IN.of (hc.2.mono hn hg)
theorem AQ.cells {h:AA} {v:Value} {l:List AB} (hv:AQ h v l):IN 0 h v l:=by
 have hs:=J7 l
 refine IN.of ⟨hs,?_⟩
 obtain⟨a,c,rfl,⟨rfl,rfl⟩ | ⟨id,off,cs,ty,g,ro,rfl,hg,hid,hc⟩⟩:=hv
 ·exact⟨_,_,rfl,.inl ⟨rfl,rfl⟩⟩
 ·exact⟨_,_,rfl,.inr ⟨id,off,cs,ty,g,ro,rfl,hg,⟨Nat.zero_le _,hid⟩,bU l cs off hc,fun h=>absurd h (Nat.lt_irrefl 0)⟩⟩
def BP (lo:Nat) (h:AA) (pv:Value) (nm:ByteArray) (s:AM):Prop:=
 ∃ vr vq vv vt vu vo,pv=.agg #[.string nm,vr,vq,vv,vt,vu,vo,iv s.miss]∧IN lo h vr s.rows∧AN lo h vq s.queues.length 2 (DE s.queues)∧AN lo h vv s.vars.length 1 (CJ s.vars)∧AN lo h vt s.tags.length 1 (CJ s.tags)∧AW lo h vu s.rules∧AW lo h vo s.on
theorem BP.mono {lo:Nat} {h h':AA} {pv:Value} {nm:ByteArray} {s:AM} (hp:BP lo h pv nm s) (hn:h.next≤h'.next) (hg:∀ i,lo≤i→i<h.next→h'.get i=h.get i):BP lo h' pv nm s:=by
 obtain⟨vr,vq,vv,vt,vu,vo,h1,h2,h3,h4,h5,h6,h7⟩:=hp
 exact⟨vr,vq,vv,vt,vu,vo,h1,h2.mono hn hg,h3.mono hn hg,h4.mono hn hg,h5.mono hn hg,h6.mono hn hg,h7.mono hn hg⟩
theorem AQ.one {h:AA} {v:Value} {l:List AB} (hv:AQ h v l):one v=true:=by
 obtain⟨a,c,rfl,_⟩:=hv
 rfl
theorem rW {a b c d e f g i:Value}:(Value.agg #[a,b,c,d,e,f,g,i]).cells.toList=[a,b,c,d,e,f,g,i]:=rfl
section
variable {call:AS} {N:Nat} {h:AA}
theorem Ev {a b:Int} (hb:0≤b∧b≤4611686018427387904) (ha:0≤a∧a≤4611686018427387904):AY Tryz.prog call N 87 [iv a,iv b] h=some (iv (F6 a b),h):=by
 refine CO Tryz.func87 rfl (by simp[Tryz.f87]) ?_
 have hr:Tryz.f87.results.toList=[.tmp 4]:=rfl
 have w1:IntKind.i64.wrap (4611686018427387904-b)=4611686018427387904-b:=BT (by omega) (by omega)
 unfold F6
 cases d:decide (a>4611686018427387904-b) with
 | true=>
  rw[if_pos (by simpa using d)]
  simp only[eE,seval,↓eP,rP,hr,w1,d]
 | false=>
  have d':¬ a>4611686018427387904-b:=by simpa using d
  have w2:IntKind.i64.wrap (a+b)=a+b:=BT (by omega) (by omega)
  rw[if_neg d']
  simp only[eE,seval,↓eP,rP,hr,w1,d,w2]
theorem mQ {a b:Int} (h:AA) (hb:0≤b∧b≤4611686018427387904) (ha:0≤a∧a≤4611686018427387904):L1 87 [iv a,iv b] h=some (iv (F6 a b),h):=FE (GY rfl rfl) rfl rfl rfl ⟨_,Ev hb ha⟩
theorem Qd {vr v0 vq vv vt vu vo v7 ve vs:Value} {rows:List AB} {E S:List Int} {row q:Nat} (hone:one v0=true∧one vq=true∧one vv=true∧one vt=true∧one vu=true∧one vo=true∧one v7=true) (hv:AQ h vr rows) {le ls:Nat} (he:AW le h ve E) (hS:AW ls h vs S) (hs:JU S) (hE:E[row]?=some (q:Int)) (hrq:row≤q) (hq:q≤rows.length) (hlen:rows.length<1099511627776) (hN:rows.length+3<N)
  (hcalls:∀ x∈(rows.drop row).take (q-row),x.kind=22→0≤x.n∧x.n<S.length) (h83:∀ a b h',0≤b∧b≤4611686018427387904→0≤a∧a≤4611686018427387904→call 87 [iv a,iv b] h'=some (iv (F6 a b),h')) :
  ∃ h',AY Tryz.prog call N 88 [.agg #[v0,vr,vq,vv,vt,vu,vo,v7],ve,vs,iv row] h=some (iv (HE S ((rows.drop row).take (q-row)) 0),h')∧∀ i,i<h.next→h'.get i=h.get i:=by
 refine DW (R:=fun h'=>∀ i,i<h.next→h'.get i=h.get i) Tryz.func88 rfl (by simp[Tryz.f88]) ?_
 have hr:Tryz.f88.results.toList=[.tmp 8]:=rfl
 have hall:[v0,vr,vq,vv,vt,vu,vo,v7].all one=true:=by
  obtain⟨a,b,c,d,e,f,g⟩:=hone
  simp[a,b,c,d,e,f,g,hv.one]
 have hold:∀ i,i<h.next→(h.push (.row [v0,vr,vq,vv,vt,vu,vo,v7] 27 false false)).get i=h.get i:=fun i hi=>AU hi
 have hnew:(h.push (.row [v0,vr,vq,vv,vt,vu,vo,v7] 27 false false)).get h.next=.row [v0,vr,vq,vv,vt,vu,vo,v7] 27 false false:=BX
 have hnx:(h.push (.row [v0,vr,vq,vv,vt,vu,vo,v7] 27 false false)).next=h.next+1:=rfl
 simp only[eE,seval,↓eP,C2,CW,C6,hr,rW,hall,FM]
 generalize h.push (.row [v0,vr,vq,vv,vt,vu,vo,v7] 27 false false)=H at *
 have hvH:=hv.mono (h':=H) (by omega) hold
 have heH:=he.mono (h':=H) (by omega) fun i _ hi=>hold i hi
 have hSH:=hS.mono (h':=H) (by omega) fun i _ hi=>hold i hi
 obtain⟨ie,pe,e1,e2,e3⟩:=heH.get hE
 have hl1:AH 1 (H.get h.next)=some vr:=by rw[hnew];rfl
 have hseg:((rows.drop row).take (q-row)).length=q-row:=by rw[List.length_take,List.length_drop];omega
 refine WK.loop (fun i s=>s.h=H∧s.T.get 1=ve∧s.T.get 2=vs∧s.T.get 3=iv row∧s.T.get 4=qP h.next 0∧s.T.get 10=iv ((row+i:Nat):Int)∧i≤q-row∧∃ n:Int,s.T.get 9=iv n∧0≤n∧n≤4611686018427387904∧HE S (((rows.drop row).take (q-row)).drop i) n=HE S ((rows.drop row).take (q-row)) 0) (q-row) (by omega) ?_ ?_
 ·simp only[eE,↓reduceIte,Nat.reduceEqDiff,reduceCtorEq,↓eP,rP,Nat.reduceAdd,Nat.reduceLT]
  exact⟨rfl,by omega,by omega,rfl⟩
 ·rintro i ⟨T1,H1⟩ hi ⟨rfl,t1,t2,t3,t4,t10,hil,n,t9,hn0,hnB,hcn⟩
  simp only at t1 t2 t3 t4 t10 t9
  by_cases hlt:i<q-row
  ·have c1:decide (((row+i:Nat):Int)<(q:Int))=true:=by simp only[decide_eq_true_eq];omega
   have w1:IntKind.i64.wrap (((row+i:Nat):Int)+1)=((row+(i+1):Nat):Int):=by rw[BT (by omega) (by omega)];omega
   obtain⟨x,hx⟩:∃ x,rows[row+i]?=some x:=⟨_,List.getElem?_eq_getElem (by omega)⟩
   obtain⟨id,p,e0,hid,l0,l1,l2,l3,l4,lr⟩:=hvH.row hx
   have hsx:((rows.drop row).take (q-row))[i]?=some x:=by rw[List.getElem?_take_of_lt hlt,List.getElem?_drop];exact hx
   have p1:=QT (a:=n) (b:=1) hn0 (by omega) (by omega)
   have h831:=fun hh=>h83 n 1 hh (by omega) ⟨hn0,hnB⟩
   have hdr:((rows.drop row).take (q-row)).drop i=x :: ((rows.drop row).take (q-row)).drop (i+1):=by
    obtain⟨hl,he⟩:=List.getElem?_eq_some_iff.1 hsx
    rw[List.drop_eq_getElem_cons hl,he]
   rw[hdr] at hcn
   change HE S (((rows.drop row).take (q-row)).drop (i+1)) (if x.kind=22 then F6 (F6 n 1) (MK S x.n) else F6 n 1)=_ at hcn
   cases d22:(x.kind==22) with
   | false=>
    rw[if_neg (by simpa using d22)] at hcn
    simp only[eE,seval,↓eP,rP,t1,t2,t3,t4,t9,t10,e1,e3,c1,h831,BN,BO,hl1,e0,l0,BC,d22,w1]
    exact⟨hlt,by omega,p1.1,p1.2,hcn⟩
   | true=>
    have h22:x.kind=22:=by simpa using d22
    rw[if_pos h22] at hcn
    obtain⟨n0,n1⟩:=hcalls x (List.mem_of_getElem? hsx) h22
    obtain⟨y,hy⟩:∃ y,S[x.n.toNat]?=some y:=⟨_,List.getElem?_eq_getElem (by omega)⟩
    obtain⟨is,ps,f1,f2,f3⟩:=hSH.get hy
    rw[Int.toNat_of_nonneg n0] at f1
    have hys:MK S x.n=y:=by unfold MK;rw[hy];rfl
    rw[hys] at hcn
    have hyb:0≤y∧y≤4611686018427387904:=hs y (List.mem_of_getElem? hy)
    have p2:=QT p1.1 hyb.1 hyb.2
    have h832:=fun hh=>h83 (F6 n 1) y hh hyb p1
    simp only[eE,seval,↓eP,rP,t1,t2,t3,t4,t9,t10,e1,e3,c1,h831,h832,BN,BO,hl1,e0,l0,l3,BC,F1,d22,w1,f1,f3]
    exact⟨hlt,by omega,p2.1,p2.2,hcn⟩
  ·have c1:decide (((row+i:Nat):Int)<(q:Int))=false:=by simp only[decide_eq_false_iff_not];omega
   have hnn:n=HE S ((rows.drop row).take (q-row)) 0:=by
    rw[← hcn,List.drop_of_length_le (by omega)]
    rfl
   subst hnn
   simp only[eE,seval,↓eP,rP,hr,t1,t2,t3,t4,t9,t10,e1,e3,c1]
   exact hold
end
theorem MH {P:Program} {call:AS} {n:Nat} {f:FuncId} {args:List Value} {h:AA} {fn:Func} {c:Code} {R:Value→AA→Prop} (hf:P.funcs[f]?=some fn) (hb:fn.body=some c) (hl:args.length≤fn.ntmps)
  (hw:WK P call n c ⟨I_ 0 args .leaf,h⟩ (.top fun e s=>(e=.normal∨e=.ret)∧∃ vs,F2 P s fn.results.toList=some vs∧R (HL vs) s.h)):∃ v h',AY P call n f args h=some (v,h')∧R v h':=g9 hf hb hl hw
theorem Kh {h:AA} {lo:Nat} {v:Value} {l:List Int} {x:Int} (hs:E2 h lo (fun _=>1) 1 v l.length (ints l) 3) (hlo:lo≤h.next) (hf:h.floor≤lo) (hb:l.length<10000000) :
  ∃ v' h',D9 Tryz.prog (h.push (.row [iv x] 3 false false)) 25 v (qS h.next 1 1)=some (v',h')∧E2 h' lo (fun _=>1) 1 v' (l++[x]).length (ints (l++[x])) 3∧h'.floor=h.floor∧h.next≤h'.next∧∀ i,i<lo→h'.get i=h.get i:=by
 have hs':E2 (h.push (.row [iv x] 3 false false)) lo (fun i=>if i=h.next then 0 else 1) 1 v l.length (ints l) 3:=hs.mono (by show h.next≤h.next+1;omega) (fun i hi=>if_neg (by omega)) fun i _ hi _=>AU hi
 obtain⟨v',h1,a1,a2,a3,a4,a5,a6,a7⟩:=QI (et:=3) (w:=1) (c:=1) (sc:=1) (xs:=[iv x]) Tryz.underlying25 C7 LS JK rfl (by decide) (by decide) hs' ((F9 _).trans (Nat.mul_one _).symm) (QK _) rfl rfl (by decide) (by decide) hb (src:=h.next) BX (by show h.next<h.next+1;omega) hf (by simp)
 have hnx:h1.next=h.next+2:=a4
 refine⟨v',h1,a1,?_,a3,by omega,fun i hi=>?_⟩
 ·rcases a2 with a2 | a2
  ·rcases a2 with⟨h2,_⟩ | ⟨id,ex,b1,b2,b3,b4,b5⟩
   ·omega
   ·refine .inr ⟨id,ex,?_,?_,b3,b4,rfl⟩
    ·rw[b1,List.length_append];rfl
    ·rw[b2];simp[ints]
  ·exact absurd (show lo≤h.next+1 by omega) a2
 ·rw[a7 i (by show i<h.next+1;omega) (by omega),AU (by omega)]
def K3 (rows:List AB) (E:List Int):List Int→List Int→List Int
 | [],S=>S
 | ru :: rest,S=>K3 rows E rest (S++[FY rows E S ru.toNat])
def blk (rows:List AB) (E:List Int) (row:Nat):List AB:=(rows.drop row).take (((E[row]?).getD 0).toNat-row)
structure VJ (rows:List AB) (E rules:List Int):Prop where
 lay:PJ rows E rules
 ahead:∀ (i:Nat) (ru:Int),rules[i]?=some ru→∀ x∈blk rows E ru.toNat,x.kind=22→x.n<i
theorem PJ.end {rows:List AB} {E rules:List Int} (hL:PJ rows E rules) {i:Nat} (hi:i<rows.length):∃ q:Nat,E[i]?=some (q:Int)∧i≤q∧q≤rows.length∧blk rows E i=(rows.drop i).take (q-i):=by
 obtain⟨q,h1,h2,h3⟩:=hL.ends i hi
 exact⟨q,h1,by omega,h3,by unfold blk;rw[h1];rfl⟩
section
variable {call:AS} {N:Nat} {h:AA}
theorem Jc {vr v0 vq vv vt vu vo v7 ve:Value} {rows:List AB} {E rules:List Int} (hone:one v0=true∧one vq=true∧one vv=true∧one vt=true∧one vo=true∧one v7=true) (hv:AQ h vr rows) {le lu:Nat} (he:AW le h ve E) (hu:AW lu h vu rules) (hL:VJ rows E rules) (hfl:h.floor≤h.next) (hN:rules.length+3<N)
  (h63:∀ vs S row H,(∀ i,i<h.next→H.get i=h.get i)→h.next≤H.next→AW (h.next+1) H vs S→JU S→row<rows.length→(∀ x∈blk rows E row,x.kind=22→0≤x.n∧x.n<S.length)→call 88 [.agg #[v0,vr,vq,vv,vt,vu,vo,v7],ve,vs,iv (row:Int)] H=some (iv (FY rows E S row),H)) :
  ∃ v h',AY Tryz.prog call N 86 [.agg #[v0,vr,vq,vv,vt,vu,vo,v7],ve] h=some (v,h')∧(AW h.next h' v (K3 rows E rules [])∧h'.floor=h.floor∧h.next≤h'.next∧∀ i,i<h.next→h'.get i=h.get i):=by
 refine MH (R:=fun v h'=>AW h.next h' v (K3 rows E rules [])∧h'.floor=h.floor∧h.next≤h'.next∧∀ i,i<h.next→h'.get i=h.get i) Tryz.func86 rfl (by simp[Tryz.f86]) ?_
 have hr:Tryz.f86.results.toList=[.tmp 4]:=rfl
 have hall:[v0,vr,vq,vv,vt,vu,vo,v7].all one=true:=by
  obtain⟨a,b,c,d,e,f⟩:=hone
  simp[a,b,c,d,e,f,hv.one,AN.one hu]
 have hold:∀ i,i<h.next→(h.push (.row [v0,vr,vq,vv,vt,vu,vo,v7] 27 false false)).get i=h.get i:=fun i hi=>AU hi
 have hnew:(h.push (.row [v0,vr,vq,vv,vt,vu,vo,v7] 27 false false)).get h.next=.row [v0,vr,vq,vv,vt,vu,vo,v7] 27 false false:=BX
 have hnx:(h.push (.row [v0,vr,vq,vv,vt,vu,vo,v7] 27 false false)).next=h.next+1:=rfl
 have hfx:(h.push (.row [v0,vr,vq,vv,vt,vu,vo,v7] 27 false false)).floor=h.floor:=rfl
 simp only[eE,seval,↓eP,C2,CW,C6,hr,rW,hall,FM]
 generalize h.push (.row [v0,vr,vq,vv,vt,vu,vo,v7] 27 false false)=H at *
 refine WK.loop (fun i s=>s.T.get 1=ve∧s.T.get 2=qP h.next 0∧s.T.get 6=iv i∧i≤rules.length∧s.h.floor=h.floor∧h.next+1≤s.h.next∧(∀ i,i<h.next+1→s.h.get i=H.get i)∧∃ S:List Int,E2 s.h (h.next+1) (fun _=>1) 1 (s.T.get 5) S.length (ints S) 3∧JU S∧S.length=i∧K3 rows E (rules.drop i) S=K3 rows E rules []) rules.length (by omega) ?_ ?_
 ·simp only[eE,↓reduceIte,Nat.reduceEqDiff,reduceCtorEq,↓eP,rP,Nat.reduceAdd,Nat.reduceLT]
  exact⟨rfl,hfx,by omega,fun _ _=>trivial,[],.inl ⟨rfl,rfl,rfl⟩,(fun x hx=>by cases hx),rfl,rfl⟩
 ·rintro i ⟨T1,H1⟩ hi ⟨t1,t2,t6,hil,hf1,hn1,ho1,S,hsl,hSS,hSl,hcn⟩
  simp only at t1 t2 t6 hf1 hn1 ho1 hsl
  have ho2:∀ i,i<h.next→H1.get i=h.get i:=fun i hi=>(ho1 i (by omega)).trans (hold i hi)
  have hg:H1.get h.next=.row [v0,vr,vq,vv,vt,vu,vo,v7] 27 false false:=(ho1 _ (by omega)).trans hnew
  have hSI:AW (h.next+1) H1 (T1.get 5) S:=E2.cells hsl ((F9 _).trans (Nat.mul_one _).symm)
  have hu1:=hu.mono (h':=H1) (by omega) fun i _ hi=>ho2 i hi
  have hulen:=fun h'=>hu.len (h':=h')
  have hl5:AH 5 (H1.get h.next)=some vu:=by rw[hg];rfl
  have hl8:A_ 8 0 (H1.get h.next)=some (.agg #[v0,vr,vq,vv,vt,vu,vo,v7]):=by rw[hg];rfl
  by_cases hlt:i<rules.length
  ·have c1:decide ((i:Int)<(rules.length:Int))=true:=by simp only[decide_eq_true_eq];omega
   have w1:IntKind.i64.wrap ((i:Int)+1)=((i+1:Nat):Int):=BT (by have:=hL.lay.nrules;omega) (by have:=hL.lay.nrules;omega)
   obtain⟨ru,hru⟩:∃ ru,rules[i]?=some ru:=⟨_,List.getElem?_eq_getElem hlt⟩
   obtain⟨r0,r1⟩:=hL.lay.rl ru (List.mem_of_getElem? hru)
   obtain⟨iu,pu,f1,f2,f3⟩:=hu1.get hru
   have hc:=h63 (T1.get 5) S ru.toNat H1 ho2 (by omega) hSI hSS (by omega) (fun x hx h22=>by
    have h1:=hL.ahead i ru hru x hx h22
    refine⟨?_,by omega⟩
    have:x∈rows:=List.mem_of_mem_drop (List.mem_of_mem_take hx)
    exact(hL.lay.calls x this h22).1)
   rw[Int.toNat_of_nonneg r0] at hc
   have hdr:rules.drop i=ru :: rules.drop (i+1):=by
    obtain⟨hl,he⟩:=List.getElem?_eq_some_iff.1 hru
    rw[List.drop_eq_getElem_cons hl,he]
   rw[hdr,K3] at hcn
   obtain⟨v',H2,a1,a2,a3,a4,a5⟩:=Kh (x:=FY rows E S ru.toNat) hsl hn1 (by omega) (by have:=hL.lay.nrules;omega)
   have hle:=R_ (rows:=rows) (E:=E) hSS ru.toNat
   simp only[eE,seval,↓eP,rP,t1,t2,t6,H9,C3,hl5,hulen,c1]
   refine WK.quiet (by kernel_rfl) ?_
   simp only[eE,seval,↓eP,rP,t1,t2,t6,H9,C3,DT,hl5,hl8,f1,f3,hc,LI,a1,w1]
   refine⟨hlt,by omega,by omega,by omega,fun j hj=>by rw[a5 j hj];exact ho1 j hj,S++[FY rows E S ru.toNat],a2,?_,by simp;omega,hcn⟩
   intro x hx
   rcases List.mem_append.1 hx with hx | hx
   ·exact hSS x hx
   ·rw[List.mem_singleton.1 hx];exact hle
  ·have c1:decide ((i:Int)<(rules.length:Int))=false:=by simp only[decide_eq_false_iff_not];omega
   rw[List.drop_of_length_le (by omega)] at hcn
   have hSe:S=K3 rows E rules []:=hcn
   rw[hSe] at hSI
   simp only[eE,seval,↓eP,rP,hr,t1,t2,t6,H9,C3,hl5,hulen,c1]
   exact⟨hSI.weak (by omega),hf1,by omega,ho2⟩
end
def bL:Code→Code
 | .loop c=>c
 | .block _ c=>c
 | c=>c
noncomputable def zW:Code:=Tryz.f116.body.getD .skip
noncomputable def dN:Code:=bL (bL (rt (lf (rt (rt (rt zW))))))
noncomputable def WM:Code:=bL (lf (rt dN))
noncomputable def X1:Code:=rt WM
noncomputable def X2:Code:=rt X1
noncomputable def X3:Code:=rt X2
noncomputable def X4:Code:=rt X3
noncomputable def X5:Code:=rt X4
noncomputable def X6:Code:=rt X5
def Ge (i:Nat) (f:DA):Prop:=(1≤f.kind∧f.kind≤54)∧0<f.left∧(f.kind=1∨f.kind=11∨(f.next:Int)+f.left≤CZ f.kind)∧f.left≤9223372036854775807∧f.next≤i
theorem uK {k:Int} {j:Nat}:HN (BV k j)=BV k j∧NQ (BV k j):=by
 unfold BV
 (repeat' split) <;> exact⟨rfl,by unfold NQ;omega⟩
theorem Sd {f:DA} {s:List DA}:RA f.kind f.next=HN (M9 (f :: s)):=by
 show _=HN (if f.kind=1 then 9 else BV f.kind f.next)
 unfold RA
 split
 ·rfl
 ·exact uK.1.symm
theorem qR {s:List DA}:NQ (M9 s):=by
 cases s with
 | nil=>exact .inl rfl
 | cons f s=>
  show NQ (if f.kind=1 then 9 else BV f.kind f.next)
  split
  ·exact .inr (.inl rfl)
  ·exact uK.2
theorem Er {w:Int} (h:NQ w):(HN w==1)=decide (w=9):=by
 rcases h with rfl | rfl | rfl | rfl | rfl | rfl | rfl | rfl <;> rfl
section
variable {call:AS} {n:Nat}
def LV (h:AA) (v:Value) (i:Nat) (T:Tr) (H:AA) (s:List DA) (ev:Bool):Prop:=
 T.get 0=v∧T.get 5=iv i∧T.get 4=.bool ev∧MB h.next H (T.get 3) s∧H.floor=h.floor∧h.next≤H.next∧∀ j,j<h.next→H.get j=h.get j
structure WN (call:AS):Prop where
 kid:∀ (κ:Int) (j:Nat) h,1≤κ∧κ≤54→(κ=1∨κ=11∨(j:Int)<CZ κ)→call 125 [iv κ,iv j] h=some (iv (RA κ j),h)
 right:∀ w (x:AB) h,NQ w→call 126 [CE x,iv (HN w)] h=some (.bool (FV w x.kind&&DR AZ x),h)
 decl:∀ k h,call 127 [iv k] h=some (.bool (CA 0 k),h)
 event:∀ k h,call 128 [iv k] h=some (.bool (CA 1 k),h)
theorem XX {h:AA} {v:Value} {i:Nat} {T:Tr} {H:AA} {s:List DA} {ev:Bool} {k:B_} (hc:WN call) (hB:LV h v i T H s ev) (hfl:h.floor≤h.next) (hs:s.length<1000000000) (hi:i<1000000000) (hok:∀ f s',s=f :: s'→Ge i f)
  (hk:∀ T' H',LV h v i T' H' (LD s) ev→T'.get 6=iv (HN (M9 s))→WK Tryz.prog call n X2 ⟨T',H'⟩ k):WK Tryz.prog call n WM ⟨T,H⟩ k:=by
 obtain⟨t0,t5,t4,hst,hf,hn,hold⟩:=hB
 show WK _ _ _ (.seq _ (.seq _ X2)) _ _
 have hlen:=fun h'=>hst.len (h':=h')
 cases s with
 | nil=>
  have c0:decide (((([]:List DA).length:Nat):Int)>0)=false:=rfl
  simp only[eE,seval,↓eP,rP,t0,t5,t4,hlen,c0]
  refine hk _ _ ⟨?_,?_,?_,?_,hf,hn,hold⟩ ?_
  ·simp only[eE,seval,↓eP,rP,t0]
  ·simp only[eE,seval,↓eP,rP,t5]
  ·simp only[eE,seval,↓eP,rP,t4]
  ·simp only[eE,seval,↓eP,rP];exact hst
  ·simp only[eE,seval,↓eP,rP];rfl
 | cons f s0=>
  obtain⟨id,ex,hvs,hg,hid,hidn⟩:=hst.top
  have c0:decide (((s0.length+1:Nat):Int)>0)=true:=by simp
  have w1:IntKind.i64.wrap (((s0.length+1:Nat):Int)-1)=(s0.length:Int):=by rw[BT (by simp only[List.length_cons] at *;omega) (by simp only[List.length_cons] at *;omega)];simp
  have ix:∀ {n c},s0.length<n→CB Tryz.prog 138 (qS id n c) (iv (s0.length:Int))=some (.pointer (some ⟨id,s0.length*3,none⟩)):=fun h=>nN h
  have ix':=ix (n:=s0.length+1) (c:=AO) (by omega)
  obtain⟨c1,c2,c3,c4⟩:=cE (s:=s0) (f:=f) (ex:=ex) (ty:=140) (g:=true) (ro:=false)
  have okf:=hok f s0 rfl
  have hkid:=fun hh=>hc.kid f.kind f.next hh okf.1 (by
   rcases okf.2.2.1 with h | h | h
   ·exact .inl h
   ·exact .inr (.inl h)
   ·exact .inr (.inr (by have:=okf.2.1;omega)))
  have hflT:(H.floor≤H.next)=True:=by simp;omega
  have hltT:(H.next<H.next+1)=True:=by simp
  simp only[eE,seval,↓eP,rP,t0,t5,t4,hvs,T9,c0,w1,ix',hg,c1,c2,c3,c4,Pg,UV,tW,Bj,Fh,Vf,hflT,hltT,l9,Y1,wV]
  have hgH:((H.push (.row [iv 0,iv 0,iv 0] 140 false false)).put H.next (.row [iv f.kind,iv (f.left:Int),iv (f.next:Int)] 140 false false)).get id=.row (FJ s0++(IB f++ex)) 140 true false:=by
   rw[AR (by show H.next<H.next+1;omega) (by omega),AU hidn];exact hg
  have hnH:((H.push (.row [iv 0,iv 0,iv 0] 140 false false)).put H.next (.row [iv f.kind,iv (f.left:Int),iv (f.next:Int)] 140 false false)).next=H.next+1:=rfl
  have hfH:((H.push (.row [iv 0,iv 0,iv 0] 140 false false)).put H.next (.row [iv f.kind,iv (f.left:Int),iv (f.next:Int)] 140 false false)).floor=h.floor:=hf
  have hoH:∀ j,j<h.next→((H.push (.row [iv 0,iv 0,iv 0] 140 false false)).put H.next (.row [iv f.kind,iv (f.left:Int),iv (f.next:Int)] 140 false false)).get j=h.get j:=fun j hj=>by
   rw[AR (by show H.next<H.next+1;omega) (by omega),AU (by omega)];exact hold j hj
  generalize (H.push (.row [iv 0,iv 0,iv 0] 140 false false)).put H.next (.row [iv f.kind,iv (f.left:Int),iv (f.next:Int)] 140 false false)=H1 at *
  have okl:=okf.2.2.2
  have ok0:=okf.2.1
  have hll:=SD s0
  have w2:IntKind.i64.wrap ((f.next:Int)+1)=((f.next+1:Nat):Int):=BT (by omega) (by omega)
  have w3:IntKind.i64.wrap ((f.left:Int)-1)=((f.left-1:Nat):Int):=by rw[BT (by omega) (by omega)];omega
  have sa:=Q0 (x:=((f.next+1:Nat):Int)) (off:=s0.length*3+2) hgH (by simp[IB];omega) (by omega)
  rw[Ae] at sa
  have hgH2:(H1.put id (.row (FJ s0++(IB ⟨f.kind,f.left,f.next+1⟩++ex)) 140 true false)).get id=.row (FJ s0++(IB ⟨f.kind,f.left,f.next+1⟩++ex)) 140 true false:=BL rfl (by omega)
  obtain⟨_,d2,_,_⟩:=cE (s:=s0) (f:=⟨f.kind,f.left,f.next+1⟩) (ex:=ex) (ty:=140) (g:=true) (ro:=false)
  have sb:=Q0 (h:=H1.put id (.row (FJ s0++(IB ⟨f.kind,f.left,f.next+1⟩++ex)) 140 true false)) (x:=((f.left-1:Nat):Int)) (off:=s0.length*3+1) hgH2 (by simp[IB];omega) (by show H1.floor≤id;omega)
  rw[Al] at sb
  simp only[eE,seval,↓eP,C2,FI,LF,CW,C6,hkid,t0,t5,t4,hvs,T9,w1,w2,w3,ix',hgH,hgH2,c1,c2,c3,d2,l9,Y1,wV,sa,sb]
  have hnp:((H1.put id (.row (FJ s0++(IB ⟨f.kind,f.left,f.next+1⟩++ex)) 140 true false)).put id (.row (FJ s0++(IB ⟨f.kind,f.left-1,f.next+1⟩++ex)) 140 true false)).next=H1.next:=rfl
  refine hk _ _ ⟨?_,?_,?_,?_,hfH,?_,fun j hj=>?_⟩ ?_
  ·simp only[eE,seval,↓eP,rP,t0]
  ·simp only[eE,seval,↓eP,rP,t5]
  ·simp only[eE,seval,↓eP,rP,t4]
  ·simp only[eE,seval,↓eP,rP,hvs]
   refine .inr ⟨id,ex,by rw[LD];rfl,?_,hid,by rw[hnp];omega⟩
   rw[BL rfl (by show id<H1.next;omega),LD,FJ,List.append_assoc]
  ·rw[hnp];omega
  ·rw[AR (by show id<H1.next;omega) (by omega),AR (by omega) (by omega)];exact hoH j hj
  ·simp only[eE,seval,↓eP,rP];rw[← Sd]
theorem YZ {h:AA} {v:Value} {i:Nat} {T:Tr} {H:AA} {s:List DA} {ev:Bool} {k:B_} {l:List AB} {w:Int} (hc:WN call) (hv:AQ h v l) (hB:LV h v i T H s ev) (hw:NQ w) (h6:T.get 6=iv (HN w))
  (hbad:(l[i]?=none∨∃ x,l[i]?=some x∧(FV w x.kind&&DR AZ x)=false)→∀ T':Tr,T'.get 2=iv i→k.ap Tryz.prog call n .ret ⟨T',H⟩)
  (hgood:∀ x,l[i]?=some x→(FV w x.kind&&DR AZ x)=true→∀ T':Tr,LV h v i T' H s ev→T'.get 6=iv (HN w)→WK Tryz.prog call n X3 ⟨T',H⟩ k):WK Tryz.prog call n X2 ⟨T,H⟩ k:=by
 have hB':=hB
 obtain⟨t0,t5,t4,hst,hf,hn,hold⟩:=hB
 have hvH:AQ H v l:=hv.mono hn hold
 have hl22:∀ h',CY Tryz.prog h' 22 v=some (.int .i64 l.length):=fun h'=>hv.len
 show WK _ _ _ (.seq _ X3) _ _
 by_cases hi:i<l.length
 ·obtain⟨x,hx⟩:∃ x,l[i]?=some x:=⟨_,List.getElem?_eq_getElem hi⟩
  have c1:decide ((i:Int)≥(l.length:Int))=false:=by simp;omega
  obtain⟨id,q,e0,hid,l0,l1,l2,l3,l4,lr⟩:=hvH.row hx
  have hr:=fun hh=>hc.right w x hh hw
  cases d:(FV w x.kind&&DR AZ x) with
  | false=>
   rw[d] at hr
   simp only[eE,seval,↓eP,rP,t0,t5,h6,hl22,c1,e0,lr,hr]
   exact hbad (.inr ⟨x,hx,d⟩) _ (by simp only[eE,seval,↓eP,rP])
  | true=>
   rw[d] at hr
   simp only[eE,seval,↓eP,rP,t0,t5,h6,hl22,c1,e0,lr,hr]
   refine hgood x hx d _ ⟨?_,?_,?_,?_,hf,hn,hold⟩ ?_
   ·simp only[eE,seval,↓eP,rP,t0]
   ·simp only[eE,seval,↓eP,rP,t5]
   ·simp only[eE,seval,↓eP,rP,t4]
   ·simp only[eE,seval,↓eP,rP];exact hst
   ·simp only[eE,seval,↓eP,rP,h6]
 ·have c1:decide ((i:Int)≥(l.length:Int))=true:=by simp;omega
  simp only[eE,seval,↓eP,rP,t0,t5,h6,hl22,c1]
  exact hbad (.inl (List.getElem?_eq_none (by omega))) _ (by simp only[eE,seval,↓eP,rP])
theorem Z2 {h:AA} {v:Value} {i:Nat} {T:Tr} {H:AA} {s:List DA} {ev:Bool} {k:B_} {l:List AB} {w:Int} {x:AB} (hc:WN call) (hv:AQ h v l) (hB:LV h v i T H s ev) (hw:NQ w) (h6:T.get 6=iv (HN w)) (hx:l[i]?=some x)
  (hbad:w=9∧ev=true∧CA 0 x.kind=true→∀ T':Tr,T'.get 2=iv i→k.ap Tryz.prog call n .ret ⟨T',H⟩)
  (hgood:¬ (w=9∧ev=true∧CA 0 x.kind=true)→∀ T':Tr,LV h v i T' H s (if w=9 then ev||CA 1 x.kind else ev)→WK Tryz.prog call n X4 ⟨T',H⟩ k):WK Tryz.prog call n X3 ⟨T,H⟩ k:=by
 obtain⟨t0,t5,t4,hst,hf,hn,hold⟩:=hB
 have hvH:AQ H v l:=hv.mono hn hold
 obtain⟨id,q,e0,hid,l0,l1,l2,l3,l4,lr⟩:=hvH.row hx
 have hd:=hc.decl x.kind
 have he:=hc.event x.kind
 have hw1:=Er hw
 show WK _ _ _ (.seq _ X4) _ _
 by_cases h9:w=9
 ·subst h9
  have c9:(HN 9==1)=true:=rfl
  have done:∀ ev':Bool,(ev||CA 1 x.kind)=ev'→¬ ((9:Int)=9∧ev=true∧CA 0 x.kind=true)→∀ T':Tr,T'.get 0=v→T'.get 5=iv i→T'.get 4=.bool ev'→T'.get 3=T.get 3→WK Tryz.prog call n X4 ⟨T',H⟩ k:=fun ev' e1 e2 T' u0 u5 u4 u3=>hgood e2 T' ⟨u0,u5,by rw[if_pos rfl,e1];exact u4,by rw[u3];exact hst,hf,hn,hold⟩
  cases ev with
  | true=>
   cases d0:CA 0 x.kind with
   | true=>
    rw[d0] at hd
    simp only[eE,seval,↓eP,rP,t0,t5,t4,h6,c9,e0,l0,hd]
    exact hbad ⟨rfl,rfl,d0⟩ _ (by simp only[eE,seval,↓eP,rP])
   | false=>
    rw[d0] at hd done
    simp only[eE,seval,↓eP,rP,t0,t5,t4,h6,c9,e0,l0,hd,he]
    refine done true rfl (by simp) _ ?_ ?_ ?_ ?_ <;> simp only[eE,seval,↓eP,rP,t0,t5,t4]
  | false=>
   simp only[eE,seval,↓eP,rP,t0,t5,t4,h6,c9,e0,l0,hd,he]
   refine done (CA 1 x.kind) (Bool.false_or _) (by simp) _ ?_ ?_ ?_ ?_ <;> simp only[eE,seval,↓eP,rP,t0,t5,t4]
 ·have c9:(HN w==1)=false:=by rw[hw1,decide_eq_false h9]
  simp only[eE,seval,↓eP,rP,t0,t5,t4,h6,c9]
  refine hgood (fun h=>h9 h.1) _ ⟨?_,?_,?_,?_,hf,hn,hold⟩
  ·simp only[eE,seval,↓eP,rP,t0]
  ·simp only[eE,seval,↓eP,rP,t5]
  ·simp only[eE,seval,↓eP,rP,t4,h9]
  ·simp only[eE,seval,↓eP,rP];exact hst
end
section
variable {call:AS} {n:Nat}
theorem Ot {h:AA} {v:Value} {i:Nat} {T:Tr} {H:AA} {s:List DA} {ev:Bool} {k:B_} {l:List AB} {x:AB} (hv:AQ h v l) (hB:LV h v i T H s ev) (hx:l[i]?=some x) (hkid:0≤x.kids) (hfl:h.floor≤h.next) (hs:s.length<1000000000)
  (hk:∀ T' H',LV h v i T' H' (⟨x.kind,x.kids.toNat,0⟩ :: s) ev→WK Tryz.prog call n X5 ⟨T',H'⟩ k):WK Tryz.prog call n X4 ⟨T,H⟩ k:=by
 obtain⟨t0,t5,t4,hst,hf,hn,hold⟩:=hB
 have hvH:AQ H v l:=hv.mono hn hold
 obtain⟨id,q,e0,hid,l0,l1,l2,l3,l4,lr⟩:=hvH.row hx
 obtain⟨v',H',ha,hst',hf',hn',hold'⟩:=Lh (a:=x.kind) (b:=x.kids) (c:=0) (f:=⟨x.kind,x.kids.toNat,0⟩) (by simp only[IB,Int.toNat_of_nonneg hkid];rfl) hst (by omega) hn hs
 show WK _ _ _ (.seq (.region _ _ true) X5) _ _
 rw[KA]
 refine WK.quiet (by kernel_rfl) ?_
 simp only[eE,seval,↓eP,rP,t0,t5,e0,l0,l4,Jg,Ds,ha]
 refine hk _ _ ⟨?_,?_,?_,?_,by omega,by omega,fun j hj=>by rw[hold' j hj];exact hold j hj⟩
 ·simp only[eE,seval,↓eP,rP,t0]
 ·simp only[eE,seval,↓eP,rP,t5]
 ·simp only[eE,seval,↓eP,rP,t4]
 ·simp only[eE,seval,↓eP,rP];exact hst'
theorem mT:∀ s:List DA,(GI s).length≤s.length
 | []=>Nat.le_refl _
 | f :: s=>by
  by_cases h0:f.left=0
  ·rw[TA h0];have:=mT s;simp only[List.length_cons];omega
  ·rw[TM h0];exact Nat.le_refl _
theorem MB.tail {m:Nat} {h:AA} {f:DA} {s:List DA} {v:Value} (hs:MB m h v (f :: s)):∃ id,v=qS id (s.length+1) AO∧MB m h (qS id s.length AO) s:=by
 obtain⟨id,ex,h1,h2,h3,h4⟩:=hs.top
 exact⟨id,h1,.inr ⟨id,IB f++ex,rfl,h2,h3,h4⟩⟩
theorem Jb {h:AA} {v:Value} {i:Nat} {T:Tr} {H:AA} {s:List DA} {ev:Bool} {k:B_} (hB:LV h v i T H s ev) (hs:s.length<1000000000) (hn0:s.length<n)
  (hk:∀ T',LV h v i T' H (GI s) ev→WK Tryz.prog call n X6 ⟨T',H⟩ k):WK Tryz.prog call n X5 ⟨T,H⟩ k:=by
 obtain⟨t0,t5,t4,hst,hf,hn,hold⟩:=hB
 show WK _ _ _ (.seq (.block _ (.loop _)) X6) _ _
 rw[KA,RW]
 refine WK.loop (fun j st=>st.h=H∧st.T.get 0=v∧st.T.get 5=iv i∧st.T.get 4=.bool ev∧∃ s',MB h.next H (st.T.get 3) s'∧GI s'=GI s∧s'.length+j≤s.length) s.length hn0 ⟨rfl,t0,t5,t4,s,hst,rfl,by omega⟩ ?_
 rintro j ⟨T1,H1⟩ hj ⟨rfl,u0,u5,u4,s',hst',hp,hl⟩
 simp only at u0 u5 u4 hst'
 have fin:GI s'=s'→∀ T':Tr,T'.get 0=v→T'.get 5=iv i→T'.get 4=.bool ev→T'.get 3=T1.get 3→WK Tryz.prog call n X6 ⟨T',H1⟩ k:=fun e T' w0 w5 w4 w3=>hk T' ⟨w0,w5,w4,by rw[w3,← hp,e];exact hst',hf,hn,hold⟩
 cases s' with
 | nil=>
  have hlen:=fun h'=>hst'.len (h':=h')
  have c0:decide (((([]:List DA).length:Nat):Int)>0)=false:=rfl
  simp only[eE,seval,↓eP,rP,hlen,c0]
  refine fin rfl _ ?_ ?_ ?_ ?_ <;> simp only[eE,seval,↓eP,rP,u0,u5,u4]
 | cons f s0=>
  obtain⟨id,ex,hvs,hg,hid,hidn⟩:=hst'.top
  obtain⟨id',hvs',htl⟩:=hst'.tail
  have:id'=id:=by
   rw[hvs] at hvs'
   simp only[Value.slice.injEq,Option.some.injEq,Addr.mk.injEq,and_true] at hvs'
   exact hvs'.symm
  subst this
  simp only[List.length_cons] at hl
  have c0:decide (((s0.length+1:Nat):Int)>0)=true:=by simp
  have w1:IntKind.i64.wrap (((s0.length+1:Nat):Int)-1)=(s0.length:Int):=by rw[BT (by omega) (by omega)];omega
  have ix':CB Tryz.prog 138 (qS id' (s0.length+1) AO) (iv (s0.length:Int))=some (.pointer (some ⟨id',s0.length*3,none⟩)):=nN (by omega)
  obtain⟨c1,c2,c3,c4⟩:=cE (s:=s0) (f:=f) (ex:=ex) (ty:=140) (g:=true) (ro:=false)
  by_cases h0:f.left=0
  ·have c5:((f.left:Int)==0)=true:=by rw[h0];rfl
   have hsl:=Xp (id:=id') (h:=H1) (n:=s0.length+1) (k:=s0.length) (by omega)
   simp only[eE,seval,↓eP,rP,u0,u5,u4,hvs,T9,c0,w1,ix',hg,c2,Y1,c5,hsl]
   exact⟨by omega,s0,htl,by rw[← hp,TA h0],by omega⟩
  ·have c5:((f.left:Int)==0)=false:=by rw[beq_eq_false_iff_ne];omega
   simp only[eE,seval,↓eP,rP,hvs,T9,c0,w1,ix',hg,c2,Y1,c5]
   refine fin (TM h0) _ ?_ ?_ ?_ ?_ <;> simp only[eE,seval,↓eP,rP,u0,u5,u4,hvs]
theorem Wz {h:AA} {v:Value} {i:Nat} {T:Tr} {H:AA} {s:List DA} {ev:Bool} {k:B_} {l:List AB} (hv:AQ h v l) (hB:LV h v i T H s ev) (hi:i<1000000000)
  (hbad:s=[]→i+1<l.length→∀ T':Tr,T'.get 2=iv ((i+1:Nat):Int)→k.ap Tryz.prog call n .ret ⟨T',H⟩)
  (hgood:¬ (s=[]∧i+1<l.length)→∀ T':Tr,LV h v i T' H s ev→k.ap Tryz.prog call n .normal ⟨T',H⟩):WK Tryz.prog call n X6 ⟨T,H⟩ k:=by
 obtain⟨t0,t5,t4,hst,hf,hn,hold⟩:=hB
 have hl22:∀ h',CY Tryz.prog h' 22 v=some (.int .i64 l.length):=fun h'=>hv.len
 have hlen:=fun h'=>hst.len (h':=h')
 have w1:=DF i (by omega)
 show WK _ _ _ (.seq _ _) _ _
 have fin:¬ (s=[]∧i+1<l.length)→∀ T':Tr,T'.get 0=v→T'.get 5=iv i→T'.get 4=.bool ev→T'.get 3=T.get 3→k.ap Tryz.prog call n .normal ⟨T',H⟩:=fun e T' w0 w5 w4 w3=>hgood e T' ⟨w0,w5,w4,by rw[w3];exact hst,hf,hn,hold⟩
 by_cases h0:s=[]
 ·have c0:((s.length:Int)==0)=true:=by rw[h0];rfl
  by_cases h1:i+1<l.length
  ·have c1:decide (((i+1:Nat):Int)<(l.length:Int))=true:=by simp only[decide_eq_true_eq];omega
   simp only[eE,seval,↓eP,rP,t0,t5,hlen,hl22,c0,w1,c1]
   exact hbad h0 h1 _ (by simp only[eE,seval,↓eP,rP])
  ·have c1:decide (((i+1:Nat):Int)<(l.length:Int))=false:=by simp only[decide_eq_false_iff_not];omega
   simp only[eE,seval,↓eP,rP,t0,t5,hlen,hl22,c0,w1,c1]
   refine fin (fun h=>h1 h.2) _ ?_ ?_ ?_ ?_ <;> simp only[eE,seval,↓eP,rP,t0,t5,t4]
 ·have c0:((s.length:Int)==0)=false:=by
   rw[beq_eq_false_iff_ne]
   have:s.length≠0:=fun h=>h0 (List.length_eq_zero_iff.1 h)
   omega
  simp only[eE,seval,↓eP,rP,hlen,c0]
  refine fin (fun h=>h0 h.1) _ ?_ ?_ ?_ ?_ <;> simp only[eE,seval,↓eP,rP,t0,t5,t4]
def X_ (i:Nat) (f:DA):Prop:=(1≤f.kind∧f.kind≤54)∧(f.kind=1∨f.kind=11∨(f.next:Int)+f.left≤CZ f.kind)∧f.left≤9223372036854775807∧f.next≤i
theorem qM:∀ {s:List DA} {f:DA},f∈GI s→f∈s
 | [],f,h=>h
 | g :: s,f,h=>by
  by_cases h0:g.left=0
  ·rw[TA h0] at h
   exact List.mem_cons_of_mem _ (qM h)
  ·rw[TM h0] at h
   exact h
theorem rC:∀ {s:List DA} {f:DA} {s':List DA},GI s=f :: s'→f.left≠0
 | [],f,s',h=>by cases h
 | g :: s,f,s',h=>by
  by_cases h0:g.left=0
  ·rw[TA h0] at h
   exact rC h
  ·rw[TM h0] at h
   cases h
   exact h0
theorem Ou {i:Nat} {s:List DA} (hs:∀ f∈s,X_ i f) (ht:∀ f s',s=f :: s'→f.left≠0):∀ f∈LD s,X_ (i+1) f:=by
 cases s with
 | nil=>intro f hf;cases hf
 | cons g s=>
  intro f hf
  rcases List.mem_cons.1 hf with rfl | hf
  ·obtain⟨h1,h2,h3,h4⟩:=hs g (by simp)
   have:=ht g s rfl
   refine⟨h1,?_,by simp only;omega,by simp only;omega⟩
   rcases h2 with h2 | h2 | h2
   ·exact .inl h2
   ·exact .inr (.inl h2)
   ·exact .inr (.inr (by simp only;omega))
  ·obtain⟨h1,h2,h3,h4⟩:=hs f (List.mem_cons_of_mem _ hf)
   exact⟨h1,h2,h3,by omega⟩
theorem WO (s:List DA):(LD s).length=s.length:=by cases s <;> rfl
theorem Kf {x:AB} (h:DR AZ x=true):0≤x.kids∧(x.kind=1∨x.kind=11∨x.kids≤CZ x.kind):=by
 unfold DR at h
 simp only[Bool.and_eq_true,Bool.or_eq_true,decide_eq_true_eq] at h
 have:=R5 x.kind
 refine⟨by omega,?_⟩
 by_cases h1:x.kind=1
 ·exact .inl h1
 ·by_cases h2:x.kind=11
  ·exact .inr (.inl h2)
  ·have hm:0≤CZ x.kind:=by
    unfold CZ
    have e:([1,11]:List Int).contains x.kind=false:=by simp[h1,h2]
    rw[e]
    simp only[Bool.false_eq_true,if_false]
    (repeat' split) <;> omega
   omega
theorem Uk {w k:Int} (h:FV w k=true):1≤k∧k≤54:=r8 h
theorem zG {l:List AB} {v:Value} {h:AA} (hc:WN call) (hv:AQ h v l) (hlen:l.length<900000000) (hn:l.length+3<n) (hfl:h.floor≤h.next) (h64:∀ x∈l,x.kids≤9223372036854775807) :
  ∃ h',AY Tryz.prog call n 116 [v] h=some (iv (match HY AZ l with | some p=>(p:Int) | none=>-1),h')∧∀ i,i<h.next→h'.get i=h.get i:=by
 refine DW (R:=fun h'=>∀ i,i<h.next→h'.get i=h.get i) Tryz.func116 rfl (by simp[Tryz.f116]) ?_
 have hr:Tryz.f116.results.toList=[.tmp 2]:=rfl
 have hl22:∀ h',CY Tryz.prog h' 22 v=some (.int .i64 l.length):=fun h'=>hv.len
 have hsim:=Ui (isName:=AZ) (l:=l) (M:=l.length+1) (by omega)
 generalize HY AZ l=R at *
 simp only[eE,seval,↓eP,rP,hr]
 refine WK.loop (fun j st=>∃ s ev,LV h v j st.T st.h s ev∧s.length≤j∧(∀ f∈s,X_ j f)∧(∀ f s',s=f :: s'→f.left≠0)∧(((s≠[]∨j=0)∧G0 (isName:=AZ) l (l.length+1-j) j s ev=R)∨(s=[]∧0<j∧R=none))) l.length (by omega) ?_ ?_
 ·refine⟨[],false,⟨?_,?_,?_,?_,rfl,Nat.le_refl _,fun _ _=>rfl⟩,Nat.le_refl _,(fun f hf=>by cases hf),(fun f s' hf=>by cases hf),.inl ⟨.inr rfl,hsim⟩⟩
  ·simp only[eE,seval,↓eP,rP]
  ·simp only[eE,↓reduceIte,Nat.reduceEqDiff,reduceCtorEq,↓eP,rP,Nat.reduceAdd,Nat.reduceLT];rfl
  ·simp only[eE,seval,↓eP,rP]
  ·simp only[eE,seval,↓eP,rP];exact .inl ⟨rfl,rfl⟩
 ·rintro j ⟨T1,H1⟩ hj ⟨s,ev,hB,hsl,hok,htop,hrun⟩
  have hB':=hB
  obtain⟨t0,t5,t4,hst,hf,hnx,hold⟩:=hB
  simp only at t0 t5 t4 hst hf hnx hold
  have hlenS:=fun h'=>hst.len (h':=h')
  have w1:=DF j (by omega)
  -- the end: no row is open
  by_cases hend:s=[]∧0<j
  ·obtain⟨rfl,hj0⟩:=hend
   have hRn:R=none:=by
    rcases hrun with⟨h1 | h1,_⟩ | ⟨_,_,h1⟩
    ·exact absurd rfl h1
    ·omega
    ·exact h1
   subst hRn
   have c0:((j:Int)==0)=false:=by rw[beq_eq_false_iff_ne];omega
   have c1:decide (((([]:List DA).length:Nat):Int)>0)=false:=rfl
   simp only[eE,seval,↓eP,rP,t5,hlenS,c0,c1]
   exact hold
  ·have hrun':G0 (isName:=AZ) l (l.length+1-j) j s ev=R:=by
    rcases hrun with⟨_,h1⟩ | ⟨h1,h2,_⟩
    ·exact h1
    ·exact absurd ⟨h1,h2⟩ hend
   obtain⟨m,hm⟩:∃ m,l.length+1-j=m+1:=⟨l.length-j,by omega⟩
   rw[hm,G0] at hrun'
   have head:∀ (c:Code) (k:B_),(∀ T':Tr,LV h v j T' H1 s ev→WK Tryz.prog call n (.block 1 WM) ⟨T',H1⟩ (.seq c k))→WK Tryz.prog call n (lf dN) ⟨T1,H1⟩ (.seq (.seq (.block 1 WM) c) k):=fun c k hk=>by
    show WK _ _ _ (.seq _ (.cond _ _ _)) _ _
    by_cases hj0:j=0
    ·have c0:((j:Int)==0)=true:=by rw[hj0];rfl
     simp only[PB,seval,↓eP,rP,t5,c0]
     refine hk _ ⟨?_,?_,?_,?_,hf,hnx,hold⟩
     ·simp only[eE,seval,↓eP,rP,t0]
     ·simp only[eE,seval,↓eP,rP,t5]
     ·simp only[eE,seval,↓eP,rP,t4]
     ·simp only[eE,seval,↓eP,rP];exact hst
    ·have c0:((j:Int)==0)=false:=by rw[beq_eq_false_iff_ne];omega
     have hs0:s.length≠0:=fun e=>hend ⟨List.length_eq_zero_iff.1 e,by omega⟩
     have c1:decide (((s.length:Nat):Int)>0)=true:=by simp only[decide_eq_true_eq];omega
     simp only[PB,seval,↓eP,rP,t5,hlenS,c0,c1]
     refine hk _ ⟨?_,?_,?_,?_,hf,hnx,hold⟩
     ·simp only[eE,seval,↓eP,rP,t0]
     ·simp only[eE,seval,↓eP,rP,t5]
     ·simp only[eE,seval,↓eP,rP,t4]
     ·simp only[eE,seval,↓eP,rP];exact hst
   show WK _ _ _ (.seq (lf dN) (.seq (.block 1 WM) _)) _ _
   rw[KA]
   refine head _ _ fun T2 hB2=>?_
   rw[RW]
   refine XX hc hB2 hfl (by omega) (by omega) (fun f s' he=>?_) fun T3 H3 hB3 h6=>?_
   ·have h1:=hok f (by rw[he];simp)
    have h2:=htop f s' he
    exact⟨h1.1,by omega,h1.2.1,h1.2.2.1,h1.2.2.2⟩
   have old3:=hB3.2.2.2.2.2.2
   refine YZ hc hv hB3 qR h6 (fun hb T4 u2=>?_) fun x hx hgood T4 hB4 h6'=>?_
   ·have hR:R=some j:=by
     rw[← hrun']
     rcases hb with hb | ⟨x,hx,hb⟩
     ·simp only[LM,hb]
     ·simp only[LM,hx,hb,Bool.false_eq_true,if_false]
    subst hR
    simp only[eE,seval,↓eP,rP,u2]
    exact old3
   refine Z2 hc hv hB4 qR h6' hx (fun hb T5 u2=>?_) fun hb T5 hB5=>?_
   ·have hR:R=some j:=by
     rw[← hrun']
     simp only[LM,hx,hgood,if_true]
     rw[if_pos hb]
    subst hR
    simp only[eE,seval,↓eP,rP,u2]
    exact old3
   have hjl:j<l.length:=(List.getElem?_eq_some_iff.1 hx).1
   have hg:=Bool.and_eq_true_iff.1 hgood
   obtain⟨hk0,hk1⟩:=Kf hg.2
   have hkk:=Uk hg.1
   have hx64:=h64 x (List.mem_of_getElem? hx)
   refine Ot hv hB5 hx hk0 hfl (by rw[WO];omega) fun T6 H6 hB6=>?_
   refine Jb hB6 (by simp only[List.length_cons,WO];omega) (by simp only[List.length_cons,WO];omega) fun T7 hB7=>?_
   have old7:=hB7.2.2.2.2.2.2
   simp only[LM,hx,hgood,if_true] at hrun'
   rw[if_neg hb] at hrun'
   have hplen:=mT (⟨x.kind,x.kids.toNat,0⟩ :: LD s)
   simp only[List.length_cons,WO] at hplen
   have hdec:=Ou hok htop
   have hall:∀ f∈GI (⟨x.kind,x.kids.toNat,0⟩ :: LD s),X_ (j+1) f:=fun f hf=>by
    rcases List.mem_cons.1 (qM hf) with rfl | hf
    ·refine⟨hkk,?_,by simp only;omega,by simp only;omega⟩
     rcases hk1 with h | h | h
     ·exact .inl h
     ·exact .inr (.inl h)
     ·exact .inr (.inr (by simp only;omega))
    ·exact hdec f hf
   have htop':∀ f s',GI (⟨x.kind,x.kids.toNat,0⟩ :: LD s)=f :: s'→f.left≠0:=fun f s' he=>rC he
   generalize GI (⟨x.kind,x.kids.toNat,0⟩ :: LD s)=s2 at *
   generalize (if M9 s=9 then ev||CA 1 x.kind else ev)=ev2 at *
   simp only at hrun'
   refine Wz hv hB7 (by omega) (fun e1 e2 T8 u2=>?_) fun e1 T8 hB8=>?_
   ·rw[if_pos e1,if_pos e2] at hrun'
    subst hrun'
    simp only[eE,seval,↓eP,rP,u2]
    exact old7
   ·obtain⟨y0,y5,y4,yst,yf,yn,yold⟩:=hB8
    simp only[eE,↓reduceIte,Nat.reduceEqDiff,reduceCtorEq,↓eP,rP,Nat.reduceAdd,Nat.reduceLT,y5,w1]
    refine⟨hjl,s2,ev2,⟨?_,?_,?_,?_,yf,yn,yold⟩,by omega,hall,htop',?_⟩
    ·simp only[eE,↓reduceIte,Nat.reduceEqDiff,reduceCtorEq,↓eP,rP,Nat.reduceAdd,Nat.reduceLT,y0]
    ·simp only[eE,↓reduceIte,Nat.reduceEqDiff,reduceCtorEq,↓eP,rP,Nat.reduceAdd,Nat.reduceLT]
    ·simp only[eE,↓reduceIte,Nat.reduceEqDiff,reduceCtorEq,↓eP,rP,Nat.reduceAdd,Nat.reduceLT,y4]
    ·simp only[eE,↓reduceIte,Nat.reduceEqDiff,reduceCtorEq,↓eP,rP,Nat.reduceAdd,Nat.reduceLT];exact yst
    ·by_cases h0:s2=[]
     ·refine .inr ⟨h0,by omega,?_⟩
      rw[if_pos h0,if_neg (fun h=>e1 ⟨h0,h⟩)] at hrun'
      exact hrun'.symm
     ·rw[if_neg h0] at hrun'
      refine .inl ⟨.inl h0,?_⟩
      rw[show l.length+1-(j+1)=m by omega]
      exact hrun'
end
theorem mO (k:Int) (h:AA):L0 127 [iv k] h=some (.bool (decide (k≥2)&&decide (k≤7)),h):=FE rfl rfl rfl rfl ⟨_,Gz⟩
theorem k7 (k:Int) (h:AA):L0 128 [iv k] h=some (.bool (E8 k),h):=FE rfl rfl rfl rfl ⟨_,Wo⟩
theorem zS {w k:Int} (h:AA) (hw:NQ w):L1 133 [iv k,iv (HN w)] h=some (.bool (FV w k),h):=by
 refine FE (GY rfl rfl) rfl rfl rfl ⟨_,Bs hw (F7 (mO k _)) (F7 (k7 k _)) ?_ ?_⟩
 ·exact(PM (n:=11) (base:=L0) (GY rfl rfl)).trans Gi
 ·exact(PM (n:=11) (base:=L0) (GY rfl rfl)).trans Ny
theorem Kn (k:Int) (h:AA) (hk:1≤k∧k≤54):L0 134 [iv k] h=some (.bool (KJ k),h):=FE rfl rfl rfl rfl (JD Qk hk)
theorem Qt (k:Int) (h:AA) (hk:1≤k∧k≤54):L0 135 [iv k] h=some (.bool (HQ k),h):=FE rfl rfl rfl rfl (JD Mm hk)
theorem Lz (k:Int) (h:AA) (hk:1≤k∧k≤54):L0 137 [iv k] h=some (.tuple #[iv (FT k),iv (CZ k)],h):=FE rfl rfl rfl (QM rfl rfl) (JD Jr hk)
theorem Rr {w:Int} {x:AB} (h:AA) (hw:NQ w):L3 126 [CE x,iv (HN w)] h=some (.bool (FV w x.kind&&DR AZ x),h):=by
 refine FE (OX (GY (GY rfl rfl) rfl) rfl) rfl ?_ rfl (Ib (Nh (fun h=>F7 (ML (zS h hw))) (fun h hk=>F7 (ML (HD (Kn _ h hk)))) (fun h hk=>F7 (ML (HD (Qt _ h hk)))) (fun h=>F7 (Ct h _)) (fun h hk=>F7 (ML (HD (Lz _ h hk))))))
 simp[NK,flat,BS]
section
variable {call:AS} {n:Nat}
theorem Mf {j:Nat} {h:AA}:AY Tryz.prog call n 125 [iv 1,iv j] h=some (iv 1,h):=by
 refine CO Tryz.func125 rfl (by simp[Tryz.f125]) ?_
 have hr:Tryz.f125.results.toList=[.tmp 4]:=rfl
 simp only[eE,seval,↓eP,rP,hr]
theorem Qr {j:Nat} {h:AA}:AY Tryz.prog call n 125 [iv 11,iv j] h=some (iv 3,h):=by
 refine CO Tryz.func125 rfl (by simp[Tryz.f125]) ?_
 have hr:Tryz.f125.results.toList=[.tmp 4]:=rfl
 simp only[eE,seval,↓eP,rP,hr,Int.reduceBEq]
end
theorem Hh (k:Int):CZ k≤3:=by unfold CZ;(repeat' split) <;> omega
theorem Ir (k:Int) (j:Nat) (h:AA) (hk:1≤k∧k≤54) (hj:k=1∨k=11∨(j:Int)<CZ k):L0 125 [iv k,iv j] h=some (iv (RA k j),h):=by
 rcases hj with rfl | rfl | hj
 ·exact FE rfl rfl rfl rfl ⟨_,Mf⟩
 ·exact FE rfl rfl rfl rfl ⟨_,Qr⟩
 ·have:=Hh k
  obtain rfl | rfl | rfl:j=0∨j=1∨j=2:=by omega
  ·exact FE rfl rfl rfl rfl (JD Bg hk)
  ·exact FE rfl rfl rfl rfl (JD Bi hk)
  ·exact FE rfl rfl rfl rfl (JD Oc hk)
theorem Em (n:Nat):WN (AK n) where
 kid:=fun κ j h hκ hj=>GP (HD (Ir κ j h hκ hj))
 right:=fun w x h hw=>p7 (Rr h hw)
 decl:=fun k h=>GP (HD (mO k h))
 event:=fun k h=>GP (HD (k7 k h))
section
variable {call:AS} {n:Nat}
theorem Gk {l:List AB} {v:Value} {h:AA} (hv:AQ h v l) (hfl:h.floor≤h.next)
  (h84:∀ h',AQ h' v l→h'.floor≤h'.next→call 116 [v] h'=some (iv (match HY AZ l with | some p=>(p:Int) | none=>-1),h'))
  (h85:HY AZ l=none→∀ h',AQ h' v l→h'.floor≤h'.next→call 117 [v] h'=some (iv (DY l (l.length+1) 0).1,h')) :
  ∃ h1,AY Tryz.prog call n 78 [v] h=some (CI (BQ l).1 (BQ l).2,h1)∧∀ i,i<h.next→h1.get i=h.get i:=by
 refine DW (R:=fun h1=>∀ i,i<h.next→h1.get i=h.get i) Tryz.func78 rfl (by simp[Tryz.f78]) ?_
 have hr:Tryz.f78.results.toList=[.cell 2 32]:=rfl
 have hold:∀ o:BF,∀ i,i<h.next→(h.push o).get i=h.get i:=fun o i hi=>AU hi
 have hvp:=hv.mono (h':=h.push (.row [.int .i64 0,.int .i64 0] 32 false false)) (by show h.next≤h.next+1;omega) (hold _)
 have h84':=h84 _ hvp (by show h.floor≤h.next+1;omega)
 have hflT:(h.floor≤h.next)=True:=by simpa using hfl
 have hltT:(h.next<h.next+1)=True:=by simp
 unfold BQ
 cases hs:HY AZ l with
 | some p=>
  rw[hs] at h84'
  have c1:decide ((p:Int)≥0)=true:=by simp
  simp only[eE,seval,↓eP,rP,hr,EN,EO,h84',c1,F8,RF,QU,CR,QY,hflT,hltT]
  intro i hi
  rw[if_neg (by omega),if_neg (by omega)]
 | none=>
  have h85':=h85 hs _ hvp (by show h.floor≤h.next+1;omega)
  rw[hs] at h84'
  have c1:decide ((-1:Int)≥0)=false:=rfl
  cases c2:decide ((DY l (l.length+1) 0).1>64) with
  | true=>
   rw[if_pos (by simpa using c2)]
   simp only[eE,seval,↓eP,rP,hr,c2,EN,EO,h84',h85',NB,RF,QU,CR,QY,hflT,hltT]
   intro i hi
   rw[if_neg (by omega),if_neg (by omega)]
  | false=>
   rw[if_neg (by simpa using c2)]
   simp only[eE,seval,↓eP,rP,hr,c2,EN,EO,h84',h85',M2,RF,QU,CR,QY,hflT,hltT]
   intro i hi
   rw[if_neg (by omega),if_neg (by omega)]
end
theorem Tn {n:Nat} {l:List AB} {v:Value} (hn:l.length+12<n) (hlen:l.length<900000000) (h64:∀ x∈l,x.kids≤9223372036854775807) {h:AA} (hv:AQ h v l) (hfl:h.floor≤h.next) :
  AK n 78 [v] h=some (CI (BQ l).1 (BQ l).2,h):=by
 obtain⟨n,rfl⟩:∃ k,n=k+4:=⟨n-4,by omega⟩
 refine HB (BD ⟨rfl,rfl,rfl⟩) rfl (Gk hv hfl (fun h' hv' hfl'=>?_) fun hs h' hv' hfl'=>?_)
 ·exact HB (BD ⟨rfl,rfl,rfl⟩) rfl (zG (Em _) hv' hlen (by omega) hfl' h64)
 ·have ht:=XC hs
  refine HB (BD ⟨rfl,rfl,rfl⟩) rfl (Jd ht hv' (by omega) (by omega) hfl' ?_ fun P K k h hP hK=>GP (Ug P K k h hP hK))
  refine N5 (BD ⟨rfl,rfl,rfl⟩) ?_ (Lq ht hv' (by omega) (by omega) hfl' fun H hvH hflH=>tR ht hvH (by omega) (by omega) hflH)
  simp[E9,flat,BS]
theorem kR {k:Int} (h:BZ k≠0):EC k=0∧E8 k=false:=by
 have:k=2∨k=3∨k=4∨k=5∨k=7:=by
  unfold BZ at h
  split at h
  ·rename_i h1
   simp only[List.contains_cons,List.contains_nil,Bool.or_false,Bool.or_eq_true,beq_iff_eq] at h1
   omega
  ·split at h
   ·omega
   ·split at h
    ·omega
    ·split at h
     ·omega
     ·exact absurd rfl h
 obtain rfl | rfl | rfl | rfl | rfl:=this <;> exact⟨rfl,rfl⟩
theorem vU {E:List Int} {at_:Nat} {s:AM} {x:AB} (hx:s.rows[at_]?=some x) (hd:BZ x.kind≠0) :
  F3 E at_ s=if EH x s≠0 then (EH x s,s) else (0,BR at_ ((E[at_]?).getD 0) x s):=by
 obtain⟨hc,he⟩:=kR hd
 unfold F3
 rw[hx]
 simp only
 split
 ·rfl
 ·have hr:(BR at_ ((E[at_]?).getD 0) x s).rows[at_]?=some { x with n:=(BI s (BZ x.kind):Int) }:=by
   rw[rE,if_neg hd]
   exact LU hx
  rw[hr]
  simp only
  have h1:DB at_ { x with n:=(BI s (BZ x.kind):Int) } (BR at_ ((E[at_]?).getD 0) x s)=0:=by unfold DB;rw[if_pos hc]
  have h2:CF at_ { x with n:=(BI s (BZ x.kind):Int) } (BR at_ ((E[at_]?).getD 0) x s)=BR at_ ((E[at_]?).getD 0) x s:=by unfold CF;rw[if_pos hc]
  rw[h1,h2,hr,if_neg (by simp)]
  simp only
  have h3:DQ { x with n:=(BI s (BZ x.kind):Int) } (BR at_ ((E[at_]?).getD 0) x s)=0:=by unfold DQ;rw[if_pos he]
  have h4:D3 at_ { x with n:=(BI s (BZ x.kind):Int) } (BR at_ ((E[at_]?).getD 0) x s)=BR at_ ((E[at_]?).getD 0) x s:=by unfold D3;rw[if_pos he]
  rw[h3,h4,if_neg (by simp)]
theorem lI {E:List Int} {at_:Nat} {s:AM} {x:AB} (hx:s.rows[at_]?=some x) (hd:BZ x.kind=0) :
  F3 E at_ s=if DB at_ x s≠0 then (DB at_ x s,s) else match (CF at_ x s).rows[at_]? with
   | none=>(0,s)
   | some x2=>if DQ x2 (CF at_ x s)≠0 then (DQ x2 (CF at_ x s),s) else (0,D3 at_ x2 (CF at_ x s)):=by
 have h1:EH x s=0:=by unfold EH;rw[if_pos hd]
 have h2:BR at_ ((E[at_]?).getD 0) x s=s:=by unfold BR;rw[if_pos hd]
 unfold F3
 rw[hx]
 simp only
 rw[h1,h2,hx,if_neg (by simp)]
 rfl
theorem YN {at_:Nat} {s:AM} {x:AB} (hx:s.rows[at_]?=some x) (hc:DB at_ x s=0) :
  ∃ n,(CF at_ x s).rows[at_]?=some { x with n:=n }∧(∀ i,i≠at_→(CF at_ x s).rows[i]?=s.rows[i]?)∧(CF at_ x s).rules=s.rules∧(CF at_ x s).on=s.on∧(CF at_ x s).things=s.things ∧
   ((EC x.kind=0∧n=x.n)∨∃ t∈s.things,t.kind=EC x.kind∧n=t.num∧t.known≤at_∧GK s.things x.name=some t):=by
 unfold DB at hc
 unfold CF
 by_cases h0:EC x.kind=0
 ·rw[if_pos h0]
  exact⟨x.n,hx,fun _ _=>rfl,rfl,rfl,rfl,.inl ⟨h0,rfl⟩⟩
 ·rw [if_neg h0] at hc ⊢
  cases hf:GK s.things x.name with
  | none=>rw[hf] at hc;cases hc
  | some t=>
   rw[hf] at hc
   simp only at hc ⊢
   refine⟨t.num,LU hx,fun i hi=>O2 hi,trivial,trivial,trivial,.inr ⟨t,jN hf,?_,rfl,?_,rfl⟩⟩
   ·split at hc
    ·cases hc
    ·split at hc
     ·cases hc
     ·rename_i h;simpa using h
   ·split at hc
    ·cases hc
    ·omega
def ZT (l:List AB) (i:Nat):Prop:=∃ x,l[i]?=some x∧11≤x.kind
theorem Vn {w k:Int} (hw:2≤w∧w≤7) (h:CA w k=true):11≤k:=by
 unfold CA at h
 rw[if_neg (by omega),if_neg (by omega),if_neg (by omega)] at h
 (repeat' split at h) <;> simp only[beq_iff_eq,Bool.and_eq_true,Bool.or_eq_true,decide_eq_true_eq] at h <;> omega
theorem oR (k:Int) (j:Nat):2≤BV k j∧BV k j≤7:=by unfold BV;(repeat' split) <;> omega
theorem Gu {l:List AB}:∀ m at_ what,(2≤what∧what≤7)→(BW AZ l m at_ what).2=true→∀ i,at_≤i→i<(BW AZ l m at_ what).1→ZT l i:=by
 intro m
 induction m with
 | zero=>intro at_ what _ h;cases h
 | succ m ih=>
  intro at_ what hw
  unfold BW
  cases hx:l[at_]? with
  | none=>intro h;cases h
  | some x=>
   simp only
   split
   ·rename_i hc
    intro h i h1 h2
    rcases Nat.lt_or_ge at_ i with h3 | h3
    ·exact cG (V:=ZT l) (fun k p hk i h1 h2=>ih p (BV x.kind k) (oR _ _) hk i h1 h2) x.kids.toNat 0 (at_+1) h i h3 h2
    ·have:i=at_:=by omega
     subst this
     exact⟨x,hx,Vn hw (Bool.and_eq_true_iff.1 hc).1⟩
   ·intro h;cases h
theorem Ph {l:List AB} {r q:Nat} {x:AB} (h:EK l r q) (hx:l[r]?=some x) (h1:x.kind≠1):∀ i,r<i→i<q→ZT l i:=by
 intro i hi hq
 rcases h with⟨m,what,h⟩ | ⟨rfl,m,h⟩
 ·cases m with
  | zero=>cases h
  | succ m=>
   rw[YA hx] at h
   split at h
   ·have e1:(E6 (fun k next=>BW AZ l m next (BV x.kind k)) x.kids.toNat 0 (r+1)).2=true:=by rw[h]
    have e2:(E6 (fun k next=>BW AZ l m next (BV x.kind k)) x.kids.toNat 0 (r+1)).1=q:=by rw[h]
    exact cG (V:=ZT l) (fun k p hk i h1 h2=>Gu m p (BV x.kind k) (oR _ _) hk i h1 h2) x.kids.toNat 0 (r+1) e1 i hi (by rw[e2];exact hq)
   ·cases h
 ·rw[XB hx] at h
  split at h
  ·rename_i hc
   have:=(Bool.and_eq_true_iff.1 hc).1
   exact absurd (by simpa [CA] using this) h1
  ·cases h
structure TS (l:List AB) (at_:Nat) (s:AM):Prop where
 rul:∀ (j:Nat) (ru:Int),s.rules[j]?=some ru→∃ r:Nat,ru=(r:Int)+1∧r<at_∧∃ x,l[r]?=some x∧x.kind=7
 inc:∀ (j j':Nat) (ru ru':Int),j<j'→s.rules[j]?=some ru→s.rules[j']?=some ru'→ru<ru'
 th:∀ t∈s.things,t.kind=4→0≤t.num∧∃ r:Nat,s.rules[t.num.toNat]?=some ((r:Int)+1)∧t.known=(AC l r:Int)
 call:∀ (i:Nat) (x:AB),i<at_→s.rows[i]?=some x→x.kind=22→∃ r:Nat,s.rules[x.n.toNat]?=some ((r:Int)+1)∧AC l r≤i
theorem Ei (l:List AB):TS l 0 (CD l) where
 rul:=fun j ru h=>by simp[CD] at h
 inc:=fun j j' ru ru' _ h=>by simp[CD] at h
 th:=fun t h=>by simp[CD] at h
 call:=fun i x h=>by omega
theorem Fi {k:Int} (h:BZ k=4):k=7:=by
 unfold BZ at h
 (repeat' split at h) <;> simp_all
theorem Ry {l:List AB} {at_:Nat} {s:AM} (ht:CU l) (hat:at_<l.length) (hi:HR l at_ s) (hL:TS l at_ s) (h0:(F3 (AX l) at_ s).1=0):TS l (at_+1) (F3 (AX l) at_ s).2:=by
 obtain⟨x,hx⟩:∃ x,s.rows[at_]?=some x:=⟨_,List.getElem?_eq_getElem (by rw[hi.len];exact hat)⟩
 have hxl:l[at_]?=some x:=by rw[← hi.later at_ (Nat.le_refl _)];exact hx
 have hE:((AX l)[at_]?).getD 0=(AC l at_:Int):=by rw[N_ hat];rfl
 by_cases hd:BZ x.kind=0
 ·rw [lI hx hd] at h0 ⊢
  by_cases hc:DB at_ x s=0
  case neg=>rw[if_pos hc] at h0;exact absurd h0 hc
  rw[if_neg (by simpa using hc)] at h0 ⊢
  obtain⟨n,c1,c2,c3,c4,c5,c6⟩:=YN hx hc
  rw[c1] at h0 ⊢
  simp only at h0 ⊢
  by_cases hv:DQ { x with n:=n } (CF at_ x s)=0
  case neg=>rw[if_pos hv] at h0;exact absurd h0 hv
  rw[if_neg (by simpa using hv)]
  have e1:(D3 at_ { x with n:=n } (CF at_ x s)).rows=(CF at_ x s).rows∧(D3 at_ { x with n:=n } (CF at_ x s)).rules=s.rules∧(D3 at_ { x with n:=n } (CF at_ x s)).things=s.things:=by
   unfold D3
   split
   ·exact⟨rfl,c3,c5⟩
   ·split
    ·exact⟨rfl,c3,c5⟩
    ·exact⟨rfl,c3,c5⟩
  obtain⟨e1,e2,e3⟩:=e1
  simp only
  refine⟨fun j ru h=>?_,fun j j' ru ru' h1 h2 h3=>?_,fun t h1 h2=>?_,fun i y h1 h2 h3=>?_⟩
  ·rw[e2] at h
   obtain⟨r,r1,r2,r3⟩:=hL.rul j ru h
   exact⟨r,r1,by omega,r3⟩
  ·rw[e2] at h2 h3
   exact hL.inc j j' ru ru' h1 h2 h3
  ·rw[e3] at h1
   rw[e2]
   exact hL.th t h1 h2
  ·rw[e1] at h2
   rw[e2]
   by_cases hia:i=at_
   ·subst hia
    rw[c1] at h2
    cases h2
    rcases c6 with⟨h4,_⟩ | ⟨t,t1,t2,t3,t4,_⟩
    ·have h3':x.kind=22:=h3
     rw[h3'] at h4
     cases h4
    ·have h3':x.kind=22:=h3
     rw[h3'] at t2
     obtain⟨k1,r,k2,k3⟩:=hL.th t t1 t2
     simp only
     rw[t3]
     exact⟨r,k2,by omega⟩
   ·rw[c2 i hia] at h2
    exact hL.call i y (by omega) h2 h3
 ·rw [vU hx hd] at h0 ⊢
  by_cases hc:EH x s=0
  case neg=>rw[if_pos hc] at h0;exact absurd h0 hc
  rw[if_neg (by simpa using hc)]
  simp only
  have hS:BR at_ (((AX l)[at_]?).getD 0) x s=FK at_ (AC l at_) x s:=by unfold BR;rw[if_neg hd,hE]
  rw[hS]
  have hrul:(FK at_ (AC l at_) x s).rules=if BZ x.kind=4 then s.rules++[(at_:Int)+1] else s.rules:=rfl
  have hth:(FK at_ (AC l at_) x s).things=s.things++[⟨x.name,BZ x.kind,BI s (BZ x.kind),AC l at_⟩]:=rfl
  have hrows:(FK at_ (AC l at_) x s).rows=G8 s.rows at_ (BI s (BZ x.kind)):=rfl
  have old:∀ (j:Nat) (ru:Int),s.rules[j]?=some ru→(FK at_ (AC l at_) x s).rules[j]?=some ru:=fun j ru h=>by
   rw[hrul]
   split
   ·rw[List.getElem?_append_left (List.getElem?_eq_some_iff.1 h).1];exact h
   ·exact h
  have new:∀ (j:Nat) (ru:Int),(FK at_ (AC l at_) x s).rules[j]?=some ru→s.rules[j]?=some ru∨(BZ x.kind=4∧j=s.rules.length∧ru=(at_:Int)+1):=fun j ru h=>by
   rw[hrul] at h
   split at h
   ·rename_i h4
    rcases Nat.lt_or_ge j s.rules.length with h5 | h5
    ·rw[List.getElem?_append_left h5] at h
     exact .inl h
    ·rw[List.getElem?_append_right h5] at h
     have:j-s.rules.length=0:=by
      rcases Nat.eq_zero_or_pos (j-s.rules.length) with h6 | h6
      ·exact h6
      ·rw[List.getElem?_eq_none (by simp;omega)] at h;cases h
     rw[this] at h
     cases h
     exact .inr ⟨h4,by omega,rfl⟩
   ·exact .inl h
  refine⟨fun j ru h=>?_,fun j j' ru ru' h1 h2 h3=>?_,fun t h1 h2=>?_,fun i y h1 h2 h3=>?_⟩
  ·rcases new j ru h with h | ⟨h4,_,rfl⟩
   ·obtain⟨r,r1,r2,r3⟩:=hL.rul j ru h
    exact⟨r,r1,by omega,r3⟩
   ·exact⟨at_,rfl,by omega,x,hxl,Fi h4⟩
  ·rcases new j ru h2 with h2 | ⟨h4,g2,rfl⟩
   ·rcases new j' ru' h3 with h3 | ⟨_,_,rfl⟩
    ·exact hL.inc j j' ru ru' h1 h2 h3
    ·obtain⟨r,r1,r2,_⟩:=hL.rul j ru h2
     omega
   ·rcases new j' ru' h3 with h3 | ⟨_,g3,_⟩
    ·have:=(List.getElem?_eq_some_iff.1 h3).1
     omega
    ·omega
  ·rw[hth] at h1
   rcases List.mem_append.1 h1 with h1 | h1
   ·obtain⟨a,r,b,c⟩:=hL.th t h1 h2
    exact⟨a,r,old _ _ b,c⟩
   ·rw[List.mem_singleton.1 h1] at h2 ⊢
    simp only at h2 ⊢
    refine⟨by omega,at_,?_,rfl⟩
    rw[h2]
    have:BI s 4=s.rules.length:=rfl
    rw[this,hrul,if_pos h2,Int.toNat_natCast,List.getElem?_append_right (Nat.le_refl _),Nat.sub_self]
    rfl
  ·rw[hrows] at h2
   by_cases hia:i=at_
   ·subst hia
    rw[LU hx] at h2
    cases h2
    have h3':x.kind=22:=h3
    rw[h3'] at hd
    exact absurd rfl hd
   ·rw[O2 hia] at h2
    obtain⟨r,r1,r2⟩:=hL.call i y (by omega) h2 h3
    exact⟨r,old _ _ r1,r2⟩
theorem wO {l:List AB} (ht:CU l):∀ r at_ s,at_+r=l.length→HR l at_ s→TS l at_ s→(DG (AX l) r at_ s).1=0→TS l l.length (DG (AX l) r at_ s).2.2
 | 0,at_,s,hr,_,hi,_=>by
  have:at_=l.length:=by omega
  subst this
  exact hi
 | r+1,at_,s,hr,hiR,hi,h0=>by
  unfold DG at h0 ⊢
  by_cases h:(F3 (AX l) at_ s).1=0
  ·rw[if_neg (by simpa using h)] at h0 ⊢
   exact wO ht r (at_+1) _ (by omega) (U5 ht (VC at_) (by omega) hiR h) (Ry ht (by omega) hiR hi h) h0
  ·rw[if_pos h] at h0
   exact absurd h0 h
theorem Gt {l:List AB} {s:AM} (ht:CU l) (hlen:l.length<1099511627) (hi:HR l l.length s) (hL:TS l l.length s):VJ s.rows (AX l) s.rules where
 lay:=oT ht hlen hi
 ahead:=fun i ru hru x hx h22=>by
  obtain⟨r,rfl,hr,y,hy,hy7⟩:=hL.rul i ru hru
  have hs:=ht.end hr
  obtain⟨z,hz,_,_,hch⟩:=hs.kids
  rw[hy] at hz
  cases hz
  have hfit:=ht.row hy
  have hk1:1≤y.kids:=by
   have h1:=hfit.2.2.1
   rw[hy7] at h1
   exact h1
  have hle:=HJ _ _ _ hch
  have hlt:=hs.lt
  have hr1:r+1<l.length:=by omega
  obtain⟨qi,s1,s2⟩:=EK.cover (AC l r-r) (by omega) hs (r+1) (by omega) (by omega)
  have hq1:=IY s1
  have e1:((r:Int)+1).toNat=r+1:=by omega
  rw[e1] at hx
  unfold blk at hx
  rw[N_ hr1] at hx
  simp only[Option.getD_some,Int.toNat_natCast] at hx
  rw[hq1] at hx
  obtain⟨d,hd,hxd⟩:=List.getElem_of_mem hx
  rw[List.length_take,List.length_drop] at hd
  have hxa:s.rows[r+1+d]?=some x:=by
   rw[← hxd,← List.getElem?_eq_getElem,List.getElem?_take_of_lt (by omega),List.getElem?_drop]
  obtain⟨rj,c1,c2⟩:=hL.call (r+1+d) x (by rw[← hi.len];exact(List.getElem?_eq_some_iff.1 hxa).1) hxa h22
  have hn0:=(hi.calls _ _ (by rw[← hi.len];exact(List.getElem?_eq_some_iff.1 hxa).1) hxa h22).1
  have hj:¬ i≤x.n.toNat:=by
   intro hij
   obtain⟨rj',h1,hrj,w,hw,hw7⟩:=hL.rul _ _ c1
   have:rj'=rj:=by omega
   subst this
   have hse:=(ht.end hrj).lt
   rcases Nat.eq_or_lt_of_le hij with h2 | h2
   ·rw[← h2,hru] at c1
    have:r=rj':=by
     simp only[Option.some.injEq] at c1
     omega
    subst this
    omega
   ·have h3:=hL.inc i x.n.toNat _ _ h2 hru c1
    rcases Nat.lt_or_ge rj' (AC l r) with h4 | h4
    ·obtain⟨w',hw',h5⟩:=Ph hs hy (by omega) rj' (by omega) h4
     rw[hw] at hw'
     cases hw'
     omega
    ·omega
  omega
section
variable {call:AS} {N:Nat} {h:AA}
theorem Ln {k:Int}:AY Tryz.prog call N 119 [iv k] h=some (iv (HK k),h):=by
 refine CO Tryz.func119 rfl (by simp[Tryz.f119]) ?_
 have hr:Tryz.f119.results.toList=[.tmp 2]:=rfl
 unfold HK
 by_cases h1:k=1
 ·have c1:(k==1)=true:=by simpa using h1
  rw[if_pos h1]
  simp only[eE,seval,↓eP,rP,hr,c1]
 have c1:(k==1)=false:=by simpa using h1
 rw[if_neg h1]
 by_cases h2:k=2
 ·have c2:(k==2)=true:=by simpa using h2
  rw[if_pos h2]
  simp only[eE,seval,↓eP,rP,hr,c1,c2]
 have c2:(k==2)=false:=by simpa using h2
 rw[if_neg h2]
 by_cases h3:k=3
 ·have c3:(k==3)=true:=by simpa using h3
  rw[if_pos h3]
  simp only[eE,seval,↓eP,rP,hr,c1,c2,c3]
 have c3:(k==3)=false:=by simpa using h3
 rw[if_neg h3]
 simp only[eE,seval,↓eP,rP,hr,c1,c2,c3]
theorem yD {k:Int}:AY Tryz.prog call N 73 [iv k] h=some (iv (HK k),h):=by
 refine CO Tryz.func73 rfl (by simp[Tryz.f73]) ?_
 have hr:Tryz.f73.results.toList=[.tmp 2]:=rfl
 unfold HK
 by_cases h1:k=1
 ·have c1:(k==1)=true:=by simpa using h1
  rw[if_pos h1]
  simp only[eE,seval,↓eP,rP,hr,c1]
 have c1:(k==1)=false:=by simpa using h1
 rw[if_neg h1]
 by_cases h2:k=2
 ·have c2:(k==2)=true:=by simpa using h2
  rw[if_pos h2]
  simp only[eE,seval,↓eP,rP,hr,c1,c2]
 have c2:(k==2)=false:=by simpa using h2
 rw[if_neg h2]
 by_cases h3:k=3
 ·have c3:(k==3)=true:=by simpa using h3
  rw[if_pos h3]
  simp only[eE,seval,↓eP,rP,hr,c1,c2,c3]
 have c3:(k==3)=false:=by simpa using h3
 rw[if_neg h3]
 simp only[eE,seval,↓eP,rP,hr,c1,c2,c3]
end
theorem Ci (k:Int) (h:AA):L1 119 [iv k] h=some (iv (HK k),h):=FE (GY rfl rfl) rfl rfl rfl ⟨_,Ln⟩
theorem Bx (k:Int) (h:AA):L1 73 [iv k] h=some (iv (HK k),h):=FE (GY rfl rfl) rfl rfl rfl ⟨_,yD⟩
theorem zN (k:Int) (h:AA) (hk:1≤k∧k≤54):L0 80 [iv k] h=some (iv (BZ k),h):=FE rfl rfl rfl rfl (JD yB hk)
theorem Ia (k:Int) (h:AA) (hk:1≤k∧k≤54):L0 82 [iv k] h=some (iv (EC k),h):=FE rfl rfl rfl rfl (JD Hw hk)
theorem jA (k:Int) (h:AA) (hk:1≤k∧k≤54):L0 84 [iv k] h=some (.bool (E8 k),h):=FE rfl rfl rfl rfl (JD Rl hk)
section
variable {n lo m e r k:Nat} {h:AA} {nm:ByteArray} {E:List Int} {s:AM}
theorem tA {y:ByteArray} {tag:Nat→Nat} {V:Nat→Value} {C:List Int} (hp:CQ h lo m e r k nm E tag V C s) (hth:s.things.length<100000) (hn:100005<n):AK n 118 [qP m 0,.string y] h=some (iv (MA s.things y 0),h):=by
 obtain⟨n,rfl⟩:=B8 hn
 exact D4 (BD ⟨rfl,rfl,rfl⟩) rfl (Kt hp (by omega) (by omega))
theorem Au {at_:Nat} {end_:Int} {x:AB} (hp:F_ h lo m e r k nm E s) (hx:s.rows[at_]?=some x) (hd:BZ x.kind≠0) (hat:at_<1099511627776) (hE:E[at_]?=some end_) (he:0≤end_) (hth:s.things.length<100000) (hn:100010<n) :
  ∃ h',AK n 81 [qP m 0,iv at_,iv (BZ x.kind)] h=some (iv (EH x s),h')∧(GB h h' lo∧(EH x s=0→F_ h' lo m e r k nm E (BR at_ end_ x s))):=by
 obtain⟨n,rfl⟩:=B8 hn
 exact OM (BD ⟨rfl,rfl,rfl⟩) (Ai hp hx hd hat hE he hth (by omega) (fun y H tag V C hp'=>tA hp' hth (by omega)) fun k h'=>GP (Ci k h'))
theorem Ji {at_:Nat} {x:AB} (hp:F_ h lo m e r k nm E s) (hx:s.rows[at_]?=some x) (hd:EC x.kind≠0) (hat:at_<1099511627776) (hth:s.things.length<100000) (hn:100010<n) :
  ∃ h',AK n 83 [qP m 0,iv at_,iv (EC x.kind)] h=some (iv (DB at_ x s),h')∧(GB h h' lo∧(DB at_ x s=0→F_ h' lo m e r k nm E (CF at_ x s))):=by
 obtain⟨n,rfl⟩:=B8 hn
 exact OM (BD ⟨rfl,rfl,rfl⟩) (Va hp hx hd hat fun y H tag V C hp'=>tA hp' hth (by omega))
theorem Bn {at_:Nat} {x:AB} (hp:F_ h lo m e r k nm E s) (hx:s.rows[at_]?=some x) (hev:E8 x.kind=true) (hat:at_<1099511627776) (hxn:x.kind≠10→0≤x.n∧x.n<s.on.length) (hn:0<n) :
  ∃ h',AK n 85 [qP m 0,iv at_] h=some (iv (DQ x s),h')∧(GB h h' lo∧(DQ x s=0→F_ h' lo m e r k nm E (D3 at_ x s))):=by
 obtain⟨n,rfl⟩:=B8 hn
 exact OM (BD ⟨rfl,rfl,rfl⟩) (Hk hp hx hev hat hxn)
end
section
variable {n:Nat} {h:AA} {rows:List AB} {E rules:List Int} {vr v0 vq vv vt vu vo v7 ve:Value}
theorem vJ {S:List Int} {row le ls:Nat} {vs:Value} (hone:one v0=true∧one vq=true∧one vv=true∧one vt=true∧one vu=true∧one vo=true∧one v7=true) (hv:AQ h vr rows) (he:AW le h ve E) (hS:AW ls h vs S) (hs:JU S) (hL:PJ rows E rules) (hrow:row<rows.length) (hn:rows.length+8<n)
  (hcalls:∀ x∈blk rows E row,x.kind=22→0≤x.n∧x.n<S.length):AK n 88 [.agg #[v0,vr,vq,vv,vt,vu,vo,v7],ve,vs,iv (row:Int)] h=some (iv (FY rows E S row),h):=by
 obtain⟨n,rfl⟩:=B8 hn
 obtain⟨q,q1,q2,q3,q4⟩:=hL.end hrow
 have hc:FY rows E S row=HE S ((rows.drop row).take (q-row)) 0:=by unfold FY;rw[q1];rfl
 rw[hc]
 rw[q4] at hcalls
 exact HB (BD ⟨rfl,rfl,rfl⟩) rfl (Qd hone hv he hS hs q1 q2 q3 (by have:=hL.len;omega) (by omega) hcalls fun a b h' hb ha=>GP (mQ h' hb ha))
theorem Mc {le lu:Nat} (hone:one v0=true∧one vq=true∧one vv=true∧one vt=true∧one vo=true∧one v7=true) (hv:AQ h vr rows) (he:AW le h ve E) (hu:AW lu h vu rules) (hL:VJ rows E rules) (hfl:h.floor≤h.next) (hn:rows.length+rules.length+12<n) :
  ∃ v h',AK n 86 [.agg #[v0,vr,vq,vv,vt,vu,vo,v7],ve] h=some (v,h')∧(AW h.next h' v (K3 rows E rules [])∧h'.floor=h.floor∧h.next≤h'.next∧∀ i,i<h.next→h'.get i=h.get i):=by
 obtain⟨n,rfl⟩:=B8 hn
 refine MG (BD ⟨rfl,rfl,rfl⟩) (Jc hone hv he hu hL hfl (by omega) fun vs S row H ho hnx hS hSS hrow hc=>?_) fun v h1 hf ho ⟨h2,_,_,_⟩=>⟨?_,rfl,Nat.le_refl _,fun _ _=>rfl⟩
 ·obtain⟨a,b,c,d,e,f⟩:=hone
  exact vJ ⟨a,b,c,d,AN.one hu,e,f⟩ (hv.mono hnx ho) (he.mono hnx fun i _ hi=>ho i hi) hS hSS hL.lay hrow (by omega) hc
 ·obtain⟨hl,a,c,rfl,⟨h0,rfl⟩ | ⟨id,off,row,ty,g,ro,rfl,g1,g2,g3⟩⟩:=h2
  ·exact⟨hl,_,_,rfl,.inl ⟨h0,rfl⟩⟩
  ·have:E9 (.slice (some ⟨id,off,none⟩) (K3 rows E rules []).length c)=false:=rfl
   rw[this] at hf
   cases hf
end
def sZ:AM:=⟨[],[],[],[],[],[],0,[]⟩
def MQ (l:List AB):ByteArray:=match l[0]? with
 | some x=>x.name
 | none=>ByteArray.empty
noncomputable def DU (l:List AB):ByteArray × AM:=if (CV l).1.1≠0 then (ByteArray.empty,sZ) else (MQ l,(CV l).2)
abbrev RP:Value:=.agg #[.string ByteArray.empty,Z0,Z0,Z0,Z0,Z0,Z0,iv 0]
theorem k_ (lo:Nat) (h:AA):BP lo h RP ByteArray.empty sZ:=
 ⟨_,_,_,_,_,_,rfl,IN.of (AN.nil lo h 5),AN.nil lo h 2,AN.nil lo h 1,AN.nil lo h 1,AN.nil lo h 1,AN.nil lo h 1⟩
theorem JN {t:TypeId} {k:Nat} (ht:BM Tryz.prog t=some k) {h:AA} {id:Nat} {vs cs:List Value} {ty:TypeId} {g:Bool} (hg:h.get id=.row cs ty g false) (hl:cs.length=k) (hn:vs.length=k) (ho:vs.all one=true) (hf:h.floor≤id) :
  BB Tryz.prog h t (qP id 0) (.agg vs.toArray)=some (h.put id (.row vs ty g false)):=by
 have hc:(Value.agg vs.toArray).cells=vs.toArray:=rfl
 have hlay:Go.Sx.lay cs 0 vs=vs:=by
  simp only[Go.Sx.lay,List.take_zero,List.nil_append,Nat.zero_add]
  rw[List.drop_of_length_le (by omega),List.append_nil]
 simp only[BB,hc,ht,GZ,hg]
 rw[if_pos (by simp[hn]),if_pos (by simp only[ho];simp;omega),hlay]
theorem N3:DX Tryz.prog 27=some RP:=Jh
theorem NS:flat RP=true:=rfl
theorem YM:IC Tryz.prog (match Tryz.prog.underlying 27 with | some (.struct fs)=>fs.toList | _=>[])=some [(0,1),(1,1),(2,1),(3,1),(4,1),(5,1),(6,1),(7,1)]:=by kernel_rfl
theorem RC:DM Tryz.prog 27 []=some RP:=by
 have h:=YM
 rw[Tryz.underlying27] at h
 simp only at h
 simp only[DM,N3,NS,if_true,Tryz.underlying27,h]
 rfl
theorem Bu {nm:ByteArray} {m:Int}:DM Tryz.prog 27 [(0,.string nm),(7,iv m)]=some (.agg #[.string nm,Z0,Z0,Z0,Z0,Z0,Z0,iv m]):=by
 have h:=YM
 rw[Tryz.underlying27] at h
 simp only at h
 simp only[DM,N3,NS,if_true,Tryz.underlying27,h]
 rfl
theorem Ey:IC Tryz.prog (match Tryz.prog.underlying 120 with | some (.struct fs)=>fs.toList | _=>[])=some [(0,8),(8,1),(9,1),(10,5)]:=by kernel_rfl
theorem Ma:DX Tryz.prog 120=some (.agg #[.string ByteArray.empty,Z0,Z0,Z0,Z0,Z0,Z0,iv 0,Z0,Z0,iv 0,iv 0,iv 0,iv 0,iv 0]):=by kernel_rfl
abbrev f_ (nm:ByteArray) (m:Int) (e k:Nat):Value:=.agg #[.string nm,Z0,Z0,Z0,Z0,Z0,Z0,iv m,qS e k k,Z0,iv 0,iv 0,iv 0,iv 0,iv 0]
theorem Hm {nm:ByteArray} {m:Int} {e k:Nat}:DM Tryz.prog 120 [(0,.agg #[.string nm,Z0,Z0,Z0,Z0,Z0,Z0,iv m]),(1,qS e k k)]=some (f_ nm m e k):=by
 have h:=Ey
 rw[Tryz.underlying120] at h
 simp only at h
 have hf:flat (.agg #[.string ByteArray.empty,Z0,Z0,Z0,Z0,Z0,Z0,iv 0,Z0,Z0,iv 0,iv 0,iv 0,iv 0,iv 0])=true:=rfl
 simp only[DM,Ma,hf,if_true,Tryz.underlying120,h]
 rfl
theorem Ez:BM Tryz.prog 30=some 1:=by kernel_rfl
theorem zC:FW Tryz.prog 30=some false:=by kernel_rfl
theorem FG {h:AA} {id off:Nat}:EW Tryz.prog h 30 (qP id off)=AH off (h.get id):=LT zC
theorem FH {id off:Nat}:BE Tryz.prog 32 (qP id off) 0=some (qP id off):=by simp[BE,Tryz.underlying32,Ez,CN]
theorem Vw {h:AA} {l:List AB} {v:Value} (hv:AQ h v l) (hne:0<l.length) (hlen:l.length<1099511627) :
  D9 Tryz.prog h 22 (Z0) v=some (qS h.next l.length AO,h.push (.row (l.flatMap AV) 60 true false)):=by
 have hsrc:=hv.src
 obtain⟨a,c,rfl,h1⟩:=hv
 have hzs:(Value.agg #[.int .i64 0,.string ByteArray.empty,.int .i64 0,.int .i64 0,.int .i64 0]).cells.size=5:=rfl
 have hu:(0:Nat)≠AO:=by unfold AO;omega
 have e1:¬ (l.length≤0):=by omega
 have e2:l.length*48≤140737488355328:=by omega
 have e3:l.length≤140737488355328:=by omega
 have h0:EU h 5 0 (Z0)=some []:=rfl
 simp only[D9,Tryz.underlying22,FN,TE,E1,hzs,hsrc,UU,hu,h0,e1,e2,e3,decide_true,beq_self_eq_true,Bool.and_self,if_true,if_false,Nat.le_refl,Nat.zero_add,Nat.zero_mul,Nat.zero_le,List.nil_append,show (0<5)=True by simp]
noncomputable def Z3:Code:=rt (rt (rt (Tryz.f61.body.getD .skip)))
noncomputable def Lo:Code:=rt Z3
noncomputable def WT:Code:=rt Lo
noncomputable def ZR:Code:=rt WT
def iV:List (Bool × Bool × List Operand):=[A7,AP,AI [.tmp 4],AP]
def fT:List (Bool × Bool × List Operand):=[(true,false,[]),(true,false,[]),(true,false,[]),(true,false,[]),(true,false,[]),AI [.tmp 21],AI [.tmp 21],AP,AP,AP]
def E_ (a:Nat) (H:AA) (pcs:List Value) (e p:Int):Prop:=H.get a=.row pcs 27 false false∧H.get (a+1)=.row [iv e,iv p] 32 false false
section
variable {N:Nat} {call:AS}
theorem Le (hsn:CK call) {l:List AB} {v:Value} {h:AA} {K:B_} (hfl:h.floor≤h.next) (hv:AQ h v l)
  (hchk:∀ H,AQ H v l→H.floor≤H.next→call 78 [v] H=some (CI (BQ l).1 (BQ l).2,H))
  (hk1:(BQ l).1≠0→∀ T' H,T'.get 2=qP h.next 0→T'.get 3=qP (h.next+1) 0→E_ h.next H BY (BQ l).1 (BQ l).2 →
   h.next+2≤H.next→H.floor=h.floor→(∀ i,i<h.next→H.get i=h.get i)→K.ap Tryz.prog call N .ret ⟨T',H⟩)
  (hk2:(BQ l).1=0→∀ T' H,T'.get 0=v→T'.get 2=qP h.next 0→T'.get 3=qP (h.next+1) 0→E_ h.next H BY 0 0 →
   h.next+2≤H.next→H.floor=h.floor→(∀ i,i<h.next→H.get i=h.get i)→WK Tryz.prog call N Z3 ⟨T',H⟩ K) :
  WK Tryz.prog call N (Tryz.f61.body.getD .skip) ⟨I_ 0 [v] .leaf,h⟩ K:=by
 show WK _ _ _ (.seq _ (.seq _ (.seq _ Z3))) _ _
 have O9:=DV BY
 have ho2:∀ i,i<h.next→((h.push (.row BY 27 false false)).push (.row [iv 0,iv 0] 32 false false)).get i=h.get i:=fun i hi=>by rw[AU (by show i<h.next+1;omega),AU hi]
 have hc:=hchk ((h.push (.row BY 27 false false)).push (.row [iv 0,iv 0] 32 false false)) (hv.mono (by show h.next≤h.next+1+1;omega) ho2) (by show h.floor≤h.next+1+1;omega)
 have ga:=NH (h:=h) (o:=.row BY 27 false false) (o':=.row [iv 0,iv 0] 32 false false)
 have gb:=NC (h:=h) (o:=.row BY 27 false false) (o':=.row [iv 0,iv 0] 32 false false)
 simp only[eE,seval,↓eP,C2,CW,C6,N3,NS,O9,EN,EO,FZ]
 generalize hH2:(h.push (.row BY 27 false false)).push (.row [iv 0,iv 0] 32 false false)=H2 at *
 have hn2:H2.next=h.next+1+1:=by rw[← hH2];rfl
 have hf2:H2.floor=h.floor:=by rw[← hH2];rfl
 have sF:=JN (t:=32) JP (h:=H2.push (.row [iv 0,iv 0] 32 false false)) (vs:=[iv (BQ l).1,iv (BQ l).2]) BX rfl rfl rfl (by show H2.floor≤H2.next;omega)
 simp only[eE,seval,↓eP,C2,CW,C6,hc,EN,EO,FZ,sF]
 have hg4:((H2.push (.row [iv 0,iv 0] 32 false false)).put H2.next (.row [iv (BQ l).1,iv (BQ l).2] 32 false false)).get H2.next=.row [iv (BQ l).1,iv (BQ l).2] 32 false false:=BL rfl (by show H2.next<H2.next+1;omega)
 have hga:((H2.push (.row [iv 0,iv 0] 32 false false)).put H2.next (.row [iv (BQ l).1,iv (BQ l).2] 32 false false)).get h.next=.row BY 27 false false:=by
  rw[AR (by show H2.next<H2.next+1;omega) (by omega),AU (by omega)];exact ga
 have hgb:((H2.push (.row [iv 0,iv 0] 32 false false)).put H2.next (.row [iv (BQ l).1,iv (BQ l).2] 32 false false)).get (h.next+1)=.row [iv 0,iv 0] 32 false false:=by
  rw[AR (by show H2.next<H2.next+1;omega) (by omega),AU (by omega)];exact gb
 have hgo:∀ i,i<h.next→((H2.push (.row [iv 0,iv 0] 32 false false)).put H2.next (.row [iv (BQ l).1,iv (BQ l).2] 32 false false)).get i=h.get i:=fun i hi=>by
  rw[AR (by show H2.next<H2.next+1;omega) (by omega),AU (by omega)];exact ho2 i hi
 have hn3:((H2.push (.row [iv 0,iv 0] 32 false false)).put H2.next (.row [iv (BQ l).1,iv (BQ l).2] 32 false false)).next=h.next+3:=by show H2.next+1=_;omega
 have hf3:((H2.push (.row [iv 0,iv 0] 32 false false)).put H2.next (.row [iv (BQ l).1,iv (BQ l).2] 32 false false)).floor=h.floor:=hf2
 generalize (H2.push (.row [iv 0,iv 0] 32 false false)).put H2.next (.row [iv (BQ l).1,iv (BQ l).2] 32 false false)=H3 at *
 have l4:AH 0 (H3.get H2.next)=some (iv (BQ l).1):=by rw[hg4];rfl
 cases d:((BQ l).1 != 0) with
 | false=>
  have e0:(BQ l).1=0:=by simpa using d
  simp only[eE,seval,↓eP,C2,FI,CW,C6,FH,FG,l4,d]
  refine hk2 e0 _ _ ?_ ?_ ?_ ⟨hga,hgb⟩ (by omega) hf3 hgo <;> simp only[eE,seval,↓eP,rP]
 | true=>
  have e0:(BQ l).1≠0:=by simpa using d
  have l42:A_ 2 0 (H3.get H2.next)=some (CI (BQ l).1 (BQ l).2):=by rw[hg4];rfl
  have sP:=JN FM (vs:=BY) hga rfl rfl rfl (by omega)
  have hgb':=(AR (h:=H3) (i:=h.next) (j:=h.next+1) (o:=.row BY 27 false false) (by omega) (by omega)).trans hgb
  have sF2:=JN (t:=32) JP (vs:=[iv (BQ l).1,iv (BQ l).2]) hgb' rfl rfl rfl (by show H3.floor≤_;omega)
  have n1:(some H2.next != some h.next)=true:=by simp;omega
  have i1:DD (qP H2.next 0)=some H2.next:=rfl
  have i2:DD (qP h.next 0)=some h.next:=rfl
  simp only[eE,seval,↓eP,C2,FI,CW,C6,FH,FG,l4,d]
  refine WK.flags (fs:=iV) (by kernel_rfl) ?_
  unfold iV
  iterate 4
   refine DI hsn ?_
   simp only[rG,seval,AD,AF,AE,CT,DC,CM,C4,DJ,List.map_nil,RC,CR,l42,i1,i2,n1,sP,sF2]
  refine DH ?_
  simp only[eE,seval,↓eP,C2,FI,CW,C6]
  have ha:∀ i,i≠h.next→(H3.put h.next (.row BY 27 false false)).get i=H3.get i:=fun i hi=>AR (by omega) (Ne.symm hi)
  refine hk1 e0 _ _ ?_ ?_ ⟨?_,BL rfl (by show h.next+1<H3.next;omega)⟩ (by show h.next+2≤H3.next;omega) hf3 fun i hi=>?_
  ·simp only[eE,seval,↓eP,rP]
  ·simp only[eE,seval,↓eP,rP]
  ·rw[AR (by show h.next+1<H3.next;omega) (by omega)]
   exact BL rfl (by omega)
  ·rw[AR (by show h.next+1<H3.next;omega) (by omega),ha i (by omega)]
   exact hgo i hi
theorem Ky (hsn:CK call) {l:List AB} {v:Value} {T:Tr} {H:AA} {K:B_} (ht:CU l) (hlen:l.length<900000000) (hfl:H.floor≤H.next) (hv:AQ H v l) (t0:T.get 0=v)
  (hends:∀ H,AQ H v l→H.floor≤H.next→∃ h',call 79 [v] H=some (qS H.next l.length l.length,h')∧(h'.get H.next=.row (ints (AX l)) 3 false false∧h'.next=H.next+1∧h'.floor=H.floor∧∀ i,i<H.next→h'.get i=H.get i))
  (hk:∀ T' H' m e r,T'.get 0=v→T'.get 2=T.get 2→T'.get 3=T.get 3→T'.get 5=qP m 0→F_ H' H.next m e r l.length (MQ l) (AX l) (CD l)→H.next≤H'.next→H'.floor=H.floor→(∀ i,i<H.next→H'.get i=H.get i)→WK Tryz.prog call N WT ⟨T',H'⟩ K) :
  WK Tryz.prog call N Z3 ⟨T,H⟩ K:=by
 show WK _ _ _ (.seq (.region _ _ true) (.seq _ WT)) _ _
 rw[KA]
 have hpos:=ht.pos
 obtain⟨x,hx⟩:∃ x,l[0]?=some x:=⟨_,List.getElem?_eq_getElem hpos⟩
 obtain⟨id,q,e0,hid,l0,l1,l2,l3,l4,lr⟩:=hv.row hx
 have hvf:AQ (H.fl (max H.floor H.next)) v l:=hv.mono (Nat.le_refl _) fun _ _=>rfl
 obtain⟨h3,hE,g1,g2,g3,g4⟩:=hends (H.fl (max H.floor H.next)) hvf (by show max H.floor H.next≤H.next;omega)
 simp only[NA] at hE g1 g2 g4
 have g3':h3.floor=max H.floor H.next:=g3
 have g4':∀ i,i<H.next→h3.get i=H.get i:=g4
 have hnm:MQ l=x.name:=by unfold MQ;rw[hx]
 have e0':CB Tryz.prog 22 v (iv 0)=some (qP id q):=e0
 have hidT:(id<H.next)=True:=by simp[hid]
 have hone:(f_ x.name (-1) H.next l.length).cells.toList.all one=true:=rfl
 have hcl:(f_ x.name (-1) H.next l.length).cells.toList=[.string x.name,Z0,Z0,Z0,Z0,Z0,Z0,iv (-1),qS H.next l.length l.length,Z0,iv 0,iv 0,iv 0,iv 0,iv 0]:=rfl
 refine WK.flags (fs:=fT) (by kernel_rfl) ?_
 unfold fT
 iterate 10
  refine DI hsn ?_
  simp only[rG,seval,AD,AF,AE,CT,DC,CM,C4,DJ,t0,e0',MU,hidT,FU,l1,List.map_cons,List.map_nil,Bu,hE,Hm,hcl,Jx]
 refine DH ?_
 have hn4:((h3.fl H.floor).push (.row [.string x.name,Z0,Z0,Z0,Z0,Z0,Z0,iv (-1),qS H.next l.length l.length,Z0,iv 0,iv 0,iv 0,iv 0,iv 0] 120 false false)).next=H.next+1+1:=by show h3.next+1=_;omega
 have hf4:((h3.fl H.floor).push (.row [.string x.name,Z0,Z0,Z0,Z0,Z0,Z0,iv (-1),qS H.next l.length l.length,Z0,iv 0,iv 0,iv 0,iv 0,iv 0] 120 false false)).floor=H.floor:=rfl
 have gm:((h3.fl H.floor).push (.row [.string x.name,Z0,Z0,Z0,Z0,Z0,Z0,iv (-1),qS H.next l.length l.length,Z0,iv 0,iv 0,iv 0,iv 0,iv 0] 120 false false)).get h3.next=.row [.string x.name,Z0,Z0,Z0,Z0,Z0,Z0,iv (-1),qS H.next l.length l.length,Z0,iv 0,iv 0,iv 0,iv 0,iv 0] 120 false false:=BX (h:=h3.fl H.floor)
 have ge:((h3.fl H.floor).push (.row [.string x.name,Z0,Z0,Z0,Z0,Z0,Z0,iv (-1),qS H.next l.length l.length,Z0,iv 0,iv 0,iv 0,iv 0,iv 0] 120 false false)).get H.next=.row (ints (AX l)) 3 false false:=by rw[AU (by show H.next<h3.next;omega)];exact g1
 have go:∀ i,i<H.next→((h3.fl H.floor).push (.row [.string x.name,Z0,Z0,Z0,Z0,Z0,Z0,iv (-1),qS H.next l.length l.length,Z0,iv 0,iv 0,iv 0,iv 0,iv 0] 120 false false)).get i=H.get i:=fun i hi=>by rw[AU (by show i<h3.next;omega)];exact g4' i hi
 generalize (h3.fl H.floor).push (.row [.string x.name,Z0,Z0,Z0,Z0,Z0,Z0,iv (-1),qS H.next l.length l.length,Z0,iv 0,iv 0,iv 0,iv 0,iv 0] 120 false false)=H4 at *
 have hv4:AQ H4 v l:=hv.mono (by omega) go
 have hap:=Vw hv4 hpos (by omega)
 have hm1:AH 1 (H4.get h3.next)=some (Z0):=by rw[gm];rfl
 have gm5:(H4.push (.row (l.flatMap AV) 60 true false)).get h3.next=.row [.string x.name,Z0,Z0,Z0,Z0,Z0,Z0,iv (-1),qS H.next l.length l.length,Z0,iv 0,iv 0,iv 0,iv 0,iv 0] 120 false false:=by rw[AU (by omega)];exact gm
 have hst:=GM (t:=22) (off:=1) bA (v:=qS H4.next l.length AO) rfl rfl gm5 (by simp) (by show H4.floor≤_;omega)
 have hfx:H4.fl (h3.fl H.floor).floor=H4:=by
  show H4.fl H.floor=H4
  rw[← hf4]
  exact HX H4
 simp only[eE,seval,↓eP,C2,FI,CW,C6,hfx,NA,t0,IG,BN,BO,hm1,hap,hst]
 have gput:∀ (o:BF) (i:Nat),i≠h3.next→((H4.push (.row (l.flatMap AV) 60 true false)).put h3.next o).get i=(H4.push (.row (l.flatMap AV) 60 true false)).get i:=fun o i hi=>AR (by show h3.next<H4.next+1;omega) (Ne.symm hi)
 refine hk _ _ h3.next H.next H4.next ?_ ?_ ?_ ?_ ⟨fun i=>if i=h3.next then 0 else if i=H4.next then 1 else if i=H.next then 10 else 11,fun _=>Z0,?_,⟨by simp[CD],by simp[CD],by simp[CD],by simp[CD],rfl,fun t ht=>by cases ht⟩⟩ ?_ (by show H4.floor=H.floor;exact hf4) fun i hi=>?_
 ·simp only[eE,seval,↓eP,rP,t0]
 ·simp only[eE,seval,↓eP,rP]
 ·simp only[eE,seval,↓eP,rP]
 ·simp only[eE,seval,↓eP,rP]
 ·exact
   { cell:=by
      rw[BL rfl (by show h3.next<H4.next+1;omega),hnm]
      simp only[GN,PR]
      rfl
     rows:=by rw[gput _ _ (by omega)];exact BX
     len:=rfl
     sl:=fun j h2 h8=>by
      have hj:j=2∨j=3∨j=4∨j=5∨j=6∨j=7∨j=8:=by omega
      rcases hj with rfl | rfl | rfl | rfl | rfl | rfl | rfl <;> exact .inl ⟨rfl,rfl,rfl⟩
     ends:=by rw[gput _ _ (by omega),AU (by omega)];exact ge
     tm:=if_pos rfl
     tr:=by rw[if_neg (by omega),if_pos rfl]
     te:=by rw[if_neg (by omega),if_neg (by omega),if_pos rfl]
     lm:=⟨by omega,by show h3.next<H4.next+1;omega⟩
     lr:=⟨by omega,by show H4.next<H4.next+1;omega⟩
     le:=⟨Nat.le_refl _,by show H.next<H4.next+1;omega⟩
     fl:=by show H4.floor≤H.next;omega }
 ·show H.next≤H4.next+1
  omega
 ·rw[gput _ _ (by omega),AU (by omega)];exact go i hi
end
noncomputable def XM:Code:=rt (rt (Tryz.f22.body.getD .skip))
noncomputable def yT:Code:=rt XM
noncomputable def Ft:Code:=rt yT
noncomputable def Sc:Code:=rt Ft
noncomputable def Y7:Code:=rt Sc
noncomputable def WZ:Code:=rt Y7
noncomputable def mJ:Array Oper:=C9 Tryz.f22 3
def Uv:List (Bool × Bool × List Operand):=[A7,AP,AI [.tmp 4],AP]
theorem Uo:C8 mJ=Uv:=by kernel_rfl
noncomputable def nY:Array Oper:=C9 Tryz.f22 5
def Hu:List (Bool × Bool × List Operand):=[HT,F5 [.tmp 5],F5 [.tmp 5],F5 [.tmp 5],F5 [.tmp 5],AI [.tmp 5,.tmp 27],AI [.tmp 5,.tmp 27],AI [.tmp 5],AP,AP,AP]
theorem Qj:C8 nY=Hu:=by kernel_rfl
theorem Hy {t:TypeId} {k:Nat} (ht:BM Tryz.prog t=some k) {h:AA} {id:Nat} {vs cs:List Value} {ty:TypeId} {g:Bool} (hg:h.get id=.row cs ty g false) (hl:k≤cs.length) (hn:vs.length=k) (ho:vs.all one=true) (hf:h.floor≤id) :
  BB Tryz.prog h t (qP id 0) (.agg vs.toArray)=some (h.put id (.row (vs++cs.drop k) ty g false)):=by
 have hc:(Value.agg vs.toArray).cells=vs.toArray:=rfl
 have hlay:Go.Sx.lay cs 0 vs=vs++cs.drop k:=by
  simp only[Go.Sx.lay,List.take_zero,List.nil_append,Nat.zero_add,hn]
 simp only[BB,hc,ht,GZ,hg]
 rw[if_pos (by simp[hn]),if_pos (by simp only[ho];simp;omega),hlay]
theorem Vm {nm:ByteArray} {a:Option Addr} {n c:Nat} {m:Int}:DM Tryz.prog 27 [(0,.string nm),(1,.slice a n c),(7,iv m)]=some (.agg #[.string nm,.slice a n c,Z0,Z0,Z0,Z0,Z0,iv m]):=by
 have h:=YM
 rw[Tryz.underlying27] at h
 simp only at h
 simp only[DM,N3,NS,if_true,Tryz.underlying27,h]
 rfl
theorem Bc:IC Tryz.prog (match Tryz.prog.underlying 90 with | some (.struct fs)=>fs.toList | _=>[])=some [(0,8),(8,1),(9,1)]:=by kernel_rfl
theorem Ip:DX Tryz.prog 90=some (.agg #[.string ByteArray.empty,Z0,Z0,Z0,Z0,Z0,Z0,iv 0,.map none,.map none]):=by kernel_rfl
abbrev rN (k c:Nat):Value:=.agg #[.string ByteArray.empty,Z0,Z0,Z0,Z0,Z0,Z0,iv 0,.map (some k),.map (some c)]
theorem Po {k c:Nat}:DM Tryz.prog 90 [(1,.map (some k)),(2,.map (some c))]=some (rN k c):=by
 have h:=Bc
 rw[Tryz.underlying90] at h
 simp only at h
 have hf:flat (.agg #[.string ByteArray.empty,Z0,Z0,Z0,Z0,Z0,Z0,iv 0,.map none,.map none])=true:=rfl
 simp only[DM,Ip,hf,if_true,Tryz.underlying90,h]
 rfl
theorem sE:BM Tryz.prog 94=some 1:=by kernel_rfl
theorem Ly:FW Tryz.prog 94=some false:=by kernel_rfl
theorem Cd:DX Tryz.prog 94=some .nilFunc:=by kernel_rfl
theorem Ch:DX Tryz.prog 86=some (.pointer none):=by kernel_rfl
theorem Qx:DX Tryz.prog 25=some (Z0):=by kernel_rfl
theorem rJ {h:AA} {id off:Nat}:EW Tryz.prog h 94 (qP id off)=AH off (h.get id):=LT Ly
theorem Ix {h:AA} {f0 f1 f2:FuncId} {a0 a1 a2 b0 b1 b2:Array Value}:GD Tryz.prog h 95 3 [(0,.func (.func f0) a0 b0),(1,.func (.func f1) a1 b1),(2,.func (.func f2) a2 b2)]=some (qS h.next 3 3,h.push (.row [.func (.func f0) a0 b0,.func (.func f1) a1 b1,.func (.func f2) a2 b2] 94 false false)):=by
 have hc:∀ (f:FuncId) (a b:Array Value),(Value.func (.func f) a b).cells=#[.func (.func f) a b]:=fun _ _ _=>rfl
 have hz:Value.nilFunc.cells=#[.nilFunc]:=rfl
 simp[GD,Tryz.underlying95,sE,Cd,flat,BS,hc,hz,JX,B0,Go.Sx.lay]
theorem Tl {h:AA} {id c i:Nat} (hi:i<3):CB Tryz.prog 95 (qS id 3 c) (iv (i:Int))=some (qP id i):=by
 simp only[CB,Tryz.underlying95,sE,CN]
 rw[if_pos (by omega)]
 simp
theorem Js {h:AA} {a:Option Addr} {n c:Nat}:CY Tryz.prog h 95 (.slice a n c)=some (iv (n:Int)):=by simp[CY,Tryz.underlying95]
section
variable {N:Nat} {call:AS}
theorem Vh (hsn:CK call) {l:List AB} {v:Value} {h:AA} {K:B_} (hfl:h.floor≤h.next) (hv:AQ h v l)
  (hg:h.get 0=EA) (hn0:0<h.next)
  (hchk:∀ H,AQ H v l→H.get 0=EA→0<H.next→H.floor≤H.next→call 48 [v] H=some (CI (BQ l).1 (BQ l).2,H))
  (hk1:(BQ l).1≠0→∀ T' H,T'.get 2=qP h.next 0→T'.get 3=qP (h.next+1) 0→E_ h.next H BY (BQ l).1 (BQ l).2 →
   h.next+2≤H.next→H.floor=h.floor→(∀ i,i<h.next→H.get i=h.get i)→K.ap Tryz.prog call N .ret ⟨T',H⟩)
  (hk2:(BQ l).1=0→∀ T' H,T'.get 0=v→T'.get 2=qP h.next 0→T'.get 3=qP (h.next+1) 0→E_ h.next H BY 0 0 →
   h.next+2≤H.next→H.floor=h.floor→(∀ i,i<h.next→H.get i=h.get i)→WK Tryz.prog call N XM ⟨T',H⟩ K) :
  WK Tryz.prog call N (Tryz.f22.body.getD .skip) ⟨I_ 0 [v] .leaf,h⟩ K:=by
 show WK _ _ _ (.seq _ (.seq _ XM)) _ _
 have O9:=DV BY
 have ho2:∀ i,i<h.next→((h.push (.row BY 27 false false)).push (.row [iv 0,iv 0] 32 false false)).get i=h.get i:=fun i hi=>by rw[AU (by show i<h.next+1;omega),AU hi]
 have hc:=hchk ((h.push (.row BY 27 false false)).push (.row [iv 0,iv 0] 32 false false)) (hv.mono (by show h.next≤h.next+1+1;omega) ho2) ((ho2 0 hn0).trans hg) (by show 0<h.next+1+1;omega) (by show h.floor≤h.next+1+1;omega)
 have ga:=NH (h:=h) (o:=.row BY 27 false false) (o':=.row [iv 0,iv 0] 32 false false)
 have gb:=NC (h:=h) (o:=.row BY 27 false false) (o':=.row [iv 0,iv 0] 32 false false)
 simp only[eE,seval,↓eP,C2,CW,C6,N3,NS,O9,EN,EO,FZ]
 generalize hH2:(h.push (.row BY 27 false false)).push (.row [iv 0,iv 0] 32 false false)=H2 at *
 have hn2:H2.next=h.next+1+1:=by rw[← hH2];rfl
 have hf2:H2.floor=h.floor:=by rw[← hH2];rfl
 have sF:=JN (t:=32) JP (h:=H2.push (.row [iv 0,iv 0] 32 false false)) (vs:=[iv (BQ l).1,iv (BQ l).2]) BX rfl rfl rfl (by show H2.floor≤H2.next;omega)
 simp only[eE,seval,↓eP,C2,CW,C6,hc,EN,EO,FZ,sF]
 have hg4:((H2.push (.row [iv 0,iv 0] 32 false false)).put H2.next (.row [iv (BQ l).1,iv (BQ l).2] 32 false false)).get H2.next=.row [iv (BQ l).1,iv (BQ l).2] 32 false false:=BL rfl (by show H2.next<H2.next+1;omega)
 have hga:((H2.push (.row [iv 0,iv 0] 32 false false)).put H2.next (.row [iv (BQ l).1,iv (BQ l).2] 32 false false)).get h.next=.row BY 27 false false:=by
  rw[AR (by show H2.next<H2.next+1;omega) (by omega),AU (by omega)];exact ga
 have hgb:((H2.push (.row [iv 0,iv 0] 32 false false)).put H2.next (.row [iv (BQ l).1,iv (BQ l).2] 32 false false)).get (h.next+1)=.row [iv 0,iv 0] 32 false false:=by
  rw[AR (by show H2.next<H2.next+1;omega) (by omega),AU (by omega)];exact gb
 have hgo:∀ i,i<h.next→((H2.push (.row [iv 0,iv 0] 32 false false)).put H2.next (.row [iv (BQ l).1,iv (BQ l).2] 32 false false)).get i=h.get i:=fun i hi=>by
  rw[AR (by show H2.next<H2.next+1;omega) (by omega),AU (by omega)];exact ho2 i hi
 have hn3:((H2.push (.row [iv 0,iv 0] 32 false false)).put H2.next (.row [iv (BQ l).1,iv (BQ l).2] 32 false false)).next=h.next+3:=by show H2.next+1=_;omega
 have hf3:((H2.push (.row [iv 0,iv 0] 32 false false)).put H2.next (.row [iv (BQ l).1,iv (BQ l).2] 32 false false)).floor=h.floor:=hf2
 generalize (H2.push (.row [iv 0,iv 0] 32 false false)).put H2.next (.row [iv (BQ l).1,iv (BQ l).2] 32 false false)=H3 at *
 have l4:AH 0 (H3.get H2.next)=some (iv (BQ l).1):=by rw[hg4];rfl
 cases d:((BQ l).1 != 0) with
 | false=>
  have e0:(BQ l).1=0:=by simpa using d
  simp only[eE,seval,↓eP,C2,FI,CW,C6,FH,FG,l4,d]
  refine hk2 e0 _ _ ?_ ?_ ?_ ⟨hga,hgb⟩ (by omega) hf3 hgo <;> simp only[eE,seval,↓eP,rP]
 | true=>
  have e0:(BQ l).1≠0:=by simpa using d
  have l42:A_ 2 0 (H3.get H2.next)=some (CI (BQ l).1 (BQ l).2):=by rw[hg4];rfl
  have sP:=JN FM (vs:=BY) hga rfl rfl rfl (by omega)
  have hgb':=(AR (h:=H3) (i:=h.next) (j:=h.next+1) (o:=.row BY 27 false false) (by omega) (by omega)).trans hgb
  have sF2:=JN (t:=32) JP (vs:=[iv (BQ l).1,iv (BQ l).2]) hgb' rfl rfl rfl (by show H3.floor≤_;omega)
  have n1:(some H2.next != some h.next)=true:=by simp;omega
  have i1:DD (qP H2.next 0)=some H2.next:=rfl
  have i2:DD (qP h.next 0)=some h.next:=rfl
  simp only[eE,seval,↓eP,C2,FI,CW,C6,FH,FG,l4,d]
  refine WK.flags (ops:=mJ) Uo ?_
  refine DN.begin ?_
  refine AG hsn 0 (some 18) (.build 27 #[]) none ?_
  simp only[rG,seval,AD,AF,AE,List.map_nil,RC]
  refine AG hsn 1 (some 19) (.load 32 (.tmp 4)) none ?_
  simp only[rG,seval,AD,AF,AE,CT,CR,l42,i1]
  refine AG hsn 2 (none) (.store 27 (.tmp 2) (.tmp 18)) none ?_
  simp only[rG,seval,AD,AF,AE,CM,C4,i1,i2,n1,sP]
  refine AG hsn 3 (none) (.store 32 (.tmp 3) (.tmp 19)) none ?_
  simp only[rG,seval,AD,AF,AE,CM,C4,sF2]
  refine DN.done (i:=4) (by kernel_rfl) ?_
  simp only[eE,seval,↓eP,C2,FI,CW,C6]
  have ha:∀ i,i≠h.next→(H3.put h.next (.row BY 27 false false)).get i=H3.get i:=fun i hi=>AR (by omega) (Ne.symm hi)
  refine hk1 e0 _ _ ?_ ?_ ⟨?_,BL rfl (by show h.next+1<H3.next;omega)⟩ (by show h.next+2≤H3.next;omega) hf3 fun i hi=>?_
  ·simp only[eE,seval,↓eP,rP]
  ·simp only[eE,seval,↓eP,rP]
  ·rw[AR (by show h.next+1<H3.next;omega) (by omega)]
   exact BL rfl (by omega)
  ·rw[AR (by show h.next+1<H3.next;omega) (by omega),ha i (by omega)]
   exact hgo i hi
structure Z4 (h:AA) (m e c5 c6 fl n:Nat) (E:List Int):Prop where
 h5:h.get c5=.row [qP m 0] 86 false false
 h6:h.get c6=.row [qS e n n] 25 false false
 hf:h.get fl=.row [.func (.func 51) #[] #[qP c5 0,qP c6 0],.func (.func 53) #[qP m 0] #[],.func (.func 54) #[qP m 0] #[]] 94 false false
theorem Ti (hsn:CK call) {l:List AB} {v:Value} {T:Tr} {H:AA} {K:B_} (ht:CU l) (hlen:l.length<900000000) (hfl:H.floor≤H.next) (hv:AQ H v l) (t0:T.get 0=v)
  (hclone:∀ H,AQ H v l→∃ h',call 49 [v] H=some (qS (H.next+1) l.length AO,h')∧(h'.get (H.next+1)=.row (l.flatMap AV) 60 true false∧h'.next=H.next+2∧h'.floor=H.floor∧∀ i,i<H.next→h'.get i=H.get i))
  (hends:∀ H,AQ H v l→H.floor≤H.next→∃ h',call 50 [v] H=some (qS H.next l.length l.length,h')∧(h'.get H.next=.row (ints (AX l)) 3 false false∧h'.next=H.next+1∧h'.floor=H.floor∧∀ i,i<H.next→h'.get i=H.get i))
  (hk:∀ T' H' m k c e r c5 c6 fl,T'.get 0=v→T'.get 2=T.get 2→T'.get 3=T.get 3→T'.get 5=qP c5 0→T'.get 6=qP c6 0→T'.get 7=qS fl 3 3 →
   FF H' H.next m k c e r l.length (MQ l) (AX l) [c5,c6,fl] (CD l)→Z4 H' m e c5 c6 fl l.length (AX l)→H.next≤H'.next→H'.floor=H.floor→(∀ i,i<H.next→H'.get i=H.get i)→WK Tryz.prog call N Y7 ⟨T',H'⟩ K) :
  WK Tryz.prog call N XM ⟨T,H⟩ K:=by
 show WK _ _ _ (.seq _ (.seq (.region _ _ true) (.seq _ (.seq _ Y7)))) _ _
 have hpos:=ht.pos
 obtain⟨x,hx⟩:∃ x,l[0]?=some x:=⟨_,List.getElem?_eq_getElem hpos⟩
 have hnm:MQ l=x.name:=by unfold MQ;rw[hx]
 have mc:(rN H.next (H.next+1)).cells.toList=[.string ByteArray.empty,Z0,Z0,Z0,Z0,Z0,Z0,iv 0,.map (some H.next),.map (some (H.next+1))]:=rfl
 have mo:([.string ByteArray.empty,Z0,Z0,Z0,Z0,Z0,Z0,iv 0,.map (some H.next),.map (some (H.next+1))]:List Value).all one=true:=rfl
 have z79:(Value.pointer none).cells.toList=[.pointer none]:=rfl
 have f79:flat (.pointer none)=true:=rfl
 have hst:BB Tryz.prog ((((H.push (.map [])).push (.map [])).push (.row [.string ByteArray.empty,Z0,Z0,Z0,Z0,Z0,Z0,iv 0,.map (some H.next),.map (some (H.next+1))] 90 false false)).push (.row [.pointer none] 86 false false)) 86 (qP (H.next+1+1+1) 0) (qP (H.next+1+1) 0)=_:=
  GM (off:=0) Ps rfl rfl (BX (h:=(((H.push (.map [])).push (.map [])).push (.row [.string ByteArray.empty,Z0,Z0,Z0,Z0,Z0,Z0,iv 0,.map (some H.next),.map (some (H.next+1))] 90 false false)))) (by decide) (by show H.floor≤H.next+1+1+1;omega)
 simp only[eE,seval,↓eP,C2,CW,C6,Po,mc,mo,Ih,Ch,z79,f79,hst]
 have n1:(((H.push (.map [])).push (.map [])).push (.row [.string ByteArray.empty,Z0,Z0,Z0,Z0,Z0,Z0,iv 0,.map (some H.next),.map (some (H.next+1))] 90 false false)).next=H.next+1+1+1:=rfl
 have P0:∀ i,i<H.next→((((H.push (.map [])).push (.map [])).push (.row [.string ByteArray.empty,Z0,Z0,Z0,Z0,Z0,Z0,iv 0,.map (some H.next),.map (some (H.next+1))] 90 false false)).push (.row [.pointer none] 86 false false)).get i=H.get i:=fun i hi=>by
  rw[AU (by show i<H.next+1+1+1;omega),AU (by show i<H.next+1+1;omega),AU (by show i<H.next+1;omega),AU hi]
 have P1:((((H.push (.map [])).push (.map [])).push (.row [.string ByteArray.empty,Z0,Z0,Z0,Z0,Z0,Z0,iv 0,.map (some H.next),.map (some (H.next+1))] 90 false false)).push (.row [.pointer none] 86 false false)).get H.next=.map []:=by
  rw[AU (by show H.next<H.next+1+1+1;omega),AU (by show H.next<H.next+1+1;omega)];exact NH
 have P2:((((H.push (.map [])).push (.map [])).push (.row [.string ByteArray.empty,Z0,Z0,Z0,Z0,Z0,Z0,iv 0,.map (some H.next),.map (some (H.next+1))] 90 false false)).push (.row [.pointer none] 86 false false)).get (H.next+1)=.map []:=by
  rw[AU (by show H.next+1<H.next+1+1+1;omega),AU (by show H.next+1<H.next+1+1;omega)];exact NC
 have P3:((((H.push (.map [])).push (.map [])).push (.row [.string ByteArray.empty,Z0,Z0,Z0,Z0,Z0,Z0,iv 0,.map (some H.next),.map (some (H.next+1))] 90 false false)).push (.row [.pointer none] 86 false false)).get (H.next+1+1)=.row [.string ByteArray.empty,Z0,Z0,Z0,Z0,Z0,Z0,iv 0,.map (some H.next),.map (some (H.next+1))] 90 false false:=by
  rw[AU (by show H.next+1+1<H.next+1+1+1;omega)];exact BX (h:=(H.push (.map [])).push (.map []))
 have nA:((((H.push (.map [])).push (.map [])).push (.row [.string ByteArray.empty,Z0,Z0,Z0,Z0,Z0,Z0,iv 0,.map (some H.next),.map (some (H.next+1))] 90 false false)).push (.row [.pointer none] 86 false false)).next=H.next+4:=rfl
 have fA:((((H.push (.map [])).push (.map [])).push (.row [.string ByteArray.empty,Z0,Z0,Z0,Z0,Z0,Z0,iv 0,.map (some H.next),.map (some (H.next+1))] 90 false false)).push (.row [.pointer none] 86 false false)).floor=H.floor:=rfl
 generalize (((H.push (.map [])).push (.map [])).push (.row [.string ByteArray.empty,Z0,Z0,Z0,Z0,Z0,Z0,iv 0,.map (some H.next),.map (some (H.next+1))] 90 false false)).push (.row [.pointer none] 86 false false)=A0 at *
 have Q:∀ i,i≠H.next+1+1+1→(A0.put (H.next+1+1+1) (.row ([Value.pointer none].set 0 (qP (H.next+1+1) 0)) 86 false false)).get i=A0.get i:=fun i hi=>AR (by omega) (Ne.symm hi)
 have a0:∀ i,i<H.next→(A0.put (H.next+1+1+1) (.row ([Value.pointer none].set 0 (qP (H.next+1+1) 0)) 86 false false)).get i=H.get i:=fun i hi=>by rw[Q i (by omega)];exact P0 i hi
 have a1:=(Q H.next (by omega)).trans P1
 have a2:=(Q (H.next+1) (by omega)).trans P2
 have a3:=(Q (H.next+1+1) (by omega)).trans P3
 have a4:(A0.put (H.next+1+1+1) (.row ([Value.pointer none].set 0 (qP (H.next+1+1) 0)) 86 false false)).get (H.next+1+1+1)=.row [qP (H.next+1+1) 0] 86 false false:=BL rfl (by omega)
 have nB:(A0.put (H.next+1+1+1) (.row ([Value.pointer none].set 0 (qP (H.next+1+1) 0)) 86 false false)).next=H.next+4:=nA
 have fB:(A0.put (H.next+1+1+1) (.row ([Value.pointer none].set 0 (qP (H.next+1+1) 0)) 86 false false)).floor=H.floor:=fA
 generalize A0.put (H.next+1+1+1) (.row ([Value.pointer none].set 0 (qP (H.next+1+1) 0)) 86 false false)=A at *
 clear hst n1 P0 P1 P2 P3 nA fA Q A0
 have hvA:AQ A v l:=hv.mono (by omega) a0
 obtain⟨id,q,e0,hid,l0,l1,l2,l3,l4,lr⟩:=hvA.row hx
 have e0':CB Tryz.prog 22 v (iv 0)=some (qP id q):=e0
 have hidT:(id<A.next)=True:=by simp[hid]
 have l79:AH 0 (A.get (H.next+1+1+1))=some (qP (H.next+1+1) 0):=by rw[a4];rfl
 have hvf:AQ (A.fl (max A.floor A.next)) v l:=hvA.mono (Nat.le_refl _) fun _ _=>rfl
 obtain⟨h3,hE,g1,g2,g3,g4⟩:=hclone (A.fl (max A.floor A.next)) hvf
 simp only[NA] at hE g1 g2 g4
 have g4':∀ i,i<A.next→h3.get i=A.get i:=g4
 have hs30:BB Tryz.prog (h3.fl A.floor) 27 (qP (H.next+1+1) 0) (.agg #[.string x.name,qS (A.next+1) l.length AO,Z0,Z0,Z0,Z0,Z0,iv (-1)])=_:=
  Hy (vs:=[.string x.name,qS (A.next+1) l.length AO,Z0,Z0,Z0,Z0,Z0,iv (-1)]) FM (by rw[TO,g4' _ (by omega)];exact a3) (by simp only[List.length_cons,List.length_nil];omega) rfl rfl (by show A.floor≤_;omega)
 have i3:((H.next+1+1+1)<A.next)=True:=by simp;omega
 refine WK.flags (ops:=nY) Qj ?_
 refine DN.begin ?_
 refine AG hsn 0 (some 24) (.load 86 (.tmp 5)) none ?_
 simp only[rG,seval,AD,AF,AE,CT,l79,i3,VF]
 refine AG hsn 1 (some 25) (.move (.tmp 0)) none ?_
 simp only[rG,seval,AD,AF,AE,t0]
 refine AG hsn 2 (some 26) (.indexAddr 22 (.tmp 25) (.const (Value.int IntKind.i64 0))) none ?_
 simp only[rG,seval,AD,AF,AE,e0']
 refine AG hsn 3 (some 27) (.fieldAddr 60 (.tmp 26) 1) none ?_
 simp only[rG,seval,AD,AF,AE,MU]
 refine AG hsn 4 (some 28) (.load 9 (.tmp 27)) none ?_
 simp only[rG,seval,AD,AF,AE,CT,hidT,FU,l1]
 refine AG hsn 5 (some 29) (.move (.tmp 0)) none ?_
 simp only[rG,seval,AD,AF,AE,t0]
 refine AG hsn 6 (some 30) (.call { callee:=.value (.func 49),args:=#[.tmp 29],argTypes:=#[22] }) none ?_
 simp only[rG,seval,AD,AF,AE,DC,hE]
 refine AG hsn 7 (some 31) (.build 27 #[(0,.tmp 28),(1,.tmp 30),(7,.const (Value.int IntKind.i64 (-1)))]) none ?_
 simp only[rG,seval,AD,AF,AE,List.map_cons,List.map_nil,Vm]
 refine AG hsn 8 (some 32) (.nilCheck (.tmp 24)) none ?_
 simp only[rG,seval,AD,AF,AE]
 refine AG hsn 9 (some 33) (.fieldAddr 90 (.tmp 32) 0) none ?_
 simp only[rG,seval,AD,AF,AE,J0]
 refine AG hsn 10 (none) (.store 27 (.tmp 33) (.tmp 31)) none ?_
 simp only[rG,seval,AD,AF,AE,CM,C4,hs30]
 refine DN.done (i:=11) (by kernel_rfl) ?_
 have hgo:∀ i,i≠H.next+1+1→((h3.fl A.floor).put (H.next+1+1) (BF.row ([.string x.name,qS (A.next+1) l.length AO,Z0,Z0,Z0,Z0,Z0,iv (-1)]++List.drop 8 [.string ByteArray.empty,Z0,Z0,Z0,Z0,Z0,Z0,iv 0,.map (some H.next),.map (some (H.next+1))]) 90 false false)).get i=h3.get i:=fun i hi=>AR (by show _<h3.next;omega) (Ne.symm hi)
 have b0:∀ i,i<H.next→((h3.fl A.floor).put (H.next+1+1) (BF.row ([.string x.name,qS (A.next+1) l.length AO,Z0,Z0,Z0,Z0,Z0,iv (-1)]++List.drop 8 [.string ByteArray.empty,Z0,Z0,Z0,Z0,Z0,Z0,iv 0,.map (some H.next),.map (some (H.next+1))]) 90 false false)).get i=H.get i:=fun i hi=>by rw[hgo i (by omega),g4' i (by omega),a0 i hi]
 have b1:((h3.fl A.floor).put (H.next+1+1) (BF.row ([.string x.name,qS (A.next+1) l.length AO,Z0,Z0,Z0,Z0,Z0,iv (-1)]++List.drop 8 [.string ByteArray.empty,Z0,Z0,Z0,Z0,Z0,Z0,iv 0,.map (some H.next),.map (some (H.next+1))]) 90 false false)).get H.next=.map []:=by rw[hgo _ (by omega),g4' _ (by omega)];exact a1
 have b2:((h3.fl A.floor).put (H.next+1+1) (BF.row ([.string x.name,qS (A.next+1) l.length AO,Z0,Z0,Z0,Z0,Z0,iv (-1)]++List.drop 8 [.string ByteArray.empty,Z0,Z0,Z0,Z0,Z0,Z0,iv 0,.map (some H.next),.map (some (H.next+1))]) 90 false false)).get (H.next+1)=.map []:=by rw[hgo _ (by omega),g4' _ (by omega)];exact a2
 have b3:((h3.fl A.floor).put (H.next+1+1) (BF.row ([.string x.name,qS (A.next+1) l.length AO,Z0,Z0,Z0,Z0,Z0,iv (-1)]++List.drop 8 [.string ByteArray.empty,Z0,Z0,Z0,Z0,Z0,Z0,iv 0,.map (some H.next),.map (some (H.next+1))]) 90 false false)).get (H.next+1+1)=.row [.string x.name,qS (A.next+1) l.length AO,Z0,Z0,Z0,Z0,Z0,iv (-1),.map (some H.next),.map (some (H.next+1))] 90 false false:=BL rfl (by show _<h3.next;omega)
 have b4:((h3.fl A.floor).put (H.next+1+1) (BF.row ([.string x.name,qS (A.next+1) l.length AO,Z0,Z0,Z0,Z0,Z0,iv (-1)]++List.drop 8 [.string ByteArray.empty,Z0,Z0,Z0,Z0,Z0,Z0,iv 0,.map (some H.next),.map (some (H.next+1))]) 90 false false)).get (H.next+1+1+1)=.row [qP (H.next+1+1) 0] 86 false false:=by rw[hgo _ (by omega),g4' _ (by omega)];exact a4
 have b5:((h3.fl A.floor).put (H.next+1+1) (BF.row ([.string x.name,qS (A.next+1) l.length AO,Z0,Z0,Z0,Z0,Z0,iv (-1)]++List.drop 8 [.string ByteArray.empty,Z0,Z0,Z0,Z0,Z0,Z0,iv 0,.map (some H.next),.map (some (H.next+1))]) 90 false false)).get (A.next+1)=.row (l.flatMap AV) 60 true false:=by rw[hgo _ (by omega)];exact g1
 have nW:((h3.fl A.floor).put (H.next+1+1) (BF.row ([.string x.name,qS (A.next+1) l.length AO,Z0,Z0,Z0,Z0,Z0,iv (-1)]++List.drop 8 [.string ByteArray.empty,Z0,Z0,Z0,Z0,Z0,Z0,iv 0,.map (some H.next),.map (some (H.next+1))]) 90 false false)).next=H.next+6:=by show h3.next=_;omega
 have fW:((h3.fl A.floor).put (H.next+1+1) (BF.row ([.string x.name,qS (A.next+1) l.length AO,Z0,Z0,Z0,Z0,Z0,iv (-1)]++List.drop 8 [.string ByteArray.empty,Z0,Z0,Z0,Z0,Z0,Z0,iv 0,.map (some H.next),.map (some (H.next+1))]) 90 false false)).floor=H.floor:=fB
 generalize (h3.fl A.floor).put (H.next+1+1) (BF.row ([.string x.name,qS (A.next+1) l.length AO,Z0,Z0,Z0,Z0,Z0,iv (-1)]++List.drop 8 [.string ByteArray.empty,Z0,Z0,Z0,Z0,Z0,Z0,iv 0,.map (some H.next),.map (some (H.next+1))]) 90 false false)=B at *
 have hvB:AQ B v l:=hv.mono (by omega) b0
 obtain⟨h4,hN,k1,k2,k3,k4⟩:=hends B hvB (by omega)
 have z28:(Z0).cells.toList=[Z0]:=rfl
 have f28:flat (Z0)=true:=rfl
 have hst:BB Tryz.prog (h4.push (.row [Z0] 25 false false)) 25 (qP h4.next 0) (qS B.next l.length l.length)=_:=GM (off:=0) K8 rfl rfl BX (by decide) (by show h4.floor≤h4.next;omega)
 have c0:∀ i,i≠h4.next→((h4.push (.row [Z0] 25 false false)).put h4.next (.row ([Z0].set 0 (qS B.next l.length l.length)) 25 false false)).get i=h4.get i:=fun i hi=>by rw[AR (by show h4.next<h4.next+1;omega) (Ne.symm hi),PO hi]
 have c6:((h4.push (.row [Z0] 25 false false)).put h4.next (.row ([Z0].set 0 (qS B.next l.length l.length)) 25 false false)).get h4.next=.row [qS B.next l.length l.length] 25 false false:=BL rfl (by show h4.next<h4.next+1;omega)
 have nC:((h4.push (.row [Z0] 25 false false)).put h4.next (.row ([Z0].set 0 (qS B.next l.length l.length)) 25 false false)).next=H.next+8:=by show h4.next+1=_;omega
 have fC:((h4.push (.row [Z0] 25 false false)).put h4.next (.row ([Z0].set 0 (qS B.next l.length l.length)) 25 false false)).floor=H.floor:=by show h4.floor=_;omega
 simp only[eE,seval,↓eP,C2,CW,C6,t0,hN,Qx,z28,f28,hst]
 generalize (h4.push (.row [Z0] 25 false false)).put h4.next (.row ([Z0].set 0 (qS B.next l.length l.length)) 25 false false)=C at *
 have l5:AH 0 (C.get (H.next+1+1+1))=some (qP (H.next+1+1) 0):=by rw[c0 _ (by omega),k4 _ (by omega),b4];rfl
 simp only[eE,seval,↓eP,C2,CW,C6,VF,l5,List.map_toArray,Ix]
 have D0:∀ (o:BF) i,i<C.next→(C.push o).get i=C.get i:=fun o i hi=>AU hi
 have D6:∀ (o:BF) i,i<B.next→(C.push o).get i=B.get i:=fun o i hi=>by rw[D0 o i (by omega),c0 i (by omega),k4 i hi]
 have n4:h4.next=H.next+7:=by omega
 refine hk _ _ (H.next+1+1) H.next (H.next+1) B.next (A.next+1) (H.next+1+1+1) h4.next C.next ?_ ?_ ?_ ?_ ?_ ?_ ⟨fun i=>if i=H.next+1+1 then 0 else if i=A.next+1 then 1 else if i=H.next then 8 else if i=H.next+1 then 9 else if i=B.next then 10 else 11,Z0,Z0,Z0,Z0,Z0,[],?_,?_,⟨by simp[CD],by simp[CD],by simp[CD],by simp[CD],rfl,fun t ht=>by cases ht⟩,fun i hi=>?_⟩ ⟨?_,?_,BX⟩ (by show H.next≤C.next+1;omega) (by show C.floor=H.floor;exact fC) fun i hi=>?_
 ·simp only[eE,seval,↓eP,rP,t0]
 ·simp only[eE,seval,↓eP,rP]
 ·simp only[eE,seval,↓eP,rP]
 ·simp only[eE,seval,↓eP,rP]
 ·simp only[eE,seval,↓eP,rP]
 ·simp only[eE,seval,↓eP,rP]
 ·exact
   { cell:=by rw[D6 _ _ (by omega),b3,hnm];rfl
     pol:=
      { rows:=by rw[D6 _ _ (by omega)];exact b5
        len:=rfl
        tr:=by rw[if_neg (by omega),if_pos rfl]
        lr:=⟨by omega,by show _<C.next+1;omega⟩
        q:=UI
        v:=UI
        t:=UI
        u:=UI
        o:=UI }
     known:=by rw[D6 _ _ (by omega)];exact b1
     many:=by rw[D6 _ _ (by omega)];exact b2
     ends:=by rw[D0 _ _ (by omega),c0 _ (by omega)];exact k1
     tm:=if_pos rfl
     tk:=by rw[if_neg (by omega),if_neg (by omega),if_pos rfl]
     tc:=by rw[if_neg (by omega),if_neg (by omega),if_neg (by omega),if_pos rfl]
     te:=by rw[if_neg (by omega),if_neg (by omega),if_neg (by omega),if_neg (by omega),if_pos rfl]
     lm:=⟨by omega,by show _<C.next+1;omega⟩
     lk:=⟨Nat.le_refl _,by show _<C.next+1;omega⟩
     lc:=⟨by omega,by show _<C.next+1;omega⟩
     le:=⟨by omega,by show _<C.next+1;omega⟩
     fl:=by show C.floor≤H.next;omega }
 ·refine⟨fun p hp=>(by cases hp),fun k h1 h4=>?_⟩
  have:BI (CD l) k=0:=by unfold BI;(repeat' split) <;> rfl
  rw[if_pos this]
  rfl
 ·have hii:i=H.next+1+1+1∨i=h4.next∨i=C.next:=by simpa using hi
  refine⟨by show i<C.next+1;omega,?_⟩
  show 11≤(if i=H.next+1+1 then 0 else if i=A.next+1 then 1 else if i=H.next then 8 else if i=H.next+1 then 9 else if i=B.next then 10 else 11)
  rw[if_neg (by omega),if_neg (by omega),if_neg (by omega),if_neg (by omega),if_neg (by omega)]
  exact Nat.le_refl _
 ·rw[D6 _ _ (by omega)];exact b4
 ·rw[D0 _ _ (by omega)];exact c6
 ·rw[D6 _ _ (by omega)];exact b0 i hi
end
noncomputable def vT:Code:=inB (ZV Tryz.f22 1)
theorem E_.mono {a:Nat} {H H':AA} {cs:List Value} {e p:Int} (h:E_ a H cs e p) (h0:H'.get a=H.get a) (h1:H'.get (a+1)=H.get (a+1)):E_ a H' cs e p:=⟨h0.trans h.1,h1.trans h.2⟩
section
variable {N:Nat} {call:AS}
theorem O1 {a:Nat} {H:AA} {cs:List Value} {e p:Int} (h:E_ a H cs e p) (hl:cs.length=8) (ha:a+1<H.next) (hf:H.floor≤a) {cs':List Value} (hl':cs'.length=8) (ho':cs'.all one=true) {e' p':Int} :
  ∃ H',BB Tryz.prog H 27 (qP a 0) (.agg cs'.toArray)=some (H.put a (.row cs' 27 false false))∧BB Tryz.prog (H.put a (.row cs' 27 false false)) 32 (qP (a+1) 0) (CI e' p')=some H' ∧
   E_ a H' cs' e' p'∧H'.next=H.next∧H'.floor=H.floor∧∀ i,i≠a→i≠a+1→H'.get i=H.get i:=by
 have s1:=JN (k:=8) FM h.1 hl hl' ho' hf
 have hb:(H.put a (.row cs' 27 false false)).get (a+1)=.row [iv e,iv p] 32 false false:=by rw[AR (by omega) (by omega)];exact h.2
 have s2:=JN (t:=32) (k:=2) JP (vs:=[iv e',iv p']) hb rfl rfl rfl (by show H.floor≤a+1;omega)
 refine⟨_,s1,s2,⟨?_,BL rfl (by show a+1<H.next;omega)⟩,rfl,rfl,fun i hi hi'=>?_⟩
 ·rw[AR (by show a+1<H.next;omega) (by omega)]
  exact BL rfl (by omega)
 ·rw[AR (by show a+1<H.next;omega) (by omega),AR (by omega) (by omega)]
theorem Vr {at_ a fl lo m k c e r n:Nat} {nm:ByteArray} {E:List Int} {F:List Nat} {er:Nat→Int} {st:Nat→AM} {T:Tr} {H:AA} {K:B_} {fs:List Value}
  (t2:T.get 2=qP a 0) (t3:T.get 3=qP (a+1) 0) (t7:T.get 7=qS fl 3 3) (t44:T.get 44=iv at_)
  (hN:3<N) (hp:FF H lo m k c e r n nm E F (st 0)) (ha:a+1<lo) (hlo:lo≤H.next) (hout:E_ a H BY 0 0) (hfa:H.floor≤a) (hfl:H.get fl=.row fs 94 false false) (hFl:fl∈F)
  (hlook:∀ i,i<3→∀ H1,FF H1 lo m k c e r n nm E F (st i)→GG H H1 lo F→(∀ j,j<i→er j=0)→∃ fid first cap H2,fs[i]?=some (.func (.func fid) first cap)∧call fid (first.toList++[iv at_]++cap.toList) H1=some (iv (er i),H2)∧GG H1 H2 lo F∧(er i=0→FF H2 lo m k c e r n nm E F (st (i+1))))
  (hbad:∀ i,i<3→er i≠0→(∀ j,j<i→er j=0)→∀ T' H',T'.get 2=qP a 0→T'.get 3=qP (a+1) 0→E_ a H' BY (er i) at_→H.next≤H'.next→H'.floor=H.floor→(∀ i,i<a→H'.get i=H.get i)→K.ap Tryz.prog call N .ret ⟨T',H'⟩)
  (hgood:(∀ j,j<3→er j=0)→∀ T' H',(∀ t,t≤7∨(42≤t∧t≤44)→T'.get t=T.get t)→FF H' lo m k c e r n nm E F (st 3)→GG H H' lo F→K.ap Tryz.prog call N .normal ⟨T',H'⟩) :
  WK Tryz.prog call N vT ⟨T,H⟩ K:=by
 show WK _ _ _ (.seq _ (.seq _ (.block 2 (.loop (.seq _ (.seq _ (.seq (.block 3 _) _))))))) _ _
 simp only[eE,↓reduceIte,Nat.reduceEqDiff,reduceCtorEq,↓eP,t7,t44,Js]
 refine WK.loop (fun i s'=>s'.T.get 47=qS fl 3 3∧s'.T.get 48=iv 3∧s'.T.get 49=iv i∧s'.T.get 8=iv at_∧i≤3∧(∀ t,t≤7∨(42≤t∧t≤44)→s'.T.get t=T.get t)∧FF s'.h lo m k c e r n nm E F (st i)∧GG H s'.h lo F∧∀ j,j<i→er j=0) 3 hN ?_ ?_
 ·refine⟨by simp only[eE,↓reduceIte,Nat.reduceEqDiff,reduceCtorEq,↓eP,rP,Nat.reduceAdd,Nat.reduceLT],by simp only[eE,↓reduceIte,Nat.reduceEqDiff,reduceCtorEq,↓eP,rP,Nat.reduceAdd,Nat.reduceLT];rfl,by simp only[eE,↓reduceIte,Nat.reduceEqDiff,reduceCtorEq,↓eP,rP,Nat.reduceAdd,Nat.reduceLT];rfl,by simp only[eE,↓reduceIte,Nat.reduceEqDiff,reduceCtorEq,↓eP,rP,Nat.reduceAdd,Nat.reduceLT],by omega,fun t ht=>?_,hp,⟨fun _ _=>rfl,Nat.le_refl _,rfl⟩,fun j hj=>by omega⟩
  simp only[Tr.get_put,Option.some.injEq]
  repeat rw[if_neg (by omega)]
 ·rintro i ⟨T1,H1⟩ hi ⟨t47,t48,t49,t8,hi3,hkeep,hp1,haf,hz⟩
  simp only at t47 t48 t49 t8 hkeep hp1 haf
  have t2':T1.get 2=qP a 0:=(hkeep 2 (by omega)).trans t2
  have t3':T1.get 3=qP (a+1) 0:=(hkeep 3 (by omega)).trans t3
  by_cases hlt:i<3
  ·have c1:decide ((i:Int)<3)=true:=by simp;omega
   obtain⟨fid,first,cap,H2,hfi,hcall,haf2,hmk⟩:=hlook i hlt H1 hp1 haf hz
   have hfl1:H1.get fl=.row fs 94 false false:=(haf.1 fl (.inr hFl)).trans hfl
   have lf:AH i (H1.get fl)=some (.func (.func fid) first cap):=by rw[hfl1];exact hfi
   have hix:=Tl (h:=H1) (id:=fl) (c:=3) hlt
   cases d:(er i != 0) with
   | true=>
    have e0:er i≠0:=by simpa using d
    have n2:H.next≤H2.next:=Nat.le_trans haf.2.1 haf2.2.1
    have f2:H2.floor=H.floor:=haf2.2.2.trans haf.2.2
    have o2:∀ i,i<lo→H2.get i=H.get i:=fun i hi=>(haf2.1 i (.inl hi)).trans (haf.1 i (.inl hi))
    have hout2:E_ a H2 BY 0 0:=hout.mono (o2 a (by omega)) (o2 (a+1) ha)
    obtain⟨H',s1,s2,r1,r2,r3,r4⟩:=O1 hout2 rfl (by omega) (by omega) (cs':=BY) rfl rfl (e':=er i) (p':=at_)
    simp only[eE,seval,↓eP,t47,t48,t49,t8,t2',t3',c1,hix,rJ,lf,hcall,d,RC,F8,s1,s2]
    refine hbad i hlt e0 hz _ _ ?_ ?_ r1 (by omega) (r3.trans f2) fun j hj=>(r4 j (by omega) (by omega)).trans (o2 j (by omega))
    ·simp only[eE,seval,↓eP,rP,t2']
    ·simp only[eE,seval,↓eP,rP,t3']
   | false=>
    have e0:er i=0:=by simpa using d
    have w1:=DF i (by omega)
    simp only[eE,seval,↓eP,t47,t48,t49,t8,c1,hix,rJ,lf,hcall,d,w1]
    refine⟨hlt,by omega,fun t ht=>?_,hmk e0,⟨fun i hi=>(haf2.1 i hi).trans (haf.1 i hi),Nat.le_trans haf.2.1 haf2.2.1,haf2.2.2.trans haf.2.2⟩,fun j hj=>?_⟩
    ·repeat rw[if_neg (by omega)]
     exact hkeep t ht
    ·rcases Nat.lt_or_ge j i with h1 | h1
     ·exact hz j h1
     ·have:j=i:=by omega
      subst this
      exact e0
  ·have c1:decide ((i:Int)<3)=false:=by simp;omega
   have:i=3:=by omega
   subst this
   simp only[eE,seval,↓eP,t48,t49]
   refine hgood hz _ _ (fun t ht=>?_) hp1 haf
   simp only[Tr.get_put,Option.some.injEq]
   repeat rw[if_neg (by omega)]
   exact hkeep t ht
end
theorem Br (k:Int) (h:AA) (hk:1≤k∧k≤54):L0 72 [iv k] h=some (iv (BZ k),h):=FE rfl rfl rfl rfl (JD Aj hk)
theorem yH (k:Int) (h:AA) (hk:1≤k∧k≤54):L0 74 [iv k] h=some (iv (EC k),h):=FE rfl rfl rfl rfl (JD He hk)
theorem qV (k:Int) (h:AA) (hk:1≤k∧k≤54):L0 75 [iv k] h=some (.bool (E8 k),h):=FE rfl rfl rfl rfl (JD Qi hk)
theorem bF {at_:Nat} {end_:Int} {x:AB} {s:AM} (hx:s.rows[at_]?=some x):∃ n,(BR at_ end_ x s).rows[at_]?=some { x with n:=n }:=by
 rw[rE]
 split
 ·exact⟨x.n,hx⟩
 ·exact⟨_,LU hx⟩
def OZ (at_:Nat) (end_:Int) (x x1 x2:AB) (s:AM):Nat→Int
 | 0=>EH x s
 | 1=>DB at_ x1 (BR at_ end_ x s)
 | _=>DQ x2 (CF at_ x1 (BR at_ end_ x s))
def VR (at_:Nat) (end_:Int) (x x1 x2:AB) (s:AM):Nat→AM
 | 0=>s
 | 1=>BR at_ end_ x s
 | 2=>CF at_ x1 (BR at_ end_ x s)
 | _=>D3 at_ x2 (CF at_ x1 (BR at_ end_ x s))
theorem Si {E:List Int} {at_:Nat} {end_:Int} {x x1 x2:AB} {s:AM} (hx:s.rows[at_]?=some x) (hE:E[at_]?=some end_) (h1:(BR at_ end_ x s).rows[at_]?=some x1) (h2:DB at_ x1 (BR at_ end_ x s)=0→(CF at_ x1 (BR at_ end_ x s)).rows[at_]?=some x2) :
  (∀ i,i<3→OZ at_ end_ x x1 x2 s i≠0→(∀ j,j<i→OZ at_ end_ x x1 x2 s j=0)→F3 E at_ s=(OZ at_ end_ x x1 x2 s i,s))∧((∀ j,j<3→OZ at_ end_ x x1 x2 s j=0)→F3 E at_ s=(0,VR at_ end_ x x1 x2 s 3)):=by
 have hEx:(E[at_]?).getD 0=end_:=by rw[hE];rfl
 constructor
 ·intro i hi he hz
  unfold F3
  rw[hx]
  simp only[hEx]
  match i,hi,he,hz with
  | 0,_,he,_=>
   have he:EH x s≠0:=he
   rw[if_pos he]
   rfl
  | 1,_,he,hz=>
   have h0:EH x s=0:=hz 0 (by omega)
   have he:DB at_ x1 (BR at_ end_ x s)≠0:=he
   rw[if_neg (by simpa using h0),h1]
   simp only
   rw[if_pos he]
   rfl
  | 2,_,he,hz=>
   have h0:EH x s=0:=hz 0 (by omega)
   have hc:DB at_ x1 (BR at_ end_ x s)=0:=hz 1 (by omega)
   have he:DQ x2 (CF at_ x1 (BR at_ end_ x s))≠0:=he
   rw[if_neg (by simpa using h0),h1]
   simp only
   rw[if_neg (by simpa using hc),h2 hc]
   simp only
   rw[if_pos he]
   rfl
 ·intro hz
  have h0:EH x s=0:=hz 0 (by omega)
  have hc:DB at_ x1 (BR at_ end_ x s)=0:=hz 1 (by omega)
  have he:DQ x2 (CF at_ x1 (BR at_ end_ x s))=0:=hz 2 (by omega)
  unfold F3
  rw[hx]
  simp only[hEx]
  rw[if_neg (by simpa using h0),h1]
  simp only
  rw[if_neg (by simpa using hc),h2 hc]
  simp only
  rw[if_neg (by simpa using he)]
  rfl
section
variable {n lo m k c e r L:Nat} {h:AA} {nm:ByteArray} {E:List Int} {F:List Nat} {s:AM}
theorem Xg {at_:Nat} {end_:Int} {x:AB} (hp:FF h lo m k c e r L nm E F s) (hx:s.rows[at_]?=some x) (hkind:1≤x.kind∧x.kind≤54) (hL:L<1099511627776) (he:0≤end_) (hn:0<n) :
  ∃ h',AK n 52 [qP m 0,iv at_,iv end_] h=some (iv (EH x s),h')∧(GG h h' lo F∧(EH x s=0→FF h' lo m k c e r L nm E F (BR at_ end_ x s))):=by
 obtain⟨n,rfl⟩:=B8 hn
 exact OM (BD ⟨rfl,rfl,rfl⟩) (Kv (EJ n).2 hp hx hkind hL he (fun k h' hk=>GP (HD (Br k h' hk))) fun k h'=>GP (Bx k h'))
theorem Qg {at_:Nat} {x:AB} (hp:FF h lo m k c e r L nm E F s) (hx:s.rows[at_]?=some x) (hkind:1≤x.kind∧x.kind≤54) (hL:L<1099511627776) (hn:0<n) :
  ∃ h',AK n 53 [qP m 0,iv at_] h=some (iv (DB at_ x s),h')∧(GG h h' lo F∧(DB at_ x s=0→FF h' lo m k c e r L nm E F (CF at_ x s))):=by
 obtain⟨n,rfl⟩:=B8 hn
 exact OM (BD ⟨rfl,rfl,rfl⟩) (Vt (EJ n).2 hp hx hkind hL fun k h' hk=>GP (HD (yH k h' hk)))
theorem Uu {at_:Nat} {x:AB} (hp:FF h lo m k c e r L nm E F s) (hx:s.rows[at_]?=some x) (hkind:1≤x.kind∧x.kind≤54) (hL:L<1099511627776) (hxn:E8 x.kind=true→x.kind≠10→0≤x.n∧x.n<s.on.length) (hn:0<n) :
  ∃ h',AK n 54 [qP m 0,iv at_] h=some (iv (DQ x s),h')∧(GG h h' lo F∧(DQ x s=0→FF h' lo m k c e r L nm E F (D3 at_ x s))):=by
 obtain⟨n,rfl⟩:=B8 hn
 exact OM (BD ⟨rfl,rfl,rfl⟩) (Pl (EJ n).2 hp hx hkind hL hxn fun k h' hk=>GP (HD (qV k h' hk)))
theorem Ak {at_ c5 c6:Nat} {end_:Int} {x:AB} (hp:FF h lo m k c e r L nm E F s) (hx:s.rows[at_]?=some x) (hkind:1≤x.kind∧x.kind≤54) (hL:L<1099511627776) (he:0≤end_) (hE:E[at_]?=some end_) (hlE:L=E.length)
  (h5:h.get c5=.row [qP m 0] 86 false false) (h6:h.get c6=.row [qS e L L] 25 false false) (hn:1<n) :
  ∃ h',AK n 51 [iv at_,qP c5 0,qP c6 0] h=some (iv (EH x s),h')∧(GG h h' lo F∧(EH x s=0→FF h' lo m k c e r L nm E F (BR at_ end_ x s))):=by
 obtain⟨n,rfl⟩:∃ j,n=j+1:=⟨n-1,by omega⟩
 obtain⟨tag,vq,vv,vt,vu,vo,es,hp',_⟩:=id hp
 obtain⟨h',hc,ha,hm⟩:=Xg (n:=n) (at_:=at_) hp hx hkind hL he (by omega)
 exact OM (BD ⟨rfl,rfl,rfl⟩) (Ty (EJ n).2 h5 h6 hp'.ends hE hlE ⟨h',hc,ha.2.2,ha,hm⟩)
theorem Jy {l:List AB} {at_ c5 c6 fl:Nat} {x x1:AB} {H:AA} (ht:CU l) (hL:l.length<900000000) (hat:at_<l.length) (hi:HR l at_ s) (hx:s.rows[at_]?=some x) (h1:(BR at_ (AC l at_) x s).rows[at_]?=some x1) (hcl:Z4 H m e c5 c6 fl l.length (AX l)) (h5:c5∈F) (h6:c6∈F) (hfl:fl∈F) (hn:3<n) :
  ∃ x2,(DB at_ x1 (BR at_ (AC l at_) x s)=0→(CF at_ x1 (BR at_ (AC l at_) x s)).rows[at_]?=some x2)∧∀ i,i<3→∀ H1,FF H1 lo m k c e r l.length nm (AX l) F (VR at_ (AC l at_) x x1 x2 s i)→GG H H1 lo F→(∀ j,j<i→OZ at_ (AC l at_) x x1 x2 s j=0) →
   ∃ fid first cap H2,([.func (.func 51) #[] #[qP c5 0,qP c6 0],.func (.func 53) #[qP m 0] #[],.func (.func 54) #[qP m 0] #[]]:List Value)[i]?=some (.func (.func fid) first cap) ∧
    AK n fid (first.toList++[iv at_]++cap.toList) H1=some (iv (OZ at_ (AC l at_) x x1 x2 s i),H2)∧GG H1 H2 lo F∧(OZ at_ (AC l at_) x x1 x2 s i=0→FF H2 lo m k c e r l.length nm (AX l) F (VR at_ (AC l at_) x x1 x2 s (i+1))):=by
 have hkind:=VV ht hi x (List.mem_of_getElem? hx)
 obtain⟨n1,hx1⟩:=bF (end_:=AC l at_) hx
 rw[h1] at hx1
 cases hx1
 obtain⟨x2,hx2⟩:∃ x2,DB at_ { x with n:=n1 } (BR at_ (AC l at_) x s)=0→(CF at_ { x with n:=n1 } (BR at_ (AC l at_) x s)).rows[at_]?=some x2∧(∃ n,x2={ x with n:=n })∧(x2.kind≠10→E8 x2.kind=true→LC (CF at_ { x with n:=n1 } (BR at_ (AC l at_) x s))→0≤x2.n∧x2.n<(CF at_ { x with n:=n1 } (BR at_ (AC l at_) x s)).on.length):=by
  by_cases hc:DB at_ { x with n:=n1 } (BR at_ (AC l at_) x s)=0
  ·obtain⟨n2,a1,a2,a3,a4,a5,a6⟩:=YN h1 hc
   refine⟨_,fun _=>⟨a1,⟨n2,rfl⟩,fun h10 hev hw=>?_⟩⟩
   have hd:=qI (k:=x.kind) hev h10
   rcases a6 with⟨b1,_⟩ | ⟨t,b1,b2,b3,_⟩
   ·have b1:EC x.kind=0:=b1
    rw[hd.1] at b1
    cases b1
   ·have b2:t.kind=EC x.kind:=b2
    rw[hd.1] at b2
    rw[← a5] at b1
    obtain⟨_,_,q1,q2,_⟩:=hw.th t b1
    rw[b2] at q2
    have q3:t.num<((CF at_ { x with n:=n1 } (BR at_ (AC l at_) x s)).queues.length:Int):=q2
    rw[← hw.o] at q3
    simp only
    rw[b3]
    exact⟨q1,q3⟩
  ·exact⟨x,fun h=>absurd h hc⟩
 refine⟨x2,fun h=>(hx2 h).1,?_⟩
 intro i hi3 H1 hp haf hz
 have hEat:(AX l)[at_]?=some (AC l at_:Int):=N_ hat
 match i,hi3 with
 | 0,_=>
  have g5:H1.get c5=_:=(haf.1 c5 (.inr h5)).trans hcl.h5
  have g6:H1.get c6=_:=(haf.1 c6 (.inr h6)).trans hcl.h6
  obtain⟨H2,q1,q2,q3⟩:=Ak (n:=n) (s:=s) (at_:=at_) hp hx hkind (by omega) (by omega) hEat (by rw[PR]) g5 g6 (by omega)
  exact⟨_,#[],#[qP c5 0,qP c6 0],H2,rfl,q1,q2,q3⟩
 | 1,_=>
  obtain⟨H2,q1,q2,q3⟩:=Qg (n:=n) (s:=BR at_ (AC l at_) x s) (at_:=at_) hp h1 hkind (by omega) (by omega)
  exact⟨_,#[qP m 0],#[],H2,rfl,q1,q2,q3⟩
 | 2,_=>
  have hc:DB at_ { x with n:=n1 } (BR at_ (AC l at_) x s)=0:=hz 1 (by omega)
  obtain⟨r1,⟨n2,r2⟩,r3⟩:=hx2 hc
  have hw:LC (CF at_ { x with n:=n1 } (BR at_ (AC l at_) x s)):=by
   obtain⟨_,_,_,_,_,_,_,_,_,hw,_⟩:=id hp
   exact hw
  obtain⟨H2,q1,q2,q3⟩:=Uu (n:=n) (s:=CF at_ { x with n:=n1 } (BR at_ (AC l at_) x s)) (at_:=at_) hp r1 (by rw[r2];exact hkind) (by omega) (fun a b=>r3 b a hw) (by omega)
  exact⟨_,#[qP m 0],#[],H2,rfl,q1,q2,q3⟩
end
theorem Kq {h:AA} {r:Nat} {rows:List AB} {lo hi:Nat} (hg:h.get r=.row (rows.flatMap AV) 60 true false) (hr:r<h.next) (hlh:lo≤hi) (hhi:hi≤rows.length) :
  ∃ v',HW Tryz.prog h 22 (qS r rows.length AO) (some (iv lo)) (some (iv hi)) none=some v'∧AQ h v' ((rows.drop lo).take (hi-lo)):=by
 have hl:((rows.drop lo).take (hi-lo)).length=hi-lo:=by rw[List.length_take,List.length_drop];omega
 refine⟨.slice (some ⟨r,lo*5,none⟩) (hi-lo) AO,?_,?_⟩
 ·simp only[HW,Tryz.underlying22,FN,GO,if_true]
  rw[if_pos (by omega)]
  simp only[Int.toNat_natCast]
  rw[if_pos (by omega)]
  simp only[Int.toNat_natCast]
  by_cases h0:lo=0
  ·subst h0
   rw[if_pos rfl]
   simp
  ·rw[if_neg h0,hg]
   simp only[FN,if_true,Nat.zero_add]
 ·refine⟨some ⟨r,lo*5,none⟩,AO,by rw[hl],.inr ⟨r,lo*5,_,_,_,_,rfl,hg,hr,fun k x hk=>?_⟩⟩
  have hk1:=(List.getElem?_eq_some_iff.1 hk).1
  rw[List.getElem?_take_of_lt (by omega),List.getElem?_drop] at hk
  rw[show lo*5+k*5=(lo+k)*5 by omega]
  exact RR hk
section
variable {n lo m k c e r L:Nat} {h:AA} {nm:ByteArray} {E:List Int} {F:List Nat} {s:AM}
theorem wI {pb eb sb row:Nat} {rows:List AB} {E rules sums:List Int} (hL:PJ rows E rules) (hc:K5 h pb eb sb rows E sums) (hs:JU sums) (hsl:sums.length=rules.length) (hfl:h.floor≤h.next) (hrow:row<rows.length) (hn:rows.length+8<n) :
  AK n 115 [iv row,qP pb 0,qP eb 0,qP sb 0] h=some (iv (FY rows E sums row),h):=by
 obtain⟨n,rfl⟩:=B8 hn
 obtain⟨q,q1,q2,q3,q4⟩:=hL.end hrow
 have hc':FY rows E sums row=HE sums ((rows.drop row).take (q-row)) 0:=by unfold FY;rw[q1];rfl
 rw[hc']
 exact HB (BD ⟨rfl,rfl,rfl⟩) rfl (Xm (EJ n).2 hc hs hfl q1 q2 q3 (by have:=hL.len;omega) (by omega)
  (fun x hx h22=>by rw[hsl];exact hL.calls x (List.mem_of_mem_drop (List.mem_of_mem_take hx)) h22) fun a b h' hb ha=>GP (mL h' hb ha))
theorem Iv {rows:List AB} {E rules:List Int} (hL:PJ rows E rules) {v0 vr v2 v3 v4 vu v6 v7:Value} {e ce:Nat} {ge:Bool} (hone:[v0,vr,v2,v3,v4,vu,v6,v7].all one=true) (hfl:h.floor≤h.next) (hn:rows.length+rules.length+12<n)
  (hsl:∀ (lo hi:Nat) h',(∀ i,i<h.next→h'.get i=h.get i)→h.next≤h'.next→lo≤hi→hi≤rows.length→∃ v',HW Tryz.prog h' 22 vr (some (iv lo)) (some (iv hi)) none=some v'∧AQ h' v' ((rows.drop lo).take (hi-lo)))
  {lu:Nat} (hu:AW lu h vu rules) (he:h.get e=.row (ints E) 3 ge false) (hel:e<h.next) :
  ∃ h',AK n 76 [.agg #[v0,vr,v2,v3,v4,vu,v6,v7],qS e E.length ce] h=some (.func (.func 115) #[] #[qP h.next 0,qP (h.next+1) 0,qP (h.next+3) 0],h') ∧
   (K5 h' h.next (h.next+1) (h.next+3) rows E (I7 rows E rules)∧h.next≤h'.next∧h'.floor=h.floor∧∀ i,i<h.next→h'.get i=h.get i):=by
 obtain⟨n,rfl⟩:=B8 hn
 refine N5 (BD ⟨rfl,rfl,rfl⟩) rfl (Wf (EJ n).2 hL hone hfl (by omega) (by omega) hsl (fun h'=>hu.len) ?_ ?_ he hel ?_)
 ·obtain⟨_,a,c,h1,_⟩:=hu
  exact⟨a,c,h1⟩
 ·intro h' hold i ru hi
  obtain⟨id,p,h1,h2,h3⟩:=AW.get hu hi
  exact⟨id,p,h1,by rw[hold id h2];exact h3⟩
 ·intro pb eb sb row sums h' hc hsl' hs hfl' hrow
  exact wI hL hc hs hsl' hfl' hrow (by omega)
theorem Tq {tag:Nat→Nat} {vq vv vt vu vo:Value} {es:List (Value × Value)} {l:List AB} (hp:B7 h lo m k c e r l.length nm (AX l) tag vq vv vt vu vo es s) (ht:CU l) (hlen:l.length<900000000) (hi:HR l l.length s) (hfl:h.floor≤h.next) (hn:l.length+100<n) :
  AK n 55 [qP m 0,qS e l.length l.length] h=some (iv (JG s.rows (AX l) s.rules),h):=by
 obtain⟨n,rfl⟩:=B8 hn
 have hL:=oT ht (by omega) hi
 have hnu:=hi.wf.u
 have hrl:=hi.len
 have hpl:=hp.pol.len
 refine HB (BD ⟨rfl,rfl,rfl⟩) rfl (Ga (pb:=h.next) (eb:=h.next+1) (sb:=h.next+3) hp hL hfl (by omega) (VV ht hi) (xJ ht hi) ?_ (fun k h' hk=>GP (HD (qV k h' hk))) (fun a b h' hb ha=>GP (mL h' hb ha)) ?_)
 ·have hE:(AX l).length=l.length:=PR
  have hs:∀ (lo hi:Nat) (h':AA),(∀ i,i<h.next→h'.get i=h.get i)→h.next≤h'.next→lo≤hi→hi≤s.rows.length→∃ v',HW Tryz.prog h' 22 (qS r l.length AO) (some (iv lo)) (some (iv hi)) none=some v'∧AQ h' v' ((s.rows.drop lo).take (hi-lo)):=fun lo hi h' ho hx a b=>by
   have:=Kq (h:=h') (r:=r) (rows:=s.rows) (by rw[ho r hp.pol.lr.2];exact hp.pol.rows) (by have:=hp.pol.lr.2;omega) a b
   rw[hpl] at this
   exact this
  have:=Iv (n:=n) (h:=h) (ce:=l.length) (v0:=.string nm) (v2:=vq) (v3:=vv) (v4:=vt) (v6:=vo) (v7:=iv s.miss) (vr:=qS r l.length AO) hL ?_ hfl (by omega) hs (AW.weak (hp.pol.u.cells (by rw[F9,Nat.mul_one])) (Nat.zero_le _)) hp.ends hp.le.2
  ·rw[hE] at this
   exact this
  ·have q1:=(hp.pol.q.cells (w:=2) (N6 _)).one
   have q2:=(hp.pol.v.cells (w:=1) (by rw[SG,Nat.mul_one])).one
   have q3:=(hp.pol.t.cells (w:=1) (by rw[SG,Nat.mul_one])).one
   have q4:=(hp.pol.u.cells (w:=1) (by rw[F9,Nat.mul_one])).one
   have q5:=(hp.pol.o.cells (w:=1) (by rw[F9,Nat.mul_one])).one
   simp only[List.all_cons,List.all_nil,q1,q2,q3,q4,q5,O4,IM,Bool.and_self]
   rfl
 ·intro row h' hc hfl' hrow
  exact wI hL hc (Z1).1 (Z1).2 hfl' hrow (by omega)
end
theorem GG.trans {h H H':AA} {lo:Nat} {F:List Nat} (a:GG h H lo F) (b:GG H H' lo F):GG h H' lo F:=⟨fun i hi=>(b.1 i hi).trans (a.1 i hi),Nat.le_trans a.2.1 b.2.1,b.2.2.trans a.2.2⟩
section
variable {n N:Nat}
theorem Gq {l:List AB} {v:Value} {T:Tr} {H:AA} {K:B_} {a fl lo m k c e r c5 c6:Nat} {nm:ByteArray} {F:List Nat} (ht:CU l) (hL:l.length<900000000) (hn:3<n) (hN:l.length+3<N)
  (t0:T.get 0=v) (t2:T.get 2=qP a 0) (t3:T.get 3=qP (a+1) 0) (t7:T.get 7=qS fl 3 3) (hv:AQ H v l)
  (hp:FF H lo m k c e r l.length nm (AX l) F (CD l)) (hcl:Z4 H m e c5 c6 fl l.length (AX l)) (h5:c5∈F) (h6:c6∈F) (hfl:fl∈F) (ha:a+1<lo) (hlo:lo≤H.next) (hout:E_ a H BY 0 0) (hfa:H.floor≤a)
  (hbad:(DG (AX l) l.length 0 (CD l)).1≠0→∀ T' H',T'.get 2=qP a 0→T'.get 3=qP (a+1) 0→E_ a H' BY (DG (AX l) l.length 0 (CD l)).1 (DG (AX l) l.length 0 (CD l)).2.1→H.next≤H'.next→H'.floor=H.floor→(∀ i,i<a→H'.get i=H.get i)→K.ap Tryz.prog (AK n) N .ret ⟨T',H'⟩)
  (hgood:(DG (AX l) l.length 0 (CD l)).1=0→∀ T' H',(∀ t,t≤7→T'.get t=T.get t)→FF H' lo m k c e r l.length nm (AX l) F (DG (AX l) l.length 0 (CD l)).2.2→HR l l.length (DG (AX l) l.length 0 (CD l)).2.2→GG H H' lo F→WK Tryz.prog (AK n) N WZ ⟨T',H'⟩ K) :
  WK Tryz.prog (AK n) N Y7 ⟨T,H⟩ K:=by
 show WK _ _ _ (.seq (.seq _ (.block 0 (.loop (.seq _ (.seq _ (.seq (.block 1 vT) _)))))) WZ) _ _
 have hlen:=fun h'=>hv.len (h':=h')
 simp only[eE,seval,↓eP,t0,hlen]
 refine WK.loop (fun i s'=>s'.T.get 43=iv l.length∧s'.T.get 44=iv i∧i≤l.length∧(∀ t,t≤7→s'.T.get t=T.get t)∧GG H s'.h lo F∧∃ s,FF s'.h lo m k c e r l.length nm (AX l) F s∧HR l i s∧DG (AX l) (l.length-i) i s=DG (AX l) l.length 0 (CD l)) l.length (by omega) ?_ ?_
 ·refine⟨by simp only[eE,↓reduceIte,Nat.reduceEqDiff,reduceCtorEq,↓eP,rP,Nat.reduceAdd,Nat.reduceLT],by simp only[eE,↓reduceIte,Nat.reduceEqDiff,reduceCtorEq,↓eP,rP,Nat.reduceAdd,Nat.reduceLT];rfl,by omega,fun t ht=>?_,⟨fun _ _=>rfl,Nat.le_refl _,rfl⟩,CD l,hp,VQ l,rfl⟩
  simp only[Tr.get_put,Option.some.injEq]
  repeat rw[if_neg (by omega)]
 ·rintro i ⟨T1,H1⟩ hi ⟨t43,t44,hil,hkeep,haf,s,hp1,hin,hgo⟩
  simp only at t43 t44 hkeep haf hp1
  by_cases hlt:i<l.length
  ·have c1:decide ((i:Int)<(l.length:Int))=true:=by simp;omega
   obtain⟨x,hx⟩:∃ x,s.rows[i]?=some x:=⟨_,List.getElem?_eq_getElem (by rw[hin.len];exact hlt)⟩
   obtain⟨n1,h1⟩:=bF (end_:=AC l i) hx
   have hcl1:Z4 H1 m e c5 c6 fl l.length (AX l):=⟨(haf.1 c5 (.inr h5)).trans hcl.h5,(haf.1 c6 (.inr h6)).trans hcl.h6,(haf.1 fl (.inr hfl)).trans hcl.hf⟩
   obtain⟨x2,hx2,hlook⟩:=Jy (n:=n) (lo:=lo) (k:=k) (c:=c) (r:=r) (nm:=nm) (F:=F) ht hL hlt hin hx h1 hcl1 h5 h6 hfl hn
   obtain⟨sb,sg⟩:=Si (E:=AX l) hx (N_ hlt) h1 hx2
   have hr:l.length-i=(l.length-(i+1))+1:=by omega
   rw[hr] at hgo
   have hout1:E_ a H1 BY 0 0:=hout.mono (haf.1 a (.inl (by omega))) (haf.1 (a+1) (.inl ha))
   have hn1:=haf.2.1
   have hf1:=haf.2.2
   have w1:=DF i (by omega)
   have hkp:∀ t,t≤44→(T1.put (some 45) (Value.bool true)).get t=T1.get t:=fun t ht=>by
    rw[Tr.get_put,if_neg (fun h=>by have h9:(45:Nat)=t:=Option.some.inj h;omega)]
   simp only[eE,seval,↓eP,t43,t44,c1]
   refine Vr (a:=a) (fl:=fl) (er:=OZ i (AC l i) x { x with n:=n1 } x2 s) (st:=VR i (AC l i) x { x with n:=n1 } x2 s) (E:=AX l) (F:=F) ((hkp 2 (by omega)).trans ((hkeep 2 (by omega)).trans t2)) ((hkp 3 (by omega)).trans ((hkeep 3 (by omega)).trans t3)) ((hkp 7 (by omega)).trans ((hkeep 7 (by omega)).trans t7)) ((hkp 44 (by omega)).trans t44) (by omega) hp1 ha (by omega) hout1 (by omega) hcl1.hf hfl hlook ?_ ?_
   ·intro j hj he hz T' H' g2 g3 ho hnx hfx hox
    have hst:=sb j hj he hz
    have hg:DG (AX l) l.length 0 (CD l)=(OZ i (AC l i) x { x with n:=n1 } x2 s j,i,s):=by
     rw[← hgo]
     unfold DG
     rw[hst,if_pos he]
    simp only[eE,seval,↓eP]
    refine hbad (by rw[hg];exact he) T' H' g2 g3 (by rw[hg];exact ho) (by omega) (by omega) fun q hq=>(hox q hq).trans (haf.1 q (.inl (by omega)))
   ·intro hz T' H' hk' hp' haf'
    have hst:=sg hz
    have e0:(F3 (AX l) i s).1=0:=by rw[hst]
    have hin':=U5 ht (VC i) hlt hin e0
    rw[hst] at hin'
    have hg:DG (AX l) (l.length-(i+1)) (i+1) (VR i (AC l i) x { x with n:=n1 } x2 s 3)=DG (AX l) l.length 0 (CD l):=by
     rw[← hgo]
     conv=>rhs;unfold DG
     rw[if_neg (by rw[e0];simp),hst]
    have u43:=(hk' 43 (by omega)).trans ((hkp 43 (by omega)).trans t43)
    have u44:=(hk' 44 (by omega)).trans ((hkp 44 (by omega)).trans t44)
    simp only[eE,seval,↓eP,u43,u44,w1]
    refine⟨hlt,by omega,fun t ht=>?_,haf.trans haf',_,hp',hin',hg⟩
    repeat rw[if_neg (by omega)]
    exact(hk' t (by omega)).trans ((hkp t (by omega)).trans (hkeep t ht))
  ·have c1:decide ((i:Int)<(l.length:Int))=false:=by simp;omega
   have:i=l.length:=by omega
   subst this
   have hg:DG (AX l) l.length 0 (CD l)=(0,l.length,s):=by
    rw[← hgo,Nat.sub_self]
    rfl
   simp only[eE,seval,↓eP,t43,t44,c1]
   refine hgood (by rw[hg]) _ _ (fun t ht=>?_) (by rw[hg];exact hp1) (by rw[hg];exact hin) haf
   simp only[Tr.get_put,Option.some.injEq]
   repeat rw[if_neg (by omega)]
   exact hkeep t ht
theorem B7.polAt {h:AA} {lo m k c e r n:Nat} {nm:ByteArray} {E:List Int} {tag:Nat→Nat} {vq vv vt vu vo:Value} {es:List (Value × Value)} {s:AM} (hp:B7 h lo m k c e r n nm E tag vq vv vt vu vo es s) :
  BP lo h (.agg #[.string nm,qS r n AO,vq,vv,vt,vu,vo,iv s.miss]) nm s:=by
 refine⟨_,vq,vv,vt,vu,vo,rfl,IN.of ?_,hp.pol.q.cells (N6 _),hp.pol.v.cells (by simp[CJ]),hp.pol.t.cells (by simp[CJ]),hp.pol.u.cells (by rw[F9,Nat.mul_one]),hp.pol.o.cells (by rw[F9,Nat.mul_one])⟩
 have hl:=hp.pol.len
 subst hl
 exact AN.row (ex:=[]) (by rw[List.append_nil];exact hp.pol.rows) hp.pol.lr (J7 _)
theorem BP.weak {lo lo':Nat} {h:AA} {pv:Value} {nm:ByteArray} {s:AM} (hp:BP lo h pv nm s) (hl:lo'≤lo):BP lo' h pv nm s:=by
 obtain⟨vr,vq,vv,vt,vu,vo,h1,h2,h3,h4,h5,h6,h7⟩:=hp
 exact⟨vr,vq,vv,vt,vu,vo,h1,IN.of (h2.2.weak hl),h3.weak hl,h4.weak hl,h5.weak hl,h6.weak hl,h7.weak hl⟩
def NT (lo:Nat) (h:AA) (pv:Value) (nm:ByteArray) (s:AM):Prop:=
 ∃ tag r vq vv vt vu vo,pv=.agg #[.string nm,qS r s.rows.length AO,vq,vv,vt,vu,vo,iv s.miss]∧LW h lo tag r s.rows.length vq vv vt vu vo s
theorem E2.weak {h:AA} {lo lo':Nat} {tag:Nat→Nat} {j:Nat} {v:Value} {n:Nat} {cs:List Value} {ty:TypeId} (hs:E2 h lo tag j v n cs ty) (hl:lo'≤lo):E2 h lo' tag j v n cs ty:=by
 rcases hs with h1 | ⟨id,ex,h1,h2,h3,h4,h5⟩
 ·exact .inl h1
 ·exact .inr ⟨id,ex,h1,h2,by omega,h4,h5⟩
theorem LW.weak {h:AA} {lo lo':Nat} {tag:Nat→Nat} {r n:Nat} {vq vv vt vu vo:Value} {s:AM} (hp:LW h lo tag r n vq vv vt vu vo s) (hl:lo'≤lo):LW h lo' tag r n vq vv vt vu vo s:=
 ⟨hp.rows,hp.len,hp.tr,⟨by have:=hp.lr.1;omega,hp.lr.2⟩,hp.q.weak hl,hp.v.weak hl,hp.t.weak hl,hp.u.weak hl,hp.o.weak hl⟩
theorem NT.weak {lo lo':Nat} {h:AA} {pv:Value} {nm:ByteArray} {s:AM} (hp:NT lo h pv nm s) (hl:lo'≤lo):NT lo' h pv nm s:=by
 obtain⟨tag,r,vq,vv,vt,vu,vo,h1,h2⟩:=hp
 exact⟨tag,r,vq,vv,vt,vu,vo,h1,h2.weak hl⟩
theorem NT.mono {lo:Nat} {h h':AA} {pv:Value} {nm:ByteArray} {s:AM} (hp:NT lo h pv nm s) (hn:h.next≤h'.next) (hg:∀ i,lo≤i→i<h.next→h'.get i=h.get i):NT lo h' pv nm s:=by
 obtain⟨tag,r,vq,vv,vt,vu,vo,h1,h2⟩:=hp
 exact⟨tag,r,vq,vv,vt,vu,vo,h1,h2.mono hn (fun _ _=>rfl) fun i a b _ _=>hg i a b⟩
theorem NT.pol {lo:Nat} {h:AA} {pv:Value} {nm:ByteArray} {s:AM} (hp:NT lo h pv nm s):BP lo h pv nm s:=by
 obtain⟨tag,r,vq,vv,vt,vu,vo,h1,h2⟩:=hp
 exact⟨_,vq,vv,vt,vu,vo,h1,IN.of (AN.row (ex:=[]) (by rw[List.append_nil];exact h2.rows) h2.lr (J7 _)),h2.q.cells (N6 _),h2.v.cells (by simp[CJ]),h2.t.cells (by simp[CJ]),h2.u.cells (by rw[F9,Nat.mul_one]),h2.o.cells (by rw[F9,Nat.mul_one])⟩
theorem B7.own {h:AA} {lo m k c e r n:Nat} {nm:ByteArray} {E:List Int} {tag:Nat→Nat} {vq vv vt vu vo:Value} {es:List (Value × Value)} {s:AM} (hp:B7 h lo m k c e r n nm E tag vq vv vt vu vo es s) :
  NT lo h (.agg #[.string nm,qS r n AO,vq,vv,vt,vu,vo,iv s.miss]) nm s:=by
 have hl:=hp.pol.len
 subst hl
 exact⟨tag,r,vq,vv,vt,vu,vo,rfl,hp.pol⟩
theorem yK {l:List AB} {T:Tr} {H:AA} {K:B_} {a lo m k c e r c5 c6:Nat} {nm:ByteArray} {F:List Nat} {s:AM} (ht:CU l) (hL:l.length<900000000) (hn:l.length+100<n)
  (t2:T.get 2=qP a 0) (t3:T.get 3=qP (a+1) 0) (t5:T.get 5=qP c5 0) (t6:T.get 6=qP c6 0)
  (hp:FF H lo m k c e r l.length nm (AX l) F s) (hin:HR l l.length s) (h5:H.get c5=.row [qP m 0] 86 false false) (h6:H.get c6=.row [qS e l.length l.length] 25 false false) (ha:a+1<lo) (hlo:lo≤H.next) (hout:E_ a H BY 0 0) (hfa:H.floor≤a)
  (hbad:JG s.rows (AX l) s.rules≥0→∀ T' H',T'.get 2=qP a 0→T'.get 3=qP (a+1) 0→E_ a H' BY 34 (JG s.rows (AX l) s.rules)→H.next≤H'.next→H'.floor=H.floor→(∀ i,i<a→H'.get i=H.get i)→K.ap Tryz.prog (AK n) N .ret ⟨T',H'⟩)
  (hgood:¬ JG s.rows (AX l) s.rules≥0→∀ T' H' cs,T'.get 2=qP a 0→T'.get 3=qP (a+1) 0→cs.length=8→E_ a H' cs 0 0→NT lo H' (.agg cs.toArray) nm s→H.next≤H'.next→H'.floor=H.floor→(∀ i,i<a→H'.get i=H.get i)→K.ap Tryz.prog (AK n) N .ret ⟨T',H'⟩) :
  WK Tryz.prog (AK n) N WZ ⟨T,H⟩ K:=by
 show WK _ _ _ (.seq (.seq _ (.seq _ _)) (.seq _ _)) _ _
 obtain⟨tag,vq,vv,vt,vu,vo,es,hp',_⟩:=id hp
 have hlg:=Tq (n:=n) hp' ht hL hin (by omega) hn
 have l5:AH 0 (H.get c5)=some (qP m 0):=by rw[h5];rfl
 have l6:AH 0 (H.get c6)=some (qS e l.length l.length):=by rw[h6];rfl
 cases d:decide (JG s.rows (AX l) s.rules≥0) with
 | true=>
  obtain⟨H',s1,s2,r1,r2,r3,r4⟩:=O1 hout rfl (by omega) (by omega) (cs':=BY) rfl rfl (e':=34) (p':=JG s.rows (AX l) s.rules)
  simp only[eE,seval,↓eP,VF,C3,t2,t3,t5,t6,l5,l6,hlg,d,RC,F8,s1,s2]
  refine hbad (by simpa using d) _ _ ?_ ?_ r1 (by omega) r3 fun i hi=>r4 i (by omega) (by omega)
  ·simp only[eE,seval,↓eP,rP,t2]
  ·simp only[eE,seval,↓eP,rP,t3]
 | false=>
  have l8:A_ 8 0 (H.get m)=some (.agg #[.string nm,qS r l.length AO,vq,vv,vt,vu,vo,iv s.miss]):=by rw[hp'.cell];rfl
  have hpol:=hp'.own
  have hall:([.string nm,qS r l.length AO,vq,vv,vt,vu,vo,iv s.miss]:List Value).all one=true:=by
   have q1:=(hp'.pol.q.cells (w:=2) (N6 _)).one
   have q2:=(hp'.pol.v.cells (w:=1) (by simp[CJ])).one
   have q3:=(hp'.pol.t.cells (w:=1) (by simp[CJ])).one
   have q4:=(hp'.pol.u.cells (w:=1) (by rw[F9,Nat.mul_one])).one
   have q5:=(hp'.pol.o.cells (w:=1) (by rw[F9,Nat.mul_one])).one
   simp only[List.all_cons,List.all_nil,q1,q2,q3,q4,q5,O4,IM,Bool.and_self]
   rfl
  obtain⟨H',s1,s2,r1,r2,r3,r4⟩:=O1 hout rfl (by omega) (by omega) (cs':=[.string nm,qS r l.length AO,vq,vv,vt,vu,vo,iv s.miss]) rfl hall (e':=0) (p':=0)
  simp only[eE,seval,↓eP,VF,C3,t2,t3,t5,t6,l5,l6,hlg,d,J0,DT,l8,M2,s1,s2]
  refine hgood (by simpa using d) _ _ _ ?_ ?_ rfl r1 (hpol.mono (by omega) fun i hi _=>r4 i (by omega) (by omega)) (by omega) r3 fun i hi=>r4 i (by omega) (by omega)
  ·simp only[eE,seval,↓eP,rP,t2]
  ·simp only[eE,seval,↓eP,rP,t3]
end
theorem IW {a:Nat} {H:AA} {cs:List Value} {ty:TypeId} {g ro:Bool} (h:H.get a=.row cs ty g ro) (hl:cs.length=8):A_ 8 0 (H.get a)=some (.agg cs.toArray):=by
 rw[h]
 have:cs.take 8=cs:=List.take_of_length_le (by omega)
 simp only[A_,GS,List.drop_zero,this,hl,if_true]
theorem aC {l:List AB} (h:(BQ l).1=0):HY AZ l=none:=by
 unfold BQ at h
 cases hs:HY AZ l with
 | none=>rfl
 | some p=>
  rw[hs] at h
  simp at h
def PZ (h:AA) (l:List AB) (v:Value) (h':AA):Prop:=
 ∃ pv,v=.tuple #[pv,CI (CV l).1.1 (CV l).1.2]∧BP h.next h' pv (DU l).1 (DU l).2∧h'.floor=h.floor∧h.next≤h'.next∧∀ i,i<h.next→h'.get i=h.get i
theorem AN.flat {lo:Nat} {h:AA} {v:Value} {n w:Nat} {cs:List Value} (hc:AN lo h v n w cs) (hf:BS v=true) (lo':Nat) (h':AA):AN lo' h' v n w cs:=by
 obtain⟨hl,a,c,rfl,⟨h0,rfl⟩ | ⟨id,off,row,ty,g,ro,rfl,g1,g2,g3⟩⟩:=hc
 ·exact⟨hl,_,_,rfl,.inl ⟨h0,rfl⟩⟩
 ·cases hf
theorem Sl {h h1:AA} {l:List AB} {v:Value} (hf:E9 v=true) (ht:PZ h l v h1):PZ h l v h:=by
 obtain⟨pv,rfl,⟨vr,vq,vv,vt,vu,vo,rfl,h2,h3,h4,h5,h6,h7⟩,_⟩:=ht
 have hf':flat (.agg #[.string (DU l).1,vr,vq,vv,vt,vu,vo,iv (DU l).2.miss])=true:=by
  simp only[E9,List.all_toArray,List.all_cons,Bool.and_eq_true] at hf
  exact hf.1
 simp only[flat,List.all_cons,Bool.and_eq_true] at hf'
 obtain⟨_,f1,f2,f3,f4,f5,f6,_⟩:=hf'
 exact⟨_,rfl,⟨vr,vq,vv,vt,vu,vo,rfl,IN.of (h2.2.flat f1 _ _),h3.flat f2 _ _,h4.flat f3 _ _,h5.flat f4 _ _,AN.flat h6 f5 _ _,AN.flat h7 f6 _ _⟩,rfl,Nat.le_refl _,fun _ _=>rfl⟩
def U3 (lo:Nat) (h:AA) (pv:Value) (nm:ByteArray) (s:AM):Prop:=(pv=RP∧nm=ByteArray.empty∧s=sZ)∨NT lo h pv nm s
theorem U3.pol {lo:Nat} {h:AA} {pv:Value} {nm:ByteArray} {s:AM} (hp:U3 lo h pv nm s):BP lo h pv nm s:=by
 rcases hp with⟨rfl,rfl,rfl⟩ | hp
 ·exact k_ lo h
 ·exact hp.pol
def QJ (h:AA) (l:List AB) (v:Value) (h':AA):Prop:=
 ∃ pv,v=.tuple #[pv,CI (CV l).1.1 (CV l).1.2]∧U3 h.next h' pv (DU l).1 (DU l).2∧h'.floor=h.floor∧h.next≤h'.next∧∀ i,i<h.next→h'.get i=h.get i
theorem QJ.told {h h':AA} {l:List AB} {v:Value} (ht:QJ h l v h'):PZ h l v h':=by
 obtain⟨pv,h1,h2,h3⟩:=ht
 exact⟨pv,h1,h2.pol,h3⟩
theorem Ah {h h1:AA} {l:List AB} {v:Value} (hf:E9 v=true) (ht:QJ h l v h1):QJ h l v h:=by
 obtain⟨pv,rfl,h2,_⟩:=ht
 refine⟨pv,rfl,?_,rfl,Nat.le_refl _,fun _ _=>rfl⟩
 rcases h2 with h2 | ⟨tag,r,vq,vv,vt,vu,vo,rfl,_⟩
 ·exact .inl h2
 ·have hf':flat (.agg #[.string (DU l).1,qS r (DU l).2.rows.length AO,vq,vv,vt,vu,vo,iv (DU l).2.miss])=true:=by
   simp only[E9,List.all_toArray,List.all_cons,Bool.and_eq_true] at hf
   exact hf.1
  simp only[flat,List.all_cons,Bool.and_eq_true] at hf'
  exact absurd hf'.2.1 (by simp[BS])
section
variable {n N:Nat}
theorem Ka {l:List AB} {v:Value} {h:AA} (hfl:h.floor≤h.next) (hg:h.get 0=EA) (hn0:0<h.next) (hv:AQ h v l) (hL:l.length<900000000) (hn:2*l.length+100<n) (hN:l.length+3<N) :
  ∃ v' h',AY Tryz.prog (AK n) N 22 [v] h=some (v',h')∧QJ h l v' h':=by
 refine MH (R:=QJ h l) Tryz.func22 rfl (by simp[Tryz.f22]) ?_
 have hr:Tryz.f22.results.toList=[.cell 2 27,.cell 3 32]:=rfl
 generalize hKK:B_.top (fun e s=>(e=ED.normal∨e=ED.ret)∧∃ vs,F2 Tryz.prog s Tryz.f22.results.toList=some vs∧QJ h l (HL vs) s.h)=K
 have fin:∀ (T':Tr) (H':AA) cs e p nm s,T'.get 2=qP h.next 0→T'.get 3=qP (h.next+1) 0→cs.length=8→E_ h.next H' cs e p→U3 h.next H' (.agg cs.toArray) nm s→(CV l).1=(e,p)→DU l=(nm,s)→h.next≤H'.next→H'.floor=h.floor→(∀ i,i<h.next→H'.get i=h.get i)→K.ap Tryz.prog (AK n) N .ret ⟨T',H'⟩:=by
  intro T' H' cs e p nm s t2 t3 hl ho hp he hout hnx hf hold
  have l30:=IW ho.1 hl
  have l33:A_ 2 0 (H'.get (h.next+1))=some (CI e p):=by rw[ho.2];rfl
  rw[← hKK]
  simp only[eE,seval,↓eP,hr,t2,t3,DT,CR,l30,l33]
  exact⟨_,by rw[he],by rw[hout];exact hp,hf,hnx,hold⟩
 have hz:∀ H',U3 h.next H' RP ByteArray.empty sZ:=fun H'=>.inl ⟨rfl,rfl,rfl⟩
 refine Vh (EJ n).2 hfl hv hg hn0 (fun H hv' hg' hn' hfl'=>Ej (by omega) (by omega) hv' hg' hn' hfl') ?_ ?_
 ·intro hc T' H t2 t3 ho hnx hf hold
  refine fin T' H _ _ _ ByteArray.empty sZ t2 t3 rfl ho (hz H) ?_ ?_ (by omega) hf hold
  ·unfold CV
   rw[if_pos hc]
  ·unfold DU
   have:(CV l).1.1≠0:=by unfold CV;rw[if_pos hc];exact hc
   rw[if_pos this]
 ·intro hc T' H t0 t2 t3 ho hnx hf hold
  have ht:=XC (aC hc)
  have hvH:AQ H v l:=hv.mono (by omega) hold
  have hcw:=fun H' (hv':AQ H' v l)=>N5 (n:=n-1) (BD (f:=49) (args:=[v]) (h:=H') ⟨rfl,rfl,rfl⟩) rfl (uL (call:=AK (n-1)) (N:=n-1) hv' ht.pos (by omega))
  rw[show n-1+1=n by omega] at hcw
  refine Ti (EJ n).2 ht hL (by omega) hvH t0 hcw (fun H' hv' hf'=>Qo ht hv' (by omega) (by omega) hf') ?_
  intro T1 H1 m k c e r c5 c6 fl u0 u2 u3 u5 u6 u7 hp hcl hnx1 hf1 hold1
  have ho1:E_ h.next H1 BY 0 0:=ho.mono (hold1 _ (by omega)) (hold1 _ (by omega))
  refine Gq (a:=h.next) ht hL (by omega) hN u0 (u2.trans t2) (u3.trans t3) u7 (hvH.mono hnx1 hold1) hp hcl (by simp) (by simp) (by simp) (by omega) (by omega) ho1 (by omega) ?_ ?_
  ·intro hgo T2 H2 w2 w3 ho2 hnx2 hf2 hold2
   refine fin T2 H2 _ _ _ ByteArray.empty sZ w2 w3 rfl ho2 (hz H2) ?_ ?_ (by omega) (by omega) fun i hi=>by rw[hold2 i hi,hold1 i (by omega),hold i hi]
   ·unfold CV
    rw[if_neg (by rw[hc];simp)]
    simp only
    rw[if_pos hgo]
   ·unfold DU
    have:(CV l).1.1≠0:=by
     unfold CV
     rw[if_neg (by rw[hc];simp)]
     simp only
     rw[if_pos hgo]
     exact hgo
    rw[if_pos this]
  ·intro hgo T2 H2 hk2 hp2 hin2 haf
   have g5:=(haf.1 c5 (.inr (by simp))).trans hcl.h5
   have g6:=(haf.1 c6 (.inr (by simp))).trans hcl.h6
   have ho2:E_ h.next H2 BY 0 0:=ho1.mono (haf.1 _ (.inl (by omega))) (haf.1 _ (.inl (by omega)))
   have hf2:=haf.2.2
   have hn2:=haf.2.1
   refine yK (a:=h.next) ht hL (by omega) ((hk2 2 (by omega)).trans (u2.trans t2)) ((hk2 3 (by omega)).trans (u3.trans t3)) ((hk2 5 (by omega)).trans u5) ((hk2 6 (by omega)).trans u6) hp2 hin2 g5 g6 (by omega) (by omega) ho2 (by omega) ?_ ?_
   ·intro hlg T3 H3 x2 x3 ho3 hnx3 hf3 hold3
    have hres:(CV l).1=(34,JG (DG (AX l) l.length 0 (CD l)).2.2.rows (AX l) (DG (AX l) l.length 0 (CD l)).2.2.rules):=by
     unfold CV
     rw[if_neg (by rw[hc];simp)]
     simp only
     rw[if_neg (by rw[hgo];simp),if_pos hlg]
    refine fin T3 H3 _ _ _ ByteArray.empty sZ x2 x3 rfl ho3 (hz H3) hres ?_ (by omega) (by omega) fun i hi=>by rw[hold3 i hi,haf.1 i (.inl (by omega)),hold1 i (by omega),hold i hi]
    unfold DU
    rw[if_pos (by rw[hres];simp)]
   ·intro hlg T3 H3 cs x2 x3 hcs ho3 hpol hnx3 hf3 hold3
    have hres:CV l=((0,0),(DG (AX l) l.length 0 (CD l)).2.2):=by
     unfold CV
     rw[if_neg (by rw[hc];simp)]
     simp only
     rw[if_neg (by rw[hgo];simp),if_neg hlg]
    refine fin T3 H3 cs _ _ (MQ l) (DG (AX l) l.length 0 (CD l)).2.2 x2 x3 hcs ho3 (.inr (hpol.weak (by omega))) (by rw[hres]) ?_ (by omega) (by omega) fun i hi=>by rw[hold3 i hi,haf.1 i (.inl (by omega)),hold1 i (by omega),hold i hi]
    unfold DU
    rw[hres]
    simp
theorem Fq {l:List AB} {v:Value} {h:AA} (hfl:h.floor≤h.next) (hg:h.get 0=EA) (hn0:0<h.next) (hv:AQ h v l) (hL:l.length<900000000) (hn:2*l.length+110<n) :
  ∃ v' h',AK n 22 [v] h=some (v',h')∧QJ h l v' h':=by
 obtain⟨n,rfl⟩:=B8 hn
 exact MG (BD ⟨rfl,rfl,rfl⟩) (Ka (n:=n) (N:=n) hfl hg hn0 hv hL (by omega) (by omega)) fun v' h1 hf _ ht=>Ah hf ht
theorem Xn {l:List AB} {v:Value} {h:AA} (hfl:h.floor≤h.next) (hg:h.get 0=EA) (hn0:0<h.next) (hv:AQ h v l) (hL:l.length<900000000) (hn:2*l.length+110<n) :
  ∃ v' h',AK n 22 [v] h=some (v',h')∧PZ h l v' h':=by
 obtain⟨v',h',h1,h2⟩:=Fq (n:=n) hfl hg hn0 hv hL hn
 exact⟨v',h',h1,h2.told⟩
end
def MC (s:AM):Prop:=s.things.length=s.queues.length+s.vars.length+s.tags.length+s.rules.length
theorem Be (l:List AB):MC (CD l):=rfl
theorem Pv {at_:Nat} {end_:Int} {x:AB} {s:AM} (h:MC s):MC (BR at_ end_ x s):=by
 unfold BR
 split
 ·exact h
 ·rename_i hd
  have hk:=Q6 x.kind
  unfold MC at h ⊢
  simp only[FK,List.length_append,List.length_cons,List.length_nil]
  obtain h1 | h1 | h1 | h1:BZ x.kind=1∨BZ x.kind=2∨BZ x.kind=3∨BZ x.kind=4:=by omega
  all_goals (rw[h1];simp;omega)
theorem Rb {at_:Nat} {x:AB} {s:AM} (h:MC s):MC (CF at_ x s):=by
 unfold CF
 split
 ·exact h
 ·split <;> exact h
theorem Bo {at_:Nat} {x:AB} {s:AM} (h:MC s):MC (D3 at_ x s):=by
 unfold D3
 split
 ·exact h
 ·split <;> exact h
theorem Gj {E:List Int} {at_:Nat} {s:AM} (h:MC s):MC (F3 E at_ s).2:=by
 unfold F3
 (repeat' split) <;> first | exact h | exact Bo (Rb (Pv h))
theorem Fe {s:AM} (h:MC s) (hw:LC s):s.things.length<100000:=by
 have:=hw.q;have:=hw.v;have:=hw.t;have:=hw.u
 unfold MC at h
 omega
theorem Vc {S Z:List Int} {k:Int} (h0:0≤k) (h1:k<S.length):MK (S++Z) k=MK S k:=by
 unfold MK
 rw[List.getElem?_append_left (by omega)]
theorem kI {S Z:List Int}:∀ (l:List AB) (a:Int),(∀ x∈l,x.kind=22→0≤x.n∧x.n<S.length)→HE (S++Z) l a=HE S l a
 | [],a,_=>rfl
 | x :: l,a,h=>by
  have ih:=fun b=>kI (S:=S) (Z:=Z) l b fun y hy=>h y (List.mem_cons_of_mem _ hy)
  unfold HE
  rw[ih]
  by_cases h22:x.kind=22
  ·rw[if_pos h22,if_pos h22,Vc (h x (.head _) h22).1 (h x (.head _) h22).2]
  ·rw[if_neg h22,if_neg h22]
theorem Ck {rows:List AB} {E rules:List Int} (hL:VJ rows E rules):K3 rows E rules []=I7 rows E rules:=by
 have key:∀ (r S:List Int),(∃ pre,rules=pre++r∧pre.length=S.length)→QN rows E r S.length (S++List.replicate r.length 0)=K3 rows E r S:=by
  intro r
  induction r with
  | nil=>intro S _;simp[QN,K3]
  | cons ru r ih=>
   rintro S ⟨pre,hp,hl⟩
   have hru:rules[S.length]?=some ru:=by rw[hp,← hl,List.getElem?_append_right (Nat.le_refl _),Nat.sub_self];rfl
   have hrl:=hL.lay.rl ru (List.mem_of_getElem? hru)
   have hc:FY rows E (S++List.replicate (ru :: r).length 0) ru.toNat=FY rows E S ru.toNat:=by
    unfold FY
    refine kI _ _ fun x hx h22=>?_
    have h1:=hL.ahead _ _ hru x hx h22
    have h2:=hL.lay.calls x (List.mem_of_mem_drop (List.mem_of_mem_take hx)) h22
    exact⟨h2.1,h1⟩
   unfold QN K3
   rw[hc]
   have:(S++List.replicate (ru :: r).length 0).set S.length (FY rows E S ru.toNat)=(S++[FY rows E S ru.toNat])++List.replicate r.length 0:=by
    rw[List.set_append_right _ _ (Nat.le_refl _),Nat.sub_self,List.length_cons,List.replicate_succ,List.set_cons_zero,List.append_assoc]
    rfl
   rw[this]
   have:=ih (S++[FY rows E S ru.toNat]) ⟨pre++[ru],by rw[hp];simp,by simp[hl]⟩
   rw[List.length_append,List.length_cons,List.length_nil] at this
   exact this
 have:=key rules [] ⟨[],rfl,rfl⟩
 exact this.symm
theorem GB.trans {h H H':AA} {lo:Nat} (a:GB h H lo) (b:GB H H' lo):GB h H' lo:=⟨fun i hi=>(b.1 i hi).trans (a.1 i hi),Nat.le_trans a.2.1 b.2.1,b.2.2.trans a.2.2⟩
theorem GB.refl (h:AA) (lo:Nat):GB h h lo:=⟨fun _ _=>rfl,Nat.le_refl _,rfl⟩
noncomputable def aP:Code:=inB (ZV Tryz.f61 1)
noncomputable def uX:Code:=rt (rt (rt (rt aP)))
section
variable {n N:Nat}
theorem V5 {T:Tr} {H:AA} {K:B_} {a lo m e r L at_:Nat} {nm:ByteArray} {E:List Int} {s:AM} {x:AB} {e1 κ:Int} (hκ:1≤κ∧κ≤54) (hn:100020<n) (hat:at_<900000000)
  (t2:T.get 2=qP a 0) (t3:T.get 3=qP (a+1) 0) (t5:T.get 5=qP m 0) (t6:T.get 6=iv at_) (t7:T.get 7=iv e1) (t8:T.get 8=iv κ)
  (hp:e1=0→F_ H lo m e r L nm E s∧s.rows[at_]?=some x∧x.kind=κ∧(E8 x.kind=true→x.kind≠10→0≤x.n∧x.n<s.on.length)) (ha:a+1<lo) (hlo:lo≤H.next) (hout:E_ a H BY 0 0) (hfa:H.floor≤a)
  (hbad:∀ e',e'≠0→((e1≠0∧e'=e1)∨(e1=0∧e'=DQ x s))→∀ T' H',T'.get 2=qP a 0→T'.get 3=qP (a+1) 0→E_ a H' BY e' at_→H.next≤H'.next→H'.floor=H.floor→(∀ i,i<a→H'.get i=H.get i)→K.ap Tryz.prog (AK n) N .ret ⟨T',H'⟩)
  (hgood:e1=0→DQ x s=0→∀ T' H',(∀ t:Nat,t≤6→T'.get t=T.get t)→F_ H' lo m e r L nm E (D3 at_ x s)→GB H H' lo→K.ap Tryz.prog (AK n) N .normal ⟨T',H'⟩) :
  WK Tryz.prog (AK n) N uX ⟨T,H⟩ K:=by
 show WK _ _ _ (.seq (.seq _ _) (.seq _ _)) _ _
 cases d:(e1 != 0) with
 | true=>
  have d1:(e1==0)=false:=by simpa using d
  have e0:e1≠0:=by simpa using d
  obtain⟨H',s1,s2,r1,r2,r3,r4⟩:=O1 hout rfl (by omega) (by omega) (cs':=BY) rfl rfl (e':=e1) (p':=at_)
  simp only[eE,seval,↓eP,t2,t3,t6,t7,d,d1,RC,F8,s1,s2]
  refine hbad e1 e0 (.inl ⟨e0,rfl⟩) _ _ ?_ ?_ r1 (by omega) r3 fun i hi=>r4 i (by omega) (by omega)
  ·simp only[eE,seval,↓eP,rP,t2]
  ·simp only[eE,seval,↓eP,rP,t3]
 | false=>
  have e0:e1=0:=by simpa using d
  subst e0
  obtain⟨hp1,hx,hk,hxn⟩:=hp rfl
  have hV:=GP (n:=n) (HD (k:=12) (jA κ H hκ))
  have z0:((0:Int)==0)=true:=rfl
  cases dv:E8 κ with
  | false=>
   rw[dv] at hV
   rw[← hk] at dv
   have h1:DQ x s=0:=by unfold DQ;rw[if_pos dv]
   have h2:D3 at_ x s=s:=by unfold D3;rw[if_pos dv]
   simp only[eE,seval,↓eP,t7,t8,d,hV]
   refine hgood rfl h1 _ _ (fun t ht=>?_) (by rw[h2];exact hp1) (GB.refl _ _)
   simp only[Tr.get_put,Option.some.injEq]
   repeat rw[if_neg (by omega)]
  | true=>
   rw[dv] at hV
   rw[← hk] at dv
   obtain⟨H2,q1,q2,q3⟩:=Bn (n:=n) (at_:=at_) hp1 hx dv (by omega) (hxn dv) (by omega)
   have n2:=q2.2.1
   have f2:=q2.2.2
   have hout2:E_ a H2 BY 0 0:=hout.mono (q2.1 a (by omega)) (q2.1 (a+1) ha)
   cases d2:(DQ x s != 0) with
   | true=>
    have e2:DQ x s≠0:=by simpa using d2
    obtain⟨H',s1,s2,r1,r2,r3,r4⟩:=O1 hout2 rfl (by omega) (by omega) (cs':=BY) rfl rfl (e':=DQ x s) (p':=at_)
    simp only[eE,seval,↓eP,t2,t3,t5,t6,t7,t8,hV,q1,d2,RC,F8,s1,s2]
    refine hbad _ e2 (.inr ⟨rfl,rfl⟩) _ _ ?_ ?_ r1 (by omega) (by omega) fun i hi=>by rw[r4 i (by omega) (by omega),q2.1 i (by omega)]
    ·simp only[eE,seval,↓eP,rP,t2]
    ·simp only[eE,seval,↓eP,rP,t3]
   | false=>
    have e2:DQ x s=0:=by simpa using d2
    simp only[eE,seval,↓eP,t5,t6,t7,t8,hV,q1,d2]
    refine hgood rfl e2 _ _ (fun t ht=>?_) (q3 e2) q2
    simp only[Tr.get_put,Option.some.injEq]
    repeat rw[if_neg (by omega)]
theorem Dx {l:List AB} {v:Value} {T:Tr} {H:AA} {K:B_} {a lo m e r at_:Nat} {nm:ByteArray} {s:AM} {x:AB} (ht:CU l) (hL:l.length<900000000) (hn:100020<n) (hat:at_<l.length)
  (t0:T.get 0=v) (t2:T.get 2=qP a 0) (t3:T.get 3=qP (a+1) 0) (t5:T.get 5=qP m 0) (t6:T.get 6=iv at_) (hv:AQ H v l)
  (hp:F_ H lo m e r l.length nm (AX l) s) (hi:HR l at_ s) (hT:MC s) (hx:s.rows[at_]?=some x) (ha:a+1<lo) (hlo:lo≤H.next) (hout:E_ a H BY 0 0) (hfa:H.floor≤a)
  (hbad:(F3 (AX l) at_ s).1≠0→∀ T' H',T'.get 2=qP a 0→T'.get 3=qP (a+1) 0→E_ a H' BY (F3 (AX l) at_ s).1 at_→H.next≤H'.next→H'.floor=H.floor→(∀ i,i<a→H'.get i=H.get i)→K.ap Tryz.prog (AK n) N .ret ⟨T',H'⟩)
  (hgood:(F3 (AX l) at_ s).1=0→∀ T' H',(∀ t:Nat,t≤6→T'.get t=T.get t)→F_ H' lo m e r l.length nm (AX l) (F3 (AX l) at_ s).2→GB H H' lo→K.ap Tryz.prog (AK n) N .normal ⟨T',H'⟩) :
  WK Tryz.prog (AK n) N aP ⟨T,H⟩ K:=by
 have hkind:=VV ht hi x (List.mem_of_getElem? hx)
 have hxl:l[at_]?=some x:=by rw[← hi.later at_ (Nat.le_refl _)];exact hx
 have hth:=Fe hT hi.wf
 have hEat:(AX l)[at_]?=some (AC l at_:Int):=N_ hat
 have hEd:((AX l)[at_]?).getD 0=(AC l at_:Int):=by rw[hEat];rfl
 have hD:=fun H=>GP (n:=n) (HD (k:=12) (zN x.kind H hkind))
 have hC:=fun H=>GP (n:=n) (HD (k:=12) (Ia x.kind H hkind))
 have hV:=fun H=>GP (n:=n) (HD (k:=12) (jA x.kind H hkind))
 have z0:((0:Int) != 0)=false:=rfl
 have hnx:=hi.wf
 obtain⟨rid,p,e0,hid,l0,l1,l2,l3,l4,lr⟩:=hv.row hxl
 show WK _ _ _ (.seq _ (.seq _ (.seq (.seq _ _) (.seq (.seq _ _) uX)))) _ _
 by_cases hd:BZ x.kind=0
 ·rw [hd] at hD
  rw[lI hx hd] at hbad hgood
  have hxn:∀ x2 s2,DB at_ x s=0→(CF at_ x s).rows[at_]?=some x2→s2=CF at_ x s→LC s2→x2.kind=x.kind→E8 x2.kind=true→x2.kind≠10→0≤x2.n∧x2.n<s2.on.length:=by
   intro x2 s2 hc hx2 hs2 hw hk2 hev h10
   obtain⟨n2,a1,a2,a3,a4,a5,a6⟩:=YN hx hc
   rw[a1] at hx2
   cases hx2
   have hdd:=qI (k:=x.kind) hev h10
   rcases a6 with⟨b1,_⟩ | ⟨t,b1,b2,b3,_⟩
   ·rw[hdd.1] at b1
    cases b1
   ·rw[hdd.1] at b2
    rw[← a5,← hs2] at b1
    obtain⟨_,_,q1,q2,_⟩:=hw.th t b1
    rw[b2] at q2
    have q3:t.num<(s2.queues.length:Int):=q2
    rw[← hw.o] at q3
    simp only
    rw[b3]
    exact⟨q1,q3⟩
  by_cases hc:EC x.kind=0
  ·rw[hc] at hC
   have h1:DB at_ x s=0:=by unfold DB;rw[if_pos hc]
   have h2:CF at_ x s=s:=by unfold CF;rw[if_pos hc]
   rw[h1,h2] at hbad hgood
   rw[if_neg (by simp),hx] at hbad hgood
   simp only at hbad hgood
   simp only[eE,seval,↓eP,t0,t6,e0,BC,AL,l0,hD,hC,z0]
   refine V5 (e1:=0) (κ:=x.kind) (x:=x) (s:=s) (E:=AX l) (lo:=lo) (m:=m) hkind hn (by omega) (by simp only[eE,seval,↓eP,rP,t2]) (by simp only[eE,seval,↓eP,rP,t3]) (by simp only[eE,seval,↓eP,rP,t5]) (by simp only[eE,seval,↓eP,rP,t6]) (by simp only[eE,seval,↓eP,rP]) (by simp only[eE,seval,↓eP,rP]) (fun _=>⟨hp,hx,rfl,fun hev h10=>hxn x s h1 (by rw[h2];exact hx) h2.symm hi.wf rfl hev h10⟩) ha hlo hout hfa ?_ ?_
   ·rintro e' he' (⟨h,_⟩ | ⟨_,rfl⟩)
    ·exact absurd rfl h
    ·rw[if_pos he'] at hbad
     exact hbad he'
   ·intro _ hev T' H' hk' hp' ha'
    rw[if_neg (by rw[hev];simp)] at hgood
    refine hgood rfl T' H' (fun t ht=>?_) hp' ha'
    rw[hk' t ht]
    simp only[Tr.get_put,Option.some.injEq]
    repeat rw[if_neg (by omega)]
  ·have d2:(EC x.kind != 0)=true:=by simpa using hc
   obtain⟨H2,q1,q2,q3⟩:=Ji (n:=n) (at_:=at_) hp hx hc (by omega) hth (by omega)
   have n2:=q2.2.1
   have f2:=q2.2.2
   have hout2:=hout.mono (q2.1 a (by omega)) (q2.1 (a+1) ha)
   simp only[eE,seval,↓eP,t0,t5,t6,e0,BC,AL,l0,hD,hC,z0,d2,q1]
   by_cases h1:DB at_ x s=0
   ·obtain⟨n1,a1,_⟩:=YN hx h1
    have hp2:=q3 h1
    have hw2:LC (CF at_ x s):=by
     obtain⟨_,_,_,hw⟩:=id hp2
     exact hw
    rw[if_neg (by rw[h1];simp),a1] at hbad hgood
    simp only at hbad hgood
    rw[h1]
    refine V5 (e1:=0) (κ:=x.kind) (x:={ x with n:=n1 }) (s:=CF at_ x s) (E:=AX l) (lo:=lo) (m:=m) hkind hn (by omega) (by simp only[eE,seval,↓eP,rP,t2]) (by simp only[eE,seval,↓eP,rP,t3]) (by simp only[eE,seval,↓eP,rP,t5]) (by simp only[eE,seval,↓eP,rP,t6]) (by simp only[eE,seval,↓eP,rP]) (by simp only[eE,seval,↓eP,rP]) (fun _=>⟨hp2,a1,rfl,fun hev h10=>hxn _ _ h1 a1 rfl hw2 rfl hev h10⟩) ha (by omega) hout2 (by omega) ?_ ?_
    ·rintro e' he' (⟨h,_⟩ | ⟨_,rfl⟩)
     ·exact absurd rfl h
     ·rw[if_pos he'] at hbad
      exact fun T' H' w2 w3 ho hnx hfx hox=>hbad he' T' H' w2 w3 ho (by omega) (by omega) fun i hi=>by rw[hox i hi,q2.1 i (by omega)]
    ·intro _ hev T' H' hk' hp' ha'
     rw[if_neg (by rw[hev];simp)] at hgood
     refine hgood rfl T' H' (fun t ht=>?_) hp' (q2.trans ha')
     rw[hk' t ht]
     simp only[Tr.get_put,Option.some.injEq]
     repeat rw[if_neg (by omega)]
   ·rw[if_pos h1] at hbad
    refine V5 (e1:=DB at_ x s) (κ:=x.kind) (x:=x) (s:=s) (E:=AX l) (lo:=lo) (m:=m) (e:=e) (r:=r) (nm:=nm) (L:=l.length) (at_:=at_) hkind hn (by omega) (by simp only[eE,seval,↓eP,rP,t2]) (by simp only[eE,seval,↓eP,rP,t3]) (by simp only[eE,seval,↓eP,rP,t5]) (by simp only[eE,seval,↓eP,rP,t6]) (by simp only[eE,seval,↓eP,rP]) (by simp only[eE,seval,↓eP,rP]) (fun h=>absurd h h1) ha (by omega) hout2 (by omega) ?_ (fun h=>absurd h h1)
    rintro e' he' (⟨_,rfl⟩ | ⟨h,_⟩)
    ·exact fun T' H' w2 w3 ho hnx hfx hox=>hbad he' T' H' w2 w3 ho (by omega) (by omega) fun i hi=>by rw[hox i hi,q2.1 i (by omega)]
    ·exact absurd h h1
 ·have d1:(BZ x.kind != 0)=true:=by simpa using hd
  obtain⟨hc0,hv0⟩:=kR hd
  rw[hc0] at hC
  rw[vU hx hd,hEd] at hbad hgood
  obtain⟨H2,q1,q2,q3⟩:=Au (n:=n) (at_:=at_) hp hx hd (by omega) hEat (by omega) hth (by omega)
  have n2:=q2.2.1
  have f2:=q2.2.2
  have hout2:=hout.mono (q2.1 a (by omega)) (q2.1 (a+1) ha)
  simp only[eE,seval,↓eP,t0,t5,t6,e0,BC,AL,l0,hD,hC,z0,d1,q1]
  by_cases h1:EH x s=0
  ·obtain⟨n1,a1⟩:=bF (end_:=(AC l at_:Int)) hx
   have hp2:=q3 h1
   have hev:E8 ({ x with n:=n1 }:AB).kind=false:=hv0
   have g1:DQ { x with n:=n1 } (BR at_ (AC l at_) x s)=0:=by unfold DQ;rw[if_pos hev]
   have g2:D3 at_ { x with n:=n1 } (BR at_ (AC l at_) x s)=BR at_ (AC l at_) x s:=by unfold D3;rw[if_pos hev]
   rw[if_neg (by rw[h1];simp)] at hbad hgood
   rw[h1]
   refine V5 (e1:=0) (κ:=x.kind) (x:={ x with n:=n1 }) (s:=BR at_ (AC l at_) x s) (E:=AX l) (lo:=lo) (m:=m) hkind hn (by omega) (by simp only[eE,seval,↓eP,rP,t2]) (by simp only[eE,seval,↓eP,rP,t3]) (by simp only[eE,seval,↓eP,rP,t5]) (by simp only[eE,seval,↓eP,rP,t6]) (by simp only[eE,seval,↓eP,rP]) (by simp only[eE,seval,↓eP,rP]) (fun _=>⟨hp2,a1,rfl,fun h=>by rw[hev] at h;cases h⟩) ha (by omega) hout2 (by omega) ?_ ?_
   ·rintro e' he' (⟨h,_⟩ | ⟨_,rfl⟩)
    ·exact absurd rfl h
    ·exact absurd g1 he'
   ·intro _ _ T' H' hk' hp' ha'
    rw[g2] at hp'
    refine hgood rfl T' H' (fun t ht=>?_) hp' (q2.trans ha')
    rw[hk' t ht]
    simp only[Tr.get_put,Option.some.injEq]
    repeat rw[if_neg (by omega)]
  ·rw[if_pos h1] at hbad
   refine V5 (e1:=EH x s) (κ:=x.kind) (x:=x) (s:=s) (E:=AX l) (lo:=lo) (m:=m) (e:=e) (r:=r) (nm:=nm) (L:=l.length) (at_:=at_) hkind hn (by omega) (by simp only[eE,seval,↓eP,rP,t2]) (by simp only[eE,seval,↓eP,rP,t3]) (by simp only[eE,seval,↓eP,rP,t5]) (by simp only[eE,seval,↓eP,rP,t6]) (by simp only[eE,seval,↓eP,rP]) (by simp only[eE,seval,↓eP,rP]) (fun h=>absurd h h1) ha (by omega) hout2 (by omega) ?_ (fun h=>absurd h h1)
   rintro e' he' (⟨_,rfl⟩ | ⟨h,_⟩)
   ·exact fun T' H' w2 w3 ho hnx hfx hox=>hbad he' T' H' w2 w3 ho (by omega) (by omega) fun i hi=>by rw[hox i hi,q2.1 i (by omega)]
   ·exact absurd h h1
end
def bG:List (Bool × Bool × List Operand):=[A7,A7,A7,A7,AI [.tmp 83],AI [.tmp 83],AI [.tmp 83],AI [.tmp 83],AP,AP]
def bH:List (Bool × Bool × List Operand):=[HT,A7,A7,A7,A7,AI [.tmp 105],AI [.tmp 105],AI [.tmp 105],AI [.tmp 105],AI [.tmp 105,.tmp 109],AI [.tmp 105,.tmp 109],AI [.tmp 105,.tmp 109],AP,AP,AP]
theorem KV {T:Tr} {d t:Nat} {v:Value} (h:t<d):(T.put (some d) v).get t=T.get t:=by
 rw[Tr.get_put,if_neg (fun h9=>by have h8:d=t:=Option.some.inj h9;omega)]
section
variable {n N:Nat}
theorem Ac {l:List AB} {v:Value} {T:Tr} {H:AA} {K:B_} {a lo m e r:Nat} {nm:ByteArray} (ht:CU l) (hL:l.length<900000000) (hn:100020<n) (hN:l.length+3<N)
  (t0:T.get 0=v) (t2:T.get 2=qP a 0) (t3:T.get 3=qP (a+1) 0) (t5:T.get 5=qP m 0) (hv:AQ H v l) (hvl:∀ H',(∀ i,i<lo→H'.get i=H.get i)→H.next≤H'.next→AQ H' v l)
  (hp:F_ H lo m e r l.length nm (AX l) (CD l)) (ha:a+1<lo) (hlo:lo≤H.next) (hout:E_ a H BY 0 0) (hfa:H.floor≤a)
  (hbad:(DG (AX l) l.length 0 (CD l)).1≠0→∀ T' H',T'.get 2=qP a 0→T'.get 3=qP (a+1) 0→E_ a H' BY (DG (AX l) l.length 0 (CD l)).1 (DG (AX l) l.length 0 (CD l)).2.1→H.next≤H'.next→H'.floor=H.floor→(∀ i,i<a→H'.get i=H.get i)→K.ap Tryz.prog (AK n) N .ret ⟨T',H'⟩)
  (hgood:(DG (AX l) l.length 0 (CD l)).1=0→∀ T' H',(∀ t,t≤5→T'.get t=T.get t)→F_ H' lo m e r l.length nm (AX l) (DG (AX l) l.length 0 (CD l)).2.2→HR l l.length (DG (AX l) l.length 0 (CD l)).2.2→GB H H' lo→WK Tryz.prog (AK n) N ZR ⟨T',H'⟩ K) :
  WK Tryz.prog (AK n) N WT ⟨T,H⟩ K:=by
 show WK _ _ _ (.seq (.seq _ (.block 0 (.loop (.seq _ (.seq (.block 1 aP) _))))) ZR) _ _
 simp only[eE,seval,↓eP]
 refine WK.loop (fun i s'=>s'.T.get 6=iv i∧i≤l.length∧(∀ t,t≤5→s'.T.get t=T.get t)∧GB H s'.h lo∧∃ s,F_ s'.h lo m e r l.length nm (AX l) s∧HR l i s∧MC s∧DG (AX l) (l.length-i) i s=DG (AX l) l.length 0 (CD l)) l.length (by omega) ?_ ?_
 ·refine⟨by simp only[eE,↓reduceIte,Nat.reduceEqDiff,reduceCtorEq,↓eP,rP,Nat.reduceAdd,Nat.reduceLT];rfl,by omega,fun t ht=>?_,GB.refl _ _,CD l,hp,VQ l,Be l,rfl⟩
  simp only[Tr.get_put,Option.some.injEq]
  repeat rw[if_neg (by omega)]
 ·rintro i ⟨T1,H1⟩ hi ⟨t6,hil,hkeep,haf,s,hp1,hin,hT,hgo⟩
  simp only at t6 hkeep haf hp1
  have u0:=(hkeep 0 (by omega)).trans t0
  have hv1:=hvl H1 haf.1 haf.2.1
  have hlen:=fun h'=>hv1.len (h':=h')
  by_cases hlt:i<l.length
  ·have c1:decide ((i:Int)<(l.length:Int))=true:=by simp;omega
   obtain⟨x,hx⟩:∃ x,s.rows[i]?=some x:=⟨_,List.getElem?_eq_getElem (by rw[hin.len];exact hlt)⟩
   have hr:l.length-i=(l.length-(i+1))+1:=by omega
   rw[hr] at hgo
   have hout1:E_ a H1 BY 0 0:=hout.mono (haf.1 a (by omega)) (haf.1 (a+1) ha)
   have hn1:=haf.2.1
   have hf1:=haf.2.2
   have w1:=DF i (by omega)
   have hkp:∀ t:Nat,t≤6→((((T1.put (some 39) (iv i)).put (some 40) v).put (some 41) (iv l.length)).put (some 42) (Value.bool true)).get t=T1.get t:=fun t ht=>by
    rw[KV (by omega),KV (by omega),KV (by omega),KV (by omega)]
   simp only[eE,seval,↓eP,u0,t6,hlen,c1]
   refine Dx (a:=a) (at_:=i) (s:=s) (x:=x) ht hL hn hlt ((hkp 0 (by omega)).trans u0) ((hkp 2 (by omega)).trans ((hkeep 2 (by omega)).trans t2)) ((hkp 3 (by omega)).trans ((hkeep 3 (by omega)).trans t3)) ((hkp 5 (by omega)).trans ((hkeep 5 (by omega)).trans t5)) ((hkp 6 (by omega)).trans t6) hv1 hp1 hin hT hx ha (by omega) hout1 (by omega) ?_ ?_
   ·intro he T' H' g2 g3 ho hnx hfx hox
    have hg:DG (AX l) l.length 0 (CD l)=((F3 (AX l) i s).1,i,s):=by
     rw[← hgo]
     unfold DG
     rw[if_pos he]
    simp only[eE,seval,↓eP]
    refine hbad (by rw[hg];exact he) T' H' g2 g3 (by rw[hg];exact ho) (by omega) (by omega) fun q hq=>(hox q hq).trans (haf.1 q (by omega))
   ·intro he T' H' hk' hp' haf'
    have hin':=U5 ht (VC i) hlt hin he
    have hg:DG (AX l) (l.length-(i+1)) (i+1) (F3 (AX l) i s).2=DG (AX l) l.length 0 (CD l):=by
     rw[← hgo]
     conv=>rhs;unfold DG
     rw[if_neg (by rw[he];simp)]
    have u6:=(hk' 6 (by omega)).trans ((hkp 6 (by omega)).trans t6)
    simp only[eE,seval,↓eP,u6,w1]
    refine⟨hlt,by omega,fun t ht=>?_,haf.trans haf',_,hp',hin',Gj hT,hg⟩
    repeat rw[if_neg (by omega)]
    exact(hk' t (by omega)).trans ((hkp t (by omega)).trans (hkeep t ht))
  ·have c1:decide ((i:Int)<(l.length:Int))=false:=by simp;omega
   have:i=l.length:=by omega
   subst this
   have hg:DG (AX l) l.length 0 (CD l)=(0,l.length,s):=by
    rw[← hgo,Nat.sub_self]
    rfl
   simp only[eE,seval,↓eP,u0,t6,hlen,c1]
   refine hgood (by rw[hg]) _ _ (fun t ht=>?_) (by rw[hg];exact hp1) (by rw[hg];exact hin) haf
   simp only[Tr.get_put,Option.some.injEq]
   repeat rw[if_neg (by omega)]
   exact hkeep t ht
theorem CQ.polAt {h:AA} {lo m e r n:Nat} {nm:ByteArray} {E:List Int} {tag:Nat→Nat} {V:Nat→Value} {C:List Int} {s:AM} (hp:CQ h lo m e r n nm E tag V C s) :
  BP lo h (.agg #[.string nm,qS r n AO,V 2,V 3,V 4,V 5,V 6,iv s.miss]) nm s:=by
 have hs:=fun j h2 h8=>hp.sl j h2 h8
 refine⟨_,V 2,V 3,V 4,V 5,V 6,rfl,IN.of ?_,(hs 2 (by omega) (by omega)).cells (N6 _),(hs 3 (by omega) (by omega)).cells (by simp[Fsx,FB,CJ]),(hs 4 (by omega) (by omega)).cells (by simp[Fsx,FB,CJ]),(hs 5 (by omega) (by omega)).cells (by simp[Fsx,FB,F9]),(hs 6 (by omega) (by omega)).cells (by simp[Fsx,FB,F9])⟩
 have hl:=hp.len
 subst hl
 exact AN.row (ex:=[]) (by rw[List.append_nil];exact hp.rows) hp.lr (J7 _)
theorem Uz (hsn:CK (AK n)) {l:List AB} {v:Value} {T:Tr} {H:AA} {K:B_} {a lo m e r:Nat} {nm:ByteArray} {s:AM} (ht:CU l) (hL:l.length<900000000) (hn:l.length+200<n) (hN:l.length+3<N)
  (t0:T.get 0=v) (t2:T.get 2=qP a 0) (t3:T.get 3=qP (a+1) 0) (t5:T.get 5=qP m 0) (hv:AQ H v l)
  (hp:F_ H lo m e r l.length nm (AX l) s) (hin:HR l l.length s) (hLR:VJ s.rows (AX l) s.rules) (ha:a+1<lo) (hlo:lo≤H.next) (hout:E_ a H BY 0 0) (hfa:H.floor≤a)
  (hbad:JG s.rows (AX l) s.rules≥0→∀ T' H',T'.get 2=qP a 0→T'.get 3=qP (a+1) 0→E_ a H' BY 34 (JG s.rows (AX l) s.rules)→H.next≤H'.next→H'.floor=H.floor→(∀ i,i<a→H'.get i=H.get i)→K.ap Tryz.prog (AK n) N .ret ⟨T',H'⟩)
  (hgood:¬ JG s.rows (AX l) s.rules≥0→∀ T' H' cs,T'.get 2=qP a 0→T'.get 3=qP (a+1) 0→cs.length=8→E_ a H' cs 0 0→BP lo H' (.agg cs.toArray) nm s→H.next≤H'.next→H'.floor=H.floor→(∀ i,i<a→H'.get i=H.get i)→K.ap Tryz.prog (AK n) N .ret ⟨T',H'⟩) :
  WK Tryz.prog (AK n) N ZR ⟨T,H⟩ K:=by
 show WK _ _ _ (.seq (.region _ _ true) (.seq _ (.seq (.seq _ (.block 2 (.loop (.seq _ (.seq (.block 3 (.seq _ (.cond _ (.seq (.region _ _ true) _) _))) _))))) (.seq _ _)))) _ _
 obtain⟨tag,V,hp',hw⟩:=id hp
 have hLy:=hLR.lay
 have hsl:s.rows.length=l.length:=hin.len
 have hu:=hin.wf.u
 have hml:=hp'.lm
 have l8:A_ 8 0 (H.get m)=some (.agg #[.string nm,qS r l.length AO,V 2,V 3,V 4,V 5,V 6,iv s.miss]):=by rw[hp'.cell];rfl
 have c8:=hp'.c8
 have hpol:=hp'.polAt
 have cR:=fun j h2 h8=>hp'.sl j h2 h8
 have q2:=((cR 2 (by omega) (by omega)).cells (w:=2) (N6 _)).one
 have q3:=((cR 3 (by omega) (by omega)).cells (w:=1) (by simp[Fsx,FB,CJ])).one
 have q4:=((cR 4 (by omega) (by omega)).cells (w:=1) (by simp[Fsx,FB,CJ])).one
 have C5:AW lo H (V 5) s.rules:=(cR 5 (by omega) (by omega)).cells (w:=1) (by simp[Fsx,FB,F9])
 have q5:=AN.one C5
 have q6:=((cR 6 (by omega) (by omega)).cells (w:=1) (by simp[Fsx,FB,F9])).one
 have hE:(AX l).length=l.length:=PR
 have hCE:AW lo H (qS e (AX l).length (AX l).length) (AX l):=AW.row' hp'.ends hp'.le rfl
 have hrv:AQ H (qS r l.length AO) s.rows:=by rw[← hsl];exact cQ hp'.rows hp'.lr.2
 have hfx:∀ (f i:Nat),(H.fl f).get i=H.get i:=fun _ _=>rfl
 obtain⟨vS,H2,hS,hI,f2,n2,o2⟩:=Mc (n:=n) (h:=H) (v0:=.string nm) (vr:=qS r l.length AO) (vq:=V 2) (vv:=V 3) (vt:=V 4) (vu:=V 5) (vo:=V 6) (v7:=iv s.miss) (rows:=s.rows) (rules:=s.rules) ⟨rfl,q2,q3,q4,q6,rfl⟩ hrv hCE C5 hLR (by omega) (by omega)
 rw[Ck hLR] at hI
 have hmT:(m<H.next)=True:=by simp;omega
 rw[KA]
 refine WK.flags (fs:=bG) (by kernel_rfl) ?_
 unfold bG
 iterate 10
  refine DI hsn ?_
  simp only[rG,seval,AD,AF,AE,CT,DC,CM,C4,DJ,t5,IG,hmT,DT,l8,cO,C3,c8,hS]
 refine DH ?_
 have oA:∀ i,i<H.next→(H2.fl H.floor).get i=H.get i:=o2
 have nA:H.next≤(H2.fl H.floor).next:=n2
 have fA:(H2.fl H.floor).floor=H.floor:=rfl
 have hIA:AW H.next (H2.fl H.floor) vS (I7 s.rows (AX l) s.rules):=hI.mono (Nat.le_refl _) fun _ _ _=>rfl
 generalize H2.fl H.floor=A at *
 have l8A:A_ 8 0 (A.get m)=some (.agg #[.string nm,qS r l.length AO,V 2,V 3,V 4,V 5,V 6,iv s.miss]):=by rw[oA m hml.2];exact l8
 have c8A:AH 8 (A.get m)=some (qS e (AX l).length (AX l).length):=by rw[oA m hml.2];exact c8
 have hvA:AQ A v l:=hv.mono nA oA
 have hrvA:AQ A (qS r l.length AO) s.rows:=hrv.mono nA oA
 have hCEA:AW lo A (qS e (AX l).length (AX l).length) (AX l):=hCE.mono nA fun i _ hi=>oA i hi
 have houtA:E_ a A BY 0 0:=hout.mono (oA a (by omega)) (oA (a+1) (by omega))
 have hmA:(m<A.next)=True:=by simp;omega
 have hSum:=(Z1 (rows:=s.rows) (E:=AX l) (rules:=s.rules))
 have hlenA:=fun h'=>hvA.len (h':=h')
 simp only[eE,seval,↓eP]
 refine WK.loop (fun i s'=>s'.T.get 9=vS∧s'.T.get 11=iv i∧i≤l.length∧(∀ t:Nat,t≤5→s'.T.get t=T.get t)∧s'.h=A∧∃ a0:Int,s'.T.get 10=iv a0∧0≤a0∧a0≤4611686018427387904∧OT s.rows (AX l) (I7 s.rows (AX l) s.rules) (s.rows.drop i) i a0=JG s.rows (AX l) s.rules) l.length (by omega) ?_ ?_
 ·refine⟨by simp only[eE,↓reduceIte,Nat.reduceEqDiff,reduceCtorEq,↓eP,rP,Nat.reduceAdd,Nat.reduceLT],by simp only[eE,↓reduceIte,Nat.reduceEqDiff,reduceCtorEq,↓eP,rP,Nat.reduceAdd,Nat.reduceLT];rfl,by omega,fun t ht=>?_,rfl,0,by simp only[eE,↓reduceIte,Nat.reduceEqDiff,reduceCtorEq,↓eP,rP,Nat.reduceAdd,Nat.reduceLT],by omega,by omega,rfl⟩
  rw[KV (by omega),KV (by omega),KV (by omega),KV (by omega),KV (by omega),KV (by omega),KV (by omega),KV (by omega),KV (by omega),KV (by omega),KV (by omega),KV (by omega)]
 ·rintro i ⟨T1,H1⟩ hi ⟨t9,t11,hil,hkeep,hh,a0,t10,ha0,haB,hcn⟩
  simp only at t9 t11 hkeep hh t10
  subst hh
  have u0:=(hkeep 0 (by omega)).trans t0
  have u2:=(hkeep 2 (by omega)).trans t2
  have u3:=(hkeep 3 (by omega)).trans t3
  have u5:=(hkeep 5 (by omega)).trans t5
  by_cases hlt:i<l.length
  ·have c1:decide ((i:Int)<(l.length:Int))=true:=by simp;omega
   obtain⟨y,hy⟩:∃ y,l[i]?=some y:=⟨_,List.getElem?_eq_getElem hlt⟩
   obtain⟨x,hx⟩:∃ x,s.rows[i]?=some x:=⟨_,List.getElem?_eq_getElem (by omega)⟩
   have hxy:x.kind=y.kind:=by
    obtain⟨y',hy',he⟩:=hin.same i x hx
    rw[hy] at hy'
    cases hy'
    rw[he]
   obtain⟨rid,p,e0,hid,l0,l1,l2,l3,l4,lr⟩:=hvA.row hy
   have hkx:=VV ht hin x (List.mem_of_getElem? hx)
   rw[hxy] at hkx
   have hV:=GP (n:=n) (HD (k:=12) (jA y.kind H1 hkx))
   have w1:=DF i (by omega)
   have hdr:s.rows.drop i=x :: s.rows.drop (i+1):=by
    obtain⟨hl,rfl⟩:=List.getElem?_eq_some_iff.1 hx
    exact List.drop_eq_getElem_cons hl
   rw[hdr] at hcn
   change (if E8 x.kind=false then OT s.rows (AX l) (I7 s.rows (AX l) s.rules) (s.rows.drop (i+1)) (i+1) a0 else if F6 a0 (FY s.rows (AX l) (I7 s.rows (AX l) s.rules) (i+1))>16384 then (i:Int) else OT s.rows (AX l) (I7 s.rows (AX l) s.rules) (s.rows.drop (i+1)) (i+1) (F6 a0 (FY s.rows (AX l) (I7 s.rows (AX l) s.rules) (i+1))))=_ at hcn
   cases dv:E8 y.kind with
   | false=>
    rw[dv] at hV
    rw[if_pos (by rw[hxy];exact dv)] at hcn
    simp only[eE,seval,↓eP,u0,t9,t10,t11,hlenA,c1,e0,BC,AL,l0,hV,w1]
    refine⟨by omega,by omega,fun t ht=>?_,ha0,haB,hcn⟩
    repeat rw[if_neg (by omega)]
    exact hkeep t ht
   | true=>
    rw[dv] at hV
    rw[if_neg (by rw[hxy,dv];simp)] at hcn
    have hi1:=xJ ht hin i x hx (by rw[hxy];exact dv)
    have hlaid:=vJ (n:=n) (h:=H1) (v0:=.string nm) (vr:=qS r l.length AO) (vq:=V 2) (vv:=V 3) (vt:=V 4) (vu:=V 5) (vo:=V 6) (v7:=iv s.miss) (row:=i+1) ⟨rfl,q2,q3,q4,q5,q6,rfl⟩ hrvA hCEA hIA hSum.1 hLy hi1 (by omega) (fun z hz h22=>by
     rw[hSum.2]
     exact hLy.calls z (List.mem_of_mem_drop (List.mem_of_mem_take hz)) h22)
    have hcA:=R_ (rows:=s.rows) (E:=AX l) hSum.1 (i+1)
    have hpl:=GP (n:=n) (mQ H1 hcA ⟨ha0,haB⟩)
    have hpn:=QT ha0 hcA.1 hcA.2
    simp only[eE,seval,↓eP,u0,t11,hlenA,c1,e0,BC,AL,l0,hV]
    refine WK.flags (fs:=bH) (by kernel_rfl) ?_
    unfold bH
    iterate 15
     refine DI hsn ?_
     simp only[rG,seval,AD,AF,AE,CT,DC,CM,C4,DJ,t10,u5,IG,hmA,DT,l8A,cO,C3,c8A,t9,t11,w1,hlaid,hpl]
    refine DH ?_
    cases dg:decide (F6 a0 (FY s.rows (AX l) (I7 s.rows (AX l) s.rules) (i+1))>16384) with
    | true=>
     rw[if_pos (by simpa using dg)] at hcn
     obtain⟨H',s1,s2,r1,r2,r3,r4⟩:=O1 houtA rfl (by omega) (by omega) (cs':=BY) rfl rfl (e':=34) (p':=(i:Int))
     simp only[eE,seval,↓eP,u2,u3,t11,dg,RC,F8,s1,s2]
     refine hbad (by rw[← hcn];omega) _ _ ?_ ?_ (by rw[← hcn];exact r1) (by omega) (by omega) fun i hi=>by rw[r4 i (by omega) (by omega),oA i (by omega)]
     ·simp only[eE,seval,↓eP,rP,u2]
     ·simp only[eE,seval,↓eP,rP,u3]
    | false=>
     rw[if_neg (by simpa using dg)] at hcn
     simp only[eE,seval,↓eP,t9,t11,dg,w1]
     refine⟨by omega,by omega,fun t ht=>?_,hpn.1,hpn.2,hcn⟩
     have hne:∀ d:Nat,5<d→¬ (d=t):=fun d hd=>by omega
     repeat rw[if_neg (hne _ (by decide))]
     exact hkeep t ht
  ·have c1:decide ((i:Int)<(l.length:Int))=false:=by simp;omega
   have hneg:¬ JG s.rows (AX l) s.rules≥0:=by
    rw[← hcn,List.drop_of_length_le (by omega)]
    show ¬ ((-1:Int)≥0)
    omega
   obtain⟨H',s1,s2,r1,r2,r3,r4⟩:=O1 houtA rfl (by omega) (by omega) (cs':=[.string nm,qS r l.length AO,V 2,V 3,V 4,V 5,V 6,iv s.miss]) rfl (by
    simp only[List.all_cons,List.all_nil,q2,q3,q4,q5,q6,O4,IM,Bool.and_self]
    rfl) (e':=0) (p':=0)
   simp only[eE,seval,↓eP,u0,u2,u3,u5,t11,hlenA,c1,IG,DT,l8A,M2,s1,s2]
   refine hgood hneg _ _ _ ?_ ?_ rfl r1 (hpol.mono (by omega) fun i h1 h2=>by rw[r4 i (by omega) (by omega),oA i h2]) (by omega) (by omega) fun i hi=>by rw[r4 i (by omega) (by omega),oA i (by omega)]
   ·simp only[eE,seval,↓eP,rP,u2]
   ·simp only[eE,seval,↓eP,rP,u3]
end
section
variable {n N:Nat}
theorem Na {l:List AB} {v:Value} {h:AA} (hfl:h.floor≤h.next) (hv:AQ h v l) (hL:l.length<900000000) (h64:∀ x∈l,x.kids≤9223372036854775807) (hn:l.length+100100<n) (hN:l.length+3<N) :
  ∃ v' h',AY Tryz.prog (AK n) N 61 [v] h=some (v',h')∧PZ h l v' h':=by
 refine MH (R:=PZ h l) Tryz.func61 rfl (by simp[Tryz.f61]) ?_
 have hr:Tryz.f61.results.toList=[.cell 2 27,.cell 3 32]:=rfl
 generalize hKK:B_.top (fun e s=>(e=ED.normal∨e=ED.ret)∧∃ vs,F2 Tryz.prog s Tryz.f61.results.toList=some vs∧PZ h l (HL vs) s.h)=K
 have fin:∀ (T':Tr) (H':AA) cs e p nm s,T'.get 2=qP h.next 0→T'.get 3=qP (h.next+1) 0→cs.length=8→E_ h.next H' cs e p→BP h.next H' (.agg cs.toArray) nm s→(CV l).1=(e,p)→DU l=(nm,s)→h.next≤H'.next→H'.floor=h.floor→(∀ i,i<h.next→H'.get i=h.get i)→K.ap Tryz.prog (AK n) N .ret ⟨T',H'⟩:=by
  intro T' H' cs e p nm s t2 t3 hl ho hp he hout hnx hf hold
  have l30:=IW ho.1 hl
  have l33:A_ 2 0 (H'.get (h.next+1))=some (CI e p):=by rw[ho.2];rfl
  rw[← hKK]
  simp only[eE,seval,↓eP,hr,t2,t3,DT,CR,l30,l33]
  exact⟨_,by rw[he],by rw[hout];exact hp,hf,hnx,hold⟩
 have hz:∀ H',BP h.next H' RP ByteArray.empty sZ:=fun H'=>k_ h.next H'
 refine Le (EJ n).2 hfl hv (fun H hv' hfl'=>Tn (by omega) hL h64 hv' hfl') ?_ ?_
 ·intro hc T' H t2 t3 ho hnx hf hold
  refine fin T' H _ _ _ ByteArray.empty sZ t2 t3 rfl ho (hz H) ?_ ?_ (by omega) hf hold
  ·unfold CV
   rw[if_pos hc]
  ·unfold DU
   have:(CV l).1.1≠0:=by unfold CV;rw[if_pos hc];exact hc
   rw[if_pos this]
 ·intro hc T' H t0 t2 t3 ho hnx hf hold
  have ht:=XC (aC hc)
  have hvH:AQ H v l:=hv.mono (by omega) hold
  refine Ky (EJ n).2 ht hL (by omega) hvH t0 (fun H' hv' hf'=>tR ht hv' (by omega) (by omega) hf') ?_
  intro T1 H1 m e r u0 u2 u3 u5 hp hnx1 hf1 hold1
  have ho1:E_ h.next H1 BY 0 0:=ho.mono (hold1 _ (by omega)) (hold1 _ (by omega))
  have hv1:=hvH.mono hnx1 hold1
  refine Ac (a:=h.next) ht hL (by omega) hN u0 (u2.trans t2) (u3.trans t3) u5 hv1 (fun H' a b=>hvH.mono (by omega) fun i hi=>(a i hi).trans (hold1 i hi)) hp (by omega) (by omega) ho1 (by omega) ?_ ?_
  ·intro hgo T2 H2 w2 w3 ho2 hnx2 hf2 hold2
   refine fin T2 H2 _ _ _ ByteArray.empty sZ w2 w3 rfl ho2 (hz H2) ?_ ?_ (by omega) (by omega) fun i hi=>by rw[hold2 i hi,hold1 i (by omega),hold i hi]
   ·unfold CV
    rw[if_neg (by rw[hc];simp)]
    simp only
    rw[if_pos hgo]
   ·unfold DU
    have:(CV l).1.1≠0:=by
     unfold CV
     rw[if_neg (by rw[hc];simp)]
     simp only
     rw[if_pos hgo]
     exact hgo
    rw[if_pos this]
  ·intro hgo T2 H2 hk2 hp2 hin2 haf
   have ho2:E_ h.next H2 BY 0 0:=ho1.mono (haf.1 _ (by omega)) (haf.1 _ (by omega))
   have hf2:=haf.2.2
   have hn2:=haf.2.1
   have hLR:=Gt ht (by omega) hin2 (wO ht l.length 0 (CD l) (by omega) (VQ l) (Ei l) hgo)
   refine Uz (a:=h.next) (EJ n).2 ht hL (by omega) hN ((hk2 0 (by omega)).trans u0) ((hk2 2 (by omega)).trans (u2.trans t2)) ((hk2 3 (by omega)).trans (u3.trans t3)) ((hk2 5 (by omega)).trans u5) (hvH.mono (by omega) fun i hi=>(haf.1 i hi).trans (hold1 i hi)) hp2 hin2 hLR (by omega) (by omega) ho2 (by omega) ?_ ?_
   ·intro hlg T3 H3 x2 x3 ho3 hnx3 hf3 hold3
    have hres:(CV l).1=(34,JG (DG (AX l) l.length 0 (CD l)).2.2.rows (AX l) (DG (AX l) l.length 0 (CD l)).2.2.rules):=by
     unfold CV
     rw[if_neg (by rw[hc];simp)]
     simp only
     rw[if_neg (by rw[hgo];simp),if_pos hlg]
    refine fin T3 H3 _ _ _ ByteArray.empty sZ x2 x3 rfl ho3 (hz H3) hres ?_ (by omega) (by omega) fun i hi=>by rw[hold3 i hi,haf.1 i (by omega),hold1 i (by omega),hold i hi]
    unfold DU
    rw[if_pos (by rw[hres];simp)]
   ·intro hlg T3 H3 cs x2 x3 hcs ho3 hpol hnx3 hf3 hold3
    have hres:CV l=((0,0),(DG (AX l) l.length 0 (CD l)).2.2):=by
     unfold CV
     rw[if_neg (by rw[hc];simp)]
     simp only
     rw[if_neg (by rw[hgo];simp),if_neg hlg]
    refine fin T3 H3 cs _ _ (MQ l) (DG (AX l) l.length 0 (CD l)).2.2 x2 x3 hcs ho3 (hpol.weak (by omega)) (by rw[hres]) ?_ (by omega) (by omega) fun i hi=>by rw[hold3 i hi,haf.1 i (by omega),hold1 i (by omega),hold i hi]
    unfold DU
    rw[hres]
    simp
theorem zF {l:List AB} {v:Value} {h:AA} (hfl:h.floor≤h.next) (hv:AQ h v l) (hL:l.length<900000000) (h64:∀ x∈l,x.kids≤9223372036854775807) (hn:l.length+100110<n) :
  ∃ v' h',AK n 61 [v] h=some (v',h')∧PZ h l v' h':=by
 obtain⟨n,rfl⟩:=B8 hn
 exact MG (BD ⟨rfl,rfl,rfl⟩) (Na (n:=n) (N:=n) hfl hv hL h64 (by omega) (by omega)) fun v' h1 hf _ ht=>Sl hf ht
end
end Go.Proofs.YtdejoodfeljmkaaGreatDoor
