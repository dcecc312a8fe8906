/- Part 10 of what the claim leans on: 20 texts laid one behind another. -/
import Derived.Test.YtipekdhneagdbaaDoorCO9
namespace Go.Proofs.YtipekdhneagdbaaDoor
open Go Go.Sx
set_option maxRecDepth 100000
set_option linter.unusedSimpArgs false
set_option linter.unusedVariables false
set_option maxHeartbeats 64000000
structure OX (l:List AE) (O:List Int) (j:Nat) (most:Int):Prop where
 len:O.length=l.length
 top:0<j→∀ x,l[0]?=some x→O[0]?=some (EO x.kind)
 kid:∀ p k i x y o,i<j→HS l p k i→l[p]?=some x→l[i]?=some y→O[p]?=some o→O[i]?=some (o+G6 (CT x.kind) (CT y.kind) k+EO y.kind)
 le:∀ (i:Nat) o,i<j→O[i]?=some o→0≤o∧o≤2*(i:Int)+2
 max:(j=0∧most=0)∨(0<j∧MR O 0 j most)
theorem OX.most {l:List AE} {O:List Int} {j:Nat} {most:Int} (h:OX l O j most):0≤most∧most≤2*(j:Int):=by
 rcases h.max with⟨_,h1⟩ | ⟨_,_,i,_,h2,h3⟩
 ·omega
 ·have:=h.le i _ h2 h3
  omega
theorem OX.step {l:List AE} {O:List Int} {j:Nat} {most n:Int} (ht:B_ l) (h:OX l O j most) (hj:j<l.length)
  (hn:(j=0∧∀ x,l[0]?=some x→n=EO x.kind)∨∃ p k x y o,HS l p k j∧l[p]?=some x∧l[j]?=some y∧O[p]?=some o∧n=o+G6 (CT x.kind) (CT y.kind) k+EO y.kind):OX l (O.set j n) (j+1) (if n>most then n else most):=by
 have hlO:=h.len
 have hnle:0≤n∧n≤2*(j:Int)+2:=by
  rcases hn with⟨rfl,h1⟩ | ⟨p,k,x,y,o,h1,h2,h3,h4,rfl⟩
  ·have:=U1 l[0].kind
   have:=h1 l[0] (List.getElem?_eq_getElem hj)
   omega
  ·have:=h.le p o h1.lt h4
   have:=U1 y.kind
   have:=eJ (CT x.kind) (CT y.kind) k
   have:=h1.lt
   omega
 refine⟨by simpa using hlO,fun _ x hx=>?_,fun p k i x y o hi hk hx hy ho=>?_,fun i o hi ho=>?_,.inr ⟨by omega,?_⟩⟩
 ·by_cases h0:j=0
  ·subst h0
   rw[List.getElem?_set_self (by omega)]
   rcases hn with⟨_,h1⟩ | ⟨p,k,x,y,o,h1,_⟩
   ·rw[h1 x hx]
   ·have:=h1.lt;omega
  ·rw[List.getElem?_set_ne (by omega)]
   exact h.top (by omega) x hx
 ·have hlt:=hk.lt
  rw[List.getElem?_set_ne (by omega)] at ho
  by_cases hij:j=i
  ·subst hij
   rw[List.getElem?_set_self (by omega)]
   rcases hn with⟨rfl,_⟩ | ⟨p',k',x',y',o',h1,h2,h3,h4,rfl⟩
   ·omega
   ·obtain⟨rfl,rfl⟩:=HS.unique ht hk h1
    rw[hx] at h2
    rw[hy] at h3
    rw[ho] at h4
    cases h2
    cases h3
    cases h4
    rfl
  ·rw[List.getElem?_set_ne (by omega)]
   exact h.kid p k i x y o (by omega) hk hx hy ho
 ·by_cases hij:j=i
  ·subst hij
   rw[List.getElem?_set_self (by omega)] at ho
   cases ho
   exact hnle
  ·rw[List.getElem?_set_ne (by omega)] at ho
   exact h.le i o (by omega) ho
 ·rcases h.max with⟨rfl,rfl⟩ | ⟨hp,h1,i,h2,h3,h4⟩
  ·have he:(if n>0 then n else 0)=n:=by split <;> omega
   rw[he]
   refine⟨fun i x _ hi hx=>?_,0,by omega,by omega,List.getElem?_set_self (by omega)⟩
   obtain rfl:i=0:=by omega
   rw[List.getElem?_set_self (by omega)] at hx
   cases hx
   omega
  ·refine⟨fun t x _ ht hx=>?_,?_⟩
   ·by_cases htj:j=t
    ·subst htj
     rw[List.getElem?_set_self (by omega)] at hx
     cases hx
     split <;> omega
    ·rw[List.getElem?_set_ne htj] at hx
     have:=h1 t x (by omega) (by omega) hx
     split <;> omega
   ·split
    ·exact⟨j,by omega,by omega,List.getElem?_set_self (by omega)⟩
    ·exact⟨i,h2,by omega,by rw[List.getElem?_set_ne (by omega)];exact h4⟩
theorem OX.done {l:List AE} {O:List Int} {most:Int} (ht:B_ l) (h:OX l O l.length most):most=(DH l (l.length+1) 0).1:=by
 have hp:=ht.pos
 have hx:l[0]?=some l[0]:=List.getElem?_eq_getElem hp
 have hO:uL l O:=⟨fun x hx=>h.top hp x hx,fun p k i x y o hk hx hy ho=>h.kid p k i x y o (List.getElem?_eq_some_iff.1 hy).1 hk hx hy ho⟩
 have h1:=(Bc hO (l.length+1) 0 l.length _ _ ht (by omega) hx (hO.top _ hx)).1
 rw[Int.sub_self,Int.zero_add] at h1
 rcases h.max with⟨h0,_⟩ | ⟨_,h2⟩
 ·omega
 ·exact h2.unique h1
section
variable {call:AT} {N:Nat}
theorem xB {id n c:Nat} {i:Int} (h0:0≤i) (hi:i<n):CO Tryd.prog 28 (qS id n c) (iv i)=some (qP id i.toNat):=by
 obtain⟨k,rfl⟩:∃ k:Nat,i=(k:Int):=⟨i.toNat,by omega⟩
 exact F6 (by omega)
def inB:Code→Code
 | .block _ c=>c
 | c=>c
noncomputable def iG:Code:=YS Tryd.f85 1
noncomputable def U4:Code:=rt (rt (inB iG))
theorem aS {l:List AE} {v:Value} {a:Nat} {v3 v4:Value} {y:AE} {T:Tr} {H:AA} {j:Nat} {O:List Int} {most n:Int} {K:B7} (t0:T.get 0=v) (t3:T.get 3=v3) (t4:T.get 4=v4) (t5:T.get 5=qS a l.length l.length) (t6:T.get 6=iv most) (t7:T.get 7=iv j) (t8:T.get 8=iv n)
  (hn:0≤n∧n<4611686018427387904) (hv:AU H v l) (hy:l[j]?=some y) (gO:H.get a=.row (ints O) 3 false false) (hO:O.length=l.length) (ha:a<H.next) (hf:H.floor≤a)
  (hK:∀ T':Tr,T'.get 0=v→T'.get 3=v3→T'.get 4=v4→T'.get 5=qS a l.length l.length→T'.get 6=iv (if n+EO y.kind>most then n+EO y.kind else most)→T'.get 7=iv j→K.ap Tryd.prog call N .normal ⟨T',H.put a (.row (ints (O.set j (n+EO y.kind))) 3 false false)⟩) :
  WK Tryd.prog call N U4 ⟨T,H⟩ K:=by
 show WK _ _ _ (.seq (.seq _ pK) (rt U4)) _ _
 have hlt:j<l.length:=(List.getElem?_eq_some_iff.1 hy).1
 obtain⟨id,q,e0,hid,l0,l1,l2,l3,l4,lr⟩:=hv.row hy
 simp only[SB,seval,↓eP,rP,t0,t7,e0,l0]
 refine Nq (κ:=y.kind) (n:=n) ?_ ?_ hn fun T' hT h8=>?_
 ·simp only[eE,seval,↓eP,rP]
 ·simp only[eE,seval,↓eP,rP,t8]
 have q0:=hT 0 (by decide)
 have q3:=hT 3 (by decide)
 have q4:=hT 4 (by decide)
 have q5:=hT 5 (by decide)
 have q6:=hT 6 (by decide)
 have q7:=hT 7 (by decide)
 simp only[eE,seval,↓eP,rP,t0,t3,t4,t5,t6,t7] at q0 q3 q4 q5 q6 q7
 have st:=LV (x:=n+EO y.kind) gO (show j<O.length by omega) hf
 show WK _ _ _ (rt U4) _ _
 cases d:decide (n+EO y.kind>most) with
 | true=>
  rw[if_pos (by simpa using d)] at hK
  show WK _ _ _ (.seq _ _) _ _
  simp only[eE,seval,↓eP,DC,E6,KC,C8,C4,q5,q6,q7,h8,F6 hlt,st,d]
  refine hK _ ?_ ?_ ?_ ?_ ?_ ?_ <;> simp only[eE,seval,↓eP,rP,q0,q3,q4,q5,q7]
 | false=>
  rw[if_neg (by simpa using d)] at hK
  show WK _ _ _ (.seq _ _) _ _
  simp only[eE,seval,↓eP,DC,E6,KC,C8,C4,q5,q6,q7,h8,F6 hlt,st,d]
  refine hK _ ?_ ?_ ?_ ?_ ?_ ?_ <;> simp only[eE,seval,↓eP,rP,q0,q3,q4,q5,q6,q7]
theorem Cw {l:List AE} {v:Value} {h:AA} (ht:B_ l) (hv:AU h v l) (hlen:l.length<30000000000000) (hn:l.length+3<N) (hfl:h.floor≤h.next)
  (hP:∃ h',call 103 [v] h=some (.tuple #[qS h.next l.length l.length,qS (h.next+1) l.length l.length],h') ∧
   (∃ U W,bP l U W∧h'.get h.next=.row (ints U) 3 false false∧h'.get (h.next+1)=.row (ints W) 3 false false∧h'.next=h.next+3∧h'.floor=h.floor∧∀ i,i<h.next→h'.get i=h.get i))
  (hL:∀ P K (k:Nat) h,1≤P∧P≤54→1≤K∧K≤54→call 104 [iv P,iv k,iv K] h=some (.bool (MT (CT P) (CT K) k),h)) :
  ∃ h',A9 Tryd.prog call N 85 [v] h=some (iv (DH l (l.length+1) 0).1,h')∧∀ i,i<h.next→h'.get i=h.get i:=by
 refine FB (R:=fun h'=>∀ i,i<h.next→h'.get i=h.get i) Tryd.func85 rfl (by simp[Tryd.f85]) ?_
 have hr:Tryd.f85.results.toList=[.tmp 2]:=rfl
 have hl22:∀ h',BZ Tryd.prog h' 22 v=some (.int .i64 l.length):=fun h'=>hv.len
 have hpos:=ht.pos
 obtain⟨h1,hP,U,W,hUW,gU,gW,hnx,hf1,hold⟩:=hP
 simp only[eE,seval,↓eP,rP,hr,hl22,N4 hlen,hP]
 refine WK.loop (fun j s=>s.T.get 0=v∧s.T.get 3=qS h.next l.length l.length∧s.T.get 4=qS (h.next+1) l.length l.length∧s.T.get 5=qS h1.next l.length l.length∧s.T.get 7=iv j∧s.h.next=h1.next+1∧s.h.floor=h.floor∧(∀ i,i<h.next→s.h.get i=h.get i) ∧
  s.h.get h.next=.row (ints U) 3 false false∧s.h.get (h.next+1)=.row (ints W) 3 false false∧∃ O most,s.T.get 6=iv most∧s.h.get h1.next=.row (ints O) 3 false false∧OX l O j most) l.length (by omega) ?_ ?_
 ·simp only[eE,↓reduceIte,Nat.reduceEqDiff,reduceCtorEq,↓eP,rP,Nat.reduceAdd,Nat.reduceLT]
  refine⟨rfl,hf1,fun i hi=>?_,?_,?_,List.replicate l.length 0,rfl,⟨by simp,(fun h=>by omega),(fun p k i x y o h=>by omega),(fun i o h=>by omega),.inl ⟨rfl,rfl⟩⟩⟩
  ·rw[if_neg (by omega)];exact hold i hi
  ·rw[if_neg (by omega)];exact gU
  ·rw[if_neg (by omega)];exact gW
 ·rintro j ⟨T1,H⟩ hj ⟨t0,t3,t4,t5,t7,hnx1,hf2,hold1,gU1,gW1,O,most,t6,gO,hO⟩
  simp only at t0 t3 t4 t5 t6 t7 hnx1 hf2 hold1 gU1 gW1 gO
  have hmost:=hO.most
  by_cases hlt:j<l.length
  ·have c1:decide ((j:Int)<(l.length:Int))=true:=by simp only[decide_eq_true_eq];omega
   have w1:=C6 j (by omega)
   have hv1:AU H v l:=hv.mono (by omega) hold1
   obtain⟨y,hy⟩:∃ y,l[j]?=some y:=⟨_,List.getElem?_eq_getElem hlt⟩
   obtain⟨id,q,e0,hid,l0,l1,l2,l3,l4,lr⟩:=hv1.row hy
   have hky:1≤y.kind∧y.kind≤54:=(ht.end hlt).kids.elim fun z hz=>by rw[hy] at hz;cases hz.1;exact hz.2.2.1
   have hoy:=U1 y.kind
   simp only[SB,seval,↓eP,rP,t0,t7,hl22,c1]
   show WK _ _ _ iG _ _
   have fin:∀ (n:Int),0≤n∧n<4611686018427387904→(j=0∧(∀ x,l[0]?=some x→n+EO y.kind=EO x.kind)∨∃ p k x y' o,HS l p k j∧l[p]?=some x∧l[j]?=some y'∧O[p]?=some o∧n+EO y.kind=o+G6 (CT x.kind) (CT y'.kind) k+EO y'.kind) →
     OX l (O.set j (n+EO y.kind)) (j+1) (if n+EO y.kind>most then n+EO y.kind else most):=fun n h1 h2=>hO.step ht hlt h2
   have ha:h1.next<H.next:=by omega
   have hfa:H.floor≤h1.next:=by omega
   have po:=fun (X:BF)=>BI (h:=H) (i:=h1.next) (o:=X) rfl ha
   have pn:=fun (X:BF) (i:Nat) (hi:i≠h1.next)=>AK (h:=H) (i:=h1.next) (j:=i) (o:=X) ha (Ne.symm hi)
   rcases Nat.eq_zero_or_pos j with h0 | h0
   ·subst h0
    have hU0:=hUW.top
    have cm:decide ((-1:Int)≥0)=false:=rfl
    have o0:=fin 0 (by omega) (.inl ⟨rfl,fun x hx=>by rw[hy] at hx;cases hx;omega⟩)
    have i0:CO Tryd.prog 28 (qS h.next l.length l.length) (iv ((0:Nat):Int))=some (qP h.next 0):=F6 (i:=0) hpos
    show WK _ _ _ (.block 1 (.seq _ (.seq _ U4))) _ _
    simp only[eE,↓reduceIte,Nat.reduceEqDiff,reduceCtorEq,↓eP,rP,Nat.reduceAdd,Nat.reduceLT,t3,t7,i0,gU1,JO hU0,cm]
    refine aS (y:=y) (O:=O) (most:=most) (n:=0) (j:=0) (a:=h1.next) ?_ rfl rfl ?_ ?_ ?_ ?_ (by omega) hv1 hy gO hO.len ha hfa fun T' u0 u3 u4 u5 u6 u7=>?_
    ·simp only[eE,seval,↓eP,rP,t0]
    ·simp only[eE,seval,↓eP,rP,t5]
    ·simp only[eE,seval,↓eP,rP,t6]
    ·simp only[eE,seval,↓eP,rP,t7]
    ·simp only[eE,seval,↓eP,rP]
    simp only[eE,seval,↓eP,rP,t3,t4] at u3 u4
    simp only[eE,↓reduceIte,Nat.reduceEqDiff,reduceCtorEq,↓eP,DC,E6,KC,C8,C4,Nat.reduceAdd,Nat.reduceLT,u0,u3,u4,u5,u6,u7,w1]
    exact⟨hlt,hnx1,hf2,fun i hi=>by rw[pn _ _ (by omega)];exact hold1 i hi,by rw[pn _ _ (by omega)];exact gU1,by rw[pn _ _ (by omega)];exact gW1,_,po _,o0⟩
   ·obtain⟨p,k,hk⟩:=ht.parent h0 hlt
    obtain⟨hUj,hWj⟩:=hUW.kid p k j hk
    have hpj:=hk.lt
    obtain⟨x,hx,hkx,hch⟩:=hk
    have hk:HS l p k j:=⟨x,hx,hkx,hch⟩
    obtain⟨o,ho⟩:∃ o,O[p]?=some o:=⟨_,List.getElem?_eq_getElem (by rw[hO.len];omega)⟩
    have hole:=hO.le p o hpj ho
    have hkx1:1≤x.kind∧x.kind≤54:=(ht.end (show p<l.length by omega)).kids.elim fun z hz=>by rw[hx] at hz;cases hz.1;exact hz.2.2.1
    obtain⟨id2,q2,f0,hid2,m0,m1,m2,m3,m4,mr⟩:=hv1.row hx
    have cm:decide ((p:Int)≥0)=true:=by simp
    have hl:=fun hh=>hL x.kind y.kind k hh hkx1 hky
    have hpl:p<l.length:=by omega
    show WK _ _ _ (.block 1 (.seq _ (.seq _ U4))) _ _
    simp only[eE,seval,↓eP,rP,t3,t5,t7,F6 hlt,F6 hpl,gU1,gO,JO hUj,JO ho,cm]
    refine WK.quiet (by kernel_rfl) ?_
    cases hlo:MT (CT x.kind) (CT y.kind) k with
    | false=>
     have hI:G6 (CT x.kind) (CT y.kind) k=0:=by unfold G6;rw[hlo];rfl
     have o0:=fin o (by omega) (.inr ⟨p,k,x,y,o,hk,hx,hy,ho,by rw[hI];omega⟩)
     simp only[eE,seval,↓eP,rP,t0,t3,t4,t7,F6 hlt,gU1,gW1,JO hUj,JO hWj,e0,f0,l0,m0,hl,hlo]
     refine aS (y:=y) (O:=O) (most:=most) (n:=o) (j:=j) (a:=h1.next) ?_ rfl rfl ?_ ?_ ?_ ?_ (by omega) hv1 hy gO hO.len ha hfa fun T' u0 u3 u4 u5 u6 u7=>?_
     ·simp only[eE,seval,↓eP,rP,t0]
     ·simp only[eE,seval,↓eP,rP,t5]
     ·simp only[eE,seval,↓eP,rP,t6]
     ·simp only[eE,seval,↓eP,rP,t7]
     ·simp only[eE,seval,↓eP,rP]
     simp only[eE,seval,↓eP,rP,t3,t4] at u3 u4
     simp only[eE,↓reduceIte,Nat.reduceEqDiff,reduceCtorEq,↓eP,DC,E6,KC,C8,C4,Nat.reduceAdd,Nat.reduceLT,u0,u3,u4,u5,u6,u7,w1]
     exact⟨hlt,hnx1,hf2,fun i hi=>by rw[pn _ _ (by omega)];exact hold1 i hi,by rw[pn _ _ (by omega)];exact gU1,by rw[pn _ _ (by omega)];exact gW1,_,po _,o0⟩
    | true=>
     have hI:G6 (CT x.kind) (CT y.kind) k=1:=by unfold G6;rw[hlo];rfl
     have o0:=fin (o+1) (by omega) (.inr ⟨p,k,x,y,o,hk,hx,hy,ho,by rw[hI]⟩)
     have w2:IntKind.i64.wrap (o+1)=o+1:=B0 (by omega) (by omega)
     simp only[eE,seval,↓eP,rP,t0,t3,t4,t7,F6 hlt,gU1,gW1,JO hUj,JO hWj,e0,f0,l0,m0,hl,hlo,w2]
     refine aS (y:=y) (O:=O) (most:=most) (n:=o+1) (j:=j) (a:=h1.next) ?_ rfl rfl ?_ ?_ ?_ ?_ (by omega) hv1 hy gO hO.len ha hfa fun T' u0 u3 u4 u5 u6 u7=>?_
     ·simp only[eE,seval,↓eP,rP,t0]
     ·simp only[eE,seval,↓eP,rP,t5]
     ·simp only[eE,seval,↓eP,rP,t6]
     ·simp only[eE,seval,↓eP,rP,t7]
     ·simp only[eE,seval,↓eP,rP]
     simp only[eE,seval,↓eP,rP,t3,t4] at u3 u4
     simp only[eE,↓reduceIte,Nat.reduceEqDiff,reduceCtorEq,↓eP,DC,E6,KC,C8,C4,Nat.reduceAdd,Nat.reduceLT,u0,u3,u4,u5,u6,u7,w1]
     exact⟨hlt,hnx1,hf2,fun i hi=>by rw[pn _ _ (by omega)];exact hold1 i hi,by rw[pn _ _ (by omega)];exact gU1,by rw[pn _ _ (by omega)];exact gW1,_,po _,o0⟩
  ·have c1:decide ((j:Int)<(l.length:Int))=false:=by simp only[decide_eq_false_iff_not];omega
   have:j=l.length:=by omega
   subst this
   have e:=hO.done ht
   subst e
   simp only[eE,seval,↓eP,rP,t0,t6,t7,hl22,c1]
   exact hold1
end
section
variable {call:AT} {N:Nat} {h:AA} {lo m e r n:Nat} {nm:ByteArray} {E:List Int} {s:AS}
theorem bF {H:AA} {x:AE} (hf:H.floor≤H.next):BH Tryd.prog (H.push (.row C_ 46 false false)) 46 (qP H.next 0) (.agg #[.int .i64 x.kind,.string x.name,.int .i64 x.ends,.int .i64 x.n,.int .i64 x.kids])=some ((H.push (.row C_ 46 false false)).put H.next (.row (AI x) 46 false false)):=by
 have hone:([.int .i64 x.kind,.string x.name,.int .i64 x.ends,.int .i64 x.n,.int .i64 x.kids]:List Value).all one=true:=rfl
 rw[C8,BO,RI,if_pos ⟨hf,hone⟩]
 rfl
theorem gQ:flat (.agg #[.int .i64 0,.string ByteArray.empty,.int .i64 0,.int .i64 0,.int .i64 0])=true:=rfl
theorem g9:(Value.agg #[.int .i64 0,.string ByteArray.empty,.int .i64 0,.int .i64 0,.int .i64 0]).cells.toList=C_:=rfl
theorem tF {l:List F_} {x:ByteArray} (h:E5 l x=none):KQ l x 0=-1:=by have:=dH l x 0;rw[h] at this;exact this
theorem oY {l:List F_} {x:ByteArray} {t:F_} (h:E5 l x=some t):∃ k:Nat,KQ l x 0=(k:Int)∧l[k]?=some t:=by
 have:=dH l x 0
 rw[h] at this
 obtain⟨k,h1,h2⟩:=this
 exact⟨k,by rw[h1];congr 1;omega,h2⟩
theorem Am {at_:Nat} {end_:Int} {x:AE} (hp:FR h lo m e r n nm E s) (hx:s.rows[at_]?=some x) (hd:BM x.kind≠0) (hn:at_<30000000000000) (hE:E[at_]?=some end_) (he:0≤end_) (hth:s.things.length<100000) (hN:100004<N)
  (hfind:∀ (y:ByteArray) H tag V C,CG H lo m e r n nm E tag V C s→call 86 [qP m 0,.string y] H=some (iv (KQ s.things y 0),H))
  (h87:∀ k h',call 87 [iv k] h'=some (iv (G5 k),h')) :
  ∃ h',A9 Tryd.prog call N 57 [qP m 0,iv at_,iv (BM x.kind)] h=some (iv (DN x s),h')∧(Fsx h h' lo∧(DN x s=0→FR h' lo m e r n nm E (BJ at_ end_ x s))):=by
 obtain⟨tag,V,hp,hw⟩:=hp
 refine FB (R:=fun h'=>Fsx h h' lo∧(DN x s=0→FR h' lo m e r n nm E (BJ at_ end_ x s))) Tryd.func57 rfl (by simp[Tryd.f57]) ?_
 have hr:Tryd.f57.results.toList=[.tmp 6]:=rfl
 generalize hKK:B7.top (fun ex s_1=>(ex=DK.normal∨ex=DK.ret)∧∃ vs,E8 Tryd.prog s_1 Tryd.f57.results.toList=some vs∧GR vs=iv (DN x s)∧Fsx h s_1.h lo∧(DN x s=0→FR s_1.h lo m e r n nm E (BJ at_ end_ x s)))=K
 have fin:∀ (T':Tr) H v,T'.get 6=iv v→v=DN x s→Fsx h H lo→(v=0→FR H lo m e r n nm E (BJ at_ end_ x s))→K.ap Tryd.prog call N .ret ⟨T',H⟩:=fun T' H v h6 hv ha hb=>by
  subst hv
  rw[← hKK]
  simp only[eE,↓reduceIte,Nat.reduceEqDiff,reduceCtorEq,↓eP,rP,Nat.reduceAdd,Nat.reduceLT,hr,h6]
  exact⟨ha,hb⟩
 show WK _ _ _ (.seq _ (.seq _ (.seq _ Q4))) _ _
 have hm1:=hp.c1
 obtain⟨hlt,l0,l1,l3,lr⟩:=hp.row hx
 have hdl:=QY x.kind
 have hlo:lo≤h.next∧h.floor≤h.next:=by have:=hp.lm;have:=hp.fl;omega
 have hrc:=bF (x:=x) hlo.2
 simp only[eE,↓reduceIte,Nat.reduceEqDiff,reduceCtorEq,↓eP,DC,Nat.reduceAdd,Nat.reduceLT,gQ,g9,HZ,CR,CI,hm1,JK hlt,lr,hrc]
 have hb:((h.push (.row C_ 46 false false)).put h.next (.row (AI x) 46 false false)).get h.next=.row (AI x) 46 false false:=BI rfl (by show h.next<h.next+1;omega)
 have hp1:=((hp.retag (tag':=fun i=>if i=h.next then 11 else tag i) (fun i hi=>if_neg (by omega))).putNew (o:=.row (AI x) 46 false false) (o':=.row C_ 46 false false))
 have ho:∀ i,i<h.next→((h.push (.row C_ 46 false false)).put h.next (.row (AI x) 46 false false)).get i=h.get i:=fun i hi=>by rw[AK (by show h.next<h.next+1;omega) (by omega),AP hi]
 have hn1:((h.push (.row C_ 46 false false)).put h.next (.row (AI x) 46 false false)).next=h.next+1:=rfl
 have hf1:((h.push (.row C_ 46 false false)).put h.next (.row (AI x) 46 false false)).floor=h.floor:=rfl
 generalize (h.push (.row C_ 46 false false)).put h.next (.row (AI x) 46 false false)=H1 at *
 have hfc:=hfind x.name H1 _ V _ hp1
 have lb1:AO 1 (H1.get h.next)=some (.string x.name):=by rw[hb];rfl
 have aft1:Fsx h H1 lo:=⟨fun i hi=>ho i (by omega),by omega,hf1⟩
 cases hf:E5 s.things x.name with
 | some t=>
  obtain⟨k,hk,_⟩:=oY hf
  have c1:decide ((k:Int)≥0)=true:=by simp
  rw[hk] at hfc
  simp only[eE,seval,↓eP,rP,lb1,hfc,c1]
  exact fin _ _ 31 (by simp only[Tr.get_put,if_true]) (by unfold DN;rw[if_neg hd,if_pos (by rw[hf];rfl)]) aft1 fun h=>by cases h
 | none=>
  have hE1:¬ (E5 s.things x.name).isSome=true:=by rw[hf];simp
  rw[tF hf] at hfc
  have c1:decide ((-1:Int)≥0)=false:=rfl
  simp only[eE,seval,↓eP,rP,lb1,hfc]
  have cle:=bR hw (BM x.kind)
  refine Hw (b:=h.next) (end_:=end_) hp1 hx (by omega) hdl.2 hw hth hE (fun h'=>h87 _ h') ?_ ?_ ?_ ?_ hb (by omega) (if_pos rfl) (fun T' hc h6=>?_) fun T2 H2 tag2 V2 hc hT2 hp2 htg2 ho2 hn2 hf2=>?_
  ·simp only[eE,seval,↓eP,rP]
  ·simp only[eE,seval,↓eP,rP]
  ·simp only[eE,seval,↓eP,rP]
  ·simp only[eE,seval,↓eP,rP]
  ·exact fin _ _ 3 h6 (by unfold DN;rw[if_neg hd,if_neg hE1,if_pos hc]) aft1 fun h=>by cases h
  ·have hq:=hw.q;have hv:=hw.v;have ht:=hw.t;have hu:=hw.u;have ho':=hw.o
   have g0:=hT2 0 (by decide) (by decide) (by decide)
   have g1:=hT2 1 (by decide) (by decide) (by decide)
   have g2:=hT2 2 (by decide) (by decide) (by decide)
   have g7:=hT2 7 (by decide) (by decide) (by decide)
   simp only[eE,seval,↓eP,rP] at g0 g1 g2 g7
   refine Fg (b:=h.next) (x:=x) (kd:=BM x.kind) hp2 (by omega) hdl.2 hn ⟨by show s.queues.length<1000;omega,by show s.vars.length<1000;omega,by show s.tags.length<1000;omega,by show s.rules.length<1000;omega,by show s.on.length<1000;omega⟩ g0 g1 g2 g7
    (by rw[ho2 h.next (by omega) (.inr (if_pos rfl))];exact hb) (by omega) ((htg2 _ (by omega)).trans (if_pos rfl)) fun T3 H3 tag3 V3 h6 hp3 ho3 hn3 hf3=>?_
   have hS:BJ at_ end_ x s=EX at_ end_ x s:=by unfold BJ;rw[if_neg hd]
   refine fin _ _ 0 h6 (by unfold DN;rw[if_neg hd,if_neg hE1,if_neg hc]) ⟨fun i hi=>by rw[ho3 i (by omega) hi,ho2 i (by omega) (.inl hi),ho i (by omega)],by omega,by omega⟩ fun _=>?_
   rw[hS]
   refine⟨tag3,V3,?_,dP hw hd hc he⟩
   rw[Hv (at_:=at_) (x:=x) (by omega) hdl.2] at hp3
   exact hp3
theorem Pd {at_:Nat} {x:AE} (hp:FR h lo m e r n nm E s) (hx:s.rows[at_]?=some x) (hd:DL x.kind≠0) (hn:at_<30000000000000)
  (hfind:∀ (y:ByteArray) H tag V C,CG H lo m e r n nm E tag V C s→call 86 [qP m 0,.string y] H=some (iv (KQ s.things y 0),H)) :
  ∃ h',A9 Tryd.prog call N 58 [qP m 0,iv at_,iv (DL x.kind)] h=some (iv (CN at_ x s),h')∧(Fsx h h' lo∧(CN at_ x s=0→FR h' lo m e r n nm E (BP at_ x s))):=by
 obtain⟨tag,V,hp,hw⟩:=hp
 refine FB (R:=fun h'=>Fsx h h' lo∧(CN at_ x s=0→FR h' lo m e r n nm E (BP at_ x s))) Tryd.func58 rfl (by simp[Tryd.f58]) ?_
 have hr:Tryd.f58.results.toList=[.tmp 6]:=rfl
 generalize hKK:B7.top (fun ex s_1=>(ex=DK.normal∨ex=DK.ret)∧∃ vs,E8 Tryd.prog s_1 Tryd.f58.results.toList=some vs∧GR vs=iv (CN at_ x s)∧Fsx h s_1.h lo∧(CN at_ x s=0→FR s_1.h lo m e r n nm E (BP at_ x s)))=K
 have fin:∀ (T':Tr) H v,T'.get 6=iv v→v=CN at_ x s→Fsx h H lo→(v=0→FR H lo m e r n nm E (BP at_ x s))→K.ap Tryd.prog call N .ret ⟨T',H⟩:=fun T' H v h6 hv ha hb=>by
  subst hv
  rw[← hKK]
  simp only[eE,↓reduceIte,Nat.reduceEqDiff,reduceCtorEq,↓eP,rP,Nat.reduceAdd,Nat.reduceLT,hr,h6]
  exact⟨ha,hb⟩
 have c1:=hp.c1
 have c9:=hp.c9
 obtain⟨hlt,l0,l1,l3,lr⟩:=hp.row hx
 have hfc:=hfind x.name h tag V _ hp
 have aft0:Fsx h h lo:=⟨fun _ _=>rfl,Nat.le_refl _,rfl⟩
 show WK _ _ _ (.seq _ _) _ _
 cases hf:E5 s.things x.name with
 | none=>
  rw[tF hf] at hfc
  have d1:decide ((-1:Int)<0)=true:=rfl
  simp only[eE,seval,↓eP,rP,HZ,CR,CI,c1,JK hlt,l1,hfc]
  exact fin _ _ 32 (by simp only[Tr.get_put,if_true]) (by unfold CN;rw[if_neg hd,hf]) aft0 fun h=>by cases h
 | some t=>
  obtain⟨k,hk,hkt⟩:=oY hf
  have hkl:=(List.getElem?_eq_some_iff.1 hkt).1
  rw[hk] at hfc
  have d1:decide ((k:Int)<0)=false:=by simp
  rcases hp.sl 8 (by decide) (by decide) with⟨h1,_⟩ | ⟨id,ex,hv8,hg,_,_,_⟩
  ·have:s.things.length=0:=h1
   omega
  ·have hg':h.get id=.row (MS s.things++ex) 121 true false:=hg
   have hv8':V 8=qS id s.things.length AM:=hv8
   have l1':AO (k*4+1) (h.get id)=some (iv t.kind):=by rw[hg'];exact TO (j:=1) ex hkt (by decide)
   have l2':AO (k*4+2) (h.get id)=some (iv t.num):=by rw[hg'];exact TO (j:=2) ex hkt (by decide)
   have l3':AO (k*4+3) (h.get id)=some (iv t.known):=by rw[hg'];exact TO (j:=3) ex hkt (by decide)
   cases d2:decide (t.known>(at_:Int)) with
   | true=>
    simp only[eE,seval,↓eP,rP,HZ,O_,CR,CI,O1,c1,c9,hv8',JK hlt,TT hkl,bN,l1,l3',hfc,d1,d2]
    exact fin _ _ 32 (by simp only[Tr.get_put,if_true]) (by unfold CN;rw[if_neg hd,hf];simp only;rw[if_pos (by simpa using d2)]) aft0 fun h=>by cases h
   | false=>
    cases d3:(t.kind != DL x.kind) with
    | true=>
     simp only[eE,seval,↓eP,rP,HZ,O_,CR,CI,O1,c1,c9,hv8',JK hlt,TT hkl,bN,sD,l1,l3',l1',hfc,d1,d2,d3]
     exact fin _ _ 33 (by simp only[Tr.get_put,if_true]) (by unfold CN;rw[if_neg hd,hf];simp only;rw[if_neg (by simpa using d2),if_pos (by simpa using d3)]) aft0 fun h=>by cases h
    | false=>
     have hst:=FU (off:=at_*5+3) CU (v:=iv t.num) rfl rfl hp.rows (by rw[JL];have:=hp.len;omega) (by have:=hp.fl;have:=hp.lr.1;omega)
     rw[UK hx] at hst
     have hp3:=hp.rowsW (l:=E0 s.rows at_ t.num) LG
     simp only[eE,seval,↓eP,rP,HZ,O_,CR,CI,O1,c1,c9,hv8',JK hlt,TT hkl,bN,sD,l1,l3',l1',hfc,d1,d2,d3]
     refine WK.quiet (by kernel_rfl) ?_
     simp only[eE,seval,↓eP,DC,E6,KC,C8,C4,HZ,O_,CR,CI,O1,c1,c9,hv8',JK hlt,TT hkl,Pa,l2',hst]
     refine fin _ _ 0 (by simp only[Tr.get_put,if_true]) (by unfold CN;rw[if_neg hd,hf];simp only;rw[if_neg (by simpa using d2),if_neg (by simpa using d3)]) ⟨fun i hi=>AK hp.lr.2 (by have:=hp.lr;omega),Nat.le_refl _,rfl⟩ fun _=>?_
     have hS:BP at_ x s={ s with rows:=E0 s.rows at_ t.num }:=by unfold BP;rw[if_neg hd,hf]
     rw[hS]
     exact⟨tag,V,hp3,⟨hw.q,hw.v,hw.t,hw.u,hw.o,hw.th⟩⟩
theorem Ot {at_:Nat} {x:AE} (hp:FR h lo m e r n nm E s) (hx:s.rows[at_]?=some x) (hev:C3 x.kind=true) (hn:at_<30000000000000) (hxn:x.kind≠10→0≤x.n∧x.n<s.on.length) :
  ∃ h',A9 Tryd.prog call N 60 [qP m 0,iv at_] h=some (iv (CX x s),h')∧(Fsx h h' lo∧(CX x s=0→FR h' lo m e r n nm E (C2 at_ x s))):=by
 obtain⟨tag,V,hp,hw⟩:=hp
 refine FB (R:=fun h'=>Fsx h h' lo∧(CX x s=0→FR h' lo m e r n nm E (C2 at_ x s))) Tryd.func60 rfl (by simp[Tryd.f60]) ?_
 have hr:Tryd.f60.results.toList=[.tmp 4]:=rfl
 generalize hKK:B7.top (fun ex s_1=>(ex=DK.normal∨ex=DK.ret)∧∃ vs,E8 Tryd.prog s_1 Tryd.f60.results.toList=some vs∧GR vs=iv (CX x s)∧Fsx h s_1.h lo∧(CX x s=0→FR s_1.h lo m e r n nm E (C2 at_ x s)))=K
 have fin:∀ (T':Tr) H v,T'.get 4=iv v→v=CX x s→Fsx h H lo→(v=0→FR H lo m e r n nm E (C2 at_ x s))→K.ap Tryd.prog call N .ret ⟨T',H⟩:=fun T' H v h6 hv ha hb=>by
  subst hv
  rw[← hKK]
  simp only[eE,↓reduceIte,Nat.reduceEqDiff,reduceCtorEq,↓eP,rP,Nat.reduceAdd,Nat.reduceLT,hr,h6]
  exact⟨ha,hb⟩
 have hm1:=hp.c1
 obtain⟨hlt,l0,l1,l3,lr⟩:=hp.row hx
 have hlo:lo≤h.next∧h.floor≤h.next:=by have:=hp.lm;have:=hp.fl;omega
 have hrc:=bF (x:=x) hlo.2
 have w1:IntKind.i64.wrap ((at_:Int)+1)=(at_:Int)+1:=B0 (by omega) (by omega)
 show WK _ _ _ (.seq _ (.seq _ (.seq (.seq _ (.cond _ _ _)) _))) _ _
 simp only[eE,↓reduceIte,Nat.reduceEqDiff,reduceCtorEq,↓eP,DC,Nat.reduceAdd,Nat.reduceLT,gQ,g9,HZ,CR,CI,hm1,JK hlt,lr,hrc]
 have hb:((h.push (.row C_ 46 false false)).put h.next (.row (AI x) 46 false false)).get h.next=.row (AI x) 46 false false:=BI rfl (by show h.next<h.next+1;omega)
 have hp1:=hp.putNew (o:=.row (AI x) 46 false false) (o':=.row C_ 46 false false)
 have ho:∀ i,i<h.next→((h.push (.row C_ 46 false false)).put h.next (.row (AI x) 46 false false)).get i=h.get i:=fun i hi=>by rw[AK (by show h.next<h.next+1;omega) (by omega),AP hi]
 have hn1:((h.push (.row C_ 46 false false)).put h.next (.row (AI x) 46 false false)).next=h.next+1:=rfl
 have hf1:((h.push (.row C_ 46 false false)).put h.next (.row (AI x) 46 false false)).floor=h.floor:=rfl
 generalize (h.push (.row C_ 46 false false)).put h.next (.row (AI x) 46 false false)=H1 at *
 have lb0:AO 0 (H1.get h.next)=some (iv x.kind):=by rw[hb];rfl
 have lb3:AO 3 (H1.get h.next)=some (iv x.n):=by rw[hb];rfl
 have aft1:Fsx h H1 lo:=⟨fun i hi=>ho i (by omega),by omega,hf1⟩
 have hev':¬ C3 x.kind=false:=by rw[hev];simp
 have c7:=hp1.c7
 have c6:=hp1.c6
 by_cases h10:x.kind=10
 ·have d0:(x.kind==10)=true:=by simpa using h10
  cases d1:decide (s.miss≥0) with
  | true=>
   simp only[eE,seval,↓eP,rP,HZ,ID,lb0,d0,c7,d1]
   exact fin _ _ 31 (by simp only[Tr.get_put,if_true]) (by unfold CX;rw[if_neg hev',if_pos h10,if_pos (by simpa using d1)]) aft1 fun h=>by cases h
  | false=>
   have sM:=hp1.stM (x:=(at_:Int)+1)
   simp only[eE,seval,↓eP,DC,E6,KC,C8,C4,HZ,ID,lb0,d0,c7,d1,w1,sM]
   refine fin _ _ 0 (by simp only[Tr.get_put,if_true]) (by unfold CX;rw[if_neg hev',if_pos h10,if_neg (by simpa using d1)]) ⟨fun i hi=>?_,by show h.next≤H1.next;omega,hf1⟩ fun _=>?_
   ·rw[AK hp1.lm.2 (by have:=hp1.lm;omega)];exact ho i (by omega)
   ·have hS:C2 at_ x s={ s with miss:=(at_:Int)+1 }:=by unfold C2;rw[if_neg hev',if_pos h10]
    rw[hS]
    exact⟨tag,V,hp1.cellW (C':=JA s) (miss':=(at_:Int)+1),⟨hw.q,hw.v,hw.t,hw.u,hw.o,hw.th⟩⟩
 ·have d0:(x.kind==10)=false:=by simpa using h10
  obtain⟨hx0,hx1⟩:=hxn h10
  obtain⟨v,hv⟩:∃ v,s.on[x.n.toNat]?=some v:=⟨_,List.getElem?_eq_getElem (by omega)⟩
  rcases hp1.sl 6 (by decide) (by decide) with⟨h1,_⟩ | ⟨id,ex,hv6,hg,hl1,hl2,htg⟩
  ·have:s.on.length=0:=h1
   omega
  ·have hg':H1.get id=.row (ints s.on++ex) 3 true false:=hg
   have hv6':V 6=qS id s.on.length AM:=hv6
   have hon:=fU (l:=s.on) (ex:=ex) (ty:=3) (g:=true) (ro:=false) hv
   rw[← hg'] at hon
   have hix:CO Tryd.prog 28 (qS id s.on.length AM) (iv x.n)=some (qP id x.n.toNat):=xB hx0 hx1
   cases d1:decide (v≥0) with
   | true=>
    simp only[eE,seval,↓eP,rP,lb0,d0]
    refine WK.quiet (by kernel_rfl) ?_
    simp only[eE,seval,↓eP,rP,HZ,HG,CC,c6,hv6',lb3,hix,hon,d1]
    exact fin _ _ 31 (by simp only[Tr.get_put,if_true]) (by unfold CX;rw[if_neg hev',if_neg h10,hv];simp only;rw[if_pos (by simpa using d1)]) aft1 fun h=>by cases h
   | false=>
    have hlen:=FZ s.on
    have hst:=FU (off:=x.n.toNat) CU (v:=iv ((at_:Int)+1)) rfl rfl hg' (by rw[List.length_append,hlen];omega) (by have:=hp1.fl;omega)
    rw[List.set_append_left _ _ (by omega),XG] at hst
    have hpW:=hp1.slotW (j:=6) (s':={ s with on:=s.on.set x.n.toNat ((at_:Int)+1) }) (by decide) (by decide) (ex:=ex) hv6 htg ⟨hl1,hl2⟩ rfl rfl (by simp[ER]) (fun i hi=>by
     unfold ER FC
     split <;> simp_all)
    simp only[eE,seval,↓eP,rP,lb0,d0]
    refine WK.quiet (by kernel_rfl) ?_
    simp only[eE,seval,↓eP,rP,HZ,HG,CC,c6,hv6',lb3,hix,hon,d1]
    refine WK.quiet (by kernel_rfl) ?_
    simp only[eE,seval,↓eP,DC,E6,KC,C8,C4,HZ,HG,CC,c6,hv6',lb3,hix,w1,hst]
    refine fin _ _ 0 (by simp only[Tr.get_put,if_true]) (by unfold CX;rw[if_neg hev',if_neg h10,hv];simp only;rw[if_neg (by simpa using d1)]) ⟨fun i hi=>?_,by show h.next≤H1.next;omega,hf1⟩ fun _=>?_
    ·rw[AK hl2 (by omega)];exact ho i (by have:=hp.lm;omega)
    ·have hS:C2 at_ x s={ s with on:=s.on.set x.n.toNat ((at_:Int)+1) }:=by unfold C2;rw[if_neg hev',if_neg h10]
     rw[hS]
     exact⟨tag,V,hpW,⟨hw.q,hw.v,hw.t,hw.u,by simp only[List.length_set];exact hw.o,hw.th⟩⟩
end
def A7 (lo:Nat) (h:AA) (v:Value) (n w:Nat) (cs:List Value):Prop:=
 cs.length=n*w∧∃ a c,v=.slice a n c∧((n=0∧a=none)∨∃ id off row ty g ro,a=some ⟨id,off,none⟩∧h.get id=.row row ty g ro∧(lo≤id∧id<h.next)∧(row.drop off).take (n*w)=cs∧(0<lo→ro=false))
section
variable {lo:Nat} {h h':AA} {v:Value} {n w:Nat} {cs:List Value}
theorem A7.mono (hc:A7 lo h v n w cs) (hn:h.next≤h'.next) (hg:∀ i,lo≤i→i<h.next→h'.get i=h.get i):A7 lo h' v n w cs:=by
 obtain⟨hl,a,c,rfl,h1 | ⟨id,off,row,ty,g,ro,rfl,h1,h2,h3⟩⟩:=hc
 ·exact⟨hl,_,_,rfl,.inl h1⟩
 ·exact⟨hl,_,_,rfl,.inr ⟨id,off,row,ty,g,ro,rfl,by rw[hg id h2.1 h2.2];exact h1,by omega,h3⟩⟩
theorem A7.weak (hc:A7 lo h v n w cs) {lo':Nat} (hl:lo'≤lo):A7 lo' h v n w cs:=by
 obtain⟨hl',a,c,rfl,h1 | ⟨id,off,row,ty,g,ro,rfl,h1,h2,h3⟩⟩:=hc
 ·exact⟨hl',_,_,rfl,.inl h1⟩
 ·exact⟨hl',_,_,rfl,.inr ⟨id,off,row,ty,g,ro,rfl,h1,by omega,h3.1,fun h=>h3.2 (by omega)⟩⟩
theorem A7.len (hc:A7 lo h v n w cs) {t e:TypeId} (ht:Tryd.prog.underlying t=some (.slice e)) {h':AA}:BZ Tryd.prog h' t v=some (iv (n:Int)):=by
 obtain⟨_,a,c,rfl,_⟩:=hc
 simp[BZ,ht]
theorem A7.idx (hc:A7 lo h v n w cs) {t e:TypeId} (ht:Tryd.prog.underlying t=some (.slice e)) (he:BN Tryd.prog e=some w) {i:Nat} (hi:i<n) :
  ∃ id p,CO Tryd.prog t v (iv (i:Int))=some (qP id p)∧id<h.next∧∀ j,j<w→AO (p+j) (h.get id)=cs[i*w+j]?:=by
 obtain⟨hl,a,c,rfl,⟨h0,_⟩ | ⟨id,off,row,ty,g,ro,rfl,h1,h2,h3⟩⟩:=hc
 ·omega
 ·refine⟨id,off+i*w,?_,h2.2,fun j hj=>?_⟩
  ·simp only[CO,ht,he,CH]
   rw[if_pos (by omega)]
   simp
  ·have hlt:i*w+j<n*w:=by
    have:(i+1)*w≤n*w:=Nat.mul_le_mul_right w hi
    rw[Nat.add_mul] at this
    omega
   rw[h1,← h3.1,List.getElem?_take_of_lt hlt,List.getElem?_drop]
   simp only[AO]
   congr 1
   omega
theorem A7.whole (hc:A7 lo h v n w cs) {t e:TypeId} (ht:Tryd.prog.underlying t=some (.slice e)) (he:BN Tryd.prog e=some w) {i:Nat} (hi:i<n) :
  ∃ id p,CO Tryd.prog t v (iv (i:Int))=some (qP id p)∧id<h.next∧BL w p (h.get id)=some (.agg ((cs.drop (i*w)).take w).toArray):=by
 obtain⟨hl,a,c,rfl,⟨h0,_⟩ | ⟨id,off,row,ty,g,ro,rfl,h1,h2,h3⟩⟩:=hc
 ·omega
 ·have hle:i*w+w≤n*w:=by
   have:(i+1)*w≤n*w:=Nat.mul_le_mul_right w hi
   rw[Nat.add_mul] at this
   omega
  have e1:(cs.drop (i*w)).take w=(row.drop (off+i*w)).take w:=by
   rw[← h3.1,List.drop_take,List.drop_drop,List.take_take]
   congr 1
   omega
  have e2:((cs.drop (i*w)).take w).length=w:=by
   rw[List.length_take,List.length_drop,hl]
   omega
  refine⟨id,off+i*w,?_,h2.2,?_⟩
  ·simp only[CO,ht,he,CH]
   rw[if_pos (by omega)]
   simp
  ·rw[h1]
   simp only[BL,GQ,← e1,e2,if_true]
theorem A7.src (hc:A7 lo h v n w cs):DX h w n v=some cs:=by
 obtain⟨hl,a,c,rfl,⟨h0,rfl⟩ | ⟨id,off,row,ty,g,ro,rfl,h1,h2,h3⟩⟩:=hc
 ·subst h0
  rw[Nat.zero_mul] at hl
  rw[List.length_eq_zero_iff.1 hl]
  rfl
 ·by_cases h0:n=0
  ·subst h0
   rw[Nat.zero_mul] at hl
   rw[List.length_eq_zero_iff.1 hl]
   simp[DX]
  ·simp only[DX,h0,if_false,h1,GQ,h3.1,hl,if_true]
theorem A7.nil (lo:Nat) (h:AA) (w:Nat):A7 lo h (Z0) 0 w []:=⟨by simp,none,0,rfl,.inl ⟨rfl,rfl⟩⟩
theorem A7.rowR {r:Nat} {ty:TypeId} {g ro:Bool} {ex:List Value} {c:Nat} (hg:h.get r=.row (cs++ex) ty g ro) (hr:lo≤r∧r<h.next) (hl:cs.length=n*w) (hro:0<lo→ro=false):A7 lo h (qS r n c) n w cs:=
 ⟨hl,_,_,rfl,.inr ⟨r,0,_,_,_,_,rfl,hg,hr,by rw[List.drop_zero,List.take_append_of_le_length (by omega),List.take_of_length_le (by omega)],hro⟩⟩
theorem A7.row {r:Nat} {ty:TypeId} {g:Bool} {ex:List Value} {c:Nat} (hg:h.get r=.row (cs++ex) ty g false) (hr:lo≤r∧r<h.next) (hl:cs.length=n*w):A7 lo h (qS r n c) n w cs:=A7.rowR hg hr hl fun _=>rfl
theorem A7.one (hc:A7 lo h v n w cs):one v=true:=by
 obtain⟨_,a,c,rfl,_⟩:=hc
 rfl
theorem A7.vcells (hc:A7 lo h v n w cs):v.cells=#[v]:=by
 obtain⟨_,a,c,rfl,_⟩:=hc
 rfl
theorem EK.cells {tag:Nat→Nat} {j:Nat} {ty:TypeId} (hs:EK h lo tag j v n cs ty) (hl:cs.length=n*w):A7 lo h v n w cs:=by
 rcases hs with⟨rfl,rfl,rfl⟩ | ⟨id,ex,rfl,h2,h3,h4,h5⟩
 ·exact A7.nil lo h w
 ·exact A7.row h2 ⟨h3,h4⟩ hl
end
def AN (lo:Nat) (h:AA) (v:Value) (l:List Int):Prop:=A7 lo h v l.length 1 (ints l)
section
variable {lo:Nat} {h h':AA} {v:Value} {l:List Int}
theorem AN.mono (hc:AN lo h v l) (hn:h.next≤h'.next) (hg:∀ i,lo≤i→i<h.next→h'.get i=h.get i):AN lo h' v l:=A7.mono hc hn hg
theorem AN.weak (hc:AN lo h v l) {lo':Nat} (hl:lo'≤lo):AN lo' h v l:=A7.weak hc hl
theorem AN.len (hc:AN lo h v l) {h':AA}:BZ Tryd.prog h' 28 v=some (iv (l.length:Int)):=A7.len hc Tryd.underlying28
theorem AN.get (hc:AN lo h v l) {i:Nat} {x:Int} (hx:l[i]?=some x):∃ id p,CO Tryd.prog 28 v (iv (i:Int))=some (qP id p)∧id<h.next∧AO p (h.get id)=some (iv x):=by
 obtain⟨id,p,h1,h2,h3⟩:=A7.idx hc Tryd.underlying28 CU (List.getElem?_eq_some_iff.1 hx).1
 refine⟨id,p,h1,h2,?_⟩
 have:=h3 0 (by decide)
 rw[Nat.add_zero] at this
 rw[this,Nat.mul_one,Nat.add_zero,U6,hx]
 rfl
theorem AN.row {r:Nat} {ty:TypeId} {g:Bool} {ex:List Value} {c n:Nat} (hg:h.get r=.row (ints l++ex) ty g false) (hr:lo≤r∧r<h.next) (hn:n=l.length):AN lo h (qS r n c) l:=by
 subst hn
 exact A7.row hg hr (by rw[FZ,Nat.mul_one])
theorem AN.row' {r:Nat} {ty:TypeId} {g:Bool} {c n:Nat} (hg:h.get r=.row (ints l) ty g false) (hr:lo≤r∧r<h.next) (hn:n=l.length):AN lo h (qS r n c) l:=AN.row (ex:=[]) (by rw[List.append_nil];exact hg) hr hn
end
def IA (lo:Nat) (h:AA) (v:Value) (l:List AE):Prop:=AU h v l∧A7 lo h v l.length 5 (l.flatMap AI)
theorem IA.of {lo:Nat} {h:AA} {v:Value} {l:List AE} (hc:A7 lo h v l.length 5 (l.flatMap AI)):IA lo h v l:=by
 refine⟨?_,hc⟩
 obtain⟨hl,a,c,rfl,⟨h0,rfl⟩ | ⟨id,off,row,ty,g,ro,rfl,h1,h2,h3⟩⟩:=hc
 ·exact⟨_,_,rfl,.inl ⟨List.length_eq_zero_iff.1 h0,rfl⟩⟩
 ·refine⟨_,_,rfl,.inr ⟨id,off,row,ty,g,ro,rfl,h1,h2.2,fun k r hk=>?_⟩⟩
  have hlt:=(List.getElem?_eq_some_iff.1 hk).1
  rw[← PT hk,← h3.1,List.drop_take,List.drop_drop,List.take_take]
  congr 1
  have:k*5+5≤l.length*5:=by omega
  omega
theorem IA.mono {lo:Nat} {h h':AA} {v:Value} {l:List AE} (hc:IA lo h v l) (hn:h.next≤h'.next) (hg:∀ i,lo≤i→i<h.next→h'.get i=h.get i):IA lo h' v l:=IA.of (hc.2.mono hn hg)
theorem AU.cells {h:AA} {v:Value} {l:List AE} (hv:AU h v l):IA 0 h v l:=by
 have hs:=JL l
 refine IA.of ⟨hs,?_⟩
 obtain⟨a,c,rfl,⟨rfl,rfl⟩ | ⟨id,off,cs,ty,g,ro,rfl,hg,hid,hc⟩⟩:=hv
 ·exact⟨_,_,rfl,.inl ⟨rfl,rfl⟩⟩
 ·exact⟨_,_,rfl,.inr ⟨id,off,cs,ty,g,ro,rfl,hg,⟨Nat.zero_le _,hid⟩,aH l cs off hc,fun h=>absurd h (Nat.lt_irrefl 0)⟩⟩
def DJ (lo:Nat) (h:AA) (pv:Value) (nm:ByteArray) (s:AS):Prop:=
 ∃ vr vq vv vt vu vo,pv=.agg #[.string nm,vr,vq,vv,vt,vu,vo,iv s.miss]∧IA lo h vr s.rows∧A7 lo h vq s.queues.length 2 (IE s.queues)∧A7 lo h vv s.vars.length 1 (DZ s.vars)∧A7 lo h vt s.tags.length 1 (DZ s.tags)∧AN lo h vu s.rules∧AN lo h vo s.on
theorem DJ.mono {lo:Nat} {h h':AA} {pv:Value} {nm:ByteArray} {s:AS} (hp:DJ lo h pv nm s) (hn:h.next≤h'.next) (hg:∀ i,lo≤i→i<h.next→h'.get i=h.get i):DJ lo h' pv nm s:=by
 obtain⟨vr,vq,vv,vt,vu,vo,h1,h2,h3,h4,h5,h6,h7⟩:=hp
 exact⟨vr,vq,vv,vt,vu,vo,h1,h2.mono hn hg,h3.mono hn hg,h4.mono hn hg,h5.mono hn hg,h6.mono hn hg,h7.mono hn hg⟩
theorem AU.one {h:AA} {v:Value} {l:List AE} (hv:AU h v l):one v=true:=by
 obtain⟨a,c,rfl,_⟩:=hv
 rfl
theorem AU.vcells {h:AA} {v:Value} {l:List AE} (hv:AU h v l):v.cells=#[v]:=by
 obtain⟨a,c,rfl,_⟩:=hv
 rfl
theorem nU {a b c d e f g i:Value}:(Value.agg #[a,b,c,d,e,f,g,i]).cells.toList=[a,b,c,d,e,f,g,i]:=rfl
section
variable {call:AT} {N:Nat} {h:AA}
theorem Hg {a b:Int} (hb:0≤b∧b≤4611686018427387904) (ha:0≤a∧a≤4611686018427387904):A9 Tryd.prog call N 62 [iv a,iv b] h=some (iv (BG a b),h):=by
 refine EA Tryd.func62 rfl (by simp[Tryd.f62]) ?_
 have hr:Tryd.f62.results.toList=[.tmp 4]:=rfl
 have w1:IntKind.i64.wrap (4611686018427387904-b)=4611686018427387904-b:=B0 (by omega) (by omega)
 unfold BG
 cases d:decide (a>4611686018427387904-b) with
 | true=>
  rw[if_pos (by simpa using d)]
  simp only[eE,seval,↓eP,rP,hr,w1,d]
 | false=>
  have d':¬ a>4611686018427387904-b:=by simpa using d
  have w2:IntKind.i64.wrap (a+b)=a+b:=B0 (by omega) (by omega)
  rw[if_neg d']
  simp only[eE,seval,↓eP,rP,hr,w1,d,w2]
theorem jX {a b:Int} (h:AA) (hb:0≤b∧b≤4611686018427387904) (ha:0≤a∧a≤4611686018427387904):L1 62 [iv a,iv b] h=some (iv (BG a b),h):=EV (GO rfl rfl) rfl rfl rfl ⟨_,Hg hb ha⟩
theorem vK {vr v0 vq vv vt vu vo v7 ve vs:Value} {rows:List AE} {E S:List Int} {row q:Nat} (hone:one v0=true∧one vq=true∧one vv=true∧one vt=true∧one vu=true∧one vo=true∧one v7=true) (hv:AU h vr rows) {le ls:Nat} (he:AN le h ve E) (hS:AN ls h vs S) (hs:C1 S) (hE:E[row]?=some (q:Int)) (hrq:row≤q) (hq:q≤rows.length) (hlen:rows.length<30000000000000) (hN:rows.length+3<N)
  (hcalls:∀ x∈(rows.drop row).take (q-row),x.kind=22→0≤x.n∧x.n<S.length) (h83:∀ a b h',0≤b∧b≤4611686018427387904→0≤a∧a≤4611686018427387904→call 62 [iv a,iv b] h'=some (iv (BG a b),h')) :
  ∃ h',A9 Tryd.prog call N 63 [.agg #[v0,vr,vq,vv,vt,vu,vo,v7],ve,vs,iv row] h=some (iv (GU S ((rows.drop row).take (q-row)) 0),h')∧∀ i,i<h.next→h'.get i=h.get i:=by
 refine FB (R:=fun h'=>∀ i,i<h.next→h'.get i=h.get i) Tryd.func63 rfl (by simp[Tryd.f63]) ?_
 have hr:Tryd.f63.results.toList=[.tmp 8]:=rfl
 have hall:[v0,vr,vq,vv,vt,vu,vo,v7].all one=true:=by
  obtain⟨a,b,c,d,e,f,g⟩:=hone
  simp[a,b,c,d,e,f,g,hv.one]
 have hold:∀ i,i<h.next→(h.push (.row [v0,vr,vq,vv,vt,vu,vo,v7] 30 false false)).get i=h.get i:=fun i hi=>AP hi
 have hnew:(h.push (.row [v0,vr,vq,vv,vt,vu,vo,v7] 30 false false)).get h.next=.row [v0,vr,vq,vv,vt,vu,vo,v7] 30 false false:=BO
 have hnx:(h.push (.row [v0,vr,vq,vv,vt,vu,vo,v7] 30 false false)).next=h.next+1:=rfl
 simp only[eE,seval,↓eP,DC,C8,C4,hr,nU,hall,HM]
 generalize h.push (.row [v0,vr,vq,vv,vt,vu,vo,v7] 30 false false)=H at *
 have hvH:=hv.mono (h':=H) (by omega) hold
 have heH:=he.mono (h':=H) (by omega) fun i _ hi=>hold i hi
 have hSH:=hS.mono (h':=H) (by omega) fun i _ hi=>hold i hi
 obtain⟨ie,pe,e1,e2,e3⟩:=heH.get hE
 have hl1:AO 1 (H.get h.next)=some vr:=by rw[hnew];rfl
 have hseg:((rows.drop row).take (q-row)).length=q-row:=by rw[List.length_take,List.length_drop];omega
 refine WK.loop (fun i s=>s.h=H∧s.T.get 1=ve∧s.T.get 2=vs∧s.T.get 3=iv row∧s.T.get 4=qP h.next 0∧s.T.get 10=iv ((row+i:Nat):Int)∧i≤q-row∧∃ n:Int,s.T.get 9=iv n∧0≤n∧n≤4611686018427387904∧GU S (((rows.drop row).take (q-row)).drop i) n=GU S ((rows.drop row).take (q-row)) 0) (q-row) (by omega) ?_ ?_
 ·simp only[eE,↓reduceIte,Nat.reduceEqDiff,reduceCtorEq,↓eP,rP,Nat.reduceAdd,Nat.reduceLT]
  exact⟨rfl,by omega,by omega,rfl⟩
 ·rintro i ⟨T1,H1⟩ hi ⟨rfl,t1,t2,t3,t4,t10,hil,n,t9,hn0,hnB,hcn⟩
  simp only at t1 t2 t3 t4 t10 t9
  by_cases hlt:i<q-row
  ·have c1:decide (((row+i:Nat):Int)<(q:Int))=true:=by simp only[decide_eq_true_eq];omega
   have w1:IntKind.i64.wrap (((row+i:Nat):Int)+1)=((row+(i+1):Nat):Int):=by rw[B0 (by omega) (by omega)];omega
   obtain⟨x,hx⟩:∃ x,rows[row+i]?=some x:=⟨_,List.getElem?_eq_getElem (by omega)⟩
   obtain⟨id,p,e0,hid,l0,l1,l2,l3,l4,lr⟩:=hvH.row hx
   have hsx:((rows.drop row).take (q-row))[i]?=some x:=by rw[List.getElem?_take_of_lt hlt,List.getElem?_drop];exact hx
   have p1:=IN (a:=n) (b:=1) hn0 (by omega) (by omega)
   have h831:=fun hh=>h83 n 1 hh (by omega) ⟨hn0,hnB⟩
   have hdr:((rows.drop row).take (q-row)).drop i=x :: ((rows.drop row).take (q-row)).drop (i+1):=by
    obtain⟨hl,he⟩:=List.getElem?_eq_some_iff.1 hsx
    rw[List.drop_eq_getElem_cons hl,he]
   rw[hdr] at hcn
   change GU S (((rows.drop row).take (q-row)).drop (i+1)) (if x.kind=22 then BG (BG n 1) (FA S x.n) else BG n 1)=_ at hcn
   cases d22:(x.kind==22) with
   | false=>
    rw[if_neg (by simpa using d22)] at hcn
    simp only[eE,seval,↓eP,rP,t1,t2,t3,t4,t9,t10,e1,e3,c1,h831,CR,CI,hl1,e0,l0,DI,d22,w1]
    exact⟨hlt,by omega,p1.1,p1.2,hcn⟩
   | true=>
    have h22:x.kind=22:=by simpa using d22
    rw[if_pos h22] at hcn
    obtain⟨n0,n1⟩:=hcalls x (List.mem_of_getElem? hsx) h22
    obtain⟨y,hy⟩:∃ y,S[x.n.toNat]?=some y:=⟨_,List.getElem?_eq_getElem (by omega)⟩
    obtain⟨is,ps,f1,f2,f3⟩:=hSH.get hy
    rw[Int.toNat_of_nonneg n0] at f1
    have hys:FA S x.n=y:=by unfold FA;rw[hy];rfl
    rw[hys] at hcn
    have hyb:0≤y∧y≤4611686018427387904:=hs y (List.mem_of_getElem? hy)
    have p2:=IN p1.1 hyb.1 hyb.2
    have h832:=fun hh=>h83 (BG n 1) y hh hyb p1
    simp only[eE,seval,↓eP,rP,t1,t2,t3,t4,t9,t10,e1,e3,c1,h831,h832,CR,CI,hl1,e0,l0,l3,DI,I_,d22,w1,f1,f3]
    exact⟨hlt,by omega,p2.1,p2.2,hcn⟩
  ·have c1:decide (((row+i:Nat):Int)<(q:Int))=false:=by simp only[decide_eq_false_iff_not];omega
   have hnn:n=GU S ((rows.drop row).take (q-row)) 0:=by
    rw[← hcn,List.drop_of_length_le (by omega)]
    rfl
   subst hnn
   simp only[eE,seval,↓eP,rP,hr,t1,t2,t3,t4,t9,t10,e1,e3,c1]
   exact hold
end
theorem MO {P:Program} {call:AT} {n:Nat} {f:FuncId} {args:List Value} {h:AA} {fn:Func} {c:Code} {R:Value→AA→Prop} (hf:P.funcs[f]?=some fn) (hb:fn.body=some c) (hl:args.length≤fn.ntmps)
  (hw:WK P call n c ⟨IU 0 args .leaf,h⟩ (.top fun e s=>(e=.normal∨e=.ret)∧∃ vs,E8 P s fn.results.toList=some vs∧R (GR vs) s.h)):∃ v h',A9 P call n f args h=some (v,h')∧R v h':=e_ hf hb hl hw
theorem Px {h:AA} {lo:Nat} {v:Value} {l:List Int} {x:Int} (hs:EK h lo (fun _=>1) 1 v l.length (ints l) 3) (hlo:lo≤h.next) (hf:h.floor≤lo) (hb:l.length<10000000) :
  ∃ v' h',DE Tryd.prog (h.push (.row [iv x] 3 false false)) 28 v (qS h.next 1 1)=some (v',h')∧EK h' lo (fun _=>1) 1 v' (l++[x]).length (ints (l++[x])) 3∧h'.floor=h.floor∧h.next≤h'.next∧∀ i,i<lo→h'.get i=h.get i:=by
 have hs':EK (h.push (.row [iv x] 3 false false)) lo (fun i=>if i=h.next then 0 else 1) 1 v l.length (ints l) 3:=hs.mono (by show h.next≤h.next+1;omega) (fun i hi=>if_neg (by omega)) fun i _ hi _=>AP hi
 obtain⟨v',h1,a1,a2,a3,a4,a5,a6,a7⟩:=PB (et:=3) (w:=1) (c:=1) (sc:=1) (xs:=[iv x]) Tryd.underlying28 CU LU JI rfl (by decide) (by decide) hs' ((FZ _).trans (Nat.mul_one _).symm) (PJ _) rfl rfl (by decide) (by decide) (by omega) (src:=h.next) BO (by show h.next<h.next+1;omega) hf (by simp)
 have hnx:h1.next=h.next+2:=a4
 refine⟨v',h1,a1,?_,a3,by omega,fun i hi=>?_⟩
 ·rcases a2 with a2 | a2
  ·rcases a2 with⟨h2,_⟩ | ⟨id,ex,b1,b2,b3,b4,b5⟩
   ·omega
   ·refine .inr ⟨id,ex,?_,?_,b3,b4,rfl⟩
    ·rw[b1,List.length_append];rfl
    ·rw[b2];simp[ints]
  ·exact absurd (show lo≤h.next+1 by omega) a2
 ·rw[a7 i (by show i<h.next+1;omega) (by omega),AP (by omega)]
def J9 (rows:List AE) (E:List Int):List Int→List Int→List Int
 | [],S=>S
 | ru :: rest,S=>J9 rows E rest (S++[FJ rows E S ru.toNat])
def blk (rows:List AE) (E:List Int) (row:Nat):List AE:=(rows.drop row).take (((E[row]?).getD 0).toNat-row)
structure UX (rows:List AE) (E rules:List Int):Prop where
 lay:OC rows E rules
 ahead:∀ (i:Nat) (ru:Int),rules[i]?=some ru→∀ x∈blk rows E ru.toNat,x.kind=22→x.n<i
theorem OC.end {rows:List AE} {E rules:List Int} (hL:OC rows E rules) {i:Nat} (hi:i<rows.length):∃ q:Nat,E[i]?=some (q:Int)∧i≤q∧q≤rows.length∧blk rows E i=(rows.drop i).take (q-i):=by
 obtain⟨q,h1,h2,h3⟩:=hL.ends i hi
 exact⟨q,h1,by omega,h3,by unfold blk;rw[h1];rfl⟩
section
variable {call:AT} {N:Nat} {h:AA}
theorem Dn {vr v0 vq vv vt vu vo v7 ve:Value} {rows:List AE} {E rules:List Int} (hone:one v0=true∧one vq=true∧one vv=true∧one vt=true∧one vo=true∧one v7=true) (hv:AU h vr rows) {le lu:Nat} (he:AN le h ve E) (hu:AN lu h vu rules) (hL:UX rows E rules) (hfl:h.floor≤h.next) (hN:rules.length+3<N)
  (h63:∀ vs S row H,(∀ i,i<h.next→H.get i=h.get i)→h.next≤H.next→AN (h.next+1) H vs S→C1 S→row<rows.length→(∀ x∈blk rows E row,x.kind=22→0≤x.n∧x.n<S.length)→call 63 [.agg #[v0,vr,vq,vv,vt,vu,vo,v7],ve,vs,iv (row:Int)] H=some (iv (FJ rows E S row),H)) :
  ∃ v h',A9 Tryd.prog call N 61 [.agg #[v0,vr,vq,vv,vt,vu,vo,v7],ve] h=some (v,h')∧(AN h.next h' v (J9 rows E rules [])∧h'.floor=h.floor∧h.next≤h'.next∧∀ i,i<h.next→h'.get i=h.get i):=by
 refine MO (R:=fun v h'=>AN h.next h' v (J9 rows E rules [])∧h'.floor=h.floor∧h.next≤h'.next∧∀ i,i<h.next→h'.get i=h.get i) Tryd.func61 rfl (by simp[Tryd.f61]) ?_
 have hr:Tryd.f61.results.toList=[.tmp 4]:=rfl
 have hall:[v0,vr,vq,vv,vt,vu,vo,v7].all one=true:=by
  obtain⟨a,b,c,d,e,f⟩:=hone
  simp[a,b,c,d,e,f,hv.one,A7.one hu]
 have hold:∀ i,i<h.next→(h.push (.row [v0,vr,vq,vv,vt,vu,vo,v7] 30 false false)).get i=h.get i:=fun i hi=>AP hi
 have hnew:(h.push (.row [v0,vr,vq,vv,vt,vu,vo,v7] 30 false false)).get h.next=.row [v0,vr,vq,vv,vt,vu,vo,v7] 30 false false:=BO
 have hnx:(h.push (.row [v0,vr,vq,vv,vt,vu,vo,v7] 30 false false)).next=h.next+1:=rfl
 have hfx:(h.push (.row [v0,vr,vq,vv,vt,vu,vo,v7] 30 false false)).floor=h.floor:=rfl
 simp only[eE,seval,↓eP,DC,C8,C4,hr,nU,hall,HM]
 generalize h.push (.row [v0,vr,vq,vv,vt,vu,vo,v7] 30 false false)=H at *
 refine WK.loop (fun i s=>s.T.get 1=ve∧s.T.get 2=qP h.next 0∧s.T.get 6=iv i∧i≤rules.length∧s.h.floor=h.floor∧h.next+1≤s.h.next∧(∀ i,i<h.next+1→s.h.get i=H.get i)∧∃ S:List Int,EK s.h (h.next+1) (fun _=>1) 1 (s.T.get 5) S.length (ints S) 3∧C1 S∧S.length=i∧J9 rows E (rules.drop i) S=J9 rows E rules []) rules.length (by omega) ?_ ?_
 ·simp only[eE,↓reduceIte,Nat.reduceEqDiff,reduceCtorEq,↓eP,rP,Nat.reduceAdd,Nat.reduceLT]
  exact⟨rfl,hfx,by omega,fun _ _=>trivial,[],.inl ⟨rfl,rfl,rfl⟩,(fun x hx=>by cases hx),rfl,rfl⟩
 ·rintro i ⟨T1,H1⟩ hi ⟨t1,t2,t6,hil,hf1,hn1,ho1,S,hsl,hSS,hSl,hcn⟩
  simp only at t1 t2 t6 hf1 hn1 ho1 hsl
  have ho2:∀ i,i<h.next→H1.get i=h.get i:=fun i hi=>(ho1 i (by omega)).trans (hold i hi)
  have hg:H1.get h.next=.row [v0,vr,vq,vv,vt,vu,vo,v7] 30 false false:=(ho1 _ (by omega)).trans hnew
  have hSI:AN (h.next+1) H1 (T1.get 5) S:=EK.cells hsl ((FZ _).trans (Nat.mul_one _).symm)
  have hu1:=hu.mono (h':=H1) (by omega) fun i _ hi=>ho2 i hi
  have hulen:=fun h'=>hu.len (h':=h')
  have hl5:AO 5 (H1.get h.next)=some vu:=by rw[hg];rfl
  have hl8:BL 8 0 (H1.get h.next)=some (.agg #[v0,vr,vq,vv,vt,vu,vo,v7]):=by rw[hg];rfl
  by_cases hlt:i<rules.length
  ·have c1:decide ((i:Int)<(rules.length:Int))=true:=by simp only[decide_eq_true_eq];omega
   have w1:IntKind.i64.wrap ((i:Int)+1)=((i+1:Nat):Int):=B0 (by have:=hL.lay.nrules;omega) (by have:=hL.lay.nrules;omega)
   obtain⟨ru,hru⟩:∃ ru,rules[i]?=some ru:=⟨_,List.getElem?_eq_getElem hlt⟩
   obtain⟨r0,r1⟩:=hL.lay.rl ru (List.mem_of_getElem? hru)
   obtain⟨iu,pu,f1,f2,f3⟩:=hu1.get hru
   have hc:=h63 (T1.get 5) S ru.toNat H1 ho2 (by omega) hSI hSS (by omega) (fun x hx h22=>by
    have h1:=hL.ahead i ru hru x hx h22
    refine⟨?_,by omega⟩
    have:x∈rows:=List.mem_of_mem_drop (List.mem_of_mem_take hx)
    exact(hL.lay.calls x this h22).1)
   rw[Int.toNat_of_nonneg r0] at hc
   have hdr:rules.drop i=ru :: rules.drop (i+1):=by
    obtain⟨hl,he⟩:=List.getElem?_eq_some_iff.1 hru
    rw[List.drop_eq_getElem_cons hl,he]
   rw[hdr,J9] at hcn
   obtain⟨v',H2,a1,a2,a3,a4,a5⟩:=Px (x:=FJ rows E S ru.toNat) hsl hn1 (by omega) (by have:=hL.lay.nrules;omega)
   have hle:=SA (rows:=rows) (E:=E) hSS ru.toNat
   simp only[eE,seval,↓eP,rP,t1,t2,t6,F2,CC,hl5,hulen,c1]
   refine WK.quiet (by kernel_rfl) ?_
   simp only[eE,seval,↓eP,rP,t1,t2,t6,F2,CC,GX,hl5,hl8,f1,f3,hc,MB,a1,w1]
   refine⟨hlt,by omega,by omega,by omega,fun j hj=>by rw[a5 j hj];exact ho1 j hj,S++[FJ rows E S ru.toNat],a2,?_,by simp;omega,hcn⟩
   intro x hx
   rcases List.mem_append.1 hx with hx | hx
   ·exact hSS x hx
   ·rw[List.mem_singleton.1 hx];exact hle
  ·have c1:decide ((i:Int)<(rules.length:Int))=false:=by simp only[decide_eq_false_iff_not];omega
   rw[List.drop_of_length_le (by omega)] at hcn
   have hSe:S=J9 rows E rules []:=hcn
   rw[hSe] at hSI
   simp only[eE,seval,↓eP,rP,hr,t1,t2,t6,F2,CC,hl5,hulen,c1]
   exact⟨hSI.weak (by omega),hf1,by omega,ho2⟩
end
def eG:Code→Code
 | .loop c=>c
 | .block _ c=>c
 | c=>c
noncomputable def xA:Code:=Tryd.f84.body.getD .skip
noncomputable def ZO:Code:=eG (eG (rt (lf (rt (rt (rt xA))))))
noncomputable def UV:Code:=eG (lf (rt ZO))
noncomputable def X1:Code:=rt UV
noncomputable def X2:Code:=rt X1
noncomputable def X3:Code:=rt X2
noncomputable def X4:Code:=rt X3
noncomputable def X5:Code:=rt X4
noncomputable def X6:Code:=rt X5
def Ht (i:Nat) (f:CW):Prop:=(1≤f.kind∧f.kind≤54)∧0<f.left∧(f.kind=1∨f.kind=11∨(f.next:Int)+f.left≤CV f.kind)∧f.left≤9223372036854775807∧f.next≤i
theorem lG {k:Int} {j:Nat}:HD (BW k j)=BW k j∧M1 (BW k j):=by
 unfold BW
 (repeat' split) <;> exact⟨rfl,by unfold M1;omega⟩
theorem Ru {f:CW} {s:List CW}:QP f.kind f.next=HD (MH (f :: s)):=by
 show _=HD (if f.kind=1 then 9 else BW f.kind f.next)
 unfold QP
 split
 ·rfl
 ·exact lG.1.symm
theorem rU {s:List CW}:M1 (MH s):=by
 cases s with
 | nil=>exact .inl rfl
 | cons f s=>
  show M1 (if f.kind=1 then 9 else BW f.kind f.next)
  split
  ·exact .inr (.inl rfl)
  ·exact lG.2
theorem Fi {w:Int} (h:M1 w):(HD w==1)=decide (w=9):=by
 rcases h with rfl | rfl | rfl | rfl | rfl | rfl | rfl | rfl <;> rfl
section
variable {call:AT} {n:Nat}
def KW (h:AA) (v:Value) (i:Nat) (T:Tr) (H:AA) (s:List CW) (ev:Bool):Prop:=
 T.get 0=v∧T.get 5=iv i∧T.get 4=.bool ev∧K4 h.next H (T.get 3) s∧H.floor=h.floor∧h.next≤H.next∧∀ j,j<h.next→H.get j=h.get j
structure VD (call:AT):Prop where
 kid:∀ (κ:Int) (j:Nat) h,1≤κ∧κ≤54→(κ=1∨κ=11∨(j:Int)<CV κ)→call 99 [iv κ,iv j] h=some (iv (QP κ j),h)
 right:∀ w (x:AE) h,M1 w→call 100 [DM x,iv (HD w)] h=some (.bool (FL w x.kind&&DT AV x),h)
 decl:∀ k h,call 101 [iv k] h=some (.bool (CE 0 k),h)
 event:∀ k h,call 102 [iv k] h=some (.bool (CE 1 k),h)
theorem Y0 {h:AA} {v:Value} {i:Nat} {T:Tr} {H:AA} {s:List CW} {ev:Bool} {k:B7} (hc:VD call) (hB:KW h v i T H s ev) (hfl:h.floor≤h.next) (hs:s.length<2932031007403) (hi:i<2932031007403) (hok:∀ f s',s=f :: s'→Ht i f)
  (hk:∀ T' H',KW h v i T' H' (KH s) ev→T'.get 6=iv (HD (MH s))→WK Tryd.prog call n X2 ⟨T',H'⟩ k):WK Tryd.prog call n UV ⟨T,H⟩ k:=by
 obtain⟨t0,t5,t4,hst,hf,hn,hold⟩:=hB
 show WK _ _ _ (.seq _ (.seq _ X2)) _ _
 have hlen:=fun h'=>hst.len (h':=h')
 cases s with
 | nil=>
  have c0:decide (((([]:List CW).length:Nat):Int)>0)=false:=rfl
  simp only[eE,seval,↓eP,rP,t0,t5,t4,hlen,c0]
  refine hk _ _ ⟨?_,?_,?_,?_,hf,hn,hold⟩ ?_
  ·simp only[eE,seval,↓eP,rP,t0]
  ·simp only[eE,seval,↓eP,rP,t5]
  ·simp only[eE,seval,↓eP,rP,t4]
  ·simp only[eE,seval,↓eP,rP];exact hst
  ·simp only[eE,seval,↓eP,rP];rfl
 | cons f s0=>
  obtain⟨id,ex,hvs,hg,hid,hidn⟩:=hst.top
  have c0:decide (((s0.length+1:Nat):Int)>0)=true:=by simp
  have w1:IntKind.i64.wrap (((s0.length+1:Nat):Int)-1)=(s0.length:Int):=by rw[B0 (by simp only[List.length_cons] at *;omega) (by simp only[List.length_cons] at *;omega)];simp
  have ix:∀ {n c},s0.length<n→CO Tryd.prog 133 (qS id n c) (iv (s0.length:Int))=some (.pointer (some ⟨id,s0.length*3,none⟩)):=fun h=>pG h
  have ix':=ix (n:=s0.length+1) (c:=AM) (by omega)
  obtain⟨c1,c2,c3,c4⟩:=ZZ (s:=s0) (f:=f) (ex:=ex) (ty:=135) (g:=true) (ro:=false)
  have okf:=hok f s0 rfl
  have hkid:=fun hh=>hc.kid f.kind f.next hh okf.1 (by
   rcases okf.2.2.1 with h | h | h
   ·exact .inl h
   ·exact .inr (.inl h)
   ·exact .inr (.inr (by have:=okf.2.1;omega)))
  have hflT:(H.floor≤H.next)=True:=by simp;omega
  have hltT:(H.next<H.next+1)=True:=by simp
  simp only[eE,seval,↓eP,rP,t0,t5,t4,hvs,KV,c0,w1,ix',hg,c1,c2,c3,c4,Fo,TK,qN,vJ,xX,Ju,hflT,hltT,mP,X_,fT]
  have hgH:((H.push (.row [iv 0,iv 0,iv 0] 135 false false)).put H.next (.row [iv f.kind,iv (f.left:Int),iv (f.next:Int)] 135 false false)).get id=.row (E9 s0++(HK f++ex)) 135 true false:=by
   rw[AK (by show H.next<H.next+1;omega) (by omega),AP hidn];exact hg
  have hnH:((H.push (.row [iv 0,iv 0,iv 0] 135 false false)).put H.next (.row [iv f.kind,iv (f.left:Int),iv (f.next:Int)] 135 false false)).next=H.next+1:=rfl
  have hfH:((H.push (.row [iv 0,iv 0,iv 0] 135 false false)).put H.next (.row [iv f.kind,iv (f.left:Int),iv (f.next:Int)] 135 false false)).floor=h.floor:=hf
  have hoH:∀ j,j<h.next→((H.push (.row [iv 0,iv 0,iv 0] 135 false false)).put H.next (.row [iv f.kind,iv (f.left:Int),iv (f.next:Int)] 135 false false)).get j=h.get j:=fun j hj=>by
   rw[AK (by show H.next<H.next+1;omega) (by omega),AP (by omega)];exact hold j hj
  generalize (H.push (.row [iv 0,iv 0,iv 0] 135 false false)).put H.next (.row [iv f.kind,iv (f.left:Int),iv (f.next:Int)] 135 false false)=H1 at *
  have okl:=okf.2.2.2
  have ok0:=okf.2.1
  have hll:=R2 s0
  have w2:IntKind.i64.wrap ((f.next:Int)+1)=((f.next+1:Nat):Int):=B0 (by omega) (by omega)
  have w3:IntKind.i64.wrap ((f.left:Int)-1)=((f.left-1:Nat):Int):=by rw[B0 (by omega) (by omega)];omega
  have sa:=VT (x:=((f.next+1:Nat):Int)) (off:=s0.length*3+2) hgH (by simp[HK];omega) (by omega)
  rw[Ob] at sa
  have hgH2:(H1.put id (.row (E9 s0++(HK ⟨f.kind,f.left,f.next+1⟩++ex)) 135 true false)).get id=.row (E9 s0++(HK ⟨f.kind,f.left,f.next+1⟩++ex)) 135 true false:=BI rfl (by omega)
  obtain⟨_,d2,_,_⟩:=ZZ (s:=s0) (f:=⟨f.kind,f.left,f.next+1⟩) (ex:=ex) (ty:=135) (g:=true) (ro:=false)
  have sb:=VT (h:=H1.put id (.row (E9 s0++(HK ⟨f.kind,f.left,f.next+1⟩++ex)) 135 true false)) (x:=((f.left-1:Nat):Int)) (off:=s0.length*3+1) hgH2 (by simp[HK];omega) (by show H1.floor≤id;omega)
  rw[Ri] at sb
  simp only[eE,seval,↓eP,DC,E6,KC,C8,C4,hkid,t0,t5,t4,hvs,KV,w1,w2,w3,ix',hgH,hgH2,c1,c2,c3,d2,mP,X_,fT,sa,sb]
  have hnp:((H1.put id (.row (E9 s0++(HK ⟨f.kind,f.left,f.next+1⟩++ex)) 135 true false)).put id (.row (E9 s0++(HK ⟨f.kind,f.left-1,f.next+1⟩++ex)) 135 true false)).next=H1.next:=rfl
  refine hk _ _ ⟨?_,?_,?_,?_,hfH,?_,fun j hj=>?_⟩ ?_
  ·simp only[eE,seval,↓eP,rP,t0]
  ·simp only[eE,seval,↓eP,rP,t5]
  ·simp only[eE,seval,↓eP,rP,t4]
  ·simp only[eE,seval,↓eP,rP,hvs]
   refine .inr ⟨id,ex,by rw[KH];rfl,?_,hid,by rw[hnp];omega⟩
   rw[BI rfl (by show id<H1.next;omega),KH,E9,List.append_assoc]
  ·rw[hnp];omega
  ·rw[AK (by show id<H1.next;omega) (by omega),AK (by omega) (by omega)];exact hoH j hj
  ·simp only[eE,seval,↓eP,rP];rw[← Ru]
theorem WV {h:AA} {v:Value} {i:Nat} {T:Tr} {H:AA} {s:List CW} {ev:Bool} {k:B7} {l:List AE} {w:Int} (hc:VD call) (hv:AU h v l) (hB:KW h v i T H s ev) (hw:M1 w) (h6:T.get 6=iv (HD w))
  (hbad:(l[i]?=none∨∃ x,l[i]?=some x∧(FL w x.kind&&DT AV x)=false)→∀ T':Tr,T'.get 2=iv i→k.ap Tryd.prog call n .ret ⟨T',H⟩)
  (hgood:∀ x,l[i]?=some x→(FL w x.kind&&DT AV x)=true→∀ T':Tr,KW h v i T' H s ev→T'.get 6=iv (HD w)→WK Tryd.prog call n X3 ⟨T',H⟩ k):WK Tryd.prog call n X2 ⟨T,H⟩ k:=by
 have hB':=hB
 obtain⟨t0,t5,t4,hst,hf,hn,hold⟩:=hB
 have hvH:AU H v l:=hv.mono hn hold
 have hl22:∀ h',BZ Tryd.prog h' 22 v=some (.int .i64 l.length):=fun h'=>hv.len
 show WK _ _ _ (.seq _ X3) _ _
 by_cases hi:i<l.length
 ·obtain⟨x,hx⟩:∃ x,l[i]?=some x:=⟨_,List.getElem?_eq_getElem hi⟩
  have c1:decide ((i:Int)≥(l.length:Int))=false:=by simp;omega
  obtain⟨id,q,e0,hid,l0,l1,l2,l3,l4,lr⟩:=hvH.row hx
  have hr:=fun hh=>hc.right w x hh hw
  cases d:(FL w x.kind&&DT AV x) with
  | false=>
   rw[d] at hr
   simp only[eE,seval,↓eP,rP,t0,t5,h6,hl22,c1,e0,lr,hr]
   exact hbad (.inr ⟨x,hx,d⟩) _ (by simp only[eE,seval,↓eP,rP])
  | true=>
   rw[d] at hr
   simp only[eE,seval,↓eP,rP,t0,t5,h6,hl22,c1,e0,lr,hr]
   refine hgood x hx d _ ⟨?_,?_,?_,?_,hf,hn,hold⟩ ?_
   ·simp only[eE,seval,↓eP,rP,t0]
   ·simp only[eE,seval,↓eP,rP,t5]
   ·simp only[eE,seval,↓eP,rP,t4]
   ·simp only[eE,seval,↓eP,rP];exact hst
   ·simp only[eE,seval,↓eP,rP,h6]
 ·have c1:decide ((i:Int)≥(l.length:Int))=true:=by simp;omega
  simp only[eE,seval,↓eP,rP,t0,t5,h6,hl22,c1]
  exact hbad (.inl (List.getElem?_eq_none (by omega))) _ (by simp only[eE,seval,↓eP,rP])
theorem ZF {h:AA} {v:Value} {i:Nat} {T:Tr} {H:AA} {s:List CW} {ev:Bool} {k:B7} {l:List AE} {w:Int} {x:AE} (hc:VD call) (hv:AU h v l) (hB:KW h v i T H s ev) (hw:M1 w) (h6:T.get 6=iv (HD w)) (hx:l[i]?=some x)
  (hbad:w=9∧ev=true∧CE 0 x.kind=true→∀ T':Tr,T'.get 2=iv i→k.ap Tryd.prog call n .ret ⟨T',H⟩)
  (hgood:¬ (w=9∧ev=true∧CE 0 x.kind=true)→∀ T':Tr,KW h v i T' H s (if w=9 then ev||CE 1 x.kind else ev)→WK Tryd.prog call n X4 ⟨T',H⟩ k):WK Tryd.prog call n X3 ⟨T,H⟩ k:=by
 obtain⟨t0,t5,t4,hst,hf,hn,hold⟩:=hB
 have hvH:AU H v l:=hv.mono hn hold
 obtain⟨id,q,e0,hid,l0,l1,l2,l3,l4,lr⟩:=hvH.row hx
 have hd:=hc.decl x.kind
 have he:=hc.event x.kind
 have hw1:=Fi hw
 show WK _ _ _ (.seq _ X4) _ _
 by_cases h9:w=9
 ·subst h9
  have c9:(HD 9==1)=true:=rfl
  have done:∀ ev':Bool,(ev||CE 1 x.kind)=ev'→¬ ((9:Int)=9∧ev=true∧CE 0 x.kind=true)→∀ T':Tr,T'.get 0=v→T'.get 5=iv i→T'.get 4=.bool ev'→T'.get 3=T.get 3→WK Tryd.prog call n X4 ⟨T',H⟩ k:=fun ev' e1 e2 T' u0 u5 u4 u3=>hgood e2 T' ⟨u0,u5,by rw[if_pos rfl,e1];exact u4,by rw[u3];exact hst,hf,hn,hold⟩
  cases ev with
  | true=>
   cases d0:CE 0 x.kind with
   | true=>
    rw[d0] at hd
    simp only[eE,seval,↓eP,rP,t0,t5,t4,h6,c9,e0,l0,hd]
    exact hbad ⟨rfl,rfl,d0⟩ _ (by simp only[eE,seval,↓eP,rP])
   | false=>
    rw[d0] at hd done
    simp only[eE,seval,↓eP,rP,t0,t5,t4,h6,c9,e0,l0,hd,he]
    refine done true rfl (by simp) _ ?_ ?_ ?_ ?_ <;> simp only[eE,seval,↓eP,rP,t0,t5,t4]
  | false=>
   simp only[eE,seval,↓eP,rP,t0,t5,t4,h6,c9,e0,l0,hd,he]
   refine done (CE 1 x.kind) (Bool.false_or _) (by simp) _ ?_ ?_ ?_ ?_ <;> simp only[eE,seval,↓eP,rP,t0,t5,t4]
 ·have c9:(HD w==1)=false:=by rw[hw1,decide_eq_false h9]
  simp only[eE,seval,↓eP,rP,t0,t5,t4,h6,c9]
  refine hgood (fun h=>h9 h.1) _ ⟨?_,?_,?_,?_,hf,hn,hold⟩
  ·simp only[eE,seval,↓eP,rP,t0]
  ·simp only[eE,seval,↓eP,rP,t5]
  ·simp only[eE,seval,↓eP,rP,t4,h9]
  ·simp only[eE,seval,↓eP,rP];exact hst
end
section
variable {call:AT} {n:Nat}
theorem vD {h:AA} {v:Value} {i:Nat} {T:Tr} {H:AA} {s:List CW} {ev:Bool} {k:B7} {l:List AE} {x:AE} (hv:AU h v l) (hB:KW h v i T H s ev) (hx:l[i]?=some x) (hkid:0≤x.kids) (hfl:h.floor≤h.next) (hs:s.length<2932031007403)
  (hk:∀ T' H',KW h v i T' H' (⟨x.kind,x.kids.toNat,0⟩ :: s) ev→WK Tryd.prog call n X5 ⟨T',H'⟩ k):WK Tryd.prog call n X4 ⟨T,H⟩ k:=by
 obtain⟨t0,t5,t4,hst,hf,hn,hold⟩:=hB
 have hvH:AU H v l:=hv.mono hn hold
 obtain⟨id,q,e0,hid,l0,l1,l2,l3,l4,lr⟩:=hvH.row hx
 obtain⟨v',H',ha,hst',hf',hn',hold'⟩:=Ji (a:=x.kind) (b:=x.kids) (c:=0) (f:=⟨x.kind,x.kids.toNat,0⟩) (by simp only[HK,Int.toNat_of_nonneg hkid];rfl) hst (by omega) hn hs
 show WK _ _ _ (.seq (.region _ _ true) X5) _ _
 rw[LD]
 refine WK.quiet (by kernel_rfl) ?_
 simp only[eE,seval,↓eP,rP,t0,t5,e0,l0,l4,Rv,Iu,ha]
 refine hk _ _ ⟨?_,?_,?_,?_,by omega,by omega,fun j hj=>by rw[hold' j hj];exact hold j hj⟩
 ·simp only[eE,seval,↓eP,rP,t0]
 ·simp only[eE,seval,↓eP,rP,t5]
 ·simp only[eE,seval,↓eP,rP,t4]
 ·simp only[eE,seval,↓eP,rP];exact hst'
theorem oW:∀ s:List CW,(F1 s).length≤s.length
 | []=>Nat.le_refl _
 | f :: s=>by
  by_cases h0:f.left=0
  ·rw[SG h0];have:=oW s;simp only[List.length_cons];omega
  ·rw[R9 h0];exact Nat.le_refl _
theorem K4.tail {m:Nat} {h:AA} {f:CW} {s:List CW} {v:Value} (hs:K4 m h v (f :: s)):∃ id,v=qS id (s.length+1) AM∧K4 m h (qS id s.length AM) s:=by
 obtain⟨id,ex,h1,h2,h3,h4⟩:=hs.top
 exact⟨id,h1,.inr ⟨id,HK f++ex,rfl,h2,h3,h4⟩⟩
theorem Au {h:AA} {v:Value} {i:Nat} {T:Tr} {H:AA} {s:List CW} {ev:Bool} {k:B7} (hB:KW h v i T H s ev) (hs:s.length<2932031007403) (hn0:s.length<n)
  (hk:∀ T',KW h v i T' H (F1 s) ev→WK Tryd.prog call n X6 ⟨T',H⟩ k):WK Tryd.prog call n X5 ⟨T,H⟩ k:=by
 obtain⟨t0,t5,t4,hst,hf,hn,hold⟩:=hB
 show WK _ _ _ (.seq (.block _ (.loop _)) X6) _ _
 rw[LD,XB]
 refine WK.loop (fun j st=>st.h=H∧st.T.get 0=v∧st.T.get 5=iv i∧st.T.get 4=.bool ev∧∃ s',K4 h.next H (st.T.get 3) s'∧F1 s'=F1 s∧s'.length+j≤s.length) s.length hn0 ⟨rfl,t0,t5,t4,s,hst,rfl,by omega⟩ ?_
 rintro j ⟨T1,H1⟩ hj ⟨rfl,u0,u5,u4,s',hst',hp,hl⟩
 simp only at u0 u5 u4 hst'
 have fin:F1 s'=s'→∀ T':Tr,T'.get 0=v→T'.get 5=iv i→T'.get 4=.bool ev→T'.get 3=T1.get 3→WK Tryd.prog call n X6 ⟨T',H1⟩ k:=fun e T' w0 w5 w4 w3=>hk T' ⟨w0,w5,w4,by rw[w3,← hp,e];exact hst',hf,hn,hold⟩
 cases s' with
 | nil=>
  have hlen:=fun h'=>hst'.len (h':=h')
  have c0:decide (((([]:List CW).length:Nat):Int)>0)=false:=rfl
  simp only[eE,seval,↓eP,rP,hlen,c0]
  refine fin rfl _ ?_ ?_ ?_ ?_ <;> simp only[eE,seval,↓eP,rP,u0,u5,u4]
 | cons f s0=>
  obtain⟨id,ex,hvs,hg,hid,hidn⟩:=hst'.top
  obtain⟨id',hvs',htl⟩:=hst'.tail
  have:id'=id:=by
   rw[hvs] at hvs'
   simp only[Value.slice.injEq,Option.some.injEq,Addr.mk.injEq,and_true] at hvs'
   exact hvs'.symm
  subst this
  simp only[List.length_cons] at hl
  have c0:decide (((s0.length+1:Nat):Int)>0)=true:=by simp
  have w1:IntKind.i64.wrap (((s0.length+1:Nat):Int)-1)=(s0.length:Int):=by rw[B0 (by omega) (by omega)];omega
  have ix':CO Tryd.prog 133 (qS id' (s0.length+1) AM) (iv (s0.length:Int))=some (.pointer (some ⟨id',s0.length*3,none⟩)):=pG (by omega)
  obtain⟨c1,c2,c3,c4⟩:=ZZ (s:=s0) (f:=f) (ex:=ex) (ty:=135) (g:=true) (ro:=false)
  by_cases h0:f.left=0
  ·have c5:((f.left:Int)==0)=true:=by rw[h0];rfl
   have hsl:=Pk (id:=id') (h:=H1) (n:=s0.length+1) (k:=s0.length) (by omega)
   simp only[eE,seval,↓eP,rP,u0,u5,u4,hvs,KV,c0,w1,ix',hg,c2,X_,c5,hsl]
   exact⟨by omega,s0,htl,by rw[← hp,SG h0],by omega⟩
  ·have c5:((f.left:Int)==0)=false:=by rw[beq_eq_false_iff_ne];omega
   simp only[eE,seval,↓eP,rP,hvs,KV,c0,w1,ix',hg,c2,X_,c5]
   refine fin (R9 h0) _ ?_ ?_ ?_ ?_ <;> simp only[eE,seval,↓eP,rP,u0,u5,u4,hvs]
theorem Fz {h:AA} {v:Value} {i:Nat} {T:Tr} {H:AA} {s:List CW} {ev:Bool} {k:B7} {l:List AE} (hv:AU h v l) (hB:KW h v i T H s ev) (hi:i<2932031007403)
  (hbad:s=[]→i+1<l.length→∀ T':Tr,T'.get 2=iv ((i+1:Nat):Int)→k.ap Tryd.prog call n .ret ⟨T',H⟩)
  (hgood:¬ (s=[]∧i+1<l.length)→∀ T':Tr,KW h v i T' H s ev→k.ap Tryd.prog call n .normal ⟨T',H⟩):WK Tryd.prog call n X6 ⟨T,H⟩ k:=by
 obtain⟨t0,t5,t4,hst,hf,hn,hold⟩:=hB
 have hl22:∀ h',BZ Tryd.prog h' 22 v=some (.int .i64 l.length):=fun h'=>hv.len
 have hlen:=fun h'=>hst.len (h':=h')
 have w1:=C6 i (by omega)
 show WK _ _ _ (.seq _ _) _ _
 have fin:¬ (s=[]∧i+1<l.length)→∀ T':Tr,T'.get 0=v→T'.get 5=iv i→T'.get 4=.bool ev→T'.get 3=T.get 3→k.ap Tryd.prog call n .normal ⟨T',H⟩:=fun e T' w0 w5 w4 w3=>hgood e T' ⟨w0,w5,w4,by rw[w3];exact hst,hf,hn,hold⟩
 by_cases h0:s=[]
 ·have c0:((s.length:Int)==0)=true:=by rw[h0];rfl
  by_cases h1:i+1<l.length
  ·have c1:decide (((i+1:Nat):Int)<(l.length:Int))=true:=by simp only[decide_eq_true_eq];omega
   simp only[eE,seval,↓eP,rP,t0,t5,hlen,hl22,c0,w1,c1]
   exact hbad h0 h1 _ (by simp only[eE,seval,↓eP,rP])
  ·have c1:decide (((i+1:Nat):Int)<(l.length:Int))=false:=by simp only[decide_eq_false_iff_not];omega
   simp only[eE,seval,↓eP,rP,t0,t5,hlen,hl22,c0,w1,c1]
   refine fin (fun h=>h1 h.2) _ ?_ ?_ ?_ ?_ <;> simp only[eE,seval,↓eP,rP,t0,t5,t4]
 ·have c0:((s.length:Int)==0)=false:=by
   rw[beq_eq_false_iff_ne]
   have:s.length≠0:=fun h=>h0 (List.length_eq_zero_iff.1 h)
   omega
  simp only[eE,seval,↓eP,rP,hlen,c0]
  refine fin (fun h=>h0 h.1) _ ?_ ?_ ?_ ?_ <;> simp only[eE,seval,↓eP,rP,t0,t5,t4]
def Y6 (i:Nat) (f:CW):Prop:=(1≤f.kind∧f.kind≤54)∧(f.kind=1∨f.kind=11∨(f.next:Int)+f.left≤CV f.kind)∧f.left≤9223372036854775807∧f.next≤i
theorem gV:∀ {s:List CW} {f:CW},f∈F1 s→f∈s
 | [],f,h=>h
 | g :: s,f,h=>by
  by_cases h0:g.left=0
  ·rw[SG h0] at h
   exact List.mem_cons_of_mem _ (gV h)
  ·rw[R9 h0] at h
   exact h
theorem rA:∀ {s:List CW} {f:CW} {s':List CW},F1 s=f :: s'→f.left≠0
 | [],f,s',h=>by cases h
 | g :: s,f,s',h=>by
  by_cases h0:g.left=0
  ·rw[SG h0] at h
   exact rA h
  ·rw[R9 h0] at h
   cases h
   exact h0
theorem x9 {i:Nat} {s:List CW} (hs:∀ f∈s,Y6 i f) (ht:∀ f s',s=f :: s'→f.left≠0):∀ f∈KH s,Y6 (i+1) f:=by
 cases s with
 | nil=>intro f hf;cases hf
 | cons g s=>
  intro f hf
  rcases List.mem_cons.1 hf with rfl | hf
  ·obtain⟨h1,h2,h3,h4⟩:=hs g (by simp)
   have:=ht g s rfl
   refine⟨h1,?_,by simp only;omega,by simp only;omega⟩
   rcases h2 with h2 | h2 | h2
   ·exact .inl h2
   ·exact .inr (.inl h2)
   ·exact .inr (.inr (by simp only;omega))
  ·obtain⟨h1,h2,h3,h4⟩:=hs f (List.mem_cons_of_mem _ hf)
   exact⟨h1,h2,h3,by omega⟩
theorem XT (s:List CW):(KH s).length=s.length:=by cases s <;> rfl
theorem Cj {x:AE} (h:DT AV x=true):0≤x.kids∧(x.kind=1∨x.kind=11∨x.kids≤CV x.kind):=by
 unfold DT at h
 simp only[Bool.and_eq_true,Bool.or_eq_true,decide_eq_true_eq] at h
 have:=QN x.kind
 refine⟨by omega,?_⟩
 by_cases h1:x.kind=1
 ·exact .inl h1
 ·by_cases h2:x.kind=11
  ·exact .inr (.inl h2)
  ·have hm:0≤CV x.kind:=by
    unfold CV
    have e:([1,11]:List Int).contains x.kind=false:=by simp[h1,h2]
    rw[e]
    simp only[Bool.false_eq_true,if_false]
    (repeat' split) <;> omega
   omega
theorem wN {w k:Int} (h:FL w k=true):1≤k∧k≤54:=iV h
theorem Cc {l:List AE} {v:Value} {h:AA} (hc:VD call) (hv:AU h v l) (hlen:l.length<2932031007403) (hn:l.length+3<n) (hfl:h.floor≤h.next) (h64:∀ x∈l,x.kids≤9223372036854775807) :
  ∃ h',A9 Tryd.prog call n 84 [v] h=some (iv (match IQ AV l with | some p=>(p:Int) | none=>-1),h')∧∀ i,i<h.next→h'.get i=h.get i:=by
 refine FB (R:=fun h'=>∀ i,i<h.next→h'.get i=h.get i) Tryd.func84 rfl (by simp[Tryd.f84]) ?_
 have hr:Tryd.f84.results.toList=[.tmp 2]:=rfl
 have hl22:∀ h',BZ Tryd.prog h' 22 v=some (.int .i64 l.length):=fun h'=>hv.len
 have hsim:=wQ (isName:=AV) (l:=l) (M:=l.length+1) (by omega)
 generalize IQ AV l=R at *
 simp only[eE,seval,↓eP,rP,hr]
 refine WK.loop (fun j st=>∃ s ev,KW h v j st.T st.h s ev∧s.length≤j∧(∀ f∈s,Y6 j f)∧(∀ f s',s=f :: s'→f.left≠0)∧(((s≠[]∨j=0)∧G9 (isName:=AV) l (l.length+1-j) j s ev=R)∨(s=[]∧0<j∧R=none))) l.length (by omega) ?_ ?_
 ·refine⟨[],false,⟨?_,?_,?_,?_,rfl,Nat.le_refl _,fun _ _=>rfl⟩,Nat.le_refl _,(fun f hf=>by cases hf),(fun f s' hf=>by cases hf),.inl ⟨.inr rfl,hsim⟩⟩
  ·simp only[eE,seval,↓eP,rP]
  ·simp only[eE,↓reduceIte,Nat.reduceEqDiff,reduceCtorEq,↓eP,rP,Nat.reduceAdd,Nat.reduceLT];rfl
  ·simp only[eE,seval,↓eP,rP]
  ·simp only[eE,seval,↓eP,rP];exact .inl ⟨rfl,rfl⟩
 ·rintro j ⟨T1,H1⟩ hj ⟨s,ev,hB,hsl,hok,htop,hrun⟩
  have hB':=hB
  obtain⟨t0,t5,t4,hst,hf,hnx,hold⟩:=hB
  simp only at t0 t5 t4 hst hf hnx hold
  have hlenS:=fun h'=>hst.len (h':=h')
  have w1:=C6 j (by omega)
  -- the end: no row is open
  by_cases hend:s=[]∧0<j
  ·obtain⟨rfl,hj0⟩:=hend
   have hRn:R=none:=by
    rcases hrun with⟨h1 | h1,_⟩ | ⟨_,_,h1⟩
    ·exact absurd rfl h1
    ·omega
    ·exact h1
   subst hRn
   have c0:((j:Int)==0)=false:=by rw[beq_eq_false_iff_ne];omega
   have c1:decide (((([]:List CW).length:Nat):Int)>0)=false:=rfl
   simp only[eE,seval,↓eP,rP,t5,hlenS,c0,c1]
   exact hold
  ·have hrun':G9 (isName:=AV) l (l.length+1-j) j s ev=R:=by
    rcases hrun with⟨_,h1⟩ | ⟨h1,h2,_⟩
    ·exact h1
    ·exact absurd ⟨h1,h2⟩ hend
   obtain⟨m,hm⟩:∃ m,l.length+1-j=m+1:=⟨l.length-j,by omega⟩
   rw[hm,G9] at hrun'
   have head:∀ (c:Code) (k:B7),(∀ T':Tr,KW h v j T' H1 s ev→WK Tryd.prog call n (.block 1 UV) ⟨T',H1⟩ (.seq c k))→WK Tryd.prog call n (lf ZO) ⟨T1,H1⟩ (.seq (.seq (.block 1 UV) c) k):=fun c k hk=>by
    show WK _ _ _ (.seq _ (.cond _ _ _)) _ _
    by_cases hj0:j=0
    ·have c0:((j:Int)==0)=true:=by rw[hj0];rfl
     simp only[SB,seval,↓eP,rP,t5,c0]
     refine hk _ ⟨?_,?_,?_,?_,hf,hnx,hold⟩
     ·simp only[eE,seval,↓eP,rP,t0]
     ·simp only[eE,seval,↓eP,rP,t5]
     ·simp only[eE,seval,↓eP,rP,t4]
     ·simp only[eE,seval,↓eP,rP];exact hst
    ·have c0:((j:Int)==0)=false:=by rw[beq_eq_false_iff_ne];omega
     have hs0:s.length≠0:=fun e=>hend ⟨List.length_eq_zero_iff.1 e,by omega⟩
     have c1:decide (((s.length:Nat):Int)>0)=true:=by simp only[decide_eq_true_eq];omega
     simp only[SB,seval,↓eP,rP,t5,hlenS,c0,c1]
     refine hk _ ⟨?_,?_,?_,?_,hf,hnx,hold⟩
     ·simp only[eE,seval,↓eP,rP,t0]
     ·simp only[eE,seval,↓eP,rP,t5]
     ·simp only[eE,seval,↓eP,rP,t4]
     ·simp only[eE,seval,↓eP,rP];exact hst
   show WK _ _ _ (.seq (lf ZO) (.seq (.block 1 UV) _)) _ _
   rw[LD]
   refine head _ _ fun T2 hB2=>?_
   rw[XB]
   refine Y0 hc hB2 hfl (by omega) (by omega) (fun f s' he=>?_) fun T3 H3 hB3 h6=>?_
   ·have h1:=hok f (by rw[he];simp)
    have h2:=htop f s' he
    exact⟨h1.1,by omega,h1.2.1,h1.2.2.1,h1.2.2.2⟩
   have old3:=hB3.2.2.2.2.2.2
   refine WV hc hv hB3 rU h6 (fun hb T4 u2=>?_) fun x hx hgood T4 hB4 h6'=>?_
   ·have hR:R=some j:=by
     rw[← hrun']
     rcases hb with hb | ⟨x,hx,hb⟩
     ·simp only[KE,hb]
     ·simp only[KE,hx,hb,Bool.false_eq_true,if_false]
    subst hR
    simp only[eE,seval,↓eP,rP,u2]
    exact old3
   refine ZF hc hv hB4 rU h6' hx (fun hb T5 u2=>?_) fun hb T5 hB5=>?_
   ·have hR:R=some j:=by
     rw[← hrun']
     simp only[KE,hx,hgood,if_true]
     rw[if_pos hb]
    subst hR
    simp only[eE,seval,↓eP,rP,u2]
    exact old3
   have hjl:j<l.length:=(List.getElem?_eq_some_iff.1 hx).1
   have hg:=Bool.and_eq_true_iff.1 hgood
   obtain⟨hk0,hk1⟩:=Cj hg.2
   have hkk:=wN hg.1
   have hx64:=h64 x (List.mem_of_getElem? hx)
   refine vD hv hB5 hx hk0 hfl (by rw[XT];omega) fun T6 H6 hB6=>?_
   refine Au hB6 (by simp only[List.length_cons,XT];omega) (by simp only[List.length_cons,XT];omega) fun T7 hB7=>?_
   have old7:=hB7.2.2.2.2.2.2
   simp only[KE,hx,hgood,if_true] at hrun'
   rw[if_neg hb] at hrun'
   have hplen:=oW (⟨x.kind,x.kids.toNat,0⟩ :: KH s)
   simp only[List.length_cons,XT] at hplen
   have hdec:=x9 hok htop
   have hall:∀ f∈F1 (⟨x.kind,x.kids.toNat,0⟩ :: KH s),Y6 (j+1) f:=fun f hf=>by
    rcases List.mem_cons.1 (gV hf) with rfl | hf
    ·refine⟨hkk,?_,by simp only;omega,by simp only;omega⟩
     rcases hk1 with h | h | h
     ·exact .inl h
     ·exact .inr (.inl h)
     ·exact .inr (.inr (by simp only;omega))
    ·exact hdec f hf
   have htop':∀ f s',F1 (⟨x.kind,x.kids.toNat,0⟩ :: KH s)=f :: s'→f.left≠0:=fun f s' he=>rA he
   generalize F1 (⟨x.kind,x.kids.toNat,0⟩ :: KH s)=s2 at *
   generalize (if MH s=9 then ev||CE 1 x.kind else ev)=ev2 at *
   simp only at hrun'
   refine Fz hv hB7 (by omega) (fun e1 e2 T8 u2=>?_) fun e1 T8 hB8=>?_
   ·rw[if_pos e1,if_pos e2] at hrun'
    subst hrun'
    simp only[eE,seval,↓eP,rP,u2]
    exact old7
   ·obtain⟨y0,y5,y4,yst,yf,yn,yold⟩:=hB8
    simp only[eE,↓reduceIte,Nat.reduceEqDiff,reduceCtorEq,↓eP,rP,Nat.reduceAdd,Nat.reduceLT,y5,w1]
    refine⟨hjl,s2,ev2,⟨?_,?_,?_,?_,yf,yn,yold⟩,by omega,hall,htop',?_⟩
    ·simp only[eE,↓reduceIte,Nat.reduceEqDiff,reduceCtorEq,↓eP,rP,Nat.reduceAdd,Nat.reduceLT,y0]
    ·simp only[eE,↓reduceIte,Nat.reduceEqDiff,reduceCtorEq,↓eP,rP,Nat.reduceAdd,Nat.reduceLT]
    ·simp only[eE,↓reduceIte,Nat.reduceEqDiff,reduceCtorEq,↓eP,rP,Nat.reduceAdd,Nat.reduceLT,y4]
    ·simp only[eE,↓reduceIte,Nat.reduceEqDiff,reduceCtorEq,↓eP,rP,Nat.reduceAdd,Nat.reduceLT];exact yst
    ·by_cases h0:s2=[]
     ·refine .inr ⟨h0,by omega,?_⟩
      rw[if_pos h0,if_neg (fun h=>e1 ⟨h0,h⟩)] at hrun'
      exact hrun'.symm
     ·rw[if_neg h0] at hrun'
      refine .inl ⟨.inl h0,?_⟩
      rw[show l.length+1-(j+1)=m by omega]
      exact hrun'
end
theorem fV (k:Int) (h:AA):L0 101 [iv k] h=some (.bool (decide (k≥2)&&decide (k≤7)),h):=EV rfl rfl rfl rfl ⟨_,Ol⟩
theorem sK (k:Int) (h:AA):L0 102 [iv k] h=some (.bool (C3 k),h):=EV rfl rfl rfl rfl ⟨_,Jx⟩
theorem Sd {w k:Int} (h:AA) (hw:M1 w):L1 111 [iv k,iv (HD w)] h=some (.bool (FL w k),h):=by
 refine EV (GO rfl rfl) rfl rfl rfl ⟨_,vL hw (FO (fV k _)) (FO (sK k _)) ?_ ?_⟩
 ·exact(OY (n:=11) (base:=L0) (GO rfl rfl)).trans zG
 ·exact(OY (n:=11) (base:=L0) (GO rfl rfl)).trans Mx
theorem Eu (k:Int) (h:AA) (hk:1≤k∧k≤54):L0 112 [iv k] h=some (.bool (JT k),h):=EV rfl rfl rfl rfl (IS Hd hk)
theorem Bx (k:Int) (h:AA) (hk:1≤k∧k≤54):L0 113 [iv k] h=some (.bool (HE k),h):=EV rfl rfl rfl rfl (IS Nh hk)
theorem uP (k:Int) (h:AA) (hk:1≤k∧k≤54):L0 115 [iv k] h=some (.tuple #[iv (FG k),iv (CV k)],h):=EV rfl rfl rfl (O2 rfl rfl) (IS Dh hk)
theorem Aw {w:Int} {x:AE} (h:AA) (hw:M1 w):L3 100 [DM x,iv (HD w)] h=some (.bool (FL w x.kind&&DT AV x),h):=by
 refine EV (N5 (GO (GO rfl rfl) rfl) rfl) rfl ?_ rfl (yR (Rt (fun h=>FO (LH (Sd h hw))) (fun h hk=>FO (LH (GK (Eu _ h hk)))) (fun h hk=>FO (LH (GK (Bx _ h hk)))) (fun h=>FO (Lf h _)) (fun h hk=>FO (LH (GK (uP _ h hk))))))
 simp[NB,flat,B9]
section
variable {call:AT} {n:Nat}
theorem Cy {j:Nat} {h:AA}:A9 Tryd.prog call n 99 [iv 1,iv j] h=some (iv 1,h):=by
 refine EA Tryd.func99 rfl (by simp[Tryd.f99]) ?_
 have hr:Tryd.f99.results.toList=[.tmp 4]:=rfl
 simp only[eE,seval,↓eP,rP,hr]
theorem vI {j:Nat} {h:AA}:A9 Tryd.prog call n 99 [iv 11,iv j] h=some (iv 3,h):=by
 refine EA Tryd.func99 rfl (by simp[Tryd.f99]) ?_
 have hr:Tryd.f99.results.toList=[.tmp 4]:=rfl
 simp only[eE,seval,↓eP,rP,hr,Int.reduceBEq]
end
theorem yN (k:Int):CV k≤3:=by unfold CV;(repeat' split) <;> omega
theorem Na (k:Int) (j:Nat) (h:AA) (hk:1≤k∧k≤54) (hj:k=1∨k=11∨(j:Int)<CV k):L0 99 [iv k,iv j] h=some (iv (QP k j),h):=by
 rcases hj with rfl | rfl | hj
 ·exact EV rfl rfl rfl rfl ⟨_,Cy⟩
 ·exact EV rfl rfl rfl rfl ⟨_,vI⟩
 ·have:=yN k
  obtain rfl | rfl | rfl:j=0∨j=1∨j=2:=by omega
  ·exact EV rfl rfl rfl rfl (IS Dp hk)
  ·exact EV rfl rfl rfl rfl (IS xG hk)
  ·exact EV rfl rfl rfl rfl (IS Qq hk)
theorem y_ (n:Nat):VD (AX n) where
 kid:=fun κ j h hκ hj=>F5 (GK (Na κ j h hκ hj))
 right:=fun w x h hw=>iN (Aw h hw)
 decl:=fun k h=>F5 (GK (fV k h))
 event:=fun k h=>F5 (GK (sK k h))
section
variable {call:AT} {n:Nat}
theorem Bp {l:List AE} {v:Value} {h:AA} (hv:AU h v l) (hfl:h.floor≤h.next)
  (h84:∀ h',AU h' v l→h'.floor≤h'.next→call 84 [v] h'=some (iv (match IQ AV l with | some p=>(p:Int) | none=>-1),h'))
  (h85:IQ AV l=none→∀ h',AU h' v l→h'.floor≤h'.next→call 85 [v] h'=some (iv (DH l (l.length+1) 0).1,h')) :
  ∃ h1,A9 Tryd.prog call n 55 [v] h=some (EN (BR l).1 (BR l).2,h1)∧∀ i,i<h.next→h1.get i=h.get i:=by
 refine FB (R:=fun h1=>∀ i,i<h.next→h1.get i=h.get i) Tryd.func55 rfl (by simp[Tryd.f55]) ?_
 have hr:Tryd.f55.results.toList=[.cell 2 33]:=rfl
 have hold:∀ o:BF,∀ i,i<h.next→(h.push o).get i=h.get i:=fun o i hi=>AP hi
 have hvp:=hv.mono (h':=h.push (.row [.int .i64 0,.int .i64 0] 33 false false)) (by show h.next≤h.next+1;omega) (hold _)
 have h84':=h84 _ hvp (by show h.floor≤h.next+1;omega)
 have hflT:(h.floor≤h.next)=True:=by simpa using hfl
 have hltT:(h.next<h.next+1)=True:=by simp
 unfold BR
 cases hs:IQ AV l with
 | some p=>
  rw[hs] at h84'
  have c1:decide ((p:Int)≥0)=true:=by simp
  simp only[eE,seval,↓eP,rP,hr,HU,HT,h84',c1,NF,RC,QA,K8,QE,hflT,hltT]
  intro i hi
  rw[if_neg (by omega),if_neg (by omega)]
 | none=>
  have h85':=h85 hs _ hvp (by show h.floor≤h.next+1;omega)
  rw[hs] at h84'
  have c1:decide ((-1:Int)≥0)=false:=rfl
  cases c2:decide ((DH l (l.length+1) 0).1>64) with
  | true=>
   rw[if_pos (by simpa using c2)]
   simp only[eE,seval,↓eP,rP,hr,c2,HU,HT,h84',h85',OW,RC,QA,K8,QE,hflT,hltT]
   intro i hi
   rw[if_neg (by omega),if_neg (by omega)]
  | false=>
   rw[if_neg (by simpa using c2)]
   simp only[eE,seval,↓eP,rP,hr,c2,HU,HT,h84',h85',SV,RC,QA,K8,QE,hflT,hltT]
   intro i hi
   rw[if_neg (by omega),if_neg (by omega)]
end
theorem Ew {n:Nat} {l:List AE} {v:Value} (hn:l.length+12<n) (hlen:l.length<2932031007403) (h64:∀ x∈l,x.kids≤9223372036854775807) {h:AA} (hv:AU h v l) (hfl:h.floor≤h.next) :
  AX n 55 [v] h=some (EN (BR l).1 (BR l).2,h):=by
 obtain⟨n,rfl⟩:∃ k,n=k+4:=⟨n-4,by omega⟩
 refine JN (CP ⟨rfl,rfl,rfl⟩) rfl (Bp hv hfl (fun h' hv' hfl'=>?_) fun hs h' hv' hfl'=>?_)
 ·exact JN (CP ⟨rfl,rfl,rfl⟩) rfl (Cc (y_ _) hv' hlen (by omega) hfl' h64)
 ·have ht:=XI hs
  refine JN (CP ⟨rfl,rfl,rfl⟩) rfl (Cw ht hv' (by omega) (by omega) hfl' ?_ fun P K k h hP hK=>F5 (wC P K k h hP hK))
  refine OV (CP ⟨rfl,rfl,rfl⟩) ?_ (vT ht hv' (by omega) (by omega) hfl' fun H hvH hflH=>tW ht hvH (by omega) (by omega) hflH)
  simp[FP,flat,B9]
theorem oN {k:Int} (h:BM k≠0):DL k=0∧C3 k=false:=by
 have:k=2∨k=3∨k=4∨k=5∨k=7:=by
  unfold BM at h
  split at h
  ·rename_i h1
   simp only[List.contains_cons,List.contains_nil,Bool.or_false,Bool.or_eq_true,beq_iff_eq] at h1
   omega
  ·split at h
   ·omega
   ·split at h
    ·omega
    ·split at h
     ·omega
     ·exact absurd rfl h
 obtain rfl | rfl | rfl | rfl | rfl:=this <;> exact⟨rfl,rfl⟩
theorem S_ {E:List Int} {at_:Nat} {s:AS} {x:AE} (hx:s.rows[at_]?=some x) (hd:BM x.kind≠0) :
  DD E at_ s=if DN x s≠0 then (DN x s,s) else (0,BJ at_ ((E[at_]?).getD 0) x s):=by
 obtain⟨hc,he⟩:=oN hd
 unfold DD
 rw[hx]
 simp only
 split
 ·rfl
 ·have hr:(BJ at_ ((E[at_]?).getD 0) x s).rows[at_]?=some { x with n:=(BD s (BM x.kind):Int) }:=by
   rw[TU,if_neg hd]
   exact I8 hx
  rw[hr]
  simp only
  have h1:CN at_ { x with n:=(BD s (BM x.kind):Int) } (BJ at_ ((E[at_]?).getD 0) x s)=0:=by unfold CN;rw[if_pos hc]
  have h2:BP at_ { x with n:=(BD s (BM x.kind):Int) } (BJ at_ ((E[at_]?).getD 0) x s)=BJ at_ ((E[at_]?).getD 0) x s:=by unfold BP;rw[if_pos hc]
  rw[h1,h2,hr,if_neg (by simp)]
  simp only
  have h3:CX { x with n:=(BD s (BM x.kind):Int) } (BJ at_ ((E[at_]?).getD 0) x s)=0:=by unfold CX;rw[if_pos he]
  have h4:C2 at_ { x with n:=(BD s (BM x.kind):Int) } (BJ at_ ((E[at_]?).getD 0) x s)=BJ at_ ((E[at_]?).getD 0) x s:=by unfold C2;rw[if_pos he]
  rw[h3,h4,if_neg (by simp)]
theorem QH {E:List Int} {at_:Nat} {s:AS} {x:AE} (hx:s.rows[at_]?=some x) (hd:BM x.kind=0) :
  DD E at_ s=if CN at_ x s≠0 then (CN at_ x s,s) else match (BP at_ x s).rows[at_]? with
   | none=>(0,s)
   | some x2=>if CX x2 (BP at_ x s)≠0 then (CX x2 (BP at_ x s),s) else (0,C2 at_ x2 (BP at_ x s)):=by
 have h1:DN x s=0:=by unfold DN;rw[if_pos hd]
 have h2:BJ at_ ((E[at_]?).getD 0) x s=s:=by unfold BJ;rw[if_pos hd]
 unfold DD
 rw[hx]
 simp only
 rw[h1,h2,hx,if_neg (by simp)]
 all_goals rfl
theorem QD {at_:Nat} {s:AS} {x:AE} (hx:s.rows[at_]?=some x) (hc:CN at_ x s=0) :
  ∃ n,(BP at_ x s).rows[at_]?=some { x with n:=n }∧(∀ i,i≠at_→(BP at_ x s).rows[i]?=s.rows[i]?)∧(BP at_ x s).rules=s.rules∧(BP at_ x s).on=s.on∧(BP at_ x s).things=s.things ∧
   ((DL x.kind=0∧n=x.n)∨∃ t∈s.things,t.kind=DL x.kind∧n=t.num∧t.known≤at_∧E5 s.things x.name=some t):=by
 unfold CN at hc
 unfold BP
 by_cases h0:DL x.kind=0
 ·rw[if_pos h0]
  exact⟨x.n,hx,fun _ _=>rfl,rfl,rfl,rfl,.inl ⟨h0,rfl⟩⟩
 ·rw [if_neg h0] at hc ⊢
  cases hf:E5 s.things x.name with
  | none=>rw[hf] at hc;cases hc
  | some t=>
   rw[hf] at hc
   simp only at hc ⊢
   refine⟨t.num,I8 hx,fun i hi=>JH hi,trivial,trivial,trivial,.inr ⟨t,dN hf,?_,rfl,?_,rfl⟩⟩
   ·split at hc
    ·cases hc
    ·split at hc
     ·cases hc
     ·rename_i h;simpa using h
   ·split at hc
    ·cases hc
    ·omega
def WJ (l:List AE) (i:Nat):Prop:=∃ x,l[i]?=some x∧11≤x.kind
theorem zT {w k:Int} (hw:2≤w∧w≤7) (h:CE w k=true):11≤k:=by
 unfold CE at h
 rw[if_neg (by omega),if_neg (by omega),if_neg (by omega)] at h
 (repeat' split at h) <;> simp only[beq_iff_eq,Bool.and_eq_true,Bool.or_eq_true,decide_eq_true_eq] at h <;> omega
theorem mO (k:Int) (j:Nat):2≤BW k j∧BW k j≤7:=by unfold BW;(repeat' split) <;> omega
theorem yX {l:List AE}:∀ m at_ what,(2≤what∧what≤7)→(BS AV l m at_ what).2=true→∀ i,at_≤i→i<(BS AV l m at_ what).1→WJ l i:=by
 intro m
 induction m with
 | zero=>intro at_ what _ h;cases h
 | succ m ih=>
  intro at_ what hw
  unfold BS
  cases hx:l[at_]? with
  | none=>intro h;cases h
  | some x=>
   simp only
   split
   ·rename_i hc
    intro h i h1 h2
    rcases Nat.lt_or_ge at_ i with h3 | h3
    ·exact fE (V:=WJ l) (fun k p hk i h1 h2=>ih p (BW x.kind k) (mO _ _) hk i h1 h2) x.kids.toNat 0 (at_+1) h i h3 h2
    ·have:i=at_:=by omega
     subst this
     exact⟨x,hx,zT hw (Bool.and_eq_true_iff.1 hc).1⟩
   ·intro h;cases h
theorem b9 {l:List AE} {r q:Nat} {x:AE} (h:DV l r q) (hx:l[r]?=some x) (h1:x.kind≠1):∀ i,r<i→i<q→WJ l i:=by
 intro i hi hq
 rcases h with⟨m,what,h⟩ | ⟨rfl,m,h⟩
 ·cases m with
  | zero=>cases h
  | succ m=>
   rw[VZ hx] at h
   split at h
   ·have e1:(EQ (fun k next=>BS AV l m next (BW x.kind k)) x.kids.toNat 0 (r+1)).2=true:=by rw[h]
    have e2:(EQ (fun k next=>BS AV l m next (BW x.kind k)) x.kids.toNat 0 (r+1)).1=q:=by rw[h]
    exact fE (V:=WJ l) (fun k p hk i h1 h2=>yX m p (BW x.kind k) (mO _ _) hk i h1 h2) x.kids.toNat 0 (r+1) e1 i hi (by rw[e2];exact hq)
   ·cases h
 ·rw[VR hx] at h
  split at h
  ·rename_i hc
   have:=(Bool.and_eq_true_iff.1 hc).1
   exact absurd (by simpa [CE] using this) h1
  ·cases h
structure O6 (l:List AE) (at_:Nat) (s:AS):Prop where
 rul:∀ (j:Nat) (ru:Int),s.rules[j]?=some ru→∃ r:Nat,ru=(r:Int)+1∧r<at_∧∃ x,l[r]?=some x∧x.kind=7
 inc:∀ (j j':Nat) (ru ru':Int),j<j'→s.rules[j]?=some ru→s.rules[j']?=some ru'→ru<ru'
 th:∀ t∈s.things,t.kind=4→0≤t.num∧∃ r:Nat,s.rules[t.num.toNat]?=some ((r:Int)+1)∧t.known=(AG l r:Int)
 call:∀ (i:Nat) (x:AE),i<at_→s.rows[i]?=some x→x.kind=22→∃ r:Nat,s.rules[x.n.toNat]?=some ((r:Int)+1)∧AG l r≤i
theorem cE (l:List AE):O6 l 0 (BV l) where
 rul:=fun j ru h=>by simp[BV] at h
 inc:=fun j j' ru ru' _ h=>by simp[BV] at h
 th:=fun t h=>by simp[BV] at h
 call:=fun i x h=>by omega
theorem Ry {k:Int} (h:BM k=4):k=7:=by
 unfold BM at h
 (repeat' split at h) <;> simp_all
theorem Dd {l:List AE} {at_:Nat} {s:AS} (ht:B_ l) (hat:at_<l.length) (hi:GV l at_ s) (hL:O6 l at_ s) (h0:(DD (AR l) at_ s).1=0):O6 l (at_+1) (DD (AR l) at_ s).2:=by
 obtain⟨x,hx⟩:∃ x,s.rows[at_]?=some x:=⟨_,List.getElem?_eq_getElem (by rw[hi.len];exact hat)⟩
 have hxl:l[at_]?=some x:=by rw[← hi.later at_ (Nat.le_refl _)];exact hx
 have hE:((AR l)[at_]?).getD 0=(AG l at_:Int):=by rw[KY hat];rfl
 by_cases hd:BM x.kind=0
 ·rw [QH hx hd] at h0 ⊢
  by_cases hc:CN at_ x s=0
  case neg=>rw[if_pos hc] at h0;exact absurd h0 hc
  rw[if_neg (by simpa using hc)] at h0 ⊢
  obtain⟨n,c1,c2,c3,c4,c5,c6⟩:=QD hx hc
  rw[c1] at h0 ⊢
  simp only at h0 ⊢
  by_cases hv:CX { x with n:=n } (BP at_ x s)=0
  case neg=>rw[if_pos hv] at h0;exact absurd h0 hv
  rw[if_neg (by simpa using hv)]
  have e1:(C2 at_ { x with n:=n } (BP at_ x s)).rows=(BP at_ x s).rows∧(C2 at_ { x with n:=n } (BP at_ x s)).rules=s.rules∧(C2 at_ { x with n:=n } (BP at_ x s)).things=s.things:=by
   unfold C2
   split
   ·exact⟨rfl,c3,c5⟩
   ·split
    ·exact⟨rfl,c3,c5⟩
    ·exact⟨rfl,c3,c5⟩
  obtain⟨e1,e2,e3⟩:=e1
  simp only
  refine⟨fun j ru h=>?_,fun j j' ru ru' h1 h2 h3=>?_,fun t h1 h2=>?_,fun i y h1 h2 h3=>?_⟩
  ·rw[e2] at h
   obtain⟨r,r1,r2,r3⟩:=hL.rul j ru h
   exact⟨r,r1,by omega,r3⟩
  ·rw[e2] at h2 h3
   exact hL.inc j j' ru ru' h1 h2 h3
  ·rw[e3] at h1
   rw[e2]
   exact hL.th t h1 h2
  ·rw[e1] at h2
   rw[e2]
   by_cases hia:i=at_
   ·subst hia
    rw[c1] at h2
    cases h2
    rcases c6 with⟨h4,_⟩ | ⟨t,t1,t2,t3,t4,_⟩
    ·have h3':x.kind=22:=h3
     rw[h3'] at h4
     cases h4
    ·have h3':x.kind=22:=h3
     rw[h3'] at t2
     obtain⟨k1,r,k2,k3⟩:=hL.th t t1 t2
     simp only
     rw[t3]
     exact⟨r,k2,by omega⟩
   ·rw[c2 i hia] at h2
    exact hL.call i y (by omega) h2 h3
 ·rw [S_ hx hd] at h0 ⊢
  by_cases hc:DN x s=0
  case neg=>rw[if_pos hc] at h0;exact absurd h0 hc
  rw[if_neg (by simpa using hc)]
  simp only
  have hS:BJ at_ (((AR l)[at_]?).getD 0) x s=EX at_ (AG l at_) x s:=by unfold BJ;rw[if_neg hd,hE]
  rw[hS]
  have hrul:(EX at_ (AG l at_) x s).rules=if BM x.kind=4 then s.rules++[(at_:Int)+1] else s.rules:=rfl
  have hth:(EX at_ (AG l at_) x s).things=s.things++[⟨x.name,BM x.kind,BD s (BM x.kind),AG l at_⟩]:=rfl
  have hrows:(EX at_ (AG l at_) x s).rows=E0 s.rows at_ (BD s (BM x.kind)):=rfl
  have old:∀ (j:Nat) (ru:Int),s.rules[j]?=some ru→(EX at_ (AG l at_) x s).rules[j]?=some ru:=fun j ru h=>by
   rw[hrul]
   split
   ·rw[List.getElem?_append_left (List.getElem?_eq_some_iff.1 h).1];exact h
   ·exact h
  have new:∀ (j:Nat) (ru:Int),(EX at_ (AG l at_) x s).rules[j]?=some ru→s.rules[j]?=some ru∨(BM x.kind=4∧j=s.rules.length∧ru=(at_:Int)+1):=fun j ru h=>by
   rw[hrul] at h
   split at h
   ·rename_i h4
    rcases Nat.lt_or_ge j s.rules.length with h5 | h5
    ·rw[List.getElem?_append_left h5] at h
     exact .inl h
    ·rw[List.getElem?_append_right h5] at h
     have:j-s.rules.length=0:=by
      rcases Nat.eq_zero_or_pos (j-s.rules.length) with h6 | h6
      ·exact h6
      ·rw[List.getElem?_eq_none (by simp;omega)] at h;cases h
     rw[this] at h
     cases h
     exact .inr ⟨h4,by omega,rfl⟩
   ·exact .inl h
  refine⟨fun j ru h=>?_,fun j j' ru ru' h1 h2 h3=>?_,fun t h1 h2=>?_,fun i y h1 h2 h3=>?_⟩
  ·rcases new j ru h with h | ⟨h4,_,rfl⟩
   ·obtain⟨r,r1,r2,r3⟩:=hL.rul j ru h
    exact⟨r,r1,by omega,r3⟩
   ·exact⟨at_,rfl,by omega,x,hxl,Ry h4⟩
  ·rcases new j ru h2 with h2 | ⟨h4,g2,rfl⟩
   ·rcases new j' ru' h3 with h3 | ⟨_,_,rfl⟩
    ·exact hL.inc j j' ru ru' h1 h2 h3
    ·obtain⟨r,r1,r2,_⟩:=hL.rul j ru h2
     omega
   ·rcases new j' ru' h3 with h3 | ⟨_,g3,_⟩
    ·have:=(List.getElem?_eq_some_iff.1 h3).1
     omega
    ·omega
  ·rw[hth] at h1
   rcases List.mem_append.1 h1 with h1 | h1
   ·obtain⟨a,r,b,c⟩:=hL.th t h1 h2
    exact⟨a,r,old _ _ b,c⟩
   ·rw[List.mem_singleton.1 h1] at h2 ⊢
    simp only at h2 ⊢
    refine⟨by omega,at_,?_,rfl⟩
    rw[h2]
    have:BD s 4=s.rules.length:=rfl
    rw[this,hrul,if_pos h2,Int.toNat_natCast,List.getElem?_append_right (Nat.le_refl _),Nat.sub_self]
    rfl
  ·rw[hrows] at h2
   by_cases hia:i=at_
   ·subst hia
    rw[I8 hx] at h2
    cases h2
    have h3':x.kind=22:=h3
    rw[h3'] at hd
    exact absurd rfl hd
   ·rw[JH hia] at h2
    obtain⟨r,r1,r2⟩:=hL.call i y (by omega) h2 h3
    exact⟨r,old _ _ r1,r2⟩
theorem W7 {l:List AE} (ht:B_ l):∀ r at_ s,at_+r=l.length→GV l at_ s→O6 l at_ s→(CD (AR l) r at_ s).1=0→O6 l l.length (CD (AR l) r at_ s).2.2
 | 0,at_,s,hr,_,hi,_=>by
  have:at_=l.length:=by omega
  subst this
  exact hi
 | r+1,at_,s,hr,hiR,hi,h0=>by
  unfold CD at h0 ⊢
  by_cases h:(DD (AR l) at_ s).1=0
  ·rw[if_neg (by simpa using h)] at h0 ⊢
   exact W7 ht r (at_+1) _ (by omega) (UW ht (VA at_) (by omega) hiR h) (Dd ht (by omega) hiR hi h) h0
  ·rw[if_pos h] at h0
   exact absurd h0 h
theorem pB {l:List AE} {s:AS} (ht:B_ l) (hlen:l.length<2932031007403) (hi:GV l l.length s) (hL:O6 l l.length s):UX s.rows (AR l) s.rules where
 lay:=nV ht hlen hi
 ahead:=fun i ru hru x hx h22=>by
  obtain⟨r,rfl,hr,y,hy,hy7⟩:=hL.rul i ru hru
  have hs:=ht.end hr
  obtain⟨z,hz,_,_,hch⟩:=hs.kids
  rw[hy] at hz
  cases hz
  have hfit:=ht.row hy
  have hk1:1≤y.kids:=by
   have h1:=hfit.2.2.1
   rw[hy7] at h1
   exact h1
  have hle:=HH _ _ _ hch
  have hlt:=hs.lt
  have hr1:r+1<l.length:=by omega
  obtain⟨qi,s1,s2⟩:=DV.cover (AG l r-r) (by omega) hs (r+1) (by omega) (by omega)
  have hq1:=I2 s1
  have e1:((r:Int)+1).toNat=r+1:=by omega
  rw[e1] at hx
  unfold blk at hx
  rw[KY hr1] at hx
  simp only[Option.getD_some,Int.toNat_natCast] at hx
  rw[hq1] at hx
  obtain⟨d,hd,hxd⟩:=List.getElem_of_mem hx
  rw[List.length_take,List.length_drop] at hd
  have hxa:s.rows[r+1+d]?=some x:=by
   rw[← hxd,← List.getElem?_eq_getElem,List.getElem?_take_of_lt (by omega),List.getElem?_drop]
  obtain⟨rj,c1,c2⟩:=hL.call (r+1+d) x (by rw[← hi.len];exact(List.getElem?_eq_some_iff.1 hxa).1) hxa h22
  have hn0:=(hi.calls _ _ (by rw[← hi.len];exact(List.getElem?_eq_some_iff.1 hxa).1) hxa h22).1
  have hj:¬ i≤x.n.toNat:=by
   intro hij
   obtain⟨rj',h1,hrj,w,hw,hw7⟩:=hL.rul _ _ c1
   have:rj'=rj:=by omega
   subst this
   have hse:=(ht.end hrj).lt
   rcases Nat.eq_or_lt_of_le hij with h2 | h2
   ·rw[← h2,hru] at c1
    have:r=rj':=by
     simp only[Option.some.injEq] at c1
     omega
    subst this
    omega
   ·have h3:=hL.inc i x.n.toNat _ _ h2 hru c1
    rcases Nat.lt_or_ge rj' (AG l r) with h4 | h4
    ·obtain⟨w',hw',h5⟩:=b9 hs hy (by omega) rj' (by omega) h4
     rw[hw] at hw'
     cases hw'
     omega
    ·omega
  omega
section
variable {call:AT} {N:Nat} {h:AA}
theorem Sa {k:Int}:A9 Tryd.prog call N 87 [iv k] h=some (iv (G5 k),h):=by
 refine EA Tryd.func87 rfl (by simp[Tryd.f87]) ?_
 have hr:Tryd.f87.results.toList=[.tmp 2]:=rfl
 unfold G5
 by_cases h1:k=1
 ·have c1:(k==1)=true:=by simpa using h1
  rw[if_pos h1]
  simp only[eE,seval,↓eP,rP,hr,c1]
 have c1:(k==1)=false:=by simpa using h1
 rw[if_neg h1]
 by_cases h2:k=2
 ·have c2:(k==2)=true:=by simpa using h2
  rw[if_pos h2]
  simp only[eE,seval,↓eP,rP,hr,c1,c2]
 have c2:(k==2)=false:=by simpa using h2
 rw[if_neg h2]
 by_cases h3:k=3
 ·have c3:(k==3)=true:=by simpa using h3
  rw[if_pos h3]
  simp only[eE,seval,↓eP,rP,hr,c1,c2,c3]
 have c3:(k==3)=false:=by simpa using h3
 rw[if_neg h3]
 simp only[eE,seval,↓eP,rP,hr,c1,c2,c3]
theorem Et {k:Int}:A9 Tryd.prog call N 80 [iv k] h=some (iv (G5 k),h):=by
 refine EA Tryd.func80 rfl (by simp[Tryd.f80]) ?_
 have hr:Tryd.f80.results.toList=[.tmp 2]:=rfl
 unfold G5
 by_cases h1:k=1
 ·have c1:(k==1)=true:=by simpa using h1
  rw[if_pos h1]
  simp only[eE,seval,↓eP,rP,hr,c1]
 have c1:(k==1)=false:=by simpa using h1
 rw[if_neg h1]
 by_cases h2:k=2
 ·have c2:(k==2)=true:=by simpa using h2
  rw[if_pos h2]
  simp only[eE,seval,↓eP,rP,hr,c1,c2]
 have c2:(k==2)=false:=by simpa using h2
 rw[if_neg h2]
 by_cases h3:k=3
 ·have c3:(k==3)=true:=by simpa using h3
  rw[if_pos h3]
  simp only[eE,seval,↓eP,rP,hr,c1,c2,c3]
 have c3:(k==3)=false:=by simpa using h3
 rw[if_neg h3]
 simp only[eE,seval,↓eP,rP,hr,c1,c2,c3]
end
theorem Du (k:Int) (h:AA):L1 87 [iv k] h=some (iv (G5 k),h):=EV (GO rfl rfl) rfl rfl rfl ⟨_,Sa⟩
theorem Rq (k:Int) (h:AA):L1 80 [iv k] h=some (iv (G5 k),h):=EV (GO rfl rfl) rfl rfl rfl ⟨_,Et⟩
theorem Ge (k:Int) (h:AA) (hk:1≤k∧k≤54):L0 31 [iv k] h=some (iv (BM k),h):=EV rfl rfl rfl rfl (IS Gu hk)
theorem z8 (k:Int) (h:AA) (hk:1≤k∧k≤54):L0 32 [iv k] h=some (iv (DL k),h):=EV rfl rfl rfl rfl (IS Pr hk)
theorem XZ (k:Int) (h:AA) (hk:1≤k∧k≤54):L0 59 [iv k] h=some (.bool (C3 k),h):=EV rfl rfl rfl rfl (IS Sn hk)
section
variable {n lo m e r k:Nat} {h:AA} {nm:ByteArray} {E:List Int} {s:AS}
theorem oZ {y:ByteArray} {tag:Nat→Nat} {V:Nat→Value} {C:List Int} (hp:CG h lo m e r k nm E tag V C s) (hth:s.things.length<100000) (hn:100005<n):AX n 86 [qP m 0,.string y] h=some (iv (KQ s.things y 0),h):=by
 obtain⟨n,rfl⟩:=D3 hn
 exact JJ (CP ⟨rfl,rfl,rfl⟩) rfl (Eb hp (by omega) (by omega))
theorem zY {at_:Nat} {end_:Int} {x:AE} (hp:FR h lo m e r k nm E s) (hx:s.rows[at_]?=some x) (hd:BM x.kind≠0) (hat:at_<30000000000000) (hE:E[at_]?=some end_) (he:0≤end_) (hth:s.things.length<100000) (hn:100010<n) :
  ∃ h',AX n 57 [qP m 0,iv at_,iv (BM x.kind)] h=some (iv (DN x s),h')∧(Fsx h h' lo∧(DN x s=0→FR h' lo m e r k nm E (BJ at_ end_ x s))):=by
 obtain⟨n,rfl⟩:=D3 hn
 exact NK (CP ⟨rfl,rfl,rfl⟩) (Am hp hx hd hat hE he hth (by omega) (fun y H tag V C hp'=>oZ hp' hth (by omega)) fun k h'=>F5 (Du k h'))
theorem Hs {at_:Nat} {x:AE} (hp:FR h lo m e r k nm E s) (hx:s.rows[at_]?=some x) (hd:DL x.kind≠0) (hat:at_<30000000000000) (hth:s.things.length<100000) (hn:100010<n) :
  ∃ h',AX n 58 [qP m 0,iv at_,iv (DL x.kind)] h=some (iv (CN at_ x s),h')∧(Fsx h h' lo∧(CN at_ x s=0→FR h' lo m e r k nm E (BP at_ x s))):=by
 obtain⟨n,rfl⟩:=D3 hn
 exact NK (CP ⟨rfl,rfl,rfl⟩) (Pd hp hx hd hat fun y H tag V C hp'=>oZ hp' hth (by omega))
theorem wM {at_:Nat} {x:AE} (hp:FR h lo m e r k nm E s) (hx:s.rows[at_]?=some x) (hev:C3 x.kind=true) (hat:at_<30000000000000) (hxn:x.kind≠10→0≤x.n∧x.n<s.on.length) (hn:0<n) :
  ∃ h',AX n 60 [qP m 0,iv at_] h=some (iv (CX x s),h')∧(Fsx h h' lo∧(CX x s=0→FR h' lo m e r k nm E (C2 at_ x s))):=by
 obtain⟨n,rfl⟩:=D3 hn
 exact NK (CP ⟨rfl,rfl,rfl⟩) (Ot hp hx hev hat hxn)
end
section
variable {n:Nat} {h:AA} {rows:List AE} {E rules:List Int} {vr v0 vq vv vt vu vo v7 ve:Value}
theorem jJ {S:List Int} {row le ls:Nat} {vs:Value} (hone:one v0=true∧one vq=true∧one vv=true∧one vt=true∧one vu=true∧one vo=true∧one v7=true) (hv:AU h vr rows) (he:AN le h ve E) (hS:AN ls h vs S) (hs:C1 S) (hL:OC rows E rules) (hrow:row<rows.length) (hn:rows.length+8<n)
  (hcalls:∀ x∈blk rows E row,x.kind=22→0≤x.n∧x.n<S.length):AX n 63 [.agg #[v0,vr,vq,vv,vt,vu,vo,v7],ve,vs,iv (row:Int)] h=some (iv (FJ rows E S row),h):=by
 obtain⟨n,rfl⟩:=D3 hn
 obtain⟨q,q1,q2,q3,q4⟩:=hL.end hrow
 have hc:FJ rows E S row=GU S ((rows.drop row).take (q-row)) 0:=by unfold FJ;rw[q1];rfl
 rw[hc]
 rw[q4] at hcalls
 exact JN (CP ⟨rfl,rfl,rfl⟩) rfl (vK hone hv he hS hs q1 q2 q3 (by have:=hL.len;omega) (by omega) hcalls fun a b h' hb ha=>F5 (jX h' hb ha))
theorem Mw {le lu:Nat} (hone:one v0=true∧one vq=true∧one vv=true∧one vt=true∧one vo=true∧one v7=true) (hv:AU h vr rows) (he:AN le h ve E) (hu:AN lu h vu rules) (hL:UX rows E rules) (hfl:h.floor≤h.next) (hn:rows.length+rules.length+12<n) :
  ∃ v h',AX n 61 [.agg #[v0,vr,vq,vv,vt,vu,vo,v7],ve] h=some (v,h')∧(AN h.next h' v (J9 rows E rules [])∧h'.floor=h.floor∧h.next≤h'.next∧∀ i,i<h.next→h'.get i=h.get i):=by
 obtain⟨n,rfl⟩:=D3 hn
 refine M5 (CP ⟨rfl,rfl,rfl⟩) (Dn hone hv he hu hL hfl (by omega) fun vs S row H ho hnx hS hSS hrow hc=>?_) fun v h1 hf ho ⟨h2,_,_,_⟩=>⟨?_,rfl,Nat.le_refl _,fun _ _=>rfl⟩
 ·obtain⟨a,b,c,d,e,f⟩:=hone
  exact jJ ⟨a,b,c,d,A7.one hu,e,f⟩ (hv.mono hnx ho) (he.mono hnx fun i _ hi=>ho i hi) hS hSS hL.lay hrow (by omega) hc
 ·obtain⟨hl,a,c,rfl,⟨h0,rfl⟩ | ⟨id,off,row,ty,g,ro,rfl,g1,g2,g3⟩⟩:=h2
  ·exact⟨hl,_,_,rfl,.inl ⟨h0,rfl⟩⟩
  ·have:FP (.slice (some ⟨id,off,none⟩) (J9 rows E rules []).length c)=false:=rfl
   rw[this] at hf
   cases hf
end
def sZ:AS:=⟨[],[],[],[],[],[],0,[]⟩
def HQ (l:List AE):ByteArray:=match l[0]? with
 | some x=>x.name
 | none=>ByteArray.empty
noncomputable def C9 (l:List AE):ByteArray × AS:=if (A8 l).1.1≠0 then (ByteArray.empty,sZ) else (HQ l,(A8 l).2)
abbrev RG:Value:=.agg #[.string ByteArray.empty,Z0,Z0,Z0,Z0,Z0,Z0,iv 0]
theorem qQ (lo:Nat) (h:AA):DJ lo h RG ByteArray.empty sZ:=
 ⟨_,_,_,_,_,_,rfl,IA.of (A7.nil lo h 5),A7.nil lo h 2,A7.nil lo h 1,A7.nil lo h 1,A7.nil lo h 1,A7.nil lo h 1⟩
theorem GY {t:TypeId} {k:Nat} (ht:BN Tryd.prog t=some k) {h:AA} {id:Nat} {vs cs:List Value} {ty:TypeId} {g:Bool} (hg:h.get id=.row cs ty g false) (hl:cs.length=k) (hn:vs.length=k) (ho:vs.all one=true) (hf:h.floor≤id) :
  BH Tryd.prog h t (qP id 0) (.agg vs.toArray)=some (h.put id (.row vs ty g false)):=by
 have hc:(Value.agg vs.toArray).cells=vs.toArray:=rfl
 have hlay:Go.Sx.lay cs 0 vs=vs:=by
  simp only[Go.Sx.lay,List.take_zero,List.nil_append,Nat.zero_add]
  rw[List.drop_of_length_le (by omega),List.append_nil]
 simp only[BH,hc,ht,GW,hg]
 rw[if_pos (by simp[hn]),if_pos (by simp only[ho];simp;omega),hlay]
theorem L_:DQ Tryd.prog 30=some RG:=Ia
theorem MD:flat RG=true:=rfl
theorem Y1:HC Tryd.prog (match Tryd.prog.underlying 30 with | some (.struct fs)=>fs.toList | _=>[])=some [(0,1),(1,1),(2,1),(3,1),(4,1),(5,1),(6,1),(7,1)]:=by kernel_rfl
theorem RB:DG Tryd.prog 30 []=some RG:=by
 have h:=Y1
 rw[Tryd.underlying30] at h
 simp only at h
 simp only[DG,L_,MD,if_true,Tryd.underlying30,h]
 rfl
theorem Ee {nm:ByteArray} {m:Int}:DG Tryd.prog 30 [(0,.string nm),(7,iv m)]=some (.agg #[.string nm,Z0,Z0,Z0,Z0,Z0,Z0,iv m]):=by
 have h:=Y1
 rw[Tryd.underlying30] at h
 simp only at h
 simp only[DG,L_,MD,if_true,Tryd.underlying30,h]
 rfl
theorem xT:HC Tryd.prog (match Tryd.prog.underlying 93 with | some (.struct fs)=>fs.toList | _=>[])=some [(0,8),(8,1),(9,1),(10,5)]:=by kernel_rfl
theorem wG:DQ Tryd.prog 93=some (.agg #[.string ByteArray.empty,Z0,Z0,Z0,Z0,Z0,Z0,iv 0,Z0,Z0,iv 0,iv 0,iv 0,iv 0,iv 0]):=by kernel_rfl
abbrev cL (nm:ByteArray) (m:Int) (e k:Nat):Value:=.agg #[.string nm,Z0,Z0,Z0,Z0,Z0,Z0,iv m,qS e k k,Z0,iv 0,iv 0,iv 0,iv 0,iv 0]
theorem yI {nm:ByteArray} {m:Int} {e k:Nat}:DG Tryd.prog 93 [(0,.agg #[.string nm,Z0,Z0,Z0,Z0,Z0,Z0,iv m]),(1,qS e k k)]=some (cL nm m e k):=by
 have h:=xT
 rw[Tryd.underlying93] at h
 simp only at h
 have hf:flat (.agg #[.string ByteArray.empty,Z0,Z0,Z0,Z0,Z0,Z0,iv 0,Z0,Z0,iv 0,iv 0,iv 0,iv 0,iv 0])=true:=rfl
 simp only[DG,wG,hf,if_true,Tryd.underlying93,h]
 rfl
theorem uZ:BN Tryd.prog 31=some 1:=by kernel_rfl
theorem Ph:FK Tryd.prog 31=some false:=by kernel_rfl
theorem IX {h:AA} {id off:Nat}:EI Tryd.prog h 31 (qP id off)=AO off (h.get id):=K9 Ph
theorem I6 {id off:Nat}:BC Tryd.prog 33 (qP id off) 0=some (qP id off):=by simp[BC,Tryd.underlying33,uZ,CH]
theorem Hu {h:AA} {l:List AE} {v:Value} (hv:AU h v l) (hne:0<l.length) (hlen:l.length<2932031007403) :
  DE Tryd.prog h 22 (Z0) v=some (qS h.next l.length AM,h.push (.row (l.flatMap AI) 46 true false)):=by
 have hsrc:=hv.src
 obtain⟨a,c,rfl,h1⟩:=hv
 have hzs:(Value.agg #[.int .i64 0,.string ByteArray.empty,.int .i64 0,.int .i64 0,.int .i64 0]).cells.size=5:=rfl
 have hu:(0:Nat)≠AM:=by unfold AM;omega
 have e1:¬ (l.length≤0):=by omega
 have e2:l.length*48≤140737488355328:=by omega
 have e3:l.length≤140737488355328:=by omega
 have h0:DX h 5 0 (Z0)=some []:=rfl
 simp only[DE,Tryd.underlying22,G_,TJ,GA,hzs,hsrc,V8,hu,h0,e1,e2,e3,decide_true,beq_self_eq_true,Bool.and_self,if_true,if_false,Nat.le_refl,Nat.zero_add,Nat.zero_mul,Nat.zero_le,List.nil_append,show (0<5)=True by simp]
noncomputable def WH:Code:=rt (rt (rt (Tryd.f17.body.getD .skip)))
noncomputable def Qj:Code:=rt WH
noncomputable def XR:Code:=rt Qj
noncomputable def WI:Code:=rt XR
def eD:List (Bool × Bool × List Operand):=[AW,AL,AJ [.tmp 4],AL]
def bY:List (Bool × Bool × List Operand):=[(true,false,[]),(true,false,[]),(true,false,[]),(true,false,[]),(true,false,[]),AJ [.tmp 21],AJ [.tmp 21],AL,AL,AL]
def EP (a:Nat) (H:AA) (pcs:List Value) (e p:Int):Prop:=H.get a=.row pcs 30 false false∧H.get (a+1)=.row [iv e,iv p] 33 false false
section
variable {N:Nat} {call:AT}
theorem xV (hsn:CK call) {l:List AE} {v:Value} {h:AA} {K:B7} (hfl:h.floor≤h.next) (hv:AU h v l)
  (hchk:∀ H,AU H v l→H.floor≤H.next→call 55 [v] H=some (EN (BR l).1 (BR l).2,H))
  (hk1:(BR l).1≠0→∀ T' H,T'.get 2=qP h.next 0→T'.get 3=qP (h.next+1) 0→EP h.next H BT (BR l).1 (BR l).2 →
   h.next+2≤H.next→H.floor=h.floor→(∀ i,i<h.next→H.get i=h.get i)→K.ap Tryd.prog call N .ret ⟨T',H⟩)
  (hk2:(BR l).1=0→∀ T' H,T'.get 0=v→T'.get 2=qP h.next 0→T'.get 3=qP (h.next+1) 0→EP h.next H BT 0 0 →
   h.next+2≤H.next→H.floor=h.floor→(∀ i,i<h.next→H.get i=h.get i)→WK Tryd.prog call N WH ⟨T',H⟩ K) :
  WK Tryd.prog call N (Tryd.f17.body.getD .skip) ⟨IU 0 [v] .leaf,h⟩ K:=by
 show WK _ _ _ (.seq _ (.seq _ (.seq _ WH))) _ _
 have NS:=F7 BT
 have ho2:∀ i,i<h.next→((h.push (.row BT 30 false false)).push (.row [iv 0,iv 0] 33 false false)).get i=h.get i:=fun i hi=>by rw[AP (by show i<h.next+1;omega),AP hi]
 have hc:=hchk ((h.push (.row BT 30 false false)).push (.row [iv 0,iv 0] 33 false false)) (hv.mono (by show h.next≤h.next+1+1;omega) ho2) (by show h.floor≤h.next+1+1;omega)
 have ga:=MM (h:=h) (o:=.row BT 30 false false) (o':=.row [iv 0,iv 0] 33 false false)
 have gb:=MN (h:=h) (o:=.row BT 30 false false) (o':=.row [iv 0,iv 0] 33 false false)
 simp only[eE,seval,↓eP,DC,C8,C4,L_,MD,NS,HU,HT,ME]
 generalize hH2:(h.push (.row BT 30 false false)).push (.row [iv 0,iv 0] 33 false false)=H2 at *
 have hn2:H2.next=h.next+1+1:=by rw[← hH2];rfl
 have hf2:H2.floor=h.floor:=by rw[← hH2];rfl
 have sF:=GY (t:=33) MF (h:=H2.push (.row [iv 0,iv 0] 33 false false)) (vs:=[iv (BR l).1,iv (BR l).2]) BO rfl rfl rfl (by show H2.floor≤H2.next;omega)
 simp only[eE,seval,↓eP,DC,C8,C4,hc,HU,HT,ME,sF]
 have hg4:((H2.push (.row [iv 0,iv 0] 33 false false)).put H2.next (.row [iv (BR l).1,iv (BR l).2] 33 false false)).get H2.next=.row [iv (BR l).1,iv (BR l).2] 33 false false:=BI rfl (by show H2.next<H2.next+1;omega)
 have hga:((H2.push (.row [iv 0,iv 0] 33 false false)).put H2.next (.row [iv (BR l).1,iv (BR l).2] 33 false false)).get h.next=.row BT 30 false false:=by
  rw[AK (by show H2.next<H2.next+1;omega) (by omega),AP (by omega)];exact ga
 have hgb:((H2.push (.row [iv 0,iv 0] 33 false false)).put H2.next (.row [iv (BR l).1,iv (BR l).2] 33 false false)).get (h.next+1)=.row [iv 0,iv 0] 33 false false:=by
  rw[AK (by show H2.next<H2.next+1;omega) (by omega),AP (by omega)];exact gb
 have hgo:∀ i,i<h.next→((H2.push (.row [iv 0,iv 0] 33 false false)).put H2.next (.row [iv (BR l).1,iv (BR l).2] 33 false false)).get i=h.get i:=fun i hi=>by
  rw[AK (by show H2.next<H2.next+1;omega) (by omega),AP (by omega)];exact ho2 i hi
 have hn3:((H2.push (.row [iv 0,iv 0] 33 false false)).put H2.next (.row [iv (BR l).1,iv (BR l).2] 33 false false)).next=h.next+3:=by show H2.next+1=_;omega
 have hf3:((H2.push (.row [iv 0,iv 0] 33 false false)).put H2.next (.row [iv (BR l).1,iv (BR l).2] 33 false false)).floor=h.floor:=hf2
 generalize (H2.push (.row [iv 0,iv 0] 33 false false)).put H2.next (.row [iv (BR l).1,iv (BR l).2] 33 false false)=H3 at *
 have l4:AO 0 (H3.get H2.next)=some (iv (BR l).1):=by rw[hg4];rfl
 cases d:((BR l).1 != 0) with
 | false=>
  have e0:(BR l).1=0:=by simpa using d
  simp only[eE,seval,↓eP,DC,E6,C8,C4,I6,IX,l4,d]
  refine hk2 e0 _ _ ?_ ?_ ?_ ⟨hga,hgb⟩ (by omega) hf3 hgo <;> simp only[eE,seval,↓eP,rP]
 | true=>
  have e0:(BR l).1≠0:=by simpa using d
  have l42:BL 2 0 (H3.get H2.next)=some (EN (BR l).1 (BR l).2):=by rw[hg4];rfl
  have sP:=GY HM (vs:=BT) hga rfl rfl rfl (by omega)
  have hgb':=(AK (h:=H3) (i:=h.next) (j:=h.next+1) (o:=.row BT 30 false false) (by omega) (by omega)).trans hgb
  have sF2:=GY (t:=33) MF (vs:=[iv (BR l).1,iv (BR l).2]) hgb' rfl rfl rfl (by show H3.floor≤_;omega)
  have n1:(some H2.next != some h.next)=true:=by simp;omega
  have i1:DY (qP H2.next 0)=some H2.next:=rfl
  have i2:DY (qP h.next 0)=some h.next:=rfl
  simp only[eE,seval,↓eP,DC,E6,C8,C4,I6,IX,l4,d]
  refine WK.flags (fs:=eD) (by kernel_rfl) ?_
  unfold eD
  iterate 4
   refine HY hsn ?_
   simp only[rG,seval,AB,AD,AC,BU,CF,DP,EE,GN,List.map_nil,RB,K8,l42,i1,i2,n1,sP,sF2]
  refine H8 ?_
  simp only[eE,seval,↓eP,DC,E6,C8,C4]
  have ha:∀ i,i≠h.next→(H3.put h.next (.row BT 30 false false)).get i=H3.get i:=fun i hi=>AK (by omega) (Ne.symm hi)
  refine hk1 e0 _ _ ?_ ?_ ⟨?_,BI rfl (by show h.next+1<H3.next;omega)⟩ (by show h.next+2≤H3.next;omega) hf3 fun i hi=>?_
  ·simp only[eE,seval,↓eP,rP]
  ·simp only[eE,seval,↓eP,rP]
  ·rw[AK (by show h.next+1<H3.next;omega) (by omega)]
   exact BI rfl (by omega)
  ·rw[AK (by show h.next+1<H3.next;omega) (by omega),ha i (by omega)]
   exact hgo i hi
theorem Ls (hsn:CK call) {l:List AE} {v:Value} {T:Tr} {H:AA} {K:B7} (ht:B_ l) (hlen:l.length<2932031007403) (hfl:H.floor≤H.next) (hv:AU H v l) (t0:T.get 0=v)
  (hends:∀ H,AU H v l→H.floor≤H.next→∃ h',call 56 [v] H=some (qS H.next l.length l.length,h')∧(h'.get H.next=.row (ints (AR l)) 3 false false∧h'.next=H.next+1∧h'.floor=H.floor∧∀ i,i<H.next→h'.get i=H.get i))
  (hk:∀ T' H' m e r,T'.get 0=v→T'.get 2=T.get 2→T'.get 3=T.get 3→T'.get 5=qP m 0→FR H' H.next m e r l.length (HQ l) (AR l) (BV l)→H.next≤H'.next→H'.floor=H.floor→(∀ i,i<H.next→H'.get i=H.get i)→WK Tryd.prog call N XR ⟨T',H'⟩ K) :
  WK Tryd.prog call N WH ⟨T,H⟩ K:=by
 show WK _ _ _ (.seq (.region _ _ true) (.seq _ XR)) _ _
 rw[LD]
 have hpos:=ht.pos
 obtain⟨x,hx⟩:∃ x,l[0]?=some x:=⟨_,List.getElem?_eq_getElem hpos⟩
 obtain⟨id,q,e0,hid,l0,l1,l2,l3,l4,lr⟩:=hv.row hx
 have hvf:AU (H.fl (max H.floor H.next)) v l:=hv.mono (Nat.le_refl _) fun _ _=>rfl
 obtain⟨h3,hE,g1,g2,g3,g4⟩:=hends (H.fl (max H.floor H.next)) hvf (by show max H.floor H.next≤H.next;omega)
 simp only[CL] at hE g1 g2 g4
 have g3':h3.floor=max H.floor H.next:=g3
 have g4':∀ i,i<H.next→h3.get i=H.get i:=g4
 have hnm:HQ l=x.name:=by unfold HQ;rw[hx]
 have e0':CO Tryd.prog 22 v (iv 0)=some (qP id q):=e0
 have hidT:(id<H.next)=True:=by simp[hid]
 have hone:(cL x.name (-1) H.next l.length).cells.toList.all one=true:=rfl
 have hcl:(cL x.name (-1) H.next l.length).cells.toList=[.string x.name,Z0,Z0,Z0,Z0,Z0,Z0,iv (-1),qS H.next l.length l.length,Z0,iv 0,iv 0,iv 0,iv 0,iv 0]:=rfl
 refine WK.flags (fs:=bY) (by kernel_rfl) ?_
 unfold bY
 iterate 10
  refine HY hsn ?_
  simp only[rG,seval,AB,AD,AC,BU,CF,DP,EE,GN,t0,e0',LL,hidT,FN,l1,List.map_cons,List.map_nil,Ee,hE,yI,hcl,Kz]
 refine H8 ?_
 have hn4:((h3.fl H.floor).push (.row [.string x.name,Z0,Z0,Z0,Z0,Z0,Z0,iv (-1),qS H.next l.length l.length,Z0,iv 0,iv 0,iv 0,iv 0,iv 0] 93 false false)).next=H.next+1+1:=by show h3.next+1=_;omega
 have hf4:((h3.fl H.floor).push (.row [.string x.name,Z0,Z0,Z0,Z0,Z0,Z0,iv (-1),qS H.next l.length l.length,Z0,iv 0,iv 0,iv 0,iv 0,iv 0] 93 false false)).floor=H.floor:=rfl
 have gm:((h3.fl H.floor).push (.row [.string x.name,Z0,Z0,Z0,Z0,Z0,Z0,iv (-1),qS H.next l.length l.length,Z0,iv 0,iv 0,iv 0,iv 0,iv 0] 93 false false)).get h3.next=.row [.string x.name,Z0,Z0,Z0,Z0,Z0,Z0,iv (-1),qS H.next l.length l.length,Z0,iv 0,iv 0,iv 0,iv 0,iv 0] 93 false false:=BO (h:=h3.fl H.floor)
 have ge:((h3.fl H.floor).push (.row [.string x.name,Z0,Z0,Z0,Z0,Z0,Z0,iv (-1),qS H.next l.length l.length,Z0,iv 0,iv 0,iv 0,iv 0,iv 0] 93 false false)).get H.next=.row (ints (AR l)) 3 false false:=by rw[AP (by show H.next<h3.next;omega)];exact g1
 have go:∀ i,i<H.next→((h3.fl H.floor).push (.row [.string x.name,Z0,Z0,Z0,Z0,Z0,Z0,iv (-1),qS H.next l.length l.length,Z0,iv 0,iv 0,iv 0,iv 0,iv 0] 93 false false)).get i=H.get i:=fun i hi=>by rw[AP (by show i<h3.next;omega)];exact g4' i hi
 generalize (h3.fl H.floor).push (.row [.string x.name,Z0,Z0,Z0,Z0,Z0,Z0,iv (-1),qS H.next l.length l.length,Z0,iv 0,iv 0,iv 0,iv 0,iv 0] 93 false false)=H4 at *
 have hv4:AU H4 v l:=hv.mono (by omega) go
 have hap:=Hu hv4 hpos (by omega)
 have hm1:AO 1 (H4.get h3.next)=some (Z0):=by rw[gm];rfl
 have gm5:(H4.push (.row (l.flatMap AI) 46 true false)).get h3.next=.row [.string x.name,Z0,Z0,Z0,Z0,Z0,Z0,iv (-1),qS H.next l.length l.length,Z0,iv 0,iv 0,iv 0,iv 0,iv 0] 93 false false:=by rw[AP (by omega)];exact gm
 have hst:=FU (t:=22) (off:=1) mH (v:=qS H4.next l.length AM) rfl rfl gm5 (by simp) (by show H4.floor≤_;omega)
 have hfx:H4.fl (h3.fl H.floor).floor=H4:=by
  show H4.fl H.floor=H4
  rw[← hf4]
  exact NV H4
 simp only[eE,seval,↓eP,DC,E6,C8,C4,hfx,CL,t0,HZ,CR,CI,hm1,hap,hst]
 have gput:∀ (o:BF) (i:Nat),i≠h3.next→((H4.push (.row (l.flatMap AI) 46 true false)).put h3.next o).get i=(H4.push (.row (l.flatMap AI) 46 true false)).get i:=fun o i hi=>AK (by show h3.next<H4.next+1;omega) (Ne.symm hi)
 refine hk _ _ h3.next H.next H4.next ?_ ?_ ?_ ?_ ⟨fun i=>if i=h3.next then 0 else if i=H4.next then 1 else if i=H.next then 10 else 11,fun _=>Z0,?_,⟨by simp[BV],by simp[BV],by simp[BV],by simp[BV],rfl,fun t ht=>by cases ht⟩⟩ ?_ (by show H4.floor=H.floor;exact hf4) fun i hi=>?_
 ·simp only[eE,seval,↓eP,rP,t0]
 ·simp only[eE,seval,↓eP,rP]
 ·simp only[eE,seval,↓eP,rP]
 ·simp only[eE,seval,↓eP,rP]
 ·exact
   { cell:=by
      rw[BI rfl (by show h3.next<H4.next+1;omega),hnm]
      simp only[F4,OA]
      rfl
     rows:=by rw[gput _ _ (by omega)];exact BO
     len:=rfl
     sl:=fun j h2 h8=>by
      have hj:j=2∨j=3∨j=4∨j=5∨j=6∨j=7∨j=8:=by omega
      rcases hj with rfl | rfl | rfl | rfl | rfl | rfl | rfl <;> exact .inl ⟨rfl,rfl,rfl⟩
     ends:=by rw[gput _ _ (by omega),AP (by omega)];exact ge
     tm:=if_pos rfl
     tr:=by rw[if_neg (by omega),if_pos rfl]
     te:=by rw[if_neg (by omega),if_neg (by omega),if_pos rfl]
     lm:=⟨by omega,by show h3.next<H4.next+1;omega⟩
     lr:=⟨by omega,by show H4.next<H4.next+1;omega⟩
     le:=⟨Nat.le_refl _,by show H.next<H4.next+1;omega⟩
     fl:=by show H4.floor≤H.next;omega }
 ·show H.next≤H4.next+1
  omega
 ·rw[gput _ _ (by omega),AP (by omega)];exact go i hi
end
noncomputable def Y2:Code:=rt (rt (Tryd.f16.body.getD .skip))
noncomputable def Oz:Code:=rt Y2
noncomputable def Iq:Code:=rt Oz
noncomputable def Gx:Code:=rt Iq
noncomputable def Y4:Code:=rt Gx
noncomputable def Y5:Code:=rt Y4
noncomputable def p_:Array Oper:=DR Tryd.f16 3
def zD:List (Bool × Bool × List Operand):=[AW,AL,AJ [.tmp 4],AL]
theorem Mp:DU p_=zD:=by kernel_rfl
noncomputable def k7:Array Oper:=DR Tryd.f16 5
def Hz:List (Bool × Bool × List Operand):=[FT,CZ [.tmp 5],CZ [.tmp 5],CZ [.tmp 5],CZ [.tmp 5],AJ [.tmp 5,.tmp 27],AJ [.tmp 5,.tmp 27],AJ [.tmp 5],AL,AL,AL]
theorem Ku:DU k7=Hz:=by kernel_rfl
theorem Ra {t:TypeId} {k:Nat} (ht:BN Tryd.prog t=some k) {h:AA} {id:Nat} {vs cs:List Value} {ty:TypeId} {g:Bool} (hg:h.get id=.row cs ty g false) (hl:k≤cs.length) (hn:vs.length=k) (ho:vs.all one=true) (hf:h.floor≤id) :
  BH Tryd.prog h t (qP id 0) (.agg vs.toArray)=some (h.put id (.row (vs++cs.drop k) ty g false)):=by
 have hc:(Value.agg vs.toArray).cells=vs.toArray:=rfl
 have hlay:Go.Sx.lay cs 0 vs=vs++cs.drop k:=by
  simp only[Go.Sx.lay,List.take_zero,List.nil_append,Nat.zero_add,hn]
 simp only[BH,hc,ht,GW,hg]
 rw[if_pos (by simp[hn]),if_pos (by simp only[ho];simp;omega),hlay]
theorem Jr {nm:ByteArray} {a:Option Addr} {n c:Nat} {m:Int}:DG Tryd.prog 30 [(0,.string nm),(1,.slice a n c),(7,iv m)]=some (.agg #[.string nm,.slice a n c,Z0,Z0,Z0,Z0,Z0,iv m]):=by
 have h:=Y1
 rw[Tryd.underlying30] at h
 simp only at h
 simp only[DG,L_,MD,if_true,Tryd.underlying30,h]
 rfl
theorem x8:HC Tryd.prog (match Tryd.prog.underlying 83 with | some (.struct fs)=>fs.toList | _=>[])=some [(0,8),(8,1),(9,1)]:=by kernel_rfl
theorem Cr:DQ Tryd.prog 83=some (.agg #[.string ByteArray.empty,Z0,Z0,Z0,Z0,Z0,Z0,iv 0,.map none,.map none]):=by kernel_rfl
abbrev s7 (k c:Nat):Value:=.agg #[.string ByteArray.empty,Z0,Z0,Z0,Z0,Z0,Z0,iv 0,.map (some k),.map (some c)]
theorem Rb {k c:Nat}:DG Tryd.prog 83 [(1,.map (some k)),(2,.map (some c))]=some (s7 k c):=by
 have h:=x8
 rw[Tryd.underlying83] at h
 simp only at h
 have hf:flat (.agg #[.string ByteArray.empty,Z0,Z0,Z0,Z0,Z0,Z0,iv 0,.map none,.map none])=true:=rfl
 simp only[DG,Cr,hf,if_true,Tryd.underlying83,h]
 rfl
theorem lR:BN Tryd.prog 86=some 1:=by kernel_rfl
theorem Ke:FK Tryd.prog 86=some false:=by kernel_rfl
theorem Lo:DQ Tryd.prog 86=some .nilFunc:=by kernel_rfl
theorem xO:DQ Tryd.prog 79=some (.pointer none):=by kernel_rfl
theorem Fb:DQ Tryd.prog 28=some (Z0):=by kernel_rfl
theorem pV {h:AA} {id off:Nat}:EI Tryd.prog h 86 (qP id off)=AO off (h.get id):=K9 Ke
theorem Hc {h:AA} {f0 f1 f2:FuncId} {a0 a1 a2 b0 b1 b2:Array Value}:FI Tryd.prog h 87 3 [(0,.func (.func f0) a0 b0),(1,.func (.func f1) a1 b1),(2,.func (.func f2) a2 b2)]=some (qS h.next 3 3,h.push (.row [.func (.func f0) a0 b0,.func (.func f1) a1 b1,.func (.func f2) a2 b2] 86 false false)):=by
 have hc:∀ (f:FuncId) (a b:Array Value),(Value.func (.func f) a b).cells=#[.func (.func f) a b]:=fun _ _ _=>rfl
 have hz:Value.nilFunc.cells=#[.nilFunc]:=rfl
 simp[FI,Tryd.underlying87,lR,Lo,flat,B9,hc,hz,IL,C0,Go.Sx.lay]
theorem Ps {h:AA} {id c i:Nat} (hi:i<3):CO Tryd.prog 87 (qS id 3 c) (iv (i:Int))=some (qP id i):=by
 simp only[CO,Tryd.underlying87,lR,CH]
 rw[if_pos (by omega)]
 simp
theorem wY {h:AA} {a:Option Addr} {n c:Nat}:BZ Tryd.prog h 87 (.slice a n c)=some (iv (n:Int)):=by simp[BZ,Tryd.underlying87]
section
variable {N:Nat} {call:AT}
theorem Ho (hsn:CK call) {l:List AE} {v:Value} {h:AA} {K:B7} (hfl:h.floor≤h.next) (hv:AU h v l)
  (hg:h.get 0=ED) (hn0:0<h.next)
  (hchk:∀ H,AU H v l→H.get 0=ED→0<H.next→H.floor≤H.next→call 30 [v] H=some (EN (BR l).1 (BR l).2,H))
  (hk1:(BR l).1≠0→∀ T' H,T'.get 2=qP h.next 0→T'.get 3=qP (h.next+1) 0→EP h.next H BT (BR l).1 (BR l).2 →
   h.next+2≤H.next→H.floor=h.floor→(∀ i,i<h.next→H.get i=h.get i)→K.ap Tryd.prog call N .ret ⟨T',H⟩)
  (hk2:(BR l).1=0→∀ T' H,T'.get 0=v→T'.get 2=qP h.next 0→T'.get 3=qP (h.next+1) 0→EP h.next H BT 0 0 →
   h.next+2≤H.next→H.floor=h.floor→(∀ i,i<h.next→H.get i=h.get i)→WK Tryd.prog call N Y2 ⟨T',H⟩ K) :
  WK Tryd.prog call N (Tryd.f16.body.getD .skip) ⟨IU 0 [v] .leaf,h⟩ K:=by
 show WK _ _ _ (.seq _ (.seq _ Y2)) _ _
 have NS:=F7 BT
 have ho2:∀ i,i<h.next→((h.push (.row BT 30 false false)).push (.row [iv 0,iv 0] 33 false false)).get i=h.get i:=fun i hi=>by rw[AP (by show i<h.next+1;omega),AP hi]
 have hc:=hchk ((h.push (.row BT 30 false false)).push (.row [iv 0,iv 0] 33 false false)) (hv.mono (by show h.next≤h.next+1+1;omega) ho2) ((ho2 0 hn0).trans hg) (by show 0<h.next+1+1;omega) (by show h.floor≤h.next+1+1;omega)
 have ga:=MM (h:=h) (o:=.row BT 30 false false) (o':=.row [iv 0,iv 0] 33 false false)
 have gb:=MN (h:=h) (o:=.row BT 30 false false) (o':=.row [iv 0,iv 0] 33 false false)
 simp only[eE,seval,↓eP,DC,C8,C4,L_,MD,NS,HU,HT,ME]
 generalize hH2:(h.push (.row BT 30 false false)).push (.row [iv 0,iv 0] 33 false false)=H2 at *
 have hn2:H2.next=h.next+1+1:=by rw[← hH2];rfl
 have hf2:H2.floor=h.floor:=by rw[← hH2];rfl
 have sF:=GY (t:=33) MF (h:=H2.push (.row [iv 0,iv 0] 33 false false)) (vs:=[iv (BR l).1,iv (BR l).2]) BO rfl rfl rfl (by show H2.floor≤H2.next;omega)
 simp only[eE,seval,↓eP,DC,C8,C4,hc,HU,HT,ME,sF]
 have hg4:((H2.push (.row [iv 0,iv 0] 33 false false)).put H2.next (.row [iv (BR l).1,iv (BR l).2] 33 false false)).get H2.next=.row [iv (BR l).1,iv (BR l).2] 33 false false:=BI rfl (by show H2.next<H2.next+1;omega)
 have hga:((H2.push (.row [iv 0,iv 0] 33 false false)).put H2.next (.row [iv (BR l).1,iv (BR l).2] 33 false false)).get h.next=.row BT 30 false false:=by
  rw[AK (by show H2.next<H2.next+1;omega) (by omega),AP (by omega)];exact ga
 have hgb:((H2.push (.row [iv 0,iv 0] 33 false false)).put H2.next (.row [iv (BR l).1,iv (BR l).2] 33 false false)).get (h.next+1)=.row [iv 0,iv 0] 33 false false:=by
  rw[AK (by show H2.next<H2.next+1;omega) (by omega),AP (by omega)];exact gb
 have hgo:∀ i,i<h.next→((H2.push (.row [iv 0,iv 0] 33 false false)).put H2.next (.row [iv (BR l).1,iv (BR l).2] 33 false false)).get i=h.get i:=fun i hi=>by
  rw[AK (by show H2.next<H2.next+1;omega) (by omega),AP (by omega)];exact ho2 i hi
 have hn3:((H2.push (.row [iv 0,iv 0] 33 false false)).put H2.next (.row [iv (BR l).1,iv (BR l).2] 33 false false)).next=h.next+3:=by show H2.next+1=_;omega
 have hf3:((H2.push (.row [iv 0,iv 0] 33 false false)).put H2.next (.row [iv (BR l).1,iv (BR l).2] 33 false false)).floor=h.floor:=hf2
 generalize (H2.push (.row [iv 0,iv 0] 33 false false)).put H2.next (.row [iv (BR l).1,iv (BR l).2] 33 false false)=H3 at *
 have l4:AO 0 (H3.get H2.next)=some (iv (BR l).1):=by rw[hg4];rfl
 cases d:((BR l).1 != 0) with
 | false=>
  have e0:(BR l).1=0:=by simpa using d
  simp only[eE,seval,↓eP,DC,E6,C8,C4,I6,IX,l4,d]
  refine hk2 e0 _ _ ?_ ?_ ?_ ⟨hga,hgb⟩ (by omega) hf3 hgo <;> simp only[eE,seval,↓eP,rP]
 | true=>
  have e0:(BR l).1≠0:=by simpa using d
  have l42:BL 2 0 (H3.get H2.next)=some (EN (BR l).1 (BR l).2):=by rw[hg4];rfl
  have sP:=GY HM (vs:=BT) hga rfl rfl rfl (by omega)
  have hgb':=(AK (h:=H3) (i:=h.next) (j:=h.next+1) (o:=.row BT 30 false false) (by omega) (by omega)).trans hgb
  have sF2:=GY (t:=33) MF (vs:=[iv (BR l).1,iv (BR l).2]) hgb' rfl rfl rfl (by show H3.floor≤_;omega)
  have n1:(some H2.next != some h.next)=true:=by simp;omega
  have i1:DY (qP H2.next 0)=some H2.next:=rfl
  have i2:DY (qP h.next 0)=some h.next:=rfl
  simp only[eE,seval,↓eP,DC,E6,C8,C4,I6,IX,l4,d]
  refine WK.flags (ops:=p_) Mp ?_
  refine BQ.begin ?_
  refine AF hsn 0 (some 18) (.build 30 #[]) none ?_
  simp only[rG,seval,AB,AD,AC,List.map_nil,RB]
  refine AF hsn 1 (some 19) (.load 33 (.tmp 4)) none ?_
  simp only[rG,seval,AB,AD,AC,BU,K8,l42,i1]
  refine AF hsn 2 (none) (.store 30 (.tmp 2) (.tmp 18)) none ?_
  simp only[rG,seval,AB,AD,AC,DP,EE,i1,i2,n1,sP]
  refine AF hsn 3 (none) (.store 33 (.tmp 3) (.tmp 19)) none ?_
  simp only[rG,seval,AB,AD,AC,DP,EE,sF2]
  refine BQ.done (i:=4) (by kernel_rfl) ?_
  simp only[eE,seval,↓eP,DC,E6,C8,C4]
  have ha:∀ i,i≠h.next→(H3.put h.next (.row BT 30 false false)).get i=H3.get i:=fun i hi=>AK (by omega) (Ne.symm hi)
  refine hk1 e0 _ _ ?_ ?_ ⟨?_,BI rfl (by show h.next+1<H3.next;omega)⟩ (by show h.next+2≤H3.next;omega) hf3 fun i hi=>?_
  ·simp only[eE,seval,↓eP,rP]
  ·simp only[eE,seval,↓eP,rP]
  ·rw[AK (by show h.next+1<H3.next;omega) (by omega)]
   exact BI rfl (by omega)
  ·rw[AK (by show h.next+1<H3.next;omega) (by omega),ha i (by omega)]
   exact hgo i hi
structure XN (h:AA) (m e c5 c6 fl n:Nat) (E:List Int):Prop where
 h5:h.get c5=.row [qP m 0] 79 false false
 h6:h.get c6=.row [qS e n n] 28 false false
 hf:h.get fl=.row [.func (.func 50) #[] #[qP c5 0,qP c6 0],.func (.func 52) #[qP m 0] #[],.func (.func 53) #[qP m 0] #[]] 86 false false
theorem Jl (hsn:CK call) {l:List AE} {v:Value} {T:Tr} {H:AA} {K:B7} (ht:B_ l) (hlen:l.length<2932031007403) (hfl:H.floor≤H.next) (hv:AU H v l) (t0:T.get 0=v)
  (hclone:∀ H,AU H v l→∃ h',call 48 [v] H=some (qS (H.next+1) l.length AM,h')∧(h'.get (H.next+1)=.row (l.flatMap AI) 46 true false∧h'.next=H.next+2∧h'.floor=H.floor∧∀ i,i<H.next→h'.get i=H.get i))
  (hends:∀ H,AU H v l→H.floor≤H.next→∃ h',call 49 [v] H=some (qS H.next l.length l.length,h')∧(h'.get H.next=.row (ints (AR l)) 3 false false∧h'.next=H.next+1∧h'.floor=H.floor∧∀ i,i<H.next→h'.get i=H.get i))
  (hk:∀ T' H' m k c e r c5 c6 fl,T'.get 0=v→T'.get 2=T.get 2→T'.get 3=T.get 3→T'.get 5=qP c5 0→T'.get 6=qP c6 0→T'.get 7=qS fl 3 3 →
   EY H' H.next m k c e r l.length (HQ l) (AR l) [c5,c6,fl] (BV l)→XN H' m e c5 c6 fl l.length (AR l)→H.next≤H'.next→H'.floor=H.floor→(∀ i,i<H.next→H'.get i=H.get i)→WK Tryd.prog call N Y4 ⟨T',H'⟩ K) :
  WK Tryd.prog call N Y2 ⟨T,H⟩ K:=by
 show WK _ _ _ (.seq _ (.seq (.region _ _ true) (.seq _ (.seq _ Y4)))) _ _
 have hpos:=ht.pos
 obtain⟨x,hx⟩:∃ x,l[0]?=some x:=⟨_,List.getElem?_eq_getElem hpos⟩
 have hnm:HQ l=x.name:=by unfold HQ;rw[hx]
 have mc:(s7 H.next (H.next+1)).cells.toList=[.string ByteArray.empty,Z0,Z0,Z0,Z0,Z0,Z0,iv 0,.map (some H.next),.map (some (H.next+1))]:=rfl
 have mo:([.string ByteArray.empty,Z0,Z0,Z0,Z0,Z0,Z0,iv 0,.map (some H.next),.map (some (H.next+1))]:List Value).all one=true:=rfl
 have z79:(Value.pointer none).cells.toList=[.pointer none]:=rfl
 have f79:flat (.pointer none)=true:=rfl
 have hst:BH Tryd.prog ((((H.push (.map [])).push (.map [])).push (.row [.string ByteArray.empty,Z0,Z0,Z0,Z0,Z0,Z0,iv 0,.map (some H.next),.map (some (H.next+1))] 83 false false)).push (.row [.pointer none] 79 false false)) 79 (qP (H.next+1+1+1) 0) (qP (H.next+1+1) 0)=_:=
  FU (off:=0) Ab rfl rfl (BO (h:=(((H.push (.map [])).push (.map [])).push (.row [.string ByteArray.empty,Z0,Z0,Z0,Z0,Z0,Z0,iv 0,.map (some H.next),.map (some (H.next+1))] 83 false false)))) (by decide) (by show H.floor≤H.next+1+1+1;omega)
 simp only[eE,seval,↓eP,DC,C8,C4,Rb,mc,mo,Py,xO,z79,f79,hst]
 have n1:(((H.push (.map [])).push (.map [])).push (.row [.string ByteArray.empty,Z0,Z0,Z0,Z0,Z0,Z0,iv 0,.map (some H.next),.map (some (H.next+1))] 83 false false)).next=H.next+1+1+1:=rfl
 have P0:∀ i,i<H.next→((((H.push (.map [])).push (.map [])).push (.row [.string ByteArray.empty,Z0,Z0,Z0,Z0,Z0,Z0,iv 0,.map (some H.next),.map (some (H.next+1))] 83 false false)).push (.row [.pointer none] 79 false false)).get i=H.get i:=fun i hi=>by
  rw[AP (by show i<H.next+1+1+1;omega),AP (by show i<H.next+1+1;omega),AP (by show i<H.next+1;omega),AP hi]
 have P1:((((H.push (.map [])).push (.map [])).push (.row [.string ByteArray.empty,Z0,Z0,Z0,Z0,Z0,Z0,iv 0,.map (some H.next),.map (some (H.next+1))] 83 false false)).push (.row [.pointer none] 79 false false)).get H.next=.map []:=by
  rw[AP (by show H.next<H.next+1+1+1;omega),AP (by show H.next<H.next+1+1;omega)];exact MM
 have P2:((((H.push (.map [])).push (.map [])).push (.row [.string ByteArray.empty,Z0,Z0,Z0,Z0,Z0,Z0,iv 0,.map (some H.next),.map (some (H.next+1))] 83 false false)).push (.row [.pointer none] 79 false false)).get (H.next+1)=.map []:=by
  rw[AP (by show H.next+1<H.next+1+1+1;omega),AP (by show H.next+1<H.next+1+1;omega)];exact MN
 have P3:((((H.push (.map [])).push (.map [])).push (.row [.string ByteArray.empty,Z0,Z0,Z0,Z0,Z0,Z0,iv 0,.map (some H.next),.map (some (H.next+1))] 83 false false)).push (.row [.pointer none] 79 false false)).get (H.next+1+1)=.row [.string ByteArray.empty,Z0,Z0,Z0,Z0,Z0,Z0,iv 0,.map (some H.next),.map (some (H.next+1))] 83 false false:=by
  rw[AP (by show H.next+1+1<H.next+1+1+1;omega)];exact BO (h:=(H.push (.map [])).push (.map []))
 have nA:((((H.push (.map [])).push (.map [])).push (.row [.string ByteArray.empty,Z0,Z0,Z0,Z0,Z0,Z0,iv 0,.map (some H.next),.map (some (H.next+1))] 83 false false)).push (.row [.pointer none] 79 false false)).next=H.next+4:=rfl
 have fA:((((H.push (.map [])).push (.map [])).push (.row [.string ByteArray.empty,Z0,Z0,Z0,Z0,Z0,Z0,iv 0,.map (some H.next),.map (some (H.next+1))] 83 false false)).push (.row [.pointer none] 79 false false)).floor=H.floor:=rfl
 generalize (((H.push (.map [])).push (.map [])).push (.row [.string ByteArray.empty,Z0,Z0,Z0,Z0,Z0,Z0,iv 0,.map (some H.next),.map (some (H.next+1))] 83 false false)).push (.row [.pointer none] 79 false false)=A0 at *
 have Q:∀ i,i≠H.next+1+1+1→(A0.put (H.next+1+1+1) (.row ([Value.pointer none].set 0 (qP (H.next+1+1) 0)) 79 false false)).get i=A0.get i:=fun i hi=>AK (by omega) (Ne.symm hi)
 have a0:∀ i,i<H.next→(A0.put (H.next+1+1+1) (.row ([Value.pointer none].set 0 (qP (H.next+1+1) 0)) 79 false false)).get i=H.get i:=fun i hi=>by rw[Q i (by omega)];exact P0 i hi
 have a1:=(Q H.next (by omega)).trans P1
 have a2:=(Q (H.next+1) (by omega)).trans P2
 have a3:=(Q (H.next+1+1) (by omega)).trans P3
 have a4:(A0.put (H.next+1+1+1) (.row ([Value.pointer none].set 0 (qP (H.next+1+1) 0)) 79 false false)).get (H.next+1+1+1)=.row [qP (H.next+1+1) 0] 79 false false:=BI rfl (by omega)
 have nB:(A0.put (H.next+1+1+1) (.row ([Value.pointer none].set 0 (qP (H.next+1+1) 0)) 79 false false)).next=H.next+4:=nA
 have fB:(A0.put (H.next+1+1+1) (.row ([Value.pointer none].set 0 (qP (H.next+1+1) 0)) 79 false false)).floor=H.floor:=fA
 generalize A0.put (H.next+1+1+1) (.row ([Value.pointer none].set 0 (qP (H.next+1+1) 0)) 79 false false)=A at *
 clear hst n1 P0 P1 P2 P3 nA fA Q A0
 have hvA:AU A v l:=hv.mono (by omega) a0
 obtain⟨id,q,e0,hid,l0,l1,l2,l3,l4,lr⟩:=hvA.row hx
 have e0':CO Tryd.prog 22 v (iv 0)=some (qP id q):=e0
 have hidT:(id<A.next)=True:=by simp[hid]
 have l79:AO 0 (A.get (H.next+1+1+1))=some (qP (H.next+1+1) 0):=by rw[a4];rfl
 have hvf:AU (A.fl (max A.floor A.next)) v l:=hvA.mono (Nat.le_refl _) fun _ _=>rfl
 obtain⟨h3,hE,g1,g2,g3,g4⟩:=hclone (A.fl (max A.floor A.next)) hvf
 simp only[CL] at hE g1 g2 g4
 have g4':∀ i,i<A.next→h3.get i=A.get i:=g4
 have hs30:BH Tryd.prog (h3.fl A.floor) 30 (qP (H.next+1+1) 0) (.agg #[.string x.name,qS (A.next+1) l.length AM,Z0,Z0,Z0,Z0,Z0,iv (-1)])=_:=
  Ra (vs:=[.string x.name,qS (A.next+1) l.length AM,Z0,Z0,Z0,Z0,Z0,iv (-1)]) HM (by rw[FX,g4' _ (by omega)];exact a3) (by simp only[List.length_cons,List.length_nil];omega) rfl rfl (by show A.floor≤_;omega)
 have i3:((H.next+1+1+1)<A.next)=True:=by simp;omega
 refine WK.flags (ops:=k7) Ku ?_
 refine BQ.begin ?_
 refine AF hsn 0 (some 24) (.load 79 (.tmp 5)) none ?_
 simp only[rG,seval,AB,AD,AC,BU,l79,i3,UF]
 refine AF hsn 1 (some 25) (.move (.tmp 0)) none ?_
 simp only[rG,seval,AB,AD,AC,t0]
 refine AF hsn 2 (some 26) (.indexAddr 22 (.tmp 25) (.const (Value.int IntKind.i64 0))) none ?_
 simp only[rG,seval,AB,AD,AC,e0']
 refine AF hsn 3 (some 27) (.fieldAddr 46 (.tmp 26) 1) none ?_
 simp only[rG,seval,AB,AD,AC,LL]
 refine AF hsn 4 (some 28) (.load 9 (.tmp 27)) none ?_
 simp only[rG,seval,AB,AD,AC,BU,hidT,FN,l1]
 refine AF hsn 5 (some 29) (.move (.tmp 0)) none ?_
 simp only[rG,seval,AB,AD,AC,t0]
 refine AF hsn 6 (some 30) (.call { callee:=.value (.func 48),args:=#[.tmp 29],argTypes:=#[22] }) none ?_
 simp only[rG,seval,AB,AD,AC,CF,hE]
 refine AF hsn 7 (some 31) (.build 30 #[(0,.tmp 28),(1,.tmp 30),(7,.const (Value.int IntKind.i64 (-1)))]) none ?_
 simp only[rG,seval,AB,AD,AC,List.map_cons,List.map_nil,Jr]
 refine AF hsn 8 (some 32) (.nilCheck (.tmp 24)) none ?_
 simp only[rG,seval,AB,AD,AC]
 refine AF hsn 9 (some 33) (.fieldAddr 83 (.tmp 32) 0) none ?_
 simp only[rG,seval,AB,AD,AC,JD]
 refine AF hsn 10 (none) (.store 30 (.tmp 33) (.tmp 31)) none ?_
 simp only[rG,seval,AB,AD,AC,DP,EE,hs30]
 refine BQ.done (i:=11) (by kernel_rfl) ?_
 have hgo:∀ i,i≠H.next+1+1→((h3.fl A.floor).put (H.next+1+1) (BF.row ([.string x.name,qS (A.next+1) l.length AM,Z0,Z0,Z0,Z0,Z0,iv (-1)]++List.drop 8 [.string ByteArray.empty,Z0,Z0,Z0,Z0,Z0,Z0,iv 0,.map (some H.next),.map (some (H.next+1))]) 83 false false)).get i=h3.get i:=fun i hi=>AK (by show _<h3.next;omega) (Ne.symm hi)
 have b0:∀ i,i<H.next→((h3.fl A.floor).put (H.next+1+1) (BF.row ([.string x.name,qS (A.next+1) l.length AM,Z0,Z0,Z0,Z0,Z0,iv (-1)]++List.drop 8 [.string ByteArray.empty,Z0,Z0,Z0,Z0,Z0,Z0,iv 0,.map (some H.next),.map (some (H.next+1))]) 83 false false)).get i=H.get i:=fun i hi=>by rw[hgo i (by omega),g4' i (by omega),a0 i hi]
 have b1:((h3.fl A.floor).put (H.next+1+1) (BF.row ([.string x.name,qS (A.next+1) l.length AM,Z0,Z0,Z0,Z0,Z0,iv (-1)]++List.drop 8 [.string ByteArray.empty,Z0,Z0,Z0,Z0,Z0,Z0,iv 0,.map (some H.next),.map (some (H.next+1))]) 83 false false)).get H.next=.map []:=by rw[hgo _ (by omega),g4' _ (by omega)];exact a1
 have b2:((h3.fl A.floor).put (H.next+1+1) (BF.row ([.string x.name,qS (A.next+1) l.length AM,Z0,Z0,Z0,Z0,Z0,iv (-1)]++List.drop 8 [.string ByteArray.empty,Z0,Z0,Z0,Z0,Z0,Z0,iv 0,.map (some H.next),.map (some (H.next+1))]) 83 false false)).get (H.next+1)=.map []:=by rw[hgo _ (by omega),g4' _ (by omega)];exact a2
 have b3:((h3.fl A.floor).put (H.next+1+1) (BF.row ([.string x.name,qS (A.next+1) l.length AM,Z0,Z0,Z0,Z0,Z0,iv (-1)]++List.drop 8 [.string ByteArray.empty,Z0,Z0,Z0,Z0,Z0,Z0,iv 0,.map (some H.next),.map (some (H.next+1))]) 83 false false)).get (H.next+1+1)=.row [.string x.name,qS (A.next+1) l.length AM,Z0,Z0,Z0,Z0,Z0,iv (-1),.map (some H.next),.map (some (H.next+1))] 83 false false:=BI rfl (by show _<h3.next;omega)
 have b4:((h3.fl A.floor).put (H.next+1+1) (BF.row ([.string x.name,qS (A.next+1) l.length AM,Z0,Z0,Z0,Z0,Z0,iv (-1)]++List.drop 8 [.string ByteArray.empty,Z0,Z0,Z0,Z0,Z0,Z0,iv 0,.map (some H.next),.map (some (H.next+1))]) 83 false false)).get (H.next+1+1+1)=.row [qP (H.next+1+1) 0] 79 false false:=by rw[hgo _ (by omega),g4' _ (by omega)];exact a4
 have b5:((h3.fl A.floor).put (H.next+1+1) (BF.row ([.string x.name,qS (A.next+1) l.length AM,Z0,Z0,Z0,Z0,Z0,iv (-1)]++List.drop 8 [.string ByteArray.empty,Z0,Z0,Z0,Z0,Z0,Z0,iv 0,.map (some H.next),.map (some (H.next+1))]) 83 false false)).get (A.next+1)=.row (l.flatMap AI) 46 true false:=by rw[hgo _ (by omega)];exact g1
 have nW:((h3.fl A.floor).put (H.next+1+1) (BF.row ([.string x.name,qS (A.next+1) l.length AM,Z0,Z0,Z0,Z0,Z0,iv (-1)]++List.drop 8 [.string ByteArray.empty,Z0,Z0,Z0,Z0,Z0,Z0,iv 0,.map (some H.next),.map (some (H.next+1))]) 83 false false)).next=H.next+6:=by show h3.next=_;omega
 have fW:((h3.fl A.floor).put (H.next+1+1) (BF.row ([.string x.name,qS (A.next+1) l.length AM,Z0,Z0,Z0,Z0,Z0,iv (-1)]++List.drop 8 [.string ByteArray.empty,Z0,Z0,Z0,Z0,Z0,Z0,iv 0,.map (some H.next),.map (some (H.next+1))]) 83 false false)).floor=H.floor:=fB
 generalize (h3.fl A.floor).put (H.next+1+1) (BF.row ([.string x.name,qS (A.next+1) l.length AM,Z0,Z0,Z0,Z0,Z0,iv (-1)]++List.drop 8 [.string ByteArray.empty,Z0,Z0,Z0,Z0,Z0,Z0,iv 0,.map (some H.next),.map (some (H.next+1))]) 83 false false)=B at *
 have hvB:AU B v l:=hv.mono (by omega) b0
 obtain⟨h4,hN,k1,k2,k3,k4⟩:=hends B hvB (by omega)
 have z28:(Z0).cells.toList=[Z0]:=rfl
 have f28:flat (Z0)=true:=rfl
 have hst:BH Tryd.prog (h4.push (.row [Z0] 28 false false)) 28 (qP h4.next 0) (qS B.next l.length l.length)=_:=FU (off:=0) JG rfl rfl BO (by decide) (by show h4.floor≤h4.next;omega)
 have c0:∀ i,i≠h4.next→((h4.push (.row [Z0] 28 false false)).put h4.next (.row ([Z0].set 0 (qS B.next l.length l.length)) 28 false false)).get i=h4.get i:=fun i hi=>by rw[AK (by show h4.next<h4.next+1;omega) (Ne.symm hi),N0 hi]
 have c6:((h4.push (.row [Z0] 28 false false)).put h4.next (.row ([Z0].set 0 (qS B.next l.length l.length)) 28 false false)).get h4.next=.row [qS B.next l.length l.length] 28 false false:=BI rfl (by show h4.next<h4.next+1;omega)
 have nC:((h4.push (.row [Z0] 28 false false)).put h4.next (.row ([Z0].set 0 (qS B.next l.length l.length)) 28 false false)).next=H.next+8:=by show h4.next+1=_;omega
 have fC:((h4.push (.row [Z0] 28 false false)).put h4.next (.row ([Z0].set 0 (qS B.next l.length l.length)) 28 false false)).floor=H.floor:=by show h4.floor=_;omega
 simp only[eE,seval,↓eP,DC,C8,C4,t0,hN,Fb,z28,f28,hst]
 generalize (h4.push (.row [Z0] 28 false false)).put h4.next (.row ([Z0].set 0 (qS B.next l.length l.length)) 28 false false)=C at *
 have l5:AO 0 (C.get (H.next+1+1+1))=some (qP (H.next+1+1) 0):=by rw[c0 _ (by omega),k4 _ (by omega),b4];rfl
 simp only[eE,seval,↓eP,DC,C8,C4,UF,l5,List.map_toArray,Hc]
 have D0:∀ (o:BF) i,i<C.next→(C.push o).get i=C.get i:=fun o i hi=>AP hi
 have D6:∀ (o:BF) i,i<B.next→(C.push o).get i=B.get i:=fun o i hi=>by rw[D0 o i (by omega),c0 i (by omega),k4 i hi]
 have n4:h4.next=H.next+7:=by omega
 refine hk _ _ (H.next+1+1) H.next (H.next+1) B.next (A.next+1) (H.next+1+1+1) h4.next C.next ?_ ?_ ?_ ?_ ?_ ?_ ⟨fun i=>if i=H.next+1+1 then 0 else if i=A.next+1 then 1 else if i=H.next then 8 else if i=H.next+1 then 9 else if i=B.next then 10 else 11,Z0,Z0,Z0,Z0,Z0,[],?_,?_,⟨by simp[BV],by simp[BV],by simp[BV],by simp[BV],rfl,fun t ht=>by cases ht⟩,fun i hi=>?_⟩ ⟨?_,?_,BO⟩ (by show H.next≤C.next+1;omega) (by show C.floor=H.floor;exact fC) fun i hi=>?_
 ·simp only[eE,seval,↓eP,rP,t0]
 ·simp only[eE,seval,↓eP,rP]
 ·simp only[eE,seval,↓eP,rP]
 ·simp only[eE,seval,↓eP,rP]
 ·simp only[eE,seval,↓eP,rP]
 ·simp only[eE,seval,↓eP,rP]
 ·exact
   { cell:=by rw[D6 _ _ (by omega),b3,hnm];rfl
     pol:=
      { rows:=by rw[D6 _ _ (by omega)];exact b5
        len:=rfl
        tr:=by rw[if_neg (by omega),if_pos rfl]
        lr:=⟨by omega,by show _<C.next+1;omega⟩
        q:=R6
        v:=R6
        t:=R6
        u:=R6
        o:=R6 }
     known:=by rw[D6 _ _ (by omega)];exact b1
     many:=by rw[D6 _ _ (by omega)];exact b2
     ends:=by rw[D0 _ _ (by omega),c0 _ (by omega)];exact k1
     tm:=if_pos rfl
     tk:=by rw[if_neg (by omega),if_neg (by omega),if_pos rfl]
     tc:=by rw[if_neg (by omega),if_neg (by omega),if_neg (by omega),if_pos rfl]
     te:=by rw[if_neg (by omega),if_neg (by omega),if_neg (by omega),if_neg (by omega),if_pos rfl]
     lm:=⟨by omega,by show _<C.next+1;omega⟩
     lk:=⟨Nat.le_refl _,by show _<C.next+1;omega⟩
     lc:=⟨by omega,by show _<C.next+1;omega⟩
     le:=⟨by omega,by show _<C.next+1;omega⟩
     fl:=by show C.floor≤H.next;omega }
 ·refine⟨fun p hp=>(by cases hp),fun k h1 h4=>?_⟩
  have:BD (BV l) k=0:=by unfold BD;(repeat' split) <;> rfl
  rw[if_pos this]
  rfl
 ·have hii:i=H.next+1+1+1∨i=h4.next∨i=C.next:=by simpa using hi
  refine⟨by show i<C.next+1;omega,?_⟩
  show 11≤(if i=H.next+1+1 then 0 else if i=A.next+1 then 1 else if i=H.next then 8 else if i=H.next+1 then 9 else if i=B.next then 10 else 11)
  rw[if_neg (by omega),if_neg (by omega),if_neg (by omega),if_neg (by omega),if_neg (by omega)]
  exact Nat.le_refl _
 ·rw[D6 _ _ (by omega)];exact b4
 ·rw[D0 _ _ (by omega)];exact c6
 ·rw[D6 _ _ (by omega)];exact b0 i hi
end
noncomputable def nS:Code:=inB (YS Tryd.f16 1)
theorem EP.mono {a:Nat} {H H':AA} {cs:List Value} {e p:Int} (h:EP a H cs e p) (h0:H'.get a=H.get a) (h1:H'.get (a+1)=H.get (a+1)):EP a H' cs e p:=⟨h0.trans h.1,h1.trans h.2⟩
section
variable {N:Nat} {call:AT}
theorem OG {a:Nat} {H:AA} {cs:List Value} {e p:Int} (h:EP a H cs e p) (hl:cs.length=8) (ha:a+1<H.next) (hf:H.floor≤a) {cs':List Value} (hl':cs'.length=8) (ho':cs'.all one=true) {e' p':Int} :
  ∃ H',BH Tryd.prog H 30 (qP a 0) (.agg cs'.toArray)=some (H.put a (.row cs' 30 false false))∧BH Tryd.prog (H.put a (.row cs' 30 false false)) 33 (qP (a+1) 0) (EN e' p')=some H' ∧
   EP a H' cs' e' p'∧H'.next=H.next∧H'.floor=H.floor∧∀ i,i≠a→i≠a+1→H'.get i=H.get i:=by
 have s1:=GY (k:=8) HM h.1 hl hl' ho' hf
 have hb:(H.put a (.row cs' 30 false false)).get (a+1)=.row [iv e,iv p] 33 false false:=by rw[AK (by omega) (by omega)];exact h.2
 have s2:=GY (t:=33) (k:=2) MF (vs:=[iv e',iv p']) hb rfl rfl rfl (by show H.floor≤a+1;omega)
 refine⟨_,s1,s2,⟨?_,BI rfl (by show a+1<H.next;omega)⟩,rfl,rfl,fun i hi hi'=>?_⟩
 ·rw[AK (by show a+1<H.next;omega) (by omega)]
  exact BI rfl (by omega)
 ·rw[AK (by show a+1<H.next;omega) (by omega),AK (by omega) (by omega)]
theorem xY {at_ a fl lo m k c e r n:Nat} {nm:ByteArray} {E:List Int} {F:List Nat} {er:Nat→Int} {st:Nat→AS} {T:Tr} {H:AA} {K:B7} {fs:List Value}
  (t2:T.get 2=qP a 0) (t3:T.get 3=qP (a+1) 0) (t7:T.get 7=qS fl 3 3) (t44:T.get 44=iv at_)
  (hN:3<N) (hp:EY H lo m k c e r n nm E F (st 0)) (ha:a+1<lo) (hlo:lo≤H.next) (hout:EP a H BT 0 0) (hfa:H.floor≤a) (hfl:H.get fl=.row fs 86 false false) (hFl:fl∈F)
  (hlook:∀ i,i<3→∀ H1,EY H1 lo m k c e r n nm E F (st i)→FV H H1 lo F→(∀ j,j<i→er j=0)→∃ fid first cap H2,fs[i]?=some (.func (.func fid) first cap)∧call fid (first.toList++[iv at_]++cap.toList) H1=some (iv (er i),H2)∧FV H1 H2 lo F∧(er i=0→EY H2 lo m k c e r n nm E F (st (i+1))))
  (hbad:∀ i,i<3→er i≠0→(∀ j,j<i→er j=0)→∀ T' H',T'.get 2=qP a 0→T'.get 3=qP (a+1) 0→EP a H' BT (er i) at_→H.next≤H'.next→H'.floor=H.floor→(∀ i,i<a→H'.get i=H.get i)→K.ap Tryd.prog call N .ret ⟨T',H'⟩)
  (hgood:(∀ j,j<3→er j=0)→∀ T' H',(∀ t,t≤7∨(42≤t∧t≤44)→T'.get t=T.get t)→EY H' lo m k c e r n nm E F (st 3)→FV H H' lo F→K.ap Tryd.prog call N .normal ⟨T',H'⟩) :
  WK Tryd.prog call N nS ⟨T,H⟩ K:=by
 show WK _ _ _ (.seq _ (.seq _ (.block 2 (.loop (.seq _ (.seq _ (.seq (.block 3 _) _))))))) _ _
 simp only[eE,↓reduceIte,Nat.reduceEqDiff,reduceCtorEq,↓eP,t7,t44,wY]
 refine WK.loop (fun i s'=>s'.T.get 47=qS fl 3 3∧s'.T.get 48=iv 3∧s'.T.get 49=iv i∧s'.T.get 8=iv at_∧i≤3∧(∀ t,t≤7∨(42≤t∧t≤44)→s'.T.get t=T.get t)∧EY s'.h lo m k c e r n nm E F (st i)∧FV H s'.h lo F∧∀ j,j<i→er j=0) 3 hN ?_ ?_
 ·refine⟨by simp only[eE,↓reduceIte,Nat.reduceEqDiff,reduceCtorEq,↓eP,rP,Nat.reduceAdd,Nat.reduceLT],by simp only[eE,↓reduceIte,Nat.reduceEqDiff,reduceCtorEq,↓eP,rP,Nat.reduceAdd,Nat.reduceLT];rfl,by simp only[eE,↓reduceIte,Nat.reduceEqDiff,reduceCtorEq,↓eP,rP,Nat.reduceAdd,Nat.reduceLT];rfl,by simp only[eE,↓reduceIte,Nat.reduceEqDiff,reduceCtorEq,↓eP,rP,Nat.reduceAdd,Nat.reduceLT],by omega,fun t ht=>?_,hp,⟨fun _ _=>rfl,Nat.le_refl _,rfl⟩,fun j hj=>by omega⟩
  simp only[Tr.get_put,Option.some.injEq]
  repeat rw[if_neg (by omega)]
 ·rintro i ⟨T1,H1⟩ hi ⟨t47,t48,t49,t8,hi3,hkeep,hp1,haf,hz⟩
  simp only at t47 t48 t49 t8 hkeep hp1 haf
  have t2':T1.get 2=qP a 0:=(hkeep 2 (by omega)).trans t2
  have t3':T1.get 3=qP (a+1) 0:=(hkeep 3 (by omega)).trans t3
  by_cases hlt:i<3
  ·have c1:decide ((i:Int)<3)=true:=by simp;omega
   obtain⟨fid,first,cap,H2,hfi,hcall,haf2,hmk⟩:=hlook i hlt H1 hp1 haf hz
   have hfl1:H1.get fl=.row fs 86 false false:=(haf.1 fl (.inr hFl)).trans hfl
   have lf:AO i (H1.get fl)=some (.func (.func fid) first cap):=by rw[hfl1];exact hfi
   have hix:=Ps (h:=H1) (id:=fl) (c:=3) hlt
   cases d:(er i != 0) with
   | true=>
    have e0:er i≠0:=by simpa using d
    have n2:H.next≤H2.next:=Nat.le_trans haf.2.1 haf2.2.1
    have f2:H2.floor=H.floor:=haf2.2.2.trans haf.2.2
    have o2:∀ i,i<lo→H2.get i=H.get i:=fun i hi=>(haf2.1 i (.inl hi)).trans (haf.1 i (.inl hi))
    have hout2:EP a H2 BT 0 0:=hout.mono (o2 a (by omega)) (o2 (a+1) ha)
    obtain⟨H',s1,s2,r1,r2,r3,r4⟩:=OG hout2 rfl (by omega) (by omega) (cs':=BT) rfl rfl (e':=er i) (p':=at_)
    simp only[eE,seval,↓eP,t47,t48,t49,t8,t2',t3',c1,hix,pV,lf,hcall,d,RB,NF,s1,s2]
    refine hbad i hlt e0 hz _ _ ?_ ?_ r1 (by omega) (r3.trans f2) fun j hj=>(r4 j (by omega) (by omega)).trans (o2 j (by omega))
    ·simp only[eE,seval,↓eP,rP,t2']
    ·simp only[eE,seval,↓eP,rP,t3']
   | false=>
    have e0:er i=0:=by simpa using d
    have w1:=C6 i (by omega)
    simp only[eE,seval,↓eP,t47,t48,t49,t8,c1,hix,pV,lf,hcall,d,w1]
    refine⟨hlt,by omega,fun t ht=>?_,hmk e0,⟨fun i hi=>(haf2.1 i hi).trans (haf.1 i hi),Nat.le_trans haf.2.1 haf2.2.1,haf2.2.2.trans haf.2.2⟩,fun j hj=>?_⟩
    ·repeat rw[if_neg (by omega)]
     exact hkeep t ht
    ·rcases Nat.lt_or_ge j i with h1 | h1
     ·exact hz j h1
     ·have:j=i:=by omega
      subst this
      exact e0
  ·have c1:decide ((i:Int)<3)=false:=by simp;omega
   have:i=3:=by omega
   subst this
   simp only[eE,seval,↓eP,t48,t49]
   refine hgood hz _ _ (fun t ht=>?_) hp1 haf
   simp only[Tr.get_put,Option.some.injEq]
   repeat rw[if_neg (by omega)]
   exact hkeep t ht
end
theorem xD (k:Int) (h:AA) (hk:1≤k∧k≤54):L0 79 [iv k] h=some (iv (BM k),h):=EV rfl rfl rfl rfl (IS Rw hk)
theorem uO (k:Int) (h:AA) (hk:1≤k∧k≤54):L0 81 [iv k] h=some (iv (DL k),h):=EV rfl rfl rfl rfl (IS Fh hk)
theorem s9 (k:Int) (h:AA) (hk:1≤k∧k≤54):L0 82 [iv k] h=some (.bool (C3 k),h):=EV rfl rfl rfl rfl (IS Ak hk)
theorem Z2 {at_:Nat} {end_:Int} {x:AE} {s:AS} (hx:s.rows[at_]?=some x):∃ n,(BJ at_ end_ x s).rows[at_]?=some { x with n:=n }:=by
 rw[TU]
 split
 ·exact⟨x.n,hx⟩
 ·exact⟨_,I8 hx⟩
def ON (at_:Nat) (end_:Int) (x x1 x2:AE) (s:AS):Nat→Int
 | 0=>DN x s
 | 1=>CN at_ x1 (BJ at_ end_ x s)
 | _=>CX x2 (BP at_ x1 (BJ at_ end_ x s))
def U3 (at_:Nat) (end_:Int) (x x1 x2:AE) (s:AS):Nat→AS
 | 0=>s
 | 1=>BJ at_ end_ x s
 | 2=>BP at_ x1 (BJ at_ end_ x s)
 | _=>C2 at_ x2 (BP at_ x1 (BJ at_ end_ x s))
theorem Av {E:List Int} {at_:Nat} {end_:Int} {x x1 x2:AE} {s:AS} (hx:s.rows[at_]?=some x) (hE:E[at_]?=some end_) (h1:(BJ at_ end_ x s).rows[at_]?=some x1) (h2:CN at_ x1 (BJ at_ end_ x s)=0→(BP at_ x1 (BJ at_ end_ x s)).rows[at_]?=some x2) :
  (∀ i,i<3→ON at_ end_ x x1 x2 s i≠0→(∀ j,j<i→ON at_ end_ x x1 x2 s j=0)→DD E at_ s=(ON at_ end_ x x1 x2 s i,s))∧((∀ j,j<3→ON at_ end_ x x1 x2 s j=0)→DD E at_ s=(0,U3 at_ end_ x x1 x2 s 3)):=by
 have hEx:(E[at_]?).getD 0=end_:=by rw[hE];rfl
 constructor
 ·intro i hi he hz
  unfold DD
  rw[hx]
  simp only[hEx]
  match i,hi,he,hz with
  | 0,_,he,_=>
   have he:DN x s≠0:=he
   rw[if_pos he]
   rfl
  | 1,_,he,hz=>
   have h0:DN x s=0:=hz 0 (by omega)
   have he:CN at_ x1 (BJ at_ end_ x s)≠0:=he
   rw[if_neg (by simpa using h0),h1]
   simp only
   rw[if_pos he]
   rfl
  | 2,_,he,hz=>
   have h0:DN x s=0:=hz 0 (by omega)
   have hc:CN at_ x1 (BJ at_ end_ x s)=0:=hz 1 (by omega)
   have he:CX x2 (BP at_ x1 (BJ at_ end_ x s))≠0:=he
   rw[if_neg (by simpa using h0),h1]
   simp only
   rw[if_neg (by simpa using hc),h2 hc]
   simp only
   rw[if_pos he]
   rfl
 ·intro hz
  have h0:DN x s=0:=hz 0 (by omega)
  have hc:CN at_ x1 (BJ at_ end_ x s)=0:=hz 1 (by omega)
  have he:CX x2 (BP at_ x1 (BJ at_ end_ x s))=0:=hz 2 (by omega)
  unfold DD
  rw[hx]
  simp only[hEx]
  rw[if_neg (by simpa using h0),h1]
  simp only
  rw[if_neg (by simpa using hc),h2 hc]
  simp only
  rw[if_neg (by simpa using he)]
  rfl
section
variable {n lo m k c e r L:Nat} {h:AA} {nm:ByteArray} {E:List Int} {F:List Nat} {s:AS}
theorem wI {at_:Nat} {end_:Int} {x:AE} (hp:EY h lo m k c e r L nm E F s) (hx:s.rows[at_]?=some x) (hkind:1≤x.kind∧x.kind≤54) (hL:L<30000000000000) (he:0≤end_) (hn:0<n) :
  ∃ h',AX n 51 [qP m 0,iv at_,iv end_] h=some (iv (DN x s),h')∧(FV h h' lo F∧(DN x s=0→EY h' lo m k c e r L nm E F (BJ at_ end_ x s))):=by
 obtain⟨n,rfl⟩:=D3 hn
 exact NK (CP ⟨rfl,rfl,rfl⟩) (Eo (FH n).2 hp hx hkind hL he (fun k h' hk=>F5 (GK (xD k h' hk))) fun k h'=>F5 (Rq k h'))
theorem Ft {at_:Nat} {x:AE} (hp:EY h lo m k c e r L nm E F s) (hx:s.rows[at_]?=some x) (hkind:1≤x.kind∧x.kind≤54) (hL:L<30000000000000) (hn:0<n) :
  ∃ h',AX n 52 [qP m 0,iv at_] h=some (iv (CN at_ x s),h')∧(FV h h' lo F∧(CN at_ x s=0→EY h' lo m k c e r L nm E F (BP at_ x s))):=by
 obtain⟨n,rfl⟩:=D3 hn
 exact NK (CP ⟨rfl,rfl,rfl⟩) (Mh (FH n).2 hp hx hkind hL fun k h' hk=>F5 (GK (uO k h' hk)))
theorem vQ {at_:Nat} {x:AE} (hp:EY h lo m k c e r L nm E F s) (hx:s.rows[at_]?=some x) (hkind:1≤x.kind∧x.kind≤54) (hL:L<30000000000000) (hxn:C3 x.kind=true→x.kind≠10→0≤x.n∧x.n<s.on.length) (hn:0<n) :
  ∃ h',AX n 53 [qP m 0,iv at_] h=some (iv (CX x s),h')∧(FV h h' lo F∧(CX x s=0→EY h' lo m k c e r L nm E F (C2 at_ x s))):=by
 obtain⟨n,rfl⟩:=D3 hn
 exact NK (CP ⟨rfl,rfl,rfl⟩) (xW (FH n).2 hp hx hkind hL hxn fun k h' hk=>F5 (GK (s9 k h' hk)))
theorem zO {at_ c5 c6:Nat} {end_:Int} {x:AE} (hp:EY h lo m k c e r L nm E F s) (hx:s.rows[at_]?=some x) (hkind:1≤x.kind∧x.kind≤54) (hL:L<30000000000000) (he:0≤end_) (hE:E[at_]?=some end_) (hlE:L=E.length)
  (h5:h.get c5=.row [qP m 0] 79 false false) (h6:h.get c6=.row [qS e L L] 28 false false) (hn:1<n) :
  ∃ h',AX n 50 [iv at_,qP c5 0,qP c6 0] h=some (iv (DN x s),h')∧(FV h h' lo F∧(DN x s=0→EY h' lo m k c e r L nm E F (BJ at_ end_ x s))):=by
 obtain⟨n,rfl⟩:∃ j,n=j+1:=⟨n-1,by omega⟩
 obtain⟨tag,vq,vv,vt,vu,vo,es,hp',_⟩:=id hp
 obtain⟨h',hc,ha,hm⟩:=wI (n:=n) (at_:=at_) hp hx hkind hL he (by omega)
 exact NK (CP ⟨rfl,rfl,rfl⟩) (Ln (FH n).2 h5 h6 hp'.ends hE hlE ⟨h',hc,ha.2.2,ha,hm⟩)
theorem yQ {l:List AE} {at_ c5 c6 fl:Nat} {x x1:AE} {H:AA} (ht:B_ l) (hL:l.length<2932031007403) (hat:at_<l.length) (hi:GV l at_ s) (hx:s.rows[at_]?=some x) (h1:(BJ at_ (AG l at_) x s).rows[at_]?=some x1) (hcl:XN H m e c5 c6 fl l.length (AR l)) (h5:c5∈F) (h6:c6∈F) (hfl:fl∈F) (hn:3<n) :
  ∃ x2,(CN at_ x1 (BJ at_ (AG l at_) x s)=0→(BP at_ x1 (BJ at_ (AG l at_) x s)).rows[at_]?=some x2)∧∀ i,i<3→∀ H1,EY H1 lo m k c e r l.length nm (AR l) F (U3 at_ (AG l at_) x x1 x2 s i)→FV H H1 lo F→(∀ j,j<i→ON at_ (AG l at_) x x1 x2 s j=0) →
   ∃ fid first cap H2,([.func (.func 50) #[] #[qP c5 0,qP c6 0],.func (.func 52) #[qP m 0] #[],.func (.func 53) #[qP m 0] #[]]:List Value)[i]?=some (.func (.func fid) first cap) ∧
    AX n fid (first.toList++[iv at_]++cap.toList) H1=some (iv (ON at_ (AG l at_) x x1 x2 s i),H2)∧FV H1 H2 lo F∧(ON at_ (AG l at_) x x1 x2 s i=0→EY H2 lo m k c e r l.length nm (AR l) F (U3 at_ (AG l at_) x x1 x2 s (i+1))):=by
 have hkind:=TX ht hi x (List.mem_of_getElem? hx)
 obtain⟨n1,hx1⟩:=Z2 (end_:=AG l at_) hx
 rw[h1] at hx1
 cases hx1
 obtain⟨x2,hx2⟩:∃ x2,CN at_ { x with n:=n1 } (BJ at_ (AG l at_) x s)=0→(BP at_ { x with n:=n1 } (BJ at_ (AG l at_) x s)).rows[at_]?=some x2∧(∃ n,x2={ x with n:=n })∧(x2.kind≠10→C3 x2.kind=true→KM (BP at_ { x with n:=n1 } (BJ at_ (AG l at_) x s))→0≤x2.n∧x2.n<(BP at_ { x with n:=n1 } (BJ at_ (AG l at_) x s)).on.length):=by
  by_cases hc:CN at_ { x with n:=n1 } (BJ at_ (AG l at_) x s)=0
  ·obtain⟨n2,a1,a2,a3,a4,a5,a6⟩:=QD h1 hc
   refine⟨_,fun _=>⟨a1,⟨n2,rfl⟩,fun h10 hev hw=>?_⟩⟩
   have hd:=aG (k:=x.kind) hev h10
   rcases a6 with⟨b1,_⟩ | ⟨t,b1,b2,b3,_⟩
   ·have b1:DL x.kind=0:=b1
    rw[hd.1] at b1
    cases b1
   ·have b2:t.kind=DL x.kind:=b2
    rw[hd.1] at b2
    rw[← a5] at b1
    obtain⟨_,_,q1,q2,_⟩:=hw.th t b1
    rw[b2] at q2
    have q3:t.num<((BP at_ { x with n:=n1 } (BJ at_ (AG l at_) x s)).queues.length:Int):=q2
    rw[← hw.o] at q3
    simp only
    rw[b3]
    exact⟨q1,q3⟩
  ·exact⟨x,fun h=>absurd h hc⟩
 refine⟨x2,fun h=>(hx2 h).1,?_⟩
 intro i hi3 H1 hp haf hz
 have hEat:(AR l)[at_]?=some (AG l at_:Int):=KY hat
 match i,hi3 with
 | 0,_=>
  have g5:H1.get c5=_:=(haf.1 c5 (.inr h5)).trans hcl.h5
  have g6:H1.get c6=_:=(haf.1 c6 (.inr h6)).trans hcl.h6
  obtain⟨H2,q1,q2,q3⟩:=zO (n:=n) (s:=s) (at_:=at_) hp hx hkind (by omega) (by omega) hEat (by rw[OA]) g5 g6 (by omega)
  exact⟨_,#[],#[qP c5 0,qP c6 0],H2,rfl,q1,q2,q3⟩
 | 1,_=>
  obtain⟨H2,q1,q2,q3⟩:=Ft (n:=n) (s:=BJ at_ (AG l at_) x s) (at_:=at_) hp h1 hkind (by omega) (by omega)
  exact⟨_,#[qP m 0],#[],H2,rfl,q1,q2,q3⟩
 | 2,_=>
  have hc:CN at_ { x with n:=n1 } (BJ at_ (AG l at_) x s)=0:=hz 1 (by omega)
  obtain⟨r1,⟨n2,r2⟩,r3⟩:=hx2 hc
  have hw:KM (BP at_ { x with n:=n1 } (BJ at_ (AG l at_) x s)):=by
   obtain⟨_,_,_,_,_,_,_,_,_,hw,_⟩:=id hp
   exact hw
  obtain⟨H2,q1,q2,q3⟩:=vQ (n:=n) (s:=BP at_ { x with n:=n1 } (BJ at_ (AG l at_) x s)) (at_:=at_) hp r1 (by rw[r2];exact hkind) (by omega) (fun a b=>r3 b a hw) (by omega)
  exact⟨_,#[qP m 0],#[],H2,rfl,q1,q2,q3⟩
end
theorem xQ {h:AA} {r:Nat} {rows:List AE} {lo hi:Nat} (hg:h.get r=.row (rows.flatMap AI) 46 true false) (hr:r<h.next) (hlh:lo≤hi) (hhi:hi≤rows.length) :
  ∃ v',H9 Tryd.prog h 22 (qS r rows.length AM) (some (iv lo)) (some (iv hi)) none=some v'∧AU h v' ((rows.drop lo).take (hi-lo)):=by
 have hl:((rows.drop lo).take (hi-lo)).length=hi-lo:=by rw[List.length_take,List.length_drop];omega
 refine⟨.slice (some ⟨r,lo*5,none⟩) (hi-lo) AM,?_,?_⟩
 ·simp only[H9,Tryd.underlying22,G_,F9,if_true]
  rw[if_pos (by omega)]
  simp only[Int.toNat_natCast]
  rw[if_pos (by omega)]
  simp only[Int.toNat_natCast]
  by_cases h0:lo=0
  ·subst h0
   rw[if_pos rfl]
   simp
  ·rw[if_neg h0,hg]
   simp only[G_,if_true,Nat.zero_add]
 ·refine⟨some ⟨r,lo*5,none⟩,AM,by rw[hl],.inr ⟨r,lo*5,_,_,_,_,rfl,hg,hr,fun k x hk=>?_⟩⟩
  have hk1:=(List.getElem?_eq_some_iff.1 hk).1
  rw[List.getElem?_take_of_lt (by omega),List.getElem?_drop] at hk
  rw[show lo*5+k*5=(lo+k)*5 by omega]
  exact PT hk
section
variable {n lo m k c e r L:Nat} {h:AA} {nm:ByteArray} {E:List Int} {F:List Nat} {s:AS}
theorem pY {pb eb sb row:Nat} {rows:List AE} {E rules sums:List Int} (hL:OC rows E rules) (hc:J3 h pb eb sb rows E sums) (hs:C1 sums) (hsl:sums.length=rules.length) (hfl:h.floor≤h.next) (hrow:row<rows.length) (hn:rows.length+8<n) :
  AX n 88 [iv row,qP pb 0,qP eb 0,qP sb 0] h=some (iv (FJ rows E sums row),h):=by
 obtain⟨n,rfl⟩:=D3 hn
 obtain⟨q,q1,q2,q3,q4⟩:=hL.end hrow
 have hc':FJ rows E sums row=GU sums ((rows.drop row).take (q-row)) 0:=by unfold FJ;rw[q1];rfl
 rw[hc']
 exact JN (CP ⟨rfl,rfl,rfl⟩) rfl (vB (FH n).2 hc hs hfl q1 q2 q3 (by have:=hL.len;omega) (by omega)
  (fun x hx h22=>by rw[hsl];exact hL.calls x (List.mem_of_mem_drop (List.mem_of_mem_take hx)) h22) fun a b h' hb ha=>F5 (jU h' hb ha))
theorem yU {rows:List AE} {E rules:List Int} (hL:OC rows E rules) {v0 vr v2 v3 v4 vu v6 v7:Value} {e ce:Nat} {ge:Bool} (hone:[v0,vr,v2,v3,v4,vu,v6,v7].all one=true) (hfl:h.floor≤h.next) (hn:rows.length+rules.length+12<n)
  (hsl:∀ (lo hi:Nat) h',(∀ i,i<h.next→h'.get i=h.get i)→h.next≤h'.next→lo≤hi→hi≤rows.length→∃ v',H9 Tryd.prog h' 22 vr (some (iv lo)) (some (iv hi)) none=some v'∧AU h' v' ((rows.drop lo).take (hi-lo)))
  {lu:Nat} (hu:AN lu h vu rules) (he:h.get e=.row (ints E) 3 ge false) (hel:e<h.next) :
  ∃ h',AX n 72 [.agg #[v0,vr,v2,v3,v4,vu,v6,v7],qS e E.length ce] h=some (.func (.func 88) #[] #[qP h.next 0,qP (h.next+1) 0,qP (h.next+3) 0],h') ∧
   (J3 h' h.next (h.next+1) (h.next+3) rows E (IW rows E rules)∧h.next≤h'.next∧h'.floor=h.floor∧∀ i,i<h.next→h'.get i=h.get i):=by
 obtain⟨n,rfl⟩:=D3 hn
 refine OV (CP ⟨rfl,rfl,rfl⟩) rfl (Ev (FH n).2 hL hone hfl (by omega) (by omega) hsl (fun h'=>hu.len) ?_ ?_ he hel ?_)
 ·obtain⟨_,a,c,h1,_⟩:=hu
  exact⟨a,c,h1⟩
 ·intro h' hold i ru hi
  obtain⟨id,p,h1,h2,h3⟩:=AN.get hu hi
  exact⟨id,p,h1,by rw[hold id h2];exact h3⟩
 ·intro pb eb sb row sums h' hc hsl' hs hfl' hrow
  exact pY hL hc hs hsl' hfl' hrow (by omega)
theorem Kx {tag:Nat→Nat} {vq vv vt vu vo:Value} {es:List (Value × Value)} {l:List AE} (hp:BY h lo m k c e r l.length nm (AR l) tag vq vv vt vu vo es s) (ht:B_ l) (hlen:l.length<2932031007403) (hi:GV l l.length s) (hfl:h.floor≤h.next) (hn:l.length+100<n) :
  AX n 54 [qP m 0,qS e l.length l.length] h=some (iv (IT s.rows (AR l) s.rules),h):=by
 obtain⟨n,rfl⟩:=D3 hn
 have hL:=nV ht (by omega) hi
 have hnu:=hi.wf.u
 have hrl:=hi.len
 have hpl:=hp.pol.len
 refine JN (CP ⟨rfl,rfl,rfl⟩) rfl (Oa (pb:=h.next) (eb:=h.next+1) (sb:=h.next+3) hp hL hfl (by omega) (TX ht hi) (bV ht hi) ?_ (fun k h' hk=>F5 (GK (s9 k h' hk))) (fun a b h' hb ha=>F5 (jU h' hb ha)) ?_)
 ·have hE:(AR l).length=l.length:=OA
  have hs:∀ (lo hi:Nat) (h':AA),(∀ i,i<h.next→h'.get i=h.get i)→h.next≤h'.next→lo≤hi→hi≤s.rows.length→∃ v',H9 Tryd.prog h' 22 (qS r l.length AM) (some (iv lo)) (some (iv hi)) none=some v'∧AU h' v' ((s.rows.drop lo).take (hi-lo)):=fun lo hi h' ho hx a b=>by
   have:=xQ (h:=h') (r:=r) (rows:=s.rows) (by rw[ho r hp.pol.lr.2];exact hp.pol.rows) (by have:=hp.pol.lr.2;omega) a b
   rw[hpl] at this
   exact this
  have:=yU (n:=n) (h:=h) (ce:=l.length) (v0:=.string nm) (v2:=vq) (v3:=vv) (v4:=vt) (v6:=vo) (v7:=iv s.miss) (vr:=qS r l.length AM) hL ?_ hfl (by omega) hs (AN.weak (hp.pol.u.cells (by rw[FZ,Nat.mul_one])) (Nat.zero_le _)) hp.ends hp.le.2
  ·rw[hE] at this
   exact this
  ·have q1:=(hp.pol.q.cells (w:=2) (OD _)).one
   have q2:=(hp.pol.v.cells (w:=1) (by rw[R7,Nat.mul_one])).one
   have q3:=(hp.pol.t.cells (w:=1) (by rw[R7,Nat.mul_one])).one
   have q4:=(hp.pol.u.cells (w:=1) (by rw[FZ,Nat.mul_one])).one
   have q5:=(hp.pol.o.cells (w:=1) (by rw[FZ,Nat.mul_one])).one
   simp only[List.all_cons,List.all_nil,q1,q2,q3,q4,q5,OL,JY,Bool.and_self]
   rfl
 ·intro row h' hc hfl' hrow
  exact pY hL hc (WR).1 (WR).2 hfl' hrow (by omega)
end
theorem FV.trans {h H H':AA} {lo:Nat} {F:List Nat} (a:FV h H lo F) (b:FV H H' lo F):FV h H' lo F:=⟨fun i hi=>(b.1 i hi).trans (a.1 i hi),Nat.le_trans a.2.1 b.2.1,b.2.2.trans a.2.2⟩
section
variable {n N:Nat}
theorem yA {l:List AE} {v:Value} {T:Tr} {H:AA} {K:B7} {a fl lo m k c e r c5 c6:Nat} {nm:ByteArray} {F:List Nat} (ht:B_ l) (hL:l.length<2932031007403) (hn:3<n) (hN:l.length+3<N)
  (t0:T.get 0=v) (t2:T.get 2=qP a 0) (t3:T.get 3=qP (a+1) 0) (t7:T.get 7=qS fl 3 3) (hv:AU H v l)
  (hp:EY H lo m k c e r l.length nm (AR l) F (BV l)) (hcl:XN H m e c5 c6 fl l.length (AR l)) (h5:c5∈F) (h6:c6∈F) (hfl:fl∈F) (ha:a+1<lo) (hlo:lo≤H.next) (hout:EP a H BT 0 0) (hfa:H.floor≤a)
  (hbad:(CD (AR l) l.length 0 (BV l)).1≠0→∀ T' H',T'.get 2=qP a 0→T'.get 3=qP (a+1) 0→EP a H' BT (CD (AR l) l.length 0 (BV l)).1 (CD (AR l) l.length 0 (BV l)).2.1→H.next≤H'.next→H'.floor=H.floor→(∀ i,i<a→H'.get i=H.get i)→K.ap Tryd.prog (AX n) N .ret ⟨T',H'⟩)
  (hgood:(CD (AR l) l.length 0 (BV l)).1=0→∀ T' H',(∀ t,t≤7→T'.get t=T.get t)→EY H' lo m k c e r l.length nm (AR l) F (CD (AR l) l.length 0 (BV l)).2.2→GV l l.length (CD (AR l) l.length 0 (BV l)).2.2→FV H H' lo F→WK Tryd.prog (AX n) N Y5 ⟨T',H'⟩ K) :
  WK Tryd.prog (AX n) N Y4 ⟨T,H⟩ K:=by
 show WK _ _ _ (.seq (.seq _ (.block 0 (.loop (.seq _ (.seq _ (.seq (.block 1 nS) _)))))) Y5) _ _
 have hlen:=fun h'=>hv.len (h':=h')
 simp only[eE,seval,↓eP,t0,hlen]
 refine WK.loop (fun i s'=>s'.T.get 43=iv l.length∧s'.T.get 44=iv i∧i≤l.length∧(∀ t,t≤7→s'.T.get t=T.get t)∧FV H s'.h lo F∧∃ s,EY s'.h lo m k c e r l.length nm (AR l) F s∧GV l i s∧CD (AR l) (l.length-i) i s=CD (AR l) l.length 0 (BV l)) l.length (by omega) ?_ ?_
 ·refine⟨by simp only[eE,↓reduceIte,Nat.reduceEqDiff,reduceCtorEq,↓eP,rP,Nat.reduceAdd,Nat.reduceLT],by simp only[eE,↓reduceIte,Nat.reduceEqDiff,reduceCtorEq,↓eP,rP,Nat.reduceAdd,Nat.reduceLT];rfl,by omega,fun t ht=>?_,⟨fun _ _=>rfl,Nat.le_refl _,rfl⟩,BV l,hp,QU l,rfl⟩
  simp only[Tr.get_put,Option.some.injEq]
  repeat rw[if_neg (by omega)]
 ·rintro i ⟨T1,H1⟩ hi ⟨t43,t44,hil,hkeep,haf,s,hp1,hin,hgo⟩
  simp only at t43 t44 hkeep haf hp1
  by_cases hlt:i<l.length
  ·have c1:decide ((i:Int)<(l.length:Int))=true:=by simp;omega
   obtain⟨x,hx⟩:∃ x,s.rows[i]?=some x:=⟨_,List.getElem?_eq_getElem (by rw[hin.len];exact hlt)⟩
   obtain⟨n1,h1⟩:=Z2 (end_:=AG l i) hx
   have hcl1:XN H1 m e c5 c6 fl l.length (AR l):=⟨(haf.1 c5 (.inr h5)).trans hcl.h5,(haf.1 c6 (.inr h6)).trans hcl.h6,(haf.1 fl (.inr hfl)).trans hcl.hf⟩
   obtain⟨x2,hx2,hlook⟩:=yQ (n:=n) (lo:=lo) (k:=k) (c:=c) (r:=r) (nm:=nm) (F:=F) ht hL hlt hin hx h1 hcl1 h5 h6 hfl hn
   obtain⟨sb,sg⟩:=Av (E:=AR l) hx (KY hlt) h1 hx2
   have hr:l.length-i=(l.length-(i+1))+1:=by omega
   rw[hr] at hgo
   have hout1:EP a H1 BT 0 0:=hout.mono (haf.1 a (.inl (by omega))) (haf.1 (a+1) (.inl ha))
   have hn1:=haf.2.1
   have hf1:=haf.2.2
   have w1:=C6 i (by omega)
   have hkp:∀ t,t≤44→(T1.put (some 45) (Value.bool true)).get t=T1.get t:=fun t ht=>by
    rw[Tr.get_put,if_neg (fun h=>by have h9:(45:Nat)=t:=Option.some.inj h;omega)]
   simp only[eE,seval,↓eP,t43,t44,c1]
   refine xY (a:=a) (fl:=fl) (er:=ON i (AG l i) x { x with n:=n1 } x2 s) (st:=U3 i (AG l i) x { x with n:=n1 } x2 s) (E:=AR l) (F:=F) ((hkp 2 (by omega)).trans ((hkeep 2 (by omega)).trans t2)) ((hkp 3 (by omega)).trans ((hkeep 3 (by omega)).trans t3)) ((hkp 7 (by omega)).trans ((hkeep 7 (by omega)).trans t7)) ((hkp 44 (by omega)).trans t44) (by omega) hp1 ha (by omega) hout1 (by omega) hcl1.hf hfl hlook ?_ ?_
   ·intro j hj he hz T' H' g2 g3 ho hnx hfx hox
    have hst:=sb j hj he hz
    have hg:CD (AR l) l.length 0 (BV l)=(ON i (AG l i) x { x with n:=n1 } x2 s j,i,s):=by
     rw[← hgo]
     unfold CD
     rw[hst,if_pos he]
    simp only[eE,seval,↓eP]
    refine hbad (by rw[hg];exact he) T' H' g2 g3 (by rw[hg];exact ho) (by omega) (by omega) fun q hq=>(hox q hq).trans (haf.1 q (.inl (by omega)))
   ·intro hz T' H' hk' hp' haf'
    have hst:=sg hz
    have e0:(DD (AR l) i s).1=0:=by rw[hst]
    have hin':=UW ht (VA i) hlt hin e0
    rw[hst] at hin'
    have hg:CD (AR l) (l.length-(i+1)) (i+1) (U3 i (AG l i) x { x with n:=n1 } x2 s 3)=CD (AR l) l.length 0 (BV l):=by
     rw[← hgo]
     conv=>rhs;unfold CD
     rw[if_neg (by rw[e0];simp),hst]
    have u43:=(hk' 43 (by omega)).trans ((hkp 43 (by omega)).trans t43)
    have u44:=(hk' 44 (by omega)).trans ((hkp 44 (by omega)).trans t44)
    simp only[eE,seval,↓eP,u43,u44,w1]
    refine⟨hlt,by omega,fun t ht=>?_,haf.trans haf',_,hp',hin',hg⟩
    repeat rw[if_neg (by omega)]
    exact(hk' t (by omega)).trans ((hkp t (by omega)).trans (hkeep t ht))
  ·have c1:decide ((i:Int)<(l.length:Int))=false:=by simp;omega
   have:i=l.length:=by omega
   subst this
   have hg:CD (AR l) l.length 0 (BV l)=(0,l.length,s):=by
    rw[← hgo,Nat.sub_self]
    rfl
   simp only[eE,seval,↓eP,t43,t44,c1]
   refine hgood (by rw[hg]) _ _ (fun t ht=>?_) (by rw[hg];exact hp1) (by rw[hg];exact hin) haf
   simp only[Tr.get_put,Option.some.injEq]
   repeat rw[if_neg (by omega)]
   exact hkeep t ht
theorem BY.polAt {h:AA} {lo m k c e r n:Nat} {nm:ByteArray} {E:List Int} {tag:Nat→Nat} {vq vv vt vu vo:Value} {es:List (Value × Value)} {s:AS} (hp:BY h lo m k c e r n nm E tag vq vv vt vu vo es s) :
  DJ lo h (.agg #[.string nm,qS r n AM,vq,vv,vt,vu,vo,iv s.miss]) nm s:=by
 refine⟨_,vq,vv,vt,vu,vo,rfl,IA.of ?_,hp.pol.q.cells (OD _),hp.pol.v.cells (by simp[DZ]),hp.pol.t.cells (by simp[DZ]),hp.pol.u.cells (by rw[FZ,Nat.mul_one]),hp.pol.o.cells (by rw[FZ,Nat.mul_one])⟩
 have hl:=hp.pol.len
 subst hl
 exact A7.row (ex:=[]) (by rw[List.append_nil];exact hp.pol.rows) hp.pol.lr (JL _)
theorem DJ.weak {lo lo':Nat} {h:AA} {pv:Value} {nm:ByteArray} {s:AS} (hp:DJ lo h pv nm s) (hl:lo'≤lo):DJ lo' h pv nm s:=by
 obtain⟨vr,vq,vv,vt,vu,vo,h1,h2,h3,h4,h5,h6,h7⟩:=hp
 exact⟨vr,vq,vv,vt,vu,vo,h1,IA.of (h2.2.weak hl),h3.weak hl,h4.weak hl,h5.weak hl,h6.weak hl,h7.weak hl⟩
def MZ (lo:Nat) (h:AA) (pv:Value) (nm:ByteArray) (s:AS):Prop:=
 ∃ tag r vq vv vt vu vo,pv=.agg #[.string nm,qS r s.rows.length AM,vq,vv,vt,vu,vo,iv s.miss]∧K6 h lo tag r s.rows.length vq vv vt vu vo s
theorem EK.weak {h:AA} {lo lo':Nat} {tag:Nat→Nat} {j:Nat} {v:Value} {n:Nat} {cs:List Value} {ty:TypeId} (hs:EK h lo tag j v n cs ty) (hl:lo'≤lo):EK h lo' tag j v n cs ty:=by
 rcases hs with h1 | ⟨id,ex,h1,h2,h3,h4,h5⟩
 ·exact .inl h1
 ·exact .inr ⟨id,ex,h1,h2,by omega,h4,h5⟩
theorem K6.weak {h:AA} {lo lo':Nat} {tag:Nat→Nat} {r n:Nat} {vq vv vt vu vo:Value} {s:AS} (hp:K6 h lo tag r n vq vv vt vu vo s) (hl:lo'≤lo):K6 h lo' tag r n vq vv vt vu vo s:=
 ⟨hp.rows,hp.len,hp.tr,⟨by have:=hp.lr.1;omega,hp.lr.2⟩,hp.q.weak hl,hp.v.weak hl,hp.t.weak hl,hp.u.weak hl,hp.o.weak hl⟩
theorem MZ.weak {lo lo':Nat} {h:AA} {pv:Value} {nm:ByteArray} {s:AS} (hp:MZ lo h pv nm s) (hl:lo'≤lo):MZ lo' h pv nm s:=by
 obtain⟨tag,r,vq,vv,vt,vu,vo,h1,h2⟩:=hp
 exact⟨tag,r,vq,vv,vt,vu,vo,h1,h2.weak hl⟩
theorem MZ.mono {lo:Nat} {h h':AA} {pv:Value} {nm:ByteArray} {s:AS} (hp:MZ lo h pv nm s) (hn:h.next≤h'.next) (hg:∀ i,lo≤i→i<h.next→h'.get i=h.get i):MZ lo h' pv nm s:=by
 obtain⟨tag,r,vq,vv,vt,vu,vo,h1,h2⟩:=hp
 exact⟨tag,r,vq,vv,vt,vu,vo,h1,h2.mono hn (fun _ _=>rfl) fun i a b _ _=>hg i a b⟩
theorem MZ.pol {lo:Nat} {h:AA} {pv:Value} {nm:ByteArray} {s:AS} (hp:MZ lo h pv nm s):DJ lo h pv nm s:=by
 obtain⟨tag,r,vq,vv,vt,vu,vo,h1,h2⟩:=hp
 exact⟨_,vq,vv,vt,vu,vo,h1,IA.of (A7.row (ex:=[]) (by rw[List.append_nil];exact h2.rows) h2.lr (JL _)),h2.q.cells (OD _),h2.v.cells (by simp[DZ]),h2.t.cells (by simp[DZ]),h2.u.cells (by rw[FZ,Nat.mul_one]),h2.o.cells (by rw[FZ,Nat.mul_one])⟩
theorem BY.own {h:AA} {lo m k c e r n:Nat} {nm:ByteArray} {E:List Int} {tag:Nat→Nat} {vq vv vt vu vo:Value} {es:List (Value × Value)} {s:AS} (hp:BY h lo m k c e r n nm E tag vq vv vt vu vo es s) :
  MZ lo h (.agg #[.string nm,qS r n AM,vq,vv,vt,vu,vo,iv s.miss]) nm s:=by
 have hl:=hp.pol.len
 subst hl
 exact⟨tag,r,vq,vv,vt,vu,vo,rfl,hp.pol⟩
theorem Kt {l:List AE} {T:Tr} {H:AA} {K:B7} {a lo m k c e r c5 c6:Nat} {nm:ByteArray} {F:List Nat} {s:AS} (ht:B_ l) (hL:l.length<2932031007403) (hn:l.length+100<n)
  (t2:T.get 2=qP a 0) (t3:T.get 3=qP (a+1) 0) (t5:T.get 5=qP c5 0) (t6:T.get 6=qP c6 0)
  (hp:EY H lo m k c e r l.length nm (AR l) F s) (hin:GV l l.length s) (h5:H.get c5=.row [qP m 0] 79 false false) (h6:H.get c6=.row [qS e l.length l.length] 28 false false) (ha:a+1<lo) (hlo:lo≤H.next) (hout:EP a H BT 0 0) (hfa:H.floor≤a)
  (hbad:IT s.rows (AR l) s.rules≥0→∀ T' H',T'.get 2=qP a 0→T'.get 3=qP (a+1) 0→EP a H' BT 34 (IT s.rows (AR l) s.rules)→H.next≤H'.next→H'.floor=H.floor→(∀ i,i<a→H'.get i=H.get i)→K.ap Tryd.prog (AX n) N .ret ⟨T',H'⟩)
  (hgood:¬ IT s.rows (AR l) s.rules≥0→∀ T' H' cs,T'.get 2=qP a 0→T'.get 3=qP (a+1) 0→cs.length=8→EP a H' cs 0 0→MZ lo H' (.agg cs.toArray) nm s→H.next≤H'.next→H'.floor=H.floor→(∀ i,i<a→H'.get i=H.get i)→K.ap Tryd.prog (AX n) N .ret ⟨T',H'⟩) :
  WK Tryd.prog (AX n) N Y5 ⟨T,H⟩ K:=by
 show WK _ _ _ (.seq (.seq _ (.seq _ _)) (.seq _ _)) _ _
 obtain⟨tag,vq,vv,vt,vu,vo,es,hp',_⟩:=id hp
 have hlg:=Kx (n:=n) hp' ht hL hin (by omega) hn
 have l5:AO 0 (H.get c5)=some (qP m 0):=by rw[h5];rfl
 have l6:AO 0 (H.get c6)=some (qS e l.length l.length):=by rw[h6];rfl
 cases d:decide (IT s.rows (AR l) s.rules≥0) with
 | true=>
  obtain⟨H',s1,s2,r1,r2,r3,r4⟩:=OG hout rfl (by omega) (by omega) (cs':=BT) rfl rfl (e':=34) (p':=IT s.rows (AR l) s.rules)
  simp only[eE,seval,↓eP,UF,CC,t2,t3,t5,t6,l5,l6,hlg,d,RB,NF,s1,s2]
  refine hbad (by simpa using d) _ _ ?_ ?_ r1 (by omega) r3 fun i hi=>r4 i (by omega) (by omega)
  ·simp only[eE,seval,↓eP,rP,t2]
  ·simp only[eE,seval,↓eP,rP,t3]
 | false=>
  have l8:BL 8 0 (H.get m)=some (.agg #[.string nm,qS r l.length AM,vq,vv,vt,vu,vo,iv s.miss]):=by rw[hp'.cell];rfl
  have hpol:=hp'.own
  have hall:([.string nm,qS r l.length AM,vq,vv,vt,vu,vo,iv s.miss]:List Value).all one=true:=by
   have q1:=(hp'.pol.q.cells (w:=2) (OD _)).one
   have q2:=(hp'.pol.v.cells (w:=1) (by simp[DZ])).one
   have q3:=(hp'.pol.t.cells (w:=1) (by simp[DZ])).one
   have q4:=(hp'.pol.u.cells (w:=1) (by rw[FZ,Nat.mul_one])).one
   have q5:=(hp'.pol.o.cells (w:=1) (by rw[FZ,Nat.mul_one])).one
   simp only[List.all_cons,List.all_nil,q1,q2,q3,q4,q5,OL,JY,Bool.and_self]
   rfl
  obtain⟨H',s1,s2,r1,r2,r3,r4⟩:=OG hout rfl (by omega) (by omega) (cs':=[.string nm,qS r l.length AM,vq,vv,vt,vu,vo,iv s.miss]) rfl hall (e':=0) (p':=0)
  simp only[eE,seval,↓eP,UF,CC,t2,t3,t5,t6,l5,l6,hlg,d,JD,GX,l8,SV,s1,s2]
  refine hgood (by simpa using d) _ _ _ ?_ ?_ rfl r1 (hpol.mono (by omega) fun i hi _=>r4 i (by omega) (by omega)) (by omega) r3 fun i hi=>r4 i (by omega) (by omega)
  ·simp only[eE,seval,↓eP,rP,t2]
  ·simp only[eE,seval,↓eP,rP,t3]
end
theorem NO {a:Nat} {H:AA} {cs:List Value} {ty:TypeId} {g ro:Bool} (h:H.get a=.row cs ty g ro) (hl:cs.length=8):BL 8 0 (H.get a)=some (.agg cs.toArray):=by
 rw[h]
 have:cs.take 8=cs:=List.take_of_length_le (by omega)
 simp only[BL,GQ,List.drop_zero,this,hl,if_true]
theorem eF {l:List AE} (h:(BR l).1=0):IQ AV l=none:=by
 unfold BR at h
 cases hs:IQ AV l with
 | none=>rfl
 | some p=>
  rw[hs] at h
  simp at h
def OZ (h:AA) (l:List AE) (v:Value) (h':AA):Prop:=
 ∃ pv,v=.tuple #[pv,EN (A8 l).1.1 (A8 l).1.2]∧DJ h.next h' pv (C9 l).1 (C9 l).2∧h'.floor=h.floor∧h.next≤h'.next∧∀ i,i<h.next→h'.get i=h.get i
theorem A7.flat {lo:Nat} {h:AA} {v:Value} {n w:Nat} {cs:List Value} (hc:A7 lo h v n w cs) (hf:B9 v=true) (lo':Nat) (h':AA):A7 lo' h' v n w cs:=by
 obtain⟨hl,a,c,rfl,⟨h0,rfl⟩ | ⟨id,off,row,ty,g,ro,rfl,g1,g2,g3⟩⟩:=hc
 ·exact⟨hl,_,_,rfl,.inl ⟨h0,rfl⟩⟩
 ·cases hf
theorem wL {h h1:AA} {l:List AE} {v:Value} (hf:FP v=true) (ht:OZ h l v h1):OZ h l v h:=by
 obtain⟨pv,rfl,⟨vr,vq,vv,vt,vu,vo,rfl,h2,h3,h4,h5,h6,h7⟩,_⟩:=ht
 have hf':flat (.agg #[.string (C9 l).1,vr,vq,vv,vt,vu,vo,iv (C9 l).2.miss])=true:=by
  simp only[FP,List.all_toArray,List.all_cons,Bool.and_eq_true] at hf
  exact hf.1
 simp only[flat,List.all_cons,Bool.and_eq_true] at hf'
 obtain⟨_,f1,f2,f3,f4,f5,f6,_⟩:=hf'
 exact⟨_,rfl,⟨vr,vq,vv,vt,vu,vo,rfl,IA.of (h2.2.flat f1 _ _),h3.flat f2 _ _,h4.flat f3 _ _,h5.flat f4 _ _,A7.flat h6 f5 _ _,A7.flat h7 f6 _ _⟩,rfl,Nat.le_refl _,fun _ _=>rfl⟩
def VE (lo:Nat) (h:AA) (pv:Value) (nm:ByteArray) (s:AS):Prop:=(pv=RG∧nm=ByteArray.empty∧s=sZ)∨MZ lo h pv nm s
theorem VE.pol {lo:Nat} {h:AA} {pv:Value} {nm:ByteArray} {s:AS} (hp:VE lo h pv nm s):DJ lo h pv nm s:=by
 rcases hp with⟨rfl,rfl,rfl⟩ | hp
 ·exact qQ lo h
 ·exact hp.pol
def PL (h:AA) (l:List AE) (v:Value) (h':AA):Prop:=
 ∃ pv,v=.tuple #[pv,EN (A8 l).1.1 (A8 l).1.2]∧VE h.next h' pv (C9 l).1 (C9 l).2∧h'.floor=h.floor∧h.next≤h'.next∧∀ i,i<h.next→h'.get i=h.get i
theorem PL.told {h h':AA} {l:List AE} {v:Value} (ht:PL h l v h'):OZ h l v h':=by
 obtain⟨pv,h1,h2,h3⟩:=ht
 exact⟨pv,h1,h2.pol,h3⟩
theorem Hn {h h1:AA} {l:List AE} {v:Value} (hf:FP v=true) (ht:PL h l v h1):PL h l v h:=by
 obtain⟨pv,rfl,h2,_⟩:=ht
 refine⟨pv,rfl,?_,rfl,Nat.le_refl _,fun _ _=>rfl⟩
 rcases h2 with h2 | ⟨tag,r,vq,vv,vt,vu,vo,rfl,_⟩
 ·exact .inl h2
 ·have hf':flat (.agg #[.string (C9 l).1,qS r (C9 l).2.rows.length AM,vq,vv,vt,vu,vo,iv (C9 l).2.miss])=true:=by
   simp only[FP,List.all_toArray,List.all_cons,Bool.and_eq_true] at hf
   exact hf.1
  simp only[flat,List.all_cons,Bool.and_eq_true] at hf'
  exact absurd hf'.2.1 (by simp[B9])
section
variable {n N:Nat}
theorem Pe {l:List AE} {v:Value} {h:AA} (hfl:h.floor≤h.next) (hg:h.get 0=ED) (hn0:0<h.next) (hv:AU h v l) (hL:l.length<2932031007403) (hn:2*l.length+100<n) (hN:l.length+3<N) :
  ∃ v' h',A9 Tryd.prog (AX n) N 16 [v] h=some (v',h')∧PL h l v' h':=by
 refine MO (R:=PL h l) Tryd.func16 rfl (by simp[Tryd.f16]) ?_
 have hr:Tryd.f16.results.toList=[.cell 2 30,.cell 3 33]:=rfl
 generalize hKK:B7.top (fun e s=>(e=DK.normal∨e=DK.ret)∧∃ vs,E8 Tryd.prog s Tryd.f16.results.toList=some vs∧PL h l (GR vs) s.h)=K
 have fin:∀ (T':Tr) (H':AA) cs e p nm s,T'.get 2=qP h.next 0→T'.get 3=qP (h.next+1) 0→cs.length=8→EP h.next H' cs e p→VE h.next H' (.agg cs.toArray) nm s→(A8 l).1=(e,p)→C9 l=(nm,s)→h.next≤H'.next→H'.floor=h.floor→(∀ i,i<h.next→H'.get i=h.get i)→K.ap Tryd.prog (AX n) N .ret ⟨T',H'⟩:=by
  intro T' H' cs e p nm s t2 t3 hl ho hp he hout hnx hf hold
  have l30:=NO ho.1 hl
  have l33:BL 2 0 (H'.get (h.next+1))=some (EN e p):=by rw[ho.2];rfl
  rw[← hKK]
  simp only[eE,seval,↓eP,hr,t2,t3,GX,K8,l30,l33]
  exact⟨_,by rw[he],by rw[hout];exact hp,hf,hnx,hold⟩
 have hz:∀ H',VE h.next H' RG ByteArray.empty sZ:=fun H'=>.inl ⟨rfl,rfl,rfl⟩
 refine Ho (FH n).2 hfl hv hg hn0 (fun H hv' hg' hn' hfl'=>Ib (by omega) (by omega) hv' hg' hn' hfl') ?_ ?_
 ·intro hc T' H t2 t3 ho hnx hf hold
  refine fin T' H _ _ _ ByteArray.empty sZ t2 t3 rfl ho (hz H) ?_ ?_ (by omega) hf hold
  ·unfold A8
   rw[if_pos hc]
  ·unfold C9
   have:(A8 l).1.1≠0:=by unfold A8;rw[if_pos hc];exact hc
   rw[if_pos this]
 ·intro hc T' H t0 t2 t3 ho hnx hf hold
  have ht:=XI (eF hc)
  have hvH:AU H v l:=hv.mono (by omega) hold
  have hcw:=fun H' (hv':AU H' v l)=>OV (n:=n-1) (CP (f:=48) (args:=[v]) (h:=H') ⟨rfl,rfl,rfl⟩) rfl (sE (call:=AX (n-1)) (N:=n-1) hv' ht.pos (by omega))
  rw[show n-1+1=n by omega] at hcw
  refine Jl (FH n).2 ht hL (by omega) hvH t0 hcw (fun H' hv' hf'=>Gk ht hv' (by omega) (by omega) hf') ?_
  intro T1 H1 m k c e r c5 c6 fl u0 u2 u3 u5 u6 u7 hp hcl hnx1 hf1 hold1
  have ho1:EP h.next H1 BT 0 0:=ho.mono (hold1 _ (by omega)) (hold1 _ (by omega))
  refine yA (a:=h.next) ht hL (by omega) hN u0 (u2.trans t2) (u3.trans t3) u7 (hvH.mono hnx1 hold1) hp hcl (by simp) (by simp) (by simp) (by omega) (by omega) ho1 (by omega) ?_ ?_
  ·intro hgo T2 H2 w2 w3 ho2 hnx2 hf2 hold2
   refine fin T2 H2 _ _ _ ByteArray.empty sZ w2 w3 rfl ho2 (hz H2) ?_ ?_ (by omega) (by omega) fun i hi=>by rw[hold2 i hi,hold1 i (by omega),hold i hi]
   ·unfold A8
    rw[if_neg (by rw[hc];simp)]
    simp only
    rw[if_pos hgo]
   ·unfold C9
    have:(A8 l).1.1≠0:=by
     unfold A8
     rw[if_neg (by rw[hc];simp)]
     simp only
     rw[if_pos hgo]
     exact hgo
    rw[if_pos this]
  ·intro hgo T2 H2 hk2 hp2 hin2 haf
   have g5:=(haf.1 c5 (.inr (by simp))).trans hcl.h5
   have g6:=(haf.1 c6 (.inr (by simp))).trans hcl.h6
   have ho2:EP h.next H2 BT 0 0:=ho1.mono (haf.1 _ (.inl (by omega))) (haf.1 _ (.inl (by omega)))
   have hf2:=haf.2.2
   have hn2:=haf.2.1
   refine Kt (a:=h.next) ht hL (by omega) ((hk2 2 (by omega)).trans (u2.trans t2)) ((hk2 3 (by omega)).trans (u3.trans t3)) ((hk2 5 (by omega)).trans u5) ((hk2 6 (by omega)).trans u6) hp2 hin2 g5 g6 (by omega) (by omega) ho2 (by omega) ?_ ?_
   ·intro hlg T3 H3 x2 x3 ho3 hnx3 hf3 hold3
    have hres:(A8 l).1=(34,IT (CD (AR l) l.length 0 (BV l)).2.2.rows (AR l) (CD (AR l) l.length 0 (BV l)).2.2.rules):=by
     unfold A8
     rw[if_neg (by rw[hc];simp)]
     simp only
     rw[if_neg (by rw[hgo];simp),if_pos hlg]
    refine fin T3 H3 _ _ _ ByteArray.empty sZ x2 x3 rfl ho3 (hz H3) hres ?_ (by omega) (by omega) fun i hi=>by rw[hold3 i hi,haf.1 i (.inl (by omega)),hold1 i (by omega),hold i hi]
    unfold C9
    rw[if_pos (by rw[hres];simp)]
   ·intro hlg T3 H3 cs x2 x3 hcs ho3 hpol hnx3 hf3 hold3
    have hres:A8 l=((0,0),(CD (AR l) l.length 0 (BV l)).2.2):=by
     unfold A8
     rw[if_neg (by rw[hc];simp)]
     simp only
     rw[if_neg (by rw[hgo];simp),if_neg hlg]
    refine fin T3 H3 cs _ _ (HQ l) (CD (AR l) l.length 0 (BV l)).2.2 x2 x3 hcs ho3 (.inr (hpol.weak (by omega))) (by rw[hres]) ?_ (by omega) (by omega) fun i hi=>by rw[hold3 i hi,haf.1 i (.inl (by omega)),hold1 i (by omega),hold i hi]
    unfold C9
    rw[hres]
    simp
theorem u_ {l:List AE} {v:Value} {h:AA} (hfl:h.floor≤h.next) (hg:h.get 0=ED) (hn0:0<h.next) (hv:AU h v l) (hL:l.length<2932031007403) (hn:2*l.length+110<n) :
  ∃ v' h',AX n 16 [v] h=some (v',h')∧PL h l v' h':=by
 obtain⟨n,rfl⟩:=D3 hn
 exact M5 (CP ⟨rfl,rfl,rfl⟩) (Pe (n:=n) (N:=n) hfl hg hn0 hv hL (by omega) (by omega)) fun v' h1 hf _ ht=>Hn hf ht
theorem Lm {l:List AE} {v:Value} {h:AA} (hfl:h.floor≤h.next) (hg:h.get 0=ED) (hn0:0<h.next) (hv:AU h v l) (hL:l.length<2932031007403) (hn:2*l.length+110<n) :
  ∃ v' h',AX n 16 [v] h=some (v',h')∧OZ h l v' h':=by
 obtain⟨v',h',h1,h2⟩:=u_ (n:=n) hfl hg hn0 hv hL hn
 exact⟨v',h',h1,h2.told⟩
end
def K5 (s:AS):Prop:=s.things.length=s.queues.length+s.vars.length+s.tags.length+s.rules.length
theorem Ic (l:List AE):K5 (BV l):=rfl
theorem Dj {at_:Nat} {end_:Int} {x:AE} {s:AS} (h:K5 s):K5 (BJ at_ end_ x s):=by
 unfold BJ
 split
 ·exact h
 ·rename_i hd
  have hk:=QY x.kind
  unfold K5 at h ⊢
  simp only[EX,List.length_append,List.length_cons,List.length_nil]
  obtain h1 | h1 | h1 | h1:BM x.kind=1∨BM x.kind=2∨BM x.kind=3∨BM x.kind=4:=by omega
  all_goals (rw[h1];simp;omega)
theorem Si {at_:Nat} {x:AE} {s:AS} (h:K5 s):K5 (BP at_ x s):=by
 unfold BP
 split
 ·exact h
 ·split <;> exact h
theorem Aj {at_:Nat} {x:AE} {s:AS} (h:K5 s):K5 (C2 at_ x s):=by
 unfold C2
 split
 ·exact h
 ·split <;> exact h
theorem Nc {E:List Int} {at_:Nat} {s:AS} (h:K5 s):K5 (DD E at_ s).2:=by
 unfold DD
 (repeat' split) <;> first | exact h | exact Aj (Si (Dj h))
theorem uV {s:AS} (h:K5 s) (hw:KM s):s.things.length<100000:=by
 have:=hw.q;have:=hw.v;have:=hw.t;have:=hw.u
 unfold K5 at h
 omega
theorem Pg {S Z:List Int} {k:Int} (h0:0≤k) (h1:k<S.length):FA (S++Z) k=FA S k:=by
 unfold FA
 rw[List.getElem?_append_left (by omega)]
theorem rK {S Z:List Int}:∀ (l:List AE) (a:Int),(∀ x∈l,x.kind=22→0≤x.n∧x.n<S.length)→GU (S++Z) l a=GU S l a
 | [],a,_=>rfl
 | x :: l,a,h=>by
  have ih:=fun b=>rK (S:=S) (Z:=Z) l b fun y hy=>h y (List.mem_cons_of_mem _ hy)
  unfold GU
  rw[ih]
  by_cases h22:x.kind=22
  ·rw[if_pos h22,if_pos h22,Pg (h x (.head _) h22).1 (h x (.head _) h22).2]
  ·rw[if_neg h22,if_neg h22]
theorem Ar {rows:List AE} {E rules:List Int} (hL:UX rows E rules):J9 rows E rules []=IW rows E rules:=by
 have key:∀ (r S:List Int),(∃ pre,rules=pre++r∧pre.length=S.length)→O4 rows E r S.length (S++List.replicate r.length 0)=J9 rows E r S:=by
  intro r
  induction r with
  | nil=>intro S _;simp[O4,J9]
  | cons ru r ih=>
   rintro S ⟨pre,hp,hl⟩
   have hru:rules[S.length]?=some ru:=by rw[hp,← hl,List.getElem?_append_right (Nat.le_refl _),Nat.sub_self];rfl
   have hrl:=hL.lay.rl ru (List.mem_of_getElem? hru)
   have hc:FJ rows E (S++List.replicate (ru :: r).length 0) ru.toNat=FJ rows E S ru.toNat:=by
    unfold FJ
    refine rK _ _ fun x hx h22=>?_
    have h1:=hL.ahead _ _ hru x hx h22
    have h2:=hL.lay.calls x (List.mem_of_mem_drop (List.mem_of_mem_take hx)) h22
    exact⟨h2.1,h1⟩
   unfold O4 J9
   rw[hc]
   have:(S++List.replicate (ru :: r).length 0).set S.length (FJ rows E S ru.toNat)=(S++[FJ rows E S ru.toNat])++List.replicate r.length 0:=by
    rw[List.set_append_right _ _ (Nat.le_refl _),Nat.sub_self,List.length_cons,List.replicate_succ,List.set_cons_zero,List.append_assoc]
    rfl
   rw[this]
   have:=ih (S++[FJ rows E S ru.toNat]) ⟨pre++[ru],by rw[hp];simp,by simp[hl]⟩
   rw[List.length_append,List.length_cons,List.length_nil] at this
   exact this
 have:=key rules [] ⟨[],rfl,rfl⟩
 exact this.symm
theorem Fsx.trans {h H H':AA} {lo:Nat} (a:Fsx h H lo) (b:Fsx H H' lo):Fsx h H' lo:=⟨fun i hi=>(b.1 i hi).trans (a.1 i hi),Nat.le_trans a.2.1 b.2.1,b.2.2.trans a.2.2⟩
theorem Fsx.refl (h:AA) (lo:Nat):Fsx h h lo:=⟨fun _ _=>rfl,Nat.le_refl _,rfl⟩
noncomputable def aT:Code:=inB (YS Tryd.f17 1)
noncomputable def t_:Code:=rt (rt (rt (rt aT)))
section
variable {n N:Nat}
theorem TR {T:Tr} {H:AA} {K:B7} {a lo m e r L at_:Nat} {nm:ByteArray} {E:List Int} {s:AS} {x:AE} {e1 κ:Int} (hκ:1≤κ∧κ≤54) (hn:100020<n) (hat:at_<2932031007403)
  (t2:T.get 2=qP a 0) (t3:T.get 3=qP (a+1) 0) (t5:T.get 5=qP m 0) (t6:T.get 6=iv at_) (t7:T.get 7=iv e1) (t8:T.get 8=iv κ)
  (hp:e1=0→FR H lo m e r L nm E s∧s.rows[at_]?=some x∧x.kind=κ∧(C3 x.kind=true→x.kind≠10→0≤x.n∧x.n<s.on.length)) (ha:a+1<lo) (hlo:lo≤H.next) (hout:EP a H BT 0 0) (hfa:H.floor≤a)
  (hbad:∀ e',e'≠0→((e1≠0∧e'=e1)∨(e1=0∧e'=CX x s))→∀ T' H',T'.get 2=qP a 0→T'.get 3=qP (a+1) 0→EP a H' BT e' at_→H.next≤H'.next→H'.floor=H.floor→(∀ i,i<a→H'.get i=H.get i)→K.ap Tryd.prog (AX n) N .ret ⟨T',H'⟩)
  (hgood:e1=0→CX x s=0→∀ T' H',(∀ t:Nat,t≤6→T'.get t=T.get t)→FR H' lo m e r L nm E (C2 at_ x s)→Fsx H H' lo→K.ap Tryd.prog (AX n) N .normal ⟨T',H'⟩) :
  WK Tryd.prog (AX n) N t_ ⟨T,H⟩ K:=by
 show WK _ _ _ (.seq (.seq _ _) (.seq _ _)) _ _
 cases d:(e1 != 0) with
 | true=>
  have d1:(e1==0)=false:=by simpa using d
  have e0:e1≠0:=by simpa using d
  obtain⟨H',s1,s2,r1,r2,r3,r4⟩:=OG hout rfl (by omega) (by omega) (cs':=BT) rfl rfl (e':=e1) (p':=at_)
  simp only[eE,seval,↓eP,t2,t3,t6,t7,d,d1,RB,NF,s1,s2]
  refine hbad e1 e0 (.inl ⟨e0,rfl⟩) _ _ ?_ ?_ r1 (by omega) r3 fun i hi=>r4 i (by omega) (by omega)
  ·simp only[eE,seval,↓eP,rP,t2]
  ·simp only[eE,seval,↓eP,rP,t3]
 | false=>
  have e0:e1=0:=by simpa using d
  subst e0
  obtain⟨hp1,hx,hk,hxn⟩:=hp rfl
  have hV:=F5 (n:=n) (GK (k:=12) (XZ κ H hκ))
  have z0:((0:Int)==0)=true:=rfl
  cases dv:C3 κ with
  | false=>
   rw[dv] at hV
   rw[← hk] at dv
   have h1:CX x s=0:=by unfold CX;rw[if_pos dv]
   have h2:C2 at_ x s=s:=by unfold C2;rw[if_pos dv]
   simp only[eE,seval,↓eP,t7,t8,d,hV]
   refine hgood rfl h1 _ _ (fun t ht=>?_) (by rw[h2];exact hp1) (Fsx.refl _ _)
   simp only[Tr.get_put,Option.some.injEq]
   repeat rw[if_neg (by omega)]
  | true=>
   rw[dv] at hV
   rw[← hk] at dv
   obtain⟨H2,q1,q2,q3⟩:=wM (n:=n) (at_:=at_) hp1 hx dv (by omega) (hxn dv) (by omega)
   have n2:=q2.2.1
   have f2:=q2.2.2
   have hout2:EP a H2 BT 0 0:=hout.mono (q2.1 a (by omega)) (q2.1 (a+1) ha)
   cases d2:(CX x s != 0) with
   | true=>
    have e2:CX x s≠0:=by simpa using d2
    obtain⟨H',s1,s2,r1,r2,r3,r4⟩:=OG hout2 rfl (by omega) (by omega) (cs':=BT) rfl rfl (e':=CX x s) (p':=at_)
    simp only[eE,seval,↓eP,t2,t3,t5,t6,t7,t8,hV,q1,d2,RB,NF,s1,s2]
    refine hbad _ e2 (.inr ⟨rfl,rfl⟩) _ _ ?_ ?_ r1 (by omega) (by omega) fun i hi=>by rw[r4 i (by omega) (by omega),q2.1 i (by omega)]
    ·simp only[eE,seval,↓eP,rP,t2]
    ·simp only[eE,seval,↓eP,rP,t3]
   | false=>
    have e2:CX x s=0:=by simpa using d2
    simp only[eE,seval,↓eP,t5,t6,t7,t8,hV,q1,d2]
    refine hgood rfl e2 _ _ (fun t ht=>?_) (q3 e2) q2
    simp only[Tr.get_put,Option.some.injEq]
    repeat rw[if_neg (by omega)]
theorem Mj {l:List AE} {v:Value} {T:Tr} {H:AA} {K:B7} {a lo m e r at_:Nat} {nm:ByteArray} {s:AS} {x:AE} (ht:B_ l) (hL:l.length<2932031007403) (hn:100020<n) (hat:at_<l.length)
  (t0:T.get 0=v) (t2:T.get 2=qP a 0) (t3:T.get 3=qP (a+1) 0) (t5:T.get 5=qP m 0) (t6:T.get 6=iv at_) (hv:AU H v l)
  (hp:FR H lo m e r l.length nm (AR l) s) (hi:GV l at_ s) (hT:K5 s) (hx:s.rows[at_]?=some x) (ha:a+1<lo) (hlo:lo≤H.next) (hout:EP a H BT 0 0) (hfa:H.floor≤a)
  (hbad:(DD (AR l) at_ s).1≠0→∀ T' H',T'.get 2=qP a 0→T'.get 3=qP (a+1) 0→EP a H' BT (DD (AR l) at_ s).1 at_→H.next≤H'.next→H'.floor=H.floor→(∀ i,i<a→H'.get i=H.get i)→K.ap Tryd.prog (AX n) N .ret ⟨T',H'⟩)
  (hgood:(DD (AR l) at_ s).1=0→∀ T' H',(∀ t:Nat,t≤6→T'.get t=T.get t)→FR H' lo m e r l.length nm (AR l) (DD (AR l) at_ s).2→Fsx H H' lo→K.ap Tryd.prog (AX n) N .normal ⟨T',H'⟩) :
  WK Tryd.prog (AX n) N aT ⟨T,H⟩ K:=by
 have hkind:=TX ht hi x (List.mem_of_getElem? hx)
 have hxl:l[at_]?=some x:=by rw[← hi.later at_ (Nat.le_refl _)];exact hx
 have hth:=uV hT hi.wf
 have hEat:(AR l)[at_]?=some (AG l at_:Int):=KY hat
 have hEd:((AR l)[at_]?).getD 0=(AG l at_:Int):=by rw[hEat];rfl
 have hD:=fun H=>F5 (n:=n) (GK (k:=12) (Ge x.kind H hkind))
 have hC:=fun H=>F5 (n:=n) (GK (k:=12) (z8 x.kind H hkind))
 have hV:=fun H=>F5 (n:=n) (GK (k:=12) (XZ x.kind H hkind))
 have z0:((0:Int) != 0)=false:=rfl
 have hnx:=hi.wf
 obtain⟨rid,p,e0,hid,l0,l1,l2,l3,l4,lr⟩:=hv.row hxl
 show WK _ _ _ (.seq _ (.seq _ (.seq (.seq _ _) (.seq (.seq _ _) t_)))) _ _
 by_cases hd:BM x.kind=0
 ·rw [hd] at hD
  rw[QH hx hd] at hbad hgood
  have hxn:∀ x2 s2,CN at_ x s=0→(BP at_ x s).rows[at_]?=some x2→s2=BP at_ x s→KM s2→x2.kind=x.kind→C3 x2.kind=true→x2.kind≠10→0≤x2.n∧x2.n<s2.on.length:=by
   intro x2 s2 hc hx2 hs2 hw hk2 hev h10
   obtain⟨n2,a1,a2,a3,a4,a5,a6⟩:=QD hx hc
   rw[a1] at hx2
   cases hx2
   have hdd:=aG (k:=x.kind) hev h10
   rcases a6 with⟨b1,_⟩ | ⟨t,b1,b2,b3,_⟩
   ·rw[hdd.1] at b1
    cases b1
   ·rw[hdd.1] at b2
    rw[← a5,← hs2] at b1
    obtain⟨_,_,q1,q2,_⟩:=hw.th t b1
    rw[b2] at q2
    have q3:t.num<(s2.queues.length:Int):=q2
    rw[← hw.o] at q3
    simp only
    rw[b3]
    exact⟨q1,q3⟩
  by_cases hc:DL x.kind=0
  ·rw[hc] at hC
   have h1:CN at_ x s=0:=by unfold CN;rw[if_pos hc]
   have h2:BP at_ x s=s:=by unfold BP;rw[if_pos hc]
   rw[h1,h2] at hbad hgood
   rw[if_neg (by simp),hx] at hbad hgood
   simp only at hbad hgood
   simp only[eE,seval,↓eP,t0,t6,e0,DI,A_,l0,hD,hC,z0]
   refine TR (e1:=0) (κ:=x.kind) (x:=x) (s:=s) (E:=AR l) (lo:=lo) (m:=m) hkind hn (by omega) (by simp only[eE,seval,↓eP,rP,t2]) (by simp only[eE,seval,↓eP,rP,t3]) (by simp only[eE,seval,↓eP,rP,t5]) (by simp only[eE,seval,↓eP,rP,t6]) (by simp only[eE,seval,↓eP,rP]) (by simp only[eE,seval,↓eP,rP]) (fun _=>⟨hp,hx,rfl,fun hev h10=>hxn x s h1 (by rw[h2];exact hx) h2.symm hi.wf rfl hev h10⟩) ha hlo hout hfa ?_ ?_
   ·rintro e' he' (⟨h,_⟩ | ⟨_,rfl⟩)
    ·exact absurd rfl h
    ·rw[if_pos he'] at hbad
     exact hbad he'
   ·intro _ hev T' H' hk' hp' ha'
    rw[if_neg (by rw[hev];simp)] at hgood
    refine hgood rfl T' H' (fun t ht=>?_) hp' ha'
    rw[hk' t ht]
    simp only[Tr.get_put,Option.some.injEq]
    repeat rw[if_neg (by omega)]
  ·have d2:(DL x.kind != 0)=true:=by simpa using hc
   obtain⟨H2,q1,q2,q3⟩:=Hs (n:=n) (at_:=at_) hp hx hc (by omega) hth (by omega)
   have n2:=q2.2.1
   have f2:=q2.2.2
   have hout2:=hout.mono (q2.1 a (by omega)) (q2.1 (a+1) ha)
   simp only[eE,seval,↓eP,t0,t5,t6,e0,DI,A_,l0,hD,hC,z0,d2,q1]
   by_cases h1:CN at_ x s=0
   ·obtain⟨n1,a1,_⟩:=QD hx h1
    have hp2:=q3 h1
    have hw2:KM (BP at_ x s):=by
     obtain⟨_,_,_,hw⟩:=id hp2
     exact hw
    rw[if_neg (by rw[h1];simp),a1] at hbad hgood
    simp only at hbad hgood
    rw[h1]
    refine TR (e1:=0) (κ:=x.kind) (x:={ x with n:=n1 }) (s:=BP at_ x s) (E:=AR l) (lo:=lo) (m:=m) hkind hn (by omega) (by simp only[eE,seval,↓eP,rP,t2]) (by simp only[eE,seval,↓eP,rP,t3]) (by simp only[eE,seval,↓eP,rP,t5]) (by simp only[eE,seval,↓eP,rP,t6]) (by simp only[eE,seval,↓eP,rP]) (by simp only[eE,seval,↓eP,rP]) (fun _=>⟨hp2,a1,rfl,fun hev h10=>hxn _ _ h1 a1 rfl hw2 rfl hev h10⟩) ha (by omega) hout2 (by omega) ?_ ?_
    ·rintro e' he' (⟨h,_⟩ | ⟨_,rfl⟩)
     ·exact absurd rfl h
     ·rw[if_pos he'] at hbad
      exact fun T' H' w2 w3 ho hnx hfx hox=>hbad he' T' H' w2 w3 ho (by omega) (by omega) fun i hi=>by rw[hox i hi,q2.1 i (by omega)]
    ·intro _ hev T' H' hk' hp' ha'
     rw[if_neg (by rw[hev];simp)] at hgood
     refine hgood rfl T' H' (fun t ht=>?_) hp' (q2.trans ha')
     rw[hk' t ht]
     simp only[Tr.get_put,Option.some.injEq]
     repeat rw[if_neg (by omega)]
   ·rw[if_pos h1] at hbad
    refine TR (e1:=CN at_ x s) (κ:=x.kind) (x:=x) (s:=s) (E:=AR l) (lo:=lo) (m:=m) (e:=e) (r:=r) (nm:=nm) (L:=l.length) (at_:=at_) hkind hn (by omega) (by simp only[eE,seval,↓eP,rP,t2]) (by simp only[eE,seval,↓eP,rP,t3]) (by simp only[eE,seval,↓eP,rP,t5]) (by simp only[eE,seval,↓eP,rP,t6]) (by simp only[eE,seval,↓eP,rP]) (by simp only[eE,seval,↓eP,rP]) (fun h=>absurd h h1) ha (by omega) hout2 (by omega) ?_ (fun h=>absurd h h1)
    rintro e' he' (⟨_,rfl⟩ | ⟨h,_⟩)
    ·exact fun T' H' w2 w3 ho hnx hfx hox=>hbad he' T' H' w2 w3 ho (by omega) (by omega) fun i hi=>by rw[hox i hi,q2.1 i (by omega)]
    ·exact absurd h h1
 ·have d1:(BM x.kind != 0)=true:=by simpa using hd
  obtain⟨hc0,hv0⟩:=oN hd
  rw[hc0] at hC
  rw[S_ hx hd,hEd] at hbad hgood
  obtain⟨H2,q1,q2,q3⟩:=zY (n:=n) (at_:=at_) hp hx hd (by omega) hEat (by omega) hth (by omega)
  have n2:=q2.2.1
  have f2:=q2.2.2
  have hout2:=hout.mono (q2.1 a (by omega)) (q2.1 (a+1) ha)
  simp only[eE,seval,↓eP,t0,t5,t6,e0,DI,A_,l0,hD,hC,z0,d1,q1]
  by_cases h1:DN x s=0
  ·obtain⟨n1,a1⟩:=Z2 (end_:=(AG l at_:Int)) hx
   have hp2:=q3 h1
   have hev:C3 ({ x with n:=n1 }:AE).kind=false:=hv0
   have g1:CX { x with n:=n1 } (BJ at_ (AG l at_) x s)=0:=by unfold CX;rw[if_pos hev]
   have g2:C2 at_ { x with n:=n1 } (BJ at_ (AG l at_) x s)=BJ at_ (AG l at_) x s:=by unfold C2;rw[if_pos hev]
   rw[if_neg (by rw[h1];simp)] at hbad hgood
   rw[h1]
   refine TR (e1:=0) (κ:=x.kind) (x:={ x with n:=n1 }) (s:=BJ at_ (AG l at_) x s) (E:=AR l) (lo:=lo) (m:=m) hkind hn (by omega) (by simp only[eE,seval,↓eP,rP,t2]) (by simp only[eE,seval,↓eP,rP,t3]) (by simp only[eE,seval,↓eP,rP,t5]) (by simp only[eE,seval,↓eP,rP,t6]) (by simp only[eE,seval,↓eP,rP]) (by simp only[eE,seval,↓eP,rP]) (fun _=>⟨hp2,a1,rfl,fun h=>by rw[hev] at h;cases h⟩) ha (by omega) hout2 (by omega) ?_ ?_
   ·rintro e' he' (⟨h,_⟩ | ⟨_,rfl⟩)
    ·exact absurd rfl h
    ·exact absurd g1 he'
   ·intro _ _ T' H' hk' hp' ha'
    rw[g2] at hp'
    refine hgood rfl T' H' (fun t ht=>?_) hp' (q2.trans ha')
    rw[hk' t ht]
    simp only[Tr.get_put,Option.some.injEq]
    repeat rw[if_neg (by omega)]
  ·rw[if_pos h1] at hbad
   refine TR (e1:=DN x s) (κ:=x.kind) (x:=x) (s:=s) (E:=AR l) (lo:=lo) (m:=m) (e:=e) (r:=r) (nm:=nm) (L:=l.length) (at_:=at_) hkind hn (by omega) (by simp only[eE,seval,↓eP,rP,t2]) (by simp only[eE,seval,↓eP,rP,t3]) (by simp only[eE,seval,↓eP,rP,t5]) (by simp only[eE,seval,↓eP,rP,t6]) (by simp only[eE,seval,↓eP,rP]) (by simp only[eE,seval,↓eP,rP]) (fun h=>absurd h h1) ha (by omega) hout2 (by omega) ?_ (fun h=>absurd h h1)
   rintro e' he' (⟨_,rfl⟩ | ⟨h,_⟩)
   ·exact fun T' H' w2 w3 ho hnx hfx hox=>hbad he' T' H' w2 w3 ho (by omega) (by omega) fun i hi=>by rw[hox i hi,q2.1 i (by omega)]
   ·exact absurd h h1
end
def eH:List (Bool × Bool × List Operand):=[AW,AW,AW,AW,AJ [.tmp 83],AJ [.tmp 83],AJ [.tmp 83],AJ [.tmp 83],AL,AL]
def bH:List (Bool × Bool × List Operand):=[FT,AW,AW,AW,AW,AJ [.tmp 105],AJ [.tmp 105],AJ [.tmp 105],AJ [.tmp 105],AJ [.tmp 105,.tmp 109],AJ [.tmp 105,.tmp 109],AJ [.tmp 105,.tmp 109],AL,AL,AL]
theorem J4 {T:Tr} {d t:Nat} {v:Value} (h:t<d):(T.put (some d) v).get t=T.get t:=by
 rw[Tr.get_put,if_neg (fun h9=>by have h8:d=t:=Option.some.inj h9;omega)]
section
variable {n N:Nat}
theorem Og {l:List AE} {v:Value} {T:Tr} {H:AA} {K:B7} {a lo m e r:Nat} {nm:ByteArray} (ht:B_ l) (hL:l.length<2932031007403) (hn:100020<n) (hN:l.length+3<N)
  (t0:T.get 0=v) (t2:T.get 2=qP a 0) (t3:T.get 3=qP (a+1) 0) (t5:T.get 5=qP m 0) (hv:AU H v l) (hvl:∀ H',(∀ i,i<lo→H'.get i=H.get i)→H.next≤H'.next→AU H' v l)
  (hp:FR H lo m e r l.length nm (AR l) (BV l)) (ha:a+1<lo) (hlo:lo≤H.next) (hout:EP a H BT 0 0) (hfa:H.floor≤a)
  (hbad:(CD (AR l) l.length 0 (BV l)).1≠0→∀ T' H',T'.get 2=qP a 0→T'.get 3=qP (a+1) 0→EP a H' BT (CD (AR l) l.length 0 (BV l)).1 (CD (AR l) l.length 0 (BV l)).2.1→H.next≤H'.next→H'.floor=H.floor→(∀ i,i<a→H'.get i=H.get i)→K.ap Tryd.prog (AX n) N .ret ⟨T',H'⟩)
  (hgood:(CD (AR l) l.length 0 (BV l)).1=0→∀ T' H',(∀ t,t≤5→T'.get t=T.get t)→FR H' lo m e r l.length nm (AR l) (CD (AR l) l.length 0 (BV l)).2.2→GV l l.length (CD (AR l) l.length 0 (BV l)).2.2→Fsx H H' lo→WK Tryd.prog (AX n) N WI ⟨T',H'⟩ K) :
  WK Tryd.prog (AX n) N XR ⟨T,H⟩ K:=by
 show WK _ _ _ (.seq (.seq _ (.block 0 (.loop (.seq _ (.seq (.block 1 aT) _))))) WI) _ _
 simp only[eE,seval,↓eP]
 refine WK.loop (fun i s'=>s'.T.get 6=iv i∧i≤l.length∧(∀ t,t≤5→s'.T.get t=T.get t)∧Fsx H s'.h lo∧∃ s,FR s'.h lo m e r l.length nm (AR l) s∧GV l i s∧K5 s∧CD (AR l) (l.length-i) i s=CD (AR l) l.length 0 (BV l)) l.length (by omega) ?_ ?_
 ·refine⟨by simp only[eE,↓reduceIte,Nat.reduceEqDiff,reduceCtorEq,↓eP,rP,Nat.reduceAdd,Nat.reduceLT];rfl,by omega,fun t ht=>?_,Fsx.refl _ _,BV l,hp,QU l,Ic l,rfl⟩
  simp only[Tr.get_put,Option.some.injEq]
  repeat rw[if_neg (by omega)]
 ·rintro i ⟨T1,H1⟩ hi ⟨t6,hil,hkeep,haf,s,hp1,hin,hT,hgo⟩
  simp only at t6 hkeep haf hp1
  have u0:=(hkeep 0 (by omega)).trans t0
  have hv1:=hvl H1 haf.1 haf.2.1
  have hlen:=fun h'=>hv1.len (h':=h')
  by_cases hlt:i<l.length
  ·have c1:decide ((i:Int)<(l.length:Int))=true:=by simp;omega
   obtain⟨x,hx⟩:∃ x,s.rows[i]?=some x:=⟨_,List.getElem?_eq_getElem (by rw[hin.len];exact hlt)⟩
   have hr:l.length-i=(l.length-(i+1))+1:=by omega
   rw[hr] at hgo
   have hout1:EP a H1 BT 0 0:=hout.mono (haf.1 a (by omega)) (haf.1 (a+1) ha)
   have hn1:=haf.2.1
   have hf1:=haf.2.2
   have w1:=C6 i (by omega)
   have hkp:∀ t:Nat,t≤6→((((T1.put (some 39) (iv i)).put (some 40) v).put (some 41) (iv l.length)).put (some 42) (Value.bool true)).get t=T1.get t:=fun t ht=>by
    rw[J4 (by omega),J4 (by omega),J4 (by omega),J4 (by omega)]
   simp only[eE,seval,↓eP,u0,t6,hlen,c1]
   refine Mj (a:=a) (at_:=i) (s:=s) (x:=x) ht hL hn hlt ((hkp 0 (by omega)).trans u0) ((hkp 2 (by omega)).trans ((hkeep 2 (by omega)).trans t2)) ((hkp 3 (by omega)).trans ((hkeep 3 (by omega)).trans t3)) ((hkp 5 (by omega)).trans ((hkeep 5 (by omega)).trans t5)) ((hkp 6 (by omega)).trans t6) hv1 hp1 hin hT hx ha (by omega) hout1 (by omega) ?_ ?_
   ·intro he T' H' g2 g3 ho hnx hfx hox
    have hg:CD (AR l) l.length 0 (BV l)=((DD (AR l) i s).1,i,s):=by
     rw[← hgo]
     unfold CD
     rw[if_pos he]
    simp only[eE,seval,↓eP]
    refine hbad (by rw[hg];exact he) T' H' g2 g3 (by rw[hg];exact ho) (by omega) (by omega) fun q hq=>(hox q hq).trans (haf.1 q (by omega))
   ·intro he T' H' hk' hp' haf'
    have hin':=UW ht (VA i) hlt hin he
    have hg:CD (AR l) (l.length-(i+1)) (i+1) (DD (AR l) i s).2=CD (AR l) l.length 0 (BV l):=by
     rw[← hgo]
     conv=>rhs;unfold CD
     rw[if_neg (by rw[he];simp)]
    have u6:=(hk' 6 (by omega)).trans ((hkp 6 (by omega)).trans t6)
    simp only[eE,seval,↓eP,u6,w1]
    refine⟨hlt,by omega,fun t ht=>?_,haf.trans haf',_,hp',hin',Nc hT,hg⟩
    repeat rw[if_neg (by omega)]
    exact(hk' t (by omega)).trans ((hkp t (by omega)).trans (hkeep t ht))
  ·have c1:decide ((i:Int)<(l.length:Int))=false:=by simp;omega
   have:i=l.length:=by omega
   subst this
   have hg:CD (AR l) l.length 0 (BV l)=(0,l.length,s):=by
    rw[← hgo,Nat.sub_self]
    rfl
   simp only[eE,seval,↓eP,u0,t6,hlen,c1]
   refine hgood (by rw[hg]) _ _ (fun t ht=>?_) (by rw[hg];exact hp1) (by rw[hg];exact hin) haf
   simp only[Tr.get_put,Option.some.injEq]
   repeat rw[if_neg (by omega)]
   exact hkeep t ht
theorem CG.polAt {h:AA} {lo m e r n:Nat} {nm:ByteArray} {E:List Int} {tag:Nat→Nat} {V:Nat→Value} {C:List Int} {s:AS} (hp:CG h lo m e r n nm E tag V C s) :
  DJ lo h (.agg #[.string nm,qS r n AM,V 2,V 3,V 4,V 5,V 6,iv s.miss]) nm s:=by
 have hs:=fun j h2 h8=>hp.sl j h2 h8
 refine⟨_,V 2,V 3,V 4,V 5,V 6,rfl,IA.of ?_,(hs 2 (by omega) (by omega)).cells (OD _),(hs 3 (by omega) (by omega)).cells (by simp[FC,ER,DZ]),(hs 4 (by omega) (by omega)).cells (by simp[FC,ER,DZ]),(hs 5 (by omega) (by omega)).cells (by simp[FC,ER,FZ]),(hs 6 (by omega) (by omega)).cells (by simp[FC,ER,FZ])⟩
 have hl:=hp.len
 subst hl
 exact A7.row (ex:=[]) (by rw[List.append_nil];exact hp.rows) hp.lr (JL _)
theorem Rx (hsn:CK (AX n)) {l:List AE} {v:Value} {T:Tr} {H:AA} {K:B7} {a lo m e r:Nat} {nm:ByteArray} {s:AS} (ht:B_ l) (hL:l.length<2932031007403) (hn:l.length+200<n) (hN:l.length+3<N)
  (t0:T.get 0=v) (t2:T.get 2=qP a 0) (t3:T.get 3=qP (a+1) 0) (t5:T.get 5=qP m 0) (hv:AU H v l)
  (hp:FR H lo m e r l.length nm (AR l) s) (hin:GV l l.length s) (hLR:UX s.rows (AR l) s.rules) (ha:a+1<lo) (hlo:lo≤H.next) (hout:EP a H BT 0 0) (hfa:H.floor≤a)
  (hbad:IT s.rows (AR l) s.rules≥0→∀ T' H',T'.get 2=qP a 0→T'.get 3=qP (a+1) 0→EP a H' BT 34 (IT s.rows (AR l) s.rules)→H.next≤H'.next→H'.floor=H.floor→(∀ i,i<a→H'.get i=H.get i)→K.ap Tryd.prog (AX n) N .ret ⟨T',H'⟩)
  (hgood:¬ IT s.rows (AR l) s.rules≥0→∀ T' H' cs,T'.get 2=qP a 0→T'.get 3=qP (a+1) 0→cs.length=8→EP a H' cs 0 0→DJ lo H' (.agg cs.toArray) nm s→H.next≤H'.next→H'.floor=H.floor→(∀ i,i<a→H'.get i=H.get i)→K.ap Tryd.prog (AX n) N .ret ⟨T',H'⟩) :
  WK Tryd.prog (AX n) N WI ⟨T,H⟩ K:=by
 show WK _ _ _ (.seq (.region _ _ true) (.seq _ (.seq (.seq _ (.block 2 (.loop (.seq _ (.seq (.block 3 (.seq _ (.cond _ (.seq (.region _ _ true) _) _))) _))))) (.seq _ _)))) _ _
 obtain⟨tag,V,hp',hw⟩:=id hp
 have hLy:=hLR.lay
 have hsl:s.rows.length=l.length:=hin.len
 have hu:=hin.wf.u
 have hml:=hp'.lm
 have l8:BL 8 0 (H.get m)=some (.agg #[.string nm,qS r l.length AM,V 2,V 3,V 4,V 5,V 6,iv s.miss]):=by rw[hp'.cell];rfl
 have c8:=hp'.c8
 have hpol:=hp'.polAt
 have cR:=fun j h2 h8=>hp'.sl j h2 h8
 have q2:=((cR 2 (by omega) (by omega)).cells (w:=2) (OD _)).one
 have q3:=((cR 3 (by omega) (by omega)).cells (w:=1) (by simp[FC,ER,DZ])).one
 have q4:=((cR 4 (by omega) (by omega)).cells (w:=1) (by simp[FC,ER,DZ])).one
 have C5:AN lo H (V 5) s.rules:=(cR 5 (by omega) (by omega)).cells (w:=1) (by simp[FC,ER,FZ])
 have q5:=A7.one C5
 have q6:=((cR 6 (by omega) (by omega)).cells (w:=1) (by simp[FC,ER,FZ])).one
 have hE:(AR l).length=l.length:=OA
 have hCE:AN lo H (qS e (AR l).length (AR l).length) (AR l):=AN.row' hp'.ends hp'.le rfl
 have hrv:AU H (qS r l.length AM) s.rows:=by rw[← hsl];exact Z9 hp'.rows hp'.lr.2
 have hfx:∀ (f i:Nat),(H.fl f).get i=H.get i:=fun _ _=>rfl
 obtain⟨vS,H2,hS,hI,f2,n2,o2⟩:=Mw (n:=n) (h:=H) (v0:=.string nm) (vr:=qS r l.length AM) (vq:=V 2) (vv:=V 3) (vt:=V 4) (vu:=V 5) (vo:=V 6) (v7:=iv s.miss) (rows:=s.rows) (rules:=s.rules) ⟨rfl,q2,q3,q4,q6,rfl⟩ hrv hCE C5 hLR (by omega) (by omega)
 rw[Ar hLR] at hI
 have hmT:(m<H.next)=True:=by simp;omega
 rw[LD]
 refine WK.flags (fs:=eH) (by kernel_rfl) ?_
 unfold eH
 iterate 10
  refine HY hsn ?_
  simp only[rG,seval,AB,AD,AC,BU,CF,DP,EE,GN,t5,HZ,hmT,GX,l8,fM,CC,c8,hS]
 refine H8 ?_
 have oA:∀ i,i<H.next→(H2.fl H.floor).get i=H.get i:=o2
 have nA:H.next≤(H2.fl H.floor).next:=n2
 have fA:(H2.fl H.floor).floor=H.floor:=rfl
 have hIA:AN H.next (H2.fl H.floor) vS (IW s.rows (AR l) s.rules):=hI.mono (Nat.le_refl _) fun _ _ _=>rfl
 generalize H2.fl H.floor=A at *
 have l8A:BL 8 0 (A.get m)=some (.agg #[.string nm,qS r l.length AM,V 2,V 3,V 4,V 5,V 6,iv s.miss]):=by rw[oA m hml.2];exact l8
 have c8A:AO 8 (A.get m)=some (qS e (AR l).length (AR l).length):=by rw[oA m hml.2];exact c8
 have hvA:AU A v l:=hv.mono nA oA
 have hrvA:AU A (qS r l.length AM) s.rows:=hrv.mono nA oA
 have hCEA:AN lo A (qS e (AR l).length (AR l).length) (AR l):=hCE.mono nA fun i _ hi=>oA i hi
 have houtA:EP a A BT 0 0:=hout.mono (oA a (by omega)) (oA (a+1) (by omega))
 have hmA:(m<A.next)=True:=by simp;omega
 have hSum:=(WR (rows:=s.rows) (E:=AR l) (rules:=s.rules))
 have hlenA:=fun h'=>hvA.len (h':=h')
 simp only[eE,seval,↓eP]
 refine WK.loop (fun i s'=>s'.T.get 9=vS∧s'.T.get 11=iv i∧i≤l.length∧(∀ t:Nat,t≤5→s'.T.get t=T.get t)∧s'.h=A∧∃ a0:Int,s'.T.get 10=iv a0∧0≤a0∧a0≤4611686018427387904∧N_ s.rows (AR l) (IW s.rows (AR l) s.rules) (s.rows.drop i) i a0=IT s.rows (AR l) s.rules) l.length (by omega) ?_ ?_
 ·refine⟨by simp only[eE,↓reduceIte,Nat.reduceEqDiff,reduceCtorEq,↓eP,rP,Nat.reduceAdd,Nat.reduceLT],by simp only[eE,↓reduceIte,Nat.reduceEqDiff,reduceCtorEq,↓eP,rP,Nat.reduceAdd,Nat.reduceLT];rfl,by omega,fun t ht=>?_,rfl,0,by simp only[eE,↓reduceIte,Nat.reduceEqDiff,reduceCtorEq,↓eP,rP,Nat.reduceAdd,Nat.reduceLT],by omega,by omega,rfl⟩
  rw[J4 (by omega),J4 (by omega),J4 (by omega),J4 (by omega),J4 (by omega),J4 (by omega),J4 (by omega),J4 (by omega),J4 (by omega),J4 (by omega),J4 (by omega),J4 (by omega)]
 ·rintro i ⟨T1,H1⟩ hi ⟨t9,t11,hil,hkeep,hh,a0,t10,ha0,haB,hcn⟩
  simp only at t9 t11 hkeep hh t10
  subst hh
  have u0:=(hkeep 0 (by omega)).trans t0
  have u2:=(hkeep 2 (by omega)).trans t2
  have u3:=(hkeep 3 (by omega)).trans t3
  have u5:=(hkeep 5 (by omega)).trans t5
  by_cases hlt:i<l.length
  ·have c1:decide ((i:Int)<(l.length:Int))=true:=by simp;omega
   obtain⟨y,hy⟩:∃ y,l[i]?=some y:=⟨_,List.getElem?_eq_getElem hlt⟩
   obtain⟨x,hx⟩:∃ x,s.rows[i]?=some x:=⟨_,List.getElem?_eq_getElem (by omega)⟩
   have hxy:x.kind=y.kind:=by
    obtain⟨y',hy',he⟩:=hin.same i x hx
    rw[hy] at hy'
    cases hy'
    rw[he]
   obtain⟨rid,p,e0,hid,l0,l1,l2,l3,l4,lr⟩:=hvA.row hy
   have hkx:=TX ht hin x (List.mem_of_getElem? hx)
   rw[hxy] at hkx
   have hV:=F5 (n:=n) (GK (k:=12) (XZ y.kind H1 hkx))
   have w1:=C6 i (by omega)
   have hdr:s.rows.drop i=x :: s.rows.drop (i+1):=by
    obtain⟨hl,rfl⟩:=List.getElem?_eq_some_iff.1 hx
    exact List.drop_eq_getElem_cons hl
   rw[hdr] at hcn
   change (if C3 x.kind=false then N_ s.rows (AR l) (IW s.rows (AR l) s.rules) (s.rows.drop (i+1)) (i+1) a0 else if BG a0 (FJ s.rows (AR l) (IW s.rows (AR l) s.rules) (i+1))>16384 then (i:Int) else N_ s.rows (AR l) (IW s.rows (AR l) s.rules) (s.rows.drop (i+1)) (i+1) (BG a0 (FJ s.rows (AR l) (IW s.rows (AR l) s.rules) (i+1))))=_ at hcn
   cases dv:C3 y.kind with
   | false=>
    rw[dv] at hV
    rw[if_pos (by rw[hxy];exact dv)] at hcn
    simp only[eE,seval,↓eP,u0,t9,t10,t11,hlenA,c1,e0,DI,A_,l0,hV,w1]
    refine⟨by omega,by omega,fun t ht=>?_,ha0,haB,hcn⟩
    repeat rw[if_neg (by omega)]
    exact hkeep t ht
   | true=>
    rw[dv] at hV
    rw[if_neg (by rw[hxy,dv];simp)] at hcn
    have hi1:=bV ht hin i x hx (by rw[hxy];exact dv)
    have hlaid:=jJ (n:=n) (h:=H1) (v0:=.string nm) (vr:=qS r l.length AM) (vq:=V 2) (vv:=V 3) (vt:=V 4) (vu:=V 5) (vo:=V 6) (v7:=iv s.miss) (row:=i+1) ⟨rfl,q2,q3,q4,q5,q6,rfl⟩ hrvA hCEA hIA hSum.1 hLy hi1 (by omega) (fun z hz h22=>by
     rw[hSum.2]
     exact hLy.calls z (List.mem_of_mem_drop (List.mem_of_mem_take hz)) h22)
    have hcA:=SA (rows:=s.rows) (E:=AR l) hSum.1 (i+1)
    have hpl:=F5 (n:=n) (jX H1 hcA ⟨ha0,haB⟩)
    have hpn:=IN ha0 hcA.1 hcA.2
    simp only[eE,seval,↓eP,u0,t11,hlenA,c1,e0,DI,A_,l0,hV]
    refine WK.flags (fs:=bH) (by kernel_rfl) ?_
    unfold bH
    iterate 15
     refine HY hsn ?_
     simp only[rG,seval,AB,AD,AC,BU,CF,DP,EE,GN,t10,u5,HZ,hmA,GX,l8A,fM,CC,c8A,t9,t11,w1,hlaid,hpl]
    refine H8 ?_
    cases dg:decide (BG a0 (FJ s.rows (AR l) (IW s.rows (AR l) s.rules) (i+1))>16384) with
    | true=>
     rw[if_pos (by simpa using dg)] at hcn
     obtain⟨H',s1,s2,r1,r2,r3,r4⟩:=OG houtA rfl (by omega) (by omega) (cs':=BT) rfl rfl (e':=34) (p':=(i:Int))
     simp only[eE,seval,↓eP,u2,u3,t11,dg,RB,NF,s1,s2]
     refine hbad (by rw[← hcn];omega) _ _ ?_ ?_ (by rw[← hcn];exact r1) (by omega) (by omega) fun i hi=>by rw[r4 i (by omega) (by omega),oA i (by omega)]
     ·simp only[eE,seval,↓eP,rP,u2]
     ·simp only[eE,seval,↓eP,rP,u3]
    | false=>
     rw[if_neg (by simpa using dg)] at hcn
     simp only[eE,seval,↓eP,t9,t11,dg,w1]
     refine⟨by omega,by omega,fun t ht=>?_,hpn.1,hpn.2,hcn⟩
     have hne:∀ d:Nat,5<d→¬ (d=t):=fun d hd=>by omega
     repeat rw[if_neg (hne _ (by decide))]
     exact hkeep t ht
  ·have c1:decide ((i:Int)<(l.length:Int))=false:=by simp;omega
   have hneg:¬ IT s.rows (AR l) s.rules≥0:=by
    rw[← hcn,List.drop_of_length_le (by omega)]
    show ¬ ((-1:Int)≥0)
    omega
   obtain⟨H',s1,s2,r1,r2,r3,r4⟩:=OG houtA rfl (by omega) (by omega) (cs':=[.string nm,qS r l.length AM,V 2,V 3,V 4,V 5,V 6,iv s.miss]) rfl (by
    simp only[List.all_cons,List.all_nil,q2,q3,q4,q5,q6,OL,JY,Bool.and_self]
    rfl) (e':=0) (p':=0)
   simp only[eE,seval,↓eP,u0,u2,u3,u5,t11,hlenA,c1,HZ,GX,l8A,SV,s1,s2]
   refine hgood hneg _ _ _ ?_ ?_ rfl r1 (hpol.mono (by omega) fun i h1 h2=>by rw[r4 i (by omega) (by omega),oA i h2]) (by omega) (by omega) fun i hi=>by rw[r4 i (by omega) (by omega),oA i (by omega)]
   ·simp only[eE,seval,↓eP,rP,u2]
   ·simp only[eE,seval,↓eP,rP,u3]
end
section
variable {n N:Nat}
theorem Mn {l:List AE} {v:Value} {h:AA} (hfl:h.floor≤h.next) (hv:AU h v l) (hL:l.length<2932031007403) (h64:∀ x∈l,x.kids≤9223372036854775807) (hn:l.length+100100<n) (hN:l.length+3<N) :
  ∃ v' h',A9 Tryd.prog (AX n) N 17 [v] h=some (v',h')∧OZ h l v' h':=by
 refine MO (R:=OZ h l) Tryd.func17 rfl (by simp[Tryd.f17]) ?_
 have hr:Tryd.f17.results.toList=[.cell 2 30,.cell 3 33]:=rfl
 generalize hKK:B7.top (fun e s=>(e=DK.normal∨e=DK.ret)∧∃ vs,E8 Tryd.prog s Tryd.f17.results.toList=some vs∧OZ h l (GR vs) s.h)=K
 have fin:∀ (T':Tr) (H':AA) cs e p nm s,T'.get 2=qP h.next 0→T'.get 3=qP (h.next+1) 0→cs.length=8→EP h.next H' cs e p→DJ h.next H' (.agg cs.toArray) nm s→(A8 l).1=(e,p)→C9 l=(nm,s)→h.next≤H'.next→H'.floor=h.floor→(∀ i,i<h.next→H'.get i=h.get i)→K.ap Tryd.prog (AX n) N .ret ⟨T',H'⟩:=by
  intro T' H' cs e p nm s t2 t3 hl ho hp he hout hnx hf hold
  have l30:=NO ho.1 hl
  have l33:BL 2 0 (H'.get (h.next+1))=some (EN e p):=by rw[ho.2];rfl
  rw[← hKK]
  simp only[eE,seval,↓eP,hr,t2,t3,GX,K8,l30,l33]
  exact⟨_,by rw[he],by rw[hout];exact hp,hf,hnx,hold⟩
 have hz:∀ H',DJ h.next H' RG ByteArray.empty sZ:=fun H'=>qQ h.next H'
 refine xV (FH n).2 hfl hv (fun H hv' hfl'=>Ew (by omega) hL h64 hv' hfl') ?_ ?_
 ·intro hc T' H t2 t3 ho hnx hf hold
  refine fin T' H _ _ _ ByteArray.empty sZ t2 t3 rfl ho (hz H) ?_ ?_ (by omega) hf hold
  ·unfold A8
   rw[if_pos hc]
  ·unfold C9
   have:(A8 l).1.1≠0:=by unfold A8;rw[if_pos hc];exact hc
   rw[if_pos this]
 ·intro hc T' H t0 t2 t3 ho hnx hf hold
  have ht:=XI (eF hc)
  have hvH:AU H v l:=hv.mono (by omega) hold
  refine Ls (FH n).2 ht hL (by omega) hvH t0 (fun H' hv' hf'=>tW ht hv' (by omega) (by omega) hf') ?_
  intro T1 H1 m e r u0 u2 u3 u5 hp hnx1 hf1 hold1
  have ho1:EP h.next H1 BT 0 0:=ho.mono (hold1 _ (by omega)) (hold1 _ (by omega))
  have hv1:=hvH.mono hnx1 hold1
  refine Og (a:=h.next) ht hL (by omega) hN u0 (u2.trans t2) (u3.trans t3) u5 hv1 (fun H' a b=>hvH.mono (by omega) fun i hi=>(a i hi).trans (hold1 i hi)) hp (by omega) (by omega) ho1 (by omega) ?_ ?_
  ·intro hgo T2 H2 w2 w3 ho2 hnx2 hf2 hold2
   refine fin T2 H2 _ _ _ ByteArray.empty sZ w2 w3 rfl ho2 (hz H2) ?_ ?_ (by omega) (by omega) fun i hi=>by rw[hold2 i hi,hold1 i (by omega),hold i hi]
   ·unfold A8
    rw[if_neg (by rw[hc];simp)]
    simp only
    rw[if_pos hgo]
   ·unfold C9
    have:(A8 l).1.1≠0:=by
     unfold A8
     rw[if_neg (by rw[hc];simp)]
     simp only
     rw[if_pos hgo]
     exact hgo
    rw[if_pos this]
  ·intro hgo T2 H2 hk2 hp2 hin2 haf
   have ho2:EP h.next H2 BT 0 0:=ho1.mono (haf.1 _ (by omega)) (haf.1 _ (by omega))
   have hf2:=haf.2.2
   have hn2:=haf.2.1
   have hLR:=pB ht (by omega) hin2 (W7 ht l.length 0 (BV l) (by omega) (QU l) (cE l) hgo)
   refine Rx (a:=h.next) (FH n).2 ht hL (by omega) hN ((hk2 0 (by omega)).trans u0) ((hk2 2 (by omega)).trans (u2.trans t2)) ((hk2 3 (by omega)).trans (u3.trans t3)) ((hk2 5 (by omega)).trans u5) (hvH.mono (by omega) fun i hi=>(haf.1 i hi).trans (hold1 i hi)) hp2 hin2 hLR (by omega) (by omega) ho2 (by omega) ?_ ?_
   ·intro hlg T3 H3 x2 x3 ho3 hnx3 hf3 hold3
    have hres:(A8 l).1=(34,IT (CD (AR l) l.length 0 (BV l)).2.2.rows (AR l) (CD (AR l) l.length 0 (BV l)).2.2.rules):=by
     unfold A8
     rw[if_neg (by rw[hc];simp)]
     simp only
     rw[if_neg (by rw[hgo];simp),if_pos hlg]
    refine fin T3 H3 _ _ _ ByteArray.empty sZ x2 x3 rfl ho3 (hz H3) hres ?_ (by omega) (by omega) fun i hi=>by rw[hold3 i hi,haf.1 i (by omega),hold1 i (by omega),hold i hi]
    unfold C9
    rw[if_pos (by rw[hres];simp)]
   ·intro hlg T3 H3 cs x2 x3 hcs ho3 hpol hnx3 hf3 hold3
    have hres:A8 l=((0,0),(CD (AR l) l.length 0 (BV l)).2.2):=by
     unfold A8
     rw[if_neg (by rw[hc];simp)]
     simp only
     rw[if_neg (by rw[hgo];simp),if_neg hlg]
    refine fin T3 H3 cs _ _ (HQ l) (CD (AR l) l.length 0 (BV l)).2.2 x2 x3 hcs ho3 (hpol.weak (by omega)) (by rw[hres]) ?_ (by omega) (by omega) fun i hi=>by rw[hold3 i hi,haf.1 i (by omega),hold1 i (by omega),hold i hi]
    unfold C9
    rw[hres]
    simp
theorem oR {l:List AE} {v:Value} {h:AA} (hfl:h.floor≤h.next) (hv:AU h v l) (hL:l.length<2932031007403) (h64:∀ x∈l,x.kids≤9223372036854775807) (hn:l.length+100110<n) :
  ∃ v' h',AX n 17 [v] h=some (v',h')∧OZ h l v' h':=by
 obtain⟨n,rfl⟩:=D3 hn
 exact M5 (CP ⟨rfl,rfl,rfl⟩) (Mn (n:=n) (N:=n) hfl hv hL h64 (by omega) (by omega)) fun v' h1 hf _ ht=>wL hf ht
end
noncomputable def SZ:AT:=NZ 39 ED
def tM:Option (Value × AA)→Bool
 | some (.bool b,_)=>b
 | _=>false
theorem Bl:tM (LJ Tryd.prog 400 39 [] GP)=true:=by kernel_rfl
theorem Bb:DO Tryd.prog SZ∧CK SZ:=by
 have h:=Bl
 unfold tM at h
 split at h
 ·rename_i b h' hs
  cases h
  exact Ki KF T_ (by kernel_rfl) hs
 ·cases h
noncomputable def RQ (n:Nat):AT:=HN SZ (AX n)
theorem eT (n:Nat):DO Tryd.prog (RQ n)∧CK (RQ n):=U8 Bb (FH n)
section
variable {n:Nat} {f:FuncId} {args:List Value} {h:AA} {r:Value × AA}
theorem w_ (hg:h.get 0=ED):RQ n 39 [] h=some (.bool true,h):=by
 refine UH ?_
 unfold SZ NZ
 rw[if_pos ⟨rfl,rfl,hg⟩]
theorem Q0 (hf:f≠39) (hb:AX n f args h=some r):RQ n f args h=some r:=by
 unfold RQ HN
 have:SZ f args h=none:=by
  unfold SZ NZ
  rw[if_neg (fun hc=>hf hc.1)]
 rw[this]
 exact hb
end
end Go.Proofs.YtipekdhneagdbaaDoor
