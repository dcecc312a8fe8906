/- Part 10 of what the claim leans on: 20 texts laid one behind another. -/
import Derived.Test.YtipekdhneagdbaaDoorCG9
namespace Go.Proofs.YtipekdhneagdbaaDoor
open Go Go.Sx
set_option maxRecDepth 100000
set_option linter.unusedSimpArgs false
set_option linter.unusedVariables false
set_option maxHeartbeats 64000000
structure OM (l:List AC) (O:List Int) (j:Nat) (most:Int):Prop where
 len:O.length=l.length
 top:0<j→∀ x,l[0]?=some x→O[0]?=some (EO x.kind)
 kid:∀ p k i x y o,i<j→HX l p k i→l[p]?=some x→l[i]?=some y→O[p]?=some o→O[i]?=some (o+GT (CP x.kind) (CP y.kind) k+EO y.kind)
 le:∀ (i:Nat) o,i<j→O[i]?=some o→0≤o∧o≤2*(i:Int)+2
 max:(j=0∧most=0)∨(0<j∧MR O 0 j most)
theorem OM.most {l:List AC} {O:List Int} {j:Nat} {most:Int} (h:OM l O j most):0≤most∧most≤2*(j:Int):=by
 rcases h.max with⟨_,h1⟩ | ⟨_,_,i,_,h2,h3⟩
 ·omega
 ·have:=h.le i _ h2 h3
  omega
theorem OM.step {l:List AC} {O:List Int} {j:Nat} {most n:Int} (ht:B8 l) (h:OM l O j most) (hj:j<l.length)
  (hn:(j=0∧∀ x,l[0]?=some x→n=EO x.kind)∨∃ p k x y o,HX l p k j∧l[p]?=some x∧l[j]?=some y∧O[p]?=some o∧n=o+GT (CP x.kind) (CP y.kind) k+EO y.kind):OM l (O.set j n) (j+1) (if n>most then n else most):=by
 have hlO:=h.len
 have hnle:0≤n∧n≤2*(j:Int)+2:=by
  rcases hn with⟨rfl,h1⟩ | ⟨p,k,x,y,o,h1,h2,h3,h4,rfl⟩
  ·have:=UE l[0].kind
   have:=h1 l[0] (List.getElem?_eq_getElem hj)
   omega
  ·have:=h.le p o h1.lt h4
   have:=UE y.kind
   have:=cF (CP x.kind) (CP y.kind) k
   have:=h1.lt
   omega
 refine⟨by simpa using hlO,fun _ x hx=>?_,fun p k i x y o hi hk hx hy ho=>?_,fun i o hi ho=>?_,.inr ⟨by omega,?_⟩⟩
 ·by_cases h0:j=0
  ·subst h0
   rw[List.getElem?_set_self (by omega)]
   rcases hn with⟨_,h1⟩ | ⟨p,k,x,y,o,h1,_⟩
   ·rw[h1 x hx]
   ·have:=h1.lt;omega
  ·rw[List.getElem?_set_ne (by omega)]
   exact h.top (by omega) x hx
 ·have hlt:=hk.lt
  rw[List.getElem?_set_ne (by omega)] at ho
  by_cases hij:j=i
  ·subst hij
   rw[List.getElem?_set_self (by omega)]
   rcases hn with⟨rfl,_⟩ | ⟨p',k',x',y',o',h1,h2,h3,h4,rfl⟩
   ·omega
   ·obtain⟨rfl,rfl⟩:=HX.unique ht hk h1
    rw[hx] at h2
    rw[hy] at h3
    rw[ho] at h4
    cases h2
    cases h3
    cases h4
    rfl
  ·rw[List.getElem?_set_ne (by omega)]
   exact h.kid p k i x y o (by omega) hk hx hy ho
 ·by_cases hij:j=i
  ·subst hij
   rw[List.getElem?_set_self (by omega)] at ho
   cases ho
   exact hnle
  ·rw[List.getElem?_set_ne (by omega)] at ho
   exact h.le i o (by omega) ho
 ·rcases h.max with⟨rfl,rfl⟩ | ⟨hp,h1,i,h2,h3,h4⟩
  ·have he:(if n>0 then n else 0)=n:=by split <;> omega
   rw[he]
   refine⟨fun i x _ hi hx=>?_,0,by omega,by omega,List.getElem?_set_self (by omega)⟩
   obtain rfl:i=0:=by omega
   rw[List.getElem?_set_self (by omega)] at hx
   cases hx
   omega
  ·refine⟨fun t x _ ht hx=>?_,?_⟩
   ·by_cases htj:j=t
    ·subst htj
     rw[List.getElem?_set_self (by omega)] at hx
     cases hx
     split <;> omega
    ·rw[List.getElem?_set_ne htj] at hx
     have:=h1 t x (by omega) (by omega) hx
     split <;> omega
   ·split
    ·exact⟨j,by omega,by omega,List.getElem?_set_self (by omega)⟩
    ·exact⟨i,h2,by omega,by rw[List.getElem?_set_ne (by omega)];exact h4⟩
theorem OM.done {l:List AC} {O:List Int} {most:Int} (ht:B8 l) (h:OM l O l.length most):most=(DH l (l.length+1) 0).1:=by
 have hp:=ht.pos
 have hx:l[0]?=some l[0]:=List.getElem?_eq_getElem hp
 have hO:n9 l O:=⟨fun x hx=>h.top hp x hx,fun p k i x y o hk hx hy ho=>h.kid p k i x y o (List.getElem?_eq_some_iff.1 hy).1 hk hx hy ho⟩
 have h1:=(Jr hO (l.length+1) 0 l.length _ _ ht (by omega) hx (hO.top _ hx)).1
 rw[Int.sub_self,Int.zero_add] at h1
 rcases h.max with⟨h0,_⟩ | ⟨_,h2⟩
 ·omega
 ·exact h2.unique h1
section
variable {call:AQ} {N:Nat}
theorem Mq {id n c:Nat} {i:Int} (h0:0≤i) (hi:i<n):CU Tryd.prog 28 (qS id n c) (iv i)=some (qP id i.toNat):=by
 obtain⟨k,rfl⟩:∃ k:Nat,i=(k:Int):=⟨i.toNat,by omega⟩
 exact GQ (by omega)
def inB:Code→Code
 | .block _ c=>c
 | c=>c
noncomputable def qN:Code:=YE Tryd.f85 1
noncomputable def TB:Code:=rt (rt (inB qN))
theorem ZR {l:List AC} {v:Value} {a:Nat} {v3 v4:Value} {y:AC} {T:Tr} {H:AA} {j:Nat} {O:List Int} {most n:Int} {K:B9} (t0:T.get 0=v) (t3:T.get 3=v3) (t4:T.get 4=v4) (t5:T.get 5=qS a l.length l.length) (t6:T.get 6=iv most) (t7:T.get 7=iv j) (t8:T.get 8=iv n)
  (hn:0≤n∧n<4611686018427387904) (hv:AV H v l) (hy:l[j]?=some y) (gO:H.get a=.row (ints O) 3 false false) (hO:O.length=l.length) (ha:a<H.next) (hf:H.floor≤a)
  (hK:∀ T':Tr,T'.get 0=v→T'.get 3=v3→T'.get 4=v4→T'.get 5=qS a l.length l.length→T'.get 6=iv (if n+EO y.kind>most then n+EO y.kind else most)→T'.get 7=iv j→K.ap Tryd.prog call N .normal ⟨T',H.put a (.row (ints (O.set j (n+EO y.kind))) 3 false false)⟩) :
  WK Tryd.prog call N TB ⟨T,H⟩ K:=by
 show WK _ _ _ (.seq (.seq _ rE) (rt TB)) _ _
 have hlt:j<l.length:=(List.getElem?_eq_some_iff.1 hy).1
 obtain⟨id,q,e0,hid,l0,l1,l2,l3,l4,lr⟩:=hv.row hy
 simp only[SZ,seval,↓eP,rP,t0,t7,e0,l0]
 refine Ab (κ:=y.kind) (n:=n) ?_ ?_ hn fun T' hT h8=>?_
 ·simp only[eE,seval,↓eP,rP]
 ·simp only[eE,seval,↓eP,rP,t8]
 have q0:=hT 0 (by decide)
 have q3:=hT 3 (by decide)
 have q4:=hT 4 (by decide)
 have q5:=hT 5 (by decide)
 have q6:=hT 6 (by decide)
 have q7:=hT 7 (by decide)
 simp only[eE,seval,↓eP,rP,t0,t3,t4,t5,t6,t7] at q0 q3 q4 q5 q6 q7
 have st:=MG (x:=n+EO y.kind) gO (show j<O.length by omega) hf
 show WK _ _ _ (rt TB) _ _
 cases d:decide (n+EO y.kind>most) with
 | true=>
  rw[if_pos (by simpa using d)] at hK
  show WK _ _ _ (.seq _ _) _ _
  simp only[eE,seval,↓eP,DG,E9,KM,DA,C9,q5,q6,q7,h8,GQ hlt,st,d]
  refine hK _ ?_ ?_ ?_ ?_ ?_ ?_ <;> simp only[eE,seval,↓eP,rP,q0,q3,q4,q5,q7]
 | false=>
  rw[if_neg (by simpa using d)] at hK
  show WK _ _ _ (.seq _ _) _ _
  simp only[eE,seval,↓eP,DG,E9,KM,DA,C9,q5,q6,q7,h8,GQ hlt,st,d]
  refine hK _ ?_ ?_ ?_ ?_ ?_ ?_ <;> simp only[eE,seval,↓eP,rP,q0,q3,q4,q5,q6,q7]
theorem Qw {l:List AC} {v:Value} {h:AA} (ht:B8 l) (hv:AV h v l) (hlen:l.length<30000000000000) (hn:l.length+3<N) (hfl:h.floor≤h.next)
  (hP:∃ h',call 103 [v] h=some (.tuple #[qS h.next l.length l.length,qS (h.next+1) l.length l.length],h') ∧
   (∃ U W,cQ l U W∧h'.get h.next=.row (ints U) 3 false false∧h'.get (h.next+1)=.row (ints W) 3 false false∧h'.next=h.next+3∧h'.floor=h.floor∧∀ i,i<h.next→h'.get i=h.get i))
  (hL:∀ P K (k:Nat) h,1≤P∧P≤54→1≤K∧K≤54→call 104 [iv P,iv k,iv K] h=some (.bool (MM (CP P) (CP K) k),h)) :
  ∃ h',A8 Tryd.prog call N 85 [v] h=some (iv (DH l (l.length+1) 0).1,h')∧∀ i,i<h.next→h'.get i=h.get i:=by
 refine FE (R:=fun h'=>∀ i,i<h.next→h'.get i=h.get i) Tryd.func85 rfl (by simp[Tryd.f85]) ?_
 have hr:Tryd.f85.results.toList=[.tmp 2]:=rfl
 have hl22:∀ h',CC Tryd.prog h' 22 v=some (.int .i64 l.length):=fun h'=>hv.len
 have hpos:=ht.pos
 obtain⟨h1,hP,U,W,hUW,gU,gW,hnx,hf1,hold⟩:=hP
 simp only[eE,seval,↓eP,rP,hr,hl22,OH hlen,hP]
 refine WK.loop (fun j s=>s.T.get 0=v∧s.T.get 3=qS h.next l.length l.length∧s.T.get 4=qS (h.next+1) l.length l.length∧s.T.get 5=qS h1.next l.length l.length∧s.T.get 7=iv j∧s.h.next=h1.next+1∧s.h.floor=h.floor∧(∀ i,i<h.next→s.h.get i=h.get i) ∧
  s.h.get h.next=.row (ints U) 3 false false∧s.h.get (h.next+1)=.row (ints W) 3 false false∧∃ O most,s.T.get 6=iv most∧s.h.get h1.next=.row (ints O) 3 false false∧OM l O j most) l.length (by omega) ?_ ?_
 ·simp only[eE,↓reduceIte,Nat.reduceEqDiff,reduceCtorEq,↓eP,rP,Nat.reduceAdd,Nat.reduceLT]
  refine⟨rfl,hf1,fun i hi=>?_,?_,?_,List.replicate l.length 0,rfl,⟨by simp,(fun h=>by omega),(fun p k i x y o h=>by omega),(fun i o h=>by omega),.inl ⟨rfl,rfl⟩⟩⟩
  ·rw[if_neg (by omega)];exact hold i hi
  ·rw[if_neg (by omega)];exact gU
  ·rw[if_neg (by omega)];exact gW
 ·rintro j ⟨T1,H⟩ hj ⟨t0,t3,t4,t5,t7,hnx1,hf2,hold1,gU1,gW1,O,most,t6,gO,hO⟩
  simp only at t0 t3 t4 t5 t6 t7 hnx1 hf2 hold1 gU1 gW1 gO
  have hmost:=hO.most
  by_cases hlt:j<l.length
  ·have c1:decide ((j:Int)<(l.length:Int))=true:=by simp only[decide_eq_true_eq];omega
   have w1:=DJ j (by omega)
   have hv1:AV H v l:=hv.mono (by omega) hold1
   obtain⟨y,hy⟩:∃ y,l[j]?=some y:=⟨_,List.getElem?_eq_getElem hlt⟩
   obtain⟨id,q,e0,hid,l0,l1,l2,l3,l4,lr⟩:=hv1.row hy
   have hky:1≤y.kind∧y.kind≤54:=(ht.end hlt).kids.elim fun z hz=>by rw[hy] at hz;cases hz.1;exact hz.2.2.1
   have hoy:=UE y.kind
   simp only[SZ,seval,↓eP,rP,t0,t7,hl22,c1]
   show WK _ _ _ qN _ _
   have fin:∀ (n:Int),0≤n∧n<4611686018427387904→(j=0∧(∀ x,l[0]?=some x→n+EO y.kind=EO x.kind)∨∃ p k x y' o,HX l p k j∧l[p]?=some x∧l[j]?=some y'∧O[p]?=some o∧n+EO y.kind=o+GT (CP x.kind) (CP y'.kind) k+EO y'.kind) →
     OM l (O.set j (n+EO y.kind)) (j+1) (if n+EO y.kind>most then n+EO y.kind else most):=fun n h1 h2=>hO.step ht hlt h2
   have ha:h1.next<H.next:=by omega
   have hfa:H.floor≤h1.next:=by omega
   have po:=fun (X:BE)=>BN (h:=H) (i:=h1.next) (o:=X) rfl ha
   have pn:=fun (X:BE) (i:Nat) (hi:i≠h1.next)=>AM (h:=H) (i:=h1.next) (j:=i) (o:=X) ha (Ne.symm hi)
   rcases Nat.eq_zero_or_pos j with h0 | h0
   ·subst h0
    have hU0:=hUW.top
    have cm:decide ((-1:Int)≥0)=false:=rfl
    have o0:=fin 0 (by omega) (.inl ⟨rfl,fun x hx=>by rw[hy] at hx;cases hx;omega⟩)
    have i0:CU Tryd.prog 28 (qS h.next l.length l.length) (iv ((0:Nat):Int))=some (qP h.next 0):=GQ (i:=0) hpos
    show WK _ _ _ (.block 1 (.seq _ (.seq _ TB))) _ _
    simp only[eE,↓reduceIte,Nat.reduceEqDiff,reduceCtorEq,↓eP,rP,Nat.reduceAdd,Nat.reduceLT,t3,t7,i0,gU1,JZ hU0,cm]
    refine ZR (y:=y) (O:=O) (most:=most) (n:=0) (j:=0) (a:=h1.next) ?_ rfl rfl ?_ ?_ ?_ ?_ (by omega) hv1 hy gO hO.len ha hfa fun T' u0 u3 u4 u5 u6 u7=>?_
    ·simp only[eE,seval,↓eP,rP,t0]
    ·simp only[eE,seval,↓eP,rP,t5]
    ·simp only[eE,seval,↓eP,rP,t6]
    ·simp only[eE,seval,↓eP,rP,t7]
    ·simp only[eE,seval,↓eP,rP]
    simp only[eE,seval,↓eP,rP,t3,t4] at u3 u4
    simp only[eE,↓reduceIte,Nat.reduceEqDiff,reduceCtorEq,↓eP,DG,E9,KM,DA,C9,Nat.reduceAdd,Nat.reduceLT,u0,u3,u4,u5,u6,u7,w1]
    exact⟨hlt,hnx1,hf2,fun i hi=>by rw[pn _ _ (by omega)];exact hold1 i hi,by rw[pn _ _ (by omega)];exact gU1,by rw[pn _ _ (by omega)];exact gW1,_,po _,o0⟩
   ·obtain⟨p,k,hk⟩:=ht.parent h0 hlt
    obtain⟨hUj,hWj⟩:=hUW.kid p k j hk
    have hpj:=hk.lt
    obtain⟨x,hx,hkx,hch⟩:=hk
    have hk:HX l p k j:=⟨x,hx,hkx,hch⟩
    obtain⟨o,ho⟩:∃ o,O[p]?=some o:=⟨_,List.getElem?_eq_getElem (by rw[hO.len];omega)⟩
    have hole:=hO.le p o hpj ho
    have hkx1:1≤x.kind∧x.kind≤54:=(ht.end (show p<l.length by omega)).kids.elim fun z hz=>by rw[hx] at hz;cases hz.1;exact hz.2.2.1
    obtain⟨id2,q2,f0,hid2,m0,m1,m2,m3,m4,mr⟩:=hv1.row hx
    have cm:decide ((p:Int)≥0)=true:=by simp
    have hl:=fun hh=>hL x.kind y.kind k hh hkx1 hky
    have hpl:p<l.length:=by omega
    show WK _ _ _ (.block 1 (.seq _ (.seq _ TB))) _ _
    simp only[eE,seval,↓eP,rP,t3,t5,t7,GQ hlt,GQ hpl,gU1,gO,JZ hUj,JZ ho,cm]
    refine WK.quiet (by kernel_rfl) ?_
    cases hlo:MM (CP x.kind) (CP y.kind) k with
    | false=>
     have hI:GT (CP x.kind) (CP y.kind) k=0:=by unfold GT;rw[hlo];rfl
     have o0:=fin o (by omega) (.inr ⟨p,k,x,y,o,hk,hx,hy,ho,by rw[hI];omega⟩)
     simp only[eE,seval,↓eP,rP,t0,t3,t4,t7,GQ hlt,gU1,gW1,JZ hUj,JZ hWj,e0,f0,l0,m0,hl,hlo]
     refine ZR (y:=y) (O:=O) (most:=most) (n:=o) (j:=j) (a:=h1.next) ?_ rfl rfl ?_ ?_ ?_ ?_ (by omega) hv1 hy gO hO.len ha hfa fun T' u0 u3 u4 u5 u6 u7=>?_
     ·simp only[eE,seval,↓eP,rP,t0]
     ·simp only[eE,seval,↓eP,rP,t5]
     ·simp only[eE,seval,↓eP,rP,t6]
     ·simp only[eE,seval,↓eP,rP,t7]
     ·simp only[eE,seval,↓eP,rP]
     simp only[eE,seval,↓eP,rP,t3,t4] at u3 u4
     simp only[eE,↓reduceIte,Nat.reduceEqDiff,reduceCtorEq,↓eP,DG,E9,KM,DA,C9,Nat.reduceAdd,Nat.reduceLT,u0,u3,u4,u5,u6,u7,w1]
     exact⟨hlt,hnx1,hf2,fun i hi=>by rw[pn _ _ (by omega)];exact hold1 i hi,by rw[pn _ _ (by omega)];exact gU1,by rw[pn _ _ (by omega)];exact gW1,_,po _,o0⟩
    | true=>
     have hI:GT (CP x.kind) (CP y.kind) k=1:=by unfold GT;rw[hlo];rfl
     have o0:=fin (o+1) (by omega) (.inr ⟨p,k,x,y,o,hk,hx,hy,ho,by rw[hI]⟩)
     have w2:IntKind.i64.wrap (o+1)=o+1:=B0 (by omega) (by omega)
     simp only[eE,seval,↓eP,rP,t0,t3,t4,t7,GQ hlt,gU1,gW1,JZ hUj,JZ hWj,e0,f0,l0,m0,hl,hlo,w2]
     refine ZR (y:=y) (O:=O) (most:=most) (n:=o+1) (j:=j) (a:=h1.next) ?_ rfl rfl ?_ ?_ ?_ ?_ (by omega) hv1 hy gO hO.len ha hfa fun T' u0 u3 u4 u5 u6 u7=>?_
     ·simp only[eE,seval,↓eP,rP,t0]
     ·simp only[eE,seval,↓eP,rP,t5]
     ·simp only[eE,seval,↓eP,rP,t6]
     ·simp only[eE,seval,↓eP,rP,t7]
     ·simp only[eE,seval,↓eP,rP]
     simp only[eE,seval,↓eP,rP,t3,t4] at u3 u4
     simp only[eE,↓reduceIte,Nat.reduceEqDiff,reduceCtorEq,↓eP,DG,E9,KM,DA,C9,Nat.reduceAdd,Nat.reduceLT,u0,u3,u4,u5,u6,u7,w1]
     exact⟨hlt,hnx1,hf2,fun i hi=>by rw[pn _ _ (by omega)];exact hold1 i hi,by rw[pn _ _ (by omega)];exact gU1,by rw[pn _ _ (by omega)];exact gW1,_,po _,o0⟩
  ·have c1:decide ((j:Int)<(l.length:Int))=false:=by simp only[decide_eq_false_iff_not];omega
   have:j=l.length:=by omega
   subst this
   have e:=hO.done ht
   subst e
   simp only[eE,seval,↓eP,rP,t0,t6,t7,hl22,c1]
   exact hold1
end
section
variable {call:AQ} {N:Nat} {h:AA} {lo m e r n:Nat} {nm:ByteArray} {E:List Int} {s:AP}
theorem Z3 {H:AA} {x:AC} (hf:H.floor≤H.next):BJ Tryd.prog (H.push (.row DC 46 false false)) 46 (qP H.next 0) (.agg #[.int .i64 x.kind,.string x.name,.int .i64 x.ends,.int .i64 x.n,.int .i64 x.kids])=some ((H.push (.row DC 46 false false)).put H.next (.row (AI x) 46 false false)):=by
 have hone:([.int .i64 x.kind,.string x.name,.int .i64 x.ends,.int .i64 x.n,.int .i64 x.kids]:List Value).all one=true:=rfl
 rw[DA,BP,SC,if_pos ⟨hf,hone⟩]
 rfl
theorem qH:flat (.agg #[.int .i64 0,.string ByteArray.empty,.int .i64 0,.int .i64 0,.int .i64 0])=true:=rfl
theorem jU:(Value.agg #[.int .i64 0,.string ByteArray.empty,.int .i64 0,.int .i64 0,.int .i64 0]).cells.toList=DC:=rfl
theorem mD {l:List F_} {x:ByteArray} (h:E5 l x=none):K6 l x 0=-1:=by have:=fR l x 0;rw[h] at this;exact this
theorem tP {l:List F_} {x:ByteArray} {t:F_} (h:E5 l x=some t):∃ k:Nat,K6 l x 0=(k:Int)∧l[k]?=some t:=by
 have:=fR l x 0
 rw[h] at this
 obtain⟨k,h1,h2⟩:=this
 exact⟨k,by rw[h1];congr 1;omega,h2⟩
theorem vP {at_:Nat} {end_:Int} {x:AC} (hp:FV h lo m e r n nm E s) (hx:s.rows[at_]?=some x) (hd:BM x.kind≠0) (hn:at_<30000000000000) (hE:E[at_]?=some end_) (he:0≤end_) (hth:s.things.length<100000) (hN:100004<N)
  (hfind:∀ (y:ByteArray) H tag V C,CG H lo m e r n nm E tag V C s→call 86 [qP m 0,.string y] H=some (iv (K6 s.things y 0),H))
  (h87:∀ k h',call 87 [iv k] h'=some (iv (G8 k),h')) :
  ∃ h',A8 Tryd.prog call N 57 [qP m 0,iv at_,iv (BM x.kind)] h=some (iv (DQ x s),h')∧(FU h h' lo∧(DQ x s=0→FV h' lo m e r n nm E (BI at_ end_ x s))):=by
 obtain⟨tag,V,hp,hw⟩:=hp
 refine FE (R:=fun h'=>FU h h' lo∧(DQ x s=0→FV h' lo m e r n nm E (BI at_ end_ x s))) Tryd.func57 rfl (by simp[Tryd.f57]) ?_
 have hr:Tryd.f57.results.toList=[.tmp 6]:=rfl
 generalize hKK:B9.top (fun ex s_1=>(ex=DT.normal∨ex=DT.ret)∧∃ vs,FA Tryd.prog s_1 Tryd.f57.results.toList=some vs∧GW vs=iv (DQ x s)∧FU h s_1.h lo∧(DQ x s=0→FV s_1.h lo m e r n nm E (BI at_ end_ x s)))=K
 have fin:∀ (T':Tr) H v,T'.get 6=iv v→v=DQ x s→FU h H lo→(v=0→FV H lo m e r n nm E (BI at_ end_ x s))→K.ap Tryd.prog call N .ret ⟨T',H⟩:=fun T' H v h6 hv ha hb=>by
  subst hv
  rw[← hKK]
  simp only[eE,↓reduceIte,Nat.reduceEqDiff,reduceCtorEq,↓eP,rP,Nat.reduceAdd,Nat.reduceLT,hr,h6]
  exact⟨ha,hb⟩
 show WK _ _ _ (.seq _ (.seq _ (.seq _ Q4))) _ _
 have hm1:=hp.c1
 obtain⟨hlt,l0,l1,l3,lr⟩:=hp.row hx
 have hdl:=QS x.kind
 have hlo:lo≤h.next∧h.floor≤h.next:=by have:=hp.lm;have:=hp.fl;omega
 have hrc:=Z3 (x:=x) hlo.2
 simp only[eE,↓reduceIte,Nat.reduceEqDiff,reduceCtorEq,↓eP,DG,Nat.reduceAdd,Nat.reduceLT,qH,jU,HW,CL,CK,hm1,JG hlt,lr,hrc]
 have hb:((h.push (.row DC 46 false false)).put h.next (.row (AI x) 46 false false)).get h.next=.row (AI x) 46 false false:=BN rfl (by show h.next<h.next+1;omega)
 have hp1:=((hp.retag (tag':=fun i=>if i=h.next then 11 else tag i) (fun i hi=>if_neg (by omega))).putNew (o:=.row (AI x) 46 false false) (o':=.row DC 46 false false))
 have ho:∀ i,i<h.next→((h.push (.row DC 46 false false)).put h.next (.row (AI x) 46 false false)).get i=h.get i:=fun i hi=>by rw[AM (by show h.next<h.next+1;omega) (by omega),AT hi]
 have hn1:((h.push (.row DC 46 false false)).put h.next (.row (AI x) 46 false false)).next=h.next+1:=rfl
 have hf1:((h.push (.row DC 46 false false)).put h.next (.row (AI x) 46 false false)).floor=h.floor:=rfl
 generalize (h.push (.row DC 46 false false)).put h.next (.row (AI x) 46 false false)=H1 at *
 have hfc:=hfind x.name H1 _ V _ hp1
 have lb1:AS 1 (H1.get h.next)=some (.string x.name):=by rw[hb];rfl
 have aft1:FU h H1 lo:=⟨fun i hi=>ho i (by omega),by omega,hf1⟩
 cases hf:E5 s.things x.name with
 | some t=>
  obtain⟨k,hk,_⟩:=tP hf
  have c1:decide ((k:Int)≥0)=true:=by simp
  rw[hk] at hfc
  simp only[eE,seval,↓eP,rP,lb1,hfc,c1]
  exact fin _ _ 31 (by simp only[Tr.get_put,if_true]) (by unfold DQ;rw[if_neg hd,if_pos (by rw[hf];rfl)]) aft1 fun h=>by cases h
 | none=>
  have hE1:¬ (E5 s.things x.name).isSome=true:=by rw[hf];simp
  rw[mD hf] at hfc
  have c1:decide ((-1:Int)≥0)=false:=rfl
  simp only[eE,seval,↓eP,rP,lb1,hfc]
  have cle:=eC hw (BM x.kind)
  refine Gb (b:=h.next) (end_:=end_) hp1 hx (by omega) hdl.2 hw hth hE (fun h'=>h87 _ h') ?_ ?_ ?_ ?_ hb (by omega) (if_pos rfl) (fun T' hc h6=>?_) fun T2 H2 tag2 V2 hc hT2 hp2 htg2 ho2 hn2 hf2=>?_
  ·simp only[eE,seval,↓eP,rP]
  ·simp only[eE,seval,↓eP,rP]
  ·simp only[eE,seval,↓eP,rP]
  ·simp only[eE,seval,↓eP,rP]
  ·exact fin _ _ 3 h6 (by unfold DQ;rw[if_neg hd,if_neg hE1,if_pos hc]) aft1 fun h=>by cases h
  ·have hq:=hw.q;have hv:=hw.v;have ht:=hw.t;have hu:=hw.u;have ho':=hw.o
   have g0:=hT2 0 (by decide) (by decide) (by decide)
   have g1:=hT2 1 (by decide) (by decide) (by decide)
   have g2:=hT2 2 (by decide) (by decide) (by decide)
   have g7:=hT2 7 (by decide) (by decide) (by decide)
   simp only[eE,seval,↓eP,rP] at g0 g1 g2 g7
   refine Df (b:=h.next) (x:=x) (kd:=BM x.kind) hp2 (by omega) hdl.2 hn ⟨by show s.queues.length<1000;omega,by show s.vars.length<1000;omega,by show s.tags.length<1000;omega,by show s.rules.length<1000;omega,by show s.on.length<1000;omega⟩ g0 g1 g2 g7
    (by rw[ho2 h.next (by omega) (.inr (if_pos rfl))];exact hb) (by omega) ((htg2 _ (by omega)).trans (if_pos rfl)) fun T3 H3 tag3 V3 h6 hp3 ho3 hn3 hf3=>?_
   have hS:BI at_ end_ x s=EX at_ end_ x s:=by unfold BI;rw[if_neg hd]
   refine fin _ _ 0 h6 (by unfold DQ;rw[if_neg hd,if_neg hE1,if_neg hc]) ⟨fun i hi=>by rw[ho3 i (by omega) hi,ho2 i (by omega) (.inl hi),ho i (by omega)],by omega,by omega⟩ fun _=>?_
   rw[hS]
   refine⟨tag3,V3,?_,d_ hw hd hc he⟩
   rw[Ii (at_:=at_) (x:=x) (by omega) hdl.2] at hp3
   exact hp3
theorem Ig {at_:Nat} {x:AC} (hp:FV h lo m e r n nm E s) (hx:s.rows[at_]?=some x) (hd:DI x.kind≠0) (hn:at_<30000000000000)
  (hfind:∀ (y:ByteArray) H tag V C,CG H lo m e r n nm E tag V C s→call 86 [qP m 0,.string y] H=some (iv (K6 s.things y 0),H)) :
  ∃ h',A8 Tryd.prog call N 58 [qP m 0,iv at_,iv (DI x.kind)] h=some (iv (CJ at_ x s),h')∧(FU h h' lo∧(CJ at_ x s=0→FV h' lo m e r n nm E (BO at_ x s))):=by
 obtain⟨tag,V,hp,hw⟩:=hp
 refine FE (R:=fun h'=>FU h h' lo∧(CJ at_ x s=0→FV h' lo m e r n nm E (BO at_ x s))) Tryd.func58 rfl (by simp[Tryd.f58]) ?_
 have hr:Tryd.f58.results.toList=[.tmp 6]:=rfl
 generalize hKK:B9.top (fun ex s_1=>(ex=DT.normal∨ex=DT.ret)∧∃ vs,FA Tryd.prog s_1 Tryd.f58.results.toList=some vs∧GW vs=iv (CJ at_ x s)∧FU h s_1.h lo∧(CJ at_ x s=0→FV s_1.h lo m e r n nm E (BO at_ x s)))=K
 have fin:∀ (T':Tr) H v,T'.get 6=iv v→v=CJ at_ x s→FU h H lo→(v=0→FV H lo m e r n nm E (BO at_ x s))→K.ap Tryd.prog call N .ret ⟨T',H⟩:=fun T' H v h6 hv ha hb=>by
  subst hv
  rw[← hKK]
  simp only[eE,↓reduceIte,Nat.reduceEqDiff,reduceCtorEq,↓eP,rP,Nat.reduceAdd,Nat.reduceLT,hr,h6]
  exact⟨ha,hb⟩
 have c1:=hp.c1
 have c9:=hp.c9
 obtain⟨hlt,l0,l1,l3,lr⟩:=hp.row hx
 have hfc:=hfind x.name h tag V _ hp
 have aft0:FU h h lo:=⟨fun _ _=>rfl,Nat.le_refl _,rfl⟩
 show WK _ _ _ (.seq _ _) _ _
 cases hf:E5 s.things x.name with
 | none=>
  rw[mD hf] at hfc
  have d1:decide ((-1:Int)<0)=true:=rfl
  simp only[eE,seval,↓eP,rP,HW,CL,CK,c1,JG hlt,l1,hfc]
  exact fin _ _ 32 (by simp only[Tr.get_put,if_true]) (by unfold CJ;rw[if_neg hd,hf]) aft0 fun h=>by cases h
 | some t=>
  obtain⟨k,hk,hkt⟩:=tP hf
  have hkl:=(List.getElem?_eq_some_iff.1 hkt).1
  rw[hk] at hfc
  have d1:decide ((k:Int)<0)=false:=by simp
  rcases hp.sl 8 (by decide) (by decide) with⟨h1,_⟩ | ⟨id,ex,hv8,hg,_,_,_⟩
  ·have:s.things.length=0:=h1
   omega
  ·have hg':h.get id=.row (M9 s.things++ex) 121 true false:=hg
   have hv8':V 8=qS id s.things.length AJ:=hv8
   have l1':AS (k*4+1) (h.get id)=some (iv t.kind):=by rw[hg'];exact TA (j:=1) ex hkt (by decide)
   have l2':AS (k*4+2) (h.get id)=some (iv t.num):=by rw[hg'];exact TA (j:=2) ex hkt (by decide)
   have l3':AS (k*4+3) (h.get id)=some (iv t.known):=by rw[hg'];exact TA (j:=3) ex hkt (by decide)
   cases d2:decide (t.known>(at_:Int)) with
   | true=>
    simp only[eE,seval,↓eP,rP,HW,OO,CL,CK,PM,c1,c9,hv8',JG hlt,TI hkl,bU,l1,l3',hfc,d1,d2]
    exact fin _ _ 32 (by simp only[Tr.get_put,if_true]) (by unfold CJ;rw[if_neg hd,hf];simp only;rw[if_pos (by simpa using d2)]) aft0 fun h=>by cases h
   | false=>
    cases d3:(t.kind != DI x.kind) with
    | true=>
     simp only[eE,seval,↓eP,rP,HW,OO,CL,CK,PM,c1,c9,hv8',JG hlt,TI hkl,bU,kW,l1,l3',l1',hfc,d1,d2,d3]
     exact fin _ _ 33 (by simp only[Tr.get_put,if_true]) (by unfold CJ;rw[if_neg hd,hf];simp only;rw[if_neg (by simpa using d2),if_pos (by simpa using d3)]) aft0 fun h=>by cases h
    | false=>
     have hst:=F5 (off:=at_*5+3) CQ (v:=iv t.num) rfl rfl hp.rows (by rw[JN];have:=hp.len;omega) (by have:=hp.fl;have:=hp.lr.1;omega)
     rw[TM hx] at hst
     have hp3:=hp.rowsW (l:=E_ s.rows at_ t.num) LG
     simp only[eE,seval,↓eP,rP,HW,OO,CL,CK,PM,c1,c9,hv8',JG hlt,TI hkl,bU,kW,l1,l3',l1',hfc,d1,d2,d3]
     refine WK.quiet (by kernel_rfl) ?_
     simp only[eE,seval,↓eP,DG,E9,KM,DA,C9,HW,OO,CL,CK,PM,c1,c9,hv8',JG hlt,TI hkl,vU,l2',hst]
     refine fin _ _ 0 (by simp only[Tr.get_put,if_true]) (by unfold CJ;rw[if_neg hd,hf];simp only;rw[if_neg (by simpa using d2),if_neg (by simpa using d3)]) ⟨fun i hi=>AM hp.lr.2 (by have:=hp.lr;omega),Nat.le_refl _,rfl⟩ fun _=>?_
     have hS:BO at_ x s={ s with rows:=E_ s.rows at_ t.num }:=by unfold BO;rw[if_neg hd,hf]
     rw[hS]
     exact⟨tag,V,hp3,⟨hw.q,hw.v,hw.t,hw.u,hw.o,hw.th⟩⟩
theorem Hj {at_:Nat} {x:AC} (hp:FV h lo m e r n nm E s) (hx:s.rows[at_]?=some x) (hev:C2 x.kind=true) (hn:at_<30000000000000) (hxn:x.kind≠10→0≤x.n∧x.n<s.on.length) :
  ∃ h',A8 Tryd.prog call N 60 [qP m 0,iv at_] h=some (iv (CV x s),h')∧(FU h h' lo∧(CV x s=0→FV h' lo m e r n nm E (CY at_ x s))):=by
 obtain⟨tag,V,hp,hw⟩:=hp
 refine FE (R:=fun h'=>FU h h' lo∧(CV x s=0→FV h' lo m e r n nm E (CY at_ x s))) Tryd.func60 rfl (by simp[Tryd.f60]) ?_
 have hr:Tryd.f60.results.toList=[.tmp 4]:=rfl
 generalize hKK:B9.top (fun ex s_1=>(ex=DT.normal∨ex=DT.ret)∧∃ vs,FA Tryd.prog s_1 Tryd.f60.results.toList=some vs∧GW vs=iv (CV x s)∧FU h s_1.h lo∧(CV x s=0→FV s_1.h lo m e r n nm E (CY at_ x s)))=K
 have fin:∀ (T':Tr) H v,T'.get 4=iv v→v=CV x s→FU h H lo→(v=0→FV H lo m e r n nm E (CY at_ x s))→K.ap Tryd.prog call N .ret ⟨T',H⟩:=fun T' H v h6 hv ha hb=>by
  subst hv
  rw[← hKK]
  simp only[eE,↓reduceIte,Nat.reduceEqDiff,reduceCtorEq,↓eP,rP,Nat.reduceAdd,Nat.reduceLT,hr,h6]
  exact⟨ha,hb⟩
 have hm1:=hp.c1
 obtain⟨hlt,l0,l1,l3,lr⟩:=hp.row hx
 have hlo:lo≤h.next∧h.floor≤h.next:=by have:=hp.lm;have:=hp.fl;omega
 have hrc:=Z3 (x:=x) hlo.2
 have w1:IntKind.i64.wrap ((at_:Int)+1)=(at_:Int)+1:=B0 (by omega) (by omega)
 show WK _ _ _ (.seq _ (.seq _ (.seq (.seq _ (.cond _ _ _)) _))) _ _
 simp only[eE,↓reduceIte,Nat.reduceEqDiff,reduceCtorEq,↓eP,DG,Nat.reduceAdd,Nat.reduceLT,qH,jU,HW,CL,CK,hm1,JG hlt,lr,hrc]
 have hb:((h.push (.row DC 46 false false)).put h.next (.row (AI x) 46 false false)).get h.next=.row (AI x) 46 false false:=BN rfl (by show h.next<h.next+1;omega)
 have hp1:=hp.putNew (o:=.row (AI x) 46 false false) (o':=.row DC 46 false false)
 have ho:∀ i,i<h.next→((h.push (.row DC 46 false false)).put h.next (.row (AI x) 46 false false)).get i=h.get i:=fun i hi=>by rw[AM (by show h.next<h.next+1;omega) (by omega),AT hi]
 have hn1:((h.push (.row DC 46 false false)).put h.next (.row (AI x) 46 false false)).next=h.next+1:=rfl
 have hf1:((h.push (.row DC 46 false false)).put h.next (.row (AI x) 46 false false)).floor=h.floor:=rfl
 generalize (h.push (.row DC 46 false false)).put h.next (.row (AI x) 46 false false)=H1 at *
 have lb0:AS 0 (H1.get h.next)=some (iv x.kind):=by rw[hb];rfl
 have lb3:AS 3 (H1.get h.next)=some (iv x.n):=by rw[hb];rfl
 have aft1:FU h H1 lo:=⟨fun i hi=>ho i (by omega),by omega,hf1⟩
 have hev':¬ C2 x.kind=false:=by rw[hev];simp
 have c7:=hp1.c7
 have c6:=hp1.c6
 by_cases h10:x.kind=10
 ·have d0:(x.kind==10)=true:=by simpa using h10
  cases d1:decide (s.miss≥0) with
  | true=>
   simp only[eE,seval,↓eP,rP,HW,HP,lb0,d0,c7,d1]
   exact fin _ _ 31 (by simp only[Tr.get_put,if_true]) (by unfold CV;rw[if_neg hev',if_pos h10,if_pos (by simpa using d1)]) aft1 fun h=>by cases h
  | false=>
   have sM:=hp1.stM (x:=(at_:Int)+1)
   simp only[eE,seval,↓eP,DG,E9,KM,DA,C9,HW,HP,lb0,d0,c7,d1,w1,sM]
   refine fin _ _ 0 (by simp only[Tr.get_put,if_true]) (by unfold CV;rw[if_neg hev',if_pos h10,if_neg (by simpa using d1)]) ⟨fun i hi=>?_,by show h.next≤H1.next;omega,hf1⟩ fun _=>?_
   ·rw[AM hp1.lm.2 (by have:=hp1.lm;omega)];exact ho i (by omega)
   ·have hS:CY at_ x s={ s with miss:=(at_:Int)+1 }:=by unfold CY;rw[if_neg hev',if_pos h10]
    rw[hS]
    exact⟨tag,V,hp1.cellW (C':=I_ s) (miss':=(at_:Int)+1),⟨hw.q,hw.v,hw.t,hw.u,hw.o,hw.th⟩⟩
 ·have d0:(x.kind==10)=false:=by simpa using h10
  obtain⟨hx0,hx1⟩:=hxn h10
  obtain⟨v,hv⟩:∃ v,s.on[x.n.toNat]?=some v:=⟨_,List.getElem?_eq_getElem (by omega)⟩
  rcases hp1.sl 6 (by decide) (by decide) with⟨h1,_⟩ | ⟨id,ex,hv6,hg,hl1,hl2,htg⟩
  ·have:s.on.length=0:=h1
   omega
  ·have hg':H1.get id=.row (ints s.on++ex) 3 true false:=hg
   have hv6':V 6=qS id s.on.length AJ:=hv6
   have hon:=iA (l:=s.on) (ex:=ex) (ty:=3) (g:=true) (ro:=false) hv
   rw[← hg'] at hon
   have hix:CU Tryd.prog 28 (qS id s.on.length AJ) (iv x.n)=some (qP id x.n.toNat):=Mq hx0 hx1
   cases d1:decide (v≥0) with
   | true=>
    simp only[eE,seval,↓eP,rP,lb0,d0]
    refine WK.quiet (by kernel_rfl) ?_
    simp only[eE,seval,↓eP,rP,HW,HN,CX,c6,hv6',lb3,hix,hon,d1]
    exact fin _ _ 31 (by simp only[Tr.get_put,if_true]) (by unfold CV;rw[if_neg hev',if_neg h10,hv];simp only;rw[if_pos (by simpa using d1)]) aft1 fun h=>by cases h
   | false=>
    have hlen:=FP s.on
    have hst:=F5 (off:=x.n.toNat) CQ (v:=iv ((at_:Int)+1)) rfl rfl hg' (by rw[List.length_append,hlen];omega) (by have:=hp1.fl;omega)
    rw[List.set_append_left _ _ (by omega),VI] at hst
    have hpW:=hp1.slotW (j:=6) (s':={ s with on:=s.on.set x.n.toNat ((at_:Int)+1) }) (by decide) (by decide) (ex:=ex) hv6 htg ⟨hl1,hl2⟩ rfl rfl (by simp[EU]) (fun i hi=>by
     unfold EU FD
     split <;> simp_all)
    simp only[eE,seval,↓eP,rP,lb0,d0]
    refine WK.quiet (by kernel_rfl) ?_
    simp only[eE,seval,↓eP,rP,HW,HN,CX,c6,hv6',lb3,hix,hon,d1]
    refine WK.quiet (by kernel_rfl) ?_
    simp only[eE,seval,↓eP,DG,E9,KM,DA,C9,HW,HN,CX,c6,hv6',lb3,hix,w1,hst]
    refine fin _ _ 0 (by simp only[Tr.get_put,if_true]) (by unfold CV;rw[if_neg hev',if_neg h10,hv];simp only;rw[if_neg (by simpa using d1)]) ⟨fun i hi=>?_,by show h.next≤H1.next;omega,hf1⟩ fun _=>?_
    ·rw[AM hl2 (by omega)];exact ho i (by have:=hp.lm;omega)
    ·have hS:CY at_ x s={ s with on:=s.on.set x.n.toNat ((at_:Int)+1) }:=by unfold CY;rw[if_neg hev',if_neg h10]
     rw[hS]
     exact⟨tag,V,hpW,⟨hw.q,hw.v,hw.t,hw.u,by simp only[List.length_set];exact hw.o,hw.th⟩⟩
end
def AZ (lo:Nat) (h:AA) (v:Value) (n w:Nat) (cs:List Value):Prop:=
 cs.length=n*w∧∃ a c,v=.slice a n c∧((n=0∧a=none)∨∃ id off row ty g ro,a=some ⟨id,off,none⟩∧h.get id=.row row ty g ro∧(lo≤id∧id<h.next)∧(row.drop off).take (n*w)=cs∧(0<lo→ro=false))
section
variable {lo:Nat} {h h':AA} {v:Value} {n w:Nat} {cs:List Value}
theorem AZ.mono (hc:AZ lo h v n w cs) (hn:h.next≤h'.next) (hg:∀ i,lo≤i→i<h.next→h'.get i=h.get i):AZ lo h' v n w cs:=by
 obtain⟨hl,a,c,rfl,h1 | ⟨id,off,row,ty,g,ro,rfl,h1,h2,h3⟩⟩:=hc
 ·exact⟨hl,_,_,rfl,.inl h1⟩
 ·exact⟨hl,_,_,rfl,.inr ⟨id,off,row,ty,g,ro,rfl,by rw[hg id h2.1 h2.2];exact h1,by omega,h3⟩⟩
theorem AZ.weak (hc:AZ lo h v n w cs) {lo':Nat} (hl:lo'≤lo):AZ lo' h v n w cs:=by
 obtain⟨hl',a,c,rfl,h1 | ⟨id,off,row,ty,g,ro,rfl,h1,h2,h3⟩⟩:=hc
 ·exact⟨hl',_,_,rfl,.inl h1⟩
 ·exact⟨hl',_,_,rfl,.inr ⟨id,off,row,ty,g,ro,rfl,h1,by omega,h3.1,fun h=>h3.2 (by omega)⟩⟩
theorem AZ.len (hc:AZ lo h v n w cs) {t e:TypeId} (ht:Tryd.prog.underlying t=some (.slice e)) {h':AA}:CC Tryd.prog h' t v=some (iv (n:Int)):=by
 obtain⟨_,a,c,rfl,_⟩:=hc
 simp[CC,ht]
theorem AZ.idx (hc:AZ lo h v n w cs) {t e:TypeId} (ht:Tryd.prog.underlying t=some (.slice e)) (he:BQ Tryd.prog e=some w) {i:Nat} (hi:i<n) :
  ∃ id p,CU Tryd.prog t v (iv (i:Int))=some (qP id p)∧id<h.next∧∀ j,j<w→AS (p+j) (h.get id)=cs[i*w+j]?:=by
 obtain⟨hl,a,c,rfl,⟨h0,_⟩ | ⟨id,off,row,ty,g,ro,rfl,h1,h2,h3⟩⟩:=hc
 ·omega
 ·refine⟨id,off+i*w,?_,h2.2,fun j hj=>?_⟩
  ·simp only[CU,ht,he,CF]
   rw[if_pos (by omega)]
   simp
  ·have hlt:i*w+j<n*w:=by
    have:(i+1)*w≤n*w:=Nat.mul_le_mul_right w hi
    rw[Nat.add_mul] at this
    omega
   rw[h1,← h3.1,List.getElem?_take_of_lt hlt,List.getElem?_drop]
   simp only[AS]
   congr 1
   omega
theorem AZ.whole (hc:AZ lo h v n w cs) {t e:TypeId} (ht:Tryd.prog.underlying t=some (.slice e)) (he:BQ Tryd.prog e=some w) {i:Nat} (hi:i<n) :
  ∃ id p,CU Tryd.prog t v (iv (i:Int))=some (qP id p)∧id<h.next∧CB w p (h.get id)=some (.agg ((cs.drop (i*w)).take w).toArray):=by
 obtain⟨hl,a,c,rfl,⟨h0,_⟩ | ⟨id,off,row,ty,g,ro,rfl,h1,h2,h3⟩⟩:=hc
 ·omega
 ·have hle:i*w+w≤n*w:=by
   have:(i+1)*w≤n*w:=Nat.mul_le_mul_right w hi
   rw[Nat.add_mul] at this
   omega
  have e1:(cs.drop (i*w)).take w=(row.drop (off+i*w)).take w:=by
   rw[← h3.1,List.drop_take,List.drop_drop,List.take_take]
   congr 1
   omega
  have e2:((cs.drop (i*w)).take w).length=w:=by
   rw[List.length_take,List.length_drop,hl]
   omega
  refine⟨id,off+i*w,?_,h2.2,?_⟩
  ·simp only[CU,ht,he,CF]
   rw[if_pos (by omega)]
   simp
  ·rw[h1]
   simp only[CB,F2,← e1,e2,if_true]
theorem AZ.src (hc:AZ lo h v n w cs):C_ h w n v=some cs:=by
 obtain⟨hl,a,c,rfl,⟨h0,rfl⟩ | ⟨id,off,row,ty,g,ro,rfl,h1,h2,h3⟩⟩:=hc
 ·subst h0
  rw[Nat.zero_mul] at hl
  rw[List.length_eq_zero_iff.1 hl]
  rfl
 ·by_cases h0:n=0
  ·subst h0
   rw[Nat.zero_mul] at hl
   rw[List.length_eq_zero_iff.1 hl]
   simp[C_]
  ·simp only[C_,h0,if_false,h1,F2,h3.1,hl,if_true]
theorem AZ.nil (lo:Nat) (h:AA) (w:Nat):AZ lo h (Z0) 0 w []:=⟨by simp,none,0,rfl,.inl ⟨rfl,rfl⟩⟩
theorem AZ.rowR {r:Nat} {ty:TypeId} {g ro:Bool} {ex:List Value} {c:Nat} (hg:h.get r=.row (cs++ex) ty g ro) (hr:lo≤r∧r<h.next) (hl:cs.length=n*w) (hro:0<lo→ro=false):AZ lo h (qS r n c) n w cs:=
 ⟨hl,_,_,rfl,.inr ⟨r,0,_,_,_,_,rfl,hg,hr,by rw[List.drop_zero,List.take_append_of_le_length (by omega),List.take_of_length_le (by omega)],hro⟩⟩
theorem AZ.row {r:Nat} {ty:TypeId} {g:Bool} {ex:List Value} {c:Nat} (hg:h.get r=.row (cs++ex) ty g false) (hr:lo≤r∧r<h.next) (hl:cs.length=n*w):AZ lo h (qS r n c) n w cs:=AZ.rowR hg hr hl fun _=>rfl
theorem AZ.one (hc:AZ lo h v n w cs):one v=true:=by
 obtain⟨_,a,c,rfl,_⟩:=hc
 rfl
theorem AZ.vcells (hc:AZ lo h v n w cs):v.cells=#[v]:=by
 obtain⟨_,a,c,rfl,_⟩:=hc
 rfl
theorem EN.cells {tag:Nat→Nat} {j:Nat} {ty:TypeId} (hs:EN h lo tag j v n cs ty) (hl:cs.length=n*w):AZ lo h v n w cs:=by
 rcases hs with⟨rfl,rfl,rfl⟩ | ⟨id,ex,rfl,h2,h3,h4,h5⟩
 ·exact AZ.nil lo h w
 ·exact AZ.row h2 ⟨h3,h4⟩ hl
end
def AK (lo:Nat) (h:AA) (v:Value) (l:List Int):Prop:=AZ lo h v l.length 1 (ints l)
section
variable {lo:Nat} {h h':AA} {v:Value} {l:List Int}
theorem AK.mono (hc:AK lo h v l) (hn:h.next≤h'.next) (hg:∀ i,lo≤i→i<h.next→h'.get i=h.get i):AK lo h' v l:=AZ.mono hc hn hg
theorem AK.weak (hc:AK lo h v l) {lo':Nat} (hl:lo'≤lo):AK lo' h v l:=AZ.weak hc hl
theorem AK.len (hc:AK lo h v l) {h':AA}:CC Tryd.prog h' 28 v=some (iv (l.length:Int)):=AZ.len hc Tryd.underlying28
theorem AK.get (hc:AK lo h v l) {i:Nat} {x:Int} (hx:l[i]?=some x):∃ id p,CU Tryd.prog 28 v (iv (i:Int))=some (qP id p)∧id<h.next∧AS p (h.get id)=some (iv x):=by
 obtain⟨id,p,h1,h2,h3⟩:=AZ.idx hc Tryd.underlying28 CQ (List.getElem?_eq_some_iff.1 hx).1
 refine⟨id,p,h1,h2,?_⟩
 have:=h3 0 (by decide)
 rw[Nat.add_zero] at this
 rw[this,Nat.mul_one,Nat.add_zero,TX,hx]
 rfl
theorem AK.row {r:Nat} {ty:TypeId} {g:Bool} {ex:List Value} {c n:Nat} (hg:h.get r=.row (ints l++ex) ty g false) (hr:lo≤r∧r<h.next) (hn:n=l.length):AK lo h (qS r n c) l:=by
 subst hn
 exact AZ.row hg hr (by rw[FP,Nat.mul_one])
theorem AK.row' {r:Nat} {ty:TypeId} {g:Bool} {c n:Nat} (hg:h.get r=.row (ints l) ty g false) (hr:lo≤r∧r<h.next) (hn:n=l.length):AK lo h (qS r n c) l:=AK.row (ex:=[]) (by rw[List.append_nil];exact hg) hr hn
end
def HT (lo:Nat) (h:AA) (v:Value) (l:List AC):Prop:=AV h v l∧AZ lo h v l.length 5 (l.flatMap AI)
theorem HT.of {lo:Nat} {h:AA} {v:Value} {l:List AC} (hc:AZ lo h v l.length 5 (l.flatMap AI)):HT lo h v l:=by
 refine⟨?_,hc⟩
 obtain⟨hl,a,c,rfl,⟨h0,rfl⟩ | ⟨id,off,row,ty,g,ro,rfl,h1,h2,h3⟩⟩:=hc
 ·exact⟨_,_,rfl,.inl ⟨List.length_eq_zero_iff.1 h0,rfl⟩⟩
 ·refine⟨_,_,rfl,.inr ⟨id,off,row,ty,g,ro,rfl,h1,h2.2,fun k r hk=>?_⟩⟩
  have hlt:=(List.getElem?_eq_some_iff.1 hk).1
  rw[← N5 hk,← h3.1,List.drop_take,List.drop_drop,List.take_take]
  congr 1
  have:k*5+5≤l.length*5:=by omega
  omega
theorem HT.mono {lo:Nat} {h h':AA} {v:Value} {l:List AC} (hc:HT lo h v l) (hn:h.next≤h'.next) (hg:∀ i,lo≤i→i<h.next→h'.get i=h.get i):HT lo h' v l:=HT.of (hc.2.mono hn hg)
theorem AV.cells {h:AA} {v:Value} {l:List AC} (hv:AV h v l):HT 0 h v l:=by
 have hs:=JN l
 refine HT.of ⟨hs,?_⟩
 obtain⟨a,c,rfl,⟨rfl,rfl⟩ | ⟨id,off,cs,ty,g,ro,rfl,hg,hid,hc⟩⟩:=hv
 ·exact⟨_,_,rfl,.inl ⟨rfl,rfl⟩⟩
 ·exact⟨_,_,rfl,.inr ⟨id,off,cs,ty,g,ro,rfl,hg,⟨Nat.zero_le _,hid⟩,eF l cs off hc,fun h=>absurd h (Nat.lt_irrefl 0)⟩⟩
def C1 (lo:Nat) (h:AA) (pv:Value) (nm:ByteArray) (s:AP):Prop:=
 ∃ vr vq vv vt vu vo,pv=.agg #[.string nm,vr,vq,vv,vt,vu,vo,iv s.miss]∧HT lo h vr s.rows∧AZ lo h vq s.queues.length 2 (IF s.queues)∧AZ lo h vv s.vars.length 1 (D3 s.vars)∧AZ lo h vt s.tags.length 1 (D3 s.tags)∧AK lo h vu s.rules∧AK lo h vo s.on
theorem C1.mono {lo:Nat} {h h':AA} {pv:Value} {nm:ByteArray} {s:AP} (hp:C1 lo h pv nm s) (hn:h.next≤h'.next) (hg:∀ i,lo≤i→i<h.next→h'.get i=h.get i):C1 lo h' pv nm s:=by
 obtain⟨vr,vq,vv,vt,vu,vo,h1,h2,h3,h4,h5,h6,h7⟩:=hp
 exact⟨vr,vq,vv,vt,vu,vo,h1,h2.mono hn hg,h3.mono hn hg,h4.mono hn hg,h5.mono hn hg,h6.mono hn hg,h7.mono hn hg⟩
theorem AV.one {h:AA} {v:Value} {l:List AC} (hv:AV h v l):one v=true:=by
 obtain⟨a,c,rfl,_⟩:=hv
 rfl
theorem AV.vcells {h:AA} {v:Value} {l:List AC} (hv:AV h v l):v.cells=#[v]:=by
 obtain⟨a,c,rfl,_⟩:=hv
 rfl
theorem kZ {a b c d e f g i:Value}:(Value.agg #[a,b,c,d,e,f,g,i]).cells.toList=[a,b,c,d,e,f,g,i]:=rfl
section
variable {call:AQ} {N:Nat} {h:AA}
theorem Jp {a b:Int} (hb:0≤b∧b≤4611686018427387904) (ha:0≤a∧a≤4611686018427387904):A8 Tryd.prog call N 62 [iv a,iv b] h=some (iv (BF a b),h):=by
 refine D_ Tryd.func62 rfl (by simp[Tryd.f62]) ?_
 have hr:Tryd.f62.results.toList=[.tmp 4]:=rfl
 have w1:IntKind.i64.wrap (4611686018427387904-b)=4611686018427387904-b:=B0 (by omega) (by omega)
 unfold BF
 cases d:decide (a>4611686018427387904-b) with
 | true=>
  rw[if_pos (by simpa using d)]
  simp only[eE,seval,↓eP,rP,hr,w1,d]
 | false=>
  have d':¬ a>4611686018427387904-b:=by simpa using d
  have w2:IntKind.i64.wrap (a+b)=a+b:=B0 (by omega) (by omega)
  rw[if_neg d']
  simp only[eE,seval,↓eP,rP,hr,w1,d,w2]
theorem qT {a b:Int} (h:AA) (hb:0≤b∧b≤4611686018427387904) (ha:0≤a∧a≤4611686018427387904):L1 62 [iv a,iv b] h=some (iv (BF a b),h):=EY (GK rfl rfl) rfl rfl rfl ⟨_,Jp hb ha⟩
theorem Bp {vr v0 vq vv vt vu vo v7 ve vs:Value} {rows:List AC} {E S:List Int} {row q:Nat} (hone:one v0=true∧one vq=true∧one vv=true∧one vt=true∧one vu=true∧one vo=true∧one v7=true) (hv:AV h vr rows) {le ls:Nat} (he:AK le h ve E) (hS:AK ls h vs S) (hs:CZ S) (hE:E[row]?=some (q:Int)) (hrq:row≤q) (hq:q≤rows.length) (hlen:rows.length<30000000000000) (hN:rows.length+3<N)
  (hcalls:∀ x∈(rows.drop row).take (q-row),x.kind=22→0≤x.n∧x.n<S.length) (h83:∀ a b h',0≤b∧b≤4611686018427387904→0≤a∧a≤4611686018427387904→call 62 [iv a,iv b] h'=some (iv (BF a b),h')) :
  ∃ h',A8 Tryd.prog call N 63 [.agg #[v0,vr,vq,vv,vt,vu,vo,v7],ve,vs,iv row] h=some (iv (G6 S ((rows.drop row).take (q-row)) 0),h')∧∀ i,i<h.next→h'.get i=h.get i:=by
 refine FE (R:=fun h'=>∀ i,i<h.next→h'.get i=h.get i) Tryd.func63 rfl (by simp[Tryd.f63]) ?_
 have hr:Tryd.f63.results.toList=[.tmp 8]:=rfl
 have hall:[v0,vr,vq,vv,vt,vu,vo,v7].all one=true:=by
  obtain⟨a,b,c,d,e,f,g⟩:=hone
  simp[a,b,c,d,e,f,g,hv.one]
 have hold:∀ i,i<h.next→(h.push (.row [v0,vr,vq,vv,vt,vu,vo,v7] 30 false false)).get i=h.get i:=fun i hi=>AT hi
 have hnew:(h.push (.row [v0,vr,vq,vv,vt,vu,vo,v7] 30 false false)).get h.next=.row [v0,vr,vq,vv,vt,vu,vo,v7] 30 false false:=BP
 have hnx:(h.push (.row [v0,vr,vq,vv,vt,vu,vo,v7] 30 false false)).next=h.next+1:=rfl
 simp only[eE,seval,↓eP,DG,DA,C9,hr,kZ,hall,HR]
 generalize h.push (.row [v0,vr,vq,vv,vt,vu,vo,v7] 30 false false)=H at *
 have hvH:=hv.mono (h':=H) (by omega) hold
 have heH:=he.mono (h':=H) (by omega) fun i _ hi=>hold i hi
 have hSH:=hS.mono (h':=H) (by omega) fun i _ hi=>hold i hi
 obtain⟨ie,pe,e1,e2,e3⟩:=heH.get hE
 have hl1:AS 1 (H.get h.next)=some vr:=by rw[hnew];rfl
 have hseg:((rows.drop row).take (q-row)).length=q-row:=by rw[List.length_take,List.length_drop];omega
 refine WK.loop (fun i s=>s.h=H∧s.T.get 1=ve∧s.T.get 2=vs∧s.T.get 3=iv row∧s.T.get 4=qP h.next 0∧s.T.get 10=iv ((row+i:Nat):Int)∧i≤q-row∧∃ n:Int,s.T.get 9=iv n∧0≤n∧n≤4611686018427387904∧G6 S (((rows.drop row).take (q-row)).drop i) n=G6 S ((rows.drop row).take (q-row)) 0) (q-row) (by omega) ?_ ?_
 ·simp only[eE,↓reduceIte,Nat.reduceEqDiff,reduceCtorEq,↓eP,rP,Nat.reduceAdd,Nat.reduceLT]
  exact⟨rfl,by omega,by omega,rfl⟩
 ·rintro i ⟨T1,H1⟩ hi ⟨rfl,t1,t2,t3,t4,t10,hil,n,t9,hn0,hnB,hcn⟩
  simp only at t1 t2 t3 t4 t10 t9
  by_cases hlt:i<q-row
  ·have c1:decide (((row+i:Nat):Int)<(q:Int))=true:=by simp only[decide_eq_true_eq];omega
   have w1:IntKind.i64.wrap (((row+i:Nat):Int)+1)=((row+(i+1):Nat):Int):=by rw[B0 (by omega) (by omega)];omega
   obtain⟨x,hx⟩:∃ x,rows[row+i]?=some x:=⟨_,List.getElem?_eq_getElem (by omega)⟩
   obtain⟨id,p,e0,hid,l0,l1,l2,l3,l4,lr⟩:=hvH.row hx
   have hsx:((rows.drop row).take (q-row))[i]?=some x:=by rw[List.getElem?_take_of_lt hlt,List.getElem?_drop];exact hx
   have p1:=IN (a:=n) (b:=1) hn0 (by omega) (by omega)
   have h831:=fun hh=>h83 n 1 hh (by omega) ⟨hn0,hnB⟩
   have hdr:((rows.drop row).take (q-row)).drop i=x :: ((rows.drop row).take (q-row)).drop (i+1):=by
    obtain⟨hl,he⟩:=List.getElem?_eq_some_iff.1 hsx
    rw[List.drop_eq_getElem_cons hl,he]
   rw[hdr] at hcn
   change G6 S (((rows.drop row).take (q-row)).drop (i+1)) (if x.kind=22 then BF (BF n 1) (FG S x.n) else BF n 1)=_ at hcn
   cases d22:(x.kind==22) with
   | false=>
    rw[if_neg (by simpa using d22)] at hcn
    simp only[eE,seval,↓eP,rP,t1,t2,t3,t4,t9,t10,e1,e3,c1,h831,CL,CK,hl1,e0,l0,DP,d22,w1]
    exact⟨hlt,by omega,p1.1,p1.2,hcn⟩
   | true=>
    have h22:x.kind=22:=by simpa using d22
    rw[if_pos h22] at hcn
    obtain⟨n0,n1⟩:=hcalls x (List.mem_of_getElem? hsx) h22
    obtain⟨y,hy⟩:∃ y,S[x.n.toNat]?=some y:=⟨_,List.getElem?_eq_getElem (by omega)⟩
    obtain⟨is,ps,f1,f2,f3⟩:=hSH.get hy
    rw[Int.toNat_of_nonneg n0] at f1
    have hys:FG S x.n=y:=by unfold FG;rw[hy];rfl
    rw[hys] at hcn
    have hyb:0≤y∧y≤4611686018427387904:=hs y (List.mem_of_getElem? hy)
    have p2:=IN p1.1 hyb.1 hyb.2
    have h832:=fun hh=>h83 (BF n 1) y hh hyb p1
    simp only[eE,seval,↓eP,rP,t1,t2,t3,t4,t9,t10,e1,e3,c1,h831,h832,CL,CK,hl1,e0,l0,l3,DP,JP,d22,w1,f1,f3]
    exact⟨hlt,by omega,p2.1,p2.2,hcn⟩
  ·have c1:decide (((row+i:Nat):Int)<(q:Int))=false:=by simp only[decide_eq_false_iff_not];omega
   have hnn:n=G6 S ((rows.drop row).take (q-row)) 0:=by
    rw[← hcn,List.drop_of_length_le (by omega)]
    rfl
   subst hnn
   simp only[eE,seval,↓eP,rP,hr,t1,t2,t3,t4,t9,t10,e1,e3,c1]
   exact hold
end
theorem M8 {P:Program} {call:AQ} {n:Nat} {f:FuncId} {args:List Value} {h:AA} {fn:Func} {c:Code} {R:Value→AA→Prop} (hf:P.funcs[f]?=some fn) (hb:fn.body=some c) (hl:args.length≤fn.ntmps)
  (hw:WK P call n c ⟨IS 0 args .leaf,h⟩ (.top fun e s=>(e=.normal∨e=.ret)∧∃ vs,FA P s fn.results.toList=some vs∧R (GW vs) s.h)):∃ v h',A8 P call n f args h=some (v,h')∧R v h':=fV hf hb hl hw
theorem Lm {h:AA} {lo:Nat} {v:Value} {l:List Int} {x:Int} (hs:EN h lo (fun _=>1) 1 v l.length (ints l) 3) (hlo:lo≤h.next) (hf:h.floor≤lo) (hb:l.length<10000000) :
  ∃ v' h',DF Tryd.prog (h.push (.row [iv x] 3 false false)) 28 v (qS h.next 1 1)=some (v',h')∧EN h' lo (fun _=>1) 1 v' (l++[x]).length (ints (l++[x])) 3∧h'.floor=h.floor∧h.next≤h'.next∧∀ i,i<lo→h'.get i=h.get i:=by
 have hs':EN (h.push (.row [iv x] 3 false false)) lo (fun i=>if i=h.next then 0 else 1) 1 v l.length (ints l) 3:=hs.mono (by show h.next≤h.next+1;omega) (fun i hi=>if_neg (by omega)) fun i _ hi _=>AT hi
 obtain⟨v',h1,a1,a2,a3,a4,a5,a6,a7⟩:=OQ (et:=3) (w:=1) (c:=1) (sc:=1) (xs:=[iv x]) Tryd.underlying28 CQ LC JM rfl (by decide) (by decide) hs' ((FP _).trans (Nat.mul_one _).symm) (PE _) rfl rfl (by decide) (by decide) (by omega) (src:=h.next) BP (by show h.next<h.next+1;omega) hf (by simp)
 have hnx:h1.next=h.next+2:=a4
 refine⟨v',h1,a1,?_,a3,by omega,fun i hi=>?_⟩
 ·rcases a2 with a2 | a2
  ·rcases a2 with⟨h2,_⟩ | ⟨id,ex,b1,b2,b3,b4,b5⟩
   ·omega
   ·refine .inr ⟨id,ex,?_,?_,b3,b4,rfl⟩
    ·rw[b1,List.length_append];rfl
    ·rw[b2];simp[ints]
  ·exact absurd (show lo≤h.next+1 by omega) a2
 ·rw[a7 i (by show i<h.next+1;omega) (by omega),AT (by omega)]
def JV (rows:List AC) (E:List Int):List Int→List Int→List Int
 | [],S=>S
 | ru :: rest,S=>JV rows E rest (S++[FJ rows E S ru.toNat])
def blk (rows:List AC) (E:List Int) (row:Nat):List AC:=(rows.drop row).take (((E[row]?).getD 0).toNat-row)
structure UG (rows:List AC) (E rules:List Int):Prop where
 lay:N2 rows E rules
 ahead:∀ (i:Nat) (ru:Int),rules[i]?=some ru→∀ x∈blk rows E ru.toNat,x.kind=22→x.n<i
theorem N2.end {rows:List AC} {E rules:List Int} (hL:N2 rows E rules) {i:Nat} (hi:i<rows.length):∃ q:Nat,E[i]?=some (q:Int)∧i≤q∧q≤rows.length∧blk rows E i=(rows.drop i).take (q-i):=by
 obtain⟨q,h1,h2,h3⟩:=hL.ends i hi
 exact⟨q,h1,by omega,h3,by unfold blk;rw[h1];rfl⟩
section
variable {call:AQ} {N:Nat} {h:AA}
theorem yX {vr v0 vq vv vt vu vo v7 ve:Value} {rows:List AC} {E rules:List Int} (hone:one v0=true∧one vq=true∧one vv=true∧one vt=true∧one vo=true∧one v7=true) (hv:AV h vr rows) {le lu:Nat} (he:AK le h ve E) (hu:AK lu h vu rules) (hL:UG rows E rules) (hfl:h.floor≤h.next) (hN:rules.length+3<N)
  (h63:∀ vs S row H,(∀ i,i<h.next→H.get i=h.get i)→h.next≤H.next→AK (h.next+1) H vs S→CZ S→row<rows.length→(∀ x∈blk rows E row,x.kind=22→0≤x.n∧x.n<S.length)→call 63 [.agg #[v0,vr,vq,vv,vt,vu,vo,v7],ve,vs,iv (row:Int)] H=some (iv (FJ rows E S row),H)) :
  ∃ v h',A8 Tryd.prog call N 61 [.agg #[v0,vr,vq,vv,vt,vu,vo,v7],ve] h=some (v,h')∧(AK h.next h' v (JV rows E rules [])∧h'.floor=h.floor∧h.next≤h'.next∧∀ i,i<h.next→h'.get i=h.get i):=by
 refine M8 (R:=fun v h'=>AK h.next h' v (JV rows E rules [])∧h'.floor=h.floor∧h.next≤h'.next∧∀ i,i<h.next→h'.get i=h.get i) Tryd.func61 rfl (by simp[Tryd.f61]) ?_
 have hr:Tryd.f61.results.toList=[.tmp 4]:=rfl
 have hall:[v0,vr,vq,vv,vt,vu,vo,v7].all one=true:=by
  obtain⟨a,b,c,d,e,f⟩:=hone
  simp[a,b,c,d,e,f,hv.one,AZ.one hu]
 have hold:∀ i,i<h.next→(h.push (.row [v0,vr,vq,vv,vt,vu,vo,v7] 30 false false)).get i=h.get i:=fun i hi=>AT hi
 have hnew:(h.push (.row [v0,vr,vq,vv,vt,vu,vo,v7] 30 false false)).get h.next=.row [v0,vr,vq,vv,vt,vu,vo,v7] 30 false false:=BP
 have hnx:(h.push (.row [v0,vr,vq,vv,vt,vu,vo,v7] 30 false false)).next=h.next+1:=rfl
 have hfx:(h.push (.row [v0,vr,vq,vv,vt,vu,vo,v7] 30 false false)).floor=h.floor:=rfl
 simp only[eE,seval,↓eP,DG,DA,C9,hr,kZ,hall,HR]
 generalize h.push (.row [v0,vr,vq,vv,vt,vu,vo,v7] 30 false false)=H at *
 refine WK.loop (fun i s=>s.T.get 1=ve∧s.T.get 2=qP h.next 0∧s.T.get 6=iv i∧i≤rules.length∧s.h.floor=h.floor∧h.next+1≤s.h.next∧(∀ i,i<h.next+1→s.h.get i=H.get i)∧∃ S:List Int,EN s.h (h.next+1) (fun _=>1) 1 (s.T.get 5) S.length (ints S) 3∧CZ S∧S.length=i∧JV rows E (rules.drop i) S=JV rows E rules []) rules.length (by omega) ?_ ?_
 ·simp only[eE,↓reduceIte,Nat.reduceEqDiff,reduceCtorEq,↓eP,rP,Nat.reduceAdd,Nat.reduceLT]
  exact⟨rfl,hfx,by omega,fun _ _=>trivial,[],.inl ⟨rfl,rfl,rfl⟩,(fun x hx=>by cases hx),rfl,rfl⟩
 ·rintro i ⟨T1,H1⟩ hi ⟨t1,t2,t6,hil,hf1,hn1,ho1,S,hsl,hSS,hSl,hcn⟩
  simp only at t1 t2 t6 hf1 hn1 ho1 hsl
  have ho2:∀ i,i<h.next→H1.get i=h.get i:=fun i hi=>(ho1 i (by omega)).trans (hold i hi)
  have hg:H1.get h.next=.row [v0,vr,vq,vv,vt,vu,vo,v7] 30 false false:=(ho1 _ (by omega)).trans hnew
  have hSI:AK (h.next+1) H1 (T1.get 5) S:=EN.cells hsl ((FP _).trans (Nat.mul_one _).symm)
  have hu1:=hu.mono (h':=H1) (by omega) fun i _ hi=>ho2 i hi
  have hulen:=fun h'=>hu.len (h':=h')
  have hl5:AS 5 (H1.get h.next)=some vu:=by rw[hg];rfl
  have hl8:CB 8 0 (H1.get h.next)=some (.agg #[v0,vr,vq,vv,vt,vu,vo,v7]):=by rw[hg];rfl
  by_cases hlt:i<rules.length
  ·have c1:decide ((i:Int)<(rules.length:Int))=true:=by simp only[decide_eq_true_eq];omega
   have w1:IntKind.i64.wrap ((i:Int)+1)=((i+1:Nat):Int):=B0 (by have:=hL.lay.nrules;omega) (by have:=hL.lay.nrules;omega)
   obtain⟨ru,hru⟩:∃ ru,rules[i]?=some ru:=⟨_,List.getElem?_eq_getElem hlt⟩
   obtain⟨r0,r1⟩:=hL.lay.rl ru (List.mem_of_getElem? hru)
   obtain⟨iu,pu,f1,f2,f3⟩:=hu1.get hru
   have hc:=h63 (T1.get 5) S ru.toNat H1 ho2 (by omega) hSI hSS (by omega) (fun x hx h22=>by
    have h1:=hL.ahead i ru hru x hx h22
    refine⟨?_,by omega⟩
    have:x∈rows:=List.mem_of_mem_drop (List.mem_of_mem_take hx)
    exact(hL.lay.calls x this h22).1)
   rw[Int.toNat_of_nonneg r0] at hc
   have hdr:rules.drop i=ru :: rules.drop (i+1):=by
    obtain⟨hl,he⟩:=List.getElem?_eq_some_iff.1 hru
    rw[List.drop_eq_getElem_cons hl,he]
   rw[hdr,JV] at hcn
   obtain⟨v',H2,a1,a2,a3,a4,a5⟩:=Lm (x:=FJ rows E S ru.toNat) hsl hn1 (by omega) (by have:=hL.lay.nrules;omega)
   have hle:=RC (rows:=rows) (E:=E) hSS ru.toNat
   simp only[eE,seval,↓eP,rP,t1,t2,t6,GU,CX,hl5,hulen,c1]
   refine WK.quiet (by kernel_rfl) ?_
   simp only[eE,seval,↓eP,rP,t1,t2,t6,GU,CX,I1,hl5,hl8,f1,f3,hc,K9,a1,w1]
   refine⟨hlt,by omega,by omega,by omega,fun j hj=>by rw[a5 j hj];exact ho1 j hj,S++[FJ rows E S ru.toNat],a2,?_,by simp;omega,hcn⟩
   intro x hx
   rcases List.mem_append.1 hx with hx | hx
   ·exact hSS x hx
   ·rw[List.mem_singleton.1 hx];exact hle
  ·have c1:decide ((i:Int)<(rules.length:Int))=false:=by simp only[decide_eq_false_iff_not];omega
   rw[List.drop_of_length_le (by omega)] at hcn
   have hSe:S=JV rows E rules []:=hcn
   rw[hSe] at hSI
   simp only[eE,seval,↓eP,rP,hr,t1,t2,t6,GU,CX,hl5,hulen,c1]
   exact⟨hSI.weak (by omega),hf1,by omega,ho2⟩
end
def aP:Code→Code
 | .loop c=>c
 | .block _ c=>c
 | c=>c
noncomputable def xX:Code:=Tryd.f84.body.getD .skip
noncomputable def dH:Code:=aP (aP (rt (lf (rt (rt (rt xX))))))
noncomputable def TN:Code:=aP (lf (rt dH))
noncomputable def X1:Code:=rt TN
noncomputable def X2:Code:=rt X1
noncomputable def X3:Code:=rt X2
noncomputable def X4:Code:=rt X3
noncomputable def X5:Code:=rt X4
noncomputable def X6:Code:=rt X5
def Ih (i:Nat) (f:CW):Prop:=(1≤f.kind∧f.kind≤54)∧0<f.left∧(f.kind=1∨f.kind=11∨(f.next:Int)+f.left≤CT f.kind)∧f.left≤9223372036854775807∧f.next≤i
theorem k_ {k:Int} {j:Nat}:HD (BY k j)=BY k j∧M6 (BY k j):=by
 unfold BY
 (repeat' split) <;> exact⟨rfl,by unfold M6;omega⟩
theorem Gl {f:CW} {s:List CW}:QY f.kind f.next=HD (LZ (f :: s)):=by
 show _=HD (if f.kind=1 then 9 else BY f.kind f.next)
 unfold QY
 split
 ·rfl
 ·exact k_.1.symm
theorem lR {s:List CW}:M6 (LZ s):=by
 cases s with
 | nil=>exact .inl rfl
 | cons f s=>
  show M6 (if f.kind=1 then 9 else BY f.kind f.next)
  split
  ·exact .inr (.inl rfl)
  ·exact k_.2
theorem Ox {w:Int} (h:M6 w):(HD w==1)=decide (w=9):=by
 rcases h with rfl | rfl | rfl | rfl | rfl | rfl | rfl | rfl <;> rfl
section
variable {call:AQ} {n:Nat}
def KS (h:AA) (v:Value) (i:Nat) (T:Tr) (H:AA) (s:List CW) (ev:Bool):Prop:=
 T.get 0=v∧T.get 5=iv i∧T.get 4=.bool ev∧KQ h.next H (T.get 3) s∧H.floor=h.floor∧h.next≤H.next∧∀ j,j<h.next→H.get j=h.get j
structure U8 (call:AQ):Prop where
 kid:∀ (κ:Int) (j:Nat) h,1≤κ∧κ≤54→(κ=1∨κ=11∨(j:Int)<CT κ)→call 99 [iv κ,iv j] h=some (iv (QY κ j),h)
 right:∀ w (x:AC) h,M6 w→call 100 [DN x,iv (HD w)] h=some (.bool (FK w x.kind&&DU AW x),h)
 decl:∀ k h,call 101 [iv k] h=some (.bool (CD 0 k),h)
 event:∀ k h,call 102 [iv k] h=some (.bool (CD 1 k),h)
theorem WF {h:AA} {v:Value} {i:Nat} {T:Tr} {H:AA} {s:List CW} {ev:Bool} {k:B9} (hc:U8 call) (hB:KS h v i T H s ev) (hfl:h.floor≤h.next) (hs:s.length<2932031007403) (hi:i<2932031007403) (hok:∀ f s',s=f :: s'→Ih i f)
  (hk:∀ T' H',KS h v i T' H' (KE s) ev→T'.get 6=iv (HD (LZ s))→WK Tryd.prog call n X2 ⟨T',H'⟩ k):WK Tryd.prog call n TN ⟨T,H⟩ k:=by
 obtain⟨t0,t5,t4,hst,hf,hn,hold⟩:=hB
 show WK _ _ _ (.seq _ (.seq _ X2)) _ _
 have hlen:=fun h'=>hst.len (h':=h')
 cases s with
 | nil=>
  have c0:decide (((([]:List CW).length:Nat):Int)>0)=false:=rfl
  simp only[eE,seval,↓eP,rP,t0,t5,t4,hlen,c0]
  refine hk _ _ ⟨?_,?_,?_,?_,hf,hn,hold⟩ ?_
  ·simp only[eE,seval,↓eP,rP,t0]
  ·simp only[eE,seval,↓eP,rP,t5]
  ·simp only[eE,seval,↓eP,rP,t4]
  ·simp only[eE,seval,↓eP,rP];exact hst
  ·simp only[eE,seval,↓eP,rP];rfl
 | cons f s0=>
  obtain⟨id,ex,hvs,hg,hid,hidn⟩:=hst.top
  have c0:decide (((s0.length+1:Nat):Int)>0)=true:=by simp
  have w1:IntKind.i64.wrap (((s0.length+1:Nat):Int)-1)=(s0.length:Int):=by rw[B0 (by simp only[List.length_cons] at *;omega) (by simp only[List.length_cons] at *;omega)];simp
  have ix:∀ {n c},s0.length<n→CU Tryd.prog 133 (qS id n c) (iv (s0.length:Int))=some (.pointer (some ⟨id,s0.length*3,none⟩)):=fun h=>gM h
  have ix':=ix (n:=s0.length+1) (c:=AJ) (by omega)
  obtain⟨c1,c2,c3,c4⟩:=ZQ (s:=s0) (f:=f) (ex:=ex) (ty:=135) (g:=true) (ro:=false)
  have okf:=hok f s0 rfl
  have hkid:=fun hh=>hc.kid f.kind f.next hh okf.1 (by
   rcases okf.2.2.1 with h | h | h
   ·exact .inl h
   ·exact .inr (.inl h)
   ·exact .inr (.inr (by have:=okf.2.1;omega)))
  have hflT:(H.floor≤H.next)=True:=by simp;omega
  have hltT:(H.next<H.next+1)=True:=by simp
  simp only[eE,seval,↓eP,rP,t0,t5,t4,hvs,R0,c0,w1,ix',hg,c1,c2,c3,c4,Ft,UM,iS,Ba,Bv,zN,hflT,hltT,tO,X9,mQ]
  have hgH:((H.push (.row [iv 0,iv 0,iv 0] 135 false false)).put H.next (.row [iv f.kind,iv (f.left:Int),iv (f.next:Int)] 135 false false)).get id=.row (E8 s0++(HK f++ex)) 135 true false:=by
   rw[AM (by show H.next<H.next+1;omega) (by omega),AT hidn];exact hg
  have hnH:((H.push (.row [iv 0,iv 0,iv 0] 135 false false)).put H.next (.row [iv f.kind,iv (f.left:Int),iv (f.next:Int)] 135 false false)).next=H.next+1:=rfl
  have hfH:((H.push (.row [iv 0,iv 0,iv 0] 135 false false)).put H.next (.row [iv f.kind,iv (f.left:Int),iv (f.next:Int)] 135 false false)).floor=h.floor:=hf
  have hoH:∀ j,j<h.next→((H.push (.row [iv 0,iv 0,iv 0] 135 false false)).put H.next (.row [iv f.kind,iv (f.left:Int),iv (f.next:Int)] 135 false false)).get j=h.get j:=fun j hj=>by
   rw[AM (by show H.next<H.next+1;omega) (by omega),AT (by omega)];exact hold j hj
  generalize (H.push (.row [iv 0,iv 0,iv 0] 135 false false)).put H.next (.row [iv f.kind,iv (f.left:Int),iv (f.next:Int)] 135 false false)=H1 at *
  have okl:=okf.2.2.2
  have ok0:=okf.2.1
  have hll:=S0 s0
  have w2:IntKind.i64.wrap ((f.next:Int)+1)=((f.next+1:Nat):Int):=B0 (by omega) (by omega)
  have w3:IntKind.i64.wrap ((f.left:Int)-1)=((f.left-1:Nat):Int):=by rw[B0 (by omega) (by omega)];omega
  have sa:=RA (x:=((f.next+1:Nat):Int)) (off:=s0.length*3+2) hgH (by simp[HK];omega) (by omega)
  rw[Ci] at sa
  have hgH2:(H1.put id (.row (E8 s0++(HK ⟨f.kind,f.left,f.next+1⟩++ex)) 135 true false)).get id=.row (E8 s0++(HK ⟨f.kind,f.left,f.next+1⟩++ex)) 135 true false:=BN rfl (by omega)
  obtain⟨_,d2,_,_⟩:=ZQ (s:=s0) (f:=⟨f.kind,f.left,f.next+1⟩) (ex:=ex) (ty:=135) (g:=true) (ro:=false)
  have sb:=RA (h:=H1.put id (.row (E8 s0++(HK ⟨f.kind,f.left,f.next+1⟩++ex)) 135 true false)) (x:=((f.left-1:Nat):Int)) (off:=s0.length*3+1) hgH2 (by simp[HK];omega) (by show H1.floor≤id;omega)
  rw[Ay] at sb
  simp only[eE,seval,↓eP,DG,E9,KM,DA,C9,hkid,t0,t5,t4,hvs,R0,w1,w2,w3,ix',hgH,hgH2,c1,c2,c3,d2,tO,X9,mQ,sa,sb]
  have hnp:((H1.put id (.row (E8 s0++(HK ⟨f.kind,f.left,f.next+1⟩++ex)) 135 true false)).put id (.row (E8 s0++(HK ⟨f.kind,f.left-1,f.next+1⟩++ex)) 135 true false)).next=H1.next:=rfl
  refine hk _ _ ⟨?_,?_,?_,?_,hfH,?_,fun j hj=>?_⟩ ?_
  ·simp only[eE,seval,↓eP,rP,t0]
  ·simp only[eE,seval,↓eP,rP,t5]
  ·simp only[eE,seval,↓eP,rP,t4]
  ·simp only[eE,seval,↓eP,rP,hvs]
   refine .inr ⟨id,ex,by rw[KE];rfl,?_,hid,by rw[hnp];omega⟩
   rw[BN rfl (by show id<H1.next;omega),KE,E8,List.append_assoc]
  ·rw[hnp];omega
  ·rw[AM (by show id<H1.next;omega) (by omega),AM (by omega) (by omega)];exact hoH j hj
  ·simp only[eE,seval,↓eP,rP];rw[← Gl]
theorem VU {h:AA} {v:Value} {i:Nat} {T:Tr} {H:AA} {s:List CW} {ev:Bool} {k:B9} {l:List AC} {w:Int} (hc:U8 call) (hv:AV h v l) (hB:KS h v i T H s ev) (hw:M6 w) (h6:T.get 6=iv (HD w))
  (hbad:(l[i]?=none∨∃ x,l[i]?=some x∧(FK w x.kind&&DU AW x)=false)→∀ T':Tr,T'.get 2=iv i→k.ap Tryd.prog call n .ret ⟨T',H⟩)
  (hgood:∀ x,l[i]?=some x→(FK w x.kind&&DU AW x)=true→∀ T':Tr,KS h v i T' H s ev→T'.get 6=iv (HD w)→WK Tryd.prog call n X3 ⟨T',H⟩ k):WK Tryd.prog call n X2 ⟨T,H⟩ k:=by
 have hB':=hB
 obtain⟨t0,t5,t4,hst,hf,hn,hold⟩:=hB
 have hvH:AV H v l:=hv.mono hn hold
 have hl22:∀ h',CC Tryd.prog h' 22 v=some (.int .i64 l.length):=fun h'=>hv.len
 show WK _ _ _ (.seq _ X3) _ _
 by_cases hi:i<l.length
 ·obtain⟨x,hx⟩:∃ x,l[i]?=some x:=⟨_,List.getElem?_eq_getElem hi⟩
  have c1:decide ((i:Int)≥(l.length:Int))=false:=by simp;omega
  obtain⟨id,q,e0,hid,l0,l1,l2,l3,l4,lr⟩:=hvH.row hx
  have hr:=fun hh=>hc.right w x hh hw
  cases d:(FK w x.kind&&DU AW x) with
  | false=>
   rw[d] at hr
   simp only[eE,seval,↓eP,rP,t0,t5,h6,hl22,c1,e0,lr,hr]
   exact hbad (.inr ⟨x,hx,d⟩) _ (by simp only[eE,seval,↓eP,rP])
  | true=>
   rw[d] at hr
   simp only[eE,seval,↓eP,rP,t0,t5,h6,hl22,c1,e0,lr,hr]
   refine hgood x hx d _ ⟨?_,?_,?_,?_,hf,hn,hold⟩ ?_
   ·simp only[eE,seval,↓eP,rP,t0]
   ·simp only[eE,seval,↓eP,rP,t5]
   ·simp only[eE,seval,↓eP,rP,t4]
   ·simp only[eE,seval,↓eP,rP];exact hst
   ·simp only[eE,seval,↓eP,rP,h6]
 ·have c1:decide ((i:Int)≥(l.length:Int))=true:=by simp;omega
  simp only[eE,seval,↓eP,rP,t0,t5,h6,hl22,c1]
  exact hbad (.inl (List.getElem?_eq_none (by omega))) _ (by simp only[eE,seval,↓eP,rP])
theorem ZD {h:AA} {v:Value} {i:Nat} {T:Tr} {H:AA} {s:List CW} {ev:Bool} {k:B9} {l:List AC} {w:Int} {x:AC} (hc:U8 call) (hv:AV h v l) (hB:KS h v i T H s ev) (hw:M6 w) (h6:T.get 6=iv (HD w)) (hx:l[i]?=some x)
  (hbad:w=9∧ev=true∧CD 0 x.kind=true→∀ T':Tr,T'.get 2=iv i→k.ap Tryd.prog call n .ret ⟨T',H⟩)
  (hgood:¬ (w=9∧ev=true∧CD 0 x.kind=true)→∀ T':Tr,KS h v i T' H s (if w=9 then ev||CD 1 x.kind else ev)→WK Tryd.prog call n X4 ⟨T',H⟩ k):WK Tryd.prog call n X3 ⟨T,H⟩ k:=by
 obtain⟨t0,t5,t4,hst,hf,hn,hold⟩:=hB
 have hvH:AV H v l:=hv.mono hn hold
 obtain⟨id,q,e0,hid,l0,l1,l2,l3,l4,lr⟩:=hvH.row hx
 have hd:=hc.decl x.kind
 have he:=hc.event x.kind
 have hw1:=Ox hw
 show WK _ _ _ (.seq _ X4) _ _
 by_cases h9:w=9
 ·subst h9
  have c9:(HD 9==1)=true:=rfl
  have done:∀ ev':Bool,(ev||CD 1 x.kind)=ev'→¬ ((9:Int)=9∧ev=true∧CD 0 x.kind=true)→∀ T':Tr,T'.get 0=v→T'.get 5=iv i→T'.get 4=.bool ev'→T'.get 3=T.get 3→WK Tryd.prog call n X4 ⟨T',H⟩ k:=fun ev' e1 e2 T' u0 u5 u4 u3=>hgood e2 T' ⟨u0,u5,by rw[if_pos rfl,e1];exact u4,by rw[u3];exact hst,hf,hn,hold⟩
  cases ev with
  | true=>
   cases d0:CD 0 x.kind with
   | true=>
    rw[d0] at hd
    simp only[eE,seval,↓eP,rP,t0,t5,t4,h6,c9,e0,l0,hd]
    exact hbad ⟨rfl,rfl,d0⟩ _ (by simp only[eE,seval,↓eP,rP])
   | false=>
    rw[d0] at hd done
    simp only[eE,seval,↓eP,rP,t0,t5,t4,h6,c9,e0,l0,hd,he]
    refine done true rfl (by simp) _ ?_ ?_ ?_ ?_ <;> simp only[eE,seval,↓eP,rP,t0,t5,t4]
  | false=>
   simp only[eE,seval,↓eP,rP,t0,t5,t4,h6,c9,e0,l0,hd,he]
   refine done (CD 1 x.kind) (Bool.false_or _) (by simp) _ ?_ ?_ ?_ ?_ <;> simp only[eE,seval,↓eP,rP,t0,t5,t4]
 ·have c9:(HD w==1)=false:=by rw[hw1,decide_eq_false h9]
  simp only[eE,seval,↓eP,rP,t0,t5,t4,h6,c9]
  refine hgood (fun h=>h9 h.1) _ ⟨?_,?_,?_,?_,hf,hn,hold⟩
  ·simp only[eE,seval,↓eP,rP,t0]
  ·simp only[eE,seval,↓eP,rP,t5]
  ·simp only[eE,seval,↓eP,rP,t4,h9]
  ·simp only[eE,seval,↓eP,rP];exact hst
end
section
variable {call:AQ} {n:Nat}
theorem Ro {h:AA} {v:Value} {i:Nat} {T:Tr} {H:AA} {s:List CW} {ev:Bool} {k:B9} {l:List AC} {x:AC} (hv:AV h v l) (hB:KS h v i T H s ev) (hx:l[i]?=some x) (hkid:0≤x.kids) (hfl:h.floor≤h.next) (hs:s.length<2932031007403)
  (hk:∀ T' H',KS h v i T' H' (⟨x.kind,x.kids.toNat,0⟩ :: s) ev→WK Tryd.prog call n X5 ⟨T',H'⟩ k):WK Tryd.prog call n X4 ⟨T,H⟩ k:=by
 obtain⟨t0,t5,t4,hst,hf,hn,hold⟩:=hB
 have hvH:AV H v l:=hv.mono hn hold
 obtain⟨id,q,e0,hid,l0,l1,l2,l3,l4,lr⟩:=hvH.row hx
 obtain⟨v',H',ha,hst',hf',hn',hold'⟩:=Aw (a:=x.kind) (b:=x.kids) (c:=0) (f:=⟨x.kind,x.kids.toNat,0⟩) (by simp only[HK,Int.toNat_of_nonneg hkid];rfl) hst (by omega) hn hs
 show WK _ _ _ (.seq (.region _ _ true) X5) _ _
 rw[LD]
 refine WK.quiet (by kernel_rfl) ?_
 simp only[eE,seval,↓eP,rP,t0,t5,e0,l0,l4,Du,Mz,ha]
 refine hk _ _ ⟨?_,?_,?_,?_,by omega,by omega,fun j hj=>by rw[hold' j hj];exact hold j hj⟩
 ·simp only[eE,seval,↓eP,rP,t0]
 ·simp only[eE,seval,↓eP,rP,t5]
 ·simp only[eE,seval,↓eP,rP,t4]
 ·simp only[eE,seval,↓eP,rP];exact hst'
theorem qM:∀ s:List CW,(F6 s).length≤s.length
 | []=>Nat.le_refl _
 | f :: s=>by
  by_cases h0:f.left=0
  ·rw[SK h0];have:=qM s;simp only[List.length_cons];omega
  ·rw[R1 h0];exact Nat.le_refl _
theorem KQ.tail {m:Nat} {h:AA} {f:CW} {s:List CW} {v:Value} (hs:KQ m h v (f :: s)):∃ id,v=qS id (s.length+1) AJ∧KQ m h (qS id s.length AJ) s:=by
 obtain⟨id,ex,h1,h2,h3,h4⟩:=hs.top
 exact⟨id,h1,.inr ⟨id,HK f++ex,rfl,h2,h3,h4⟩⟩
theorem Qv {h:AA} {v:Value} {i:Nat} {T:Tr} {H:AA} {s:List CW} {ev:Bool} {k:B9} (hB:KS h v i T H s ev) (hs:s.length<2932031007403) (hn0:s.length<n)
  (hk:∀ T',KS h v i T' H (F6 s) ev→WK Tryd.prog call n X6 ⟨T',H⟩ k):WK Tryd.prog call n X5 ⟨T,H⟩ k:=by
 obtain⟨t0,t5,t4,hst,hf,hn,hold⟩:=hB
 show WK _ _ _ (.seq (.block _ (.loop _)) X6) _ _
 rw[LD,Y9]
 refine WK.loop (fun j st=>st.h=H∧st.T.get 0=v∧st.T.get 5=iv i∧st.T.get 4=.bool ev∧∃ s',KQ h.next H (st.T.get 3) s'∧F6 s'=F6 s∧s'.length+j≤s.length) s.length hn0 ⟨rfl,t0,t5,t4,s,hst,rfl,by omega⟩ ?_
 rintro j ⟨T1,H1⟩ hj ⟨rfl,u0,u5,u4,s',hst',hp,hl⟩
 simp only at u0 u5 u4 hst'
 have fin:F6 s'=s'→∀ T':Tr,T'.get 0=v→T'.get 5=iv i→T'.get 4=.bool ev→T'.get 3=T1.get 3→WK Tryd.prog call n X6 ⟨T',H1⟩ k:=fun e T' w0 w5 w4 w3=>hk T' ⟨w0,w5,w4,by rw[w3,← hp,e];exact hst',hf,hn,hold⟩
 cases s' with
 | nil=>
  have hlen:=fun h'=>hst'.len (h':=h')
  have c0:decide (((([]:List CW).length:Nat):Int)>0)=false:=rfl
  simp only[eE,seval,↓eP,rP,hlen,c0]
  refine fin rfl _ ?_ ?_ ?_ ?_ <;> simp only[eE,seval,↓eP,rP,u0,u5,u4]
 | cons f s0=>
  obtain⟨id,ex,hvs,hg,hid,hidn⟩:=hst'.top
  obtain⟨id',hvs',htl⟩:=hst'.tail
  have:id'=id:=by
   rw[hvs] at hvs'
   simp only[Value.slice.injEq,Option.some.injEq,Addr.mk.injEq,and_true] at hvs'
   exact hvs'.symm
  subst this
  simp only[List.length_cons] at hl
  have c0:decide (((s0.length+1:Nat):Int)>0)=true:=by simp
  have w1:IntKind.i64.wrap (((s0.length+1:Nat):Int)-1)=(s0.length:Int):=by rw[B0 (by omega) (by omega)];omega
  have ix':CU Tryd.prog 133 (qS id' (s0.length+1) AJ) (iv (s0.length:Int))=some (.pointer (some ⟨id',s0.length*3,none⟩)):=gM (by omega)
  obtain⟨c1,c2,c3,c4⟩:=ZQ (s:=s0) (f:=f) (ex:=ex) (ty:=135) (g:=true) (ro:=false)
  by_cases h0:f.left=0
  ·have c5:((f.left:Int)==0)=true:=by rw[h0];rfl
   have hsl:=Gk (id:=id') (h:=H1) (n:=s0.length+1) (k:=s0.length) (by omega)
   simp only[eE,seval,↓eP,rP,u0,u5,u4,hvs,R0,c0,w1,ix',hg,c2,X9,c5,hsl]
   exact⟨by omega,s0,htl,by rw[← hp,SK h0],by omega⟩
  ·have c5:((f.left:Int)==0)=false:=by rw[beq_eq_false_iff_ne];omega
   simp only[eE,seval,↓eP,rP,hvs,R0,c0,w1,ix',hg,c2,X9,c5]
   refine fin (R1 h0) _ ?_ ?_ ?_ ?_ <;> simp only[eE,seval,↓eP,rP,u0,u5,u4,hvs]
theorem Hq {h:AA} {v:Value} {i:Nat} {T:Tr} {H:AA} {s:List CW} {ev:Bool} {k:B9} {l:List AC} (hv:AV h v l) (hB:KS h v i T H s ev) (hi:i<2932031007403)
  (hbad:s=[]→i+1<l.length→∀ T':Tr,T'.get 2=iv ((i+1:Nat):Int)→k.ap Tryd.prog call n .ret ⟨T',H⟩)
  (hgood:¬ (s=[]∧i+1<l.length)→∀ T':Tr,KS h v i T' H s ev→k.ap Tryd.prog call n .normal ⟨T',H⟩):WK Tryd.prog call n X6 ⟨T,H⟩ k:=by
 obtain⟨t0,t5,t4,hst,hf,hn,hold⟩:=hB
 have hl22:∀ h',CC Tryd.prog h' 22 v=some (.int .i64 l.length):=fun h'=>hv.len
 have hlen:=fun h'=>hst.len (h':=h')
 have w1:=DJ i (by omega)
 show WK _ _ _ (.seq _ _) _ _
 have fin:¬ (s=[]∧i+1<l.length)→∀ T':Tr,T'.get 0=v→T'.get 5=iv i→T'.get 4=.bool ev→T'.get 3=T.get 3→k.ap Tryd.prog call n .normal ⟨T',H⟩:=fun e T' w0 w5 w4 w3=>hgood e T' ⟨w0,w5,w4,by rw[w3];exact hst,hf,hn,hold⟩
 by_cases h0:s=[]
 ·have c0:((s.length:Int)==0)=true:=by rw[h0];rfl
  by_cases h1:i+1<l.length
  ·have c1:decide (((i+1:Nat):Int)<(l.length:Int))=true:=by simp only[decide_eq_true_eq];omega
   simp only[eE,seval,↓eP,rP,t0,t5,hlen,hl22,c0,w1,c1]
   exact hbad h0 h1 _ (by simp only[eE,seval,↓eP,rP])
  ·have c1:decide (((i+1:Nat):Int)<(l.length:Int))=false:=by simp only[decide_eq_false_iff_not];omega
   simp only[eE,seval,↓eP,rP,t0,t5,hlen,hl22,c0,w1,c1]
   refine fin (fun h=>h1 h.2) _ ?_ ?_ ?_ ?_ <;> simp only[eE,seval,↓eP,rP,t0,t5,t4]
 ·have c0:((s.length:Int)==0)=false:=by
   rw[beq_eq_false_iff_ne]
   have:s.length≠0:=fun h=>h0 (List.length_eq_zero_iff.1 h)
   omega
  simp only[eE,seval,↓eP,rP,hlen,c0]
  refine fin (fun h=>h0 h.1) _ ?_ ?_ ?_ ?_ <;> simp only[eE,seval,↓eP,rP,t0,t5,t4]
def WO (i:Nat) (f:CW):Prop:=(1≤f.kind∧f.kind≤54)∧(f.kind=1∨f.kind=11∨(f.next:Int)+f.left≤CT f.kind)∧f.left≤9223372036854775807∧f.next≤i
theorem tB:∀ {s:List CW} {f:CW},f∈F6 s→f∈s
 | [],f,h=>h
 | g :: s,f,h=>by
  by_cases h0:g.left=0
  ·rw[SK h0] at h
   exact List.mem_cons_of_mem _ (tB h)
  ·rw[R1 h0] at h
   exact h
theorem lQ:∀ {s:List CW} {f:CW} {s':List CW},F6 s=f :: s'→f.left≠0
 | [],f,s',h=>by cases h
 | g :: s,f,s',h=>by
  by_cases h0:g.left=0
  ·rw[SK h0] at h
   exact lQ h
  ·rw[R1 h0] at h
   cases h
   exact h0
theorem Eu {i:Nat} {s:List CW} (hs:∀ f∈s,WO i f) (ht:∀ f s',s=f :: s'→f.left≠0):∀ f∈KE s,WO (i+1) f:=by
 cases s with
 | nil=>intro f hf;cases hf
 | cons g s=>
  intro f hf
  rcases List.mem_cons.1 hf with rfl | hf
  ·obtain⟨h1,h2,h3,h4⟩:=hs g (by simp)
   have:=ht g s rfl
   refine⟨h1,?_,by simp only;omega,by simp only;omega⟩
   rcases h2 with h2 | h2 | h2
   ·exact .inl h2
   ·exact .inr (.inl h2)
   ·exact .inr (.inr (by simp only;omega))
  ·obtain⟨h1,h2,h3,h4⟩:=hs f (List.mem_cons_of_mem _ hf)
   exact⟨h1,h2,h3,by omega⟩
theorem YO (s:List CW):(KE s).length=s.length:=by cases s <;> rfl
theorem Gi {x:AC} (h:DU AW x=true):0≤x.kids∧(x.kind=1∨x.kind=11∨x.kids≤CT x.kind):=by
 unfold DU at h
 simp only[Bool.and_eq_true,Bool.or_eq_true,decide_eq_true_eq] at h
 have:=QD x.kind
 refine⟨by omega,?_⟩
 by_cases h1:x.kind=1
 ·exact .inl h1
 ·by_cases h2:x.kind=11
  ·exact .inr (.inl h2)
  ·have hm:0≤CT x.kind:=by
    unfold CT
    have e:([1,11]:List Int).contains x.kind=false:=by simp[h1,h2]
    rw[e]
    simp only[Bool.false_eq_true,if_false]
    (repeat' split) <;> omega
   omega
theorem Pc {w k:Int} (h:FK w k=true):1≤k∧k≤54:=kB h
theorem Au {l:List AC} {v:Value} {h:AA} (hc:U8 call) (hv:AV h v l) (hlen:l.length<2932031007403) (hn:l.length+3<n) (hfl:h.floor≤h.next) (h64:∀ x∈l,x.kids≤9223372036854775807) :
  ∃ h',A8 Tryd.prog call n 84 [v] h=some (iv (match IT AW l with | some p=>(p:Int) | none=>-1),h')∧∀ i,i<h.next→h'.get i=h.get i:=by
 refine FE (R:=fun h'=>∀ i,i<h.next→h'.get i=h.get i) Tryd.func84 rfl (by simp[Tryd.f84]) ?_
 have hr:Tryd.f84.results.toList=[.tmp 2]:=rfl
 have hl22:∀ h',CC Tryd.prog h' 22 v=some (.int .i64 l.length):=fun h'=>hv.len
 have hsim:=Hy (isName:=AW) (l:=l) (M:=l.length+1) (by omega)
 generalize IT AW l=R at *
 simp only[eE,seval,↓eP,rP,hr]
 refine WK.loop (fun j st=>∃ s ev,KS h v j st.T st.h s ev∧s.length≤j∧(∀ f∈s,WO j f)∧(∀ f s',s=f :: s'→f.left≠0)∧(((s≠[]∨j=0)∧GS (isName:=AW) l (l.length+1-j) j s ev=R)∨(s=[]∧0<j∧R=none))) l.length (by omega) ?_ ?_
 ·refine⟨[],false,⟨?_,?_,?_,?_,rfl,Nat.le_refl _,fun _ _=>rfl⟩,Nat.le_refl _,(fun f hf=>by cases hf),(fun f s' hf=>by cases hf),.inl ⟨.inr rfl,hsim⟩⟩
  ·simp only[eE,seval,↓eP,rP]
  ·simp only[eE,↓reduceIte,Nat.reduceEqDiff,reduceCtorEq,↓eP,rP,Nat.reduceAdd,Nat.reduceLT];rfl
  ·simp only[eE,seval,↓eP,rP]
  ·simp only[eE,seval,↓eP,rP];exact .inl ⟨rfl,rfl⟩
 ·rintro j ⟨T1,H1⟩ hj ⟨s,ev,hB,hsl,hok,htop,hrun⟩
  have hB':=hB
  obtain⟨t0,t5,t4,hst,hf,hnx,hold⟩:=hB
  simp only at t0 t5 t4 hst hf hnx hold
  have hlenS:=fun h'=>hst.len (h':=h')
  have w1:=DJ j (by omega)
  -- the end: no row is open
  by_cases hend:s=[]∧0<j
  ·obtain⟨rfl,hj0⟩:=hend
   have hRn:R=none:=by
    rcases hrun with⟨h1 | h1,_⟩ | ⟨_,_,h1⟩
    ·exact absurd rfl h1
    ·omega
    ·exact h1
   subst hRn
   have c0:((j:Int)==0)=false:=by rw[beq_eq_false_iff_ne];omega
   have c1:decide (((([]:List CW).length:Nat):Int)>0)=false:=rfl
   simp only[eE,seval,↓eP,rP,t5,hlenS,c0,c1]
   exact hold
  ·have hrun':GS (isName:=AW) l (l.length+1-j) j s ev=R:=by
    rcases hrun with⟨_,h1⟩ | ⟨h1,h2,_⟩
    ·exact h1
    ·exact absurd ⟨h1,h2⟩ hend
   obtain⟨m,hm⟩:∃ m,l.length+1-j=m+1:=⟨l.length-j,by omega⟩
   rw[hm,GS] at hrun'
   have head:∀ (c:Code) (k:B9),(∀ T':Tr,KS h v j T' H1 s ev→WK Tryd.prog call n (.block 1 TN) ⟨T',H1⟩ (.seq c k))→WK Tryd.prog call n (lf dH) ⟨T1,H1⟩ (.seq (.seq (.block 1 TN) c) k):=fun c k hk=>by
    show WK _ _ _ (.seq _ (.cond _ _ _)) _ _
    by_cases hj0:j=0
    ·have c0:((j:Int)==0)=true:=by rw[hj0];rfl
     simp only[SZ,seval,↓eP,rP,t5,c0]
     refine hk _ ⟨?_,?_,?_,?_,hf,hnx,hold⟩
     ·simp only[eE,seval,↓eP,rP,t0]
     ·simp only[eE,seval,↓eP,rP,t5]
     ·simp only[eE,seval,↓eP,rP,t4]
     ·simp only[eE,seval,↓eP,rP];exact hst
    ·have c0:((j:Int)==0)=false:=by rw[beq_eq_false_iff_ne];omega
     have hs0:s.length≠0:=fun e=>hend ⟨List.length_eq_zero_iff.1 e,by omega⟩
     have c1:decide (((s.length:Nat):Int)>0)=true:=by simp only[decide_eq_true_eq];omega
     simp only[SZ,seval,↓eP,rP,t5,hlenS,c0,c1]
     refine hk _ ⟨?_,?_,?_,?_,hf,hnx,hold⟩
     ·simp only[eE,seval,↓eP,rP,t0]
     ·simp only[eE,seval,↓eP,rP,t5]
     ·simp only[eE,seval,↓eP,rP,t4]
     ·simp only[eE,seval,↓eP,rP];exact hst
   show WK _ _ _ (.seq (lf dH) (.seq (.block 1 TN) _)) _ _
   rw[LD]
   refine head _ _ fun T2 hB2=>?_
   rw[Y9]
   refine WF hc hB2 hfl (by omega) (by omega) (fun f s' he=>?_) fun T3 H3 hB3 h6=>?_
   ·have h1:=hok f (by rw[he];simp)
    have h2:=htop f s' he
    exact⟨h1.1,by omega,h1.2.1,h1.2.2.1,h1.2.2.2⟩
   have old3:=hB3.2.2.2.2.2.2
   refine VU hc hv hB3 lR h6 (fun hb T4 u2=>?_) fun x hx hgood T4 hB4 h6'=>?_
   ·have hR:R=some j:=by
     rw[← hrun']
     rcases hb with hb | ⟨x,hx,hb⟩
     ·simp only[KL,hb]
     ·simp only[KL,hx,hb,Bool.false_eq_true,if_false]
    subst hR
    simp only[eE,seval,↓eP,rP,u2]
    exact old3
   refine ZD hc hv hB4 lR h6' hx (fun hb T5 u2=>?_) fun hb T5 hB5=>?_
   ·have hR:R=some j:=by
     rw[← hrun']
     simp only[KL,hx,hgood,if_true]
     rw[if_pos hb]
    subst hR
    simp only[eE,seval,↓eP,rP,u2]
    exact old3
   have hjl:j<l.length:=(List.getElem?_eq_some_iff.1 hx).1
   have hg:=Bool.and_eq_true_iff.1 hgood
   obtain⟨hk0,hk1⟩:=Gi hg.2
   have hkk:=Pc hg.1
   have hx64:=h64 x (List.mem_of_getElem? hx)
   refine Ro hv hB5 hx hk0 hfl (by rw[YO];omega) fun T6 H6 hB6=>?_
   refine Qv hB6 (by simp only[List.length_cons,YO];omega) (by simp only[List.length_cons,YO];omega) fun T7 hB7=>?_
   have old7:=hB7.2.2.2.2.2.2
   simp only[KL,hx,hgood,if_true] at hrun'
   rw[if_neg hb] at hrun'
   have hplen:=qM (⟨x.kind,x.kids.toNat,0⟩ :: KE s)
   simp only[List.length_cons,YO] at hplen
   have hdec:=Eu hok htop
   have hall:∀ f∈F6 (⟨x.kind,x.kids.toNat,0⟩ :: KE s),WO (j+1) f:=fun f hf=>by
    rcases List.mem_cons.1 (tB hf) with rfl | hf
    ·refine⟨hkk,?_,by simp only;omega,by simp only;omega⟩
     rcases hk1 with h | h | h
     ·exact .inl h
     ·exact .inr (.inl h)
     ·exact .inr (.inr (by simp only;omega))
    ·exact hdec f hf
   have htop':∀ f s',F6 (⟨x.kind,x.kids.toNat,0⟩ :: KE s)=f :: s'→f.left≠0:=fun f s' he=>lQ he
   generalize F6 (⟨x.kind,x.kids.toNat,0⟩ :: KE s)=s2 at *
   generalize (if LZ s=9 then ev||CD 1 x.kind else ev)=ev2 at *
   simp only at hrun'
   refine Hq hv hB7 (by omega) (fun e1 e2 T8 u2=>?_) fun e1 T8 hB8=>?_
   ·rw[if_pos e1,if_pos e2] at hrun'
    subst hrun'
    simp only[eE,seval,↓eP,rP,u2]
    exact old7
   ·obtain⟨y0,y5,y4,yst,yf,yn,yold⟩:=hB8
    simp only[eE,↓reduceIte,Nat.reduceEqDiff,reduceCtorEq,↓eP,rP,Nat.reduceAdd,Nat.reduceLT,y5,w1]
    refine⟨hjl,s2,ev2,⟨?_,?_,?_,?_,yf,yn,yold⟩,by omega,hall,htop',?_⟩
    ·simp only[eE,↓reduceIte,Nat.reduceEqDiff,reduceCtorEq,↓eP,rP,Nat.reduceAdd,Nat.reduceLT,y0]
    ·simp only[eE,↓reduceIte,Nat.reduceEqDiff,reduceCtorEq,↓eP,rP,Nat.reduceAdd,Nat.reduceLT]
    ·simp only[eE,↓reduceIte,Nat.reduceEqDiff,reduceCtorEq,↓eP,rP,Nat.reduceAdd,Nat.reduceLT,y4]
    ·simp only[eE,↓reduceIte,Nat.reduceEqDiff,reduceCtorEq,↓eP,rP,Nat.reduceAdd,Nat.reduceLT];exact yst
    ·by_cases h0:s2=[]
     ·refine .inr ⟨h0,by omega,?_⟩
      rw[if_pos h0,if_neg (fun h=>e1 ⟨h0,h⟩)] at hrun'
      exact hrun'.symm
     ·rw[if_neg h0] at hrun'
      refine .inl ⟨.inl h0,?_⟩
      rw[show l.length+1-(j+1)=m by omega]
      exact hrun'
end
theorem lO (k:Int) (h:AA):L0 101 [iv k] h=some (.bool (decide (k≥2)&&decide (k≤7)),h):=EY rfl rfl rfl rfl ⟨_,Kh⟩
theorem uE (k:Int) (h:AA):L0 102 [iv k] h=some (.bool (C2 k),h):=EY rfl rfl rfl rfl ⟨_,Ny⟩
theorem Dt {w k:Int} (h:AA) (hw:M6 w):L1 111 [iv k,iv (HD w)] h=some (.bool (FK w k),h):=by
 refine EY (GK rfl rfl) rfl rfl rfl ⟨_,Pn hw (FR (lO k _)) (FR (uE k _)) ?_ ?_⟩
 ·exact(N_ (n:=11) (base:=L0) (GK rfl rfl)).trans Kt
 ·exact(N_ (n:=11) (base:=L0) (GK rfl rfl)).trans Pk
theorem Hp (k:Int) (h:AA) (hk:1≤k∧k≤54):L0 112 [iv k] h=some (.bool (JR k),h):=EY rfl rfl rfl rfl (IP Hk hk)
theorem Ma (k:Int) (h:AA) (hk:1≤k∧k≤54):L0 113 [iv k] h=some (.bool (HG k),h):=EY rfl rfl rfl rfl (IP Ri hk)
theorem Dr (k:Int) (h:AA) (hk:1≤k∧k≤54):L0 115 [iv k] h=some (.tuple #[iv (FC k),iv (CT k)],h):=EY rfl rfl rfl (OU rfl rfl) (IP Nu hk)
theorem Cb {w:Int} {x:AC} (h:AA) (hw:M6 w):L3 100 [DN x,iv (HD w)] h=some (.bool (FK w x.kind&&DU AW x),h):=by
 refine EY (N8 (GK (GK rfl rfl) rfl) rfl) rfl ?_ rfl (Cm (Es (fun h=>FR (LJ (Dt h hw))) (fun h hk=>FR (LJ (G0 (Hp _ h hk)))) (fun h hk=>FR (LJ (G0 (Ma _ h hk)))) (fun h=>FR (Qq h _)) (fun h hk=>FR (LJ (G0 (Dr _ h hk))))))
 simp[M2,flat,B7]
section
variable {call:AQ} {n:Nat}
theorem Il {j:Nat} {h:AA}:A8 Tryd.prog call n 99 [iv 1,iv j] h=some (iv 1,h):=by
 refine D_ Tryd.func99 rfl (by simp[Tryd.f99]) ?_
 have hr:Tryd.f99.results.toList=[.tmp 4]:=rfl
 simp only[eE,seval,↓eP,rP,hr]
theorem xG {j:Nat} {h:AA}:A8 Tryd.prog call n 99 [iv 11,iv j] h=some (iv 3,h):=by
 refine D_ Tryd.func99 rfl (by simp[Tryd.f99]) ?_
 have hr:Tryd.f99.results.toList=[.tmp 4]:=rfl
 simp only[eE,seval,↓eP,rP,hr,Int.reduceBEq]
end
theorem wT (k:Int):CT k≤3:=by unfold CT;(repeat' split) <;> omega
theorem Py (k:Int) (j:Nat) (h:AA) (hk:1≤k∧k≤54) (hj:k=1∨k=11∨(j:Int)<CT k):L0 99 [iv k,iv j] h=some (iv (QY k j),h):=by
 rcases hj with rfl | rfl | hj
 ·exact EY rfl rfl rfl rfl ⟨_,Il⟩
 ·exact EY rfl rfl rfl rfl ⟨_,xG⟩
 ·have:=wT k
  obtain rfl | rfl | rfl:j=0∨j=1∨j=2:=by omega
  ·exact EY rfl rfl rfl rfl (IP Qo hk)
  ·exact EY rfl rfl rfl rfl (IP zG hk)
  ·exact EY rfl rfl rfl rfl (IP Ew hk)
theorem Ow (n:Nat):U8 (AX n) where
 kid:=fun κ j h hκ hj=>GA (G0 (Py κ j h hκ hj))
 right:=fun w x h hw=>rU (Cb h hw)
 decl:=fun k h=>GA (G0 (lO k h))
 event:=fun k h=>GA (G0 (uE k h))
section
variable {call:AQ} {n:Nat}
theorem Al {l:List AC} {v:Value} {h:AA} (hv:AV h v l) (hfl:h.floor≤h.next)
  (h84:∀ h',AV h' v l→h'.floor≤h'.next→call 84 [v] h'=some (iv (match IT AW l with | some p=>(p:Int) | none=>-1),h'))
  (h85:IT AW l=none→∀ h',AV h' v l→h'.floor≤h'.next→call 85 [v] h'=some (iv (DH l (l.length+1) 0).1,h')) :
  ∃ h1,A8 Tryd.prog call n 55 [v] h=some (FY (BR l).1 (BR l).2,h1)∧∀ i,i<h.next→h1.get i=h.get i:=by
 refine FE (R:=fun h1=>∀ i,i<h.next→h1.get i=h.get i) Tryd.func55 rfl (by simp[Tryd.f55]) ?_
 have hr:Tryd.f55.results.toList=[.cell 2 33]:=rfl
 have hold:∀ o:BE,∀ i,i<h.next→(h.push o).get i=h.get i:=fun o i hi=>AT hi
 have hvp:=hv.mono (h':=h.push (.row [.int .i64 0,.int .i64 0] 33 false false)) (by show h.next≤h.next+1;omega) (hold _)
 have h84':=h84 _ hvp (by show h.floor≤h.next+1;omega)
 have hflT:(h.floor≤h.next)=True:=by simpa using hfl
 have hltT:(h.next<h.next+1)=True:=by simp
 unfold BR
 cases hs:IT AW l with
 | some p=>
  rw[hs] at h84'
  have c1:decide ((p:Int)≥0)=true:=by simp
  simp only[eE,seval,↓eP,rP,hr,IA,IG,h84',c1,OL,PQ,QW,LX,QV,hflT,hltT]
  intro i hi
  rw[if_neg (by omega),if_neg (by omega)]
 | none=>
  have h85':=h85 hs _ hvp (by show h.floor≤h.next+1;omega)
  rw[hs] at h84'
  have c1:decide ((-1:Int)≥0)=false:=rfl
  cases c2:decide ((DH l (l.length+1) 0).1>64) with
  | true=>
   rw[if_pos (by simpa using c2)]
   simp only[eE,seval,↓eP,rP,hr,c2,IA,IG,h84',h85',SA,PQ,QW,LX,QV,hflT,hltT]
   intro i hi
   rw[if_neg (by omega),if_neg (by omega)]
  | false=>
   rw[if_neg (by simpa using c2)]
   simp only[eE,seval,↓eP,rP,hr,c2,IA,IG,h84',h85',UQ,PQ,QW,LX,QV,hflT,hltT]
   intro i hi
   rw[if_neg (by omega),if_neg (by omega)]
end
theorem Hg {n:Nat} {l:List AC} {v:Value} (hn:l.length+12<n) (hlen:l.length<2932031007403) (h64:∀ x∈l,x.kids≤9223372036854775807) {h:AA} (hv:AV h v l) (hfl:h.floor≤h.next) :
  AX n 55 [v] h=some (FY (BR l).1 (BR l).2,h):=by
 obtain⟨n,rfl⟩:∃ k,n=k+4:=⟨n-4,by omega⟩
 refine J6 (CN ⟨rfl,rfl,rfl⟩) rfl (Al hv hfl (fun h' hv' hfl'=>?_) fun hs h' hv' hfl'=>?_)
 ·exact J6 (CN ⟨rfl,rfl,rfl⟩) rfl (Au (Ow _) hv' hlen (by omega) hfl' h64)
 ·have ht:=YS hs
  refine J6 (CN ⟨rfl,rfl,rfl⟩) rfl (Qw ht hv' (by omega) (by omega) hfl' ?_ fun P K k h hP hK=>GA (Jm P K k h hP hK))
  refine OG (CN ⟨rfl,rfl,rfl⟩) ?_ (Kl ht hv' (by omega) (by omega) hfl' fun H hvH hflH=>kN ht hvH (by omega) (by omega) hflH)
  simp[FO,flat,B7]
theorem jW {k:Int} (h:BM k≠0):DI k=0∧C2 k=false:=by
 have:k=2∨k=3∨k=4∨k=5∨k=7:=by
  unfold BM at h
  split at h
  ·rename_i h1
   simp only[List.contains_cons,List.contains_nil,Bool.or_false,Bool.or_eq_true,beq_iff_eq] at h1
   omega
  ·split at h
   ·omega
   ·split at h
    ·omega
    ·split at h
     ·omega
     ·exact absurd rfl h
 obtain rfl | rfl | rfl | rfl | rfl:=this <;> exact⟨rfl,rfl⟩
theorem SH {E:List Int} {at_:Nat} {s:AP} {x:AC} (hx:s.rows[at_]?=some x) (hd:BM x.kind≠0) :
  DE E at_ s=if DQ x s≠0 then (DQ x s,s) else (0,BI at_ ((E[at_]?).getD 0) x s):=by
 obtain⟨hc,he⟩:=jW hd
 unfold DE
 rw[hx]
 simp only
 split
 ·rfl
 ·have hr:(BI at_ ((E[at_]?).getD 0) x s).rows[at_]?=some { x with n:=(BD s (BM x.kind):Int) }:=by
   rw[TL,if_neg hd]
   exact JB hx
  rw[hr]
  simp only
  have h1:CJ at_ { x with n:=(BD s (BM x.kind):Int) } (BI at_ ((E[at_]?).getD 0) x s)=0:=by unfold CJ;rw[if_pos hc]
  have h2:BO at_ { x with n:=(BD s (BM x.kind):Int) } (BI at_ ((E[at_]?).getD 0) x s)=BI at_ ((E[at_]?).getD 0) x s:=by unfold BO;rw[if_pos hc]
  rw[h1,h2,hr,if_neg (by simp)]
  simp only
  have h3:CV { x with n:=(BD s (BM x.kind):Int) } (BI at_ ((E[at_]?).getD 0) x s)=0:=by unfold CV;rw[if_pos he]
  have h4:CY at_ { x with n:=(BD s (BM x.kind):Int) } (BI at_ ((E[at_]?).getD 0) x s)=BI at_ ((E[at_]?).getD 0) x s:=by unfold CY;rw[if_pos he]
  rw[h3,h4,if_neg (by simp)]
theorem P7 {E:List Int} {at_:Nat} {s:AP} {x:AC} (hx:s.rows[at_]?=some x) (hd:BM x.kind=0) :
  DE E at_ s=if CJ at_ x s≠0 then (CJ at_ x s,s) else match (BO at_ x s).rows[at_]? with
   | none=>(0,s)
   | some x2=>if CV x2 (BO at_ x s)≠0 then (CV x2 (BO at_ x s),s) else (0,CY at_ x2 (BO at_ x s)):=by
 have h1:DQ x s=0:=by unfold DQ;rw[if_pos hd]
 have h2:BI at_ ((E[at_]?).getD 0) x s=s:=by unfold BI;rw[if_pos hd]
 unfold DE
 rw[hx]
 simp only
 rw[h1,h2,hx,if_neg (by simp)]
 rfl
theorem QN {at_:Nat} {s:AP} {x:AC} (hx:s.rows[at_]?=some x) (hc:CJ at_ x s=0) :
  ∃ n,(BO at_ x s).rows[at_]?=some { x with n:=n }∧(∀ i,i≠at_→(BO at_ x s).rows[i]?=s.rows[i]?)∧(BO at_ x s).rules=s.rules∧(BO at_ x s).on=s.on∧(BO at_ x s).things=s.things ∧
   ((DI x.kind=0∧n=x.n)∨∃ t∈s.things,t.kind=DI x.kind∧n=t.num∧t.known≤at_∧E5 s.things x.name=some t):=by
 unfold CJ at hc
 unfold BO
 by_cases h0:DI x.kind=0
 ·rw[if_pos h0]
  exact⟨x.n,hx,fun _ _=>rfl,rfl,rfl,rfl,.inl ⟨h0,rfl⟩⟩
 ·rw [if_neg h0] at hc ⊢
  cases hf:E5 s.things x.name with
  | none=>rw[hf] at hc;cases hc
  | some t=>
   rw[hf] at hc
   simp only at hc ⊢
   refine⟨t.num,JB hx,fun i hi=>JL hi,trivial,trivial,trivial,.inr ⟨t,cW hf,?_,rfl,?_,rfl⟩⟩
   ·split at hc
    ·cases hc
    ·split at hc
     ·cases hc
     ·rename_i h;simpa using h
   ·split at hc
    ·cases hc
    ·omega
def XL (l:List AC) (i:Nat):Prop:=∃ x,l[i]?=some x∧11≤x.kind
theorem xV {w k:Int} (hw:2≤w∧w≤7) (h:CD w k=true):11≤k:=by
 unfold CD at h
 rw[if_neg (by omega),if_neg (by omega),if_neg (by omega)] at h
 (repeat' split at h) <;> simp only[beq_iff_eq,Bool.and_eq_true,Bool.or_eq_true,decide_eq_true_eq] at h <;> omega
theorem jO (k:Int) (j:Nat):2≤BY k j∧BY k j≤7:=by unfold BY;(repeat' split) <;> omega
theorem xM {l:List AC}:∀ m at_ what,(2≤what∧what≤7)→(BS AW l m at_ what).2=true→∀ i,at_≤i→i<(BS AW l m at_ what).1→XL l i:=by
 intro m
 induction m with
 | zero=>intro at_ what _ h;cases h
 | succ m ih=>
  intro at_ what hw
  unfold BS
  cases hx:l[at_]? with
  | none=>intro h;cases h
  | some x=>
   simp only
   split
   ·rename_i hc
    intro h i h1 h2
    rcases Nat.lt_or_ge at_ i with h3 | h3
    ·exact bD (V:=XL l) (fun k p hk i h1 h2=>ih p (BY x.kind k) (jO _ _) hk i h1 h2) x.kids.toNat 0 (at_+1) h i h3 h2
    ·have:i=at_:=by omega
     subst this
     exact⟨x,hx,xV hw (Bool.and_eq_true_iff.1 hc).1⟩
   ·intro h;cases h
theorem fQ {l:List AC} {r q:Nat} {x:AC} (h:DX l r q) (hx:l[r]?=some x) (h1:x.kind≠1):∀ i,r<i→i<q→XL l i:=by
 intro i hi hq
 rcases h with⟨m,what,h⟩ | ⟨rfl,m,h⟩
 ·cases m with
  | zero=>cases h
  | succ m=>
   rw[XV hx] at h
   split at h
   ·have e1:(EQ (fun k next=>BS AW l m next (BY x.kind k)) x.kids.toNat 0 (r+1)).2=true:=by rw[h]
    have e2:(EQ (fun k next=>BS AW l m next (BY x.kind k)) x.kids.toNat 0 (r+1)).1=q:=by rw[h]
    exact bD (V:=XL l) (fun k p hk i h1 h2=>xM m p (BY x.kind k) (jO _ _) hk i h1 h2) x.kids.toNat 0 (r+1) e1 i hi (by rw[e2];exact hq)
   ·cases h
 ·rw[XA hx] at h
  split at h
  ·rename_i hc
   have:=(Bool.and_eq_true_iff.1 hc).1
   exact absurd (by simpa [CD] using this) h1
  ·cases h
structure PJ (l:List AC) (at_:Nat) (s:AP):Prop where
 rul:∀ (j:Nat) (ru:Int),s.rules[j]?=some ru→∃ r:Nat,ru=(r:Int)+1∧r<at_∧∃ x,l[r]?=some x∧x.kind=7
 inc:∀ (j j':Nat) (ru ru':Int),j<j'→s.rules[j]?=some ru→s.rules[j']?=some ru'→ru<ru'
 th:∀ t∈s.things,t.kind=4→0≤t.num∧∃ r:Nat,s.rules[t.num.toNat]?=some ((r:Int)+1)∧t.known=(AG l r:Int)
 call:∀ (i:Nat) (x:AC),i<at_→s.rows[i]?=some x→x.kind=22→∃ r:Nat,s.rules[x.n.toNat]?=some ((r:Int)+1)∧AG l r≤i
theorem bK (l:List AC):PJ l 0 (BU l) where
 rul:=fun j ru h=>by simp[BU] at h
 inc:=fun j j' ru ru' _ h=>by simp[BU] at h
 th:=fun t h=>by simp[BU] at h
 call:=fun i x h=>by omega
theorem Cc {k:Int} (h:BM k=4):k=7:=by
 unfold BM at h
 (repeat' split at h) <;> simp_all
theorem xP {l:List AC} {at_:Nat} {s:AP} (ht:B8 l) (hat:at_<l.length) (hi:G9 l at_ s) (hL:PJ l at_ s) (h0:(DE (AR l) at_ s).1=0):PJ l (at_+1) (DE (AR l) at_ s).2:=by
 obtain⟨x,hx⟩:∃ x,s.rows[at_]?=some x:=⟨_,List.getElem?_eq_getElem (by rw[hi.len];exact hat)⟩
 have hxl:l[at_]?=some x:=by rw[← hi.later at_ (Nat.le_refl _)];exact hx
 have hE:((AR l)[at_]?).getD 0=(AG l at_:Int):=by rw[KR hat];rfl
 by_cases hd:BM x.kind=0
 ·rw [P7 hx hd] at h0 ⊢
  by_cases hc:CJ at_ x s=0
  case neg=>rw[if_pos hc] at h0;exact absurd h0 hc
  rw[if_neg (by simpa using hc)] at h0 ⊢
  obtain⟨n,c1,c2,c3,c4,c5,c6⟩:=QN hx hc
  rw[c1] at h0 ⊢
  simp only at h0 ⊢
  by_cases hv:CV { x with n:=n } (BO at_ x s)=0
  case neg=>rw[if_pos hv] at h0;exact absurd h0 hv
  rw[if_neg (by simpa using hv)]
  have e1:(CY at_ { x with n:=n } (BO at_ x s)).rows=(BO at_ x s).rows∧(CY at_ { x with n:=n } (BO at_ x s)).rules=s.rules∧(CY at_ { x with n:=n } (BO at_ x s)).things=s.things:=by
   unfold CY
   split
   ·exact⟨rfl,c3,c5⟩
   ·split
    ·exact⟨rfl,c3,c5⟩
    ·exact⟨rfl,c3,c5⟩
  obtain⟨e1,e2,e3⟩:=e1
  simp only
  refine⟨fun j ru h=>?_,fun j j' ru ru' h1 h2 h3=>?_,fun t h1 h2=>?_,fun i y h1 h2 h3=>?_⟩
  ·rw[e2] at h
   obtain⟨r,r1,r2,r3⟩:=hL.rul j ru h
   exact⟨r,r1,by omega,r3⟩
  ·rw[e2] at h2 h3
   exact hL.inc j j' ru ru' h1 h2 h3
  ·rw[e3] at h1
   rw[e2]
   exact hL.th t h1 h2
  ·rw[e1] at h2
   rw[e2]
   by_cases hia:i=at_
   ·subst hia
    rw[c1] at h2
    cases h2
    rcases c6 with⟨h4,_⟩ | ⟨t,t1,t2,t3,t4,_⟩
    ·have h3':x.kind=22:=h3
     rw[h3'] at h4
     cases h4
    ·have h3':x.kind=22:=h3
     rw[h3'] at t2
     obtain⟨k1,r,k2,k3⟩:=hL.th t t1 t2
     simp only
     rw[t3]
     exact⟨r,k2,by omega⟩
   ·rw[c2 i hia] at h2
    exact hL.call i y (by omega) h2 h3
 ·rw [SH hx hd] at h0 ⊢
  by_cases hc:DQ x s=0
  case neg=>rw[if_pos hc] at h0;exact absurd h0 hc
  rw[if_neg (by simpa using hc)]
  simp only
  have hS:BI at_ (((AR l)[at_]?).getD 0) x s=EX at_ (AG l at_) x s:=by unfold BI;rw[if_neg hd,hE]
  rw[hS]
  have hrul:(EX at_ (AG l at_) x s).rules=if BM x.kind=4 then s.rules++[(at_:Int)+1] else s.rules:=rfl
  have hth:(EX at_ (AG l at_) x s).things=s.things++[⟨x.name,BM x.kind,BD s (BM x.kind),AG l at_⟩]:=rfl
  have hrows:(EX at_ (AG l at_) x s).rows=E_ s.rows at_ (BD s (BM x.kind)):=rfl
  have old:∀ (j:Nat) (ru:Int),s.rules[j]?=some ru→(EX at_ (AG l at_) x s).rules[j]?=some ru:=fun j ru h=>by
   rw[hrul]
   split
   ·rw[List.getElem?_append_left (List.getElem?_eq_some_iff.1 h).1];exact h
   ·exact h
  have new:∀ (j:Nat) (ru:Int),(EX at_ (AG l at_) x s).rules[j]?=some ru→s.rules[j]?=some ru∨(BM x.kind=4∧j=s.rules.length∧ru=(at_:Int)+1):=fun j ru h=>by
   rw[hrul] at h
   split at h
   ·rename_i h4
    rcases Nat.lt_or_ge j s.rules.length with h5 | h5
    ·rw[List.getElem?_append_left h5] at h
     exact .inl h
    ·rw[List.getElem?_append_right h5] at h
     have:j-s.rules.length=0:=by
      rcases Nat.eq_zero_or_pos (j-s.rules.length) with h6 | h6
      ·exact h6
      ·rw[List.getElem?_eq_none (by simp;omega)] at h;cases h
     rw[this] at h
     cases h
     exact .inr ⟨h4,by omega,rfl⟩
   ·exact .inl h
  refine⟨fun j ru h=>?_,fun j j' ru ru' h1 h2 h3=>?_,fun t h1 h2=>?_,fun i y h1 h2 h3=>?_⟩
  ·rcases new j ru h with h | ⟨h4,_,rfl⟩
   ·obtain⟨r,r1,r2,r3⟩:=hL.rul j ru h
    exact⟨r,r1,by omega,r3⟩
   ·exact⟨at_,rfl,by omega,x,hxl,Cc h4⟩
  ·rcases new j ru h2 with h2 | ⟨h4,g2,rfl⟩
   ·rcases new j' ru' h3 with h3 | ⟨_,_,rfl⟩
    ·exact hL.inc j j' ru ru' h1 h2 h3
    ·obtain⟨r,r1,r2,_⟩:=hL.rul j ru h2
     omega
   ·rcases new j' ru' h3 with h3 | ⟨_,g3,_⟩
    ·have:=(List.getElem?_eq_some_iff.1 h3).1
     omega
    ·omega
  ·rw[hth] at h1
   rcases List.mem_append.1 h1 with h1 | h1
   ·obtain⟨a,r,b,c⟩:=hL.th t h1 h2
    exact⟨a,r,old _ _ b,c⟩
   ·rw[List.mem_singleton.1 h1] at h2 ⊢
    simp only at h2 ⊢
    refine⟨by omega,at_,?_,rfl⟩
    rw[h2]
    have:BD s 4=s.rules.length:=rfl
    rw[this,hrul,if_pos h2,Int.toNat_natCast,List.getElem?_append_right (Nat.le_refl _),Nat.sub_self]
    rfl
  ·rw[hrows] at h2
   by_cases hia:i=at_
   ·subst hia
    rw[JB hx] at h2
    cases h2
    have h3':x.kind=22:=h3
    rw[h3'] at hd
    exact absurd rfl hd
   ·rw[JL hia] at h2
    obtain⟨r,r1,r2⟩:=hL.call i y (by omega) h2 h3
    exact⟨r,old _ _ r1,r2⟩
theorem YL {l:List AC} (ht:B8 l):∀ r at_ s,at_+r=l.length→G9 l at_ s→PJ l at_ s→(CE (AR l) r at_ s).1=0→PJ l l.length (CE (AR l) r at_ s).2.2
 | 0,at_,s,hr,_,hi,_=>by
  have:at_=l.length:=by omega
  subst this
  exact hi
 | r+1,at_,s,hr,hiR,hi,h0=>by
  unfold CE at h0 ⊢
  by_cases h:(DE (AR l) at_ s).1=0
  ·rw[if_neg (by simpa using h)] at h0 ⊢
   exact YL ht r (at_+1) _ (by omega) (TD ht (TF at_) (by omega) hiR h) (xP ht (by omega) hiR hi h) h0
  ·rw[if_pos h] at h0
   exact absurd h0 h
theorem tC {l:List AC} {s:AP} (ht:B8 l) (hlen:l.length<2932031007403) (hi:G9 l l.length s) (hL:PJ l l.length s):UG s.rows (AR l) s.rules where
 lay:=tW ht hlen hi
 ahead:=fun i ru hru x hx h22=>by
  obtain⟨r,rfl,hr,y,hy,hy7⟩:=hL.rul i ru hru
  have hs:=ht.end hr
  obtain⟨z,hz,_,_,hch⟩:=hs.kids
  rw[hy] at hz
  cases hz
  have hfit:=ht.row hy
  have hk1:1≤y.kids:=by
   have h1:=hfit.2.2.1
   rw[hy7] at h1
   exact h1
  have hle:=HE _ _ _ hch
  have hlt:=hs.lt
  have hr1:r+1<l.length:=by omega
  obtain⟨qi,s1,s2⟩:=DX.cover (AG l r-r) (by omega) hs (r+1) (by omega) (by omega)
  have hq1:=IY s1
  have e1:((r:Int)+1).toNat=r+1:=by omega
  rw[e1] at hx
  unfold blk at hx
  rw[KR hr1] at hx
  simp only[Option.getD_some,Int.toNat_natCast] at hx
  rw[hq1] at hx
  obtain⟨d,hd,hxd⟩:=List.getElem_of_mem hx
  rw[List.length_take,List.length_drop] at hd
  have hxa:s.rows[r+1+d]?=some x:=by
   rw[← hxd,← List.getElem?_eq_getElem,List.getElem?_take_of_lt (by omega),List.getElem?_drop]
  obtain⟨rj,c1,c2⟩:=hL.call (r+1+d) x (by rw[← hi.len];exact(List.getElem?_eq_some_iff.1 hxa).1) hxa h22
  have hn0:=(hi.calls _ _ (by rw[← hi.len];exact(List.getElem?_eq_some_iff.1 hxa).1) hxa h22).1
  have hj:¬ i≤x.n.toNat:=by
   intro hij
   obtain⟨rj',h1,hrj,w,hw,hw7⟩:=hL.rul _ _ c1
   have:rj'=rj:=by omega
   subst this
   have hse:=(ht.end hrj).lt
   rcases Nat.eq_or_lt_of_le hij with h2 | h2
   ·rw[← h2,hru] at c1
    have:r=rj':=by
     simp only[Option.some.injEq] at c1
     omega
    subst this
    omega
   ·have h3:=hL.inc i x.n.toNat _ _ h2 hru c1
    rcases Nat.lt_or_ge rj' (AG l r) with h4 | h4
    ·obtain⟨w',hw',h5⟩:=fQ hs hy (by omega) rj' (by omega) h4
     rw[hw] at hw'
     cases hw'
     omega
    ·omega
  omega
section
variable {call:AQ} {N:Nat} {h:AA}
theorem Ly {k:Int}:A8 Tryd.prog call N 87 [iv k] h=some (iv (G8 k),h):=by
 refine D_ Tryd.func87 rfl (by simp[Tryd.f87]) ?_
 have hr:Tryd.f87.results.toList=[.tmp 2]:=rfl
 unfold G8
 by_cases h1:k=1
 ·have c1:(k==1)=true:=by simpa using h1
  rw[if_pos h1]
  simp only[eE,seval,↓eP,rP,hr,c1]
 have c1:(k==1)=false:=by simpa using h1
 rw[if_neg h1]
 by_cases h2:k=2
 ·have c2:(k==2)=true:=by simpa using h2
  rw[if_pos h2]
  simp only[eE,seval,↓eP,rP,hr,c1,c2]
 have c2:(k==2)=false:=by simpa using h2
 rw[if_neg h2]
 by_cases h3:k=3
 ·have c3:(k==3)=true:=by simpa using h3
  rw[if_pos h3]
  simp only[eE,seval,↓eP,rP,hr,c1,c2,c3]
 have c3:(k==3)=false:=by simpa using h3
 rw[if_neg h3]
 simp only[eE,seval,↓eP,rP,hr,c1,c2,c3]
theorem yV {k:Int}:A8 Tryd.prog call N 80 [iv k] h=some (iv (G8 k),h):=by
 refine D_ Tryd.func80 rfl (by simp[Tryd.f80]) ?_
 have hr:Tryd.f80.results.toList=[.tmp 2]:=rfl
 unfold G8
 by_cases h1:k=1
 ·have c1:(k==1)=true:=by simpa using h1
  rw[if_pos h1]
  simp only[eE,seval,↓eP,rP,hr,c1]
 have c1:(k==1)=false:=by simpa using h1
 rw[if_neg h1]
 by_cases h2:k=2
 ·have c2:(k==2)=true:=by simpa using h2
  rw[if_pos h2]
  simp only[eE,seval,↓eP,rP,hr,c1,c2]
 have c2:(k==2)=false:=by simpa using h2
 rw[if_neg h2]
 by_cases h3:k=3
 ·have c3:(k==3)=true:=by simpa using h3
  rw[if_pos h3]
  simp only[eE,seval,↓eP,rP,hr,c1,c2,c3]
 have c3:(k==3)=false:=by simpa using h3
 rw[if_neg h3]
 simp only[eE,seval,↓eP,rP,hr,c1,c2,c3]
end
theorem Jc (k:Int) (h:AA):L1 87 [iv k] h=some (iv (G8 k),h):=EY (GK rfl rfl) rfl rfl rfl ⟨_,Ly⟩
theorem Qd (k:Int) (h:AA):L1 80 [iv k] h=some (iv (G8 k),h):=EY (GK rfl rfl) rfl rfl rfl ⟨_,yV⟩
theorem zI (k:Int) (h:AA) (hk:1≤k∧k≤54):L0 31 [iv k] h=some (iv (BM k),h):=EY rfl rfl rfl rfl (IP Oz hk)
theorem Iv (k:Int) (h:AA) (hk:1≤k∧k≤54):L0 32 [iv k] h=some (iv (DI k),h):=EY rfl rfl rfl rfl (IP Ix hk)
theorem ZW (k:Int) (h:AA) (hk:1≤k∧k≤54):L0 59 [iv k] h=some (.bool (C2 k),h):=EY rfl rfl rfl rfl (IP Ld hk)
section
variable {n lo m e r k:Nat} {h:AA} {nm:ByteArray} {E:List Int} {s:AP}
theorem rI {y:ByteArray} {tag:Nat→Nat} {V:Nat→Value} {C:List Int} (hp:CG h lo m e r k nm E tag V C s) (hth:s.things.length<100000) (hn:100005<n):AX n 86 [qP m 0,.string y] h=some (iv (K6 s.things y 0),h):=by
 obtain⟨n,rfl⟩:=D7 hn
 exact JD (CN ⟨rfl,rfl,rfl⟩) rfl (Js hp (by omega) (by omega))
theorem Lk {at_:Nat} {end_:Int} {x:AC} (hp:FV h lo m e r k nm E s) (hx:s.rows[at_]?=some x) (hd:BM x.kind≠0) (hat:at_<30000000000000) (hE:E[at_]?=some end_) (he:0≤end_) (hth:s.things.length<100000) (hn:100010<n) :
  ∃ h',AX n 57 [qP m 0,iv at_,iv (BM x.kind)] h=some (iv (DQ x s),h')∧(FU h h' lo∧(DQ x s=0→FV h' lo m e r k nm E (BI at_ end_ x s))):=by
 obtain⟨n,rfl⟩:=D7 hn
 exact NS (CN ⟨rfl,rfl,rfl⟩) (vP hp hx hd hat hE he hth (by omega) (fun y H tag V C hp'=>rI hp' hth (by omega)) fun k h'=>GA (Jc k h'))
theorem Dz {at_:Nat} {x:AC} (hp:FV h lo m e r k nm E s) (hx:s.rows[at_]?=some x) (hd:DI x.kind≠0) (hat:at_<30000000000000) (hth:s.things.length<100000) (hn:100010<n) :
  ∃ h',AX n 58 [qP m 0,iv at_,iv (DI x.kind)] h=some (iv (CJ at_ x s),h')∧(FU h h' lo∧(CJ at_ x s=0→FV h' lo m e r k nm E (BO at_ x s))):=by
 obtain⟨n,rfl⟩:=D7 hn
 exact NS (CN ⟨rfl,rfl,rfl⟩) (Ig hp hx hd hat fun y H tag V C hp'=>rI hp' hth (by omega))
theorem z_ {at_:Nat} {x:AC} (hp:FV h lo m e r k nm E s) (hx:s.rows[at_]?=some x) (hev:C2 x.kind=true) (hat:at_<30000000000000) (hxn:x.kind≠10→0≤x.n∧x.n<s.on.length) (hn:0<n) :
  ∃ h',AX n 60 [qP m 0,iv at_] h=some (iv (CV x s),h')∧(FU h h' lo∧(CV x s=0→FV h' lo m e r k nm E (CY at_ x s))):=by
 obtain⟨n,rfl⟩:=D7 hn
 exact NS (CN ⟨rfl,rfl,rfl⟩) (Hj hp hx hev hat hxn)
end
section
variable {n:Nat} {h:AA} {rows:List AC} {E rules:List Int} {vr v0 vq vv vt vu vo v7 ve:Value}
theorem sR {S:List Int} {row le ls:Nat} {vs:Value} (hone:one v0=true∧one vq=true∧one vv=true∧one vt=true∧one vu=true∧one vo=true∧one v7=true) (hv:AV h vr rows) (he:AK le h ve E) (hS:AK ls h vs S) (hs:CZ S) (hL:N2 rows E rules) (hrow:row<rows.length) (hn:rows.length+8<n)
  (hcalls:∀ x∈blk rows E row,x.kind=22→0≤x.n∧x.n<S.length):AX n 63 [.agg #[v0,vr,vq,vv,vt,vu,vo,v7],ve,vs,iv (row:Int)] h=some (iv (FJ rows E S row),h):=by
 obtain⟨n,rfl⟩:=D7 hn
 obtain⟨q,q1,q2,q3,q4⟩:=hL.end hrow
 have hc:FJ rows E S row=G6 S ((rows.drop row).take (q-row)) 0:=by unfold FJ;rw[q1];rfl
 rw[hc]
 rw[q4] at hcalls
 exact J6 (CN ⟨rfl,rfl,rfl⟩) rfl (Bp hone hv he hS hs q1 q2 q3 (by have:=hL.len;omega) (by omega) hcalls fun a b h' hb ha=>GA (qT h' hb ha))
theorem vW {le lu:Nat} (hone:one v0=true∧one vq=true∧one vv=true∧one vt=true∧one vo=true∧one v7=true) (hv:AV h vr rows) (he:AK le h ve E) (hu:AK lu h vu rules) (hL:UG rows E rules) (hfl:h.floor≤h.next) (hn:rows.length+rules.length+12<n) :
  ∃ v h',AX n 61 [.agg #[v0,vr,vq,vv,vt,vu,vo,v7],ve] h=some (v,h')∧(AK h.next h' v (JV rows E rules [])∧h'.floor=h.floor∧h.next≤h'.next∧∀ i,i<h.next→h'.get i=h.get i):=by
 obtain⟨n,rfl⟩:=D7 hn
 refine NG (CN ⟨rfl,rfl,rfl⟩) (yX hone hv he hu hL hfl (by omega) fun vs S row H ho hnx hS hSS hrow hc=>?_) fun v h1 hf ho ⟨h2,_,_,_⟩=>⟨?_,rfl,Nat.le_refl _,fun _ _=>rfl⟩
 ·obtain⟨a,b,c,d,e,f⟩:=hone
  exact sR ⟨a,b,c,d,AZ.one hu,e,f⟩ (hv.mono hnx ho) (he.mono hnx fun i _ hi=>ho i hi) hS hSS hL.lay hrow (by omega) hc
 ·obtain⟨hl,a,c,rfl,⟨h0,rfl⟩ | ⟨id,off,row,ty,g,ro,rfl,g1,g2,g3⟩⟩:=h2
  ·exact⟨hl,_,_,rfl,.inl ⟨h0,rfl⟩⟩
  ·have:FO (.slice (some ⟨id,off,none⟩) (JV rows E rules []).length c)=false:=rfl
   rw[this] at hf
   cases hf
end
def sZ:AP:=⟨[],[],[],[],[],[],0,[]⟩
def C6 (l:List AC):ByteArray:=match l[0]? with
 | some x=>x.name
 | none=>ByteArray.empty
noncomputable def C7 (l:List AC):ByteArray × AP:=if (AU l).1.1≠0 then (ByteArray.empty,sZ) else (C6 l,(AU l).2)
abbrev PS:Value:=.agg #[.string ByteArray.empty,Z0,Z0,Z0,Z0,Z0,Z0,iv 0]
theorem oS (lo:Nat) (h:AA):C1 lo h PS ByteArray.empty sZ:=
 ⟨_,_,_,_,_,_,rfl,HT.of (AZ.nil lo h 5),AZ.nil lo h 2,AZ.nil lo h 1,AZ.nil lo h 1,AZ.nil lo h 1,AZ.nil lo h 1⟩
theorem H_ {t:TypeId} {k:Nat} (ht:BQ Tryd.prog t=some k) {h:AA} {id:Nat} {vs cs:List Value} {ty:TypeId} {g:Bool} (hg:h.get id=.row cs ty g false) (hl:cs.length=k) (hn:vs.length=k) (ho:vs.all one=true) (hf:h.floor≤id) :
  BJ Tryd.prog h t (qP id 0) (.agg vs.toArray)=some (h.put id (.row vs ty g false)):=by
 have hc:(Value.agg vs.toArray).cells=vs.toArray:=rfl
 have hlay:Go.Sx.lay cs 0 vs=vs:=by
  simp only[Go.Sx.lay,List.take_zero,List.nil_append,Nat.zero_add]
  rw[List.drop_of_length_le (by omega),List.append_nil]
 simp only[BJ,hc,ht,G4,hg]
 rw[if_pos (by simp[hn]),if_pos (by simp only[ho];simp;omega),hlay]
theorem MF:DV Tryd.prog 30=some PS:=zB
theorem MH:flat PS=true:=rfl
theorem V4:G7 Tryd.prog (match Tryd.prog.underlying 30 with | some (.struct fs)=>fs.toList | _=>[])=some [(0,1),(1,1),(2,1),(3,1),(4,1),(5,1),(6,1),(7,1)]:=by kernel_rfl
theorem QR:DB Tryd.prog 30 []=some PS:=by
 have h:=V4
 rw[Tryd.underlying30] at h
 simp only at h
 simp only[DB,MF,MH,if_true,Tryd.underlying30,h]
 rfl
theorem Pl {nm:ByteArray} {m:Int}:DB Tryd.prog 30 [(0,.string nm),(7,iv m)]=some (.agg #[.string nm,Z0,Z0,Z0,Z0,Z0,Z0,iv m]):=by
 have h:=V4
 rw[Tryd.underlying30] at h
 simp only at h
 simp only[DB,MF,MH,if_true,Tryd.underlying30,h]
 rfl
theorem Ij:G7 Tryd.prog (match Tryd.prog.underlying 93 with | some (.struct fs)=>fs.toList | _=>[])=some [(0,8),(8,1),(9,1),(10,5)]:=by kernel_rfl
theorem Ho:DV Tryd.prog 93=some (.agg #[.string ByteArray.empty,Z0,Z0,Z0,Z0,Z0,Z0,iv 0,Z0,Z0,iv 0,iv 0,iv 0,iv 0,iv 0]):=by kernel_rfl
abbrev dG (nm:ByteArray) (m:Int) (e k:Nat):Value:=.agg #[.string nm,Z0,Z0,Z0,Z0,Z0,Z0,iv m,qS e k k,Z0,iv 0,iv 0,iv 0,iv 0,iv 0]
theorem zD {nm:ByteArray} {m:Int} {e k:Nat}:DB Tryd.prog 93 [(0,.agg #[.string nm,Z0,Z0,Z0,Z0,Z0,Z0,iv m]),(1,qS e k k)]=some (dG nm m e k):=by
 have h:=Ij
 rw[Tryd.underlying93] at h
 simp only at h
 have hf:flat (.agg #[.string ByteArray.empty,Z0,Z0,Z0,Z0,Z0,Z0,iv 0,Z0,Z0,iv 0,iv 0,iv 0,iv 0,iv 0])=true:=rfl
 simp only[DB,Ho,hf,if_true,Tryd.underlying93,h]
 rfl
theorem Kz:BQ Tryd.prog 31=some 1:=by kernel_rfl
theorem Ki:FI Tryd.prog 31=some false:=by kernel_rfl
theorem HC {h:AA} {id off:Nat}:EL Tryd.prog h 31 (qP id off)=AS off (h.get id):=KV Ki
theorem HJ {id off:Nat}:BC Tryd.prog 33 (qP id off) 0=some (qP id off):=by simp[BC,Tryd.underlying33,Kz,CF]
theorem Rt {h:AA} {l:List AC} {v:Value} (hv:AV h v l) (hne:0<l.length) (hlen:l.length<2932031007403) :
  DF Tryd.prog h 22 (Z0) v=some (qS h.next l.length AJ,h.push (.row (l.flatMap AI) 46 true false)):=by
 have hsrc:=hv.src
 obtain⟨a,c,rfl,h1⟩:=hv
 have hzs:(Value.agg #[.int .i64 0,.string ByteArray.empty,.int .i64 0,.int .i64 0,.int .i64 0]).cells.size=5:=rfl
 have hu:(0:Nat)≠AJ:=by unfold AJ;omega
 have e1:¬ (l.length≤0):=by omega
 have e2:l.length*48≤140737488355328:=by omega
 have e3:l.length≤140737488355328:=by omega
 have h0:C_ h 5 0 (Z0)=some []:=rfl
 simp only[DF,Tryd.underlying22,HF,UK,GO,hzs,hsrc,UY,hu,h0,e1,e2,e3,decide_true,beq_self_eq_true,Bool.and_self,if_true,if_false,Nat.le_refl,Nat.zero_add,Nat.zero_mul,Nat.zero_le,List.nil_append,show (0<5)=True by simp]
noncomputable def YY:Code:=rt (rt (rt (Tryd.f17.body.getD .skip)))
noncomputable def yL:Code:=rt YY
noncomputable def YF:Code:=rt yL
noncomputable def WJ:Code:=rt YF
def ZS:List (Bool × Bool × List Operand):=[AY,AL,AN [.tmp 4],AL]
def dJ:List (Bool × Bool × List Operand):=[(true,false,[]),(true,false,[]),(true,false,[]),(true,false,[]),(true,false,[]),AN [.tmp 21],AN [.tmp 21],AL,AL,AL]
def EP (a:Nat) (H:AA) (pcs:List Value) (e p:Int):Prop:=H.get a=.row pcs 30 false false∧H.get (a+1)=.row [iv e,iv p] 33 false false
section
variable {N:Nat} {call:AQ}
theorem Cu (hsn:CH call) {l:List AC} {v:Value} {h:AA} {K:B9} (hfl:h.floor≤h.next) (hv:AV h v l)
  (hchk:∀ H,AV H v l→H.floor≤H.next→call 55 [v] H=some (FY (BR l).1 (BR l).2,H))
  (hk1:(BR l).1≠0→∀ T' H,T'.get 2=qP h.next 0→T'.get 3=qP (h.next+1) 0→EP h.next H BT (BR l).1 (BR l).2 →
   h.next+2≤H.next→H.floor=h.floor→(∀ i,i<h.next→H.get i=h.get i)→K.ap Tryd.prog call N .ret ⟨T',H⟩)
  (hk2:(BR l).1=0→∀ T' H,T'.get 0=v→T'.get 2=qP h.next 0→T'.get 3=qP (h.next+1) 0→EP h.next H BT 0 0 →
   h.next+2≤H.next→H.floor=h.floor→(∀ i,i<h.next→H.get i=h.get i)→WK Tryd.prog call N YY ⟨T',H⟩ K) :
  WK Tryd.prog call N (Tryd.f17.body.getD .skip) ⟨IS 0 [v] .leaf,h⟩ K:=by
 show WK _ _ _ (.seq _ (.seq _ (.seq _ YY))) _ _
 have NL:=GJ BT
 have ho2:∀ i,i<h.next→((h.push (.row BT 30 false false)).push (.row [iv 0,iv 0] 33 false false)).get i=h.get i:=fun i hi=>by rw[AT (by show i<h.next+1;omega),AT hi]
 have hc:=hchk ((h.push (.row BT 30 false false)).push (.row [iv 0,iv 0] 33 false false)) (hv.mono (by show h.next≤h.next+1+1;omega) ho2) (by show h.floor≤h.next+1+1;omega)
 have ga:=LY (h:=h) (o:=.row BT 30 false false) (o':=.row [iv 0,iv 0] 33 false false)
 have gb:=MJ (h:=h) (o:=.row BT 30 false false) (o':=.row [iv 0,iv 0] 33 false false)
 simp only[eE,seval,↓eP,DG,DA,C9,MF,MH,NL,IA,IG,M0]
 generalize hH2:(h.push (.row BT 30 false false)).push (.row [iv 0,iv 0] 33 false false)=H2 at *
 have hn2:H2.next=h.next+1+1:=by rw[← hH2];rfl
 have hf2:H2.floor=h.floor:=by rw[← hH2];rfl
 have sF:=H_ (t:=33) M7 (h:=H2.push (.row [iv 0,iv 0] 33 false false)) (vs:=[iv (BR l).1,iv (BR l).2]) BP rfl rfl rfl (by show H2.floor≤H2.next;omega)
 simp only[eE,seval,↓eP,DG,DA,C9,hc,IA,IG,M0,sF]
 have hg4:((H2.push (.row [iv 0,iv 0] 33 false false)).put H2.next (.row [iv (BR l).1,iv (BR l).2] 33 false false)).get H2.next=.row [iv (BR l).1,iv (BR l).2] 33 false false:=BN rfl (by show H2.next<H2.next+1;omega)
 have hga:((H2.push (.row [iv 0,iv 0] 33 false false)).put H2.next (.row [iv (BR l).1,iv (BR l).2] 33 false false)).get h.next=.row BT 30 false false:=by
  rw[AM (by show H2.next<H2.next+1;omega) (by omega),AT (by omega)];exact ga
 have hgb:((H2.push (.row [iv 0,iv 0] 33 false false)).put H2.next (.row [iv (BR l).1,iv (BR l).2] 33 false false)).get (h.next+1)=.row [iv 0,iv 0] 33 false false:=by
  rw[AM (by show H2.next<H2.next+1;omega) (by omega),AT (by omega)];exact gb
 have hgo:∀ i,i<h.next→((H2.push (.row [iv 0,iv 0] 33 false false)).put H2.next (.row [iv (BR l).1,iv (BR l).2] 33 false false)).get i=h.get i:=fun i hi=>by
  rw[AM (by show H2.next<H2.next+1;omega) (by omega),AT (by omega)];exact ho2 i hi
 have hn3:((H2.push (.row [iv 0,iv 0] 33 false false)).put H2.next (.row [iv (BR l).1,iv (BR l).2] 33 false false)).next=h.next+3:=by show H2.next+1=_;omega
 have hf3:((H2.push (.row [iv 0,iv 0] 33 false false)).put H2.next (.row [iv (BR l).1,iv (BR l).2] 33 false false)).floor=h.floor:=hf2
 generalize (H2.push (.row [iv 0,iv 0] 33 false false)).put H2.next (.row [iv (BR l).1,iv (BR l).2] 33 false false)=H3 at *
 have l4:AS 0 (H3.get H2.next)=some (iv (BR l).1):=by rw[hg4];rfl
 cases d:((BR l).1 != 0) with
 | false=>
  have e0:(BR l).1=0:=by simpa using d
  simp only[eE,seval,↓eP,DG,E9,DA,C9,HJ,HC,l4,d]
  refine hk2 e0 _ _ ?_ ?_ ?_ ⟨hga,hgb⟩ (by omega) hf3 hgo <;> simp only[eE,seval,↓eP,rP]
 | true=>
  have e0:(BR l).1≠0:=by simpa using d
  have l42:CB 2 0 (H3.get H2.next)=some (FY (BR l).1 (BR l).2):=by rw[hg4];rfl
  have sP:=H_ HR (vs:=BT) hga rfl rfl rfl (by omega)
  have hgb':=(AM (h:=H3) (i:=h.next) (j:=h.next+1) (o:=.row BT 30 false false) (by omega) (by omega)).trans hgb
  have sF2:=H_ (t:=33) M7 (vs:=[iv (BR l).1,iv (BR l).2]) hgb' rfl rfl rfl (by show H3.floor≤_;omega)
  have n1:(some H2.next != some h.next)=true:=by simp;omega
  have i1:DW (qP H2.next 0)=some H2.next:=rfl
  have i2:DW (qP h.next 0)=some h.next:=rfl
  simp only[eE,seval,↓eP,DG,E9,DA,C9,HJ,HC,l4,d]
  refine WK.flags (fs:=ZS) (by kernel_rfl) ?_
  unfold ZS
  iterate 4
   refine GN hsn ?_
   simp only[rG,seval,AB,AE,AD,B_,CO,DO,ED,Fsx,List.map_nil,QR,LX,l42,i1,i2,n1,sP,sF2]
  refine GM ?_
  simp only[eE,seval,↓eP,DG,E9,DA,C9]
  have ha:∀ i,i≠h.next→(H3.put h.next (.row BT 30 false false)).get i=H3.get i:=fun i hi=>AM (by omega) (Ne.symm hi)
  refine hk1 e0 _ _ ?_ ?_ ⟨?_,BN rfl (by show h.next+1<H3.next;omega)⟩ (by show h.next+2≤H3.next;omega) hf3 fun i hi=>?_
  ·simp only[eE,seval,↓eP,rP]
  ·simp only[eE,seval,↓eP,rP]
  ·rw[AM (by show h.next+1<H3.next;omega) (by omega)]
   exact BN rfl (by omega)
  ·rw[AM (by show h.next+1<H3.next;omega) (by omega),ha i (by omega)]
   exact hgo i hi
theorem Ez (hsn:CH call) {l:List AC} {v:Value} {T:Tr} {H:AA} {K:B9} (ht:B8 l) (hlen:l.length<2932031007403) (hfl:H.floor≤H.next) (hv:AV H v l) (t0:T.get 0=v)
  (hends:∀ H,AV H v l→H.floor≤H.next→∃ h',call 56 [v] H=some (qS H.next l.length l.length,h')∧(h'.get H.next=.row (ints (AR l)) 3 false false∧h'.next=H.next+1∧h'.floor=H.floor∧∀ i,i<H.next→h'.get i=H.get i))
  (hk:∀ T' H' m e r,T'.get 0=v→T'.get 2=T.get 2→T'.get 3=T.get 3→T'.get 5=qP m 0→FV H' H.next m e r l.length (C6 l) (AR l) (BU l)→H.next≤H'.next→H'.floor=H.floor→(∀ i,i<H.next→H'.get i=H.get i)→WK Tryd.prog call N YF ⟨T',H'⟩ K) :
  WK Tryd.prog call N YY ⟨T,H⟩ K:=by
 show WK _ _ _ (.seq (.region _ _ true) (.seq _ YF)) _ _
 rw[LD]
 have hpos:=ht.pos
 obtain⟨x,hx⟩:∃ x,l[0]?=some x:=⟨_,List.getElem?_eq_getElem hpos⟩
 obtain⟨id,q,e0,hid,l0,l1,l2,l3,l4,lr⟩:=hv.row hx
 have hvf:AV (H.fl (max H.floor H.next)) v l:=hv.mono (Nat.le_refl _) fun _ _=>rfl
 obtain⟨h3,hE,g1,g2,g3,g4⟩:=hends (H.fl (max H.floor H.next)) hvf (by show max H.floor H.next≤H.next;omega)
 simp only[DD] at hE g1 g2 g4
 have g3':h3.floor=max H.floor H.next:=g3
 have g4':∀ i,i<H.next→h3.get i=H.get i:=g4
 have hnm:C6 l=x.name:=by unfold C6;rw[hx]
 have e0':CU Tryd.prog 22 v (iv 0)=some (qP id q):=e0
 have hidT:(id<H.next)=True:=by simp[hid]
 have hone:(dG x.name (-1) H.next l.length).cells.toList.all one=true:=rfl
 have hcl:(dG x.name (-1) H.next l.length).cells.toList=[.string x.name,Z0,Z0,Z0,Z0,Z0,Z0,iv (-1),qS H.next l.length l.length,Z0,iv 0,iv 0,iv 0,iv 0,iv 0]:=rfl
 refine WK.flags (fs:=dJ) (by kernel_rfl) ?_
 unfold dJ
 iterate 10
  refine GN hsn ?_
  simp only[rG,seval,AB,AE,AD,B_,CO,DO,ED,Fsx,t0,e0',LS,hidT,FQ,l1,List.map_cons,List.map_nil,Pl,hE,zD,hcl,xD]
 refine GM ?_
 have hn4:((h3.fl H.floor).push (.row [.string x.name,Z0,Z0,Z0,Z0,Z0,Z0,iv (-1),qS H.next l.length l.length,Z0,iv 0,iv 0,iv 0,iv 0,iv 0] 93 false false)).next=H.next+1+1:=by show h3.next+1=_;omega
 have hf4:((h3.fl H.floor).push (.row [.string x.name,Z0,Z0,Z0,Z0,Z0,Z0,iv (-1),qS H.next l.length l.length,Z0,iv 0,iv 0,iv 0,iv 0,iv 0] 93 false false)).floor=H.floor:=rfl
 have gm:((h3.fl H.floor).push (.row [.string x.name,Z0,Z0,Z0,Z0,Z0,Z0,iv (-1),qS H.next l.length l.length,Z0,iv 0,iv 0,iv 0,iv 0,iv 0] 93 false false)).get h3.next=.row [.string x.name,Z0,Z0,Z0,Z0,Z0,Z0,iv (-1),qS H.next l.length l.length,Z0,iv 0,iv 0,iv 0,iv 0,iv 0] 93 false false:=BP (h:=h3.fl H.floor)
 have ge:((h3.fl H.floor).push (.row [.string x.name,Z0,Z0,Z0,Z0,Z0,Z0,iv (-1),qS H.next l.length l.length,Z0,iv 0,iv 0,iv 0,iv 0,iv 0] 93 false false)).get H.next=.row (ints (AR l)) 3 false false:=by rw[AT (by show H.next<h3.next;omega)];exact g1
 have go:∀ i,i<H.next→((h3.fl H.floor).push (.row [.string x.name,Z0,Z0,Z0,Z0,Z0,Z0,iv (-1),qS H.next l.length l.length,Z0,iv 0,iv 0,iv 0,iv 0,iv 0] 93 false false)).get i=H.get i:=fun i hi=>by rw[AT (by show i<h3.next;omega)];exact g4' i hi
 generalize (h3.fl H.floor).push (.row [.string x.name,Z0,Z0,Z0,Z0,Z0,Z0,iv (-1),qS H.next l.length l.length,Z0,iv 0,iv 0,iv 0,iv 0,iv 0] 93 false false)=H4 at *
 have hv4:AV H4 v l:=hv.mono (by omega) go
 have hap:=Rt hv4 hpos (by omega)
 have hm1:AS 1 (H4.get h3.next)=some (Z0):=by rw[gm];rfl
 have gm5:(H4.push (.row (l.flatMap AI) 46 true false)).get h3.next=.row [.string x.name,Z0,Z0,Z0,Z0,Z0,Z0,iv (-1),qS H.next l.length l.length,Z0,iv 0,iv 0,iv 0,iv 0,iv 0] 93 false false:=by rw[AT (by omega)];exact gm
 have hst:=F5 (t:=22) (off:=1) iF (v:=qS H4.next l.length AJ) rfl rfl gm5 (by simp) (by show H4.floor≤_;omega)
 have hfx:H4.fl (h3.fl H.floor).floor=H4:=by
  show H4.fl H.floor=H4
  rw[← hf4]
  exact IB H4
 simp only[eE,seval,↓eP,DG,E9,DA,C9,hfx,DD,t0,HW,CL,CK,hm1,hap,hst]
 have gput:∀ (o:BE) (i:Nat),i≠h3.next→((H4.push (.row (l.flatMap AI) 46 true false)).put h3.next o).get i=(H4.push (.row (l.flatMap AI) 46 true false)).get i:=fun o i hi=>AM (by show h3.next<H4.next+1;omega) (Ne.symm hi)
 refine hk _ _ h3.next H.next H4.next ?_ ?_ ?_ ?_ ⟨fun i=>if i=h3.next then 0 else if i=H4.next then 1 else if i=H.next then 10 else 11,fun _=>Z0,?_,⟨by simp[BU],by simp[BU],by simp[BU],by simp[BU],rfl,fun t ht=>by cases ht⟩⟩ ?_ (by show H4.floor=H.floor;exact hf4) fun i hi=>?_
 ·simp only[eE,seval,↓eP,rP,t0]
 ·simp only[eE,seval,↓eP,rP]
 ·simp only[eE,seval,↓eP,rP]
 ·simp only[eE,seval,↓eP,rP]
 ·exact
   { cell:=by
      rw[BN rfl (by show h3.next<H4.next+1;omega),hnm]
      simp only[F9,O5]
      rfl
     rows:=by rw[gput _ _ (by omega)];exact BP
     len:=rfl
     sl:=fun j h2 h8=>by
      have hj:j=2∨j=3∨j=4∨j=5∨j=6∨j=7∨j=8:=by omega
      rcases hj with rfl | rfl | rfl | rfl | rfl | rfl | rfl <;> exact .inl ⟨rfl,rfl,rfl⟩
     ends:=by rw[gput _ _ (by omega),AT (by omega)];exact ge
     tm:=if_pos rfl
     tr:=by rw[if_neg (by omega),if_pos rfl]
     te:=by rw[if_neg (by omega),if_neg (by omega),if_pos rfl]
     lm:=⟨by omega,by show h3.next<H4.next+1;omega⟩
     lr:=⟨by omega,by show H4.next<H4.next+1;omega⟩
     le:=⟨Nat.le_refl _,by show H.next<H4.next+1;omega⟩
     fl:=by show H4.floor≤H.next;omega }
 ·show H.next≤H4.next+1
  omega
 ·rw[gput _ _ (by omega),AT (by omega)];exact go i hi
end
noncomputable def WN:Code:=rt (rt (Tryd.f16.body.getD .skip))
noncomputable def Nt:Code:=rt WN
noncomputable def Ee:Code:=rt Nt
noncomputable def Pu:Code:=rt Ee
noncomputable def VL:Code:=rt Pu
noncomputable def YV:Code:=rt VL
noncomputable def rZ:Array Oper:=DR Tryd.f16 3
def wR:List (Bool × Bool × List Operand):=[AY,AL,AN [.tmp 4],AL]
theorem Iu:DS rZ=wR:=by kernel_rfl
noncomputable def rC:Array Oper:=DR Tryd.f16 5
def Ql:List (Bool × Bool × List Operand):=[FW,C3 [.tmp 5],C3 [.tmp 5],C3 [.tmp 5],C3 [.tmp 5],AN [.tmp 5,.tmp 27],AN [.tmp 5,.tmp 27],AN [.tmp 5],AL,AL,AL]
theorem wH:DS rC=Ql:=by kernel_rfl
theorem Nk {t:TypeId} {k:Nat} (ht:BQ Tryd.prog t=some k) {h:AA} {id:Nat} {vs cs:List Value} {ty:TypeId} {g:Bool} (hg:h.get id=.row cs ty g false) (hl:k≤cs.length) (hn:vs.length=k) (ho:vs.all one=true) (hf:h.floor≤id) :
  BJ Tryd.prog h t (qP id 0) (.agg vs.toArray)=some (h.put id (.row (vs++cs.drop k) ty g false)):=by
 have hc:(Value.agg vs.toArray).cells=vs.toArray:=rfl
 have hlay:Go.Sx.lay cs 0 vs=vs++cs.drop k:=by
  simp only[Go.Sx.lay,List.take_zero,List.nil_append,Nat.zero_add,hn]
 simp only[BJ,hc,ht,G4,hg]
 rw[if_pos (by simp[hn]),if_pos (by simp only[ho];simp;omega),hlay]
theorem x8 {nm:ByteArray} {a:Option Addr} {n c:Nat} {m:Int}:DB Tryd.prog 30 [(0,.string nm),(1,.slice a n c),(7,iv m)]=some (.agg #[.string nm,.slice a n c,Z0,Z0,Z0,Z0,Z0,iv m]):=by
 have h:=V4
 rw[Tryd.underlying30] at h
 simp only at h
 simp only[DB,MF,MH,if_true,Tryd.underlying30,h]
 rfl
theorem Rj:G7 Tryd.prog (match Tryd.prog.underlying 83 with | some (.struct fs)=>fs.toList | _=>[])=some [(0,8),(8,1),(9,1)]:=by kernel_rfl
theorem zW:DV Tryd.prog 83=some (.agg #[.string ByteArray.empty,Z0,Z0,Z0,Z0,Z0,Z0,iv 0,.map none,.map none]):=by kernel_rfl
abbrev gQ (k c:Nat):Value:=.agg #[.string ByteArray.empty,Z0,Z0,Z0,Z0,Z0,Z0,iv 0,.map (some k),.map (some c)]
theorem Bn {k c:Nat}:DB Tryd.prog 83 [(1,.map (some k)),(2,.map (some c))]=some (gQ k c):=by
 have h:=Rj
 rw[Tryd.underlying83] at h
 simp only at h
 have hf:flat (.agg #[.string ByteArray.empty,Z0,Z0,Z0,Z0,Z0,Z0,iv 0,.map none,.map none])=true:=rfl
 simp only[DB,zW,hf,if_true,Tryd.underlying83,h]
 rfl
theorem qI:BQ Tryd.prog 86=some 1:=by kernel_rfl
theorem Pw:FI Tryd.prog 86=some false:=by kernel_rfl
theorem Cd:DV Tryd.prog 86=some .nilFunc:=by kernel_rfl
theorem Hn:DV Tryd.prog 79=some (.pointer none):=by kernel_rfl
theorem Be:DV Tryd.prog 28=some (Z0):=by kernel_rfl
theorem qQ {h:AA} {id off:Nat}:EL Tryd.prog h 86 (qP id off)=AS off (h.get id):=KV Pw
theorem Bz {h:AA} {f0 f1 f2:FuncId} {a0 a1 a2 b0 b1 b2:Array Value}:FN Tryd.prog h 87 3 [(0,.func (.func f0) a0 b0),(1,.func (.func f1) a1 b1),(2,.func (.func f2) a2 b2)]=some (qS h.next 3 3,h.push (.row [.func (.func f0) a0 b0,.func (.func f1) a1 b1,.func (.func f2) a2 b2] 86 false false)):=by
 have hc:∀ (f:FuncId) (a b:Array Value),(Value.func (.func f) a b).cells=#[.func (.func f) a b]:=fun _ _ _=>rfl
 have hz:Value.nilFunc.cells=#[.nilFunc]:=rfl
 simp[FN,Tryd.underlying87,qI,Cd,flat,B7,hc,hz,I5,C0,Go.Sx.lay]
theorem Sl {h:AA} {id c i:Nat} (hi:i<3):CU Tryd.prog 87 (qS id 3 c) (iv (i:Int))=some (qP id i):=by
 simp only[CU,Tryd.underlying87,qI,CF]
 rw[if_pos (by omega)]
 simp
theorem Kk {h:AA} {a:Option Addr} {n c:Nat}:CC Tryd.prog h 87 (.slice a n c)=some (iv (n:Int)):=by simp[CC,Tryd.underlying87]
section
variable {N:Nat} {call:AQ}
theorem Jh (hsn:CH call) {l:List AC} {v:Value} {h:AA} {K:B9} (hfl:h.floor≤h.next) (hv:AV h v l)
  (hg:h.get 0=DZ) (hn0:0<h.next)
  (hchk:∀ H,AV H v l→H.get 0=DZ→0<H.next→H.floor≤H.next→call 30 [v] H=some (FY (BR l).1 (BR l).2,H))
  (hk1:(BR l).1≠0→∀ T' H,T'.get 2=qP h.next 0→T'.get 3=qP (h.next+1) 0→EP h.next H BT (BR l).1 (BR l).2 →
   h.next+2≤H.next→H.floor=h.floor→(∀ i,i<h.next→H.get i=h.get i)→K.ap Tryd.prog call N .ret ⟨T',H⟩)
  (hk2:(BR l).1=0→∀ T' H,T'.get 0=v→T'.get 2=qP h.next 0→T'.get 3=qP (h.next+1) 0→EP h.next H BT 0 0 →
   h.next+2≤H.next→H.floor=h.floor→(∀ i,i<h.next→H.get i=h.get i)→WK Tryd.prog call N WN ⟨T',H⟩ K) :
  WK Tryd.prog call N (Tryd.f16.body.getD .skip) ⟨IS 0 [v] .leaf,h⟩ K:=by
 show WK _ _ _ (.seq _ (.seq _ WN)) _ _
 have NL:=GJ BT
 have ho2:∀ i,i<h.next→((h.push (.row BT 30 false false)).push (.row [iv 0,iv 0] 33 false false)).get i=h.get i:=fun i hi=>by rw[AT (by show i<h.next+1;omega),AT hi]
 have hc:=hchk ((h.push (.row BT 30 false false)).push (.row [iv 0,iv 0] 33 false false)) (hv.mono (by show h.next≤h.next+1+1;omega) ho2) ((ho2 0 hn0).trans hg) (by show 0<h.next+1+1;omega) (by show h.floor≤h.next+1+1;omega)
 have ga:=LY (h:=h) (o:=.row BT 30 false false) (o':=.row [iv 0,iv 0] 33 false false)
 have gb:=MJ (h:=h) (o:=.row BT 30 false false) (o':=.row [iv 0,iv 0] 33 false false)
 simp only[eE,seval,↓eP,DG,DA,C9,MF,MH,NL,IA,IG,M0]
 generalize hH2:(h.push (.row BT 30 false false)).push (.row [iv 0,iv 0] 33 false false)=H2 at *
 have hn2:H2.next=h.next+1+1:=by rw[← hH2];rfl
 have hf2:H2.floor=h.floor:=by rw[← hH2];rfl
 have sF:=H_ (t:=33) M7 (h:=H2.push (.row [iv 0,iv 0] 33 false false)) (vs:=[iv (BR l).1,iv (BR l).2]) BP rfl rfl rfl (by show H2.floor≤H2.next;omega)
 simp only[eE,seval,↓eP,DG,DA,C9,hc,IA,IG,M0,sF]
 have hg4:((H2.push (.row [iv 0,iv 0] 33 false false)).put H2.next (.row [iv (BR l).1,iv (BR l).2] 33 false false)).get H2.next=.row [iv (BR l).1,iv (BR l).2] 33 false false:=BN rfl (by show H2.next<H2.next+1;omega)
 have hga:((H2.push (.row [iv 0,iv 0] 33 false false)).put H2.next (.row [iv (BR l).1,iv (BR l).2] 33 false false)).get h.next=.row BT 30 false false:=by
  rw[AM (by show H2.next<H2.next+1;omega) (by omega),AT (by omega)];exact ga
 have hgb:((H2.push (.row [iv 0,iv 0] 33 false false)).put H2.next (.row [iv (BR l).1,iv (BR l).2] 33 false false)).get (h.next+1)=.row [iv 0,iv 0] 33 false false:=by
  rw[AM (by show H2.next<H2.next+1;omega) (by omega),AT (by omega)];exact gb
 have hgo:∀ i,i<h.next→((H2.push (.row [iv 0,iv 0] 33 false false)).put H2.next (.row [iv (BR l).1,iv (BR l).2] 33 false false)).get i=h.get i:=fun i hi=>by
  rw[AM (by show H2.next<H2.next+1;omega) (by omega),AT (by omega)];exact ho2 i hi
 have hn3:((H2.push (.row [iv 0,iv 0] 33 false false)).put H2.next (.row [iv (BR l).1,iv (BR l).2] 33 false false)).next=h.next+3:=by show H2.next+1=_;omega
 have hf3:((H2.push (.row [iv 0,iv 0] 33 false false)).put H2.next (.row [iv (BR l).1,iv (BR l).2] 33 false false)).floor=h.floor:=hf2
 generalize (H2.push (.row [iv 0,iv 0] 33 false false)).put H2.next (.row [iv (BR l).1,iv (BR l).2] 33 false false)=H3 at *
 have l4:AS 0 (H3.get H2.next)=some (iv (BR l).1):=by rw[hg4];rfl
 cases d:((BR l).1 != 0) with
 | false=>
  have e0:(BR l).1=0:=by simpa using d
  simp only[eE,seval,↓eP,DG,E9,DA,C9,HJ,HC,l4,d]
  refine hk2 e0 _ _ ?_ ?_ ?_ ⟨hga,hgb⟩ (by omega) hf3 hgo <;> simp only[eE,seval,↓eP,rP]
 | true=>
  have e0:(BR l).1≠0:=by simpa using d
  have l42:CB 2 0 (H3.get H2.next)=some (FY (BR l).1 (BR l).2):=by rw[hg4];rfl
  have sP:=H_ HR (vs:=BT) hga rfl rfl rfl (by omega)
  have hgb':=(AM (h:=H3) (i:=h.next) (j:=h.next+1) (o:=.row BT 30 false false) (by omega) (by omega)).trans hgb
  have sF2:=H_ (t:=33) M7 (vs:=[iv (BR l).1,iv (BR l).2]) hgb' rfl rfl rfl (by show H3.floor≤_;omega)
  have n1:(some H2.next != some h.next)=true:=by simp;omega
  have i1:DW (qP H2.next 0)=some H2.next:=rfl
  have i2:DW (qP h.next 0)=some h.next:=rfl
  simp only[eE,seval,↓eP,DG,E9,DA,C9,HJ,HC,l4,d]
  refine WK.flags (ops:=rZ) Iu ?_
  refine BV.begin ?_
  refine AF hsn 0 (some 18) (.build 30 #[]) none ?_
  simp only[rG,seval,AB,AE,AD,List.map_nil,QR]
  refine AF hsn 1 (some 19) (.load 33 (.tmp 4)) none ?_
  simp only[rG,seval,AB,AE,AD,B_,LX,l42,i1]
  refine AF hsn 2 (none) (.store 30 (.tmp 2) (.tmp 18)) none ?_
  simp only[rG,seval,AB,AE,AD,DO,ED,i1,i2,n1,sP]
  refine AF hsn 3 (none) (.store 33 (.tmp 3) (.tmp 19)) none ?_
  simp only[rG,seval,AB,AE,AD,DO,ED,sF2]
  refine BV.done (i:=4) (by kernel_rfl) ?_
  simp only[eE,seval,↓eP,DG,E9,DA,C9]
  have ha:∀ i,i≠h.next→(H3.put h.next (.row BT 30 false false)).get i=H3.get i:=fun i hi=>AM (by omega) (Ne.symm hi)
  refine hk1 e0 _ _ ?_ ?_ ⟨?_,BN rfl (by show h.next+1<H3.next;omega)⟩ (by show h.next+2≤H3.next;omega) hf3 fun i hi=>?_
  ·simp only[eE,seval,↓eP,rP]
  ·simp only[eE,seval,↓eP,rP]
  ·rw[AM (by show h.next+1<H3.next;omega) (by omega)]
   exact BN rfl (by omega)
  ·rw[AM (by show h.next+1<H3.next;omega) (by omega),ha i (by omega)]
   exact hgo i hi
structure XU (h:AA) (m e c5 c6 fl n:Nat) (E:List Int):Prop where
 h5:h.get c5=.row [qP m 0] 79 false false
 h6:h.get c6=.row [qS e n n] 28 false false
 hf:h.get fl=.row [.func (.func 50) #[] #[qP c5 0,qP c6 0],.func (.func 52) #[qP m 0] #[],.func (.func 53) #[qP m 0] #[]] 86 false false
theorem Fq (hsn:CH call) {l:List AC} {v:Value} {T:Tr} {H:AA} {K:B9} (ht:B8 l) (hlen:l.length<2932031007403) (hfl:H.floor≤H.next) (hv:AV H v l) (t0:T.get 0=v)
  (hclone:∀ H,AV H v l→∃ h',call 48 [v] H=some (qS (H.next+1) l.length AJ,h')∧(h'.get (H.next+1)=.row (l.flatMap AI) 46 true false∧h'.next=H.next+2∧h'.floor=H.floor∧∀ i,i<H.next→h'.get i=H.get i))
  (hends:∀ H,AV H v l→H.floor≤H.next→∃ h',call 49 [v] H=some (qS H.next l.length l.length,h')∧(h'.get H.next=.row (ints (AR l)) 3 false false∧h'.next=H.next+1∧h'.floor=H.floor∧∀ i,i<H.next→h'.get i=H.get i))
  (hk:∀ T' H' m k c e r c5 c6 fl,T'.get 0=v→T'.get 2=T.get 2→T'.get 3=T.get 3→T'.get 5=qP c5 0→T'.get 6=qP c6 0→T'.get 7=qS fl 3 3 →
   EZ H' H.next m k c e r l.length (C6 l) (AR l) [c5,c6,fl] (BU l)→XU H' m e c5 c6 fl l.length (AR l)→H.next≤H'.next→H'.floor=H.floor→(∀ i,i<H.next→H'.get i=H.get i)→WK Tryd.prog call N VL ⟨T',H'⟩ K) :
  WK Tryd.prog call N WN ⟨T,H⟩ K:=by
 show WK _ _ _ (.seq _ (.seq (.region _ _ true) (.seq _ (.seq _ VL)))) _ _
 have hpos:=ht.pos
 obtain⟨x,hx⟩:∃ x,l[0]?=some x:=⟨_,List.getElem?_eq_getElem hpos⟩
 have hnm:C6 l=x.name:=by unfold C6;rw[hx]
 have mc:(gQ H.next (H.next+1)).cells.toList=[.string ByteArray.empty,Z0,Z0,Z0,Z0,Z0,Z0,iv 0,.map (some H.next),.map (some (H.next+1))]:=rfl
 have mo:([.string ByteArray.empty,Z0,Z0,Z0,Z0,Z0,Z0,iv 0,.map (some H.next),.map (some (H.next+1))]:List Value).all one=true:=rfl
 have z79:(Value.pointer none).cells.toList=[.pointer none]:=rfl
 have f79:flat (.pointer none)=true:=rfl
 have hst:BJ Tryd.prog ((((H.push (.map [])).push (.map [])).push (.row [.string ByteArray.empty,Z0,Z0,Z0,Z0,Z0,Z0,iv 0,.map (some H.next),.map (some (H.next+1))] 83 false false)).push (.row [.pointer none] 79 false false)) 79 (qP (H.next+1+1+1) 0) (qP (H.next+1+1) 0)=_:=
  F5 (off:=0) Hu rfl rfl (BP (h:=(((H.push (.map [])).push (.map [])).push (.row [.string ByteArray.empty,Z0,Z0,Z0,Z0,Z0,Z0,iv 0,.map (some H.next),.map (some (H.next+1))] 83 false false)))) (by decide) (by show H.floor≤H.next+1+1+1;omega)
 simp only[eE,seval,↓eP,DG,DA,C9,Bn,mc,mo,Nc,Hn,z79,f79,hst]
 have n1:(((H.push (.map [])).push (.map [])).push (.row [.string ByteArray.empty,Z0,Z0,Z0,Z0,Z0,Z0,iv 0,.map (some H.next),.map (some (H.next+1))] 83 false false)).next=H.next+1+1+1:=rfl
 have P0:∀ i,i<H.next→((((H.push (.map [])).push (.map [])).push (.row [.string ByteArray.empty,Z0,Z0,Z0,Z0,Z0,Z0,iv 0,.map (some H.next),.map (some (H.next+1))] 83 false false)).push (.row [.pointer none] 79 false false)).get i=H.get i:=fun i hi=>by
  rw[AT (by show i<H.next+1+1+1;omega),AT (by show i<H.next+1+1;omega),AT (by show i<H.next+1;omega),AT hi]
 have P1:((((H.push (.map [])).push (.map [])).push (.row [.string ByteArray.empty,Z0,Z0,Z0,Z0,Z0,Z0,iv 0,.map (some H.next),.map (some (H.next+1))] 83 false false)).push (.row [.pointer none] 79 false false)).get H.next=.map []:=by
  rw[AT (by show H.next<H.next+1+1+1;omega),AT (by show H.next<H.next+1+1;omega)];exact LY
 have P2:((((H.push (.map [])).push (.map [])).push (.row [.string ByteArray.empty,Z0,Z0,Z0,Z0,Z0,Z0,iv 0,.map (some H.next),.map (some (H.next+1))] 83 false false)).push (.row [.pointer none] 79 false false)).get (H.next+1)=.map []:=by
  rw[AT (by show H.next+1<H.next+1+1+1;omega),AT (by show H.next+1<H.next+1+1;omega)];exact MJ
 have P3:((((H.push (.map [])).push (.map [])).push (.row [.string ByteArray.empty,Z0,Z0,Z0,Z0,Z0,Z0,iv 0,.map (some H.next),.map (some (H.next+1))] 83 false false)).push (.row [.pointer none] 79 false false)).get (H.next+1+1)=.row [.string ByteArray.empty,Z0,Z0,Z0,Z0,Z0,Z0,iv 0,.map (some H.next),.map (some (H.next+1))] 83 false false:=by
  rw[AT (by show H.next+1+1<H.next+1+1+1;omega)];exact BP (h:=(H.push (.map [])).push (.map []))
 have nA:((((H.push (.map [])).push (.map [])).push (.row [.string ByteArray.empty,Z0,Z0,Z0,Z0,Z0,Z0,iv 0,.map (some H.next),.map (some (H.next+1))] 83 false false)).push (.row [.pointer none] 79 false false)).next=H.next+4:=rfl
 have fA:((((H.push (.map [])).push (.map [])).push (.row [.string ByteArray.empty,Z0,Z0,Z0,Z0,Z0,Z0,iv 0,.map (some H.next),.map (some (H.next+1))] 83 false false)).push (.row [.pointer none] 79 false false)).floor=H.floor:=rfl
 generalize (((H.push (.map [])).push (.map [])).push (.row [.string ByteArray.empty,Z0,Z0,Z0,Z0,Z0,Z0,iv 0,.map (some H.next),.map (some (H.next+1))] 83 false false)).push (.row [.pointer none] 79 false false)=A0 at *
 have Q:∀ i,i≠H.next+1+1+1→(A0.put (H.next+1+1+1) (.row ([Value.pointer none].set 0 (qP (H.next+1+1) 0)) 79 false false)).get i=A0.get i:=fun i hi=>AM (by omega) (Ne.symm hi)
 have a0:∀ i,i<H.next→(A0.put (H.next+1+1+1) (.row ([Value.pointer none].set 0 (qP (H.next+1+1) 0)) 79 false false)).get i=H.get i:=fun i hi=>by rw[Q i (by omega)];exact P0 i hi
 have a1:=(Q H.next (by omega)).trans P1
 have a2:=(Q (H.next+1) (by omega)).trans P2
 have a3:=(Q (H.next+1+1) (by omega)).trans P3
 have a4:(A0.put (H.next+1+1+1) (.row ([Value.pointer none].set 0 (qP (H.next+1+1) 0)) 79 false false)).get (H.next+1+1+1)=.row [qP (H.next+1+1) 0] 79 false false:=BN rfl (by omega)
 have nB:(A0.put (H.next+1+1+1) (.row ([Value.pointer none].set 0 (qP (H.next+1+1) 0)) 79 false false)).next=H.next+4:=nA
 have fB:(A0.put (H.next+1+1+1) (.row ([Value.pointer none].set 0 (qP (H.next+1+1) 0)) 79 false false)).floor=H.floor:=fA
 generalize A0.put (H.next+1+1+1) (.row ([Value.pointer none].set 0 (qP (H.next+1+1) 0)) 79 false false)=A at *
 clear hst n1 P0 P1 P2 P3 nA fA Q A0
 have hvA:AV A v l:=hv.mono (by omega) a0
 obtain⟨id,q,e0,hid,l0,l1,l2,l3,l4,lr⟩:=hvA.row hx
 have e0':CU Tryd.prog 22 v (iv 0)=some (qP id q):=e0
 have hidT:(id<A.next)=True:=by simp[hid]
 have l79:AS 0 (A.get (H.next+1+1+1))=some (qP (H.next+1+1) 0):=by rw[a4];rfl
 have hvf:AV (A.fl (max A.floor A.next)) v l:=hvA.mono (Nat.le_refl _) fun _ _=>rfl
 obtain⟨h3,hE,g1,g2,g3,g4⟩:=hclone (A.fl (max A.floor A.next)) hvf
 simp only[DD] at hE g1 g2 g4
 have g4':∀ i,i<A.next→h3.get i=A.get i:=g4
 have hs30:BJ Tryd.prog (h3.fl A.floor) 30 (qP (H.next+1+1) 0) (.agg #[.string x.name,qS (A.next+1) l.length AJ,Z0,Z0,Z0,Z0,Z0,iv (-1)])=_:=
  Nk (vs:=[.string x.name,qS (A.next+1) l.length AJ,Z0,Z0,Z0,Z0,Z0,iv (-1)]) HR (by rw[GL,g4' _ (by omega)];exact a3) (by simp only[List.length_cons,List.length_nil];omega) rfl rfl (by show A.floor≤_;omega)
 have i3:((H.next+1+1+1)<A.next)=True:=by simp;omega
 refine WK.flags (ops:=rC) wH ?_
 refine BV.begin ?_
 refine AF hsn 0 (some 24) (.load 79 (.tmp 5)) none ?_
 simp only[rG,seval,AB,AE,AD,B_,l79,i3,TR]
 refine AF hsn 1 (some 25) (.move (.tmp 0)) none ?_
 simp only[rG,seval,AB,AE,AD,t0]
 refine AF hsn 2 (some 26) (.indexAddr 22 (.tmp 25) (.const (Value.int IntKind.i64 0))) none ?_
 simp only[rG,seval,AB,AE,AD,e0']
 refine AF hsn 3 (some 27) (.fieldAddr 46 (.tmp 26) 1) none ?_
 simp only[rG,seval,AB,AE,AD,LS]
 refine AF hsn 4 (some 28) (.load 9 (.tmp 27)) none ?_
 simp only[rG,seval,AB,AE,AD,B_,hidT,FQ,l1]
 refine AF hsn 5 (some 29) (.move (.tmp 0)) none ?_
 simp only[rG,seval,AB,AE,AD,t0]
 refine AF hsn 6 (some 30) (.call { callee:=.value (.func 48),args:=#[.tmp 29],argTypes:=#[22] }) none ?_
 simp only[rG,seval,AB,AE,AD,CO,hE]
 refine AF hsn 7 (some 31) (.build 30 #[(0,.tmp 28),(1,.tmp 30),(7,.const (Value.int IntKind.i64 (-1)))]) none ?_
 simp only[rG,seval,AB,AE,AD,List.map_cons,List.map_nil,x8]
 refine AF hsn 8 (some 32) (.nilCheck (.tmp 24)) none ?_
 simp only[rG,seval,AB,AE,AD]
 refine AF hsn 9 (some 33) (.fieldAddr 83 (.tmp 32) 0) none ?_
 simp only[rG,seval,AB,AE,AD,I8]
 refine AF hsn 10 (none) (.store 30 (.tmp 33) (.tmp 31)) none ?_
 simp only[rG,seval,AB,AE,AD,DO,ED,hs30]
 refine BV.done (i:=11) (by kernel_rfl) ?_
 have hgo:∀ i,i≠H.next+1+1→((h3.fl A.floor).put (H.next+1+1) (BE.row ([.string x.name,qS (A.next+1) l.length AJ,Z0,Z0,Z0,Z0,Z0,iv (-1)]++List.drop 8 [.string ByteArray.empty,Z0,Z0,Z0,Z0,Z0,Z0,iv 0,.map (some H.next),.map (some (H.next+1))]) 83 false false)).get i=h3.get i:=fun i hi=>AM (by show _<h3.next;omega) (Ne.symm hi)
 have b0:∀ i,i<H.next→((h3.fl A.floor).put (H.next+1+1) (BE.row ([.string x.name,qS (A.next+1) l.length AJ,Z0,Z0,Z0,Z0,Z0,iv (-1)]++List.drop 8 [.string ByteArray.empty,Z0,Z0,Z0,Z0,Z0,Z0,iv 0,.map (some H.next),.map (some (H.next+1))]) 83 false false)).get i=H.get i:=fun i hi=>by rw[hgo i (by omega),g4' i (by omega),a0 i hi]
 have b1:((h3.fl A.floor).put (H.next+1+1) (BE.row ([.string x.name,qS (A.next+1) l.length AJ,Z0,Z0,Z0,Z0,Z0,iv (-1)]++List.drop 8 [.string ByteArray.empty,Z0,Z0,Z0,Z0,Z0,Z0,iv 0,.map (some H.next),.map (some (H.next+1))]) 83 false false)).get H.next=.map []:=by rw[hgo _ (by omega),g4' _ (by omega)];exact a1
 have b2:((h3.fl A.floor).put (H.next+1+1) (BE.row ([.string x.name,qS (A.next+1) l.length AJ,Z0,Z0,Z0,Z0,Z0,iv (-1)]++List.drop 8 [.string ByteArray.empty,Z0,Z0,Z0,Z0,Z0,Z0,iv 0,.map (some H.next),.map (some (H.next+1))]) 83 false false)).get (H.next+1)=.map []:=by rw[hgo _ (by omega),g4' _ (by omega)];exact a2
 have b3:((h3.fl A.floor).put (H.next+1+1) (BE.row ([.string x.name,qS (A.next+1) l.length AJ,Z0,Z0,Z0,Z0,Z0,iv (-1)]++List.drop 8 [.string ByteArray.empty,Z0,Z0,Z0,Z0,Z0,Z0,iv 0,.map (some H.next),.map (some (H.next+1))]) 83 false false)).get (H.next+1+1)=.row [.string x.name,qS (A.next+1) l.length AJ,Z0,Z0,Z0,Z0,Z0,iv (-1),.map (some H.next),.map (some (H.next+1))] 83 false false:=BN rfl (by show _<h3.next;omega)
 have b4:((h3.fl A.floor).put (H.next+1+1) (BE.row ([.string x.name,qS (A.next+1) l.length AJ,Z0,Z0,Z0,Z0,Z0,iv (-1)]++List.drop 8 [.string ByteArray.empty,Z0,Z0,Z0,Z0,Z0,Z0,iv 0,.map (some H.next),.map (some (H.next+1))]) 83 false false)).get (H.next+1+1+1)=.row [qP (H.next+1+1) 0] 79 false false:=by rw[hgo _ (by omega),g4' _ (by omega)];exact a4
 have b5:((h3.fl A.floor).put (H.next+1+1) (BE.row ([.string x.name,qS (A.next+1) l.length AJ,Z0,Z0,Z0,Z0,Z0,iv (-1)]++List.drop 8 [.string ByteArray.empty,Z0,Z0,Z0,Z0,Z0,Z0,iv 0,.map (some H.next),.map (some (H.next+1))]) 83 false false)).get (A.next+1)=.row (l.flatMap AI) 46 true false:=by rw[hgo _ (by omega)];exact g1
 have nW:((h3.fl A.floor).put (H.next+1+1) (BE.row ([.string x.name,qS (A.next+1) l.length AJ,Z0,Z0,Z0,Z0,Z0,iv (-1)]++List.drop 8 [.string ByteArray.empty,Z0,Z0,Z0,Z0,Z0,Z0,iv 0,.map (some H.next),.map (some (H.next+1))]) 83 false false)).next=H.next+6:=by show h3.next=_;omega
 have fW:((h3.fl A.floor).put (H.next+1+1) (BE.row ([.string x.name,qS (A.next+1) l.length AJ,Z0,Z0,Z0,Z0,Z0,iv (-1)]++List.drop 8 [.string ByteArray.empty,Z0,Z0,Z0,Z0,Z0,Z0,iv 0,.map (some H.next),.map (some (H.next+1))]) 83 false false)).floor=H.floor:=fB
 generalize (h3.fl A.floor).put (H.next+1+1) (BE.row ([.string x.name,qS (A.next+1) l.length AJ,Z0,Z0,Z0,Z0,Z0,iv (-1)]++List.drop 8 [.string ByteArray.empty,Z0,Z0,Z0,Z0,Z0,Z0,iv 0,.map (some H.next),.map (some (H.next+1))]) 83 false false)=B at *
 have hvB:AV B v l:=hv.mono (by omega) b0
 obtain⟨h4,hN,k1,k2,k3,k4⟩:=hends B hvB (by omega)
 have z28:(Z0).cells.toList=[Z0]:=rfl
 have f28:flat (Z0)=true:=rfl
 have hst:BJ Tryd.prog (h4.push (.row [Z0] 28 false false)) 28 (qP h4.next 0) (qS B.next l.length l.length)=_:=F5 (off:=0) JI rfl rfl BP (by decide) (by show h4.floor≤h4.next;omega)
 have c0:∀ i,i≠h4.next→((h4.push (.row [Z0] 28 false false)).put h4.next (.row ([Z0].set 0 (qS B.next l.length l.length)) 28 false false)).get i=h4.get i:=fun i hi=>by rw[AM (by show h4.next<h4.next+1;omega) (Ne.symm hi),N6 hi]
 have c6:((h4.push (.row [Z0] 28 false false)).put h4.next (.row ([Z0].set 0 (qS B.next l.length l.length)) 28 false false)).get h4.next=.row [qS B.next l.length l.length] 28 false false:=BN rfl (by show h4.next<h4.next+1;omega)
 have nC:((h4.push (.row [Z0] 28 false false)).put h4.next (.row ([Z0].set 0 (qS B.next l.length l.length)) 28 false false)).next=H.next+8:=by show h4.next+1=_;omega
 have fC:((h4.push (.row [Z0] 28 false false)).put h4.next (.row ([Z0].set 0 (qS B.next l.length l.length)) 28 false false)).floor=H.floor:=by show h4.floor=_;omega
 simp only[eE,seval,↓eP,DG,DA,C9,t0,hN,Be,z28,f28,hst]
 generalize (h4.push (.row [Z0] 28 false false)).put h4.next (.row ([Z0].set 0 (qS B.next l.length l.length)) 28 false false)=C at *
 have l5:AS 0 (C.get (H.next+1+1+1))=some (qP (H.next+1+1) 0):=by rw[c0 _ (by omega),k4 _ (by omega),b4];rfl
 simp only[eE,seval,↓eP,DG,DA,C9,TR,l5,List.map_toArray,Bz]
 have D0:∀ (o:BE) i,i<C.next→(C.push o).get i=C.get i:=fun o i hi=>AT hi
 have D6:∀ (o:BE) i,i<B.next→(C.push o).get i=B.get i:=fun o i hi=>by rw[D0 o i (by omega),c0 i (by omega),k4 i hi]
 have n4:h4.next=H.next+7:=by omega
 refine hk _ _ (H.next+1+1) H.next (H.next+1) B.next (A.next+1) (H.next+1+1+1) h4.next C.next ?_ ?_ ?_ ?_ ?_ ?_ ⟨fun i=>if i=H.next+1+1 then 0 else if i=A.next+1 then 1 else if i=H.next then 8 else if i=H.next+1 then 9 else if i=B.next then 10 else 11,Z0,Z0,Z0,Z0,Z0,[],?_,?_,⟨by simp[BU],by simp[BU],by simp[BU],by simp[BU],rfl,fun t ht=>by cases ht⟩,fun i hi=>?_⟩ ⟨?_,?_,BP⟩ (by show H.next≤C.next+1;omega) (by show C.floor=H.floor;exact fC) fun i hi=>?_
 ·simp only[eE,seval,↓eP,rP,t0]
 ·simp only[eE,seval,↓eP,rP]
 ·simp only[eE,seval,↓eP,rP]
 ·simp only[eE,seval,↓eP,rP]
 ·simp only[eE,seval,↓eP,rP]
 ·simp only[eE,seval,↓eP,rP]
 ·exact
   { cell:=by rw[D6 _ _ (by omega),b3,hnm];rfl
     pol:=
      { rows:=by rw[D6 _ _ (by omega)];exact b5
        len:=rfl
        tr:=by rw[if_neg (by omega),if_pos rfl]
        lr:=⟨by omega,by show _<C.next+1;omega⟩
        q:=RU
        v:=RU
        t:=RU
        u:=RU
        o:=RU }
     known:=by rw[D6 _ _ (by omega)];exact b1
     many:=by rw[D6 _ _ (by omega)];exact b2
     ends:=by rw[D0 _ _ (by omega),c0 _ (by omega)];exact k1
     tm:=if_pos rfl
     tk:=by rw[if_neg (by omega),if_neg (by omega),if_pos rfl]
     tc:=by rw[if_neg (by omega),if_neg (by omega),if_neg (by omega),if_pos rfl]
     te:=by rw[if_neg (by omega),if_neg (by omega),if_neg (by omega),if_neg (by omega),if_pos rfl]
     lm:=⟨by omega,by show _<C.next+1;omega⟩
     lk:=⟨Nat.le_refl _,by show _<C.next+1;omega⟩
     lc:=⟨by omega,by show _<C.next+1;omega⟩
     le:=⟨by omega,by show _<C.next+1;omega⟩
     fl:=by show C.floor≤H.next;omega }
 ·refine⟨fun p hp=>(by cases hp),fun k h1 h4=>?_⟩
  have:BD (BU l) k=0:=by unfold BD;(repeat' split) <;> rfl
  rw[if_pos this]
  rfl
 ·have hii:i=H.next+1+1+1∨i=h4.next∨i=C.next:=by simpa using hi
  refine⟨by show i<C.next+1;omega,?_⟩
  show 11≤(if i=H.next+1+1 then 0 else if i=A.next+1 then 1 else if i=H.next then 8 else if i=H.next+1 then 9 else if i=B.next then 10 else 11)
  rw[if_neg (by omega),if_neg (by omega),if_neg (by omega),if_neg (by omega),if_neg (by omega)]
  exact Nat.le_refl _
 ·rw[D6 _ _ (by omega)];exact b4
 ·rw[D0 _ _ (by omega)];exact c6
 ·rw[D6 _ _ (by omega)];exact b0 i hi
end
noncomputable def iB:Code:=inB (YE Tryd.f16 1)
theorem EP.mono {a:Nat} {H H':AA} {cs:List Value} {e p:Int} (h:EP a H cs e p) (h0:H'.get a=H.get a) (h1:H'.get (a+1)=H.get (a+1)):EP a H' cs e p:=⟨h0.trans h.1,h1.trans h.2⟩
section
variable {N:Nat} {call:AQ}
theorem OC {a:Nat} {H:AA} {cs:List Value} {e p:Int} (h:EP a H cs e p) (hl:cs.length=8) (ha:a+1<H.next) (hf:H.floor≤a) {cs':List Value} (hl':cs'.length=8) (ho':cs'.all one=true) {e' p':Int} :
  ∃ H',BJ Tryd.prog H 30 (qP a 0) (.agg cs'.toArray)=some (H.put a (.row cs' 30 false false))∧BJ Tryd.prog (H.put a (.row cs' 30 false false)) 33 (qP (a+1) 0) (FY e' p')=some H' ∧
   EP a H' cs' e' p'∧H'.next=H.next∧H'.floor=H.floor∧∀ i,i≠a→i≠a+1→H'.get i=H.get i:=by
 have s1:=H_ (k:=8) HR h.1 hl hl' ho' hf
 have hb:(H.put a (.row cs' 30 false false)).get (a+1)=.row [iv e,iv p] 33 false false:=by rw[AM (by omega) (by omega)];exact h.2
 have s2:=H_ (t:=33) (k:=2) M7 (vs:=[iv e',iv p']) hb rfl rfl rfl (by show H.floor≤a+1;omega)
 refine⟨_,s1,s2,⟨?_,BN rfl (by show a+1<H.next;omega)⟩,rfl,rfl,fun i hi hi'=>?_⟩
 ·rw[AM (by show a+1<H.next;omega) (by omega)]
  exact BN rfl (by omega)
 ·rw[AM (by show a+1<H.next;omega) (by omega),AM (by omega) (by omega)]
theorem Lo {at_ a fl lo m k c e r n:Nat} {nm:ByteArray} {E:List Int} {F:List Nat} {er:Nat→Int} {st:Nat→AP} {T:Tr} {H:AA} {K:B9} {fs:List Value}
  (t2:T.get 2=qP a 0) (t3:T.get 3=qP (a+1) 0) (t7:T.get 7=qS fl 3 3) (t44:T.get 44=iv at_)
  (hN:3<N) (hp:EZ H lo m k c e r n nm E F (st 0)) (ha:a+1<lo) (hlo:lo≤H.next) (hout:EP a H BT 0 0) (hfa:H.floor≤a) (hfl:H.get fl=.row fs 86 false false) (hFl:fl∈F)
  (hlook:∀ i,i<3→∀ H1,EZ H1 lo m k c e r n nm E F (st i)→FX H H1 lo F→(∀ j,j<i→er j=0)→∃ fid first cap H2,fs[i]?=some (.func (.func fid) first cap)∧call fid (first.toList++[iv at_]++cap.toList) H1=some (iv (er i),H2)∧FX H1 H2 lo F∧(er i=0→EZ H2 lo m k c e r n nm E F (st (i+1))))
  (hbad:∀ i,i<3→er i≠0→(∀ j,j<i→er j=0)→∀ T' H',T'.get 2=qP a 0→T'.get 3=qP (a+1) 0→EP a H' BT (er i) at_→H.next≤H'.next→H'.floor=H.floor→(∀ i,i<a→H'.get i=H.get i)→K.ap Tryd.prog call N .ret ⟨T',H'⟩)
  (hgood:(∀ j,j<3→er j=0)→∀ T' H',(∀ t,t≤7∨(42≤t∧t≤44)→T'.get t=T.get t)→EZ H' lo m k c e r n nm E F (st 3)→FX H H' lo F→K.ap Tryd.prog call N .normal ⟨T',H'⟩) :
  WK Tryd.prog call N iB ⟨T,H⟩ K:=by
 show WK _ _ _ (.seq _ (.seq _ (.block 2 (.loop (.seq _ (.seq _ (.seq (.block 3 _) _))))))) _ _
 simp only[eE,↓reduceIte,Nat.reduceEqDiff,reduceCtorEq,↓eP,t7,t44,Kk]
 refine WK.loop (fun i s'=>s'.T.get 47=qS fl 3 3∧s'.T.get 48=iv 3∧s'.T.get 49=iv i∧s'.T.get 8=iv at_∧i≤3∧(∀ t,t≤7∨(42≤t∧t≤44)→s'.T.get t=T.get t)∧EZ s'.h lo m k c e r n nm E F (st i)∧FX H s'.h lo F∧∀ j,j<i→er j=0) 3 hN ?_ ?_
 ·refine⟨by simp only[eE,↓reduceIte,Nat.reduceEqDiff,reduceCtorEq,↓eP,rP,Nat.reduceAdd,Nat.reduceLT],by simp only[eE,↓reduceIte,Nat.reduceEqDiff,reduceCtorEq,↓eP,rP,Nat.reduceAdd,Nat.reduceLT];rfl,by simp only[eE,↓reduceIte,Nat.reduceEqDiff,reduceCtorEq,↓eP,rP,Nat.reduceAdd,Nat.reduceLT];rfl,by simp only[eE,↓reduceIte,Nat.reduceEqDiff,reduceCtorEq,↓eP,rP,Nat.reduceAdd,Nat.reduceLT],by omega,fun t ht=>?_,hp,⟨fun _ _=>rfl,Nat.le_refl _,rfl⟩,fun j hj=>by omega⟩
  simp only[Tr.get_put,Option.some.injEq]
  repeat rw[if_neg (by omega)]
 ·rintro i ⟨T1,H1⟩ hi ⟨t47,t48,t49,t8,hi3,hkeep,hp1,haf,hz⟩
  simp only at t47 t48 t49 t8 hkeep hp1 haf
  have t2':T1.get 2=qP a 0:=(hkeep 2 (by omega)).trans t2
  have t3':T1.get 3=qP (a+1) 0:=(hkeep 3 (by omega)).trans t3
  by_cases hlt:i<3
  ·have c1:decide ((i:Int)<3)=true:=by simp;omega
   obtain⟨fid,first,cap,H2,hfi,hcall,haf2,hmk⟩:=hlook i hlt H1 hp1 haf hz
   have hfl1:H1.get fl=.row fs 86 false false:=(haf.1 fl (.inr hFl)).trans hfl
   have lf:AS i (H1.get fl)=some (.func (.func fid) first cap):=by rw[hfl1];exact hfi
   have hix:=Sl (h:=H1) (id:=fl) (c:=3) hlt
   cases d:(er i != 0) with
   | true=>
    have e0:er i≠0:=by simpa using d
    have n2:H.next≤H2.next:=Nat.le_trans haf.2.1 haf2.2.1
    have f2:H2.floor=H.floor:=haf2.2.2.trans haf.2.2
    have o2:∀ i,i<lo→H2.get i=H.get i:=fun i hi=>(haf2.1 i (.inl hi)).trans (haf.1 i (.inl hi))
    have hout2:EP a H2 BT 0 0:=hout.mono (o2 a (by omega)) (o2 (a+1) ha)
    obtain⟨H',s1,s2,r1,r2,r3,r4⟩:=OC hout2 rfl (by omega) (by omega) (cs':=BT) rfl rfl (e':=er i) (p':=at_)
    simp only[eE,seval,↓eP,t47,t48,t49,t8,t2',t3',c1,hix,qQ,lf,hcall,d,QR,OL,s1,s2]
    refine hbad i hlt e0 hz _ _ ?_ ?_ r1 (by omega) (r3.trans f2) fun j hj=>(r4 j (by omega) (by omega)).trans (o2 j (by omega))
    ·simp only[eE,seval,↓eP,rP,t2']
    ·simp only[eE,seval,↓eP,rP,t3']
   | false=>
    have e0:er i=0:=by simpa using d
    have w1:=DJ i (by omega)
    simp only[eE,seval,↓eP,t47,t48,t49,t8,c1,hix,qQ,lf,hcall,d,w1]
    refine⟨hlt,by omega,fun t ht=>?_,hmk e0,⟨fun i hi=>(haf2.1 i hi).trans (haf.1 i hi),Nat.le_trans haf.2.1 haf2.2.1,haf2.2.2.trans haf.2.2⟩,fun j hj=>?_⟩
    ·repeat rw[if_neg (by omega)]
     exact hkeep t ht
    ·rcases Nat.lt_or_ge j i with h1 | h1
     ·exact hz j h1
     ·have:j=i:=by omega
      subst this
      exact e0
  ·have c1:decide ((i:Int)<3)=false:=by simp;omega
   have:i=3:=by omega
   subst this
   simp only[eE,seval,↓eP,t48,t49]
   refine hgood hz _ _ (fun t ht=>?_) hp1 haf
   simp only[Tr.get_put,Option.some.injEq]
   repeat rw[if_neg (by omega)]
   exact hkeep t ht
end
theorem Kb (k:Int) (h:AA) (hk:1≤k∧k≤54):L0 79 [iv k] h=some (iv (BM k),h):=EY rfl rfl rfl rfl (IP Gw hk)
theorem Sb (k:Int) (h:AA) (hk:1≤k∧k≤54):L0 81 [iv k] h=some (iv (DI k),h):=EY rfl rfl rfl rfl (IP Km hk)
theorem tK (k:Int) (h:AA) (hk:1≤k∧k≤54):L0 82 [iv k] h=some (.bool (C2 k),h):=EY rfl rfl rfl rfl (IP Ht hk)
theorem eT {at_:Nat} {end_:Int} {x:AC} {s:AP} (hx:s.rows[at_]?=some x):∃ n,(BI at_ end_ x s).rows[at_]?=some { x with n:=n }:=by
 rw[TL]
 split
 ·exact⟨x.n,hx⟩
 ·exact⟨_,JB hx⟩
def OJ (at_:Nat) (end_:Int) (x x1 x2:AC) (s:AP):Nat→Int
 | 0=>DQ x s
 | 1=>CJ at_ x1 (BI at_ end_ x s)
 | _=>CV x2 (BO at_ x1 (BI at_ end_ x s))
def TY (at_:Nat) (end_:Int) (x x1 x2:AC) (s:AP):Nat→AP
 | 0=>s
 | 1=>BI at_ end_ x s
 | 2=>BO at_ x1 (BI at_ end_ x s)
 | _=>CY at_ x2 (BO at_ x1 (BI at_ end_ x s))
theorem Iw {E:List Int} {at_:Nat} {end_:Int} {x x1 x2:AC} {s:AP} (hx:s.rows[at_]?=some x) (hE:E[at_]?=some end_) (h1:(BI at_ end_ x s).rows[at_]?=some x1) (h2:CJ at_ x1 (BI at_ end_ x s)=0→(BO at_ x1 (BI at_ end_ x s)).rows[at_]?=some x2) :
  (∀ i,i<3→OJ at_ end_ x x1 x2 s i≠0→(∀ j,j<i→OJ at_ end_ x x1 x2 s j=0)→DE E at_ s=(OJ at_ end_ x x1 x2 s i,s))∧((∀ j,j<3→OJ at_ end_ x x1 x2 s j=0)→DE E at_ s=(0,TY at_ end_ x x1 x2 s 3)):=by
 have hEx:(E[at_]?).getD 0=end_:=by rw[hE];rfl
 constructor
 ·intro i hi he hz
  unfold DE
  rw[hx]
  simp only[hEx]
  match i,hi,he,hz with
  | 0,_,he,_=>
   have he:DQ x s≠0:=he
   rw[if_pos he]
   rfl
  | 1,_,he,hz=>
   have h0:DQ x s=0:=hz 0 (by omega)
   have he:CJ at_ x1 (BI at_ end_ x s)≠0:=he
   rw[if_neg (by simpa using h0),h1]
   simp only
   rw[if_pos he]
   rfl
  | 2,_,he,hz=>
   have h0:DQ x s=0:=hz 0 (by omega)
   have hc:CJ at_ x1 (BI at_ end_ x s)=0:=hz 1 (by omega)
   have he:CV x2 (BO at_ x1 (BI at_ end_ x s))≠0:=he
   rw[if_neg (by simpa using h0),h1]
   simp only
   rw[if_neg (by simpa using hc),h2 hc]
   simp only
   rw[if_pos he]
   rfl
 ·intro hz
  have h0:DQ x s=0:=hz 0 (by omega)
  have hc:CJ at_ x1 (BI at_ end_ x s)=0:=hz 1 (by omega)
  have he:CV x2 (BO at_ x1 (BI at_ end_ x s))=0:=hz 2 (by omega)
  unfold DE
  rw[hx]
  simp only[hEx]
  rw[if_neg (by simpa using h0),h1]
  simp only
  rw[if_neg (by simpa using hc),h2 hc]
  simp only
  rw[if_neg (by simpa using he)]
  rfl
section
variable {n lo m k c e r L:Nat} {h:AA} {nm:ByteArray} {E:List Int} {F:List Nat} {s:AP}
theorem wW {at_:Nat} {end_:Int} {x:AC} (hp:EZ h lo m k c e r L nm E F s) (hx:s.rows[at_]?=some x) (hkind:1≤x.kind∧x.kind≤54) (hL:L<30000000000000) (he:0≤end_) (hn:0<n) :
  ∃ h',AX n 51 [qP m 0,iv at_,iv end_] h=some (iv (DQ x s),h')∧(FX h h' lo F∧(DQ x s=0→EZ h' lo m k c e r L nm E F (BI at_ end_ x s))):=by
 obtain⟨n,rfl⟩:=D7 hn
 exact NS (CN ⟨rfl,rfl,rfl⟩) (Rh (FM n).2 hp hx hkind hL he (fun k h' hk=>GA (G0 (Kb k h' hk))) fun k h'=>GA (Qd k h'))
theorem xQ {at_:Nat} {x:AC} (hp:EZ h lo m k c e r L nm E F s) (hx:s.rows[at_]?=some x) (hkind:1≤x.kind∧x.kind≤54) (hL:L<30000000000000) (hn:0<n) :
  ∃ h',AX n 52 [qP m 0,iv at_] h=some (iv (CJ at_ x s),h')∧(FX h h' lo F∧(CJ at_ x s=0→EZ h' lo m k c e r L nm E F (BO at_ x s))):=by
 obtain⟨n,rfl⟩:=D7 hn
 exact NS (CN ⟨rfl,rfl,rfl⟩) (wI (FM n).2 hp hx hkind hL fun k h' hk=>GA (G0 (Sb k h' hk)))
theorem Fj {at_:Nat} {x:AC} (hp:EZ h lo m k c e r L nm E F s) (hx:s.rows[at_]?=some x) (hkind:1≤x.kind∧x.kind≤54) (hL:L<30000000000000) (hxn:C2 x.kind=true→x.kind≠10→0≤x.n∧x.n<s.on.length) (hn:0<n) :
  ∃ h',AX n 53 [qP m 0,iv at_] h=some (iv (CV x s),h')∧(FX h h' lo F∧(CV x s=0→EZ h' lo m k c e r L nm E F (CY at_ x s))):=by
 obtain⟨n,rfl⟩:=D7 hn
 exact NS (CN ⟨rfl,rfl,rfl⟩) (wV (FM n).2 hp hx hkind hL hxn fun k h' hk=>GA (G0 (tK k h' hk)))
theorem Bf {at_ c5 c6:Nat} {end_:Int} {x:AC} (hp:EZ h lo m k c e r L nm E F s) (hx:s.rows[at_]?=some x) (hkind:1≤x.kind∧x.kind≤54) (hL:L<30000000000000) (he:0≤end_) (hE:E[at_]?=some end_) (hlE:L=E.length)
  (h5:h.get c5=.row [qP m 0] 79 false false) (h6:h.get c6=.row [qS e L L] 28 false false) (hn:1<n) :
  ∃ h',AX n 50 [iv at_,qP c5 0,qP c6 0] h=some (iv (DQ x s),h')∧(FX h h' lo F∧(DQ x s=0→EZ h' lo m k c e r L nm E F (BI at_ end_ x s))):=by
 obtain⟨n,rfl⟩:∃ j,n=j+1:=⟨n-1,by omega⟩
 obtain⟨tag,vq,vv,vt,vu,vo,es,hp',_⟩:=id hp
 obtain⟨h',hc,ha,hm⟩:=wW (n:=n) (at_:=at_) hp hx hkind hL he (by omega)
 exact NS (CN ⟨rfl,rfl,rfl⟩) (Qj (FM n).2 h5 h6 hp'.ends hE hlE ⟨h',hc,ha.2.2,ha,hm⟩)
theorem Qm {l:List AC} {at_ c5 c6 fl:Nat} {x x1:AC} {H:AA} (ht:B8 l) (hL:l.length<2932031007403) (hat:at_<l.length) (hi:G9 l at_ s) (hx:s.rows[at_]?=some x) (h1:(BI at_ (AG l at_) x s).rows[at_]?=some x1) (hcl:XU H m e c5 c6 fl l.length (AR l)) (h5:c5∈F) (h6:c6∈F) (hfl:fl∈F) (hn:3<n) :
  ∃ x2,(CJ at_ x1 (BI at_ (AG l at_) x s)=0→(BO at_ x1 (BI at_ (AG l at_) x s)).rows[at_]?=some x2)∧∀ i,i<3→∀ H1,EZ H1 lo m k c e r l.length nm (AR l) F (TY at_ (AG l at_) x x1 x2 s i)→FX H H1 lo F→(∀ j,j<i→OJ at_ (AG l at_) x x1 x2 s j=0) →
   ∃ fid first cap H2,([.func (.func 50) #[] #[qP c5 0,qP c6 0],.func (.func 52) #[qP m 0] #[],.func (.func 53) #[qP m 0] #[]]:List Value)[i]?=some (.func (.func fid) first cap) ∧
    AX n fid (first.toList++[iv at_]++cap.toList) H1=some (iv (OJ at_ (AG l at_) x x1 x2 s i),H2)∧FX H1 H2 lo F∧(OJ at_ (AG l at_) x x1 x2 s i=0→EZ H2 lo m k c e r l.length nm (AR l) F (TY at_ (AG l at_) x x1 x2 s (i+1))):=by
 have hkind:=UV ht hi x (List.mem_of_getElem? hx)
 obtain⟨n1,hx1⟩:=eT (end_:=AG l at_) hx
 rw[h1] at hx1
 cases hx1
 obtain⟨x2,hx2⟩:∃ x2,CJ at_ { x with n:=n1 } (BI at_ (AG l at_) x s)=0→(BO at_ { x with n:=n1 } (BI at_ (AG l at_) x s)).rows[at_]?=some x2∧(∃ n,x2={ x with n:=n })∧(x2.kind≠10→C2 x2.kind=true→KC (BO at_ { x with n:=n1 } (BI at_ (AG l at_) x s))→0≤x2.n∧x2.n<(BO at_ { x with n:=n1 } (BI at_ (AG l at_) x s)).on.length):=by
  by_cases hc:CJ at_ { x with n:=n1 } (BI at_ (AG l at_) x s)=0
  ·obtain⟨n2,a1,a2,a3,a4,a5,a6⟩:=QN h1 hc
   refine⟨_,fun _=>⟨a1,⟨n2,rfl⟩,fun h10 hev hw=>?_⟩⟩
   have hd:=eM (k:=x.kind) hev h10
   rcases a6 with⟨b1,_⟩ | ⟨t,b1,b2,b3,_⟩
   ·have b1:DI x.kind=0:=b1
    rw[hd.1] at b1
    cases b1
   ·have b2:t.kind=DI x.kind:=b2
    rw[hd.1] at b2
    rw[← a5] at b1
    obtain⟨_,_,q1,q2,_⟩:=hw.th t b1
    rw[b2] at q2
    have q3:t.num<((BO at_ { x with n:=n1 } (BI at_ (AG l at_) x s)).queues.length:Int):=q2
    rw[← hw.o] at q3
    simp only
    rw[b3]
    exact⟨q1,q3⟩
  ·exact⟨x,fun h=>absurd h hc⟩
 refine⟨x2,fun h=>(hx2 h).1,?_⟩
 intro i hi3 H1 hp haf hz
 have hEat:(AR l)[at_]?=some (AG l at_:Int):=KR hat
 match i,hi3 with
 | 0,_=>
  have g5:H1.get c5=_:=(haf.1 c5 (.inr h5)).trans hcl.h5
  have g6:H1.get c6=_:=(haf.1 c6 (.inr h6)).trans hcl.h6
  obtain⟨H2,q1,q2,q3⟩:=Bf (n:=n) (s:=s) (at_:=at_) hp hx hkind (by omega) (by omega) hEat (by rw[O5]) g5 g6 (by omega)
  exact⟨_,#[],#[qP c5 0,qP c6 0],H2,rfl,q1,q2,q3⟩
 | 1,_=>
  obtain⟨H2,q1,q2,q3⟩:=xQ (n:=n) (s:=BI at_ (AG l at_) x s) (at_:=at_) hp h1 hkind (by omega) (by omega)
  exact⟨_,#[qP m 0],#[],H2,rfl,q1,q2,q3⟩
 | 2,_=>
  have hc:CJ at_ { x with n:=n1 } (BI at_ (AG l at_) x s)=0:=hz 1 (by omega)
  obtain⟨r1,⟨n2,r2⟩,r3⟩:=hx2 hc
  have hw:KC (BO at_ { x with n:=n1 } (BI at_ (AG l at_) x s)):=by
   obtain⟨_,_,_,_,_,_,_,_,_,hw,_⟩:=id hp
   exact hw
  obtain⟨H2,q1,q2,q3⟩:=Fj (n:=n) (s:=BO at_ { x with n:=n1 } (BI at_ (AG l at_) x s)) (at_:=at_) hp r1 (by rw[r2];exact hkind) (by omega) (fun a b=>r3 b a hw) (by omega)
  exact⟨_,#[qP m 0],#[],H2,rfl,q1,q2,q3⟩
end
theorem wU {h:AA} {r:Nat} {rows:List AC} {lo hi:Nat} (hg:h.get r=.row (rows.flatMap AI) 46 true false) (hr:r<h.next) (hlh:lo≤hi) (hhi:hi≤rows.length) :
  ∃ v',GG Tryd.prog h 22 (qS r rows.length AJ) (some (iv lo)) (some (iv hi)) none=some v'∧AV h v' ((rows.drop lo).take (hi-lo)):=by
 have hl:((rows.drop lo).take (hi-lo)).length=hi-lo:=by rw[List.length_take,List.length_drop];omega
 refine⟨.slice (some ⟨r,lo*5,none⟩) (hi-lo) AJ,?_,?_⟩
 ·simp only[GG,Tryd.underlying22,HF,EW,if_true]
  rw[if_pos (by omega)]
  simp only[Int.toNat_natCast]
  rw[if_pos (by omega)]
  simp only[Int.toNat_natCast]
  by_cases h0:lo=0
  ·subst h0
   rw[if_pos rfl]
   simp
  ·rw[if_neg h0,hg]
   simp only[HF,if_true,Nat.zero_add]
 ·refine⟨some ⟨r,lo*5,none⟩,AJ,by rw[hl],.inr ⟨r,lo*5,_,_,_,_,rfl,hg,hr,fun k x hk=>?_⟩⟩
  have hk1:=(List.getElem?_eq_some_iff.1 hk).1
  rw[List.getElem?_take_of_lt (by omega),List.getElem?_drop] at hk
  rw[show lo*5+k*5=(lo+k)*5 by omega]
  exact N5 hk
section
variable {n lo m k c e r L:Nat} {h:AA} {nm:ByteArray} {E:List Int} {F:List Nat} {s:AP}
theorem qZ {pb eb sb row:Nat} {rows:List AC} {E rules sums:List Int} (hL:N2 rows E rules) (hc:JT h pb eb sb rows E sums) (hs:CZ sums) (hsl:sums.length=rules.length) (hfl:h.floor≤h.next) (hrow:row<rows.length) (hn:rows.length+8<n) :
  AX n 88 [iv row,qP pb 0,qP eb 0,qP sb 0] h=some (iv (FJ rows E sums row),h):=by
 obtain⟨n,rfl⟩:=D7 hn
 obtain⟨q,q1,q2,q3,q4⟩:=hL.end hrow
 have hc':FJ rows E sums row=G6 sums ((rows.drop row).take (q-row)) 0:=by unfold FJ;rw[q1];rfl
 rw[hc']
 exact J6 (CN ⟨rfl,rfl,rfl⟩) rfl (Dn (FM n).2 hc hs hfl q1 q2 q3 (by have:=hL.len;omega) (by omega)
  (fun x hx h22=>by rw[hsl];exact hL.calls x (List.mem_of_mem_drop (List.mem_of_mem_take hx)) h22) fun a b h' hb ha=>GA (rN h' hb ha))
theorem Oc {rows:List AC} {E rules:List Int} (hL:N2 rows E rules) {v0 vr v2 v3 v4 vu v6 v7:Value} {e ce:Nat} {ge:Bool} (hone:[v0,vr,v2,v3,v4,vu,v6,v7].all one=true) (hfl:h.floor≤h.next) (hn:rows.length+rules.length+12<n)
  (hsl:∀ (lo hi:Nat) h',(∀ i,i<h.next→h'.get i=h.get i)→h.next≤h'.next→lo≤hi→hi≤rows.length→∃ v',GG Tryd.prog h' 22 vr (some (iv lo)) (some (iv hi)) none=some v'∧AV h' v' ((rows.drop lo).take (hi-lo)))
  {lu:Nat} (hu:AK lu h vu rules) (he:h.get e=.row (ints E) 3 ge false) (hel:e<h.next) :
  ∃ h',AX n 72 [.agg #[v0,vr,v2,v3,v4,vu,v6,v7],qS e E.length ce] h=some (.func (.func 88) #[] #[qP h.next 0,qP (h.next+1) 0,qP (h.next+3) 0],h') ∧
   (JT h' h.next (h.next+1) (h.next+3) rows E (IR rows E rules)∧h.next≤h'.next∧h'.floor=h.floor∧∀ i,i<h.next→h'.get i=h.get i):=by
 obtain⟨n,rfl⟩:=D7 hn
 refine OG (CN ⟨rfl,rfl,rfl⟩) rfl (xI (FM n).2 hL hone hfl (by omega) (by omega) hsl (fun h'=>hu.len) ?_ ?_ he hel ?_)
 ·obtain⟨_,a,c,h1,_⟩:=hu
  exact⟨a,c,h1⟩
 ·intro h' hold i ru hi
  obtain⟨id,p,h1,h2,h3⟩:=AK.get hu hi
  exact⟨id,p,h1,by rw[hold id h2];exact h3⟩
 ·intro pb eb sb row sums h' hc hsl' hs hfl' hrow
  exact qZ hL hc hs hsl' hfl' hrow (by omega)
theorem zH {tag:Nat→Nat} {vq vv vt vu vo:Value} {es:List (Value × Value)} {l:List AC} (hp:BZ h lo m k c e r l.length nm (AR l) tag vq vv vt vu vo es s) (ht:B8 l) (hlen:l.length<2932031007403) (hi:G9 l l.length s) (hfl:h.floor≤h.next) (hn:l.length+100<n) :
  AX n 54 [qP m 0,qS e l.length l.length] h=some (iv (IM s.rows (AR l) s.rules),h):=by
 obtain⟨n,rfl⟩:=D7 hn
 have hL:=tW ht (by omega) hi
 have hnu:=hi.wf.u
 have hrl:=hi.len
 have hpl:=hp.pol.len
 refine J6 (CN ⟨rfl,rfl,rfl⟩) rfl (vF (pb:=h.next) (eb:=h.next+1) (sb:=h.next+3) hp hL hfl (by omega) (UV ht hi) (fL ht hi) ?_ (fun k h' hk=>GA (G0 (tK k h' hk))) (fun a b h' hb ha=>GA (rN h' hb ha)) ?_)
 ·have hE:(AR l).length=l.length:=O5
  have hs:∀ (lo hi:Nat) (h':AA),(∀ i,i<h.next→h'.get i=h.get i)→h.next≤h'.next→lo≤hi→hi≤s.rows.length→∃ v',GG Tryd.prog h' 22 (qS r l.length AJ) (some (iv lo)) (some (iv hi)) none=some v'∧AV h' v' ((s.rows.drop lo).take (hi-lo)):=fun lo hi h' ho hx a b=>by
   have:=wU (h:=h') (r:=r) (rows:=s.rows) (by rw[ho r hp.pol.lr.2];exact hp.pol.rows) (by have:=hp.pol.lr.2;omega) a b
   rw[hpl] at this
   exact this
  have:=Oc (n:=n) (h:=h) (ce:=l.length) (v0:=.string nm) (v2:=vq) (v3:=vv) (v4:=vt) (v6:=vo) (v7:=iv s.miss) (vr:=qS r l.length AJ) hL ?_ hfl (by omega) hs (AK.weak (hp.pol.u.cells (by rw[FP,Nat.mul_one])) (Nat.zero_le _)) hp.ends hp.le.2
  ·rw[hE] at this
   exact this
  ·have q1:=(hp.pol.q.cells (w:=2) (NV _)).one
   have q2:=(hp.pol.v.cells (w:=1) (by rw[SD,Nat.mul_one])).one
   have q3:=(hp.pol.t.cells (w:=1) (by rw[SD,Nat.mul_one])).one
   have q4:=(hp.pol.u.cells (w:=1) (by rw[FP,Nat.mul_one])).one
   have q5:=(hp.pol.o.cells (w:=1) (by rw[FP,Nat.mul_one])).one
   simp only[List.all_cons,List.all_nil,q1,q2,q3,q4,q5,N7,LE,Bool.and_self]
   rfl
 ·intro row h' hc hfl' hrow
  exact qZ hL hc (YQ).1 (YQ).2 hfl' hrow (by omega)
end
theorem FX.trans {h H H':AA} {lo:Nat} {F:List Nat} (a:FX h H lo F) (b:FX H H' lo F):FX h H' lo F:=⟨fun i hi=>(b.1 i hi).trans (a.1 i hi),Nat.le_trans a.2.1 b.2.1,b.2.2.trans a.2.2⟩
section
variable {n N:Nat}
theorem Fs {l:List AC} {v:Value} {T:Tr} {H:AA} {K:B9} {a fl lo m k c e r c5 c6:Nat} {nm:ByteArray} {F:List Nat} (ht:B8 l) (hL:l.length<2932031007403) (hn:3<n) (hN:l.length+3<N)
  (t0:T.get 0=v) (t2:T.get 2=qP a 0) (t3:T.get 3=qP (a+1) 0) (t7:T.get 7=qS fl 3 3) (hv:AV H v l)
  (hp:EZ H lo m k c e r l.length nm (AR l) F (BU l)) (hcl:XU H m e c5 c6 fl l.length (AR l)) (h5:c5∈F) (h6:c6∈F) (hfl:fl∈F) (ha:a+1<lo) (hlo:lo≤H.next) (hout:EP a H BT 0 0) (hfa:H.floor≤a)
  (hbad:(CE (AR l) l.length 0 (BU l)).1≠0→∀ T' H',T'.get 2=qP a 0→T'.get 3=qP (a+1) 0→EP a H' BT (CE (AR l) l.length 0 (BU l)).1 (CE (AR l) l.length 0 (BU l)).2.1→H.next≤H'.next→H'.floor=H.floor→(∀ i,i<a→H'.get i=H.get i)→K.ap Tryd.prog (AX n) N .ret ⟨T',H'⟩)
  (hgood:(CE (AR l) l.length 0 (BU l)).1=0→∀ T' H',(∀ t,t≤7→T'.get t=T.get t)→EZ H' lo m k c e r l.length nm (AR l) F (CE (AR l) l.length 0 (BU l)).2.2→G9 l l.length (CE (AR l) l.length 0 (BU l)).2.2→FX H H' lo F→WK Tryd.prog (AX n) N YV ⟨T',H'⟩ K) :
  WK Tryd.prog (AX n) N VL ⟨T,H⟩ K:=by
 show WK _ _ _ (.seq (.seq _ (.block 0 (.loop (.seq _ (.seq _ (.seq (.block 1 iB) _)))))) YV) _ _
 have hlen:=fun h'=>hv.len (h':=h')
 simp only[eE,seval,↓eP,t0,hlen]
 refine WK.loop (fun i s'=>s'.T.get 43=iv l.length∧s'.T.get 44=iv i∧i≤l.length∧(∀ t,t≤7→s'.T.get t=T.get t)∧FX H s'.h lo F∧∃ s,EZ s'.h lo m k c e r l.length nm (AR l) F s∧G9 l i s∧CE (AR l) (l.length-i) i s=CE (AR l) l.length 0 (BU l)) l.length (by omega) ?_ ?_
 ·refine⟨by simp only[eE,↓reduceIte,Nat.reduceEqDiff,reduceCtorEq,↓eP,rP,Nat.reduceAdd,Nat.reduceLT],by simp only[eE,↓reduceIte,Nat.reduceEqDiff,reduceCtorEq,↓eP,rP,Nat.reduceAdd,Nat.reduceLT];rfl,by omega,fun t ht=>?_,⟨fun _ _=>rfl,Nat.le_refl _,rfl⟩,BU l,hp,PT l,rfl⟩
  simp only[Tr.get_put,Option.some.injEq]
  repeat rw[if_neg (by omega)]
 ·rintro i ⟨T1,H1⟩ hi ⟨t43,t44,hil,hkeep,haf,s,hp1,hin,hgo⟩
  simp only at t43 t44 hkeep haf hp1
  by_cases hlt:i<l.length
  ·have c1:decide ((i:Int)<(l.length:Int))=true:=by simp;omega
   obtain⟨x,hx⟩:∃ x,s.rows[i]?=some x:=⟨_,List.getElem?_eq_getElem (by rw[hin.len];exact hlt)⟩
   obtain⟨n1,h1⟩:=eT (end_:=AG l i) hx
   have hcl1:XU H1 m e c5 c6 fl l.length (AR l):=⟨(haf.1 c5 (.inr h5)).trans hcl.h5,(haf.1 c6 (.inr h6)).trans hcl.h6,(haf.1 fl (.inr hfl)).trans hcl.hf⟩
   obtain⟨x2,hx2,hlook⟩:=Qm (n:=n) (lo:=lo) (k:=k) (c:=c) (r:=r) (nm:=nm) (F:=F) ht hL hlt hin hx h1 hcl1 h5 h6 hfl hn
   obtain⟨sb,sg⟩:=Iw (E:=AR l) hx (KR hlt) h1 hx2
   have hr:l.length-i=(l.length-(i+1))+1:=by omega
   rw[hr] at hgo
   have hout1:EP a H1 BT 0 0:=hout.mono (haf.1 a (.inl (by omega))) (haf.1 (a+1) (.inl ha))
   have hn1:=haf.2.1
   have hf1:=haf.2.2
   have w1:=DJ i (by omega)
   have hkp:∀ t,t≤44→(T1.put (some 45) (Value.bool true)).get t=T1.get t:=fun t ht=>by
    rw[Tr.get_put,if_neg (fun h=>by have h9:(45:Nat)=t:=Option.some.inj h;omega)]
   simp only[eE,seval,↓eP,t43,t44,c1]
   refine Lo (a:=a) (fl:=fl) (er:=OJ i (AG l i) x { x with n:=n1 } x2 s) (st:=TY i (AG l i) x { x with n:=n1 } x2 s) (E:=AR l) (F:=F) ((hkp 2 (by omega)).trans ((hkeep 2 (by omega)).trans t2)) ((hkp 3 (by omega)).trans ((hkeep 3 (by omega)).trans t3)) ((hkp 7 (by omega)).trans ((hkeep 7 (by omega)).trans t7)) ((hkp 44 (by omega)).trans t44) (by omega) hp1 ha (by omega) hout1 (by omega) hcl1.hf hfl hlook ?_ ?_
   ·intro j hj he hz T' H' g2 g3 ho hnx hfx hox
    have hst:=sb j hj he hz
    have hg:CE (AR l) l.length 0 (BU l)=(OJ i (AG l i) x { x with n:=n1 } x2 s j,i,s):=by
     rw[← hgo]
     unfold CE
     rw[hst,if_pos he]
    simp only[eE,seval,↓eP]
    refine hbad (by rw[hg];exact he) T' H' g2 g3 (by rw[hg];exact ho) (by omega) (by omega) fun q hq=>(hox q hq).trans (haf.1 q (.inl (by omega)))
   ·intro hz T' H' hk' hp' haf'
    have hst:=sg hz
    have e0:(DE (AR l) i s).1=0:=by rw[hst]
    have hin':=TD ht (TF i) hlt hin e0
    rw[hst] at hin'
    have hg:CE (AR l) (l.length-(i+1)) (i+1) (TY i (AG l i) x { x with n:=n1 } x2 s 3)=CE (AR l) l.length 0 (BU l):=by
     rw[← hgo]
     conv=>rhs;unfold CE
     rw[if_neg (by rw[e0];simp),hst]
    have u43:=(hk' 43 (by omega)).trans ((hkp 43 (by omega)).trans t43)
    have u44:=(hk' 44 (by omega)).trans ((hkp 44 (by omega)).trans t44)
    simp only[eE,seval,↓eP,u43,u44,w1]
    refine⟨hlt,by omega,fun t ht=>?_,haf.trans haf',_,hp',hin',hg⟩
    repeat rw[if_neg (by omega)]
    exact(hk' t (by omega)).trans ((hkp t (by omega)).trans (hkeep t ht))
  ·have c1:decide ((i:Int)<(l.length:Int))=false:=by simp;omega
   have:i=l.length:=by omega
   subst this
   have hg:CE (AR l) l.length 0 (BU l)=(0,l.length,s):=by
    rw[← hgo,Nat.sub_self]
    rfl
   simp only[eE,seval,↓eP,t43,t44,c1]
   refine hgood (by rw[hg]) _ _ (fun t ht=>?_) (by rw[hg];exact hp1) (by rw[hg];exact hin) haf
   simp only[Tr.get_put,Option.some.injEq]
   repeat rw[if_neg (by omega)]
   exact hkeep t ht
theorem BZ.polAt {h:AA} {lo m k c e r n:Nat} {nm:ByteArray} {E:List Int} {tag:Nat→Nat} {vq vv vt vu vo:Value} {es:List (Value × Value)} {s:AP} (hp:BZ h lo m k c e r n nm E tag vq vv vt vu vo es s) :
  C1 lo h (.agg #[.string nm,qS r n AJ,vq,vv,vt,vu,vo,iv s.miss]) nm s:=by
 refine⟨_,vq,vv,vt,vu,vo,rfl,HT.of ?_,hp.pol.q.cells (NV _),hp.pol.v.cells (by simp[D3]),hp.pol.t.cells (by simp[D3]),hp.pol.u.cells (by rw[FP,Nat.mul_one]),hp.pol.o.cells (by rw[FP,Nat.mul_one])⟩
 have hl:=hp.pol.len
 subst hl
 exact AZ.row (ex:=[]) (by rw[List.append_nil];exact hp.pol.rows) hp.pol.lr (JN _)
theorem C1.weak {lo lo':Nat} {h:AA} {pv:Value} {nm:ByteArray} {s:AP} (hp:C1 lo h pv nm s) (hl:lo'≤lo):C1 lo' h pv nm s:=by
 obtain⟨vr,vq,vv,vt,vu,vo,h1,h2,h3,h4,h5,h6,h7⟩:=hp
 exact⟨vr,vq,vv,vt,vu,vo,h1,HT.of (h2.2.weak hl),h3.weak hl,h4.weak hl,h5.weak hl,h6.weak hl,h7.weak hl⟩
def MY (lo:Nat) (h:AA) (pv:Value) (nm:ByteArray) (s:AP):Prop:=
 ∃ tag r vq vv vt vu vo,pv=.agg #[.string nm,qS r s.rows.length AJ,vq,vv,vt,vu,vo,iv s.miss]∧KP h lo tag r s.rows.length vq vv vt vu vo s
theorem EN.weak {h:AA} {lo lo':Nat} {tag:Nat→Nat} {j:Nat} {v:Value} {n:Nat} {cs:List Value} {ty:TypeId} (hs:EN h lo tag j v n cs ty) (hl:lo'≤lo):EN h lo' tag j v n cs ty:=by
 rcases hs with h1 | ⟨id,ex,h1,h2,h3,h4,h5⟩
 ·exact .inl h1
 ·exact .inr ⟨id,ex,h1,h2,by omega,h4,h5⟩
theorem KP.weak {h:AA} {lo lo':Nat} {tag:Nat→Nat} {r n:Nat} {vq vv vt vu vo:Value} {s:AP} (hp:KP h lo tag r n vq vv vt vu vo s) (hl:lo'≤lo):KP h lo' tag r n vq vv vt vu vo s:=
 ⟨hp.rows,hp.len,hp.tr,⟨by have:=hp.lr.1;omega,hp.lr.2⟩,hp.q.weak hl,hp.v.weak hl,hp.t.weak hl,hp.u.weak hl,hp.o.weak hl⟩
theorem MY.weak {lo lo':Nat} {h:AA} {pv:Value} {nm:ByteArray} {s:AP} (hp:MY lo h pv nm s) (hl:lo'≤lo):MY lo' h pv nm s:=by
 obtain⟨tag,r,vq,vv,vt,vu,vo,h1,h2⟩:=hp
 exact⟨tag,r,vq,vv,vt,vu,vo,h1,h2.weak hl⟩
theorem MY.mono {lo:Nat} {h h':AA} {pv:Value} {nm:ByteArray} {s:AP} (hp:MY lo h pv nm s) (hn:h.next≤h'.next) (hg:∀ i,lo≤i→i<h.next→h'.get i=h.get i):MY lo h' pv nm s:=by
 obtain⟨tag,r,vq,vv,vt,vu,vo,h1,h2⟩:=hp
 exact⟨tag,r,vq,vv,vt,vu,vo,h1,h2.mono hn (fun _ _=>rfl) fun i a b _ _=>hg i a b⟩
theorem MY.pol {lo:Nat} {h:AA} {pv:Value} {nm:ByteArray} {s:AP} (hp:MY lo h pv nm s):C1 lo h pv nm s:=by
 obtain⟨tag,r,vq,vv,vt,vu,vo,h1,h2⟩:=hp
 exact⟨_,vq,vv,vt,vu,vo,h1,HT.of (AZ.row (ex:=[]) (by rw[List.append_nil];exact h2.rows) h2.lr (JN _)),h2.q.cells (NV _),h2.v.cells (by simp[D3]),h2.t.cells (by simp[D3]),h2.u.cells (by rw[FP,Nat.mul_one]),h2.o.cells (by rw[FP,Nat.mul_one])⟩
theorem BZ.own {h:AA} {lo m k c e r n:Nat} {nm:ByteArray} {E:List Int} {tag:Nat→Nat} {vq vv vt vu vo:Value} {es:List (Value × Value)} {s:AP} (hp:BZ h lo m k c e r n nm E tag vq vv vt vu vo es s) :
  MY lo h (.agg #[.string nm,qS r n AJ,vq,vv,vt,vu,vo,iv s.miss]) nm s:=by
 have hl:=hp.pol.len
 subst hl
 exact⟨tag,r,vq,vv,vt,vu,vo,rfl,hp.pol⟩
theorem yC {l:List AC} {T:Tr} {H:AA} {K:B9} {a lo m k c e r c5 c6:Nat} {nm:ByteArray} {F:List Nat} {s:AP} (ht:B8 l) (hL:l.length<2932031007403) (hn:l.length+100<n)
  (t2:T.get 2=qP a 0) (t3:T.get 3=qP (a+1) 0) (t5:T.get 5=qP c5 0) (t6:T.get 6=qP c6 0)
  (hp:EZ H lo m k c e r l.length nm (AR l) F s) (hin:G9 l l.length s) (h5:H.get c5=.row [qP m 0] 79 false false) (h6:H.get c6=.row [qS e l.length l.length] 28 false false) (ha:a+1<lo) (hlo:lo≤H.next) (hout:EP a H BT 0 0) (hfa:H.floor≤a)
  (hbad:IM s.rows (AR l) s.rules≥0→∀ T' H',T'.get 2=qP a 0→T'.get 3=qP (a+1) 0→EP a H' BT 34 (IM s.rows (AR l) s.rules)→H.next≤H'.next→H'.floor=H.floor→(∀ i,i<a→H'.get i=H.get i)→K.ap Tryd.prog (AX n) N .ret ⟨T',H'⟩)
  (hgood:¬ IM s.rows (AR l) s.rules≥0→∀ T' H' cs,T'.get 2=qP a 0→T'.get 3=qP (a+1) 0→cs.length=8→EP a H' cs 0 0→MY lo H' (.agg cs.toArray) nm s→H.next≤H'.next→H'.floor=H.floor→(∀ i,i<a→H'.get i=H.get i)→K.ap Tryd.prog (AX n) N .ret ⟨T',H'⟩) :
  WK Tryd.prog (AX n) N YV ⟨T,H⟩ K:=by
 show WK _ _ _ (.seq (.seq _ (.seq _ _)) (.seq _ _)) _ _
 obtain⟨tag,vq,vv,vt,vu,vo,es,hp',_⟩:=id hp
 have hlg:=zH (n:=n) hp' ht hL hin (by omega) hn
 have l5:AS 0 (H.get c5)=some (qP m 0):=by rw[h5];rfl
 have l6:AS 0 (H.get c6)=some (qS e l.length l.length):=by rw[h6];rfl
 cases d:decide (IM s.rows (AR l) s.rules≥0) with
 | true=>
  obtain⟨H',s1,s2,r1,r2,r3,r4⟩:=OC hout rfl (by omega) (by omega) (cs':=BT) rfl rfl (e':=34) (p':=IM s.rows (AR l) s.rules)
  simp only[eE,seval,↓eP,TR,CX,t2,t3,t5,t6,l5,l6,hlg,d,QR,OL,s1,s2]
  refine hbad (by simpa using d) _ _ ?_ ?_ r1 (by omega) r3 fun i hi=>r4 i (by omega) (by omega)
  ·simp only[eE,seval,↓eP,rP,t2]
  ·simp only[eE,seval,↓eP,rP,t3]
 | false=>
  have l8:CB 8 0 (H.get m)=some (.agg #[.string nm,qS r l.length AJ,vq,vv,vt,vu,vo,iv s.miss]):=by rw[hp'.cell];rfl
  have hpol:=hp'.own
  have hall:([.string nm,qS r l.length AJ,vq,vv,vt,vu,vo,iv s.miss]:List Value).all one=true:=by
   have q1:=(hp'.pol.q.cells (w:=2) (NV _)).one
   have q2:=(hp'.pol.v.cells (w:=1) (by simp[D3])).one
   have q3:=(hp'.pol.t.cells (w:=1) (by simp[D3])).one
   have q4:=(hp'.pol.u.cells (w:=1) (by rw[FP,Nat.mul_one])).one
   have q5:=(hp'.pol.o.cells (w:=1) (by rw[FP,Nat.mul_one])).one
   simp only[List.all_cons,List.all_nil,q1,q2,q3,q4,q5,N7,LE,Bool.and_self]
   rfl
  obtain⟨H',s1,s2,r1,r2,r3,r4⟩:=OC hout rfl (by omega) (by omega) (cs':=[.string nm,qS r l.length AJ,vq,vv,vt,vu,vo,iv s.miss]) rfl hall (e':=0) (p':=0)
  simp only[eE,seval,↓eP,TR,CX,t2,t3,t5,t6,l5,l6,hlg,d,I8,I1,l8,UQ,s1,s2]
  refine hgood (by simpa using d) _ _ _ ?_ ?_ rfl r1 (hpol.mono (by omega) fun i hi _=>r4 i (by omega) (by omega)) (by omega) r3 fun i hi=>r4 i (by omega) (by omega)
  ·simp only[eE,seval,↓eP,rP,t2]
  ·simp only[eE,seval,↓eP,rP,t3]
end
theorem M4 {a:Nat} {H:AA} {cs:List Value} {ty:TypeId} {g ro:Bool} (h:H.get a=.row cs ty g ro) (hl:cs.length=8):CB 8 0 (H.get a)=some (.agg cs.toArray):=by
 rw[h]
 have:cs.take 8=cs:=List.take_of_length_le (by omega)
 simp only[CB,F2,List.drop_zero,this,hl,if_true]
theorem dL {l:List AC} (h:(BR l).1=0):IT AW l=none:=by
 unfold BR at h
 cases hs:IT AW l with
 | none=>rfl
 | some p=>
  rw[hs] at h
  simp at h
def OK (h:AA) (l:List AC) (v:Value) (h':AA):Prop:=
 ∃ pv,v=.tuple #[pv,FY (AU l).1.1 (AU l).1.2]∧C1 h.next h' pv (C7 l).1 (C7 l).2∧h'.floor=h.floor∧h.next≤h'.next∧∀ i,i<h.next→h'.get i=h.get i
theorem AZ.flat {lo:Nat} {h:AA} {v:Value} {n w:Nat} {cs:List Value} (hc:AZ lo h v n w cs) (hf:B7 v=true) (lo':Nat) (h':AA):AZ lo' h' v n w cs:=by
 obtain⟨hl,a,c,rfl,⟨h0,rfl⟩ | ⟨id,off,row,ty,g,ro,rfl,g1,g2,g3⟩⟩:=hc
 ·exact⟨hl,_,_,rfl,.inl ⟨h0,rfl⟩⟩
 ·cases hf
theorem Br {h h1:AA} {l:List AC} {v:Value} (hf:FO v=true) (ht:OK h l v h1):OK h l v h:=by
 obtain⟨pv,rfl,⟨vr,vq,vv,vt,vu,vo,rfl,h2,h3,h4,h5,h6,h7⟩,_⟩:=ht
 have hf':flat (.agg #[.string (C7 l).1,vr,vq,vv,vt,vu,vo,iv (C7 l).2.miss])=true:=by
  simp only[FO,List.all_toArray,List.all_cons,Bool.and_eq_true] at hf
  exact hf.1
 simp only[flat,List.all_cons,Bool.and_eq_true] at hf'
 obtain⟨_,f1,f2,f3,f4,f5,f6,_⟩:=hf'
 exact⟨_,rfl,⟨vr,vq,vv,vt,vu,vo,rfl,HT.of (h2.2.flat f1 _ _),h3.flat f2 _ _,h4.flat f3 _ _,h5.flat f4 _ _,AZ.flat h6 f5 _ _,AZ.flat h7 f6 _ _⟩,rfl,Nat.le_refl _,fun _ _=>rfl⟩
def TT (lo:Nat) (h:AA) (pv:Value) (nm:ByteArray) (s:AP):Prop:=(pv=PS∧nm=ByteArray.empty∧s=sZ)∨MY lo h pv nm s
theorem TT.pol {lo:Nat} {h:AA} {pv:Value} {nm:ByteArray} {s:AP} (hp:TT lo h pv nm s):C1 lo h pv nm s:=by
 rcases hp with⟨rfl,rfl,rfl⟩ | hp
 ·exact oS lo h
 ·exact hp.pol
def O3 (h:AA) (l:List AC) (v:Value) (h':AA):Prop:=
 ∃ pv,v=.tuple #[pv,FY (AU l).1.1 (AU l).1.2]∧TT h.next h' pv (C7 l).1 (C7 l).2∧h'.floor=h.floor∧h.next≤h'.next∧∀ i,i<h.next→h'.get i=h.get i
theorem O3.told {h h':AA} {l:List AC} {v:Value} (ht:O3 h l v h'):OK h l v h':=by
 obtain⟨pv,h1,h2,h3⟩:=ht
 exact⟨pv,h1,h2.pol,h3⟩
theorem Dw {h h1:AA} {l:List AC} {v:Value} (hf:FO v=true) (ht:O3 h l v h1):O3 h l v h:=by
 obtain⟨pv,rfl,h2,_⟩:=ht
 refine⟨pv,rfl,?_,rfl,Nat.le_refl _,fun _ _=>rfl⟩
 rcases h2 with h2 | ⟨tag,r,vq,vv,vt,vu,vo,rfl,_⟩
 ·exact .inl h2
 ·have hf':flat (.agg #[.string (C7 l).1,qS r (C7 l).2.rows.length AJ,vq,vv,vt,vu,vo,iv (C7 l).2.miss])=true:=by
   simp only[FO,List.all_toArray,List.all_cons,Bool.and_eq_true] at hf
   exact hf.1
  simp only[flat,List.all_cons,Bool.and_eq_true] at hf'
  exact absurd hf'.2.1 (by simp[B7])
section
variable {n N:Nat}
theorem yI {l:List AC} {v:Value} {h:AA} (hfl:h.floor≤h.next) (hg:h.get 0=DZ) (hn0:0<h.next) (hv:AV h v l) (hL:l.length<2932031007403) (hn:2*l.length+100<n) (hN:l.length+3<N) :
  ∃ v' h',A8 Tryd.prog (AX n) N 16 [v] h=some (v',h')∧O3 h l v' h':=by
 refine M8 (R:=O3 h l) Tryd.func16 rfl (by simp[Tryd.f16]) ?_
 have hr:Tryd.f16.results.toList=[.cell 2 30,.cell 3 33]:=rfl
 generalize hKK:B9.top (fun e s=>(e=DT.normal∨e=DT.ret)∧∃ vs,FA Tryd.prog s Tryd.f16.results.toList=some vs∧O3 h l (GW vs) s.h)=K
 have fin:∀ (T':Tr) (H':AA) cs e p nm s,T'.get 2=qP h.next 0→T'.get 3=qP (h.next+1) 0→cs.length=8→EP h.next H' cs e p→TT h.next H' (.agg cs.toArray) nm s→(AU l).1=(e,p)→C7 l=(nm,s)→h.next≤H'.next→H'.floor=h.floor→(∀ i,i<h.next→H'.get i=h.get i)→K.ap Tryd.prog (AX n) N .ret ⟨T',H'⟩:=by
  intro T' H' cs e p nm s t2 t3 hl ho hp he hout hnx hf hold
  have l30:=M4 ho.1 hl
  have l33:CB 2 0 (H'.get (h.next+1))=some (FY e p):=by rw[ho.2];rfl
  rw[← hKK]
  simp only[eE,seval,↓eP,hr,t2,t3,I1,LX,l30,l33]
  exact⟨_,by rw[he],by rw[hout];exact hp,hf,hnx,hold⟩
 have hz:∀ H',TT h.next H' PS ByteArray.empty sZ:=fun H'=>.inl ⟨rfl,rfl,rfl⟩
 refine Jh (FM n).2 hfl hv hg hn0 (fun H hv' hg' hn' hfl'=>Ef (by omega) (by omega) hv' hg' hn' hfl') ?_ ?_
 ·intro hc T' H t2 t3 ho hnx hf hold
  refine fin T' H _ _ _ ByteArray.empty sZ t2 t3 rfl ho (hz H) ?_ ?_ (by omega) hf hold
  ·unfold AU
   rw[if_pos hc]
  ·unfold C7
   have:(AU l).1.1≠0:=by unfold AU;rw[if_pos hc];exact hc
   rw[if_pos this]
 ·intro hc T' H t0 t2 t3 ho hnx hf hold
  have ht:=YS (dL hc)
  have hvH:AV H v l:=hv.mono (by omega) hold
  have hcw:=fun H' (hv':AV H' v l)=>OG (n:=n-1) (CN (f:=48) (args:=[v]) (h:=H') ⟨rfl,rfl,rfl⟩) rfl (uU (call:=AX (n-1)) (N:=n-1) hv' ht.pos (by omega))
  rw[show n-1+1=n by omega] at hcw
  refine Fq (FM n).2 ht hL (by omega) hvH t0 hcw (fun H' hv' hf'=>wF ht hv' (by omega) (by omega) hf') ?_
  intro T1 H1 m k c e r c5 c6 fl u0 u2 u3 u5 u6 u7 hp hcl hnx1 hf1 hold1
  have ho1:EP h.next H1 BT 0 0:=ho.mono (hold1 _ (by omega)) (hold1 _ (by omega))
  refine Fs (a:=h.next) ht hL (by omega) hN u0 (u2.trans t2) (u3.trans t3) u7 (hvH.mono hnx1 hold1) hp hcl (by simp) (by simp) (by simp) (by omega) (by omega) ho1 (by omega) ?_ ?_
  ·intro hgo T2 H2 w2 w3 ho2 hnx2 hf2 hold2
   refine fin T2 H2 _ _ _ ByteArray.empty sZ w2 w3 rfl ho2 (hz H2) ?_ ?_ (by omega) (by omega) fun i hi=>by rw[hold2 i hi,hold1 i (by omega),hold i hi]
   ·unfold AU
    rw[if_neg (by rw[hc];simp)]
    simp only
    rw[if_pos hgo]
   ·unfold C7
    have:(AU l).1.1≠0:=by
     unfold AU
     rw[if_neg (by rw[hc];simp)]
     simp only
     rw[if_pos hgo]
     exact hgo
    rw[if_pos this]
  ·intro hgo T2 H2 hk2 hp2 hin2 haf
   have g5:=(haf.1 c5 (.inr (by simp))).trans hcl.h5
   have g6:=(haf.1 c6 (.inr (by simp))).trans hcl.h6
   have ho2:EP h.next H2 BT 0 0:=ho1.mono (haf.1 _ (.inl (by omega))) (haf.1 _ (.inl (by omega)))
   have hf2:=haf.2.2
   have hn2:=haf.2.1
   refine yC (a:=h.next) ht hL (by omega) ((hk2 2 (by omega)).trans (u2.trans t2)) ((hk2 3 (by omega)).trans (u3.trans t3)) ((hk2 5 (by omega)).trans u5) ((hk2 6 (by omega)).trans u6) hp2 hin2 g5 g6 (by omega) (by omega) ho2 (by omega) ?_ ?_
   ·intro hlg T3 H3 x2 x3 ho3 hnx3 hf3 hold3
    have hres:(AU l).1=(34,IM (CE (AR l) l.length 0 (BU l)).2.2.rows (AR l) (CE (AR l) l.length 0 (BU l)).2.2.rules):=by
     unfold AU
     rw[if_neg (by rw[hc];simp)]
     simp only
     rw[if_neg (by rw[hgo];simp),if_pos hlg]
    refine fin T3 H3 _ _ _ ByteArray.empty sZ x2 x3 rfl ho3 (hz H3) hres ?_ (by omega) (by omega) fun i hi=>by rw[hold3 i hi,haf.1 i (.inl (by omega)),hold1 i (by omega),hold i hi]
    unfold C7
    rw[if_pos (by rw[hres];simp)]
   ·intro hlg T3 H3 cs x2 x3 hcs ho3 hpol hnx3 hf3 hold3
    have hres:AU l=((0,0),(CE (AR l) l.length 0 (BU l)).2.2):=by
     unfold AU
     rw[if_neg (by rw[hc];simp)]
     simp only
     rw[if_neg (by rw[hgo];simp),if_neg hlg]
    refine fin T3 H3 cs _ _ (C6 l) (CE (AR l) l.length 0 (BU l)).2.2 x2 x3 hcs ho3 (.inr (hpol.weak (by omega))) (by rw[hres]) ?_ (by omega) (by omega) fun i hi=>by rw[hold3 i hi,haf.1 i (.inl (by omega)),hold1 i (by omega),hold i hi]
    unfold C7
    rw[hres]
    simp
theorem Cv {l:List AC} {v:Value} {h:AA} (hfl:h.floor≤h.next) (hg:h.get 0=DZ) (hn0:0<h.next) (hv:AV h v l) (hL:l.length<2932031007403) (hn:2*l.length+110<n) :
  ∃ v' h',AX n 16 [v] h=some (v',h')∧O3 h l v' h':=by
 obtain⟨n,rfl⟩:=D7 hn
 exact NG (CN ⟨rfl,rfl,rfl⟩) (yI (n:=n) (N:=n) hfl hg hn0 hv hL (by omega) (by omega)) fun v' h1 hf _ ht=>Dw hf ht
theorem Na {l:List AC} {v:Value} {h:AA} (hfl:h.floor≤h.next) (hg:h.get 0=DZ) (hn0:0<h.next) (hv:AV h v l) (hL:l.length<2932031007403) (hn:2*l.length+110<n) :
  ∃ v' h',AX n 16 [v] h=some (v',h')∧OK h l v' h':=by
 obtain⟨v',h',h1,h2⟩:=Cv (n:=n) hfl hg hn0 hv hL hn
 exact⟨v',h',h1,h2.told⟩
end
def K5 (s:AP):Prop:=s.things.length=s.queues.length+s.vars.length+s.tags.length+s.rules.length
theorem zT (l:List AC):K5 (BU l):=rfl
theorem wP {at_:Nat} {end_:Int} {x:AC} {s:AP} (h:K5 s):K5 (BI at_ end_ x s):=by
 unfold BI
 split
 ·exact h
 ·rename_i hd
  have hk:=QS x.kind
  unfold K5 at h ⊢
  simp only[EX,List.length_append,List.length_cons,List.length_nil]
  obtain h1 | h1 | h1 | h1:BM x.kind=1∨BM x.kind=2∨BM x.kind=3∨BM x.kind=4:=by omega
  all_goals (rw[h1];simp;omega)
theorem Rd {at_:Nat} {x:AC} {s:AP} (h:K5 s):K5 (BO at_ x s):=by
 unfold BO
 split
 ·exact h
 ·split <;> exact h
theorem Bl {at_:Nat} {x:AC} {s:AP} (h:K5 s):K5 (CY at_ x s):=by
 unfold CY
 split
 ·exact h
 ·split <;> exact h
theorem Jg {E:List Int} {at_:Nat} {s:AP} (h:K5 s):K5 (DE E at_ s).2:=by
 unfold DE
 (repeat' split) <;> first | exact h | exact Bl (Rd (wP h))
theorem Qf {s:AP} (h:K5 s) (hw:KC s):s.things.length<100000:=by
 have:=hw.q;have:=hw.v;have:=hw.t;have:=hw.u
 unfold K5 at h
 omega
theorem Qp {S Z:List Int} {k:Int} (h0:0≤k) (h1:k<S.length):FG (S++Z) k=FG S k:=by
 unfold FG
 rw[List.getElem?_append_left (by omega)]
theorem sT {S Z:List Int}:∀ (l:List AC) (a:Int),(∀ x∈l,x.kind=22→0≤x.n∧x.n<S.length)→G6 (S++Z) l a=G6 S l a
 | [],a,_=>rfl
 | x :: l,a,h=>by
  have ih:=fun b=>sT (S:=S) (Z:=Z) l b fun y hy=>h y (List.mem_cons_of_mem _ hy)
  unfold G6
  rw[ih]
  by_cases h22:x.kind=22
  ·rw[if_pos h22,if_pos h22,Qp (h x (.head _) h22).1 (h x (.head _) h22).2]
  ·rw[if_neg h22,if_neg h22]
theorem Gs {rows:List AC} {E rules:List Int} (hL:UG rows E rules):JV rows E rules []=IR rows E rules:=by
 have key:∀ (r S:List Int),(∃ pre,rules=pre++r∧pre.length=S.length)→PD rows E r S.length (S++List.replicate r.length 0)=JV rows E r S:=by
  intro r
  induction r with
  | nil=>intro S _;simp[PD,JV]
  | cons ru r ih=>
   rintro S ⟨pre,hp,hl⟩
   have hru:rules[S.length]?=some ru:=by rw[hp,← hl,List.getElem?_append_right (Nat.le_refl _),Nat.sub_self];rfl
   have hrl:=hL.lay.rl ru (List.mem_of_getElem? hru)
   have hc:FJ rows E (S++List.replicate (ru :: r).length 0) ru.toNat=FJ rows E S ru.toNat:=by
    unfold FJ
    refine sT _ _ fun x hx h22=>?_
    have h1:=hL.ahead _ _ hru x hx h22
    have h2:=hL.lay.calls x (List.mem_of_mem_drop (List.mem_of_mem_take hx)) h22
    exact⟨h2.1,h1⟩
   unfold PD JV
   rw[hc]
   have:(S++List.replicate (ru :: r).length 0).set S.length (FJ rows E S ru.toNat)=(S++[FJ rows E S ru.toNat])++List.replicate r.length 0:=by
    rw[List.set_append_right _ _ (Nat.le_refl _),Nat.sub_self,List.length_cons,List.replicate_succ,List.set_cons_zero,List.append_assoc]
    rfl
   rw[this]
   have:=ih (S++[FJ rows E S ru.toNat]) ⟨pre++[ru],by rw[hp];simp,by simp[hl]⟩
   rw[List.length_append,List.length_cons,List.length_nil] at this
   exact this
 have:=key rules [] ⟨[],rfl,rfl⟩
 exact this.symm
theorem FU.trans {h H H':AA} {lo:Nat} (a:FU h H lo) (b:FU H H' lo):FU h H' lo:=⟨fun i hi=>(b.1 i hi).trans (a.1 i hi),Nat.le_trans a.2.1 b.2.1,b.2.2.trans a.2.2⟩
theorem FU.refl (h:AA) (lo:Nat):FU h h lo:=⟨fun _ _=>rfl,Nat.le_refl _,rfl⟩
noncomputable def ZM:Code:=inB (YE Tryd.f17 1)
noncomputable def jS:Code:=rt (rt (rt (rt ZM)))
section
variable {n N:Nat}
theorem UU {T:Tr} {H:AA} {K:B9} {a lo m e r L at_:Nat} {nm:ByteArray} {E:List Int} {s:AP} {x:AC} {e1 κ:Int} (hκ:1≤κ∧κ≤54) (hn:100020<n) (hat:at_<2932031007403)
  (t2:T.get 2=qP a 0) (t3:T.get 3=qP (a+1) 0) (t5:T.get 5=qP m 0) (t6:T.get 6=iv at_) (t7:T.get 7=iv e1) (t8:T.get 8=iv κ)
  (hp:e1=0→FV H lo m e r L nm E s∧s.rows[at_]?=some x∧x.kind=κ∧(C2 x.kind=true→x.kind≠10→0≤x.n∧x.n<s.on.length)) (ha:a+1<lo) (hlo:lo≤H.next) (hout:EP a H BT 0 0) (hfa:H.floor≤a)
  (hbad:∀ e',e'≠0→((e1≠0∧e'=e1)∨(e1=0∧e'=CV x s))→∀ T' H',T'.get 2=qP a 0→T'.get 3=qP (a+1) 0→EP a H' BT e' at_→H.next≤H'.next→H'.floor=H.floor→(∀ i,i<a→H'.get i=H.get i)→K.ap Tryd.prog (AX n) N .ret ⟨T',H'⟩)
  (hgood:e1=0→CV x s=0→∀ T' H',(∀ t:Nat,t≤6→T'.get t=T.get t)→FV H' lo m e r L nm E (CY at_ x s)→FU H H' lo→K.ap Tryd.prog (AX n) N .normal ⟨T',H'⟩) :
  WK Tryd.prog (AX n) N jS ⟨T,H⟩ K:=by
 show WK _ _ _ (.seq (.seq _ _) (.seq _ _)) _ _
 cases d:(e1 != 0) with
 | true=>
  have d1:(e1==0)=false:=by simpa using d
  have e0:e1≠0:=by simpa using d
  obtain⟨H',s1,s2,r1,r2,r3,r4⟩:=OC hout rfl (by omega) (by omega) (cs':=BT) rfl rfl (e':=e1) (p':=at_)
  simp only[eE,seval,↓eP,t2,t3,t6,t7,d,d1,QR,OL,s1,s2]
  refine hbad e1 e0 (.inl ⟨e0,rfl⟩) _ _ ?_ ?_ r1 (by omega) r3 fun i hi=>r4 i (by omega) (by omega)
  ·simp only[eE,seval,↓eP,rP,t2]
  ·simp only[eE,seval,↓eP,rP,t3]
 | false=>
  have e0:e1=0:=by simpa using d
  subst e0
  obtain⟨hp1,hx,hk,hxn⟩:=hp rfl
  have hV:=GA (n:=n) (G0 (k:=12) (ZW κ H hκ))
  have z0:((0:Int)==0)=true:=rfl
  cases dv:C2 κ with
  | false=>
   rw[dv] at hV
   rw[← hk] at dv
   have h1:CV x s=0:=by unfold CV;rw[if_pos dv]
   have h2:CY at_ x s=s:=by unfold CY;rw[if_pos dv]
   simp only[eE,seval,↓eP,t7,t8,d,hV]
   refine hgood rfl h1 _ _ (fun t ht=>?_) (by rw[h2];exact hp1) (FU.refl _ _)
   simp only[Tr.get_put,Option.some.injEq]
   repeat rw[if_neg (by omega)]
  | true=>
   rw[dv] at hV
   rw[← hk] at dv
   obtain⟨H2,q1,q2,q3⟩:=z_ (n:=n) (at_:=at_) hp1 hx dv (by omega) (hxn dv) (by omega)
   have n2:=q2.2.1
   have f2:=q2.2.2
   have hout2:EP a H2 BT 0 0:=hout.mono (q2.1 a (by omega)) (q2.1 (a+1) ha)
   cases d2:(CV x s != 0) with
   | true=>
    have e2:CV x s≠0:=by simpa using d2
    obtain⟨H',s1,s2,r1,r2,r3,r4⟩:=OC hout2 rfl (by omega) (by omega) (cs':=BT) rfl rfl (e':=CV x s) (p':=at_)
    simp only[eE,seval,↓eP,t2,t3,t5,t6,t7,t8,hV,q1,d2,QR,OL,s1,s2]
    refine hbad _ e2 (.inr ⟨rfl,rfl⟩) _ _ ?_ ?_ r1 (by omega) (by omega) fun i hi=>by rw[r4 i (by omega) (by omega),q2.1 i (by omega)]
    ·simp only[eE,seval,↓eP,rP,t2]
    ·simp only[eE,seval,↓eP,rP,t3]
   | false=>
    have e2:CV x s=0:=by simpa using d2
    simp only[eE,seval,↓eP,t5,t6,t7,t8,hV,q1,d2]
    refine hgood rfl e2 _ _ (fun t ht=>?_) (q3 e2) q2
    simp only[Tr.get_put,Option.some.injEq]
    repeat rw[if_neg (by omega)]
theorem Nb {l:List AC} {v:Value} {T:Tr} {H:AA} {K:B9} {a lo m e r at_:Nat} {nm:ByteArray} {s:AP} {x:AC} (ht:B8 l) (hL:l.length<2932031007403) (hn:100020<n) (hat:at_<l.length)
  (t0:T.get 0=v) (t2:T.get 2=qP a 0) (t3:T.get 3=qP (a+1) 0) (t5:T.get 5=qP m 0) (t6:T.get 6=iv at_) (hv:AV H v l)
  (hp:FV H lo m e r l.length nm (AR l) s) (hi:G9 l at_ s) (hT:K5 s) (hx:s.rows[at_]?=some x) (ha:a+1<lo) (hlo:lo≤H.next) (hout:EP a H BT 0 0) (hfa:H.floor≤a)
  (hbad:(DE (AR l) at_ s).1≠0→∀ T' H',T'.get 2=qP a 0→T'.get 3=qP (a+1) 0→EP a H' BT (DE (AR l) at_ s).1 at_→H.next≤H'.next→H'.floor=H.floor→(∀ i,i<a→H'.get i=H.get i)→K.ap Tryd.prog (AX n) N .ret ⟨T',H'⟩)
  (hgood:(DE (AR l) at_ s).1=0→∀ T' H',(∀ t:Nat,t≤6→T'.get t=T.get t)→FV H' lo m e r l.length nm (AR l) (DE (AR l) at_ s).2→FU H H' lo→K.ap Tryd.prog (AX n) N .normal ⟨T',H'⟩) :
  WK Tryd.prog (AX n) N ZM ⟨T,H⟩ K:=by
 have hkind:=UV ht hi x (List.mem_of_getElem? hx)
 have hxl:l[at_]?=some x:=by rw[← hi.later at_ (Nat.le_refl _)];exact hx
 have hth:=Qf hT hi.wf
 have hEat:(AR l)[at_]?=some (AG l at_:Int):=KR hat
 have hEd:((AR l)[at_]?).getD 0=(AG l at_:Int):=by rw[hEat];rfl
 have hD:=fun H=>GA (n:=n) (G0 (k:=12) (zI x.kind H hkind))
 have hC:=fun H=>GA (n:=n) (G0 (k:=12) (Iv x.kind H hkind))
 have hV:=fun H=>GA (n:=n) (G0 (k:=12) (ZW x.kind H hkind))
 have z0:((0:Int) != 0)=false:=rfl
 have hnx:=hi.wf
 obtain⟨rid,p,e0,hid,l0,l1,l2,l3,l4,lr⟩:=hv.row hxl
 show WK _ _ _ (.seq _ (.seq _ (.seq (.seq _ _) (.seq (.seq _ _) jS)))) _ _
 by_cases hd:BM x.kind=0
 ·rw [hd] at hD
  rw[P7 hx hd] at hbad hgood
  have hxn:∀ x2 s2,CJ at_ x s=0→(BO at_ x s).rows[at_]?=some x2→s2=BO at_ x s→KC s2→x2.kind=x.kind→C2 x2.kind=true→x2.kind≠10→0≤x2.n∧x2.n<s2.on.length:=by
   intro x2 s2 hc hx2 hs2 hw hk2 hev h10
   obtain⟨n2,a1,a2,a3,a4,a5,a6⟩:=QN hx hc
   rw[a1] at hx2
   cases hx2
   have hdd:=eM (k:=x.kind) hev h10
   rcases a6 with⟨b1,_⟩ | ⟨t,b1,b2,b3,_⟩
   ·rw[hdd.1] at b1
    cases b1
   ·rw[hdd.1] at b2
    rw[← a5,← hs2] at b1
    obtain⟨_,_,q1,q2,_⟩:=hw.th t b1
    rw[b2] at q2
    have q3:t.num<(s2.queues.length:Int):=q2
    rw[← hw.o] at q3
    simp only
    rw[b3]
    exact⟨q1,q3⟩
  by_cases hc:DI x.kind=0
  ·rw[hc] at hC
   have h1:CJ at_ x s=0:=by unfold CJ;rw[if_pos hc]
   have h2:BO at_ x s=s:=by unfold BO;rw[if_pos hc]
   rw[h1,h2] at hbad hgood
   rw[if_neg (by simp),hx] at hbad hgood
   simp only at hbad hgood
   simp only[eE,seval,↓eP,t0,t6,e0,DP,A_,l0,hD,hC,z0]
   refine UU (e1:=0) (κ:=x.kind) (x:=x) (s:=s) (E:=AR l) (lo:=lo) (m:=m) hkind hn (by omega) (by simp only[eE,seval,↓eP,rP,t2]) (by simp only[eE,seval,↓eP,rP,t3]) (by simp only[eE,seval,↓eP,rP,t5]) (by simp only[eE,seval,↓eP,rP,t6]) (by simp only[eE,seval,↓eP,rP]) (by simp only[eE,seval,↓eP,rP]) (fun _=>⟨hp,hx,rfl,fun hev h10=>hxn x s h1 (by rw[h2];exact hx) h2.symm hi.wf rfl hev h10⟩) ha hlo hout hfa ?_ ?_
   ·rintro e' he' (⟨h,_⟩ | ⟨_,rfl⟩)
    ·exact absurd rfl h
    ·rw[if_pos he'] at hbad
     exact hbad he'
   ·intro _ hev T' H' hk' hp' ha'
    rw[if_neg (by rw[hev];simp)] at hgood
    refine hgood rfl T' H' (fun t ht=>?_) hp' ha'
    rw[hk' t ht]
    simp only[Tr.get_put,Option.some.injEq]
    repeat rw[if_neg (by omega)]
  ·have d2:(DI x.kind != 0)=true:=by simpa using hc
   obtain⟨H2,q1,q2,q3⟩:=Dz (n:=n) (at_:=at_) hp hx hc (by omega) hth (by omega)
   have n2:=q2.2.1
   have f2:=q2.2.2
   have hout2:=hout.mono (q2.1 a (by omega)) (q2.1 (a+1) ha)
   simp only[eE,seval,↓eP,t0,t5,t6,e0,DP,A_,l0,hD,hC,z0,d2,q1]
   by_cases h1:CJ at_ x s=0
   ·obtain⟨n1,a1,_⟩:=QN hx h1
    have hp2:=q3 h1
    have hw2:KC (BO at_ x s):=by
     obtain⟨_,_,_,hw⟩:=id hp2
     exact hw
    rw[if_neg (by rw[h1];simp),a1] at hbad hgood
    simp only at hbad hgood
    rw[h1]
    refine UU (e1:=0) (κ:=x.kind) (x:={ x with n:=n1 }) (s:=BO at_ x s) (E:=AR l) (lo:=lo) (m:=m) hkind hn (by omega) (by simp only[eE,seval,↓eP,rP,t2]) (by simp only[eE,seval,↓eP,rP,t3]) (by simp only[eE,seval,↓eP,rP,t5]) (by simp only[eE,seval,↓eP,rP,t6]) (by simp only[eE,seval,↓eP,rP]) (by simp only[eE,seval,↓eP,rP]) (fun _=>⟨hp2,a1,rfl,fun hev h10=>hxn _ _ h1 a1 rfl hw2 rfl hev h10⟩) ha (by omega) hout2 (by omega) ?_ ?_
    ·rintro e' he' (⟨h,_⟩ | ⟨_,rfl⟩)
     ·exact absurd rfl h
     ·rw[if_pos he'] at hbad
      exact fun T' H' w2 w3 ho hnx hfx hox=>hbad he' T' H' w2 w3 ho (by omega) (by omega) fun i hi=>by rw[hox i hi,q2.1 i (by omega)]
    ·intro _ hev T' H' hk' hp' ha'
     rw[if_neg (by rw[hev];simp)] at hgood
     refine hgood rfl T' H' (fun t ht=>?_) hp' (q2.trans ha')
     rw[hk' t ht]
     simp only[Tr.get_put,Option.some.injEq]
     repeat rw[if_neg (by omega)]
   ·rw[if_pos h1] at hbad
    refine UU (e1:=CJ at_ x s) (κ:=x.kind) (x:=x) (s:=s) (E:=AR l) (lo:=lo) (m:=m) (e:=e) (r:=r) (nm:=nm) (L:=l.length) (at_:=at_) hkind hn (by omega) (by simp only[eE,seval,↓eP,rP,t2]) (by simp only[eE,seval,↓eP,rP,t3]) (by simp only[eE,seval,↓eP,rP,t5]) (by simp only[eE,seval,↓eP,rP,t6]) (by simp only[eE,seval,↓eP,rP]) (by simp only[eE,seval,↓eP,rP]) (fun h=>absurd h h1) ha (by omega) hout2 (by omega) ?_ (fun h=>absurd h h1)
    rintro e' he' (⟨_,rfl⟩ | ⟨h,_⟩)
    ·exact fun T' H' w2 w3 ho hnx hfx hox=>hbad he' T' H' w2 w3 ho (by omega) (by omega) fun i hi=>by rw[hox i hi,q2.1 i (by omega)]
    ·exact absurd h h1
 ·have d1:(BM x.kind != 0)=true:=by simpa using hd
  obtain⟨hc0,hv0⟩:=jW hd
  rw[hc0] at hC
  rw[SH hx hd,hEd] at hbad hgood
  obtain⟨H2,q1,q2,q3⟩:=Lk (n:=n) (at_:=at_) hp hx hd (by omega) hEat (by omega) hth (by omega)
  have n2:=q2.2.1
  have f2:=q2.2.2
  have hout2:=hout.mono (q2.1 a (by omega)) (q2.1 (a+1) ha)
  simp only[eE,seval,↓eP,t0,t5,t6,e0,DP,A_,l0,hD,hC,z0,d1,q1]
  by_cases h1:DQ x s=0
  ·obtain⟨n1,a1⟩:=eT (end_:=(AG l at_:Int)) hx
   have hp2:=q3 h1
   have hev:C2 ({ x with n:=n1 }:AC).kind=false:=hv0
   have g1:CV { x with n:=n1 } (BI at_ (AG l at_) x s)=0:=by unfold CV;rw[if_pos hev]
   have g2:CY at_ { x with n:=n1 } (BI at_ (AG l at_) x s)=BI at_ (AG l at_) x s:=by unfold CY;rw[if_pos hev]
   rw[if_neg (by rw[h1];simp)] at hbad hgood
   rw[h1]
   refine UU (e1:=0) (κ:=x.kind) (x:={ x with n:=n1 }) (s:=BI at_ (AG l at_) x s) (E:=AR l) (lo:=lo) (m:=m) hkind hn (by omega) (by simp only[eE,seval,↓eP,rP,t2]) (by simp only[eE,seval,↓eP,rP,t3]) (by simp only[eE,seval,↓eP,rP,t5]) (by simp only[eE,seval,↓eP,rP,t6]) (by simp only[eE,seval,↓eP,rP]) (by simp only[eE,seval,↓eP,rP]) (fun _=>⟨hp2,a1,rfl,fun h=>by rw[hev] at h;cases h⟩) ha (by omega) hout2 (by omega) ?_ ?_
   ·rintro e' he' (⟨h,_⟩ | ⟨_,rfl⟩)
    ·exact absurd rfl h
    ·exact absurd g1 he'
   ·intro _ _ T' H' hk' hp' ha'
    rw[g2] at hp'
    refine hgood rfl T' H' (fun t ht=>?_) hp' (q2.trans ha')
    rw[hk' t ht]
    simp only[Tr.get_put,Option.some.injEq]
    repeat rw[if_neg (by omega)]
  ·rw[if_pos h1] at hbad
   refine UU (e1:=DQ x s) (κ:=x.kind) (x:=x) (s:=s) (E:=AR l) (lo:=lo) (m:=m) (e:=e) (r:=r) (nm:=nm) (L:=l.length) (at_:=at_) hkind hn (by omega) (by simp only[eE,seval,↓eP,rP,t2]) (by simp only[eE,seval,↓eP,rP,t3]) (by simp only[eE,seval,↓eP,rP,t5]) (by simp only[eE,seval,↓eP,rP,t6]) (by simp only[eE,seval,↓eP,rP]) (by simp only[eE,seval,↓eP,rP]) (fun h=>absurd h h1) ha (by omega) hout2 (by omega) ?_ (fun h=>absurd h h1)
   rintro e' he' (⟨_,rfl⟩ | ⟨h,_⟩)
   ·exact fun T' H' w2 w3 ho hnx hfx hox=>hbad he' T' H' w2 w3 ho (by omega) (by omega) fun i hi=>by rw[hox i hi,q2.1 i (by omega)]
   ·exact absurd h h1
end
def aX:List (Bool × Bool × List Operand):=[AY,AY,AY,AY,AN [.tmp 83],AN [.tmp 83],AN [.tmp 83],AN [.tmp 83],AL,AL]
def fE:List (Bool × Bool × List Operand):=[FW,AY,AY,AY,AY,AN [.tmp 105],AN [.tmp 105],AN [.tmp 105],AN [.tmp 105],AN [.tmp 105,.tmp 109],AN [.tmp 105,.tmp 109],AN [.tmp 105,.tmp 109],AL,AL,AL]
theorem KA {T:Tr} {d t:Nat} {v:Value} (h:t<d):(T.put (some d) v).get t=T.get t:=by
 rw[Tr.get_put,if_neg (fun h9=>by have h8:d=t:=Option.some.inj h9;omega)]
section
variable {n N:Nat}
theorem yJ {l:List AC} {v:Value} {T:Tr} {H:AA} {K:B9} {a lo m e r:Nat} {nm:ByteArray} (ht:B8 l) (hL:l.length<2932031007403) (hn:100020<n) (hN:l.length+3<N)
  (t0:T.get 0=v) (t2:T.get 2=qP a 0) (t3:T.get 3=qP (a+1) 0) (t5:T.get 5=qP m 0) (hv:AV H v l) (hvl:∀ H',(∀ i,i<lo→H'.get i=H.get i)→H.next≤H'.next→AV H' v l)
  (hp:FV H lo m e r l.length nm (AR l) (BU l)) (ha:a+1<lo) (hlo:lo≤H.next) (hout:EP a H BT 0 0) (hfa:H.floor≤a)
  (hbad:(CE (AR l) l.length 0 (BU l)).1≠0→∀ T' H',T'.get 2=qP a 0→T'.get 3=qP (a+1) 0→EP a H' BT (CE (AR l) l.length 0 (BU l)).1 (CE (AR l) l.length 0 (BU l)).2.1→H.next≤H'.next→H'.floor=H.floor→(∀ i,i<a→H'.get i=H.get i)→K.ap Tryd.prog (AX n) N .ret ⟨T',H'⟩)
  (hgood:(CE (AR l) l.length 0 (BU l)).1=0→∀ T' H',(∀ t,t≤5→T'.get t=T.get t)→FV H' lo m e r l.length nm (AR l) (CE (AR l) l.length 0 (BU l)).2.2→G9 l l.length (CE (AR l) l.length 0 (BU l)).2.2→FU H H' lo→WK Tryd.prog (AX n) N WJ ⟨T',H'⟩ K) :
  WK Tryd.prog (AX n) N YF ⟨T,H⟩ K:=by
 show WK _ _ _ (.seq (.seq _ (.block 0 (.loop (.seq _ (.seq (.block 1 ZM) _))))) WJ) _ _
 simp only[eE,seval,↓eP]
 refine WK.loop (fun i s'=>s'.T.get 6=iv i∧i≤l.length∧(∀ t,t≤5→s'.T.get t=T.get t)∧FU H s'.h lo∧∃ s,FV s'.h lo m e r l.length nm (AR l) s∧G9 l i s∧K5 s∧CE (AR l) (l.length-i) i s=CE (AR l) l.length 0 (BU l)) l.length (by omega) ?_ ?_
 ·refine⟨by simp only[eE,↓reduceIte,Nat.reduceEqDiff,reduceCtorEq,↓eP,rP,Nat.reduceAdd,Nat.reduceLT];rfl,by omega,fun t ht=>?_,FU.refl _ _,BU l,hp,PT l,zT l,rfl⟩
  simp only[Tr.get_put,Option.some.injEq]
  repeat rw[if_neg (by omega)]
 ·rintro i ⟨T1,H1⟩ hi ⟨t6,hil,hkeep,haf,s,hp1,hin,hT,hgo⟩
  simp only at t6 hkeep haf hp1
  have u0:=(hkeep 0 (by omega)).trans t0
  have hv1:=hvl H1 haf.1 haf.2.1
  have hlen:=fun h'=>hv1.len (h':=h')
  by_cases hlt:i<l.length
  ·have c1:decide ((i:Int)<(l.length:Int))=true:=by simp;omega
   obtain⟨x,hx⟩:∃ x,s.rows[i]?=some x:=⟨_,List.getElem?_eq_getElem (by rw[hin.len];exact hlt)⟩
   have hr:l.length-i=(l.length-(i+1))+1:=by omega
   rw[hr] at hgo
   have hout1:EP a H1 BT 0 0:=hout.mono (haf.1 a (by omega)) (haf.1 (a+1) ha)
   have hn1:=haf.2.1
   have hf1:=haf.2.2
   have w1:=DJ i (by omega)
   have hkp:∀ t:Nat,t≤6→((((T1.put (some 39) (iv i)).put (some 40) v).put (some 41) (iv l.length)).put (some 42) (Value.bool true)).get t=T1.get t:=fun t ht=>by
    rw[KA (by omega),KA (by omega),KA (by omega),KA (by omega)]
   simp only[eE,seval,↓eP,u0,t6,hlen,c1]
   refine Nb (a:=a) (at_:=i) (s:=s) (x:=x) ht hL hn hlt ((hkp 0 (by omega)).trans u0) ((hkp 2 (by omega)).trans ((hkeep 2 (by omega)).trans t2)) ((hkp 3 (by omega)).trans ((hkeep 3 (by omega)).trans t3)) ((hkp 5 (by omega)).trans ((hkeep 5 (by omega)).trans t5)) ((hkp 6 (by omega)).trans t6) hv1 hp1 hin hT hx ha (by omega) hout1 (by omega) ?_ ?_
   ·intro he T' H' g2 g3 ho hnx hfx hox
    have hg:CE (AR l) l.length 0 (BU l)=((DE (AR l) i s).1,i,s):=by
     rw[← hgo]
     unfold CE
     rw[if_pos he]
    simp only[eE,seval,↓eP]
    refine hbad (by rw[hg];exact he) T' H' g2 g3 (by rw[hg];exact ho) (by omega) (by omega) fun q hq=>(hox q hq).trans (haf.1 q (by omega))
   ·intro he T' H' hk' hp' haf'
    have hin':=TD ht (TF i) hlt hin he
    have hg:CE (AR l) (l.length-(i+1)) (i+1) (DE (AR l) i s).2=CE (AR l) l.length 0 (BU l):=by
     rw[← hgo]
     conv=>rhs;unfold CE
     rw[if_neg (by rw[he];simp)]
    have u6:=(hk' 6 (by omega)).trans ((hkp 6 (by omega)).trans t6)
    simp only[eE,seval,↓eP,u6,w1]
    refine⟨hlt,by omega,fun t ht=>?_,haf.trans haf',_,hp',hin',Jg hT,hg⟩
    repeat rw[if_neg (by omega)]
    exact(hk' t (by omega)).trans ((hkp t (by omega)).trans (hkeep t ht))
  ·have c1:decide ((i:Int)<(l.length:Int))=false:=by simp;omega
   have:i=l.length:=by omega
   subst this
   have hg:CE (AR l) l.length 0 (BU l)=(0,l.length,s):=by
    rw[← hgo,Nat.sub_self]
    rfl
   simp only[eE,seval,↓eP,u0,t6,hlen,c1]
   refine hgood (by rw[hg]) _ _ (fun t ht=>?_) (by rw[hg];exact hp1) (by rw[hg];exact hin) haf
   simp only[Tr.get_put,Option.some.injEq]
   repeat rw[if_neg (by omega)]
   exact hkeep t ht
theorem CG.polAt {h:AA} {lo m e r n:Nat} {nm:ByteArray} {E:List Int} {tag:Nat→Nat} {V:Nat→Value} {C:List Int} {s:AP} (hp:CG h lo m e r n nm E tag V C s) :
  C1 lo h (.agg #[.string nm,qS r n AJ,V 2,V 3,V 4,V 5,V 6,iv s.miss]) nm s:=by
 have hs:=fun j h2 h8=>hp.sl j h2 h8
 refine⟨_,V 2,V 3,V 4,V 5,V 6,rfl,HT.of ?_,(hs 2 (by omega) (by omega)).cells (NV _),(hs 3 (by omega) (by omega)).cells (by simp[FD,EU,D3]),(hs 4 (by omega) (by omega)).cells (by simp[FD,EU,D3]),(hs 5 (by omega) (by omega)).cells (by simp[FD,EU,FP]),(hs 6 (by omega) (by omega)).cells (by simp[FD,EU,FP])⟩
 have hl:=hp.len
 subst hl
 exact AZ.row (ex:=[]) (by rw[List.append_nil];exact hp.rows) hp.lr (JN _)
theorem xB (hsn:CH (AX n)) {l:List AC} {v:Value} {T:Tr} {H:AA} {K:B9} {a lo m e r:Nat} {nm:ByteArray} {s:AP} (ht:B8 l) (hL:l.length<2932031007403) (hn:l.length+200<n) (hN:l.length+3<N)
  (t0:T.get 0=v) (t2:T.get 2=qP a 0) (t3:T.get 3=qP (a+1) 0) (t5:T.get 5=qP m 0) (hv:AV H v l)
  (hp:FV H lo m e r l.length nm (AR l) s) (hin:G9 l l.length s) (hLR:UG s.rows (AR l) s.rules) (ha:a+1<lo) (hlo:lo≤H.next) (hout:EP a H BT 0 0) (hfa:H.floor≤a)
  (hbad:IM s.rows (AR l) s.rules≥0→∀ T' H',T'.get 2=qP a 0→T'.get 3=qP (a+1) 0→EP a H' BT 34 (IM s.rows (AR l) s.rules)→H.next≤H'.next→H'.floor=H.floor→(∀ i,i<a→H'.get i=H.get i)→K.ap Tryd.prog (AX n) N .ret ⟨T',H'⟩)
  (hgood:¬ IM s.rows (AR l) s.rules≥0→∀ T' H' cs,T'.get 2=qP a 0→T'.get 3=qP (a+1) 0→cs.length=8→EP a H' cs 0 0→C1 lo H' (.agg cs.toArray) nm s→H.next≤H'.next→H'.floor=H.floor→(∀ i,i<a→H'.get i=H.get i)→K.ap Tryd.prog (AX n) N .ret ⟨T',H'⟩) :
  WK Tryd.prog (AX n) N WJ ⟨T,H⟩ K:=by
 show WK _ _ _ (.seq (.region _ _ true) (.seq _ (.seq (.seq _ (.block 2 (.loop (.seq _ (.seq (.block 3 (.seq _ (.cond _ (.seq (.region _ _ true) _) _))) _))))) (.seq _ _)))) _ _
 obtain⟨tag,V,hp',hw⟩:=id hp
 have hLy:=hLR.lay
 have hsl:s.rows.length=l.length:=hin.len
 have hu:=hin.wf.u
 have hml:=hp'.lm
 have l8:CB 8 0 (H.get m)=some (.agg #[.string nm,qS r l.length AJ,V 2,V 3,V 4,V 5,V 6,iv s.miss]):=by rw[hp'.cell];rfl
 have c8:=hp'.c8
 have hpol:=hp'.polAt
 have cR:=fun j h2 h8=>hp'.sl j h2 h8
 have q2:=((cR 2 (by omega) (by omega)).cells (w:=2) (NV _)).one
 have q3:=((cR 3 (by omega) (by omega)).cells (w:=1) (by simp[FD,EU,D3])).one
 have q4:=((cR 4 (by omega) (by omega)).cells (w:=1) (by simp[FD,EU,D3])).one
 have C5:AK lo H (V 5) s.rules:=(cR 5 (by omega) (by omega)).cells (w:=1) (by simp[FD,EU,FP])
 have q5:=AZ.one C5
 have q6:=((cR 6 (by omega) (by omega)).cells (w:=1) (by simp[FD,EU,FP])).one
 have hE:(AR l).length=l.length:=O5
 have hCE:AK lo H (qS e (AR l).length (AR l).length) (AR l):=AK.row' hp'.ends hp'.le rfl
 have hrv:AV H (qS r l.length AJ) s.rows:=by rw[← hsl];exact W4 hp'.rows hp'.lr.2
 have hfx:∀ (f i:Nat),(H.fl f).get i=H.get i:=fun _ _=>rfl
 obtain⟨vS,H2,hS,hI,f2,n2,o2⟩:=vW (n:=n) (h:=H) (v0:=.string nm) (vr:=qS r l.length AJ) (vq:=V 2) (vv:=V 3) (vt:=V 4) (vu:=V 5) (vo:=V 6) (v7:=iv s.miss) (rows:=s.rows) (rules:=s.rules) ⟨rfl,q2,q3,q4,q6,rfl⟩ hrv hCE C5 hLR (by omega) (by omega)
 rw[Gs hLR] at hI
 have hmT:(m<H.next)=True:=by simp;omega
 rw[LD]
 refine WK.flags (fs:=aX) (by kernel_rfl) ?_
 unfold aX
 iterate 10
  refine GN hsn ?_
  simp only[rG,seval,AB,AE,AD,B_,CO,DO,ED,Fsx,t5,HW,hmT,I1,l8,c_,CX,c8,hS]
 refine GM ?_
 have oA:∀ i,i<H.next→(H2.fl H.floor).get i=H.get i:=o2
 have nA:H.next≤(H2.fl H.floor).next:=n2
 have fA:(H2.fl H.floor).floor=H.floor:=rfl
 have hIA:AK H.next (H2.fl H.floor) vS (IR s.rows (AR l) s.rules):=hI.mono (Nat.le_refl _) fun _ _ _=>rfl
 generalize H2.fl H.floor=A at *
 have l8A:CB 8 0 (A.get m)=some (.agg #[.string nm,qS r l.length AJ,V 2,V 3,V 4,V 5,V 6,iv s.miss]):=by rw[oA m hml.2];exact l8
 have c8A:AS 8 (A.get m)=some (qS e (AR l).length (AR l).length):=by rw[oA m hml.2];exact c8
 have hvA:AV A v l:=hv.mono nA oA
 have hrvA:AV A (qS r l.length AJ) s.rows:=hrv.mono nA oA
 have hCEA:AK lo A (qS e (AR l).length (AR l).length) (AR l):=hCE.mono nA fun i _ hi=>oA i hi
 have houtA:EP a A BT 0 0:=hout.mono (oA a (by omega)) (oA (a+1) (by omega))
 have hmA:(m<A.next)=True:=by simp;omega
 have hSum:=(YQ (rows:=s.rows) (E:=AR l) (rules:=s.rules))
 have hlenA:=fun h'=>hvA.len (h':=h')
 simp only[eE,seval,↓eP]
 refine WK.loop (fun i s'=>s'.T.get 9=vS∧s'.T.get 11=iv i∧i≤l.length∧(∀ t:Nat,t≤5→s'.T.get t=T.get t)∧s'.h=A∧∃ a0:Int,s'.T.get 10=iv a0∧0≤a0∧a0≤4611686018427387904∧NX s.rows (AR l) (IR s.rows (AR l) s.rules) (s.rows.drop i) i a0=IM s.rows (AR l) s.rules) l.length (by omega) ?_ ?_
 ·refine⟨by simp only[eE,↓reduceIte,Nat.reduceEqDiff,reduceCtorEq,↓eP,rP,Nat.reduceAdd,Nat.reduceLT],by simp only[eE,↓reduceIte,Nat.reduceEqDiff,reduceCtorEq,↓eP,rP,Nat.reduceAdd,Nat.reduceLT];rfl,by omega,fun t ht=>?_,rfl,0,by simp only[eE,↓reduceIte,Nat.reduceEqDiff,reduceCtorEq,↓eP,rP,Nat.reduceAdd,Nat.reduceLT],by omega,by omega,rfl⟩
  rw[KA (by omega),KA (by omega),KA (by omega),KA (by omega),KA (by omega),KA (by omega),KA (by omega),KA (by omega),KA (by omega),KA (by omega),KA (by omega),KA (by omega)]
 ·rintro i ⟨T1,H1⟩ hi ⟨t9,t11,hil,hkeep,hh,a0,t10,ha0,haB,hcn⟩
  simp only at t9 t11 hkeep hh t10
  subst hh
  have u0:=(hkeep 0 (by omega)).trans t0
  have u2:=(hkeep 2 (by omega)).trans t2
  have u3:=(hkeep 3 (by omega)).trans t3
  have u5:=(hkeep 5 (by omega)).trans t5
  by_cases hlt:i<l.length
  ·have c1:decide ((i:Int)<(l.length:Int))=true:=by simp;omega
   obtain⟨y,hy⟩:∃ y,l[i]?=some y:=⟨_,List.getElem?_eq_getElem hlt⟩
   obtain⟨x,hx⟩:∃ x,s.rows[i]?=some x:=⟨_,List.getElem?_eq_getElem (by omega)⟩
   have hxy:x.kind=y.kind:=by
    obtain⟨y',hy',he⟩:=hin.same i x hx
    rw[hy] at hy'
    cases hy'
    rw[he]
   obtain⟨rid,p,e0,hid,l0,l1,l2,l3,l4,lr⟩:=hvA.row hy
   have hkx:=UV ht hin x (List.mem_of_getElem? hx)
   rw[hxy] at hkx
   have hV:=GA (n:=n) (G0 (k:=12) (ZW y.kind H1 hkx))
   have w1:=DJ i (by omega)
   have hdr:s.rows.drop i=x :: s.rows.drop (i+1):=by
    obtain⟨hl,rfl⟩:=List.getElem?_eq_some_iff.1 hx
    exact List.drop_eq_getElem_cons hl
   rw[hdr] at hcn
   change (if C2 x.kind=false then NX s.rows (AR l) (IR s.rows (AR l) s.rules) (s.rows.drop (i+1)) (i+1) a0 else if BF a0 (FJ s.rows (AR l) (IR s.rows (AR l) s.rules) (i+1))>16384 then (i:Int) else NX s.rows (AR l) (IR s.rows (AR l) s.rules) (s.rows.drop (i+1)) (i+1) (BF a0 (FJ s.rows (AR l) (IR s.rows (AR l) s.rules) (i+1))))=_ at hcn
   cases dv:C2 y.kind with
   | false=>
    rw[dv] at hV
    rw[if_pos (by rw[hxy];exact dv)] at hcn
    simp only[eE,seval,↓eP,u0,t9,t10,t11,hlenA,c1,e0,DP,A_,l0,hV,w1]
    refine⟨by omega,by omega,fun t ht=>?_,ha0,haB,hcn⟩
    repeat rw[if_neg (by omega)]
    exact hkeep t ht
   | true=>
    rw[dv] at hV
    rw[if_neg (by rw[hxy,dv];simp)] at hcn
    have hi1:=fL ht hin i x hx (by rw[hxy];exact dv)
    have hlaid:=sR (n:=n) (h:=H1) (v0:=.string nm) (vr:=qS r l.length AJ) (vq:=V 2) (vv:=V 3) (vt:=V 4) (vu:=V 5) (vo:=V 6) (v7:=iv s.miss) (row:=i+1) ⟨rfl,q2,q3,q4,q5,q6,rfl⟩ hrvA hCEA hIA hSum.1 hLy hi1 (by omega) (fun z hz h22=>by
     rw[hSum.2]
     exact hLy.calls z (List.mem_of_mem_drop (List.mem_of_mem_take hz)) h22)
    have hcA:=RC (rows:=s.rows) (E:=AR l) hSum.1 (i+1)
    have hpl:=GA (n:=n) (qT H1 hcA ⟨ha0,haB⟩)
    have hpn:=IN ha0 hcA.1 hcA.2
    simp only[eE,seval,↓eP,u0,t11,hlenA,c1,e0,DP,A_,l0,hV]
    refine WK.flags (fs:=fE) (by kernel_rfl) ?_
    unfold fE
    iterate 15
     refine GN hsn ?_
     simp only[rG,seval,AB,AE,AD,B_,CO,DO,ED,Fsx,t10,u5,HW,hmA,I1,l8A,c_,CX,c8A,t9,t11,w1,hlaid,hpl]
    refine GM ?_
    cases dg:decide (BF a0 (FJ s.rows (AR l) (IR s.rows (AR l) s.rules) (i+1))>16384) with
    | true=>
     rw[if_pos (by simpa using dg)] at hcn
     obtain⟨H',s1,s2,r1,r2,r3,r4⟩:=OC houtA rfl (by omega) (by omega) (cs':=BT) rfl rfl (e':=34) (p':=(i:Int))
     simp only[eE,seval,↓eP,u2,u3,t11,dg,QR,OL,s1,s2]
     refine hbad (by rw[← hcn];omega) _ _ ?_ ?_ (by rw[← hcn];exact r1) (by omega) (by omega) fun i hi=>by rw[r4 i (by omega) (by omega),oA i (by omega)]
     ·simp only[eE,seval,↓eP,rP,u2]
     ·simp only[eE,seval,↓eP,rP,u3]
    | false=>
     rw[if_neg (by simpa using dg)] at hcn
     simp only[eE,seval,↓eP,t9,t11,dg,w1]
     refine⟨by omega,by omega,fun t ht=>?_,hpn.1,hpn.2,hcn⟩
     have hne:∀ d:Nat,5<d→¬ (d=t):=fun d hd=>by omega
     repeat rw[if_neg (hne _ (by decide))]
     exact hkeep t ht
  ·have c1:decide ((i:Int)<(l.length:Int))=false:=by simp;omega
   have hneg:¬ IM s.rows (AR l) s.rules≥0:=by
    rw[← hcn,List.drop_of_length_le (by omega)]
    show ¬ ((-1:Int)≥0)
    omega
   obtain⟨H',s1,s2,r1,r2,r3,r4⟩:=OC houtA rfl (by omega) (by omega) (cs':=[.string nm,qS r l.length AJ,V 2,V 3,V 4,V 5,V 6,iv s.miss]) rfl (by
    simp only[List.all_cons,List.all_nil,q2,q3,q4,q5,q6,N7,LE,Bool.and_self]
    rfl) (e':=0) (p':=0)
   simp only[eE,seval,↓eP,u0,u2,u3,u5,t11,hlenA,c1,HW,I1,l8A,UQ,s1,s2]
   refine hgood hneg _ _ _ ?_ ?_ rfl r1 (hpol.mono (by omega) fun i h1 h2=>by rw[r4 i (by omega) (by omega),oA i h2]) (by omega) (by omega) fun i hi=>by rw[r4 i (by omega) (by omega),oA i (by omega)]
   ·simp only[eE,seval,↓eP,rP,u2]
   ·simp only[eE,seval,↓eP,rP,u3]
end
section
variable {n N:Nat}
theorem Oa {l:List AC} {v:Value} {h:AA} (hfl:h.floor≤h.next) (hv:AV h v l) (hL:l.length<2932031007403) (h64:∀ x∈l,x.kids≤9223372036854775807) (hn:l.length+100100<n) (hN:l.length+3<N) :
  ∃ v' h',A8 Tryd.prog (AX n) N 17 [v] h=some (v',h')∧OK h l v' h':=by
 refine M8 (R:=OK h l) Tryd.func17 rfl (by simp[Tryd.f17]) ?_
 have hr:Tryd.f17.results.toList=[.cell 2 30,.cell 3 33]:=rfl
 generalize hKK:B9.top (fun e s=>(e=DT.normal∨e=DT.ret)∧∃ vs,FA Tryd.prog s Tryd.f17.results.toList=some vs∧OK h l (GW vs) s.h)=K
 have fin:∀ (T':Tr) (H':AA) cs e p nm s,T'.get 2=qP h.next 0→T'.get 3=qP (h.next+1) 0→cs.length=8→EP h.next H' cs e p→C1 h.next H' (.agg cs.toArray) nm s→(AU l).1=(e,p)→C7 l=(nm,s)→h.next≤H'.next→H'.floor=h.floor→(∀ i,i<h.next→H'.get i=h.get i)→K.ap Tryd.prog (AX n) N .ret ⟨T',H'⟩:=by
  intro T' H' cs e p nm s t2 t3 hl ho hp he hout hnx hf hold
  have l30:=M4 ho.1 hl
  have l33:CB 2 0 (H'.get (h.next+1))=some (FY e p):=by rw[ho.2];rfl
  rw[← hKK]
  simp only[eE,seval,↓eP,hr,t2,t3,I1,LX,l30,l33]
  exact⟨_,by rw[he],by rw[hout];exact hp,hf,hnx,hold⟩
 have hz:∀ H',C1 h.next H' PS ByteArray.empty sZ:=fun H'=>oS h.next H'
 refine Cu (FM n).2 hfl hv (fun H hv' hfl'=>Hg (by omega) hL h64 hv' hfl') ?_ ?_
 ·intro hc T' H t2 t3 ho hnx hf hold
  refine fin T' H _ _ _ ByteArray.empty sZ t2 t3 rfl ho (hz H) ?_ ?_ (by omega) hf hold
  ·unfold AU
   rw[if_pos hc]
  ·unfold C7
   have:(AU l).1.1≠0:=by unfold AU;rw[if_pos hc];exact hc
   rw[if_pos this]
 ·intro hc T' H t0 t2 t3 ho hnx hf hold
  have ht:=YS (dL hc)
  have hvH:AV H v l:=hv.mono (by omega) hold
  refine Ez (FM n).2 ht hL (by omega) hvH t0 (fun H' hv' hf'=>kN ht hv' (by omega) (by omega) hf') ?_
  intro T1 H1 m e r u0 u2 u3 u5 hp hnx1 hf1 hold1
  have ho1:EP h.next H1 BT 0 0:=ho.mono (hold1 _ (by omega)) (hold1 _ (by omega))
  have hv1:=hvH.mono hnx1 hold1
  refine yJ (a:=h.next) ht hL (by omega) hN u0 (u2.trans t2) (u3.trans t3) u5 hv1 (fun H' a b=>hvH.mono (by omega) fun i hi=>(a i hi).trans (hold1 i hi)) hp (by omega) (by omega) ho1 (by omega) ?_ ?_
  ·intro hgo T2 H2 w2 w3 ho2 hnx2 hf2 hold2
   refine fin T2 H2 _ _ _ ByteArray.empty sZ w2 w3 rfl ho2 (hz H2) ?_ ?_ (by omega) (by omega) fun i hi=>by rw[hold2 i hi,hold1 i (by omega),hold i hi]
   ·unfold AU
    rw[if_neg (by rw[hc];simp)]
    simp only
    rw[if_pos hgo]
   ·unfold C7
    have:(AU l).1.1≠0:=by
     unfold AU
     rw[if_neg (by rw[hc];simp)]
     simp only
     rw[if_pos hgo]
     exact hgo
    rw[if_pos this]
  ·intro hgo T2 H2 hk2 hp2 hin2 haf
   have ho2:EP h.next H2 BT 0 0:=ho1.mono (haf.1 _ (by omega)) (haf.1 _ (by omega))
   have hf2:=haf.2.2
   have hn2:=haf.2.1
   have hLR:=tC ht (by omega) hin2 (YL ht l.length 0 (BU l) (by omega) (PT l) (bK l) hgo)
   refine xB (a:=h.next) (FM n).2 ht hL (by omega) hN ((hk2 0 (by omega)).trans u0) ((hk2 2 (by omega)).trans (u2.trans t2)) ((hk2 3 (by omega)).trans (u3.trans t3)) ((hk2 5 (by omega)).trans u5) (hvH.mono (by omega) fun i hi=>(haf.1 i hi).trans (hold1 i hi)) hp2 hin2 hLR (by omega) (by omega) ho2 (by omega) ?_ ?_
   ·intro hlg T3 H3 x2 x3 ho3 hnx3 hf3 hold3
    have hres:(AU l).1=(34,IM (CE (AR l) l.length 0 (BU l)).2.2.rows (AR l) (CE (AR l) l.length 0 (BU l)).2.2.rules):=by
     unfold AU
     rw[if_neg (by rw[hc];simp)]
     simp only
     rw[if_neg (by rw[hgo];simp),if_pos hlg]
    refine fin T3 H3 _ _ _ ByteArray.empty sZ x2 x3 rfl ho3 (hz H3) hres ?_ (by omega) (by omega) fun i hi=>by rw[hold3 i hi,haf.1 i (by omega),hold1 i (by omega),hold i hi]
    unfold C7
    rw[if_pos (by rw[hres];simp)]
   ·intro hlg T3 H3 cs x2 x3 hcs ho3 hpol hnx3 hf3 hold3
    have hres:AU l=((0,0),(CE (AR l) l.length 0 (BU l)).2.2):=by
     unfold AU
     rw[if_neg (by rw[hc];simp)]
     simp only
     rw[if_neg (by rw[hgo];simp),if_neg hlg]
    refine fin T3 H3 cs _ _ (C6 l) (CE (AR l) l.length 0 (BU l)).2.2 x2 x3 hcs ho3 (hpol.weak (by omega)) (by rw[hres]) ?_ (by omega) (by omega) fun i hi=>by rw[hold3 i hi,haf.1 i (by omega),hold1 i (by omega),hold i hi]
    unfold C7
    rw[hres]
    simp
theorem b9 {l:List AC} {v:Value} {h:AA} (hfl:h.floor≤h.next) (hv:AV h v l) (hL:l.length<2932031007403) (h64:∀ x∈l,x.kids≤9223372036854775807) (hn:l.length+100110<n) :
  ∃ v' h',AX n 17 [v] h=some (v',h')∧OK h l v' h':=by
 obtain⟨n,rfl⟩:=D7 hn
 exact NG (CN ⟨rfl,rfl,rfl⟩) (Oa (n:=n) (N:=n) hfl hv hL h64 (by omega) (by omega)) fun v' h1 hf _ ht=>Br hf ht
end
noncomputable def SJ:AQ:=N1 39 DZ
def mB:Option (Value × AA)→Bool
 | some (.bool b,_)=>b
 | _=>false
theorem Nq:mB (LF Tryd.prog 400 39 [] J5)=true:=by kernel_rfl
theorem Bo:DM Tryd.prog SJ∧CH SJ:=by
 have h:=Nq
 unfold mB at h
 split at h
 ·rename_i b h' hs
  cases h
  exact vI J2 Y7 (by kernel_rfl) hs
 ·cases h
noncomputable def LM (n:Nat):AQ:=G_ SJ (AX n)
theorem YM (n:Nat):DM Tryd.prog (LM n)∧CH (LM n):=ST Bo (FM n)
section
variable {n:Nat} {f:FuncId} {args:List Value} {h:AA} {r:Value × AA}
theorem Se (hg:h.get 0=DZ):LM n 39 [] h=some (.bool true,h):=by
 refine S9 ?_
 unfold SJ N1
 rw[if_pos ⟨rfl,rfl,hg⟩]
theorem S4 (hf:f≠39) (hb:AX n f args h=some r):LM n f args h=some r:=by
 unfold LM G_
 have:SJ f args h=none:=by
  unfold SJ N1
  rw[if_neg (fun hc=>hf hc.1)]
 rw[this]
 exact hb
end
end Go.Proofs.YtipekdhneagdbaaDoor
