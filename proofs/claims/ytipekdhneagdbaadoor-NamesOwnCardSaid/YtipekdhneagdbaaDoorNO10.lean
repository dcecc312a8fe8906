/- Part 10 of what the claim leans on: 19 texts laid one behind another. -/
import Derived.Test.YtipekdhneagdbaaDoorNO9
namespace Go.Proofs.YtipekdhneagdbaaDoor
open Go Go.Sx
set_option maxRecDepth 100000
set_option linter.unusedSimpArgs false
set_option linter.unusedVariables false
set_option maxHeartbeats 64000000
def PD (r:Nat):Code→Option Code
 | .seq a b=>match PD r a with
  | some o=>some o
  | none=>PD r b
 | .cond _ a b=>match PD r a with
  | some o=>some o
  | none=>PD r b
 | .block i c=>if i=r then some (.block i c) else PD r c
 | .loop c=>PD r c
 | _=>none
def U1 (fn:Func) (r:Nat):Code:=match fn.body with
 | some c=>(PD r c).getD .skip
 | none=>.skip
noncomputable def nF:Code:=U1 Tryd.f85 2
section
variable {call:AK} {N:Nat}
theorem Jg {κ n:Int} {T:Tr} {h:AA} {k:BS} (hκ:T.get 59=iv κ) (h8:T.get 8=iv n) (hn:0≤n∧n<4611686018427387904)
  (hrest:∀ T':Tr,(∀ t,t≤7→T'.get t=T.get t)→T'.get 8=iv (n+DZ κ)→k.ap Tryd.prog call N .normal ⟨T',h⟩):WK Tryd.prog call N nF ⟨T,h⟩ k:=by
 have w:IntKind.i64.wrap (n+1)=n+1:=CG (by omega) (by omega)
 have fin:∀ T':Tr,(∀ t,t≤7→T'.get t=T.get t)→DZ κ=1→T'.get 8=iv (n+1)→k.ap Tryd.prog call N .normal ⟨T',h⟩:=fun T' h1 h2 h3=>hrest T' h1 (by rw[h2];exact h3)
 show WK _ _ _ (.block 2 _) _ _
 by_cases e0:κ=1
 ·have d0:(κ==1)=true:=by rw[e0];rfl
  simp only[eE,seval,↓eP,rP,hκ,h8,w,d0]
  exact fin _ (fun t ht=>by simp only[Tr.get_put,Option.some.injEq];(repeat rw[if_neg (by omega)])) (by rw[e0];rfl) (by simp only[Tr.get_put,Option.some.injEq,if_true])
 have d0:(κ==1)=false:=by simpa using e0
 by_cases e1:κ=11
 ·have d1:(κ==11)=true:=by rw[e1];rfl
  simp only[eE,seval,↓eP,rP,hκ,h8,w,d0,d1]
  exact fin _ (fun t ht=>by simp only[Tr.get_put,Option.some.injEq];(repeat rw[if_neg (by omega)])) (by rw[e1];rfl) (by simp only[Tr.get_put,Option.some.injEq,if_true])
 have d1:(κ==11)=false:=by simpa using e1
 by_cases e2:κ=26
 ·have d2:(κ==26)=true:=by rw[e2];rfl
  simp only[eE,seval,↓eP,rP,hκ,h8,w,d0,d1,d2]
  exact fin _ (fun t ht=>by simp only[Tr.get_put,Option.some.injEq];(repeat rw[if_neg (by omega)])) (by rw[e2];rfl) (by simp only[Tr.get_put,Option.some.injEq,if_true])
 have d2:(κ==26)=false:=by simpa using e2
 by_cases e3:κ=31
 ·have d3:(κ==31)=true:=by rw[e3];rfl
  simp only[eE,seval,↓eP,rP,hκ,h8,w,d0,d1,d2,d3]
  exact fin _ (fun t ht=>by simp only[Tr.get_put,Option.some.injEq];(repeat rw[if_neg (by omega)])) (by rw[e3];rfl) (by simp only[Tr.get_put,Option.some.injEq,if_true])
 have d3:(κ==31)=false:=by simpa using e3
 by_cases e4:κ=32
 ·have d4:(κ==32)=true:=by rw[e4];rfl
  simp only[eE,seval,↓eP,rP,hκ,h8,w,d0,d1,d2,d3,d4]
  exact fin _ (fun t ht=>by simp only[Tr.get_put,Option.some.injEq];(repeat rw[if_neg (by omega)])) (by rw[e4];rfl) (by simp only[Tr.get_put,Option.some.injEq,if_true])
 have d4:(κ==32)=false:=by simpa using e4
 by_cases e5:κ=35
 ·have d5:(κ==35)=true:=by rw[e5];rfl
  simp only[eE,seval,↓eP,rP,hκ,h8,w,d0,d1,d2,d3,d4,d5]
  exact fin _ (fun t ht=>by simp only[Tr.get_put,Option.some.injEq];(repeat rw[if_neg (by omega)])) (by rw[e5];rfl) (by simp only[Tr.get_put,Option.some.injEq,if_true])
 have d5:(κ==35)=false:=by simpa using e5
 by_cases e6:κ=36
 ·have d6:(κ==36)=true:=by rw[e6];rfl
  simp only[eE,seval,↓eP,rP,hκ,h8,w,d0,d1,d2,d3,d4,d5,d6]
  exact fin _ (fun t ht=>by simp only[Tr.get_put,Option.some.injEq];(repeat rw[if_neg (by omega)])) (by rw[e6];rfl) (by simp only[Tr.get_put,Option.some.injEq,if_true])
 have d6:(κ==36)=false:=by simpa using e6
 by_cases e7:κ=37
 ·have d7:(κ==37)=true:=by rw[e7];rfl
  simp only[eE,seval,↓eP,rP,hκ,h8,w,d0,d1,d2,d3,d4,d5,d6,d7]
  exact fin _ (fun t ht=>by simp only[Tr.get_put,Option.some.injEq];(repeat rw[if_neg (by omega)])) (by rw[e7];rfl) (by simp only[Tr.get_put,Option.some.injEq,if_true])
 have d7:(κ==37)=false:=by simpa using e7
 by_cases e8:κ=39
 ·have d8:(κ==39)=true:=by rw[e8];rfl
  simp only[eE,seval,↓eP,rP,hκ,h8,w,d0,d1,d2,d3,d4,d5,d6,d7,d8]
  exact fin _ (fun t ht=>by simp only[Tr.get_put,Option.some.injEq];(repeat rw[if_neg (by omega)])) (by rw[e8];rfl) (by simp only[Tr.get_put,Option.some.injEq,if_true])
 have d8:(κ==39)=false:=by simpa using e8
 by_cases e9:κ=40
 ·have d9:(κ==40)=true:=by rw[e9];rfl
  simp only[eE,seval,↓eP,rP,hκ,h8,w,d0,d1,d2,d3,d4,d5,d6,d7,d8,d9]
  exact fin _ (fun t ht=>by simp only[Tr.get_put,Option.some.injEq];(repeat rw[if_neg (by omega)])) (by rw[e9];rfl) (by simp only[Tr.get_put,Option.some.injEq,if_true])
 have d9:(κ==40)=false:=by simpa using e9
 by_cases e10:κ=38
 ·have d10:(κ==38)=true:=by rw[e10];rfl
  simp only[eE,seval,↓eP,rP,hκ,h8,w,d0,d1,d2,d3,d4,d5,d6,d7,d8,d9,d10]
  exact fin _ (fun t ht=>by simp only[Tr.get_put,Option.some.injEq];(repeat rw[if_neg (by omega)])) (by rw[e10];rfl) (by simp only[Tr.get_put,Option.some.injEq,if_true])
 have d10:(κ==38)=false:=by simpa using e10
 by_cases e11:κ=41
 ·have d11:(κ==41)=true:=by rw[e11];rfl
  simp only[eE,seval,↓eP,rP,hκ,h8,w,d0,d1,d2,d3,d4,d5,d6,d7,d8,d9,d10,d11]
  exact fin _ (fun t ht=>by simp only[Tr.get_put,Option.some.injEq];(repeat rw[if_neg (by omega)])) (by rw[e11];rfl) (by simp only[Tr.get_put,Option.some.injEq,if_true])
 have d11:(κ==41)=false:=by simpa using e11
 by_cases e12:κ=42
 ·have d12:(κ==42)=true:=by rw[e12];rfl
  simp only[eE,seval,↓eP,rP,hκ,h8,w,d0,d1,d2,d3,d4,d5,d6,d7,d8,d9,d10,d11,d12]
  exact fin _ (fun t ht=>by simp only[Tr.get_put,Option.some.injEq];(repeat rw[if_neg (by omega)])) (by rw[e12];rfl) (by simp only[Tr.get_put,Option.some.injEq,if_true])
 have d12:(κ==42)=false:=by simpa using e12
 simp only[eE,seval,↓eP,rP,hκ,d0,d1,d2,d3,d4,d5,d6,d7,d8,d9,d10,d11,d12]
 refine hrest _ (fun t ht=>by simp only[Tr.get_put,Option.some.injEq];(repeat rw[if_neg (by omega)])) ?_
 have h0:DZ κ=0:=by
  unfold DZ
  rw[if_neg]
  simp only[List.contains_cons,List.contains_nil,Bool.or_false,Bool.or_eq_true,beq_iff_eq]
  omega
 rw[h0,Int.add_zero]
 simp only[Tr.get_put,Option.some.injEq,Nat.reduceEqDiff,if_false]
 exact h8
end
structure NC (l:List AB) (O:List Int) (j:Nat) (most:Int):Prop where
 len:O.length=l.length
 top:0<j→∀ x,l[0]?=some x→O[0]?=some (DZ x.kind)
 kid:∀ p k i x y o,i<j→GY l p k i→l[p]?=some x→l[i]?=some y→O[p]?=some o→O[i]?=some (o+GD (CB x.kind) (CB y.kind) k+DZ y.kind)
 le:∀ (i:Nat) o,i<j→O[i]?=some o→0≤o∧o≤2*(i:Int)+2
 max:(j=0∧most=0)∨(0<j∧LN O 0 j most)
theorem NC.most {l:List AB} {O:List Int} {j:Nat} {most:Int} (h:NC l O j most):0≤most∧most≤2*(j:Int):=by
 rcases h.max with⟨_,h1⟩ | ⟨_,_,i,_,h2,h3⟩
 ·omega
 ·have:=h.le i _ h2 h3
  omega
theorem NC.step {l:List AB} {O:List Int} {j:Nat} {most n:Int} (ht:CU l) (h:NC l O j most) (hj:j<l.length)
  (hn:(j=0∧∀ x,l[0]?=some x→n=DZ x.kind)∨∃ p k x y o,GY l p k j∧l[p]?=some x∧l[j]?=some y∧O[p]?=some o∧n=o+GD (CB x.kind) (CB y.kind) k+DZ y.kind):NC l (O.set j n) (j+1) (if n>most then n else most):=by
 have hlO:=h.len
 have hnle:0≤n∧n≤2*(j:Int)+2:=by
  rcases hn with⟨rfl,h1⟩ | ⟨p,k,x,y,o,h1,h2,h3,h4,rfl⟩
  ·have:=SC l[0].kind
   have:=h1 l[0] (List.getElem?_eq_getElem hj)
   omega
  ·have:=h.le p o h1.lt h4
   have:=SC y.kind
   have:=Y1 (CB x.kind) (CB y.kind) k
   have:=h1.lt
   omega
 refine⟨by simpa using hlO,fun _ x hx=>?_,fun p k i x y o hi hk hx hy ho=>?_,fun i o hi ho=>?_,.inr ⟨by omega,?_⟩⟩
 ·by_cases h0:j=0
  ·subst h0
   rw[List.getElem?_set_self (by omega)]
   rcases hn with⟨_,h1⟩ | ⟨p,k,x,y,o,h1,_⟩
   ·rw[h1 x hx]
   ·have:=h1.lt;omega
  ·rw[List.getElem?_set_ne (by omega)]
   exact h.top (by omega) x hx
 ·have hlt:=hk.lt
  rw[List.getElem?_set_ne (by omega)] at ho
  by_cases hij:j=i
  ·subst hij
   rw[List.getElem?_set_self (by omega)]
   rcases hn with⟨rfl,_⟩ | ⟨p',k',x',y',o',h1,h2,h3,h4,rfl⟩
   ·omega
   ·obtain⟨rfl,rfl⟩:=GY.unique ht hk h1
    rw[hx] at h2
    rw[hy] at h3
    rw[ho] at h4
    cases h2
    cases h3
    cases h4
    rfl
  ·rw[List.getElem?_set_ne (by omega)]
   exact h.kid p k i x y o (by omega) hk hx hy ho
 ·by_cases hij:j=i
  ·subst hij
   rw[List.getElem?_set_self (by omega)] at ho
   cases ho
   exact hnle
  ·rw[List.getElem?_set_ne (by omega)] at ho
   exact h.le i o (by omega) ho
 ·rcases h.max with⟨rfl,rfl⟩ | ⟨hp,h1,i,h2,h3,h4⟩
  ·have he:(if n>0 then n else 0)=n:=by split <;> omega
   rw[he]
   refine⟨fun i x _ hi hx=>?_,0,by omega,by omega,List.getElem?_set_self (by omega)⟩
   obtain rfl:i=0:=by omega
   rw[List.getElem?_set_self (by omega)] at hx
   cases hx
   omega
  ·refine⟨fun t x _ ht hx=>?_,?_⟩
   ·by_cases htj:j=t
    ·subst htj
     rw[List.getElem?_set_self (by omega)] at hx
     cases hx
     split <;> omega
    ·rw[List.getElem?_set_ne htj] at hx
     have:=h1 t x (by omega) (by omega) hx
     split <;> omega
   ·split
    ·exact⟨j,by omega,by omega,List.getElem?_set_self (by omega)⟩
    ·exact⟨i,h2,by omega,by rw[List.getElem?_set_ne (by omega)];exact h4⟩
theorem NC.done {l:List AB} {O:List Int} {most:Int} (ht:CU l) (h:NC l O l.length most):most=(CX l (l.length+1) 0).1:=by
 have hp:=ht.pos
 have hx:l[0]?=some l[0]:=List.getElem?_eq_getElem hp
 have hO:cV l O:=⟨fun x hx=>h.top hp x hx,fun p k i x y o hk hx hy ho=>h.kid p k i x y o (List.getElem?_eq_some_iff.1 hy).1 hk hx hy ho⟩
 have h1:=(qY hO (l.length+1) 0 l.length _ _ ht (by omega) hx (hO.top _ hx)).1
 rw[Int.sub_self,Int.zero_add] at h1
 rcases h.max with⟨h0,_⟩ | ⟨_,h2⟩
 ·omega
 ·exact h2.unique h1
section
variable {call:AK} {N:Nat}
theorem Ba {id n c:Nat} {i:Int} (h0:0≤i) (hi:i<n):CY Tryd.prog 28 (qS id n c) (iv i)=some (qP id i.toNat):=by
 obtain⟨k,rfl⟩:∃ k:Nat,i=(k:Int):=⟨i.toNat,by omega⟩
 exact GJ (by omega)
def inB:Code→Code
 | .block _ c=>c
 | c=>c
noncomputable def lO:Code:=U1 Tryd.f85 1
noncomputable def SD:Code:=rt (rt (inB lO))
theorem YV {l:List AB} {v:Value} {a:Nat} {v3 v4:Value} {y:AB} {T:Tr} {H:AA} {j:Nat} {O:List Int} {most n:Int} {K:BS} (t0:T.get 0=v) (t3:T.get 3=v3) (t4:T.get 4=v4) (t5:T.get 5=qS a l.length l.length) (t6:T.get 6=iv most) (t7:T.get 7=iv j) (t8:T.get 8=iv n)
  (hn:0≤n∧n<4611686018427387904) (hv:AL H v l) (hy:l[j]?=some y) (gO:H.get a=.row (ints O) 3 false false) (hO:O.length=l.length) (ha:a<H.next) (hf:H.floor≤a)
  (hK:∀ T':Tr,T'.get 0=v→T'.get 3=v3→T'.get 4=v4→T'.get 5=qS a l.length l.length→T'.get 6=iv (if n+DZ y.kind>most then n+DZ y.kind else most)→T'.get 7=iv j→K.ap Tryd.prog call N .normal ⟨T',H.put a (.row (ints (O.set j (n+DZ y.kind))) 3 false false)⟩) :
  WK Tryd.prog call N SD ⟨T,H⟩ K:=by
 show WK _ _ _ (.seq (.seq _ nF) (rt SD)) _ _
 have hlt:j<l.length:=(List.getElem?_eq_some_iff.1 hy).1
 obtain⟨id,q,e0,hid,l0,l1,l2,l3,l4,lr⟩:=hv.row hy
 simp only[QD,seval,↓eP,rP,t0,t7,e0,l0]
 refine Jg (κ:=y.kind) (n:=n) ?_ ?_ hn fun T' hT h8=>?_
 ·simp only[eE,seval,↓eP,rP]
 ·simp only[eE,seval,↓eP,rP,t8]
 have q0:=hT 0 (by decide)
 have q3:=hT 3 (by decide)
 have q4:=hT 4 (by decide)
 have q5:=hT 5 (by decide)
 have q6:=hT 6 (by decide)
 have q7:=hT 7 (by decide)
 simp only[eE,seval,↓eP,rP,t0,t3,t4,t5,t6,t7] at q0 q3 q4 q5 q6 q7
 have st:=PP (x:=n+DZ y.kind) gO (show j<O.length by omega) hf
 show WK _ _ _ (rt SD) _ _
 cases d:decide (n+DZ y.kind>most) with
 | true=>
  rw[if_pos (by simpa using d)] at hK
  show WK _ _ _ (.seq _ _) _ _
  simp only[eE,seval,↓eP,DH,EH,JF,DC,DN,q5,q6,q7,h8,GJ hlt,st,d]
  refine hK _ ?_ ?_ ?_ ?_ ?_ ?_ <;> simp only[eE,seval,↓eP,rP,q0,q3,q4,q5,q7]
 | false=>
  rw[if_neg (by simpa using d)] at hK
  show WK _ _ _ (.seq _ _) _ _
  simp only[eE,seval,↓eP,DH,EH,JF,DC,DN,q5,q6,q7,h8,GJ hlt,st,d]
  refine hK _ ?_ ?_ ?_ ?_ ?_ ?_ <;> simp only[eE,seval,↓eP,rP,q0,q3,q4,q5,q6,q7]
theorem Ff {l:List AB} {v:Value} {h:AA} (ht:CU l) (hv:AL h v l) (hlen:l.length<30000000000000) (hn:l.length+3<N) (hfl:h.floor≤h.next)
  (hP:∃ h',call 103 [v] h=some (.tuple #[qS h.next l.length l.length,qS (h.next+1) l.length l.length],h') ∧
   (∃ U W,bW l U W∧h'.get h.next=.row (ints U) 3 false false∧h'.get (h.next+1)=.row (ints W) 3 false false∧h'.next=h.next+3∧h'.floor=h.floor∧∀ i,i<h.next→h'.get i=h.get i))
  (hL:∀ P K (k:Nat) h,1≤P∧P≤54→1≤K∧K≤54→call 104 [iv P,iv k,iv K] h=some (.bool (K6 (CB P) (CB K) k),h)) :
  ∃ h',AW Tryd.prog call N 85 [v] h=some (iv (CX l (l.length+1) 0).1,h')∧∀ i,i<h.next→h'.get i=h.get i:=by
 refine E0 (R:=fun h'=>∀ i,i<h.next→h'.get i=h.get i) Tryd.func85 rfl (by simp[Tryd.f85]) ?_
 have hr:Tryd.f85.results.toList=[.tmp 2]:=rfl
 have hl22:∀ h',B_ Tryd.prog h' 22 v=some (.int .i64 l.length):=fun h'=>hv.len
 have hpos:=ht.pos
 obtain⟨h1,hP,U,W,hUW,gU,gW,hnx,hf1,hold⟩:=hP
 simp only[eE,seval,↓eP,rP,hr,hl22,SA hlen,hP]
 refine WK.loop (fun j s=>s.T.get 0=v∧s.T.get 3=qS h.next l.length l.length∧s.T.get 4=qS (h.next+1) l.length l.length∧s.T.get 5=qS h1.next l.length l.length∧s.T.get 7=iv j∧s.h.next=h1.next+1∧s.h.floor=h.floor∧(∀ i,i<h.next→s.h.get i=h.get i) ∧
  s.h.get h.next=.row (ints U) 3 false false∧s.h.get (h.next+1)=.row (ints W) 3 false false∧∃ O most,s.T.get 6=iv most∧s.h.get h1.next=.row (ints O) 3 false false∧NC l O j most) l.length (by omega) ?_ ?_
 ·simp only[eE,↓reduceIte,Nat.reduceEqDiff,reduceCtorEq,↓eP,rP,Nat.reduceAdd,Nat.reduceLT]
  refine⟨rfl,hf1,fun i hi=>?_,?_,?_,List.replicate l.length 0,rfl,⟨by simp,(fun h=>by omega),(fun p k i x y o h=>by omega),(fun i o h=>by omega),.inl ⟨rfl,rfl⟩⟩⟩
  ·rw[if_neg (by omega)];exact hold i hi
  ·rw[if_neg (by omega)];exact gU
  ·rw[if_neg (by omega)];exact gW
 ·rintro j ⟨T1,H⟩ hj ⟨t0,t3,t4,t5,t7,hnx1,hf2,hold1,gU1,gW1,O,most,t6,gO,hO⟩
  simp only at t0 t3 t4 t5 t6 t7 hnx1 hf2 hold1 gU1 gW1 gO
  have hmost:=hO.most
  by_cases hlt:j<l.length
  ·have c1:decide ((j:Int)<(l.length:Int))=true:=by simp only[decide_eq_true_eq];omega
   have w1:=CK j (by omega)
   have hv1:AL H v l:=hv.mono (by omega) hold1
   obtain⟨y,hy⟩:∃ y,l[j]?=some y:=⟨_,List.getElem?_eq_getElem hlt⟩
   obtain⟨id,q,e0,hid,l0,l1,l2,l3,l4,lr⟩:=hv1.row hy
   have hky:1≤y.kind∧y.kind≤54:=(ht.end hlt).kids.elim fun z hz=>by rw[hy] at hz;cases hz.1;exact hz.2.2.1
   have hoy:=SC y.kind
   simp only[QD,seval,↓eP,rP,t0,t7,hl22,c1]
   show WK _ _ _ lO _ _
   have fin:∀ (n:Int),0≤n∧n<4611686018427387904→(j=0∧(∀ x,l[0]?=some x→n+DZ y.kind=DZ x.kind)∨∃ p k x y' o,GY l p k j∧l[p]?=some x∧l[j]?=some y'∧O[p]?=some o∧n+DZ y.kind=o+GD (CB x.kind) (CB y'.kind) k+DZ y'.kind) →
     NC l (O.set j (n+DZ y.kind)) (j+1) (if n+DZ y.kind>most then n+DZ y.kind else most):=fun n h1 h2=>hO.step ht hlt h2
   have ha:h1.next<H.next:=by omega
   have hfa:H.floor≤h1.next:=by omega
   have po:=fun (X:BB)=>CE (h:=H) (i:=h1.next) (o:=X) rfl ha
   have pn:=fun (X:BB) (i:Nat) (hi:i≠h1.next)=>AQ (h:=H) (i:=h1.next) (j:=i) (o:=X) ha (Ne.symm hi)
   rcases Nat.eq_zero_or_pos j with h0 | h0
   ·subst h0
    have hU0:=hUW.top
    have cm:decide ((-1:Int)≥0)=false:=rfl
    have o0:=fin 0 (by omega) (.inl ⟨rfl,fun x hx=>by rw[hy] at hx;cases hx;omega⟩)
    have i0:CY Tryd.prog 28 (qS h.next l.length l.length) (iv ((0:Nat):Int))=some (qP h.next 0):=GJ (i:=0) hpos
    show WK _ _ _ (.block 1 (.seq _ (.seq _ SD))) _ _
    simp only[eE,↓reduceIte,Nat.reduceEqDiff,reduceCtorEq,↓eP,rP,Nat.reduceAdd,Nat.reduceLT,t3,t7,i0,gU1,JV hU0,cm]
    refine YV (y:=y) (O:=O) (most:=most) (n:=0) (j:=0) (a:=h1.next) ?_ rfl rfl ?_ ?_ ?_ ?_ (by omega) hv1 hy gO hO.len ha hfa fun T' u0 u3 u4 u5 u6 u7=>?_
    ·simp only[eE,seval,↓eP,rP,t0]
    ·simp only[eE,seval,↓eP,rP,t5]
    ·simp only[eE,seval,↓eP,rP,t6]
    ·simp only[eE,seval,↓eP,rP,t7]
    ·simp only[eE,seval,↓eP,rP]
    simp only[eE,seval,↓eP,rP,t3,t4] at u3 u4
    simp only[eE,↓reduceIte,Nat.reduceEqDiff,reduceCtorEq,↓eP,DH,EH,JF,DC,DN,Nat.reduceAdd,Nat.reduceLT,u0,u3,u4,u5,u6,u7,w1]
    exact⟨hlt,hnx1,hf2,fun i hi=>by rw[pn _ _ (by omega)];exact hold1 i hi,by rw[pn _ _ (by omega)];exact gU1,by rw[pn _ _ (by omega)];exact gW1,_,po _,o0⟩
   ·obtain⟨p,k,hk⟩:=ht.parent h0 hlt
    obtain⟨hUj,hWj⟩:=hUW.kid p k j hk
    have hpj:=hk.lt
    obtain⟨x,hx,hkx,hch⟩:=hk
    have hk:GY l p k j:=⟨x,hx,hkx,hch⟩
    obtain⟨o,ho⟩:∃ o,O[p]?=some o:=⟨_,List.getElem?_eq_getElem (by rw[hO.len];omega)⟩
    have hole:=hO.le p o hpj ho
    have hkx1:1≤x.kind∧x.kind≤54:=(ht.end (show p<l.length by omega)).kids.elim fun z hz=>by rw[hx] at hz;cases hz.1;exact hz.2.2.1
    obtain⟨id2,q2,f0,hid2,m0,m1,m2,m3,m4,mr⟩:=hv1.row hx
    have cm:decide ((p:Int)≥0)=true:=by simp
    have hl:=fun hh=>hL x.kind y.kind k hh hkx1 hky
    have hpl:p<l.length:=by omega
    show WK _ _ _ (.block 1 (.seq _ (.seq _ SD))) _ _
    simp only[eE,seval,↓eP,rP,t3,t5,t7,GJ hlt,GJ hpl,gU1,gO,JV hUj,JV ho,cm]
    refine WK.quiet (by kernel_rfl) ?_
    cases hlo:K6 (CB x.kind) (CB y.kind) k with
    | false=>
     have hI:GD (CB x.kind) (CB y.kind) k=0:=by unfold GD;rw[hlo];rfl
     have o0:=fin o (by omega) (.inr ⟨p,k,x,y,o,hk,hx,hy,ho,by rw[hI];omega⟩)
     simp only[eE,seval,↓eP,rP,t0,t3,t4,t7,GJ hlt,gU1,gW1,JV hUj,JV hWj,e0,f0,l0,m0,hl,hlo]
     refine YV (y:=y) (O:=O) (most:=most) (n:=o) (j:=j) (a:=h1.next) ?_ rfl rfl ?_ ?_ ?_ ?_ (by omega) hv1 hy gO hO.len ha hfa fun T' u0 u3 u4 u5 u6 u7=>?_
     ·simp only[eE,seval,↓eP,rP,t0]
     ·simp only[eE,seval,↓eP,rP,t5]
     ·simp only[eE,seval,↓eP,rP,t6]
     ·simp only[eE,seval,↓eP,rP,t7]
     ·simp only[eE,seval,↓eP,rP]
     simp only[eE,seval,↓eP,rP,t3,t4] at u3 u4
     simp only[eE,↓reduceIte,Nat.reduceEqDiff,reduceCtorEq,↓eP,DH,EH,JF,DC,DN,Nat.reduceAdd,Nat.reduceLT,u0,u3,u4,u5,u6,u7,w1]
     exact⟨hlt,hnx1,hf2,fun i hi=>by rw[pn _ _ (by omega)];exact hold1 i hi,by rw[pn _ _ (by omega)];exact gU1,by rw[pn _ _ (by omega)];exact gW1,_,po _,o0⟩
    | true=>
     have hI:GD (CB x.kind) (CB y.kind) k=1:=by unfold GD;rw[hlo];rfl
     have o0:=fin (o+1) (by omega) (.inr ⟨p,k,x,y,o,hk,hx,hy,ho,by rw[hI]⟩)
     have w2:IntKind.i64.wrap (o+1)=o+1:=CG (by omega) (by omega)
     simp only[eE,seval,↓eP,rP,t0,t3,t4,t7,GJ hlt,gU1,gW1,JV hUj,JV hWj,e0,f0,l0,m0,hl,hlo,w2]
     refine YV (y:=y) (O:=O) (most:=most) (n:=o+1) (j:=j) (a:=h1.next) ?_ rfl rfl ?_ ?_ ?_ ?_ (by omega) hv1 hy gO hO.len ha hfa fun T' u0 u3 u4 u5 u6 u7=>?_
     ·simp only[eE,seval,↓eP,rP,t0]
     ·simp only[eE,seval,↓eP,rP,t5]
     ·simp only[eE,seval,↓eP,rP,t6]
     ·simp only[eE,seval,↓eP,rP,t7]
     ·simp only[eE,seval,↓eP,rP]
     simp only[eE,seval,↓eP,rP,t3,t4] at u3 u4
     simp only[eE,↓reduceIte,Nat.reduceEqDiff,reduceCtorEq,↓eP,DH,EH,JF,DC,DN,Nat.reduceAdd,Nat.reduceLT,u0,u3,u4,u5,u6,u7,w1]
     exact⟨hlt,hnx1,hf2,fun i hi=>by rw[pn _ _ (by omega)];exact hold1 i hi,by rw[pn _ _ (by omega)];exact gU1,by rw[pn _ _ (by omega)];exact gW1,_,po _,o0⟩
  ·have c1:decide ((j:Int)<(l.length:Int))=false:=by simp only[decide_eq_false_iff_not];omega
   have:j=l.length:=by omega
   subst this
   have e:=hO.done ht
   subst e
   simp only[eE,seval,↓eP,rP,t0,t6,t7,hl22,c1]
   exact hold1
end
section
variable {call:AK} {N:Nat} {h:AA} {lo m e r n:Nat} {nm:ByteArray} {E:List Int} {s:AN}
theorem YI {H:AA} {x:AB} (hf:H.floor≤H.next):BW Tryd.prog (H.push (.row CP 46 false false)) 46 (qP H.next 0) (.agg #[.int .i64 x.kind,.string x.name,.int .i64 x.ends,.int .i64 x.n,.int .i64 x.kids])=some ((H.push (.row CP 46 false false)).put H.next (.row (AP x) 46 false false)):=by
 have hone:([.int .i64 x.kind,.string x.name,.int .i64 x.ends,.int .i64 x.n,.int .i64 x.kids]:List Value).all one=true:=rfl
 rw[DC,BL,PU,if_pos ⟨hf,hone⟩]
 rfl
theorem eO:flat (.agg #[.int .i64 0,.string ByteArray.empty,.int .i64 0,.int .i64 0,.int .i64 0])=true:=rfl
theorem j9:(Value.agg #[.int .i64 0,.string ByteArray.empty,.int .i64 0,.int .i64 0,.int .i64 0]).cells.toList=CP:=rfl
theorem mS {l:List FF} {x:ByteArray} (h:EM l x=none):JM l x 0=-1:=by have:=Y_ l x 0;rw[h] at this;exact this
theorem eY {l:List FF} {x:ByteArray} {t:FF} (h:EM l x=some t):∃ k:Nat,JM l x 0=(k:Int)∧l[k]?=some t:=by
 have:=Y_ l x 0
 rw[h] at this
 obtain⟨k,h1,h2⟩:=this
 exact⟨k,by rw[h1];congr 1;omega,h2⟩
theorem Ha {at_:Nat} {end_:Int} {x:AB} (hp:E2 h lo m e r n nm E s) (hx:s.rows[at_]?=some x) (hd:BJ x.kind≠0) (hn:at_<30000000000000) (hE:E[at_]?=some end_) (he:0≤end_) (hth:s.things.length<100000) (hN:100004<N)
  (hfind:∀ (y:ByteArray) H tag V C,B7 H lo m e r n nm E tag V C s→call 86 [qP m 0,.string y] H=some (iv (JM s.things y 0),H))
  (h87:∀ k h',call 87 [iv k] h'=some (iv (GA k),h')) :
  ∃ h',AW Tryd.prog call N 57 [qP m 0,iv at_,iv (BJ x.kind)] h=some (iv (C1 x s),h')∧(E6 h h' lo∧(C1 x s=0→E2 h' lo m e r n nm E (BD at_ end_ x s))):=by
 obtain⟨tag,V,hp,hw⟩:=hp
 refine E0 (R:=fun h'=>E6 h h' lo∧(C1 x s=0→E2 h' lo m e r n nm E (BD at_ end_ x s))) Tryd.func57 rfl (by simp[Tryd.f57]) ?_
 have hr:Tryd.f57.results.toList=[.tmp 6]:=rfl
 generalize hKK:BS.top (fun ex s_1=>(ex=DB.normal∨ex=DB.ret)∧∃ vs,EV Tryd.prog s_1 Tryd.f57.results.toList=some vs∧F7 vs=iv (C1 x s)∧E6 h s_1.h lo∧(C1 x s=0→E2 s_1.h lo m e r n nm E (BD at_ end_ x s)))=K
 have fin:∀ (T':Tr) H v,T'.get 6=iv v→v=C1 x s→E6 h H lo→(v=0→E2 H lo m e r n nm E (BD at_ end_ x s))→K.ap Tryd.prog call N .ret ⟨T',H⟩:=fun T' H v h6 hv ha hb=>by
  subst hv
  rw[← hKK]
  simp only[eE,↓reduceIte,Nat.reduceEqDiff,reduceCtorEq,↓eP,rP,Nat.reduceAdd,Nat.reduceLT,hr,h6]
  exact⟨ha,hb⟩
 show WK _ _ _ (.seq _ (.seq _ (.seq _ Q4))) _ _
 have hm1:=hp.c1
 obtain⟨hlt,l0,l1,l3,lr⟩:=hp.row hx
 have hdl:=PS x.kind
 have hlo:lo≤h.next∧h.floor≤h.next:=by have:=hp.lm;have:=hp.fl;omega
 have hrc:=YI (x:=x) hlo.2
 simp only[eE,↓reduceIte,Nat.reduceEqDiff,reduceCtorEq,↓eP,DH,Nat.reduceAdd,Nat.reduceLT,eO,j9,GV,DA,C0,hm1,HB hlt,lr,hrc]
 have hb:((h.push (.row CP 46 false false)).put h.next (.row (AP x) 46 false false)).get h.next=.row (AP x) 46 false false:=CE rfl (by show h.next<h.next+1;omega)
 have hp1:=((hp.retag (tag':=fun i=>if i=h.next then 11 else tag i) (fun i hi=>if_neg (by omega))).putNew (o:=.row (AP x) 46 false false) (o':=.row CP 46 false false))
 have ho:∀ i,i<h.next→((h.push (.row CP 46 false false)).put h.next (.row (AP x) 46 false false)).get i=h.get i:=fun i hi=>by rw[AQ (by show h.next<h.next+1;omega) (by omega),AM hi]
 have hn1:((h.push (.row CP 46 false false)).put h.next (.row (AP x) 46 false false)).next=h.next+1:=rfl
 have hf1:((h.push (.row CP 46 false false)).put h.next (.row (AP x) 46 false false)).floor=h.floor:=rfl
 generalize (h.push (.row CP 46 false false)).put h.next (.row (AP x) 46 false false)=H1 at *
 have hfc:=hfind x.name H1 _ V _ hp1
 have lb1:AO 1 (H1.get h.next)=some (.string x.name):=by rw[hb];rfl
 have aft1:E6 h H1 lo:=⟨fun i hi=>ho i (by omega),by omega,hf1⟩
 cases hf:EM s.things x.name with
 | some t=>
  obtain⟨k,hk,_⟩:=eY hf
  have c1:decide ((k:Int)≥0)=true:=by simp
  rw[hk] at hfc
  simp only[eE,seval,↓eP,rP,lb1,hfc,c1]
  exact fin _ _ 31 (by simp only[Tr.get_put,if_true]) (by unfold C1;rw[if_neg hd,if_pos (by rw[hf];rfl)]) aft1 fun h=>by cases h
 | none=>
  have hE1:¬ (EM s.things x.name).isSome=true:=by rw[hf];simp
  rw[mS hf] at hfc
  have c1:decide ((-1:Int)≥0)=false:=rfl
  simp only[eE,seval,↓eP,rP,lb1,hfc]
  have cle:=Z_ hw (BJ x.kind)
  refine sI (b:=h.next) (end_:=end_) hp1 hx (by omega) hdl.2 hw hth hE (fun h'=>h87 _ h') ?_ ?_ ?_ ?_ hb (by omega) (if_pos rfl) (fun T' hc h6=>?_) fun T2 H2 tag2 V2 hc hT2 hp2 htg2 ho2 hn2 hf2=>?_
  ·simp only[eE,seval,↓eP,rP]
  ·simp only[eE,seval,↓eP,rP]
  ·simp only[eE,seval,↓eP,rP]
  ·simp only[eE,seval,↓eP,rP]
  ·exact fin _ _ 3 h6 (by unfold C1;rw[if_neg hd,if_neg hE1,if_pos hc]) aft1 fun h=>by cases h
  ·have hq:=hw.q;have hv:=hw.v;have ht:=hw.t;have hu:=hw.u;have ho':=hw.o
   have g0:=hT2 0 (by decide) (by decide) (by decide)
   have g1:=hT2 1 (by decide) (by decide) (by decide)
   have g2:=hT2 2 (by decide) (by decide) (by decide)
   have g7:=hT2 7 (by decide) (by decide) (by decide)
   simp only[eE,seval,↓eP,rP] at g0 g1 g2 g7
   refine Fa (b:=h.next) (x:=x) (kd:=BJ x.kind) hp2 (by omega) hdl.2 hn ⟨by show s.queues.length<1000;omega,by show s.vars.length<1000;omega,by show s.tags.length<1000;omega,by show s.rules.length<1000;omega,by show s.on.length<1000;omega⟩ g0 g1 g2 g7
    (by rw[ho2 h.next (by omega) (.inr (if_pos rfl))];exact hb) (by omega) ((htg2 _ (by omega)).trans (if_pos rfl)) fun T3 H3 tag3 V3 h6 hp3 ho3 hn3 hf3=>?_
   have hS:BD at_ end_ x s=DJ at_ end_ x s:=by unfold BD;rw[if_neg hd]
   refine fin _ _ 0 h6 (by unfold C1;rw[if_neg hd,if_neg hE1,if_neg hc]) ⟨fun i hi=>by rw[ho3 i (by omega) hi,ho2 i (by omega) (.inl hi),ho i (by omega)],by omega,by omega⟩ fun _=>?_
   rw[hS]
   refine⟨tag3,V3,?_,YJ hw hd hc he⟩
   rw[Hx (at_:=at_) (x:=x) (by omega) hdl.2] at hp3
   exact hp3
theorem Ef {at_:Nat} {x:AB} (hp:E2 h lo m e r n nm E s) (hx:s.rows[at_]?=some x) (hd:C8 x.kind≠0) (hn:at_<30000000000000)
  (hfind:∀ (y:ByteArray) H tag V C,B7 H lo m e r n nm E tag V C s→call 86 [qP m 0,.string y] H=some (iv (JM s.things y 0),H)) :
  ∃ h',AW Tryd.prog call N 58 [qP m 0,iv at_,iv (C8 x.kind)] h=some (iv (CA at_ x s),h')∧(E6 h h' lo∧(CA at_ x s=0→E2 h' lo m e r n nm E (BM at_ x s))):=by
 obtain⟨tag,V,hp,hw⟩:=hp
 refine E0 (R:=fun h'=>E6 h h' lo∧(CA at_ x s=0→E2 h' lo m e r n nm E (BM at_ x s))) Tryd.func58 rfl (by simp[Tryd.f58]) ?_
 have hr:Tryd.f58.results.toList=[.tmp 6]:=rfl
 generalize hKK:BS.top (fun ex s_1=>(ex=DB.normal∨ex=DB.ret)∧∃ vs,EV Tryd.prog s_1 Tryd.f58.results.toList=some vs∧F7 vs=iv (CA at_ x s)∧E6 h s_1.h lo∧(CA at_ x s=0→E2 s_1.h lo m e r n nm E (BM at_ x s)))=K
 have fin:∀ (T':Tr) H v,T'.get 6=iv v→v=CA at_ x s→E6 h H lo→(v=0→E2 H lo m e r n nm E (BM at_ x s))→K.ap Tryd.prog call N .ret ⟨T',H⟩:=fun T' H v h6 hv ha hb=>by
  subst hv
  rw[← hKK]
  simp only[eE,↓reduceIte,Nat.reduceEqDiff,reduceCtorEq,↓eP,rP,Nat.reduceAdd,Nat.reduceLT,hr,h6]
  exact⟨ha,hb⟩
 have c1:=hp.c1
 have c9:=hp.c9
 obtain⟨hlt,l0,l1,l3,lr⟩:=hp.row hx
 have hfc:=hfind x.name h tag V _ hp
 have aft0:E6 h h lo:=⟨fun _ _=>rfl,Nat.le_refl _,rfl⟩
 show WK _ _ _ (.seq _ _) _ _
 cases hf:EM s.things x.name with
 | none=>
  rw[mS hf] at hfc
  have d1:decide ((-1:Int)<0)=true:=rfl
  simp only[eE,seval,↓eP,rP,GV,DA,C0,c1,HB hlt,l1,hfc]
  exact fin _ _ 32 (by simp only[Tr.get_put,if_true]) (by unfold CA;rw[if_neg hd,hf]) aft0 fun h=>by cases h
 | some t=>
  obtain⟨k,hk,hkt⟩:=eY hf
  have hkl:=(List.getElem?_eq_some_iff.1 hkt).1
  rw[hk] at hfc
  have d1:decide ((k:Int)<0)=false:=by simp
  rcases hp.sl 8 (by decide) (by decide) with⟨h1,_⟩ | ⟨id,ex,hv8,hg,_,_,_⟩
  ·have:s.things.length=0:=h1
   omega
  ·have hg':h.get id=.row (K7 s.things++ex) 121 true false:=hg
   have hv8':V 8=qS id s.things.length AG:=hv8
   have l1':AO (k*4+1) (h.get id)=some (iv t.kind):=by rw[hg'];exact SJ (j:=1) ex hkt (by decide)
   have l2':AO (k*4+2) (h.get id)=some (iv t.num):=by rw[hg'];exact SJ (j:=2) ex hkt (by decide)
   have l3':AO (k*4+3) (h.get id)=some (iv t.known):=by rw[hg'];exact SJ (j:=3) ex hkt (by decide)
   cases d2:decide (t.known>(at_:Int)) with
   | true=>
    simp only[eE,seval,↓eP,rP,GV,OD,DA,C0,NQ,c1,c9,hv8',HB hlt,R4 hkl,cJ,l1,l3',hfc,d1,d2]
    exact fin _ _ 32 (by simp only[Tr.get_put,if_true]) (by unfold CA;rw[if_neg hd,hf];simp only;rw[if_pos (by simpa using d2)]) aft0 fun h=>by cases h
   | false=>
    cases d3:(t.kind != C8 x.kind) with
    | true=>
     simp only[eE,seval,↓eP,rP,GV,OD,DA,C0,NQ,c1,c9,hv8',HB hlt,R4 hkl,cJ,pD,l1,l3',l1',hfc,d1,d2,d3]
     exact fin _ _ 33 (by simp only[Tr.get_put,if_true]) (by unfold CA;rw[if_neg hd,hf];simp only;rw[if_neg (by simpa using d2),if_pos (by simpa using d3)]) aft0 fun h=>by cases h
    | false=>
     have hst:=G1 (off:=at_*5+3) CT (v:=iv t.num) rfl rfl hp.rows (by rw[H9];have:=hp.len;omega) (by have:=hp.fl;have:=hp.lr.1;omega)
     rw[RR hx] at hst
     have hp3:=hp.rowsW (l:=E9 s.rows at_ t.num) QX
     simp only[eE,seval,↓eP,rP,GV,OD,DA,C0,NQ,c1,c9,hv8',HB hlt,R4 hkl,cJ,pD,l1,l3',l1',hfc,d1,d2,d3]
     refine WK.quiet (by kernel_rfl) ?_
     simp only[eE,seval,↓eP,DH,EH,JF,DC,DN,GV,OD,DA,C0,NQ,c1,c9,hv8',HB hlt,R4 hkl,Jd,l2',hst]
     refine fin _ _ 0 (by simp only[Tr.get_put,if_true]) (by unfold CA;rw[if_neg hd,hf];simp only;rw[if_neg (by simpa using d2),if_neg (by simpa using d3)]) ⟨fun i hi=>AQ hp.lr.2 (by have:=hp.lr;omega),Nat.le_refl _,rfl⟩ fun _=>?_
     have hS:BM at_ x s={ s with rows:=E9 s.rows at_ t.num }:=by unfold BM;rw[if_neg hd,hf]
     rw[hS]
     exact⟨tag,V,hp3,⟨hw.q,hw.v,hw.t,hw.u,hw.o,hw.th⟩⟩
theorem tM {at_:Nat} {x:AB} (hp:E2 h lo m e r n nm E s) (hx:s.rows[at_]?=some x) (hev:DU x.kind=true) (hn:at_<30000000000000) (hxn:x.kind≠10→0≤x.n∧x.n<s.on.length) :
  ∃ h',AW Tryd.prog call N 60 [qP m 0,iv at_] h=some (iv (CH x s),h')∧(E6 h h' lo∧(CH x s=0→E2 h' lo m e r n nm E (CQ at_ x s))):=by
 obtain⟨tag,V,hp,hw⟩:=hp
 refine E0 (R:=fun h'=>E6 h h' lo∧(CH x s=0→E2 h' lo m e r n nm E (CQ at_ x s))) Tryd.func60 rfl (by simp[Tryd.f60]) ?_
 have hr:Tryd.f60.results.toList=[.tmp 4]:=rfl
 generalize hKK:BS.top (fun ex s_1=>(ex=DB.normal∨ex=DB.ret)∧∃ vs,EV Tryd.prog s_1 Tryd.f60.results.toList=some vs∧F7 vs=iv (CH x s)∧E6 h s_1.h lo∧(CH x s=0→E2 s_1.h lo m e r n nm E (CQ at_ x s)))=K
 have fin:∀ (T':Tr) H v,T'.get 4=iv v→v=CH x s→E6 h H lo→(v=0→E2 H lo m e r n nm E (CQ at_ x s))→K.ap Tryd.prog call N .ret ⟨T',H⟩:=fun T' H v h6 hv ha hb=>by
  subst hv
  rw[← hKK]
  simp only[eE,↓reduceIte,Nat.reduceEqDiff,reduceCtorEq,↓eP,rP,Nat.reduceAdd,Nat.reduceLT,hr,h6]
  exact⟨ha,hb⟩
 have hm1:=hp.c1
 obtain⟨hlt,l0,l1,l3,lr⟩:=hp.row hx
 have hlo:lo≤h.next∧h.floor≤h.next:=by have:=hp.lm;have:=hp.fl;omega
 have hrc:=YI (x:=x) hlo.2
 have w1:IntKind.i64.wrap ((at_:Int)+1)=(at_:Int)+1:=CG (by omega) (by omega)
 show WK _ _ _ (.seq _ (.seq _ (.seq (.seq _ (.cond _ _ _)) _))) _ _
 simp only[eE,↓reduceIte,Nat.reduceEqDiff,reduceCtorEq,↓eP,DH,Nat.reduceAdd,Nat.reduceLT,eO,j9,GV,DA,C0,hm1,HB hlt,lr,hrc]
 have hb:((h.push (.row CP 46 false false)).put h.next (.row (AP x) 46 false false)).get h.next=.row (AP x) 46 false false:=CE rfl (by show h.next<h.next+1;omega)
 have hp1:=hp.putNew (o:=.row (AP x) 46 false false) (o':=.row CP 46 false false)
 have ho:∀ i,i<h.next→((h.push (.row CP 46 false false)).put h.next (.row (AP x) 46 false false)).get i=h.get i:=fun i hi=>by rw[AQ (by show h.next<h.next+1;omega) (by omega),AM hi]
 have hn1:((h.push (.row CP 46 false false)).put h.next (.row (AP x) 46 false false)).next=h.next+1:=rfl
 have hf1:((h.push (.row CP 46 false false)).put h.next (.row (AP x) 46 false false)).floor=h.floor:=rfl
 generalize (h.push (.row CP 46 false false)).put h.next (.row (AP x) 46 false false)=H1 at *
 have lb0:AO 0 (H1.get h.next)=some (iv x.kind):=by rw[hb];rfl
 have lb3:AO 3 (H1.get h.next)=some (iv x.n):=by rw[hb];rfl
 have aft1:E6 h H1 lo:=⟨fun i hi=>ho i (by omega),by omega,hf1⟩
 have hev':¬ DU x.kind=false:=by rw[hev];simp
 have c7:=hp1.c7
 have c6:=hp1.c6
 by_cases h10:x.kind=10
 ·have d0:(x.kind==10)=true:=by simpa using h10
  cases d1:decide (s.miss≥0) with
  | true=>
   simp only[eE,seval,↓eP,rP,GV,HK,lb0,d0,c7,d1]
   exact fin _ _ 31 (by simp only[Tr.get_put,if_true]) (by unfold CH;rw[if_neg hev',if_pos h10,if_pos (by simpa using d1)]) aft1 fun h=>by cases h
  | false=>
   have sM:=hp1.stM (x:=(at_:Int)+1)
   simp only[eE,seval,↓eP,DH,EH,JF,DC,DN,GV,HK,lb0,d0,c7,d1,w1,sM]
   refine fin _ _ 0 (by simp only[Tr.get_put,if_true]) (by unfold CH;rw[if_neg hev',if_pos h10,if_neg (by simpa using d1)]) ⟨fun i hi=>?_,by show h.next≤H1.next;omega,hf1⟩ fun _=>?_
   ·rw[AQ hp1.lm.2 (by have:=hp1.lm;omega)];exact ho i (by omega)
   ·have hS:CQ at_ x s={ s with miss:=(at_:Int)+1 }:=by unfold CQ;rw[if_neg hev',if_pos h10]
    rw[hS]
    exact⟨tag,V,hp1.cellW (C':=H_ s) (miss':=(at_:Int)+1),⟨hw.q,hw.v,hw.t,hw.u,hw.o,hw.th⟩⟩
 ·have d0:(x.kind==10)=false:=by simpa using h10
  obtain⟨hx0,hx1⟩:=hxn h10
  obtain⟨v,hv⟩:∃ v,s.on[x.n.toNat]?=some v:=⟨_,List.getElem?_eq_getElem (by omega)⟩
  rcases hp1.sl 6 (by decide) (by decide) with⟨h1,_⟩ | ⟨id,ex,hv6,hg,hl1,hl2,htg⟩
  ·have:s.on.length=0:=h1
   omega
  ·have hg':H1.get id=.row (ints s.on++ex) 3 true false:=hg
   have hv6':V 6=qS id s.on.length AG:=hv6
   have hon:=eJ (l:=s.on) (ex:=ex) (ty:=3) (g:=true) (ro:=false) hv
   rw[← hg'] at hon
   have hix:CY Tryd.prog 28 (qS id s.on.length AG) (iv x.n)=some (qP id x.n.toNat):=Ba hx0 hx1
   cases d1:decide (v≥0) with
   | true=>
    simp only[eE,seval,↓eP,rP,lb0,d0]
    refine WK.quiet (by kernel_rfl) ?_
    simp only[eE,seval,↓eP,rP,GV,FZ,C3,c6,hv6',lb3,hix,hon,d1]
    exact fin _ _ 31 (by simp only[Tr.get_put,if_true]) (by unfold CH;rw[if_neg hev',if_neg h10,hv];simp only;rw[if_pos (by simpa using d1)]) aft1 fun h=>by cases h
   | false=>
    have hlen:=FH s.on
    have hst:=G1 (off:=x.n.toNat) CT (v:=iv ((at_:Int)+1)) rfl rfl hg' (by rw[List.length_append,hlen];omega) (by have:=hp1.fl;omega)
    rw[List.set_append_left _ _ (by omega),TH] at hst
    have hpW:=hp1.slotW (j:=6) (s':={ s with on:=s.on.set x.n.toNat ((at_:Int)+1) }) (by decide) (by decide) (ex:=ex) hv6 htg ⟨hl1,hl2⟩ rfl rfl (by simp[ED]) (fun i hi=>by
     unfold ED EP
     split <;> simp_all)
    simp only[eE,seval,↓eP,rP,lb0,d0]
    refine WK.quiet (by kernel_rfl) ?_
    simp only[eE,seval,↓eP,rP,GV,FZ,C3,c6,hv6',lb3,hix,hon,d1]
    refine WK.quiet (by kernel_rfl) ?_
    simp only[eE,seval,↓eP,DH,EH,JF,DC,DN,GV,FZ,C3,c6,hv6',lb3,hix,w1,hst]
    refine fin _ _ 0 (by simp only[Tr.get_put,if_true]) (by unfold CH;rw[if_neg hev',if_neg h10,hv];simp only;rw[if_neg (by simpa using d1)]) ⟨fun i hi=>?_,by show h.next≤H1.next;omega,hf1⟩ fun _=>?_
    ·rw[AQ hl2 (by omega)];exact ho i (by have:=hp.lm;omega)
    ·have hS:CQ at_ x s={ s with on:=s.on.set x.n.toNat ((at_:Int)+1) }:=by unfold CQ;rw[if_neg hev',if_neg h10]
     rw[hS]
     exact⟨tag,V,hpW,⟨hw.q,hw.v,hw.t,hw.u,by simp only[List.length_set];exact hw.o,hw.th⟩⟩
end
def AV (lo:Nat) (h:AA) (v:Value) (n w:Nat) (cs:List Value):Prop:=
 cs.length=n*w∧∃ a c,v=.slice a n c∧((n=0∧a=none)∨∃ id off row ty g ro,a=some ⟨id,off,none⟩∧h.get id=.row row ty g ro∧(lo≤id∧id<h.next)∧(row.drop off).take (n*w)=cs∧(0<lo→ro=false))
section
variable {lo:Nat} {h h':AA} {v:Value} {n w:Nat} {cs:List Value}
theorem AV.mono (hc:AV lo h v n w cs) (hn:h.next≤h'.next) (hg:∀ i,lo≤i→i<h.next→h'.get i=h.get i):AV lo h' v n w cs:=by
 obtain⟨hl,a,c,rfl,h1 | ⟨id,off,row,ty,g,ro,rfl,h1,h2,h3⟩⟩:=hc
 ·exact⟨hl,_,_,rfl,.inl h1⟩
 ·exact⟨hl,_,_,rfl,.inr ⟨id,off,row,ty,g,ro,rfl,by rw[hg id h2.1 h2.2];exact h1,by omega,h3⟩⟩
theorem AV.weak (hc:AV lo h v n w cs) {lo':Nat} (hl:lo'≤lo):AV lo' h v n w cs:=by
 obtain⟨hl',a,c,rfl,h1 | ⟨id,off,row,ty,g,ro,rfl,h1,h2,h3⟩⟩:=hc
 ·exact⟨hl',_,_,rfl,.inl h1⟩
 ·exact⟨hl',_,_,rfl,.inr ⟨id,off,row,ty,g,ro,rfl,h1,by omega,h3.1,fun h=>h3.2 (by omega)⟩⟩
theorem AV.len (hc:AV lo h v n w cs) {t e:TypeId} (ht:Tryd.prog.underlying t=some (.slice e)) {h':AA}:B_ Tryd.prog h' t v=some (iv (n:Int)):=by
 obtain⟨_,a,c,rfl,_⟩:=hc
 simp[B_,ht]
theorem AV.idx (hc:AV lo h v n w cs) {t e:TypeId} (ht:Tryd.prog.underlying t=some (.slice e)) (he:BP Tryd.prog e=some w) {i:Nat} (hi:i<n) :
  ∃ id p,CY Tryd.prog t v (iv (i:Int))=some (qP id p)∧id<h.next∧∀ j,j<w→AO (p+j) (h.get id)=cs[i*w+j]?:=by
 obtain⟨hl,a,c,rfl,⟨h0,_⟩ | ⟨id,off,row,ty,g,ro,rfl,h1,h2,h3⟩⟩:=hc
 ·omega
 ·refine⟨id,off+i*w,?_,h2.2,fun j hj=>?_⟩
  ·simp only[CY,ht,he,CI]
   rw[if_pos (by omega)]
   simp
  ·have hlt:i*w+j<n*w:=by
    have:(i+1)*w≤n*w:=Nat.mul_le_mul_right w hi
    rw[Nat.add_mul] at this
    omega
   rw[h1,← h3.1,List.getElem?_take_of_lt hlt,List.getElem?_drop]
   simp only[AO]
   congr 1
   omega
theorem AV.whole (hc:AV lo h v n w cs) {t e:TypeId} (ht:Tryd.prog.underlying t=some (.slice e)) (he:BP Tryd.prog e=some w) {i:Nat} (hi:i<n) :
  ∃ id p,CY Tryd.prog t v (iv (i:Int))=some (qP id p)∧id<h.next∧CD w p (h.get id)=some (.agg ((cs.drop (i*w)).take w).toArray):=by
 obtain⟨hl,a,c,rfl,⟨h0,_⟩ | ⟨id,off,row,ty,g,ro,rfl,h1,h2,h3⟩⟩:=hc
 ·omega
 ·have hle:i*w+w≤n*w:=by
   have:(i+1)*w≤n*w:=Nat.mul_le_mul_right w hi
   rw[Nat.add_mul] at this
   omega
  have e1:(cs.drop (i*w)).take w=(row.drop (off+i*w)).take w:=by
   rw[← h3.1,List.drop_take,List.drop_drop,List.take_take]
   congr 1
   omega
  have e2:((cs.drop (i*w)).take w).length=w:=by
   rw[List.length_take,List.length_drop,hl]
   omega
  refine⟨id,off+i*w,?_,h2.2,?_⟩
  ·simp only[CY,ht,he,CI]
   rw[if_pos (by omega)]
   simp
  ·rw[h1]
   simp only[CD,D1,← e1,e2,if_true]
theorem AV.src (hc:AV lo h v n w cs):CL h w n v=some cs:=by
 obtain⟨hl,a,c,rfl,⟨h0,rfl⟩ | ⟨id,off,row,ty,g,ro,rfl,h1,h2,h3⟩⟩:=hc
 ·subst h0
  rw[Nat.zero_mul] at hl
  rw[List.length_eq_zero_iff.1 hl]
  rfl
 ·by_cases h0:n=0
  ·subst h0
   rw[Nat.zero_mul] at hl
   rw[List.length_eq_zero_iff.1 hl]
   simp[CL]
  ·simp only[CL,h0,if_false,h1,D1,h3.1,hl,if_true]
theorem AV.nil (lo:Nat) (h:AA) (w:Nat):AV lo h (Z0) 0 w []:=⟨by simp,none,0,rfl,.inl ⟨rfl,rfl⟩⟩
theorem AV.rowR {r:Nat} {ty:TypeId} {g ro:Bool} {ex:List Value} {c:Nat} (hg:h.get r=.row (cs++ex) ty g ro) (hr:lo≤r∧r<h.next) (hl:cs.length=n*w) (hro:0<lo→ro=false):AV lo h (qS r n c) n w cs:=
 ⟨hl,_,_,rfl,.inr ⟨r,0,_,_,_,_,rfl,hg,hr,by rw[List.drop_zero,List.take_append_of_le_length (by omega),List.take_of_length_le (by omega)],hro⟩⟩
theorem AV.row {r:Nat} {ty:TypeId} {g:Bool} {ex:List Value} {c:Nat} (hg:h.get r=.row (cs++ex) ty g false) (hr:lo≤r∧r<h.next) (hl:cs.length=n*w):AV lo h (qS r n c) n w cs:=AV.rowR hg hr hl fun _=>rfl
theorem AV.one (hc:AV lo h v n w cs):one v=true:=by
 obtain⟨_,a,c,rfl,_⟩:=hc
 rfl
theorem DQ.cells {tag:Nat→Nat} {j:Nat} {ty:TypeId} (hs:DQ h lo tag j v n cs ty) (hl:cs.length=n*w):AV lo h v n w cs:=by
 rcases hs with⟨rfl,rfl,rfl⟩ | ⟨id,ex,rfl,h2,h3,h4,h5⟩
 ·exact AV.nil lo h w
 ·exact AV.row h2 ⟨h3,h4⟩ hl
end
def BY (lo:Nat) (h:AA) (v:Value) (l:List Int):Prop:=AV lo h v l.length 1 (ints l)
section
variable {lo:Nat} {h h':AA} {v:Value} {l:List Int}
theorem BY.mono (hc:BY lo h v l) (hn:h.next≤h'.next) (hg:∀ i,lo≤i→i<h.next→h'.get i=h.get i):BY lo h' v l:=AV.mono hc hn hg
theorem BY.weak (hc:BY lo h v l) {lo':Nat} (hl:lo'≤lo):BY lo' h v l:=AV.weak hc hl
theorem BY.len (hc:BY lo h v l) {h':AA}:B_ Tryd.prog h' 28 v=some (iv (l.length:Int)):=AV.len hc Tryd.underlying28
theorem BY.get (hc:BY lo h v l) {i:Nat} {x:Int} (hx:l[i]?=some x):∃ id p,CY Tryd.prog 28 v (iv (i:Int))=some (qP id p)∧id<h.next∧AO p (h.get id)=some (iv x):=by
 obtain⟨id,p,h1,h2,h3⟩:=AV.idx hc Tryd.underlying28 CT (List.getElem?_eq_some_iff.1 hx).1
 refine⟨id,p,h1,h2,?_⟩
 have:=h3 0 (by decide)
 rw[Nat.add_zero] at this
 rw[this,Nat.mul_one,Nat.add_zero,S4,hx]
 rfl
theorem BY.row {r:Nat} {ty:TypeId} {g:Bool} {ex:List Value} {c n:Nat} (hg:h.get r=.row (ints l++ex) ty g false) (hr:lo≤r∧r<h.next) (hn:n=l.length):BY lo h (qS r n c) l:=by
 subst hn
 exact AV.row hg hr (by rw[FH,Nat.mul_one])
theorem BY.row' {r:Nat} {ty:TypeId} {g:Bool} {c n:Nat} (hg:h.get r=.row (ints l) ty g false) (hr:lo≤r∧r<h.next) (hn:n=l.length):BY lo h (qS r n c) l:=BY.row (ex:=[]) (by rw[List.append_nil];exact hg) hr hn
end
def G4 (lo:Nat) (h:AA) (v:Value) (l:List AB):Prop:=AL h v l∧AV lo h v l.length 5 (l.flatMap AP)
theorem G4.of {lo:Nat} {h:AA} {v:Value} {l:List AB} (hc:AV lo h v l.length 5 (l.flatMap AP)):G4 lo h v l:=by
 refine⟨?_,hc⟩
 obtain⟨hl,a,c,rfl,⟨h0,rfl⟩ | ⟨id,off,row,ty,g,ro,rfl,h1,h2,h3⟩⟩:=hc
 ·exact⟨_,_,rfl,.inl ⟨List.length_eq_zero_iff.1 h0,rfl⟩⟩
 ·refine⟨_,_,rfl,.inr ⟨id,off,row,ty,g,ro,rfl,h1,h2.2,fun k r hk=>?_⟩⟩
  have hlt:=(List.getElem?_eq_some_iff.1 hk).1
  rw[← MT hk,← h3.1,List.drop_take,List.drop_drop,List.take_take]
  congr 1
  have:k*5+5≤l.length*5:=by omega
  omega
theorem G4.mono {lo:Nat} {h h':AA} {v:Value} {l:List AB} (hc:G4 lo h v l) (hn:h.next≤h'.next) (hg:∀ i,lo≤i→i<h.next→h'.get i=h.get i):G4 lo h' v l:=G4.of (hc.2.mono hn hg)
theorem AL.cells {h:AA} {v:Value} {l:List AB} (hv:AL h v l):G4 0 h v l:=by
 have hs:=H9 l
 refine G4.of ⟨hs,?_⟩
 obtain⟨a,c,rfl,⟨rfl,rfl⟩ | ⟨id,off,cs,ty,g,ro,rfl,hg,hid,hc⟩⟩:=hv
 ·exact⟨_,_,rfl,.inl ⟨rfl,rfl⟩⟩
 ·exact⟨_,_,rfl,.inr ⟨id,off,cs,ty,g,ro,rfl,hg,⟨Nat.zero_le _,hid⟩,Y2 l cs off hc,fun h=>absurd h (Nat.lt_irrefl 0)⟩⟩
def DT (lo:Nat) (h:AA) (pv:Value) (nm:ByteArray) (s:AN):Prop:=
 ∃ vr vq vv vt vu vo,pv=.agg #[.string nm,vr,vq,vv,vt,vu,vo,iv s.miss]∧G4 lo h vr s.rows∧AV lo h vq s.queues.length 2 (GP s.queues)∧AV lo h vv s.vars.length 1 (CZ s.vars)∧AV lo h vt s.tags.length 1 (CZ s.tags)∧BY lo h vu s.rules∧BY lo h vo s.on
theorem DT.mono {lo:Nat} {h h':AA} {pv:Value} {nm:ByteArray} {s:AN} (hp:DT lo h pv nm s) (hn:h.next≤h'.next) (hg:∀ i,lo≤i→i<h.next→h'.get i=h.get i):DT lo h' pv nm s:=by
 obtain⟨vr,vq,vv,vt,vu,vo,h1,h2,h3,h4,h5,h6,h7⟩:=hp
 exact⟨vr,vq,vv,vt,vu,vo,h1,h2.mono hn hg,h3.mono hn hg,h4.mono hn hg,h5.mono hn hg,h6.mono hn hg,h7.mono hn hg⟩
theorem AL.one {h:AA} {v:Value} {l:List AB} (hv:AL h v l):one v=true:=by
 obtain⟨a,c,rfl,_⟩:=hv
 rfl
theorem iV {a b c d e f g i:Value}:(Value.agg #[a,b,c,d,e,f,g,i]).cells.toList=[a,b,c,d,e,f,g,i]:=rfl
section
variable {call:AK} {N:Nat} {h:AA}
theorem Bl {a b:Int} (hb:0≤b∧b≤4611686018427387904) (ha:0≤a∧a≤4611686018427387904):AW Tryd.prog call N 62 [iv a,iv b] h=some (iv (EQ a b),h):=by
 refine DW Tryd.func62 rfl (by simp[Tryd.f62]) ?_
 have hr:Tryd.f62.results.toList=[.tmp 4]:=rfl
 have w1:IntKind.i64.wrap (4611686018427387904-b)=4611686018427387904-b:=CG (by omega) (by omega)
 unfold EQ
 cases d:decide (a>4611686018427387904-b) with
 | true=>
  rw[if_pos (by simpa using d)]
  simp only[eE,seval,↓eP,rP,hr,w1,d]
 | false=>
  have d':¬ a>4611686018427387904-b:=by simpa using d
  have w2:IntKind.i64.wrap (a+b)=a+b:=CG (by omega) (by omega)
  rw[if_neg d']
  simp only[eE,seval,↓eP,rP,hr,w1,d,w2]
theorem iZ {a b:Int} (h:AA) (hb:0≤b∧b≤4611686018427387904) (ha:0≤a∧a≤4611686018427387904):L1 62 [iv a,iv b] h=some (iv (EQ a b),h):=EG (F1 rfl rfl) rfl rfl rfl ⟨_,Bl hb ha⟩
theorem xA {vr v0 vq vv vt vu vo v7 ve vs:Value} {rows:List AB} {E S:List Int} {row q:Nat} (hone:one v0=true∧one vq=true∧one vv=true∧one vt=true∧one vu=true∧one vo=true∧one v7=true) (hv:AL h vr rows) {le ls:Nat} (he:BY le h ve E) (hS:BY ls h vs S) (hs:HV S) (hE:E[row]?=some (q:Int)) (hrq:row≤q) (hq:q≤rows.length) (hlen:rows.length<30000000000000) (hN:rows.length+3<N)
  (hcalls:∀ x∈(rows.drop row).take (q-row),x.kind=22→0≤x.n∧x.n<S.length) (h83:∀ a b h',0≤b∧b≤4611686018427387904→0≤a∧a≤4611686018427387904→call 62 [iv a,iv b] h'=some (iv (EQ a b),h')) :
  ∃ h',AW Tryd.prog call N 63 [.agg #[v0,vr,vq,vv,vt,vu,vo,v7],ve,vs,iv row] h=some (iv (FY S ((rows.drop row).take (q-row)) 0),h')∧∀ i,i<h.next→h'.get i=h.get i:=by
 refine E0 (R:=fun h'=>∀ i,i<h.next→h'.get i=h.get i) Tryd.func63 rfl (by simp[Tryd.f63]) ?_
 have hr:Tryd.f63.results.toList=[.tmp 8]:=rfl
 have hall:[v0,vr,vq,vv,vt,vu,vo,v7].all one=true:=by
  obtain⟨a,b,c,d,e,f,g⟩:=hone
  simp[a,b,c,d,e,f,g,hv.one]
 have hold:∀ i,i<h.next→(h.push (.row [v0,vr,vq,vv,vt,vu,vo,v7] 30 false false)).get i=h.get i:=fun i hi=>AM hi
 have hnew:(h.push (.row [v0,vr,vq,vv,vt,vu,vo,v7] 30 false false)).get h.next=.row [v0,vr,vq,vv,vt,vu,vo,v7] 30 false false:=BL
 have hnx:(h.push (.row [v0,vr,vq,vv,vt,vu,vo,v7] 30 false false)).next=h.next+1:=rfl
 simp only[eE,seval,↓eP,DH,DC,DN,hr,iV,hall,HR]
 generalize h.push (.row [v0,vr,vq,vv,vt,vu,vo,v7] 30 false false)=H at *
 have hvH:=hv.mono (h':=H) (by omega) hold
 have heH:=he.mono (h':=H) (by omega) fun i _ hi=>hold i hi
 have hSH:=hS.mono (h':=H) (by omega) fun i _ hi=>hold i hi
 obtain⟨ie,pe,e1,e2,e3⟩:=heH.get hE
 have hl1:AO 1 (H.get h.next)=some vr:=by rw[hnew];rfl
 have hseg:((rows.drop row).take (q-row)).length=q-row:=by rw[List.length_take,List.length_drop];omega
 refine WK.loop (fun i s=>s.h=H∧s.T.get 1=ve∧s.T.get 2=vs∧s.T.get 3=iv row∧s.T.get 4=qP h.next 0∧s.T.get 10=iv ((row+i:Nat):Int)∧i≤q-row∧∃ n:Int,s.T.get 9=iv n∧0≤n∧n≤4611686018427387904∧FY S (((rows.drop row).take (q-row)).drop i) n=FY S ((rows.drop row).take (q-row)) 0) (q-row) (by omega) ?_ ?_
 ·simp only[eE,↓reduceIte,Nat.reduceEqDiff,reduceCtorEq,↓eP,rP,Nat.reduceAdd,Nat.reduceLT]
  exact⟨rfl,by omega,by omega,rfl⟩
 ·rintro i ⟨T1,H1⟩ hi ⟨rfl,t1,t2,t3,t4,t10,hil,n,t9,hn0,hnB,hcn⟩
  simp only at t1 t2 t3 t4 t10 t9
  by_cases hlt:i<q-row
  ·have c1:decide (((row+i:Nat):Int)<(q:Int))=true:=by simp only[decide_eq_true_eq];omega
   have w1:IntKind.i64.wrap (((row+i:Nat):Int)+1)=((row+(i+1):Nat):Int):=by rw[CG (by omega) (by omega)];omega
   obtain⟨x,hx⟩:∃ x,rows[row+i]?=some x:=⟨_,List.getElem?_eq_getElem (by omega)⟩
   obtain⟨id,p,e0,hid,l0,l1,l2,l3,l4,lr⟩:=hvH.row hx
   have hsx:((rows.drop row).take (q-row))[i]?=some x:=by rw[List.getElem?_take_of_lt hlt,List.getElem?_drop];exact hx
   have p1:=N3 (a:=n) (b:=1) hn0 (by omega) (by omega)
   have h831:=fun hh=>h83 n 1 hh (by omega) ⟨hn0,hnB⟩
   have hdr:((rows.drop row).take (q-row)).drop i=x :: ((rows.drop row).take (q-row)).drop (i+1):=by
    obtain⟨hl,he⟩:=List.getElem?_eq_some_iff.1 hsx
    rw[List.drop_eq_getElem_cons hl,he]
   rw[hdr] at hcn
   change FY S (((rows.drop row).take (q-row)).drop (i+1)) (if x.kind=22 then EQ (EQ n 1) (KA S x.n) else EQ n 1)=_ at hcn
   cases d22:(x.kind==22) with
   | false=>
    rw[if_neg (by simpa using d22)] at hcn
    simp only[eE,seval,↓eP,rP,t1,t2,t3,t4,t9,t10,e1,e3,c1,h831,DA,C0,hl1,e0,l0,F6,d22,w1]
    exact⟨hlt,by omega,p1.1,p1.2,hcn⟩
   | true=>
    have h22:x.kind=22:=by simpa using d22
    rw[if_pos h22] at hcn
    obtain⟨n0,n1⟩:=hcalls x (List.mem_of_getElem? hsx) h22
    obtain⟨y,hy⟩:∃ y,S[x.n.toNat]?=some y:=⟨_,List.getElem?_eq_getElem (by omega)⟩
    obtain⟨is,ps,f1,f2,f3⟩:=hSH.get hy
    rw[Int.toNat_of_nonneg n0] at f1
    have hys:KA S x.n=y:=by unfold KA;rw[hy];rfl
    rw[hys] at hcn
    have hyb:0≤y∧y≤4611686018427387904:=hs y (List.mem_of_getElem? hy)
    have p2:=N3 p1.1 hyb.1 hyb.2
    have h832:=fun hh=>h83 (EQ n 1) y hh hyb p1
    simp only[eE,seval,↓eP,rP,t1,t2,t3,t4,t9,t10,e1,e3,c1,h831,h832,DA,C0,hl1,e0,l0,l3,F6,IX,d22,w1,f1,f3]
    exact⟨hlt,by omega,p2.1,p2.2,hcn⟩
  ·have c1:decide (((row+i:Nat):Int)<(q:Int))=false:=by simp only[decide_eq_false_iff_not];omega
   have hnn:n=FY S ((rows.drop row).take (q-row)) 0:=by
    rw[← hcn,List.drop_of_length_le (by omega)]
    rfl
   subst hnn
   simp only[eE,seval,↓eP,rP,hr,t1,t2,t3,t4,t9,t10,e1,e3,c1]
   exact hold
end
theorem PW {P:Program} {call:AK} {n:Nat} {f:FuncId} {args:List Value} {h:AA} {fn:Func} {c:Code} {R:Value→AA→Prop} (hf:P.funcs[f]?=some fn) (hb:fn.body=some c) (hl:args.length≤fn.ntmps)
  (hw:WK P call n c ⟨GR 0 args .leaf,h⟩ (.top fun e s=>(e=.normal∨e=.ret)∧∃ vs,EV P s fn.results.toList=some vs∧R (F7 vs) s.h)):∃ v h',AW P call n f args h=some (v,h')∧R v h':=ZW hf hb hl hw
theorem Gm {h:AA} {lo:Nat} {v:Value} {l:List Int} {x:Int} (hs:DQ h lo (fun _=>1) 1 v l.length (ints l) 3) (hlo:lo≤h.next) (hf:h.floor≤lo) (hb:l.length<10000000) :
  ∃ v' h',C4 Tryd.prog (h.push (.row [iv x] 3 false false)) 28 v (qS h.next 1 1)=some (v',h')∧DQ h' lo (fun _=>1) 1 v' (l++[x]).length (ints (l++[x])) 3∧h'.floor=h.floor∧h.next≤h'.next∧∀ i,i<lo→h'.get i=h.get i:=by
 have hs':DQ (h.push (.row [iv x] 3 false false)) lo (fun i=>if i=h.next then 0 else 1) 1 v l.length (ints l) 3:=hs.mono (by show h.next≤h.next+1;omega) (fun i hi=>if_neg (by omega)) fun i _ hi _=>AM hi
 obtain⟨v',h1,a1,a2,a3,a4,a5,a6,a7⟩:=OH (et:=3) (w:=1) (c:=1) (sc:=1) (xs:=[iv x]) Tryd.underlying28 CT KH I3 rfl (by decide) (by decide) hs' ((FH _).trans (Nat.mul_one _).symm) (RI _) rfl rfl (by decide) (by decide) (by omega) (src:=h.next) BL (by show h.next<h.next+1;omega) hf (by simp)
 have hnx:h1.next=h.next+2:=a4
 refine⟨v',h1,a1,?_,a3,by omega,fun i hi=>?_⟩
 ·rcases a2 with a2 | a2
  ·rcases a2 with⟨h2,_⟩ | ⟨id,ex,b1,b2,b3,b4,b5⟩
   ·omega
   ·refine .inr ⟨id,ex,?_,?_,b3,b4,rfl⟩
    ·rw[b1,List.length_append];rfl
    ·rw[b2];simp[ints]
  ·exact absurd (show lo≤h.next+1 by omega) a2
 ·rw[a7 i (by show i<h.next+1;omega) (by omega),AM (by omega)]
def IV (rows:List AB) (E:List Int):List Int→List Int→List Int
 | [],S=>S
 | ru :: rest,S=>IV rows E rest (S++[D4 rows E S ru.toNat])
def blk (rows:List AB) (E:List Int) (row:Nat):List AB:=(rows.drop row).take (((E[row]?).getD 0).toNat-row)
structure S9 (rows:List AB) (E rules:List Int):Prop where
 lay:NF rows E rules
 ahead:∀ (i:Nat) (ru:Int),rules[i]?=some ru→∀ x∈blk rows E ru.toNat,x.kind=22→x.n<i
theorem NF.end {rows:List AB} {E rules:List Int} (hL:NF rows E rules) {i:Nat} (hi:i<rows.length):∃ q:Nat,E[i]?=some (q:Int)∧i≤q∧q≤rows.length∧blk rows E i=(rows.drop i).take (q-i):=by
 obtain⟨q,h1,h2,h3⟩:=hL.ends i hi
 exact⟨q,h1,by omega,h3,by unfold blk;rw[h1];rfl⟩
section
variable {call:AK} {N:Nat} {h:AA}
theorem Bf {vr v0 vq vv vt vu vo v7 ve:Value} {rows:List AB} {E rules:List Int} (hone:one v0=true∧one vq=true∧one vv=true∧one vt=true∧one vo=true∧one v7=true) (hv:AL h vr rows) {le lu:Nat} (he:BY le h ve E) (hu:BY lu h vu rules) (hL:S9 rows E rules) (hfl:h.floor≤h.next) (hN:rules.length+3<N)
  (h63:∀ vs S row H,(∀ i,i<h.next→H.get i=h.get i)→h.next≤H.next→BY (h.next+1) H vs S→HV S→row<rows.length→(∀ x∈blk rows E row,x.kind=22→0≤x.n∧x.n<S.length)→call 63 [.agg #[v0,vr,vq,vv,vt,vu,vo,v7],ve,vs,iv (row:Int)] H=some (iv (D4 rows E S row),H)) :
  ∃ v h',AW Tryd.prog call N 61 [.agg #[v0,vr,vq,vv,vt,vu,vo,v7],ve] h=some (v,h')∧(BY h.next h' v (IV rows E rules [])∧h'.floor=h.floor∧h.next≤h'.next∧∀ i,i<h.next→h'.get i=h.get i):=by
 refine PW (R:=fun v h'=>BY h.next h' v (IV rows E rules [])∧h'.floor=h.floor∧h.next≤h'.next∧∀ i,i<h.next→h'.get i=h.get i) Tryd.func61 rfl (by simp[Tryd.f61]) ?_
 have hr:Tryd.f61.results.toList=[.tmp 4]:=rfl
 have hall:[v0,vr,vq,vv,vt,vu,vo,v7].all one=true:=by
  obtain⟨a,b,c,d,e,f⟩:=hone
  simp[a,b,c,d,e,f,hv.one,AV.one hu]
 have hold:∀ i,i<h.next→(h.push (.row [v0,vr,vq,vv,vt,vu,vo,v7] 30 false false)).get i=h.get i:=fun i hi=>AM hi
 have hnew:(h.push (.row [v0,vr,vq,vv,vt,vu,vo,v7] 30 false false)).get h.next=.row [v0,vr,vq,vv,vt,vu,vo,v7] 30 false false:=BL
 have hnx:(h.push (.row [v0,vr,vq,vv,vt,vu,vo,v7] 30 false false)).next=h.next+1:=rfl
 have hfx:(h.push (.row [v0,vr,vq,vv,vt,vu,vo,v7] 30 false false)).floor=h.floor:=rfl
 simp only[eE,seval,↓eP,DH,DC,DN,hr,iV,hall,HR]
 generalize h.push (.row [v0,vr,vq,vv,vt,vu,vo,v7] 30 false false)=H at *
 refine WK.loop (fun i s=>s.T.get 1=ve∧s.T.get 2=qP h.next 0∧s.T.get 6=iv i∧i≤rules.length∧s.h.floor=h.floor∧h.next+1≤s.h.next∧(∀ i,i<h.next+1→s.h.get i=H.get i)∧∃ S:List Int,DQ s.h (h.next+1) (fun _=>1) 1 (s.T.get 5) S.length (ints S) 3∧HV S∧S.length=i∧IV rows E (rules.drop i) S=IV rows E rules []) rules.length (by omega) ?_ ?_
 ·simp only[eE,↓reduceIte,Nat.reduceEqDiff,reduceCtorEq,↓eP,rP,Nat.reduceAdd,Nat.reduceLT]
  exact⟨rfl,hfx,by omega,fun _ _=>trivial,[],.inl ⟨rfl,rfl,rfl⟩,(fun x hx=>by cases hx),rfl,rfl⟩
 ·rintro i ⟨T1,H1⟩ hi ⟨t1,t2,t6,hil,hf1,hn1,ho1,S,hsl,hSS,hSl,hcn⟩
  simp only at t1 t2 t6 hf1 hn1 ho1 hsl
  have ho2:∀ i,i<h.next→H1.get i=h.get i:=fun i hi=>(ho1 i (by omega)).trans (hold i hi)
  have hg:H1.get h.next=.row [v0,vr,vq,vv,vt,vu,vo,v7] 30 false false:=(ho1 _ (by omega)).trans hnew
  have hSI:BY (h.next+1) H1 (T1.get 5) S:=DQ.cells hsl ((FH _).trans (Nat.mul_one _).symm)
  have hu1:=hu.mono (h':=H1) (by omega) fun i _ hi=>ho2 i hi
  have hulen:=fun h'=>hu.len (h':=h')
  have hl5:AO 5 (H1.get h.next)=some vu:=by rw[hg];rfl
  have hl8:CD 8 0 (H1.get h.next)=some (.agg #[v0,vr,vq,vv,vt,vu,vo,v7]):=by rw[hg];rfl
  by_cases hlt:i<rules.length
  ·have c1:decide ((i:Int)<(rules.length:Int))=true:=by simp only[decide_eq_true_eq];omega
   have w1:IntKind.i64.wrap ((i:Int)+1)=((i+1:Nat):Int):=CG (by have:=hL.lay.nrules;omega) (by have:=hL.lay.nrules;omega)
   obtain⟨ru,hru⟩:∃ ru,rules[i]?=some ru:=⟨_,List.getElem?_eq_getElem hlt⟩
   obtain⟨r0,r1⟩:=hL.lay.rl ru (List.mem_of_getElem? hru)
   obtain⟨iu,pu,f1,f2,f3⟩:=hu1.get hru
   have hc:=h63 (T1.get 5) S ru.toNat H1 ho2 (by omega) hSI hSS (by omega) (fun x hx h22=>by
    have h1:=hL.ahead i ru hru x hx h22
    refine⟨?_,by omega⟩
    have:x∈rows:=List.mem_of_mem_drop (List.mem_of_mem_take hx)
    exact(hL.lay.calls x this h22).1)
   rw[Int.toNat_of_nonneg r0] at hc
   have hdr:rules.drop i=ru :: rules.drop (i+1):=by
    obtain⟨hl,he⟩:=List.getElem?_eq_some_iff.1 hru
    rw[List.drop_eq_getElem_cons hl,he]
   rw[hdr,IV] at hcn
   obtain⟨v',H2,a1,a2,a3,a4,a5⟩:=Gm (x:=D4 rows E S ru.toNat) hsl hn1 (by omega) (by have:=hL.lay.nrules;omega)
   have hle:=P8 (rows:=rows) (E:=E) hSS ru.toNat
   simp only[eE,seval,↓eP,rP,t1,t2,t6,F0,C3,hl5,hulen,c1]
   refine WK.quiet (by kernel_rfl) ?_
   simp only[eE,seval,↓eP,rP,t1,t2,t6,F0,C3,IW,hl5,hl8,f1,f3,hc,RF,a1,w1]
   refine⟨hlt,by omega,by omega,by omega,fun j hj=>by rw[a5 j hj];exact ho1 j hj,S++[D4 rows E S ru.toNat],a2,?_,by simp;omega,hcn⟩
   intro x hx
   rcases List.mem_append.1 hx with hx | hx
   ·exact hSS x hx
   ·rw[List.mem_singleton.1 hx];exact hle
  ·have c1:decide ((i:Int)<(rules.length:Int))=false:=by simp only[decide_eq_false_iff_not];omega
   rw[List.drop_of_length_le (by omega)] at hcn
   have hSe:S=IV rows E rules []:=hcn
   rw[hSe] at hSI
   simp only[eE,seval,↓eP,rP,hr,t1,t2,t6,F0,C3,hl5,hulen,c1]
   exact⟨hSI.weak (by omega),hf1,by omega,ho2⟩
end
def ZM:Code→Code
 | .loop c=>c
 | .block _ c=>c
 | c=>c
noncomputable def qV:Code:=Tryd.f84.body.getD .skip
noncomputable def Y4:Code:=ZM (ZM (rt (lf (rt (rt (rt qV))))))
noncomputable def SU:Code:=ZM (lf (rt Y4))
noncomputable def X1:Code:=rt SU
noncomputable def X2:Code:=rt X1
noncomputable def X3:Code:=rt X2
noncomputable def X4:Code:=rt X3
noncomputable def X5:Code:=rt X4
noncomputable def X6:Code:=rt X5
def yZ (i:Nat) (f:CF):Prop:=(1≤f.kind∧f.kind≤54)∧0<f.left∧(f.kind=1∨f.kind=11∨(f.next:Int)+f.left≤CJ f.kind)∧f.left≤9223372036854775807∧f.next≤i
theorem gG {k:Int} {j:Nat}:GI (BT k j)=BT k j∧LD (BT k j):=by
 unfold BT
 (repeat' split) <;> exact⟨rfl,by unfold LD;omega⟩
theorem Be {f:CF} {s:List CF}:PI f.kind f.next=GI (K2 (f :: s)):=by
 show _=GI (if f.kind=1 then 9 else BT f.kind f.next)
 unfold PI
 split
 ·rfl
 ·exact gG.1.symm
theorem m8 {s:List CF}:LD (K2 s):=by
 cases s with
 | nil=>exact .inl rfl
 | cons f s=>
  show LD (if f.kind=1 then 9 else BT f.kind f.next)
  split
  ·exact .inr (.inl rfl)
  ·exact gG.2
theorem Jl {w:Int} (h:LD w):(GI w==1)=decide (w=9):=by
 rcases h with rfl | rfl | rfl | rfl | rfl | rfl | rfl | rfl <;> rfl
section
variable {call:AK} {n:Nat}
def JQ (h:AA) (v:Value) (i:Nat) (T:Tr) (H:AA) (s:List CF) (ev:Bool):Prop:=
 T.get 0=v∧T.get 5=iv i∧T.get 4=.bool ev∧JY h.next H (T.get 3) s∧H.floor=h.floor∧h.next≤H.next∧∀ j,j<h.next→H.get j=h.get j
structure RW (call:AK):Prop where
 kid:∀ (κ:Int) (j:Nat) h,1≤κ∧κ≤54→(κ=1∨κ=11∨(j:Int)<CJ κ)→call 99 [iv κ,iv j] h=some (iv (PI κ j),h)
 right:∀ w (x:AB) h,LD w→call 100 [C_ x,iv (GI w)] h=some (.bool (EW w x.kind&&DE AR x),h)
 decl:∀ k h,call 101 [iv k] h=some (.bool (CC 0 k),h)
 event:∀ k h,call 102 [iv k] h=some (.bool (CC 1 k),h)
theorem U_ {h:AA} {v:Value} {i:Nat} {T:Tr} {H:AA} {s:List CF} {ev:Bool} {k:BS} (hc:RW call) (hB:JQ h v i T H s ev) (hfl:h.floor≤h.next) (hs:s.length<2932031007403) (hi:i<2932031007403) (hok:∀ f s',s=f :: s'→yZ i f)
  (hk:∀ T' H',JQ h v i T' H' (I6 s) ev→T'.get 6=iv (GI (K2 s))→WK Tryd.prog call n X2 ⟨T',H'⟩ k):WK Tryd.prog call n SU ⟨T,H⟩ k:=by
 obtain⟨t0,t5,t4,hst,hf,hn,hold⟩:=hB
 show WK _ _ _ (.seq _ (.seq _ X2)) _ _
 have hlen:=fun h'=>hst.len (h':=h')
 cases s with
 | nil=>
  have c0:decide (((([]:List CF).length:Nat):Int)>0)=false:=rfl
  simp only[eE,seval,↓eP,rP,t0,t5,t4,hlen,c0]
  refine hk _ _ ⟨?_,?_,?_,?_,hf,hn,hold⟩ ?_
  ·simp only[eE,seval,↓eP,rP,t0]
  ·simp only[eE,seval,↓eP,rP,t5]
  ·simp only[eE,seval,↓eP,rP,t4]
  ·simp only[eE,seval,↓eP,rP];exact hst
  ·simp only[eE,seval,↓eP,rP];rfl
 | cons f s0=>
  obtain⟨id,ex,hvs,hg,hid,hidn⟩:=hst.top
  have c0:decide (((s0.length+1:Nat):Int)>0)=true:=by simp
  have w1:IntKind.i64.wrap (((s0.length+1:Nat):Int)-1)=(s0.length:Int):=by rw[CG (by simp only[List.length_cons] at *;omega) (by simp only[List.length_cons] at *;omega)];simp
  have ix:∀ {n c},s0.length<n→CY Tryd.prog 133 (qS id n c) (iv (s0.length:Int))=some (.pointer (some ⟨id,s0.length*3,none⟩)):=fun h=>pC h
  have ix':=ix (n:=s0.length+1) (c:=AG) (by omega)
  obtain⟨c1,c2,c3,c4⟩:=ZR (s:=s0) (f:=f) (ex:=ex) (ty:=135) (g:=true) (ro:=false)
  have okf:=hok f s0 rfl
  have hkid:=fun hh=>hc.kid f.kind f.next hh okf.1 (by
   rcases okf.2.2.1 with h | h | h
   ·exact .inl h
   ·exact .inr (.inl h)
   ·exact .inr (.inr (by have:=okf.2.1;omega)))
  have hflT:(H.floor≤H.next)=True:=by simp;omega
  have hltT:(H.next<H.next+1)=True:=by simp
  simp only[eE,seval,↓eP,rP,t0,t5,t4,hvs,LH,c0,w1,ix',hg,c1,c2,c3,c4,Ja,S_,pJ,Bi,Hy,t_,hflT,hltT,k_,UF,oU]
  have hgH:((H.push (.row [iv 0,iv 0,iv 0] 135 false false)).put H.next (.row [iv f.kind,iv (f.left:Int),iv (f.next:Int)] 135 false false)).get id=.row (EL s0++(GN f++ex)) 135 true false:=by
   rw[AQ (by show H.next<H.next+1;omega) (by omega),AM hidn];exact hg
  have hnH:((H.push (.row [iv 0,iv 0,iv 0] 135 false false)).put H.next (.row [iv f.kind,iv (f.left:Int),iv (f.next:Int)] 135 false false)).next=H.next+1:=rfl
  have hfH:((H.push (.row [iv 0,iv 0,iv 0] 135 false false)).put H.next (.row [iv f.kind,iv (f.left:Int),iv (f.next:Int)] 135 false false)).floor=h.floor:=hf
  have hoH:∀ j,j<h.next→((H.push (.row [iv 0,iv 0,iv 0] 135 false false)).put H.next (.row [iv f.kind,iv (f.left:Int),iv (f.next:Int)] 135 false false)).get j=h.get j:=fun j hj=>by
   rw[AQ (by show H.next<H.next+1;omega) (by omega),AM (by omega)];exact hold j hj
  generalize (H.push (.row [iv 0,iv 0,iv 0] 135 false false)).put H.next (.row [iv f.kind,iv (f.left:Int),iv (f.next:Int)] 135 false false)=H1 at *
  have okl:=okf.2.2.2
  have ok0:=okf.2.1
  have hll:=QJ s0
  have w2:IntKind.i64.wrap ((f.next:Int)+1)=((f.next+1:Nat):Int):=CG (by omega) (by omega)
  have w3:IntKind.i64.wrap ((f.left:Int)-1)=((f.left-1:Nat):Int):=by rw[CG (by omega) (by omega)];omega
  have sa:=WY (x:=((f.next+1:Nat):Int)) (off:=s0.length*3+2) hgH (by simp[GN];omega) (by omega)
  rw[xG] at sa
  have hgH2:(H1.put id (.row (EL s0++(GN ⟨f.kind,f.left,f.next+1⟩++ex)) 135 true false)).get id=.row (EL s0++(GN ⟨f.kind,f.left,f.next+1⟩++ex)) 135 true false:=CE rfl (by omega)
  obtain⟨_,d2,_,_⟩:=ZR (s:=s0) (f:=⟨f.kind,f.left,f.next+1⟩) (ex:=ex) (ty:=135) (g:=true) (ro:=false)
  have sb:=WY (h:=H1.put id (.row (EL s0++(GN ⟨f.kind,f.left,f.next+1⟩++ex)) 135 true false)) (x:=((f.left-1:Nat):Int)) (off:=s0.length*3+1) hgH2 (by simp[GN];omega) (by show H1.floor≤id;omega)
  rw[tV] at sb
  simp only[eE,seval,↓eP,DH,EH,JF,DC,DN,hkid,t0,t5,t4,hvs,LH,w1,w2,w3,ix',hgH,hgH2,c1,c2,c3,d2,k_,UF,oU,sa,sb]
  have hnp:((H1.put id (.row (EL s0++(GN ⟨f.kind,f.left,f.next+1⟩++ex)) 135 true false)).put id (.row (EL s0++(GN ⟨f.kind,f.left-1,f.next+1⟩++ex)) 135 true false)).next=H1.next:=rfl
  refine hk _ _ ⟨?_,?_,?_,?_,hfH,?_,fun j hj=>?_⟩ ?_
  ·simp only[eE,seval,↓eP,rP,t0]
  ·simp only[eE,seval,↓eP,rP,t5]
  ·simp only[eE,seval,↓eP,rP,t4]
  ·simp only[eE,seval,↓eP,rP,hvs]
   refine .inr ⟨id,ex,by rw[I6];rfl,?_,hid,by rw[hnp];omega⟩
   rw[CE rfl (by show id<H1.next;omega),I6,EL,List.append_assoc]
  ·rw[hnp];omega
  ·rw[AQ (by show id<H1.next;omega) (by omega),AQ (by omega) (by omega)];exact hoH j hj
  ·simp only[eE,seval,↓eP,rP];rw[← Be]
theorem TX {h:AA} {v:Value} {i:Nat} {T:Tr} {H:AA} {s:List CF} {ev:Bool} {k:BS} {l:List AB} {w:Int} (hc:RW call) (hv:AL h v l) (hB:JQ h v i T H s ev) (hw:LD w) (h6:T.get 6=iv (GI w))
  (hbad:(l[i]?=none∨∃ x,l[i]?=some x∧(EW w x.kind&&DE AR x)=false)→∀ T':Tr,T'.get 2=iv i→k.ap Tryd.prog call n .ret ⟨T',H⟩)
  (hgood:∀ x,l[i]?=some x→(EW w x.kind&&DE AR x)=true→∀ T':Tr,JQ h v i T' H s ev→T'.get 6=iv (GI w)→WK Tryd.prog call n X3 ⟨T',H⟩ k):WK Tryd.prog call n X2 ⟨T,H⟩ k:=by
 have hB':=hB
 obtain⟨t0,t5,t4,hst,hf,hn,hold⟩:=hB
 have hvH:AL H v l:=hv.mono hn hold
 have hl22:∀ h',B_ Tryd.prog h' 22 v=some (.int .i64 l.length):=fun h'=>hv.len
 show WK _ _ _ (.seq _ X3) _ _
 by_cases hi:i<l.length
 ·obtain⟨x,hx⟩:∃ x,l[i]?=some x:=⟨_,List.getElem?_eq_getElem hi⟩
  have c1:decide ((i:Int)≥(l.length:Int))=false:=by simp;omega
  obtain⟨id,q,e0,hid,l0,l1,l2,l3,l4,lr⟩:=hvH.row hx
  have hr:=fun hh=>hc.right w x hh hw
  cases d:(EW w x.kind&&DE AR x) with
  | false=>
   rw[d] at hr
   simp only[eE,seval,↓eP,rP,t0,t5,h6,hl22,c1,e0,lr,hr]
   exact hbad (.inr ⟨x,hx,d⟩) _ (by simp only[eE,seval,↓eP,rP])
  | true=>
   rw[d] at hr
   simp only[eE,seval,↓eP,rP,t0,t5,h6,hl22,c1,e0,lr,hr]
   refine hgood x hx d _ ⟨?_,?_,?_,?_,hf,hn,hold⟩ ?_
   ·simp only[eE,seval,↓eP,rP,t0]
   ·simp only[eE,seval,↓eP,rP,t5]
   ·simp only[eE,seval,↓eP,rP,t4]
   ·simp only[eE,seval,↓eP,rP];exact hst
   ·simp only[eE,seval,↓eP,rP,h6]
 ·have c1:decide ((i:Int)≥(l.length:Int))=true:=by simp;omega
  simp only[eE,seval,↓eP,rP,t0,t5,h6,hl22,c1]
  exact hbad (.inl (List.getElem?_eq_none (by omega))) _ (by simp only[eE,seval,↓eP,rP])
theorem VB {h:AA} {v:Value} {i:Nat} {T:Tr} {H:AA} {s:List CF} {ev:Bool} {k:BS} {l:List AB} {w:Int} {x:AB} (hc:RW call) (hv:AL h v l) (hB:JQ h v i T H s ev) (hw:LD w) (h6:T.get 6=iv (GI w)) (hx:l[i]?=some x)
  (hbad:w=9∧ev=true∧CC 0 x.kind=true→∀ T':Tr,T'.get 2=iv i→k.ap Tryd.prog call n .ret ⟨T',H⟩)
  (hgood:¬ (w=9∧ev=true∧CC 0 x.kind=true)→∀ T':Tr,JQ h v i T' H s (if w=9 then ev||CC 1 x.kind else ev)→WK Tryd.prog call n X4 ⟨T',H⟩ k):WK Tryd.prog call n X3 ⟨T,H⟩ k:=by
 obtain⟨t0,t5,t4,hst,hf,hn,hold⟩:=hB
 have hvH:AL H v l:=hv.mono hn hold
 obtain⟨id,q,e0,hid,l0,l1,l2,l3,l4,lr⟩:=hvH.row hx
 have hd:=hc.decl x.kind
 have he:=hc.event x.kind
 have hw1:=Jl hw
 show WK _ _ _ (.seq _ X4) _ _
 by_cases h9:w=9
 ·subst h9
  have c9:(GI 9==1)=true:=rfl
  have done:∀ ev':Bool,(ev||CC 1 x.kind)=ev'→¬ ((9:Int)=9∧ev=true∧CC 0 x.kind=true)→∀ T':Tr,T'.get 0=v→T'.get 5=iv i→T'.get 4=.bool ev'→T'.get 3=T.get 3→WK Tryd.prog call n X4 ⟨T',H⟩ k:=fun ev' e1 e2 T' u0 u5 u4 u3=>hgood e2 T' ⟨u0,u5,by rw[if_pos rfl,e1];exact u4,by rw[u3];exact hst,hf,hn,hold⟩
  cases ev with
  | true=>
   cases d0:CC 0 x.kind with
   | true=>
    rw[d0] at hd
    simp only[eE,seval,↓eP,rP,t0,t5,t4,h6,c9,e0,l0,hd]
    exact hbad ⟨rfl,rfl,d0⟩ _ (by simp only[eE,seval,↓eP,rP])
   | false=>
    rw[d0] at hd done
    simp only[eE,seval,↓eP,rP,t0,t5,t4,h6,c9,e0,l0,hd,he]
    refine done true rfl (by simp) _ ?_ ?_ ?_ ?_ <;> simp only[eE,seval,↓eP,rP,t0,t5,t4]
  | false=>
   simp only[eE,seval,↓eP,rP,t0,t5,t4,h6,c9,e0,l0,hd,he]
   refine done (CC 1 x.kind) (Bool.false_or _) (by simp) _ ?_ ?_ ?_ ?_ <;> simp only[eE,seval,↓eP,rP,t0,t5,t4]
 ·have c9:(GI w==1)=false:=by rw[hw1,decide_eq_false h9]
  simp only[eE,seval,↓eP,rP,t0,t5,t4,h6,c9]
  refine hgood (fun h=>h9 h.1) _ ⟨?_,?_,?_,?_,hf,hn,hold⟩
  ·simp only[eE,seval,↓eP,rP,t0]
  ·simp only[eE,seval,↓eP,rP,t5]
  ·simp only[eE,seval,↓eP,rP,t4,h9]
  ·simp only[eE,seval,↓eP,rP];exact hst
end
section
variable {call:AK} {n:Nat}
theorem pQ {h:AA} {v:Value} {i:Nat} {T:Tr} {H:AA} {s:List CF} {ev:Bool} {k:BS} {l:List AB} {x:AB} (hv:AL h v l) (hB:JQ h v i T H s ev) (hx:l[i]?=some x) (hkid:0≤x.kids) (hfl:h.floor≤h.next) (hs:s.length<2932031007403)
  (hk:∀ T' H',JQ h v i T' H' (⟨x.kind,x.kids.toNat,0⟩ :: s) ev→WK Tryd.prog call n X5 ⟨T',H'⟩ k):WK Tryd.prog call n X4 ⟨T,H⟩ k:=by
 obtain⟨t0,t5,t4,hst,hf,hn,hold⟩:=hB
 have hvH:AL H v l:=hv.mono hn hold
 obtain⟨id,q,e0,hid,l0,l1,l2,l3,l4,lr⟩:=hvH.row hx
 obtain⟨v',H',ha,hst',hf',hn',hold'⟩:=Jb (a:=x.kind) (b:=x.kids) (c:=0) (f:=⟨x.kind,x.kids.toNat,0⟩) (by simp only[GN,Int.toNat_of_nonneg hkid];rfl) hst (by omega) hn hs
 show WK _ _ _ (.seq (.region _ _ true) X5) _ _
 rw[KG]
 refine WK.quiet (by kernel_rfl) ?_
 simp only[eE,seval,↓eP,rP,t0,t5,e0,l0,l4,Fu,Hp,ha]
 refine hk _ _ ⟨?_,?_,?_,?_,by omega,by omega,fun j hj=>by rw[hold' j hj];exact hold j hj⟩
 ·simp only[eE,seval,↓eP,rP,t0]
 ·simp only[eE,seval,↓eP,rP,t5]
 ·simp only[eE,seval,↓eP,rP,t4]
 ·simp only[eE,seval,↓eP,rP];exact hst'
theorem kL:∀ s:List CF,(FC s).length≤s.length
 | []=>Nat.le_refl _
 | f :: s=>by
  by_cases h0:f.left=0
  ·rw[QE h0];have:=kL s;simp only[List.length_cons];omega
  ·rw[Q1 h0];exact Nat.le_refl _
theorem JY.tail {m:Nat} {h:AA} {f:CF} {s:List CF} {v:Value} (hs:JY m h v (f :: s)):∃ id,v=qS id (s.length+1) AG∧JY m h (qS id s.length AG) s:=by
 obtain⟨id,ex,h1,h2,h3,h4⟩:=hs.top
 exact⟨id,h1,.inr ⟨id,GN f++ex,rfl,h2,h3,h4⟩⟩
theorem Br {h:AA} {v:Value} {i:Nat} {T:Tr} {H:AA} {s:List CF} {ev:Bool} {k:BS} (hB:JQ h v i T H s ev) (hs:s.length<2932031007403) (hn0:s.length<n)
  (hk:∀ T',JQ h v i T' H (FC s) ev→WK Tryd.prog call n X6 ⟨T',H⟩ k):WK Tryd.prog call n X5 ⟨T,H⟩ k:=by
 obtain⟨t0,t5,t4,hst,hf,hn,hold⟩:=hB
 show WK _ _ _ (.seq (.block _ (.loop _)) X6) _ _
 rw[KG,WR]
 refine WK.loop (fun j st=>st.h=H∧st.T.get 0=v∧st.T.get 5=iv i∧st.T.get 4=.bool ev∧∃ s',JY h.next H (st.T.get 3) s'∧FC s'=FC s∧s'.length+j≤s.length) s.length hn0 ⟨rfl,t0,t5,t4,s,hst,rfl,by omega⟩ ?_
 rintro j ⟨T1,H1⟩ hj ⟨rfl,u0,u5,u4,s',hst',hp,hl⟩
 simp only at u0 u5 u4 hst'
 have fin:FC s'=s'→∀ T':Tr,T'.get 0=v→T'.get 5=iv i→T'.get 4=.bool ev→T'.get 3=T1.get 3→WK Tryd.prog call n X6 ⟨T',H1⟩ k:=fun e T' w0 w5 w4 w3=>hk T' ⟨w0,w5,w4,by rw[w3,← hp,e];exact hst',hf,hn,hold⟩
 cases s' with
 | nil=>
  have hlen:=fun h'=>hst'.len (h':=h')
  have c0:decide (((([]:List CF).length:Nat):Int)>0)=false:=rfl
  simp only[eE,seval,↓eP,rP,hlen,c0]
  refine fin rfl _ ?_ ?_ ?_ ?_ <;> simp only[eE,seval,↓eP,rP,u0,u5,u4]
 | cons f s0=>
  obtain⟨id,ex,hvs,hg,hid,hidn⟩:=hst'.top
  obtain⟨id',hvs',htl⟩:=hst'.tail
  have:id'=id:=by
   rw[hvs] at hvs'
   simp only[Value.slice.injEq,Option.some.injEq,Addr.mk.injEq,and_true] at hvs'
   exact hvs'.symm
  subst this
  simp only[List.length_cons] at hl
  have c0:decide (((s0.length+1:Nat):Int)>0)=true:=by simp
  have w1:IntKind.i64.wrap (((s0.length+1:Nat):Int)-1)=(s0.length:Int):=by rw[CG (by omega) (by omega)];omega
  have ix':CY Tryd.prog 133 (qS id' (s0.length+1) AG) (iv (s0.length:Int))=some (.pointer (some ⟨id',s0.length*3,none⟩)):=pC (by omega)
  obtain⟨c1,c2,c3,c4⟩:=ZR (s:=s0) (f:=f) (ex:=ex) (ty:=135) (g:=true) (ro:=false)
  by_cases h0:f.left=0
  ·have c5:((f.left:Int)==0)=true:=by rw[h0];rfl
   have hsl:=zF (id:=id') (h:=H1) (n:=s0.length+1) (k:=s0.length) (by omega)
   simp only[eE,seval,↓eP,rP,u0,u5,u4,hvs,LH,c0,w1,ix',hg,c2,UF,c5,hsl]
   exact⟨by omega,s0,htl,by rw[← hp,QE h0],by omega⟩
  ·have c5:((f.left:Int)==0)=false:=by rw[beq_eq_false_iff_ne];omega
   simp only[eE,seval,↓eP,rP,hvs,LH,c0,w1,ix',hg,c2,UF,c5]
   refine fin (Q1 h0) _ ?_ ?_ ?_ ?_ <;> simp only[eE,seval,↓eP,rP,u0,u5,u4,hvs]
theorem wG {h:AA} {v:Value} {i:Nat} {T:Tr} {H:AA} {s:List CF} {ev:Bool} {k:BS} {l:List AB} (hv:AL h v l) (hB:JQ h v i T H s ev) (hi:i<2932031007403)
  (hbad:s=[]→i+1<l.length→∀ T':Tr,T'.get 2=iv ((i+1:Nat):Int)→k.ap Tryd.prog call n .ret ⟨T',H⟩)
  (hgood:¬ (s=[]∧i+1<l.length)→∀ T':Tr,JQ h v i T' H s ev→k.ap Tryd.prog call n .normal ⟨T',H⟩):WK Tryd.prog call n X6 ⟨T,H⟩ k:=by
 obtain⟨t0,t5,t4,hst,hf,hn,hold⟩:=hB
 have hl22:∀ h',B_ Tryd.prog h' 22 v=some (.int .i64 l.length):=fun h'=>hv.len
 have hlen:=fun h'=>hst.len (h':=h')
 have w1:=CK i (by omega)
 show WK _ _ _ (.seq _ _) _ _
 have fin:¬ (s=[]∧i+1<l.length)→∀ T':Tr,T'.get 0=v→T'.get 5=iv i→T'.get 4=.bool ev→T'.get 3=T.get 3→k.ap Tryd.prog call n .normal ⟨T',H⟩:=fun e T' w0 w5 w4 w3=>hgood e T' ⟨w0,w5,w4,by rw[w3];exact hst,hf,hn,hold⟩
 by_cases h0:s=[]
 ·have c0:((s.length:Int)==0)=true:=by rw[h0];rfl
  by_cases h1:i+1<l.length
  ·have c1:decide (((i+1:Nat):Int)<(l.length:Int))=true:=by simp only[decide_eq_true_eq];omega
   simp only[eE,seval,↓eP,rP,t0,t5,hlen,hl22,c0,w1,c1]
   exact hbad h0 h1 _ (by simp only[eE,seval,↓eP,rP])
  ·have c1:decide (((i+1:Nat):Int)<(l.length:Int))=false:=by simp only[decide_eq_false_iff_not];omega
   simp only[eE,seval,↓eP,rP,t0,t5,hlen,hl22,c0,w1,c1]
   refine fin (fun h=>h1 h.2) _ ?_ ?_ ?_ ?_ <;> simp only[eE,seval,↓eP,rP,t0,t5,t4]
 ·have c0:((s.length:Int)==0)=false:=by
   rw[beq_eq_false_iff_ne]
   have:s.length≠0:=fun h=>h0 (List.length_eq_zero_iff.1 h)
   omega
  simp only[eE,seval,↓eP,rP,hlen,c0]
  refine fin (fun h=>h0 h.1) _ ?_ ?_ ?_ ?_ <;> simp only[eE,seval,↓eP,rP,t0,t5,t4]
def TW (i:Nat) (f:CF):Prop:=(1≤f.kind∧f.kind≤54)∧(f.kind=1∨f.kind=11∨(f.next:Int)+f.left≤CJ f.kind)∧f.left≤9223372036854775807∧f.next≤i
theorem gH:∀ {s:List CF} {f:CF},f∈FC s→f∈s
 | [],f,h=>h
 | g :: s,f,h=>by
  by_cases h0:g.left=0
  ·rw[QE h0] at h
   exact List.mem_cons_of_mem _ (gH h)
  ·rw[Q1 h0] at h
   exact h
theorem n8:∀ {s:List CF} {f:CF} {s':List CF},FC s=f :: s'→f.left≠0
 | [],f,s',h=>by cases h
 | g :: s,f,s',h=>by
  by_cases h0:g.left=0
  ·rw[QE h0] at h
   exact n8 h
  ·rw[Q1 h0] at h
   cases h
   exact h0
theorem uS {i:Nat} {s:List CF} (hs:∀ f∈s,TW i f) (ht:∀ f s',s=f :: s'→f.left≠0):∀ f∈I6 s,TW (i+1) f:=by
 cases s with
 | nil=>intro f hf;cases hf
 | cons g s=>
  intro f hf
  rcases List.mem_cons.1 hf with rfl | hf
  ·obtain⟨h1,h2,h3,h4⟩:=hs g (by simp)
   have:=ht g s rfl
   refine⟨h1,?_,by simp only;omega,by simp only;omega⟩
   rcases h2 with h2 | h2 | h2
   ·exact .inl h2
   ·exact .inr (.inl h2)
   ·exact .inr (.inr (by simp only;omega))
  ·obtain⟨h1,h2,h3,h4⟩:=hs f (List.mem_cons_of_mem _ hf)
   exact⟨h1,h2,h3,by omega⟩
theorem XJ (s:List CF):(I6 s).length=s.length:=by cases s <;> rfl
theorem rW {x:AB} (h:DE AR x=true):0≤x.kids∧(x.kind=1∨x.kind=11∨x.kids≤CJ x.kind):=by
 unfold DE at h
 simp only[Bool.and_eq_true,Bool.or_eq_true,decide_eq_true_eq] at h
 have:=O4 x.kind
 refine⟨by omega,?_⟩
 by_cases h1:x.kind=1
 ·exact .inl h1
 ·by_cases h2:x.kind=11
  ·exact .inr (.inl h2)
  ·have hm:0≤CJ x.kind:=by
    unfold CJ
    have e:([1,11]:List Int).contains x.kind=false:=by simp[h1,h2]
    rw[e]
    simp only[Bool.false_eq_true,if_false]
    (repeat' split) <;> omega
   omega
theorem v_ {w k:Int} (h:EW w k=true):1≤k∧k≤54:=oR h
theorem Iv {l:List AB} {v:Value} {h:AA} (hc:RW call) (hv:AL h v l) (hlen:l.length<2932031007403) (hn:l.length+3<n) (hfl:h.floor≤h.next) (h64:∀ x∈l,x.kids≤9223372036854775807) :
  ∃ h',AW Tryd.prog call n 84 [v] h=some (iv (match G8 AR l with | some p=>(p:Int) | none=>-1),h')∧∀ i,i<h.next→h'.get i=h.get i:=by
 refine E0 (R:=fun h'=>∀ i,i<h.next→h'.get i=h.get i) Tryd.func84 rfl (by simp[Tryd.f84]) ?_
 have hr:Tryd.f84.results.toList=[.tmp 2]:=rfl
 have hl22:∀ h',B_ Tryd.prog h' 22 v=some (.int .i64 l.length):=fun h'=>hv.len
 have hsim:=zE (isName:=AR) (l:=l) (M:=l.length+1) (by omega)
 generalize G8 AR l=R at *
 simp only[eE,seval,↓eP,rP,hr]
 refine WK.loop (fun j st=>∃ s ev,JQ h v j st.T st.h s ev∧s.length≤j∧(∀ f∈s,TW j f)∧(∀ f s',s=f :: s'→f.left≠0)∧(((s≠[]∨j=0)∧F9 (isName:=AR) l (l.length+1-j) j s ev=R)∨(s=[]∧0<j∧R=none))) l.length (by omega) ?_ ?_
 ·refine⟨[],false,⟨?_,?_,?_,?_,rfl,Nat.le_refl _,fun _ _=>rfl⟩,Nat.le_refl _,(fun f hf=>by cases hf),(fun f s' hf=>by cases hf),.inl ⟨.inr rfl,hsim⟩⟩
  ·simp only[eE,seval,↓eP,rP]
  ·simp only[eE,↓reduceIte,Nat.reduceEqDiff,reduceCtorEq,↓eP,rP,Nat.reduceAdd,Nat.reduceLT];rfl
  ·simp only[eE,seval,↓eP,rP]
  ·simp only[eE,seval,↓eP,rP];exact .inl ⟨rfl,rfl⟩
 ·rintro j ⟨T1,H1⟩ hj ⟨s,ev,hB,hsl,hok,htop,hrun⟩
  have hB':=hB
  obtain⟨t0,t5,t4,hst,hf,hnx,hold⟩:=hB
  simp only at t0 t5 t4 hst hf hnx hold
  have hlenS:=fun h'=>hst.len (h':=h')
  have w1:=CK j (by omega)
  -- the end: no row is open
  by_cases hend:s=[]∧0<j
  ·obtain⟨rfl,hj0⟩:=hend
   have hRn:R=none:=by
    rcases hrun with⟨h1 | h1,_⟩ | ⟨_,_,h1⟩
    ·exact absurd rfl h1
    ·omega
    ·exact h1
   subst hRn
   have c0:((j:Int)==0)=false:=by rw[beq_eq_false_iff_ne];omega
   have c1:decide (((([]:List CF).length:Nat):Int)>0)=false:=rfl
   simp only[eE,seval,↓eP,rP,t5,hlenS,c0,c1]
   exact hold
  ·have hrun':F9 (isName:=AR) l (l.length+1-j) j s ev=R:=by
    rcases hrun with⟨_,h1⟩ | ⟨h1,h2,_⟩
    ·exact h1
    ·exact absurd ⟨h1,h2⟩ hend
   obtain⟨m,hm⟩:∃ m,l.length+1-j=m+1:=⟨l.length-j,by omega⟩
   rw[hm,F9] at hrun'
   have head:∀ (c:Code) (k:BS),(∀ T':Tr,JQ h v j T' H1 s ev→WK Tryd.prog call n (.block 1 SU) ⟨T',H1⟩ (.seq c k))→WK Tryd.prog call n (lf Y4) ⟨T1,H1⟩ (.seq (.seq (.block 1 SU) c) k):=fun c k hk=>by
    show WK _ _ _ (.seq _ (.cond _ _ _)) _ _
    by_cases hj0:j=0
    ·have c0:((j:Int)==0)=true:=by rw[hj0];rfl
     simp only[QD,seval,↓eP,rP,t5,c0]
     refine hk _ ⟨?_,?_,?_,?_,hf,hnx,hold⟩
     ·simp only[eE,seval,↓eP,rP,t0]
     ·simp only[eE,seval,↓eP,rP,t5]
     ·simp only[eE,seval,↓eP,rP,t4]
     ·simp only[eE,seval,↓eP,rP];exact hst
    ·have c0:((j:Int)==0)=false:=by rw[beq_eq_false_iff_ne];omega
     have hs0:s.length≠0:=fun e=>hend ⟨List.length_eq_zero_iff.1 e,by omega⟩
     have c1:decide (((s.length:Nat):Int)>0)=true:=by simp only[decide_eq_true_eq];omega
     simp only[QD,seval,↓eP,rP,t5,hlenS,c0,c1]
     refine hk _ ⟨?_,?_,?_,?_,hf,hnx,hold⟩
     ·simp only[eE,seval,↓eP,rP,t0]
     ·simp only[eE,seval,↓eP,rP,t5]
     ·simp only[eE,seval,↓eP,rP,t4]
     ·simp only[eE,seval,↓eP,rP];exact hst
   show WK _ _ _ (.seq (lf Y4) (.seq (.block 1 SU) _)) _ _
   rw[KG]
   refine head _ _ fun T2 hB2=>?_
   rw[WR]
   refine U_ hc hB2 hfl (by omega) (by omega) (fun f s' he=>?_) fun T3 H3 hB3 h6=>?_
   ·have h1:=hok f (by rw[he];simp)
    have h2:=htop f s' he
    exact⟨h1.1,by omega,h1.2.1,h1.2.2.1,h1.2.2.2⟩
   have old3:=hB3.2.2.2.2.2.2
   refine TX hc hv hB3 m8 h6 (fun hb T4 u2=>?_) fun x hx hgood T4 hB4 h6'=>?_
   ·have hR:R=some j:=by
     rw[← hrun']
     rcases hb with hb | ⟨x,hx,hb⟩
     ·simp only[JB,hb]
     ·simp only[JB,hx,hb,Bool.false_eq_true,if_false]
    subst hR
    simp only[eE,seval,↓eP,rP,u2]
    exact old3
   refine VB hc hv hB4 m8 h6' hx (fun hb T5 u2=>?_) fun hb T5 hB5=>?_
   ·have hR:R=some j:=by
     rw[← hrun']
     simp only[JB,hx,hgood,if_true]
     rw[if_pos hb]
    subst hR
    simp only[eE,seval,↓eP,rP,u2]
    exact old3
   have hjl:j<l.length:=(List.getElem?_eq_some_iff.1 hx).1
   have hg:=Bool.and_eq_true_iff.1 hgood
   obtain⟨hk0,hk1⟩:=rW hg.2
   have hkk:=v_ hg.1
   have hx64:=h64 x (List.mem_of_getElem? hx)
   refine pQ hv hB5 hx hk0 hfl (by rw[XJ];omega) fun T6 H6 hB6=>?_
   refine Br hB6 (by simp only[List.length_cons,XJ];omega) (by simp only[List.length_cons,XJ];omega) fun T7 hB7=>?_
   have old7:=hB7.2.2.2.2.2.2
   simp only[JB,hx,hgood,if_true] at hrun'
   rw[if_neg hb] at hrun'
   have hplen:=kL (⟨x.kind,x.kids.toNat,0⟩ :: I6 s)
   simp only[List.length_cons,XJ] at hplen
   have hdec:=uS hok htop
   have hall:∀ f∈FC (⟨x.kind,x.kids.toNat,0⟩ :: I6 s),TW (j+1) f:=fun f hf=>by
    rcases List.mem_cons.1 (gH hf) with rfl | hf
    ·refine⟨hkk,?_,by simp only;omega,by simp only;omega⟩
     rcases hk1 with h | h | h
     ·exact .inl h
     ·exact .inr (.inl h)
     ·exact .inr (.inr (by simp only;omega))
    ·exact hdec f hf
   have htop':∀ f s',FC (⟨x.kind,x.kids.toNat,0⟩ :: I6 s)=f :: s'→f.left≠0:=fun f s' he=>n8 he
   generalize FC (⟨x.kind,x.kids.toNat,0⟩ :: I6 s)=s2 at *
   generalize (if K2 s=9 then ev||CC 1 x.kind else ev)=ev2 at *
   simp only at hrun'
   refine wG hv hB7 (by omega) (fun e1 e2 T8 u2=>?_) fun e1 T8 hB8=>?_
   ·rw[if_pos e1,if_pos e2] at hrun'
    subst hrun'
    simp only[eE,seval,↓eP,rP,u2]
    exact old7
   ·obtain⟨y0,y5,y4,yst,yf,yn,yold⟩:=hB8
    simp only[eE,↓reduceIte,Nat.reduceEqDiff,reduceCtorEq,↓eP,rP,Nat.reduceAdd,Nat.reduceLT,y5,w1]
    refine⟨hjl,s2,ev2,⟨?_,?_,?_,?_,yf,yn,yold⟩,by omega,hall,htop',?_⟩
    ·simp only[eE,↓reduceIte,Nat.reduceEqDiff,reduceCtorEq,↓eP,rP,Nat.reduceAdd,Nat.reduceLT,y0]
    ·simp only[eE,↓reduceIte,Nat.reduceEqDiff,reduceCtorEq,↓eP,rP,Nat.reduceAdd,Nat.reduceLT]
    ·simp only[eE,↓reduceIte,Nat.reduceEqDiff,reduceCtorEq,↓eP,rP,Nat.reduceAdd,Nat.reduceLT,y4]
    ·simp only[eE,↓reduceIte,Nat.reduceEqDiff,reduceCtorEq,↓eP,rP,Nat.reduceAdd,Nat.reduceLT];exact yst
    ·by_cases h0:s2=[]
     ·refine .inr ⟨h0,by omega,?_⟩
      rw[if_pos h0,if_neg (fun h=>e1 ⟨h0,h⟩)] at hrun'
      exact hrun'.symm
     ·rw[if_neg h0] at hrun'
      refine .inl ⟨.inl h0,?_⟩
      rw[show l.length+1-(j+1)=m by omega]
      exact hrun'
end
theorem dB (k:Int) (h:AA):L0 101 [iv k] h=some (.bool (decide (k≥2)&&decide (k≤7)),h):=EG rfl rfl rfl rfl ⟨_,xW⟩
theorem mG (k:Int) (h:AA):L0 102 [iv k] h=some (.bool (DU k),h):=EG rfl rfl rfl rfl ⟨_,wH⟩
theorem vH {w k:Int} (h:AA) (hw:LD w):L1 111 [iv k,iv (GI w)] h=some (.bool (EW w k),h):=by
 refine EG (F1 rfl rfl) rfl rfl rfl ⟨_,wJ hw (EY (dB k _)) (EY (mG k _)) ?_ ?_⟩
 ·exact(NE (n:=11) (base:=L0) (F1 rfl rfl)).trans x8
 ·exact(NE (n:=11) (base:=L0) (F1 rfl rfl)).trans sT
theorem Ct (k:Int) (h:AA) (hk:1≤k∧k≤54):L0 112 [iv k] h=some (.bool (IE k),h):=EG rfl rfl rfl rfl (HJ Cd hk)
theorem Db (k:Int) (h:AA) (hk:1≤k∧k≤54):L0 113 [iv k] h=some (.bool (GH k),h):=EG rfl rfl rfl rfl (HJ zV hk)
theorem sR (k:Int) (h:AA) (hk:1≤k∧k≤54):L0 115 [iv k] h=some (.tuple #[iv (E1 k),iv (CJ k)],h):=EG rfl rfl rfl (NU rfl rfl) (HJ qH hk)
theorem Aj {w:Int} {x:AB} (h:AA) (hw:LD w):L3 100 [C_ x,iv (GI w)] h=some (.bool (EW w x.kind&&DE AR x),h):=by
 refine EG (MO (F1 (F1 rfl rfl) rfl) rfl) rfl ?_ rfl (qJ (pX (fun h=>EY (KE (vH h hw))) (fun h hk=>EY (KE (F4 (Ct _ h hk)))) (fun h hk=>EY (KE (F4 (Db _ h hk)))) (fun h=>EY (Jn h _)) (fun h hk=>EY (KE (F4 (sR _ h hk))))))
 simp[LV,flat,BO]
section
variable {call:AK} {n:Nat}
theorem tI {j:Nat} {h:AA}:AW Tryd.prog call n 99 [iv 1,iv j] h=some (iv 1,h):=by
 refine DW Tryd.func99 rfl (by simp[Tryd.f99]) ?_
 have hr:Tryd.f99.results.toList=[.tmp 4]:=rfl
 simp only[eE,seval,↓eP,rP,hr]
theorem Eg {j:Nat} {h:AA}:AW Tryd.prog call n 99 [iv 11,iv j] h=some (iv 3,h):=by
 refine DW Tryd.func99 rfl (by simp[Tryd.f99]) ?_
 have hr:Tryd.f99.results.toList=[.tmp 4]:=rfl
 simp only[eE,seval,↓eP,rP,hr,Int.reduceBEq]
end
theorem Eb (k:Int):CJ k≤3:=by unfold CJ;(repeat' split) <;> omega
theorem Di (k:Int) (j:Nat) (h:AA) (hk:1≤k∧k≤54) (hj:k=1∨k=11∨(j:Int)<CJ k):L0 99 [iv k,iv j] h=some (iv (PI k j),h):=by
 rcases hj with rfl | rfl | hj
 ·exact EG rfl rfl rfl rfl ⟨_,tI⟩
 ·exact EG rfl rfl rfl rfl ⟨_,Eg⟩
 ·have:=Eb k
  obtain rfl | rfl | rfl:j=0∨j=1∨j=2:=by omega
  ·exact EG rfl rfl rfl rfl (HJ zN hk)
  ·exact EG rfl rfl rfl rfl (HJ vQ hk)
  ·exact EG rfl rfl rfl rfl (HJ rY hk)
theorem sO (n:Nat):RW (AU n) where
 kid:=fun κ j h hκ hj=>FW (F4 (Di κ j h hκ hj))
 right:=fun w x h hw=>mV (Aj h hw)
 decl:=fun k h=>FW (F4 (dB k h))
 event:=fun k h=>FW (F4 (mG k h))
section
variable {call:AK} {n:Nat}
theorem tD {l:List AB} {v:Value} {h:AA} (hv:AL h v l) (hfl:h.floor≤h.next)
  (h84:∀ h',AL h' v l→h'.floor≤h'.next→call 84 [v] h'=some (iv (match G8 AR l with | some p=>(p:Int) | none=>-1),h'))
  (h85:G8 AR l=none→∀ h',AL h' v l→h'.floor≤h'.next→call 85 [v] h'=some (iv (CX l (l.length+1) 0).1,h')) :
  ∃ h1,AW Tryd.prog call n 55 [v] h=some (FI (BF l).1 (BF l).2,h1)∧∀ i,i<h.next→h1.get i=h.get i:=by
 refine E0 (R:=fun h1=>∀ i,i<h.next→h1.get i=h.get i) Tryd.func55 rfl (by simp[Tryd.f55]) ?_
 have hr:Tryd.f55.results.toList=[.cell 2 33]:=rfl
 have hold:∀ o:BB,∀ i,i<h.next→(h.push o).get i=h.get i:=fun o i hi=>AM hi
 have hvp:=hv.mono (h':=h.push (.row [.int .i64 0,.int .i64 0] 33 false false)) (by show h.next≤h.next+1;omega) (hold _)
 have h84':=h84 _ hvp (by show h.floor≤h.next+1;omega)
 have hflT:(h.floor≤h.next)=True:=by simpa using hfl
 have hltT:(h.next<h.next+1)=True:=by simp
 unfold BF
 cases hs:G8 AR l with
 | some p=>
  rw[hs] at h84'
  have c1:decide ((p:Int)≥0)=true:=by simp
  simp only[eE,seval,↓eP,rP,hr,HT,HP,h84',c1,OA,PE,PM,JT,OO,hflT,hltT]
  intro i hi
  rw[if_neg (by omega),if_neg (by omega)]
 | none=>
  have h85':=h85 hs _ hvp (by show h.floor≤h.next+1;omega)
  rw[hs] at h84'
  have c1:decide ((-1:Int)≥0)=false:=rfl
  cases c2:decide ((CX l (l.length+1) 0).1>64) with
  | true=>
   rw[if_pos (by simpa using c2)]
   simp only[eE,seval,↓eP,rP,hr,c2,HT,HP,h84',h85',dM,PE,PM,JT,OO,hflT,hltT]
   intro i hi
   rw[if_neg (by omega),if_neg (by omega)]
  | false=>
   rw[if_neg (by simpa using c2)]
   simp only[eE,seval,↓eP,rP,hr,c2,HT,HP,h84',h85',TJ,PE,PM,JT,OO,hflT,hltT]
   intro i hi
   rw[if_neg (by omega),if_neg (by omega)]
end
theorem Cv {n:Nat} {l:List AB} {v:Value} (hn:l.length+12<n) (hlen:l.length<2932031007403) (h64:∀ x∈l,x.kids≤9223372036854775807) {h:AA} (hv:AL h v l) (hfl:h.floor≤h.next) :
  AU n 55 [v] h=some (FI (BF l).1 (BF l).2,h):=by
 obtain⟨n,rfl⟩:∃ k,n=k+4:=⟨n-4,by omega⟩
 refine JA (CV ⟨rfl,rfl,rfl⟩) rfl (tD hv hfl (fun h' hv' hfl'=>?_) fun hs h' hv' hfl'=>?_)
 ·exact JA (CV ⟨rfl,rfl,rfl⟩) rfl (Iv (sO _) hv' hlen (by omega) hfl' h64)
 ·have ht:=QS hs
  refine JA (CV ⟨rfl,rfl,rfl⟩) rfl (Ff ht hv' (by omega) (by omega) hfl' ?_ fun P K k h hP hK=>FW (rA P K k h hP hK))
  refine OE (CV ⟨rfl,rfl,rfl⟩) ?_ (Iq ht hv' (by omega) (by omega) hfl' fun H hvH hflH=>kU ht hvH (by omega) (by omega) hflH)
  simp[E_,flat,BO]
theorem oF {k:Int} (h:BJ k≠0):C8 k=0∧DU k=false:=by
 have:k=2∨k=3∨k=4∨k=5∨k=7:=by
  unfold BJ at h
  split at h
  ·rename_i h1
   simp only[List.contains_cons,List.contains_nil,Bool.or_false,Bool.or_eq_true,beq_iff_eq] at h1
   omega
  ·split at h
   ·omega
   ·split at h
    ·omega
    ·split at h
     ·omega
     ·exact absurd rfl h
 obtain rfl | rfl | rfl | rfl | rfl:=this <;> exact⟨rfl,rfl⟩
theorem lM {E:List Int} {at_:Nat} {s:AN} {x:AB} (hx:s.rows[at_]?=some x) (hd:BJ x.kind≠0) :
  DX E at_ s=if C1 x s≠0 then (C1 x s,s) else (0,BD at_ ((E[at_]?).getD 0) x s):=by
 obtain⟨hc,he⟩:=oF hd
 unfold DX
 rw[hx]
 simp only
 split
 ·rfl
 ·have hr:(BD at_ ((E[at_]?).getD 0) x s).rows[at_]?=some { x with n:=(BA s (BJ x.kind):Int) }:=by
   rw[WJ,if_neg hd]
   exact IG hx
  rw[hr]
  simp only
  have h1:CA at_ { x with n:=(BA s (BJ x.kind):Int) } (BD at_ ((E[at_]?).getD 0) x s)=0:=by unfold CA;rw[if_pos hc]
  have h2:BM at_ { x with n:=(BA s (BJ x.kind):Int) } (BD at_ ((E[at_]?).getD 0) x s)=BD at_ ((E[at_]?).getD 0) x s:=by unfold BM;rw[if_pos hc]
  rw[h1,h2,hr,if_neg (by simp)]
  simp only
  have h3:CH { x with n:=(BA s (BJ x.kind):Int) } (BD at_ ((E[at_]?).getD 0) x s)=0:=by unfold CH;rw[if_pos he]
  have h4:CQ at_ { x with n:=(BA s (BJ x.kind):Int) } (BD at_ ((E[at_]?).getD 0) x s)=BD at_ ((E[at_]?).getD 0) x s:=by unfold CQ;rw[if_pos he]
  rw[h3,h4,if_neg (by simp)]
theorem lR {E:List Int} {at_:Nat} {s:AN} {x:AB} (hx:s.rows[at_]?=some x) (hd:BJ x.kind=0) :
  DX E at_ s=if CA at_ x s≠0 then (CA at_ x s,s) else match (BM at_ x s).rows[at_]? with
   | none=>(0,s)
   | some x2=>if CH x2 (BM at_ x s)≠0 then (CH x2 (BM at_ x s),s) else (0,CQ at_ x2 (BM at_ x s)):=by
 have h1:C1 x s=0:=by unfold C1;rw[if_pos hd]
 have h2:BD at_ ((E[at_]?).getD 0) x s=s:=by unfold BD;rw[if_pos hd]
 unfold DX
 rw[hx]
 simp only
 rw[h1,h2,hx,if_neg (by simp)]
 all_goals rfl
theorem U4 {at_:Nat} {s:AN} {x:AB} (hx:s.rows[at_]?=some x) (hc:CA at_ x s=0) :
  ∃ n,(BM at_ x s).rows[at_]?=some { x with n:=n }∧(∀ i,i≠at_→(BM at_ x s).rows[i]?=s.rows[i]?)∧(BM at_ x s).rules=s.rules∧(BM at_ x s).on=s.on∧(BM at_ x s).things=s.things ∧
   ((C8 x.kind=0∧n=x.n)∨∃ t∈s.things,t.kind=C8 x.kind∧n=t.num∧t.known≤at_∧EM s.things x.name=some t):=by
 unfold CA at hc
 unfold BM
 by_cases h0:C8 x.kind=0
 ·rw[if_pos h0]
  exact⟨x.n,hx,fun _ _=>rfl,rfl,rfl,rfl,.inl ⟨h0,rfl⟩⟩
 ·rw [if_neg h0] at hc ⊢
  cases hf:EM s.things x.name with
  | none=>rw[hf] at hc;cases hc
  | some t=>
   rw[hf] at hc
   simp only at hc ⊢
   refine⟨t.num,IG hx,fun i hi=>MN hi,trivial,trivial,trivial,.inr ⟨t,XV hf,?_,rfl,?_,rfl⟩⟩
   ·split at hc
    ·cases hc
    ·split at hc
     ·cases hc
     ·rename_i h;simpa using h
   ·split at hc
    ·cases hc
    ·omega
def TR (l:List AB) (i:Nat):Prop:=∃ x,l[i]?=some x∧11≤x.kind
theorem rC {w k:Int} (hw:2≤w∧w≤7) (h:CC w k=true):11≤k:=by
 unfold CC at h
 rw[if_neg (by omega),if_neg (by omega),if_neg (by omega)] at h
 (repeat' split at h) <;> simp only[beq_iff_eq,Bool.and_eq_true,Bool.or_eq_true,decide_eq_true_eq] at h <;> omega
theorem nT (k:Int) (j:Nat):2≤BT k j∧BT k j≤7:=by unfold BT;(repeat' split) <;> omega
theorem Cy {l:List AB}:∀ m at_ what,(2≤what∧what≤7)→(BQ AR l m at_ what).2=true→∀ i,at_≤i→i<(BQ AR l m at_ what).1→TR l i:=by
 intro m
 induction m with
 | zero=>intro at_ what _ h;cases h
 | succ m ih=>
  intro at_ what hw
  unfold BQ
  cases hx:l[at_]? with
  | none=>intro h;cases h
  | some x=>
   simp only
   split
   ·rename_i hc
    intro h i h1 h2
    rcases Nat.lt_or_ge at_ i with h3 | h3
    ·exact Y5 (V:=TR l) (fun k p hk i h1 h2=>ih p (BT x.kind k) (nT _ _) hk i h1 h2) x.kids.toNat 0 (at_+1) h i h3 h2
    ·have:i=at_:=by omega
     subst this
     exact⟨x,hx,rC hw (Bool.and_eq_true_iff.1 hc).1⟩
   ·intro h;cases h
theorem Au {l:List AB} {r q:Nat} {x:AB} (h:D_ l r q) (hx:l[r]?=some x) (h1:x.kind≠1):∀ i,r<i→i<q→TR l i:=by
 intro i hi hq
 rcases h with⟨m,what,h⟩ | ⟨rfl,m,h⟩
 ·cases m with
  | zero=>cases h
  | succ m=>
   rw[WT hx] at h
   split at h
   ·have e1:(EF (fun k next=>BQ AR l m next (BT x.kind k)) x.kids.toNat 0 (r+1)).2=true:=by rw[h]
    have e2:(EF (fun k next=>BQ AR l m next (BT x.kind k)) x.kids.toNat 0 (r+1)).1=q:=by rw[h]
    exact Y5 (V:=TR l) (fun k p hk i h1 h2=>Cy m p (BT x.kind k) (nT _ _) hk i h1 h2) x.kids.toNat 0 (r+1) e1 i hi (by rw[e2];exact hq)
   ·cases h
 ·rw[TQ hx] at h
  split at h
  ·rename_i hc
   have:=(Bool.and_eq_true_iff.1 hc).1
   exact absurd (by simpa [CC] using this) h1
  ·cases h
structure PY (l:List AB) (at_:Nat) (s:AN):Prop where
 rul:∀ (j:Nat) (ru:Int),s.rules[j]?=some ru→∃ r:Nat,ru=(r:Int)+1∧r<at_∧∃ x,l[r]?=some x∧x.kind=7
 inc:∀ (j j':Nat) (ru ru':Int),j<j'→s.rules[j]?=some ru→s.rules[j']?=some ru'→ru<ru'
 th:∀ t∈s.things,t.kind=4→0≤t.num∧∃ r:Nat,s.rules[t.num.toNat]?=some ((r:Int)+1)∧t.known=(BV l r:Int)
 call:∀ (i:Nat) (x:AB),i<at_→s.rows[i]?=some x→x.kind=22→∃ r:Nat,s.rules[x.n.toNat]?=some ((r:Int)+1)∧BV l r≤i
theorem Cc (l:List AB):PY l 0 (A_ l) where
 rul:=fun j ru h=>by simp[A_] at h
 inc:=fun j j' ru ru' _ h=>by simp[A_] at h
 th:=fun t h=>by simp[A_] at h
 call:=fun i x h=>by omega
theorem uO {k:Int} (h:BJ k=4):k=7:=by
 unfold BJ at h
 (repeat' split at h) <;> simp_all
theorem vC {l:List AB} {at_:Nat} {s:AN} (ht:CU l) (hat:at_<l.length) (hi:FQ l at_ s) (hL:PY l at_ s) (h0:(DX (AI l) at_ s).1=0):PY l (at_+1) (DX (AI l) at_ s).2:=by
 obtain⟨x,hx⟩:∃ x,s.rows[at_]?=some x:=⟨_,List.getElem?_eq_getElem (by rw[hi.len];exact hat)⟩
 have hxl:l[at_]?=some x:=by rw[← hi.later at_ (Nat.le_refl _)];exact hx
 have hE:((AI l)[at_]?).getD 0=(BV l at_:Int):=by rw[MF hat];rfl
 by_cases hd:BJ x.kind=0
 ·rw [lR hx hd] at h0 ⊢
  by_cases hc:CA at_ x s=0
  case neg=>rw[if_pos hc] at h0;exact absurd h0 hc
  rw[if_neg (by simpa using hc)] at h0 ⊢
  obtain⟨n,c1,c2,c3,c4,c5,c6⟩:=U4 hx hc
  rw[c1] at h0 ⊢
  simp only at h0 ⊢
  by_cases hv:CH { x with n:=n } (BM at_ x s)=0
  case neg=>rw[if_pos hv] at h0;exact absurd h0 hv
  rw[if_neg (by simpa using hv)]
  have e1:(CQ at_ { x with n:=n } (BM at_ x s)).rows=(BM at_ x s).rows∧(CQ at_ { x with n:=n } (BM at_ x s)).rules=s.rules∧(CQ at_ { x with n:=n } (BM at_ x s)).things=s.things:=by
   unfold CQ
   split
   ·exact⟨rfl,c3,c5⟩
   ·split
    ·exact⟨rfl,c3,c5⟩
    ·exact⟨rfl,c3,c5⟩
  obtain⟨e1,e2,e3⟩:=e1
  simp only
  refine⟨fun j ru h=>?_,fun j j' ru ru' h1 h2 h3=>?_,fun t h1 h2=>?_,fun i y h1 h2 h3=>?_⟩
  ·rw[e2] at h
   obtain⟨r,r1,r2,r3⟩:=hL.rul j ru h
   exact⟨r,r1,by omega,r3⟩
  ·rw[e2] at h2 h3
   exact hL.inc j j' ru ru' h1 h2 h3
  ·rw[e3] at h1
   rw[e2]
   exact hL.th t h1 h2
  ·rw[e1] at h2
   rw[e2]
   by_cases hia:i=at_
   ·subst hia
    rw[c1] at h2
    cases h2
    rcases c6 with⟨h4,_⟩ | ⟨t,t1,t2,t3,t4,_⟩
    ·have h3':x.kind=22:=h3
     rw[h3'] at h4
     cases h4
    ·have h3':x.kind=22:=h3
     rw[h3'] at t2
     obtain⟨k1,r,k2,k3⟩:=hL.th t t1 t2
     simp only
     rw[t3]
     exact⟨r,k2,by omega⟩
   ·rw[c2 i hia] at h2
    exact hL.call i y (by omega) h2 h3
 ·rw [lM hx hd] at h0 ⊢
  by_cases hc:C1 x s=0
  case neg=>rw[if_pos hc] at h0;exact absurd h0 hc
  rw[if_neg (by simpa using hc)]
  simp only
  have hS:BD at_ (((AI l)[at_]?).getD 0) x s=DJ at_ (BV l at_) x s:=by unfold BD;rw[if_neg hd,hE]
  rw[hS]
  have hrul:(DJ at_ (BV l at_) x s).rules=if BJ x.kind=4 then s.rules++[(at_:Int)+1] else s.rules:=rfl
  have hth:(DJ at_ (BV l at_) x s).things=s.things++[⟨x.name,BJ x.kind,BA s (BJ x.kind),BV l at_⟩]:=rfl
  have hrows:(DJ at_ (BV l at_) x s).rows=E9 s.rows at_ (BA s (BJ x.kind)):=rfl
  have old:∀ (j:Nat) (ru:Int),s.rules[j]?=some ru→(DJ at_ (BV l at_) x s).rules[j]?=some ru:=fun j ru h=>by
   rw[hrul]
   split
   ·rw[List.getElem?_append_left (List.getElem?_eq_some_iff.1 h).1];exact h
   ·exact h
  have new:∀ (j:Nat) (ru:Int),(DJ at_ (BV l at_) x s).rules[j]?=some ru→s.rules[j]?=some ru∨(BJ x.kind=4∧j=s.rules.length∧ru=(at_:Int)+1):=fun j ru h=>by
   rw[hrul] at h
   split at h
   ·rename_i h4
    rcases Nat.lt_or_ge j s.rules.length with h5 | h5
    ·rw[List.getElem?_append_left h5] at h
     exact .inl h
    ·rw[List.getElem?_append_right h5] at h
     have:j-s.rules.length=0:=by
      rcases Nat.eq_zero_or_pos (j-s.rules.length) with h6 | h6
      ·exact h6
      ·rw[List.getElem?_eq_none (by simp;omega)] at h;cases h
     rw[this] at h
     cases h
     exact .inr ⟨h4,by omega,rfl⟩
   ·exact .inl h
  refine⟨fun j ru h=>?_,fun j j' ru ru' h1 h2 h3=>?_,fun t h1 h2=>?_,fun i y h1 h2 h3=>?_⟩
  ·rcases new j ru h with h | ⟨h4,_,rfl⟩
   ·obtain⟨r,r1,r2,r3⟩:=hL.rul j ru h
    exact⟨r,r1,by omega,r3⟩
   ·exact⟨at_,rfl,by omega,x,hxl,uO h4⟩
  ·rcases new j ru h2 with h2 | ⟨h4,g2,rfl⟩
   ·rcases new j' ru' h3 with h3 | ⟨_,_,rfl⟩
    ·exact hL.inc j j' ru ru' h1 h2 h3
    ·obtain⟨r,r1,r2,_⟩:=hL.rul j ru h2
     omega
   ·rcases new j' ru' h3 with h3 | ⟨_,g3,_⟩
    ·have:=(List.getElem?_eq_some_iff.1 h3).1
     omega
    ·omega
  ·rw[hth] at h1
   rcases List.mem_append.1 h1 with h1 | h1
   ·obtain⟨a,r,b,c⟩:=hL.th t h1 h2
    exact⟨a,r,old _ _ b,c⟩
   ·rw[List.mem_singleton.1 h1] at h2 ⊢
    simp only at h2 ⊢
    refine⟨by omega,at_,?_,rfl⟩
    rw[h2]
    have:BA s 4=s.rules.length:=rfl
    rw[this,hrul,if_pos h2,Int.toNat_natCast,List.getElem?_append_right (Nat.le_refl _),Nat.sub_self]
    rfl
  ·rw[hrows] at h2
   by_cases hia:i=at_
   ·subst hia
    rw[IG hx] at h2
    cases h2
    have h3':x.kind=22:=h3
    rw[h3'] at hd
    exact absurd rfl hd
   ·rw[MN hia] at h2
    obtain⟨r,r1,r2⟩:=hL.call i y (by omega) h2 h3
    exact⟨r,old _ _ r1,r2⟩
theorem g8 {l:List AB} (ht:CU l):∀ r at_ s,at_+r=l.length→FQ l at_ s→PY l at_ s→(BG (AI l) r at_ s).1=0→PY l l.length (BG (AI l) r at_ s).2.2
 | 0,at_,s,hr,_,hi,_=>by
  have:at_=l.length:=by omega
  subst this
  exact hi
 | r+1,at_,s,hr,hiR,hi,h0=>by
  unfold BG at h0 ⊢
  by_cases h:(DX (AI l) at_ s).1=0
  ·rw[if_neg (by simpa using h)] at h0 ⊢
   exact g8 ht r (at_+1) _ (by omega) (O5 ht (RL at_) (by omega) hiR h) (vC ht (by omega) hiR hi h) h0
  ·rw[if_pos h] at h0
   exact absurd h0 h
theorem zW {l:List AB} {s:AN} (ht:CU l) (hlen:l.length<2932031007403) (hi:FQ l l.length s) (hL:PY l l.length s):S9 s.rows (AI l) s.rules where
 lay:=lI ht hlen hi
 ahead:=fun i ru hru x hx h22=>by
  obtain⟨r,rfl,hr,y,hy,hy7⟩:=hL.rul i ru hru
  have hs:=ht.end hr
  obtain⟨z,hz,_,_,hch⟩:=hs.kids
  rw[hy] at hz
  cases hz
  have hfit:=ht.row hy
  have hk1:1≤y.kids:=by
   have h1:=hfit.2.2.1
   rw[hy7] at h1
   exact h1
  have hle:=H5 _ _ _ hch
  have hlt:=hs.lt
  have hr1:r+1<l.length:=by omega
  obtain⟨qi,s1,s2⟩:=D_.cover (BV l r-r) (by omega) hs (r+1) (by omega) (by omega)
  have hq1:=OW s1
  have e1:((r:Int)+1).toNat=r+1:=by omega
  rw[e1] at hx
  unfold blk at hx
  rw[MF hr1] at hx
  simp only[Option.getD_some,Int.toNat_natCast] at hx
  rw[hq1] at hx
  obtain⟨d,hd,hxd⟩:=List.getElem_of_mem hx
  rw[List.length_take,List.length_drop] at hd
  have hxa:s.rows[r+1+d]?=some x:=by
   rw[← hxd,← List.getElem?_eq_getElem,List.getElem?_take_of_lt (by omega),List.getElem?_drop]
  obtain⟨rj,c1,c2⟩:=hL.call (r+1+d) x (by rw[← hi.len];exact(List.getElem?_eq_some_iff.1 hxa).1) hxa h22
  have hn0:=(hi.calls _ _ (by rw[← hi.len];exact(List.getElem?_eq_some_iff.1 hxa).1) hxa h22).1
  have hj:¬ i≤x.n.toNat:=by
   intro hij
   obtain⟨rj',h1,hrj,w,hw,hw7⟩:=hL.rul _ _ c1
   have:rj'=rj:=by omega
   subst this
   have hse:=(ht.end hrj).lt
   rcases Nat.eq_or_lt_of_le hij with h2 | h2
   ·rw[← h2,hru] at c1
    have:r=rj':=by
     simp only[Option.some.injEq] at c1
     omega
    subst this
    omega
   ·have h3:=hL.inc i x.n.toNat _ _ h2 hru c1
    rcases Nat.lt_or_ge rj' (BV l r) with h4 | h4
    ·obtain⟨w',hw',h5⟩:=Au hs hy (by omega) rj' (by omega) h4
     rw[hw] at hw'
     cases hw'
     omega
    ·omega
  omega
section
variable {call:AK} {N:Nat} {h:AA}
theorem tL {k:Int}:AW Tryd.prog call N 87 [iv k] h=some (iv (GA k),h):=by
 refine DW Tryd.func87 rfl (by simp[Tryd.f87]) ?_
 have hr:Tryd.f87.results.toList=[.tmp 2]:=rfl
 unfold GA
 by_cases h1:k=1
 ·have c1:(k==1)=true:=by simpa using h1
  rw[if_pos h1]
  simp only[eE,seval,↓eP,rP,hr,c1]
 have c1:(k==1)=false:=by simpa using h1
 rw[if_neg h1]
 by_cases h2:k=2
 ·have c2:(k==2)=true:=by simpa using h2
  rw[if_pos h2]
  simp only[eE,seval,↓eP,rP,hr,c1,c2]
 have c2:(k==2)=false:=by simpa using h2
 rw[if_neg h2]
 by_cases h3:k=3
 ·have c3:(k==3)=true:=by simpa using h3
  rw[if_pos h3]
  simp only[eE,seval,↓eP,rP,hr,c1,c2,c3]
 have c3:(k==3)=false:=by simpa using h3
 rw[if_neg h3]
 simp only[eE,seval,↓eP,rP,hr,c1,c2,c3]
theorem Bb {k:Int}:AW Tryd.prog call N 80 [iv k] h=some (iv (GA k),h):=by
 refine DW Tryd.func80 rfl (by simp[Tryd.f80]) ?_
 have hr:Tryd.f80.results.toList=[.tmp 2]:=rfl
 unfold GA
 by_cases h1:k=1
 ·have c1:(k==1)=true:=by simpa using h1
  rw[if_pos h1]
  simp only[eE,seval,↓eP,rP,hr,c1]
 have c1:(k==1)=false:=by simpa using h1
 rw[if_neg h1]
 by_cases h2:k=2
 ·have c2:(k==2)=true:=by simpa using h2
  rw[if_pos h2]
  simp only[eE,seval,↓eP,rP,hr,c1,c2]
 have c2:(k==2)=false:=by simpa using h2
 rw[if_neg h2]
 by_cases h3:k=3
 ·have c3:(k==3)=true:=by simpa using h3
  rw[if_pos h3]
  simp only[eE,seval,↓eP,rP,hr,c1,c2,c3]
 have c3:(k==3)=false:=by simpa using h3
 rw[if_neg h3]
 simp only[eE,seval,↓eP,rP,hr,c1,c2,c3]
end
theorem sQ (k:Int) (h:AA):L1 87 [iv k] h=some (iv (GA k),h):=EG (F1 rfl rfl) rfl rfl rfl ⟨_,tL⟩
theorem Ib (k:Int) (h:AA):L1 80 [iv k] h=some (iv (GA k),h):=EG (F1 rfl rfl) rfl rfl rfl ⟨_,Bb⟩
theorem Fe (k:Int) (h:AA) (hk:1≤k∧k≤54):L0 31 [iv k] h=some (iv (BJ k),h):=EG rfl rfl rfl rfl (HJ zK hk)
theorem Gp (k:Int) (h:AA) (hk:1≤k∧k≤54):L0 32 [iv k] h=some (iv (C8 k),h):=EG rfl rfl rfl rfl (HJ u_ hk)
theorem YK (k:Int) (h:AA) (hk:1≤k∧k≤54):L0 59 [iv k] h=some (.bool (DU k),h):=EG rfl rfl rfl rfl (HJ z7 hk)
section
variable {n lo m e r k:Nat} {h:AA} {nm:ByteArray} {E:List Int} {s:AN}
theorem iN {y:ByteArray} {tag:Nat→Nat} {V:Nat→Value} {C:List Int} (hp:B7 h lo m e r k nm E tag V C s) (hth:s.things.length<100000) (hn:100005<n):AU n 86 [qP m 0,.string y] h=some (iv (JM s.things y 0),h):=by
 obtain⟨n,rfl⟩:=ET hn
 exact J0 (CV ⟨rfl,rfl,rfl⟩) rfl (zT hp (by omega) (by omega))
theorem Bu {at_:Nat} {end_:Int} {x:AB} (hp:E2 h lo m e r k nm E s) (hx:s.rows[at_]?=some x) (hd:BJ x.kind≠0) (hat:at_<30000000000000) (hE:E[at_]?=some end_) (he:0≤end_) (hth:s.things.length<100000) (hn:100010<n) :
  ∃ h',AU n 57 [qP m 0,iv at_,iv (BJ x.kind)] h=some (iv (C1 x s),h')∧(E6 h h' lo∧(C1 x s=0→E2 h' lo m e r k nm E (BD at_ end_ x s))):=by
 obtain⟨n,rfl⟩:=ET hn
 exact OJ (CV ⟨rfl,rfl,rfl⟩) (Ha hp hx hd hat hE he hth (by omega) (fun y H tag V C hp'=>iN hp' hth (by omega)) fun k h'=>FW (sQ k h'))
theorem Jz {at_:Nat} {x:AB} (hp:E2 h lo m e r k nm E s) (hx:s.rows[at_]?=some x) (hd:C8 x.kind≠0) (hat:at_<30000000000000) (hth:s.things.length<100000) (hn:100010<n) :
  ∃ h',AU n 58 [qP m 0,iv at_,iv (C8 x.kind)] h=some (iv (CA at_ x s),h')∧(E6 h h' lo∧(CA at_ x s=0→E2 h' lo m e r k nm E (BM at_ x s))):=by
 obtain⟨n,rfl⟩:=ET hn
 exact OJ (CV ⟨rfl,rfl,rfl⟩) (Ef hp hx hd hat fun y H tag V C hp'=>iN hp' hth (by omega))
theorem Jx {at_:Nat} {x:AB} (hp:E2 h lo m e r k nm E s) (hx:s.rows[at_]?=some x) (hev:DU x.kind=true) (hat:at_<30000000000000) (hxn:x.kind≠10→0≤x.n∧x.n<s.on.length) (hn:0<n) :
  ∃ h',AU n 60 [qP m 0,iv at_] h=some (iv (CH x s),h')∧(E6 h h' lo∧(CH x s=0→E2 h' lo m e r k nm E (CQ at_ x s))):=by
 obtain⟨n,rfl⟩:=ET hn
 exact OJ (CV ⟨rfl,rfl,rfl⟩) (tM hp hx hev hat hxn)
end
section
variable {n:Nat} {h:AA} {rows:List AB} {E rules:List Int} {vr v0 vq vv vt vu vo v7 ve:Value}
theorem oQ {S:List Int} {row le ls:Nat} {vs:Value} (hone:one v0=true∧one vq=true∧one vv=true∧one vt=true∧one vu=true∧one vo=true∧one v7=true) (hv:AL h vr rows) (he:BY le h ve E) (hS:BY ls h vs S) (hs:HV S) (hL:NF rows E rules) (hrow:row<rows.length) (hn:rows.length+8<n)
  (hcalls:∀ x∈blk rows E row,x.kind=22→0≤x.n∧x.n<S.length):AU n 63 [.agg #[v0,vr,vq,vv,vt,vu,vo,v7],ve,vs,iv (row:Int)] h=some (iv (D4 rows E S row),h):=by
 obtain⟨n,rfl⟩:=ET hn
 obtain⟨q,q1,q2,q3,q4⟩:=hL.end hrow
 have hc:D4 rows E S row=FY S ((rows.drop row).take (q-row)) 0:=by unfold D4;rw[q1];rfl
 rw[hc]
 rw[q4] at hcalls
 exact JA (CV ⟨rfl,rfl,rfl⟩) rfl (xA hone hv he hS hs q1 q2 q3 (by have:=hL.len;omega) (by omega) hcalls fun a b h' hb ha=>FW (iZ h' hb ha))
theorem Jy {le lu:Nat} (hone:one v0=true∧one vq=true∧one vv=true∧one vt=true∧one vo=true∧one v7=true) (hv:AL h vr rows) (he:BY le h ve E) (hu:BY lu h vu rules) (hL:S9 rows E rules) (hfl:h.floor≤h.next) (hn:rows.length+rules.length+12<n) :
  ∃ v h',AU n 61 [.agg #[v0,vr,vq,vv,vt,vu,vo,v7],ve] h=some (v,h')∧(BY h.next h' v (IV rows E rules [])∧h'.floor=h.floor∧h.next≤h'.next∧∀ i,i<h.next→h'.get i=h.get i):=by
 obtain⟨n,rfl⟩:=ET hn
 refine O6 (CV ⟨rfl,rfl,rfl⟩) (Bf hone hv he hu hL hfl (by omega) fun vs S row H ho hnx hS hSS hrow hc=>?_) fun v h1 hf ho ⟨h2,_,_,_⟩=>⟨?_,rfl,Nat.le_refl _,fun _ _=>rfl⟩
 ·obtain⟨a,b,c,d,e,f⟩:=hone
  exact oQ ⟨a,b,c,d,AV.one hu,e,f⟩ (hv.mono hnx ho) (he.mono hnx fun i _ hi=>ho i hi) hS hSS hL.lay hrow (by omega) hc
 ·obtain⟨hl,a,c,rfl,⟨h0,rfl⟩ | ⟨id,off,row,ty,g,ro,rfl,g1,g2,g3⟩⟩:=h2
  ·exact⟨hl,_,_,rfl,.inl ⟨h0,rfl⟩⟩
  ·have:E_ (.slice (some ⟨id,off,none⟩) (IV rows E rules []).length c)=false:=rfl
   rw[this] at hf
   cases hf
end
def sZ:AN:=⟨[],[],[],[],[],[],0,[]⟩
def J_ (l:List AB):ByteArray:=match l[0]? with
 | some x=>x.name
 | none=>ByteArray.empty
noncomputable def BU (l:List AB):ByteArray × AN:=if (AZ l).1.1≠0 then (ByteArray.empty,sZ) else (J_ l,(AZ l).2)
abbrev M_:Value:=.agg #[.string ByteArray.empty,Z0,Z0,Z0,Z0,Z0,Z0,iv 0]
theorem iJ (lo:Nat) (h:AA):DT lo h M_ ByteArray.empty sZ:=
 ⟨_,_,_,_,_,_,rfl,G4.of (AV.nil lo h 5),AV.nil lo h 2,AV.nil lo h 1,AV.nil lo h 1,AV.nil lo h 1,AV.nil lo h 1⟩
theorem NJ {t:TypeId} {k:Nat} (ht:BP Tryd.prog t=some k) {h:AA} {id:Nat} {vs cs:List Value} {ty:TypeId} {g:Bool} (hg:h.get id=.row cs ty g false) (hl:cs.length=k) (hn:vs.length=k) (ho:vs.all one=true) (hf:h.floor≤id) :
  BW Tryd.prog h t (qP id 0) (.agg vs.toArray)=some (h.put id (.row vs ty g false)):=by
 have hc:(Value.agg vs.toArray).cells=vs.toArray:=rfl
 have hlay:Go.Sx.lay cs 0 vs=vs:=by
  simp only[Go.Sx.lay,List.take_zero,List.nil_append,Nat.zero_add]
  rw[List.drop_of_length_le (by omega),List.append_nil]
 simp only[BW,hc,ht,GL,hg]
 rw[if_pos (by simp[hn]),if_pos (by simp only[ho];simp;omega),hlay]
theorem J7:DI Tryd.prog 30=some M_:=xK
theorem KX:flat M_=true:=rfl
theorem ZJ:G6 Tryd.prog (match Tryd.prog.underlying 30 with | some (.struct fs)=>fs.toList | _=>[])=some [(0,1),(1,1),(2,1),(3,1),(4,1),(5,1),(6,1),(7,1)]:=by kernel_rfl
theorem PT:DR Tryd.prog 30 []=some M_:=by
 have h:=ZJ
 rw[Tryd.underlying30] at h
 simp only at h
 simp only[DR,J7,KX,if_true,Tryd.underlying30,h]
 rfl
theorem uR {nm:ByteArray} {m:Int}:DR Tryd.prog 30 [(0,.string nm),(7,iv m)]=some (.agg #[.string nm,Z0,Z0,Z0,Z0,Z0,Z0,iv m]):=by
 have h:=ZJ
 rw[Tryd.underlying30] at h
 simp only at h
 simp only[DR,J7,KX,if_true,Tryd.underlying30,h]
 rfl
theorem Ke:G6 Tryd.prog (match Tryd.prog.underlying 93 with | some (.struct fs)=>fs.toList | _=>[])=some [(0,8),(8,1),(9,1),(10,5)]:=by kernel_rfl
theorem vE:DI Tryd.prog 93=some (.agg #[.string ByteArray.empty,Z0,Z0,Z0,Z0,Z0,Z0,iv 0,Z0,Z0,iv 0,iv 0,iv 0,iv 0,iv 0]):=by kernel_rfl
abbrev aL (nm:ByteArray) (m:Int) (e k:Nat):Value:=.agg #[.string nm,Z0,Z0,Z0,Z0,Z0,Z0,iv m,qS e k k,Z0,iv 0,iv 0,iv 0,iv 0,iv 0]
theorem vV {nm:ByteArray} {m:Int} {e k:Nat}:DR Tryd.prog 93 [(0,.agg #[.string nm,Z0,Z0,Z0,Z0,Z0,Z0,iv m]),(1,qS e k k)]=some (aL nm m e k):=by
 have h:=Ke
 rw[Tryd.underlying93] at h
 simp only at h
 have hf:flat (.agg #[.string ByteArray.empty,Z0,Z0,Z0,Z0,Z0,Z0,iv 0,Z0,Z0,iv 0,iv 0,iv 0,iv 0,iv 0])=true:=rfl
 simp only[DR,vE,hf,if_true,Tryd.underlying93,h]
 rfl
theorem Kc:BP Tryd.prog 31=some 1:=by kernel_rfl
theorem Ii:FK Tryd.prog 31=some false:=by kernel_rfl
theorem HQ {h:AA} {id off:Nat}:EO Tryd.prog h 31 (qP id off)=AO off (h.get id):=KJ Ii
theorem HY {id off:Nat}:BH Tryd.prog 33 (qP id off) 0=some (qP id off):=by simp[BH,Tryd.underlying33,Kc,CI]
theorem Ig {h:AA} {l:List AB} {v:Value} (hv:AL h v l) (hne:0<l.length) (hlen:l.length<2932031007403) :
  C4 Tryd.prog h 22 (Z0) v=some (qS h.next l.length AG,h.push (.row (l.flatMap AP) 46 true false)):=by
 have hsrc:=hv.src
 obtain⟨a,c,rfl,h1⟩:=hv
 have hzs:(Value.agg #[.int .i64 0,.string ByteArray.empty,.int .i64 0,.int .i64 0,.int .i64 0]).cells.size=5:=rfl
 have hu:(0:Nat)≠AG:=by unfold AG;omega
 have e1:¬ (l.length≤0):=by omega
 have e2:l.length*48≤140737488355328:=by omega
 have e3:l.length≤140737488355328:=by omega
 have h0:CL h 5 0 (Z0)=some []:=rfl
 simp only[C4,Tryd.underlying22,FX,QC,F8,hzs,hsrc,XG,hu,h0,e1,e2,e3,decide_true,beq_self_eq_true,Bool.and_self,if_true,if_false,Nat.le_refl,Nat.zero_add,Nat.zero_mul,Nat.zero_le,List.nil_append,show (0<5)=True by simp]
noncomputable def XF:Code:=rt (rt (rt (Tryd.f17.body.getD .skip)))
noncomputable def zD:Code:=rt XF
noncomputable def UR:Code:=rt zD
noncomputable def VC:Code:=rt UR
def aO:List (Bool × Bool × List Operand):=[BI,AT,AS [.tmp 4],AT]
def ZV:List (Bool × Bool × List Operand):=[(true,false,[]),(true,false,[]),(true,false,[]),(true,false,[]),(true,false,[]),AS [.tmp 21],AS [.tmp 21],AT,AT,AT]
def D2 (a:Nat) (H:AA) (pcs:List Value) (e p:Int):Prop:=H.get a=.row pcs 30 false false∧H.get (a+1)=.row [iv e,iv p] 33 false false
section
variable {N:Nat} {call:AK}
theorem Cz (hsn:BZ call) {l:List AB} {v:Value} {h:AA} {K:BS} (hfl:h.floor≤h.next) (hv:AL h v l)
  (hchk:∀ H,AL H v l→H.floor≤H.next→call 55 [v] H=some (FI (BF l).1 (BF l).2,H))
  (hk1:(BF l).1≠0→∀ T' H,T'.get 2=qP h.next 0→T'.get 3=qP (h.next+1) 0→D2 h.next H BR (BF l).1 (BF l).2 →
   h.next+2≤H.next→H.floor=h.floor→(∀ i,i<h.next→H.get i=h.get i)→K.ap Tryd.prog call N .ret ⟨T',H⟩)
  (hk2:(BF l).1=0→∀ T' H,T'.get 0=v→T'.get 2=qP h.next 0→T'.get 3=qP (h.next+1) 0→D2 h.next H BR 0 0 →
   h.next+2≤H.next→H.floor=h.floor→(∀ i,i<h.next→H.get i=h.get i)→WK Tryd.prog call N XF ⟨T',H⟩ K) :
  WK Tryd.prog call N (Tryd.f17.body.getD .skip) ⟨GR 0 [v] .leaf,h⟩ K:=by
 show WK _ _ _ (.seq _ (.seq _ (.seq _ XF))) _ _
 have L6:=I9 BR
 have ho2:∀ i,i<h.next→((h.push (.row BR 30 false false)).push (.row [iv 0,iv 0] 33 false false)).get i=h.get i:=fun i hi=>by rw[AM (by show i<h.next+1;omega),AM hi]
 have hc:=hchk ((h.push (.row BR 30 false false)).push (.row [iv 0,iv 0] 33 false false)) (hv.mono (by show h.next≤h.next+1+1;omega) ho2) (by show h.floor≤h.next+1+1;omega)
 have ga:=O2 (h:=h) (o:=.row BR 30 false false) (o':=.row [iv 0,iv 0] 33 false false)
 have gb:=OQ (h:=h) (o:=.row BR 30 false false) (o':=.row [iv 0,iv 0] 33 false false)
 simp only[eE,seval,↓eP,DH,DC,DN,J7,KX,L6,HT,HP,MV]
 generalize hH2:(h.push (.row BR 30 false false)).push (.row [iv 0,iv 0] 33 false false)=H2 at *
 have hn2:H2.next=h.next+1+1:=by rw[← hH2];rfl
 have hf2:H2.floor=h.floor:=by rw[← hH2];rfl
 have sF:=NJ (t:=33) NZ (h:=H2.push (.row [iv 0,iv 0] 33 false false)) (vs:=[iv (BF l).1,iv (BF l).2]) BL rfl rfl rfl (by show H2.floor≤H2.next;omega)
 simp only[eE,seval,↓eP,DH,DC,DN,hc,HT,HP,MV,sF]
 have hg4:((H2.push (.row [iv 0,iv 0] 33 false false)).put H2.next (.row [iv (BF l).1,iv (BF l).2] 33 false false)).get H2.next=.row [iv (BF l).1,iv (BF l).2] 33 false false:=CE rfl (by show H2.next<H2.next+1;omega)
 have hga:((H2.push (.row [iv 0,iv 0] 33 false false)).put H2.next (.row [iv (BF l).1,iv (BF l).2] 33 false false)).get h.next=.row BR 30 false false:=by
  rw[AQ (by show H2.next<H2.next+1;omega) (by omega),AM (by omega)];exact ga
 have hgb:((H2.push (.row [iv 0,iv 0] 33 false false)).put H2.next (.row [iv (BF l).1,iv (BF l).2] 33 false false)).get (h.next+1)=.row [iv 0,iv 0] 33 false false:=by
  rw[AQ (by show H2.next<H2.next+1;omega) (by omega),AM (by omega)];exact gb
 have hgo:∀ i,i<h.next→((H2.push (.row [iv 0,iv 0] 33 false false)).put H2.next (.row [iv (BF l).1,iv (BF l).2] 33 false false)).get i=h.get i:=fun i hi=>by
  rw[AQ (by show H2.next<H2.next+1;omega) (by omega),AM (by omega)];exact ho2 i hi
 have hn3:((H2.push (.row [iv 0,iv 0] 33 false false)).put H2.next (.row [iv (BF l).1,iv (BF l).2] 33 false false)).next=h.next+3:=by show H2.next+1=_;omega
 have hf3:((H2.push (.row [iv 0,iv 0] 33 false false)).put H2.next (.row [iv (BF l).1,iv (BF l).2] 33 false false)).floor=h.floor:=hf2
 generalize (H2.push (.row [iv 0,iv 0] 33 false false)).put H2.next (.row [iv (BF l).1,iv (BF l).2] 33 false false)=H3 at *
 have l4:AO 0 (H3.get H2.next)=some (iv (BF l).1):=by rw[hg4];rfl
 cases d:((BF l).1 != 0) with
 | false=>
  have e0:(BF l).1=0:=by simpa using d
  simp only[eE,seval,↓eP,DH,EH,DC,DN,HY,HQ,l4,d]
  refine hk2 e0 _ _ ?_ ?_ ?_ ⟨hga,hgb⟩ (by omega) hf3 hgo <;> simp only[eE,seval,↓eP,rP]
 | true=>
  have e0:(BF l).1≠0:=by simpa using d
  have l42:CD 2 0 (H3.get H2.next)=some (FI (BF l).1 (BF l).2):=by rw[hg4];rfl
  have sP:=NJ HR (vs:=BR) hga rfl rfl rfl (by omega)
  have hgb':=(AQ (h:=H3) (i:=h.next) (j:=h.next+1) (o:=.row BR 30 false false) (by omega) (by omega)).trans hgb
  have sF2:=NJ (t:=33) NZ (vs:=[iv (BF l).1,iv (BF l).2]) hgb' rfl rfl rfl (by show H3.floor≤_;omega)
  have n1:(some H2.next != some h.next)=true:=by simp;omega
  have i1:C7 (qP H2.next 0)=some H2.next:=rfl
  have i2:C7 (qP h.next 0)=some h.next:=rfl
  simp only[eE,seval,↓eP,DH,EH,DC,DN,HY,HQ,l4,d]
  refine WK.flags (fs:=aO) (by kernel_rfl) ?_
  unfold aO
  iterate 4
   refine FO hsn ?_
   simp only[rG,seval,AC,AE,AD,DS,FA,DL,EI,FR,List.map_nil,PT,JT,l42,i1,i2,n1,sP,sF2]
  refine FT ?_
  simp only[eE,seval,↓eP,DH,EH,DC,DN]
  have ha:∀ i,i≠h.next→(H3.put h.next (.row BR 30 false false)).get i=H3.get i:=fun i hi=>AQ (by omega) (Ne.symm hi)
  refine hk1 e0 _ _ ?_ ?_ ⟨?_,CE rfl (by show h.next+1<H3.next;omega)⟩ (by show h.next+2≤H3.next;omega) hf3 fun i hi=>?_
  ·simp only[eE,seval,↓eP,rP]
  ·simp only[eE,seval,↓eP,rP]
  ·rw[AQ (by show h.next+1<H3.next;omega) (by omega)]
   exact CE rfl (by omega)
  ·rw[AQ (by show h.next+1<H3.next;omega) (by omega),ha i (by omega)]
   exact hgo i hi
theorem yB (hsn:BZ call) {l:List AB} {v:Value} {T:Tr} {H:AA} {K:BS} (ht:CU l) (hlen:l.length<2932031007403) (hfl:H.floor≤H.next) (hv:AL H v l) (t0:T.get 0=v)
  (hends:∀ H,AL H v l→H.floor≤H.next→∃ h',call 56 [v] H=some (qS H.next l.length l.length,h')∧(h'.get H.next=.row (ints (AI l)) 3 false false∧h'.next=H.next+1∧h'.floor=H.floor∧∀ i,i<H.next→h'.get i=H.get i))
  (hk:∀ T' H' m e r,T'.get 0=v→T'.get 2=T.get 2→T'.get 3=T.get 3→T'.get 5=qP m 0→E2 H' H.next m e r l.length (J_ l) (AI l) (A_ l)→H.next≤H'.next→H'.floor=H.floor→(∀ i,i<H.next→H'.get i=H.get i)→WK Tryd.prog call N UR ⟨T',H'⟩ K) :
  WK Tryd.prog call N XF ⟨T,H⟩ K:=by
 show WK _ _ _ (.seq (.region _ _ true) (.seq _ UR)) _ _
 rw[KG]
 have hpos:=ht.pos
 obtain⟨x,hx⟩:∃ x,l[0]?=some x:=⟨_,List.getElem?_eq_getElem hpos⟩
 obtain⟨id,q,e0,hid,l0,l1,l2,l3,l4,lr⟩:=hv.row hx
 have hvf:AL (H.fl (max H.floor H.next)) v l:=hv.mono (Nat.le_refl _) fun _ _=>rfl
 obtain⟨h3,hE,g1,g2,g3,g4⟩:=hends (H.fl (max H.floor H.next)) hvf (by show max H.floor H.next≤H.next;omega)
 simp only[JN] at hE g1 g2 g4
 have g3':h3.floor=max H.floor H.next:=g3
 have g4':∀ i,i<H.next→h3.get i=H.get i:=g4
 have hnm:J_ l=x.name:=by unfold J_;rw[hx]
 have e0':CY Tryd.prog 22 v (iv 0)=some (qP id q):=e0
 have hidT:(id<H.next)=True:=by simp[hid]
 have hone:(aL x.name (-1) H.next l.length).cells.toList.all one=true:=rfl
 have hcl:(aL x.name (-1) H.next l.length).cells.toList=[.string x.name,Z0,Z0,Z0,Z0,Z0,Z0,iv (-1),qS H.next l.length l.length,Z0,iv 0,iv 0,iv 0,iv 0,iv 0]:=rfl
 refine WK.flags (fs:=ZV) (by kernel_rfl) ?_
 unfold ZV
 iterate 10
  refine FO hsn ?_
  simp only[rG,seval,AC,AE,AD,DS,FA,DL,EI,FR,t0,e0',IH,hidT,EC,l1,List.map_cons,List.map_nil,uR,hE,vV,hcl,tP]
 refine FT ?_
 have hn4:((h3.fl H.floor).push (.row [.string x.name,Z0,Z0,Z0,Z0,Z0,Z0,iv (-1),qS H.next l.length l.length,Z0,iv 0,iv 0,iv 0,iv 0,iv 0] 93 false false)).next=H.next+1+1:=by show h3.next+1=_;omega
 have hf4:((h3.fl H.floor).push (.row [.string x.name,Z0,Z0,Z0,Z0,Z0,Z0,iv (-1),qS H.next l.length l.length,Z0,iv 0,iv 0,iv 0,iv 0,iv 0] 93 false false)).floor=H.floor:=rfl
 have gm:((h3.fl H.floor).push (.row [.string x.name,Z0,Z0,Z0,Z0,Z0,Z0,iv (-1),qS H.next l.length l.length,Z0,iv 0,iv 0,iv 0,iv 0,iv 0] 93 false false)).get h3.next=.row [.string x.name,Z0,Z0,Z0,Z0,Z0,Z0,iv (-1),qS H.next l.length l.length,Z0,iv 0,iv 0,iv 0,iv 0,iv 0] 93 false false:=BL (h:=h3.fl H.floor)
 have ge:((h3.fl H.floor).push (.row [.string x.name,Z0,Z0,Z0,Z0,Z0,Z0,iv (-1),qS H.next l.length l.length,Z0,iv 0,iv 0,iv 0,iv 0,iv 0] 93 false false)).get H.next=.row (ints (AI l)) 3 false false:=by rw[AM (by show H.next<h3.next;omega)];exact g1
 have go:∀ i,i<H.next→((h3.fl H.floor).push (.row [.string x.name,Z0,Z0,Z0,Z0,Z0,Z0,iv (-1),qS H.next l.length l.length,Z0,iv 0,iv 0,iv 0,iv 0,iv 0] 93 false false)).get i=H.get i:=fun i hi=>by rw[AM (by show i<h3.next;omega)];exact g4' i hi
 generalize (h3.fl H.floor).push (.row [.string x.name,Z0,Z0,Z0,Z0,Z0,Z0,iv (-1),qS H.next l.length l.length,Z0,iv 0,iv 0,iv 0,iv 0,iv 0] 93 false false)=H4 at *
 have hv4:AL H4 v l:=hv.mono (by omega) go
 have hap:=Ig hv4 hpos (by omega)
 have hm1:AO 1 (H4.get h3.next)=some (Z0):=by rw[gm];rfl
 have gm5:(H4.push (.row (l.flatMap AP) 46 true false)).get h3.next=.row [.string x.name,Z0,Z0,Z0,Z0,Z0,Z0,iv (-1),qS H.next l.length l.length,Z0,iv 0,iv 0,iv 0,iv 0,iv 0] 93 false false:=by rw[AM (by omega)];exact gm
 have hst:=G1 (t:=22) (off:=1) m6 (v:=qS H4.next l.length AG) rfl rfl gm5 (by simp) (by show H4.floor≤_;omega)
 have hfx:H4.fl (h3.fl H.floor).floor=H4:=by
  show H4.fl H.floor=H4
  rw[← hf4]
  exact K0 H4
 simp only[eE,seval,↓eP,DH,EH,DC,DN,hfx,JN,t0,GV,DA,C0,hm1,hap,hst]
 have gput:∀ (o:BB) (i:Nat),i≠h3.next→((H4.push (.row (l.flatMap AP) 46 true false)).put h3.next o).get i=(H4.push (.row (l.flatMap AP) 46 true false)).get i:=fun o i hi=>AQ (by show h3.next<H4.next+1;omega) (Ne.symm hi)
 refine hk _ _ h3.next H.next H4.next ?_ ?_ ?_ ?_ ⟨fun i=>if i=h3.next then 0 else if i=H4.next then 1 else if i=H.next then 10 else 11,fun _=>Z0,?_,⟨by simp[A_],by simp[A_],by simp[A_],by simp[A_],rfl,fun t ht=>by cases ht⟩⟩ ?_ (by show H4.floor=H.floor;exact hf4) fun i hi=>?_
 ·simp only[eE,seval,↓eP,rP,t0]
 ·simp only[eE,seval,↓eP,rP]
 ·simp only[eE,seval,↓eP,rP]
 ·simp only[eE,seval,↓eP,rP]
 ·exact
   { cell:=by
      rw[CE rfl (by show h3.next<H4.next+1;omega),hnm]
      simp only[FN,OM]
      rfl
     rows:=by rw[gput _ _ (by omega)];exact BL
     len:=rfl
     sl:=fun j h2 h8=>by
      have hj:j=2∨j=3∨j=4∨j=5∨j=6∨j=7∨j=8:=by omega
      rcases hj with rfl | rfl | rfl | rfl | rfl | rfl | rfl <;> exact .inl ⟨rfl,rfl,rfl⟩
     ends:=by rw[gput _ _ (by omega),AM (by omega)];exact ge
     tm:=if_pos rfl
     tr:=by rw[if_neg (by omega),if_pos rfl]
     te:=by rw[if_neg (by omega),if_neg (by omega),if_pos rfl]
     lm:=⟨by omega,by show h3.next<H4.next+1;omega⟩
     lr:=⟨by omega,by show H4.next<H4.next+1;omega⟩
     le:=⟨Nat.le_refl _,by show H.next<H4.next+1;omega⟩
     fl:=by show H4.floor≤H.next;omega }
 ·show H.next≤H4.next+1
  omega
 ·rw[gput _ _ (by omega),AM (by omega)];exact go i hi
end
noncomputable def UB:Code:=rt (rt (Tryd.f16.body.getD .skip))
noncomputable def s8:Code:=rt UB
noncomputable def p7:Code:=rt s8
noncomputable def Fj:Code:=rt p7
noncomputable def V1:Code:=rt Fj
noncomputable def U8:Code:=rt V1
noncomputable def iA:Array Oper:=DY Tryd.f16 3
def vT:List (Bool × Bool × List Operand):=[BI,AT,AS [.tmp 4],AT]
theorem Jo:D9 iA=vT:=by kernel_rfl
noncomputable def dN:Array Oper:=DY Tryd.f16 5
def Ez:List (Bool × Bool × List Operand):=[MU,IA [.tmp 5],IA [.tmp 5],IA [.tmp 5],IA [.tmp 5],AS [.tmp 5,.tmp 27],AS [.tmp 5,.tmp 27],AS [.tmp 5],AT,AT,AT]
theorem pW:D9 dN=Ez:=by kernel_rfl
theorem Fq {t:TypeId} {k:Nat} (ht:BP Tryd.prog t=some k) {h:AA} {id:Nat} {vs cs:List Value} {ty:TypeId} {g:Bool} (hg:h.get id=.row cs ty g false) (hl:k≤cs.length) (hn:vs.length=k) (ho:vs.all one=true) (hf:h.floor≤id) :
  BW Tryd.prog h t (qP id 0) (.agg vs.toArray)=some (h.put id (.row (vs++cs.drop k) ty g false)):=by
 have hc:(Value.agg vs.toArray).cells=vs.toArray:=rfl
 have hlay:Go.Sx.lay cs 0 vs=vs++cs.drop k:=by
  simp only[Go.Sx.lay,List.take_zero,List.nil_append,Nat.zero_add,hn]
 simp only[BW,hc,ht,GL,hg]
 rw[if_pos (by simp[hn]),if_pos (by simp only[ho];simp;omega),hlay]
theorem rJ {nm:ByteArray} {a:Option Addr} {n c:Nat} {m:Int}:DR Tryd.prog 30 [(0,.string nm),(1,.slice a n c),(7,iv m)]=some (.agg #[.string nm,.slice a n c,Z0,Z0,Z0,Z0,Z0,iv m]):=by
 have h:=ZJ
 rw[Tryd.underlying30] at h
 simp only at h
 simp only[DR,J7,KX,if_true,Tryd.underlying30,h]
 rfl
theorem uD:G6 Tryd.prog (match Tryd.prog.underlying 83 with | some (.struct fs)=>fs.toList | _=>[])=some [(0,8),(8,1),(9,1)]:=by kernel_rfl
theorem rV:DI Tryd.prog 83=some (.agg #[.string ByteArray.empty,Z0,Z0,Z0,Z0,Z0,Z0,iv 0,.map none,.map none]):=by kernel_rfl
abbrev iR (k c:Nat):Value:=.agg #[.string ByteArray.empty,Z0,Z0,Z0,Z0,Z0,Z0,iv 0,.map (some k),.map (some c)]
theorem tF {k c:Nat}:DR Tryd.prog 83 [(1,.map (some k)),(2,.map (some c))]=some (iR k c):=by
 have h:=uD
 rw[Tryd.underlying83] at h
 simp only at h
 have hf:flat (.agg #[.string ByteArray.empty,Z0,Z0,Z0,Z0,Z0,Z0,iv 0,.map none,.map none])=true:=rfl
 simp only[DR,rV,hf,if_true,Tryd.underlying83,h]
 rfl
theorem jX:BP Tryd.prog 86=some 1:=by kernel_rfl
theorem zO:FK Tryd.prog 86=some false:=by kernel_rfl
theorem tK:DI Tryd.prog 86=some .nilFunc:=by kernel_rfl
theorem Es:DI Tryd.prog 79=some (.pointer none):=by kernel_rfl
theorem qZ:DI Tryd.prog 28=some (Z0):=by kernel_rfl
theorem jR {h:AA} {id off:Nat}:EO Tryd.prog h 86 (qP id off)=AO off (h.get id):=KJ zO
theorem wW {h:AA} {f0 f1 f2:FuncId} {a0 a1 a2 b0 b1 b2:Array Value}:EA Tryd.prog h 87 3 [(0,.func (.func f0) a0 b0),(1,.func (.func f1) a1 b1),(2,.func (.func f2) a2 b2)]=some (qS h.next 3 3,h.push (.row [.func (.func f0) a0 b0,.func (.func f1) a1 b1,.func (.func f2) a2 b2] 86 false false)):=by
 have hc:∀ (f:FuncId) (a b:Array Value),(Value.func (.func f) a b).cells=#[.func (.func f) a b]:=fun _ _ _=>rfl
 have hz:Value.nilFunc.cells=#[.nilFunc]:=rfl
 simp[EA,Tryd.underlying87,jX,tK,flat,BO,hc,hz,GU,ER,Go.Sx.lay]
theorem Bg {h:AA} {id c i:Nat} (hi:i<3):CY Tryd.prog 87 (qS id 3 c) (iv (i:Int))=some (qP id i):=by
 simp only[CY,Tryd.underlying87,jX,CI]
 rw[if_pos (by omega)]
 simp
theorem zG {h:AA} {a:Option Addr} {n c:Nat}:B_ Tryd.prog h 87 (.slice a n c)=some (iv (n:Int)):=by simp[B_,Tryd.underlying87]
section
variable {N:Nat} {call:AK}
theorem r9 (hsn:BZ call) {l:List AB} {v:Value} {h:AA} {K:BS} (hfl:h.floor≤h.next) (hv:AL h v l)
  (hg:h.get 0=DK) (hn0:0<h.next)
  (hchk:∀ H,AL H v l→H.get 0=DK→0<H.next→H.floor≤H.next→call 30 [v] H=some (FI (BF l).1 (BF l).2,H))
  (hk1:(BF l).1≠0→∀ T' H,T'.get 2=qP h.next 0→T'.get 3=qP (h.next+1) 0→D2 h.next H BR (BF l).1 (BF l).2 →
   h.next+2≤H.next→H.floor=h.floor→(∀ i,i<h.next→H.get i=h.get i)→K.ap Tryd.prog call N .ret ⟨T',H⟩)
  (hk2:(BF l).1=0→∀ T' H,T'.get 0=v→T'.get 2=qP h.next 0→T'.get 3=qP (h.next+1) 0→D2 h.next H BR 0 0 →
   h.next+2≤H.next→H.floor=h.floor→(∀ i,i<h.next→H.get i=h.get i)→WK Tryd.prog call N UB ⟨T',H⟩ K) :
  WK Tryd.prog call N (Tryd.f16.body.getD .skip) ⟨GR 0 [v] .leaf,h⟩ K:=by
 show WK _ _ _ (.seq _ (.seq _ UB)) _ _
 have L6:=I9 BR
 have ho2:∀ i,i<h.next→((h.push (.row BR 30 false false)).push (.row [iv 0,iv 0] 33 false false)).get i=h.get i:=fun i hi=>by rw[AM (by show i<h.next+1;omega),AM hi]
 have hc:=hchk ((h.push (.row BR 30 false false)).push (.row [iv 0,iv 0] 33 false false)) (hv.mono (by show h.next≤h.next+1+1;omega) ho2) ((ho2 0 hn0).trans hg) (by show 0<h.next+1+1;omega) (by show h.floor≤h.next+1+1;omega)
 have ga:=O2 (h:=h) (o:=.row BR 30 false false) (o':=.row [iv 0,iv 0] 33 false false)
 have gb:=OQ (h:=h) (o:=.row BR 30 false false) (o':=.row [iv 0,iv 0] 33 false false)
 simp only[eE,seval,↓eP,DH,DC,DN,J7,KX,L6,HT,HP,MV]
 generalize hH2:(h.push (.row BR 30 false false)).push (.row [iv 0,iv 0] 33 false false)=H2 at *
 have hn2:H2.next=h.next+1+1:=by rw[← hH2];rfl
 have hf2:H2.floor=h.floor:=by rw[← hH2];rfl
 have sF:=NJ (t:=33) NZ (h:=H2.push (.row [iv 0,iv 0] 33 false false)) (vs:=[iv (BF l).1,iv (BF l).2]) BL rfl rfl rfl (by show H2.floor≤H2.next;omega)
 simp only[eE,seval,↓eP,DH,DC,DN,hc,HT,HP,MV,sF]
 have hg4:((H2.push (.row [iv 0,iv 0] 33 false false)).put H2.next (.row [iv (BF l).1,iv (BF l).2] 33 false false)).get H2.next=.row [iv (BF l).1,iv (BF l).2] 33 false false:=CE rfl (by show H2.next<H2.next+1;omega)
 have hga:((H2.push (.row [iv 0,iv 0] 33 false false)).put H2.next (.row [iv (BF l).1,iv (BF l).2] 33 false false)).get h.next=.row BR 30 false false:=by
  rw[AQ (by show H2.next<H2.next+1;omega) (by omega),AM (by omega)];exact ga
 have hgb:((H2.push (.row [iv 0,iv 0] 33 false false)).put H2.next (.row [iv (BF l).1,iv (BF l).2] 33 false false)).get (h.next+1)=.row [iv 0,iv 0] 33 false false:=by
  rw[AQ (by show H2.next<H2.next+1;omega) (by omega),AM (by omega)];exact gb
 have hgo:∀ i,i<h.next→((H2.push (.row [iv 0,iv 0] 33 false false)).put H2.next (.row [iv (BF l).1,iv (BF l).2] 33 false false)).get i=h.get i:=fun i hi=>by
  rw[AQ (by show H2.next<H2.next+1;omega) (by omega),AM (by omega)];exact ho2 i hi
 have hn3:((H2.push (.row [iv 0,iv 0] 33 false false)).put H2.next (.row [iv (BF l).1,iv (BF l).2] 33 false false)).next=h.next+3:=by show H2.next+1=_;omega
 have hf3:((H2.push (.row [iv 0,iv 0] 33 false false)).put H2.next (.row [iv (BF l).1,iv (BF l).2] 33 false false)).floor=h.floor:=hf2
 generalize (H2.push (.row [iv 0,iv 0] 33 false false)).put H2.next (.row [iv (BF l).1,iv (BF l).2] 33 false false)=H3 at *
 have l4:AO 0 (H3.get H2.next)=some (iv (BF l).1):=by rw[hg4];rfl
 cases d:((BF l).1 != 0) with
 | false=>
  have e0:(BF l).1=0:=by simpa using d
  simp only[eE,seval,↓eP,DH,EH,DC,DN,HY,HQ,l4,d]
  refine hk2 e0 _ _ ?_ ?_ ?_ ⟨hga,hgb⟩ (by omega) hf3 hgo <;> simp only[eE,seval,↓eP,rP]
 | true=>
  have e0:(BF l).1≠0:=by simpa using d
  have l42:CD 2 0 (H3.get H2.next)=some (FI (BF l).1 (BF l).2):=by rw[hg4];rfl
  have sP:=NJ HR (vs:=BR) hga rfl rfl rfl (by omega)
  have hgb':=(AQ (h:=H3) (i:=h.next) (j:=h.next+1) (o:=.row BR 30 false false) (by omega) (by omega)).trans hgb
  have sF2:=NJ (t:=33) NZ (vs:=[iv (BF l).1,iv (BF l).2]) hgb' rfl rfl rfl (by show H3.floor≤_;omega)
  have n1:(some H2.next != some h.next)=true:=by simp;omega
  have i1:C7 (qP H2.next 0)=some H2.next:=rfl
  have i2:C7 (qP h.next 0)=some h.next:=rfl
  simp only[eE,seval,↓eP,DH,EH,DC,DN,HY,HQ,l4,d]
  refine WK.flags (ops:=iA) Jo ?_
  refine CN.begin ?_
  refine AF hsn 0 (some 18) (.build 30 #[]) none ?_
  simp only[rG,seval,AC,AE,AD,List.map_nil,PT]
  refine AF hsn 1 (some 19) (.load 33 (.tmp 4)) none ?_
  simp only[rG,seval,AC,AE,AD,DS,JT,l42,i1]
  refine AF hsn 2 (none) (.store 30 (.tmp 2) (.tmp 18)) none ?_
  simp only[rG,seval,AC,AE,AD,DL,EI,i1,i2,n1,sP]
  refine AF hsn 3 (none) (.store 33 (.tmp 3) (.tmp 19)) none ?_
  simp only[rG,seval,AC,AE,AD,DL,EI,sF2]
  refine CN.done (i:=4) (by kernel_rfl) ?_
  simp only[eE,seval,↓eP,DH,EH,DC,DN]
  have ha:∀ i,i≠h.next→(H3.put h.next (.row BR 30 false false)).get i=H3.get i:=fun i hi=>AQ (by omega) (Ne.symm hi)
  refine hk1 e0 _ _ ?_ ?_ ⟨?_,CE rfl (by show h.next+1<H3.next;omega)⟩ (by show h.next+2≤H3.next;omega) hf3 fun i hi=>?_
  ·simp only[eE,seval,↓eP,rP]
  ·simp only[eE,seval,↓eP,rP]
  ·rw[AQ (by show h.next+1<H3.next;omega) (by omega)]
   exact CE rfl (by omega)
  ·rw[AQ (by show h.next+1<H3.next;omega) (by omega),ha i (by omega)]
   exact hgo i hi
structure TS (h:AA) (m e c5 c6 fl n:Nat) (E:List Int):Prop where
 h5:h.get c5=.row [qP m 0] 79 false false
 h6:h.get c6=.row [qS e n n] 28 false false
 hf:h.get fl=.row [.func (.func 50) #[] #[qP c5 0,qP c6 0],.func (.func 52) #[qP m 0] #[],.func (.func 53) #[qP m 0] #[]] 86 false false
theorem Ey (hsn:BZ call) {l:List AB} {v:Value} {T:Tr} {H:AA} {K:BS} (ht:CU l) (hlen:l.length<2932031007403) (hfl:H.floor≤H.next) (hv:AL H v l) (t0:T.get 0=v)
  (hclone:∀ H,AL H v l→∃ h',call 48 [v] H=some (qS (H.next+1) l.length AG,h')∧(h'.get (H.next+1)=.row (l.flatMap AP) 46 true false∧h'.next=H.next+2∧h'.floor=H.floor∧∀ i,i<H.next→h'.get i=H.get i))
  (hends:∀ H,AL H v l→H.floor≤H.next→∃ h',call 49 [v] H=some (qS H.next l.length l.length,h')∧(h'.get H.next=.row (ints (AI l)) 3 false false∧h'.next=H.next+1∧h'.floor=H.floor∧∀ i,i<H.next→h'.get i=H.get i))
  (hk:∀ T' H' m k c e r c5 c6 fl,T'.get 0=v→T'.get 2=T.get 2→T'.get 3=T.get 3→T'.get 5=qP c5 0→T'.get 6=qP c6 0→T'.get 7=qS fl 3 3 →
   EE H' H.next m k c e r l.length (J_ l) (AI l) [c5,c6,fl] (A_ l)→TS H' m e c5 c6 fl l.length (AI l)→H.next≤H'.next→H'.floor=H.floor→(∀ i,i<H.next→H'.get i=H.get i)→WK Tryd.prog call N V1 ⟨T',H'⟩ K) :
  WK Tryd.prog call N UB ⟨T,H⟩ K:=by
 show WK _ _ _ (.seq _ (.seq (.region _ _ true) (.seq _ (.seq _ V1)))) _ _
 have hpos:=ht.pos
 obtain⟨x,hx⟩:∃ x,l[0]?=some x:=⟨_,List.getElem?_eq_getElem hpos⟩
 have hnm:J_ l=x.name:=by unfold J_;rw[hx]
 have mc:(iR H.next (H.next+1)).cells.toList=[.string ByteArray.empty,Z0,Z0,Z0,Z0,Z0,Z0,iv 0,.map (some H.next),.map (some (H.next+1))]:=rfl
 have mo:([.string ByteArray.empty,Z0,Z0,Z0,Z0,Z0,Z0,iv 0,.map (some H.next),.map (some (H.next+1))]:List Value).all one=true:=rfl
 have z79:(Value.pointer none).cells.toList=[.pointer none]:=rfl
 have f79:flat (.pointer none)=true:=rfl
 have hst:BW Tryd.prog ((((H.push (.map [])).push (.map [])).push (.row [.string ByteArray.empty,Z0,Z0,Z0,Z0,Z0,Z0,iv 0,.map (some H.next),.map (some (H.next+1))] 83 false false)).push (.row [.pointer none] 79 false false)) 79 (qP (H.next+1+1+1) 0) (qP (H.next+1+1) 0)=_:=
  G1 (off:=0) sN rfl rfl (BL (h:=(((H.push (.map [])).push (.map [])).push (.row [.string ByteArray.empty,Z0,Z0,Z0,Z0,Z0,Z0,iv 0,.map (some H.next),.map (some (H.next+1))] 83 false false)))) (by decide) (by show H.floor≤H.next+1+1+1;omega)
 simp only[eE,seval,↓eP,DH,DC,DN,tF,mc,mo,Ed,Es,z79,f79,hst]
 have n1:(((H.push (.map [])).push (.map [])).push (.row [.string ByteArray.empty,Z0,Z0,Z0,Z0,Z0,Z0,iv 0,.map (some H.next),.map (some (H.next+1))] 83 false false)).next=H.next+1+1+1:=rfl
 have P0:∀ i,i<H.next→((((H.push (.map [])).push (.map [])).push (.row [.string ByteArray.empty,Z0,Z0,Z0,Z0,Z0,Z0,iv 0,.map (some H.next),.map (some (H.next+1))] 83 false false)).push (.row [.pointer none] 79 false false)).get i=H.get i:=fun i hi=>by
  rw[AM (by show i<H.next+1+1+1;omega),AM (by show i<H.next+1+1;omega),AM (by show i<H.next+1;omega),AM hi]
 have P1:((((H.push (.map [])).push (.map [])).push (.row [.string ByteArray.empty,Z0,Z0,Z0,Z0,Z0,Z0,iv 0,.map (some H.next),.map (some (H.next+1))] 83 false false)).push (.row [.pointer none] 79 false false)).get H.next=.map []:=by
  rw[AM (by show H.next<H.next+1+1+1;omega),AM (by show H.next<H.next+1+1;omega)];exact O2
 have P2:((((H.push (.map [])).push (.map [])).push (.row [.string ByteArray.empty,Z0,Z0,Z0,Z0,Z0,Z0,iv 0,.map (some H.next),.map (some (H.next+1))] 83 false false)).push (.row [.pointer none] 79 false false)).get (H.next+1)=.map []:=by
  rw[AM (by show H.next+1<H.next+1+1+1;omega),AM (by show H.next+1<H.next+1+1;omega)];exact OQ
 have P3:((((H.push (.map [])).push (.map [])).push (.row [.string ByteArray.empty,Z0,Z0,Z0,Z0,Z0,Z0,iv 0,.map (some H.next),.map (some (H.next+1))] 83 false false)).push (.row [.pointer none] 79 false false)).get (H.next+1+1)=.row [.string ByteArray.empty,Z0,Z0,Z0,Z0,Z0,Z0,iv 0,.map (some H.next),.map (some (H.next+1))] 83 false false:=by
  rw[AM (by show H.next+1+1<H.next+1+1+1;omega)];exact BL (h:=(H.push (.map [])).push (.map []))
 have nA:((((H.push (.map [])).push (.map [])).push (.row [.string ByteArray.empty,Z0,Z0,Z0,Z0,Z0,Z0,iv 0,.map (some H.next),.map (some (H.next+1))] 83 false false)).push (.row [.pointer none] 79 false false)).next=H.next+4:=rfl
 have fA:((((H.push (.map [])).push (.map [])).push (.row [.string ByteArray.empty,Z0,Z0,Z0,Z0,Z0,Z0,iv 0,.map (some H.next),.map (some (H.next+1))] 83 false false)).push (.row [.pointer none] 79 false false)).floor=H.floor:=rfl
 generalize (((H.push (.map [])).push (.map [])).push (.row [.string ByteArray.empty,Z0,Z0,Z0,Z0,Z0,Z0,iv 0,.map (some H.next),.map (some (H.next+1))] 83 false false)).push (.row [.pointer none] 79 false false)=A0 at *
 have Q:∀ i,i≠H.next+1+1+1→(A0.put (H.next+1+1+1) (.row ([Value.pointer none].set 0 (qP (H.next+1+1) 0)) 79 false false)).get i=A0.get i:=fun i hi=>AQ (by omega) (Ne.symm hi)
 have a0:∀ i,i<H.next→(A0.put (H.next+1+1+1) (.row ([Value.pointer none].set 0 (qP (H.next+1+1) 0)) 79 false false)).get i=H.get i:=fun i hi=>by rw[Q i (by omega)];exact P0 i hi
 have a1:=(Q H.next (by omega)).trans P1
 have a2:=(Q (H.next+1) (by omega)).trans P2
 have a3:=(Q (H.next+1+1) (by omega)).trans P3
 have a4:(A0.put (H.next+1+1+1) (.row ([Value.pointer none].set 0 (qP (H.next+1+1) 0)) 79 false false)).get (H.next+1+1+1)=.row [qP (H.next+1+1) 0] 79 false false:=CE rfl (by omega)
 have nB:(A0.put (H.next+1+1+1) (.row ([Value.pointer none].set 0 (qP (H.next+1+1) 0)) 79 false false)).next=H.next+4:=nA
 have fB:(A0.put (H.next+1+1+1) (.row ([Value.pointer none].set 0 (qP (H.next+1+1) 0)) 79 false false)).floor=H.floor:=fA
 generalize A0.put (H.next+1+1+1) (.row ([Value.pointer none].set 0 (qP (H.next+1+1) 0)) 79 false false)=A at *
 clear hst n1 P0 P1 P2 P3 nA fA Q A0
 have hvA:AL A v l:=hv.mono (by omega) a0
 obtain⟨id,q,e0,hid,l0,l1,l2,l3,l4,lr⟩:=hvA.row hx
 have e0':CY Tryd.prog 22 v (iv 0)=some (qP id q):=e0
 have hidT:(id<A.next)=True:=by simp[hid]
 have l79:AO 0 (A.get (H.next+1+1+1))=some (qP (H.next+1+1) 0):=by rw[a4];rfl
 have hvf:AL (A.fl (max A.floor A.next)) v l:=hvA.mono (Nat.le_refl _) fun _ _=>rfl
 obtain⟨h3,hE,g1,g2,g3,g4⟩:=hclone (A.fl (max A.floor A.next)) hvf
 simp only[JN] at hE g1 g2 g4
 have g4':∀ i,i<A.next→h3.get i=A.get i:=g4
 have hs30:BW Tryd.prog (h3.fl A.floor) 30 (qP (H.next+1+1) 0) (.agg #[.string x.name,qS (A.next+1) l.length AG,Z0,Z0,Z0,Z0,Z0,iv (-1)])=_:=
  Fq (vs:=[.string x.name,qS (A.next+1) l.length AG,Z0,Z0,Z0,Z0,Z0,iv (-1)]) HR (by rw[KN,g4' _ (by omega)];exact a3) (by simp only[List.length_cons,List.length_nil];omega) rfl rfl (by show A.floor≤_;omega)
 have i3:((H.next+1+1+1)<A.next)=True:=by simp;omega
 refine WK.flags (ops:=dN) pW ?_
 refine CN.begin ?_
 refine AF hsn 0 (some 24) (.load 79 (.tmp 5)) none ?_
 simp only[rG,seval,AC,AE,AD,DS,l79,i3,RZ]
 refine AF hsn 1 (some 25) (.move (.tmp 0)) none ?_
 simp only[rG,seval,AC,AE,AD,t0]
 refine AF hsn 2 (some 26) (.indexAddr 22 (.tmp 25) (.const (Value.int IntKind.i64 0))) none ?_
 simp only[rG,seval,AC,AE,AD,e0']
 refine AF hsn 3 (some 27) (.fieldAddr 46 (.tmp 26) 1) none ?_
 simp only[rG,seval,AC,AE,AD,IH]
 refine AF hsn 4 (some 28) (.load 9 (.tmp 27)) none ?_
 simp only[rG,seval,AC,AE,AD,DS,hidT,EC,l1]
 refine AF hsn 5 (some 29) (.move (.tmp 0)) none ?_
 simp only[rG,seval,AC,AE,AD,t0]
 refine AF hsn 6 (some 30) (.call { callee:=.value (.func 48),args:=#[.tmp 29],argTypes:=#[22] }) none ?_
 simp only[rG,seval,AC,AE,AD,FA,hE]
 refine AF hsn 7 (some 31) (.build 30 #[(0,.tmp 28),(1,.tmp 30),(7,.const (Value.int IntKind.i64 (-1)))]) none ?_
 simp only[rG,seval,AC,AE,AD,List.map_cons,List.map_nil,rJ]
 refine AF hsn 8 (some 32) (.nilCheck (.tmp 24)) none ?_
 simp only[rG,seval,AC,AE,AD]
 refine AF hsn 9 (some 33) (.fieldAddr 83 (.tmp 32) 0) none ?_
 simp only[rG,seval,AC,AE,AD,H8]
 refine AF hsn 10 (none) (.store 30 (.tmp 33) (.tmp 31)) none ?_
 simp only[rG,seval,AC,AE,AD,DL,EI,hs30]
 refine CN.done (i:=11) (by kernel_rfl) ?_
 have hgo:∀ i,i≠H.next+1+1→((h3.fl A.floor).put (H.next+1+1) (BB.row ([.string x.name,qS (A.next+1) l.length AG,Z0,Z0,Z0,Z0,Z0,iv (-1)]++List.drop 8 [.string ByteArray.empty,Z0,Z0,Z0,Z0,Z0,Z0,iv 0,.map (some H.next),.map (some (H.next+1))]) 83 false false)).get i=h3.get i:=fun i hi=>AQ (by show _<h3.next;omega) (Ne.symm hi)
 have b0:∀ i,i<H.next→((h3.fl A.floor).put (H.next+1+1) (BB.row ([.string x.name,qS (A.next+1) l.length AG,Z0,Z0,Z0,Z0,Z0,iv (-1)]++List.drop 8 [.string ByteArray.empty,Z0,Z0,Z0,Z0,Z0,Z0,iv 0,.map (some H.next),.map (some (H.next+1))]) 83 false false)).get i=H.get i:=fun i hi=>by rw[hgo i (by omega),g4' i (by omega),a0 i hi]
 have b1:((h3.fl A.floor).put (H.next+1+1) (BB.row ([.string x.name,qS (A.next+1) l.length AG,Z0,Z0,Z0,Z0,Z0,iv (-1)]++List.drop 8 [.string ByteArray.empty,Z0,Z0,Z0,Z0,Z0,Z0,iv 0,.map (some H.next),.map (some (H.next+1))]) 83 false false)).get H.next=.map []:=by rw[hgo _ (by omega),g4' _ (by omega)];exact a1
 have b2:((h3.fl A.floor).put (H.next+1+1) (BB.row ([.string x.name,qS (A.next+1) l.length AG,Z0,Z0,Z0,Z0,Z0,iv (-1)]++List.drop 8 [.string ByteArray.empty,Z0,Z0,Z0,Z0,Z0,Z0,iv 0,.map (some H.next),.map (some (H.next+1))]) 83 false false)).get (H.next+1)=.map []:=by rw[hgo _ (by omega),g4' _ (by omega)];exact a2
 have b3:((h3.fl A.floor).put (H.next+1+1) (BB.row ([.string x.name,qS (A.next+1) l.length AG,Z0,Z0,Z0,Z0,Z0,iv (-1)]++List.drop 8 [.string ByteArray.empty,Z0,Z0,Z0,Z0,Z0,Z0,iv 0,.map (some H.next),.map (some (H.next+1))]) 83 false false)).get (H.next+1+1)=.row [.string x.name,qS (A.next+1) l.length AG,Z0,Z0,Z0,Z0,Z0,iv (-1),.map (some H.next),.map (some (H.next+1))] 83 false false:=CE rfl (by show _<h3.next;omega)
 have b4:((h3.fl A.floor).put (H.next+1+1) (BB.row ([.string x.name,qS (A.next+1) l.length AG,Z0,Z0,Z0,Z0,Z0,iv (-1)]++List.drop 8 [.string ByteArray.empty,Z0,Z0,Z0,Z0,Z0,Z0,iv 0,.map (some H.next),.map (some (H.next+1))]) 83 false false)).get (H.next+1+1+1)=.row [qP (H.next+1+1) 0] 79 false false:=by rw[hgo _ (by omega),g4' _ (by omega)];exact a4
 have b5:((h3.fl A.floor).put (H.next+1+1) (BB.row ([.string x.name,qS (A.next+1) l.length AG,Z0,Z0,Z0,Z0,Z0,iv (-1)]++List.drop 8 [.string ByteArray.empty,Z0,Z0,Z0,Z0,Z0,Z0,iv 0,.map (some H.next),.map (some (H.next+1))]) 83 false false)).get (A.next+1)=.row (l.flatMap AP) 46 true false:=by rw[hgo _ (by omega)];exact g1
 have nW:((h3.fl A.floor).put (H.next+1+1) (BB.row ([.string x.name,qS (A.next+1) l.length AG,Z0,Z0,Z0,Z0,Z0,iv (-1)]++List.drop 8 [.string ByteArray.empty,Z0,Z0,Z0,Z0,Z0,Z0,iv 0,.map (some H.next),.map (some (H.next+1))]) 83 false false)).next=H.next+6:=by show h3.next=_;omega
 have fW:((h3.fl A.floor).put (H.next+1+1) (BB.row ([.string x.name,qS (A.next+1) l.length AG,Z0,Z0,Z0,Z0,Z0,iv (-1)]++List.drop 8 [.string ByteArray.empty,Z0,Z0,Z0,Z0,Z0,Z0,iv 0,.map (some H.next),.map (some (H.next+1))]) 83 false false)).floor=H.floor:=fB
 generalize (h3.fl A.floor).put (H.next+1+1) (BB.row ([.string x.name,qS (A.next+1) l.length AG,Z0,Z0,Z0,Z0,Z0,iv (-1)]++List.drop 8 [.string ByteArray.empty,Z0,Z0,Z0,Z0,Z0,Z0,iv 0,.map (some H.next),.map (some (H.next+1))]) 83 false false)=B at *
 have hvB:AL B v l:=hv.mono (by omega) b0
 obtain⟨h4,hN,k1,k2,k3,k4⟩:=hends B hvB (by omega)
 have z28:(Z0).cells.toList=[Z0]:=rfl
 have f28:flat (Z0)=true:=rfl
 have hst:BW Tryd.prog (h4.push (.row [Z0] 28 false false)) 28 (qP h4.next 0) (qS B.next l.length l.length)=_:=G1 (off:=0) MB rfl rfl BL (by decide) (by show h4.floor≤h4.next;omega)
 have c0:∀ i,i≠h4.next→((h4.push (.row [Z0] 28 false false)).put h4.next (.row ([Z0].set 0 (qS B.next l.length l.length)) 28 false false)).get i=h4.get i:=fun i hi=>by rw[AQ (by show h4.next<h4.next+1;omega) (Ne.symm hi),KO hi]
 have c6:((h4.push (.row [Z0] 28 false false)).put h4.next (.row ([Z0].set 0 (qS B.next l.length l.length)) 28 false false)).get h4.next=.row [qS B.next l.length l.length] 28 false false:=CE rfl (by show h4.next<h4.next+1;omega)
 have nC:((h4.push (.row [Z0] 28 false false)).put h4.next (.row ([Z0].set 0 (qS B.next l.length l.length)) 28 false false)).next=H.next+8:=by show h4.next+1=_;omega
 have fC:((h4.push (.row [Z0] 28 false false)).put h4.next (.row ([Z0].set 0 (qS B.next l.length l.length)) 28 false false)).floor=H.floor:=by show h4.floor=_;omega
 simp only[eE,seval,↓eP,DH,DC,DN,t0,hN,qZ,z28,f28,hst]
 generalize (h4.push (.row [Z0] 28 false false)).put h4.next (.row ([Z0].set 0 (qS B.next l.length l.length)) 28 false false)=C at *
 have l5:AO 0 (C.get (H.next+1+1+1))=some (qP (H.next+1+1) 0):=by rw[c0 _ (by omega),k4 _ (by omega),b4];rfl
 simp only[eE,seval,↓eP,DH,DC,DN,RZ,l5,List.map_toArray,wW]
 have D0:∀ (o:BB) i,i<C.next→(C.push o).get i=C.get i:=fun o i hi=>AM hi
 have D6:∀ (o:BB) i,i<B.next→(C.push o).get i=B.get i:=fun o i hi=>by rw[D0 o i (by omega),c0 i (by omega),k4 i hi]
 have n4:h4.next=H.next+7:=by omega
 refine hk _ _ (H.next+1+1) H.next (H.next+1) B.next (A.next+1) (H.next+1+1+1) h4.next C.next ?_ ?_ ?_ ?_ ?_ ?_ ⟨fun i=>if i=H.next+1+1 then 0 else if i=A.next+1 then 1 else if i=H.next then 8 else if i=H.next+1 then 9 else if i=B.next then 10 else 11,Z0,Z0,Z0,Z0,Z0,[],?_,?_,⟨by simp[A_],by simp[A_],by simp[A_],by simp[A_],rfl,fun t ht=>by cases ht⟩,fun i hi=>?_⟩ ⟨?_,?_,BL⟩ (by show H.next≤C.next+1;omega) (by show C.floor=H.floor;exact fC) fun i hi=>?_
 ·simp only[eE,seval,↓eP,rP,t0]
 ·simp only[eE,seval,↓eP,rP]
 ·simp only[eE,seval,↓eP,rP]
 ·simp only[eE,seval,↓eP,rP]
 ·simp only[eE,seval,↓eP,rP]
 ·simp only[eE,seval,↓eP,rP]
 ·exact
   { cell:=by rw[D6 _ _ (by omega),b3,hnm];rfl
     pol:=
      { rows:=by rw[D6 _ _ (by omega)];exact b5
        len:=rfl
        tr:=by rw[if_neg (by omega),if_pos rfl]
        lr:=⟨by omega,by show _<C.next+1;omega⟩
        q:=QR
        v:=QR
        t:=QR
        u:=QR
        o:=QR }
     known:=by rw[D6 _ _ (by omega)];exact b1
     many:=by rw[D6 _ _ (by omega)];exact b2
     ends:=by rw[D0 _ _ (by omega),c0 _ (by omega)];exact k1
     tm:=if_pos rfl
     tk:=by rw[if_neg (by omega),if_neg (by omega),if_pos rfl]
     tc:=by rw[if_neg (by omega),if_neg (by omega),if_neg (by omega),if_pos rfl]
     te:=by rw[if_neg (by omega),if_neg (by omega),if_neg (by omega),if_neg (by omega),if_pos rfl]
     lm:=⟨by omega,by show _<C.next+1;omega⟩
     lk:=⟨Nat.le_refl _,by show _<C.next+1;omega⟩
     lc:=⟨by omega,by show _<C.next+1;omega⟩
     le:=⟨by omega,by show _<C.next+1;omega⟩
     fl:=by show C.floor≤H.next;omega }
 ·refine⟨fun p hp=>(by cases hp),fun k h1 h4=>?_⟩
  have:BA (A_ l) k=0:=by unfold BA;(repeat' split) <;> rfl
  rw[if_pos this]
  rfl
 ·have hii:i=H.next+1+1+1∨i=h4.next∨i=C.next:=by simpa using hi
  refine⟨by show i<C.next+1;omega,?_⟩
  show 11≤(if i=H.next+1+1 then 0 else if i=A.next+1 then 1 else if i=H.next then 8 else if i=H.next+1 then 9 else if i=B.next then 10 else 11)
  rw[if_neg (by omega),if_neg (by omega),if_neg (by omega),if_neg (by omega),if_neg (by omega)]
  exact Nat.le_refl _
 ·rw[D6 _ _ (by omega)];exact b4
 ·rw[D0 _ _ (by omega)];exact c6
 ·rw[D6 _ _ (by omega)];exact b0 i hi
end
noncomputable def iH:Code:=inB (U1 Tryd.f16 1)
theorem D2.mono {a:Nat} {H H':AA} {cs:List Value} {e p:Int} (h:D2 a H cs e p) (h0:H'.get a=H.get a) (h1:H'.get (a+1)=H.get (a+1)):D2 a H' cs e p:=⟨h0.trans h.1,h1.trans h.2⟩
section
variable {N:Nat} {call:AK}
theorem MW {a:Nat} {H:AA} {cs:List Value} {e p:Int} (h:D2 a H cs e p) (hl:cs.length=8) (ha:a+1<H.next) (hf:H.floor≤a) {cs':List Value} (hl':cs'.length=8) (ho':cs'.all one=true) {e' p':Int} :
  ∃ H',BW Tryd.prog H 30 (qP a 0) (.agg cs'.toArray)=some (H.put a (.row cs' 30 false false))∧BW Tryd.prog (H.put a (.row cs' 30 false false)) 33 (qP (a+1) 0) (FI e' p')=some H' ∧
   D2 a H' cs' e' p'∧H'.next=H.next∧H'.floor=H.floor∧∀ i,i≠a→i≠a+1→H'.get i=H.get i:=by
 have s1:=NJ (k:=8) HR h.1 hl hl' ho' hf
 have hb:(H.put a (.row cs' 30 false false)).get (a+1)=.row [iv e,iv p] 33 false false:=by rw[AQ (by omega) (by omega)];exact h.2
 have s2:=NJ (t:=33) (k:=2) NZ (vs:=[iv e',iv p']) hb rfl rfl rfl (by show H.floor≤a+1;omega)
 refine⟨_,s1,s2,⟨?_,CE rfl (by show a+1<H.next;omega)⟩,rfl,rfl,fun i hi hi'=>?_⟩
 ·rw[AQ (by show a+1<H.next;omega) (by omega)]
  exact CE rfl (by omega)
 ·rw[AQ (by show a+1<H.next;omega) (by omega),AQ (by omega) (by omega)]
theorem yI {at_ a fl lo m k c e r n:Nat} {nm:ByteArray} {E:List Int} {F:List Nat} {er:Nat→Int} {st:Nat→AN} {T:Tr} {H:AA} {K:BS} {fs:List Value}
  (t2:T.get 2=qP a 0) (t3:T.get 3=qP (a+1) 0) (t7:T.get 7=qS fl 3 3) (t44:T.get 44=iv at_)
  (hN:3<N) (hp:EE H lo m k c e r n nm E F (st 0)) (ha:a+1<lo) (hlo:lo≤H.next) (hout:D2 a H BR 0 0) (hfa:H.floor≤a) (hfl:H.get fl=.row fs 86 false false) (hFl:fl∈F)
  (hlook:∀ i,i<3→∀ H1,EE H1 lo m k c e r n nm E F (st i)→FG H H1 lo F→(∀ j,j<i→er j=0)→∃ fid first cap H2,fs[i]?=some (.func (.func fid) first cap)∧call fid (first.toList++[iv at_]++cap.toList) H1=some (iv (er i),H2)∧FG H1 H2 lo F∧(er i=0→EE H2 lo m k c e r n nm E F (st (i+1))))
  (hbad:∀ i,i<3→er i≠0→(∀ j,j<i→er j=0)→∀ T' H',T'.get 2=qP a 0→T'.get 3=qP (a+1) 0→D2 a H' BR (er i) at_→H.next≤H'.next→H'.floor=H.floor→(∀ i,i<a→H'.get i=H.get i)→K.ap Tryd.prog call N .ret ⟨T',H'⟩)
  (hgood:(∀ j,j<3→er j=0)→∀ T' H',(∀ t,t≤7∨(42≤t∧t≤44)→T'.get t=T.get t)→EE H' lo m k c e r n nm E F (st 3)→FG H H' lo F→K.ap Tryd.prog call N .normal ⟨T',H'⟩) :
  WK Tryd.prog call N iH ⟨T,H⟩ K:=by
 show WK _ _ _ (.seq _ (.seq _ (.block 2 (.loop (.seq _ (.seq _ (.seq (.block 3 _) _))))))) _ _
 simp only[eE,↓reduceIte,Nat.reduceEqDiff,reduceCtorEq,↓eP,t7,t44,zG]
 refine WK.loop (fun i s'=>s'.T.get 47=qS fl 3 3∧s'.T.get 48=iv 3∧s'.T.get 49=iv i∧s'.T.get 8=iv at_∧i≤3∧(∀ t,t≤7∨(42≤t∧t≤44)→s'.T.get t=T.get t)∧EE s'.h lo m k c e r n nm E F (st i)∧FG H s'.h lo F∧∀ j,j<i→er j=0) 3 hN ?_ ?_
 ·refine⟨by simp only[eE,↓reduceIte,Nat.reduceEqDiff,reduceCtorEq,↓eP,rP,Nat.reduceAdd,Nat.reduceLT],by simp only[eE,↓reduceIte,Nat.reduceEqDiff,reduceCtorEq,↓eP,rP,Nat.reduceAdd,Nat.reduceLT];rfl,by simp only[eE,↓reduceIte,Nat.reduceEqDiff,reduceCtorEq,↓eP,rP,Nat.reduceAdd,Nat.reduceLT];rfl,by simp only[eE,↓reduceIte,Nat.reduceEqDiff,reduceCtorEq,↓eP,rP,Nat.reduceAdd,Nat.reduceLT],by omega,fun t ht=>?_,hp,⟨fun _ _=>rfl,Nat.le_refl _,rfl⟩,fun j hj=>by omega⟩
  simp only[Tr.get_put,Option.some.injEq]
  repeat rw[if_neg (by omega)]
 ·rintro i ⟨T1,H1⟩ hi ⟨t47,t48,t49,t8,hi3,hkeep,hp1,haf,hz⟩
  simp only at t47 t48 t49 t8 hkeep hp1 haf
  have t2':T1.get 2=qP a 0:=(hkeep 2 (by omega)).trans t2
  have t3':T1.get 3=qP (a+1) 0:=(hkeep 3 (by omega)).trans t3
  by_cases hlt:i<3
  ·have c1:decide ((i:Int)<3)=true:=by simp;omega
   obtain⟨fid,first,cap,H2,hfi,hcall,haf2,hmk⟩:=hlook i hlt H1 hp1 haf hz
   have hfl1:H1.get fl=.row fs 86 false false:=(haf.1 fl (.inr hFl)).trans hfl
   have lf:AO i (H1.get fl)=some (.func (.func fid) first cap):=by rw[hfl1];exact hfi
   have hix:=Bg (h:=H1) (id:=fl) (c:=3) hlt
   cases d:(er i != 0) with
   | true=>
    have e0:er i≠0:=by simpa using d
    have n2:H.next≤H2.next:=Nat.le_trans haf.2.1 haf2.2.1
    have f2:H2.floor=H.floor:=haf2.2.2.trans haf.2.2
    have o2:∀ i,i<lo→H2.get i=H.get i:=fun i hi=>(haf2.1 i (.inl hi)).trans (haf.1 i (.inl hi))
    have hout2:D2 a H2 BR 0 0:=hout.mono (o2 a (by omega)) (o2 (a+1) ha)
    obtain⟨H',s1,s2,r1,r2,r3,r4⟩:=MW hout2 rfl (by omega) (by omega) (cs':=BR) rfl rfl (e':=er i) (p':=at_)
    simp only[eE,seval,↓eP,t47,t48,t49,t8,t2',t3',c1,hix,jR,lf,hcall,d,PT,OA,s1,s2]
    refine hbad i hlt e0 hz _ _ ?_ ?_ r1 (by omega) (r3.trans f2) fun j hj=>(r4 j (by omega) (by omega)).trans (o2 j (by omega))
    ·simp only[eE,seval,↓eP,rP,t2']
    ·simp only[eE,seval,↓eP,rP,t3']
   | false=>
    have e0:er i=0:=by simpa using d
    have w1:=CK i (by omega)
    simp only[eE,seval,↓eP,t47,t48,t49,t8,c1,hix,jR,lf,hcall,d,w1]
    refine⟨hlt,by omega,fun t ht=>?_,hmk e0,⟨fun i hi=>(haf2.1 i hi).trans (haf.1 i hi),Nat.le_trans haf.2.1 haf2.2.1,haf2.2.2.trans haf.2.2⟩,fun j hj=>?_⟩
    ·repeat rw[if_neg (by omega)]
     exact hkeep t ht
    ·rcases Nat.lt_or_ge j i with h1 | h1
     ·exact hz j h1
     ·have:j=i:=by omega
      subst this
      exact e0
  ·have c1:decide ((i:Int)<3)=false:=by simp;omega
   have:i=3:=by omega
   subst this
   simp only[eE,seval,↓eP,t48,t49]
   refine hgood hz _ _ (fun t ht=>?_) hp1 haf
   simp only[Tr.get_put,Option.some.injEq]
   repeat rw[if_neg (by omega)]
   exact hkeep t ht
end
theorem Fl (k:Int) (h:AA) (hk:1≤k∧k≤54):L0 79 [iv k] h=some (iv (BJ k),h):=EG rfl rfl rfl rfl (HJ Bz hk)
theorem uA (k:Int) (h:AA) (hk:1≤k∧k≤54):L0 81 [iv k] h=some (iv (C8 k),h):=EG rfl rfl rfl rfl (HJ rK hk)
theorem iK (k:Int) (h:AA) (hk:1≤k∧k≤54):L0 82 [iv k] h=some (.bool (DU k),h):=EG rfl rfl rfl rfl (HJ uT hk)
theorem YY {at_:Nat} {end_:Int} {x:AB} {s:AN} (hx:s.rows[at_]?=some x):∃ n,(BD at_ end_ x s).rows[at_]?=some { x with n:=n }:=by
 rw[WJ]
 split
 ·exact⟨x.n,hx⟩
 ·exact⟨_,IG hx⟩
def M8 (at_:Nat) (end_:Int) (x x1 x2:AB) (s:AN):Nat→Int
 | 0=>C1 x s
 | 1=>CA at_ x1 (BD at_ end_ x s)
 | _=>CH x2 (BM at_ x1 (BD at_ end_ x s))
def SE (at_:Nat) (end_:Int) (x x1 x2:AB) (s:AN):Nat→AN
 | 0=>s
 | 1=>BD at_ end_ x s
 | 2=>BM at_ x1 (BD at_ end_ x s)
 | _=>CQ at_ x2 (BM at_ x1 (BD at_ end_ x s))
theorem Gx {E:List Int} {at_:Nat} {end_:Int} {x x1 x2:AB} {s:AN} (hx:s.rows[at_]?=some x) (hE:E[at_]?=some end_) (h1:(BD at_ end_ x s).rows[at_]?=some x1) (h2:CA at_ x1 (BD at_ end_ x s)=0→(BM at_ x1 (BD at_ end_ x s)).rows[at_]?=some x2) :
  (∀ i,i<3→M8 at_ end_ x x1 x2 s i≠0→(∀ j,j<i→M8 at_ end_ x x1 x2 s j=0)→DX E at_ s=(M8 at_ end_ x x1 x2 s i,s))∧((∀ j,j<3→M8 at_ end_ x x1 x2 s j=0)→DX E at_ s=(0,SE at_ end_ x x1 x2 s 3)):=by
 have hEx:(E[at_]?).getD 0=end_:=by rw[hE];rfl
 constructor
 ·intro i hi he hz
  unfold DX
  rw[hx]
  simp only[hEx]
  match i,hi,he,hz with
  | 0,_,he,_=>
   have he:C1 x s≠0:=he
   rw[if_pos he]
   rfl
  | 1,_,he,hz=>
   have h0:C1 x s=0:=hz 0 (by omega)
   have he:CA at_ x1 (BD at_ end_ x s)≠0:=he
   rw[if_neg (by simpa using h0),h1]
   simp only
   rw[if_pos he]
   rfl
  | 2,_,he,hz=>
   have h0:C1 x s=0:=hz 0 (by omega)
   have hc:CA at_ x1 (BD at_ end_ x s)=0:=hz 1 (by omega)
   have he:CH x2 (BM at_ x1 (BD at_ end_ x s))≠0:=he
   rw[if_neg (by simpa using h0),h1]
   simp only
   rw[if_neg (by simpa using hc),h2 hc]
   simp only
   rw[if_pos he]
   rfl
 ·intro hz
  have h0:C1 x s=0:=hz 0 (by omega)
  have hc:CA at_ x1 (BD at_ end_ x s)=0:=hz 1 (by omega)
  have he:CH x2 (BM at_ x1 (BD at_ end_ x s))=0:=hz 2 (by omega)
  unfold DX
  rw[hx]
  simp only[hEx]
  rw[if_neg (by simpa using h0),h1]
  simp only
  rw[if_neg (by simpa using hc),h2 hc]
  simp only
  rw[if_neg (by simpa using he)]
  rfl
section
variable {n lo m k c e r L:Nat} {h:AA} {nm:ByteArray} {E:List Int} {F:List Nat} {s:AN}
theorem uE {at_:Nat} {end_:Int} {x:AB} (hp:EE h lo m k c e r L nm E F s) (hx:s.rows[at_]?=some x) (hkind:1≤x.kind∧x.kind≤54) (hL:L<30000000000000) (he:0≤end_) (hn:0<n) :
  ∃ h',AU n 51 [qP m 0,iv at_,iv end_] h=some (iv (C1 x s),h')∧(FG h h' lo F∧(C1 x s=0→EE h' lo m k c e r L nm E F (BD at_ end_ x s))):=by
 obtain⟨n,rfl⟩:=ET hn
 exact OJ (CV ⟨rfl,rfl,rfl⟩) (Ih (Fsx n).2 hp hx hkind hL he (fun k h' hk=>FW (F4 (Fl k h' hk))) fun k h'=>FW (Ib k h'))
theorem rZ {at_:Nat} {x:AB} (hp:EE h lo m k c e r L nm E F s) (hx:s.rows[at_]?=some x) (hkind:1≤x.kind∧x.kind≤54) (hL:L<30000000000000) (hn:0<n) :
  ∃ h',AU n 52 [qP m 0,iv at_] h=some (iv (CA at_ x s),h')∧(FG h h' lo F∧(CA at_ x s=0→EE h' lo m k c e r L nm E F (BM at_ x s))):=by
 obtain⟨n,rfl⟩:=ET hn
 exact OJ (CV ⟨rfl,rfl,rfl⟩) (qO (Fsx n).2 hp hx hkind hL fun k h' hk=>FW (F4 (uA k h' hk)))
theorem yM {at_:Nat} {x:AB} (hp:EE h lo m k c e r L nm E F s) (hx:s.rows[at_]?=some x) (hkind:1≤x.kind∧x.kind≤54) (hL:L<30000000000000) (hxn:DU x.kind=true→x.kind≠10→0≤x.n∧x.n<s.on.length) (hn:0<n) :
  ∃ h',AU n 53 [qP m 0,iv at_] h=some (iv (CH x s),h')∧(FG h h' lo F∧(CH x s=0→EE h' lo m k c e r L nm E F (CQ at_ x s))):=by
 obtain⟨n,rfl⟩:=ET hn
 exact OJ (CV ⟨rfl,rfl,rfl⟩) (Bj (Fsx n).2 hp hx hkind hL hxn fun k h' hk=>FW (F4 (iK k h' hk)))
theorem yP {at_ c5 c6:Nat} {end_:Int} {x:AB} (hp:EE h lo m k c e r L nm E F s) (hx:s.rows[at_]?=some x) (hkind:1≤x.kind∧x.kind≤54) (hL:L<30000000000000) (he:0≤end_) (hE:E[at_]?=some end_) (hlE:L=E.length)
  (h5:h.get c5=.row [qP m 0] 79 false false) (h6:h.get c6=.row [qS e L L] 28 false false) (hn:1<n) :
  ∃ h',AU n 50 [iv at_,qP c5 0,qP c6 0] h=some (iv (C1 x s),h')∧(FG h h' lo F∧(C1 x s=0→EE h' lo m k c e r L nm E F (BD at_ end_ x s))):=by
 obtain⟨n,rfl⟩:∃ j,n=j+1:=⟨n-1,by omega⟩
 obtain⟨tag,vq,vv,vt,vu,vo,es,hp',_⟩:=id hp
 obtain⟨h',hc,ha,hm⟩:=uE (n:=n) (at_:=at_) hp hx hkind hL he (by omega)
 exact OJ (CV ⟨rfl,rfl,rfl⟩) (qN (Fsx n).2 h5 h6 hp'.ends hE hlE ⟨h',hc,ha.2.2,ha,hm⟩)
theorem Bx {l:List AB} {at_ c5 c6 fl:Nat} {x x1:AB} {H:AA} (ht:CU l) (hL:l.length<2932031007403) (hat:at_<l.length) (hi:FQ l at_ s) (hx:s.rows[at_]?=some x) (h1:(BD at_ (BV l at_) x s).rows[at_]?=some x1) (hcl:TS H m e c5 c6 fl l.length (AI l)) (h5:c5∈F) (h6:c6∈F) (hfl:fl∈F) (hn:3<n) :
  ∃ x2,(CA at_ x1 (BD at_ (BV l at_) x s)=0→(BM at_ x1 (BD at_ (BV l at_) x s)).rows[at_]?=some x2)∧∀ i,i<3→∀ H1,EE H1 lo m k c e r l.length nm (AI l) F (SE at_ (BV l at_) x x1 x2 s i)→FG H H1 lo F→(∀ j,j<i→M8 at_ (BV l at_) x x1 x2 s j=0) →
   ∃ fid first cap H2,([.func (.func 50) #[] #[qP c5 0,qP c6 0],.func (.func 52) #[qP m 0] #[],.func (.func 53) #[qP m 0] #[]]:List Value)[i]?=some (.func (.func fid) first cap) ∧
    AU n fid (first.toList++[iv at_]++cap.toList) H1=some (iv (M8 at_ (BV l at_) x x1 x2 s i),H2)∧FG H1 H2 lo F∧(M8 at_ (BV l at_) x x1 x2 s i=0→EE H2 lo m k c e r l.length nm (AI l) F (SE at_ (BV l at_) x x1 x2 s (i+1))):=by
 have hkind:=TD ht hi x (List.mem_of_getElem? hx)
 obtain⟨n1,hx1⟩:=YY (end_:=BV l at_) hx
 rw[h1] at hx1
 cases hx1
 obtain⟨x2,hx2⟩:∃ x2,CA at_ { x with n:=n1 } (BD at_ (BV l at_) x s)=0→(BM at_ { x with n:=n1 } (BD at_ (BV l at_) x s)).rows[at_]?=some x2∧(∃ n,x2={ x with n:=n })∧(x2.kind≠10→DU x2.kind=true→I7 (BM at_ { x with n:=n1 } (BD at_ (BV l at_) x s))→0≤x2.n∧x2.n<(BM at_ { x with n:=n1 } (BD at_ (BV l at_) x s)).on.length):=by
  by_cases hc:CA at_ { x with n:=n1 } (BD at_ (BV l at_) x s)=0
  ·obtain⟨n2,a1,a2,a3,a4,a5,a6⟩:=U4 h1 hc
   refine⟨_,fun _=>⟨a1,⟨n2,rfl⟩,fun h10 hev hw=>?_⟩⟩
   have hd:=kE (k:=x.kind) hev h10
   rcases a6 with⟨b1,_⟩ | ⟨t,b1,b2,b3,_⟩
   ·have b1:C8 x.kind=0:=b1
    rw[hd.1] at b1
    cases b1
   ·have b2:t.kind=C8 x.kind:=b2
    rw[hd.1] at b2
    rw[← a5] at b1
    obtain⟨_,_,q1,q2,_⟩:=hw.th t b1
    rw[b2] at q2
    have q3:t.num<((BM at_ { x with n:=n1 } (BD at_ (BV l at_) x s)).queues.length:Int):=q2
    rw[← hw.o] at q3
    simp only
    rw[b3]
    exact⟨q1,q3⟩
  ·exact⟨x,fun h=>absurd h hc⟩
 refine⟨x2,fun h=>(hx2 h).1,?_⟩
 intro i hi3 H1 hp haf hz
 have hEat:(AI l)[at_]?=some (BV l at_:Int):=MF hat
 match i,hi3 with
 | 0,_=>
  have g5:H1.get c5=_:=(haf.1 c5 (.inr h5)).trans hcl.h5
  have g6:H1.get c6=_:=(haf.1 c6 (.inr h6)).trans hcl.h6
  obtain⟨H2,q1,q2,q3⟩:=yP (n:=n) (s:=s) (at_:=at_) hp hx hkind (by omega) (by omega) hEat (by rw[OM]) g5 g6 (by omega)
  exact⟨_,#[],#[qP c5 0,qP c6 0],H2,rfl,q1,q2,q3⟩
 | 1,_=>
  obtain⟨H2,q1,q2,q3⟩:=rZ (n:=n) (s:=BD at_ (BV l at_) x s) (at_:=at_) hp h1 hkind (by omega) (by omega)
  exact⟨_,#[qP m 0],#[],H2,rfl,q1,q2,q3⟩
 | 2,_=>
  have hc:CA at_ { x with n:=n1 } (BD at_ (BV l at_) x s)=0:=hz 1 (by omega)
  obtain⟨r1,⟨n2,r2⟩,r3⟩:=hx2 hc
  have hw:I7 (BM at_ { x with n:=n1 } (BD at_ (BV l at_) x s)):=by
   obtain⟨_,_,_,_,_,_,_,_,_,hw,_⟩:=id hp
   exact hw
  obtain⟨H2,q1,q2,q3⟩:=yM (n:=n) (s:=BM at_ { x with n:=n1 } (BD at_ (BV l at_) x s)) (at_:=at_) hp r1 (by rw[r2];exact hkind) (by omega) (fun a b=>r3 b a hw) (by omega)
  exact⟨_,#[qP m 0],#[],H2,rfl,q1,q2,q3⟩
end
theorem Ho {h:AA} {r:Nat} {rows:List AB} {lo hi:Nat} (hg:h.get r=.row (rows.flatMap AP) 46 true false) (hr:r<h.next) (hlh:lo≤hi) (hhi:hi≤rows.length) :
  ∃ v',G7 Tryd.prog h 22 (qS r rows.length AG) (some (iv lo)) (some (iv hi)) none=some v'∧AL h v' ((rows.drop lo).take (hi-lo)):=by
 have hl:((rows.drop lo).take (hi-lo)).length=hi-lo:=by rw[List.length_take,List.length_drop];omega
 refine⟨.slice (some ⟨r,lo*5,none⟩) (hi-lo) AG,?_,?_⟩
 ·simp only[G7,Tryd.underlying22,FX,F3,if_true]
  rw[if_pos (by omega)]
  simp only[Int.toNat_natCast]
  rw[if_pos (by omega)]
  simp only[Int.toNat_natCast]
  by_cases h0:lo=0
  ·subst h0
   rw[if_pos rfl]
   simp
  ·rw[if_neg h0,hg]
   simp only[FX,if_true,Nat.zero_add]
 ·refine⟨some ⟨r,lo*5,none⟩,AG,by rw[hl],.inr ⟨r,lo*5,_,_,_,_,rfl,hg,hr,fun k x hk=>?_⟩⟩
  have hk1:=(List.getElem?_eq_some_iff.1 hk).1
  rw[List.getElem?_take_of_lt (by omega),List.getElem?_drop] at hk
  rw[show lo*5+k*5=(lo+k)*5 by omega]
  exact MT hk
section
variable {n lo m k c e r L:Nat} {h:AA} {nm:ByteArray} {E:List Int} {F:List Nat} {s:AN}
theorem fI {pb eb sb row:Nat} {rows:List AB} {E rules sums:List Int} (hL:NF rows E rules) (hc:IP h pb eb sb rows E sums) (hs:HV sums) (hsl:sums.length=rules.length) (hfl:h.floor≤h.next) (hrow:row<rows.length) (hn:rows.length+8<n) :
  AU n 88 [iv row,qP pb 0,qP eb 0,qP sb 0] h=some (iv (D4 rows E sums row),h):=by
 obtain⟨n,rfl⟩:=ET hn
 obtain⟨q,q1,q2,q3,q4⟩:=hL.end hrow
 have hc':D4 rows E sums row=FY sums ((rows.drop row).take (q-row)) 0:=by unfold D4;rw[q1];rfl
 rw[hc']
 exact JA (CV ⟨rfl,rfl,rfl⟩) rfl (qM (Fsx n).2 hc hs hfl q1 q2 q3 (by have:=hL.len;omega) (by omega)
  (fun x hx h22=>by rw[hsl];exact hL.calls x (List.mem_of_mem_drop (List.mem_of_mem_take hx)) h22) fun a b h' hb ha=>FW (pH h' hb ha))
theorem zQ {rows:List AB} {E rules:List Int} (hL:NF rows E rules) {v0 vr v2 v3 v4 vu v6 v7:Value} {e ce:Nat} {ge:Bool} (hone:[v0,vr,v2,v3,v4,vu,v6,v7].all one=true) (hfl:h.floor≤h.next) (hn:rows.length+rules.length+12<n)
  (hsl:∀ (lo hi:Nat) h',(∀ i,i<h.next→h'.get i=h.get i)→h.next≤h'.next→lo≤hi→hi≤rows.length→∃ v',G7 Tryd.prog h' 22 vr (some (iv lo)) (some (iv hi)) none=some v'∧AL h' v' ((rows.drop lo).take (hi-lo)))
  {lu:Nat} (hu:BY lu h vu rules) (he:h.get e=.row (ints E) 3 ge false) (hel:e<h.next) :
  ∃ h',AU n 72 [.agg #[v0,vr,v2,v3,v4,vu,v6,v7],qS e E.length ce] h=some (.func (.func 88) #[] #[qP h.next 0,qP (h.next+1) 0,qP (h.next+3) 0],h') ∧
   (IP h' h.next (h.next+1) (h.next+3) rows E (G5 rows E rules)∧h.next≤h'.next∧h'.floor=h.floor∧∀ i,i<h.next→h'.get i=h.get i):=by
 obtain⟨n,rfl⟩:=ET hn
 refine OE (CV ⟨rfl,rfl,rfl⟩) rfl (He (Fsx n).2 hL hone hfl (by omega) (by omega) hsl (fun h'=>hu.len) ?_ ?_ he hel ?_)
 ·obtain⟨_,a,c,h1,_⟩:=hu
  exact⟨a,c,h1⟩
 ·intro h' hold i ru hi
  obtain⟨id,p,h1,h2,h3⟩:=BY.get hu hi
  exact⟨id,p,h1,by rw[hold id h2];exact h3⟩
 ·intro pb eb sb row sums h' hc hsl' hs hfl' hrow
  exact fI hL hc hs hsl' hfl' hrow (by omega)
theorem wZ {tag:Nat→Nat} {vq vv vt vu vo:Value} {es:List (Value × Value)} {l:List AB} (hp:BN h lo m k c e r l.length nm (AI l) tag vq vv vt vu vo es s) (ht:CU l) (hlen:l.length<2932031007403) (hi:FQ l l.length s) (hfl:h.floor≤h.next) (hn:l.length+100<n) :
  AU n 54 [qP m 0,qS e l.length l.length] h=some (iv (FB s.rows (AI l) s.rules),h):=by
 obtain⟨n,rfl⟩:=ET hn
 have hL:=lI ht (by omega) hi
 have hnu:=hi.wf.u
 have hrl:=hi.len
 have hpl:=hp.pol.len
 refine JA (CV ⟨rfl,rfl,rfl⟩) rfl (vI (pb:=h.next) (eb:=h.next+1) (sb:=h.next+3) hp hL hfl (by omega) (TD ht hi) (fV ht hi) ?_ (fun k h' hk=>FW (F4 (iK k h' hk))) (fun a b h' hb ha=>FW (pH h' hb ha)) ?_)
 ·have hE:(AI l).length=l.length:=OM
  have hs:∀ (lo hi:Nat) (h':AA),(∀ i,i<h.next→h'.get i=h.get i)→h.next≤h'.next→lo≤hi→hi≤s.rows.length→∃ v',G7 Tryd.prog h' 22 (qS r l.length AG) (some (iv lo)) (some (iv hi)) none=some v'∧AL h' v' ((s.rows.drop lo).take (hi-lo)):=fun lo hi h' ho hx a b=>by
   have:=Ho (h:=h') (r:=r) (rows:=s.rows) (by rw[ho r hp.pol.lr.2];exact hp.pol.rows) (by have:=hp.pol.lr.2;omega) a b
   rw[hpl] at this
   exact this
  have:=zQ (n:=n) (h:=h) (ce:=l.length) (v0:=.string nm) (v2:=vq) (v3:=vv) (v4:=vt) (v6:=vo) (v7:=iv s.miss) (vr:=qS r l.length AG) hL ?_ hfl (by omega) hs (BY.weak (hp.pol.u.cells (by rw[FH,Nat.mul_one])) (Nat.zero_le _)) hp.ends hp.le.2
  ·rw[hE] at this
   exact this
  ·have q1:=(hp.pol.q.cells (w:=2) (NA _)).one
   have q2:=(hp.pol.v.cells (w:=1) (by rw[QH,Nat.mul_one])).one
   have q3:=(hp.pol.t.cells (w:=1) (by rw[QH,Nat.mul_one])).one
   have q4:=(hp.pol.u.cells (w:=1) (by rw[FH,Nat.mul_one])).one
   have q5:=(hp.pol.o.cells (w:=1) (by rw[FH,Nat.mul_one])).one
   simp only[List.all_cons,List.all_nil,q1,q2,q3,q4,q5,M7,NG,Bool.and_self]
   rfl
 ·intro row h' hc hfl' hrow
  exact fI hL hc (VN).1 (VN).2 hfl' hrow (by omega)
end
theorem FG.trans {h H H':AA} {lo:Nat} {F:List Nat} (a:FG h H lo F) (b:FG H H' lo F):FG h H' lo F:=⟨fun i hi=>(b.1 i hi).trans (a.1 i hi),Nat.le_trans a.2.1 b.2.1,b.2.2.trans a.2.2⟩
section
variable {n N:Nat}
theorem Im {l:List AB} {v:Value} {T:Tr} {H:AA} {K:BS} {a fl lo m k c e r c5 c6:Nat} {nm:ByteArray} {F:List Nat} (ht:CU l) (hL:l.length<2932031007403) (hn:3<n) (hN:l.length+3<N)
  (t0:T.get 0=v) (t2:T.get 2=qP a 0) (t3:T.get 3=qP (a+1) 0) (t7:T.get 7=qS fl 3 3) (hv:AL H v l)
  (hp:EE H lo m k c e r l.length nm (AI l) F (A_ l)) (hcl:TS H m e c5 c6 fl l.length (AI l)) (h5:c5∈F) (h6:c6∈F) (hfl:fl∈F) (ha:a+1<lo) (hlo:lo≤H.next) (hout:D2 a H BR 0 0) (hfa:H.floor≤a)
  (hbad:(BG (AI l) l.length 0 (A_ l)).1≠0→∀ T' H',T'.get 2=qP a 0→T'.get 3=qP (a+1) 0→D2 a H' BR (BG (AI l) l.length 0 (A_ l)).1 (BG (AI l) l.length 0 (A_ l)).2.1→H.next≤H'.next→H'.floor=H.floor→(∀ i,i<a→H'.get i=H.get i)→K.ap Tryd.prog (AU n) N .ret ⟨T',H'⟩)
  (hgood:(BG (AI l) l.length 0 (A_ l)).1=0→∀ T' H',(∀ t,t≤7→T'.get t=T.get t)→EE H' lo m k c e r l.length nm (AI l) F (BG (AI l) l.length 0 (A_ l)).2.2→FQ l l.length (BG (AI l) l.length 0 (A_ l)).2.2→FG H H' lo F→WK Tryd.prog (AU n) N U8 ⟨T',H'⟩ K) :
  WK Tryd.prog (AU n) N V1 ⟨T,H⟩ K:=by
 show WK _ _ _ (.seq (.seq _ (.block 0 (.loop (.seq _ (.seq _ (.seq (.block 1 iH) _)))))) U8) _ _
 have hlen:=fun h'=>hv.len (h':=h')
 simp only[eE,seval,↓eP,t0,hlen]
 refine WK.loop (fun i s'=>s'.T.get 43=iv l.length∧s'.T.get 44=iv i∧i≤l.length∧(∀ t,t≤7→s'.T.get t=T.get t)∧FG H s'.h lo F∧∃ s,EE s'.h lo m k c e r l.length nm (AI l) F s∧FQ l i s∧BG (AI l) (l.length-i) i s=BG (AI l) l.length 0 (A_ l)) l.length (by omega) ?_ ?_
 ·refine⟨by simp only[eE,↓reduceIte,Nat.reduceEqDiff,reduceCtorEq,↓eP,rP,Nat.reduceAdd,Nat.reduceLT],by simp only[eE,↓reduceIte,Nat.reduceEqDiff,reduceCtorEq,↓eP,rP,Nat.reduceAdd,Nat.reduceLT];rfl,by omega,fun t ht=>?_,⟨fun _ _=>rfl,Nat.le_refl _,rfl⟩,A_ l,hp,PF l,rfl⟩
  simp only[Tr.get_put,Option.some.injEq]
  repeat rw[if_neg (by omega)]
 ·rintro i ⟨T1,H1⟩ hi ⟨t43,t44,hil,hkeep,haf,s,hp1,hin,hgo⟩
  simp only at t43 t44 hkeep haf hp1
  by_cases hlt:i<l.length
  ·have c1:decide ((i:Int)<(l.length:Int))=true:=by simp;omega
   obtain⟨x,hx⟩:∃ x,s.rows[i]?=some x:=⟨_,List.getElem?_eq_getElem (by rw[hin.len];exact hlt)⟩
   obtain⟨n1,h1⟩:=YY (end_:=BV l i) hx
   have hcl1:TS H1 m e c5 c6 fl l.length (AI l):=⟨(haf.1 c5 (.inr h5)).trans hcl.h5,(haf.1 c6 (.inr h6)).trans hcl.h6,(haf.1 fl (.inr hfl)).trans hcl.hf⟩
   obtain⟨x2,hx2,hlook⟩:=Bx (n:=n) (lo:=lo) (k:=k) (c:=c) (r:=r) (nm:=nm) (F:=F) ht hL hlt hin hx h1 hcl1 h5 h6 hfl hn
   obtain⟨sb,sg⟩:=Gx (E:=AI l) hx (MF hlt) h1 hx2
   have hr:l.length-i=(l.length-(i+1))+1:=by omega
   rw[hr] at hgo
   have hout1:D2 a H1 BR 0 0:=hout.mono (haf.1 a (.inl (by omega))) (haf.1 (a+1) (.inl ha))
   have hn1:=haf.2.1
   have hf1:=haf.2.2
   have w1:=CK i (by omega)
   have hkp:∀ t,t≤44→(T1.put (some 45) (Value.bool true)).get t=T1.get t:=fun t ht=>by
    rw[Tr.get_put,if_neg (fun h=>by have h9:(45:Nat)=t:=Option.some.inj h;omega)]
   simp only[eE,seval,↓eP,t43,t44,c1]
   refine yI (a:=a) (fl:=fl) (er:=M8 i (BV l i) x { x with n:=n1 } x2 s) (st:=SE i (BV l i) x { x with n:=n1 } x2 s) (E:=AI l) (F:=F) ((hkp 2 (by omega)).trans ((hkeep 2 (by omega)).trans t2)) ((hkp 3 (by omega)).trans ((hkeep 3 (by omega)).trans t3)) ((hkp 7 (by omega)).trans ((hkeep 7 (by omega)).trans t7)) ((hkp 44 (by omega)).trans t44) (by omega) hp1 ha (by omega) hout1 (by omega) hcl1.hf hfl hlook ?_ ?_
   ·intro j hj he hz T' H' g2 g3 ho hnx hfx hox
    have hst:=sb j hj he hz
    have hg:BG (AI l) l.length 0 (A_ l)=(M8 i (BV l i) x { x with n:=n1 } x2 s j,i,s):=by
     rw[← hgo]
     unfold BG
     rw[hst,if_pos he]
    simp only[eE,seval,↓eP]
    refine hbad (by rw[hg];exact he) T' H' g2 g3 (by rw[hg];exact ho) (by omega) (by omega) fun q hq=>(hox q hq).trans (haf.1 q (.inl (by omega)))
   ·intro hz T' H' hk' hp' haf'
    have hst:=sg hz
    have e0:(DX (AI l) i s).1=0:=by rw[hst]
    have hin':=O5 ht (RL i) hlt hin e0
    rw[hst] at hin'
    have hg:BG (AI l) (l.length-(i+1)) (i+1) (SE i (BV l i) x { x with n:=n1 } x2 s 3)=BG (AI l) l.length 0 (A_ l):=by
     rw[← hgo]
     conv=>rhs;unfold BG
     rw[if_neg (by rw[e0];simp),hst]
    have u43:=(hk' 43 (by omega)).trans ((hkp 43 (by omega)).trans t43)
    have u44:=(hk' 44 (by omega)).trans ((hkp 44 (by omega)).trans t44)
    simp only[eE,seval,↓eP,u43,u44,w1]
    refine⟨hlt,by omega,fun t ht=>?_,haf.trans haf',_,hp',hin',hg⟩
    repeat rw[if_neg (by omega)]
    exact(hk' t (by omega)).trans ((hkp t (by omega)).trans (hkeep t ht))
  ·have c1:decide ((i:Int)<(l.length:Int))=false:=by simp;omega
   have:i=l.length:=by omega
   subst this
   have hg:BG (AI l) l.length 0 (A_ l)=(0,l.length,s):=by
    rw[← hgo,Nat.sub_self]
    rfl
   simp only[eE,seval,↓eP,t43,t44,c1]
   refine hgood (by rw[hg]) _ _ (fun t ht=>?_) (by rw[hg];exact hp1) (by rw[hg];exact hin) haf
   simp only[Tr.get_put,Option.some.injEq]
   repeat rw[if_neg (by omega)]
   exact hkeep t ht
theorem BN.polAt {h:AA} {lo m k c e r n:Nat} {nm:ByteArray} {E:List Int} {tag:Nat→Nat} {vq vv vt vu vo:Value} {es:List (Value × Value)} {s:AN} (hp:BN h lo m k c e r n nm E tag vq vv vt vu vo es s) :
  DT lo h (.agg #[.string nm,qS r n AG,vq,vv,vt,vu,vo,iv s.miss]) nm s:=by
 refine⟨_,vq,vv,vt,vu,vo,rfl,G4.of ?_,hp.pol.q.cells (NA _),hp.pol.v.cells (by simp[CZ]),hp.pol.t.cells (by simp[CZ]),hp.pol.u.cells (by rw[FH,Nat.mul_one]),hp.pol.o.cells (by rw[FH,Nat.mul_one])⟩
 have hl:=hp.pol.len
 subst hl
 exact AV.row (ex:=[]) (by rw[List.append_nil];exact hp.pol.rows) hp.pol.lr (H9 _)
theorem DT.weak {lo lo':Nat} {h:AA} {pv:Value} {nm:ByteArray} {s:AN} (hp:DT lo h pv nm s) (hl:lo'≤lo):DT lo' h pv nm s:=by
 obtain⟨vr,vq,vv,vt,vu,vo,h1,h2,h3,h4,h5,h6,h7⟩:=hp
 exact⟨vr,vq,vv,vt,vu,vo,h1,G4.of (h2.2.weak hl),h3.weak hl,h4.weak hl,h5.weak hl,h6.weak hl,h7.weak hl⟩
def KR (lo:Nat) (h:AA) (pv:Value) (nm:ByteArray) (s:AN):Prop:=
 ∃ tag r vq vv vt vu vo,pv=.agg #[.string nm,qS r s.rows.length AG,vq,vv,vt,vu,vo,iv s.miss]∧JL h lo tag r s.rows.length vq vv vt vu vo s
theorem DQ.weak {h:AA} {lo lo':Nat} {tag:Nat→Nat} {j:Nat} {v:Value} {n:Nat} {cs:List Value} {ty:TypeId} (hs:DQ h lo tag j v n cs ty) (hl:lo'≤lo):DQ h lo' tag j v n cs ty:=by
 rcases hs with h1 | ⟨id,ex,h1,h2,h3,h4,h5⟩
 ·exact .inl h1
 ·exact .inr ⟨id,ex,h1,h2,by omega,h4,h5⟩
theorem JL.weak {h:AA} {lo lo':Nat} {tag:Nat→Nat} {r n:Nat} {vq vv vt vu vo:Value} {s:AN} (hp:JL h lo tag r n vq vv vt vu vo s) (hl:lo'≤lo):JL h lo' tag r n vq vv vt vu vo s:=
 ⟨hp.rows,hp.len,hp.tr,⟨by have:=hp.lr.1;omega,hp.lr.2⟩,hp.q.weak hl,hp.v.weak hl,hp.t.weak hl,hp.u.weak hl,hp.o.weak hl⟩
theorem KR.weak {lo lo':Nat} {h:AA} {pv:Value} {nm:ByteArray} {s:AN} (hp:KR lo h pv nm s) (hl:lo'≤lo):KR lo' h pv nm s:=by
 obtain⟨tag,r,vq,vv,vt,vu,vo,h1,h2⟩:=hp
 exact⟨tag,r,vq,vv,vt,vu,vo,h1,h2.weak hl⟩
theorem KR.mono {lo:Nat} {h h':AA} {pv:Value} {nm:ByteArray} {s:AN} (hp:KR lo h pv nm s) (hn:h.next≤h'.next) (hg:∀ i,lo≤i→i<h.next→h'.get i=h.get i):KR lo h' pv nm s:=by
 obtain⟨tag,r,vq,vv,vt,vu,vo,h1,h2⟩:=hp
 exact⟨tag,r,vq,vv,vt,vu,vo,h1,h2.mono hn (fun _ _=>rfl) fun i a b _ _=>hg i a b⟩
theorem KR.pol {lo:Nat} {h:AA} {pv:Value} {nm:ByteArray} {s:AN} (hp:KR lo h pv nm s):DT lo h pv nm s:=by
 obtain⟨tag,r,vq,vv,vt,vu,vo,h1,h2⟩:=hp
 exact⟨_,vq,vv,vt,vu,vo,h1,G4.of (AV.row (ex:=[]) (by rw[List.append_nil];exact h2.rows) h2.lr (H9 _)),h2.q.cells (NA _),h2.v.cells (by simp[CZ]),h2.t.cells (by simp[CZ]),h2.u.cells (by rw[FH,Nat.mul_one]),h2.o.cells (by rw[FH,Nat.mul_one])⟩
theorem BN.own {h:AA} {lo m k c e r n:Nat} {nm:ByteArray} {E:List Int} {tag:Nat→Nat} {vq vv vt vu vo:Value} {es:List (Value × Value)} {s:AN} (hp:BN h lo m k c e r n nm E tag vq vv vt vu vo es s) :
  KR lo h (.agg #[.string nm,qS r n AG,vq,vv,vt,vu,vo,iv s.miss]) nm s:=by
 have hl:=hp.pol.len
 subst hl
 exact⟨tag,r,vq,vv,vt,vu,vo,rfl,hp.pol⟩
theorem Fc {l:List AB} {T:Tr} {H:AA} {K:BS} {a lo m k c e r c5 c6:Nat} {nm:ByteArray} {F:List Nat} {s:AN} (ht:CU l) (hL:l.length<2932031007403) (hn:l.length+100<n)
  (t2:T.get 2=qP a 0) (t3:T.get 3=qP (a+1) 0) (t5:T.get 5=qP c5 0) (t6:T.get 6=qP c6 0)
  (hp:EE H lo m k c e r l.length nm (AI l) F s) (hin:FQ l l.length s) (h5:H.get c5=.row [qP m 0] 79 false false) (h6:H.get c6=.row [qS e l.length l.length] 28 false false) (ha:a+1<lo) (hlo:lo≤H.next) (hout:D2 a H BR 0 0) (hfa:H.floor≤a)
  (hbad:FB s.rows (AI l) s.rules≥0→∀ T' H',T'.get 2=qP a 0→T'.get 3=qP (a+1) 0→D2 a H' BR 34 (FB s.rows (AI l) s.rules)→H.next≤H'.next→H'.floor=H.floor→(∀ i,i<a→H'.get i=H.get i)→K.ap Tryd.prog (AU n) N .ret ⟨T',H'⟩)
  (hgood:¬ FB s.rows (AI l) s.rules≥0→∀ T' H' cs,T'.get 2=qP a 0→T'.get 3=qP (a+1) 0→cs.length=8→D2 a H' cs 0 0→KR lo H' (.agg cs.toArray) nm s→H.next≤H'.next→H'.floor=H.floor→(∀ i,i<a→H'.get i=H.get i)→K.ap Tryd.prog (AU n) N .ret ⟨T',H'⟩) :
  WK Tryd.prog (AU n) N U8 ⟨T,H⟩ K:=by
 show WK _ _ _ (.seq (.seq _ (.seq _ _)) (.seq _ _)) _ _
 obtain⟨tag,vq,vv,vt,vu,vo,es,hp',_⟩:=id hp
 have hlg:=wZ (n:=n) hp' ht hL hin (by omega) hn
 have l5:AO 0 (H.get c5)=some (qP m 0):=by rw[h5];rfl
 have l6:AO 0 (H.get c6)=some (qS e l.length l.length):=by rw[h6];rfl
 cases d:decide (FB s.rows (AI l) s.rules≥0) with
 | true=>
  obtain⟨H',s1,s2,r1,r2,r3,r4⟩:=MW hout rfl (by omega) (by omega) (cs':=BR) rfl rfl (e':=34) (p':=FB s.rows (AI l) s.rules)
  simp only[eE,seval,↓eP,RZ,C3,t2,t3,t5,t6,l5,l6,hlg,d,PT,OA,s1,s2]
  refine hbad (by simpa using d) _ _ ?_ ?_ r1 (by omega) r3 fun i hi=>r4 i (by omega) (by omega)
  ·simp only[eE,seval,↓eP,rP,t2]
  ·simp only[eE,seval,↓eP,rP,t3]
 | false=>
  have l8:CD 8 0 (H.get m)=some (.agg #[.string nm,qS r l.length AG,vq,vv,vt,vu,vo,iv s.miss]):=by rw[hp'.cell];rfl
  have hpol:=hp'.own
  have hall:([.string nm,qS r l.length AG,vq,vv,vt,vu,vo,iv s.miss]:List Value).all one=true:=by
   have q1:=(hp'.pol.q.cells (w:=2) (NA _)).one
   have q2:=(hp'.pol.v.cells (w:=1) (by simp[CZ])).one
   have q3:=(hp'.pol.t.cells (w:=1) (by simp[CZ])).one
   have q4:=(hp'.pol.u.cells (w:=1) (by rw[FH,Nat.mul_one])).one
   have q5:=(hp'.pol.o.cells (w:=1) (by rw[FH,Nat.mul_one])).one
   simp only[List.all_cons,List.all_nil,q1,q2,q3,q4,q5,M7,NG,Bool.and_self]
   rfl
  obtain⟨H',s1,s2,r1,r2,r3,r4⟩:=MW hout rfl (by omega) (by omega) (cs':=[.string nm,qS r l.length AG,vq,vv,vt,vu,vo,iv s.miss]) rfl hall (e':=0) (p':=0)
  simp only[eE,seval,↓eP,RZ,C3,t2,t3,t5,t6,l5,l6,hlg,d,H8,IW,l8,TJ,s1,s2]
  refine hgood (by simpa using d) _ _ _ ?_ ?_ rfl r1 (hpol.mono (by omega) fun i hi _=>r4 i (by omega) (by omega)) (by omega) r3 fun i hi=>r4 i (by omega) (by omega)
  ·simp only[eE,seval,↓eP,rP,t2]
  ·simp only[eE,seval,↓eP,rP,t3]
end
theorem R9 {a:Nat} {H:AA} {cs:List Value} {ty:TypeId} {g ro:Bool} (h:H.get a=.row cs ty g ro) (hl:cs.length=8):CD 8 0 (H.get a)=some (.agg cs.toArray):=by
 rw[h]
 have:cs.take 8=cs:=List.take_of_length_le (by omega)
 simp only[CD,D1,List.drop_zero,this,hl,if_true]
theorem TA {l:List AB} (h:(BF l).1=0):G8 AR l=none:=by
 unfold BF at h
 cases hs:G8 AR l with
 | none=>rfl
 | some p=>
  rw[hs] at h
  simp at h
def N9 (h:AA) (l:List AB) (v:Value) (h':AA):Prop:=
 ∃ pv,v=.tuple #[pv,FI (AZ l).1.1 (AZ l).1.2]∧DT h.next h' pv (BU l).1 (BU l).2∧h'.floor=h.floor∧h.next≤h'.next∧∀ i,i<h.next→h'.get i=h.get i
theorem AV.flat {lo:Nat} {h:AA} {v:Value} {n w:Nat} {cs:List Value} (hc:AV lo h v n w cs) (hf:BO v=true) (lo':Nat) (h':AA):AV lo' h' v n w cs:=by
 obtain⟨hl,a,c,rfl,⟨h0,rfl⟩ | ⟨id,off,row,ty,g,ro,rfl,g1,g2,g3⟩⟩:=hc
 ·exact⟨hl,_,_,rfl,.inl ⟨h0,rfl⟩⟩
 ·cases hf
theorem Jk {h h1:AA} {l:List AB} {v:Value} (hf:E_ v=true) (ht:N9 h l v h1):N9 h l v h:=by
 obtain⟨pv,rfl,⟨vr,vq,vv,vt,vu,vo,rfl,h2,h3,h4,h5,h6,h7⟩,_⟩:=ht
 have hf':flat (.agg #[.string (BU l).1,vr,vq,vv,vt,vu,vo,iv (BU l).2.miss])=true:=by
  simp only[E_,List.all_toArray,List.all_cons,Bool.and_eq_true] at hf
  exact hf.1
 simp only[flat,List.all_cons,Bool.and_eq_true] at hf'
 obtain⟨_,f1,f2,f3,f4,f5,f6,_⟩:=hf'
 exact⟨_,rfl,⟨vr,vq,vv,vt,vu,vo,rfl,G4.of (h2.2.flat f1 _ _),h3.flat f2 _ _,h4.flat f3 _ _,h5.flat f4 _ _,AV.flat h6 f5 _ _,AV.flat h7 f6 _ _⟩,rfl,Nat.le_refl _,fun _ _=>rfl⟩
def RY (lo:Nat) (h:AA) (pv:Value) (nm:ByteArray) (s:AN):Prop:=(pv=M_∧nm=ByteArray.empty∧s=sZ)∨KR lo h pv nm s
theorem RY.pol {lo:Nat} {h:AA} {pv:Value} {nm:ByteArray} {s:AN} (hp:RY lo h pv nm s):DT lo h pv nm s:=by
 rcases hp with⟨rfl,rfl,rfl⟩ | hp
 ·exact iJ lo h
 ·exact hp.pol
def N6 (h:AA) (l:List AB) (v:Value) (h':AA):Prop:=
 ∃ pv,v=.tuple #[pv,FI (AZ l).1.1 (AZ l).1.2]∧RY h.next h' pv (BU l).1 (BU l).2∧h'.floor=h.floor∧h.next≤h'.next∧∀ i,i<h.next→h'.get i=h.get i
theorem N6.told {h h':AA} {l:List AB} {v:Value} (ht:N6 h l v h'):N9 h l v h':=by
 obtain⟨pv,h1,h2,h3⟩:=ht
 exact⟨pv,h1,h2.pol,h3⟩
theorem tE {h h1:AA} {l:List AB} {v:Value} (hf:E_ v=true) (ht:N6 h l v h1):N6 h l v h:=by
 obtain⟨pv,rfl,h2,_⟩:=ht
 refine⟨pv,rfl,?_,rfl,Nat.le_refl _,fun _ _=>rfl⟩
 rcases h2 with h2 | ⟨tag,r,vq,vv,vt,vu,vo,rfl,_⟩
 ·exact .inl h2
 ·have hf':flat (.agg #[.string (BU l).1,qS r (BU l).2.rows.length AG,vq,vv,vt,vu,vo,iv (BU l).2.miss])=true:=by
   simp only[E_,List.all_toArray,List.all_cons,Bool.and_eq_true] at hf
   exact hf.1
  simp only[flat,List.all_cons,Bool.and_eq_true] at hf'
  exact absurd hf'.2.1 (by simp[BO])
section
variable {n N:Nat}
theorem Dm {l:List AB} {v:Value} {h:AA} (hfl:h.floor≤h.next) (hg:h.get 0=DK) (hn0:0<h.next) (hv:AL h v l) (hL:l.length<2932031007403) (hn:2*l.length+100<n) (hN:l.length+3<N) :
  ∃ v' h',AW Tryd.prog (AU n) N 16 [v] h=some (v',h')∧N6 h l v' h':=by
 refine PW (R:=N6 h l) Tryd.func16 rfl (by simp[Tryd.f16]) ?_
 have hr:Tryd.f16.results.toList=[.cell 2 30,.cell 3 33]:=rfl
 generalize hKK:BS.top (fun e s=>(e=DB.normal∨e=DB.ret)∧∃ vs,EV Tryd.prog s Tryd.f16.results.toList=some vs∧N6 h l (F7 vs) s.h)=K
 have fin:∀ (T':Tr) (H':AA) cs e p nm s,T'.get 2=qP h.next 0→T'.get 3=qP (h.next+1) 0→cs.length=8→D2 h.next H' cs e p→RY h.next H' (.agg cs.toArray) nm s→(AZ l).1=(e,p)→BU l=(nm,s)→h.next≤H'.next→H'.floor=h.floor→(∀ i,i<h.next→H'.get i=h.get i)→K.ap Tryd.prog (AU n) N .ret ⟨T',H'⟩:=by
  intro T' H' cs e p nm s t2 t3 hl ho hp he hout hnx hf hold
  have l30:=R9 ho.1 hl
  have l33:CD 2 0 (H'.get (h.next+1))=some (FI e p):=by rw[ho.2];rfl
  rw[← hKK]
  simp only[eE,seval,↓eP,hr,t2,t3,IW,JT,l30,l33]
  exact⟨_,by rw[he],by rw[hout];exact hp,hf,hnx,hold⟩
 have hz:∀ H',RY h.next H' M_ ByteArray.empty sZ:=fun H'=>.inl ⟨rfl,rfl,rfl⟩
 refine r9 (Fsx n).2 hfl hv hg hn0 (fun H hv' hg' hn' hfl'=>uN (by omega) (by omega) hv' hg' hn' hfl') ?_ ?_
 ·intro hc T' H t2 t3 ho hnx hf hold
  refine fin T' H _ _ _ ByteArray.empty sZ t2 t3 rfl ho (hz H) ?_ ?_ (by omega) hf hold
  ·unfold AZ
   rw[if_pos hc]
  ·unfold BU
   have:(AZ l).1.1≠0:=by unfold AZ;rw[if_pos hc];exact hc
   rw[if_pos this]
 ·intro hc T' H t0 t2 t3 ho hnx hf hold
  have ht:=QS (TA hc)
  have hvH:AL H v l:=hv.mono (by omega) hold
  have hcw:=fun H' (hv':AL H' v l)=>OE (n:=n-1) (CV (f:=48) (args:=[v]) (h:=H') ⟨rfl,rfl,rfl⟩) rfl (cZ (call:=AU (n-1)) (N:=n-1) hv' ht.pos (by omega))
  rw[show n-1+1=n by omega] at hcw
  refine Ey (Fsx n).2 ht hL (by omega) hvH t0 hcw (fun H' hv' hf'=>Bv ht hv' (by omega) (by omega) hf') ?_
  intro T1 H1 m k c e r c5 c6 fl u0 u2 u3 u5 u6 u7 hp hcl hnx1 hf1 hold1
  have ho1:D2 h.next H1 BR 0 0:=ho.mono (hold1 _ (by omega)) (hold1 _ (by omega))
  refine Im (a:=h.next) ht hL (by omega) hN u0 (u2.trans t2) (u3.trans t3) u7 (hvH.mono hnx1 hold1) hp hcl (by simp) (by simp) (by simp) (by omega) (by omega) ho1 (by omega) ?_ ?_
  ·intro hgo T2 H2 w2 w3 ho2 hnx2 hf2 hold2
   refine fin T2 H2 _ _ _ ByteArray.empty sZ w2 w3 rfl ho2 (hz H2) ?_ ?_ (by omega) (by omega) fun i hi=>by rw[hold2 i hi,hold1 i (by omega),hold i hi]
   ·unfold AZ
    rw[if_neg (by rw[hc];simp)]
    simp only
    rw[if_pos hgo]
   ·unfold BU
    have:(AZ l).1.1≠0:=by
     unfold AZ
     rw[if_neg (by rw[hc];simp)]
     simp only
     rw[if_pos hgo]
     exact hgo
    rw[if_pos this]
  ·intro hgo T2 H2 hk2 hp2 hin2 haf
   have g5:=(haf.1 c5 (.inr (by simp))).trans hcl.h5
   have g6:=(haf.1 c6 (.inr (by simp))).trans hcl.h6
   have ho2:D2 h.next H2 BR 0 0:=ho1.mono (haf.1 _ (.inl (by omega))) (haf.1 _ (.inl (by omega)))
   have hf2:=haf.2.2
   have hn2:=haf.2.1
   refine Fc (a:=h.next) ht hL (by omega) ((hk2 2 (by omega)).trans (u2.trans t2)) ((hk2 3 (by omega)).trans (u3.trans t3)) ((hk2 5 (by omega)).trans u5) ((hk2 6 (by omega)).trans u6) hp2 hin2 g5 g6 (by omega) (by omega) ho2 (by omega) ?_ ?_
   ·intro hlg T3 H3 x2 x3 ho3 hnx3 hf3 hold3
    have hres:(AZ l).1=(34,FB (BG (AI l) l.length 0 (A_ l)).2.2.rows (AI l) (BG (AI l) l.length 0 (A_ l)).2.2.rules):=by
     unfold AZ
     rw[if_neg (by rw[hc];simp)]
     simp only
     rw[if_neg (by rw[hgo];simp),if_pos hlg]
    refine fin T3 H3 _ _ _ ByteArray.empty sZ x2 x3 rfl ho3 (hz H3) hres ?_ (by omega) (by omega) fun i hi=>by rw[hold3 i hi,haf.1 i (.inl (by omega)),hold1 i (by omega),hold i hi]
    unfold BU
    rw[if_pos (by rw[hres];simp)]
   ·intro hlg T3 H3 cs x2 x3 hcs ho3 hpol hnx3 hf3 hold3
    have hres:AZ l=((0,0),(BG (AI l) l.length 0 (A_ l)).2.2):=by
     unfold AZ
     rw[if_neg (by rw[hc];simp)]
     simp only
     rw[if_neg (by rw[hgo];simp),if_neg hlg]
    refine fin T3 H3 cs _ _ (J_ l) (BG (AI l) l.length 0 (A_ l)).2.2 x2 x3 hcs ho3 (.inr (hpol.weak (by omega))) (by rw[hres]) ?_ (by omega) (by omega) fun i hi=>by rw[hold3 i hi,haf.1 i (.inl (by omega)),hold1 i (by omega),hold i hi]
    unfold BU
    rw[hres]
    simp
theorem mK {l:List AB} {v:Value} {h:AA} (hfl:h.floor≤h.next) (hg:h.get 0=DK) (hn0:0<h.next) (hv:AL h v l) (hL:l.length<2932031007403) (hn:2*l.length+110<n) :
  ∃ v' h',AU n 16 [v] h=some (v',h')∧N6 h l v' h':=by
 obtain⟨n,rfl⟩:=ET hn
 exact O6 (CV ⟨rfl,rfl,rfl⟩) (Dm (n:=n) (N:=n) hfl hg hn0 hv hL (by omega) (by omega)) fun v' h1 hf _ ht=>tE hf ht
end
def BE:ByteArray:={ data:=#[109,111,114,101] }
def G0 (h:AA) (v:Value) (n w:Nat) (ty:TypeId):Prop:=(v=Z0∧n=0)∨∃ id cs,v=qS id n AG∧h.get id=.row cs ty true false∧cs.length=n*w∧h.floor≤id∧id<h.next∧n<1000000
theorem G0.one {h:AA} {v:Value} {n w:Nat} {ty:TypeId} (hl:G0 h v n w ty):Go.Sx.one v=true:=by
 rcases hl with⟨rfl,_⟩ | ⟨id,cs,rfl,_⟩ <;> rfl
theorem G0.mono {h h':AA} {v:Value} {n w:Nat} {ty:TypeId} (hl:G0 h v n w ty) (hn:h.next≤h'.next) (hf:h'.floor=h.floor) (hg:∀ i,i<h.next→h'.get i=h.get i):G0 h' v n w ty:=by
 rcases hl with h1 | ⟨id,cs,h1,h2,h3,h4,h5,h6⟩
 ·exact .inl h1
 ·exact .inr ⟨id,cs,h1,by rw[hg id h5];exact h2,h3,by omega,by omega,h6⟩
theorem SW {P:Program} {t e:TypeId} {w b k:Nat} {z:Value} {h:AA} {new:List Value} (ht:P.underlying t=some (.slice e)) (he:BP P e=some w) (hb:G_ P e=some b) (hz:DI P e=some z) (hzc:z.cells.size=w) (hw:0<w) (hnl:new.length=k*w) (hno:new.all one=true) (hk:0<k) (hk2:k<10) (hbb:b≤64) :
  C4 P (h.push (.row new e false false)) t (Z0) (qS h.next k k)=some (qS (h.next+1) (0+k) AG,(h.push (.row new e false false)).push (.row ([]++new) e true false)):=by
 have hsrc:CL (h.push (.row new e false false)) w k (qS h.next k k)=some new:=by
  simp only[CL,BL,D1,List.drop_zero]
  rw[if_neg (by omega),List.take_of_length_le (by omega),if_pos hnl]
 have hnu:(0:Nat)≠AG:=by unfold AG;omega
 have h0:CL (h.push (.row new e false false)) w 0 (Z0)=some []:=by simp[CL]
 have hkb:k*b≤10*64:=Nat.mul_le_mul (by omega) hbb
 simp only[C4,ht,he,hb,hz,hsrc,hno,h0]
 rw[if_pos (by simp[hzc,hw]),if_pos trivial,if_neg hnu,if_neg (by omega),if_pos (by simp;omega)]
 rfl
theorem bY:G6 Tryd.prog (match Tryd.prog.underlying 46 with | some (.struct fs)=>fs.toList | _=>[])=some [(0,1),(1,1),(2,1),(3,1),(4,1)]:=by kernel_rfl
theorem o8:flat (.agg #[.int .i64 0,.string ByteArray.empty,.int .i64 0,.int .i64 0,.int .i64 0])=true:=rfl
theorem xI {a:Int} {b:ByteArray}:DR Tryd.prog 46 [(0,iv a),(1,.string b)]=some (.agg #[iv a,.string b,iv 0,iv 0,iv 0]):=by
 have h:=bY
 rw[Tryd.underlying46] at h
 simp only at h
 simp only[DR,F8,o8,if_true,Tryd.underlying46,h]
 rfl
theorem mH {b:ByteArray}:DR Tryd.prog 57 [(0,.string b)]=some (.agg #[.string b,.bool false]):=by
 have h:=kG
 rw[Tryd.underlying57] at h
 simp only at h
 simp only[DR,NP,ZX,cW,mW,Bool.and_self,if_true,Tryd.underlying57,h]
 rfl
section
variable {h:AA}
theorem yL {a c:Int} {b d:ByteArray}:EA Tryd.prog h 22 2 [(0,.agg #[iv a,.string b,iv 0,iv 0,iv 0]),(1,.agg #[iv c,.string d,iv 0,iv 0,iv 0])]=some (qS h.next 2 2,h.push (.row [iv a,.string b,iv 0,iv 0,iv 0,iv c,.string d,iv 0,iv 0,iv 0] 46 false false)):=by
 simp[EA,Tryd.underlying22,FX,F8,flat,BO,EH,GU,ER,Go.Sx.lay]
theorem oM {a b:ByteArray}:EA Tryd.prog h 26 2 [(0,.agg #[.string a,.bool false]),(1,.agg #[.string b,.bool false])]=some (qS h.next 2 2,h.push (.row [.string a,.bool false,.string b,.bool false] 57 false false)):=by
 simp[EA,Tryd.underlying26,L4,NP,flat,BO,EH,GU,ER,Go.Sx.lay]
theorem V_ {a b:ByteArray}:EA Tryd.prog h 27 2 [(0,.string a),(1,.string b)]=some (qS h.next 2 2,h.push (.row [.string a,.string b] 9 false false)):=by
 have hc:∀ x,(Value.string x).cells=#[.string x]:=fun _=>rfl
 simp[EA,Tryd.underlying27,HC,MA,flat,BO,hc,GU,ER,Go.Sx.lay]
theorem WU {a b:Int}:EA Tryd.prog h 28 2 [(0,iv a),(1,iv b)]=some (qS h.next 2 2,h.push (.row [iv a,iv b] 3 false false)):=by
 have hc:∀ x:Int,(Value.int .i64 x).cells=#[.int .i64 x]:=fun _=>rfl
 simp[EA,Tryd.underlying28,CT,I3,flat,BO,hc,GU,ER,Go.Sx.lay]
theorem RB {ty:TypeId} {new:List Value} {w:Nat} (hw:0<w) (hl:new.length=2*w):CL (h.push (.row new ty false false)) w 2 (qS h.next 2 2)=some new:=by
 simp only[CL,BL,D1,List.drop_zero]
 rw[if_neg (by omega),List.take_of_length_le (by omega),if_pos hl]
end
theorem G0.lt {h:AA} {v:Value} {n w:Nat} {ty:TypeId} (hl:G0 h v n w ty):n<1000000:=by
 rcases hl with⟨_,rfl⟩ | ⟨id,cs,_,_,_,_,_,h6⟩
 ·decide
 ·exact h6
theorem Cq {h:AA} {nm:ByteArray} {vr vq vv vt vu vo:Value} {ms nn:Int} {n1 n2 n3 n4 n5 n6:Nat} (h1:G0 h vr n1 5 46) (h1p:0<n1) (h2:G0 h vq n2 2 57) (h3:G0 h vv n3 1 9) (h4:G0 h vt n4 1 9) (h5:G0 h vu n5 1 3) (h6:G0 h vo n6 1 3)
  {ρ:AX} {W:World} {ARGS:Array Value} (hR:BK Tryd.prog ρ h W) (hargs:AY (AH ρ) [.agg #[.string nm,vr,vq,vv,vt,vu,vo,iv ms],iv nn] ARGS.toList) :
  Calls Tryd.prog 36 ARGS W (fun e W'=>∃ V ρ',e=.returned V∧Nx Tryd.prog ρ h W ρ' h W'∧AH ρ' (.tuple #[]) V):=by
 have ca:=I9 [.string nm,vr,vq,vv,vt,vu,vo,iv ms]
 have oa:[Value.string nm,vr,vq,vv,vt,vu,vo,iv ms].all one=true:=by
  simp only[List.all_cons,List.all_nil,h1.one,h2.one,h3.one,h4.one,h5.one,h6.one,Bool.and_self]
  rfl
 refine calls_of_wp Tryd.func36 rfl ?_
 have hTa:=vM (k:=64) hargs (by simp)
 refine wp_seq (wp_region_list ?_)
 refine HW (n:=64) (m:=1) HD.1 (fun s1=>s1.T.get 1=iv nn∧s1.T.get 2=qP h.next 0∧s1.h=h.push (.row [.string nm,vr,vq,vv,vt,vu,vo,iv ms] 30 false false)) [_] (s:=⟨GR 0 [.agg #[.string nm,vr,vq,vv,vt,vu,vo,iv ms],iv nn] .leaf,h⟩) (by kernel_rfl) hR hTa (by
  have:=hargs.length
  simp at this ⊢
  omega) ?_ ?_
 ·simp only[eE,seval,↓eP,GR,ca,oa,HR]
 rintro ⟨T0,H0⟩ A0 W0 ρ0 ⟨t1,t2,e0⟩ hN0 hT0 hn0 hd0
 simp only at t1 t2 e0 hT0
 have gb:H0.get h.next=.row [.string nm,vr,vq,vv,vt,vu,vo,iv ms] 30 false false:=by rw[e0];exact BL
 have nH:H0.next=h.next+1:=by rw[e0];rfl
 have fH:H0.floor=h.floor:=by rw[e0];rfl
 have oH:∀ i,i<h.next→H0.get i=h.get i:=fun i hi=>by rw[e0];exact AM hi
 clear e0
 rcases id h1 with⟨_,h9⟩ | ⟨r,cr,rfl,gr,lr,fr,ltr,sr⟩
 ·omega
 -- the rows
 refine wp_seq (wp_region_list ?_)
 have x1:AO 1 (H0.get h.next)=some (qS r n1 AG):=by rw[gb];rfl
 refine HW (n:=64) (m:=1) HD.1 (fun s1=>s1.T.get 1=iv nn∧s1.T.get 2=qP h.next 0∧s1.T.get 11=qS r n1 AG∧s1.T.get 16=qS H0.next 2 2∧s1.h=H0.push (.row [iv nn,.string BE,iv 0,iv 0,iv 0,iv nn,.string BE,iv 0,iv 0,iv 0] 46 false false)) [_,_,_,_,_,_,_] (s:=⟨T0,H0⟩) (by kernel_rfl) hN0.rel hT0 hn0 ?_ ?_
 ·simp only[eE,seval,↓eP,t1,t2,DA,Nat.zero_add,C0,x1,xI,yL,BE]
 rintro ⟨T1,H1⟩ A1 W1 ρ1 ⟨u1,u2,u11,u16,e1⟩ hN1 hT1 hn1 hd1
 simp only at u1 u2 u11 u16 e1 hT1
 subst e1
 have lNew:([iv nn,.string BE,iv 0,iv 0,iv 0,iv nn,.string BE,iv 0,iv 0,iv 0]:List Value).length=2*5:=rfl
 have gr1:(H0.push (.row [iv nn,.string BE,iv 0,iv 0,iv 0,iv nn,.string BE,iv 0,iv 0,iv 0] 46 false false)).get r=.row cr 46 true false:=by rw[AM (by omega),oH r ltr];exact gr
 refine O0 rfl (Q2 (x:=.tmp 11) (y:=.tmp 16) (s:=⟨T1,H0.push (.row [iv nn,.string BE,iv 0,iv 0,iv 0,iv nn,.string BE,iv 0,iv 0,iv 0] 46 false false)⟩) hN1.rel hT1 rfl rfl rfl rfl rfl rfl Tryd.underlying22 FX F8 QC rfl (by decide) u11 u16 gr1 lr (by show H0.floor≤r;omega) (RB (by decide) lNew) rfl (by decide) (by omega) (by omega) fun V2 W2 ρ2 L2 hN2 hv2 hL2 hS2 ho2=>?_)
 have nA:(H0.push (.row [iv nn,.string BE,iv 0,iv 0,iv 0,iv nn,.string BE,iv 0,iv 0,iv 0] 46 false false)).next=h.next+2:=by rw[C6];omega
 have fA:(H0.push (.row [iv nn,.string BE,iv 0,iv 0,iv 0,iv nn,.string BE,iv 0,iv 0,iv 0] 46 false false)).floor=h.floor:=fH
 have oA:∀ i,i<H0.next→(H0.push (.row [iv nn,.string BE,iv 0,iv 0,iv 0,iv nn,.string BE,iv 0,iv 0,iv 0] 46 false false)).get i=H0.get i:=fun i hi=>AM hi
 generalize H0.push (.row [iv nn,.string BE,iv 0,iv 0,iv 0,iv nn,.string BE,iv 0,iv 0,iv 0] 46 false false)=HA at *
 refine HW (n:=64) (m:=1) HD.1 (fun s1=>s1.T.get 1=iv nn∧s1.T.get 2=qP h.next 0∧s1.T.get 4=qS HA.next (n1+2) AG∧s1.h=HA.push .dead) [_] (s:=⟨T1.put (some 17) (qS HA.next (n1+2) AG),HA.push .dead⟩) (by kernel_rfl) hN2.rel ((hT1.mono hN2.ext).put (dst:=some 17) hn1 rfl hv2) (by rw[KI];exact hn1) ?_ ?_
 ·simp only[eE,seval,↓eP,u1,u2]
 rintro ⟨T3,H3⟩ A3 W3 ρ3 ⟨t1,t2,t4,e3⟩ hN3 hT3 hn3 hd3
 simp only at t1 t2 t4 e3 hT3
 subst e3
 have hSp3:=hS2.keep hN2.rel hN3 (fun i _ _=>rfl)
 have hL3:=hN3.ext _ _ hL2
 have hN03:Nx Tryd.prog ρ h W ρ3 (HA.push .dead) W3:=hN0.trans hR (hN1.trans hN0.rel (hN2.trans hN1.rel hN3))
 have hd03:A3.defers=[]:=by rw[hd3,JI,hd1,hd0]
 have hor:W.heap.size≤L2.b∨∃ id,ρ id=some L2∧wr (h.get id)∧h.floor≤id:=by
  rcases ho2 with h9 | h9
  ·exact .inl (Nat.le_trans (hN0.trans hR hN1).fr.size h9)
  ·refine .inr ⟨r,?_,by rw[gr];rfl,fr⟩
   rw[← hN0.old r ltr,← hN1.old r (show r<H0.next by omega)]
   exact h9
 have gb3:(HA.push .dead).get h.next=.row [.string nm,qS r n1 AG,vq,vv,vt,vu,vo,iv ms] 30 false false:=by rw[HH,oA _ (by omega)];exact gb
 have n3':h.next+3≤(HA.push .dead).next:=by rw[C6];omega
 have f3':(HA.push .dead).floor=h.floor:=fA
 have o3':∀ i,i<h.next→(HA.push .dead).get i=h.get i:=fun i hi=>by rw[HH,oA _ (by omega)];exact oH i hi
 have hSr:∃ X,X=HA.push .dead:=⟨_,rfl⟩
 have hid4:HA.next=h.next+2:=nA
 rw[hid4] at t4 hL3
 generalize hX3:HA.push .dead=X3 at *
 show Code.wp _ _ _ _ _
 refine wp_seq (wp_mono (Q:=fun e A' W'=>e=.normal∧∃ (T':Tr) (H':AA) (ρ':AX),Nx Tryd.prog ρ3 X3 W3 ρ' H' W'∧EX ρ' T' A'∧A'.tmps.size=64∧A'.defers=A3.defers∧T'.get 1=iv nn∧T'.get 2=qP h.next 0∧T'.get 4=qS (h.next+2) (n1+2) AG∧(∃ a q,T'.get 5=.slice a (n2+2) q)∧X3.next≤H'.next∧H'.floor=X3.floor∧∀ i,i<X3.next→H'.get i=X3.get i) (wp_region_list ?_) ?_)
 ·have xk:AO 2 (X3.get h.next)=some vq:=by rw[gb3];rfl
  rcases id h2 with⟨e9,h9⟩ | ⟨id9,cs9,e9,g9,l9,f9,lt9,s9⟩
  ·rw[e9] at xk
   have hap:=SW (h:=X3) (k:=2) (new:=[.string BE,.bool false,.string BE,.bool false]) Tryd.underlying26 L4 VV NP rfl (by decide) rfl rfl (by decide) (by decide) (by decide)
   refine HW (n:=64) (m:=1) HD.1 (fun s1=>s1.T.get 1=iv nn∧s1.T.get 2=qP h.next 0∧s1.T.get 4=qS (h.next+2) (n1+2) AG∧s1.T.get 5=qS (X3.next+1) (0+2) AG∧s1.h=(X3.push (.row [.string BE,.bool false,.string BE,.bool false] 57 false false)).push (.row ([]++[.string BE,.bool false,.string BE,.bool false]) 57 true false)) [_,_,_,_,_,_,_] (l2:=[]) (s:=⟨T3,X3⟩) (by kernel_rfl) hN03.rel hT3 hn3 ?_ ?_
   ·try simp only[BE] at hap
    simp only[eE,seval,↓eP,t1,t2,t4,FL,Nat.zero_add,FP,xk,mH,oM,hap,BE]
   rintro ⟨T',H'⟩ A' W' ρ' ⟨u1,u2,u4,ud,eh⟩ hN' hT' hn' hd'
   simp only at u1 u2 u4 ud eh hT'
   have eh2:∀ i,i<X3.next→H'.get i=X3.get i:=fun i hi=>by rw[eh,AM (by rw[C6];omega),AM hi]
   exact⟨rfl,T',H',ρ',hN',hT',hn',hd',u1,u2,u4,⟨_,_,by rw[ud,h9]⟩,by rw[eh];show X3.next≤X3.next+1+1;omega,by rw[eh];rfl,eh2⟩
  ·rw[e9] at xk
   refine HW (n:=64) (m:=1) HD.1 (fun s1=>s1.T.get 1=iv nn∧s1.T.get 2=qP h.next 0∧s1.T.get 4=qS (h.next+2) (n1+2) AG∧s1.T.get 19=qS id9 n2 AG∧s1.T.get 22=qS X3.next 2 2∧s1.h=X3.push (.row [.string BE,.bool false,.string BE,.bool false] 57 false false)) [_,_,_,_,_] (s:=⟨T3,X3⟩) (by kernel_rfl) hN03.rel hT3 hn3 ?_ ?_
   ·simp only[eE,seval,↓eP,t1,t2,t4,FL,Nat.zero_add,FP,xk,mH,oM,BE]
   rintro ⟨T1,H1⟩ A1 W1 ρ1 ⟨u1,u2,u4,ux,uy,e1⟩ hN1 hT1 hn1 hd1
   simp only at u1 u2 u4 ux uy e1 hT1
   subst e1
   have g91:(X3.push (.row [.string BE,.bool false,.string BE,.bool false] 57 false false)).get id9=.row cs9 57 true false:=by rw[AM (by omega),o3' id9 lt9];exact g9
   refine O0 rfl (Q2 (x:=.tmp 19) (y:=.tmp 22) (s:=⟨T1,X3.push (.row [.string BE,.bool false,.string BE,.bool false] 57 false false)⟩) hN1.rel hT1 rfl rfl rfl rfl rfl rfl Tryd.underlying26 L4 NP VV rfl (by decide) ux uy g91 l9 (by show X3.floor≤id9;omega) (RB (by decide) rfl) rfl (by decide) (by omega) (by omega) fun V2 W2 ρ2 L9 hN2 hv2 _ _ _=>?_)
   refine HW (n:=64) (m:=1) HD.1 (fun s1=>s1.T.get 1=iv nn∧s1.T.get 2=qP h.next 0∧s1.T.get 4=qS (h.next+2) (n1+2) AG∧s1.T.get 5=.slice (some ⟨(X3.push (.row [.string BE,.bool false,.string BE,.bool false] 57 false false)).next,0,none⟩) (n2+2) AG∧s1.h=(X3.push (.row [.string BE,.bool false,.string BE,.bool false] 57 false false)).push .dead) [_] (l2:=[]) (s:=⟨T1.put (some 23) (.slice (some ⟨(X3.push (.row [.string BE,.bool false,.string BE,.bool false] 57 false false)).next,0,none⟩) (n2+2) AG),(X3.push (.row [.string BE,.bool false,.string BE,.bool false] 57 false false)).push .dead⟩) (by kernel_rfl) hN2.rel ((hT1.mono hN2.ext).put (dst:=some 23) hn1 rfl hv2) (by rw[KI];exact hn1) ?_ ?_
   ·simp only[eE,seval,↓eP,u1,u2,u4]
   rintro ⟨T',H'⟩ A' W' ρ' ⟨u1,u2,u4,ud,eh⟩ hN' hT' hn' hd'
   simp only at u1 u2 u4 ud eh hT'
   have eh2:∀ i,i<X3.next→H'.get i=X3.get i:=fun i hi=>by rw[eh,HH,AM hi]
   exact⟨rfl,T',H',ρ',hN1.trans hN03.rel (hN2.trans hN1.rel hN'),hT',hn',by rw[hd',JI,hd1],u1,u2,u4,⟨_,_,ud⟩,by rw[eh];show X3.next≤X3.next+1+1;omega,by rw[eh];rfl,eh2⟩
 rintro e A4 W4 ⟨rfl,T4,X4,ρ4,hN4,hT4,hn4,hd4,t1,t2,t4,⟨a5,q5,t5⟩,nX4,fX4,oX4⟩
 have hSp4:=hSp3.keep hN03.rel hN4 (fun i hi _=>oX4 i hi)
 have hL4:=hN4.ext _ _ hL3
 have hN04:=hN03.trans hR hN4
 have hd04:=hd4.trans hd03
 have gb4:=(oX4 h.next (by omega)).trans gb3
 have n4':h.next+3≤X4.next:=by omega
 have f4':X4.floor=h.floor:=by omega
 have o4':∀ i,i<h.next→X4.get i=h.get i:=fun i hi=>by rw[oX4 i (by omega)];exact o3' i hi
 show Code.wp _ _ _ _ _
 refine wp_seq (wp_mono (Q:=fun e A' W'=>e=.normal∧∃ (T':Tr) (H':AA) (ρ':AX),Nx Tryd.prog ρ4 X4 W4 ρ' H' W'∧EX ρ' T' A'∧A'.tmps.size=64∧A'.defers=A4.defers∧T'.get 1=iv nn∧T'.get 2=qP h.next 0∧T'.get 4=qS (h.next+2) (n1+2) AG∧T'.get 5=.slice a5 (n2+2) q5∧(∃ a q,T'.get 6=.slice a (n3+2) q)∧X4.next≤H'.next∧H'.floor=X4.floor∧∀ i,i<X4.next→H'.get i=X4.get i) (wp_region_list ?_) ?_)
 ·have xk:AO 3 (X4.get h.next)=some vv:=by rw[gb4];rfl
  rcases id h3 with⟨e9,h9⟩ | ⟨id9,cs9,e9,g9,l9,f9,lt9,s9⟩
  ·rw[e9] at xk
   have hap:=SW (h:=X4) (k:=2) (new:=[.string BE,.string BE]) Tryd.underlying27 HC NS MA rfl (by decide) rfl rfl (by decide) (by decide) (by decide)
   refine HW (n:=64) (m:=1) HD.1 (fun s1=>s1.T.get 1=iv nn∧s1.T.get 2=qP h.next 0∧s1.T.get 4=qS (h.next+2) (n1+2) AG∧s1.T.get 5=.slice a5 (n2+2) q5∧s1.T.get 6=qS (X4.next+1) (0+2) AG∧s1.h=(X4.push (.row [.string BE,.string BE] 9 false false)).push (.row ([]++[.string BE,.string BE]) 9 true false)) [_,_,_,_,_] (l2:=[]) (s:=⟨T4,X4⟩) (by kernel_rfl) hN04.rel hT4 hn4 ?_ ?_
   ·try simp only[BE] at hap
    simp only[eE,seval,↓eP,t1,t2,t4,t5,GF,Nat.zero_add,EJ,xk,V_,hap,BE]
   rintro ⟨T',H'⟩ A' W' ρ' ⟨u1,u2,u4,u5,ud,eh⟩ hN' hT' hn' hd'
   simp only at u1 u2 u4 u5 ud eh hT'
   have eh2:∀ i,i<X4.next→H'.get i=X4.get i:=fun i hi=>by rw[eh,AM (by rw[C6];omega),AM hi]
   exact⟨rfl,T',H',ρ',hN',hT',hn',hd',u1,u2,u4,u5,⟨_,_,by rw[ud,h9]⟩,by rw[eh];show X4.next≤X4.next+1+1;omega,by rw[eh];rfl,eh2⟩
  ·rw[e9] at xk
   refine HW (n:=64) (m:=1) HD.1 (fun s1=>s1.T.get 1=iv nn∧s1.T.get 2=qP h.next 0∧s1.T.get 4=qS (h.next+2) (n1+2) AG∧s1.T.get 5=.slice a5 (n2+2) q5∧s1.T.get 25=qS id9 n3 AG∧s1.T.get 26=qS X4.next 2 2∧s1.h=X4.push (.row [.string BE,.string BE] 9 false false)) [_,_,_] (s:=⟨T4,X4⟩) (by kernel_rfl) hN04.rel hT4 hn4 ?_ ?_
   ·simp only[eE,seval,↓eP,t1,t2,t4,t5,GF,Nat.zero_add,EJ,xk,V_,BE]
   rintro ⟨T1,H1⟩ A1 W1 ρ1 ⟨u1,u2,u4,u5,ux,uy,e1⟩ hN1 hT1 hn1 hd1
   simp only at u1 u2 u4 u5 ux uy e1 hT1
   subst e1
   have g91:(X4.push (.row [.string BE,.string BE] 9 false false)).get id9=.row cs9 9 true false:=by rw[AM (by omega),o4' id9 lt9];exact g9
   refine O0 rfl (Q2 (x:=.tmp 25) (y:=.tmp 26) (s:=⟨T1,X4.push (.row [.string BE,.string BE] 9 false false)⟩) hN1.rel hT1 rfl rfl rfl rfl rfl rfl Tryd.underlying27 HC MA NS rfl (by decide) ux uy g91 l9 (by show X4.floor≤id9;omega) (RB (by decide) rfl) rfl (by decide) (by omega) (by omega) fun V2 W2 ρ2 L9 hN2 hv2 _ _ _=>?_)
   refine HW (n:=64) (m:=1) HD.1 (fun s1=>s1.T.get 1=iv nn∧s1.T.get 2=qP h.next 0∧s1.T.get 4=qS (h.next+2) (n1+2) AG∧s1.T.get 5=.slice a5 (n2+2) q5∧s1.T.get 6=.slice (some ⟨(X4.push (.row [.string BE,.string BE] 9 false false)).next,0,none⟩) (n3+2) AG∧s1.h=(X4.push (.row [.string BE,.string BE] 9 false false)).push .dead) [_] (l2:=[]) (s:=⟨T1.put (some 27) (.slice (some ⟨(X4.push (.row [.string BE,.string BE] 9 false false)).next,0,none⟩) (n3+2) AG),(X4.push (.row [.string BE,.string BE] 9 false false)).push .dead⟩) (by kernel_rfl) hN2.rel ((hT1.mono hN2.ext).put (dst:=some 27) hn1 rfl hv2) (by rw[KI];exact hn1) ?_ ?_
   ·simp only[eE,seval,↓eP,u1,u2,u4,u5]
   rintro ⟨T',H'⟩ A' W' ρ' ⟨u1,u2,u4,u5,ud,eh⟩ hN' hT' hn' hd'
   simp only at u1 u2 u4 u5 ud eh hT'
   have eh2:∀ i,i<X4.next→H'.get i=X4.get i:=fun i hi=>by rw[eh,HH,AM hi]
   exact⟨rfl,T',H',ρ',hN1.trans hN04.rel (hN2.trans hN1.rel hN'),hT',hn',by rw[hd',JI,hd1],u1,u2,u4,u5,⟨_,_,ud⟩,by rw[eh];show X4.next≤X4.next+1+1;omega,by rw[eh];rfl,eh2⟩
 rintro e A5 W5 ⟨rfl,T5,X5,ρ5,hN5,hT5,hn5,hd5,t1,t2,t4,t5,⟨a6,q6,t6⟩,nX5,fX5,oX5⟩
 have hSp5:=hSp4.keep hN04.rel hN5 (fun i hi _=>oX5 i hi)
 have hL5:=hN5.ext _ _ hL4
 have hN05:=hN04.trans hR hN5
 have hd05:=hd5.trans hd04
 have gb5:=(oX5 h.next (by omega)).trans gb4
 have n5':h.next+3≤X5.next:=by omega
 have f5':X5.floor=h.floor:=by omega
 have o5':∀ i,i<h.next→X5.get i=h.get i:=fun i hi=>by rw[oX5 i (by omega)];exact o4' i hi
 show Code.wp _ _ _ _ _
 refine wp_seq (wp_mono (Q:=fun e A' W'=>e=.normal∧∃ (T':Tr) (H':AA) (ρ':AX),Nx Tryd.prog ρ5 X5 W5 ρ' H' W'∧EX ρ' T' A'∧A'.tmps.size=64∧A'.defers=A5.defers∧T'.get 1=iv nn∧T'.get 2=qP h.next 0∧T'.get 4=qS (h.next+2) (n1+2) AG∧T'.get 5=.slice a5 (n2+2) q5∧T'.get 6=.slice a6 (n3+2) q6∧(∃ a q,T'.get 7=.slice a (n4+2) q)∧X5.next≤H'.next∧H'.floor=X5.floor∧∀ i,i<X5.next→H'.get i=X5.get i) (wp_region_list ?_) ?_)
 ·have xk:AO 4 (X5.get h.next)=some vt:=by rw[gb5];rfl
  rcases id h4 with⟨e9,h9⟩ | ⟨id9,cs9,e9,g9,l9,f9,lt9,s9⟩
  ·rw[e9] at xk
   have hap:=SW (h:=X5) (k:=2) (new:=[.string BE,.string BE]) Tryd.underlying27 HC NS MA rfl (by decide) rfl rfl (by decide) (by decide) (by decide)
   refine HW (n:=64) (m:=1) HD.1 (fun s1=>s1.T.get 1=iv nn∧s1.T.get 2=qP h.next 0∧s1.T.get 4=qS (h.next+2) (n1+2) AG∧s1.T.get 5=.slice a5 (n2+2) q5∧s1.T.get 6=.slice a6 (n3+2) q6∧s1.T.get 7=qS (X5.next+1) (0+2) AG∧s1.h=(X5.push (.row [.string BE,.string BE] 9 false false)).push (.row ([]++[.string BE,.string BE]) 9 true false)) [_,_,_,_,_] (l2:=[]) (s:=⟨T5,X5⟩) (by kernel_rfl) hN05.rel hT5 hn5 ?_ ?_
   ·try simp only[BE] at hap
    simp only[eE,seval,↓eP,t1,t2,t4,t5,t6,GG,Nat.zero_add,EJ,xk,V_,hap,BE]
   rintro ⟨T',H'⟩ A' W' ρ' ⟨u1,u2,u4,u5,u6,ud,eh⟩ hN' hT' hn' hd'
   simp only at u1 u2 u4 u5 u6 ud eh hT'
   have eh2:∀ i,i<X5.next→H'.get i=X5.get i:=fun i hi=>by rw[eh,AM (by rw[C6];omega),AM hi]
   exact⟨rfl,T',H',ρ',hN',hT',hn',hd',u1,u2,u4,u5,u6,⟨_,_,by rw[ud,h9]⟩,by rw[eh];show X5.next≤X5.next+1+1;omega,by rw[eh];rfl,eh2⟩
  ·rw[e9] at xk
   refine HW (n:=64) (m:=1) HD.1 (fun s1=>s1.T.get 1=iv nn∧s1.T.get 2=qP h.next 0∧s1.T.get 4=qS (h.next+2) (n1+2) AG∧s1.T.get 5=.slice a5 (n2+2) q5∧s1.T.get 6=.slice a6 (n3+2) q6∧s1.T.get 29=qS id9 n4 AG∧s1.T.get 30=qS X5.next 2 2∧s1.h=X5.push (.row [.string BE,.string BE] 9 false false)) [_,_,_] (s:=⟨T5,X5⟩) (by kernel_rfl) hN05.rel hT5 hn5 ?_ ?_
   ·simp only[eE,seval,↓eP,t1,t2,t4,t5,t6,GG,Nat.zero_add,EJ,xk,V_,BE]
   rintro ⟨T1,H1⟩ A1 W1 ρ1 ⟨u1,u2,u4,u5,u6,ux,uy,e1⟩ hN1 hT1 hn1 hd1
   simp only at u1 u2 u4 u5 u6 ux uy e1 hT1
   subst e1
   have g91:(X5.push (.row [.string BE,.string BE] 9 false false)).get id9=.row cs9 9 true false:=by rw[AM (by omega),o5' id9 lt9];exact g9
   refine O0 rfl (Q2 (x:=.tmp 29) (y:=.tmp 30) (s:=⟨T1,X5.push (.row [.string BE,.string BE] 9 false false)⟩) hN1.rel hT1 rfl rfl rfl rfl rfl rfl Tryd.underlying27 HC MA NS rfl (by decide) ux uy g91 l9 (by show X5.floor≤id9;omega) (RB (by decide) rfl) rfl (by decide) (by omega) (by omega) fun V2 W2 ρ2 L9 hN2 hv2 _ _ _=>?_)
   refine HW (n:=64) (m:=1) HD.1 (fun s1=>s1.T.get 1=iv nn∧s1.T.get 2=qP h.next 0∧s1.T.get 4=qS (h.next+2) (n1+2) AG∧s1.T.get 5=.slice a5 (n2+2) q5∧s1.T.get 6=.slice a6 (n3+2) q6∧s1.T.get 7=.slice (some ⟨(X5.push (.row [.string BE,.string BE] 9 false false)).next,0,none⟩) (n4+2) AG∧s1.h=(X5.push (.row [.string BE,.string BE] 9 false false)).push .dead) [_] (l2:=[]) (s:=⟨T1.put (some 31) (.slice (some ⟨(X5.push (.row [.string BE,.string BE] 9 false false)).next,0,none⟩) (n4+2) AG),(X5.push (.row [.string BE,.string BE] 9 false false)).push .dead⟩) (by kernel_rfl) hN2.rel ((hT1.mono hN2.ext).put (dst:=some 31) hn1 rfl hv2) (by rw[KI];exact hn1) ?_ ?_
   ·simp only[eE,seval,↓eP,u1,u2,u4,u5,u6]
   rintro ⟨T',H'⟩ A' W' ρ' ⟨u1,u2,u4,u5,u6,ud,eh⟩ hN' hT' hn' hd'
   simp only at u1 u2 u4 u5 u6 ud eh hT'
   have eh2:∀ i,i<X5.next→H'.get i=X5.get i:=fun i hi=>by rw[eh,HH,AM hi]
   exact⟨rfl,T',H',ρ',hN1.trans hN05.rel (hN2.trans hN1.rel hN'),hT',hn',by rw[hd',JI,hd1],u1,u2,u4,u5,u6,⟨_,_,ud⟩,by rw[eh];show X5.next≤X5.next+1+1;omega,by rw[eh];rfl,eh2⟩
 rintro e A6 W6 ⟨rfl,T6,X6,ρ6,hN6,hT6,hn6,hd6,t1,t2,t4,t5,t6,⟨a7,q7,t7⟩,nX6,fX6,oX6⟩
 have hSp6:=hSp5.keep hN05.rel hN6 (fun i hi _=>oX6 i hi)
 have hL6:=hN6.ext _ _ hL5
 have hN06:=hN05.trans hR hN6
 have hd06:=hd6.trans hd05
 have gb6:=(oX6 h.next (by omega)).trans gb5
 have n6':h.next+3≤X6.next:=by omega
 have f6':X6.floor=h.floor:=by omega
 have o6':∀ i,i<h.next→X6.get i=h.get i:=fun i hi=>by rw[oX6 i (by omega)];exact o5' i hi
 show Code.wp _ _ _ _ _
 refine wp_seq (wp_mono (Q:=fun e A' W'=>e=.normal∧∃ (T':Tr) (H':AA) (ρ':AX),Nx Tryd.prog ρ6 X6 W6 ρ' H' W'∧EX ρ' T' A'∧A'.tmps.size=64∧A'.defers=A6.defers∧T'.get 1=iv nn∧T'.get 2=qP h.next 0∧T'.get 4=qS (h.next+2) (n1+2) AG∧T'.get 5=.slice a5 (n2+2) q5∧T'.get 6=.slice a6 (n3+2) q6∧T'.get 7=.slice a7 (n4+2) q7∧(∃ a q,T'.get 8=.slice a (n5+2) q)∧X6.next≤H'.next∧H'.floor=X6.floor∧∀ i,i<X6.next→H'.get i=X6.get i) (wp_region_list ?_) ?_)
 ·have xk:AO 5 (X6.get h.next)=some vu:=by rw[gb6];rfl
  rcases id h5 with⟨e9,h9⟩ | ⟨id9,cs9,e9,g9,l9,f9,lt9,s9⟩
  ·rw[e9] at xk
   have hap:=SW (h:=X6) (k:=2) (new:=[iv nn,iv nn]) Tryd.underlying28 CT KH I3 rfl (by decide) rfl rfl (by decide) (by decide) (by decide)
   refine HW (n:=64) (m:=1) HD.1 (fun s1=>s1.T.get 1=iv nn∧s1.T.get 2=qP h.next 0∧s1.T.get 4=qS (h.next+2) (n1+2) AG∧s1.T.get 5=.slice a5 (n2+2) q5∧s1.T.get 6=.slice a6 (n3+2) q6∧s1.T.get 7=.slice a7 (n4+2) q7∧s1.T.get 8=qS (X6.next+1) (0+2) AG∧s1.h=(X6.push (.row [iv nn,iv nn] 3 false false)).push (.row ([]++[iv nn,iv nn]) 3 true false)) [_,_,_,_,_,_,_] (l2:=[]) (s:=⟨T6,X6⟩) (by kernel_rfl) hN06.rel hT6 hn6 ?_ ?_
   ·try simp only[BE] at hap
    simp only[eE,seval,↓eP,t1,t2,t4,t5,t6,t7,F0,Nat.zero_add,C3,xk,WU,hap,BE]
   rintro ⟨T',H'⟩ A' W' ρ' ⟨u1,u2,u4,u5,u6,u7,ud,eh⟩ hN' hT' hn' hd'
   simp only at u1 u2 u4 u5 u6 u7 ud eh hT'
   have eh2:∀ i,i<X6.next→H'.get i=X6.get i:=fun i hi=>by rw[eh,AM (by rw[C6];omega),AM hi]
   exact⟨rfl,T',H',ρ',hN',hT',hn',hd',u1,u2,u4,u5,u6,u7,⟨_,_,by rw[ud,h9]⟩,by rw[eh];show X6.next≤X6.next+1+1;omega,by rw[eh];rfl,eh2⟩
  ·rw[e9] at xk
   refine HW (n:=64) (m:=1) HD.1 (fun s1=>s1.T.get 1=iv nn∧s1.T.get 2=qP h.next 0∧s1.T.get 4=qS (h.next+2) (n1+2) AG∧s1.T.get 5=.slice a5 (n2+2) q5∧s1.T.get 6=.slice a6 (n3+2) q6∧s1.T.get 7=.slice a7 (n4+2) q7∧s1.T.get 33=qS id9 n5 AG∧s1.T.get 36=qS X6.next 2 2∧s1.h=X6.push (.row [iv nn,iv nn] 3 false false)) [_,_,_,_,_] (s:=⟨T6,X6⟩) (by kernel_rfl) hN06.rel hT6 hn6 ?_ ?_
   ·simp only[eE,seval,↓eP,t1,t2,t4,t5,t6,t7,F0,Nat.zero_add,C3,xk,WU,BE]
   rintro ⟨T1,H1⟩ A1 W1 ρ1 ⟨u1,u2,u4,u5,u6,u7,ux,uy,e1⟩ hN1 hT1 hn1 hd1
   simp only at u1 u2 u4 u5 u6 u7 ux uy e1 hT1
   subst e1
   have g91:(X6.push (.row [iv nn,iv nn] 3 false false)).get id9=.row cs9 3 true false:=by rw[AM (by omega),o6' id9 lt9];exact g9
   refine O0 rfl (Q2 (x:=.tmp 33) (y:=.tmp 36) (s:=⟨T1,X6.push (.row [iv nn,iv nn] 3 false false)⟩) hN1.rel hT1 rfl rfl rfl rfl rfl rfl Tryd.underlying28 CT I3 KH rfl (by decide) ux uy g91 l9 (by show X6.floor≤id9;omega) (RB (by decide) rfl) rfl (by decide) (by omega) (by omega) fun V2 W2 ρ2 L9 hN2 hv2 _ _ _=>?_)
   refine HW (n:=64) (m:=1) HD.1 (fun s1=>s1.T.get 1=iv nn∧s1.T.get 2=qP h.next 0∧s1.T.get 4=qS (h.next+2) (n1+2) AG∧s1.T.get 5=.slice a5 (n2+2) q5∧s1.T.get 6=.slice a6 (n3+2) q6∧s1.T.get 7=.slice a7 (n4+2) q7∧s1.T.get 8=.slice (some ⟨(X6.push (.row [iv nn,iv nn] 3 false false)).next,0,none⟩) (n5+2) AG∧s1.h=(X6.push (.row [iv nn,iv nn] 3 false false)).push .dead) [_] (l2:=[]) (s:=⟨T1.put (some 37) (.slice (some ⟨(X6.push (.row [iv nn,iv nn] 3 false false)).next,0,none⟩) (n5+2) AG),(X6.push (.row [iv nn,iv nn] 3 false false)).push .dead⟩) (by kernel_rfl) hN2.rel ((hT1.mono hN2.ext).put (dst:=some 37) hn1 rfl hv2) (by rw[KI];exact hn1) ?_ ?_
   ·simp only[eE,seval,↓eP,u1,u2,u4,u5,u6,u7]
   rintro ⟨T',H'⟩ A' W' ρ' ⟨u1,u2,u4,u5,u6,u7,ud,eh⟩ hN' hT' hn' hd'
   simp only at u1 u2 u4 u5 u6 u7 ud eh hT'
   have eh2:∀ i,i<X6.next→H'.get i=X6.get i:=fun i hi=>by rw[eh,HH,AM hi]
   exact⟨rfl,T',H',ρ',hN1.trans hN06.rel (hN2.trans hN1.rel hN'),hT',hn',by rw[hd',JI,hd1],u1,u2,u4,u5,u6,u7,⟨_,_,ud⟩,by rw[eh];show X6.next≤X6.next+1+1;omega,by rw[eh];rfl,eh2⟩
 rintro e A7 W7 ⟨rfl,T7,X7,ρ7,hN7,hT7,hn7,hd7,t1,t2,t4,t5,t6,t7,⟨a8,q8,t8⟩,nX7,fX7,oX7⟩
 have hSp7:=hSp6.keep hN06.rel hN7 (fun i hi _=>oX7 i hi)
 have hL7:=hN7.ext _ _ hL6
 have hN07:=hN06.trans hR hN7
 have hd07:=hd7.trans hd06
 have gb7:=(oX7 h.next (by omega)).trans gb6
 have n7':h.next+3≤X7.next:=by omega
 have f7':X7.floor=h.floor:=by omega
 have o7':∀ i,i<h.next→X7.get i=h.get i:=fun i hi=>by rw[oX7 i (by omega)];exact o6' i hi
 show Code.wp _ _ _ _ _
 refine wp_seq (wp_mono (Q:=fun e A' W'=>e=.normal∧∃ (T':Tr) (H':AA) (ρ':AX),Nx Tryd.prog ρ7 X7 W7 ρ' H' W'∧EX ρ' T' A'∧A'.tmps.size=64∧A'.defers=A7.defers∧T'.get 1=iv nn∧T'.get 2=qP h.next 0∧T'.get 4=qS (h.next+2) (n1+2) AG∧T'.get 5=.slice a5 (n2+2) q5∧T'.get 6=.slice a6 (n3+2) q6∧T'.get 7=.slice a7 (n4+2) q7∧T'.get 8=.slice a8 (n5+2) q8∧(∃ a q,T'.get 9=.slice a (n6+2) q)∧X7.next≤H'.next∧H'.floor=X7.floor∧∀ i,i<X7.next→H'.get i=X7.get i) (wp_region_list ?_) ?_)
 ·have xk:AO 6 (X7.get h.next)=some vo:=by rw[gb7];rfl
  rcases id h6 with⟨e9,h9⟩ | ⟨id9,cs9,e9,g9,l9,f9,lt9,s9⟩
  ·rw[e9] at xk
   have hap:=SW (h:=X7) (k:=2) (new:=[iv nn,iv nn]) Tryd.underlying28 CT KH I3 rfl (by decide) rfl rfl (by decide) (by decide) (by decide)
   refine HW (n:=64) (m:=1) HD.1 (fun s1=>s1.T.get 1=iv nn∧s1.T.get 2=qP h.next 0∧s1.T.get 4=qS (h.next+2) (n1+2) AG∧s1.T.get 5=.slice a5 (n2+2) q5∧s1.T.get 6=.slice a6 (n3+2) q6∧s1.T.get 7=.slice a7 (n4+2) q7∧s1.T.get 8=.slice a8 (n5+2) q8∧s1.T.get 9=qS (X7.next+1) (0+2) AG∧s1.h=(X7.push (.row [iv nn,iv nn] 3 false false)).push (.row ([]++[iv nn,iv nn]) 3 true false)) [_,_,_,_,_,_,_] (l2:=[]) (s:=⟨T7,X7⟩) (by kernel_rfl) hN07.rel hT7 hn7 ?_ ?_
   ·try simp only[BE] at hap
    simp only[eE,seval,↓eP,t1,t2,t4,t5,t6,t7,t8,FZ,Nat.zero_add,C3,xk,WU,hap,BE]
   rintro ⟨T',H'⟩ A' W' ρ' ⟨u1,u2,u4,u5,u6,u7,u8,ud,eh⟩ hN' hT' hn' hd'
   simp only at u1 u2 u4 u5 u6 u7 u8 ud eh hT'
   have eh2:∀ i,i<X7.next→H'.get i=X7.get i:=fun i hi=>by rw[eh,AM (by rw[C6];omega),AM hi]
   exact⟨rfl,T',H',ρ',hN',hT',hn',hd',u1,u2,u4,u5,u6,u7,u8,⟨_,_,by rw[ud,h9]⟩,by rw[eh];show X7.next≤X7.next+1+1;omega,by rw[eh];rfl,eh2⟩
  ·rw[e9] at xk
   refine HW (n:=64) (m:=1) HD.1 (fun s1=>s1.T.get 1=iv nn∧s1.T.get 2=qP h.next 0∧s1.T.get 4=qS (h.next+2) (n1+2) AG∧s1.T.get 5=.slice a5 (n2+2) q5∧s1.T.get 6=.slice a6 (n3+2) q6∧s1.T.get 7=.slice a7 (n4+2) q7∧s1.T.get 8=.slice a8 (n5+2) q8∧s1.T.get 39=qS id9 n6 AG∧s1.T.get 42=qS X7.next 2 2∧s1.h=X7.push (.row [iv nn,iv nn] 3 false false)) [_,_,_,_,_] (s:=⟨T7,X7⟩) (by kernel_rfl) hN07.rel hT7 hn7 ?_ ?_
   ·simp only[eE,seval,↓eP,t1,t2,t4,t5,t6,t7,t8,FZ,Nat.zero_add,C3,xk,WU,BE]
   rintro ⟨T1,H1⟩ A1 W1 ρ1 ⟨u1,u2,u4,u5,u6,u7,u8,ux,uy,e1⟩ hN1 hT1 hn1 hd1
   simp only at u1 u2 u4 u5 u6 u7 u8 ux uy e1 hT1
   subst e1
   have g91:(X7.push (.row [iv nn,iv nn] 3 false false)).get id9=.row cs9 3 true false:=by rw[AM (by omega),o7' id9 lt9];exact g9
   refine O0 rfl (Q2 (x:=.tmp 39) (y:=.tmp 42) (s:=⟨T1,X7.push (.row [iv nn,iv nn] 3 false false)⟩) hN1.rel hT1 rfl rfl rfl rfl rfl rfl Tryd.underlying28 CT I3 KH rfl (by decide) ux uy g91 l9 (by show X7.floor≤id9;omega) (RB (by decide) rfl) rfl (by decide) (by omega) (by omega) fun V2 W2 ρ2 L9 hN2 hv2 _ _ _=>?_)
   refine HW (n:=64) (m:=1) HD.1 (fun s1=>s1.T.get 1=iv nn∧s1.T.get 2=qP h.next 0∧s1.T.get 4=qS (h.next+2) (n1+2) AG∧s1.T.get 5=.slice a5 (n2+2) q5∧s1.T.get 6=.slice a6 (n3+2) q6∧s1.T.get 7=.slice a7 (n4+2) q7∧s1.T.get 8=.slice a8 (n5+2) q8∧s1.T.get 9=.slice (some ⟨(X7.push (.row [iv nn,iv nn] 3 false false)).next,0,none⟩) (n6+2) AG∧s1.h=(X7.push (.row [iv nn,iv nn] 3 false false)).push .dead) [_] (l2:=[]) (s:=⟨T1.put (some 43) (.slice (some ⟨(X7.push (.row [iv nn,iv nn] 3 false false)).next,0,none⟩) (n6+2) AG),(X7.push (.row [iv nn,iv nn] 3 false false)).push .dead⟩) (by kernel_rfl) hN2.rel ((hT1.mono hN2.ext).put (dst:=some 43) hn1 rfl hv2) (by rw[KI];exact hn1) ?_ ?_
   ·simp only[eE,seval,↓eP,u1,u2,u4,u5,u6,u7,u8]
   rintro ⟨T',H'⟩ A' W' ρ' ⟨u1,u2,u4,u5,u6,u7,u8,ud,eh⟩ hN' hT' hn' hd'
   simp only at u1 u2 u4 u5 u6 u7 u8 ud eh hT'
   have eh2:∀ i,i<X7.next→H'.get i=X7.get i:=fun i hi=>by rw[eh,HH,AM hi]
   exact⟨rfl,T',H',ρ',hN1.trans hN07.rel (hN2.trans hN1.rel hN'),hT',hn',by rw[hd',JI,hd1],u1,u2,u4,u5,u6,u7,u8,⟨_,_,ud⟩,by rw[eh];show X7.next≤X7.next+1+1;omega,by rw[eh];rfl,eh2⟩
 rintro e A8 W8 ⟨rfl,T8,X8,ρ8,hN8,hT8,hn8,hd8,t1,t2,t4,t5,t6,t7,t8,⟨a9,q9,t9⟩,nX8,fX8,oX8⟩
 have hSp8:=hSp7.keep hN07.rel hN8 (fun i hi _=>oX8 i hi)
 have hL8:=hN8.ext _ _ hL7
 have hN08:=hN07.trans hR hN8
 have hd08:=hd8.trans hd07
 have gb8:=(oX8 h.next (by omega)).trans gb7
 have n8':h.next+3≤X8.next:=by omega
 have f8':X8.floor=h.floor:=by omega
 have o8':∀ i,i<h.next→X8.get i=h.get i:=fun i hi=>by rw[oX8 i (by omega)];exact o7' i hi
 show Code.wp _ _ _ _ _
 refine wp_region_list ?_
 have wS:∀ a:Nat,a<100000000→∀ b:Nat,b<100000000→IntKind.i64.wrap ((a:Int)+(b:Int))=((a+b:Nat):Int):=fun a ha b hb=>CG (by omega) (by omega)
 have w1:IntKind.i64.wrap (((n1+2:Nat):Int)-1)=((n1+1:Nat):Int):=by rw[CG (by omega) (by omega)];omega
 have b2:n2<1000000:=h2.lt
 have b3:n3<1000000:=h3.lt
 have b4:n4<1000000:=h4.lt
 have b5:n5<1000000:=h5.lt
 have b6:n6<1000000:=h6.lt
 have ix:=HB (id:=h.next+2) (n:=n1+2) (c:=AG) (i:=n1+1) (by omega)
 refine HW (n:=64) (m:=1) HD.1 (fun s1=>s1.T.get 63=.pointer (some ⟨h.next+2,(n1+1)*5+3,none⟩)∧(∃ x:Int,s1.T.get 61=iv x)∧s1.h=X8) [_,_,_,_,_,_,_,_,_,_,_,_,_,_,_,_,_,_,_,_] (s:=⟨T8,X8⟩) (by kernel_rfl) hN08.rel hT8 hn8 ?_ ?_
 ·simp only[eE,seval,↓eP,t1,t2,t4,t5,t6,t7,t8,t9,OL,Hh,Jm,rH,w1,ix,IX]
  exact⟨_,rfl⟩
 rintro ⟨T9,X9⟩ A9 W9 ρ9 ⟨u63,⟨x9,u61⟩,e9⟩ hN9 hT9 hn9 hd9
 simp only at u63 u61 e9 hT9
 subst e9
 have hSp9:=hSp8.keep hN08.rel hN9 (fun i _ _=>rfl)
 have hL9:=hN9.ext _ _ hL8
 have hN09:=hN08.trans hR hN9
 have hP:AH ρ9 (.pointer (some ⟨h.next+2,(n1+1)*5+3,none⟩)) (A9.eval (.tmp 63)):=by rw[← u63];exact OV (T:=T9) hN9.rel hT9 (x:=.tmp 63) rfl
 have hI:AH ρ9 (iv x9) (A9.eval (.tmp 61)):=by rw[← u61];exact OV (T:=T9) hN9.rel hT9 (x:=.tmp 61) rfl
 obtain⟨L9,hL9',eP⟩:=W_ hP
 rw[hL9] at hL9'
 cases hL9'
 have eI:=KC hI
 obtain⟨WF,hrun,hNF⟩:=zM (V:=iv x9) hN09 hSp9 hor (q:=(n1+1)*5+3) (by omega) (by omega) rfl
 refine O0 rfl (VY (W':=WF) ?_ ?_)
 ·have hcl:(iv x9).cells.size=1:=rfl
  have hcl2:(iv x9).cells.toList=[iv x9]:=rfl
  simp[execOp,eP,eI,Instr.storeAt,Instr.sureAddr,storeVar,Go.Sx.run_sizeOf CT,hcl,hcl2,hrun]
 have hTF:EX ρ9 (T9.put none undef) (A9.put none undef):=hT9.put hn9 rfl MC
 obtain⟨V,hV,hr⟩:=aD (fn:=Tryd.f36) (s:=⟨T9.put none undef,X9⟩) (vs:=[]) rfl hNF.rel hTF
 have eV:F7 []=.tuple #[]:=rfl
 rw[eV] at hr
 have hF0:E_ (.tuple #[])=true:=by simp[E_]
 have hfr:=ZU hF0 hr
 exact⟨by rw[JI,hd9];exact hd08,V,hV,V,ρ,rfl,rU hR hNF o8',by rw[hfr];exact XO hF0⟩
noncomputable def MJ:AK:=LR 14 DK
def jS:Option (Value × AA)→Bool
 | some (.bool b,_)=>b
 | _=>false
theorem rM:jS (J8 Tryd.prog 400 14 [] E5)=true:=by kernel_rfl
theorem oB:CR Tryd.prog MJ∧BZ MJ:=by
 have h:=rM
 unfold jS at h
 split at h
 ·rename_i b h' hs
  cases h
  exact y_ JG R2 (by kernel_rfl) hs
 ·cases h
section
variable {n:Nat} {f:FuncId} {args:List Value} {h:AA} {r:Value × AA}
end
end Go.Proofs.YtipekdhneagdbaaDoor
