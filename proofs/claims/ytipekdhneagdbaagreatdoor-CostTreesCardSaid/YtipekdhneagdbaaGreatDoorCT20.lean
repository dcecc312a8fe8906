/- Part 20 of what the claim leans on: 2 texts laid one behind another. -/
import Derived.Test.YtipekdhneagdbaaGreatDoorCT19
namespace Go.Proofs.YtipekdhneagdbaaGreatDoor
open Go Go.Sx
set_option maxRecDepth 100000
set_option linter.unusedSimpArgs false
set_option linter.unusedVariables false
instance:DecidableEq RowN:=fun _ _=>decidable_of_decidable_of_iff J6E
def Jmj:List (Bool × Bool × List Operand):=[(false,true,[]),(false,true,[]),(false,true,[]),(false,true,[]),(false,true,[.tmp 18]),(false,true,[.tmp 18]),(false,true,[.tmp 18]),(false,true,[.tmp 18]),(false,false,[])]
noncomputable def Jmx:Array Oper:=J18 Tryz.f47 6
theorem Jmi:J1E Jmx=Jmj:=by kernel_rfl
set_option maxHeartbeats 4000000 in
theorem Jm8 {call:J0r} {N:Nat} {h:SHeap} (hsn:J1G call) {va vb:Value} {A B:List Int} {la lb:Nat} (ha:J1S la h va A) (hb:J1S lb h vb B) (hN:A.length+3<N) (hl:A.length<1099511627776):J0L Tryz.prog call N 47 [va,vb] h=some (.bool (decide (A=B)),h):=by
 refine J1m Tryz.func47 rfl (by simp[Tryz.f47]) ?_
 have hr:Tryz.f47.results.toList=[.tmp 4]:=rfl
 have lA:=fun h'=>JfF ha h'
 have lB:=fun h'=>JfF hb h'
 cases d:((A.length:Int) != (B.length:Int)) with
 | true=>
  have hne:A≠B:=fun e=>by subst e;simp at d
  rw[decide_eq_false hne]
  simp only[evC,↓reduceIte,Nat.reduceEqDiff,reduceCtorEq,↓evP,hr,lA,lB,d]
 | false=>
  have hlen:A.length=B.length:=by
   have h9:(A.length:Int)=(B.length:Int):=by simpa using d
   omega
  simp only[evC,↓reduceIte,Nat.reduceEqDiff,reduceCtorEq,↓evP,lA,lB,d]
  refine WK.loop (fun i s'=>s'.T.get 0=va∧s'.T.get 1=vb∧s'.T.get 12=iv A.length∧s'.T.get 13=iv i∧s'.h=h∧i≤A.length∧∀ j,j<i→A[j]?=B[j]?) A.length (by omega) ?_ ?_
  ·exact⟨by simp only[evC,↓reduceIte,Nat.reduceEqDiff,reduceCtorEq,↓evP,rpC,Nat.reduceAdd,Nat.reduceLT],by simp only[evC,↓reduceIte,Nat.reduceEqDiff,reduceCtorEq,↓evP,rpC,Nat.reduceAdd,Nat.reduceLT],by simp only[evC,↓reduceIte,Nat.reduceEqDiff,reduceCtorEq,↓evP,rpC,Nat.reduceAdd,Nat.reduceLT],by simp only[evC,↓reduceIte,Nat.reduceEqDiff,reduceCtorEq,↓evP,rpC,Nat.reduceAdd,Nat.reduceLT];rfl,rfl,by omega,fun j hj=>by omega⟩
  ·rintro i ⟨T1,H1⟩ hi ⟨t0,t1,t12,t13,hh,hil,hsame⟩
   simp only at t0 t1 t12 t13 hh
   subst hh
   by_cases hlt:i<A.length
   ·have c1:decide ((i:Int)<(A.length:Int))=true:=by simp;omega
    obtain⟨x,hx⟩:∃ x,A[i]?=some x:=⟨_,List.getElem?_eq_getElem hlt⟩
    obtain⟨y,hy⟩:∃ y,B[i]?=some y:=⟨_,List.getElem?_eq_getElem (by omega)⟩
    obtain⟨ida,pa,ea,_,xa⟩:=J1S.get ha hx
    obtain⟨idb,pb,eb,_,xb⟩:=J1S.get hb hy
    have w1:IntKind.i64.wrap ((i:Int)+1)=((i+1:Nat):Int):=J0s (by omega) (by omega)
    simp only[evC,seval,↓evP,t0,t1,t12,t13,c1]
    refine WK.flags (ops:=Jmx) Jmi ?_
    refine WKF.begin ?_
    have FF:=aQ @t0 (aQ @t1 (aQ @t12 (aQ @t13 (aQ @ea (aQ @eb (aQ @J0m (aQ @xa (aQ @xb @J4h))))))))
    refine wst hsn 0 (some 16) (.move (.tmp 0)) none ?_
    simp only[rgC,seval,J04,J02,WKFC,FF]
    refine wst hsn 1 (some 17) (.move (.tmp 5)) none ?_
    simp only[rgC,seval,J04,J02,WKFC,FF]
    refine wst hsn 2 (some 18) (.indexAddr 25 (.tmp 16) (.tmp 17)) none ?_
    simp only[rgC,seval,J04,J02,WKFC,Nat.zero_add,FF]
    refine wst hsn 3 (some 19) (.load 3 (.tmp 18)) none ?_
    simp only[rgC,seval,J04,J02,WKFC,rgL,FF]
    refine wst hsn 4 (some 20) (.move (.tmp 1)) none ?_
    simp only[rgC,seval,J04,J02,WKFC,FF]
    refine wst hsn 5 (some 21) (.move (.tmp 5)) none ?_
    simp only[rgC,seval,J04,J02,WKFC,FF]
    refine wst hsn 6 (some 22) (.indexAddr 25 (.tmp 20) (.tmp 21)) none ?_
    simp only[rgC,seval,J04,J02,WKFC,Nat.zero_add,FF]
    refine wst hsn 7 (some 23) (.load 3 (.tmp 22)) none ?_
    simp only[rgC,seval,J04,J02,WKFC,rgL,FF]
    refine wst hsn 8 (some 24) (.binOp .neq 3 (.tmp 19) (.tmp 23) 3) none ?_
    simp only[rgC,seval,J04,J02,WKFC,rgB,FF]
    refine WKF.done (i:=9) (by kernel_rfl) ?_
    clear FF
    cases e:(x != y) with
    | true=>
     have hne:A≠B:=fun h9=>by
      subst h9
      rw[hx] at hy
      cases hy
      simp at e
     rw[decide_eq_false hne]
     simp only[evC,seval,↓evP,hr,e]
    | false=>
     have hxy:x=y:=by simpa using e
     simp only[evC,seval,↓evP,t0,t1,t12,t13,e,w1]
     refine⟨by omega,by omega,fun j hj=>?_⟩
     rcases Nat.lt_or_ge j i with h1 | h1
     ·exact hsame j h1
     ·have:j=i:=by omega
      subst this
      rw[hx,hy,hxy]
   ·have c1:decide ((i:Int)<(A.length:Int))=false:=by simp;omega
    have:i=A.length:=by omega
    subst this
    have hAB:A=B:=J4S hlen hsame
    rw[decide_eq_true hAB]
    simp only[evC,seval,↓evP,hr,t0,t1,t12,t13,c1]
theorem JmT {n:Nat} {h:SHeap} {va vb:Value} {A B:List Int} {la lb:Nat} (ha:J1S la h va A) (hb:J1S lb h vb B) (hl:A.length<1000000000) (hn:A.length+5<n):J0T n 47 [va,vb] h=some (.bool (decide (A=B)),h):=by
 obtain⟨n,rfl⟩:∃ j,n=j+1:=⟨n-1,by omega⟩
 exact J6r (J13 ⟨rfl,rfl,rfl⟩) rfl (Jm8 (J1z n).2 ha hb (by omega) (by omega))
noncomputable def Jmu:Array Oper:=J18 Tryz.f46 6
theorem Jms:J1E Jmu=Jmj:=by kernel_rfl
set_option maxHeartbeats 4000000 in
theorem Jmf {call:J0r} {N:Nat} {h:SHeap} (hsn:J1G call) {va vb:Value} {A B:List ByteArray} {la lb:Nat} (ha:J0p la h va A.length 1 (strs A)) (hb:J0p lb h vb B.length 1 (strs B)) (hN:A.length+3<N) (hl:A.length<1099511627776):J0L Tryz.prog call N 46 [va,vb] h=some (.bool (decide (A=B)),h):=by
 refine J1m Tryz.func46 rfl (by simp[Tryz.f46]) ?_
 have hr:Tryz.f46.results.toList=[.tmp 4]:=rfl
 have lA:=fun h'=>JfT ha h'
 have lB:=fun h'=>JfT hb h'
 cases d:((A.length:Int) != (B.length:Int)) with
 | true=>
  have hne:A≠B:=fun e=>by subst e;simp at d
  rw[decide_eq_false hne]
  simp only[evC,↓reduceIte,Nat.reduceEqDiff,reduceCtorEq,↓evP,hr,lA,lB,d]
 | false=>
  have hlen:A.length=B.length:=by
   have h9:(A.length:Int)=(B.length:Int):=by simpa using d
   omega
  simp only[evC,↓reduceIte,Nat.reduceEqDiff,reduceCtorEq,↓evP,lA,lB,d]
  refine WK.loop (fun i s'=>s'.T.get 0=va∧s'.T.get 1=vb∧s'.T.get 12=iv A.length∧s'.T.get 13=iv i∧s'.h=h∧i≤A.length∧∀ j,j<i→A[j]?=B[j]?) A.length (by omega) ?_ ?_
  ·exact⟨by simp only[evC,↓reduceIte,Nat.reduceEqDiff,reduceCtorEq,↓evP,rpC,Nat.reduceAdd,Nat.reduceLT],by simp only[evC,↓reduceIte,Nat.reduceEqDiff,reduceCtorEq,↓evP,rpC,Nat.reduceAdd,Nat.reduceLT],by simp only[evC,↓reduceIte,Nat.reduceEqDiff,reduceCtorEq,↓evP,rpC,Nat.reduceAdd,Nat.reduceLT],by simp only[evC,↓reduceIte,Nat.reduceEqDiff,reduceCtorEq,↓evP,rpC,Nat.reduceAdd,Nat.reduceLT];rfl,rfl,by omega,fun j hj=>by omega⟩
  ·rintro i ⟨T1,H1⟩ hi ⟨t0,t1,t12,t13,hh,hil,hsame⟩
   simp only at t0 t1 t12 t13 hh
   subst hh
   by_cases hlt:i<A.length
   ·have c1:decide ((i:Int)<(A.length:Int))=true:=by simp;omega
    obtain⟨x,hx⟩:∃ x,A[i]?=some x:=⟨_,List.getElem?_eq_getElem hlt⟩
    obtain⟨y,hy⟩:∃ y,B[i]?=some y:=⟨_,List.getElem?_eq_getElem (by omega)⟩
    obtain⟨ida,pa,ea,_,xa⟩:=Ja3 hx ha
    obtain⟨idb,pb,eb,_,xb⟩:=Ja3 hy hb
    have w1:IntKind.i64.wrap ((i:Int)+1)=((i+1:Nat):Int):=J0s (by omega) (by omega)
    simp only[evC,seval,↓evP,t0,t1,t12,t13,c1]
    refine WK.flags (ops:=Jmu) Jms ?_
    refine WKF.begin ?_
    have FF:=aQ @t0 (aQ @t1 (aQ @t12 (aQ @t13 (aQ @ea (aQ @eb (aQ @J0d (aQ @xa (aQ @xb @J26))))))))
    refine wst hsn 0 (some 16) (.move (.tmp 0)) none ?_
    simp only[rgC,seval,J04,J02,WKFC,FF]
    refine wst hsn 1 (some 17) (.move (.tmp 5)) none ?_
    simp only[rgC,seval,J04,J02,WKFC,FF]
    refine wst hsn 2 (some 18) (.indexAddr 24 (.tmp 16) (.tmp 17)) none ?_
    simp only[rgC,seval,J04,J02,WKFC,Nat.zero_add,FF]
    refine wst hsn 3 (some 19) (.load 9 (.tmp 18)) none ?_
    simp only[rgC,seval,J04,J02,WKFC,rgL,FF]
    refine wst hsn 4 (some 20) (.move (.tmp 1)) none ?_
    simp only[rgC,seval,J04,J02,WKFC,FF]
    refine wst hsn 5 (some 21) (.move (.tmp 5)) none ?_
    simp only[rgC,seval,J04,J02,WKFC,FF]
    refine wst hsn 6 (some 22) (.indexAddr 24 (.tmp 20) (.tmp 21)) none ?_
    simp only[rgC,seval,J04,J02,WKFC,Nat.zero_add,FF]
    refine wst hsn 7 (some 23) (.load 9 (.tmp 22)) none ?_
    simp only[rgC,seval,J04,J02,WKFC,rgL,FF]
    refine wst hsn 8 (some 24) (.binOp .neq 9 (.tmp 19) (.tmp 23) 9) none ?_
    simp only[rgC,seval,J04,J02,WKFC,rgB,FF]
    refine WKF.done (i:=9) (by kernel_rfl) ?_
    clear FF
    cases e:(!(x==y)) with
    | true=>
     have hne:A≠B:=fun h9=>by
      subst h9
      rw[hx] at hy
      cases hy
      rw[J34] at e;cases e
     rw[decide_eq_false hne]
     simp only[evC,seval,↓evP,hr,e]
    | false=>
     have hxy:x=y:=J3o (by simpa using e)
     simp only[evC,seval,↓evP,t0,t1,t12,t13,e,w1]
     refine⟨by omega,by omega,fun j hj=>?_⟩
     rcases Nat.lt_or_ge j i with h1 | h1
     ·exact hsame j h1
     ·have:j=i:=by omega
      subst this
      rw[hx,hy,hxy]
   ·have c1:decide ((i:Int)<(A.length:Int))=false:=by simp;omega
    have:i=A.length:=by omega
    subst this
    have hAB:A=B:=J4S hlen hsame
    rw[decide_eq_true hAB]
    simp only[evC,seval,↓evP,hr,t0,t1,t12,t13,c1]
theorem JmZ {n:Nat} {h:SHeap} {va vb:Value} {A B:List ByteArray} {la lb:Nat} (ha:J0p la h va A.length 1 (strs A)) (hb:J0p lb h vb B.length 1 (strs B)) (hl:A.length<1000000000) (hn:A.length+5<n):J0T n 46 [va,vb] h=some (.bool (decide (A=B)),h):=by
 obtain⟨n,rfl⟩:∃ j,n=j+1:=⟨n-1,by omega⟩
 exact J6r (J13 ⟨rfl,rfl,rfl⟩) rfl (Jmf (J1z n).2 ha hb (by omega) (by omega))
noncomputable def Jmy:Array Oper:=J18 Tryz.f45 6
theorem Jmk:J1E Jmy=Jmj:=by kernel_rfl
set_option maxHeartbeats 4000000 in
theorem Jmc {call:J0r} {N:Nat} {h:SHeap} (hsn:J1G call) {va vb:Value} {A B:List (ByteArray × Bool)} {la lb:Nat} (ha:J0p la h va A.length 2 (J3S A)) (hb:J0p lb h vb B.length 2 (J3S B)) (hN:A.length+3<N) (hl:A.length<1099511627776):J0L Tryz.prog call N 45 [va,vb] h=some (.bool (decide (A=B)),h):=by
 refine J1m Tryz.func45 rfl (by simp[Tryz.f45]) ?_
 have hr:Tryz.f45.results.toList=[.tmp 4]:=rfl
 have lA:=fun h'=>JfC ha h'
 have lB:=fun h'=>JfC hb h'
 cases d:((A.length:Int) != (B.length:Int)) with
 | true=>
  have hne:A≠B:=fun e=>by subst e;simp at d
  rw[decide_eq_false hne]
  simp only[evC,↓reduceIte,Nat.reduceEqDiff,reduceCtorEq,↓evP,hr,lA,lB,d]
 | false=>
  have hlen:A.length=B.length:=by
   have h9:(A.length:Int)=(B.length:Int):=by simpa using d
   omega
  simp only[evC,↓reduceIte,Nat.reduceEqDiff,reduceCtorEq,↓evP,lA,lB,d]
  refine WK.loop (fun i s'=>s'.T.get 0=va∧s'.T.get 1=vb∧s'.T.get 12=iv A.length∧s'.T.get 13=iv i∧s'.h=h∧i≤A.length∧∀ j,j<i→A[j]?=B[j]?) A.length (by omega) ?_ ?_
  ·exact⟨by simp only[evC,↓reduceIte,Nat.reduceEqDiff,reduceCtorEq,↓evP,rpC,Nat.reduceAdd,Nat.reduceLT],by simp only[evC,↓reduceIte,Nat.reduceEqDiff,reduceCtorEq,↓evP,rpC,Nat.reduceAdd,Nat.reduceLT],by simp only[evC,↓reduceIte,Nat.reduceEqDiff,reduceCtorEq,↓evP,rpC,Nat.reduceAdd,Nat.reduceLT],by simp only[evC,↓reduceIte,Nat.reduceEqDiff,reduceCtorEq,↓evP,rpC,Nat.reduceAdd,Nat.reduceLT];rfl,rfl,by omega,fun j hj=>by omega⟩
  ·rintro i ⟨T1,H1⟩ hi ⟨t0,t1,t12,t13,hh,hil,hsame⟩
   simp only at t0 t1 t12 t13 hh
   subst hh
   by_cases hlt:i<A.length
   ·have c1:decide ((i:Int)<(A.length:Int))=true:=by simp;omega
    obtain⟨x,hx⟩:∃ x,A[i]?=some x:=⟨_,List.getElem?_eq_getElem hlt⟩
    obtain⟨y,hy⟩:∃ y,B[i]?=some y:=⟨_,List.getElem?_eq_getElem (by omega)⟩
    obtain⟨ida,pa,ea,_,xa⟩:=J8S hx ha
    obtain⟨idb,pb,eb,_,xb⟩:=J8S hy hb
    have w1:IntKind.i64.wrap ((i:Int)+1)=((i+1:Nat):Int):=J0s (by omega) (by omega)
    simp only[evC,seval,↓evP,t0,t1,t12,t13,c1]
    refine WK.flags (ops:=Jmy) Jmk ?_
    refine WKF.begin ?_
    have FF:=aQ @t0 (aQ @t1 (aQ @t12 (aQ @t13 (aQ @ea (aQ @eb (aQ @J3z (aQ @xa (aQ @xb @J6H))))))))
    refine wst hsn 0 (some 16) (.move (.tmp 0)) none ?_
    simp only[rgC,seval,J04,J02,WKFC,FF]
    refine wst hsn 1 (some 17) (.move (.tmp 5)) none ?_
    simp only[rgC,seval,J04,J02,WKFC,FF]
    refine wst hsn 2 (some 18) (.indexAddr 23 (.tmp 16) (.tmp 17)) none ?_
    simp only[rgC,seval,J04,J02,WKFC,Nat.zero_add,FF]
    refine wst hsn 3 (some 19) (.load 55 (.tmp 18)) none ?_
    simp only[rgC,seval,J04,J02,WKFC,rgL,FF]
    refine wst hsn 4 (some 20) (.move (.tmp 1)) none ?_
    simp only[rgC,seval,J04,J02,WKFC,FF]
    refine wst hsn 5 (some 21) (.move (.tmp 5)) none ?_
    simp only[rgC,seval,J04,J02,WKFC,FF]
    refine wst hsn 6 (some 22) (.indexAddr 23 (.tmp 20) (.tmp 21)) none ?_
    simp only[rgC,seval,J04,J02,WKFC,Nat.zero_add,FF]
    refine wst hsn 7 (some 23) (.load 55 (.tmp 22)) none ?_
    simp only[rgC,seval,J04,J02,WKFC,rgL,FF]
    refine wst hsn 8 (some 24) (.binOp .neq 55 (.tmp 19) (.tmp 23) 55) none ?_
    simp only[rgC,seval,J04,J02,WKFC,rgB,FF]
    refine WKF.done (i:=9) (by kernel_rfl) ?_
    clear FF
    cases e:(!(x.1==y.1&&x.2==y.2)) with
    | true=>
     have hne:A≠B:=fun h9=>by
      subst h9
      rw[hx] at hy
      cases hy
      rw[J34] at e;simp at e
     rw[decide_eq_false hne]
     simp only[evC,seval,↓evP,hr,e]
    | false=>
     have hxy:x=y:=(by simp only[Bool.not_eq_false',Bool.and_eq_true] at e;exact Prod.ext (J3o e.1) (by simpa using e.2))
     simp only[evC,seval,↓evP,t0,t1,t12,t13,e,w1]
     refine⟨by omega,by omega,fun j hj=>?_⟩
     rcases Nat.lt_or_ge j i with h1 | h1
     ·exact hsame j h1
     ·have:j=i:=by omega
      subst this
      rw[hx,hy,hxy]
   ·have c1:decide ((i:Int)<(A.length:Int))=false:=by simp;omega
    have:i=A.length:=by omega
    subst this
    have hAB:A=B:=J4S hlen hsame
    rw[decide_eq_true hAB]
    simp only[evC,seval,↓evP,hr,t0,t1,t12,t13,c1]
theorem Jnt {n:Nat} {h:SHeap} {va vb:Value} {A B:List (ByteArray × Bool)} {la lb:Nat} (ha:J0p la h va A.length 2 (J3S A)) (hb:J0p lb h vb B.length 2 (J3S B)) (hl:A.length<1000000000) (hn:A.length+5<n):J0T n 45 [va,vb] h=some (.bool (decide (A=B)),h):=by
 obtain⟨n,rfl⟩:∃ j,n=j+1:=⟨n-1,by omega⟩
 exact J6r (J13 ⟨rfl,rfl,rfl⟩) rfl (Jmc (J1z n).2 ha hb (by omega) (by omega))
theorem Jn4 {h:SHeap} {v:Value} {l:List RowN} (hv:J0l h v l) (h':SHeap):lenS Tryz.prog h' 22 v=some (iv (l.length:Int)):=hv.len
noncomputable def Jmw:Array Oper:=J18 Tryz.f44 6
theorem Jmn:J1E Jmw=Jmj:=by kernel_rfl
set_option maxHeartbeats 4000000 in
theorem Jm6 {call:J0r} {N:Nat} {h:SHeap} (hsn:J1G call) {va vb:Value} {A B:List RowN} (ha:J0l h va A) (hb:J0l h vb B) (hN:A.length+3<N) (hl:A.length<1099511627776):J0L Tryz.prog call N 44 [va,vb] h=some (.bool (decide (A=B)),h):=by
 refine J1m Tryz.func44 rfl (by simp[Tryz.f44]) ?_
 have hr:Tryz.f44.results.toList=[.tmp 4]:=rfl
 have lA:=fun h'=>Jn4 ha h'
 have lB:=fun h'=>Jn4 hb h'
 cases d:((A.length:Int) != (B.length:Int)) with
 | true=>
  have hne:A≠B:=fun e=>by subst e;simp at d
  rw[decide_eq_false hne]
  simp only[evC,↓reduceIte,Nat.reduceEqDiff,reduceCtorEq,↓evP,hr,lA,lB,d]
 | false=>
  have hlen:A.length=B.length:=by
   have h9:(A.length:Int)=(B.length:Int):=by simpa using d
   omega
  simp only[evC,↓reduceIte,Nat.reduceEqDiff,reduceCtorEq,↓evP,lA,lB,d]
  refine WK.loop (fun i s'=>s'.T.get 0=va∧s'.T.get 1=vb∧s'.T.get 12=iv A.length∧s'.T.get 13=iv i∧s'.h=h∧i≤A.length∧∀ j,j<i→A[j]?=B[j]?) A.length (by omega) ?_ ?_
  ·exact⟨by simp only[evC,↓reduceIte,Nat.reduceEqDiff,reduceCtorEq,↓evP,rpC,Nat.reduceAdd,Nat.reduceLT],by simp only[evC,↓reduceIte,Nat.reduceEqDiff,reduceCtorEq,↓evP,rpC,Nat.reduceAdd,Nat.reduceLT],by simp only[evC,↓reduceIte,Nat.reduceEqDiff,reduceCtorEq,↓evP,rpC,Nat.reduceAdd,Nat.reduceLT],by simp only[evC,↓reduceIte,Nat.reduceEqDiff,reduceCtorEq,↓evP,rpC,Nat.reduceAdd,Nat.reduceLT];rfl,rfl,by omega,fun j hj=>by omega⟩
  ·rintro i ⟨T1,H1⟩ hi ⟨t0,t1,t12,t13,hh,hil,hsame⟩
   simp only at t0 t1 t12 t13 hh
   subst hh
   by_cases hlt:i<A.length
   ·have c1:decide ((i:Int)<(A.length:Int))=true:=by simp;omega
    obtain⟨x,hx⟩:∃ x,A[i]?=some x:=⟨_,List.getElem?_eq_getElem hlt⟩
    obtain⟨y,hy⟩:∃ y,B[i]?=some y:=⟨_,List.getElem?_eq_getElem (by omega)⟩
    obtain⟨ida,pa,ea,_,_,_,_,_,_,xa9⟩:=J0l.row ha hx
    have xa:ldN 5 pa (H1.get ida)=some (rowV x):=xa9
    obtain⟨idb,pb,eb,_,_,_,_,_,_,xb9⟩:=J0l.row hb hy
    have xb:ldN 5 pb (H1.get idb)=some (rowV y):=xb9
    have w1:IntKind.i64.wrap ((i:Int)+1)=((i+1:Nat):Int):=J0s (by omega) (by omega)
    simp only[evC,seval,↓evP,t0,t1,t12,t13,c1]
    refine WK.flags (ops:=Jmw) Jmn ?_
    refine WKF.begin ?_
    have FF:=aQ @t0 (aQ @t1 (aQ @t12 (aQ @t13 (aQ @ea (aQ @eb (aQ @J0u (aQ @xa (aQ @xb @J6U))))))))
    refine wst hsn 0 (some 16) (.move (.tmp 0)) none ?_
    simp only[rgC,seval,J04,J02,WKFC,FF]
    refine wst hsn 1 (some 17) (.move (.tmp 5)) none ?_
    simp only[rgC,seval,J04,J02,WKFC,FF]
    refine wst hsn 2 (some 18) (.indexAddr 22 (.tmp 16) (.tmp 17)) none ?_
    simp only[rgC,seval,J04,J02,WKFC,Nat.zero_add,FF]
    refine wst hsn 3 (some 19) (.load 51 (.tmp 18)) none ?_
    simp only[rgC,seval,J04,J02,WKFC,rgL,FF]
    refine wst hsn 4 (some 20) (.move (.tmp 1)) none ?_
    simp only[rgC,seval,J04,J02,WKFC,FF]
    refine wst hsn 5 (some 21) (.move (.tmp 5)) none ?_
    simp only[rgC,seval,J04,J02,WKFC,FF]
    refine wst hsn 6 (some 22) (.indexAddr 22 (.tmp 20) (.tmp 21)) none ?_
    simp only[rgC,seval,J04,J02,WKFC,Nat.zero_add,FF]
    refine wst hsn 7 (some 23) (.load 51 (.tmp 22)) none ?_
    simp only[rgC,seval,J04,J02,WKFC,rgL,FF]
    refine wst hsn 8 (some 24) (.binOp .neq 51 (.tmp 19) (.tmp 23) 51) none ?_
    simp only[rgC,seval,J04,J02,WKFC,rgB,FF]
    refine WKF.done (i:=9) (by kernel_rfl) ?_
    clear FF
    cases e:(!(J5z x y)) with
    | true=>
     have hne:A≠B:=fun h9=>by
      subst h9
      rw[hx] at hy
      cases hy
      rw[J6E.2 rfl] at e;cases e
     rw[decide_eq_false hne]
     simp only[evC,seval,↓evP,hr,e]
    | false=>
     have hxy:x=y:=J6E.1 (by simpa using e)
     simp only[evC,seval,↓evP,t0,t1,t12,t13,e,w1]
     refine⟨by omega,by omega,fun j hj=>?_⟩
     rcases Nat.lt_or_ge j i with h1 | h1
     ·exact hsame j h1
     ·have:j=i:=by omega
      subst this
      rw[hx,hy,hxy]
   ·have c1:decide ((i:Int)<(A.length:Int))=false:=by simp;omega
    have:i=A.length:=by omega
    subst this
    have hAB:A=B:=J4S hlen hsame
    rw[decide_eq_true hAB]
    simp only[evC,seval,↓evP,hr,t0,t1,t12,t13,c1]
theorem Jnu {n:Nat} {h:SHeap} {va vb:Value} {A B:List RowN} (ha:J0l h va A) (hb:J0l h vb B) (hl:A.length<1000000000) (hn:A.length+5<n):J0T n 44 [va,vb] h=some (.bool (decide (A=B)),h):=by
 obtain⟨n,rfl⟩:∃ j,n=j+1:=⟨n-1,by omega⟩
 exact J6r (J13 ⟨rfl,rfl,rfl⟩) rfl (Jm6 (J1z n).2 ha hb (by omega) (by omega))
def Jli (x:RowN):RowN:=if x.kind≠27 then { x with n:=0 } else x
def Jk8 (l:List RowN):List RowN:=l.map Jli
def JmE (nm:ByteArray) (s:StN):Prop:=(resN (Jk8 s.rows)).1.1=0∧J5b nm (outN (Jk8 s.rows)).1 s (outN (Jk8 s.rows)).2
open Classical in
noncomputable def JkA (nm:ByteArray) (s:StN):Int:=if JmE nm s then 0 else 23
theorem Jlt {H:SHeap} {cs:List Value} {e p:Int} (hl:cs.length=8) (ho:cs.all one=true) (hf:H.floor≤H.next) :
  ∃ H':SHeap × SHeap,J0K Tryz.prog ((H.push (.row [.string ByteArray.empty,.slice none 0 0,.slice none 0 0,.slice none 0 0,.slice none 0 0,.slice none 0 0,.slice none 0 0,iv 0] 27 false false)).push (.row [iv 0,iv 0] 39 false false)) 27 (.pointer (some ⟨H.next,0,none⟩)) (.agg cs.toArray)=some (H'.1)∧J0K Tryz.prog H'.1 39 (.pointer (some ⟨H.next+1,0,none⟩)) (J2k e p)=some H'.2 ∧
   Out2 H.next H'.2 cs e p∧H'.2.next=H.next+2∧H'.2.floor=H.floor∧∀ i,i<H.next→H'.2.get i=H.get i:=by
 have ga:=J4c (h:=H) (o:=.row [.string ByteArray.empty,.slice none 0 0,.slice none 0 0,.slice none 0 0,.slice none 0 0,.slice none 0 0,.slice none 0 0,iv 0] 27 false false) (o':=.row [iv 0,iv 0] 39 false false)
 have gb:=J48 (h:=H) (o:=.row [.string ByteArray.empty,.slice none 0 0,.slice none 0 0,.slice none 0 0,.slice none 0 0,.slice none 0 0,.slice none 0 0,iv 0] 27 false false) (o':=.row [iv 0,iv 0] 39 false false)
 have gold:∀ i,i<H.next→((H.push (.row [.string ByteArray.empty,.slice none 0 0,.slice none 0 0,.slice none 0 0,.slice none 0 0,.slice none 0 0,.slice none 0 0,iv 0] 27 false false)).push (.row [iv 0,iv 0] 39 false false)).get i=H.get i:=fun i hi=>by rw[J06 (by show i<H.next+1;omega),J06 hi]
 have hnx:((H.push (.row [.string ByteArray.empty,.slice none 0 0,.slice none 0 0,.slice none 0 0,.slice none 0 0,.slice none 0 0,.slice none 0 0,iv 0] 27 false false)).push (.row [iv 0,iv 0] 39 false false)).next=H.next+2:=rfl
 have hfx:((H.push (.row [.string ByteArray.empty,.slice none 0 0,.slice none 0 0,.slice none 0 0,.slice none 0 0,.slice none 0 0,.slice none 0 0,iv 0] 27 false false)).push (.row [iv 0,iv 0] 39 false false)).floor=H.floor:=rfl
 generalize (H.push (.row [.string ByteArray.empty,.slice none 0 0,.slice none 0 0,.slice none 0 0,.slice none 0 0,.slice none 0 0,.slice none 0 0,iv 0] 27 false false)).push (.row [iv 0,iv 0] 39 false false)=G at *
 obtain⟨H',s1,s2,r1,r2,r3,r4⟩:=J4J (a:=H.next) (H:=G) ⟨ga,gb⟩ rfl (by omega) (by omega) (cs':=cs) hl ho (e':=e) (p':=p)
 exact⟨⟨_,H'⟩,s1,s2,r1,by show H'.next=_;omega,by show H'.floor=_;omega,fun i hi=>by show H'.get i=_;rw[r4 i (by omega) (by omega),gold i hi]⟩
theorem all8 {lo:Nat} {h:SHeap} {nm:ByteArray} {s:StN} {vr vq vv vt vu vo:Value} (h1:J3P lo h vr s.rows) (h2:J0p lo h vq s.queues.length 2 (J3S s.queues)) (h3:J0p lo h vv s.vars.length 1 (strs s.vars)) (h4:J0p lo h vt s.tags.length 1 (strs s.tags)) (h5:J1S lo h vu s.rules) (h6:J1S lo h vo s.on) :
  ([.string nm,vr,vq,vv,vt,vu,vo,iv s.miss]:List Value).all one=true:=by
 simp only[List.all_cons,List.all_nil,h1.2.one,h2.one,h3.one,h4.one,J0p.one h5,J0p.one h6,J5J,J5K,Bool.and_self]
def Lies (v:Value) (n:Nat):Prop:=∃ id off c,v=.slice (some ⟨id,off,none⟩) n c
theorem JlO {call:J0r} {N:Nat} {h:SHeap} {l:List RowN} {v:Value} (hv:J0l h v l) (hlies:Lies v l.length) (hlen:l.length<1099511627) :
  ∃ v' h',J0L Tryz.prog call N 42 [v] h=some (v',h')∧(∃ o c g,v'=.slice (some ⟨o,0,none⟩) l.length c∧h'.get o=.row (l.flatMap J0e) 51 g false∧h.next≤o∧o<h'.next)∧h'.floor=h.floor∧h.next≤h'.next∧∀ i,i<h.next→h'.get i=h.get i:=by
 by_cases h0:0<l.length
 ·obtain⟨h',e,g1,g2,g3,g4⟩:=Jby (call:=call) (N:=N) hv h0 hlen
  exact⟨_,h',e,⟨h.next+1,unk,true,rfl,g1,by omega,by omega⟩,g3,by omega,g4⟩
 ·have hl:l=[]:=List.length_eq_zero_iff.1 (by omega)
  subst hl
  obtain⟨id,off,c,rfl⟩:=hlies
  refine⟨.slice (some ⟨h.next,0,none⟩) 0 0,h.push (.row [] 51 false false),?_,⟨h.next,0,false,rfl,J0h,Nat.le_refl _,by show h.next<h.next+1;omega⟩,rfl,by show h.next≤h.next+1;omega,fun i hi=>J06 hi⟩
  refine J1m Tryz.func42 rfl (by simp[Tryz.f42]) ?_
  have hr:Tryz.f42.results.toList=[.tmp 2]:=rfl
  have hb:binS Tryz.prog .eql 22 (.tmp 3) (.const (.slice none 0 0)) (.slice (some ⟨id,off,none⟩) ([]:List RowN).length c) (.slice none 0 0)=some (.bool false):=by
   have hf:flat (.slice (some ⟨id,off,none⟩) ([]:List RowN).length c)=false:=rfl
   simp only[binS,hf,Bool.false_and,Bool.false_eq_true,if_false,Tryz.underlying22]
  have hbs:J0Q Tryz.prog h 22 0 []=some (.slice (some ⟨h.next,0,none⟩) 0 0,h.push (.row [] 51 false false)):=by
   simp[J0Q,Tryz.underlying22,sz46,J40,flat,J1i,J0G,J5k,J3e]
  have hsrc:J16 (h.push (.row [] 51 false false)) 5 ([]:List RowN).length (.slice (some ⟨id,off,none⟩) ([]:List RowN).length c)=some []:=by simp[J16]
  have hap:J1o Tryz.prog (h.push (.row [] 51 false false)) 22 (.slice (some ⟨h.next,0,none⟩) 0 0) (.slice (some ⟨id,off,none⟩) ([]:List RowN).length c)=some (.slice (some ⟨h.next,0,none⟩) 0 0,h.push (.row [] 51 false false)):=by
   have hu:(0:Nat)≠unk:=by unfold unk;omega
   have hzs:(Value.agg #[.int .i64 0,.string ByteArray.empty,.int .i64 0,.int .i64 0,.int .i64 0]).cells.size=5:=rfl
   simp[J1o,Tryz.underlying22,sz46,by46,J40,hzs,J16,hu]
  simp only[evC,seval,↓evP,hr,hb,hbs,hap]
theorem Jm9 {n:Nat} {h:SHeap} {l:List RowN} {v:Value} (hv:J0l h v l) (hlies:Lies v l.length) (hlen:l.length<1099511627) (hn:0<n) :
  ∃ v' h',J0T n 42 [v] h=some (v',h')∧(∃ o c g,v'=.slice (some ⟨o,0,none⟩) l.length c∧h'.get o=.row (l.flatMap J0e) 51 g false∧h.next≤o∧o<h'.next)∧h'.floor=h.floor∧h.next≤h'.next∧∀ i,i<h.next→h'.get i=h.get i:=by
 obtain⟨n,rfl⟩:∃ j,n=j+1:=⟨n-1,by omega⟩
 refine k_ex (J13 ⟨rfl,rfl,rfl⟩) (JlO (call:=J0T n) (N:=n) hv hlies hlen) fun v' h1 hf ho ⟨⟨o,c,g,e1,_⟩,_⟩=>?_
 rw[e1] at hf
 cases hf
section
variable {n N:Nat}
set_option maxHeartbeats 16000000 in
theorem JlL {nm:ByteArray} {s:StN} {pv:Value} {lo:Nat} {h:SHeap} (hp:J3x lo h pv nm s) (hlies:∀ nm' vr vq vv vt vu vo m,pv=.agg #[.string nm',vr,vq,vv,vt,vu,vo,m]→Lies vr s.rows.length) (hs:JdC s) (hl:s.rows.length<900000000) (hfl:h.floor≤h.next) (hg:h.get 0=J14) (hn0:0<h.next) (hn:2*Jbg s+200<n) (hN:Jbg s+200<N) :
  ∃ h',J0L Tryz.prog (J0T n) N 21 [pv] h=some (iv (JkA nm s),h')∧∀ i,i<h.next→h'.get i=h.get i:=by
 obtain⟨vr,vq,vv,vt,vu,vo,rfl,p1,p2,p3,p4,p5,p6⟩:=hp
 have hlv:=hlies _ _ _ _ _ _ _ _ rfl
 refine J1N (R:=fun h'=>∀ i,i<h.next→h'.get i=h.get i) Tryz.func21 rfl (by simp[Tryz.f21]) ?_
 have hr:Tryz.f21.results.toList=[.tmp 2]:=rfl
 unfold Jbg at hn hN
 obtain⟨q1,q2,q3,q4,q5,q6⟩:=hs
 have ca:(Value.agg #[.string nm,vr,vq,vv,vt,vu,vo,iv s.miss]).cells.toList=[.string nm,vr,vq,vv,vt,vu,vo,iv s.miss]:=rfl
 have oa:=all8 (nm:=nm) p1 p2 p3 p4 p5 p6
 have gA:(h.push (.row [.string nm,vr,vq,vv,vt,vu,vo,iv s.miss] 27 false false)).get h.next=.row [.string nm,vr,vq,vv,vt,vu,vo,iv s.miss] 27 false false:=J0h
 have gO:∀ i,i<h.next→(h.push (.row [.string nm,vr,vq,vv,vt,vu,vo,iv s.miss] 27 false false)).get i=h.get i:=fun i hi=>J06 hi
 have nA:(h.push (.row [.string nm,vr,vq,vv,vt,vu,vo,iv s.miss] 27 false false)).next=h.next+1:=rfl
 have fA:(h.push (.row [.string nm,vr,vq,vv,vt,vu,vo,iv s.miss] 27 false false)).floor=h.floor:=rfl
 show WK _ _ _ (.seq _ (.seq _ (.seq (.seq _ _) (.seq _ (.seq _ _))))) _ _
 simp only[evC,seval,↓evP,rpD,J0X,J2t,ca,oa,sz30]
 generalize h.push (.row [.string nm,vr,vq,vv,vt,vu,vo,iv s.miss] 27 false false)=A at *
 have l1:ld1 1 (A.get h.next)=some vr:=by rw[gA];rfl
 have P1:J0l A vr s.rows:=p1.1.mono (by omega) gO
 obtain⟨v',h1,hcl,⟨o,c,g,rfl,g1,g2,g3⟩,f1,n1,o1⟩:=Jm9 (n:=n) P1 hlv (by omega) (by omega)
 have hlen:∀ h':SHeap,lenS Tryz.prog h' 22 (.slice (some ⟨o,0,none⟩) s.rows.length c)=some (iv (s.rows.length:Int)):=fun h'=>JeK
 simp only[evC,seval,↓evP,Nat.zero_add,J0y,J0F,l1,hcl,hlen]
 refine WK.loop (fun i s'=>s'.T.get 1=.pointer (some ⟨h.next,0,none⟩)∧s'.T.get 3=.slice (some ⟨o,0,none⟩) s.rows.length c∧s'.T.get 11=iv (s.rows.length:Int)∧s'.T.get 12=iv i∧i≤s.rows.length∧s'.h.next=h1.next∧s'.h.floor=h1.floor∧(∀ i,i≠o→s'.h.get i=h1.get i) ∧
  ∃ L:List RowN,s'.h.get o=.row (L.flatMap J0e) 51 g false∧∀ j,L[j]?=(s.rows[j]?).map fun x=>if j<i then Jli x else x) s.rows.length (by omega) ?_ ?_
 ·refine⟨by simp only[evC,↓reduceIte,Nat.reduceEqDiff,reduceCtorEq,↓evP,rpC,Nat.reduceAdd,Nat.reduceLT],by simp only[evC,↓reduceIte,Nat.reduceEqDiff,reduceCtorEq,↓evP,rpC,Nat.reduceAdd,Nat.reduceLT],by simp only[evC,↓reduceIte,Nat.reduceEqDiff,reduceCtorEq,↓evP,rpC,Nat.reduceAdd,Nat.reduceLT],by simp only[evC,↓reduceIte,Nat.reduceEqDiff,reduceCtorEq,↓evP,rpC,Nat.reduceAdd,Nat.reduceLT];rfl,by omega,rfl,rfl,fun _ _=>rfl,s.rows,g1,fun j=>?_⟩
  simp
 rintro i ⟨T1,H1⟩ hi ⟨t1,t3,t11,t12,hil,m1,m2,m3,L,gL,hL⟩
 simp only at t1 t3 t11 t12 m1 m2 m3 gL
 have hLl:L.length=s.rows.length:=by
  rcases Nat.lt_trichotomy L.length s.rows.length with h9 | h9 | h9
  ·have:=hL L.length
   rw[List.getElem?_eq_none (Nat.le_refl _),List.getElem?_eq_getElem h9] at this
   cases this
  ·exact h9
  ·have:=hL s.rows.length
   rw[List.getElem?_eq_getElem h9,List.getElem?_eq_none (Nat.le_refl _)] at this
   cases this
 by_cases hlt:i<s.rows.length
 ·have c1:decide ((i:Int)<(s.rows.length:Int))=true:=by simp;omega
  obtain⟨x,hx⟩:∃ x,s.rows[i]?=some x:=⟨_,List.getElem?_eq_getElem hlt⟩
  have hLx:L[i]?=some x:=by rw[hL,hx];simp
  have ea:=JaW (id:=o) (n:=s.rows.length) (c:=c) hlt
  have lk:ld1 (i*5) (H1.get o)=some (iv x.kind):=by
   have h5:=J2Y hLx
   rw[gL]
   have:(L.flatMap J0e)[i*5]?=(J0e x)[0]?:=by
    rw[← h5,List.getElem?_take_of_lt (by omega),List.getElem?_drop,Nat.add_zero]
   simp only[ld1,this]
   rfl
  have w1:IntKind.i64.wrap ((i:Int)+1)=((i+1:Nat):Int):=J0s (by omega) (by omega)
  cases d:(x.kind != 27) with
  | false=>
   have hz:Jli x=x:=by
    unfold Jli
    rw[if_neg (by simpa using d)]
   simp only[evC,seval,↓evP,t1,t3,t11,t12,c1,ea,J0t,J0m,lk,d,w1]
   refine⟨hlt,by omega,m1,m2,m3,L,gL,fun j=>?_⟩
   rw[hL j]
   by_cases hj:j=i
   ·subst hj
    rw[hx]
    simp[hz]
   ·congr 1
    funext y
    by_cases h9:j<i
    ·rw[if_pos h9,if_pos (by omega)]
    ·rw[if_neg h9,if_neg (by omega)]
  | true=>
   have hz:Jli x={ x with n:=0 }:=by
    unfold Jli
    rw[if_pos (by simpa using d)]
   have hst:=stc (t:=3) (off:=i*5+3) (v:=iv 0) sz3 rfl rfl gL (by rw[J0N];omega) (by omega)
   rw[J3N hLx] at hst
   simp only[evC,seval,↓evP,t1,t3,t11,t12,c1,ea,J0t,J0O,J0m,lk,d,hst,w1]
   refine⟨hlt,by omega,m1,m2,fun j hj=>by rw[J05 (by omega) (Ne.symm hj)];exact m3 j hj,setN L i 0,J0b rfl (by omega),fun j=>?_⟩
   by_cases hj:j=i
   ·subst hj
    rw[J4g hLx,hx]
    simp[hz]
   ·rw[J4M hj,hL j]
    congr 1
    funext y
    by_cases h9:j<i
    ·rw[if_pos h9,if_pos (by omega)]
    ·rw[if_neg h9,if_neg (by omega)]
 have c1:decide ((i:Int)<(s.rows.length:Int))=false:=by simp;omega
 have:i=s.rows.length:=by omega
 subst this
 have hLz:L=Jk8 s.rows:=by
  apply List.ext_getElem?
  intro j
  rw[hL j,Jk8,List.getElem?_map]
  rcases Nat.lt_or_ge j s.rows.length with h9 | h9
  ·simp[h9]
  ·rw[List.getElem?_eq_none h9]
   rfl
 subst hLz
 have hvz:J0l H1 (.slice (some ⟨o,0,none⟩) s.rows.length c) (Jk8 s.rows):=by
  refine⟨_,_,by rw[hLl],.inr ⟨o,0,_,_,_,_,rfl,gL,by omega,fun k r hk=>by rw[Nat.zero_add];exact J2Y hk⟩⟩
 have hw1:H1.get 0=J14:=by rw[m3 0 (by omega),o1 0 (by omega),gO 0 hn0];exact hg
 obtain⟨v2,h2,hres,pv,rfl,hp',f2,n2,o2⟩:=Jia (n:=n) (h:=H1) (by omega) hw1 (by omega) hvz (by omega) (by omega)
 obtain⟨vr',vq',vv',vt',vu',vo',rfl,b1,b2,b3,b4,b5,b6⟩:=hp'
 obtain⟨⟨hb,h3⟩,s1,s2,rO,n3,f3,o3⟩:=Jlt (H:=h2) (cs:=[.string (outN (Jk8 s.rows)).1,vr',vq',vv',vt',vu',vo',iv (outN (Jk8 s.rows)).2.miss]) (e:=(resN (Jk8 s.rows)).1.1) (p:=(resN (Jk8 s.rows)).1.2) rfl (all8 b1 b2 b3 b4 b5 b6) (by omega)
 simp only at s1 s2 rO n3 f3 o3
 have zc30:zPol.cells.toList=[.string ByteArray.empty,.slice none 0 0,.slice none 0 0,.slice none 0 0,.slice none 0 0,.slice none 0 0,.slice none 0 0,iv 0]:=rfl
 have zc33:(J2k 0 0).cells.toList=[iv 0,iv 0]:=rfl
 have HO:∀ i,i<h.next→h3.get i=h.get i:=fun i hi=>by rw[o3 i (by omega),o2 i (by omega),m3 i (by omega),o1 i (by omega),gO i hi]
 have HA:h3.get h.next=.row [.string nm,vr,vq,vv,vt,vu,vo,iv s.miss] 27 false false:=by rw[o3 _ (by omega),o2 _ (by omega),m3 _ (by omega),o1 _ (by omega)];exact gA
 obtain⟨x0,x1,x2,x3,x4,x5,x6,x7⟩:=Jhw (a:=.string nm) (b:=vr) (c:=vq) (d:=vv) (e:=vt) (f:=vu) (g:=vo) (i:=iv s.miss) (ty:=27) (x:=false) (y:=false)
 obtain⟨y0,y1,y2,y3,y4,y5,y6,y7⟩:=Jhw (a:=.string (outN (Jk8 s.rows)).1) (b:=vr') (c:=vq') (d:=vv') (e:=vt') (f:=vu') (g:=vo') (i:=iv (outN (Jk8 s.rows)).2.miss) (ty:=27) (x:=false) (y:=false)
 rw[← HA] at x0 x1 x2 x3 x4 x5 x6 x7
 rw[← rO.1] at y0 y1 y2 y3 y4 y5 y6 y7
 have lF:ld1 0 (h3.get (h2.next+1))=some (iv (resN (Jk8 s.rows)).1.1):=by rw[rO.2];rfl
 have NN:h.next≤h3.next:=by omega
 have A1:=p1.1.mono NN HO
 have A2:=p2.mono NN fun i _ hi=>HO i hi
 have A3:=p3.mono NN fun i _ hi=>HO i hi
 have A4:=p4.mono NN fun i _ hi=>HO i hi
 have A5:=J1S.mono p5 NN fun i _ hi=>HO i hi
 have A6:=J1S.mono p6 NN fun i _ hi=>HO i hi
 have B1:=(b1.mono (h':=h3) (by omega) fun i _ hi=>o3 i hi).1
 have B2:=b2.mono (h':=h3) (by omega) fun i _ hi=>o3 i hi
 have B3:=b3.mono (h':=h3) (by omega) fun i _ hi=>o3 i hi
 have B4:=b4.mono (h':=h3) (by omega) fun i _ hi=>o3 i hi
 have B5:=J1S.mono (h':=h3) b5 (by omega) fun i _ hi=>o3 i hi
 have B6:=J1S.mono (h':=h3) b6 (by omega) fun i _ hi=>o3 i hi
 have hR:=Jnu (n:=n) A1 B1 (by omega) (by omega)
 have hQ:=Jnt (n:=n) A2 B2 (by omega) (by omega)
 have hV:=JmZ (n:=n) A3 B3 (by omega) (by omega)
 have hT:=JmZ (n:=n) A4 B4 (by omega) (by omega)
 have hU:=JmT (n:=n) A5 B5 (by omega) (by omega)
 have hO:=JmT (n:=n) A6 B6 (by omega) (by omega)
 have yes:(resN (Jk8 s.rows)).1.1=0→J5b nm (outN (Jk8 s.rows)).1 s (outN (Jk8 s.rows)).2→JkA nm s=0:=fun h8 h9=>if_pos ⟨h8,h9⟩
 have no1:(resN (Jk8 s.rows)).1.1≠0→JkA nm s=23:=fun h8=>if_neg fun h9=>h8 h9.1
 have no2:¬ J5b nm (outN (Jk8 s.rows)).1 s (outN (Jk8 s.rows)).2→JkA nm s=23:=fun h8=>if_neg fun h9=>h8 h9.2
 simp only[evC,seval,↓evP,t1,t3,t11,t12,c1,hres,J5F,J3Y,zc30,J3C,J1t,zc33,J1D,s1,s2]
 cases d0:((resN (Jk8 s.rows)).1.1 != 0) with
 | true=>
  rw[no1 (by simpa using d0)]
  simp only[evC,seval,↓evP,hr,t1,List.append_eq,List.toList_toArray,Nat.zero_add,J6a,J7G,lF,J5g,J0y,J0B,J1A,J1B,J36,J1T,J38,J0d,J0m,J0F,J0S,J0Y,J0n,x0,x1,x2,x3,x4,x5,x6,x7,y0,y1,y2,y3,y4,y5,y6,y7,J26,d0]
  exact HO
 | false=>
 cases d1:(!(nm==(outN (Jk8 s.rows)).1)) with
 | true=>
  rw[no2 fun h9=>by rw[h9.1,J34] at d1;cases d1]
  simp only[evC,seval,↓evP,hr,t1,List.append_eq,List.toList_toArray,Nat.zero_add,J6a,J7G,lF,J5g,J0y,J0B,J1A,J1B,J36,J1T,J38,J0d,J0m,J0F,J0S,J0Y,J0n,x0,x1,x2,x3,x4,x5,x6,x7,y0,y1,y2,y3,y4,y5,y6,y7,J26,d0,d1]
  exact HO
 | false=>
 cases d2:(s.miss != (outN (Jk8 s.rows)).2.miss) with
 | true=>
  rw[no2 fun h9=>by rw[h9.2.1] at d2;simp at d2]
  simp only[evC,seval,↓evP,hr,t1,List.append_eq,List.toList_toArray,Nat.zero_add,J6a,J7G,lF,J5g,J0y,J0B,J1A,J1B,J36,J1T,J38,J0d,J0m,J0F,J0S,J0Y,J0n,x0,x1,x2,x3,x4,x5,x6,x7,y0,y1,y2,y3,y4,y5,y6,y7,J26,d0,d1,d2]
  exact HO
 | false=>
 cases d3:decide (s.rows=(outN (Jk8 s.rows)).2.rows) with
 | false=>
  rw[d3] at hR
  rw[no2 fun h9=>(of_decide_eq_false d3) h9.2.2.1]
  simp only[evC,seval,↓evP,hr,t1,List.append_eq,List.toList_toArray,Nat.zero_add,J6a,J7G,lF,J5g,J0y,J0B,J1A,J1B,J36,J1T,J38,J0d,J0m,J0F,J0S,J0Y,J0n,x0,x1,x2,x3,x4,x5,x6,x7,y0,y1,y2,y3,y4,y5,y6,y7,J26,d0,d1,d2,hR]
  exact HO
 | true=>
 rw[d3] at hR
 cases d4:decide (s.queues=(outN (Jk8 s.rows)).2.queues) with
 | false=>
  rw[d4] at hQ
  rw[no2 fun h9=>(of_decide_eq_false d4) h9.2.2.2.1]
  simp only[evC,seval,↓evP,hr,t1,List.append_eq,List.toList_toArray,Nat.zero_add,J6a,J7G,lF,J5g,J0y,J0B,J1A,J1B,J36,J1T,J38,J0d,J0m,J0F,J0S,J0Y,J0n,x0,x1,x2,x3,x4,x5,x6,x7,y0,y1,y2,y3,y4,y5,y6,y7,J26,d0,d1,d2,hR,hQ]
  exact HO
 | true=>
 rw[d4] at hQ
 cases d5:decide (s.vars=(outN (Jk8 s.rows)).2.vars) with
 | false=>
  rw[d5] at hV
  rw[no2 fun h9=>(of_decide_eq_false d5) h9.2.2.2.2.1]
  simp only[evC,seval,↓evP,hr,t1,List.append_eq,List.toList_toArray,Nat.zero_add,J6a,J7G,lF,J5g,J0y,J0B,J1A,J1B,J36,J1T,J38,J0d,J0m,J0F,J0S,J0Y,J0n,x0,x1,x2,x3,x4,x5,x6,x7,y0,y1,y2,y3,y4,y5,y6,y7,J26,d0,d1,d2,hR,hQ,hV]
  exact HO
 | true=>
 rw[d5] at hV
 cases d6:decide (s.tags=(outN (Jk8 s.rows)).2.tags) with
 | false=>
  rw[d6] at hT
  rw[no2 fun h9=>(of_decide_eq_false d6) h9.2.2.2.2.2.1]
  simp only[evC,seval,↓evP,hr,t1,List.append_eq,List.toList_toArray,Nat.zero_add,J6a,J7G,lF,J5g,J0y,J0B,J1A,J1B,J36,J1T,J38,J0d,J0m,J0F,J0S,J0Y,J0n,x0,x1,x2,x3,x4,x5,x6,x7,y0,y1,y2,y3,y4,y5,y6,y7,J26,d0,d1,d2,hR,hQ,hV,hT]
  exact HO
 | true=>
 rw[d6] at hT
 cases d7:decide (s.rules=(outN (Jk8 s.rows)).2.rules) with
 | false=>
  rw[d7] at hU
  rw[no2 fun h9=>(of_decide_eq_false d7) h9.2.2.2.2.2.2.1]
  simp only[evC,seval,↓evP,hr,t1,List.append_eq,List.toList_toArray,Nat.zero_add,J6a,J7G,lF,J5g,J0y,J0B,J1A,J1B,J36,J1T,J38,J0d,J0m,J0F,J0S,J0Y,J0n,x0,x1,x2,x3,x4,x5,x6,x7,y0,y1,y2,y3,y4,y5,y6,y7,J26,d0,d1,d2,hR,hQ,hV,hT,hU]
  exact HO
 | true=>
 rw[d7] at hU
 cases d8:decide (s.on=(outN (Jk8 s.rows)).2.on) with
 | false=>
  rw[d8] at hO
  rw[no2 fun h9=>(of_decide_eq_false d8) h9.2.2.2.2.2.2.2]
  simp only[evC,seval,↓evP,hr,t1,List.append_eq,List.toList_toArray,Nat.zero_add,J6a,J7G,lF,J5g,J0y,J0B,J1A,J1B,J36,J1T,J38,J0d,J0m,J0F,J0S,J0Y,J0n,x0,x1,x2,x3,x4,x5,x6,x7,y0,y1,y2,y3,y4,y5,y6,y7,J26,d0,d1,d2,hR,hQ,hV,hT,hU,hO]
  exact HO
 | true=>
 rw[d8] at hO
 rw[yes (by simpa using d0) ⟨J3o (by simpa using d1),by simpa using d2,of_decide_eq_true d3,of_decide_eq_true d4,of_decide_eq_true d5,of_decide_eq_true d6,of_decide_eq_true d7,of_decide_eq_true d8⟩]
 simp only[evC,seval,↓evP,hr,t1,List.append_eq,List.toList_toArray,Nat.zero_add,J6a,J7G,lF,J5g,J0y,J0B,J1A,J1B,J36,J1T,J38,J0d,J0m,J0F,J0S,J0Y,J0n,x0,x1,x2,x3,x4,x5,x6,x7,y0,y1,y2,y3,y4,y5,y6,y7,J26,d0,d1,d2,hR,hQ,hV,hT,hU,hO]
 exact HO
theorem JnE {nm:ByteArray} {s:StN} {pv:Value} {lo:Nat} {h:SHeap} (hp:J3x lo h pv nm s) (hlies:∀ nm' vr vq vv vt vu vo m,pv=.agg #[.string nm',vr,vq,vv,vt,vu,vo,m]→Lies vr s.rows.length) (hs:JdC s) (hl:s.rows.length<900000000) (hfl:h.floor≤h.next) (hg:h.get 0=J14) (hn0:0<h.next) (hn:2*Jbg s+300<n) :
  J0T n 21 [pv] h=some (iv (JkA nm s),h):=by
 obtain⟨n,rfl⟩:∃ j,n=j+1:=⟨n-1,by omega⟩
 exact J4r (J13 ⟨rfl,rfl,rfl⟩) rfl (JlL hp hlies hs hl hfl hg hn0 (by omega) (by omega))
end
end Go.Proofs.YtipekdhneagdbaaGreatDoor
