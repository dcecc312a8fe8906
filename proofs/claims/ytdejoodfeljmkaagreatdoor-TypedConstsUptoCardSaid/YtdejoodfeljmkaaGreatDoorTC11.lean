/- Part 11 of what the claim leans on: 9 texts laid one behind another. -/
import Derived.Test.YtdejoodfeljmkaaGreatDoorTC10
namespace Go.Proofs.YtdejoodfeljmkaaGreatDoor
open Go Go.Sx
set_option maxRecDepth 100000
set_option linter.unusedSimpArgs false
set_option linter.unusedVariables false
set_option maxHeartbeats 64000000
def J4q (a b:Int) (k:Nat):Bool:=if b=0 then false else if 1≤a∧a≤5 then (decide (b<a)||(b==a&&((k:Int)==1||a==3))) else if a=6 then decide (b<6) else false
def J2i (a b:Int) (k:Nat):Int:=if J4q a b k=true then 1 else 0
def levL (g:Nat→Int × Nat) (l:List RowN) (kind:Int):Nat→Nat→Int→Nat→Int × Nat
 | 0,_,most,next=>(most,next)
 | r+1,k,most,next=>match l[next]? with
  | none=>(most,next)
  | some y=>levL g l kind r (k+1) (if (g next).1+J2i (J1f kind) (J1f y.kind) k>most then (g next).1+J2i (J1f kind) (J1f y.kind) k else most) (g next).2
def levN (l:List RowN):Nat→Nat→Int × Nat
 | 0,at_=>(0,at_)
 | m+1,at_=>match l[at_]? with
  | none=>(0,at_)
  | some x=>((levL (levN l m) l x.kind x.kids.toNat 0 0 (at_+1)).1+J1s x.kind,(levL (levN l m) l x.kind x.kids.toNat 0 0 (at_+1)).2)
theorem J4A (k:Int):0≤J1s k∧J1s k≤1:=by unfold J1s;split <;> omega
theorem J6p (a b:Int) (k:Nat):0≤J2i a b k∧J2i a b k≤1:=by unfold J2i;split <;> omega
theorem Jeb {g:Nat→Int × Nat} {l:List RowN} {kind B:Int} (hg:∀ p,0≤(g p).1∧(g p).1≤B):∀ r k most next,0≤most→most≤B+1→0≤(levL g l kind r k most next).1∧(levL g l kind r k most next).1≤B+1:=by
 intro r
 induction r with
 | zero=>intro k most next h0 h1;exact⟨h0,h1⟩
 | succ r ih=>
  intro k most next h0 h1
  unfold levL
  split
  ·exact⟨h0,h1⟩
  ·rename_i y hy
   have:=hg next
   have:=J6p (J1f kind) (J1f y.kind) k
   apply ih <;> split <;> omega
theorem JcK {l:List RowN}:∀ m at_,0≤(levN l m at_).1∧(levN l m at_).1≤2*(m:Int):=by
 intro m
 induction m with
 | zero=>intro at_;exact⟨Int.le_refl 0,by show (0:Int)≤_;omega⟩
 | succ m ih=>
  intro at_
  unfold levN
  split
  ·exact⟨Int.le_refl 0,by show (0:Int)≤_;omega⟩
  ·rename_i x hx
   have:=Jeb (g:=levN l m) (l:=l) (kind:=x.kind) (B:=2*(m:Int)) ih x.kids.toNat 0 0 (at_+1) (Int.le_refl 0) (by omega)
   have:=J4A x.kind
   constructor <;> simp only <;> omega
theorem Jdk {g:Nat→Int × Nat} {l:List RowN} {kind:Int} (hg:∀ p,p<l.length→p≤(g p).2∧(g p).2≤l.length):∀ r k most next,next≤l.length→next≤(levL g l kind r k most next).2∧(levL g l kind r k most next).2≤l.length:=by
 intro r
 induction r with
 | zero=>intro k most next h;exact⟨Nat.le_refl _,h⟩
 | succ r ih=>
  intro k most next h
  unfold levL
  split
  ·exact⟨Nat.le_refl _,h⟩
  ·rename_i y hy
   have hlt:next<l.length:=(List.getElem?_eq_some_iff.1 hy).1
   have h1:=hg next hlt
   have h2:=ih (k+1) (if (g next).1+J2i (J1f kind) (J1f y.kind) k>most then (g next).1+J2i (J1f kind) (J1f y.kind) k else most) (g next).2 h1.2
   omega
theorem JcF {l:List RowN}:∀ m at_,at_<l.length→at_≤(levN l m at_).2∧(levN l m at_).2≤l.length∧(0<m→at_<(levN l m at_).2):=by
 intro m
 induction m with
 | zero=>intro at_ h;exact⟨Nat.le_refl _,by show at_≤_;omega,fun h=>absurd h (by omega)⟩
 | succ m ih=>
  intro at_ h
  unfold levN
  rw[List.getElem?_eq_getElem h]
  have:=Jdk (g:=levN l m) (l:=l) (kind:=l[at_].kind) (fun p hp=>⟨(ih p hp).1,(ih p hp).2.1⟩) l[at_].kids.toNat 0 0 (at_+1) h
  simp only
  omega
section
variable {call:J0r} {n:Nat} {h:SHeap}
theorem Jeh (k:Int) (h:SHeap) (hk:1≤k∧k≤54):L1 124 [iv k] h=some (iv (J1s k),h):=J1M (J0I rfl rfl rfl rfl (J1I Jdm hk))
theorem Jb3 {P K:Int} {k:Nat} {a b:Int} (ha:call 132 [iv P] h=some (iv a,h)) (hb:call 132 [iv K] h=some (iv b,h)):J0L Tryz.prog call n 123 [iv P,iv k,iv K] h=some (.bool (J4q a b k),h):=by
 refine J1m Tryz.func123 rfl (by simp[Tryz.f123]) ?_
 have hr:Tryz.f123.results.toList=[.tmp 6]:=rfl
 unfold J4q
 by_cases b0:b=0
 ·subst b0
  simp only[evC,seval,↓evP,rpC,hr,ha,hb]
 have c0:(b==0)=false:=by simpa using b0
 rw[if_neg b0]
 by_cases a15:1≤a∧a≤5
 ·rw[if_pos a15]
  have d1:decide (a≥1)=true:=decide_eq_true a15.1
  have d2:decide (a≤5)=true:=decide_eq_true a15.2
  cases d3:decide (b<a) with
  | true=>simp only[evC,seval,↓evP,rpC,hr,ha,hb,c0,d1,d2,d3,Bool.true_or]
  | false=>
   cases d4:(b==a) with
   | false=>simp only[evC,seval,↓evP,rpC,hr,ha,hb,c0,d1,d2,d3,d4,Bool.false_or,Bool.false_and]
   | true=>
    cases d5:((k:Int)==1) with
    | true=>simp only[evC,seval,↓evP,rpC,hr,ha,hb,c0,d1,d2,d3,d4,d5,Bool.false_or,Bool.true_or]
    | false=>simp only[evC,seval,↓evP,rpC,hr,ha,hb,c0,d1,d2,d3,d4,d5,Bool.false_or]
 ·rw[if_neg a15]
  cases d1:decide (a≥1) with
  | false=>
   simp only[decide_eq_false_iff_not] at d1
   have d1':decide (a≥1)=false:=decide_eq_false d1
   have c6:(a==6)=false:=by simp;omega
   rw[if_neg (by omega)]
   simp only[evC,seval,↓evP,rpC,hr,ha,hb,c0,d1',c6]
  | true=>
   simp only[decide_eq_true_eq] at d1
   have d1':decide (a≥1)=true:=decide_eq_true d1
   have d2:decide (a≤5)=false:=decide_eq_false (by omega)
   by_cases a6:a=6
   ·subst a6
    simp only[evC,seval,↓evP,rpC,hr,ha,hb,c0,d1',d2]
   ·have c6:(a==6)=false:=by simpa using a6
    rw[if_neg a6]
    simp only[evC,seval,↓evP,rpC,hr,ha,hb,c0,d1',d2,c6]
noncomputable def JhA:Array Oper:=J18 Tryz.f114 6
def fs94:List (Bool × Bool × List Operand):=[fa1,fa1,fa1,fa1,fa1,fa3 [.tmp 30],fa3 [.tmp 30],fa3 [.tmp 30],fa3 [.tmp 30],fa3 [.tmp 30],fa3 [.tmp 30],fa0]
theorem JfY:J1E JhA=fs94:=by kernel_rfl
theorem J9x (hsn:J1G call) {l:List RowN} {v:Value} {m at_:Nat} (hn:l.length+3<n) (hlen:l.length<1099511627776) (hm:m<1099511627776) (hat:at_<l.length) (hmm:l.length<at_+1+m) (hv:J0l h v l) (hval:∀ (i:Nat) x,l[i]?=some x→1≤x.kind∧x.kind≤54)
  (h108:∀ P K (k:Nat) h,1≤P∧P≤54→1≤K∧K≤54→call 123 [iv P,iv k,iv K] h=some (.bool (J4q (J1f P) (J1f K) k),h)) (h109:∀ k h,1≤k∧k≤54→call 124 [iv k] h=some (iv (J1s k),h))
  (h94:∀ p:Nat,at_<p→p<l.length→call 114 [v,iv p] h=some (.tuple #[iv (levN l m p).1,iv ((levN l m p).2:Int)],h)) :
  J0L Tryz.prog call n 114 [v,iv at_] h=some (.tuple #[iv (levN l (m+1) at_).1,iv ((levN l (m+1) at_).2:Int)],h):=by
 refine J1m Tryz.func114 rfl (by simp[Tryz.f114]) ?_
 have hr:Tryz.f114.results.toList=[.tmp 4,.tmp 5]:=rfl
 have hl22:∀ h',lenS Tryz.prog h' 22 v=some (.int .i64 l.length):=fun h'=>hv.len
 obtain⟨x,hx⟩:∃ x,l[at_]?=some x:=⟨_,List.getElem?_eq_getElem hat⟩
 obtain⟨id,q,e0,hid,l0,l1,l2,l3,l4,lr⟩:=hv.row hx
 have hkx:=hval at_ x hx
 have w1:IntKind.i64.wrap ((at_:Int)+1)=((at_+1:Nat):Int):=J0s (by omega) (by omega)
 have hres:levN l (m+1) at_=((levL (levN l m) l x.kind x.kids.toNat 0 0 (at_+1)).1+J1s x.kind,(levL (levN l m) l x.kind x.kids.toNat 0 0 (at_+1)).2):=by rw[levN,hx]
 rw[hres]
 have hop:=fun h=>h109 x.kind h hkx
 have hopl:=J4A x.kind
 have hRle:=Jeb (g:=levN l m) (l:=l) (kind:=x.kind) (B:=2*(m:Int)) (JcK m) x.kids.toNat 0 0 (at_+1) (Int.le_refl 0) (by omega)
 simp only[evC,seval,↓evP,rpC,hr,w1]
 generalize hg0:levL (levN l m) l x.kind x.kids.toNat 0 0 (at_+1)=R at *
 refine WK.loop (fun i s=>s.h=h∧s.T.get 0=v∧s.T.get 1=iv at_∧s.T.get 6=iv i∧∃ (most:Int) (p:Nat),s.T.get 4=iv most∧s.T.get 5=iv p∧at_+1+i≤p∧p≤l.length∧0≤most∧most≤2*(m:Int)+1∧i≤x.kids.toNat∧levL (levN l m) l x.kind (x.kids.toNat-i) i most p=R) (l.length+2) (by omega) ?_ ?_
 ·simp only[evC,↓reduceIte,Nat.reduceEqDiff,reduceCtorEq,↓evP,rpC,Nat.reduceAdd,Nat.reduceLT]
  exact⟨rfl,0,at_+1,rfl,rfl,by omega,by omega,by omega,by omega,by rw[Nat.sub_zero];exact hg0⟩
 ·rintro i ⟨T1,h1⟩ hi ⟨rfl,y0,y1,y6,most,p,y4,y5,hip,hp,hm0,hm1,hik,hR⟩
  simp only at y0 y1 y4 y5 y6
  have done:∀ T':Tr,T'.get 4=iv most→T'.get 5=iv p→R=(most,p)→True:=fun _ _ _ _=>trivial
  by_cases hlt:i<x.kids.toNat
  ·have c1:decide ((i:Int)<x.kids)=true:=by simp only[decide_eq_true_eq];omega
   obtain⟨r,hr1⟩:∃ r,x.kids.toNat-i=r+1:=⟨x.kids.toNat-i-1,by omega⟩
   rw[hr1] at hR
   by_cases hpl:p<l.length
   ·have c2:decide ((p:Int)<(l.length:Int))=true:=by simp only[decide_eq_true_eq];omega
    obtain⟨y,hy⟩:∃ y,l[p]?=some y:=⟨_,List.getElem?_eq_getElem hpl⟩
    obtain⟨id2,q2,f0,hid2,m0,m1,m2,m3,m4,mr⟩:=hv.row hy
    have hky:=hval p y hy
    have hL:=fun hh=>h108 x.kind y.kind i hh hkx hky
    have h94':=h94 p (by omega) hpl
    have hle:=JcK (l:=l) m p
    have hnx:=JcF (l:=l) m p hpl
    have w5:IntKind.i64.wrap ((i:Int)+1)=((i+1:Nat):Int):=J0s (by omega) (by omega)
    have hloI:=J6p (J1f x.kind) (J1f y.kind) i
    have w6:IntKind.i64.wrap ((levN l m p).1+J2i (J1f x.kind) (J1f y.kind) i)=(levN l m p).1+J2i (J1f x.kind) (J1f y.kind) i:=J0s (by omega) (by omega)
    have hstep:levL (levN l m) l x.kind (x.kids.toNat-(i+1)) (i+1) (if (levN l m p).1+J2i (J1f x.kind) (J1f y.kind) i>most then (levN l m p).1+J2i (J1f x.kind) (J1f y.kind) i else most) (levN l m p).2=R:=by
     rw[← hR,show x.kids.toNat-(i+1)=r by omega]
     simp only[levL,hy]
    simp only[evC,seval,↓evP,rpC,y0,y1,y4,y5,y6,e0,l0,l4,c1,hl22,c2]
    refine WK.flags (ops:=JhA) JfY ?_
    refine WKF.begin ?_
    refine wst hsn 0 (some 27) (.move (.tmp 0)) none ?_
    simp only[evC,seval,↓evP,rpC,WKFC,J04,J02,J0w,J0P,J0f,J0a,J0V,J0U,J0J,J1g,y0,y1,y4,y5,y6,e0,l0,f0,m0,hL]
    refine wst hsn 1 (some 28) (.move (.tmp 1)) none ?_
    simp only[evC,seval,↓evP,rpC,WKFC,J04,J02,J0w,J0P,J0f,J0a,J0V,J0U,J0J,J1g,y0,y1,y4,y5,y6,e0,l0,f0,m0,hL]
    refine wst hsn 2 (some 29) (.indexAddr 22 (.tmp 27) (.tmp 28)) none ?_
    simp only[evC,seval,↓evP,rpC,WKFC,J04,J02,J0w,J0P,J0f,J0a,J0V,J0U,J0J,J1g,y0,y1,y4,y5,y6,e0,l0,f0,m0,hL]
    refine wst hsn 3 (some 30) (.fieldAddr 60 (.tmp 29) 0) none ?_
    simp only[evC,seval,↓evP,rpC,WKFC,J04,J02,J0w,J0P,J0f,J0a,J0V,J0U,J0J,J1g,y0,y1,y4,y5,y6,e0,l0,f0,m0,hL]
    refine wst hsn 4 (some 31) (.load 3 (.tmp 30)) none ?_
    simp only[evC,seval,↓evP,rpC,WKFC,J04,J02,J0w,J0P,J0f,J0a,J0V,J0U,J0J,J1g,y0,y1,y4,y5,y6,e0,l0,f0,m0,hL]
    refine wst hsn 5 (some 32) (.move (.tmp 6)) none ?_
    simp only[evC,seval,↓evP,rpC,WKFC,J04,J02,J0w,J0P,J0f,J0a,J0V,J0U,J0J,J1g,y0,y1,y4,y5,y6,e0,l0,f0,m0,hL]
    refine wst hsn 6 (some 33) (.move (.tmp 0)) none ?_
    simp only[evC,seval,↓evP,rpC,WKFC,J04,J02,J0w,J0P,J0f,J0a,J0V,J0U,J0J,J1g,y0,y1,y4,y5,y6,e0,l0,f0,m0,hL]
    refine wst hsn 7 (some 34) (.move (.tmp 5)) none ?_
    simp only[evC,seval,↓evP,rpC,WKFC,J04,J02,J0w,J0P,J0f,J0a,J0V,J0U,J0J,J1g,y0,y1,y4,y5,y6,e0,l0,f0,m0,hL]
    refine wst hsn 8 (some 35) (.indexAddr 22 (.tmp 33) (.tmp 34)) none ?_
    simp only[evC,seval,↓evP,rpC,WKFC,J04,J02,J0w,J0P,J0f,J0a,J0V,J0U,J0J,J1g,y0,y1,y4,y5,y6,e0,l0,f0,m0,hL]
    refine wst hsn 9 (some 36) (.fieldAddr 60 (.tmp 35) 0) none ?_
    simp only[evC,seval,↓evP,rpC,WKFC,J04,J02,J0w,J0P,J0f,J0a,J0V,J0U,J0J,J1g,y0,y1,y4,y5,y6,e0,l0,f0,m0,hL]
    refine wst hsn 10 (some 37) (.load 3 (.tmp 36)) none ?_
    simp only[evC,seval,↓evP,rpC,WKFC,J04,J02,J0w,J0P,J0f,J0a,J0V,J0U,J0J,J1g,y0,y1,y4,y5,y6,e0,l0,f0,m0,hL]
    refine wst hsn 11 (some 38) (.call { callee:=.value (.func 123),args:=#[.tmp 31,.tmp 32,.tmp 37],argTypes:=#[3,3,3] }) none ?_
    simp only[evC,seval,↓evP,rpC,WKFC,J04,J02,J0w,J0P,J0f,J0a,J0V,J0U,J0J,J1g,y0,y1,y4,y5,y6,e0,l0,f0,m0,hL]
    refine WKF.done (i:=12) (by kernel_rfl) ?_
    cases hlo:J4q (J1f x.kind) (J1f y.kind) i with
    | false=>
     have hI:J2i (J1f x.kind) (J1f y.kind) i=0:=by unfold J2i;rw[hlo];rfl
     rw[hI] at w6 hstep
     simp only[evC,seval,↓evP,rpC,y0,y1,y4,y5,y6,h94',w5,w6]
     exact⟨by omega,_,_,rfl,rfl,by omega,by omega,by split <;> omega,by split <;> omega,by omega,hstep⟩
    | true=>
     have hI:J2i (J1f x.kind) (J1f y.kind) i=1:=by unfold J2i;rw[hlo];rfl
     rw[hI] at w6 hstep
     simp only[evC,seval,↓evP,rpC,y0,y1,y4,y5,y6,h94',w5,w6]
     exact⟨by omega,_,_,rfl,rfl,by omega,by omega,by split <;> omega,by split <;> omega,by omega,hstep⟩
   ·have c2:decide ((p:Int)<(l.length:Int))=false:=by simp only[decide_eq_false_iff_not];omega
    have hRe:R=(most,p):=by
     rw[← hR]
     simp only[levL,List.getElem?_eq_none (Nat.le_of_not_lt hpl)]
    subst hRe
    have w7:IntKind.i64.wrap (most+J1s x.kind)=most+J1s x.kind:=J0s (by omega) (by omega)
    simp only[evC,seval,↓evP,rpC,hr,y0,y1,y4,y5,y6,e0,l0,l4,c1,hl22,c2,hop,w7]
  ·have c1:decide ((i:Int)<x.kids)=false:=by simp only[decide_eq_false_iff_not];omega
   have hRe:R=(most,p):=by
    rw[← hR,show x.kids.toNat-i=0 by omega]
    rfl
   subst hRe
   have w7:IntKind.i64.wrap (most+J1s x.kind)=most+J1s x.kind:=J0s (by omega) (by omega)
   simp only[evC,seval,↓evP,rpC,hr,y0,y1,y4,y5,y6,e0,l0,l4,c1,hop,w7]
end
def JcX (l:List RowN) (i:Nat):Prop:=∃ x,l[i]?=some x∧1≤x.kind∧x.kind≤54
theorem J5C {g:Nat→Nat→Nat × Bool} {V:Nat→Prop} (hg:∀ k p,(g k p).2=true→∀ i,p≤i→i<(g k p).1→V i):∀ r k p,(J2r g r k p).2=true→∀ i,p≤i→i<(J2r g r k p).1→V i:=by
 intro r
 induction r with
 | zero=>intro k p _ i h1 h2;exact absurd (show i<p from h2) (by omega)
 | succ r ih=>
  intro k p h i h1 h2
  unfold J2r at h h2
  split at h
  ·rename_i hc
   rw[if_pos hc] at h2
   rcases Nat.lt_or_ge i (g k p).1 with h3 | h3
   ·exact hg k p hc i h1 h3
   ·exact ih _ _ h i h3 h2
  ·cases h
theorem Jcm {l:List RowN}:∀ m at_ what,(rowN J09 l m at_ what).2=true→∀ i,at_≤i→i<(rowN J09 l m at_ what).1→JcX l i:=by
 intro m
 induction m with
 | zero=>intro at_ what h;cases h
 | succ m ih=>
  intro at_ what
  unfold rowN
  cases hx:l[at_]? with
  | none=>intro h;cases h
  | some x=>
   simp only
   split
   ·rename_i hc
    intro h i h1 h2
    rcases Nat.lt_or_ge at_ i with h3 | h3
    ·exact J5C (V:=JcX l) (fun k p hk i h1 h2=>ih p (J0A x.kind k) hk i h1 h2) x.kids.toNat 0 (at_+1) h i h3 h2
    ·have:i=at_:=by omega
     subst this
     exact⟨x,hx,J2H (Bool.and_eq_true_iff.1 hc).1⟩
   ·intro h;cases h
theorem Jce {l:List RowN} {m:Nat}:∀ r ev p,(polN J09 l m r ev p).2=true→∀ i,p≤i→i<(polN J09 l m r ev p).1→JcX l i:=by
 intro r
 induction r with
 | zero=>intro ev p _ i h1 h2;exact absurd (show i<p from h2) (by omega)
 | succ r ih=>
  intro ev p h i h1 h2
  unfold polN at h h2
  split at h
  ·rename_i hc
   rw[if_pos hc] at h2
   rcases Nat.lt_or_ge i (rowN J09 l m p (J3J ev l[p]?)).1 with h3 | h3
   ·exact Jcm m p _ hc i h1 h3
   ·exact ih _ _ h i h3 h2
  ·cases h
theorem J9T {l:List RowN} (h:J2L J09 l=none):∀ (i:Nat) x,l[i]?=some x→1≤x.kind∧x.kind≤54:=by
 unfold J2L at h
 split at h
 ·rename_i hc
  obtain⟨h1,h2⟩:=hc
  intro i x hx
  have hlt:=(List.getElem?_eq_some_iff.1 hx).1
  unfold topN at h1 h2
  cases h0:l[0]? with
  | none=>rw[h0] at h1;cases h1
  | some y=>
   rw[h0] at h1 h2
   simp only at h1 h2
   split at h1
   ·rename_i hc
    rw[if_pos hc] at h2
    rcases Nat.eq_zero_or_pos i with rfl | hp
    ·rw[h0] at hx
     cases hx
     exact J2H (Bool.and_eq_true_iff.1 hc).1
    ·obtain⟨z,hz,hv⟩:=Jce y.kids.toNat false 1 h1 i hp (by omega)
     rw[hx] at hz
     cases hz
     exact hv
   ·cases h1
 ·cases h
theorem J8Q {l:List RowN} (h:J2L J09 l=none):0<l.length:=by
 rcases Nat.eq_zero_or_pos l.length with h0 | h0
 ·have:l=[]:=List.length_eq_zero_iff.1 h0
  subst this
  revert h
  unfold J2L topN
  simp
 ·exact h0
theorem sz33:szOf Tryz.prog 32=some 2:=by kernel_rfl
theorem Jj6:J2X Tryz.prog 32=some true:=by kernel_rfl
theorem J3C:J1w Tryz.prog 32=some (.agg #[.int .i64 0,.int .i64 0]):=by kernel_rfl
theorem J8e:J2Q Tryz.prog (match Tryz.prog.underlying 32 with | some (.struct fs)=>fs.toList | _=>[])=some [(0,1),(1,1)]:=by kernel_rfl
abbrev J2k (e a:Int):Value:=.agg #[.int .i64 e,.int .i64 a]
theorem J1t {e a:Int}:flat (J2k e a)=true:=rfl
theorem J4G {e a:Int}:J1P Tryz.prog 32 [(0,.int .i64 e),(1,.int .i64 a)]=some (J2k e a):=by
 have h:=J8e
 rw[Tryz.underlying32] at h
 simp only at h
 simp only[J1P,J3C,J1t,if_true,Tryz.underlying32,h]
 rfl
theorem J96 {e:Int}:J1P Tryz.prog 32 [(0,.int .i64 e)]=some (J2k e 0):=by
 have h:=J8e
 rw[Tryz.underlying32] at h
 simp only at h
 simp only[J1P,J3C,J1t,if_true,Tryz.underlying32,h]
 rfl
theorem J5n:J1P Tryz.prog 32 []=some (J2k 0 0):=by
 have h:=J8e
 rw[Tryz.underlying32] at h
 simp only at h
 simp only[J1P,J3C,J1t,if_true,Tryz.underlying32,h]
 rfl
noncomputable def st33 (h:SHeap) (id:Nat) (a b:Int):SObj→Option SHeap
 | .row [_,_] ty g false=>if h.floor≤id then some (h.put id (.row [.int .i64 a,.int .i64 b] ty g false)) else none
 | _=>J0K Tryz.prog h 32 (qP id 0) (J2k a b)
theorem J5a {h:SHeap} {id:Nat} {a b:Int}:J0K Tryz.prog h 32 (qP id 0) (J2k a b)=st33 h id a b (h.get id):=by
 cases hg:h.get id with
 | dead=>rfl
 | map _=>rfl
 | row cs ty g ro=>
  match cs,ro with
  | [c,d],false=>
   simp only[st33]
   split
   ·rename_i hf
    simp[J0K,sz33,J1q,hg,hf,Go.Sx.lay,Value.cells,one]
   ·rename_i hf
    simp[J0K,sz33,J1q,hg,hf,Go.Sx.lay,Value.cells,one]
  | [c,d],true=>rfl
  | [],ro=>rfl
  | [c],ro=>rfl
  | c :: d :: e :: l,ro=>rfl
theorem J4k {h:SHeap} {id:Nat} {a b:Int} {x y:Value} {ty:TypeId} {g:Bool}:st33 h id a b (.row [x,y] ty g false)=if h.floor≤id then some (h.put id (.row [.int .i64 a,.int .i64 b] ty g false)) else none:=rfl
theorem J2n {h:SHeap} {id off:Nat}:J2x Tryz.prog h 32 (qP id off)=ldN 2 off (h.get id):=J5S Jj6 sz33
theorem J4j {a b:Value} {ty:TypeId} {g ro:Bool}:ldN 2 0 (.row [a,b] ty g ro)=some (.agg #[a,b]):=rfl
theorem Jdr (k:Int) (h:SHeap) (hk:1≤k∧k≤54):L0 132 [iv k] h=some (iv (J1f k),h):=J0I rfl rfl rfl rfl (J1I JaJ hk)
theorem Jel (P Q:Int) (k:Nat) (h:SHeap) (hP:1≤P∧P≤54) (hQ:1≤Q∧Q≤54):L1 123 [iv P,iv k,iv Q] h=some (.bool (J4q (J1f P) (J1f Q) k),h):=
 J0I (J20 rfl rfl) rfl rfl rfl ⟨_,Jb3 (J55 (Jdr P _ hP)) (J55 (Jdr Q _ hQ))⟩
theorem JgP {l:List RowN} {m:Nat}:(topN J09 l m).1≤l.length:=by
 unfold topN
 split
 ·exact Nat.zero_le _
 ·rename_i x hx
  have:=(List.getElem?_eq_some_iff.1 hx).1
  split
  ·exact Jas _ _ _ this
  ·exact Nat.zero_le _
def J0v (l:List RowN):Int × Int:=match J2L J09 l with
 | some p=>(23,(p:Int))
 | none=>if (levN l (l.length+1) 0).1>64 then (22,0) else (0,0)
section
variable {call:J0r} {n:Nat}
theorem J9R {l:List RowN} {v:Value} {h:SHeap} {m:Nat} (hv:J0l h v l) (hpos:0<l.length) (h94:call 114 [v,iv 0] h=some (.tuple #[iv (levN l m 0).1,iv ((levN l m 0).2:Int)],h)) :
  J0L Tryz.prog call n 71 [v] h=some (iv (levN l m 0).1,h):=by
 refine J1m Tryz.func71 rfl (by simp[Tryz.f71]) ?_
 have hr:Tryz.f71.results.toList=[.tmp 2]:=rfl
 have hl22:∀ h',lenS Tryz.prog h' 22 v=some (.int .i64 l.length):=fun h'=>hv.len
 have c0:((l.length:Int)==0)=false:=by rw[beq_eq_false_iff_ne];omega
 simp only[evC,seval,↓evP,rpC,hr,hl22,c0,h94]
theorem Jb8 {l:List RowN} {v:Value} {h:SHeap} (hv:J0l h v l) (hg:h.get 0=J14) (hn0:0<h.next) (hfl:h.floor≤h.next)
  (h73:∀ h',J0l h' v l→h'.get 0=J14→0<h'.next→h'.floor≤h'.next→call 70 [v,iv 0,iv 8] h'=some (.tuple #[iv ((topN J09 l (l.length+1)).1:Int),.bool (topN J09 l (l.length+1)).2],h'))
  (h74:J2L J09 l=none→∀ h',J0l h' v l→call 71 [v] h'=some (iv (levN l (l.length+1) 0).1,h')) :
  ∃ h1,J0L Tryz.prog call n 48 [v] h=some (J2k (J0v l).1 (J0v l).2,h1)∧∀ i,i<h.next→h1.get i=h.get i:=by
 refine J1N (R:=fun h1=>∀ i,i<h.next→h1.get i=h.get i) Tryz.func48 rfl (by simp[Tryz.f48]) ?_
 have hr:Tryz.f48.results.toList=[.cell 2 32]:=rfl
 have hl22:∀ h',lenS Tryz.prog h' 22 v=some (.int .i64 l.length):=fun h'=>hv.len
 have hold:∀ o:SObj,∀ i,i<h.next→(h.push o).get i=h.get i:=fun o i hi=>J06 hi
 have hvp:=hv.mono (h':=h.push (.row [.int .i64 0,.int .i64 0] 32 false false)) (by show h.next≤h.next+1;omega) (hold _)
 have h73':=h73 _ hvp (by rw[hold _ 0 hn0];exact hg) (by show 0<h.next+1;omega) (by show h.floor≤h.next+1;omega)
 have hflT:(h.floor≤h.next)=True:=by simpa using hfl
 have hltT:(h.next<h.next+1)=True:=by simp
 have hvq:=fun o=>(hvp.mono (h':=(h.push (.row [.int .i64 0,.int .i64 0] 32 false false)).put h.next o) (by show h.next+1≤h.next+1;omega))
 have hle:=JgP (l:=l) (m:=l.length+1)
 unfold J0v
 cases hs:J2L J09 l with
 | some p=>
  unfold J2L at hs
  split at hs
  ·cases hs
  ·rename_i hc
   generalize topN J09 l (l.length+1)=q at *
   cases hs
   cases q2:q.2 with
   | false=>
    rw[q2] at h73'
    simp only[evC,seval,↓evP,rpC,hr,J51,J3C,J1t,h73',J4G,J5a,J4k,J2n,J4j,hflT,hltT]
    intro i hi
    rw[if_neg (by omega),if_neg (by omega)]
   | true=>
    rw[q2] at h73' hc
    have c1:decide ((q.1:Int)<(l.length:Int))=true:=by
     simp only[decide_eq_true_eq]
     have:q.1≠l.length:=fun h=>hc ⟨rfl,h⟩
     omega
    simp only[evC,seval,↓evP,rpC,hr,hl22,c1,J51,J3C,J1t,h73',J4G,J5a,J4k,J2n,J4j,hflT,hltT]
    intro i hi
    rw[if_neg (by omega),if_neg (by omega)]
 | none=>
  have h74':=h74 hs _ hvp
  unfold J2L at hs
  split at hs
  ·rename_i hc
   generalize topN J09 l (l.length+1)=q at *
   obtain⟨q2,q1⟩:=hc
   rw[q2] at h73'
   have c1:decide ((q.1:Int)<(l.length:Int))=false:=by simp only[decide_eq_false_iff_not];omega
   cases c2:decide ((levN l (l.length+1) 0).1>64) with
   | true=>
    rw[if_pos (by simpa using c2)]
    simp only[evC,seval,↓evP,rpC,hr,hl22,c1,c2,J51,J3C,J1t,h73',h74',J96,J5a,J4k,J2n,J4j,hflT,hltT]
    intro i hi
    rw[if_neg (by omega),if_neg (by omega)]
   | false=>
    rw[if_neg (by simpa using c2)]
    simp only[evC,seval,↓evP,rpC,hr,hl22,c1,c2,J51,J3C,J1t,h73',h74',J5n,J5a,J4k,J2n,J4j,hflT,hltT]
    intro i hi
    rw[if_neg (by omega),if_neg (by omega)]
  ·cases hs
end
def SubT (l:List RowN) (at_ q:Nat):Prop:=(∃ m what,rowN J09 l m at_ what=(q,true))∨(at_=0∧∃ m,topN J09 l m=(q,true))
def J35 (l:List RowN):Nat→Nat→Nat→Prop
 | 0,p,q=>p=q
 | r+1,p,q=>∃ p',SubT l p p'∧p<p'∧p'≤l.length∧J35 l r p' q
theorem JbR {l:List RowN} {m:Nat} {κ:Int}:∀ r k p q,J2r (fun k next=>rowN J09 l m next (J0A κ k)) r k p=(q,true)→J35 l r p q:=by
 intro r
 induction r with
 | zero=>intro k p q h;exact congrArg (·.1) h
 | succ r ih=>
  intro k p q h
  unfold J2r at h
  split at h
  ·rename_i hc
   have hle:=J5D (isName:=J09) (l:=l) m p (J0A κ k) hc
   refine⟨(rowN J09 l m p (J0A κ k)).1,.inl ⟨m,J0A κ k,Prod.ext rfl hc⟩,hle.1,hle.2,ih _ _ _ h⟩
  ·cases h
theorem JcP {l:List RowN} {m:Nat}:∀ r ev p q,polN J09 l m r ev p=(q,true)→J35 l r p q:=by
 intro r
 induction r with
 | zero=>intro ev p q h;exact congrArg (·.1) h
 | succ r ih=>
  intro ev p q h
  unfold polN at h
  split at h
  ·rename_i hc
   have hle:=J5D (isName:=J09) (l:=l) m p (J3J ev l[p]?) hc
   exact⟨(rowN J09 l m p (J3J ev l[p]?)).1,.inl ⟨m,_,Prod.ext rfl hc⟩,hle.1,hle.2,ih _ _ _ h⟩
  ·cases h
theorem J2o {l:List RowN}:∀ r p q,J35 l r p q→p+r≤q:=by
 intro r
 induction r with
 | zero=>intro p q h;have:p=q:=h;omega
 | succ r ih=>intro p q ⟨p',_,h1,_,h2⟩;have:=ih _ _ h2;omega
theorem Jcj {l:List RowN}:∀ r p q,p≤l.length→J35 l r p q→q≤l.length:=by
 intro r
 induction r with
 | zero=>intro p q hp h;have:p=q:=h;omega
 | succ r ih=>intro p q hp ⟨p',_,h1,h3,h2⟩;exact ih _ _ h3 h2
theorem SubT.kids {l:List RowN} {at_ q:Nat} (h:SubT l at_ q):∃ x,l[at_]?=some x∧0≤x.kids∧(1≤x.kind∧x.kind≤54)∧J35 l x.kids.toNat (at_+1) q:=by
 have kids0:∀ x,fitN J09 x=true→0≤x.kids:=fun x hf=>by
  unfold fitN at hf
  simp only[Bool.and_eq_true,decide_eq_true_eq] at hf
  have:=J4a x.kind
  omega
 rcases h with⟨m,what,h⟩ | ⟨rfl,m,h⟩
 ·cases m with
  | zero=>cases h
  | succ m=>
   cases hx:l[at_]? with
   | none=>rw[J6M hx] at h;cases h
   | some x=>
    rw[J5l hx] at h
    split at h
    ·rename_i hc
     simp only[Bool.and_eq_true] at hc
     exact⟨x,rfl,kids0 x hc.2,J2H hc.1,JbR _ _ _ _ h⟩
    ·cases h
 ·cases hx:l[0]? with
  | none=>rw[J6T hx] at h;cases h
  | some x=>
   rw[J5q hx] at h
   split at h
   ·rename_i hc
    simp only[Bool.and_eq_true] at hc
    exact⟨x,rfl,kids0 x hc.2,J2H hc.1,JcP _ _ _ _ h⟩
   ·cases h
theorem SubT.lt {l:List RowN} {at_ q:Nat} (h:SubT l at_ q):at_<q∧q≤l.length:=by
 obtain⟨x,hx,_,_,hc⟩:=h.kids
 have hlt:=(List.getElem?_eq_some_iff.1 hx).1
 have:=J2o _ _ _ hc
 exact⟨by omega,Jcj _ _ _ hlt hc⟩
theorem SubT.unique {l:List RowN}:∀ (n at_:Nat) {q q':Nat},l.length≤at_+n→SubT l at_ q→SubT l at_ q'→q=q':=by
 intro n
 induction n with
 | zero=>intro at_ q q' hn h h';have:=h.lt;omega
 | succ n ih=>
  intro at_ q q' hn h h'
  obtain⟨x,hx,_,_,hc⟩:=h.kids
  obtain⟨y,hy,_,_,hc'⟩:=h'.kids
  rw[hx] at hy
  cases hy
  have key:∀ r p a b,at_<p→J35 l r p a→J35 l r p b→a=b:=by
   intro r
   induction r with
   | zero=>intro p a b _ h1 h2;exact(show p=a from h1).symm.trans (show p=b from h2)
   | succ r ihr=>
    intro p a b hp ⟨p1,s1,_,_,c1⟩ ⟨p2,s2,_,_,c2⟩
    have:p1=p2:=ih p (by omega) s1 s2
    subst this
    have:=s1.lt
    exact ihr p1 a b (by omega) c1 c2
  exact key _ _ _ _ (by omega) hc hc'
theorem SubT.cover {l:List RowN}:∀ (n:Nat) {at_ q:Nat},q≤at_+n→SubT l at_ q→∀ i,at_≤i→i<q→∃ qi,SubT l i qi∧qi≤q:=by
 intro n
 induction n with
 | zero=>intro at_ q hn h;have:=h.lt;omega
 | succ n ih=>
  intro at_ q hn h i h1 h2
  rcases Nat.eq_or_lt_of_le h1 with rfl | h3
  ·exact⟨q,h,Nat.le_refl q⟩
  ·obtain⟨x,hx,_,_,hc⟩:=h.kids
   have key:∀ r p,at_<p→p≤i→J35 l r p q→∃ qi,SubT l i qi∧qi≤q:=by
    intro r
    induction r with
    | zero=>intro p _ hp hc;have:p=q:=hc;omega
    | succ r ihr=>
     intro p hp0 hp ⟨p',s,hlt,_,c⟩
     have hpq:=J2o _ _ _ c
     rcases Nat.lt_or_ge i p' with h4 | h4
     ·obtain⟨qi,s1,s2⟩:=ih (by omega) s i hp h4
      exact⟨qi,s1,by omega⟩
     ·exact ihr p' (by omega) h4 c
   exact key _ _ (by omega) h3 hc
def J2c (l:List RowN):Prop:=SubT l 0 l.length
theorem J8d {l:List RowN} (h:J2L J09 l=none):J2c l:=by
 unfold J2L at h
 split at h
 ·rename_i hc
  exact .inr ⟨rfl,l.length+1,Prod.ext hc.2 hc.1⟩
 ·cases h
theorem J2c.pos {l:List RowN} (h:J2c l):0<l.length:=h.lt.1
theorem J2c.sub {l:List RowN} (h:J2c l) {i:Nat} (hi:i<l.length):∃ q,SubT l i q:=by
 obtain⟨q,hq,_⟩:=SubT.cover l.length (by omega) h i (Nat.zero_le i) hi
 exact⟨q,hq⟩
open Classical in
noncomputable def endN (l:List RowN) (i:Nat):Nat:=if h:∃ q,SubT l i q then h.choose else 0
theorem J5P {l:List RowN} {i q:Nat} (h:SubT l i q):endN l i=q:=by
 unfold endN
 have hx:∃ q,SubT l i q:=⟨q,h⟩
 rw[dif_pos hx]
 exact SubT.unique l.length i (by omega) hx.choose_spec h
theorem J2c.end {l:List RowN} (h:J2c l) {i:Nat} (hi:i<l.length):SubT l i (endN l i):=by
 obtain⟨q,hq⟩:=h.sub hi
 rw[J5P hq]
 exact hq
noncomputable def J0o (l:List RowN):List Int:=(List.range l.length).map fun i=>(endN l i:Int)
theorem J2B {l:List RowN} {i:Nat} (hi:i<l.length):(J0o l)[i]?=some (endN l i:Int):=by simp[J0o,hi]
theorem J39 {l:List RowN}:(J0o l).length=l.length:=by simp[J0o]
def ints (l:List Int):List Value:=l.map (.int .i64 ·)
theorem J6g (l:List Int) (i:Nat):(ints l)[i]?=(l[i]?).map (.int .i64 ·):=by simp[ints]
theorem J1h (l:List Int):(ints l).length=l.length:=by simp[ints]
theorem J5u (l:List Int):(ints l).all one=true:=by simp[ints,one]
theorem J66 (l:List Int) (i:Nat) (x:Int):(ints l).set i (.int .i64 x)=ints (l.set i x):=by simp[ints,List.map_set]
theorem by3:byOf Tryz.prog 3=some 8:=by kernel_rfl
theorem J8P:J1w Tryz.prog 3=some (.int .i64 0):=by kernel_rfl
theorem J8K:∀ n,J3e [Value.int .i64 0] n=ints (List.replicate n 0)
 | 0=>rfl
 | n+1=>by rw[J3e,J8K n];simp[ints,List.replicate_succ]
theorem J8p {h:SHeap} {n:Nat} (hn:n<1099511627776):J2l Tryz.prog h 25 (.int .i64 (n:Int)) (.int .i64 (n:Int))=some (qS h.next n n,h.push (.row (ints (List.replicate n 0)) 3 false false)):=by
 have hz:(Value.int .i64 0).cells=#[.int .i64 0]:=rfl
 simp only[J2l,Tryz.underlying25,sz3,J8P,by3,hz,Jad]
 rw[if_pos (by simp;omega)]
 simp[J8K]
theorem J1F {id n c i:Nat} (hi:i<n):J0R Tryz.prog 25 (qS id n c) (.int .i64 (i:Int))=some (qP id i):=by
 simp only[J0R,Tryz.underlying25,sz3,J0q]
 rw[if_pos (by omega)]
 simp
theorem J2z {l:List Int} {i:Nat} {x:Int} {ty:TypeId} {g ro:Bool} (hx:l[i]?=some x):ld1 i (.row (ints l) ty g ro)=some (.int .i64 x):=by
 simp[ld1,J6g,hx]
theorem J9J {cs:List Value} {off:Nat} {v:Value} (h:off<cs.length):Go.Sx.lay cs off [v]=cs.set off v:=by
 apply List.ext_getElem?
 intro k
 rw[J5E (by simp;omega),List.getElem?_set]
 by_cases hk:off=k
 ·subst hk
  simp[h]
 ·rw[if_neg (by simp;omega),if_neg hk]
theorem J59 {h:SHeap} {id i:Nat} {l:List Int} {x:Int} {ty:TypeId} {g:Bool} (hg:h.get id=.row (ints l) ty g false) (hi:i<l.length) (hf:h.floor≤id):J0K Tryz.prog h 3 (qP id i) (.int .i64 x)=some (h.put id (.row (ints (l.set i x)) ty g false)):=by
 have hc:(Value.int .i64 x).cells=#[.int .i64 x]:=rfl
 simp only[J0K,hc,sz3,J1q,hg]
 have hsz:(some 1:Option Nat)=some (#[Value.int .i64 x]:Array Value).size:=rfl
 rw[if_pos hsz,if_pos (by simp[one,J1h];omega),J9J (by rw[J1h];exact hi),J66]
def Jkk (L l:List RowN):Prop:=L.length=l.length∧∀ (i:Nat) x,l[i]?=some x→∃ y,L[i]?=some y∧y.kids=x.kids
theorem Jks (l:List RowN):Jkk l l:=⟨rfl,fun i x h=>⟨x,h,rfl⟩⟩
section
variable {call:J0r} {n:Nat}
theorem Jko {l L:List RowN} {v:Value} {h:SHeap} (ht:J2c l) (hsk:Jkk L l) (hv:J0l h v L) (hlen:l.length<1099511627776) (hn:l.length+3<n) (hfl:h.floor≤h.next) :
  ∃ h',J0L Tryz.prog call n 50 [v] h=some (qS h.next l.length l.length,h')∧(h'.get h.next=.row (ints (J0o l)) 3 false false∧h'.next=h.next+1∧h'.floor=h.floor∧∀ i,i<h.next→h'.get i=h.get i):=by
 refine J1N (R:=fun h'=>h'.get h.next=.row (ints (J0o l)) 3 false false∧h'.next=h.next+1∧h'.floor=h.floor∧∀ i,i<h.next→h'.get i=h.get i) Tryz.func50 rfl (by simp[Tryz.f50]) ?_
 have hr:Tryz.f50.results.toList=[.tmp 2]:=rfl
 have hl22:∀ h',lenS Tryz.prog h' 22 v=some (.int .i64 l.length):=fun h'=>by rw[← hsk.1];exact hv.len
 have hpos:=ht.pos
 have w0:IntKind.i64.wrap ((l.length:Int)-1)=(l.length:Int)-1:=J0s (by omega) (by omega)
 simp only[evC,seval,↓evP,rpC,hr,hl22,J8p hlen,w0]
 refine WK.loop (fun j s=>s.T.get 0=v∧s.T.get 3=qS h.next l.length l.length∧s.T.get 4=iv ((l.length:Int)-1-(j:Int))∧s.h.next=h.next+1∧s.h.floor=h.floor∧(∀ i,i<h.next→s.h.get i=h.get i) ∧
  ∃ E:List Int,E.length=l.length∧s.h.get h.next=.row (ints E) 3 false false∧∀ i,l.length-j≤i→i<l.length→E[i]?=some (endN l i:Int)) l.length (by omega) ?_ ?_
 ·simp only[evC,seval,↓evP,rpC]
  refine⟨by omega,fun i hi=>by rw[if_neg (by omega)],List.replicate l.length 0,by simp,rfl,fun i h1 h2=>by omega⟩
 ·rintro j ⟨T1,h1⟩ hj ⟨t0,t3,t4,hnx,hf1,hold,E,hE,hgE,hEv⟩
  simp only at t0 t3 t4 hnx hf1 hold hgE
  by_cases hlt:j<l.length
  ·obtain⟨at_,hat⟩:∃ a:Nat,(l.length:Int)-1-(j:Int)=(a:Int):=⟨l.length-1-j,by omega⟩
   have hatl:at_<l.length:=by omega
   rw[hat] at t4
   have c1:decide ((at_:Int)≥0)=true:=by simp
   have w1:IntKind.i64.wrap ((at_:Int)+1)=((at_+1:Nat):Int):=J0s (by omega) (by omega)
   have w2:IntKind.i64.wrap ((at_:Int)-1)=(l.length:Int)-1-((j+1:Nat):Int):=by rw[J0s (by omega) (by omega)];omega
   have hsub:=ht.end hatl
   obtain⟨x,hx,hk0,hkk,hchain⟩:=hsub.kids
   have hv1:J0l h1 v L:=hv.mono (by omega) hold
   obtain⟨y,hy,hyk⟩:=hsk.2 at_ x hx
   obtain⟨id,q,e0,hid,l0,l1,l2,l3,l4,lr⟩:=hv1.row hy
   rw[hyk] at l4
   have hcl:=J2o _ _ _ hchain
   have hel:=hsub.lt
   simp only[evC,seval,↓evP,rpC,t0,t3,t4,c1,w1,e0,l4]
   refine WK.loop (fun k s=>s.h=h1∧s.T.get 0=v∧s.T.get 3=qS h.next l.length l.length∧s.T.get 4=iv at_∧s.T.get 23=iv k∧s.T.get 22=.int .i64 x.kids∧∃ p:Nat,s.T.get 5=iv p∧at_<p∧k≤x.kids.toNat∧J35 l (x.kids.toNat-k) p (endN l at_)) x.kids.toNat (by omega) ?_ ?_
   ·simp only[evC,↓reduceIte,Nat.reduceEqDiff,reduceCtorEq,↓evP,rpC,Nat.reduceAdd,Nat.reduceLT,t0,t3,t4]
    refine⟨rfl,at_+1,rfl,by omega,by rw[Nat.sub_zero];exact hchain⟩
   ·rintro k ⟨T2,h2⟩ hk ⟨rfl,u0,u3,u4,u23,u22,p,u5,hp,hkk2,hch⟩
    simp only at u0 u3 u4 u23 u22 u5
    by_cases hlt2:k<x.kids.toNat
    ·have c2:decide ((k:Int)<x.kids)=true:=by simp only[decide_eq_true_eq];omega
     obtain⟨r,hr1⟩:∃ r,x.kids.toNat-k=r+1:=⟨x.kids.toNat-k-1,by omega⟩
     rw[hr1] at hch
     obtain⟨p',s1,s2,s3,s4⟩:=hch
     have hEp:=hEv p (by omega) (by omega)
     rw[J5P s1] at hEp
     have w5:IntKind.i64.wrap ((k:Int)+1)=((k+1:Nat):Int):=J0s (by omega) (by omega)
     simp only[evC,seval,↓evP,rpC,u0,u3,u4,u23,u22,u5,c2,J1F (show p<l.length by omega),hgE,J2z hEp,w5]
     exact⟨hlt2,p',rfl,by omega,by omega,by rw[show x.kids.toNat-(k+1)=r by omega];exact s4⟩
    ·have c2:decide ((k:Int)<x.kids)=false:=by simp only[decide_eq_false_iff_not];omega
     rw[show x.kids.toNat-k=0 by omega] at hch
     have hpe:p=endN l at_:=hch
     have hst:=J59 (x:=(p:Int)) hgE (show at_<E.length by omega) (by rw[hf1];exact hfl)
     have hnx':h2.next=h.next+1:=hnx
     have hltT:(h.next<h2.next)=True:=by rw[hnx'];simp
     simp only[evC,seval,↓evP,rpC,u0,u3,u4,u23,u22,u5,c2,J1F hatl,hst,w2,hltT]
     refine⟨hlt,hnx,hf1,fun i hi=>by rw[if_neg (by omega)];exact hold i hi,E.set at_ (p:Int),by rw[List.length_set];exact hE,rfl,fun i h1 h2=>?_⟩
     rw[List.getElem?_set]
     by_cases hia:at_=i
     ·subst hia
      rw[if_pos rfl,if_pos (by omega),hpe]
     ·rw[if_neg hia]
      exact hEv i (by omega) h2
  ·have c1:decide ((l.length:Int)-1-(j:Int)≥0)=false:=by simp only[decide_eq_false_iff_not];omega
   have hEe:E=J0o l:=by
    apply List.ext_getElem?
    intro i
    by_cases hi:i<l.length
    ·rw[hEv i (by omega) hi,J2B hi]
    ·rw[List.getElem?_eq_none (by omega),List.getElem?_eq_none (by rw[J39];omega)]
   subst hEe
   simp only[evC,seval,↓evP,rpC,hr,t0,t3,t4,c1]
   exact⟨hgE,hnx,hf1,hold⟩
theorem JkU {l L:List RowN} {v:Value} {h:SHeap} (ht:J2c l) (hsk:Jkk L l) (hv:J0l h v L) (hlen:l.length<1099511627776) (hn:l.length+3<n) (hfl:h.floor≤h.next) :
  ∃ h',J0L Tryz.prog call n 79 [v] h=some (qS h.next l.length l.length,h')∧(h'.get h.next=.row (ints (J0o l)) 3 false false∧h'.next=h.next+1∧h'.floor=h.floor∧∀ i,i<h.next→h'.get i=h.get i):=by
 refine J1N (R:=fun h'=>h'.get h.next=.row (ints (J0o l)) 3 false false∧h'.next=h.next+1∧h'.floor=h.floor∧∀ i,i<h.next→h'.get i=h.get i) Tryz.func79 rfl (by simp[Tryz.f79]) ?_
 have hr:Tryz.f79.results.toList=[.tmp 2]:=rfl
 have hl22:∀ h',lenS Tryz.prog h' 22 v=some (.int .i64 l.length):=fun h'=>by rw[← hsk.1];exact hv.len
 have hpos:=ht.pos
 have w0:IntKind.i64.wrap ((l.length:Int)-1)=(l.length:Int)-1:=J0s (by omega) (by omega)
 simp only[evC,seval,↓evP,rpC,hr,hl22,J8p hlen,w0]
 refine WK.loop (fun j s=>s.T.get 0=v∧s.T.get 3=qS h.next l.length l.length∧s.T.get 4=iv ((l.length:Int)-1-(j:Int))∧s.h.next=h.next+1∧s.h.floor=h.floor∧(∀ i,i<h.next→s.h.get i=h.get i) ∧
  ∃ E:List Int,E.length=l.length∧s.h.get h.next=.row (ints E) 3 false false∧∀ i,l.length-j≤i→i<l.length→E[i]?=some (endN l i:Int)) l.length (by omega) ?_ ?_
 ·simp only[evC,seval,↓evP,rpC]
  refine⟨by omega,fun i hi=>by rw[if_neg (by omega)],List.replicate l.length 0,by simp,rfl,fun i h1 h2=>by omega⟩
 ·rintro j ⟨T1,h1⟩ hj ⟨t0,t3,t4,hnx,hf1,hold,E,hE,hgE,hEv⟩
  simp only at t0 t3 t4 hnx hf1 hold hgE
  by_cases hlt:j<l.length
  ·obtain⟨at_,hat⟩:∃ a:Nat,(l.length:Int)-1-(j:Int)=(a:Int):=⟨l.length-1-j,by omega⟩
   have hatl:at_<l.length:=by omega
   rw[hat] at t4
   have c1:decide ((at_:Int)≥0)=true:=by simp
   have w1:IntKind.i64.wrap ((at_:Int)+1)=((at_+1:Nat):Int):=J0s (by omega) (by omega)
   have w2:IntKind.i64.wrap ((at_:Int)-1)=(l.length:Int)-1-((j+1:Nat):Int):=by rw[J0s (by omega) (by omega)];omega
   have hsub:=ht.end hatl
   obtain⟨x,hx,hk0,hkk,hchain⟩:=hsub.kids
   have hv1:J0l h1 v L:=hv.mono (by omega) hold
   obtain⟨y,hy,hyk⟩:=hsk.2 at_ x hx
   obtain⟨id,q,e0,hid,l0,l1,l2,l3,l4,lr⟩:=hv1.row hy
   rw[hyk] at l4
   have hcl:=J2o _ _ _ hchain
   have hel:=hsub.lt
   simp only[evC,↓reduceIte,Nat.reduceEqDiff,reduceCtorEq,↓evP,rpC,Nat.reduceAdd,Nat.reduceLT,t0,t3,t4,c1,w1,e0,l4]
   refine WK.loop (fun k s=>s.h=h1∧s.T.get 0=v∧s.T.get 3=qS h.next l.length l.length∧s.T.get 4=iv at_∧s.T.get 6=iv k∧∃ p:Nat,s.T.get 5=iv p∧at_<p∧k≤x.kids.toNat∧J35 l (x.kids.toNat-k) p (endN l at_)) x.kids.toNat (by omega) ?_ ?_
   ·simp only[evC,↓reduceIte,Nat.reduceEqDiff,reduceCtorEq,↓evP,rpC,Nat.reduceAdd,Nat.reduceLT,t0,t3,t4]
    refine⟨rfl,at_+1,rfl,by omega,by rw[Nat.sub_zero];exact hchain⟩
   ·rintro k ⟨T2,h2⟩ hk ⟨rfl,u0,u3,u4,u6,p,u5,hp,hkk2,hch⟩
    simp only at u0 u3 u4 u6 u5
    by_cases hlt2:k<x.kids.toNat
    ·have c2:decide ((k:Int)<x.kids)=true:=by simp only[decide_eq_true_eq];omega
     obtain⟨r,hr1⟩:∃ r,x.kids.toNat-k=r+1:=⟨x.kids.toNat-k-1,by omega⟩
     rw[hr1] at hch
     obtain⟨p',s1,s2,s3,s4⟩:=hch
     have hEp:=hEv p (by omega) (by omega)
     rw[J5P s1] at hEp
     have w5:IntKind.i64.wrap ((k:Int)+1)=((k+1:Nat):Int):=J0s (by omega) (by omega)
     simp only[evC,seval,↓evP,rpC,u0,u3,u4,u6,u5,c2,e0,l4,J1F (show p<l.length by omega),hgE,J2z hEp,w5]
     exact⟨hlt2,p',rfl,by omega,by omega,by rw[show x.kids.toNat-(k+1)=r by omega];exact s4⟩
    ·have c2:decide ((k:Int)<x.kids)=false:=by simp only[decide_eq_false_iff_not];omega
     rw[show x.kids.toNat-k=0 by omega] at hch
     have hpe:p=endN l at_:=hch
     have hst:=J59 (x:=(p:Int)) hgE (show at_<E.length by omega) (by rw[hf1];exact hfl)
     have hnx':h2.next=h.next+1:=hnx
     have hltT:(h.next<h2.next)=True:=by rw[hnx'];simp
     simp only[evC,seval,↓evP,rpC,u0,u3,u4,u6,u5,c2,e0,l4,J1F hatl,hst,w2,hltT]
     refine⟨hlt,hnx,hf1,fun i hi=>by rw[if_neg (by omega)];exact hold i hi,E.set at_ (p:Int),by rw[List.length_set];exact hE,rfl,fun i h1 h2=>?_⟩
     rw[List.getElem?_set]
     by_cases hia:at_=i
     ·subst hia
      rw[if_pos rfl,if_pos (by omega),hpe]
     ·rw[if_neg hia]
      exact hEv i (by omega) h2
  ·have c1:decide ((l.length:Int)-1-(j:Int)≥0)=false:=by simp only[decide_eq_false_iff_not];omega
   have hEe:E=J0o l:=by
    apply List.ext_getElem?
    intro i
    by_cases hi:i<l.length
    ·rw[hEv i (by omega) hi,J2B hi]
    ·rw[List.getElem?_eq_none (by omega),List.getElem?_eq_none (by rw[J39];omega)]
   subst hEe
   simp only[evC,seval,↓evP,rpC,hr,t0,t3,t4,c1]
   exact⟨hgE,hnx,hf1,hold⟩
theorem JbW {l:List RowN} {v:Value} {h:SHeap} (ht:J2c l) (hv:J0l h v l) (hlen:l.length<1099511627776) (hn:l.length+3<n) (hfl:h.floor≤h.next) :
  ∃ h',J0L Tryz.prog call n 50 [v] h=some (qS h.next l.length l.length,h')∧(h'.get h.next=.row (ints (J0o l)) 3 false false∧h'.next=h.next+1∧h'.floor=h.floor∧∀ i,i<h.next→h'.get i=h.get i):=Jko ht (Jks l) hv hlen hn hfl
theorem JbF {l:List RowN} {v:Value} {h:SHeap} (ht:J2c l) (hv:J0l h v l) (hlen:l.length<1099511627776) (hn:l.length+3<n) (hfl:h.floor≤h.next) :
  ∃ h',J0L Tryz.prog call n 79 [v] h=some (qS h.next l.length l.length,h')∧(h'.get h.next=.row (ints (J0o l)) 3 false false∧h'.next=h.next+1∧h'.floor=h.floor∧∀ i,i<h.next→h'.get i=h.get i):=JkU ht (Jks l) hv hlen hn hfl
end
theorem J4b {l:List RowN}:∀ k a b c,J35 l k a b→SubT l b c→J35 l (k+1) a c
 | 0,a,b,c,h,hs=>by
  have:a=b:=h
  subst this
  exact⟨c,hs,hs.lt.1,hs.lt.2,rfl⟩
 | k+1,a,b,c,⟨p,h1,h2,h3,h4⟩,hs=>⟨p,h1,h2,h3,J4b k p b c h4 hs⟩
theorem J3w {l:List RowN}:∀ k r a q,J35 l (k+r) a q→∃ b,J35 l k a b∧J35 l r b q
 | 0,r,a,q,h=>⟨a,rfl,by rwa [Nat.zero_add] at h⟩
 | k+1,r,a,q,h=>by
  rw[show k+1+r=(k+r)+1 by omega] at h
  obtain⟨p,h1,h2,h3,h4⟩:=h
  obtain⟨b,h5,h6⟩:=J3w k r p q h4
  exact⟨b,⟨p,h1,h2,h3,h5⟩,h6⟩
theorem J2e {l:List RowN}:∀ k a b c,J35 l k a b→J35 l k a c→b=c
 | 0,a,b,c,h,h'=>(show a=b from h).symm.trans (show a=c from h')
 | k+1,a,b,c,⟨p,h1,_,_,h4⟩,⟨p',g1,_,_,g4⟩=>by
  have:p=p':=SubT.unique l.length a (by omega) h1 g1
  subst this
  exact J2e k p b c h4 g4
theorem J67 {l:List RowN} {a b c:Nat}:∀ k j,k<j→J35 l k a b→J35 l j a c→b<c:=fun k j hkj h h'=>by
 obtain⟨b',h1,h2⟩:=J3w k (j-k) a c (by rw[show k+(j-k)=j by omega];exact h')
 have:=J2e k a b b' h h1
 subst this
 have:=J2o _ _ _ h2
 omega
def J3I (l:List RowN) (p k i:Nat):Prop:=∃ x,l[p]?=some x∧k<x.kids.toNat∧J35 l k (p+1) i
theorem J3I.lt {l:List RowN} {p k i:Nat} (h:J3I l p k i):p<i:=by
 obtain⟨x,_,_,h3⟩:=h
 have:=J2o _ _ _ h3
 omega
theorem J3I.sub {l:List RowN} (ht:J2c l) {p k i:Nat} (h:J3I l p k i):∃ q,SubT l i q∧q≤endN l p∧i<l.length:=by
 obtain⟨x,hx,hk,hc⟩:=h
 have hs:=ht.end (List.getElem?_eq_some_iff.1 hx).1
 obtain⟨y,hy,_,_,hch⟩:=hs.kids
 rw[hx] at hy
 cases hy
 obtain⟨r,hr⟩:∃ r,x.kids.toNat=k+(r+1):=⟨x.kids.toNat-k-1,by omega⟩
 rw[hr] at hch
 obtain⟨b,h1,q,h2,h3,h4,h5⟩:=J3w _ _ _ _ hch
 have:=J2e _ _ _ _ hc h1
 subst this
 have:=J2o _ _ _ h5
 exact⟨q,h2,by omega,by omega⟩
theorem J7C {l:List RowN}:∀ (r a q j:Nat),J35 l r a q→a≤j→j<q→∃ k b c,k<r∧J35 l k a b∧SubT l b c∧b≤j∧j<c
 | 0,a,q,j,h,h1,h2=>by have:a=q:=h;omega
 | r+1,a,q,j,⟨p,s,h3,h4,h5⟩,h1,h2=>by
  rcases Nat.lt_or_ge j p with h6 | h6
  ·exact⟨0,a,p,by omega,rfl,s,h1,h6⟩
  ·obtain⟨k,b,c,k1,k2,k3,k4,k5⟩:=J7C r p q j h5 h6 h2
   exact⟨k+1,b,c,by omega,⟨p,s,h3,h4,k2⟩,k3,k4,k5⟩
theorem J3I.unique {l:List RowN} (ht:J2c l) {p k i p' k':Nat} (h:J3I l p k i) (h':J3I l p' k' i):p=p'∧k=k':=by
 have key:∀ {p k i p' k':Nat},J3I l p k i→J3I l p' k' i→¬ p<p':=by
  intro p k i p' k' h h' hlt
  have hi:=h'.lt
  obtain⟨qi,si,hqi,_⟩:=h'.sub ht
  have hsi:=si.lt
  obtain⟨x,hx,hk,hc⟩:=h
  have hs:=ht.end (List.getElem?_eq_some_iff.1 hx).1
  obtain⟨y,hy,_,_,hch⟩:=hs.kids
  rw[hx] at hy
  cases hy
  have hp':p'<l.length:=by
   obtain⟨x',hx',_⟩:=h'
   exact(List.getElem?_eq_some_iff.1 hx').1
  have he':=(ht.end hp').lt
  obtain⟨r,hr⟩:∃ r,x.kids.toNat=k+(r+1):=⟨x.kids.toNat-k-1,by omega⟩
  have hkc:=hch
  rw[hr] at hkc
  obtain⟨b0,g1,g2⟩:=J3w _ _ _ _ hkc
  have:=J2e _ _ _ _ hc g1
  subst this
  have hle:=J2o _ _ _ g2
  obtain⟨j,b,c,j1,j2,j3,j4,j5⟩:=J7C _ _ _ p' hch hlt (by omega)
  obtain⟨q',s1,s2⟩:=SubT.cover (c-b) (by have:=j3.lt;omega) j3 p' j4 j5
  have hee:=J5P s1
  -- i lies in (b, c), and is the start of the k-th kid
  rcases Nat.lt_trichotomy k j with hkj | hkj | hkj
  ·have:=J67 k j hkj hc j2
   omega
  ·subst hkj
   have:=J2e _ _ _ _ hc j2
   omega
  ·have hj1:=J4b j _ _ _ j2 j3
   rcases Nat.lt_or_ge (j+1) k with h9 | h9
   ·have:=J67 (j+1) k h9 hj1 hc
    omega
   ·have:j+1=k:=by omega
    subst this
    have:=J2e _ _ _ _ hj1 hc
    omega
 have hpp:p=p':=by
  have h1:=key h h'
  have h2:=key h' h
  omega
 subst hpp
 refine⟨rfl,?_⟩
 obtain⟨_,_,_,hc⟩:=h
 obtain⟨_,_,_,hc'⟩:=h'
 rcases Nat.lt_trichotomy k k' with h1 | h1 | h1
 ·have:=J67 _ _ h1 hc hc';omega
 ·exact h1
 ·have:=J67 _ _ h1 hc' hc;omega
theorem SubT.parent {l:List RowN}:∀ (n:Nat) {a q:Nat},q≤a+n→SubT l a q→∀ i,a<i→i<q→∃ p k,J3I l p k i∧a≤p
 | 0,a,q,hn,h,i,h1,h2=>by have:=h.lt;omega
 | n+1,a,q,hn,h,i,h1,h2=>by
  obtain⟨x,hx,_,_,hc⟩:=h.kids
  obtain⟨k,b,c,k1,k2,k3,k4,k5⟩:=J7C _ _ _ i hc h1 h2
  rcases Nat.eq_or_lt_of_le k4 with rfl | h6
  ·exact⟨a,k,⟨x,hx,k1,k2⟩,Nat.le_refl _⟩
  ·have hb:=J2o _ _ _ k2
   obtain⟨r,hr⟩:∃ r,x.kids.toNat=(k+1)+r:=⟨x.kids.toNat-(k+1),by omega⟩
   rw[hr] at hc
   obtain⟨c',g1,g2⟩:=J3w _ _ _ _ hc
   have:=J2e _ _ _ _ (J4b _ _ _ _ k2 k3) g1
   subst this
   have:=J2o _ _ _ g2
   obtain⟨p,k',h7,h8⟩:=SubT.parent n (by omega) k3 i h6 k5
   exact⟨p,k',h7,by omega⟩
theorem J2c.parent {l:List RowN} (ht:J2c l) {i:Nat} (h0:0<i) (h1:i<l.length):∃ p k,J3I l p k i:=by
 obtain⟨p,k,h,_⟩:=SubT.parent l.length (by omega) ht i h0 h1
 exact⟨p,k,h⟩
structure IsOpen (l:List RowN) (O:List Int):Prop where
 top:∀ x,l[0]?=some x→O[0]?=some (J1s x.kind)
 kid:∀ p k i x y o,J3I l p k i→l[p]?=some x→l[i]?=some y→O[p]?=some o→O[i]?=some (o+J2i (J1f x.kind) (J1f y.kind) k+J1s y.kind)
def J6X (O:List Int) (a b:Nat) (M:Int):Prop:=(∀ i x,a≤i→i<b→O[i]?=some x→x≤M)∧∃ i,a≤i∧i<b∧O[i]?=some M
theorem J6X.join {O:List Int} {a b c:Nat} {M M':Int} (h:J6X O a b M) (h':J6X O b c M') (hab:a≤b) (hbc:b≤c):J6X O a c (if M'>M then M' else M):=by
 obtain⟨h1,i,h2,h3,h4⟩:=h
 obtain⟨g1,j,g2,g3,g4⟩:=h'
 refine⟨fun t x t1 t2 t3=>?_,?_⟩
 ·rcases Nat.lt_or_ge t b with hb | hb
  ·have:=h1 t x t1 hb t3
   split <;> omega
  ·have:=g1 t x hb t2 t3
   split <;> omega
 ·split
  ·exact⟨j,by omega,g3,g4⟩
  ·exact⟨i,h2,by omega,h4⟩
theorem J6X.unique {O:List Int} {a b:Nat} {M M':Int} (h:J6X O a b M) (h':J6X O a b M'):M=M':=by
 obtain⟨h1,i,h2,h3,h4⟩:=h
 obtain⟨g1,j,g2,g3,g4⟩:=h'
 have:=h1 j _ g2 g3 g4
 have:=g1 i _ h2 h3 h4
 omega
theorem Jgn {l:List RowN} {O:List Int} (hO:IsOpen l O):∀ (m at_ q:Nat) (x:RowN) (o:Int),SubT l at_ q→l.length<at_+m→l[at_]?=some x→O[at_]?=some o →
  J6X O at_ q (o-J1s x.kind+(levN l m at_).1)∧(levN l m at_).2=q:=by
 intro m
 induction m with
 | zero=>intro at_ q x o hs hm hx;have:=hs.lt;omega
 | succ m ih=>
  intro at_ q x o hs hm hx ho
  obtain⟨y,hy,_,_,hc⟩:=hs.kids
  rw[hx] at hy
  cases hy
  have key:∀ r k most next,k+r=x.kids.toNat→J35 l k (at_+1) next→J35 l r next q→J6X O at_ next (o+most)→J6X O at_ q (o+(levL (levN l m) l x.kind r k most next).1)∧(levL (levN l m) l x.kind r k most next).2=q:=by
   intro r
   induction r with
   | zero=>
    intro k most next hk h1 h2 h3
    have:next=q:=h2
    subst this
    exact⟨h3,rfl⟩
   | succ r ihr=>
    intro k most next hk h1 ⟨p',s1,s2,s3,s4⟩ h3
    have hn1:=J2o _ _ _ h1
    obtain⟨z,hz,_,_,_⟩:=s1.kids
    have hz':=hO.kid at_ k next x z o ⟨x,hx,by omega,h1⟩ hx hz ho
    obtain⟨a1,a2⟩:=ih next p' z _ s1 (by omega) hz hz'
    unfold levL
    rw[hz]
    simp only
    rw[a2]
    refine ihr (k+1) _ p' (by omega) (J4b _ _ _ _ h1 s1) s4 ?_
    have h4:=h3.join a1 (by omega) (by omega)
    have e1:o+J2i (J1f x.kind) (J1f z.kind) k+J1s z.kind-J1s z.kind+(levN l m next).1=o+((levN l m next).1+J2i (J1f x.kind) (J1f z.kind) k):=by omega
    rw[e1] at h4
    refine cast ?_ h4
    congr 1
    split <;> split <;> omega
  have h0:=key x.kids.toNat 0 0 (at_+1) (by omega) rfl hc ⟨fun i v h1 h2 h3=>by
    have:i=at_:=by omega
    subst this
    rw[ho] at h3
    cases h3
    omega,at_,Nat.le_refl _,by omega,by rw[ho];congr 1;omega⟩
  unfold levN
  rw[hx]
  refine⟨?_,h0.2⟩
  refine cast ?_ h0.1
  congr 1
  simp only
  omega
def J3q (w:Int):Int:=if w=8 then 0 else if w=9 then 1 else w
def J4C (w:Int):Prop:=w=8∨w=9∨w=2∨w=3∨w=4∨w=5∨w=6∨w=7
theorem J5Z {w k:Int} (h:J1c w k=true):1≤k∧k≤54:=by
 unfold J1c at h
 split at h
 ·simp at h;omega
 ·exact J2H h
theorem J26 {P:Program} {t:TypeId} {x y:Operand} {a b:ByteArray}:binS P .neq t x y (.string a) (.string b)=some (.bool (!(a==b))):=by
 have e:J0k P (do eqGuard .neq t x y (.string a) (.string b);binOp .neq t (.string a) (.string b))=some (.bool (!(a==b))):=by
  rw[J0c]
  have g:J0k P (eqGuard .neq t x y (.string a) (.string b))=some ():=rfl
  rw[g,← JdF]
  simp[binOp,Op.stringOp,Option.bind]
  rfl
 have hf:flat (.string a)=true:=rfl
 have hf2:flat (.string b)=true:=rfl
 simp only[binS,hf,hf2,J2F,Bool.and_self,if_true,e]
theorem J7B {s:ByteArray} (h:(s==⟨#[]⟩)=true):J09 s=false:=by
 have:=J3o h
 subst this
 rfl
section
variable {call:J0r} {n:Nat} {h:SHeap}
theorem J9H {k:Int}:J0L Tryz.prog call n 127 [iv k] h=some (.bool (decide (k≥2)&&decide (k≤7)),h):=by
 refine J1m Tryz.func127 rfl (by simp[Tryz.f127]) ?_
 have hr:Tryz.f127.results.toList=[.tmp 2]:=rfl
 cases d:decide (k≥2) <;> simp only[evC,seval,↓evP,rpC,hr,d,Bool.false_and]
theorem J83 {k:Int}:J0L Tryz.prog call n 128 [iv k] h=some (.bool (J0E k),h):=by
 refine J1m Tryz.func128 rfl (by simp[Tryz.f128]) ?_
 have hr:Tryz.f128.results.toList=[.tmp 2]:=rfl
 unfold J0E
 cases d:decide (k≥8) <;> simp only[evC,seval,↓evP,rpC,hr,d,Bool.false_and]
theorem J8F {k:Int}:J0L Tryz.prog call n 140 [iv k] h=some (.bool (decide (k≥11)&&decide (k≤23)),h):=by
 refine J1m Tryz.func140 rfl (by simp[Tryz.f140]) ?_
 have hr:Tryz.f140.results.toList=[.tmp 2]:=rfl
 cases d:decide (k≥11) <;> simp only[evC,seval,↓evP,rpC,hr,d,Bool.false_and]
theorem J9e {k:Int}:J0L Tryz.prog call n 141 [iv k] h=some (.bool (decide (k≥27)&&decide (k≤54)),h):=by
 refine J1m Tryz.func141 rfl (by simp[Tryz.f141]) ?_
 have hr:Tryz.f141.results.toList=[.tmp 2]:=rfl
 cases d:decide (k≥27) <;> simp only[evC,seval,↓evP,rpC,hr,d,Bool.false_and]
theorem J9k {w k:Int} (hw:J4C w) (hD:call 127 [iv k] h=some (.bool (decide (k≥2)&&decide (k≤7)),h)) (hE:call 128 [iv k] h=some (.bool (J0E k),h))
  (hG:call 140 [iv k] h=some (.bool (decide (k≥11)&&decide (k≤23)),h)) (hX:call 141 [iv k] h=some (.bool (decide (k≥27)&&decide (k≤54)),h)) :
  J0L Tryz.prog call n 133 [iv k,iv (J3q w)] h=some (.bool (J1c w k),h):=by
 refine J1m Tryz.func133 rfl (by simp[Tryz.f133]) ?_
 have hr:Tryz.f133.results.toList=[.tmp 4]:=rfl
 unfold J0E at hE
 rcases hw with rfl | rfl | rfl | rfl | rfl | rfl | rfl | rfl
 ·have e:J3q 8=0:=rfl
  have e2:J1c 8 k=(k==1):=rfl
  rw[e,e2]
  simp only[evC,seval,↓evP,rpC,Int.reduceBEq,hr]
 ·have e:J3q 9=1:=rfl
  have e2:J1c 9 k=(decide (k≥2)&&decide (k≤10)):=rfl
  rw[e,e2]
  cases d:(decide (k≥2)&&decide (k≤7)) with
  | true=>
   rw[d] at hD
   have:(decide (k≥2)&&decide (k≤10))=true:=by simp only[Bool.and_eq_true,decide_eq_true_eq] at d ⊢;omega
   simp only[evC,seval,↓evP,rpC,Int.reduceBEq,hr,hD,this]
  | false=>
   rw[d] at hD
   have:(decide (k≥2)&&decide (k≤10))=(decide (k≥8)&&decide (k≤10)):=by
    simp only[Bool.and_eq_false_iff,decide_eq_false_iff_not] at d
    apply Bool.eq_iff_iff.2
    simp only[Bool.and_eq_true,decide_eq_true_eq]
    omega
   simp only[evC,seval,↓evP,rpC,Int.reduceBEq,hr,hD,hE,this]
 ·have e:J3q 2=2:=rfl
  have e2:J1c 2 k=(k==11):=rfl
  rw[e,e2]
  simp only[evC,seval,↓evP,rpC,Int.reduceBEq,hr]
 ·have e:J3q 3=3:=rfl
  have e2:J1c 3 k=(decide (k≥11)&&decide (k≤23)):=rfl
  rw[e,e2]
  simp only[evC,seval,↓evP,rpC,Int.reduceBEq,hr,hG]
 ·have e:J3q 4=4:=rfl
  have e2:J1c 4 k=(k==11||k==12):=rfl
  rw[e,e2]
  cases d:(k==11) <;> simp only[evC,seval,↓evP,rpC,Int.reduceBEq,hr,d,Bool.true_or,Bool.false_or]
 ·have e:J3q 5=5:=rfl
  have e2:J1c 5 k=(k==25||k==26):=rfl
  rw[e,e2]
  cases d:(k==25) <;> simp only[evC,seval,↓evP,rpC,Int.reduceBEq,hr,d,Bool.true_or,Bool.false_or]
 ·have e:J3q 6=6:=rfl
  have e2:J1c 6 k=(k==24):=rfl
  rw[e,e2]
  simp only[evC,seval,↓evP,rpC,Int.reduceBEq,hr]
 ·have e:J3q 7=7:=rfl
  have e2:J1c 7 k=(decide (k≥27)&&decide (k≤54)):=rfl
  rw[e,e2]
  simp only[evC,seval,↓evP,rpC,Int.reduceBEq,hr,hX]
abbrev rowV (x:RowN):Value:=.agg #[iv x.kind,.string x.name,iv x.ends,iv x.n,iv x.kids]
theorem J3Z {x:RowN}:(rowV x).cells.toList=[iv x.kind,.string x.name,iv x.ends,iv x.n,iv x.kids]:=rfl
theorem Jbb {w:Int} {x:RowN} (hS:∀ h,call 133 [iv x.kind,iv (J3q w)] h=some (.bool (J1c w x.kind),h))
  (hE:∀ h,1≤x.kind∧x.kind≤54→call 134 [iv x.kind] h=some (.bool (endK x.kind),h)) (hN:∀ h,1≤x.kind∧x.kind≤54→call 135 [iv x.kind] h=some (.bool (J3l x.kind),h))
  (hI:∀ h,call 136 [.string x.name] h=some (.bool (J09 x.name),h)) (hM:∀ h,1≤x.kind∧x.kind≤54→call 137 [iv x.kind] h=some (.tuple #[iv (J1U x.kind),iv (J1r x.kind)],h)) :
  ∃ h',J0L Tryz.prog call n 126 [rowV x,iv (J3q w)] (J2v 1 0)=some (.bool (J1c w x.kind&&fitN J09 x),h')∧True:=by
 refine J1N (R:=fun _=>True) Tryz.func126 rfl (by simp[Tryz.f126]) ?_
 have hr:Tryz.f126.results.toList=[.tmp 4]:=rfl
 have hone:([iv x.kind,.string x.name,iv x.ends,iv x.n,iv x.kids]:List Value).all one=true:=rfl
 generalize hV:(J1c w x.kind&&fitN J09 x)=V
 cases hs:J1c w x.kind with
 | false=>
  rw[hs] at hV hS
  rw[Bool.false_and] at hV
  subst hV
  simp only[evC,seval,↓evP,rpC,hr,J3Z,hone,sz46,hS]
 | true=>
  rw[hs] at hV hS
  rw[Bool.true_and] at hV
  have hk:=J5Z hs
  have hE':=fun h=>hE h hk
  have hN':=fun h=>hN h hk
  have hM':=fun h=>hM h hk
  clear hE hN hM
  have hq:(x.name==ByteArray.empty)=(x.name==⟨#[]⟩):=rfl
  unfold fitN at hV
  rw[hq] at hV
  have hQe:(x.name==⟨#[]⟩)=true→J09 x.name=false:=J7B
  generalize hKK:Kont.top (fun e s=>(e=SExit.normal∨e=SExit.ret)∧∃ vs,resS Tryz.prog s Tryz.f126.results.toList=some vs∧resV vs=Value.bool V∧True)=K
  have fin:∀ (T':Tr) H b,T'.get 4=.bool b→b=V→K.ap Tryz.prog call n .ret ⟨T',H⟩:=fun T' H b h4 hb=>by
   subst hb
   rw[← hKK]
   simp only[evC,seval,↓evP,rpC,hr,h4]
  have retF:∀ (T':Tr) H,T'.get 4=.bool false→V=false→K.ap Tryz.prog call n .ret ⟨T',H⟩:=fun T' H h4 hb=>fin T' H false h4 hb.symm
  have JaC:∀ T':Tr,T'.get 2=qP 1 0→(decide (x.kids≥J1U x.kind)&&(decide (J1r x.kind<0)||decide (x.kids≤J1r x.kind)))=V →
    WK Tryz.prog call n (rt (rt (rt (rt (Tryz.f126.body.getD .skip))))) ⟨T',(J2v 1 0).push (.row [iv x.kind,.string x.name,iv x.ends,iv x.n,iv x.kids] 60 false false)⟩ K:=by
   intro T' t2 hv
   show WK _ _ _ (.seq _ _) _ _
   cases d1:decide (x.kids≥J1U x.kind) with
   | false=>
    rw[d1,Bool.false_and] at hv
    simp only[evC,seval,↓evP,rpC,t2,hM',d1]
    exact fin _ _ false (by simp only[Tr.get_put,if_true]) hv
   | true=>
    rw[d1,Bool.true_and] at hv
    cases d2:decide (J1r x.kind<0) with
    | true=>
     rw[d2,Bool.true_or] at hv
     simp only[evC,seval,↓evP,rpC,t2,hM',d1,d2]
     exact fin _ _ true (by simp only[Tr.get_put,if_true]) hv
    | false=>
     rw[d2,Bool.false_or] at hv
     simp only[evC,seval,↓evP,rpC,t2,hM',d1,d2]
     exact fin _ _ _ (by simp only[Tr.get_put,if_true]) hv
  have Jab:∀ T':Tr,T'.get 2=qP 1 0→((x.n==0||x.kind==27&&decide (x.n>0)&&decide (x.n≤1073741824))&&(decide (x.kids≥J1U x.kind)&&(decide (J1r x.kind<0)||decide (x.kids≤J1r x.kind))))=V →
    WK Tryz.prog call n (rt (rt (rt (Tryz.f126.body.getD .skip)))) ⟨T',(J2v 1 0).push (.row [iv x.kind,.string x.name,iv x.ends,iv x.n,iv x.kids] 60 false false)⟩ K:=by
   intro T' t2 hv
   show WK _ _ _ (.seq _ (rt (rt (rt (rt (Tryz.f126.body.getD .skip)))))) _ _
   cases k27:(x.kind==27) with
   | true=>
    have k27':(x.kind != 27)=false:=by rw[bne,k27];rfl
    cases d1:decide (x.n<0) with
    | true=>
     have f0:(x.n==0)=false:=by rw[beq_eq_false_iff_ne];simp only[decide_eq_true_eq] at d1;omega
     have f1:decide (x.n>0)=false:=by simp only[decide_eq_true_eq] at d1;simp only[decide_eq_false_iff_not];omega
     rw[f0,f1] at hv
     simp only[evC,seval,↓evP,rpC,t2,k27,k27',d1]
     exact retF _ _ (by simp only[Tr.get_put,if_true]) (by rw[← hv];simp)
    | false=>
     cases d2:decide (x.n>1073741824) with
     | true=>
      have f0:(x.n==0)=false:=by rw[beq_eq_false_iff_ne];simp only[decide_eq_true_eq] at d2;omega
      have f1:decide (x.n≤1073741824)=false:=by simp only[decide_eq_true_eq] at d2;simp only[decide_eq_false_iff_not];omega
      rw[f0,f1] at hv
      simp only[evC,seval,↓evP,rpC,t2,k27,k27',d1,d2]
      exact retF _ _ (by simp only[Tr.get_put,if_true]) (by rw[← hv];simp)
     | false=>
      have f1:(x.n==0||decide (x.n>0)&&decide (x.n≤1073741824))=true:=by
       simp only[decide_eq_false_iff_not] at d1 d2
       simp only[Bool.or_eq_true,Bool.and_eq_true,decide_eq_true_eq,beq_iff_eq]
       omega
      rw[k27,Bool.true_and,f1,Bool.true_and] at hv
      simp only[evC,seval,↓evP,rpC,t2,k27,k27',d1,d2]
      exact JaC _ (by simp only[Tr.get_put,Option.some.injEq,Nat.reduceEqDiff,if_false,t2]) hv
   | false=>
    have k27':(x.kind != 27)=true:=by rw[bne,k27];rfl
    cases d1:(x.n==0) with
    | false=>
     have d1':(x.n != 0)=true:=by rw[bne,d1];rfl
     rw[d1,k27] at hv
     simp only[evC,seval,↓evP,rpC,t2,k27,k27',d1']
     exact retF _ _ (by simp only[Tr.get_put,if_true]) (by rw[← hv];simp)
    | true=>
     have d1':(x.n != 0)=false:=by rw[bne,d1];rfl
     rw[d1,Bool.true_or,Bool.true_and] at hv
     simp only[evC,seval,↓evP,rpC,t2,k27,k27',d1']
     exact JaC _ (by simp only[Tr.get_put,Option.some.injEq,Nat.reduceEqDiff,if_false,t2]) hv
  have JaS:∀ T':Tr,T'.get 2=qP 1 0→(((J09 x.name==J3l x.kind)&&(J3l x.kind||x.name==⟨#[]⟩))&&((x.n==0||x.kind==27&&decide (x.n>0)&&decide (x.n≤1073741824))&&(decide (x.kids≥J1U x.kind)&&(decide (J1r x.kind<0)||decide (x.kids≤J1r x.kind)))))=V →
    WK Tryz.prog call n (rt (rt (Tryz.f126.body.getD .skip))) ⟨T',(J2v 1 0).push (.row [iv x.kind,.string x.name,iv x.ends,iv x.n,iv x.kids] 60 false false)⟩ K:=by
   intro T' t2 hv
   show WK _ _ _ (.seq _ (rt (rt (rt (Tryz.f126.body.getD .skip))))) _ _
   cases nm:J3l x.kind with
   | true=>
    rw[nm] at hv hN'
    cases ni:J09 x.name with
    | true=>
     rw[ni] at hv hI
     simp only[evC,seval,↓evP,rpC,t2,hN',hI]
     exact Jab _ (by simp only[Tr.get_put,Option.some.injEq,Nat.reduceEqDiff,if_false,t2]) (by rw[← hv];simp)
    | false=>
     rw[ni] at hv hI
     simp only[evC,seval,↓evP,rpC,t2,hN',hI]
     exact retF _ _ (by simp only[Tr.get_put,if_true]) (by rw[← hv];simp)
   | false=>
    rw[nm] at hv hN'
    cases q3:(x.name==⟨#[]⟩) with
    | true=>
     rw[q3,hQe q3] at hv
     simp only[evC,seval,↓evP,rpC,t2,hN',J26,q3]
     exact Jab _ (by simp only[Tr.get_put,Option.some.injEq,Nat.reduceEqDiff,if_false,t2]) (by rw[← hv];simp)
    | false=>
     rw[q3] at hv
     simp only[evC,seval,↓evP,rpC,t2,hN',J26,q3]
     exact retF _ _ (by simp only[Tr.get_put,if_true]) (by rw[← hv];simp)
  have hv:((x.ends==0||endK x.kind&&x.ends==1)&&(((J09 x.name==J3l x.kind)&&(J3l x.kind||x.name==⟨#[]⟩))&&((x.n==0||x.kind==27&&decide (x.n>0)&&decide (x.n≤1073741824))&&(decide (x.kids≥J1U x.kind)&&(decide (J1r x.kind<0)||decide (x.kids≤J1r x.kind))))))=V:=by
   rw[← hV]
   generalize (J09 x.name==J3l x.kind&&(J3l x.kind||x.name == { data:=#[] }))=a
   generalize (x.ends==0||endK x.kind&&x.ends==1)=b
   generalize (x.n==0||x.kind==27&&decide (x.n>0)&&decide (x.n≤1073741824))=c
   cases a <;> cases b <;> cases c <;> simp
  show WK _ _ _ (.seq _ (.seq _ (rt (rt (Tryz.f126.body.getD .skip))))) _ _
  cases d1:decide (x.ends<0) with
  | true=>
   have f0:(x.ends==0)=false:=by rw[beq_eq_false_iff_ne];simp only[decide_eq_true_eq] at d1;omega
   have f1:(x.ends==1)=false:=by rw[beq_eq_false_iff_ne];simp only[decide_eq_true_eq] at d1;omega
   rw[f0,f1] at hv
   simp only[evC,seval,↓evP,rpC,J3Z,hone,sz46,hS,d1]
   exact retF _ _ (by simp only[Tr.get_put,if_true]) (by rw[← hv];simp)
  | false=>
   cases d2:decide (x.ends>1) with
   | true=>
    have f0:(x.ends==0)=false:=by rw[beq_eq_false_iff_ne];simp only[decide_eq_true_eq] at d2;omega
    have f1:(x.ends==1)=false:=by rw[beq_eq_false_iff_ne];simp only[decide_eq_true_eq] at d2;omega
    rw[f0,f1] at hv
    simp only[evC,seval,↓evP,rpC,J3Z,hone,sz46,hS,d1,d2]
    exact retF _ _ (by simp only[Tr.get_put,if_true]) (by rw[← hv];simp)
   | false=>
    simp only[decide_eq_false_iff_not] at d1 d2
    have d1':decide (x.ends<0)=false:=decide_eq_false d1
    have d2':decide (x.ends>1)=false:=decide_eq_false d2
    cases d3:(x.ends==1) with
    | false=>
     have f0:(x.ends==0)=true:=by rw[beq_iff_eq];rw[beq_eq_false_iff_ne] at d3;omega
     rw[f0,Bool.true_or,Bool.true_and] at hv
     simp only[evC,seval,↓evP,rpC,J3Z,hone,sz46,hS,d1',d2',d3]
     exact JaS _ (by simp only[Tr.get_put,Option.some.injEq,Nat.reduceEqDiff,if_false,if_true]) hv
    | true=>
     have f0:(x.ends==0)=false:=by rw[beq_eq_false_iff_ne];rw[beq_iff_eq] at d3;omega
     cases en:endK x.kind with
     | true=>
      rw[f0,d3,en] at hv
      rw[en] at hE'
      simp only[evC,seval,↓evP,rpC,J3Z,hone,sz46,hS,d1',d2',d3,hE']
      exact JaS _ (by simp only[Tr.get_put,Option.some.injEq,Nat.reduceEqDiff,if_false,if_true]) (by rw[← hv];simp)
     | false=>
      rw[f0,en] at hv
      rw[en] at hE'
      simp only[evC,seval,↓evP,rpC,J3Z,hone,sz46,hS,d1',d2',d3,hE']
      exact retF _ _ (by simp only[Tr.get_put,if_true]) (by rw[← hv];simp)
end
def wrK:List FuncId:=[52,53,54,51,81,83,85,999999,999999,999999,999999,999999,999999,11,40,15,999999]
open Classical in
noncomputable def J73 (call:J0r):J0r:=fun f args h=>match call f args h with
 | some (v,h1)=>if wrK.contains f=false∧J3m v=true∧∀ i,i<h.next→h1.get i=h.get i then some (v,h) else some (v,h1)
 | none=>none
theorem J7j {call:J0r} {f:FuncId} {args:List Value} {h h':SHeap} {v:Value} (hs:J73 call f args h=some (v,h')):J8V call f args h=some (v,h')∨call f args h=some (v,h'):=by
 unfold J73 at hs
 split at hs
 ·rename_i v' h1 he
  split at hs
  ·rename_i hc
   cases hs
   exact .inl (Ja6 he hc.2.1 hc.2.2)
  ·cases hs
   exact .inr he
 ·cases hs
theorem JeB {P:Program} {call:J0r} (hc:J1x P call∧J1G call):J1x P (J73 call)∧J1G (J73 call):=by
 have hk:=JaL hc.1
 refine⟨fun f args h v h' hs=>?_,fun f args h v h' hs=>?_⟩
 ·rcases J7j hs with h1 | h1
  ·exact hk.1 _ _ _ _ _ h1
  ·exact hc.1 _ _ _ _ _ h1
 ·rcases J7j hs with h1 | h1
  ·exact hk.2 _ _ _ _ _ h1
  ·exact hc.2 _ _ _ _ _ h1
section
variable {call:J0r} {n:Nat} {h:SHeap}
theorem J9h {P K:Int} {k:Nat} {a b:Int} (hP:a≤7) (hb7:0≤b∧b≤7) (ha0:0≤a) (ha:call 138 [iv P] h=some (iv a,h)) (hb:call 138 [iv K] h=some (iv b,h)):J0L Tryz.prog call n 130 [iv P,iv k,iv K] h=some (.bool (J4q a b k),h):=by
 refine J1m Tryz.func130 rfl (by simp[Tryz.f130]) ?_
 have hr:Tryz.f130.results.toList=[.tmp 6]:=rfl
 unfold J4q
 by_cases a0:a=0
 ·subst a0
  have e:(if b=0 then false else if 1≤(0:Int)∧(0:Int)≤5 then (decide (b<0)||(b==0&&((k:Int)==1||(0:Int)==3))) else if (0:Int)=6 then decide (b<6) else false)=false:=by
   split
   ·rfl
   ·rw[if_neg (by omega),if_neg (by omega)]
  rw[e]
  simp only[evC,seval,↓evP,rpC,hr,ha,hb]
 have c0:(a==0)=false:=by simpa using a0
 by_cases b0:b=0
 ·subst b0
  simp only[evC,seval,↓evP,rpC,hr,ha,hb,c0]
 have c1:(b==0)=false:=by simpa using b0
 rw[if_neg b0]
 by_cases a7:a=7
 ·subst a7
  rw[if_neg (by omega),if_neg (by omega)]
  simp only[evC,seval,↓evP,rpC,hr,ha,hb,c1,show ((7:Int)==0)=false from rfl]
 have c2:(a==7)=false:=by simpa using a7
 by_cases a6:a=6
 ·subst a6
  rw[if_neg (by omega),if_pos rfl]
  simp only[evC,seval,↓evP,rpC,hr,ha,hb,c1,show ((6:Int)==0)=false from rfl,show ((6:Int)==7)=false from rfl]
 have c3:(a==6)=false:=by simpa using a6
 rw[if_pos (by omega)]
 cases d1:decide (b<a) with
 | true=>simp only[evC,seval,↓evP,rpC,hr,ha,hb,c0,c1,c2,c3,d1,Bool.true_or]
 | false=>
  cases d2:(b==a) with
  | false=>simp only[evC,seval,↓evP,rpC,hr,ha,hb,c0,c1,c2,c3,d1,d2,Bool.false_or,Bool.false_and]
  | true=>
   cases d3:((k:Int)==1) with
   | true=>simp only[evC,seval,↓evP,rpC,hr,ha,hb,c0,c1,c2,c3,d1,d2,d3,Bool.false_or,Bool.true_or]
   | false=>simp only[evC,seval,↓evP,rpC,hr,ha,hb,c0,c1,c2,c3,d1,d2,d3,Bool.false_or]
theorem J7K (k:Int):0≤J1f k∧J1f k≤7:=by unfold J1f;(repeat' split) <;> omega
theorem Jdq (k:Int) (h:SHeap) (hk:1≤k∧k≤54):L0 138 [iv k] h=some (iv (J1f k),h):=J0I rfl rfl rfl rfl (J1I JeC hk)
theorem JcA (P Q:Int) (k:Nat) (h:SHeap) (hP:1≤P∧P≤54) (hQ:1≤Q∧Q≤54):L1 130 [iv P,iv k,iv Q] h=some (.bool (J4q (J1f P) (J1f Q) k),h):=
 J0I (J20 rfl rfl) rfl rfl rfl ⟨_,J9h (J7K P).2 (J7K Q) (J7K P).1 (J55 (Jdq P _ hP)) (J55 (Jdq Q _ hQ))⟩
noncomputable def L3:J0r:=layD [126] L2 12
theorem Jhz:J1x Tryz.prog L3∧J1G L3:=J9p Jjr
end
noncomputable def J0T:Nat→J0r
 | 0=>L3
 | n+1=>orS L3 (J73 (J0L Tryz.prog (J0T n) n))
theorem J1z:∀ n,J1x Tryz.prog (J0T n)∧J1G (J0T n)
 | 0=>Jhz
 | n+1=>Jav Jhz (JeB (J6m J2f (J1z n).1 (J1z n).2 n))
section
variable {n:Nat} {f:FuncId} {args:List Value} {h h1:SHeap} {v:Value} {r:Value × SHeap}
theorem Jip (hb:L3 f args h=some r):J0T n f args h=some r:=by
 cases n with
 | zero=>exact hb
 | succ n=>exact Ja4 hb
theorem k_up (hb:L2 f args h=some r):J0T n f args h=some r:=Jip (J1M hb)
theorem J2Z (hb:L1 f args h=some r):J0T n f args h=some r:=k_up (J6k hb)
theorem J13 (hf:([110,132,124,72,74,75,80,82,84,
 138,135,134,127,128,137,125,113,120,122,
 144,145,109]:List Nat).contains f=false∧([123,130,133,73,119,77,87]:List Nat).contains f=false∧([111,136,126]:List Nat).contains f=false):L3 f args h=none:=by
 have h3:=hf.2.2
 simp only[List.contains_cons,List.contains_nil,Bool.or_false,Bool.or_eq_false_iff] at h3
 refine J20 (J8X (J20 (J20 rfl hf.1) hf.2.1) ?_) ?_
 ·simp only[List.contains_cons,List.contains_nil,Bool.or_false,Bool.or_eq_false_iff];exact⟨h3.1,h3.2.1⟩
 ·simp only[List.contains_cons,List.contains_nil,Bool.or_false];exact h3.2.2
theorem J4r (hb:L3 f args h=none) (hv:J3m v=true) (hw:∃ h1,J0L Tryz.prog (J0T n) n f args h=some (v,h1)∧∀ i,i<h.next→h1.get i=h.get i) (hf:wrK.contains f=false:=by rfl):J0T (n+1) f args h=some (v,h):=by
 obtain⟨h1,he,hk⟩:=hw
 unfold J0T orS J73
 rw[hb,he]
 simp only
 rw[if_pos ⟨hf,hv,hk⟩]
theorem J6r (hb:L3 f args h=none) (hv:J3m v=true) (hw:J0L Tryz.prog (J0T n) n f args h=some (v,h)) (hf:wrK.contains f=false:=by rfl):J0T (n+1) f args h=some (v,h):=J4r hb hv ⟨h,hw,fun _ _=>rfl⟩ hf
theorem Jc0 {R:SHeap→Prop} (hb:L3 f args h=none) (hv:J3m v=false) (hw:∃ h1,J0L Tryz.prog (J0T n) n f args h=some (v,h1)∧R h1):∃ h1,J0T (n+1) f args h=some (v,h1)∧R h1:=by
 obtain⟨h1,he,hk⟩:=hw
 refine⟨h1,?_,hk⟩
 unfold J0T orS J73
 rw[hb,he]
 simp only
 rw[if_neg (fun hc=>by rw[hv] at hc;cases hc.2.1)]
theorem k_ex {R:Value→SHeap→Prop} (hb:L3 f args h=none) (hw:∃ v h1,J0L Tryz.prog (J0T n) n f args h=some (v,h1)∧R v h1) (hf:∀ v h1,J3m v=true→(∀ i,i<h.next→h1.get i=h.get i)→R v h1→R v h):∃ v h1,J0T (n+1) f args h=some (v,h1)∧R v h1:=by
 obtain⟨v,h1,he,hk⟩:=hw
 by_cases hc:wrK.contains f=false∧J3m v=true∧∀ i,i<h.next→h1.get i=h.get i
 ·refine⟨v,h,?_,hf v h1 hc.2.1 hc.2.2 hk⟩
  unfold J0T orS J73
  rw[hb,he]
  simp only
  rw[if_pos hc]
 ·refine⟨v,h1,?_,hk⟩
  unfold J0T orS J73
  rw[hb,he]
  simp only
  rw[if_neg hc]
theorem k_wr {R:SHeap→Prop} (hb:L3 f args h=none) (hw:∃ h1,J0L Tryz.prog (J0T n) n f args h=some (v,h1)∧R h1) (hf:wrK.contains f=true:=by rfl):∃ h1,J0T (n+1) f args h=some (v,h1)∧R h1:=by
 obtain⟨h1,he,hk⟩:=hw
 refine⟨h1,?_,hk⟩
 unfold J0T orS J73
 rw[hb,he]
 simp only
 rw[if_neg (fun hc=>by rw[hf] at hc;cases hc.1)]
end
theorem Jje {l:List RowN} {v:Value} (hlen:l.length<1099511627776):∀ m n (at_:Nat) (what:Int) h,at_≤l.length→l.length<at_+m→what≠8→J0l h v l→h.get 0=J14→0<h.next→h.floor≤h.next→l.length+4+m<n →
  J0T n 70 [v,iv at_,iv what] h=some (.tuple #[iv ((rowN J09 l m at_ what).1:Int),.bool (rowN J09 l m at_ what).2],h):=by
 intro m
 induction m with
 | zero=>intro n at_ what h hat hm;omega
 | succ m ih=>
  intro n at_ what h hat hm hw hv hg hn0 hfl hn
  obtain⟨n,rfl⟩:∃ k,n=k+1:=⟨n-1,by omega⟩
  refine J4r (J13 ⟨rfl,rfl,rfl⟩) (J93 rfl rfl) ?_
  exact Jfm (J1z n).2 ⟨fun k j h hk hj=>J2Z (Jfj k j h hk hj),fun p w h hp hpl hw hv hg hn0 hfl=>ih n p w h hpl (by omega) hw hv hg hn0 hfl (by omega)⟩
   (by omega) hlen hat hw (fun w k h=>J2Z (J9I w k h)) (fun k h hk=>J2Z (J7b k h hk)) (fun s h' hg=>k_up (J94 hg s)) hv hg hn0 hfl
theorem Jj1 {l:List RowN} {v:Value} (hlen:l.length<1099511627776) {n m:Nat} (hm:l.length<1+m) (hn:l.length+7+m<n) {h:SHeap} (hv:J0l h v l) (hg:h.get 0=J14) (hn0:0<h.next) (hfl:h.floor≤h.next) :
  J0T n 70 [v,iv 0,iv 8] h=some (.tuple #[iv ((topN J09 l m).1:Int),.bool (topN J09 l m).2],h):=by
 obtain⟨n,rfl⟩:∃ k,n=k+2:=⟨n-2,by omega⟩
 refine J4r (J13 ⟨rfl,rfl,rfl⟩) (J93 rfl rfl) ?_
 refine Jcw (J1z (n+1)).2 ?_ (by omega) hlen (fun w k h=>J2Z (J9I w k h)) (fun k h hk=>J2Z (J7b k h hk)) (fun s h' hg=>k_up (J94 hg s)) hv hg hn0 hfl
 intro x h' hx hf hk1 hv' hg' hn0' hfl'
 have hk0:0≤x.kids:=by
  unfold fitN at hf
  simp only[Bool.and_eq_true,decide_eq_true_eq] at hf
  have:=J4a x.kind
  omega
 refine J6r (J13 ⟨rfl,rfl,rfl⟩) (J93 rfl rfl) ?_
 refine JeN hx hk0 (by omega) hlen hv' (fun w k h=>J2Z (J9I w k h)) fun p w hp hpl hw=>?_
 exact Jje hlen m n p w h' hpl (by omega) hw hv' hg' hn0' hfl' (by omega)
theorem Jjo {l:List RowN} {v:Value} (hlen:l.length<1099511627776) (hval:∀ (i:Nat) x,l[i]?=some x→1≤x.kind∧x.kind≤54) {h:SHeap} (hv:J0l h v l):∀ m n (at_:Nat),m<1099511627776→at_<l.length→l.length<at_+m→l.length+4+m<n →
  J0T n 114 [v,iv at_] h=some (.tuple #[iv (levN l m at_).1,iv ((levN l m at_).2:Int)],h):=by
 intro m
 induction m with
 | zero=>intro n at_ _ hat hm;omega
 | succ m ih=>
  intro n at_ hmm hat hm hn
  obtain⟨n,rfl⟩:∃ k,n=k+1:=⟨n-1,by omega⟩
  refine J6r (J13 ⟨rfl,rfl,rfl⟩) (J93 rfl rfl) ?_
  refine J9x (J1z n).2 (by omega) hlen (by omega) hat (by omega) hv hval (fun P Q k h hP hQ=>J2Z (Jel P Q k h hP hQ)) (fun k h hk=>J2Z (Jeh k h hk)) fun p hp hpl=>?_
  exact ih n p (by omega) hpl (by omega) (by omega)
theorem JgM {n:Nat} {l:List RowN} {v:Value} (hn:2*l.length+12<n) (hlen:l.length<1099511627) {h:SHeap} (hv:J0l h v l) (hg:h.get 0=J14) (hn0:0<h.next) (hfl:h.floor≤h.next) :
  J0T n 48 [v] h=some (J2k (J0v l).1 (J0v l).2,h):=by
 obtain⟨n,rfl⟩:∃ k,n=k+2:=⟨n-2,by omega⟩
 refine J4r (J13 ⟨rfl,rfl,rfl⟩) rfl ?_
 refine Jb8 hv hg hn0 hfl (fun h' hv' hg' hn' hfl'=>Jj1 (by omega) (by omega) (by omega) hv' hg' hn' hfl') fun hs h' hv'=>?_
 refine J6r (J13 ⟨rfl,rfl,rfl⟩) rfl ?_
 exact J9R (m:=l.length+1) hv' (J8Q hs) (Jjo (by omega) (J9T hs) hv' (l.length+1) n 0 (by omega) (J8Q hs) (by omega) (by omega))
theorem JhY {l:List RowN} {v:Value} {h:SHeap} {n:Nat} (ht:J2c l) (hv:J0l h v l) (hlen:l.length<1099511627776) (hn:l.length+4<n) (hfl:h.floor≤h.next) :
  ∃ h',J0T n 50 [v] h=some (qS h.next l.length l.length,h')∧(h'.get h.next=.row (ints (J0o l)) 3 false false∧h'.next=h.next+1∧h'.floor=h.floor∧∀ i,i<h.next→h'.get i=h.get i):=by
 obtain⟨n,rfl⟩:∃ k,n=k+1:=⟨n-1,by omega⟩
 exact Jc0 (J13 ⟨rfl,rfl,rfl⟩) rfl (JbW ht hv hlen (by omega) hfl)
theorem JcD {l:List RowN} {v:Value} {h:SHeap} {n:Nat} (ht:J2c l) (hv:J0l h v l) (hlen:l.length<1099511627776) (hn:l.length+4<n) (hfl:h.floor≤h.next) :
  ∃ h',J0T n 79 [v] h=some (qS h.next l.length l.length,h')∧(h'.get h.next=.row (ints (J0o l)) 3 false false∧h'.next=h.next+1∧h'.floor=h.floor∧∀ i,i<h.next→h'.get i=h.get i):=by
 obtain⟨n,rfl⟩:∃ k,n=k+1:=⟨n-1,by omega⟩
 exact Jc0 (J13 ⟨rfl,rfl,rfl⟩) rfl (JbF ht hv hlen (by omega) hfl)
noncomputable def JqK:J0r:=J4e 7 J14
def Jr4:Option (Value × SHeap)→Bool
 | some (.bool b,_)=>b
 | _=>false
theorem Js3:Jr4 (J3U Tryz.prog tab8 200 7 [] Jfv)=true:=by kernel_rfl
theorem Jrv:J1x Tryz.prog JqK∧J1G JqK:=by
 have h:=Js3
 unfold Jr4 at h
 split at h
 ·rename_i b h' hs
  cases h
  have ht:=Jav (JnD (Ja9 J2f 200).1 Jrf) (Jng (Ja9 J2f 200).1 Jrs)
  exact Jc4 (J6f J2f ht.1 ht.2 200).1 Jg1 (by kernel_rfl) hs
 ·cases h
noncomputable def JqX (n:Nat):J0r:=orS JqK (J0T n)
theorem Jqk (n:Nat):J1x Tryz.prog (JqX n)∧J1G (JqX n):=Jav Jrv (J1z n)
section
variable {n:Nat} {f:FuncId} {args:List Value} {h:SHeap} {r:Value × SHeap}
theorem JrR (hg:h.get 0=J14):JqX n 7 [] h=some (.bool true,h):=by
 refine Ja4 ?_
 unfold JqK J4e
 rw[if_pos ⟨rfl,rfl,hg⟩]
theorem x_k (hf:f≠7) (hb:J0T n f args h=some r):JqX n f args h=some r:=by
 unfold JqX orS
 have:JqK f args h=none:=by
  unfold JqK J4e
  rw[if_neg (fun hc=>hf hc.1)]
 rw[this]
 exact hb
end
theorem szO:szOf Tryz.prog 140=some 3:=by kernel_rfl
theorem aggO:J2X Tryz.prog 140=some true:=by kernel_rfl
theorem byO:byOf Tryz.prog 140=some 24:=by kernel_rfl
theorem Je7:J1w Tryz.prog 140=some (.agg #[iv 0,iv 0,iv 0]):=by kernel_rfl
theorem JgF:J2Q Tryz.prog (match Tryz.prog.underlying 140 with | some (.struct fs)=>fs.toList | _=>[])=some [(0,1),(1,1),(2,1)]:=by kernel_rfl
abbrev J9y (a b c:Int):Value:=.agg #[iv a,iv b,iv c]
theorem J97 {a b c:Int}:flat (J9y a b c)=true:=rfl
theorem J79 {a b c:Int}:(J9y a b c).cells=#[iv a,iv b,iv c]:=rfl
theorem Jif {a b:Int}:J1P Tryz.prog 140 [(0,iv a),(1,iv b)]=some (J9y a b 0):=by
 have h:=JgF
 rw[Tryz.underlying140] at h
 simp only at h
 simp only[J1P,Je7,J97,if_true,Tryz.underlying140,h]
 rfl
section
variable {id off:Nat} {h:SHeap}
theorem Jaa:J08 Tryz.prog 140 (qP id off) 0=some (qP id off):=by simp[J08,Tryz.underlying140,sz3,J0q]
theorem J6c:J08 Tryz.prog 140 (qP id off) 1=some (qP id (off+1)):=by simp[J08,Tryz.underlying140,sz3,J0q]
theorem J9Z:J08 Tryz.prog 140 (qP id off) 2=some (qP id (off+2)):=by simp[J08,Tryz.underlying140,sz3,J0q]
theorem JhB:J2x Tryz.prog h 140 (qP id off)=ldN 3 off (h.get id):=J5S aggO szO
theorem idxO {n c i:Nat} (hi:i<n):J0R Tryz.prog 138 (qS id n c) (iv (i:Int))=some (.pointer (some ⟨id,i*3,none⟩)):=by
 simp only[J0R,Tryz.underlying138,szO,J0q]
 rw[if_pos (by omega)]
 simp
theorem lenO {a:Option Addr} {n c:Nat}:lenS Tryz.prog h 138 (.slice a n c)=some (iv (n:Int)):=by simp[lenS,Tryz.underlying138]
theorem bsO {a b c:Int}:J0Q Tryz.prog h 138 1 [(0,J9y a b c)]=some (qS h.next 1 1,h.push (.row [iv a,iv b,iv c] 140 false false)):=by
 simp[J0Q,Tryz.underlying138,szO,Je7,flat,J1i,J79,J0G,J5k,J3e,Go.Sx.lay]
theorem Jhj {n k:Nat} (hk:k≤n):J2M Tryz.prog h 138 (qS id n unk) none (some (iv (k:Int))) none=some (qS id k unk):=by
 simp only[J2M,Tryz.underlying138,szO,if_true,J3a]
 rw[if_pos (by omega)]
 simp
theorem st1 {cs:List Value} {x:Int} {ty:TypeId} {g:Bool} (hg:h.get id=.row cs ty g false) (hi:off<cs.length) (hf:h.floor≤id):J0K Tryz.prog h 3 (qP id off) (iv x)=some (h.put id (.row (cs.set off (iv x)) ty g false)):=by
 have hc:(iv x).cells=#[iv x]:=rfl
 have hsz:(some 1:Option Nat)=some (#[iv x]:Array Value).size:=rfl
 simp only[J0K,hc,sz3,J1q,hg]
 rw[if_pos hsz,if_pos (by simp[one];omega),J9J hi]
noncomputable def stO3 (h:SHeap) (id:Nat) (a b c:Int):SObj→Option SHeap
 | .row [_,_,_] ty g false=>if h.floor≤id then some (h.put id (.row [iv a,iv b,iv c] ty g false)) else none
 | _=>J0K Tryz.prog h 140 (qP id 0) (J9y a b c)
theorem Ji8 {a b c:Int}:J0K Tryz.prog h 140 (qP id 0) (J9y a b c)=stO3 h id a b c (h.get id):=by
 unfold stO3
 split
 ·rename_i x y z ty g hg
  split
  ·rename_i hf
   simp[J0K,szO,J1q,hg,hf,Go.Sx.lay,Value.cells,one]
  ·rename_i hf
   simp[J0K,szO,J1q,hg,hf,Go.Sx.lay,Value.cells,one]
 ·rfl
theorem Jfd {a b c:Int} {x y z:Value} {ty:TypeId} {g:Bool}:stO3 h id a b c (.row [x,y,z] ty g false)=if h.floor≤id then some (h.put id (.row [iv a,iv b,iv c] ty g false)) else none:=rfl
end
def fr3 (f:Frame):List Value:=[iv f.kind,iv (f.left:Int),iv (f.next:Int)]
def J1L:List Frame→List Value
 | []=>[]
 | f :: s=>J1L s++fr3 f
theorem J3t:∀ s,(J1L s).length=s.length*3
 | []=>rfl
 | f :: s=>by simp[J1L,J3t s,fr3];omega
theorem J7l:∀ s,(J1L s).all one=true
 | []=>rfl
 | f :: s=>by rw[J1L,List.all_append,J7l s];rfl
def J2U (m:Nat) (h:SHeap) (v:Value) (s:List Frame):Prop:=
 (s=[]∧v=Z0)∨∃ id ex,v=qS id s.length unk∧h.get id=.row (J1L s++ex) 140 true false∧m≤id∧id<h.next
theorem J2U.len {m:Nat} {h h':SHeap} {v:Value} {s:List Frame} (hs:J2U m h v s):lenS Tryz.prog h' 138 v=some (iv (s.length:Int)):=by
 rcases hs with⟨rfl,rfl⟩ | ⟨id,ex,rfl,_⟩
 ·exact lenO
 ·exact lenO
theorem J2U.mono {m:Nat} {h h':SHeap} {v:Value} {s:List Frame} (hs:J2U m h v s) (hn:h.next≤h'.next) (hg:∀ i,m≤i→i<h.next→h'.get i=h.get i):J2U m h' v s:=by
 rcases hs with h1 | ⟨id,ex,h1,h2,h3,h4⟩
 ·exact .inl h1
 ·exact .inr ⟨id,ex,h1,by rw[hg id h3 h4];exact h2,h3,by omega⟩
theorem J2U.top {m:Nat} {h:SHeap} {v:Value} {f:Frame} {s:List Frame} (hs:J2U m h v (f :: s)) :
  ∃ id ex,v=qS id (s.length+1) unk∧h.get id=.row (J1L s++(fr3 f++ex)) 140 true false∧m≤id∧id<h.next:=by
 rcases hs with⟨h1,_⟩ | ⟨id,ex,h1,h2,h3,h4⟩
 ·cases h1
 ·exact⟨id,ex,h1,by rw[h2,J1L,List.append_assoc],h3,h4⟩
theorem J8f {s:List Frame} {f:Frame} {ex:List Value} {ty:TypeId} {g ro:Bool}:ld1 (s.length*3) (.row (J1L s++(fr3 f++ex)) ty g ro)=some (iv f.kind)∧ld1 (s.length*3+1) (.row (J1L s++(fr3 f++ex)) ty g ro)=some (iv (f.left:Int)) ∧
  ld1 (s.length*3+2) (.row (J1L s++(fr3 f++ex)) ty g ro)=some (iv (f.next:Int))∧ldN 3 (s.length*3) (.row (J1L s++(fr3 f++ex)) ty g ro)=some (J9y f.kind f.left f.next):=by
 have hl:=J3t s
 refine⟨?_,?_,?_,?_⟩
 ·simp only[ld1]
  rw[List.getElem?_append_right (by omega),show s.length*3-(J1L s).length=0 by omega]
  rfl
 ·simp only[ld1]
  rw[List.getElem?_append_right (by omega),show s.length*3+1-(J1L s).length=1 by omega]
  rfl
 ·simp only[ld1]
  rw[List.getElem?_append_right (by omega),show s.length*3+2-(J1L s).length=2 by omega]
  rfl
 ·simp only[ldN,cut]
  rw[List.drop_append_of_le_length (by omega),List.drop_of_length_le (by omega),List.nil_append]
  simp[fr3]
theorem Jeg {s:List Frame} {f:Frame} {ex:List Value} {x:Nat}:(J1L s++(fr3 f++ex)).set (s.length*3+2) (iv (x:Int))=J1L s++(fr3 ⟨f.kind,f.left,x⟩++ex):=by
 have hl:=J3t s
 rw[List.set_append_right _ _ (by omega),show s.length*3+2-(J1L s).length=2 by omega]
 rfl
theorem Jfg {s:List Frame} {f:Frame} {ex:List Value} {x:Nat}:(J1L s++(fr3 f++ex)).set (s.length*3+1) (iv (x:Int))=J1L s++(fr3 ⟨f.kind,x,f.next⟩++ex):=by
 have hl:=J3t s
 rw[List.set_append_right _ _ (by omega),show s.length*3+1-(J1L s).length=1 by omega]
 rfl
theorem J8Z {m:Nat} {h:SHeap} {v:Value} {s:List Frame} {a b c:Int} {f:Frame} (hf1:fr3 f=[iv a,iv b,iv c]) (hs:J2U m h v s) (hf:h.floor≤m) (hm:m≤h.next) (hl:s.length<1000000000) :
  ∃ v' h',J1o Tryz.prog (h.push (.row [iv a,iv b,iv c] 140 false false)) 138 v (qS h.next 1 1)=some (v',h')∧J2U m h' v' (f :: s)∧h'.floor=h.floor∧h.next≤h'.next∧∀ i,i<m→h'.get i=h.get i:=by
 have hnew:(h.push (.row [iv a,iv b,iv c] 140 false false)).get h.next=.row [iv a,iv b,iv c] 140 false false:=J0h
 have hold:∀ i,i<h.next→(h.push (.row [iv a,iv b,iv c] 140 false false)).get i=h.get i:=fun i hi=>J06 hi
 have hfl1:(h.push (.row [iv a,iv b,iv c] 140 false false)).floor=h.floor:=rfl
 have hnx1:(h.push (.row [iv a,iv b,iv c] 140 false false)).next=h.next+1:=rfl
 generalize h.push (.row [iv a,iv b,iv c] 140 false false)=h1 at *
 have hsrc:J16 h1 3 1 (qS h.next 1 1)=some [iv a,iv b,iv c]:=by simp[J16,hnew,cut]
 have hz:(Value.agg #[iv 0,iv 0,iv 0]).cells.size=3:=rfl
 have hone:([iv a,iv b,iv c]:List Value).all one=true:=rfl
 have hlen:=J3t s
 rcases hs with⟨rfl,rfl⟩ | ⟨id,ex,rfl,hg,hid,hidn⟩
 ·refine⟨qS h1.next 1 unk,h1.push (.row [iv a,iv b,iv c] 140 true false),?_,.inr ⟨h1.next,[],rfl,?_,by omega,by show h1.next<h1.next+1;omega⟩,hfl1,by show h.next≤h1.next+1;omega,fun i hi=>by rw[J06 (by omega),hold i (by omega)]⟩
  ·have hu:(0:Nat)≠unk:=by unfold unk;omega
   have h0:J16 h1 3 0 (Z0)=some []:=rfl
   simp only[J1o,Tryz.underlying138,szO,byO,Je7,hz,hsrc,hone,hu,h0,show (0<3)=True by simp,decide_true,beq_self_eq_true,Bool.and_self,if_true,if_false,Nat.le_refl,Nat.zero_add,Nat.zero_mul,show (1≤0)=False by simp,Nat.zero_le,List.nil_append,Nat.one_mul,show (24≤140737488355328)=True by simp,show (1≤140737488355328)=True by simp]
  ·rw[J0h,List.append_nil,J1L,hf1]
   rfl
 ·have e1:(s.length+1)*24≤140737488355328:=by omega
  have e2:s.length+1≤140737488355328:=by omega
  have e3:h1.floor≤id:=by omega
  have e4:s.length≤unk:=by unfold unk;omega
  have hg1:h1.get id=.row (J1L s++ex) 140 true false:=by rw[hold id hidn];exact hg
  have hcut:cut (J1L s++ex) 0 (s.length*3)=some (J1L s):=by
   simp only[cut,List.drop_zero]
   rw[List.take_append_of_le_length (by omega),List.take_of_length_le (by omega),if_pos hlen]
  refine⟨qS h1.next (s.length+1) unk,(h1.put id .dead).push (.row (J1L s++[iv a,iv b,iv c]) 140 true false),?_,.inr ⟨h1.next,[],rfl,?_,by omega,by show h1.next<h1.next+1;omega⟩,hfl1,by show h.next≤h1.next+1;omega,fun i hi=>?_⟩
  ·simp only[J1o,Tryz.underlying138,szO,byO,Je7,hz,hsrc,hone,e1,e2,e3,e4,hg1,hcut,J7l,decide_true,Bool.and_self,beq_self_eq_true,show (0<3)=True by simp,if_true,Nat.one_ne_zero,if_false]
  ·rw[List.append_nil,J1L,hf1]
   exact J0h
  ·rw[J06 (by show i<h1.next;omega),J05 (by omega) (by omega),hold i (by omega)]
end Go.Proofs.YtdejoodfeljmkaaGreatDoor
