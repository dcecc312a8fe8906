/- Part 11 of what the claim leans on: 5 texts laid one behind another. -/
import Derived.Test.YtipekdhneagdbaaDoorNO10
namespace Go.Proofs.YtipekdhneagdbaaDoor
open Go Go.Sx
set_option maxRecDepth 100000
set_option linter.unusedSimpArgs false
set_option linter.unusedVariables false
set_option maxHeartbeats 64000000
structure KZ (h h2:AA):Prop where
 next:h2.next=h.next
 floor:h2.floor=h.floor
 get:∀ i,h2.get i=h.get i∨(h.floor≤i∧i<h.next∧∃ cs ex ty,h.get i=.row (cs++ex) ty true false∧h2.get i=.row cs ty true false)
theorem KZ.refl (h:AA):KZ h h:=⟨rfl,rfl,fun _=>.inl rfl⟩
theorem KZ.trans {h h2 h3:AA} (a:KZ h h2) (b:KZ h2 h3):KZ h h3:=
 ⟨b.next.trans a.next,b.floor.trans a.floor,fun i=>by
  rcases b.get i with e | ⟨l1,l2,cs,ex,ty,e1,e2⟩
  ·rw[e]
   exact a.get i
  ·rcases a.get i with f | ⟨m1,m2,cs',ex',ty',f1,f2⟩
   ·exact .inr ⟨by have:=a.floor;omega,by have:=a.next;omega,cs,ex,ty,by rw[← f];exact e1,e2⟩
   ·rw[e1] at f2
    cases f2
    exact .inr ⟨m1,m2,cs,ex++ex',ty,by rw[f1,List.append_assoc],e2⟩⟩
theorem Jf {P:Program} {ρ:AX} {h h2:AA} {W:World} (hR:BK P ρ h W) (hc:KZ h h2):Nx P ρ h W ρ h2 W:=by
 have hw:∀ i,wr (h2.get i)→wr (h.get i):=fun i hw=>by
  rcases hc.get i with e | ⟨_,_,cs,ex,ty,e1,e2⟩
  ·rwa [e] at hw
  ·rw[e1];rfl
 have hl:∀ i,live (h2.get i)→live (h.get i):=fun i hw=>by
  rcases hc.get i with e | ⟨_,_,cs,ex,ty,e1,e2⟩
  ·rwa [e] at hw
  ·rw[e1];trivial
 refine⟨fun _ _ h=>h,fun _ _=>rfl,⟨rfl,fun i hi=>hR.dom i (by have:=hc.next;omega),hR.glob,fun i=>?_,fun i j L L' a b=>hR.inj i j L L' (hw i a) (hl j b)⟩,Fr.refl _ _ _,by have:=hc.next;omega,hc.floor,fun i _ hf=>?_,fun i _=>hw i,fun i _=>hl i,fun i L hi hv hL=>?_⟩
 ·rcases hc.get i with e | ⟨_,_,cs,ex,ty,e1,e2⟩
  ·rw[e]
   exact hR.obj i
  ·have:=hR.obj i
   rw[e1] at this
   obtain⟨L,CS,ty',fr,a,b,c,d⟩:=this
   rw[e2]
   refine⟨L,CS,ty',fr,a,b,fun k v hk=>c k v ?_,d⟩
   rw[List.getElem?_append_left (List.getElem?_eq_some_iff.1 hk).1]
   exact hk
 ·rcases hc.get i with e | ⟨l1,_⟩
  ·exact e
  ·omega
 ·rw[hR.dom i hi] at hL
  cases hL
theorem Hn {h h2:AA} (hc:KZ h h2):DG h h2:=⟨by have:=hc.next;omega,hc.floor,fun i hi hf=>by
 rcases hc.get i with e | ⟨l1,_⟩
 ·exact e
 ·omega⟩
def TG (args:List Value) (h h2:AA):Prop:=∃ nm vr vq vv vt vu vo ms nn n1 n2 n3 n4 n5 n6,args=[.agg #[.string nm,vr,vq,vv,vt,vu,vo,iv ms],iv nn]∧KZ h h2∧(∀ i,(∀ v∈[vr,vq,vv,vt,vu,vo],∀ n c,v≠qS i n c)→h2.get i=h.get i) ∧
 G0 h2 vr n1 5 46∧0<n1∧G0 h2 vq n2 2 57∧G0 h2 vv n3 1 9∧G0 h2 vt n4 1 9∧G0 h2 vu n5 1 3∧G0 h2 vo n6 1 3
open Classical in
noncomputable def LI:AK:=fun f args h=>if hc:f=36∧∃ h2,TG args h h2 then some (.tuple #[],hc.2.choose) else none
theorem bK {f:FuncId} {args:List Value} {h h':AA} {v:Value} (hs:LI f args h=some (v,h')):f=36∧v=.tuple #[]∧TG args h h':=by
 unfold LI at hs
 split at hs
 ·rename_i hc
  cases hs
  exact⟨hc.1,rfl,hc.2.choose_spec⟩
 ·cases hs
theorem zH:CR Tryd.prog LI∧BZ LI:=by
 refine⟨fun f args h v h' hs=>?_,fun f args h v h' hs=>?_⟩
 ·obtain⟨rfl,rfl,nm,vr,vq,vv,vt,vu,vo,ms,nn,n1,n2,n3,n4,n5,n6,rfl,hc,_,h1,h1p,h2,h3,h4,h5,h6⟩:=bK hs
  refine⟨⟨_,_,Tryd.func36,rfl,by kernel_rfl⟩,fun ρ W ARGS hR hargs=>?_⟩
  have hN:=Jf hR hc
  exact(Cq h1 h1p h2 h3 h4 h5 h6 hN.rel hargs).mono fun e W' ⟨V,ρ',he,hN2,hv⟩=>⟨V,ρ',he,hN.trans hR hN2,hv⟩
 ·obtain⟨_,_,_,_,_,_,_,_,_,_,_,_,_,_,_,_,_,_,hc,_⟩:=bK hs
  exact Hn hc
def wN (j:Nat):Nat:=if j=1 then 5 else if j=2 then 2 else 1
def K8 (j:Nat):TypeId:=if j=1 then 46 else if j=2 then 57 else if j≤4 then 9 else 3
def CM (h:AA) (lo up:Nat) (tag:Nat→Nat) (v:Nat→Value) (n:Nat→Nat) (c:Nat→List Value):Prop:=
 ∀ j,1≤j→j≤6→(c j).length=n j*wN j∧n j<1000000∧((n j=0∧v j=Z0)∨∃ id ex,v j=qS id (n j) AG∧h.get id=.row (c j++ex) (K8 j) true false∧lo≤id∧id<up∧tag id=j)
section
variable {h h':AA} {lo up:Nat} {tag:Nat→Nat} {v:Nat→Value} {n:Nat→Nat} {c:Nat→List Value}
theorem CM.mono (hS:CM h lo up tag v n c) (hg:∀ i,lo≤i→i<up→h'.get i=h.get i):CM h' lo up tag v n c:=fun j h1 h2=>by
 obtain⟨a,b,hor⟩:=hS j h1 h2
 refine⟨a,b,?_⟩
 rcases hor with h9 | ⟨id,ex,e1,e2,e3,e4,e5⟩
 ·exact .inl h9
 ·exact .inr ⟨id,ex,e1,by rw[hg id e3 e4];exact e2,e3,e4,e5⟩
theorem CM.put (hS:CM h lo up tag v n c) (hup:up≤h.next) {j id:Nat} {ex cs:List Value} {m q:Nat} (hj1:1≤j) (hj2:j≤6) (hv:v j=qS id m q) (hl:cs.length=(c j).length) (ht:tag id=j) (hid:lo≤id∧id<up) :
  CM (h.put id (.row (cs++ex) (K8 j) true false)) lo up tag v n (fun k=>if k=j then cs else c k):=fun k h1 h2=>by
 obtain⟨a,b,hor⟩:=hS k h1 h2
 by_cases e:k=j
 ·subst e
  simp only[if_true]
  refine⟨hl.trans a,b,?_⟩
  rcases hor with h9 | ⟨id',ex',e1,e2,e3,e4,e5⟩
  ·rw[h9.2] at hv
   cases hv
  ·rw[e1] at hv
   cases hv
   exact .inr ⟨_,ex,e1,CE rfl (by omega),hid.1,hid.2,ht⟩
 ·simp only[if_neg e]
  refine⟨a,b,?_⟩
  rcases hor with h9 | ⟨id',ex',e1,e2,e3,e4,e5⟩
  ·exact .inl h9
  ·have hne:id≠id':=by
    rintro rfl
    omega
   exact .inr ⟨id',ex',e1,by rw[AQ (by omega) hne];exact e2,e3,e4,e5⟩
theorem mL (hS:CM h lo up tag v n c) (hf:h.floor≤lo) (hup:up≤h.next):∀ m,m≤6→∃ h2,KZ h h2∧CM h2 lo up tag v n c∧(∀ j id q r,1≤j→j≤m→v j=qS id q r→h2.get id=.row (c j) (K8 j) true false)∧∀ i,(∀ j,1≤j→j≤6→∀ q r,v j≠qS i q r)→h2.get i=h.get i
 | 0,_=>⟨h,KZ.refl h,hS,fun j id q r h1 h2=>by omega,fun _ _=>rfl⟩
 | m + 1,hm=>by
  obtain⟨h2,a1,a2,a3,a4⟩:=mL hS hf hup m (by omega)
  obtain⟨b1,b2,b3⟩:=a2 (m+1) (by omega) hm
  rcases b3 with⟨h9,e9⟩ | ⟨id,ex,e1,e2,e3,e4,e5⟩
  ·refine⟨h2,a1,a2,fun j id q r h1 hj hv=>?_,a4⟩
   by_cases e:j=m+1
   ·subst e
    rw[e9] at hv
    cases hv
   ·exact a3 j id q r h1 (by omega) hv
  ·have hn2:=a1.next
   have hf2:=a1.floor
   have hlt:id<h2.next:=by omega
   have hput:=a2.put (ex:=[]) (cs:=c (m+1)) (by omega) (by omega) hm e1 rfl e5 ⟨e3,e4⟩
   rw[List.append_nil] at hput
   have hcc:(fun k=>if k=m+1 then c (m+1) else c k)=c:=by
    funext k
    by_cases e:k=m+1
    ·subst e;simp
    ·simp[e]
   rw[hcc] at hput
   refine⟨h2.put id (.row (c (m+1)) (K8 (m+1)) true false),a1.trans ⟨rfl,rfl,fun i=>?_⟩,hput,fun j id' q r h1 hj hv=>?_,fun i hi=>?_⟩
   ·by_cases e:id=i
    ·subst e
     exact .inr ⟨by omega,hlt,_,ex,_,e2,CE rfl hlt⟩
    ·exact .inl (AQ hlt e)
   ·by_cases e:j=m+1
    ·subst e
     rw[e1] at hv
     cases hv
     exact CE rfl hlt
    ·have hne:id≠id':=by
      rintro rfl
      obtain⟨_,_,hor⟩:=hS j h1 (by omega)
      rcases hor with⟨_,h9⟩ | ⟨id2,_,f1,_,_,_,f5⟩
      ·rw[h9] at hv;cases hv
      ·rw[f1] at hv
       cases hv
       omega
     rw[AQ hlt hne]
     exact a3 j id' q r h1 (by omega) hv
   ·have hne:id≠i:=by
     rintro rfl
     exact hi (m+1) (by omega) hm _ _ e1
    rw[AQ hlt hne]
    exact a4 i hi
abbrev NB (nm:ByteArray) (v:Nat→Value) (ms:Int):Value:=.agg #[.string nm,v 1,v 2,v 3,v 4,v 5,v 6,iv ms]
theorem P_ (hS:CM h lo up tag v n c) (hf:h.floor≤lo) (hup:up≤h.next) {j w:Nat} {ty:TypeId} (h1:1≤j) (h2:j≤6) (hx:∀ id q r,v j=qS id q r→h.get id=.row (c j) (K8 j) true false) (hw:wN j=w) (ht:K8 j=ty):G0 h (v j) (n j) w ty:=by
 obtain⟨a,b,hor⟩:=hS j h1 h2
 rcases hor with h9 | ⟨id,ex,e1,e2,e3,e4,e5⟩
 ·exact .inl ⟨h9.2,h9.1⟩
 ·exact .inr ⟨id,c j,e1,by rw[hx id _ _ e1,ht],by rw[a,hw],by omega,by omega,b⟩
theorem QG (hS:CM h lo up tag v n c) (hc:KZ h h') {j w m:Nat} {ty:TypeId} (h1:1≤j) (h2:j≤6) (hl:G0 h' (v j) m w ty) (hw:wN j=w) (ht:K8 j=ty) :
  (c j).length=n j*wN j∧n j<1000000∧((n j=0∧v j=Z0)∨∃ id ex,v j=qS id (n j) AG∧h'.get id=.row (c j++ex) (K8 j) true false∧lo≤id∧id<up∧tag id=j):=by
 obtain⟨a,b,hor⟩:=hS j h1 h2
 refine⟨a,b,?_⟩
 rcases hor with h9 | ⟨id,ex,e1,e2,e3,e4,e5⟩
 ·exact .inl h9
 ·rcases hl with⟨h9,_⟩ | ⟨id',cs,f1,f2,f3,_⟩
  ·rw[h9] at e1;cases e1
  ·rw[f1] at e1
   cases e1
   rcases hc.get id with g | ⟨_,_,cs',ex',ty',g1,g2⟩
   ·exact .inr ⟨id,ex,f1,by rw[g];exact e2,e3,e4,e5⟩
   ·rw[e2] at g1
    injection g1 with hcat hty
    rw[f2] at g2
    injection g2 with g3 _
    subst g3
    have hlen:cs.length=(c j).length:=by rw[f3,a,hw]
    have:c j=cs:=by
     have:=congrArg (List.take (c j).length) hcat
     rw[List.take_left,← hlen,List.take_left] at this
     exact this
    exact .inr ⟨id,[],f1,by rw[List.append_nil,this,f2,ht],e3,e4,e5⟩
theorem wC (hS:CM h lo up tag v n c) (hf:h.floor≤lo) (hup:up≤h.next) (hn1:0<n 1) {nm:ByteArray} {ms nn:Int} :
  ∃ h',LI 36 [NB nm v ms,iv nn] h=some (.tuple #[],h')∧CM h' lo up tag v n c∧h'.next=h.next∧h'.floor=h.floor∧∀ i,(i<lo∨up≤i)→h'.get i=h.get i:=by
 obtain⟨h2,a1,a2,a3,a4⟩:=mL hS hf hup 6 (by omega)
 have hn2:=a1.next
 have hf2:=a1.floor
 have hx:∀ j,1≤j→j≤6→∀ id q r,v j=qS id q r→h2.get id=.row (c j) (K8 j) true false:=fun j h1 h2 id q r=>a3 j id q r h1 h2
 have hto:TG [NB nm v ms,iv nn] h h2:=⟨nm,v 1,v 2,v 3,v 4,v 5,v 6,ms,nn,n 1,n 2,n 3,n 4,n 5,n 6,rfl,a1,fun i hi=>a4 i fun j h1 h2=>by
   have:j=1∨j=2∨j=3∨j=4∨j=5∨j=6:=by omega
   rcases this with rfl | rfl | rfl | rfl | rfl | rfl <;> exact hi _ (by simp),
  P_ a2 (by omega) (by omega) (by omega) (by omega) (hx 1 (by omega) (by omega)) rfl rfl,hn1,P_ a2 (by omega) (by omega) (by omega) (by omega) (hx 2 (by omega) (by omega)) rfl rfl,P_ a2 (by omega) (by omega) (by omega) (by omega) (hx 3 (by omega) (by omega)) rfl rfl,P_ a2 (by omega) (by omega) (by omega) (by omega) (hx 4 (by omega) (by omega)) rfl rfl,P_ a2 (by omega) (by omega) (by omega) (by omega) (hx 5 (by omega) (by omega)) rfl rfl,P_ a2 (by omega) (by omega) (by omega) (by omega) (hx 6 (by omega) (by omega)) rfl rfl⟩
 have hc:36=36∧∃ h2,TG [NB nm v ms,iv nn] h h2:=⟨rfl,h2,hto⟩
 obtain⟨h',hs⟩:∃ h',LI 36 [NB nm v ms,iv nn] h=some (.tuple #[],h'):=by
  unfold LI
  rw[dif_pos hc]
  exact⟨_,rfl⟩
 obtain⟨_,_,nm',vr,vq,vv,vt,vu,vo,ms',nn',n1,n2,n3,n4,n5,n6,ea,b1,b2,l1,_,l2,l3,l4,l5,l6⟩:=bK hs
 simp only[List.cons.injEq,Value.agg.injEq,Array.mk.injEq,and_true] at ea
 obtain⟨⟨_,rfl,rfl,rfl,rfl,rfl,rfl,_⟩,_⟩:=ea
 refine⟨h',hs,fun j h1 h2=>?_,b1.next,b1.floor,fun i hi=>b2 i fun x hx q r hxe=>?_⟩
 ·have:j=1∨j=2∨j=3∨j=4∨j=5∨j=6:=by omega
  rcases this with rfl | rfl | rfl | rfl | rfl | rfl
  ·exact QG hS b1 h1 h2 l1 rfl rfl
  ·exact QG hS b1 h1 h2 l2 rfl rfl
  ·exact QG hS b1 h1 h2 l3 rfl rfl
  ·exact QG hS b1 h1 h2 l4 rfl rfl
  ·exact QG hS b1 h1 h2 l5 rfl rfl
  ·exact QG hS b1 h1 h2 l6 rfl rfl
 ·have key:∀ j,1≤j→j≤6→v j≠qS i q r:=fun j h1 h2 hv=>by
   obtain⟨_,_,hor⟩:=hS j h1 h2
   rcases hor with⟨_,h9⟩ | ⟨id,_,f1,_,f3,f4,_⟩
   ·rw[h9] at hv;cases hv
   ·rw[f1] at hv
    cases hv
    omega
  simp only[List.mem_cons,List.not_mem_nil,or_false] at hx
  rcases hx with rfl | rfl | rfl | rfl | rfl | rfl
  ·exact key 1 (by omega) (by omega) hxe
  ·exact key 2 (by omega) (by omega) hxe
  ·exact key 3 (by omega) (by omega) hxe
  ·exact key 4 (by omega) (by omega) hxe
  ·exact key 5 (by omega) (by omega) hxe
  ·exact key 6 (by omega) (by omega) hxe
end
def JU (s:AN):Prop:=s.things.length=s.queues.length+s.vars.length+s.tags.length+s.rules.length
theorem Gt (l:List AB):JU (A_ l):=rfl
theorem yH {at_:Nat} {end_:Int} {x:AB} {s:AN} (h:JU s):JU (BD at_ end_ x s):=by
 unfold BD
 split
 ·exact h
 ·rename_i hd
  have hk:=PS x.kind
  unfold JU at h ⊢
  simp only[DJ,List.length_append,List.length_cons,List.length_nil]
  obtain h1 | h1 | h1 | h1:BJ x.kind=1∨BJ x.kind=2∨BJ x.kind=3∨BJ x.kind=4:=by omega
  all_goals (rw[h1];simp;omega)
theorem Fz {at_:Nat} {x:AB} {s:AN} (h:JU s):JU (BM at_ x s):=by
 unfold BM
 split
 ·exact h
 ·split <;> exact h
theorem En {at_:Nat} {x:AB} {s:AN} (h:JU s):JU (CQ at_ x s):=by
 unfold CQ
 split
 ·exact h
 ·split <;> exact h
theorem Fm {E:List Int} {at_:Nat} {s:AN} (h:JU s):JU (DX E at_ s).2:=by
 unfold DX
 (repeat' split) <;> first | exact h | exact En (Fz (yH h))
theorem Bk {s:AN} (h:JU s) (hw:I7 s):s.things.length<100000:=by
 have:=hw.q;have:=hw.v;have:=hw.t;have:=hw.u
 unfold JU at h
 omega
theorem qA {S Z:List Int} {k:Int} (h0:0≤k) (h1:k<S.length):KA (S++Z) k=KA S k:=by
 unfold KA
 rw[List.getElem?_append_left (by omega)]
theorem l_ {S Z:List Int}:∀ (l:List AB) (a:Int),(∀ x∈l,x.kind=22→0≤x.n∧x.n<S.length)→FY (S++Z) l a=FY S l a
 | [],a,_=>rfl
 | x :: l,a,h=>by
  have ih:=fun b=>l_ (S:=S) (Z:=Z) l b fun y hy=>h y (List.mem_cons_of_mem _ hy)
  unfold FY
  rw[ih]
  by_cases h22:x.kind=22
  ·rw[if_pos h22,if_pos h22,qA (h x (.head _) h22).1 (h x (.head _) h22).2]
  ·rw[if_neg h22,if_neg h22]
theorem Dh {rows:List AB} {E rules:List Int} (hL:S9 rows E rules):IV rows E rules []=G5 rows E rules:=by
 have key:∀ (r S:List Int),(∃ pre,rules=pre++r∧pre.length=S.length)→LX rows E r S.length (S++List.replicate r.length 0)=IV rows E r S:=by
  intro r
  induction r with
  | nil=>intro S _;simp[LX,IV]
  | cons ru r ih=>
   rintro S ⟨pre,hp,hl⟩
   have hru:rules[S.length]?=some ru:=by rw[hp,← hl,List.getElem?_append_right (Nat.le_refl _),Nat.sub_self];rfl
   have hrl:=hL.lay.rl ru (List.mem_of_getElem? hru)
   have hc:D4 rows E (S++List.replicate (ru :: r).length 0) ru.toNat=D4 rows E S ru.toNat:=by
    unfold D4
    refine l_ _ _ fun x hx h22=>?_
    have h1:=hL.ahead _ _ hru x hx h22
    have h2:=hL.lay.calls x (List.mem_of_mem_drop (List.mem_of_mem_take hx)) h22
    exact⟨h2.1,h1⟩
   unfold LX IV
   rw[hc]
   have:(S++List.replicate (ru :: r).length 0).set S.length (D4 rows E S ru.toNat)=(S++[D4 rows E S ru.toNat])++List.replicate r.length 0:=by
    rw[List.set_append_right _ _ (Nat.le_refl _),Nat.sub_self,List.length_cons,List.replicate_succ,List.set_cons_zero,List.append_assoc]
    rfl
   rw[this]
   have:=ih (S++[D4 rows E S ru.toNat]) ⟨pre++[ru],by rw[hp];simp,by simp[hl]⟩
   rw[List.length_append,List.length_cons,List.length_nil] at this
   exact this
 have:=key rules [] ⟨[],rfl,rfl⟩
 exact this.symm
theorem E6.trans {h H H':AA} {lo:Nat} (a:E6 h H lo) (b:E6 H H' lo):E6 h H' lo:=⟨fun i hi=>(b.1 i hi).trans (a.1 i hi),Nat.le_trans a.2.1 b.2.1,b.2.2.trans a.2.2⟩
theorem E6.refl (h:AA) (lo:Nat):E6 h h lo:=⟨fun _ _=>rfl,Nat.le_refl _,rfl⟩
noncomputable def cH:Code:=inB (U1 Tryd.f17 1)
noncomputable def oN:Code:=rt (rt (rt (rt cH)))
section
variable {n N:Nat}
theorem TB {T:Tr} {H:AA} {K:BS} {a lo m e r L at_:Nat} {nm:ByteArray} {E:List Int} {s:AN} {x:AB} {e1 κ:Int} (hκ:1≤κ∧κ≤54) (hn:100020<n) (hat:at_<2932031007403)
  (t2:T.get 2=qP a 0) (t3:T.get 3=qP (a+1) 0) (t5:T.get 5=qP m 0) (t6:T.get 6=iv at_) (t7:T.get 7=iv e1) (t8:T.get 8=iv κ)
  (hp:e1=0→E2 H lo m e r L nm E s∧s.rows[at_]?=some x∧x.kind=κ∧(DU x.kind=true→x.kind≠10→0≤x.n∧x.n<s.on.length)) (ha:a+1<lo) (hlo:lo≤H.next) (hout:D2 a H BR 0 0) (hfa:H.floor≤a)
  (hbad:∀ e',e'≠0→((e1≠0∧e'=e1)∨(e1=0∧e'=CH x s))→∀ T' H',T'.get 2=qP a 0→T'.get 3=qP (a+1) 0→D2 a H' BR e' at_→H.next≤H'.next→H'.floor=H.floor→(∀ i,i<a→H'.get i=H.get i)→K.ap Tryd.prog (AU n) N .ret ⟨T',H'⟩)
  (hgood:e1=0→CH x s=0→∀ T' H',(∀ t:Nat,t≤6→T'.get t=T.get t)→E2 H' lo m e r L nm E (CQ at_ x s)→E6 H H' lo→K.ap Tryd.prog (AU n) N .normal ⟨T',H'⟩) :
  WK Tryd.prog (AU n) N oN ⟨T,H⟩ K:=by
 show WK _ _ _ (.seq (.seq _ _) (.seq _ _)) _ _
 cases d:(e1 != 0) with
 | true=>
  have d1:(e1==0)=false:=by simpa using d
  have e0:e1≠0:=by simpa using d
  obtain⟨H',s1,s2,r1,r2,r3,r4⟩:=MW hout rfl (by omega) (by omega) (cs':=BR) rfl rfl (e':=e1) (p':=at_)
  simp only[eE,seval,↓eP,t2,t3,t6,t7,d,d1,PT,OA,s1,s2]
  refine hbad e1 e0 (.inl ⟨e0,rfl⟩) _ _ ?_ ?_ r1 (by omega) r3 fun i hi=>r4 i (by omega) (by omega)
  ·simp only[eE,seval,↓eP,rP,t2]
  ·simp only[eE,seval,↓eP,rP,t3]
 | false=>
  have e0:e1=0:=by simpa using d
  subst e0
  obtain⟨hp1,hx,hk,hxn⟩:=hp rfl
  have hV:=FW (n:=n) (F4 (k:=12) (YK κ H hκ))
  have z0:((0:Int)==0)=true:=rfl
  cases dv:DU κ with
  | false=>
   rw[dv] at hV
   rw[← hk] at dv
   have h1:CH x s=0:=by unfold CH;rw[if_pos dv]
   have h2:CQ at_ x s=s:=by unfold CQ;rw[if_pos dv]
   simp only[eE,seval,↓eP,t7,t8,d,hV]
   refine hgood rfl h1 _ _ (fun t ht=>?_) (by rw[h2];exact hp1) (E6.refl _ _)
   simp only[Tr.get_put,Option.some.injEq]
   repeat rw[if_neg (by omega)]
  | true=>
   rw[dv] at hV
   rw[← hk] at dv
   obtain⟨H2,q1,q2,q3⟩:=Jx (n:=n) (at_:=at_) hp1 hx dv (by omega) (hxn dv) (by omega)
   have n2:=q2.2.1
   have f2:=q2.2.2
   have hout2:D2 a H2 BR 0 0:=hout.mono (q2.1 a (by omega)) (q2.1 (a+1) ha)
   cases d2:(CH x s != 0) with
   | true=>
    have e2:CH x s≠0:=by simpa using d2
    obtain⟨H',s1,s2,r1,r2,r3,r4⟩:=MW hout2 rfl (by omega) (by omega) (cs':=BR) rfl rfl (e':=CH x s) (p':=at_)
    simp only[eE,seval,↓eP,t2,t3,t5,t6,t7,t8,hV,q1,d2,PT,OA,s1,s2]
    refine hbad _ e2 (.inr ⟨rfl,rfl⟩) _ _ ?_ ?_ r1 (by omega) (by omega) fun i hi=>by rw[r4 i (by omega) (by omega),q2.1 i (by omega)]
    ·simp only[eE,seval,↓eP,rP,t2]
    ·simp only[eE,seval,↓eP,rP,t3]
   | false=>
    have e2:CH x s=0:=by simpa using d2
    simp only[eE,seval,↓eP,t5,t6,t7,t8,hV,q1,d2]
    refine hgood rfl e2 _ _ (fun t ht=>?_) (q3 e2) q2
    simp only[Tr.get_put,Option.some.injEq]
    repeat rw[if_neg (by omega)]
theorem Jc {l:List AB} {v:Value} {T:Tr} {H:AA} {K:BS} {a lo m e r at_:Nat} {nm:ByteArray} {s:AN} {x:AB} (ht:CU l) (hL:l.length<2932031007403) (hn:100020<n) (hat:at_<l.length)
  (t0:T.get 0=v) (t2:T.get 2=qP a 0) (t3:T.get 3=qP (a+1) 0) (t5:T.get 5=qP m 0) (t6:T.get 6=iv at_) (hv:AL H v l)
  (hp:E2 H lo m e r l.length nm (AI l) s) (hi:FQ l at_ s) (hT:JU s) (hx:s.rows[at_]?=some x) (ha:a+1<lo) (hlo:lo≤H.next) (hout:D2 a H BR 0 0) (hfa:H.floor≤a)
  (hbad:(DX (AI l) at_ s).1≠0→∀ T' H',T'.get 2=qP a 0→T'.get 3=qP (a+1) 0→D2 a H' BR (DX (AI l) at_ s).1 at_→H.next≤H'.next→H'.floor=H.floor→(∀ i,i<a→H'.get i=H.get i)→K.ap Tryd.prog (AU n) N .ret ⟨T',H'⟩)
  (hgood:(DX (AI l) at_ s).1=0→∀ T' H',(∀ t:Nat,t≤6→T'.get t=T.get t)→E2 H' lo m e r l.length nm (AI l) (DX (AI l) at_ s).2→E6 H H' lo→K.ap Tryd.prog (AU n) N .normal ⟨T',H'⟩) :
  WK Tryd.prog (AU n) N cH ⟨T,H⟩ K:=by
 have hkind:=TD ht hi x (List.mem_of_getElem? hx)
 have hxl:l[at_]?=some x:=by rw[← hi.later at_ (Nat.le_refl _)];exact hx
 have hth:=Bk hT hi.wf
 have hEat:(AI l)[at_]?=some (BV l at_:Int):=MF hat
 have hEd:((AI l)[at_]?).getD 0=(BV l at_:Int):=by rw[hEat];rfl
 have hD:=fun H=>FW (n:=n) (F4 (k:=12) (Fe x.kind H hkind))
 have hC:=fun H=>FW (n:=n) (F4 (k:=12) (Gp x.kind H hkind))
 have hV:=fun H=>FW (n:=n) (F4 (k:=12) (YK x.kind H hkind))
 have z0:((0:Int) != 0)=false:=rfl
 have hnx:=hi.wf
 obtain⟨rid,p,e0,hid,l0,l1,l2,l3,l4,lr⟩:=hv.row hxl
 show WK _ _ _ (.seq _ (.seq _ (.seq (.seq _ _) (.seq (.seq _ _) oN)))) _ _
 by_cases hd:BJ x.kind=0
 ·rw [hd] at hD
  rw[lR hx hd] at hbad hgood
  have hxn:∀ x2 s2,CA at_ x s=0→(BM at_ x s).rows[at_]?=some x2→s2=BM at_ x s→I7 s2→x2.kind=x.kind→DU x2.kind=true→x2.kind≠10→0≤x2.n∧x2.n<s2.on.length:=by
   intro x2 s2 hc hx2 hs2 hw hk2 hev h10
   obtain⟨n2,a1,a2,a3,a4,a5,a6⟩:=U4 hx hc
   rw[a1] at hx2
   cases hx2
   have hdd:=kE (k:=x.kind) hev h10
   rcases a6 with⟨b1,_⟩ | ⟨t,b1,b2,b3,_⟩
   ·rw[hdd.1] at b1
    cases b1
   ·rw[hdd.1] at b2
    rw[← a5,← hs2] at b1
    obtain⟨_,_,q1,q2,_⟩:=hw.th t b1
    rw[b2] at q2
    have q3:t.num<(s2.queues.length:Int):=q2
    rw[← hw.o] at q3
    simp only
    rw[b3]
    exact⟨q1,q3⟩
  by_cases hc:C8 x.kind=0
  ·rw[hc] at hC
   have h1:CA at_ x s=0:=by unfold CA;rw[if_pos hc]
   have h2:BM at_ x s=s:=by unfold BM;rw[if_pos hc]
   rw[h1,h2] at hbad hgood
   rw[if_neg (by simp),hx] at hbad hgood
   simp only at hbad hgood
   simp only[eE,seval,↓eP,t0,t6,e0,F6,CO,l0,hD,hC,z0]
   refine TB (e1:=0) (κ:=x.kind) (x:=x) (s:=s) (E:=AI l) (lo:=lo) (m:=m) hkind hn (by omega) (by simp only[eE,seval,↓eP,rP,t2]) (by simp only[eE,seval,↓eP,rP,t3]) (by simp only[eE,seval,↓eP,rP,t5]) (by simp only[eE,seval,↓eP,rP,t6]) (by simp only[eE,seval,↓eP,rP]) (by simp only[eE,seval,↓eP,rP]) (fun _=>⟨hp,hx,rfl,fun hev h10=>hxn x s h1 (by rw[h2];exact hx) h2.symm hi.wf rfl hev h10⟩) ha hlo hout hfa ?_ ?_
   ·rintro e' he' (⟨h,_⟩ | ⟨_,rfl⟩)
    ·exact absurd rfl h
    ·rw[if_pos he'] at hbad
     exact hbad he'
   ·intro _ hev T' H' hk' hp' ha'
    rw[if_neg (by rw[hev];simp)] at hgood
    refine hgood rfl T' H' (fun t ht=>?_) hp' ha'
    rw[hk' t ht]
    simp only[Tr.get_put,Option.some.injEq]
    repeat rw[if_neg (by omega)]
  ·have d2:(C8 x.kind != 0)=true:=by simpa using hc
   obtain⟨H2,q1,q2,q3⟩:=Jz (n:=n) (at_:=at_) hp hx hc (by omega) hth (by omega)
   have n2:=q2.2.1
   have f2:=q2.2.2
   have hout2:=hout.mono (q2.1 a (by omega)) (q2.1 (a+1) ha)
   simp only[eE,seval,↓eP,t0,t5,t6,e0,F6,CO,l0,hD,hC,z0,d2,q1]
   by_cases h1:CA at_ x s=0
   ·obtain⟨n1,a1,_⟩:=U4 hx h1
    have hp2:=q3 h1
    have hw2:I7 (BM at_ x s):=by
     obtain⟨_,_,_,hw⟩:=id hp2
     exact hw
    rw[if_neg (by rw[h1];simp),a1] at hbad hgood
    simp only at hbad hgood
    rw[h1]
    refine TB (e1:=0) (κ:=x.kind) (x:={ x with n:=n1 }) (s:=BM at_ x s) (E:=AI l) (lo:=lo) (m:=m) hkind hn (by omega) (by simp only[eE,seval,↓eP,rP,t2]) (by simp only[eE,seval,↓eP,rP,t3]) (by simp only[eE,seval,↓eP,rP,t5]) (by simp only[eE,seval,↓eP,rP,t6]) (by simp only[eE,seval,↓eP,rP]) (by simp only[eE,seval,↓eP,rP]) (fun _=>⟨hp2,a1,rfl,fun hev h10=>hxn _ _ h1 a1 rfl hw2 rfl hev h10⟩) ha (by omega) hout2 (by omega) ?_ ?_
    ·rintro e' he' (⟨h,_⟩ | ⟨_,rfl⟩)
     ·exact absurd rfl h
     ·rw[if_pos he'] at hbad
      exact fun T' H' w2 w3 ho hnx hfx hox=>hbad he' T' H' w2 w3 ho (by omega) (by omega) fun i hi=>by rw[hox i hi,q2.1 i (by omega)]
    ·intro _ hev T' H' hk' hp' ha'
     rw[if_neg (by rw[hev];simp)] at hgood
     refine hgood rfl T' H' (fun t ht=>?_) hp' (q2.trans ha')
     rw[hk' t ht]
     simp only[Tr.get_put,Option.some.injEq]
     repeat rw[if_neg (by omega)]
   ·rw[if_pos h1] at hbad
    refine TB (e1:=CA at_ x s) (κ:=x.kind) (x:=x) (s:=s) (E:=AI l) (lo:=lo) (m:=m) (e:=e) (r:=r) (nm:=nm) (L:=l.length) (at_:=at_) hkind hn (by omega) (by simp only[eE,seval,↓eP,rP,t2]) (by simp only[eE,seval,↓eP,rP,t3]) (by simp only[eE,seval,↓eP,rP,t5]) (by simp only[eE,seval,↓eP,rP,t6]) (by simp only[eE,seval,↓eP,rP]) (by simp only[eE,seval,↓eP,rP]) (fun h=>absurd h h1) ha (by omega) hout2 (by omega) ?_ (fun h=>absurd h h1)
    rintro e' he' (⟨_,rfl⟩ | ⟨h,_⟩)
    ·exact fun T' H' w2 w3 ho hnx hfx hox=>hbad he' T' H' w2 w3 ho (by omega) (by omega) fun i hi=>by rw[hox i hi,q2.1 i (by omega)]
    ·exact absurd h h1
 ·have d1:(BJ x.kind != 0)=true:=by simpa using hd
  obtain⟨hc0,hv0⟩:=oF hd
  rw[hc0] at hC
  rw[lM hx hd,hEd] at hbad hgood
  obtain⟨H2,q1,q2,q3⟩:=Bu (n:=n) (at_:=at_) hp hx hd (by omega) hEat (by omega) hth (by omega)
  have n2:=q2.2.1
  have f2:=q2.2.2
  have hout2:=hout.mono (q2.1 a (by omega)) (q2.1 (a+1) ha)
  simp only[eE,seval,↓eP,t0,t5,t6,e0,F6,CO,l0,hD,hC,z0,d1,q1]
  by_cases h1:C1 x s=0
  ·obtain⟨n1,a1⟩:=YY (end_:=(BV l at_:Int)) hx
   have hp2:=q3 h1
   have hev:DU ({ x with n:=n1 }:AB).kind=false:=hv0
   have g1:CH { x with n:=n1 } (BD at_ (BV l at_) x s)=0:=by unfold CH;rw[if_pos hev]
   have g2:CQ at_ { x with n:=n1 } (BD at_ (BV l at_) x s)=BD at_ (BV l at_) x s:=by unfold CQ;rw[if_pos hev]
   rw[if_neg (by rw[h1];simp)] at hbad hgood
   rw[h1]
   refine TB (e1:=0) (κ:=x.kind) (x:={ x with n:=n1 }) (s:=BD at_ (BV l at_) x s) (E:=AI l) (lo:=lo) (m:=m) hkind hn (by omega) (by simp only[eE,seval,↓eP,rP,t2]) (by simp only[eE,seval,↓eP,rP,t3]) (by simp only[eE,seval,↓eP,rP,t5]) (by simp only[eE,seval,↓eP,rP,t6]) (by simp only[eE,seval,↓eP,rP]) (by simp only[eE,seval,↓eP,rP]) (fun _=>⟨hp2,a1,rfl,fun h=>by rw[hev] at h;cases h⟩) ha (by omega) hout2 (by omega) ?_ ?_
   ·rintro e' he' (⟨h,_⟩ | ⟨_,rfl⟩)
    ·exact absurd rfl h
    ·exact absurd g1 he'
   ·intro _ _ T' H' hk' hp' ha'
    rw[g2] at hp'
    refine hgood rfl T' H' (fun t ht=>?_) hp' (q2.trans ha')
    rw[hk' t ht]
    simp only[Tr.get_put,Option.some.injEq]
    repeat rw[if_neg (by omega)]
  ·rw[if_pos h1] at hbad
   refine TB (e1:=C1 x s) (κ:=x.kind) (x:=x) (s:=s) (E:=AI l) (lo:=lo) (m:=m) (e:=e) (r:=r) (nm:=nm) (L:=l.length) (at_:=at_) hkind hn (by omega) (by simp only[eE,seval,↓eP,rP,t2]) (by simp only[eE,seval,↓eP,rP,t3]) (by simp only[eE,seval,↓eP,rP,t5]) (by simp only[eE,seval,↓eP,rP,t6]) (by simp only[eE,seval,↓eP,rP]) (by simp only[eE,seval,↓eP,rP]) (fun h=>absurd h h1) ha (by omega) hout2 (by omega) ?_ (fun h=>absurd h h1)
   rintro e' he' (⟨_,rfl⟩ | ⟨h,_⟩)
   ·exact fun T' H' w2 w3 ho hnx hfx hox=>hbad he' T' H' w2 w3 ho (by omega) (by omega) fun i hi=>by rw[hox i hi,q2.1 i (by omega)]
   ·exact absurd h h1
end
def cK:List (Bool × Bool × List Operand):=[BI,BI,BI,BI,AS [.tmp 83],AS [.tmp 83],AS [.tmp 83],AS [.tmp 83],AT,AT]
def ZA:List (Bool × Bool × List Operand):=[MU,BI,BI,BI,BI,AS [.tmp 105],AS [.tmp 105],AS [.tmp 105],AS [.tmp 105],AS [.tmp 105,.tmp 109],AS [.tmp 105,.tmp 109],AS [.tmp 105,.tmp 109],AT,AT,AT]
theorem IT {T:Tr} {d t:Nat} {v:Value} (h:t<d):(T.put (some d) v).get t=T.get t:=by
 rw[Tr.get_put,if_neg (fun h9=>by have h8:d=t:=Option.some.inj h9;omega)]
section
variable {n N:Nat}
theorem Jr {l:List AB} {v:Value} {T:Tr} {H:AA} {K:BS} {a lo m e r:Nat} {nm:ByteArray} (ht:CU l) (hL:l.length<2932031007403) (hn:100020<n) (hN:l.length+3<N)
  (t0:T.get 0=v) (t2:T.get 2=qP a 0) (t3:T.get 3=qP (a+1) 0) (t5:T.get 5=qP m 0) (hv:AL H v l) (hvl:∀ H',(∀ i,i<lo→H'.get i=H.get i)→H.next≤H'.next→AL H' v l)
  (hp:E2 H lo m e r l.length nm (AI l) (A_ l)) (ha:a+1<lo) (hlo:lo≤H.next) (hout:D2 a H BR 0 0) (hfa:H.floor≤a)
  (hbad:(BG (AI l) l.length 0 (A_ l)).1≠0→∀ T' H',T'.get 2=qP a 0→T'.get 3=qP (a+1) 0→D2 a H' BR (BG (AI l) l.length 0 (A_ l)).1 (BG (AI l) l.length 0 (A_ l)).2.1→H.next≤H'.next→H'.floor=H.floor→(∀ i,i<a→H'.get i=H.get i)→K.ap Tryd.prog (AU n) N .ret ⟨T',H'⟩)
  (hgood:(BG (AI l) l.length 0 (A_ l)).1=0→∀ T' H',(∀ t,t≤5→T'.get t=T.get t)→E2 H' lo m e r l.length nm (AI l) (BG (AI l) l.length 0 (A_ l)).2.2→FQ l l.length (BG (AI l) l.length 0 (A_ l)).2.2→E6 H H' lo→WK Tryd.prog (AU n) N VC ⟨T',H'⟩ K) :
  WK Tryd.prog (AU n) N UR ⟨T,H⟩ K:=by
 show WK _ _ _ (.seq (.seq _ (.block 0 (.loop (.seq _ (.seq (.block 1 cH) _))))) VC) _ _
 simp only[eE,seval,↓eP]
 refine WK.loop (fun i s'=>s'.T.get 6=iv i∧i≤l.length∧(∀ t,t≤5→s'.T.get t=T.get t)∧E6 H s'.h lo∧∃ s,E2 s'.h lo m e r l.length nm (AI l) s∧FQ l i s∧JU s∧BG (AI l) (l.length-i) i s=BG (AI l) l.length 0 (A_ l)) l.length (by omega) ?_ ?_
 ·refine⟨by simp only[eE,↓reduceIte,Nat.reduceEqDiff,reduceCtorEq,↓eP,rP,Nat.reduceAdd,Nat.reduceLT];rfl,by omega,fun t ht=>?_,E6.refl _ _,A_ l,hp,PF l,Gt l,rfl⟩
  simp only[Tr.get_put,Option.some.injEq]
  repeat rw[if_neg (by omega)]
 ·rintro i ⟨T1,H1⟩ hi ⟨t6,hil,hkeep,haf,s,hp1,hin,hT,hgo⟩
  simp only at t6 hkeep haf hp1
  have u0:=(hkeep 0 (by omega)).trans t0
  have hv1:=hvl H1 haf.1 haf.2.1
  have hlen:=fun h'=>hv1.len (h':=h')
  by_cases hlt:i<l.length
  ·have c1:decide ((i:Int)<(l.length:Int))=true:=by simp;omega
   obtain⟨x,hx⟩:∃ x,s.rows[i]?=some x:=⟨_,List.getElem?_eq_getElem (by rw[hin.len];exact hlt)⟩
   have hr:l.length-i=(l.length-(i+1))+1:=by omega
   rw[hr] at hgo
   have hout1:D2 a H1 BR 0 0:=hout.mono (haf.1 a (by omega)) (haf.1 (a+1) ha)
   have hn1:=haf.2.1
   have hf1:=haf.2.2
   have w1:=CK i (by omega)
   have hkp:∀ t:Nat,t≤6→((((T1.put (some 39) (iv i)).put (some 40) v).put (some 41) (iv l.length)).put (some 42) (Value.bool true)).get t=T1.get t:=fun t ht=>by
    rw[IT (by omega),IT (by omega),IT (by omega),IT (by omega)]
   simp only[eE,seval,↓eP,u0,t6,hlen,c1]
   refine Jc (a:=a) (at_:=i) (s:=s) (x:=x) ht hL hn hlt ((hkp 0 (by omega)).trans u0) ((hkp 2 (by omega)).trans ((hkeep 2 (by omega)).trans t2)) ((hkp 3 (by omega)).trans ((hkeep 3 (by omega)).trans t3)) ((hkp 5 (by omega)).trans ((hkeep 5 (by omega)).trans t5)) ((hkp 6 (by omega)).trans t6) hv1 hp1 hin hT hx ha (by omega) hout1 (by omega) ?_ ?_
   ·intro he T' H' g2 g3 ho hnx hfx hox
    have hg:BG (AI l) l.length 0 (A_ l)=((DX (AI l) i s).1,i,s):=by
     rw[← hgo]
     unfold BG
     rw[if_pos he]
    simp only[eE,seval,↓eP]
    refine hbad (by rw[hg];exact he) T' H' g2 g3 (by rw[hg];exact ho) (by omega) (by omega) fun q hq=>(hox q hq).trans (haf.1 q (by omega))
   ·intro he T' H' hk' hp' haf'
    have hin':=O5 ht (RL i) hlt hin he
    have hg:BG (AI l) (l.length-(i+1)) (i+1) (DX (AI l) i s).2=BG (AI l) l.length 0 (A_ l):=by
     rw[← hgo]
     conv=>rhs;unfold BG
     rw[if_neg (by rw[he];simp)]
    have u6:=(hk' 6 (by omega)).trans ((hkp 6 (by omega)).trans t6)
    simp only[eE,seval,↓eP,u6,w1]
    refine⟨hlt,by omega,fun t ht=>?_,haf.trans haf',_,hp',hin',Fm hT,hg⟩
    repeat rw[if_neg (by omega)]
    exact(hk' t (by omega)).trans ((hkp t (by omega)).trans (hkeep t ht))
  ·have c1:decide ((i:Int)<(l.length:Int))=false:=by simp;omega
   have:i=l.length:=by omega
   subst this
   have hg:BG (AI l) l.length 0 (A_ l)=(0,l.length,s):=by
    rw[← hgo,Nat.sub_self]
    rfl
   simp only[eE,seval,↓eP,u0,t6,hlen,c1]
   refine hgood (by rw[hg]) _ _ (fun t ht=>?_) (by rw[hg];exact hp1) (by rw[hg];exact hin) haf
   simp only[Tr.get_put,Option.some.injEq]
   repeat rw[if_neg (by omega)]
   exact hkeep t ht
theorem B7.polAt {h:AA} {lo m e r n:Nat} {nm:ByteArray} {E:List Int} {tag:Nat→Nat} {V:Nat→Value} {C:List Int} {s:AN} (hp:B7 h lo m e r n nm E tag V C s) :
  DT lo h (.agg #[.string nm,qS r n AG,V 2,V 3,V 4,V 5,V 6,iv s.miss]) nm s:=by
 have hs:=fun j h2 h8=>hp.sl j h2 h8
 refine⟨_,V 2,V 3,V 4,V 5,V 6,rfl,G4.of ?_,(hs 2 (by omega) (by omega)).cells (NA _),(hs 3 (by omega) (by omega)).cells (by simp[EP,ED,CZ]),(hs 4 (by omega) (by omega)).cells (by simp[EP,ED,CZ]),(hs 5 (by omega) (by omega)).cells (by simp[EP,ED,FH]),(hs 6 (by omega) (by omega)).cells (by simp[EP,ED,FH])⟩
 have hl:=hp.len
 subst hl
 exact AV.row (ex:=[]) (by rw[List.append_nil];exact hp.rows) hp.lr (H9 _)
theorem Ak (hsn:BZ (AU n)) {l:List AB} {v:Value} {T:Tr} {H:AA} {K:BS} {a lo m e r:Nat} {nm:ByteArray} {s:AN} (ht:CU l) (hL:l.length<2932031007403) (hn:l.length+200<n) (hN:l.length+3<N)
  (t0:T.get 0=v) (t2:T.get 2=qP a 0) (t3:T.get 3=qP (a+1) 0) (t5:T.get 5=qP m 0) (hv:AL H v l)
  (hp:E2 H lo m e r l.length nm (AI l) s) (hin:FQ l l.length s) (hLR:S9 s.rows (AI l) s.rules) (ha:a+1<lo) (hlo:lo≤H.next) (hout:D2 a H BR 0 0) (hfa:H.floor≤a)
  (hbad:FB s.rows (AI l) s.rules≥0→∀ T' H',T'.get 2=qP a 0→T'.get 3=qP (a+1) 0→D2 a H' BR 34 (FB s.rows (AI l) s.rules)→H.next≤H'.next→H'.floor=H.floor→(∀ i,i<a→H'.get i=H.get i)→K.ap Tryd.prog (AU n) N .ret ⟨T',H'⟩)
  (hgood:¬ FB s.rows (AI l) s.rules≥0→∀ T' H' cs,T'.get 2=qP a 0→T'.get 3=qP (a+1) 0→cs.length=8→D2 a H' cs 0 0→DT lo H' (.agg cs.toArray) nm s→H.next≤H'.next→H'.floor=H.floor→(∀ i,i<a→H'.get i=H.get i)→K.ap Tryd.prog (AU n) N .ret ⟨T',H'⟩) :
  WK Tryd.prog (AU n) N VC ⟨T,H⟩ K:=by
 show WK _ _ _ (.seq (.region _ _ true) (.seq _ (.seq (.seq _ (.block 2 (.loop (.seq _ (.seq (.block 3 (.seq _ (.cond _ (.seq (.region _ _ true) _) _))) _))))) (.seq _ _)))) _ _
 obtain⟨tag,V,hp',hw⟩:=id hp
 have hLy:=hLR.lay
 have hsl:s.rows.length=l.length:=hin.len
 have hu:=hin.wf.u
 have hml:=hp'.lm
 have l8:CD 8 0 (H.get m)=some (.agg #[.string nm,qS r l.length AG,V 2,V 3,V 4,V 5,V 6,iv s.miss]):=by rw[hp'.cell];rfl
 have c8:=hp'.c8
 have hpol:=hp'.polAt
 have cR:=fun j h2 h8=>hp'.sl j h2 h8
 have q2:=((cR 2 (by omega) (by omega)).cells (w:=2) (NA _)).one
 have q3:=((cR 3 (by omega) (by omega)).cells (w:=1) (by simp[EP,ED,CZ])).one
 have q4:=((cR 4 (by omega) (by omega)).cells (w:=1) (by simp[EP,ED,CZ])).one
 have C5:BY lo H (V 5) s.rules:=(cR 5 (by omega) (by omega)).cells (w:=1) (by simp[EP,ED,FH])
 have q5:=AV.one C5
 have q6:=((cR 6 (by omega) (by omega)).cells (w:=1) (by simp[EP,ED,FH])).one
 have hE:(AI l).length=l.length:=OM
 have hCE:BY lo H (qS e (AI l).length (AI l).length) (AI l):=BY.row' hp'.ends hp'.le rfl
 have hrv:AL H (qS r l.length AG) s.rows:=by rw[← hsl];exact XI hp'.rows hp'.lr.2
 have hfx:∀ (f i:Nat),(H.fl f).get i=H.get i:=fun _ _=>rfl
 obtain⟨vS,H2,hS,hI,f2,n2,o2⟩:=Jy (n:=n) (h:=H) (v0:=.string nm) (vr:=qS r l.length AG) (vq:=V 2) (vv:=V 3) (vt:=V 4) (vu:=V 5) (vo:=V 6) (v7:=iv s.miss) (rows:=s.rows) (rules:=s.rules) ⟨rfl,q2,q3,q4,q6,rfl⟩ hrv hCE C5 hLR (by omega) (by omega)
 rw[Dh hLR] at hI
 have hmT:(m<H.next)=True:=by simp;omega
 rw[KG]
 refine WK.flags (fs:=cK) (by kernel_rfl) ?_
 unfold cK
 iterate 10
  refine FO hsn ?_
  simp only[rG,seval,AC,AE,AD,DS,FA,DL,EI,FR,t5,GV,hmT,IW,l8,XN,C3,c8,hS]
 refine FT ?_
 have oA:∀ i,i<H.next→(H2.fl H.floor).get i=H.get i:=o2
 have nA:H.next≤(H2.fl H.floor).next:=n2
 have fA:(H2.fl H.floor).floor=H.floor:=rfl
 have hIA:BY H.next (H2.fl H.floor) vS (G5 s.rows (AI l) s.rules):=hI.mono (Nat.le_refl _) fun _ _ _=>rfl
 generalize H2.fl H.floor=A at *
 have l8A:CD 8 0 (A.get m)=some (.agg #[.string nm,qS r l.length AG,V 2,V 3,V 4,V 5,V 6,iv s.miss]):=by rw[oA m hml.2];exact l8
 have c8A:AO 8 (A.get m)=some (qS e (AI l).length (AI l).length):=by rw[oA m hml.2];exact c8
 have hvA:AL A v l:=hv.mono nA oA
 have hrvA:AL A (qS r l.length AG) s.rows:=hrv.mono nA oA
 have hCEA:BY lo A (qS e (AI l).length (AI l).length) (AI l):=hCE.mono nA fun i _ hi=>oA i hi
 have houtA:D2 a A BR 0 0:=hout.mono (oA a (by omega)) (oA (a+1) (by omega))
 have hmA:(m<A.next)=True:=by simp;omega
 have hSum:=(VN (rows:=s.rows) (E:=AI l) (rules:=s.rules))
 have hlenA:=fun h'=>hvA.len (h':=h')
 simp only[eE,seval,↓eP]
 refine WK.loop (fun i s'=>s'.T.get 9=vS∧s'.T.get 11=iv i∧i≤l.length∧(∀ t:Nat,t≤5→s'.T.get t=T.get t)∧s'.h=A∧∃ a0:Int,s'.T.get 10=iv a0∧0≤a0∧a0≤4611686018427387904∧J5 s.rows (AI l) (G5 s.rows (AI l) s.rules) (s.rows.drop i) i a0=FB s.rows (AI l) s.rules) l.length (by omega) ?_ ?_
 ·refine⟨by simp only[eE,↓reduceIte,Nat.reduceEqDiff,reduceCtorEq,↓eP,rP,Nat.reduceAdd,Nat.reduceLT],by simp only[eE,↓reduceIte,Nat.reduceEqDiff,reduceCtorEq,↓eP,rP,Nat.reduceAdd,Nat.reduceLT];rfl,by omega,fun t ht=>?_,rfl,0,by simp only[eE,↓reduceIte,Nat.reduceEqDiff,reduceCtorEq,↓eP,rP,Nat.reduceAdd,Nat.reduceLT],by omega,by omega,rfl⟩
  rw[IT (by omega),IT (by omega),IT (by omega),IT (by omega),IT (by omega),IT (by omega),IT (by omega),IT (by omega),IT (by omega),IT (by omega),IT (by omega),IT (by omega)]
 ·rintro i ⟨T1,H1⟩ hi ⟨t9,t11,hil,hkeep,hh,a0,t10,ha0,haB,hcn⟩
  simp only at t9 t11 hkeep hh t10
  subst hh
  have u0:=(hkeep 0 (by omega)).trans t0
  have u2:=(hkeep 2 (by omega)).trans t2
  have u3:=(hkeep 3 (by omega)).trans t3
  have u5:=(hkeep 5 (by omega)).trans t5
  by_cases hlt:i<l.length
  ·have c1:decide ((i:Int)<(l.length:Int))=true:=by simp;omega
   obtain⟨y,hy⟩:∃ y,l[i]?=some y:=⟨_,List.getElem?_eq_getElem hlt⟩
   obtain⟨x,hx⟩:∃ x,s.rows[i]?=some x:=⟨_,List.getElem?_eq_getElem (by omega)⟩
   have hxy:x.kind=y.kind:=by
    obtain⟨y',hy',he⟩:=hin.same i x hx
    rw[hy] at hy'
    cases hy'
    rw[he]
   obtain⟨rid,p,e0,hid,l0,l1,l2,l3,l4,lr⟩:=hvA.row hy
   have hkx:=TD ht hin x (List.mem_of_getElem? hx)
   rw[hxy] at hkx
   have hV:=FW (n:=n) (F4 (k:=12) (YK y.kind H1 hkx))
   have w1:=CK i (by omega)
   have hdr:s.rows.drop i=x :: s.rows.drop (i+1):=by
    obtain⟨hl,rfl⟩:=List.getElem?_eq_some_iff.1 hx
    exact List.drop_eq_getElem_cons hl
   rw[hdr] at hcn
   change (if DU x.kind=false then J5 s.rows (AI l) (G5 s.rows (AI l) s.rules) (s.rows.drop (i+1)) (i+1) a0 else if EQ a0 (D4 s.rows (AI l) (G5 s.rows (AI l) s.rules) (i+1))>16384 then (i:Int) else J5 s.rows (AI l) (G5 s.rows (AI l) s.rules) (s.rows.drop (i+1)) (i+1) (EQ a0 (D4 s.rows (AI l) (G5 s.rows (AI l) s.rules) (i+1))))=_ at hcn
   cases dv:DU y.kind with
   | false=>
    rw[dv] at hV
    rw[if_pos (by rw[hxy];exact dv)] at hcn
    simp only[eE,seval,↓eP,u0,t9,t10,t11,hlenA,c1,e0,F6,CO,l0,hV,w1]
    refine⟨by omega,by omega,fun t ht=>?_,ha0,haB,hcn⟩
    repeat rw[if_neg (by omega)]
    exact hkeep t ht
   | true=>
    rw[dv] at hV
    rw[if_neg (by rw[hxy,dv];simp)] at hcn
    have hi1:=fV ht hin i x hx (by rw[hxy];exact dv)
    have hlaid:=oQ (n:=n) (h:=H1) (v0:=.string nm) (vr:=qS r l.length AG) (vq:=V 2) (vv:=V 3) (vt:=V 4) (vu:=V 5) (vo:=V 6) (v7:=iv s.miss) (row:=i+1) ⟨rfl,q2,q3,q4,q5,q6,rfl⟩ hrvA hCEA hIA hSum.1 hLy hi1 (by omega) (fun z hz h22=>by
     rw[hSum.2]
     exact hLy.calls z (List.mem_of_mem_drop (List.mem_of_mem_take hz)) h22)
    have hcA:=P8 (rows:=s.rows) (E:=AI l) hSum.1 (i+1)
    have hpl:=FW (n:=n) (iZ H1 hcA ⟨ha0,haB⟩)
    have hpn:=N3 ha0 hcA.1 hcA.2
    simp only[eE,seval,↓eP,u0,t11,hlenA,c1,e0,F6,CO,l0,hV]
    refine WK.flags (fs:=ZA) (by kernel_rfl) ?_
    unfold ZA
    iterate 15
     refine FO hsn ?_
     simp only[rG,seval,AC,AE,AD,DS,FA,DL,EI,FR,t10,u5,GV,hmA,IW,l8A,XN,C3,c8A,t9,t11,w1,hlaid,hpl]
    refine FT ?_
    cases dg:decide (EQ a0 (D4 s.rows (AI l) (G5 s.rows (AI l) s.rules) (i+1))>16384) with
    | true=>
     rw[if_pos (by simpa using dg)] at hcn
     obtain⟨H',s1,s2,r1,r2,r3,r4⟩:=MW houtA rfl (by omega) (by omega) (cs':=BR) rfl rfl (e':=34) (p':=(i:Int))
     simp only[eE,seval,↓eP,u2,u3,t11,dg,PT,OA,s1,s2]
     refine hbad (by rw[← hcn];omega) _ _ ?_ ?_ (by rw[← hcn];exact r1) (by omega) (by omega) fun i hi=>by rw[r4 i (by omega) (by omega),oA i (by omega)]
     ·simp only[eE,seval,↓eP,rP,u2]
     ·simp only[eE,seval,↓eP,rP,u3]
    | false=>
     rw[if_neg (by simpa using dg)] at hcn
     simp only[eE,seval,↓eP,t9,t11,dg,w1]
     refine⟨by omega,by omega,fun t ht=>?_,hpn.1,hpn.2,hcn⟩
     have hne:∀ d:Nat,5<d→¬ (d=t):=fun d hd=>by omega
     repeat rw[if_neg (hne _ (by decide))]
     exact hkeep t ht
  ·have c1:decide ((i:Int)<(l.length:Int))=false:=by simp;omega
   have hneg:¬ FB s.rows (AI l) s.rules≥0:=by
    rw[← hcn,List.drop_of_length_le (by omega)]
    show ¬ ((-1:Int)≥0)
    omega
   obtain⟨H',s1,s2,r1,r2,r3,r4⟩:=MW houtA rfl (by omega) (by omega) (cs':=[.string nm,qS r l.length AG,V 2,V 3,V 4,V 5,V 6,iv s.miss]) rfl (by
    simp only[List.all_cons,List.all_nil,q2,q3,q4,q5,q6,M7,NG,Bool.and_self]
    rfl) (e':=0) (p':=0)
   simp only[eE,seval,↓eP,u0,u2,u3,u5,t11,hlenA,c1,GV,IW,l8A,TJ,s1,s2]
   refine hgood hneg _ _ _ ?_ ?_ rfl r1 (hpol.mono (by omega) fun i h1 h2=>by rw[r4 i (by omega) (by omega),oA i h2]) (by omega) (by omega) fun i hi=>by rw[r4 i (by omega) (by omega),oA i (by omega)]
   ·simp only[eE,seval,↓eP,rP,u2]
   ·simp only[eE,seval,↓eP,rP,u3]
end
section
variable {n N:Nat}
theorem uW {l:List AB} {v:Value} {h:AA} (hfl:h.floor≤h.next) (hv:AL h v l) (hL:l.length<2932031007403) (h64:∀ x∈l,x.kids≤9223372036854775807) (hn:l.length+100100<n) (hN:l.length+3<N) :
  ∃ v' h',AW Tryd.prog (AU n) N 17 [v] h=some (v',h')∧N9 h l v' h':=by
 refine PW (R:=N9 h l) Tryd.func17 rfl (by simp[Tryd.f17]) ?_
 have hr:Tryd.f17.results.toList=[.cell 2 30,.cell 3 33]:=rfl
 generalize hKK:BS.top (fun e s=>(e=DB.normal∨e=DB.ret)∧∃ vs,EV Tryd.prog s Tryd.f17.results.toList=some vs∧N9 h l (F7 vs) s.h)=K
 have fin:∀ (T':Tr) (H':AA) cs e p nm s,T'.get 2=qP h.next 0→T'.get 3=qP (h.next+1) 0→cs.length=8→D2 h.next H' cs e p→DT h.next H' (.agg cs.toArray) nm s→(AZ l).1=(e,p)→BU l=(nm,s)→h.next≤H'.next→H'.floor=h.floor→(∀ i,i<h.next→H'.get i=h.get i)→K.ap Tryd.prog (AU n) N .ret ⟨T',H'⟩:=by
  intro T' H' cs e p nm s t2 t3 hl ho hp he hout hnx hf hold
  have l30:=R9 ho.1 hl
  have l33:CD 2 0 (H'.get (h.next+1))=some (FI e p):=by rw[ho.2];rfl
  rw[← hKK]
  simp only[eE,seval,↓eP,hr,t2,t3,IW,JT,l30,l33]
  exact⟨_,by rw[he],by rw[hout];exact hp,hf,hnx,hold⟩
 have hz:∀ H',DT h.next H' M_ ByteArray.empty sZ:=fun H'=>iJ h.next H'
 refine Cz (Fsx n).2 hfl hv (fun H hv' hfl'=>Cv (by omega) hL h64 hv' hfl') ?_ ?_
 ·intro hc T' H t2 t3 ho hnx hf hold
  refine fin T' H _ _ _ ByteArray.empty sZ t2 t3 rfl ho (hz H) ?_ ?_ (by omega) hf hold
  ·unfold AZ
   rw[if_pos hc]
  ·unfold BU
   have:(AZ l).1.1≠0:=by unfold AZ;rw[if_pos hc];exact hc
   rw[if_pos this]
 ·intro hc T' H t0 t2 t3 ho hnx hf hold
  have ht:=QS (TA hc)
  have hvH:AL H v l:=hv.mono (by omega) hold
  refine yB (Fsx n).2 ht hL (by omega) hvH t0 (fun H' hv' hf'=>kU ht hv' (by omega) (by omega) hf') ?_
  intro T1 H1 m e r u0 u2 u3 u5 hp hnx1 hf1 hold1
  have ho1:D2 h.next H1 BR 0 0:=ho.mono (hold1 _ (by omega)) (hold1 _ (by omega))
  have hv1:=hvH.mono hnx1 hold1
  refine Jr (a:=h.next) ht hL (by omega) hN u0 (u2.trans t2) (u3.trans t3) u5 hv1 (fun H' a b=>hvH.mono (by omega) fun i hi=>(a i hi).trans (hold1 i hi)) hp (by omega) (by omega) ho1 (by omega) ?_ ?_
  ·intro hgo T2 H2 w2 w3 ho2 hnx2 hf2 hold2
   refine fin T2 H2 _ _ _ ByteArray.empty sZ w2 w3 rfl ho2 (hz H2) ?_ ?_ (by omega) (by omega) fun i hi=>by rw[hold2 i hi,hold1 i (by omega),hold i hi]
   ·unfold AZ
    rw[if_neg (by rw[hc];simp)]
    simp only
    rw[if_pos hgo]
   ·unfold BU
    have:(AZ l).1.1≠0:=by
     unfold AZ
     rw[if_neg (by rw[hc];simp)]
     simp only
     rw[if_pos hgo]
     exact hgo
    rw[if_pos this]
  ·intro hgo T2 H2 hk2 hp2 hin2 haf
   have ho2:D2 h.next H2 BR 0 0:=ho1.mono (haf.1 _ (by omega)) (haf.1 _ (by omega))
   have hf2:=haf.2.2
   have hn2:=haf.2.1
   have hLR:=zW ht (by omega) hin2 (g8 ht l.length 0 (A_ l) (by omega) (PF l) (Cc l) hgo)
   refine Ak (a:=h.next) (Fsx n).2 ht hL (by omega) hN ((hk2 0 (by omega)).trans u0) ((hk2 2 (by omega)).trans (u2.trans t2)) ((hk2 3 (by omega)).trans (u3.trans t3)) ((hk2 5 (by omega)).trans u5) (hvH.mono (by omega) fun i hi=>(haf.1 i hi).trans (hold1 i hi)) hp2 hin2 hLR (by omega) (by omega) ho2 (by omega) ?_ ?_
   ·intro hlg T3 H3 x2 x3 ho3 hnx3 hf3 hold3
    have hres:(AZ l).1=(34,FB (BG (AI l) l.length 0 (A_ l)).2.2.rows (AI l) (BG (AI l) l.length 0 (A_ l)).2.2.rules):=by
     unfold AZ
     rw[if_neg (by rw[hc];simp)]
     simp only
     rw[if_neg (by rw[hgo];simp),if_pos hlg]
    refine fin T3 H3 _ _ _ ByteArray.empty sZ x2 x3 rfl ho3 (hz H3) hres ?_ (by omega) (by omega) fun i hi=>by rw[hold3 i hi,haf.1 i (by omega),hold1 i (by omega),hold i hi]
    unfold BU
    rw[if_pos (by rw[hres];simp)]
   ·intro hlg T3 H3 cs x2 x3 hcs ho3 hpol hnx3 hf3 hold3
    have hres:AZ l=((0,0),(BG (AI l) l.length 0 (A_ l)).2.2):=by
     unfold AZ
     rw[if_neg (by rw[hc];simp)]
     simp only
     rw[if_neg (by rw[hgo];simp),if_neg hlg]
    refine fin T3 H3 cs _ _ (J_ l) (BG (AI l) l.length 0 (A_ l)).2.2 x2 x3 hcs ho3 (hpol.weak (by omega)) (by rw[hres]) ?_ (by omega) (by omega) fun i hi=>by rw[hold3 i hi,haf.1 i (by omega),hold1 i (by omega),hold i hi]
    unfold BU
    rw[hres]
    simp
theorem cQ {l:List AB} {v:Value} {h:AA} (hfl:h.floor≤h.next) (hv:AL h v l) (hL:l.length<2932031007403) (h64:∀ x∈l,x.kids≤9223372036854775807) (hn:l.length+100110<n) :
  ∃ v' h',AU n 17 [v] h=some (v',h')∧N9 h l v' h':=by
 obtain⟨n,rfl⟩:=ET hn
 exact O6 (CV ⟨rfl,rfl,rfl⟩) (uW (n:=n) (N:=n) hfl hv hL h64 (by omega) (by omega)) fun v' h1 hf _ ht=>Jk hf ht
end
end Go.Proofs.YtipekdhneagdbaaDoor
