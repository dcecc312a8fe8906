/- Part 20 of what the claim leans on: 11 texts laid one behind another. -/
import Derived.Test.YtdejoodfeljmkaaGreatDoorTC19
namespace Go.Proofs.YtdejoodfeljmkaaGreatDoor
open Go Go.Sx
set_option maxRecDepth 100000
set_option linter.unusedSimpArgs false
set_option linter.unusedVariables false
set_option maxHeartbeats 64000000
theorem Jsw {l:List RowN}:∀ (a b p q r:Nat),J35 l a p q→J35 l b q r→J35 l (a+b) p r
 | 0,b,p,q,r,h,h2=>by
  have:p=q:=h
  subst this
  rw[Nat.zero_add]
  exact h2
 | a+1,b,p,q,r,⟨p',h1,h3,h4,h5⟩,h2=>by
  rw[show a+1+b=(a+b)+1 by omega]
  exact⟨p',h1,h3,h4,Jsw a b p' q r h5 h2⟩
section
variable {call:J0r} {N:Nat} {h:SHeap}
theorem Jts {Z L:List RowN} {v:Value} {at_ q:Nat} (hsk:Jkk L Z) (hv:J0l h v L) (hs:SubT Z at_ q) (hlen:L.length<1099511627776) (hN:L.length+3<N) :
  J0L Tryz.prog call N 60 [v,iv at_] h=some (iv q,h):=by
 refine J1m Tryz.func60 rfl (by simp[Tryz.f60]) ?_
 have hr:Tryz.f60.results.toList=[.tmp 4]:=rfl
 have hl:=fun h'=>hv.len (h':=h')
 have hq:=hs.lt
 have hZ:=hsk.1
 simp only[evC,seval,↓evP,rpC,hr]
 refine WK.loop (fun i s'=>s'.h=h∧s'.T.get 0=v∧s'.T.get 1=iv ((at_+i:Nat):Int)∧∃ r:Nat,s'.T.get 5=iv r∧J35 Z r (at_+i) q) (q-at_) (by omega) ?_ ?_
 ·exact⟨rfl,by simp only[evC,seval,↓evP,rpC],by simp only[evC,seval,↓evP,rpC,Nat.add_zero],1,by simp only[evC,seval,↓evP,rpC],q,hs,hq.1,hq.2,rfl⟩
 rintro i ⟨T1,H1⟩ hi ⟨rfl,t0,t1,r,t5,hc⟩
 simp only at t0 t1 t5
 cases r with
 | zero=>
  have hpq:at_+i=q:=hc
  have c1:decide (((0:Nat):Int)>0)=false:=rfl
  rw[hpq] at t1
  simp only[evC,seval,↓evP,rpC,hr,t0,t1,t5,c1]
 | succ r=>
  obtain⟨p',h1,h2,h3,h4⟩:=hc
  have hle:=J2o _ _ _ h4
  have c1:decide (((r+1:Nat):Int)>0)=true:=decide_eq_true (by omega)
  have c2:decide (((at_+i:Nat):Int)≥0)=true:=decide_eq_true (by omega)
  have c3:decide (((at_+i:Nat):Int)<(L.length:Int))=true:=by simp;omega
  obtain⟨x,hx,hk0,_,hch⟩:=h1.kids
  obtain⟨y,hy,hyk⟩:=hsk.2 _ x hx
  obtain⟨id,p,e0,hid,l0,l1,l2,l3,l4,lr⟩:=hv.row hy
  rw[hyk] at l4
  have hcl:=J2o _ _ _ hch
  have m1:(if (L.length:Int)<x.kids then (L.length:Int) else x.kids)=x.kids:=if_neg (by omega)
  have m2:(if x.kids>0 then x.kids else 0)=x.kids:=by split <;> omega
  have w1:IntKind.i64.wrap (x.kids-1)=x.kids-1:=J0s (by omega) (by omega)
  have w2:IntKind.i64.wrap (((r+1:Nat):Int)+(x.kids-1))=((x.kids.toNat+r:Nat):Int):=by rw[J0s (by omega) (by omega)];omega
  have w3:IntKind.i64.wrap (((at_+i:Nat):Int)+1)=((at_+(i+1):Nat):Int):=by rw[J0s (by omega) (by omega)];omega
  simp only[evC,seval,↓evP,rpC,t0,t1,t5,c1,c2,hl,c3,e0,l4,m1,m2,w1,w2,w3]
  exact⟨by omega,_,rfl,Jsw _ _ _ _ _ hch h4⟩
theorem Jua {n:Nat} {Z L:List RowN} {v:Value} {at_ q:Nat} (hsk:Jkk L Z) (hv:J0l h v L) (hs:SubT Z at_ q) (hlen:L.length<1099511627776) (hn:L.length+5<n) :
  J0T n 60 [v,iv at_] h=some (iv q,h):=by
 obtain⟨n,rfl⟩:∃ j,n=j+1:=⟨n-1,by omega⟩
 exact J6r (J13 ⟨rfl,rfl,rfl⟩) rfl (Jts hsk hv hs hlen (by omega))
def Js9 (e:Nat→Nat):Nat→Nat→List Nat
 | 0,_=>[]
 | k+1,p=>p :: Js9 e k (e p)
theorem Jsg {e:Nat→Nat}:∀ k p,(Js9 e k p).length=k
 | 0,p=>rfl
 | k+1,p=>by show (Js9 e k (e p)).length+1=_;rw[Jsg k (e p)]
def IntL (h:SHeap) (lo:Nat) (v:Value) (l:List Int):Prop:=
 (v=Z0∧l=[])∨∃ id c,v=qS id l.length c∧lo≤id∧id<h.next∧((c=unk∧h.get id=.row (ints l) 3 true false)∨(c=l.length∧h.get id=.row (ints l) 3 false false))
theorem IntL.ints {lo lo':Nat} {v:Value} {l:List Int} (hl:IntL h lo v l) (hle:lo'≤lo):J1S lo' h v l:=by
 rcases hl with⟨rfl,rfl⟩ | ⟨id,c,rfl,h1,h2,⟨_,h3⟩ | ⟨_,h3⟩⟩
 ·exact J0p.nil lo' h 1
 ·exact J1S.row' h3 ⟨by omega,h2⟩ rfl
 ·exact J1S.row' h3 ⟨by omega,h2⟩ rfl
theorem IntL.mono {h':SHeap} {lo:Nat} {v:Value} {l:List Int} (hl:IntL h lo v l) (hn:h.next≤h'.next) (hg:∀ i,lo≤i→i<h.next→h'.get i=h.get i):IntL h' lo v l:=by
 rcases hl with h1 | ⟨id,c,h1,h2,h3,h4⟩
 ·exact .inl h1
 ·exact .inr ⟨id,c,h1,h2,by omega,by rw[hg id h2 h3];exact h4⟩
theorem Jte:(Value.int .i64 0).cells.size=1:=rfl
theorem JsR {lo:Nat} {v:Value} {l:List Int} {x:Int} (hl:IntL h lo v l) (hlo:lo≤h.next) (hf:h.floor≤lo) (hb:l.length<100000000000) :
  ∃ v' h',J1o Tryz.prog (h.push (.row [iv x] 3 false false)) 25 v (qS h.next 1 1)=some (v',h')∧IntL h' lo v' (l++[x])∧h'.floor=h.floor∧h.next≤h'.next∧∀ i,i<lo→h'.get i=h.get i:=by
 have hsrc:J16 (h.push (.row [iv x] 3 false false)) 1 1 (qS h.next 1 1)=some [iv x]:=by
  simp only[J16,J0h]
  rfl
 have hone:([iv x]:List Value).all one=true:=rfl
 have hi1:ints (l++[x])=ints l++[iv x]:=by simp[ints]
 rcases hl with⟨rfl,rfl⟩ | ⟨id,c,rfl,h1,h2,h3⟩
 ·have hnu:(0:Nat)≠unk:=by unfold unk;omega
  refine⟨.slice (some ⟨(h.push (.row [iv x] 3 false false)).next,0,none⟩) 1 unk,(h.push (.row [iv x] 3 false false)).push (.row [iv x] 3 true false),?_,.inr ⟨_,unk,rfl,?_,?_,.inl ⟨rfl,J0h⟩⟩,rfl,by show h.next≤h.next+1+1;omega,fun i hi=>?_⟩
  ·have h0:J16 (h.push (.row [iv x] 3 false false)) 1 0 (Z0)=some []:=by simp[J16]
   simp only[J1o,Tryz.underlying25,sz3,by3,J8P,Jte,hsrc,hone,h0]
   rw[if_pos (by simp),if_pos trivial,if_neg hnu,if_neg (by omega),if_pos (by simp)]
   rfl
  ·show lo≤h.next+1;omega
  ·show h.next+1<h.next+1+1;omega
  ·rw[J06 (by show i<h.next+1;omega),J06 (by omega)]
 ·have hll:(ints l).length=l.length:=J1h l
  rcases h3 with⟨rfl,hg⟩ | ⟨rfl,hg⟩
  ·have hu:l.length≤unk:=by unfold unk;omega
   have hg':(h.push (.row [iv x] 3 false false)).get id=.row (ints l) 3 true false:=by rw[J06 h2];exact hg
   have hcut:cut (ints l) 0 (l.length*1)=some (ints l):=by
    simp only[cut,List.drop_zero]
    rw[List.take_of_length_le (by omega),if_pos (by omega)]
   refine⟨.slice (some ⟨(h.push (.row [iv x] 3 false false)).next,0,none⟩) (l.length+1) unk,((h.push (.row [iv x] 3 false false)).put id .dead).push (.row (ints l++[iv x]) 3 true false),?_,.inr ⟨_,unk,by rw[List.length_append];rfl,?_,?_,.inl ⟨rfl,?_⟩⟩,rfl,by show h.next≤h.next+1+1;omega,fun i hi=>?_⟩
   ·simp only[J1o,Tryz.underlying25,sz3,by3,J8P,Jte,hsrc,hone,hg',hcut,J5u]
    rw[if_pos (by simp;omega),if_pos trivial,if_pos trivial,if_pos (by rw[J0i,decide_eq_true (show (l.length+1)*8≤140737488355328 by omega),decide_eq_true (show l.length+1≤140737488355328 by omega),decide_eq_true (show h.floor≤id by omega)];rfl),if_neg (by decide),if_pos trivial,if_pos trivial]
   ·show lo≤h.next+1;omega
   ·show h.next+1<h.next+1+1;omega
   ·rw[hi1]
    exact J0h
   ·rw[J06 (by show i<h.next+1;omega),J05 (by show id<h.next+1;omega) (by omega),J06 (by omega)]
  ·have hcut:J16 (h.push (.row [iv x] 3 false false)) 1 l.length (qS id l.length l.length)=some (ints l):=by
    by_cases h0:l.length=0
    ·rw[List.length_eq_zero_iff.1 h0]
     rfl
    ·simp only[J16,J06 h2,hg,cut,List.drop_zero]
     rw[if_neg h0,List.take_of_length_le (by omega),if_pos (by omega)]
   refine⟨.slice (some ⟨(h.push (.row [iv x] 3 false false)).next,0,none⟩) (l.length+1) unk,(h.push (.row [iv x] 3 false false)).push (.row (ints l++[iv x]) 3 true false),?_,.inr ⟨_,unk,by rw[List.length_append];rfl,?_,?_,.inl ⟨rfl,?_⟩⟩,rfl,by show h.next≤h.next+1+1;omega,fun i hi=>?_⟩
   ·simp only[J1o,Tryz.underlying25,sz3,by3,J8P,Jte,hsrc,hone,hcut]
    rw[if_pos (by simp),if_pos trivial,if_neg (by unfold unk;omega),if_neg (by omega),if_pos (by simp only[Bool.and_eq_true,decide_eq_true_eq];omega)]
   ·show lo≤h.next+1;omega
   ·show h.next+1<h.next+1+1;omega
   ·rw[hi1]
    exact J0h
   ·rw[J06 (by show i<h.next+1;omega),J06 (by omega)]
theorem Jtg {n:Nat} {Z L:List RowN} {v:Value} {at_:Nat} {x:RowN} (ht:J2c Z) (hsk:Jkk L Z) (hv:J0l h v L) (hx:Z[at_]?=some x) (hlen:L.length<100000000) (hn:L.length+10<n) (hN:L.length+3<N) (hfl:h.floor≤h.next) :
  ∃ v' h',J0L Tryz.prog (J0T n) N 31 [v,iv at_] h=some (v',h')∧(IntL h' h.next v' ((Js9 (endN Z) x.kids.toNat (at_+1)).map (fun (k:Nat)=>(k:Int)))∧h'.floor=h.floor∧h.next≤h'.next∧∀ i,i<h.next→h'.get i=h.get i):=by
 refine J65 (R:=fun v' h'=>IntL h' h.next v' ((Js9 (endN Z) x.kids.toNat (at_+1)).map (fun (k:Nat)=>(k:Int)))∧h'.floor=h.floor∧h.next≤h'.next∧∀ i,i<h.next→h'.get i=h.get i) Tryz.func31 rfl (by simp[Tryz.f31]) ?_
 have hr:Tryz.f31.results.toList=[.tmp 4]:=rfl
 have hl:=fun (h':SHeap)=>hv.len (h':=h')
 have hal:=(List.getElem?_eq_some_iff.1 hx).1
 have hZ:=hsk.1
 have hs:=ht.end hal
 obtain⟨x',hx',hk0,_,hch⟩:=hs.kids
 rw[hx] at hx'
 cases hx'
 have hq:=hs.lt
 have hcl:=J2o _ _ _ hch
 obtain⟨y,hy,hyk⟩:=hsk.2 _ x hx
 obtain⟨id,p,e0,hid,l0,l1,l2,l3,l4,lr⟩:=hv.row hy
 rw[hyk] at l4
 have c1:decide ((at_:Int)<0)=false:=by simp
 have c2:decide ((at_:Int)≥(L.length:Int))=false:=by simp;omega
 have w1:IntKind.i64.wrap ((at_:Int)+1)=((at_+1:Nat):Int):=J0s (by omega) (by omega)
 simp only[evC,seval,↓evP,rpC,hr,c1,hl,c2,w1,e0,l4]
 refine WK.loop (fun i s'=>s'.T.get 0=v∧s'.T.get 21=iv x.kids∧s'.T.get 22=iv i∧i≤x.kids.toNat∧h.next≤s'.h.next∧s'.h.floor=h.floor∧(∀ j,j<h.next→s'.h.get j=h.get j)∧∃ p l w,s'.T.get 6=iv ((p:Nat):Int)∧s'.T.get 5=w∧IntL s'.h h.next w (l.map (fun (k:Nat)=>(k:Int)))∧l.length=i∧l++Js9 (endN Z) (x.kids.toNat-i) p=Js9 (endN Z) x.kids.toNat (at_+1)∧J35 Z (x.kids.toNat-i) p (endN Z at_)) x.kids.toNat (by omega) ?_ ?_
 ·exact⟨by simp only[evC,seval,↓evP,rpC],by simp only[evC,seval,↓evP,rpC],by simp only[evC,seval,↓evP,rpC],by omega,Nat.le_refl _,rfl,fun _ _=>rfl,at_+1,[],Z0,by simp only[evC,seval,↓evP,rpC],by simp only[evC,seval,↓evP,rpC],.inl ⟨rfl,rfl⟩,rfl,rfl,hch⟩
 rintro i ⟨T1,H1⟩ hi ⟨t0,t21,t22,hil,m1,m2,m3,p,l,w,t6,t5,hL,hll,hlk,hc⟩
 simp only at t0 t21 t22 m1 m2 m3 t6 t5 hL
 by_cases hlt:i<x.kids.toNat
 ·have d1:decide ((i:Int)<x.kids)=true:=by simp;omega
  obtain⟨r,hr1⟩:∃ r,x.kids.toNat-i=r+1:=⟨x.kids.toNat-i-1,by omega⟩
  rw[hr1] at hc hlk
  obtain⟨p',s1,s2,s3,s4⟩:=hc
  have hle:=J2o _ _ _ s4
  have d2:decide ((p:Int)≥(L.length:Int))=false:=by simp;omega
  have hep:=J5P s1
  obtain⟨w',H',happ,hL',fH,nH,oH⟩:=JsR (x:=(p:Int)) hL m1 (by omega) (by rw[List.length_map];omega)
  have hvH:J0l H' v L:=hv.mono (by omega) fun j hj=>(oH j hj).trans (m3 j hj)
  have hend:=Jua (n:=n) hsk hvH s1 (by omega) (by omega)
  have w2:IntKind.i64.wrap ((i:Int)+1)=((i+1:Nat):Int):=J0s (by omega) (by omega)
  simp only[evC,seval,↓evP,t0,t21,t22,t5,t6,d1,hl,d2,bs28,happ,hend,w2]
  refine⟨hlt,by omega,by omega,by omega,fun j hj=>(oH j hj).trans (m3 j hj),p',l++[p],w',rfl,rfl,?_,by rw[List.length_append,hll];rfl,?_,?_⟩
  ·rw[List.map_append]
   exact hL'
  ·rw[List.append_assoc,← hlk,show x.kids.toNat-(i+1)=r by omega]
   show l++(p :: Js9 (endN Z) r p')=l++(p :: Js9 (endN Z) r (endN Z p))
   rw[hep]
  ·rw[show x.kids.toNat-(i+1)=r by omega]
   exact s4
 ·have d1:decide ((i:Int)<x.kids)=false:=by simp;omega
  rw[show x.kids.toNat-i=0 by omega] at hlk
  have hl9:l=Js9 (endN Z) x.kids.toNat (at_+1):=by
   rw[← hlk]
   exact(List.append_nil l).symm
  subst hl9
  simp only[evC,seval,↓evP,hr,t0,t21,t22,t5,t6,d1]
  exact⟨hL,m2,m1,m3⟩
theorem IntL.flat {lo:Nat} {v:Value} {l:List Int} (hl:IntL h lo v l) (hf:J3m v=true) (h':SHeap) (lo':Nat):IntL h' lo' v l:=by
 rcases hl with h1 | ⟨id,c,rfl,_⟩
 ·exact .inl h1
 ·cases hf
theorem Ju7 {n:Nat} {Z L:List RowN} {v:Value} {at_:Nat} {x:RowN} (ht:J2c Z) (hsk:Jkk L Z) (hv:J0l h v L) (hx:Z[at_]?=some x) (hlen:L.length<100000000) (hn:L.length+20<n) (hfl:h.floor≤h.next) :
  ∃ v' h',J0T n 31 [v,iv at_] h=some (v',h')∧(IntL h' h.next v' ((Js9 (endN Z) x.kids.toNat (at_+1)).map (fun (k:Nat)=>(k:Int)))∧h'.floor=h.floor∧h.next≤h'.next∧∀ i,i<h.next→h'.get i=h.get i):=by
 obtain⟨n,rfl⟩:∃ j,n=j+1:=⟨n-1,by omega⟩
 exact k_ex (J13 ⟨rfl,rfl,rfl⟩) (Jtg (n:=n) (N:=n) ht hsk hv hx hlen (by omega) (by omega) hfl) fun v' h1 hf _ ht=>⟨ht.1.flat hf _ _,rfl,Nat.le_refl _,fun _ _=>rfl⟩
end
section
variable {l:List RowN} {m:Nat}
theorem JsE {p:Nat} {what:Int} (h:(rowN J09 l m p what).2=true):∃ y:RowN,l[p]?=some y∧J1l what y.kind=true∧fitN J09 y=true:=by
 cases m with
 | zero=>cases h
 | succ m=>
  unfold rowN at h
  cases hx:l[p]? with
  | none=>rw[hx] at h;cases h
  | some y=>
   rw[hx] at h
   simp only at h
   split at h
   ·rename_i hc
    rw[Bool.and_eq_true] at hc
    exact⟨y,rfl,hc.1,hc.2⟩
   ·cases h
theorem Jti {κ:Int}:∀ r k p q,J2r (fun k next=>rowN J09 l m next (J0A κ k)) r k p=(q,true)→∀ (j p':Nat),(Js9 (endN l) r p)[j]?=some p'→∃ y:RowN,l[p']?=some y∧J1l (J0A κ (k+j)) y.kind=true:=by
 intro r
 induction r with
 | zero=>intro k p q _ j p' h;simp[Js9] at h
 | succ r ih=>
  intro k p q h j p' hj
  unfold J2r at h
  split at h
  ·rename_i hc
   have he:endN l p=(rowN J09 l m p (J0A κ k)).1:=J5P (.inl ⟨m,J0A κ k,Prod.ext rfl hc⟩)
   cases j with
   | zero=>
    have:p=p':=by simpa [Js9] using hj
    subst this
    obtain⟨y,h1,h2,_⟩:=JsE hc
    exact⟨y,h1,h2⟩
   | succ j=>
    have hj':(Js9 (endN l) r (endN l p))[j]?=some p':=by simpa [Js9] using hj
    rw[he] at hj'
    have:=ih (k+1) _ _ h j p' hj'
    rwa [show k+1+j=k+(j+1) by omega] at this
  ·cases h
theorem Jtr:∀ (r:Nat) (ev:Bool) (p q:Nat),polN J09 l m r ev p=(q,true)→∀ (j p':Nat),(Js9 (endN l) r p)[j]?=some p'→∃ y:RowN,l[p']?=some y∧2≤y.kind∧y.kind≤10:=by
 intro r
 induction r with
 | zero=>intro k p q _ j p' h;simp[Js9] at h
 | succ r ih=>
  intro ev p q h j p' hj
  unfold polN at h
  split at h
  ·rename_i hc
   have he:endN l p=(rowN J09 l m p (J3J ev l[p]?)).1:=J5P (.inl ⟨m,_,Prod.ext rfl hc⟩)
   cases j with
   | zero=>
    have:p=p':=by simpa [Js9] using hj
    subst this
    obtain⟨y,h1,h2,_⟩:=JsE hc
    refine⟨y,h1,?_⟩
    unfold J3J at h2
    split at h2
    ·unfold J1l at h2
     simp at h2
     omega
    ·unfold J1l at h2
     simp at h2
     omega
   | succ j=>
    have hj':(Js9 (endN l) r (endN l p))[j]?=some p':=by simpa [Js9] using hj
    rw[he] at hj'
    exact ih _ _ _ h j p' hj'
  ·cases h
theorem J2c.kid {i:Nat} {x:RowN} (ht:J2c l) (hx:l[i]?=some x) {k p:Nat} (hk:(Js9 (endN l) x.kids.toNat (i+1))[k]?=some p):∃ y:RowN,l[p]?=some y∧(J1l (J0A x.kind k) y.kind=true∨(2≤y.kind∧y.kind≤10)):=by
 obtain⟨q,hq⟩:∃ q,SubT l i q:=⟨_,ht.end (List.getElem?_eq_some_iff.1 hx).1⟩
 rcases hq with⟨m,what,h⟩ | ⟨rfl,m,h⟩
 ·cases m with
  | zero=>cases h
  | succ m=>
   unfold rowN at h
   rw[hx] at h
   simp only at h
   split at h
   ·obtain⟨y,h1,h2⟩:=Jti _ _ _ _ h k p hk
    rw[Nat.zero_add] at h2
    exact⟨y,h1,.inl h2⟩
   ·cases h
 ·unfold topN at h
  rw[hx] at h
  simp only at h
  split at h
  ·obtain⟨y,h1,h2⟩:=Jtr _ _ _ _ h k p hk
   exact⟨y,h1,.inr h2⟩
  ·cases h
theorem J2c.fit {i:Nat} {x:RowN} (ht:J2c l) (hx:l[i]?=some x):fitN J09 x=true:=by
 obtain⟨q,hq⟩:∃ q,SubT l i q:=⟨_,ht.end (List.getElem?_eq_some_iff.1 hx).1⟩
 rcases hq with⟨m,what,h⟩ | ⟨rfl,m,h⟩
 ·obtain⟨y,h1,_,h3⟩:=JsE (congrArg (·.2) h)
  rw[hx] at h1
  cases h1
  exact h3
 ·unfold topN at h
  rw[hx] at h
  simp only at h
  split at h
  ·rename_i hc
   rw[Bool.and_eq_true] at hc
   exact hc.2
  ·cases h
theorem J2c.place {i:Nat} {x y:RowN} (ht:J2c l) (hx:l[i]?=some x) {k p:Nat} (hk:(Js9 (endN l) x.kids.toNat (i+1))[k]?=some p) (hy:l[p]?=some y) (hp:y.kind=24):p=i+1∧(x.kind=19∨x.kind=20):=by
 obtain⟨y',h1,h2⟩:=ht.kid hx hk
 rw[hy] at h1
 cases h1
 have hf:=ht.fit hx
 unfold fitN at hf
 simp only[Bool.and_eq_true,decide_eq_true_eq,Bool.or_eq_true] at hf
 obtain⟨⟨_,hl⟩,hm⟩:=hf
 have h19:x.kind=19∨x.kind=20:=by
  rcases h2 with h2 | h2
  ·rw[hp] at h2
   unfold J0A at h2
   by_cases e1:x.kind=19
   ·exact .inl e1
   ·by_cases e2:x.kind=20
    ·exact .inr e2
    ·exfalso
     have c6:([19,20]:List Int).contains x.kind=false:=by simp[e1,e2]
     rw[c6] at h2
     (repeat' split at h2) <;> first | (simp[J1l] at h2;done) | simp_all [J1l]
  ·omega
 have hm1:x.kids≤1:=by
  rcases h19 with e | e <;> (rw[e] at hm;rcases hm with hm | hm <;> simp[J1r] at hm <;> omega)
 have hkl:=(List.getElem?_eq_some_iff.1 hk).1
 rw[Jsg] at hkl
 have hk0:k=0:=by omega
 subst hk0
 obtain⟨r,hr⟩:∃ r,x.kids.toNat=r+1:=⟨x.kids.toNat-1,by omega⟩
 rw[hr] at hk
 have:i+1=p:=by simpa [Js9] using hk
 exact⟨this.symm,h19⟩
theorem Jt7:∀ (r p q:Nat),J35 l r p q→∀ at_,p≤at_→at_<q→∃ (j p':Nat),(Js9 (endN l) r p)[j]?=some p'∧p≤p'∧p'≤at_∧at_<endN l p':=by
 intro r
 induction r with
 | zero=>intro p q h at_ h1 h2;have:p=q:=h;omega
 | succ r ih=>
  intro p q ⟨p',s1,s2,s3,s4⟩ at_ h1 h2
  have he:=J5P s1
  rcases Nat.lt_or_ge at_ p' with h3 | h3
  ·exact⟨0,p,by simp[Js9],Nat.le_refl _,h1,by omega⟩
  ·obtain⟨j,p2,j1,j2,j3,j4⟩:=ih p' q s4 at_ h3 h2
   refine⟨j+1,p2,?_,by omega,j3,j4⟩
   show (p :: Js9 (endN l) r (endN l p))[j+1]?=_
   rw[he]
   exact j1
theorem J2c.kidOf (ht:J2c l):∀ (n i at_:Nat),at_≤i+n→i<at_→at_<endN l i→i<l.length→∃ (j:Nat) (x:RowN) (k:Nat),l[j]?=some x∧j<at_∧(Js9 (endN l) x.kids.toNat (j+1))[k]?=some at_:=by
 intro n
 induction n with
 | zero=>intro i at_ h1 h2;omega
 | succ n ih=>
  intro i at_ h1 h2 h3 h4
  obtain⟨x,hx,_,_,hc⟩:=(ht.end h4).kids
  obtain⟨j,p,j1,j2,j3,j4⟩:=Jt7 _ _ _ hc at_ (by omega) h3
  rcases Nat.lt_or_ge p at_ with h5 | h5
  ·have hpl:p<l.length:=by
    obtain⟨y,hy,_⟩:=ht.kid hx j1
    exact(List.getElem?_eq_some_iff.1 hy).1
   exact ih p at_ (by omega) h5 j4 hpl
  ·obtain rfl:p=at_:=by omega
   exact⟨i,x,j,hx,h2,j1⟩
end
def typN (k:Int):Int:=
 if [27,28,31,32,33,34,38,39,40,41,43,44,45,46].contains k then 1 else if [29,30,35,36,37,42,47,48,49,50,51,52,53,54].contains k then 2 else 0
def Js8 (kind:Int) (k:Nat) (first:Int):Int:=
 if [4,5,14,41,39,40,43,44,45,46,49,50,51,52].contains kind then 1 else if kind=15 then (if k=1 then 1 else 0) else if [6,42,53,54].contains kind then 2
 else if kind=12 then (if k=0 then 2 else 0) else if kind=13 then (if k=0 then 1 else if k=1 then 2 else 0) else if [47,48].contains kind then (if k=1 then first else 0) else 0
def Jsi (k:Int):Bool:=[28,31,34,35,36,37,38].contains k
def Jsn (kind:Int) (k:Nat):Bool:=[4,5,6].contains kind||(kind==13&&k==0)
def Jsl (Q:List (ByteArray × Bool)) (n:Int):Bool:=((Q[n.toNat]?).map (·.2)).getD false
def Jse (Q:List (ByteArray × Bool)) (x up:RowN):Bool:=
 if [8,17,20].contains x.kind then Jsl Q x.n else if [9,21].contains x.kind then !(Jsl Q x.n)
 else if x.kind=24 then (if up.kind=20 then !(Jsl Q x.n) else Jsl Q x.n != Jsl Q up.n) else false
structure MkT where
 A:List Int
 C:List Bool
 U:List Int
def Jsf (i:Nat) (x:RowN) (first:Int) (s:MkT) (k p:Nat):MkT:=⟨s.A.set p (Js8 x.kind k first),s.C.set p (((s.C[i]?).getD false)||Jsn x.kind k),s.U.set p (i:Int)⟩
def setL (i:Nat) (x:RowN) (first:Int):Nat→List Nat→MkT→MkT
 | _,[],s=>s
 | k,p :: ps,s=>setL i x first (k+1) ps (Jsf i x first s k p)
def Jsq (R:List RowN) (e:Nat→Nat) (i:Nat) (s:MkT):MkT:=match R[i]? with
 | none=>s
 | some x=>setL i x (typN (((R[i+1]?).map (·.kind)).getD 0)) 0 (Js9 e x.kids.toNat (i+1)) s
def Js7 (R:List RowN) (e:Nat→Nat):Nat→MkT
 | 0=>⟨List.replicate R.length 0,List.replicate R.length false,List.replicate R.length 0⟩
 | i+1=>Jsq R e i (Js7 R e i)
def badN (R:List RowN) (Q:List (ByteArray × Bool)) (s:MkT) (i:Nat) (x:RowN):Int:=
 if ((s.A[i]?).getD 0)≠0∧typN x.kind≠(s.A[i]?).getD 0 then 41 else if ((s.C[i]?).getD false&&Jsi x.kind)=true then 42
 else if Jse Q x ((R[((s.U[i]?).getD 0).toNat]?).getD ⟨0,ByteArray.empty,0,0,0⟩)=true then 46 else 0
def Jsa (R:List RowN) (Q:List (ByteArray × Bool)) (e:Nat→Nat):Nat→Nat→(Int × Int) × List Int
 | 0,_=>((0,0),R.map (typN ·.kind))
 | r+1,i=>match R[i]? with
  | none=>((0,0),R.map (typN ·.kind))
  | some x=>if badN R Q (Js7 R e i) i x≠0 then ((badN R Q (Js7 R e i) i x,(i:Int)),[]) else Jsa R Q e r (i+1)
section
variable {i:Nat} {x:RowN} {first:Int}
theorem Jss:∀ (ps:List Nat) (k:Nat) (s:MkT),(setL i x first k ps s).A.length=s.A.length∧(setL i x first k ps s).C.length=s.C.length∧(setL i x first k ps s).U.length=s.U.length
 | [],k,s=>⟨rfl,rfl,rfl⟩
 | p :: ps,k,s=>by
  have:=Jss ps (k+1) (Jsf i x first s k p)
  simpa [setL,Jsf] using this
theorem Jsr:∀ (ps:List Nat) (k:Nat) (s:MkT) (q:Nat),q∉ps→(setL i x first k ps s).A[q]?=s.A[q]?∧(setL i x first k ps s).C[q]?=s.C[q]?∧(setL i x first k ps s).U[q]?=s.U[q]?
 | [],k,s,q,_=>⟨rfl,rfl,rfl⟩
 | p :: ps,k,s,q,h=>by
  have h1:q≠p:=fun e=>h (by rw[e];exact List.mem_cons_self)
  have h2:q∉ps:=fun e=>h (List.mem_cons_of_mem _ e)
  obtain⟨a,b,c⟩:=Jsr ps (k+1) (Jsf i x first s k p) q h2
  refine⟨a.trans ?_,b.trans ?_,c.trans ?_⟩
  ·exact List.getElem?_set_ne (Ne.symm h1)
  ·exact List.getElem?_set_ne (Ne.symm h1)
  ·exact List.getElem?_set_ne (Ne.symm h1)
theorem JtG:∀ (ps:List Nat) (k:Nat) (s:MkT) (q:Nat),q∈ps→q<s.U.length→(setL i x first k ps s).U[q]?=some (i:Int)
 | [],k,s,q,h,_=>by cases h
 | p :: ps,k,s,q,h,hq=>by
  by_cases h2:q∈ps
  ·exact JtG ps (k+1) (Jsf i x first s k p) q h2 (by simpa [Jsf] using hq)
  ·have h1:q=p:=by
    rcases List.mem_cons.1 h with h | h
    ·exact h
    ·exact absurd h h2
   subst h1
   exact(Jsr ps (k+1) (Jsf i x first s k q) q h2).2.2.trans (List.getElem?_set_self hq)
end
theorem JsG {l:List RowN}:∀ r p q,J35 l r p q→∀ z∈Js9 (endN l) r p,p≤z
 | 0,p,q,_,z,hz=>by cases hz
 | r+1,p,q,⟨p',s1,s2,s3,s4⟩,z,hz=>by
  have hz':z=p∨z∈Js9 (endN l) r (endN l p):=by simpa [Js9] using hz
  rcases hz' with rfl | hz'
  ·exact Nat.le_refl _
  ·rw[J5P s1] at hz'
   have:=JsG r p' q s4 z hz'
   omega
section
variable {R:List RowN}
theorem Jsk (e:Nat→Nat):∀ i,(Js7 R e i).A.length=R.length∧(Js7 R e i).C.length=R.length∧(Js7 R e i).U.length=R.length
 | 0=>by simp[Js7]
 | i+1=>by
  have h:=Jsk e i
  unfold Js7 Jsq
  cases hx:R[i]? with
  | none=>exact h
  | some x=>
   have:=Jss (i:=i) (x:=x) (first:=typN (((R[i+1]?).map (·.kind)).getD 0)) (Js9 e x.kids.toNat (i+1)) 0 (Js7 R e i)
   exact⟨this.1.trans h.1,this.2.1.trans h.2.1,this.2.2.trans h.2.2⟩
theorem JsC (ht:J2c R) {i:Nat}:∀ j,i≤j→(Js7 R (endN R) j).A[i]?=(Js7 R (endN R) i).A[i]?∧(Js7 R (endN R) j).C[i]?=(Js7 R (endN R) i).C[i]?∧(Js7 R (endN R) j).U[i]?=(Js7 R (endN R) i).U[i]?:=by
 intro j
 induction j with
 | zero=>
  intro h
  have:i=0:=by omega
  subst this
  exact⟨rfl,rfl,rfl⟩
 | succ j ih=>
  intro h
  rcases Nat.lt_or_ge j i with h1 | h1
  ·obtain rfl:i=j+1:=by omega
   exact⟨rfl,rfl,rfl⟩
  ·have h2:=ih h1
   have h3:(Js7 R (endN R) (j+1)).A[i]?=(Js7 R (endN R) j).A[i]?∧(Js7 R (endN R) (j+1)).C[i]?=(Js7 R (endN R) j).C[i]?∧(Js7 R (endN R) (j+1)).U[i]?=(Js7 R (endN R) j).U[i]?:=by
    have hs:Js7 R (endN R) (j+1)=Jsq R (endN R) j (Js7 R (endN R) j):=rfl
    rw[hs]
    unfold Jsq
    cases hx:R[j]? with
    | none=>exact⟨rfl,rfl,rfl⟩
    | some x=>
     simp only
     obtain⟨y,hy,_,_,hc⟩:=(ht.end (List.getElem?_eq_some_iff.1 hx).1).kids
     rw[hx] at hy
     cases hy
     exact Jsr _ 0 _ i fun hm=>by
      have:=JsG _ _ _ hc i hm
      omega
   exact⟨h3.1.trans h2.1,h3.2.1.trans h2.2.1,h3.2.2.trans h2.2.2⟩
theorem JsK (ht:J2c R) {at_:Nat} {y:RowN} (hy:R[at_]?=some y) (h24:y.kind=24) (h0:0<at_):(Js7 R (endN R) at_).U[at_]?=some ((at_-1:Nat):Int):=by
 have hl:=(List.getElem?_eq_some_iff.1 hy).1
 have h0l:endN R 0=R.length:=J5P ht
 obtain⟨j,x,k,hx,hj,hk⟩:=ht.kidOf at_ 0 at_ (by omega) h0 (by omega) (by omega)
 obtain⟨hp,_⟩:=ht.place hx hk hy h24
 obtain⟨i,rfl⟩:∃ i,at_=i+1:=⟨at_-1,by omega⟩
 obtain rfl:j=i:=by omega
 rw[Nat.add_sub_cancel]
 unfold Js7 Jsq
 rw[hx]
 exact JtG _ 0 _ _ (List.mem_of_getElem? hk) (by rw[(Jsk (endN R) j).2.2];exact hl)
end
def JkW (s:StN) (k n:Int) (nm:ByteArray):Prop:=
 0≤n∧((k=1∧∃ b,s.queues[n.toNat]?=some (nm,b))∨(k=2∧s.vars[n.toNat]?=some nm)∨(k=3∧s.tags[n.toNat]?=some nm)∨(k=4∧∃ ru:Nat,s.rules[n.toNat]?=some ((ru:Int)+1)∧∃ y:RowN,s.rows[ru]?=some y∧y.name=nm))
structure UpS (s s':StN):Prop where
 q:∀ (i:Nat) x,s.queues[i]?=some x→s'.queues[i]?=some x
 v:∀ (i:Nat) x,s.vars[i]?=some x→s'.vars[i]?=some x
 t:∀ (i:Nat) x,s.tags[i]?=some x→s'.tags[i]?=some x
 u:∀ (i:Nat) x,s.rules[i]?=some x→s'.rules[i]?=some x
 r:∀ (i:Nat) (y:RowN),s.rows[i]?=some y→∃ y':RowN,s'.rows[i]?=some y'∧y'.name=y.name
theorem JkW.up {s s':StN} {k n:Int} {nm:ByteArray} (h:JkW s k n nm) (hu:UpS s s'):JkW s' k n nm:=by
 refine⟨h.1,?_⟩
 rcases h.2 with⟨h1,b,h2⟩ | ⟨h1,h2⟩ | ⟨h1,h2⟩ | ⟨h1,ru,h2,y,h3,h4⟩
 ·exact .inl ⟨h1,b,hu.q _ _ h2⟩
 ·exact .inr (.inl ⟨h1,hu.v _ _ h2⟩)
 ·exact .inr (.inr (.inl ⟨h1,hu.t _ _ h2⟩))
 ·obtain⟨y',h5,h6⟩:=hu.r _ _ h3
  exact .inr (.inr (.inr ⟨h1,ru,hu.u _ _ h2,y',h5,h6.trans h4⟩))
theorem Jl9 {α:Type} {l:List α} {i:Nat} {x y:α} (h:l[i]?=some x):(l++[y])[i]?=some x:=by rw[List.getElem?_append_left (List.getElem?_eq_some_iff.1 h).1];exact h
theorem Jlf {l:List RowN} {k i:Nat} {n:Int} {y:RowN} (h:l[i]?=some y):∃ y':RowN,(setN l k n)[i]?=some y'∧y'.name=y.name:=by
 by_cases hi:i=k
 ·subst hi
  exact⟨_,J4g h,rfl⟩
 ·exact⟨y,(J4M hi).trans h,rfl⟩
theorem JkX {k:Int} (h:J1O k≠0):J0j k=0:=by
 unfold J0j
 unfold J1O at h
 split
 ·rename_i h1
  simp only[List.contains_cons,List.contains_nil,Bool.or_false,Bool.or_eq_true,beq_iff_eq] at h1
  rcases h1 with rfl | rfl <;> exact absurd rfl h
 split
 ·subst k;exact absurd rfl h
 split
 ·subst k;exact absurd rfl h
 split
 ·subst k;exact absurd rfl h
 rfl
def Jkw (k:Int):Int:=J1O k+J0j k
theorem Jll {k:Int} (h:Jkw k=0):J1O k=0∧J0j k=0:=by
 have:=Jcr k
 have:=J3c k
 unfold Jkw at h
 omega
structure ToldM (l:List RowN) (at_:Nat) (s:StN):Prop where
 rows:∀ (i:Nat) (x:RowN),i<at_→s.rows[i]?=some x→(Jkw x.kind=0→l[i]?=some x)∧(Jkw x.kind≠0→JkW s (Jkw x.kind) x.n x.name)
 things:∀ t∈s.things,JkW s t.kind t.num t.name
theorem ToldM.up {l:List RowN} {at_:Nat} {s s':StN} (h:ToldM l at_ s) (hu:UpS s s') (hr:∀ i,i<at_→s'.rows[i]?=s.rows[i]?) (ht:∀ t∈s'.things,t∈s.things∨JkW s' t.kind t.num t.name):ToldM l at_ s' where
 rows:=fun i x hi hx=>by
  rw[hr i hi] at hx
  obtain⟨h1,h2⟩:=h.rows i x hi hx
  exact⟨h1,fun h3=>(h2 h3).up hu⟩
 things:=fun t h1=>by
  rcases ht t h1 with h2 | h2
  ·exact(h.things t h2).up hu
  ·exact h2
theorem JmD {at_:Nat} {end_:Int} {x:RowN} {s:StN}:UpS s (addN at_ end_ x s) where
 q:=fun i y h=>by simp only[addN];split;(first | exact Jl9 h | exact h);exact h
 v:=fun i y h=>by simp only[addN];split;(first | exact Jl9 h | exact h);exact h
 t:=fun i y h=>by simp only[addN];split;(first | exact Jl9 h | exact h);exact h
 u:=fun i y h=>by simp only[addN];split;(first | exact Jl9 h | exact h);exact h
 r:=fun i y h=>Jlf h
theorem JmA (s:StN):UpS s s:=⟨fun _ _ h=>h,fun _ _ h=>h,fun _ _ h=>h,fun _ _ h=>h,fun _ y h=>⟨y,h,rfl⟩⟩
theorem JkM {α:Type} (l:List α) (y:α):(l++[y])[l.length]?=some y:=by simp
theorem Jmq {at_:Nat} {end_:Int} {x:RowN} {s:StN} (hx:s.rows[at_]?=some x) (hd:J0j x.kind≠0):JkW (addN at_ end_ x s) (J0j x.kind) (cntN s (J0j x.kind)) x.name:=by
 have hk:=J3c x.kind
 refine⟨by omega,?_⟩
 rw[Int.toNat_natCast]
 have hc:J0j x.kind=1∨J0j x.kind=2∨J0j x.kind=3∨J0j x.kind=4:=by omega
 rcases hc with e | e | e | e
 ·refine .inl ⟨e,x.kind==3,?_⟩
  simp only[addN,cntN,e]
  exact JkM _ _
 ·refine .inr (.inl ⟨e,?_⟩)
  simp only[addN,cntN,e]
  exact JkM _ _
 ·refine .inr (.inr (.inl ⟨e,?_⟩))
  simp only[addN,cntN,e]
  exact JkM _ _
 ·refine .inr (.inr (.inr ⟨e,at_,?_,_,J4g hx,rfl⟩))
  simp only[addN,cntN,e]
  exact JkM _ _
theorem JlM {l:List RowN} {at_:Nat} {end_:Int} {x:RowN} {s:StN} (h:ToldM l at_ s) (hx:s.rows[at_]?=some x) :
  ToldM l at_ (J0W at_ end_ x s)∧∃ n,(J0W at_ end_ x s).rows[at_]?=some { x with n:=n }∧(J0j x.kind=0→n=x.n)∧(J0j x.kind≠0→JkW (J0W at_ end_ x s) (J0j x.kind) n x.name):=by
 unfold J0W
 by_cases d0:J0j x.kind=0
 ·rw[if_pos d0]
  exact⟨h,x.n,hx,fun _=>rfl,fun h1=>absurd d0 h1⟩
 ·rw[if_neg d0]
  have hs:=Jmq (end_:=end_) hx d0
  refine⟨h.up JmD (fun i hi=>J4M (by omega)) fun t ht=>?_,_,J4g hx,fun h1=>absurd h1 d0,fun _=>hs⟩
  simp only[addN,List.mem_append,List.mem_cons,List.not_mem_nil,or_false] at ht
  rcases ht with h1 | rfl
  ·exact .inl h1
  ·exact .inr hs
theorem Jm1 {l:List RowN} {at_:Nat} {x:RowN} {s:StN} (h:ToldM l at_ s) (hx:s.rows[at_]?=some x) (hc:J1v at_ x s=0) :
  ToldM l at_ (J0D at_ x s)∧UpS s (J0D at_ x s)∧∃ n,(J0D at_ x s).rows[at_]?=some { x with n:=n }∧(J1O x.kind=0→n=x.n)∧(J1O x.kind≠0→JkW (J0D at_ x s) (J1O x.kind) n x.name):=by
 unfold J0D
 unfold J1v at hc
 by_cases d0:J1O x.kind=0
 ·rw[if_pos d0]
  exact⟨h,JmA s,x.n,hx,fun _=>rfl,fun h1=>absurd d0 h1⟩
 ·rw [if_neg d0] at hc ⊢
  cases hf:J30 s.things x.name with
  | none=>simp only[hf] at hc;cases hc
  | some t=>
   simp only[hf] at hc ⊢
   have hk:t.kind=J1O x.kind:=by
    split at hc
    ·cases hc
    ·split at hc
     ·cases hc
     ·rename_i h;simpa using h
   have hnm:t.name=x.name:=by
    have:=List.find?_some hf
    exact(J3o this).symm
   have hu:UpS s { s with rows:=setN s.rows at_ t.num }:=⟨fun _ _ h=>h,fun _ _ h=>h,fun _ _ h=>h,fun _ _ h=>h,fun _ y h=>Jlf h⟩
   have hs:=(h.things t (J8w hf)).up hu
   rw[hk,hnm] at hs
   exact⟨h.up hu (fun i hi=>J4M (by omega)) fun t ht=>.inl ht,hu,_,J4g hx,fun h1=>absurd h1 d0,fun _=>hs⟩
theorem JlW {l:List RowN} {E:List Int} {at_:Nat} {s:StN} (hat:at_<l.length) (hi:InvR l at_ s) (h:ToldM l at_ s) (h0:(J31 E at_ s).1=0):ToldM l (at_+1) (J31 E at_ s).2:=by
 obtain⟨x,hx⟩:∃ x,s.rows[at_]?=some x:=⟨_,List.getElem?_eq_getElem (by rw[hi.len];exact hat)⟩
 have hxl:l[at_]?=some x:=by rw[← hi.later at_ (Nat.le_refl _)];exact hx
 unfold J31 at h0 ⊢
 rw[hx] at h0 ⊢
 simp only at h0 ⊢
 by_cases hd:J25 x s=0
 case neg=>rw[if_pos hd] at h0;exact absurd h0 hd
 rw[if_neg (by simpa using hd)] at h0 ⊢
 obtain⟨t1,k1,r1,a1,b1⟩:=JlM (end_:=(E[at_]?).getD 0) h hx
 generalize J0W at_ ((E[at_]?).getD 0) x s=s1 at *
 rw[r1] at h0 ⊢
 simp only at h0 ⊢
 by_cases hc:J1v at_ { x with n:=k1 } s1=0
 case neg=>rw[if_pos hc] at h0;exact absurd h0 hc
 rw[if_neg (by simpa using hc)] at h0 ⊢
 obtain⟨t2,u2,k2,r2,a2,b2⟩:=Jm1 t1 r1 hc
 simp only at r2 a2 b2
 generalize J0D at_ { x with n:=k1 } s1=s2 at *
 rw[r2] at h0 ⊢
 simp only at h0 ⊢
 by_cases hv:evE { x with n:=k2 } s2=0
 case neg=>rw[if_pos hv] at h0;exact absurd h0 hv
 rw[if_neg (by simpa using hv)] at h0 ⊢
 have hev:(evS at_ { x with n:=k2 } s2).queues=s2.queues∧(evS at_ { x with n:=k2 } s2).vars=s2.vars∧(evS at_ { x with n:=k2 } s2).tags=s2.tags∧(evS at_ { x with n:=k2 } s2).rules=s2.rules∧(evS at_ { x with n:=k2 } s2).rows=s2.rows∧(evS at_ { x with n:=k2 } s2).things=s2.things:=by
  unfold evS
  split
  ·exact⟨rfl,rfl,rfl,rfl,rfl,rfl⟩
  ·split <;> exact⟨rfl,rfl,rfl,rfl,rfl,rfl⟩
 obtain⟨e1,e2,e3,e4,e5,e6⟩:=hev
 generalize evS at_ { x with n:=k2 } s2=s3 at *
 have hu3:UpS s2 s3:=⟨fun i y h=>by rw[e1];exact h,fun i y h=>by rw[e2];exact h,fun i y h=>by rw[e3];exact h,fun i y h=>by rw[e4];exact h,fun i y h=>⟨y,by rw[e5];exact h,rfl⟩⟩
 have t3:ToldM l at_ s3:=t2.up hu3 (fun i _=>by rw[e5]) fun t ht=>.inl (by rw[← e6];exact ht)
 refine⟨fun i y hi' hy=>?_,t3.things⟩
 by_cases hia:i=at_
 ·subst hia
  rw[e5,r2] at hy
  cases hy
  simp only
  refine⟨fun h1=>?_,fun h1=>?_⟩
  ·obtain⟨h2,h3⟩:=Jll h1
   rw[a2 h2,a1 h3]
   exact hxl
  ·by_cases c0:J1O x.kind=0
   ·have d0:J0j x.kind≠0:=fun h2=>h1 (by unfold Jkw;omega)
    rw[show Jkw x.kind=J0j x.kind by unfold Jkw;omega,a2 c0]
    exact((b1 d0).up u2).up hu3
   ·rw[show Jkw x.kind=J1O x.kind by unfold Jkw;rw[JkX c0];omega]
    exact(b2 c0).up hu3
 ·exact t3.rows i y (by omega) hy
theorem JlI {l:List RowN} {E:List Int} (ht:J2c l) (hE:∀ i:Nat,0≤(E[i]?).getD 0):∀ r at_ s,at_+r=l.length→InvR l at_ s→ToldM l at_ s→(goN E r at_ s).1=0→ToldM l l.length (goN E r at_ s).2.2
 | 0,at_,s,hr,hi,h,_=>by
  have:at_=l.length:=by omega
  subst this
  exact h
 | r+1,at_,s,hr,hi,h,h0=>by
  unfold goN at h0 ⊢
  by_cases h9:(J31 E at_ s).1=0
  ·rw[if_neg (by simpa using h9)] at h0 ⊢
   exact JlI ht hE r (at_+1) _ (by omega) (J6b ht (hE at_) (by omega) hi h9) (JlW (by omega) hi h h9) h0
  ·rw[if_pos h9] at h0
   exact absurd h0 h9
theorem Jmh {l:List RowN} (h:(resN l).1.1=0):ToldM l l.length (resN l).2:=by
 obtain⟨ht,_,hg,_,he,_⟩:=JhO h
 rw[he]
 exact JlI ht J3T l.length 0 (s0N l) (by omega) (inv0 l) ⟨fun i x hi=>by omega,fun t ht=>by simp[s0N] at ht⟩ hg
def Jtf (L Z:List RowN):Prop:=∀ (i:Nat) (z:RowN),Z[i]?=some z→∃ x:RowN,L[i]?=some x∧x.kind=z.kind
structure GoodT (Z:List RowN) (s:StN):Prop where
 t:J2c Z
 sk:Jkk s.rows Z
 kk:Jtf s.rows Z
 ks:∀ (i:Nat) (x:RowN),s.rows[i]?=some x→1≤x.kind∧x.kind≤54
 qn:∀ (i:Nat) (x:RowN),s.rows[i]?=some x→J1O x.kind=1→0≤x.n∧x.n<s.queues.length
 root:∃ z:RowN,Z[0]?=some z∧z.kind=1
 num:∀ (i:Nat) (x:RowN),s.rows[i]?=some x→x.kind=27→0≤x.n∧x.n≤1073741824
theorem Jsv (x:RowN):(Jli x).kind=x.kind∧(Jli x).kids=x.kids:=by unfold Jli;split <;> exact⟨rfl,rfl⟩
theorem JsB {l:List RowN} {i:Nat} {z:RowN} (h:(Jk8 l)[i]?=some z):∃ x,l[i]?=some x∧z=Jli x:=by
 unfold Jk8 at h
 rw[List.getElem?_map] at h
 cases hx:l[i]? with
 | none=>rw[hx] at h;cases h
 | some x=>rw[hx] at h;cases h;exact⟨x,rfl,rfl⟩
theorem JtO {l:List RowN} (h:J2L J09 l=none):∃ z:RowN,l[0]?=some z∧z.kind=1:=by
 unfold J2L at h
 split at h
 ·rename_i hc
  have h1:=hc.1
  unfold topN at h1
  cases hx:l[0]? with
  | none=>rw[hx] at h1;cases h1
  | some x=>
   rw[hx] at h1
   simp only at h1
   split at h1
   ·rename_i h2
    rw[Bool.and_eq_true] at h2
    exact⟨x,rfl,by have:=h2.1;simp[J1l] at this;exact this⟩
   ·cases h1
 ·cases h
theorem JtA {l:List RowN} (h:(J0v l).1=0):∃ z:RowN,l[0]?=some z∧z.kind=1:=by
 unfold J0v at h
 cases hs:J2L J09 l with
 | none=>exact JtO hs
 | some p=>rw[hs] at h;cases h
theorem JtL {nm:ByteArray} {s:StN} (h:JkA nm s=0):GoodT (Jk8 s.rows) s:=by
 have hm:JmE nm s:=by
  unfold JkA at h
  split at h
  ·assumption
  ·cases h
 obtain⟨hok,hsame⟩:=hm
 rw[JeO hok] at hsame
 obtain⟨_,e1,e2,e3,e4,e5,e6,e7⟩:=hsame
 simp only at e1 e2 e3 e4 e5 e6 e7
 obtain⟨ht,hck,hgo,_,hres,hi⟩:=JhO hok
 have hzl:(Jk8 s.rows).length=s.rows.length:=by unfold Jk8;rw[List.length_map]
 have hT:=Jmh hok
 have hkinds:=J68 ht hi
 generalize (resN (Jk8 s.rows)).2=s' at *
 have hlt:∀ (i:Nat) (x:RowN),s.rows[i]?=some x→i<(Jk8 s.rows).length:=fun i x hx=>by
  have:=(List.getElem?_eq_some_iff.1 hx).1
  omega
 refine⟨ht,⟨hzl.symm,fun i z hz=>?_⟩,fun i z hz=>?_,fun i x hx=>?_,fun i x hx hc=>?_,JtA hck,fun i x hx hk=>?_⟩
 ·obtain⟨x,hx,rfl⟩:=JsB hz
  exact⟨x,hx,(Jsv x).2.symm⟩
 ·obtain⟨x,hx,rfl⟩:=JsB hz
  exact⟨x,hx,(Jsv x).1.symm⟩
 ·rw[e2] at hx
  exact hkinds x (List.mem_of_getElem? hx)
 ·have hl:=hlt i x hx
  rw[e2] at hx
  have hd:=JkX (k:=x.kind) (by rw[hc];decide)
  have hs:Jkw x.kind=1:=by unfold Jkw;omega
  have:=(hT.rows i x (by omega) hx).2 (by rw[hs];decide)
  rw[hs] at this
  obtain⟨h0,h2⟩:=this
  rcases h2 with⟨_,b,h2⟩ | ⟨h3,_⟩ | ⟨h3,_⟩ | ⟨h3,_⟩
  ·have:=(List.getElem?_eq_some_iff.1 h2).1
   rw[e3]
   omega
  ·omega
  ·omega
  ·omega
 ·have hl:=hlt i x hx
  rw[e2] at hx
  have hz:=(hT.rows i x (by omega) hx).1 (by rw[hk];rfl)
  have hf:=ht.fit hz
  unfold fitN at hf
  simp only[Bool.and_eq_true,Bool.or_eq_true,decide_eq_true_eq,beq_iff_eq] at hf
  obtain⟨⟨⟨_,h1⟩,_⟩,_⟩:=hf
  rcases h1 with h1 | ⟨⟨_,h1⟩,h2⟩
  ·omega
  ·omega
section
variable {R Z:List RowN} {e:Nat→Nat}
theorem Jtn (hk:Jtf R Z) (hs:Jkk R Z) (i:Nat):(R[i]?).map (fun x=>(x.kind,x.kids))=(Z[i]?).map (fun x=>(x.kind,x.kids)):=by
 cases hz:Z[i]? with
 | none=>
  have h1:=hs.1
  have:R[i]?=none:=List.getElem?_eq_none (by have:=List.getElem?_eq_none_iff.1 hz;omega)
  rw[this]
 | some z=>
  obtain⟨x,hx,h1⟩:=hk i z hz
  obtain⟨y,hy,h2⟩:=hs.2 i z hz
  rw[hx] at hy
  cases hy
  rw[hx]
  simp[h1,h2]
theorem JsI {i:Nat} {x y:RowN} {first:Int} (h:x.kind=y.kind):∀ (ps:List Nat) (k:Nat) (s:MkT),setL i x first k ps s=setL i y first k ps s
 | [],k,s=>rfl
 | p :: ps,k,s=>by
  show setL i x first (k+1) ps (Jsf i x first s k p)=setL i y first (k+1) ps (Jsf i y first s k p)
  have:Jsf i x first s k p=Jsf i y first s k p:=by unfold Jsf;rw[h]
  rw[this]
  exact JsI h ps (k+1) _
theorem Jso (hk:Jtf R Z) (hs:Jkk R Z):∀ i,Js7 R e i=Js7 Z e i
 | 0=>by
  show (⟨_,_,_⟩:MkT)=⟨_,_,_⟩
  rw[hs.1]
 | i+1=>by
  show Jsq R e i (Js7 R e i)=Jsq Z e i (Js7 Z e i)
  rw[Jso hk hs i]
  unfold Jsq
  have h1:=Jtn hk hs i
  have h2:=Jtn hk hs (i+1)
  have h3:(R[i+1]?).map (·.kind)=(Z[i+1]?).map (·.kind):=by
   cases hR:R[i+1]? <;> cases hZ:Z[i+1]? <;> rw[hR,hZ] at h2 <;> simp_all
  cases hR:R[i]? with
  | none=>
   cases hZ:Z[i]? with
   | none=>rfl
   | some z=>rw[hR,hZ] at h1;cases h1
  | some x=>
   cases hZ:Z[i]? with
   | none=>rw[hR,hZ] at h1;cases h1
   | some z=>
    rw[hR,hZ] at h1
    simp only[Option.map_some,Option.some.injEq,Prod.mk.injEq] at h1
    simp only
    rw[h3,h1.2]
    exact JsI h1.1 _ _ _
theorem Jsu {i:Nat} {x:RowN} {first:Int}:∀ (ps:List Nat) (k q:Nat) (s:MkT) (p:Nat),ps[q]?=some p→setL i x first k (ps.take (q+1)) s=Jsf i x first (setL i x first k (ps.take q) s) (k+q) p
 | [],k,q,s,p,h=>by simp at h
 | a :: ps,k,0,s,p,h=>by
  cases h
  rfl
 | a :: ps,k,q+1,s,p,h=>by
  have h':ps[q]?=some p:=by simpa using h
  have:=Jsu (i:=i) (x:=x) (first:=first) ps (k+1) q (Jsf i x first s k a) p h'
  rw[show k+1+q=k+(q+1) by omega] at this
  exact this
theorem JsQ {i m:Nat} {x:RowN} {first:Int} (hi:i<m):∀ (ps:List Nat) (k:Nat) (s:MkT),(∀ v∈s.U,0≤v∧v<(m:Int))→∀ v∈(setL i x first k ps s).U,0≤v∧v<(m:Int)
 | [],k,s,h=>h
 | p :: ps,k,s,h=>JsQ hi ps (k+1) _ fun v hv=>by
  have hv':v∈s.U.set p (i:Int):=hv
  rcases List.mem_or_eq_of_mem_set hv' with h1 | h1
  ·exact h v h1
  ·omega
theorem JsF {m:Nat} (hm:R.length=m) (h0:0<m):∀ i,i≤m→∀ v∈(Js7 R e i).U,0≤v∧v<(m:Int)
 | 0,_,v,hv=>by
  have:v=0:=(List.mem_replicate.1 hv).2
  omega
 | i+1,hi,v,hv=>by
  have ih:=JsF hm h0 i (by omega)
  have hv':v∈(Jsq R e i (Js7 R e i)).U:=hv
  unfold Jsq at hv'
  split at hv'
  ·exact ih v hv'
  ·exact JsQ (by omega) _ _ _ ih v hv'
end
section
variable {Z:List RowN} {s:StN}
theorem GoodT.z (hG:GoodT Z s) {i:Nat} {x:RowN} (hx:s.rows[i]?=some x):∃ z:RowN,Z[i]?=some z∧x.kind=z.kind∧x.kids=z.kids:=by
 have hl:=(List.getElem?_eq_some_iff.1 hx).1
 have h1:=hG.sk.1
 obtain⟨z,hz⟩:∃ z,Z[i]?=some z:=⟨_,List.getElem?_eq_getElem (by omega)⟩
 obtain⟨a,ha,h2⟩:=hG.kk i z hz
 obtain⟨b,hb,h3⟩:=hG.sk.2 i z hz
 rw[hx] at ha hb
 cases ha
 cases hb
 exact⟨z,hz,h2,h3⟩
theorem GoodT.most (hG:GoodT Z s) {i:Nat} {x:RowN} (hx:s.rows[i]?=some x):([12,13].contains x.kind=true→x.kids≤3)∧([15,47,48].contains x.kind=true→x.kids≤2):=by
 obtain⟨z,hz,h1,h2⟩:=hG.z hx
 have hf:=hG.t.fit hz
 unfold fitN at hf
 simp only[Bool.and_eq_true,decide_eq_true_eq,Bool.or_eq_true] at hf
 obtain⟨_,hm⟩:=hf
 rw[← h1,← h2] at hm
 refine⟨fun h=>?_,fun h=>?_⟩
 ·simp only[List.contains_cons,List.contains_nil,Bool.or_false,Bool.or_eq_true,beq_iff_eq] at h
  rcases h with h | h <;> (rw[h] at hm;rcases hm with hm | hm <;> simp[J1r] at hm <;> omega)
 ·simp only[List.contains_cons,List.contains_nil,Bool.or_false,Bool.or_eq_true,beq_iff_eq] at h
  rcases h with h | h | h <;> (rw[h] at hm;rcases hm with hm | hm <;> simp[J1r] at hm <;> omega)
theorem GoodT.kids0 (hG:GoodT Z s) {i:Nat} {x:RowN} (hx:s.rows[i]?=some x):0≤x.kids∧J35 Z x.kids.toNat (i+1) (endN Z i)∧endN Z i≤s.rows.length∧i<endN Z i:=by
 obtain⟨z,hz,h1,h2⟩:=hG.z hx
 have hs:=hG.t.end (List.getElem?_eq_some_iff.1 hz).1
 obtain⟨y,hy,h3,_,h4⟩:=hs.kids
 rw[hz] at hy
 cases hy
 rw[h2]
 have:=hs.lt
 have:=hG.sk.1
 exact⟨h3,h4,by omega,by omega⟩
theorem GoodT.kid (hG:GoodT Z s) {i k p:Nat} {x:RowN} (hx:s.rows[i]?=some x) (hk:(Js9 (endN Z) x.kids.toNat (i+1))[k]?=some p):i<p∧p<s.rows.length:=by
 obtain⟨z,hz,h1,h2⟩:=hG.z hx
 obtain⟨_,hc,_⟩:=hG.kids0 hx
 have hge:=JsG _ _ _ hc p (List.mem_of_getElem? hk)
 rw[h2] at hk
 obtain⟨y,hy,_⟩:=hG.t.kid hz hk
 have:=(List.getElem?_eq_some_iff.1 hy).1
 have:=hG.sk.1
 omega
theorem GoodT.next (hG:GoodT Z s) {i:Nat} {x:RowN} (hx:s.rows[i]?=some x) (h:0<x.kids):i+1<s.rows.length:=by
 obtain⟨r,hr⟩:∃ r,x.kids.toNat=r+1:=⟨x.kids.toNat-1,by omega⟩
 exact(hG.kid (k:=0) (p:=i+1) hx (by rw[hr];rfl)).2
theorem GoodT.place (hG:GoodT Z s) {i:Nat} {x:RowN} (hx:s.rows[i]?=some x) (h24:x.kind=24):0<i∧∃ up:RowN,s.rows[i-1]?=some up∧(Js7 s.rows (endN Z) i).U[i]?=some ((i-1:Nat):Int)∧(up.kind≠20→0≤up.n∧up.n<s.queues.length):=by
 obtain⟨z,hz,h1,h2⟩:=hG.z hx
 have hl:=(List.getElem?_eq_some_iff.1 hz).1
 have hsl:=hG.sk.1
 have h0:0<i:=by
  rcases Nat.eq_zero_or_pos i with h | h
  ·subst h
   obtain⟨r,hr,h3⟩:=hG.root
   rw[hz] at hr
   cases hr
   omega
  ·exact h
 have h0l:endN Z 0=Z.length:=J5P hG.t
 obtain⟨j,y,k,hy,hj,hk⟩:=hG.t.kidOf i 0 i (by omega) h0 (by omega) (by omega)
 obtain⟨hp,h19⟩:=hG.t.place hy hk hz (by omega)
 obtain⟨up,hup⟩:∃ up,s.rows[i-1]?=some up:=⟨_,List.getElem?_eq_getElem (by omega)⟩
 obtain⟨w,hw,h5,_⟩:=hG.z hup
 have:i-1=j:=by omega
 rw[this,hy] at hw
 cases hw
 refine⟨h0,up,hup,?_,fun h20=>hG.qn _ up hup ?_⟩
 ·rw[Jso hG.kk hG.sk]
  exact JsK hG.t hz (by omega) h0
 ·rcases h19 with h | h
  ·rw[h5,h];rfl
  ·exact absurd (h5.trans h) h20
theorem Jsx {k:Int} (h:[8,17,20,9,21,24].contains k=true):J1O k=1:=by
 simp only[List.contains_cons,List.contains_nil,Bool.or_false,Bool.or_eq_true,beq_iff_eq] at h
 rcases h with h | h | h | h | h | h <;> (rw[h];rfl)
end
section
variable {R:List RowN} {Q:List (ByteArray × Bool)} {e:Nat→Nat} {r i:Nat} {x:RowN}
theorem JtJ (hx:R[i]?=some x) {b:Int} (hb:badN R Q (Js7 R e i) i x=b) (h0:b≠0):Jsa R Q e (r+1) i=((b,(i:Int)),[]):=by
 unfold Jsa
 rw[hx]
 simp only
 rw[hb,if_pos h0]
theorem JtY (hx:R[i]?=some x) (hb:badN R Q (Js7 R e i) i x=0):Jsa R Q e (r+1) i=Jsa R Q e r (i+1):=by
 conv=>lhs;unfold Jsa
 rw[hx]
 simp only
 rw[hb,if_neg (by decide)]
variable {M:MkT} {a u:Int} {c:Bool} {up:RowN}
theorem Jto (hA:M.A[i]?=some a) (h0:a≠0) (h1:typN x.kind≠a):badN R Q M i x=41:=by
 unfold badN
 rw[hA,if_pos ⟨h0,h1⟩]
theorem Jtc (hA:M.A[i]?=some a) (h0:¬(a≠0∧typN x.kind≠a)) (hC:M.C[i]?=some true) (hv:Jsi x.kind=true):badN R Q M i x=42:=by
 unfold badN
 rw[hA,if_neg (by simpa using h0),hC,if_pos (by simp[hv])]
theorem Jtj (hA:M.A[i]?=some a) (h0:¬(a≠0∧typN x.kind≠a)) (hC:M.C[i]?=some c) (hv:(c&&Jsi x.kind)=false) (hU:M.U[i]?=some u) (hup:R[u.toNat]?=some up):badN R Q M i x=if Jse Q x up=true then 46 else 0:=by
 unfold badN
 rw[hA,if_neg (by simpa using h0),hC,hU]
 rw[if_neg (by simp only[Option.getD_some];rw[hv];decide)]
 simp only[Option.getD_some,hup]
end
noncomputable def Jsb (nm:ByteArray) (s:StN):(Int × Int) × List Int:=if JkA nm s≠0 then ((JkA nm s,0),[]) else Jsa s.rows s.queues (endN (Jk8 s.rows)) s.rows.length 0
def JsA (h:SHeap) (lo:Nat) (v:Value) (R:(Int × Int) × List Int):Prop:=∃ tv,v=.tuple #[tv,J2k R.1.1 R.1.2]∧J1S lo h tv R.2
def Jq5 (size:Int):List (Int × Bool)→Int→Int→Option (Int × Int)
 | [],r,o=>some (r,o)
 | (n,g) :: l,r,o=>if n<1∨n>1048576 then none else if g=true then Jq5 size l r (o+n) else if n>size then none else Jq5 size l (r+n) o
def zipQ (C:List Int) (Q:List (ByteArray × Bool)):List (Int × Bool):=C.zip (Q.map (·.2))
def Jq9 (size:Int) (C:List Int) (Q:List (ByteArray × Bool)):Bool:=
 if size<1∨size>1048576∨C.length≠Q.length then false else match Jq5 size (zipQ C Q) 0 0 with
  | none=>false
  | some (r,o)=>decide (min size r+o≤4194304)
section
variable {C:List Int} {Q:List (ByteArray × Bool)} {size r o:Int} {i:Nat}
theorem Jrp (h:C.length=Q.length):(zipQ C Q).length=C.length:=by simp[zipQ,h]
theorem JqD {n:Int} {q:ByteArray × Bool} (h1:C[i]?=some n) (h2:Q[i]?=some q):(zipQ C Q).drop i=(n,q.2) :: (zipQ C Q).drop (i+1):=by
 have l1:=(List.getElem?_eq_some_iff.1 h1).1
 have l2:=(List.getElem?_eq_some_iff.1 h2).1
 have hl:i<(zipQ C Q).length:=by simp only[zipQ,List.length_zip,List.length_map];omega
 rw[List.drop_eq_getElem_cons hl]
 congr 1
 have e1:C[i]=n:=(List.getElem?_eq_some_iff.1 h1).2
 have e2:Q[i]=q:=(List.getElem?_eq_some_iff.1 h2).2
 simp[zipQ,e1,e2]
theorem Jq7 {n:Int} {q:ByteArray × Bool} (h1:C[i]?=some n) (h2:Q[i]?=some q) (hb:n<1∨n>1048576∨(q.2=false∧n>size)):Jq5 size ((zipQ C Q).drop i) r o=none:=by
 rw[JqD h1 h2]
 unfold Jq5
 rcases hb with hb | hb | ⟨hb,hc⟩
 ·rw[if_pos (.inl hb)]
 ·rw[if_pos (.inr hb)]
 ·by_cases h3:n<1∨n>1048576
  ·rw[if_pos h3]
  ·rw[if_neg h3,if_neg (by rw[hb];decide),if_pos hc]
theorem Jqq {n:Int} {q:ByteArray × Bool} (h1:C[i]?=some n) (h2:Q[i]?=some q) (h3:1≤n∧n≤1048576) (h4:q.2=true):Jq5 size ((zipQ C Q).drop i) r o=Jq5 size ((zipQ C Q).drop (i+1)) r (o+n):=by
 rw[JqD h1 h2]
 conv=>lhs;unfold Jq5
 rw[if_neg (by omega),if_pos h4]
theorem JqG {n:Int} {q:ByteArray × Bool} (h1:C[i]?=some n) (h2:Q[i]?=some q) (h3:1≤n∧n≤1048576) (h4:q.2=false) (h5:n≤size):Jq5 size ((zipQ C Q).drop i) r o=Jq5 size ((zipQ C Q).drop (i+1)) (r+n) o:=by
 rw[JqD h1 h2]
 conv=>lhs;unfold Jq5
 rw[if_neg (by omega),if_neg (by rw[h4];decide),if_neg (by omega)]
theorem Jrb (h:C.length=Q.length) (hi:i=C.length):Jq5 size ((zipQ C Q).drop i) r o=some (r,o):=by
 rw[List.drop_of_length_le (by rw[Jrp h];omega)]
 rfl
end
def Jug (k:Int):Bool:=[39,40,41,43,44,45,46].contains k
def Jui (k:Int):Bool:=[42,47,48,49,50,51,52,53,54].contains k
def unK (k:Int):Bool:=[41,42].contains k
def binK (k:Int):Bool:=[39,40,43,44,45,46,47,48,49,50,51,52,53,54].contains k
def rawN (k a b:Int):Int:=if k=39 then (if b<a then b else a) else if k=40 then (if b>a then b else a) else if k=41 then -a else if k=43 then a*b else if k=44 then divN a b else if k=45 then a+b else a-b
def Jul (k a b:Int):Bool:=if k=47 then a==b else if k=48 then a != b else if k=49 then decide (a<b) else if k=50 then decide (a≤b) else if k=51 then decide (a>b) else if k=52 then decide (a≥b) else if k=42 then a==0 else if k=53 then (a != 0&&b != 0) else (a != 0||b != 0)
def opN (k a b:Int):Int:=if Jug k=true then Jud (rawN k a b) else if Jul k a b=true then 1 else 0
def Jue (size:Int) (C:List Int) (x:RowN):Option Int:=if x.kind=27 then some x.n else if x.kind=33 then some size else if x.kind=32 then some ((C[x.n.toNat]?).getD 0) else if x.kind=29 then some 1 else if x.kind=30 then some 0 else none
def conF (R:List RowN) (e:Nat→Nat) (size:Int) (C:List Int):Nat→Nat→Option Int
 | 0,_=>none
 | f+1,i=>match R[i]? with
  | none=>none
  | some x=>if unK x.kind=true then (conF R e size C f (i+1)).map (fun a=>opN x.kind a a)
   else if binK x.kind=true then (match conF R e size C f (i+1),conF R e size C f (e (i+1)) with
    | some a,some b=>some (opN x.kind a b)
    | _,_=>none)
   else Jue size C x
def conN (R:List RowN) (e:Nat→Nat) (size:Int) (C:List Int) (i:Nat):Option Int:=conF R e size C R.length i
theorem Jum {k:Int}:(unK k=true∨binK k=true)↔(Jug k=true∨Jui k=true):=by
 simp only[unK,binK,Jug,Jui,List.contains_cons,List.contains_nil,Bool.or_false,Bool.or_eq_true,beq_iff_eq]
 omega
section
variable {Z:List RowN} {s:StN}
theorem GoodT.un (hG:GoodT Z s) {i:Nat} {x:RowN} (hx:s.rows[i]?=some x) (h:unK x.kind=true):x.kids=1:=by
 obtain⟨z,hz,h1,h2⟩:=hG.z hx
 have hf:=hG.t.fit hz
 unfold fitN at hf
 simp only[Bool.and_eq_true,decide_eq_true_eq,Bool.or_eq_true] at hf
 obtain⟨⟨_,hl⟩,hm⟩:=hf
 rw[← h1,← h2] at hl hm
 unfold unK at h
 simp only[List.contains_cons,List.contains_nil,Bool.or_false,Bool.or_eq_true,beq_iff_eq] at h
 rcases h with h | h <;> (rw[h] at hl hm;rcases hm with hm | hm <;> simp[J1r,J1U] at hm hl <;> omega)
theorem GoodT.bin (hG:GoodT Z s) {i:Nat} {x:RowN} (hx:s.rows[i]?=some x) (h:binK x.kind=true):x.kids=2:=by
 obtain⟨z,hz,h1,h2⟩:=hG.z hx
 have hf:=hG.t.fit hz
 unfold fitN at hf
 simp only[Bool.and_eq_true,decide_eq_true_eq,Bool.or_eq_true] at hf
 obtain⟨⟨_,hl⟩,hm⟩:=hf
 rw[← h1,← h2] at hl hm
 unfold binK at h
 simp only[List.contains_cons,List.contains_nil,Bool.or_false,Bool.or_eq_true,beq_iff_eq] at h
 rcases h with h | h | h | h | h | h | h | h | h | h | h | h | h | h <;> (rw[h] at hl hm;rcases hm with hm | hm <;> simp[J1r,J1U] at hm hl <;> omega)
theorem GoodT.kid0 (hG:GoodT Z s) {i:Nat} {x:RowN} (hx:s.rows[i]?=some x) (h:0<x.kids):i<i+1∧i+1<s.rows.length:=⟨by omega,hG.next hx h⟩
theorem GoodT.kid1 (hG:GoodT Z s) {i:Nat} {x:RowN} (hx:s.rows[i]?=some x) (h:x.kids=2):i<endN Z (i+1)∧endN Z (i+1)<s.rows.length:=
 hG.kid (k:=1) hx (by rw[h];rfl)
variable {size:Int} {C:List Int}
theorem Juf (hG:GoodT Z s):∀ (d i f g:Nat),s.rows.length-i≤d→s.rows.length-i≤f→s.rows.length-i≤g→i<s.rows.length→conF s.rows (endN Z) size C f i=conF s.rows (endN Z) size C g i
 | 0,i,f,g,h1,_,_,h4=>by omega
 | d+1,i,f,g,h1,h2,h3,h4=>by
  obtain⟨f,rfl⟩:∃ j,f=j+1:=⟨f-1,by omega⟩
  obtain⟨g,rfl⟩:∃ j,g=j+1:=⟨g-1,by omega⟩
  obtain⟨x,hx⟩:∃ x,s.rows[i]?=some x:=⟨_,List.getElem?_eq_getElem h4⟩
  unfold conF
  rw[hx]
  simp only
  by_cases hu:unK x.kind=true
  ·have hk:=hG.un hx hu
   have k0:=hG.kid0 hx (by omega)
   rw[if_pos hu,if_pos hu,Juf hG d (i+1) f g (by omega) (by omega) (by omega) k0.2]
  ·rw[if_neg hu,if_neg hu]
   by_cases hb:binK x.kind=true
   ·have hk:=hG.bin hx hb
    have k0:=hG.kid0 hx (by omega)
    have k1:=hG.kid1 hx hk
    rw[if_pos hb,if_pos hb,Juf hG d (i+1) f g (by omega) (by omega) (by omega) k0.2,Juf hG d (endN Z (i+1)) f g (by omega) (by omega) (by omega) k1.2]
   ·rw[if_neg hb,if_neg hb]
theorem Juq (hG:GoodT Z s) {i:Nat} {x:RowN} (hx:s.rows[i]?=some x):conN s.rows (endN Z) size C i=if unK x.kind=true then (conN s.rows (endN Z) size C (i+1)).map (fun a=>opN x.kind a a)
   else if binK x.kind=true then (match conN s.rows (endN Z) size C (i+1),conN s.rows (endN Z) size C (endN Z (i+1)) with
    | some a,some b=>some (opN x.kind a b)
    | _,_=>none)
   else Jue size C x:=by
 have hl:=(List.getElem?_eq_some_iff.1 hx).1
 unfold conN
 obtain⟨f,hf⟩:∃ f,s.rows.length=f+1:=⟨s.rows.length-1,by omega⟩
 by_cases hu:unK x.kind=true
 ·have hk:=hG.un hx hu
  have k0:=hG.kid0 hx (by omega)
  rw[if_pos hu,← Juf hG s.rows.length (i+1) f s.rows.length (by omega) (by omega) (by omega) k0.2]
  conv=>lhs;rw[hf];unfold conF
  rw[hx]
  simp only
  rw[if_pos hu]
 ·rw[if_neg hu]
  by_cases hb:binK x.kind=true
  ·have hk:=hG.bin hx hb
   have k0:=hG.kid0 hx (by omega)
   have k1:=hG.kid1 hx hk
   rw[if_pos hb,← Juf hG s.rows.length (i+1) f s.rows.length (by omega) (by omega) (by omega) k0.2,← Juf hG s.rows.length (endN Z (i+1)) f s.rows.length (by omega) (by omega) (by omega) k1.2]
   conv=>lhs;rw[hf];unfold conF
   rw[hx]
   simp only
   rw[if_neg hu,if_pos hb]
  ·rw[if_neg hb]
   conv=>lhs;rw[hf];unfold conF
   rw[hx]
   simp only
   rw[if_neg hu,if_neg hb]
structure FitC (s:StN) (size:Int) (C:List Int):Prop where
 sz:1≤size∧size≤1048576
 len:C.length=s.queues.length
 all:∀ c∈C,1≤c∧c≤1048576
theorem Jus {size:Int}:∀ (l:List (Int × Bool)) (r o:Int) {p:Int × Int},Jq5 size l r o=some p→∀ y∈l,1≤y.1∧y.1≤1048576
 | [],r,o,p,_,y,hy=>by cases hy
 | (n,g) :: l,r,o,p,h,y,hy=>by
  unfold Jq5 at h
  split at h
  ·cases h
  rename_i hc
  have hn:1≤n∧n≤1048576:=by omega
  rcases List.mem_cons.1 hy with rfl | hy
  ·exact hn
  split at h
  ·exact Jus l _ _ h y hy
  split at h
  ·cases h
  ·exact Jus l _ _ h y hy
theorem Jvs {s:StN} (h:Jq9 size C s.queues=true):FitC s size C:=by
 unfold Jq9 at h
 split at h
 ·cases h
 rename_i hc
 have hl:C.length=s.queues.length:=by omega
 refine⟨by omega,hl,fun c hc'=>?_⟩
 cases hg:Jq5 size (zipQ C s.queues) 0 0 with
 | none=>rw[hg] at h;cases h
 | some p=>
  obtain⟨j,hj⟩:=List.getElem?_of_mem hc'
  have hjl:=(List.getElem?_eq_some_iff.1 hj).1
  obtain⟨q,hq⟩:∃ q,s.queues[j]?=some q:=⟨_,List.getElem?_eq_getElem (by omega)⟩
  have hz:=JqD hj hq
  have hm:(c,q.2)∈zipQ C s.queues:=List.mem_of_mem_drop (i:=j) (by rw[hz];exact List.mem_cons_self)
  exact Jus _ _ _ hg _ hm
theorem Juw (k a b:Int):-1073741824≤opN k a b∧opN k a b≤1073741824:=by
 unfold opN
 split
 ·exact Juo _
 ·split <;> omega
theorem JuR (hG:GoodT Z s) (hF:FitC s size C) {i:Nat} {x:RowN} (hx:s.rows[i]?=some x) {v:Int} (h:Jue size C x=some v):-1073741824≤v∧v≤1073741824:=by
 unfold Jue at h
 have hs:=hF.sz
 split at h
 ·rename_i hk
  have:=hG.num i x hx hk
  cases h
  omega
 split at h
 ·cases h
  omega
 split at h
 ·rename_i hk
  have hq:=hG.qn i x hx (by rw[hk];rfl)
  have hl:=hF.len
  obtain⟨c,hc⟩:∃ c,C[x.n.toNat]?=some c:=⟨_,List.getElem?_eq_getElem (by omega)⟩
  have:=hF.all c (List.mem_of_getElem? hc)
  rw[hc] at h
  cases h
  show -1073741824≤c∧c≤1073741824
  omega
 split at h
 ·cases h
  omega
 split at h
 ·cases h
  omega
 ·cases h
theorem Juk (hG:GoodT Z s) (hF:FitC s size C) {i:Nat} (hi:i<s.rows.length) {v:Int} (h:conN s.rows (endN Z) size C i=some v):-1073741824≤v∧v≤1073741824:=by
 obtain⟨x,hx⟩:∃ x,s.rows[i]?=some x:=⟨_,List.getElem?_eq_getElem hi⟩
 rw[Juq hG hx] at h
 split at h
 ·cases hc:conN s.rows (endN Z) size C (i+1) with
  | none=>rw[hc] at h;cases h
  | some a=>rw[hc] at h;cases h;exact Juw _ _ _
 split at h
 ·split at h
  ·cases h;exact Juw _ _ _
  ·cases h
 ·exact JuR hG hF hx h
end
theorem JnJ {z:List Value}:∀ n,(J3e z n).length=n*z.length
 | 0=>by simp[J3e]
 | n+1=>by rw[J3e,List.length_append,JnJ n,Nat.succ_mul];omega
theorem Jok {z:List Value}:∀ a b,J3e z (a+b)=J3e z a++J3e z b
 | 0,b=>by simp[J3e]
 | a+1,b=>by rw[Nat.succ_add,J3e,J3e,Jok a b,List.append_assoc]
section
variable {P:Program} {t e:TypeId} {w b:Nat} {z:Value} {h:SHeap}
theorem JnH (ht:P.underlying t=some (.slice e)) (he:szOf P e=some w) {id n m c:Nat} (hm:m≤c) (hc:c≠unk):J2M P h t (qS id n c) none (some (iv (m:Int))) none=some (qS id m c):=by
 simp only[J2M,ht,he,J3a,hc,if_false]
 rw[if_pos (by omega)]
 simp only[Int.toNat_natCast]
 by_cases h0:c=0
 ·subst h0
  simp[J0q]
 ·simp[J0q]
end
structure LentC (h:SHeap) (o n w:Nat) (cs mk z:List Value) (e:TypeId):Prop where
 g:h.get o=.row (cs++(mk++J3e z 2)) e false false
 len:cs.length=n*w
 mlen:mk.length=w
 zlen:z.length=w
section
variable {t e:TypeId} {w b:Nat} {z:Value} {h:SHeap}
end
section
variable {t e:TypeId} {w b:Nat} {z:Value} {h:SHeap}
end
section
variable {h h':SHeap} {o n w:Nat} {cs mk z:List Value} {e:TypeId}
theorem LentC.mono (hl:LentC h o n w cs mk z e) (hg:h'.get o=h.get o):LentC h' o n w cs mk z e:=⟨by rw[hg];exact hl.g,hl.len,hl.mlen,hl.zlen⟩
theorem LentC.cells (hl:LentC h o n w cs mk z e) {lo c:Nat} (ho:lo≤o∧o<h.next):J0p lo h (qS o n c) n w cs:=J0p.row hl.g ho hl.len
theorem LentC.mark (hl:LentC h o n w cs mk z e) {lo c:Nat} (ho:lo≤o∧o<h.next):J0p lo h (qS o (n+1) c) (n+1) w (cs++mk):=
 J0p.row (ex:=J3e z 2) (by rw[List.append_assoc];exact hl.g) ho (by rw[List.length_append,hl.len,hl.mlen,Nat.succ_mul])
end
section
variable {P:Program} {t e:TypeId} {w b:Nat} {z:Value} {h:SHeap}
theorem Jrq (ht:P.underlying t=some (.slice e)) (he:szOf P e=some w) (hb:byOf P e=some b) (hz:J1w P e=some z) (hzc:z.cells.size=w) (hzf:flat z=true) (hw:0<w) (hbb:b≤64) {n:Nat} (hn:n<1099511627776) :
  J2l P h t (iv (n:Int)) (iv (n:Int))=some (qS h.next n n,h.push (.row (J3e z.cells.toList n) e false false)):=by
 simp only[J2l,ht,he,hz,hb]
 have hmul:(b:Int)*(n:Int)≤64*(n:Int):=Int.mul_le_mul_of_nonneg_right (by omega) (by omega)
 rw[if_pos (by simp[hzf,hzc,hw];omega)]
 simp
theorem Jrk (ht:P.underlying t=some (.slice e)) (he:szOf P e=some w) {id n m c:Nat} {lo:Nat} {v:Value} {cs R:List Value} {ty:TypeId} {g:Bool} (hv:J0p lo h v n w cs) (hone:cs.all one=true) (hw:0<w) (hg:h.get id=.row R ty g false) (hR:R.length=m*w) (hn:n≤m) (hid:id<h.next) (hf:h.floor≤id) :
  ∃ h',J8N P h t (qS id m c) v=some (iv (n:Int),h')∧h'.get id=.row (cs++R.drop (n*w)) ty g false∧h'.next=h.next∧h'.floor=h.floor∧∀ i,i≠id→h'.get i=h.get i:=by
 have hsrc:=hv.src
 have hcl:=hv.1
 obtain⟨_,a,c',rfl,_⟩:=hv
 have hm:min n m=n:=by omega
 by_cases h0:n=0
 ·refine⟨h,?_,?_,rfl,rfl,fun _ _=>rfl⟩
  ·simp only[J8N,ht,he,hm,hsrc]
   rw[if_pos h0]
  ·subst h0
   rw[Nat.zero_mul] at hcl
   rw[List.length_eq_zero_iff.1 hcl,Nat.zero_mul,List.drop_zero]
   exact hg
 ·have hle:n*w≤m*w:=Nat.mul_le_mul_right w hn
  refine⟨_,?_,J0b rfl hid,rfl,rfl,fun i hi=>J05 hid (Ne.symm hi)⟩
  simp only[J8N,ht,he,hm,hsrc,J1q,hg]
  rw[if_neg h0,if_pos (by simp only[hone,hcl,hR,Bool.and_true,Nat.zero_add,Bool.and_eq_true,decide_eq_true_eq];omega)]
  have:Go.Sx.lay R 0 cs=cs++R.drop (n*w):=by simp only[Go.Sx.lay,List.take_zero,List.nil_append,Nat.zero_add,hcl]
  rw[this]
theorem JqZ (ht:P.underlying t=some (.slice e)) (he:szOf P e=some w) (hb:byOf P e=some b) (hz:J1w P e=some z) (hzc:z.cells.size=w) (hzf:flat z=true) (hw:0<w) (hbb:b≤64) {lo n k:Nat} {v:Value} {cs:List Value} (hv:J0p lo h v n w cs) (hone:cs.all one=true) (hn:n+k<1099511627776) (hfl:h.floor≤h.next) :
  ∃ h1,J2l P h t (iv ((n+k:Nat):Int)) (iv ((n+k:Nat):Int))=some (qS h.next (n+k) (n+k),h.push (.row (J3e z.cells.toList (n+k)) e false false)) ∧
   J8N P (h.push (.row (J3e z.cells.toList (n+k)) e false false)) t (qS h.next (n+k) (n+k)) v=some (iv (n:Int),h1) ∧
   h1.get h.next=.row (cs++J3e z.cells.toList k) e false false∧h1.next=h.next+1∧h1.floor=h.floor∧∀ i,i<h.next→h1.get i=h.get i:=by
 have hzl:z.cells.toList.length=w:=by simpa using hzc
 obtain⟨h1,e1,e2,e3,e4,e5⟩:=Jrk (h:=h.push (.row (J3e z.cells.toList (n+k)) e false false)) (m:=n+k) (c:=n+k) ht he (hv.mono (by rw[J1D];omega) fun i _ hi=>J06 hi) hone hw J0h (by rw[JnJ,hzl]) (by omega) (by rw[J1D];omega) hfl
 refine⟨h1,Jrq ht he hb hz hzc hzf hw hbb hn,e1,?_,e3,e4,fun i hi=>by rw[e5 i (by omega),J06 hi]⟩
 rw[e2,Jok,List.drop_left' (by rw[JnJ,hzl])]
end
def Jr1:List (Bool × Bool × List Operand):=[fa1,fa1,fa1,fa1,fa3 [.tmp 19],fa3 [.tmp 19],fa3 [.tmp 19],fa3 [.tmp 19],fa0]
section
variable {call:J0r} {N:Nat} {h:SHeap}
theorem Jqu (hsn:J1G call) {va vb:Value} {A B:List Int} {la lb:Nat} (ha:J1S la h va A) (hb:J1S lb h vb B) (hN:A.length+3<N) (hl:A.length<1099511627776):J0L Tryz.prog call N 12 [va,vb] h=some (.bool (decide (A=B)),h):=by
 refine J1m Tryz.func12 rfl (by simp[Tryz.f12]) ?_
 have hr:Tryz.f12.results.toList=[.tmp 4]:=rfl
 have lA:=fun h'=>JfF ha h'
 have lB:=fun h'=>JfF hb h'
 cases d:((A.length:Int) != (B.length:Int)) with
 | true=>
  have hne:A≠B:=fun e=>by subst e;simp at d
  rw[decide_eq_false hne]
  simp only[evC,↓reduceIte,Nat.reduceEqDiff,reduceCtorEq,↓evP,hr,lA,lB,d]
 | false=>
  have hlen:A.length=B.length:=by
   have h9:(A.length:Int)=(B.length:Int):=by simpa using d
   omega
  simp only[evC,↓reduceIte,Nat.reduceEqDiff,reduceCtorEq,↓evP,lA,lB,d]
  refine WK.loop (fun i s'=>s'.T.get 0=va∧s'.T.get 1=vb∧s'.T.get 5=iv i∧s'.h=h∧i≤A.length∧∀ j,j<i→A[j]?=B[j]?) A.length (by omega) ?_ ?_
  ·simp only[evC,↓reduceIte,Nat.reduceEqDiff,reduceCtorEq,↓evP,rpC,Nat.reduceAdd,Nat.reduceLT]
   exact⟨rfl,fun j hj=>by omega⟩
  ·rintro i ⟨T1,H1⟩ hi ⟨t0,t1,t5,hh,hil,hsame⟩
   simp only at t0 t1 t5 hh
   subst hh
   by_cases hlt:i<A.length
   ·have c1:decide ((i:Int)<(A.length:Int))=true:=by simp;omega
    obtain⟨x,hx⟩:∃ x,A[i]?=some x:=⟨_,List.getElem?_eq_getElem hlt⟩
    obtain⟨y,hy⟩:∃ y,B[i]?=some y:=⟨_,List.getElem?_eq_getElem (by omega)⟩
    obtain⟨ida,pa,ea,_,xa⟩:=J1S.get ha hx
    obtain⟨idb,pb,eb,_,xb⟩:=J1S.get hb hy
    have w1:IntKind.i64.wrap ((i:Int)+1)=((i+1:Nat):Int):=J0s (by omega) (by omega)
    simp only[evC,seval,↓evP,t0,t1,t5,lA,c1]
    refine WK.flags (fs:=Jr1) (by kernel_rfl) ?_
    unfold Jr1
    iterate 9
     refine wcs hsn ?_
     simp only[rgC,seval,J04,J02,WKFC,rgL,rgK,J17,rgS,rgB,t0,t1,t5,ea,eb,J0m,xa,xb,J4h]
    refine JvR ?_
    cases e:(x != y) with
    | true=>
     have hne:A≠B:=fun h9=>by
      subst h9
      rw[hx] at hy
      cases hy
      simp at e
     rw[decide_eq_false hne]
     simp only[evC,seval,↓evP,hr,e]
    | false=>
     have hxy:x=y:=by simpa using e
     simp only[evC,seval,↓evP,t0,t1,t5,e,w1]
     refine⟨by omega,by omega,fun j hj=>?_⟩
     rcases Nat.lt_or_ge j i with h1 | h1
     ·exact hsame j h1
     ·have:j=i:=by omega
      subst this
      rw[hx,hy,hxy]
   ·have c1:decide ((i:Int)<(A.length:Int))=false:=by simp;omega
    have:i=A.length:=by omega
    subst this
    have hAB:A=B:=J4S hlen hsame
    rw[decide_eq_true hAB]
    simp only[evC,seval,↓evP,hr,t0,t1,t5,lA,c1]
end
def Jri:List (Bool × Bool × List Operand):=[fa1,fa1,fa1,fa1,fa3 [.tmp 19],fa3 [.tmp 19],fa3 [.tmp 19],fa3 [.tmp 19],fa0]
section
variable {call:J0r} {N:Nat} {h:SHeap}
theorem JqB (hsn:J1G call) {va vb:Value} {A B:List ByteArray} {la lb:Nat} (ha:J0p la h va A.length 1 (strs A)) (hb:J0p lb h vb B.length 1 (strs B)) (hN:A.length+3<N) (hl:A.length<1099511627776):J0L Tryz.prog call N 67 [va,vb] h=some (.bool (decide (A=B)),h):=by
 refine J1m Tryz.func67 rfl (by simp[Tryz.f67]) ?_
 have hr:Tryz.f67.results.toList=[.tmp 4]:=rfl
 have lA:=fun h'=>JfT ha h'
 have lB:=fun h'=>JfT hb h'
 cases d:((A.length:Int) != (B.length:Int)) with
 | true=>
  have hne:A≠B:=fun e=>by subst e;simp at d
  rw[decide_eq_false hne]
  simp only[evC,↓reduceIte,Nat.reduceEqDiff,reduceCtorEq,↓evP,hr,lA,lB,d]
 | false=>
  have hlen:A.length=B.length:=by
   have h9:(A.length:Int)=(B.length:Int):=by simpa using d
   omega
  simp only[evC,↓reduceIte,Nat.reduceEqDiff,reduceCtorEq,↓evP,lA,lB,d]
  refine WK.loop (fun i s'=>s'.T.get 0=va∧s'.T.get 1=vb∧s'.T.get 5=iv i∧s'.h=h∧i≤A.length∧∀ j,j<i→A[j]?=B[j]?) A.length (by omega) ?_ ?_
  ·simp only[evC,↓reduceIte,Nat.reduceEqDiff,reduceCtorEq,↓evP,rpC,Nat.reduceAdd,Nat.reduceLT]
   exact⟨rfl,fun j hj=>by omega⟩
  ·rintro i ⟨T1,H1⟩ hi ⟨t0,t1,t5,hh,hil,hsame⟩
   simp only at t0 t1 t5 hh
   subst hh
   by_cases hlt:i<A.length
   ·have c1:decide ((i:Int)<(A.length:Int))=true:=by simp;omega
    obtain⟨x,hx⟩:∃ x,A[i]?=some x:=⟨_,List.getElem?_eq_getElem hlt⟩
    obtain⟨y,hy⟩:∃ y,B[i]?=some y:=⟨_,List.getElem?_eq_getElem (by omega)⟩
    obtain⟨ida,pa,ea,_,xa⟩:=Ja3 hx ha
    obtain⟨idb,pb,eb,_,xb⟩:=Ja3 hy hb
    have w1:IntKind.i64.wrap ((i:Int)+1)=((i+1:Nat):Int):=J0s (by omega) (by omega)
    simp only[evC,seval,↓evP,t0,t1,t5,lA,c1]
    refine WK.flags (fs:=Jri) (by kernel_rfl) ?_
    unfold Jri
    iterate 9
     refine wcs hsn ?_
     simp only[rgC,seval,J04,J02,WKFC,rgL,rgK,J17,rgS,rgB,t0,t1,t5,ea,eb,J0d,xa,xb,J26]
    refine JvR ?_
    cases e:(!(x==y)) with
    | true=>
     have hne:A≠B:=fun h9=>by
      subst h9
      rw[hx] at hy
      cases hy
      rw[J34] at e;cases e
     rw[decide_eq_false hne]
     simp only[evC,seval,↓evP,hr,e]
    | false=>
     have hxy:x=y:=J3o (by simpa using e)
     simp only[evC,seval,↓evP,t0,t1,t5,e,w1]
     refine⟨by omega,by omega,fun j hj=>?_⟩
     rcases Nat.lt_or_ge j i with h1 | h1
     ·exact hsame j h1
     ·have:j=i:=by omega
      subst this
      rw[hx,hy,hxy]
   ·have c1:decide ((i:Int)<(A.length:Int))=false:=by simp;omega
    have:i=A.length:=by omega
    subst this
    have hAB:A=B:=J4S hlen hsame
    rw[decide_eq_true hAB]
    simp only[evC,seval,↓evP,hr,t0,t1,t5,lA,c1]
end
def Jrh:List (Bool × Bool × List Operand):=[fa1,fa1,fa1,fa1,fa3 [.tmp 19],fa3 [.tmp 19],fa3 [.tmp 19],fa3 [.tmp 19],fa0]
section
variable {call:J0r} {N:Nat} {h:SHeap}
theorem Jqy (hsn:J1G call) {va vb:Value} {A B:List (ByteArray × Bool)} {la lb:Nat} (ha:J0p la h va A.length 2 (J3S A)) (hb:J0p lb h vb B.length 2 (J3S B)) (hN:A.length+3<N) (hl:A.length<1099511627776):J0L Tryz.prog call N 66 [va,vb] h=some (.bool (decide (A=B)),h):=by
 refine J1m Tryz.func66 rfl (by simp[Tryz.f66]) ?_
 have hr:Tryz.f66.results.toList=[.tmp 4]:=rfl
 have lA:=fun h'=>JfC ha h'
 have lB:=fun h'=>JfC hb h'
 cases d:((A.length:Int) != (B.length:Int)) with
 | true=>
  have hne:A≠B:=fun e=>by subst e;simp at d
  rw[decide_eq_false hne]
  simp only[evC,↓reduceIte,Nat.reduceEqDiff,reduceCtorEq,↓evP,hr,lA,lB,d]
 | false=>
  have hlen:A.length=B.length:=by
   have h9:(A.length:Int)=(B.length:Int):=by simpa using d
   omega
  simp only[evC,↓reduceIte,Nat.reduceEqDiff,reduceCtorEq,↓evP,lA,lB,d]
  refine WK.loop (fun i s'=>s'.T.get 0=va∧s'.T.get 1=vb∧s'.T.get 5=iv i∧s'.h=h∧i≤A.length∧∀ j,j<i→A[j]?=B[j]?) A.length (by omega) ?_ ?_
  ·simp only[evC,↓reduceIte,Nat.reduceEqDiff,reduceCtorEq,↓evP,rpC,Nat.reduceAdd,Nat.reduceLT]
   exact⟨rfl,fun j hj=>by omega⟩
  ·rintro i ⟨T1,H1⟩ hi ⟨t0,t1,t5,hh,hil,hsame⟩
   simp only at t0 t1 t5 hh
   subst hh
   by_cases hlt:i<A.length
   ·have c1:decide ((i:Int)<(A.length:Int))=true:=by simp;omega
    obtain⟨x,hx⟩:∃ x,A[i]?=some x:=⟨_,List.getElem?_eq_getElem hlt⟩
    obtain⟨y,hy⟩:∃ y,B[i]?=some y:=⟨_,List.getElem?_eq_getElem (by omega)⟩
    obtain⟨ida,pa,ea,_,xa⟩:=J8S hx ha
    obtain⟨idb,pb,eb,_,xb⟩:=J8S hy hb
    have w1:IntKind.i64.wrap ((i:Int)+1)=((i+1:Nat):Int):=J0s (by omega) (by omega)
    simp only[evC,seval,↓evP,t0,t1,t5,lA,c1]
    refine WK.flags (fs:=Jrh) (by kernel_rfl) ?_
    unfold Jrh
    iterate 9
     refine wcs hsn ?_
     simp only[rgC,seval,J04,J02,WKFC,rgL,rgK,J17,rgS,rgB,t0,t1,t5,ea,eb,J3z,xa,xb,J6H]
    refine JvR ?_
    cases e:(!(x.1==y.1&&x.2==y.2)) with
    | true=>
     have hne:A≠B:=fun h9=>by
      subst h9
      rw[hx] at hy
      cases hy
      rw[J34] at e;simp at e
     rw[decide_eq_false hne]
     simp only[evC,seval,↓evP,hr,e]
    | false=>
     have hxy:x=y:=by
      have e':(x.1==y.1&&x.2==y.2)=true:=by simpa using e
      rw[Bool.and_eq_true] at e'
      exact Prod.ext (J3o e'.1) (by simpa using e'.2)
     simp only[evC,seval,↓evP,t0,t1,t5,e,w1]
     refine⟨by omega,by omega,fun j hj=>?_⟩
     rcases Nat.lt_or_ge j i with h1 | h1
     ·exact hsame j h1
     ·have:j=i:=by omega
      subst this
      rw[hx,hy,hxy]
   ·have c1:decide ((i:Int)<(A.length:Int))=false:=by simp;omega
    have:i=A.length:=by omega
    subst this
    have hAB:A=B:=J4S hlen hsame
    rw[decide_eq_true hAB]
    simp only[evC,seval,↓evP,hr,t0,t1,t5,lA,c1]
end
def Jro:List (Bool × Bool × List Operand):=[fa1,fa1,fa1,fa1,fa3 [.tmp 19],fa3 [.tmp 19],fa3 [.tmp 19],fa3 [.tmp 19],fa0]
section
variable {call:J0r} {N:Nat} {h:SHeap}
open Classical in
theorem JqE (hsn:J1G call) {va vb:Value} {A B:List RowN} (ha:J0l h va A) (hb:J0l h vb B) (hN:A.length+3<N) (hl:A.length<1099511627776):J0L Tryz.prog call N 65 [va,vb] h=some (.bool (decide (A=B)),h):=by
 refine J1m Tryz.func65 rfl (by simp[Tryz.f65]) ?_
 have hr:Tryz.f65.results.toList=[.tmp 4]:=rfl
 have lA:=fun h'=>ha.len (h':=h')
 have lB:=fun h'=>hb.len (h':=h')
 cases d:((A.length:Int) != (B.length:Int)) with
 | true=>
  have hne:A≠B:=fun e=>by subst e;simp at d
  rw[decide_eq_false hne]
  simp only[evC,↓reduceIte,Nat.reduceEqDiff,reduceCtorEq,↓evP,hr,lA,lB,d]
 | false=>
  have hlen:A.length=B.length:=by
   have h9:(A.length:Int)=(B.length:Int):=by simpa using d
   omega
  simp only[evC,↓reduceIte,Nat.reduceEqDiff,reduceCtorEq,↓evP,lA,lB,d]
  refine WK.loop (fun i s'=>s'.T.get 0=va∧s'.T.get 1=vb∧s'.T.get 5=iv i∧s'.h=h∧i≤A.length∧∀ j,j<i→A[j]?=B[j]?) A.length (by omega) ?_ ?_
  ·simp only[evC,↓reduceIte,Nat.reduceEqDiff,reduceCtorEq,↓evP,rpC,Nat.reduceAdd,Nat.reduceLT]
   exact⟨rfl,fun j hj=>by omega⟩
  ·rintro i ⟨T1,H1⟩ hi ⟨t0,t1,t5,hh,hil,hsame⟩
   simp only at t0 t1 t5 hh
   subst hh
   by_cases hlt:i<A.length
   ·have c1:decide ((i:Int)<(A.length:Int))=true:=by simp;omega
    obtain⟨x,hx⟩:∃ x,A[i]?=some x:=⟨_,List.getElem?_eq_getElem hlt⟩
    obtain⟨y,hy⟩:∃ y,B[i]?=some y:=⟨_,List.getElem?_eq_getElem (by omega)⟩
    obtain⟨ida,pa,ea,_,_,_,_,_,_,xa⟩:=ha.row hx
    obtain⟨idb,pb,eb,_,_,_,_,_,_,xb⟩:=hb.row hy
    have xa':ldN 5 pa (H1.get ida)=some (rowV x):=xa
    have xb':ldN 5 pb (H1.get idb)=some (rowV y):=xb
    have w1:IntKind.i64.wrap ((i:Int)+1)=((i+1:Nat):Int):=J0s (by omega) (by omega)
    simp only[evC,seval,↓evP,t0,t1,t5,lA,c1]
    refine WK.flags (fs:=Jro) (by kernel_rfl) ?_
    unfold Jro
    iterate 9
     refine wcs hsn ?_
     simp only[rgC,seval,J04,J02,WKFC,rgL,rgK,J17,rgS,rgB,t0,t1,t5,ea,eb,J0u,xa',xb',J6U]
    refine JvR ?_
    cases e:(!(J5z x y)) with
    | true=>
     have hne:A≠B:=fun h9=>by
      subst h9
      rw[hx] at hy
      cases hy
      rw[J6E.2 rfl] at e;cases e
     rw[decide_eq_false hne]
     simp only[evC,seval,↓evP,hr,e]
    | false=>
     have hxy:x=y:=J6E.1 (by simpa using e)
     simp only[evC,seval,↓evP,t0,t1,t5,e,w1]
     refine⟨by omega,by omega,fun j hj=>?_⟩
     rcases Nat.lt_or_ge j i with h1 | h1
     ·exact hsame j h1
     ·have:j=i:=by omega
      subst this
      rw[hx,hy,hxy]
   ·have c1:decide ((i:Int)<(A.length:Int))=false:=by simp;omega
    have:i=A.length:=by omega
    subst this
    have hAB:A=B:=J4S hlen hsame
    rw[decide_eq_true hAB]
    simp only[evC,seval,↓evP,hr,t0,t1,t5,lA,c1]
end
section
variable {n:Nat} {h:SHeap} {va vb:Value}
theorem Jqd {A:List Int} {la lb:Nat} (ha:J1S la h va A) (hb:J1S lb h vb A) (hl:A.length<1000000000) (hn:A.length+5<n):J0T n 12 [va,vb] h=some (.bool true,h):=by
 obtain⟨n,rfl⟩:∃ j,n=j+1:=⟨n-1,by omega⟩
 have:=Jqu (N:=n) (J1z n).2 ha hb (by omega) (by omega)
 rw[decide_eq_true rfl] at this
 exact J6r (J13 ⟨rfl,rfl,rfl⟩) rfl this
theorem Jqi {A:List ByteArray} {la lb:Nat} (ha:J0p la h va A.length 1 (strs A)) (hb:J0p lb h vb A.length 1 (strs A)) (hl:A.length<1000000000) (hn:A.length+5<n):J0T n 67 [va,vb] h=some (.bool true,h):=by
 obtain⟨n,rfl⟩:∃ j,n=j+1:=⟨n-1,by omega⟩
 have:=JqB (N:=n) (J1z n).2 ha hb (by omega) (by omega)
 rw[decide_eq_true rfl] at this
 exact J6r (J13 ⟨rfl,rfl,rfl⟩) rfl this
theorem Jrt {A:List (ByteArray × Bool)} {la lb:Nat} (ha:J0p la h va A.length 2 (J3S A)) (hb:J0p lb h vb A.length 2 (J3S A)) (hl:A.length<1000000000) (hn:A.length+5<n):J0T n 66 [va,vb] h=some (.bool true,h):=by
 obtain⟨n,rfl⟩:∃ j,n=j+1:=⟨n-1,by omega⟩
 have:=Jqy (N:=n) (J1z n).2 ha hb (by omega) (by omega)
 rw[decide_eq_true rfl] at this
 exact J6r (J13 ⟨rfl,rfl,rfl⟩) rfl this
open Classical in
theorem Jru {A:List RowN} (ha:J0l h va A) (hb:J0l h vb A) (hl:A.length<1000000000) (hn:A.length+5<n):J0T n 65 [va,vb] h=some (.bool true,h):=by
 obtain⟨n,rfl⟩:∃ j,n=j+1:=⟨n-1,by omega⟩
 have:=JqE (N:=n) (J1z n).2 ha hb (by omega) (by omega)
 rw[decide_eq_true rfl] at this
 exact J6r (J13 ⟨rfl,rfl,rfl⟩) rfl this
end
theorem Jrc {h:SHeap} {a:Option Addr} {n c:Nat}:lenS Tryz.prog h 25 (.slice a n c)=some (iv (n:Int)):=by simp[lenS,Tryz.underlying25]
def mkI (i:Nat):Int:=-77-(i:Int)
structure LentI (h:SHeap) (o:Nat) (l L:List Int):Prop where
 g:h.get o=.row (ints L) 3 false false
 len:L.length=l.length+5
 own:∀ j,j<l.length→L[j]?=l[j]?
 marks:∀ q,q<5→L[l.length+q]?=some (mkI (l.length+q))
theorem LentI.cells {h:SHeap} {o:Nat} {l L:List Int} (hl:LentI h o l L) {lo c:Nat} (ho:lo≤o∧o<h.next):J1S lo h (qS o l.length c) l:=by
 have e:L=l++L.drop l.length:=by
  apply List.ext_getElem?
  intro j
  rcases Nat.lt_or_ge j l.length with h1 | h1
  ·rw[List.getElem?_append_left h1,hl.own j h1]
  ·rw[List.getElem?_append_right h1,List.getElem?_drop]
   congr 1
   omega
 have g:=hl.g
 rw[e] at g
 have g':h.get o=.row (ints l++ints (L.drop l.length)) 3 false false:=by rw[g];simp[ints]
 exact J0p.row g' ho (by rw[J1h];omega)
section
variable {call:J0r} {N n:Nat} {h:SHeap}
theorem JqU {l:List Int} {v:Value} {lo:Nat} (hv:J1S lo h v l) (hl:l.length<900000000) (hfl:h.floor≤h.next) (hN:12<N) :
  ∃ h',J0L Tryz.prog call N 26 [v] h=some (qS h.next l.length (l.length+5),h')∧((∃ L,LentI h' h.next l L)∧h'.next=h.next+1∧h'.floor=h.floor∧∀ i,i<h.next→h'.get i=h.get i):=by
 refine J1N (R:=fun h'=>(∃ L,LentI h' h.next l L)∧h'.next=h.next+1∧h'.floor=h.floor∧∀ i,i<h.next→h'.get i=h.get i) Tryz.func26 rfl (by simp[Tryz.f26]) ?_
 have hr:Tryz.f26.results.toList=[.tmp 2]:=rfl
 have hlen:=fun h'=>JfF hv h'
 have w9:IntKind.i64.wrap ((l.length:Int)+5)=((l.length+5:Nat):Int):=J0s (by omega) (by omega)
 obtain⟨H1,hmk,hcp,g1,n1,f1,o1⟩:=JqZ (P:=Tryz.prog) (t:=25) (e:=3) (k:=5) (z:=.int .i64 0) Tryz.underlying25 sz3 by3 J8P rfl rfl (by decide) (by decide) hv (J5u l) (by omega) hfl
 have hlen9:∀ h':SHeap,lenS Tryz.prog h' 25 (qS h.next (l.length+5) (l.length+5))=some (iv ((l.length+5:Nat):Int)):=fun h'=>Jrc
 have hsl:=fun (H:SHeap)=>JnH (P:=Tryz.prog) (h:=H) (t:=25) (e:=3) (id:=h.next) (n:=l.length+5) (m:=l.length) (c:=l.length+5) Tryz.underlying25 sz3 (by omega) (by unfold unk;omega)
 simp only[evC,seval,↓evP,hlen,w9,hmk,hcp]
 refine WK.loop (fun k s'=>s'.T.get 0=v∧s'.T.get 3=qS h.next (l.length+5) (l.length+5)∧s'.T.get 4=iv ((l.length+k:Nat):Int)∧k≤5∧s'.h.next=h.next+1∧s'.h.floor=h.floor∧(∀ i,i<h.next→s'.h.get i=h.get i) ∧
  ∃ L:List Int,s'.h.get h.next=.row (ints L) 3 false false∧L.length=l.length+5∧(∀ j,j<l.length→L[j]?=l[j]?)∧∀ q,q<k→L[l.length+q]?=some (mkI (l.length+q))) 5 (by omega) ?_ ?_
 ·refine⟨by simp only[evC,seval,↓evP,rpC],by simp only[evC,seval,↓evP,rpC],by simp only[evC,seval,↓evP,rpC];rfl,by omega,n1,f1,o1,l++List.replicate 5 0,?_,by simp,fun j hj=>by rw[List.getElem?_append_left hj],fun q hq=>by omega⟩
  show H1.get h.next=_
  rw[g1]
  have:J3e (Value.int IntKind.i64 0).cells.toList 5=ints (List.replicate 5 0):=J8K 5
  rw[this]
  simp[ints]
 ·rintro k ⟨T1,H2⟩ hk ⟨t0,t3,t4,hk9,n2,f2,o2,L,gL,lL,own,marks⟩
  simp only at t0 t3 t4 n2 f2 o2 gL
  by_cases hlt:k<5
  ·have c1:decide (((l.length+k:Nat):Int)<((l.length+5:Nat):Int))=true:=by simp;omega
   have hix:=J1F (id:=h.next) (n:=l.length+5) (c:=l.length+5) (i:=l.length+k) (by omega)
   have w2:IntKind.i64.wrap (-77-((l.length+k:Nat):Int))=mkI (l.length+k):=J0s (by omega) (by omega)
   have hst:J0K Tryz.prog H2 3 (qP h.next (l.length+k)) (iv (mkI (l.length+k)))=some (H2.put h.next (.row (ints (L.set (l.length+k) (mkI (l.length+k)))) 3 false false)):=J59 gL (by omega) (by omega)
   have w1:IntKind.i64.wrap (((l.length+k:Nat):Int)+1)=((l.length+(k+1):Nat):Int):=J0s (by omega) (by omega)
   simp only[evC,seval,↓evP,t0,t3,t4,hlen9,c1,w2,hix,hst,w1]
   refine⟨hlt,by omega,n2,f2,fun i hi=>by rw[J05 (by omega) (by omega)];exact o2 i hi,_,J0b rfl (by omega),by rw[List.length_set];exact lL,fun j hj=>?_,fun q hq=>?_⟩
   ·rw[List.getElem?_set_ne (by omega)]
    exact own j hj
   ·rcases Nat.lt_or_ge q k with h1 | h1
    ·rw[List.getElem?_set_ne (by omega)]
     exact marks q h1
    ·have:q=k:=by omega
     subst this
     rw[List.getElem?_set_self (by omega)]
  ·have c1:decide (((l.length+k:Nat):Int)<((l.length+5:Nat):Int))=false:=by simp;omega
   have:k=5:=by omega
   subst this
   simp only[evC,seval,↓evP,hr,t0,t3,t4,hlen,hlen9,c1,hsl]
   exact⟨⟨L,gL,lL,own,marks⟩,n2,f2,o2⟩
theorem Jr7 {l:List Int} {v:Value} {lo:Nat} (hv:J1S lo h v l) (hl:l.length<900000000) (hfl:h.floor≤h.next) (hn:20<n) :
  ∃ h',J0T n 26 [v] h=some (qS h.next l.length (l.length+5),h')∧((∃ L,LentI h' h.next l L)∧h'.next=h.next+1∧h'.floor=h.floor∧∀ i,i<h.next→h'.get i=h.get i):=by
 obtain⟨n,rfl⟩:∃ j,n=j+1:=⟨n-1,by omega⟩
 exact Jc0 (J13 ⟨rfl,rfl,rfl⟩) rfl (JqU hv hl hfl (by omega))
end
section
variable {call:J0r} {N n:Nat} {h:SHeap}
theorem JqN {o lo:Nat} {l L:List Int} {v:Value} (hL:LentI h o l L) (ho:o<h.next) (hf:h.floor≤o) (hv:J1S lo h v l) (hl:l.length<900000000) (hN:l.length+20<N)
  (hs:call 12 [qS o l.length (l.length+5),v] h=some (.bool true,h)) :
  ∃ h',J0L Tryz.prog call N 15 [qS o l.length (l.length+5),v] h=some (.bool true,h')∧(h'.next=h.next∧h'.floor=h.floor∧∀ i,i≠o→h'.get i=h.get i):=by
 refine J1N (R:=fun h'=>h'.next=h.next∧h'.floor=h.floor∧∀ i,i≠o→h'.get i=h.get i) Tryz.func15 rfl (by simp[Tryz.f15]) ?_
 have hr:Tryz.f15.results.toList=[.tmp 4]:=rfl
 have lenM:∀ h':SHeap,lenS Tryz.prog h' 25 (qS o l.length (l.length+5))=some (iv (l.length:Int)):=fun h'=>Jrc
 have lenA:∀ h':SHeap,lenS Tryz.prog h' 25 (qS o (l.length+5) (l.length+5))=some (iv ((l.length+5:Nat):Int)):=fun h'=>Jrc
 have hsl:=fun (H:SHeap)=>JnH (P:=Tryz.prog) (h:=H) (t:=25) (e:=3) (id:=o) (n:=l.length) (m:=l.length+5) (c:=l.length+5) Tryz.underlying25 sz3 (by omega) (by unfold unk;omega)
 have w9:IntKind.i64.wrap ((l.length:Int)+5)=((l.length+5:Nat):Int):=J0s (by omega) (by omega)
 simp only[evC,seval,↓evP,hs,lenM,lenA,w9,hsl]
 refine WK.loop (fun q s'=>s'.T.get 5=.bool true∧s'.T.get 6=qS o (l.length+5) (l.length+5)∧s'.T.get 7=iv ((l.length+q:Nat):Int)∧q≤5∧s'.h=h) 5 (by omega) ?_ ?_
 ·exact⟨by simp only[evC,seval,↓evP,rpC],by simp only[evC,seval,↓evP,rpC],by simp only[evC,seval,↓evP,rpC];rfl,by omega,rfl⟩
 rintro q ⟨T2,H2⟩ hq ⟨t5,t7,t8,hq9,hh⟩
 simp only at t5 t7 t8 hh
 subst hh
 by_cases hlt:q<5
 ·have c1:decide (((l.length+q:Nat):Int)<((l.length+5:Nat):Int))=true:=by simp;omega
  have ea:=J1F (id:=o) (n:=l.length+5) (c:=l.length+5) (i:=l.length+q) (by omega)
  have xa:ld1 (l.length+q) (H2.get o)=some (iv (mkI (l.length+q))):=by rw[hL.g];exact J2z (hL.marks q hlt)
  have w1:IntKind.i64.wrap (((l.length+q:Nat):Int)+1)=((l.length+(q+1):Nat):Int):=J0s (by omega) (by omega)
  have w2:IntKind.i64.wrap (-77-((l.length+q:Nat):Int))=mkI (l.length+q):=J0s (by omega) (by omega)
  simp only[evC,seval,↓evP,t5,t7,t8,lenA,c1,ea,J0m,xa,w2,BEq.rfl,w1]
  exact⟨hlt,by omega⟩
 have c1:decide (((l.length+q:Nat):Int)<((l.length+5:Nat):Int))=false:=by simp;omega
 have:q=5:=by omega
 subst this
 simp only[evC,seval,↓evP,t5,t7,t8,lenA,c1]
 refine WK.loop (fun k s'=>s'.T.get 5=.bool true∧s'.T.get 6=qS o (l.length+5) (l.length+5)∧s'.T.get 8=iv (k:Int)∧k≤l.length+5∧s'.h.next=H2.next∧s'.h.floor=H2.floor∧(∀ i,i≠o→s'.h.get i=H2.get i)∧∃ L':List Int,s'.h.get o=.row (ints L') 3 false false∧L'.length=l.length+5) (l.length+5) (by omega) ?_ ?_
 ·exact⟨by simp only[evC,↓reduceIte,Nat.reduceEqDiff,reduceCtorEq,↓evP,rpC,Nat.reduceAdd,Nat.reduceLT,t5],by simp only[evC,↓reduceIte,Nat.reduceEqDiff,reduceCtorEq,↓evP,rpC,Nat.reduceAdd,Nat.reduceLT,t7],by simp only[evC,↓reduceIte,Nat.reduceEqDiff,reduceCtorEq,↓evP,rpC,Nat.reduceAdd,Nat.reduceLT];rfl,by omega,rfl,rfl,fun _ _=>rfl,L,hL.g,hL.len⟩
 rintro k ⟨T3,H3⟩ hk ⟨t5,t7,t9,hk9,n3,f3,o3,L',g3,l3⟩
 simp only at t5 t7 t9 n3 f3 o3 g3
 by_cases hlt:k<l.length+5
 ·have c1:decide ((k:Int)<((l.length+5:Nat):Int))=true:=by simp;omega
  have ea:=J1F (id:=o) (n:=l.length+5) (c:=l.length+5) (i:=k) hlt
  have hst:J0K Tryz.prog H3 3 (qP o k) (iv 31)=some (H3.put o (.row (ints (L'.set k 31)) 3 false false)):=J59 g3 (by omega) (by omega)
  have w1:IntKind.i64.wrap ((k:Int)+1)=((k+1:Nat):Int):=J0s (by omega) (by omega)
  simp only[evC,seval,↓evP,t5,t7,t9,lenA,c1,ea,hst,w1]
  exact⟨hlt,by omega,n3,f3,fun i hi=>by rw[J05 (by omega) (Ne.symm hi)];exact o3 i hi,_,J0b rfl (by omega),by rw[List.length_set];exact l3⟩
 have c1:decide ((k:Int)<((l.length+5:Nat):Int))=false:=by simp;omega
 simp only[evC,seval,↓evP,hr,t5,t7,t9,lenA,c1]
 exact⟨n3,f3,o3⟩
theorem JqA {o lo:Nat} {l L:List Int} {v:Value} (hL:LentI h o l L) (ho:o<h.next) (hf:h.floor≤o) (hv:J1S lo h v l) (hl:l.length<900000000) (hn:l.length+30<n) :
  ∃ h',J0T n 15 [qS o l.length (l.length+5),v] h=some (.bool true,h')∧(h'.next=h.next∧h'.floor=h.floor∧∀ i,i≠o→h'.get i=h.get i):=by
 obtain⟨n,rfl⟩:∃ j,n=j+1:=⟨n-1,by omega⟩
 exact k_wr (J13 ⟨rfl,rfl,rfl⟩) (JqN hL ho hf hv hl (by omega) (Jqd (hL.cells (lo:=0) ⟨Nat.zero_le _,ho⟩) hv (by omega) (by omega)))
end
end Go.Proofs.YtdejoodfeljmkaaGreatDoor
