/- Part 22 of what the claim leans on: 6 texts laid one behind another. -/
import Derived.Test.YtdejoodfeljmkaaGreatDoorTT21
namespace Go.Proofs.YtdejoodfeljmkaaGreatDoor
open Go Go.Sx
set_option maxRecDepth 100000
set_option linter.unusedSimpArgs false
set_option linter.unusedVariables false
def JkW (s:StN) (k n:Int) (nm:ByteArray):Prop:=
 0≤n∧((k=1∧∃ b,s.queues[n.toNat]?=some (nm,b))∨(k=2∧s.vars[n.toNat]?=some nm)∨(k=3∧s.tags[n.toNat]?=some nm)∨(k=4∧∃ ru:Nat,s.rules[n.toNat]?=some ((ru:Int)+1)∧∃ y:RowN,s.rows[ru]?=some y∧y.name=nm))
structure UpS (s s':StN):Prop where
 q:∀ (i:Nat) x,s.queues[i]?=some x→s'.queues[i]?=some x
 v:∀ (i:Nat) x,s.vars[i]?=some x→s'.vars[i]?=some x
 t:∀ (i:Nat) x,s.tags[i]?=some x→s'.tags[i]?=some x
 u:∀ (i:Nat) x,s.rules[i]?=some x→s'.rules[i]?=some x
 r:∀ (i:Nat) (y:RowN),s.rows[i]?=some y→∃ y':RowN,s'.rows[i]?=some y'∧y'.name=y.name
theorem JkW.up {s s':StN} {k n:Int} {nm:ByteArray} (h:JkW s k n nm) (hu:UpS s s'):JkW s' k n nm:=by
 refine⟨h.1,?_⟩
 rcases h.2 with⟨h1,b,h2⟩ | ⟨h1,h2⟩ | ⟨h1,h2⟩ | ⟨h1,ru,h2,y,h3,h4⟩
 ·exact .inl ⟨h1,b,hu.q _ _ h2⟩
 ·exact .inr (.inl ⟨h1,hu.v _ _ h2⟩)
 ·exact .inr (.inr (.inl ⟨h1,hu.t _ _ h2⟩))
 ·obtain⟨y',h5,h6⟩:=hu.r _ _ h3
  exact .inr (.inr (.inr ⟨h1,ru,hu.u _ _ h2,y',h5,h6.trans h4⟩))
theorem Jl9 {α:Type} {l:List α} {i:Nat} {x y:α} (h:l[i]?=some x):(l++[y])[i]?=some x:=by rw[List.getElem?_append_left (List.getElem?_eq_some_iff.1 h).1];exact h
theorem Jlf {l:List RowN} {k i:Nat} {n:Int} {y:RowN} (h:l[i]?=some y):∃ y':RowN,(setN l k n)[i]?=some y'∧y'.name=y.name:=by
 by_cases hi:i=k
 ·subst hi
  exact⟨_,J4g h,rfl⟩
 ·exact⟨y,(J4M hi).trans h,rfl⟩
theorem JkX {k:Int} (h:J1O k≠0):J0j k=0:=by
 unfold J0j
 unfold J1O at h
 split
 ·rename_i h1
  simp only[List.contains_cons,List.contains_nil,Bool.or_false,Bool.or_eq_true,beq_iff_eq] at h1
  rcases h1 with rfl | rfl <;> exact absurd rfl h
 split
 ·subst k;exact absurd rfl h
 split
 ·subst k;exact absurd rfl h
 split
 ·subst k;exact absurd rfl h
 rfl
def Jkw (k:Int):Int:=J1O k+J0j k
theorem Jll {k:Int} (h:Jkw k=0):J1O k=0∧J0j k=0:=by
 have:=Jcr k
 have:=J3c k
 unfold Jkw at h
 omega
structure ToldM (l:List RowN) (at_:Nat) (s:StN):Prop where
 rows:∀ (i:Nat) (x:RowN),i<at_→s.rows[i]?=some x→(Jkw x.kind=0→l[i]?=some x)∧(Jkw x.kind≠0→JkW s (Jkw x.kind) x.n x.name)
 things:∀ t∈s.things,JkW s t.kind t.num t.name
theorem ToldM.up {l:List RowN} {at_:Nat} {s s':StN} (h:ToldM l at_ s) (hu:UpS s s') (hr:∀ i,i<at_→s'.rows[i]?=s.rows[i]?) (ht:∀ t∈s'.things,t∈s.things∨JkW s' t.kind t.num t.name):ToldM l at_ s' where
 rows:=fun i x hi hx=>by
  rw[hr i hi] at hx
  obtain⟨h1,h2⟩:=h.rows i x hi hx
  exact⟨h1,fun h3=>(h2 h3).up hu⟩
 things:=fun t h1=>by
  rcases ht t h1 with h2 | h2
  ·exact(h.things t h2).up hu
  ·exact h2
theorem JmD {at_:Nat} {end_:Int} {x:RowN} {s:StN}:UpS s (addN at_ end_ x s) where
 q:=fun i y h=>by simp only[addN];split;(first | exact Jl9 h | exact h);exact h
 v:=fun i y h=>by simp only[addN];split;(first | exact Jl9 h | exact h);exact h
 t:=fun i y h=>by simp only[addN];split;(first | exact Jl9 h | exact h);exact h
 u:=fun i y h=>by simp only[addN];split;(first | exact Jl9 h | exact h);exact h
 r:=fun i y h=>Jlf h
theorem JmA (s:StN):UpS s s:=⟨fun _ _ h=>h,fun _ _ h=>h,fun _ _ h=>h,fun _ _ h=>h,fun _ y h=>⟨y,h,rfl⟩⟩
theorem JkM {α:Type} (l:List α) (y:α):(l++[y])[l.length]?=some y:=by simp
theorem Jmq {at_:Nat} {end_:Int} {x:RowN} {s:StN} (hx:s.rows[at_]?=some x) (hd:J0j x.kind≠0):JkW (addN at_ end_ x s) (J0j x.kind) (cntN s (J0j x.kind)) x.name:=by
 have hk:=J3c x.kind
 refine⟨by omega,?_⟩
 rw[Int.toNat_natCast]
 have hc:J0j x.kind=1∨J0j x.kind=2∨J0j x.kind=3∨J0j x.kind=4:=by omega
 rcases hc with e | e | e | e
 ·refine .inl ⟨e,x.kind==3,?_⟩
  simp only[addN,cntN,e]
  exact JkM _ _
 ·refine .inr (.inl ⟨e,?_⟩)
  simp only[addN,cntN,e]
  exact JkM _ _
 ·refine .inr (.inr (.inl ⟨e,?_⟩))
  simp only[addN,cntN,e]
  exact JkM _ _
 ·refine .inr (.inr (.inr ⟨e,at_,?_,_,J4g hx,rfl⟩))
  simp only[addN,cntN,e]
  exact JkM _ _
theorem JlM {l:List RowN} {at_:Nat} {end_:Int} {x:RowN} {s:StN} (h:ToldM l at_ s) (hx:s.rows[at_]?=some x) :
  ToldM l at_ (J0W at_ end_ x s)∧∃ n,(J0W at_ end_ x s).rows[at_]?=some { x with n:=n }∧(J0j x.kind=0→n=x.n)∧(J0j x.kind≠0→JkW (J0W at_ end_ x s) (J0j x.kind) n x.name):=by
 unfold J0W
 by_cases d0:J0j x.kind=0
 ·rw[if_pos d0]
  exact⟨h,x.n,hx,fun _=>rfl,fun h1=>absurd d0 h1⟩
 ·rw[if_neg d0]
  have hs:=Jmq (end_:=end_) hx d0
  refine⟨h.up JmD (fun i hi=>J4M (by omega)) fun t ht=>?_,_,J4g hx,fun h1=>absurd h1 d0,fun _=>hs⟩
  simp only[addN,List.mem_append,List.mem_cons,List.not_mem_nil,or_false] at ht
  rcases ht with h1 | rfl
  ·exact .inl h1
  ·exact .inr hs
theorem Jm1 {l:List RowN} {at_:Nat} {x:RowN} {s:StN} (h:ToldM l at_ s) (hx:s.rows[at_]?=some x) (hc:J1v at_ x s=0) :
  ToldM l at_ (J0D at_ x s)∧UpS s (J0D at_ x s)∧∃ n,(J0D at_ x s).rows[at_]?=some { x with n:=n }∧(J1O x.kind=0→n=x.n)∧(J1O x.kind≠0→JkW (J0D at_ x s) (J1O x.kind) n x.name):=by
 unfold J0D
 unfold J1v at hc
 by_cases d0:J1O x.kind=0
 ·rw[if_pos d0]
  exact⟨h,JmA s,x.n,hx,fun _=>rfl,fun h1=>absurd d0 h1⟩
 ·rw [if_neg d0] at hc ⊢
  cases hf:J30 s.things x.name with
  | none=>simp only[hf] at hc;cases hc
  | some t=>
   simp only[hf] at hc ⊢
   have hk:t.kind=J1O x.kind:=by
    split at hc
    ·cases hc
    ·split at hc
     ·cases hc
     ·rename_i h;simpa using h
   have hnm:t.name=x.name:=by
    have:=List.find?_some hf
    exact(J3o this).symm
   have hu:UpS s { s with rows:=setN s.rows at_ t.num }:=⟨fun _ _ h=>h,fun _ _ h=>h,fun _ _ h=>h,fun _ _ h=>h,fun _ y h=>Jlf h⟩
   have hs:=(h.things t (J8w hf)).up hu
   rw[hk,hnm] at hs
   exact⟨h.up hu (fun i hi=>J4M (by omega)) fun t ht=>.inl ht,hu,_,J4g hx,fun h1=>absurd h1 d0,fun _=>hs⟩
theorem JlW {l:List RowN} {E:List Int} {at_:Nat} {s:StN} (hat:at_<l.length) (hi:InvR l at_ s) (h:ToldM l at_ s) (h0:(J31 E at_ s).1=0):ToldM l (at_+1) (J31 E at_ s).2:=by
 obtain⟨x,hx⟩:∃ x,s.rows[at_]?=some x:=⟨_,List.getElem?_eq_getElem (by rw[hi.len];exact hat)⟩
 have hxl:l[at_]?=some x:=by rw[← hi.later at_ (Nat.le_refl _)];exact hx
 unfold J31 at h0 ⊢
 rw[hx] at h0 ⊢
 simp only at h0 ⊢
 by_cases hd:J25 x s=0
 case neg=>rw[if_pos hd] at h0;exact absurd h0 hd
 rw[if_neg (by simpa using hd)] at h0 ⊢
 obtain⟨t1,k1,r1,a1,b1⟩:=JlM (end_:=(E[at_]?).getD 0) h hx
 generalize J0W at_ ((E[at_]?).getD 0) x s=s1 at *
 rw[r1] at h0 ⊢
 simp only at h0 ⊢
 by_cases hc:J1v at_ { x with n:=k1 } s1=0
 case neg=>rw[if_pos hc] at h0;exact absurd h0 hc
 rw[if_neg (by simpa using hc)] at h0 ⊢
 obtain⟨t2,u2,k2,r2,a2,b2⟩:=Jm1 t1 r1 hc
 simp only at r2 a2 b2
 generalize J0D at_ { x with n:=k1 } s1=s2 at *
 rw[r2] at h0 ⊢
 simp only at h0 ⊢
 by_cases hv:evE { x with n:=k2 } s2=0
 case neg=>rw[if_pos hv] at h0;exact absurd h0 hv
 rw[if_neg (by simpa using hv)] at h0 ⊢
 have hev:(evS at_ { x with n:=k2 } s2).queues=s2.queues∧(evS at_ { x with n:=k2 } s2).vars=s2.vars∧(evS at_ { x with n:=k2 } s2).tags=s2.tags∧(evS at_ { x with n:=k2 } s2).rules=s2.rules∧(evS at_ { x with n:=k2 } s2).rows=s2.rows∧(evS at_ { x with n:=k2 } s2).things=s2.things:=by
  unfold evS
  split
  ·exact⟨rfl,rfl,rfl,rfl,rfl,rfl⟩
  ·split <;> exact⟨rfl,rfl,rfl,rfl,rfl,rfl⟩
 obtain⟨e1,e2,e3,e4,e5,e6⟩:=hev
 generalize evS at_ { x with n:=k2 } s2=s3 at *
 have hu3:UpS s2 s3:=⟨fun i y h=>by rw[e1];exact h,fun i y h=>by rw[e2];exact h,fun i y h=>by rw[e3];exact h,fun i y h=>by rw[e4];exact h,fun i y h=>⟨y,by rw[e5];exact h,rfl⟩⟩
 have t3:ToldM l at_ s3:=t2.up hu3 (fun i _=>by rw[e5]) fun t ht=>.inl (by rw[← e6];exact ht)
 refine⟨fun i y hi' hy=>?_,t3.things⟩
 by_cases hia:i=at_
 ·subst hia
  rw[e5,r2] at hy
  cases hy
  simp only
  refine⟨fun h1=>?_,fun h1=>?_⟩
  ·obtain⟨h2,h3⟩:=Jll h1
   rw[a2 h2,a1 h3]
   exact hxl
  ·by_cases c0:J1O x.kind=0
   ·have d0:J0j x.kind≠0:=fun h2=>h1 (by unfold Jkw;omega)
    rw[show Jkw x.kind=J0j x.kind by unfold Jkw;omega,a2 c0]
    exact((b1 d0).up u2).up hu3
   ·rw[show Jkw x.kind=J1O x.kind by unfold Jkw;rw[JkX c0];omega]
    exact(b2 c0).up hu3
 ·exact t3.rows i y (by omega) hy
theorem JlI {l:List RowN} {E:List Int} (ht:J2c l) (hE:∀ i:Nat,0≤(E[i]?).getD 0):∀ r at_ s,at_+r=l.length→InvR l at_ s→ToldM l at_ s→(goN E r at_ s).1=0→ToldM l l.length (goN E r at_ s).2.2
 | 0,at_,s,hr,hi,h,_=>by
  have:at_=l.length:=by omega
  subst this
  exact h
 | r+1,at_,s,hr,hi,h,h0=>by
  unfold goN at h0 ⊢
  by_cases h9:(J31 E at_ s).1=0
  ·rw[if_neg (by simpa using h9)] at h0 ⊢
   exact JlI ht hE r (at_+1) _ (by omega) (J6b ht (hE at_) (by omega) hi h9) (JlW (by omega) hi h h9) h0
  ·rw[if_pos h9] at h0
   exact absurd h0 h9
theorem Jmh {l:List RowN} (h:(resN l).1.1=0):ToldM l l.length (resN l).2:=by
 obtain⟨ht,_,hg,_,he,_⟩:=JhO h
 rw[he]
 exact JlI ht J3T l.length 0 (s0N l) (by omega) (inv0 l) ⟨fun i x hi=>by omega,fun t ht=>by simp[s0N] at ht⟩ hg
def Jtf (L Z:List RowN):Prop:=∀ (i:Nat) (z:RowN),Z[i]?=some z→∃ x:RowN,L[i]?=some x∧x.kind=z.kind
structure GoodT (Z:List RowN) (s:StN):Prop where
 t:J2c Z
 sk:Jkk s.rows Z
 kk:Jtf s.rows Z
 ks:∀ (i:Nat) (x:RowN),s.rows[i]?=some x→1≤x.kind∧x.kind≤54
 qn:∀ (i:Nat) (x:RowN),s.rows[i]?=some x→J1O x.kind=1→0≤x.n∧x.n<s.queues.length
 root:∃ z:RowN,Z[0]?=some z∧z.kind=1
 num:∀ (i:Nat) (x:RowN),s.rows[i]?=some x→x.kind=27→0≤x.n∧x.n≤1073741824
theorem Jsv (x:RowN):(Jli x).kind=x.kind∧(Jli x).kids=x.kids:=by unfold Jli;split <;> exact⟨rfl,rfl⟩
theorem JsB {l:List RowN} {i:Nat} {z:RowN} (h:(Jk8 l)[i]?=some z):∃ x,l[i]?=some x∧z=Jli x:=by
 unfold Jk8 at h
 rw[List.getElem?_map] at h
 cases hx:l[i]? with
 | none=>rw[hx] at h;cases h
 | some x=>rw[hx] at h;cases h;exact⟨x,rfl,rfl⟩
theorem JtO {l:List RowN} (h:J2L J09 l=none):∃ z:RowN,l[0]?=some z∧z.kind=1:=by
 unfold J2L at h
 split at h
 ·rename_i hc
  have h1:=hc.1
  unfold topN at h1
  cases hx:l[0]? with
  | none=>rw[hx] at h1;cases h1
  | some x=>
   rw[hx] at h1
   simp only at h1
   split at h1
   ·rename_i h2
    rw[Bool.and_eq_true] at h2
    exact⟨x,rfl,by have:=h2.1;simp[J1l] at this;exact this⟩
   ·cases h1
 ·cases h
theorem JtA {l:List RowN} (h:(J0v l).1=0):∃ z:RowN,l[0]?=some z∧z.kind=1:=by
 unfold J0v at h
 cases hs:J2L J09 l with
 | none=>exact JtO hs
 | some p=>rw[hs] at h;cases h
theorem JtL {nm:ByteArray} {s:StN} (h:JkA nm s=0):GoodT (Jk8 s.rows) s:=by
 have hm:JmE nm s:=by
  unfold JkA at h
  split at h
  ·assumption
  ·cases h
 obtain⟨hok,hsame⟩:=hm
 rw[JeO hok] at hsame
 obtain⟨_,e1,e2,e3,e4,e5,e6,e7⟩:=hsame
 simp only at e1 e2 e3 e4 e5 e6 e7
 obtain⟨ht,hck,hgo,_,hres,hi⟩:=JhO hok
 have hzl:(Jk8 s.rows).length=s.rows.length:=by unfold Jk8;rw[List.length_map]
 have hT:=Jmh hok
 have hkinds:=J68 ht hi
 generalize (resN (Jk8 s.rows)).2=s' at *
 have hlt:∀ (i:Nat) (x:RowN),s.rows[i]?=some x→i<(Jk8 s.rows).length:=fun i x hx=>by
  have:=(List.getElem?_eq_some_iff.1 hx).1
  omega
 refine⟨ht,⟨hzl.symm,fun i z hz=>?_⟩,fun i z hz=>?_,fun i x hx=>?_,fun i x hx hc=>?_,JtA hck,fun i x hx hk=>?_⟩
 ·obtain⟨x,hx,rfl⟩:=JsB hz
  exact⟨x,hx,(Jsv x).2.symm⟩
 ·obtain⟨x,hx,rfl⟩:=JsB hz
  exact⟨x,hx,(Jsv x).1.symm⟩
 ·rw[e2] at hx
  exact hkinds x (List.mem_of_getElem? hx)
 ·have hl:=hlt i x hx
  rw[e2] at hx
  have hd:=JkX (k:=x.kind) (by rw[hc];decide)
  have hs:Jkw x.kind=1:=by unfold Jkw;omega
  have:=(hT.rows i x (by omega) hx).2 (by rw[hs];decide)
  rw[hs] at this
  obtain⟨h0,h2⟩:=this
  rcases h2 with⟨_,b,h2⟩ | ⟨h3,_⟩ | ⟨h3,_⟩ | ⟨h3,_⟩
  ·have:=(List.getElem?_eq_some_iff.1 h2).1
   rw[e3]
   omega
  ·omega
  ·omega
  ·omega
 ·have hl:=hlt i x hx
  rw[e2] at hx
  have hz:=(hT.rows i x (by omega) hx).1 (by rw[hk];rfl)
  have hf:=ht.fit hz
  unfold fitN at hf
  simp only[Bool.and_eq_true,Bool.or_eq_true,decide_eq_true_eq,beq_iff_eq] at hf
  obtain⟨⟨⟨_,h1⟩,_⟩,_⟩:=hf
  rcases h1 with h1 | ⟨⟨_,h1⟩,h2⟩
  ·omega
  ·omega
section
variable {R Z:List RowN} {e:Nat→Nat}
theorem Jtn (hk:Jtf R Z) (hs:Jkk R Z) (i:Nat):(R[i]?).map (fun x=>(x.kind,x.kids))=(Z[i]?).map (fun x=>(x.kind,x.kids)):=by
 cases hz:Z[i]? with
 | none=>
  have h1:=hs.1
  have:R[i]?=none:=List.getElem?_eq_none (by have:=List.getElem?_eq_none_iff.1 hz;omega)
  rw[this]
 | some z=>
  obtain⟨x,hx,h1⟩:=hk i z hz
  obtain⟨y,hy,h2⟩:=hs.2 i z hz
  rw[hx] at hy
  cases hy
  rw[hx]
  simp[h1,h2]
theorem JsI {i:Nat} {x y:RowN} {first:Int} (h:x.kind=y.kind):∀ (ps:List Nat) (k:Nat) (s:MkT),setL i x first k ps s=setL i y first k ps s
 | [],k,s=>rfl
 | p :: ps,k,s=>by
  show setL i x first (k+1) ps (Jsf i x first s k p)=setL i y first (k+1) ps (Jsf i y first s k p)
  have:Jsf i x first s k p=Jsf i y first s k p:=by unfold Jsf;rw[h]
  rw[this]
  exact JsI h ps (k+1) _
theorem Jso (hk:Jtf R Z) (hs:Jkk R Z):∀ i,Js7 R e i=Js7 Z e i
 | 0=>by
  show (⟨_,_,_⟩:MkT)=⟨_,_,_⟩
  rw[hs.1]
 | i+1=>by
  show Jsq R e i (Js7 R e i)=Jsq Z e i (Js7 Z e i)
  rw[Jso hk hs i]
  unfold Jsq
  have h1:=Jtn hk hs i
  have h2:=Jtn hk hs (i+1)
  have h3:(R[i+1]?).map (·.kind)=(Z[i+1]?).map (·.kind):=by
   cases hR:R[i+1]? <;> cases hZ:Z[i+1]? <;> rw[hR,hZ] at h2 <;> simp_all
  cases hR:R[i]? with
  | none=>
   cases hZ:Z[i]? with
   | none=>rfl
   | some z=>rw[hR,hZ] at h1;cases h1
  | some x=>
   cases hZ:Z[i]? with
   | none=>rw[hR,hZ] at h1;cases h1
   | some z=>
    rw[hR,hZ] at h1
    simp only[Option.map_some,Option.some.injEq,Prod.mk.injEq] at h1
    simp only
    rw[h3,h1.2]
    exact JsI h1.1 _ _ _
theorem Jsu {i:Nat} {x:RowN} {first:Int}:∀ (ps:List Nat) (k q:Nat) (s:MkT) (p:Nat),ps[q]?=some p→setL i x first k (ps.take (q+1)) s=Jsf i x first (setL i x first k (ps.take q) s) (k+q) p
 | [],k,q,s,p,h=>by simp at h
 | a :: ps,k,0,s,p,h=>by
  cases h
  rfl
 | a :: ps,k,q+1,s,p,h=>by
  have h':ps[q]?=some p:=by simpa using h
  have:=Jsu (i:=i) (x:=x) (first:=first) ps (k+1) q (Jsf i x first s k a) p h'
  rw[show k+1+q=k+(q+1) by omega] at this
  exact this
theorem JsQ {i m:Nat} {x:RowN} {first:Int} (hi:i<m):∀ (ps:List Nat) (k:Nat) (s:MkT),(∀ v∈s.U,0≤v∧v<(m:Int))→∀ v∈(setL i x first k ps s).U,0≤v∧v<(m:Int)
 | [],k,s,h=>h
 | p :: ps,k,s,h=>JsQ hi ps (k+1) _ fun v hv=>by
  have hv':v∈s.U.set p (i:Int):=hv
  rcases List.mem_or_eq_of_mem_set hv' with h1 | h1
  ·exact h v h1
  ·omega
theorem JsF {m:Nat} (hm:R.length=m) (h0:0<m):∀ i,i≤m→∀ v∈(Js7 R e i).U,0≤v∧v<(m:Int)
 | 0,_,v,hv=>by
  have:v=0:=(List.mem_replicate.1 hv).2
  omega
 | i+1,hi,v,hv=>by
  have ih:=JsF hm h0 i (by omega)
  have hv':v∈(Jsq R e i (Js7 R e i)).U:=hv
  unfold Jsq at hv'
  split at hv'
  ·exact ih v hv'
  ·exact JsQ (by omega) _ _ _ ih v hv'
end
section
variable {Z:List RowN} {s:StN}
theorem GoodT.z (hG:GoodT Z s) {i:Nat} {x:RowN} (hx:s.rows[i]?=some x):∃ z:RowN,Z[i]?=some z∧x.kind=z.kind∧x.kids=z.kids:=by
 have hl:=(List.getElem?_eq_some_iff.1 hx).1
 have h1:=hG.sk.1
 obtain⟨z,hz⟩:∃ z,Z[i]?=some z:=⟨_,List.getElem?_eq_getElem (by omega)⟩
 obtain⟨a,ha,h2⟩:=hG.kk i z hz
 obtain⟨b,hb,h3⟩:=hG.sk.2 i z hz
 rw[hx] at ha hb
 cases ha
 cases hb
 exact⟨z,hz,h2,h3⟩
theorem GoodT.most (hG:GoodT Z s) {i:Nat} {x:RowN} (hx:s.rows[i]?=some x):([12,13].contains x.kind=true→x.kids≤3)∧([15,47,48].contains x.kind=true→x.kids≤2):=by
 obtain⟨z,hz,h1,h2⟩:=hG.z hx
 have hf:=hG.t.fit hz
 unfold fitN at hf
 simp only[Bool.and_eq_true,decide_eq_true_eq,Bool.or_eq_true] at hf
 obtain⟨_,hm⟩:=hf
 rw[← h1,← h2] at hm
 refine⟨fun h=>?_,fun h=>?_⟩
 ·simp only[List.contains_cons,List.contains_nil,Bool.or_false,Bool.or_eq_true,beq_iff_eq] at h
  rcases h with h | h <;> (rw[h] at hm;rcases hm with hm | hm <;> simp[J1r] at hm <;> omega)
 ·simp only[List.contains_cons,List.contains_nil,Bool.or_false,Bool.or_eq_true,beq_iff_eq] at h
  rcases h with h | h | h <;> (rw[h] at hm;rcases hm with hm | hm <;> simp[J1r] at hm <;> omega)
theorem GoodT.kids0 (hG:GoodT Z s) {i:Nat} {x:RowN} (hx:s.rows[i]?=some x):0≤x.kids∧J35 Z x.kids.toNat (i+1) (endN Z i)∧endN Z i≤s.rows.length∧i<endN Z i:=by
 obtain⟨z,hz,h1,h2⟩:=hG.z hx
 have hs:=hG.t.end (List.getElem?_eq_some_iff.1 hz).1
 obtain⟨y,hy,h3,_,h4⟩:=hs.kids
 rw[hz] at hy
 cases hy
 rw[h2]
 have:=hs.lt
 have:=hG.sk.1
 exact⟨h3,h4,by omega,by omega⟩
theorem GoodT.kid (hG:GoodT Z s) {i k p:Nat} {x:RowN} (hx:s.rows[i]?=some x) (hk:(Js9 (endN Z) x.kids.toNat (i+1))[k]?=some p):i<p∧p<s.rows.length:=by
 obtain⟨z,hz,h1,h2⟩:=hG.z hx
 obtain⟨_,hc,_⟩:=hG.kids0 hx
 have hge:=JsG _ _ _ hc p (List.mem_of_getElem? hk)
 rw[h2] at hk
 obtain⟨y,hy,_⟩:=hG.t.kid hz hk
 have:=(List.getElem?_eq_some_iff.1 hy).1
 have:=hG.sk.1
 omega
theorem GoodT.next (hG:GoodT Z s) {i:Nat} {x:RowN} (hx:s.rows[i]?=some x) (h:0<x.kids):i+1<s.rows.length:=by
 obtain⟨r,hr⟩:∃ r,x.kids.toNat=r+1:=⟨x.kids.toNat-1,by omega⟩
 exact(hG.kid (k:=0) (p:=i+1) hx (by rw[hr];rfl)).2
theorem GoodT.place (hG:GoodT Z s) {i:Nat} {x:RowN} (hx:s.rows[i]?=some x) (h24:x.kind=24):0<i∧∃ up:RowN,s.rows[i-1]?=some up∧(Js7 s.rows (endN Z) i).U[i]?=some ((i-1:Nat):Int)∧(up.kind≠20→0≤up.n∧up.n<s.queues.length):=by
 obtain⟨z,hz,h1,h2⟩:=hG.z hx
 have hl:=(List.getElem?_eq_some_iff.1 hz).1
 have hsl:=hG.sk.1
 have h0:0<i:=by
  rcases Nat.eq_zero_or_pos i with h | h
  ·subst h
   obtain⟨r,hr,h3⟩:=hG.root
   rw[hz] at hr
   cases hr
   omega
  ·exact h
 have h0l:endN Z 0=Z.length:=J5P hG.t
 obtain⟨j,y,k,hy,hj,hk⟩:=hG.t.kidOf i 0 i (by omega) h0 (by omega) (by omega)
 obtain⟨hp,h19⟩:=hG.t.place hy hk hz (by omega)
 obtain⟨up,hup⟩:∃ up,s.rows[i-1]?=some up:=⟨_,List.getElem?_eq_getElem (by omega)⟩
 obtain⟨w,hw,h5,_⟩:=hG.z hup
 have:i-1=j:=by omega
 rw[this,hy] at hw
 cases hw
 refine⟨h0,up,hup,?_,fun h20=>hG.qn _ up hup ?_⟩
 ·rw[Jso hG.kk hG.sk]
  exact JsK hG.t hz (by omega) h0
 ·rcases h19 with h | h
  ·rw[h5,h];rfl
  ·exact absurd (h5.trans h) h20
theorem Jsx {k:Int} (h:[8,17,20,9,21,24].contains k=true):J1O k=1:=by
 simp only[List.contains_cons,List.contains_nil,Bool.or_false,Bool.or_eq_true,beq_iff_eq] at h
 rcases h with h | h | h | h | h | h <;> (rw[h];rfl)
end
section
variable {R:List RowN} {Q:List (ByteArray × Bool)} {e:Nat→Nat} {r i:Nat} {x:RowN}
theorem JtJ (hx:R[i]?=some x) {b:Int} (hb:badN R Q (Js7 R e i) i x=b) (h0:b≠0):Jsa R Q e (r+1) i=((b,(i:Int)),[]):=by
 unfold Jsa
 rw[hx]
 simp only
 rw[hb,if_pos h0]
theorem JtY (hx:R[i]?=some x) (hb:badN R Q (Js7 R e i) i x=0):Jsa R Q e (r+1) i=Jsa R Q e r (i+1):=by
 conv=>lhs;unfold Jsa
 rw[hx]
 simp only
 rw[hb,if_neg (by decide)]
variable {M:MkT} {a u:Int} {c:Bool} {up:RowN}
theorem Jto (hA:M.A[i]?=some a) (h0:a≠0) (h1:typN x.kind≠a):badN R Q M i x=41:=by
 unfold badN
 rw[hA,if_pos ⟨h0,h1⟩]
theorem Jtc (hA:M.A[i]?=some a) (h0:¬(a≠0∧typN x.kind≠a)) (hC:M.C[i]?=some true) (hv:Jsi x.kind=true):badN R Q M i x=42:=by
 unfold badN
 rw[hA,if_neg (by simpa using h0),hC,if_pos (by simp[hv])]
theorem Jtj (hA:M.A[i]?=some a) (h0:¬(a≠0∧typN x.kind≠a)) (hC:M.C[i]?=some c) (hv:(c&&Jsi x.kind)=false) (hU:M.U[i]?=some u) (hup:R[u.toNat]?=some up):badN R Q M i x=if Jse Q x up=true then 46 else 0:=by
 unfold badN
 rw[hA,if_neg (by simpa using h0),hC,hU]
 rw[if_neg (by simp only[Option.getD_some];rw[hv];decide)]
 simp only[Option.getD_some,hup]
end
noncomputable def Jsb (nm:ByteArray) (s:StN):(Int × Int) × List Int:=if JkA nm s≠0 then ((JkA nm s,0),[]) else Jsa s.rows s.queues (endN (Jk8 s.rows)) s.rows.length 0
def JsA (h:SHeap) (lo:Nat) (v:Value) (R:(Int × Int) × List Int):Prop:=∃ tv,v=.tuple #[tv,J2k R.1.1 R.1.2]∧J1S lo h tv R.2
theorem JsY {α:Type} {F G:Int→α} (h:JbX.map F=JbX.map G) {k:Int} (hk:1≤k∧k≤54):F k=G k:=(List.map_inj_left.1 h) k (JcT hk)
def JtB:List Int:=JbX.filter fun k=>!([12,13,15,47,48].contains k)
theorem JtS {α:Type} {F G:Int→α} (h:JtB.map F=JtB.map G) {k:Int} (hk:1≤k∧k≤54) (hr:[12,13,15,47,48].contains k=false):F k=G k:=
 (List.map_inj_left.1 h) k (List.mem_filter.2 ⟨JcT hk,by rw[hr];rfl⟩)
section
variable (call:J0r) (N:Nat) (h:SHeap)
theorem JtM:(JbX.map fun k=>J0L Tryz.prog call N 28 [iv k] h)=JbX.map fun k=>some (iv (typN k),h):=by kernel_rfl
theorem Jtw:(JbX.map fun k=>J0L Tryz.prog call N 36 [iv k] h)=JbX.map fun k=>some (iv (typN k),h):=by kernel_rfl
theorem Jt5:(JbX.map fun k=>J0L Tryz.prog call N 29 [iv k] h)=JbX.map fun k=>some (.bool (Jsi k),h):=by kernel_rfl
theorem Jtt:(JbX.map fun k=>J0L Tryz.prog call N 37 [iv k] h)=JbX.map fun k=>some (.bool (Jsi k),h):=by kernel_rfl
theorem JtE (j:Nat) (first:Int):(JtB.map fun k=>J0L Tryz.prog call N 32 [iv k,iv j,iv first] h)=JtB.map fun k=>some (iv (Js8 k j first),h):=by kernel_rfl
end
section
variable {n:Nat} {h:SHeap} {k:Int}
theorem Ju0 (hk:1≤k∧k≤54) (hn:0<n):J0T n 28 [iv k] h=some (iv (typN k),h):=by
 obtain⟨n,rfl⟩:∃ j,n=j+1:=⟨n-1,by omega⟩
 exact J6r (J13 ⟨rfl,rfl,rfl⟩) rfl (JsY (JtM (J0T n) n h) hk)
theorem JtH (hk:1≤k∧k≤54) (hn:0<n):J0T n 36 [iv k] h=some (iv (typN k),h):=by
 obtain⟨n,rfl⟩:∃ j,n=j+1:=⟨n-1,by omega⟩
 exact J6r (J13 ⟨rfl,rfl,rfl⟩) rfl (JsY (Jtw (J0T n) n h) hk)
theorem JtD (hk:1≤k∧k≤54) (hn:0<n):J0T n 29 [iv k] h=some (.bool (Jsi k),h):=by
 obtain⟨n,rfl⟩:∃ j,n=j+1:=⟨n-1,by omega⟩
 exact J6r (J13 ⟨rfl,rfl,rfl⟩) rfl (JsY (Jt5 (J0T n) n h) hk)
theorem Ju5 (hk:1≤k∧k≤54) (hn:0<n):J0T n 37 [iv k] h=some (.bool (Jsi k),h):=by
 obtain⟨n,rfl⟩:∃ j,n=j+1:=⟨n-1,by omega⟩
 exact J6r (J13 ⟨rfl,rfl,rfl⟩) rfl (JsY (Jtt (J0T n) n h) hk)
theorem JsZ (a:Int) (j:Nat):Jsn a j=(a==4||(a==5||(a==6||(a==13&&(j:Int)==0)))):=by
 have hj:((j:Int)==0)=(j==0):=by
  rw[Bool.eq_iff_iff]
  simp
 unfold Jsn
 rw[hj]
 simp only[List.contains_cons,List.contains_nil,Bool.or_false,Bool.or_assoc]
theorem JtQ {a:Int} {j:Nat} (hn:0<n):J0T n 33 [iv a,iv (j:Int)] h=some (.bool (Jsn a j),h):=by
 obtain⟨n,rfl⟩:∃ j,n=j+1:=⟨n-1,by omega⟩
 refine J6r (J13 ⟨rfl,rfl,rfl⟩) rfl ?_
 refine J1m Tryz.func33 rfl (by simp[Tryz.f33]) ?_
 have hr:Tryz.f33.results.toList=[.tmp 4]:=rfl
 rw[JsZ]
 cases c4:(a==4) with
 | true=>simp only[evC,seval,↓evP,hr,c4,Bool.true_or]
 | false=>
 cases c5:(a==5) with
 | true=>simp only[evC,seval,↓evP,hr,c4,c5,Bool.true_or,Bool.or_true]
 | false=>
 cases c6:(a==6) with
 | true=>simp only[evC,seval,↓evP,hr,c4,c5,c6,Bool.true_or,Bool.or_true]
 | false=>
 cases c13:(a==13) with
 | false=>simp only[evC,seval,↓evP,hr,c4,c5,c6,c13,Bool.or_false,Bool.false_and]
 | true=>
 cases cj:((j:Int)==0) with
 | false=>simp only[evC,seval,↓evP,hr,c4,c5,c6,c13,cj,Bool.or_false,Bool.and_false]
 | true=>simp only[evC,seval,↓evP,hr,c4,c5,c6,c13,cj,Bool.or_true,Bool.and_true,Bool.or_false]
theorem bsI2 {a b:Int}:J0Q Tryz.prog h 25 2 [(0,iv a),(1,iv b)]=some (.slice (some ⟨h.next,0,none⟩) 2 2,h.push (.row [iv a,iv b] 3 false false)):=by
 have hc:∀ x:Int,(iv x).cells=#[iv x]:=fun _=>rfl
 simp[J0Q,Tryz.underlying25,sz3,J8P,flat,J1i,hc,J5k,J3e,Go.Sx.lay]
theorem bsI3 {a b c:Int}:J0Q Tryz.prog h 25 3 [(0,iv a),(1,iv b),(2,iv c)]=some (.slice (some ⟨h.next,0,none⟩) 3 3,h.push (.row [iv a,iv b,iv c] 3 false false)):=by
 have hc:∀ x:Int,(iv x).cells=#[iv x]:=fun _=>rfl
 simp[J0Q,Tryz.underlying25,sz3,J8P,flat,J1i,hc,J5k,J3e,Go.Sx.lay]
theorem Jsh {o:SObj}:∀ i,i<h.next→(h.push o).get i=h.get i:=fun i hi=>J06 hi
set_option maxHeartbeats 8000000 in
theorem Jtd {call:J0r} {N:Nat} {j:Nat} {first:Int} (hk:1≤k∧k≤54) (hj:[12,13].contains k=true→j<3) (hj2:[15,47,48].contains k=true→j<2):∃ h1,J0L Tryz.prog call N 32 [iv k,iv (j:Int),iv first] h=some (iv (Js8 k j first),h1)∧∀ i,i<h.next→h1.get i=h.get i:=by
 by_cases hr:[12,13,15,47,48].contains k=false
 ·exact⟨h,JtS (JtE call N h j first) hk hr,fun _ _=>rfl⟩
 have hr':k=12∨k=13∨k=15∨k=47∨k=48:=by
  simp only[Bool.not_eq_false,List.contains_cons,List.contains_nil,Bool.or_false,Bool.or_eq_true,beq_iff_eq] at hr
  omega
 have hR:Tryz.f32.results.toList=[.tmp 6]:=rfl
 rcases hr' with rfl | rfl | rfl | rfl | rfl
 ·have h3:j=0∨j=1∨j=2:=by have:=hj rfl;omega
  rcases h3 with rfl | rfl | rfl
  ·have hix:J0R Tryz.prog 25 (.slice (some ⟨h.next,0,none⟩) 3 3) (iv 0)=some (.pointer (some ⟨h.next,0,none⟩)):=J1F (id:=h.next) (n:=3) (c:=3) (i:=0) (by decide)
   change ∃ h1,J0L Tryz.prog call N 32 [iv 12,iv 0,iv first] h=some (iv (Js8 12 0 first),h1)∧_
   refine J1N (R:=fun h1=>∀ i,i<h.next→h1.get i=h.get i) Tryz.func32 rfl (by simp[Tryz.f32]) ?_
   simp only[evC,seval,↓evP,Int.reduceBEq,hR,bsI3,hix,J0m,J0h,ld1]
   exact⟨rfl,Jsh⟩
  ·have hix:J0R Tryz.prog 25 (.slice (some ⟨h.next,0,none⟩) 3 3) (iv 1)=some (.pointer (some ⟨h.next,1,none⟩)):=J1F (id:=h.next) (n:=3) (c:=3) (i:=1) (by decide)
   change ∃ h1,J0L Tryz.prog call N 32 [iv 12,iv 1,iv first] h=some (iv (Js8 12 1 first),h1)∧_
   refine J1N (R:=fun h1=>∀ i,i<h.next→h1.get i=h.get i) Tryz.func32 rfl (by simp[Tryz.f32]) ?_
   simp only[evC,seval,↓evP,Int.reduceBEq,hR,bsI3,hix,J0m,J0h,ld1]
   exact⟨rfl,Jsh⟩
  ·have hix:J0R Tryz.prog 25 (.slice (some ⟨h.next,0,none⟩) 3 3) (iv 2)=some (.pointer (some ⟨h.next,2,none⟩)):=J1F (id:=h.next) (n:=3) (c:=3) (i:=2) (by decide)
   change ∃ h1,J0L Tryz.prog call N 32 [iv 12,iv 2,iv first] h=some (iv (Js8 12 2 first),h1)∧_
   refine J1N (R:=fun h1=>∀ i,i<h.next→h1.get i=h.get i) Tryz.func32 rfl (by simp[Tryz.f32]) ?_
   simp only[evC,seval,↓evP,Int.reduceBEq,hR,bsI3,hix,J0m,J0h,ld1]
   exact⟨rfl,Jsh⟩
 ·have h3:j=0∨j=1∨j=2:=by have:=hj rfl;omega
  rcases h3 with rfl | rfl | rfl
  ·have hix:J0R Tryz.prog 25 (.slice (some ⟨h.next,0,none⟩) 3 3) (iv 0)=some (.pointer (some ⟨h.next,0,none⟩)):=J1F (id:=h.next) (n:=3) (c:=3) (i:=0) (by decide)
   change ∃ h1,J0L Tryz.prog call N 32 [iv 13,iv 0,iv first] h=some (iv (Js8 13 0 first),h1)∧_
   refine J1N (R:=fun h1=>∀ i,i<h.next→h1.get i=h.get i) Tryz.func32 rfl (by simp[Tryz.f32]) ?_
   simp only[evC,seval,↓evP,Int.reduceBEq,hR,bsI3,hix,J0m,J0h,ld1]
   exact⟨rfl,Jsh⟩
  ·have hix:J0R Tryz.prog 25 (.slice (some ⟨h.next,0,none⟩) 3 3) (iv 1)=some (.pointer (some ⟨h.next,1,none⟩)):=J1F (id:=h.next) (n:=3) (c:=3) (i:=1) (by decide)
   change ∃ h1,J0L Tryz.prog call N 32 [iv 13,iv 1,iv first] h=some (iv (Js8 13 1 first),h1)∧_
   refine J1N (R:=fun h1=>∀ i,i<h.next→h1.get i=h.get i) Tryz.func32 rfl (by simp[Tryz.f32]) ?_
   simp only[evC,seval,↓evP,Int.reduceBEq,hR,bsI3,hix,J0m,J0h,ld1]
   exact⟨rfl,Jsh⟩
  ·have hix:J0R Tryz.prog 25 (.slice (some ⟨h.next,0,none⟩) 3 3) (iv 2)=some (.pointer (some ⟨h.next,2,none⟩)):=J1F (id:=h.next) (n:=3) (c:=3) (i:=2) (by decide)
   change ∃ h1,J0L Tryz.prog call N 32 [iv 13,iv 2,iv first] h=some (iv (Js8 13 2 first),h1)∧_
   refine J1N (R:=fun h1=>∀ i,i<h.next→h1.get i=h.get i) Tryz.func32 rfl (by simp[Tryz.f32]) ?_
   simp only[evC,seval,↓evP,Int.reduceBEq,hR,bsI3,hix,J0m,J0h,ld1]
   exact⟨rfl,Jsh⟩
 ·have h3:j=0∨j=1:=by have:=hj2 rfl;omega
  rcases h3 with rfl | rfl
  ·have hix:J0R Tryz.prog 25 (.slice (some ⟨h.next,0,none⟩) 2 2) (iv 0)=some (.pointer (some ⟨h.next,0,none⟩)):=J1F (id:=h.next) (n:=2) (c:=2) (i:=0) (by decide)
   change ∃ h1,J0L Tryz.prog call N 32 [iv 15,iv 0,iv first] h=some (iv (Js8 15 0 first),h1)∧_
   refine J1N (R:=fun h1=>∀ i,i<h.next→h1.get i=h.get i) Tryz.func32 rfl (by simp[Tryz.f32]) ?_
   simp only[evC,seval,↓evP,Int.reduceBEq,hR,bsI2,hix,J0m,J0h,ld1]
   exact⟨rfl,Jsh⟩
  ·have hix:J0R Tryz.prog 25 (.slice (some ⟨h.next,0,none⟩) 2 2) (iv 1)=some (.pointer (some ⟨h.next,1,none⟩)):=J1F (id:=h.next) (n:=2) (c:=2) (i:=1) (by decide)
   change ∃ h1,J0L Tryz.prog call N 32 [iv 15,iv 1,iv first] h=some (iv (Js8 15 1 first),h1)∧_
   refine J1N (R:=fun h1=>∀ i,i<h.next→h1.get i=h.get i) Tryz.func32 rfl (by simp[Tryz.f32]) ?_
   simp only[evC,seval,↓evP,Int.reduceBEq,hR,bsI2,hix,J0m,J0h,ld1]
   exact⟨rfl,Jsh⟩
 ·have h3:j=0∨j=1:=by have:=hj2 rfl;omega
  rcases h3 with rfl | rfl
  ·exact⟨h,by kernel_rfl,fun _ _=>rfl⟩
  ·exact⟨h,by kernel_rfl,fun _ _=>rfl⟩
 ·have h3:j=0∨j=1:=by have:=hj2 rfl;omega
  rcases h3 with rfl | rfl
  ·exact⟨h,by kernel_rfl,fun _ _=>rfl⟩
  ·exact⟨h,by kernel_rfl,fun _ _=>rfl⟩
theorem Ju2 {j:Nat} {first:Int} (hk:1≤k∧k≤54) (hj:[12,13].contains k=true→j<3) (hj2:[15,47,48].contains k=true→j<2) (hn:0<n):J0T n 32 [iv k,iv (j:Int),iv first] h=some (iv (Js8 k j first),h):=by
 obtain⟨n,rfl⟩:∃ j,n=j+1:=⟨n-1,by omega⟩
 exact J4r (J13 ⟨rfl,rfl,rfl⟩) rfl (Jtd hk hj hj2)
end
section
variable {h:SHeap} {id off:Nat}
end
def JpX (lo:Nat) (h:SHeap) (v:Value) (size:Int) (C:List Int):Prop:=∃ vc,v=.agg #[iv size,vc]∧J1S lo h vc C
theorem JpX.mono {lo:Nat} {h h':SHeap} {v:Value} {size:Int} {C:List Int} (hc:JpX lo h v size C) (hn:h.next≤h'.next) (hg:∀ i,lo≤i→i<h.next→h'.get i=h.get i):JpX lo h' v size C:=by
 obtain⟨vc,h1,h2⟩:=hc
 exact⟨vc,h1,J1S.mono h2 hn hg⟩
structure LentCp (h:SHeap) (b:Nat) (v:Value) (size:Int) (C:List Int):Prop where
 v:v=.agg #[iv size,.slice (some ⟨b,0,none⟩) C.length (C.length+5)]
 lt:b<h.next
 l:∃ L,LentI h b C L
theorem LentCp.mono {h h':SHeap} {b:Nat} {v:Value} {size:Int} {C:List Int} (hl:LentCp h b v size C) (hn:h.next≤h'.next) (hg:h'.get b=h.get b):LentCp h' b v size C:=by
 obtain⟨hv,hlt,⟨L,hL⟩⟩:=hl
 exact⟨hv,by omega,L,by rw[hg];exact hL.g,hL.len,hL.own,hL.marks⟩
section
variable {n N:Nat} {h:SHeap}
end
theorem Jqg:∀ {l:List (ByteArray × Bool)} {k:Nat} {x:ByteArray × Bool},l[k]?=some x→(J3S l)[k*2]?=some (.string x.1)∧(J3S l)[k*2+1]?=some (.bool x.2)
 | [],k,x,h=>by simp at h
 | y :: l,0,x,h=>by
  cases h
  exact⟨rfl,rfl⟩
 | y :: l,k+1,x,h=>by
  have h':l[k]?=some x:=by simpa using h
  have e:J3S (y :: l)=.string y.1 :: .bool y.2 :: J3S l:=rfl
  obtain⟨a,b⟩:=Jqg h'
  rw[e]
  refine⟨?_,?_⟩
  ·rw[show (k+1)*2=k*2+1+1 by omega]
   exact a
  ·rw[show (k+1)*2+1=k*2+1+1+1 by omega]
   exact b
theorem Jqc {l:List (ByteArray × Bool)} {i:Nat} {x:ByteArray × Bool} (hx:l[i]?=some x) {lo:Nat} {h:SHeap} {v:Value} (hc:J0p lo h v l.length 2 (J3S l)):∃ id p,J0R Tryz.prog 23 v (iv (i:Int))=some (.pointer (some ⟨id,p,none⟩))∧id<h.next∧ld1 (p+1) (h.get id)=some (.bool x.2):=by
 obtain⟨id,p,h1,h2,h3⟩:=J0p.idx hc Tryz.underlying23 sz57 (List.getElem?_eq_some_iff.1 hx).1
 refine⟨id,p,h1,h2,?_⟩
 rw[h3 1 (by decide)]
 exact(Jqg hx).2
section
variable {n N:Nat} {h:SHeap}
end
theorem Jsc {Q:List (ByteArray × Bool)} {lo:Nat} {h:SHeap} {v:Value} (hc:J0p lo h v Q.length 2 (J3S Q)) {m:Int} (h0:0≤m) (h1:m<Q.length):∃ id p,J0R Tryz.prog 23 v (iv m)=some (.pointer (some ⟨id,p,none⟩))∧id<h.next∧ld1 (p+1) (h.get id)=some (.bool (Jsl Q m)):=by
 obtain⟨q,hq⟩:∃ q,Q[m.toNat]?=some q:=⟨_,List.getElem?_eq_getElem (by omega)⟩
 obtain⟨id,p,a,b,c⟩:=Jqc hq hc
 rw[show ((m.toNat:Nat):Int)=m by omega] at a
 refine⟨id,p,a,b,?_⟩
 rw[c]
 unfold Jsl
 rw[hq]
 rfl
section
variable {Q:List (ByteArray × Bool)} {x up:RowN}
theorem Jt8 (h:x.kind=8∨x.kind=17∨x.kind=20):Jse Q x up=Jsl Q x.n:=by
 unfold Jse
 rw[if_pos (by rcases h with h | h | h <;> rw[h] <;> rfl)]
theorem Jty (h:x.kind=9∨x.kind=21):Jse Q x up = !(Jsl Q x.n):=by
 unfold Jse
 rw[if_neg (by rcases h with h | h <;> rw[h] <;> decide),if_pos (by rcases h with h | h <;> rw[h] <;> rfl)]
theorem JtU (h:x.kind=24) (h2:up.kind=20):Jse Q x up = !(Jsl Q x.n):=by
 unfold Jse
 rw[if_neg (by rw[h];decide),if_neg (by rw[h];decide),if_pos h,if_pos h2]
theorem JtZ (h:x.kind=24) (h2:up.kind≠20):Jse Q x up=(Jsl Q x.n != Jsl Q up.n):=by
 unfold Jse
 rw[if_neg (by rw[h];decide),if_neg (by rw[h];decide),if_pos h,if_neg h2]
theorem Ju8 (h:x.kind≠8∧x.kind≠17∧x.kind≠20∧x.kind≠9∧x.kind≠21∧x.kind≠24):Jse Q x up=false:=by
 obtain⟨h1,h2,h3,h4,h5,h6⟩:=h
 unfold Jse
 rw[if_neg (by simp[h1,h2,h3]),if_neg (by simp[h4,h5]),if_neg h6]
end
theorem Jsj {t:TypeId} {k:Nat} (ht:szOf Tryz.prog t=some k) {H:SHeap} {vs zs:List Value} (hz:zs.length=k) (hl:vs.length=k) (ho:vs.all one=true) (hf:H.floor≤H.next) :
  ∃ H',J0K Tryz.prog (H.push (.row zs t false false)) t (.pointer (some ⟨H.next,0,none⟩)) (.agg vs.toArray)=some H'∧H'.get H.next=.row vs t false false∧H'.next=H.next+1∧H'.floor=H.floor∧∀ i,i<H.next→H'.get i=H.get i:=
 ⟨_,stW ht (J0h (h:=H)) hz hl ho hf,J0b rfl (by show H.next<H.next+1;omega),rfl,rfl,fun i hi=>by rw[J05 (by show H.next<H.next+1;omega) (by omega),J06 hi]⟩
noncomputable def JsO:Array Oper:=J18 Tryz.f30 12
def Jtq:List (Bool × Bool × List Operand):=[(false,true,[]),(false,true,[]),(false,true,[.tmp 44]),(false,true,[.tmp 44]),(false,true,[]),(false,true,[]),(false,true,[]),(false,true,[.tmp 44,.tmp 46,.tmp 49]),(false,true,[.tmp 44,.tmp 46,.tmp 49]),(false,true,[.tmp 44,.tmp 46,.tmp 49,.tmp 51]),(false,true,[.tmp 44,.tmp 46,.tmp 49,.tmp 51]),(false,true,[.tmp 44,.tmp 46,.tmp 49]),(false,true,[.tmp 44,.tmp 46,.tmp 49]),(false,true,[.tmp 44,.tmp 46,.tmp 49]),(false,false,[]),(false,false,[])]
theorem JsU:J1E JsO=Jtq:=by kernel_rfl
section
variable {n N:Nat} {h:SHeap}
set_option maxHeartbeats 16000000 in
theorem JsS {nm:ByteArray} {s:StN} {pv:Value} {lo:Nat} {x up:RowN} (hp:J3x lo h pv nm s) (hx:[8,17,20,9,21,24].contains x.kind=true→0≤x.n∧x.n<s.queues.length) (hu:x.kind=24→up.kind≠20→0≤up.n∧up.n<s.queues.length) :
  ∃ h',J0L Tryz.prog (J0T n) N 30 [pv,rowV x,rowV up] h=some (.bool (Jse s.queues x up),h')∧∀ i,i<h.next→h'.get i=h.get i:=by
 obtain⟨vr,vq,vv,vt,vu,vo,rfl,p1,p2,p3,p4,p5,p6⟩:=id hp
 have hsn:=(J1z n).2
 refine J1N (R:=fun h'=>∀ i,i<h.next→h'.get i=h.get i) Tryz.func30 rfl (by simp[Tryz.f30]) ?_
 have hr:Tryz.f30.results.toList=[.tmp 6]:=rfl
 have ca:(Value.agg #[.string nm,vr,vq,vv,vt,vu,vo,iv s.miss]).cells.toList=[.string nm,vr,vq,vv,vt,vu,vo,iv s.miss]:=rfl
 have oa:=all8 (nm:=nm) p1 p2 p3 p4 p5 p6
 have cx:(rowV x).cells.toList=J0e x:=rfl
 have ox:(J0e x).all one=true:=rfl
 have cu:(rowV up).cells.toList=J0e up:=rfl
 have ou:(J0e up).all one=true:=rfl
 have g0:∀ (a b c:SObj),let A:=((h.push a).push b).push c
   A.get h.next=a∧A.get (h.next+1)=b∧A.get (h.next+2)=c∧A.next=h.next+3∧A.floor=h.floor∧∀ i,i<h.next→A.get i=h.get i:=fun a b c=>
  ⟨by rw[J06 (by show h.next<h.next+2;omega)];exact J4c,by rw[J06 (by show h.next+1<h.next+2;omega)];exact J48,J0h (h:=(h.push a).push b),rfl,rfl,fun i hi=>by rw[J06 (by show i<h.next+2;omega),J06 (by show i<h.next+1;omega),J06 hi]⟩
 obtain⟨gA,gX,gU,nG,fG,gO⟩:=g0 (.row [.string nm,vr,vq,vv,vt,vu,vo,iv s.miss] 27 false false) (.row (J0e x) 60 false false) (.row (J0e up) 60 false false)
 simp only[evC,seval,↓evP,rpD,J0X,J2t,ca,oa,cx,ox,cu,ou,sz30,sz46]
 generalize ((h.push (.row [.string nm,vr,vq,vv,vt,vu,vo,iv s.miss] 27 false false)).push (.row (J0e x) 60 false false)).push (.row (J0e up) 60 false false)=G at *
 have nn:h.next+1+1=h.next+2:=rfl
 obtain⟨a0,a1,a2,a3,a4,a5,a6,a7⟩:=box8 gA
 have x0:ld1 0 (G.get (h.next+1))=some (iv x.kind):=by rw[gX];rfl
 have x3:ld1 3 (G.get (h.next+1))=some (iv x.n):=by rw[gX];rfl
 have u0:ld1 0 (G.get (h.next+2))=some (iv up.kind):=by rw[gU];rfl
 have u3:ld1 3 (G.get (h.next+2))=some (iv up.n):=by rw[gU];rfl
 have pq:J0p lo G vq s.queues.length 2 (J3S s.queues):=p2.mono (by omega) fun i _ hi=>gO i hi
 cases c8:(x.kind==8) with
 | true=>
  have k:=beq_iff_eq.1 c8
  obtain⟨h1,h2⟩:=hx (by rw[k];rfl)
  obtain⟨id,p,e1,e2,e3⟩:=Jsc pq h1 h2
  rw[Jt8 (.inl k)]
  simp only[evC,seval,↓evP,hr,nn,Nat.zero_add,J0t,J0O,J0m,J0B,J0S,JiN,J1V,a2,x0,x3,u0,u3,c8,e1,e3]
  exact gO
 | false=>
 cases c17:(x.kind==17) with
 | true=>
  have k:=beq_iff_eq.1 c17
  obtain⟨h1,h2⟩:=hx (by rw[k];rfl)
  obtain⟨id,p,e1,e2,e3⟩:=Jsc pq h1 h2
  rw[Jt8 (.inr (.inl k))]
  simp only[evC,seval,↓evP,hr,nn,Nat.zero_add,J0t,J0O,J0m,J0B,J0S,JiN,J1V,a2,x0,x3,u0,u3,c8,c17,e1,e3]
  exact gO
 | false=>
 cases c20:(x.kind==20) with
 | true=>
  have k:=beq_iff_eq.1 c20
  obtain⟨h1,h2⟩:=hx (by rw[k];rfl)
  obtain⟨id,p,e1,e2,e3⟩:=Jsc pq h1 h2
  rw[Jt8 (.inr (.inr k))]
  simp only[evC,seval,↓evP,hr,nn,Nat.zero_add,J0t,J0O,J0m,J0B,J0S,JiN,J1V,a2,x0,x3,u0,u3,c8,c17,c20,e1,e3]
  exact gO
 | false=>
 cases c9:(x.kind==9) with
 | true=>
  have k:=beq_iff_eq.1 c9
  obtain⟨h1,h2⟩:=hx (by rw[k];rfl)
  obtain⟨id,p,e1,e2,e3⟩:=Jsc pq h1 h2
  rw[Jty (.inl k)]
  simp only[evC,seval,↓evP,hr,nn,Nat.zero_add,J0t,J0O,J0m,J0B,J0S,JiN,J1V,a2,x0,x3,u0,u3,c8,c17,c20,c9,e1,e3]
  exact gO
 | false=>
 cases c21:(x.kind==21) with
 | true=>
  have k:=beq_iff_eq.1 c21
  obtain⟨h1,h2⟩:=hx (by rw[k];rfl)
  obtain⟨id,p,e1,e2,e3⟩:=Jsc pq h1 h2
  rw[Jty (.inr k)]
  simp only[evC,seval,↓evP,hr,nn,Nat.zero_add,J0t,J0O,J0m,J0B,J0S,JiN,J1V,a2,x0,x3,u0,u3,c8,c17,c20,c9,c21,e1,e3]
  exact gO
 | false=>
 cases c24:(x.kind==24) with
 | false=>
  simp only[beq_eq_false_iff_ne] at c8 c17 c20 c9 c21 c24
  rw[Ju8 ⟨c8,c17,c20,c9,c21,c24⟩]
  rw[← beq_eq_false_iff_ne] at c8 c17 c20 c9 c21 c24
  simp only[evC,seval,↓evP,hr,nn,Nat.zero_add,J0t,J0O,J0m,J0B,J0S,JiN,J1V,a2,x0,x3,u0,u3,c8,c17,c20,c9,c21,c24]
  exact gO
 | true=>
 have k:=beq_iff_eq.1 c24
 obtain⟨h1,h2⟩:=hx (by rw[k];rfl)
 obtain⟨id,p,e1,e2,e3⟩:=Jsc pq h1 h2
 cases cu20:(up.kind==20) with
 | true=>
  rw[JtU k (beq_iff_eq.1 cu20)]
  simp only[evC,seval,↓evP,hr,nn,Nat.zero_add,J0t,J0O,J0m,J0B,J0S,JiN,J1V,a2,x0,x3,u0,u3,c8,c17,c20,c9,c21,c24,cu20,e1,e3]
  exact gO
 | false=>
 have ku:up.kind≠20:=by simpa using cu20
 obtain⟨h3,h4⟩:=hu k ku
 obtain⟨id2,p2',e4,e5,e6⟩:=Jsc pq h3 h4
 rw[JtZ k ku]
 simp only[evC,seval,↓evP,nn,Nat.zero_add,J0t,J0O,J0m,J0B,J0S,JiN,J1V,a2,x0,x3,u0,u3,c8,c17,c20,c9,c21,c24,cu20]
 refine WK.flags (ops:=JsO) JsU ?_
 refine WKF.begin ?_
 have FF:=aQ @JcC (aQ @J0B (aQ @J0S (aQ @a2 (aQ @J0O (aQ @J0m (aQ @x3 (aQ @u3 (aQ @e1 (aQ @e3 (aQ @e4 (aQ @e6 (aQ @JiN (aQ @J1V (aQ @Ji4 (aQ @JiM (aQ @J1g (aQ @J0J (aQ @Jk2 @J6L))))))))))))))))))
 refine wst hsn 0 (some 44) (.fieldAddr 27 (.tmp 3) 2) none ?_
 simp only[rgC,seval,J04,J02,WKFC,Nat.zero_add,FF]
 refine wst hsn 1 (some 45) (.load 23 (.tmp 44)) none ?_
 simp only[rgC,seval,J04,J02,WKFC,rgL,FF]
 refine wst hsn 2 (some 46) (.fieldAddr 60 (.tmp 4) 3) none ?_
 simp only[rgC,seval,J04,J02,WKFC,Nat.zero_add,FF]
 refine wst hsn 3 (some 47) (.load 3 (.tmp 46)) none ?_
 simp only[rgC,seval,J04,J02,WKFC,rgL,FF]
 refine wst hsn 4 (some 48) (.indexAddr 23 (.tmp 45) (.tmp 47)) none ?_
 simp only[rgC,seval,J04,J02,WKFC,Nat.zero_add,FF]
 refine wst hsn 5 (some 49) (.fieldAddr 75 (.tmp 48) 1) none ?_
 simp only[rgC,seval,J04,J02,WKFC,Nat.zero_add,FF]
 refine wst hsn 6 (some 50) (.load 4 (.tmp 49)) none ?_
 simp only[rgC,seval,J04,J02,WKFC,rgL,FF]
 refine wst hsn 7 (some 51) (.fieldAddr 27 (.tmp 3) 2) none ?_
 simp only[rgC,seval,J04,J02,WKFC,Nat.zero_add,FF]
 refine wst hsn 8 (some 52) (.load 23 (.tmp 51)) none ?_
 simp only[rgC,seval,J04,J02,WKFC,rgL,FF]
 refine wst hsn 9 (some 53) (.fieldAddr 60 (.tmp 5) 3) none ?_
 simp only[rgC,seval,J04,J02,WKFC,Nat.zero_add,FF]
 refine wst hsn 10 (some 54) (.load 3 (.tmp 53)) none ?_
 simp only[rgC,seval,J04,J02,WKFC,rgL,FF]
 refine wst hsn 11 (some 55) (.indexAddr 23 (.tmp 52) (.tmp 54)) none ?_
 simp only[rgC,seval,J04,J02,WKFC,Nat.zero_add,FF]
 refine wst hsn 12 (some 56) (.fieldAddr 75 (.tmp 55) 1) none ?_
 simp only[rgC,seval,J04,J02,WKFC,Nat.zero_add,FF]
 refine wst hsn 13 (some 57) (.load 4 (.tmp 56)) none ?_
 simp only[rgC,seval,J04,J02,WKFC,rgL,FF]
 refine wst hsn 14 (some 58) (.binOp .neq 4 (.tmp 50) (.tmp 57) 4) none ?_
 simp only[rgC,seval,J04,J02,WKFC,rgB,FF]
 refine wst hsn 15 (some 6) (.assign (.tmp 58)) none ?_
 simp only[rgC,seval,J04,J02,WKFC,FF]
 refine WKF.done (i:=16) (by kernel_rfl) ?_
 clear FF
 simp only[evC,seval,↓evP,hr]
 exact gO
theorem JtC {nm:ByteArray} {s:StN} {pv:Value} {lo:Nat} {x up:RowN} (hp:J3x lo h pv nm s) (hx:[8,17,20,9,21,24].contains x.kind=true→0≤x.n∧x.n<s.queues.length) (hu:x.kind=24→up.kind≠20→0≤up.n∧up.n<s.queues.length) (hn:0<n):J0T n 30 [pv,rowV x,rowV up] h=some (.bool (Jse s.queues x up),h):=by
 obtain⟨n,rfl⟩:∃ j,n=j+1:=⟨n-1,by omega⟩
 exact J4r (J13 ⟨rfl,rfl,rfl⟩) rfl (JsS (n:=n) (N:=n) hp hx hu)
end
noncomputable def JsM:Array Oper:=J18 Tryz.f38 14
def Jtu:List (Bool × Bool × List Operand):=[(false,true,[]),(false,true,[]),(false,true,[.tmp 55]),(false,true,[.tmp 55]),(false,true,[]),(false,true,[]),(false,true,[]),(false,true,[.tmp 55,.tmp 57,.tmp 60]),(false,true,[.tmp 55,.tmp 57,.tmp 60]),(false,true,[.tmp 55,.tmp 57,.tmp 60,.tmp 62]),(false,true,[.tmp 55,.tmp 57,.tmp 60,.tmp 62]),(false,true,[.tmp 55,.tmp 57,.tmp 60]),(false,true,[.tmp 55,.tmp 57,.tmp 60]),(false,true,[.tmp 55,.tmp 57,.tmp 60]),(false,false,[]),(false,false,[])]
theorem JsT:J1E JsM=Jtu:=by kernel_rfl
section
variable {n N:Nat} {h:SHeap}
set_option maxHeartbeats 16000000 in
theorem JsV {nm:ByteArray} {s:StN} {pv:Value} {lo:Nat} {x up:RowN} (hp:J3x lo h pv nm s) {a:Nat} (hxa:s.rows[a]?=some x) (hua:x.kind=24→s.rows[a-1]?=some up∧0<a) (hla:s.rows.length<900000000) (hx:[8,17,20,9,21,24].contains x.kind=true→0≤x.n∧x.n<s.queues.length) (hu:x.kind=24→up.kind≠20→0≤up.n∧up.n<s.queues.length) (hfl:h.floor≤h.next) :
  ∃ h',J0L Tryz.prog (J0T n) N 38 [pv,iv (a:Int)] h=some (.bool (Jse s.queues x up),h')∧∀ i,i<h.next→h'.get i=h.get i:=by
 obtain⟨vr,vq,vv,vt,vu,vo,rfl,p1,p2,p3,p4,p5,p6⟩:=id hp
 have hsn:=(J1z n).2
 refine J1N (R:=fun h'=>∀ i,i<h.next→h'.get i=h.get i) Tryz.func38 rfl (by simp[Tryz.f38]) ?_
 have hr:Tryz.f38.results.toList=[.tmp 4]:=rfl
 have ca:(Value.agg #[.string nm,vr,vq,vv,vt,vu,vo,iv s.miss]).cells.toList=[.string nm,vr,vq,vv,vt,vu,vo,iv s.miss]:=rfl
 have oa:=all8 (nm:=nm) p1 p2 p3 p4 p5 p6
 have g0:∀ (a:SObj),(h.push a).get h.next=a∧(h.push a).next=h.next+1∧(h.push a).floor=h.floor∧∀ i,i<h.next→(h.push a).get i=h.get i:=fun a=>⟨J0h,rfl,rfl,fun i hi=>J06 hi⟩
 obtain⟨gA0,nG0,fG0,gO0⟩:=g0 (.row [.string nm,vr,vq,vv,vt,vu,vo,iv s.miss] 27 false false)
 simp only[evC,seval,↓evP,rpD,J0X,J2t,ca,oa,sz30]
 generalize h.push (.row [.string nm,vr,vq,vv,vt,vu,vo,iv s.miss] 27 false false)=B at *
 have hvB:J0l B vr s.rows:=p1.1.mono (by omega) gO0
 obtain⟨ia,pa,ea,ha,_,_,_,_,_,la⟩:=hvB.row hxa
 obtain⟨G,stG,gX,nG,fG,oG⟩:=Jsj (t:=60) sz46 (H:=B) (zs:=J0e zRow) (vs:=J0e x) rfl rfl rfl (by omega)
 have stG':J0K Tryz.prog (B.push (.row (J0e zRow) 60 false false)) 60 (.pointer (some ⟨B.next,0,none⟩)) (rowV x)=some G:=stG
 obtain⟨b0,b1,b2,b3,b4,b5,b6,b7⟩:=box8 gA0
 have gA:G.get h.next=.row [.string nm,vr,vq,vv,vt,vu,vo,iv s.miss] 27 false false:=by rw[oG _ (by omega)];exact gA0
 obtain⟨a0,a1,a2,a3,a4,a5,a6,a7⟩:=box8 gA
 have x0:ld1 0 (G.get B.next)=some (iv x.kind):=by rw[gX];rfl
 have x3:ld1 3 (G.get B.next)=some (iv x.n):=by rw[gX];rfl
 have gO:∀ i,i<h.next→G.get i=h.get i:=fun i hi=>by rw[oG i (by omega)];exact gO0 i hi
 have pq:J0p lo G vq s.queues.length 2 (J3S s.queues):=p2.mono (by omega) fun i _ hi=>gO i hi
 have zr:(rowV zRow).cells.toList=J0e zRow:=rfl
 have fz:flat (rowV zRow)=true:=rfl
 simp only[evC,seval,↓evP,Nat.zero_add,J0y,J0F,b1,ea,J0u,la,J40,fz,zr,stG']
 cases c8:(x.kind==8) with
 | true=>
  have k:=beq_iff_eq.1 c8
  obtain⟨h1,h2⟩:=hx (by rw[k];rfl)
  obtain⟨id,p,e1,e2,e3⟩:=Jsc pq h1 h2
  rw[Jt8 (.inl k)]
  simp only[evC,seval,↓evP,hr,Nat.zero_add,J0t,J0O,J0m,J0B,J0S,JiN,J1V,a2,x0,x3,c8,e1,e3]
  exact gO
 | false=>
 cases c17:(x.kind==17) with
 | true=>
  have k:=beq_iff_eq.1 c17
  obtain⟨h1,h2⟩:=hx (by rw[k];rfl)
  obtain⟨id,p,e1,e2,e3⟩:=Jsc pq h1 h2
  rw[Jt8 (.inr (.inl k))]
  simp only[evC,seval,↓evP,hr,Nat.zero_add,J0t,J0O,J0m,J0B,J0S,JiN,J1V,a2,x0,x3,c8,c17,e1,e3]
  exact gO
 | false=>
 cases c20:(x.kind==20) with
 | true=>
  have k:=beq_iff_eq.1 c20
  obtain⟨h1,h2⟩:=hx (by rw[k];rfl)
  obtain⟨id,p,e1,e2,e3⟩:=Jsc pq h1 h2
  rw[Jt8 (.inr (.inr k))]
  simp only[evC,seval,↓evP,hr,Nat.zero_add,J0t,J0O,J0m,J0B,J0S,JiN,J1V,a2,x0,x3,c8,c17,c20,e1,e3]
  exact gO
 | false=>
 cases c9:(x.kind==9) with
 | true=>
  have k:=beq_iff_eq.1 c9
  obtain⟨h1,h2⟩:=hx (by rw[k];rfl)
  obtain⟨id,p,e1,e2,e3⟩:=Jsc pq h1 h2
  rw[Jty (.inl k)]
  simp only[evC,seval,↓evP,hr,Nat.zero_add,J0t,J0O,J0m,J0B,J0S,JiN,J1V,a2,x0,x3,c8,c17,c20,c9,e1,e3]
  exact gO
 | false=>
 cases c21:(x.kind==21) with
 | true=>
  have k:=beq_iff_eq.1 c21
  obtain⟨h1,h2⟩:=hx (by rw[k];rfl)
  obtain⟨id,p,e1,e2,e3⟩:=Jsc pq h1 h2
  rw[Jty (.inr k)]
  simp only[evC,seval,↓evP,hr,Nat.zero_add,J0t,J0O,J0m,J0B,J0S,JiN,J1V,a2,x0,x3,c8,c17,c20,c9,c21,e1,e3]
  exact gO
 | false=>
 cases c24:(x.kind==24) with
 | false=>
  simp only[beq_eq_false_iff_ne] at c8 c17 c20 c9 c21 c24
  rw[Ju8 ⟨c8,c17,c20,c9,c21,c24⟩]
  rw[← beq_eq_false_iff_ne] at c8 c17 c20 c9 c21 c24
  simp only[evC,seval,↓evP,hr,Nat.zero_add,J0t,J0O,J0m,J0B,J0S,JiN,J1V,a2,x0,x3,c8,c17,c20,c9,c21,c24]
  exact gO
 | true=>
 have k:=beq_iff_eq.1 c24
 obtain⟨h1,h2⟩:=hx (by rw[k];rfl)
 obtain⟨hua1,hua2⟩:=hua k
 have al:=(List.getElem?_eq_some_iff.1 hua1).1
 have hvG:J0l G vr s.rows:=p1.1.mono (by omega) gO
 obtain⟨iu,pu,eu,_,_,_,_,_,_,lu⟩:=hvG.row hua1
 have wa:IntKind.i64.wrap ((a:Int)-1)=((a-1:Nat):Int):=(J0s (by omega) (by omega)).trans (by omega)
 obtain⟨K,stK,gU,nK,fK,oK⟩:=Jsj (t:=60) sz46 (H:=G) (zs:=J0e zRow) (vs:=J0e up) rfl rfl rfl (by omega)
 have stK':J0K Tryz.prog (G.push (.row (J0e zRow) 60 false false)) 60 (.pointer (some ⟨G.next,0,none⟩)) (rowV up)=some K:=stK
 have u0:ld1 0 (K.get G.next)=some (iv up.kind):=by rw[gU];rfl
 have u3:ld1 3 (K.get G.next)=some (iv up.n):=by rw[gU];rfl
 have kO:∀ i,i<h.next→K.get i=h.get i:=fun i hi=>by rw[oK i (by omega)];exact gO i hi
 have kx3:ld1 3 (K.get B.next)=some (iv x.n):=by rw[oK _ (by omega)];exact x3
 have ka2:ld1 2 (K.get h.next)=some vq:=by rw[oK _ (by omega)];exact a2
 have pqK:J0p lo K vq s.queues.length 2 (J3S s.queues):=p2.mono (by omega) fun i _ hi=>kO i hi
 obtain⟨id,p,e1,e2,e3⟩:=Jsc pqK h1 h2
 cases cu20:(up.kind==20) with
 | true=>
  rw[JtU k (beq_iff_eq.1 cu20)]
  simp only[evC,seval,↓evP,hr,Nat.zero_add,J0t,J0O,J0m,J0B,J0S,JiN,J1V,a2,x0,x3,c8,c17,c20,c9,c21,c24,J0y,J0F,a1,wa,eu,J0u,lu,J40,fz,zr,stK',u0,cu20,ka2,kx3,e1,e3]
  exact kO
 | false=>
 have ku:up.kind≠20:=by simpa using cu20
 obtain⟨h3,h4⟩:=hu k ku
 obtain⟨id2,p2',e4,e5,e6⟩:=Jsc pqK h3 h4
 rw[JtZ k ku]
 simp only[evC,seval,↓evP,Nat.zero_add,J0t,J0O,J0m,J0B,J0S,JiN,J1V,a2,x0,x3,c8,c17,c20,c9,c21,c24,J0y,J0F,a1,wa,eu,J0u,lu,J40,fz,zr,stK',u0,cu20]
 refine WK.flags (ops:=JsM) JsT ?_
 refine WKF.begin ?_
 have FF:=aQ @JcC (aQ @J0B (aQ @J0S (aQ @ka2 (aQ @J0O (aQ @J0m (aQ @kx3 (aQ @u3 (aQ @e1 (aQ @e3 (aQ @e4 (aQ @e6 (aQ @JiN (aQ @J1V (aQ @Ji4 (aQ @JiM (aQ @J1g (aQ @J0J (aQ @Jk2 @J6L))))))))))))))))))
 refine wst hsn 0 (some 55) (.fieldAddr 27 (.tmp 2) 2) none ?_
 simp only[rgC,seval,J04,J02,WKFC,Nat.zero_add,FF]
 refine wst hsn 1 (some 56) (.load 23 (.tmp 55)) none ?_
 simp only[rgC,seval,J04,J02,WKFC,rgL,FF]
 refine wst hsn 2 (some 57) (.fieldAddr 60 (.tmp 5) 3) none ?_
 simp only[rgC,seval,J04,J02,WKFC,Nat.zero_add,FF]
 refine wst hsn 3 (some 58) (.load 3 (.tmp 57)) none ?_
 simp only[rgC,seval,J04,J02,WKFC,rgL,FF]
 refine wst hsn 4 (some 59) (.indexAddr 23 (.tmp 56) (.tmp 58)) none ?_
 simp only[rgC,seval,J04,J02,WKFC,Nat.zero_add,FF]
 refine wst hsn 5 (some 60) (.fieldAddr 75 (.tmp 59) 1) none ?_
 simp only[rgC,seval,J04,J02,WKFC,Nat.zero_add,FF]
 refine wst hsn 6 (some 61) (.load 4 (.tmp 60)) none ?_
 simp only[rgC,seval,J04,J02,WKFC,rgL,FF]
 refine wst hsn 7 (some 62) (.fieldAddr 27 (.tmp 2) 2) none ?_
 simp only[rgC,seval,J04,J02,WKFC,Nat.zero_add,FF]
 refine wst hsn 8 (some 63) (.load 23 (.tmp 62)) none ?_
 simp only[rgC,seval,J04,J02,WKFC,rgL,FF]
 refine wst hsn 9 (some 64) (.fieldAddr 60 (.tmp 6) 3) none ?_
 simp only[rgC,seval,J04,J02,WKFC,Nat.zero_add,FF]
 refine wst hsn 10 (some 65) (.load 3 (.tmp 64)) none ?_
 simp only[rgC,seval,J04,J02,WKFC,rgL,FF]
 refine wst hsn 11 (some 66) (.indexAddr 23 (.tmp 63) (.tmp 65)) none ?_
 simp only[rgC,seval,J04,J02,WKFC,Nat.zero_add,FF]
 refine wst hsn 12 (some 67) (.fieldAddr 75 (.tmp 66) 1) none ?_
 simp only[rgC,seval,J04,J02,WKFC,Nat.zero_add,FF]
 refine wst hsn 13 (some 68) (.load 4 (.tmp 67)) none ?_
 simp only[rgC,seval,J04,J02,WKFC,rgL,FF]
 refine wst hsn 14 (some 69) (.binOp .neq 4 (.tmp 61) (.tmp 68) 4) none ?_
 simp only[rgC,seval,J04,J02,WKFC,rgB,FF]
 refine wst hsn 15 (some 4) (.assign (.tmp 69)) none ?_
 simp only[rgC,seval,J04,J02,WKFC,FF]
 refine WKF.done (i:=16) (by kernel_rfl) ?_
 clear FF
 simp only[evC,seval,↓evP,hr]
 exact kO
theorem Jtz {nm:ByteArray} {s:StN} {pv:Value} {lo:Nat} {x up:RowN} (hp:J3x lo h pv nm s) {a:Nat} (hxa:s.rows[a]?=some x) (hua:x.kind=24→s.rows[a-1]?=some up∧0<a) (hla:s.rows.length<900000000) (hx:[8,17,20,9,21,24].contains x.kind=true→0≤x.n∧x.n<s.queues.length) (hu:x.kind=24→up.kind≠20→0≤up.n∧up.n<s.queues.length) (hfl:h.floor≤h.next) (hn:0<n):J0T n 38 [pv,iv (a:Int)] h=some (.bool (Jse s.queues x up),h):=by
 obtain⟨n,rfl⟩:∃ j,n=j+1:=⟨n-1,by omega⟩
 exact J4r (J13 ⟨rfl,rfl,rfl⟩) rfl (JsV (n:=n) (N:=n) hp hxa hua hla hx hu hfl)
end
end Go.Proofs.YtdejoodfeljmkaaGreatDoor
