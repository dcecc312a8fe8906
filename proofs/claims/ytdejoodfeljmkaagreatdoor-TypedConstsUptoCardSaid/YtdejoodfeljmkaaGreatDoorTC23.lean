/- Part 23 of what the claim leans on: 7 texts laid one behind another. -/
import Derived.Test.YtdejoodfeljmkaaGreatDoorTC22
namespace Go.Proofs.YtdejoodfeljmkaaGreatDoor
open Go Go.Sx
set_option maxRecDepth 100000
set_option linter.unusedSimpArgs false
set_option linter.unusedVariables false
set_option maxHeartbeats 64000000
section
variable {l:List RowN}
theorem Jun:∀ (r p q:Nat),J35 l r p q→∀ (a b u v:Nat),a<b→(Js9 (endN l) r p)[a]?=some u→(Js9 (endN l) r p)[b]?=some v→endN l u≤v
 | 0,p,q,_,a,b,u,v,_,h,_=>by simp[Js9] at h
 | r+1,p,q,⟨p',s1,s2,s3,s4⟩,a,b,u,v,hab,ha,hb=>by
  have he:=J5P s1
  obtain⟨b,rfl⟩:∃ j,b=j+1:=⟨b-1,by omega⟩
  have hb':(Js9 (endN l) r p')[b]?=some v:=by rw[← he];simpa [Js9] using hb
  cases a with
  | zero=>
   have:p=u:=by simpa [Js9] using ha
   subst this
   rw[he]
   exact JsG _ _ _ s4 v (List.mem_of_getElem? hb')
  | succ a=>
   have ha':(Js9 (endN l) r p')[a]?=some u:=by rw[← he];simpa [Js9] using ha
   exact Jun r p' q s4 a b u v (by omega) ha' hb'
theorem Juv:∀ (r p q:Nat),J35 l r p q→∀ (a u:Nat),(Js9 (endN l) r p)[a]?=some u→u<endN l u∧endN l u≤q
 | 0,p,q,_,a,u,h=>by simp[Js9] at h
 | r+1,p,q,⟨p',s1,s2,s3,s4⟩,a,u,ha=>by
  have he:=J5P s1
  cases a with
  | zero=>
   have:p=u:=by simpa [Js9] using ha
   subst this
   rw[he]
   have:=J2o _ _ _ s4
   exact⟨s2,by omega⟩
  | succ a=>
   have ha':(Js9 (endN l) r p')[a]?=some u:=by rw[← he];simpa [Js9] using ha
   exact Juv r p' q s4 a u ha'
theorem J2c.nest (ht:J2c l) {i j:Nat} (hi:i<l.length) (h1:i≤j) (h2:j<endN l i):endN l j≤endN l i:=by
 obtain⟨q,hq,h3⟩:=SubT.cover l.length (by have:=(ht.end hi).lt;omega) (ht.end hi) j h1 h2
 rw[J5P hq]
 exact h3
theorem JuO {i:Nat} {x:RowN} {first:Int}:∀ (ps:List Nat) (k0 q p:Nat) (s:MkT),ps[q]?=some p→(∀ q',q<q'→ps[q']?≠some p)→(∀ u∈ps,u≠i)→p<s.A.length→p<s.C.length →
  (setL i x first k0 ps s).A[p]?=some (Js8 x.kind (k0+q) first)∧(setL i x first k0 ps s).C[p]?=some (((s.C[i]?).getD false)||Jsn x.kind (k0+q))
 | [],k0,q,p,s,h,_,_,_,_=>by simp at h
 | a :: ps,k0,0,p,s,h,hl,hi,hA,hC=>by
  have:a=p:=by simpa using h
  subst this
  have hn:a∉ps:=fun hm=>by
   obtain⟨j,hj⟩:=List.getElem?_of_mem hm
   exact hl (j+1) (by omega) (by simpa using hj)
  obtain⟨o1,o2,_⟩:=Jsr (i:=i) (x:=x) (first:=first) ps (k0+1) (Jsf i x first s k0 a) a hn
  refine⟨o1.trans ?_,o2.trans ?_⟩
  ·exact List.getElem?_set_self hA
  ·exact List.getElem?_set_self hC
 | a :: ps,k0,q+1,p,s,h,hl,hi,hA,hC=>by
  have h':ps[q]?=some p:=by simpa using h
  have ha:a≠i:=hi a List.mem_cons_self
  have ih:=JuO (i:=i) (x:=x) (first:=first) ps (k0+1) q p (Jsf i x first s k0 a) h' (fun q' hq' hc=>hl (q'+1) (by omega) (by simpa using hc)) (fun u hu=>hi u (List.mem_cons_of_mem _ hu)) (by simpa [Jsf] using hA) (by simpa [Jsf] using hC)
  have hci:(Jsf i x first s k0 a).C[i]?=s.C[i]?:=List.getElem?_set_ne ha
  rw[hci,show k0+1+q=k0+(q+1) by omega] at ih
  exact ih
theorem Jv6 (ht:J2c l) {i k p:Nat} {x:RowN} (hx:l[i]?=some x) (hk:(Js9 (endN l) x.kids.toNat (i+1))[k]?=some p) :
  (Js7 l (endN l) p).A[p]?=some (Js8 x.kind k (typN (((l[i+1]?).map (·.kind)).getD 0)))∧(Js7 l (endN l) p).C[p]?=some ((((Js7 l (endN l) i).C[i]?).getD false)||Jsn x.kind k):=by
 have hil:=(List.getElem?_eq_some_iff.1 hx).1
 have hs:=ht.end hil
 obtain⟨y,hy,_,_,hch⟩:=hs.kids
 rw[hx] at hy
 cases hy
 have hpi:=JsG _ _ _ hch p (List.mem_of_getElem? hk)
 obtain⟨y,hy,_⟩:=ht.kid hx hk
 have hpl:=(List.getElem?_eq_some_iff.1 hy).1
 obtain⟨hin1,hin2⟩:=Juv _ _ _ hch _ _ hk
 have hM:∀ j,i+1≤j→j≤p→(Js7 l (endN l) j).A[p]?=some (Js8 x.kind k (typN (((l[i+1]?).map (·.kind)).getD 0)))∧(Js7 l (endN l) j).C[p]?=some ((((Js7 l (endN l) i).C[i]?).getD false)||Jsn x.kind k):=by
  intro j
  induction j with
  | zero=>intro h;omega
  | succ j ih=>
   intro h1 h2
   rcases Nat.lt_or_ge i j with h3 | h3
   ·obtain⟨e1,e2⟩:=ih (by omega) (by omega)
    have hs1:Js7 l (endN l) (j+1)=Jsq l (endN l) j (Js7 l (endN l) j):=rfl
    rw[hs1]
    unfold Jsq
    cases hw:l[j]? with
    | none=>exact⟨e1,e2⟩
    | some w=>
     simp only
     have hjl:=(List.getElem?_eq_some_iff.1 hw).1
     obtain⟨w',hw',_,_,hcj⟩:=(ht.end hjl).kids
     rw[hw] at hw'
     cases hw'
     obtain⟨jj,p',j1,j2,j3,j4⟩:=Jt7 _ _ _ hch j (by omega) (by omega)
     have hp'l:p'<l.length:=by
      obtain⟨y',hy',_⟩:=ht.kid hx j1
      exact(List.getElem?_eq_some_iff.1 hy').1
     have hjp:endN l j≤p:=by
      have hn:=ht.nest hp'l j3 j4
      rcases Nat.lt_trichotomy jj k with h4 | h4 | h4
      ·have:=Jun _ _ _ hch _ _ _ _ h4 j1 hk
       omega
      ·subst h4
       rw[j1] at hk
       cases hk
       omega
      ·have:=Jun _ _ _ hch _ _ _ _ h4 hk j1
       omega
     have hnp:p∉Js9 (endN l) w.kids.toNat (j+1):=fun hm=>by
      obtain⟨q,hq⟩:=List.getElem?_of_mem hm
      obtain⟨a1,a2⟩:=Juv _ _ _ hcj _ _ hq
      omega
     obtain⟨o1,o2,_⟩:=Jsr (i:=j) (x:=w) (first:=typN (((l[j+1]?).map (·.kind)).getD 0)) _ 0 (Js7 l (endN l) j) p hnp
     exact⟨o1.trans e1,o2.trans e2⟩
   ·obtain rfl:j=i:=by omega
    have hs1:Js7 l (endN l) (j+1)=Jsq l (endN l) j (Js7 l (endN l) j):=rfl
    rw[hs1]
    unfold Jsq
    rw[hx]
    simp only
    obtain⟨m1,m2,_⟩:=Jsk (R:=l) (endN l) j
    have:=JuO (i:=j) (x:=x) (first:=typN (((l[j+1]?).map (·.kind)).getD 0)) _ 0 k p (Js7 l (endN l) j) hk (fun q' hq' hc=>by
     have:=Jun _ _ _ hch _ _ _ _ hq' hk hc
     omega) (fun u hu=>by have:=JsG _ _ _ hch u hu;omega) (by omega) (by omega)
    rw[Nat.zero_add] at this
    exact this
 exact hM p (by omega) (Nat.le_refl _)
end
def Jvb (Z:List RowN) (s:StN):Prop:=∀ (i:Nat) (x:RowN),s.rows[i]?=some x→badN s.rows s.queues (Js7 s.rows (endN Z) i) i x=0
theorem Jvk {R:List RowN} {Q:List (ByteArray × Bool)} {e:Nat→Nat}:∀ (r i:Nat),i+r=R.length→(Jsa R Q e r i).1.1=0→∀ (j:Nat) (x:RowN),i≤j→R[j]?=some x→badN R Q (Js7 R e j) j x=0
 | 0,i,h,_,j,x,h1,hx=>by
  have:=(List.getElem?_eq_some_iff.1 hx).1
  omega
 | r+1,i,h,h0,j,x,h1,hx=>by
  obtain⟨y,hy⟩:∃ y,R[i]?=some y:=⟨_,List.getElem?_eq_getElem (by omega)⟩
  by_cases hb:badN R Q (Js7 R e i) i y=0
  ·rw[JtY hy hb] at h0
   rcases Nat.eq_or_lt_of_le h1 with e1 | e1
   ·subst e1
    rw[hy] at hx
    cases hx
    exact hb
   ·exact Jvk r (i+1) (by omega) h0 j x (by omega) hx
  ·rw[JtJ hy rfl hb] at h0
   exact absurd h0 hb
theorem JuY {R:List RowN} {Q:List (ByteArray × Bool)} {e:Nat→Nat}:∀ (r i:Nat),(Jsa R Q e r i).1.1=0→(Jsa R Q e r i).1=(0,0)
 | 0,i,_=>rfl
 | r+1,i,h=>by
  unfold Jsa at h ⊢
  split
  ·rfl
  ·rename_i y hy
   rw[hy] at h
   simp only at h
   split
   ·rename_i hb
    rw[if_pos hb] at h
    exact absurd h hb
   ·rename_i hb
    rw[if_neg hb] at h
    exact JuY r (i+1) h
theorem JuN {nm:ByteArray} {s:StN} (h:(Jsb nm s).1.1=0):JkA nm s=0∧GoodT (Jk8 s.rows) s∧Jvb (Jk8 s.rows) s∧(Jsb nm s).1=(0,0):=by
 unfold Jsb at h ⊢
 split at h
 ·rename_i hc
  exact absurd h hc
 ·rename_i hc
  have hc0:JkA nm s=0:=by simpa using hc
  rw[if_neg hc]
  exact⟨hc0,JtL hc0,fun i x hx=>Jvk _ _ (by omega) h i x (Nat.zero_le _) hx,JuY _ _ h⟩
section
variable {Z:List RowN} {s:StN}
theorem Jur (hG:GoodT Z s) (hO:Jvb Z s) {i k p:Nat} {x y:RowN} (hx:s.rows[i]?=some x) (hk:(Js9 (endN Z) x.kids.toNat (i+1))[k]?=some p) (hy:s.rows[p]?=some y) :
  (Js8 x.kind k (typN (((s.rows[i+1]?).map (·.kind)).getD 0))≠0→typN y.kind=Js8 x.kind k (typN (((s.rows[i+1]?).map (·.kind)).getD 0)))∧(((((Js7 s.rows (endN Z) i).C[i]?).getD false)||Jsn x.kind k)=true→Jsi y.kind=false)∧(Js7 s.rows (endN Z) p).C[p]?=some ((((Js7 s.rows (endN Z) i).C[i]?).getD false)||Jsn x.kind k):=by
 obtain⟨z,hz,h1,h2⟩:=hG.z hx
 have hk':=hk
 rw[h2] at hk'
 obtain⟨mA,mC⟩:=Jv6 hG.t hz hk'
 have h3:=Jtn hG.kk hG.sk (i+1)
 have h4:(s.rows[i+1]?).map (·.kind)=(Z[i+1]?).map (·.kind):=by
  cases hR:s.rows[i+1]? <;> cases hZ:Z[i+1]? <;> rw[hR,hZ] at h3 <;> simp_all
 rw[← Jso hG.kk hG.sk] at mA
 rw[← Jso hG.kk hG.sk,← Jso hG.kk hG.sk] at mC
 rw[← h1,← h4] at mA
 rw[← h1] at mC
 have hb:=hO p y hy
 refine⟨fun h0=>?_,fun hc=>?_,mC⟩
 ·by_cases h9:typN y.kind=Js8 x.kind k (typN (((s.rows[i+1]?).map (·.kind)).getD 0))
  ·exact h9
  ·rw[Jto mA h0 h9] at hb
   cases hb
 ·rw[hc] at mC
  cases hv:Jsi y.kind with
  | false=>rfl
  | true=>
   by_cases h9:Js8 x.kind k (typN (((s.rows[i+1]?).map (·.kind)).getD 0))≠0∧typN y.kind≠Js8 x.kind k (typN (((s.rows[i+1]?).map (·.kind)).getD 0))
   ·rw[Jto mA h9.1 h9.2] at hb
    cases hb
   ·rw[Jtc mA h9 mC hv] at hb
    cases hb
theorem J2c.kid2 {l:List RowN} {i:Nat} {x:RowN} (ht:J2c l) (hx:l[i]?=some x) (h2:2≤x.kind) {k p:Nat} (hk:(Js9 (endN l) x.kids.toNat (i+1))[k]?=some p):∃ y:RowN,l[p]?=some y∧J1l (J0A x.kind k) y.kind=true:=by
 obtain⟨q,hq⟩:∃ q,SubT l i q:=⟨_,ht.end (List.getElem?_eq_some_iff.1 hx).1⟩
 rcases hq with⟨m,what,h⟩ | ⟨rfl,m,h⟩
 ·cases m with
  | zero=>cases h
  | succ m=>
   unfold rowN at h
   rw[hx] at h
   simp only at h
   split at h
   ·obtain⟨y,h1,h2⟩:=Jti _ _ _ _ h k p hk
    rw[Nat.zero_add] at h2
    exact⟨y,h1,h2⟩
   ·cases h
 ·unfold topN at h
  rw[hx] at h
  simp only at h
  split at h
  ·rename_i hc
   rw[Bool.and_eq_true] at hc
   have h9:=hc.1
   simp[J1l] at h9
   omega
  ·cases h
theorem GoodT.expr (hG:GoodT Z s) {i k p:Nat} {x:RowN} (hx:s.rows[i]?=some x) (h39:39≤x.kind) (hk:(Js9 (endN Z) x.kids.toNat (i+1))[k]?=some p):∃ y:RowN,s.rows[p]?=some y∧27≤y.kind∧y.kind≤54:=by
 obtain⟨z,hz,h1,h2⟩:=hG.z hx
 have hpl:=(hG.kid hx hk).2
 rw[h2] at hk
 obtain⟨w,hw,hs⟩:=hG.t.kid2 hz (by omega) hk
 obtain⟨y,hy⟩:∃ y,s.rows[p]?=some y:=⟨_,List.getElem?_eq_getElem hpl⟩
 obtain⟨w',hw',h3,_⟩:=hG.z hy
 rw[hw] at hw'
 cases hw'
 refine⟨y,hy,?_⟩
 rw[h3]
 have e:J0A z.kind k=7:=by
  unfold J0A
  rw[← h1]
  have c1:x.kind≠11:=by omega
  have c2:([7,8,9,10]:List Int).contains x.kind=false:=by simp;omega
  have c3:x.kind≠12:=by omega
  have c4:x.kind≠13:=by omega
  have c5:x.kind≠15:=by omega
  have c6:([19,20]:List Int).contains x.kind=false:=by simp;omega
  have c7:x.kind≠38:=by omega
  rw[if_neg c1,if_neg (by rw[c2];decide),if_neg c3,if_neg c4,if_neg c5,if_neg (by rw[c6];decide),if_neg c7]
 rw[e] at hs
 unfold J1l at hs
 simpa using hs
theorem Juu {size:Int} {C:List Int} (hG:GoodT Z s) {i:Nat} {x:RowN} (hx:s.rows[i]?=some x) (h2:typN x.kind=2) {v:Int} (h:conN s.rows (endN Z) size C i=some v):v=0∨v=1:=by
 have hop:∀ a b,(unK x.kind=true∨binK x.kind=true)→opN x.kind a b=0∨opN x.kind a b=1:=fun a b hk=>by
  have hr:Jug x.kind=false:=by
   cases h9:Jug x.kind with
   | false=>rfl
   | true=>
    exfalso
    unfold Jug at h9
    simp only[List.contains_cons,List.contains_nil,Bool.or_false,Bool.or_eq_true,beq_iff_eq] at h9
    rcases h9 with h9 | h9 | h9 | h9 | h9 | h9 | h9 <;> (rw[h9] at h2;cases h2)
  unfold opN
  rw[if_neg (by rw[hr];decide)]
  split <;> simp
 rw[Juq hG hx] at h
 split at h
 ·rename_i hu
  cases hc:conN s.rows (endN Z) size C (i+1) with
  | none=>rw[hc] at h;cases h
  | some a=>rw[hc] at h;cases h;exact hop a a (.inl hu)
 split at h
 ·rename_i hb
  split at h
  ·cases h;exact hop _ _ (.inr hb)
  ·cases h
 unfold Jue at h
 split at h
 ·rename_i hk;rw[hk] at h2;cases h2
 split at h
 ·rename_i hk;rw[hk] at h2;cases h2
 split at h
 ·rename_i hk;rw[hk] at h2;cases h2
 split at h
 ·cases h;exact .inr rfl
 split at h
 ·cases h;exact .inl rfl
 ·cases h
theorem GoodT.leaf (hG:GoodT Z s) {i:Nat} {x:RowN} (hx:s.rows[i]?=some x) (hk:[27,28,29,30,31,32,33,34,35,36,37].contains x.kind=true):endN Z i=i+1:=by
 obtain⟨z,hz,h1,h2⟩:=hG.z hx
 obtain⟨k0,hch,_⟩:=hG.kids0 hx
 have hf:=hG.t.fit hz
 unfold fitN at hf
 simp only[Bool.and_eq_true,decide_eq_true_eq,Bool.or_eq_true] at hf
 obtain⟨_,hm⟩:=hf
 rw[← h1,← h2] at hm
 have hk0:x.kids=0:=by
  simp only[List.contains_cons,List.contains_nil,Bool.or_false,Bool.or_eq_true,beq_iff_eq] at hk
  rcases hk with h | h | h | h | h | h | h | h | h | h | h <;> (rw[h] at hm;rcases hm with hm | hm <;> simp[J1r] at hm <;> omega)
 rw[hk0] at hch
 exact hch.symm
theorem Jup {size:Int} {C:List Int} (hG:GoodT Z s):∀ (d i:Nat) (x:RowN),s.rows.length-i≤d→s.rows[i]?=some x→27≤x.kind→((conN s.rows (endN Z) size C i).isSome=true↔∀ (j:Nat) (y:RowN),i≤j→j<endN Z i→s.rows[j]?=some y→Jsi y.kind=false)
 | 0,i,x,hd,hx,_=>by have:=(List.getElem?_eq_some_iff.1 hx).1;omega
 | d + 1,i,x,hd,hx,h27=>by
  have hil:=(List.getElem?_eq_some_iff.1 hx).1
  have h54:=(hG.ks i x hx).2
  obtain⟨k0,hch,hel,hei⟩:=hG.kids0 hx
  rw[Juq hG hx]
  cases hu:unK x.kind with
  | true=>
   have hk:=hG.un hx hu
   have h39:39≤x.kind:=by unfold unK at hu;simp at hu;omega
   obtain⟨y,hy,hy27,_⟩:=hG.expr (k:=0) (p:=i+1) hx h39 (by rw[hk];rfl)
   have ih:=Jup (size:=size) (C:=C) hG d (i+1) y (by omega) hy hy27
   have he:endN Z (i+1)=endN Z i:=by
    rw[hk] at hch
    obtain⟨p',s1,_,_,s4⟩:=hch
    rw[J5P s1]
    exact s4
   have hv:Jsi x.kind=false:=by unfold unK at hu;simp at hu;rcases hu with h | h <;> (rw[h];rfl)
   rw[if_pos rfl,Option.isSome_map,ih,he]
   refine⟨fun h j y' h1 h2 h3=>?_,fun h j y' h1 h2 h3=>h j y' (by omega) h2 h3⟩
   rcases Nat.eq_or_lt_of_le h1 with e | e
   ·subst e
    rw[hx] at h3
    cases h3
    exact hv
   ·exact h j y' (by omega) h2 h3
  | false=>
  rw[if_neg (by decide)]
  cases hb:binK x.kind with
  | true=>
   have hk:=hG.bin hx hb
   have h39:39≤x.kind:=by unfold binK at hb;simp at hb;omega
   obtain⟨y,hy,hy27,_⟩:=hG.expr (k:=0) (p:=i+1) hx h39 (by rw[hk];rfl)
   obtain⟨w,hw,hw27,_⟩:=hG.expr (k:=1) (p:=endN Z (i+1)) hx h39 (by rw[hk];rfl)
   have hk1:=hG.kid1 hx hk
   have ih1:=Jup (size:=size) (C:=C) hG d (i+1) y (by omega) hy hy27
   have ih2:=Jup (size:=size) (C:=C) hG d (endN Z (i+1)) w (by omega) hw hw27
   have he:endN Z (endN Z (i+1))=endN Z i:=by
    rw[hk] at hch
    obtain⟨p',s1,_,_,p2,s5,_,_,s8⟩:=hch
    rw[J5P s1,J5P s5]
    exact s8
   have hlt2:=(hG.kids0 hw).2.2.2
   have hlt1:=(hG.kids0 hy).2.2.2
   have hv:Jsi x.kind=false:=by
    unfold binK at hb
    simp only[List.contains_cons,List.contains_nil,Bool.or_false,Bool.or_eq_true,beq_iff_eq] at hb
    rcases hb with h | h | h | h | h | h | h | h | h | h | h | h | h | h <;> (rw[h];rfl)
   rw[if_pos rfl]
   refine Iff.trans (b:=(conN s.rows (endN Z) size C (i+1)).isSome=true∧(conN s.rows (endN Z) size C (endN Z (i+1))).isSome=true) ?_ ?_
   ·cases conN s.rows (endN Z) size C (i+1) <;> cases conN s.rows (endN Z) size C (endN Z (i+1)) <;> simp
   rw[ih1,ih2,he]
   refine⟨fun h j y' h1 h2 h3=>?_,fun h=>⟨fun j y' h1 h2 h3=>h j y' (by omega) (by omega) h3,fun j y' h1 h2 h3=>h j y' (by omega) h2 h3⟩⟩
   rcases Nat.eq_or_lt_of_le h1 with e | e
   ·subst e
    rw[hx] at h3
    cases h3
    exact hv
   ·rcases Nat.lt_or_ge j (endN Z (i+1)) with h4 | h4
    ·exact h.1 j y' (by omega) h4 h3
    ·exact h.2 j y' h4 h2 h3
  | false=>
   rw[if_neg (by decide)]
   cases hv:Jsi x.kind with
   | true=>
    have e:Jue size C x=none:=by
     unfold Jsi at hv
     simp only[List.contains_cons,List.contains_nil,Bool.or_false,Bool.or_eq_true,beq_iff_eq] at hv
     unfold Jue
     rw[if_neg (by omega),if_neg (by omega),if_neg (by omega),if_neg (by omega),if_neg (by omega)]
    rw[e]
    refine⟨fun h=>(by cases h),fun h=>?_⟩
    have:=h i x (Nat.le_refl _) hei hx
    rw[hv] at this
    cases this
   | false=>
    have hlf:x.kind=27∨x.kind=29∨x.kind=30∨x.kind=32∨x.kind=33:=by
     unfold unK at hu
     unfold binK at hb
     unfold Jsi at hv
     simp only[List.contains_cons,List.contains_nil,Bool.or_false,Bool.or_eq_false_iff,beq_eq_false_iff_ne] at hu hb hv
     omega
    have he:endN Z i=i+1:=hG.leaf hx (by rcases hlf with h | h | h | h | h <;> (rw[h];rfl))
    refine⟨fun _ j y' h1 h2 h3=>?_,fun _=>?_⟩
    ·have:j=i:=by omega
     subst this
     rw[hx] at h3
     cases h3
     exact hv
    ·unfold Jue
     rcases hlf with h | h | h | h | h <;> (rw[h];rfl)
end
def bI (b:Bool):Int:=if b=true then 1 else 0
def twoN (k a b:Int):Int:=if k=39 then (if b<a then b else a) else if k=40 then (if b>a then b else a) else if k=43 then Jud (a*b) else if k=44 then divN a b else if k=45 then Jud (a+b) else if k=46 then Jud (a-b) else if k=47 then bI (a==b) else if k=48 then bI (a != b) else if k=49 then bI (decide (a<b)) else if k=50 then bI (decide (a≤b)) else if k=51 then bI (decide (a>b)) else if k=52 then bI (decide (a≥b)) else if k=53 then a*b else (if b>a then b else a)
theorem JvC {k:Int} (hk:binK k=true):k=39∨k=40∨k=43∨k=44∨k=45∨k=46∨k=47∨k=48∨k=49∨k=50∨k=51∨k=52∨k=53∨k=54:=by
 unfold binK at hk
 simpa using hk
section
variable {a b:Int}
theorem op_r {k:Int} (h:Jug k=true):opN k a b=Jud (rawN k a b):=by unfold opN;rw[if_pos h]
theorem op_h {k:Int} (h:Jug k=false):opN k a b=bI (Jul k a b):=by
 unfold opN bI
 rw[if_neg (by rw[h];decide)]
theorem JvG {k:Int} (hk:binK k=true) (ha:-1073741824≤a∧a≤1073741824) (hb:-1073741824≤b∧b≤1073741824) (hbool:53≤k→(a=0∨a=1)∧(b=0∨b=1)):twoN k a b=opN k a b:=by
 rcases JvC hk with rfl | rfl | rfl | rfl | rfl | rfl | rfl | rfl | rfl | rfl | rfl | rfl | rfl | rfl
 ·rw[op_r rfl]
  have e:rawN 39 a b=if b<a then b else a:=by unfold rawN;simp
  have e2:twoN 39 a b=if b<a then b else a:=by unfold twoN;simp
  rw[e,e2,Juh (by split <;> omega)]
 ·rw[op_r rfl]
  have e:rawN 40 a b=if b>a then b else a:=by unfold rawN;simp
  have e2:twoN 40 a b=if b>a then b else a:=by unfold twoN;simp
  rw[e,e2,Juh (by split <;> omega)]
 ·rw[op_r rfl]
  have e:rawN 43 a b=a*b:=by unfold rawN;simp
  have e2:twoN 43 a b=Jud (a*b):=by unfold twoN;simp
  rw[e,e2]
 ·rw[op_r rfl]
  have e:rawN 44 a b=divN a b:=by unfold rawN;simp
  have e2:twoN 44 a b=divN a b:=by unfold twoN;simp
  rw[e,e2,Juh]
  unfold divN
  split
  ·omega
  ·exact Juo _
 ·rw[op_r rfl]
  have e:rawN 45 a b=a+b:=by unfold rawN;simp
  have e2:twoN 45 a b=Jud (a+b):=by unfold twoN;simp
  rw[e,e2]
 ·rw[op_r rfl]
  have e:rawN 46 a b=a-b:=by unfold rawN;simp
  have e2:twoN 46 a b=Jud (a-b):=by unfold twoN;simp
  rw[e,e2]
 ·rw[op_h rfl];unfold twoN Jul;simp
 ·rw[op_h rfl];unfold twoN Jul;simp
 ·rw[op_h rfl];unfold twoN Jul;simp
 ·rw[op_h rfl];unfold twoN Jul;simp
 ·rw[op_h rfl];unfold twoN Jul;simp
 ·rw[op_h rfl];unfold twoN Jul;simp
 ·obtain⟨h1,h2⟩:=hbool (by decide)
  rw[op_h rfl]
  rcases h1 with rfl | rfl <;> rcases h2 with rfl | rfl <;> simp[twoN,Jul,bI]
 ·obtain⟨h1,h2⟩:=hbool (by decide)
  rw[op_h rfl]
  rcases h1 with rfl | rfl <;> rcases h2 with rfl | rfl <;> simp[twoN,Jul,bI]
end
section
variable {n N:Nat} {h:SHeap}
theorem Jvu {b:Bool} (hn:0<n):J0T n 108 [.bool b] h=some (iv (bI b),h):=by
 obtain⟨n,rfl⟩:∃ j,n=j+1:=⟨n-1,by omega⟩
 refine J6r (J13 ⟨rfl,rfl,rfl⟩) rfl ?_
 refine J1m Tryz.func108 rfl (by simp[Tryz.f108]) ?_
 have hr:Tryz.f108.results.toList=[.tmp 2]:=rfl
 cases b with
 | true=>simp only[evC,seval,↓evP,hr,bI]
 | false=>simp only[evC,seval,↓evP,hr,bI]
theorem Jvi {k a b:Int} (hk:binK k=true) (ha:-1073741824≤a∧a≤1073741824) (hb:-1073741824≤b∧b≤1073741824) (hn:3<n):J0L Tryz.prog (J0T n) N 69 [iv k,iv a,iv b] h=some (iv (twoN k a b),h):=by
 refine J1m Tryz.func69 rfl (by simp[Tryz.f69]) ?_
 have hr:Tryz.f69.results.toList=[.tmp 6]:=rfl
 have hm:=Jut ha hb
 have wm:IntKind.i64.wrap (a*b)=a*b:=J0s (by omega) (by omega)
 have wa:IntKind.i64.wrap (a+b)=a+b:=J0s (by omega) (by omega)
 have ws:IntKind.i64.wrap (a-b)=a-b:=J0s (by omega) (by omega)
 have hc:=fun x=>JuL (n:=n) (h:=h) (x:=x) (by omega)
 have hd:=JvB (n:=n) (h:=h) (a:=a) (b:=b) ⟨by omega,by omega⟩ ⟨by omega,by omega⟩ (by omega)
 have ht:=fun x=>Jvu (n:=n) (h:=h) (b:=x) (by omega)
 rcases JvC hk with rfl | rfl | rfl | rfl | rfl | rfl | rfl | rfl | rfl | rfl | rfl | rfl | rfl | rfl
 ·rw[show twoN 39 a b=if b<a then b else a by unfold twoN;simp]
  simp only[evC,seval,↓evP,Int.reduceBEq,hr,wm,wa,ws,hc,hd,ht]
 ·rw[show twoN 40 a b=if b>a then b else a by unfold twoN;simp]
  simp only[evC,seval,↓evP,Int.reduceBEq,hr,wm,wa,ws,hc,hd,ht]
 ·rw[show twoN 43 a b=Jud (a*b) by unfold twoN;simp]
  simp only[evC,seval,↓evP,Int.reduceBEq,hr,wm,wa,ws,hc,hd,ht]
 ·rw[show twoN 44 a b=divN a b by unfold twoN;simp]
  simp only[evC,seval,↓evP,Int.reduceBEq,hr,wm,wa,ws,hc,hd,ht]
 ·rw[show twoN 45 a b=Jud (a+b) by unfold twoN;simp]
  simp only[evC,seval,↓evP,Int.reduceBEq,hr,wm,wa,ws,hc,hd,ht]
 ·rw[show twoN 46 a b=Jud (a-b) by unfold twoN;simp]
  simp only[evC,seval,↓evP,Int.reduceBEq,hr,wm,wa,ws,hc,hd,ht]
 ·rw[show twoN 47 a b=bI (a==b) by unfold twoN;simp]
  simp only[evC,seval,↓evP,Int.reduceBEq,hr,wm,wa,ws,hc,hd,ht]
 ·rw[show twoN 48 a b=bI (a != b) by unfold twoN;simp]
  simp only[evC,seval,↓evP,Int.reduceBEq,hr,wm,wa,ws,hc,hd,ht]
 ·rw[show twoN 49 a b=bI (decide (a<b)) by unfold twoN;simp]
  simp only[evC,seval,↓evP,Int.reduceBEq,hr,wm,wa,ws,hc,hd,ht]
 ·rw[show twoN 50 a b=bI (decide (a≤b)) by unfold twoN;simp]
  simp only[evC,seval,↓evP,Int.reduceBEq,hr,wm,wa,ws,hc,hd,ht]
 ·rw[show twoN 51 a b=bI (decide (a>b)) by unfold twoN;simp]
  simp only[evC,seval,↓evP,Int.reduceBEq,hr,wm,wa,ws,hc,hd,ht]
 ·rw[show twoN 52 a b=bI (decide (a≥b)) by unfold twoN;simp]
  simp only[evC,seval,↓evP,Int.reduceBEq,hr,wm,wa,ws,hc,hd,ht]
 ·rw[show twoN 53 a b=a*b by unfold twoN;simp]
  simp only[evC,seval,↓evP,Int.reduceBEq,hr,wm,wa,ws,hc,hd,ht]
 ·rw[show twoN 54 a b=if b>a then b else a by unfold twoN;simp]
  simp only[evC,seval,↓evP,Int.reduceBEq,hr,wm,wa,ws,hc,hd,ht]
theorem JvQ {k a b:Int} (hk:binK k=true) (ha:-1073741824≤a∧a≤1073741824) (hb:-1073741824≤b∧b≤1073741824) (hn:4<n):J0T n 69 [iv k,iv a,iv b] h=some (iv (twoN k a b),h):=by
 obtain⟨n,rfl⟩:∃ j,n=j+1:=⟨n-1,by omega⟩
 exact J6r (J13 ⟨rfl,rfl,rfl⟩) rfl (Jvi (n:=n) (N:=n) hk ha hb (by omega))
end
section
variable {call:J0r} {N:Nat} {h:SHeap}
theorem Jta {Z L:List RowN} {v:Value} {at_ q:Nat} (hsk:Jkk L Z) (hv:J0l h v L) (hs:SubT Z at_ q) (hlen:L.length<1099511627776) (hN:L.length+3<N) :
  J0L Tryz.prog call N 44 [v,iv at_] h=some (iv q,h):=by
 refine J1m Tryz.func44 rfl (by simp[Tryz.f44]) ?_
 have hr:Tryz.f44.results.toList=[.tmp 4]:=rfl
 have hq:=hs.lt
 have hZ:=hsk.1
 simp only[evC,seval,↓evP,rpC,hr]
 refine WK.loop (fun i s'=>s'.h=h∧s'.T.get 0=v∧s'.T.get 1=iv ((at_+i:Nat):Int)∧∃ r:Nat,s'.T.get 5=iv r∧J35 Z r (at_+i) q) (q-at_) (by omega) ?_ ?_
 ·exact⟨rfl,by simp only[evC,seval,↓evP,rpC],by simp only[evC,seval,↓evP,rpC,Nat.add_zero],1,by simp only[evC,seval,↓evP,rpC],q,hs,hq.1,hq.2,rfl⟩
 rintro i ⟨T1,H1⟩ hi ⟨rfl,t0,t1,r,t5,hc⟩
 simp only at t0 t1 t5
 cases r with
 | zero=>
  have hpq:at_+i=q:=hc
  have c1:decide (((0:Nat):Int)>0)=false:=rfl
  rw[hpq] at t1
  simp only[evC,seval,↓evP,rpC,hr,t0,t1,t5,c1]
 | succ r=>
  obtain⟨p',h1,h2,h3,h4⟩:=hc
  have hle:=J2o _ _ _ h4
  have c1:decide (((r+1:Nat):Int)>0)=true:=decide_eq_true (by omega)
  obtain⟨x,hx,hk0,_,hch⟩:=h1.kids
  obtain⟨y,hy,hyk⟩:=hsk.2 _ x hx
  obtain⟨id,p,e0,hid,l0,l1,l2,l3,l4,lr⟩:=hv.row hy
  rw[hyk] at l4
  have hcl:=J2o _ _ _ hch
  have w1:IntKind.i64.wrap (((r+1:Nat):Int)-1)=(r:Int):=by rw[J0s (by omega) (by omega)];omega
  have w2:IntKind.i64.wrap ((r:Int)+x.kids)=((x.kids.toNat+r:Nat):Int):=by rw[J0s (by omega) (by omega)];omega
  have w3:IntKind.i64.wrap (((at_+i:Nat):Int)+1)=((at_+(i+1):Nat):Int):=by rw[J0s (by omega) (by omega)];omega
  simp only[evC,seval,↓evP,rpC,t0,t1,t5,c1,e0,l4,w1,w2,w3]
  exact⟨by omega,_,rfl,Jsw _ _ _ _ _ hch h4⟩
theorem Ju1 {n:Nat} {Z L:List RowN} {v:Value} {at_ q:Nat} (hsk:Jkk L Z) (hv:J0l h v L) (hs:SubT Z at_ q) (hlen:L.length<1099511627776) (hn:L.length+5<n) :
  J0T n 44 [v,iv at_] h=some (iv q,h):=by
 obtain⟨n,rfl⟩:∃ j,n=j+1:=⟨n-1,by omega⟩
 exact J6r (J13 ⟨rfl,rfl,rfl⟩) rfl (Jta hsk hv hs hlen (by omega))
theorem Jt2 {n:Nat} {Z L:List RowN} {v:Value} {at_:Nat} {x:RowN} (ht:J2c Z) (hsk:Jkk L Z) (hv:J0l h v L) (hx:Z[at_]?=some x) (hlen:L.length<100000000) (hn:L.length+10<n) (hN:L.length+3<N) (hfl:h.floor≤h.next) :
  ∃ v' h',J0L Tryz.prog (J0T n) N 47 [v,iv at_] h=some (v',h')∧(IntL h' h.next v' ((Js9 (endN Z) x.kids.toNat (at_+1)).map (fun (k:Nat)=>(k:Int)))∧h'.floor=h.floor∧h.next≤h'.next∧∀ i,i<h.next→h'.get i=h.get i):=by
 refine J65 (R:=fun v' h'=>IntL h' h.next v' ((Js9 (endN Z) x.kids.toNat (at_+1)).map (fun (k:Nat)=>(k:Int)))∧h'.floor=h.floor∧h.next≤h'.next∧∀ i,i<h.next→h'.get i=h.get i) Tryz.func47 rfl (by simp[Tryz.f47]) ?_
 have hr:Tryz.f47.results.toList=[.tmp 4]:=rfl
 have hal:=(List.getElem?_eq_some_iff.1 hx).1
 have hZ:=hsk.1
 have hs:=ht.end hal
 obtain⟨x',hx',hk0,_,hch⟩:=hs.kids
 rw[hx] at hx'
 cases hx'
 have hq:=hs.lt
 have hcl:=J2o _ _ _ hch
 obtain⟨y,hy,hyk⟩:=hsk.2 _ x hx
 have w1:IntKind.i64.wrap ((at_:Int)+1)=((at_+1:Nat):Int):=J0s (by omega) (by omega)
 simp only[evC,seval,↓evP,rpC,hr,w1]
 refine WK.loop (fun i s'=>s'.T.get 0=v∧s'.T.get 1=iv (at_:Int)∧s'.T.get 7=iv i∧i≤x.kids.toNat∧h.next≤s'.h.next∧s'.h.floor=h.floor∧(∀ j,j<h.next→s'.h.get j=h.get j)∧∃ p l w,s'.T.get 6=iv ((p:Nat):Int)∧s'.T.get 5=w∧IntL s'.h h.next w (l.map (fun (k:Nat)=>(k:Int)))∧l.length=i∧l++Js9 (endN Z) (x.kids.toNat-i) p=Js9 (endN Z) x.kids.toNat (at_+1)∧J35 Z (x.kids.toNat-i) p (endN Z at_)) x.kids.toNat (by omega) ?_ ?_
 ·exact⟨by simp only[evC,seval,↓evP,rpC],by simp only[evC,seval,↓evP,rpC],by simp only[evC,seval,↓evP,rpC] <;> rfl,by omega,Nat.le_refl _,rfl,fun _ _=>rfl,at_+1,[],Z0,by simp only[evC,seval,↓evP,rpC],by simp only[evC,seval,↓evP,rpC],.inl ⟨rfl,rfl⟩,rfl,rfl,hch⟩
 rintro i ⟨T1,H1⟩ hi ⟨t0,t1,t7,hil,m1,m2,m3,p,l,w,t6,t5,hL,hll,hlk,hc⟩
 simp only at t0 t1 t7 m1 m2 m3 t6 t5 hL
 have hv1:J0l H1 v L:=hv.mono (by omega) m3
 obtain⟨id,pp,e0,hid,l0,l1,l2,l3,l4,lr⟩:=hv1.row hy
 rw[hyk] at l4
 by_cases hlt:i<x.kids.toNat
 ·have d1:decide ((i:Int)<x.kids)=true:=by simp;omega
  obtain⟨r,hr1⟩:∃ r,x.kids.toNat-i=r+1:=⟨x.kids.toNat-i-1,by omega⟩
  rw[hr1] at hc hlk
  obtain⟨p',s1,s2,s3,s4⟩:=hc
  have hle:=J2o _ _ _ s4
  have hep:=J5P s1
  obtain⟨w',H',happ,hL',fH,nH,oH⟩:=JsR (x:=(p:Int)) hL m1 (by omega) (by rw[List.length_map];omega)
  have hvH:J0l H' v L:=hv.mono (by omega) fun j hj=>(oH j hj).trans (m3 j hj)
  have hend:=Ju1 (n:=n) hsk hvH s1 (by omega) (by omega)
  have w2:IntKind.i64.wrap ((i:Int)+1)=((i+1:Nat):Int):=J0s (by omega) (by omega)
  simp only[evC,seval,↓evP,t0,t1,t7,t5,t6,e0,Nat.zero_add,Jhp,J0m,l4,d1,bs28,happ,hend,w2]
  refine⟨hlt,by omega,by omega,by omega,fun j hj=>(oH j hj).trans (m3 j hj),p',l++[p],w',rfl,rfl,?_,by rw[List.length_append,hll];rfl,?_,?_⟩
  ·rw[List.map_append]
   exact hL'
  ·rw[List.append_assoc,← hlk,show x.kids.toNat-(i+1)=r by omega]
   show l++(p :: Js9 (endN Z) r p')=l++(p :: Js9 (endN Z) r (endN Z p))
   rw[hep]
  ·rw[show x.kids.toNat-(i+1)=r by omega]
   exact s4
 ·have d1:decide ((i:Int)<x.kids)=false:=by simp;omega
  rw[show x.kids.toNat-i=0 by omega] at hlk
  have hl9:l=Js9 (endN Z) x.kids.toNat (at_+1):=by
   rw[← hlk]
   exact(List.append_nil l).symm
  subst hl9
  simp only[evC,seval,↓evP,hr,t0,t1,t7,t5,t6,e0,Nat.zero_add,Jhp,J0m,l4,d1]
  exact⟨hL,m2,m1,m3⟩
theorem JtR {n:Nat} {Z L:List RowN} {v:Value} {at_:Nat} {x:RowN} (ht:J2c Z) (hsk:Jkk L Z) (hv:J0l h v L) (hx:Z[at_]?=some x) (hlen:L.length<100000000) (hn:L.length+20<n) (hfl:h.floor≤h.next) :
  ∃ v' h',J0T n 47 [v,iv at_] h=some (v',h')∧(IntL h' h.next v' ((Js9 (endN Z) x.kids.toNat (at_+1)).map (fun (k:Nat)=>(k:Int)))∧h'.floor=h.floor∧h.next≤h'.next∧∀ i,i<h.next→h'.get i=h.get i):=by
 obtain⟨n,rfl⟩:∃ j,n=j+1:=⟨n-1,by omega⟩
 exact k_ex (J13 ⟨rfl,rfl,rfl⟩) (Jt2 (n:=n) (N:=n) ht hsk hv hx hlen (by omega) (by omega) hfl) fun v' h1 hf _ ht=>⟨ht.1.flat hf _ _,rfl,Nat.le_refl _,fun _ _=>rfl⟩
end
def JvA:List (Bool × Bool × List Operand):=[fa1,fa3 [.tmp 3],fa3 [.tmp 3,.tmp 4],fa3 [.tmp 3,.tmp 4],fa3 [.tmp 3,.tmp 4],fa0,fa0]
def JvD:List (Bool × Bool × List Operand):=[fa2,fa2,fa4 [.tmp 57],fa3 [.tmp 57],fa3 [.tmp 57,.tmp 3],fa3 [.tmp 57,.tmp 3,.tmp 4],fa3 [.tmp 57,.tmp 3,.tmp 4],fa3 [.tmp 57,.tmp 3,.tmp 4],fa3 [.tmp 57],fa0,fa0]
section
variable {n N:Nat} {h:SHeap}
theorem JuQ {nm:ByteArray} {s:StN} {Z:List RowN} {pv cv:Value} {lo lc:Nat} {size:Int} {C:List Int} (hG:GoodT Z s) (hO:Jvb Z s) (hF:FitC s size C) (hp:J3x lo h pv nm s) (hc:JpX lc h cv size C) (hl:s.rows.length<9000000) (hfl:h.floor≤h.next) (hn:s.rows.length+60<n) (hN:s.rows.length+40<N)
  {i:Nat} {x:RowN} {v:Int} (hx:s.rows[i]?=some x) (h27:27≤x.kind) (hv:conN s.rows (endN Z) size C i=some v)
  (IH:∀ (p:Nat) (y:RowN) (w:Int) (H:SHeap),i<p→s.rows[p]?=some y→27≤y.kind→conN s.rows (endN Z) size C p=some w→J3x lo H pv nm s→JpX lc H cv size C→H.floor≤H.next→J0T n 45 [pv,cv,iv (p:Int)] H=some (iv w,H)) :
  ∃ h',J0L Tryz.prog (J0T n) N 45 [pv,cv,iv (i:Int)] h=some (iv v,h')∧∀ j,j<h.next→h'.get j=h.get j:=by
 obtain⟨vr,vq,vv,vt,vu,vo,rfl,p1,p2,p3,p4,p5,p6⟩:=id hp
 obtain⟨vc,rfl,pc⟩:=id hc
 have hsn:=(J1z n).2
 refine J1N (R:=fun h'=>∀ j,j<h.next→h'.get j=h.get j) Tryz.func45 rfl (by simp[Tryz.f45]) ?_
 have hr:Tryz.f45.results.toList=[.tmp 6]:=rfl
 have ca:(Value.agg #[.string nm,vr,vq,vv,vt,vu,vo,iv s.miss]).cells.toList=[.string nm,vr,vq,vv,vt,vu,vo,iv s.miss]:=rfl
 have oa:=all8 (nm:=nm) p1 p2 p3 p4 p5 p6
 have cb:(Value.agg #[iv size,vc]).cells.toList=[iv size,vc]:=rfl
 have ob:[iv size,vc].all one=true:=by simp only[List.all_cons,List.all_nil,J0p.one pc,J5K,Bool.and_self]
 have g0:∀ (a b:SObj),let A:=(h.push a).push b
   A.get h.next=a∧A.get (h.next+1)=b∧A.next=h.next+2∧A.floor=h.floor∧∀ i,i<h.next→A.get i=h.get i:=fun a b=>
  ⟨J4c,J48,rfl,rfl,fun i hi=>by rw[J06 (by show i<h.next+1;omega),J06 hi]⟩
 obtain⟨gA,gB,nG,fG,gO⟩:=g0 (.row [.string nm,vr,vq,vv,vt,vu,vo,iv s.miss] 27 false false) (.row [iv size,vc] 39 false false)
 simp only[evC,seval,↓evP,rpD,J0X,J2t,ca,oa,cb,ob,sz30,szCp]
 generalize (h.push (.row [.string nm,vr,vq,vv,vt,vu,vo,iv s.miss] 27 false false)).push (.row [iv size,vc] 39 false false)=Q at *
 have hil:=(List.getElem?_eq_some_iff.1 hx).1
 have hvQ:J0l Q vr s.rows:=p1.1.mono (by omega) gO
 obtain⟨ia,pa,ea,hia,_,_,_,_,_,la⟩:=hvQ.row hx
 have x1:ld1 1 (Q.get h.next)=some vr:=by rw[gA];rfl
 have zr:(rowV zRow).cells.toList=J0e zRow:=rfl
 have fz:flat (rowV zRow)=true:=rfl
 obtain⟨H1,stX,gX,n1,f1,o1⟩:=Jsj (t:=60) sz46 (H:=Q) (zs:=J0e zRow) (vs:=J0e x) rfl rfl rfl (by omega)
 have stX':J0K Tryz.prog (Q.push (.row (J0e zRow) 60 false false)) 60 (qP Q.next 0) (rowV x)=some H1:=stX
 have x11:ld1 1 (H1.get h.next)=some vr:=by rw[o1 _ (by omega)];exact x1
 have hv1:J0l H1 vr s.rows:=p1.1.mono (by omega) fun j hj=>by rw[o1 j (by omega)];exact gO j hj
 obtain⟨zz,hzz,_,hzk⟩:=hG.z hx
 obtain⟨kv,H2,hkids,hkL,f2,n2,o2⟩:=JtR (n:=n) hG.t hG.sk hv1 hzz (by omega) (by omega) (by omega)
 rw[← hzk] at hkL
 have oh:∀ j,j<h.next→H2.get j=h.get j:=fun j hj=>by rw[o2 j (by omega),o1 j (by omega)];exact gO j hj
 have gX2:H2.get Q.next=.row (J0e x) 60 false false:=by rw[o2 _ (by omega)];exact gX
 have y0:ld1 0 (H2.get Q.next)=some (iv x.kind):=by rw[gX2];rfl
 have y3:ld1 3 (H2.get Q.next)=some (iv x.n):=by rw[gX2];rfl
 have gB2:H2.get (h.next+1)=.row [iv size,vc] 39 false false:=by rw[o2 _ (by omega),o1 _ (by omega)];exact gB
 have c0:ld1 0 (H2.get (h.next+1))=some (iv size):=by rw[gB2];rfl
 have c1:ld1 1 (H2.get (h.next+1))=some vc:=by rw[gB2];rfl
 have lC:ldN 2 0 (H2.get (h.next+1))=some (.agg #[iv size,vc]):=by rw[gB2];rfl
 have lP:ldN 8 0 (H2.get h.next)=some (.agg #[.string nm,vr,vq,vv,vt,vu,vo,iv s.miss]):=by rw[o2 _ (by omega),o1 _ (by omega)];exact J9E gA rfl
 have hp2:J3x lo H2 (.agg #[.string nm,vr,vq,vv,vt,vu,vo,iv s.miss]) nm s:=hp.mono (by omega) fun j _ hj=>oh j hj
 have hc2:JpX lc H2 (.agg #[iv size,vc]) size C:=hc.mono (by omega) fun j _ hj=>oh j hj
 have hcq:=Juq (size:=size) (C:=C) hG hx
 rw[hv] at hcq
 cases d27:(x.kind==27) with
 | true=>
  have k:=beq_iff_eq.1 d27
  have e:v=x.n:=by
   rw[if_neg (by rw[k];decide),if_neg (by rw[k];decide)] at hcq
   unfold Jue at hcq
   simp only[k] at hcq
   exact Option.some.inj hcq
  rw[e]
  simp only[evC,seval,↓evP,hr,Nat.zero_add,J0y,J0F,x1,ea,J0u,la,J40,fz,zr,stX',x11,hkids,J0t,y0,J0O,J0m,y3,JpU,JpV,J0n,c0,c1,d27]
  exact oh
 | false=>
 cases d32:(x.kind==32) with
 | true=>
  have k:=beq_iff_eq.1 d32
  have hq:=hG.qn i x hx (by rw[k];rfl)
  have hCl:=hF.len
  obtain⟨cc,hcc⟩:∃ c,C[x.n.toNat]?=some c:=⟨_,List.getElem?_eq_getElem (by omega)⟩
  have pC2:J1S lc H2 vc C:=J1S.mono pc (by omega) fun j _ hj=>oh j hj
  obtain⟨ic,pcc,ec,_,lcc⟩:=J1S.get pC2 hcc
  rw[show ((x.n.toNat:Nat):Int)=x.n by omega] at ec
  have e:v=cc:=by
   rw[if_neg (by rw[k];decide),if_neg (by rw[k];decide)] at hcq
   unfold Jue at hcq
   rw[if_neg (by rw[k];decide),if_neg (by rw[k];decide),if_pos k,hcc] at hcq
   exact Option.some.inj hcq
  rw[e]
  simp only[evC,seval,↓evP,hr,Nat.zero_add,J0y,J0F,x1,ea,J0u,la,J40,fz,zr,stX',x11,hkids,J0t,y0,J0O,J0m,y3,JpU,JpV,J0n,c0,c1,d27,d32,ec,lcc]
  exact oh
 | false=>
 cases d33:(x.kind==33) with
 | true=>
  have k:=beq_iff_eq.1 d33
  have e:v=size:=by
   rw[if_neg (by rw[k];decide),if_neg (by rw[k];decide)] at hcq
   unfold Jue at hcq
   simp only[k] at hcq
   exact Option.some.inj hcq
  rw[e]
  simp only[evC,seval,↓evP,hr,Nat.zero_add,J0y,J0F,x1,ea,J0u,la,J40,fz,zr,stX',x11,hkids,J0t,y0,J0O,J0m,y3,JpU,JpV,J0n,c0,c1,d27,d32,d33]
  exact oh
 | false=>
 cases d29:(x.kind==29) with
 | true=>
  have k:=beq_iff_eq.1 d29
  have e:v=1:=by
   rw[if_neg (by rw[k];decide),if_neg (by rw[k];decide)] at hcq
   unfold Jue at hcq
   simp only[k] at hcq
   exact Option.some.inj hcq
  rw[e]
  simp only[evC,seval,↓evP,hr,Nat.zero_add,J0y,J0F,x1,ea,J0u,la,J40,fz,zr,stX',x11,hkids,J0t,y0,J0O,J0m,y3,JpU,JpV,J0n,c0,c1,d27,d32,d33,d29]
  exact oh
 | false=>
 cases d30:(x.kind==30) with
 | true=>
  have k:=beq_iff_eq.1 d30
  have e:v=0:=by
   rw[if_neg (by rw[k];decide),if_neg (by rw[k];decide)] at hcq
   unfold Jue at hcq
   simp only[k] at hcq
   exact Option.some.inj hcq
  rw[e]
  simp only[evC,seval,↓evP,hr,Nat.zero_add,J0y,J0F,x1,ea,J0u,la,J40,fz,zr,stX',x11,hkids,J0t,y0,J0O,J0m,y3,JpU,JpV,J0n,c0,c1,d27,d32,d33,d29,d30]
  exact oh
 | false=>
 have hop:unK x.kind=true∨binK x.kind=true:=by
  cases hu:unK x.kind with
  | true=>exact .inl rfl
  | false=>
   cases hb:binK x.kind with
   | true=>exact .inr rfl
   | false=>
    rw[if_neg (by rw[hu];decide),if_neg (by rw[hb];decide)] at hcq
    unfold Jue at hcq
    simp only[beq_eq_false_iff_ne] at d27 d32 d33 d29 d30
    rw[if_neg d27,if_neg d33,if_neg d32,if_neg d29,if_neg d30] at hcq
    cases hcq
 have h39:39≤x.kind:=by
  rcases hop with h9 | h9
  ·unfold unK at h9;simp at h9;omega
  ·unfold binK at h9;simp at h9;omega
 have hkp:0<x.kids:=by
  rcases hop with h9 | h9
  ·have:=hG.un hx h9;omega
  ·have:=hG.bin hx h9;omega
 obtain⟨r9,hr9⟩:∃ r,x.kids.toNat=r+1:=⟨x.kids.toNat-1,by omega⟩
 have hk0:(Js9 (endN Z) x.kids.toNat (i+1))[0]?=some (i+1):=by rw[hr9];rfl
 obtain⟨y,hy,hy27,_⟩:=hG.expr (k:=0) hx h39 hk0
 have hkc:J1S 0 H2 kv ((Js9 (endN Z) x.kids.toNat (i+1)).map (fun (k:Nat)=>(k:Int))):=hkL.ints (Nat.zero_le _)
 obtain⟨i0,p0,e0,hi0,l0⟩:=J1S.get hkc (i:=0) (x:=((i+1:Nat):Int)) (by rw[List.getElem?_map,hk0];rfl)
 have e0':J0R Tryz.prog 25 kv (iv 0)=some (qP i0 p0):=e0
 obtain⟨a,hca⟩:∃ a,conN s.rows (endN Z) size C (i+1)=some a:=by
  cases hc9:conN s.rows (endN Z) size C (i+1) with
  | some a=>exact⟨a,rfl⟩
  | none=>
   rw[hc9] at hcq
   split at hcq
   ·cases hcq
   ·split at hcq
    ·cases hcq
    ·rename_i h7 h8
     rcases hop with h9 | h9
     ·exact absurd h9 h7
     ·exact absurd h9 h8
 have hiy:=(List.getElem?_eq_some_iff.1 hy).1
 have har:=Juk hG hF hiy hca
 have hva:=IH (i+1) y a H2 (by omega) hy hy27 hca hp2 hc2 (by omega)
 simp only[evC,seval,↓evP,Nat.zero_add,J0y,J0F,x1,ea,J0u,la,J40,fz,zr,stX',x11,hkids,J0t,J0m,y0,d27,d32,d33,d29,d30]
 refine WK.flags (fs:=JvA) (by kernel_rfl) ?_
 unfold JvA
 iterate 7
  refine wcs hsn ?_
  simp only[rgC,seval,J04,J02,WKFC,rgL,rgK,J17,rgS,rgB,JcC,J1b,lP,Jq3,lC,e0',J0m,l0,hva,JiM,J1g,J0J,Jk2,J6L]
 refine JvR ?_
 cases d41:(x.kind==41) with
 | true=>
  have k:=beq_iff_eq.1 d41
  have e:v=-a:=by
   rw[if_pos (by rw[k];rfl),hca,k] at hcq
   have:v=opN 41 a a:=Option.some.inj hcq
   rw[this]
   show Jud (-a)=-a
   exact Juh (by omega)
  have w:IntKind.i64.wrap (0-a)=-a:=by rw[J0s (by omega) (by omega)];omega
  rw[e]
  simp only[evC,seval,↓evP,hr,Nat.zero_add,J0t,J0m,y0,d41,w]
  exact oh
 | false=>
 cases d42:(x.kind==42) with
 | true=>
  have k:=beq_iff_eq.1 d42
  have hty:=(Jur hG hO hx hk0 hy).1
  rw[k] at hty
  have ask:∀ f,Js8 42 0 f=2:=fun f=>rfl
  rw[ask] at hty
  have hb:=Juu (size:=size) (C:=C) hG hy (hty (by decide)) hca
  have e:v=1-a:=by
   rw[if_pos (by rw[k];rfl),hca,k] at hcq
   have:v=opN 42 a a:=Option.some.inj hcq
   rw[this]
   rcases hb with h9 | h9 <;> (rw[h9];rfl)
  have w:IntKind.i64.wrap (1-a)=1-a:=J0s (by omega) (by omega)
  rw[e]
  simp only[evC,seval,↓evP,hr,Nat.zero_add,J0t,J0m,y0,d41,d42,w]
  exact oh
 | false=>
 have hbn:binK x.kind=true:=by
  rcases hop with h9 | h9
  ·unfold unK at h9
   simp only[beq_eq_false_iff_ne] at d41 d42
   simp[d41,d42] at h9
  ·exact h9
 have hun:unK x.kind=false:=by
  simp only[beq_eq_false_iff_ne] at d41 d42
  unfold unK
  simp[d41,d42]
 have hk2:=hG.bin hx hbn
 have hk1:(Js9 (endN Z) x.kids.toNat (i+1))[1]?=some (endN Z (i+1)):=by rw[hk2];rfl
 obtain⟨w,hw,hw27,_⟩:=hG.expr (k:=1) hx h39 hk1
 have hkid1:=hG.kid1 hx hk2
 obtain⟨i1,q1,e1,hi1,l1⟩:=J1S.get hkc (i:=1) (x:=((endN Z (i+1):Nat):Int)) (by rw[List.getElem?_map,hk1];rfl)
 have e1':J0R Tryz.prog 25 kv (iv 1)=some (qP i1 q1):=e1
 rw[if_neg (by rw[hun];decide),if_pos hbn,hca] at hcq
 obtain⟨b,hcb⟩:∃ b,conN s.rows (endN Z) size C (endN Z (i+1))=some b:=by
  cases hc9:conN s.rows (endN Z) size C (endN Z (i+1)) with
  | some b=>exact⟨b,rfl⟩
  | none=>rw[hc9] at hcq;cases hcq
 rw[hcb] at hcq
 have hbr:=Juk hG hF hkid1.2 hcb
 have e:v=twoN x.kind a b:=by
  rw[JvG hbn har hbr fun h53=>?_]
  ·exact Option.some.inj hcq
  ·have h9:=(hG.ks i x hx).2
   have hk53:x.kind=53∨x.kind=54:=by omega
   have ta:=(Jur hG hO hx hk0 hy).1
   have tb:=(Jur hG hO hx hk1 hw).1
   have ask:∀ j f,Js8 x.kind j f=2:=fun j f=>by rcases hk53 with h8 | h8 <;> (rw[h8];rfl)
   rw[ask] at ta tb
   exact⟨Juu (size:=size) (C:=C) hG hy (ta (by decide)) hca,Juu (size:=size) (C:=C) hG hw (tb (by decide)) hcb⟩
 rw[e]
 have hvb:=fun fl (hfl9:fl≤H2.next)=>IH (endN Z (i+1)) w b (H2.fl fl) (by omega) hw hw27 hcb (hp2.mono (Nat.le_refl _) fun j _ _=>rfl) (hc2.mono (Nat.le_refl _) fun j _ _=>rfl) hfl9
 have hvb':=hvb (max H2.floor H2.next) (by omega)
 have htw:=JvQ (n:=n) (h:=H2) hbn har hbr (by omega)
 have hA1:(Q.next<H2.next)=True:=by simp;omega
 simp only[evC,seval,↓evP,Nat.zero_add,J0t,J0m,y0,d41,d42]
 refine WK.flags (fs:=JvD) (by kernel_rfl) ?_
 unfold JvD
 iterate 11
  refine wcs hsn ?_
  simp only[rgC,seval,J04,J02,WKFC,rgL,rgK,J17,rgS,rgB,JcC,J0t,J0m,y0,hA1,J1b,lP,Jq3,lC,e1',l1,hvb',htw,JiM,J1g,J0J,Jk2,J6L]
 refine JvR ?_
 simp only[evC,seval,↓evP,hr]
 exact oh
theorem JuU {nm:ByteArray} {s:StN} {Z:List RowN} {pv cv:Value} {lo lc:Nat} {size:Int} {C:List Int} (hG:GoodT Z s) (hO:Jvb Z s) (hF:FitC s size C) (hl:s.rows.length<9000000):∀ (d n i:Nat) (x:RowN) (v:Int) (h:SHeap),s.rows.length-i≤d→s.rows.length+100+d<n→s.rows[i]?=some x→27≤x.kind→conN s.rows (endN Z) size C i=some v→J3x lo h pv nm s→JpX lc h cv size C→h.floor≤h.next→J0T n 45 [pv,cv,iv (i:Int)] h=some (iv v,h)
 | 0,n,i,x,v,h,hd,_,hx,_,_,_,_,_=>by have:=(List.getElem?_eq_some_iff.1 hx).1;omega
 | d+1,n,i,x,v,h,hd,hn,hx,h27,hv,hp,hc,hfl=>by
  obtain⟨n,rfl⟩:∃ j,n=j+1:=⟨n-1,by omega⟩
  exact J4r (J13 ⟨rfl,rfl,rfl⟩) rfl (JuQ (n:=n) (N:=n) hG hO hF hp hc hl hfl (by omega) (by omega) hx h27 hv fun p y w H hip hy hy27 hw hpH hcH hfH=>JuU hG hO hF hl d n p y w H (by omega) (by omega) hy hy27 hw hpH hcH hfH)
end
section
variable {n N:Nat} {h:SHeap}
theorem Jt4 {R:List RowN} {v:Value} (hv:J0l h v R) {a f j:Nat} {x y:RowN} (hx:R[a]?=some x) (hy:R[f]?=some y) (ky:1≤y.kind∧y.kind≤54) (hn:0<n) :
  J0L Tryz.prog (J0T n) N 64 [v,iv (a:Int),iv (f:Int),iv (j:Int)] h=some (iv (Js8 x.kind j (typN y.kind)),h):=by
 refine J1m Tryz.func64 rfl (by simp[Tryz.f64]) ?_
 have hr:Tryz.f64.results.toList=[.tmp 8]:=rfl
 obtain⟨ia,pa,ea,_,la,_⟩:=hv.row hx
 obtain⟨ib,pb,eb,_,lb,_⟩:=hv.row hy
 have ht:=JtH (n:=n) (h:=h) ky hn
 cases c4:(x.kind==4) with
 | true=>
  have k:=beq_iff_eq.1 c4
  rw[show Js8 x.kind j (typN y.kind)=1 by rw[k];rfl]
  simp only[evC,seval,↓evP,hr,Nat.zero_add,ea,eb,J0t,J0m,la,lb,ht,c4]
 | false=>
 cases c5:(x.kind==5) with
 | true=>
  have k:=beq_iff_eq.1 c5
  rw[show Js8 x.kind j (typN y.kind)=1 by rw[k];rfl]
  simp only[evC,seval,↓evP,hr,Nat.zero_add,ea,eb,J0t,J0m,la,lb,ht,c4,c5]
 | false=>
 cases c14:(x.kind==14) with
 | true=>
  have k:=beq_iff_eq.1 c14
  rw[show Js8 x.kind j (typN y.kind)=1 by rw[k];rfl]
  simp only[evC,seval,↓evP,hr,Nat.zero_add,ea,eb,J0t,J0m,la,lb,ht,c4,c5,c14]
 | false=>
 cases c41:(x.kind==41) with
 | true=>
  have k:=beq_iff_eq.1 c41
  rw[show Js8 x.kind j (typN y.kind)=1 by rw[k];rfl]
  simp only[evC,seval,↓evP,hr,Nat.zero_add,ea,eb,J0t,J0m,la,lb,ht,c4,c5,c14,c41]
 | false=>
 cases c39:(x.kind==39) with
 | true=>
  have k:=beq_iff_eq.1 c39
  rw[show Js8 x.kind j (typN y.kind)=1 by rw[k];rfl]
  simp only[evC,seval,↓evP,hr,Nat.zero_add,ea,eb,J0t,J0m,la,lb,ht,c4,c5,c14,c41,c39]
 | false=>
 cases c40:(x.kind==40) with
 | true=>
  have k:=beq_iff_eq.1 c40
  rw[show Js8 x.kind j (typN y.kind)=1 by rw[k];rfl]
  simp only[evC,seval,↓evP,hr,Nat.zero_add,ea,eb,J0t,J0m,la,lb,ht,c4,c5,c14,c41,c39,c40]
 | false=>
 cases c43:(x.kind==43) with
 | true=>
  have k:=beq_iff_eq.1 c43
  rw[show Js8 x.kind j (typN y.kind)=1 by rw[k];rfl]
  simp only[evC,seval,↓evP,hr,Nat.zero_add,ea,eb,J0t,J0m,la,lb,ht,c4,c5,c14,c41,c39,c40,c43]
 | false=>
 cases c44:(x.kind==44) with
 | true=>
  have k:=beq_iff_eq.1 c44
  rw[show Js8 x.kind j (typN y.kind)=1 by rw[k];rfl]
  simp only[evC,seval,↓evP,hr,Nat.zero_add,ea,eb,J0t,J0m,la,lb,ht,c4,c5,c14,c41,c39,c40,c43,c44]
 | false=>
 cases c45:(x.kind==45) with
 | true=>
  have k:=beq_iff_eq.1 c45
  rw[show Js8 x.kind j (typN y.kind)=1 by rw[k];rfl]
  simp only[evC,seval,↓evP,hr,Nat.zero_add,ea,eb,J0t,J0m,la,lb,ht,c4,c5,c14,c41,c39,c40,c43,c44,c45]
 | false=>
 cases c46:(x.kind==46) with
 | true=>
  have k:=beq_iff_eq.1 c46
  rw[show Js8 x.kind j (typN y.kind)=1 by rw[k];rfl]
  simp only[evC,seval,↓evP,hr,Nat.zero_add,ea,eb,J0t,J0m,la,lb,ht,c4,c5,c14,c41,c39,c40,c43,c44,c45,c46]
 | false=>
 cases c49:(x.kind==49) with
 | true=>
  have k:=beq_iff_eq.1 c49
  rw[show Js8 x.kind j (typN y.kind)=1 by rw[k];rfl]
  simp only[evC,seval,↓evP,hr,Nat.zero_add,ea,eb,J0t,J0m,la,lb,ht,c4,c5,c14,c41,c39,c40,c43,c44,c45,c46,c49]
 | false=>
 cases c50:(x.kind==50) with
 | true=>
  have k:=beq_iff_eq.1 c50
  rw[show Js8 x.kind j (typN y.kind)=1 by rw[k];rfl]
  simp only[evC,seval,↓evP,hr,Nat.zero_add,ea,eb,J0t,J0m,la,lb,ht,c4,c5,c14,c41,c39,c40,c43,c44,c45,c46,c49,c50]
 | false=>
 cases c51:(x.kind==51) with
 | true=>
  have k:=beq_iff_eq.1 c51
  rw[show Js8 x.kind j (typN y.kind)=1 by rw[k];rfl]
  simp only[evC,seval,↓evP,hr,Nat.zero_add,ea,eb,J0t,J0m,la,lb,ht,c4,c5,c14,c41,c39,c40,c43,c44,c45,c46,c49,c50,c51]
 | false=>
 cases c52:(x.kind==52) with
 | true=>
  have k:=beq_iff_eq.1 c52
  rw[show Js8 x.kind j (typN y.kind)=1 by rw[k];rfl]
  simp only[evC,seval,↓evP,hr,Nat.zero_add,ea,eb,J0t,J0m,la,lb,ht,c4,c5,c14,c41,c39,c40,c43,c44,c45,c46,c49,c50,c51,c52]
 | false=>
 cases c6:(x.kind==6) with
 | true=>
  have k:=beq_iff_eq.1 c6
  rw[show Js8 x.kind j (typN y.kind)=2 by rw[k];rfl]
  simp only[evC,seval,↓evP,hr,Nat.zero_add,ea,eb,J0t,J0m,la,lb,ht,c4,c5,c14,c41,c39,c40,c43,c44,c45,c46,c49,c50,c51,c52,c6]
 | false=>
 cases c42:(x.kind==42) with
 | true=>
  have k:=beq_iff_eq.1 c42
  rw[show Js8 x.kind j (typN y.kind)=2 by rw[k];rfl]
  simp only[evC,seval,↓evP,hr,Nat.zero_add,ea,eb,J0t,J0m,la,lb,ht,c4,c5,c14,c41,c39,c40,c43,c44,c45,c46,c49,c50,c51,c52,c6,c42]
 | false=>
 cases c53:(x.kind==53) with
 | true=>
  have k:=beq_iff_eq.1 c53
  rw[show Js8 x.kind j (typN y.kind)=2 by rw[k];rfl]
  simp only[evC,seval,↓evP,hr,Nat.zero_add,ea,eb,J0t,J0m,la,lb,ht,c4,c5,c14,c41,c39,c40,c43,c44,c45,c46,c49,c50,c51,c52,c6,c42,c53]
 | false=>
 cases c54:(x.kind==54) with
 | true=>
  have k:=beq_iff_eq.1 c54
  rw[show Js8 x.kind j (typN y.kind)=2 by rw[k];rfl]
  simp only[evC,seval,↓evP,hr,Nat.zero_add,ea,eb,J0t,J0m,la,lb,ht,c4,c5,c14,c41,c39,c40,c43,c44,c45,c46,c49,c50,c51,c52,c6,c42,c53,c54]
 | false=>
 cases c15:(x.kind==15) with
 | true=>
  have k:=beq_iff_eq.1 c15
  cases j1:((j:Int)==1) with
  | true=>
   have hj:j=1:=by have:=beq_iff_eq.1 j1;omega
   rw[show Js8 x.kind j (typN y.kind)=1 by rw[k,hj];rfl]
   simp only[evC,seval,↓evP,hr,Nat.zero_add,ea,eb,J0t,J0m,la,lb,ht,c4,c5,c14,c41,c39,c40,c43,c44,c45,c46,c49,c50,c51,c52,c6,c42,c53,c54,c15,j1]
  | false=>
  have h1:j≠1:=by simp only[beq_eq_false_iff_ne] at j1;omega
  rw[show Js8 x.kind j (typN y.kind)=0 by rw[k];simp[Js8,h1]]
  simp only[evC,seval,↓evP,hr,Nat.zero_add,ea,eb,J0t,J0m,la,lb,ht,c4,c5,c14,c41,c39,c40,c43,c44,c45,c46,c49,c50,c51,c52,c6,c42,c53,c54,c15,j1]
 | false=>
 cases c12:(x.kind==12) with
 | true=>
  have k:=beq_iff_eq.1 c12
  cases j0:((j:Int)==0) with
  | true=>
   have hj:j=0:=by have:=beq_iff_eq.1 j0;omega
   rw[show Js8 x.kind j (typN y.kind)=2 by rw[k,hj];rfl]
   simp only[evC,seval,↓evP,hr,Nat.zero_add,ea,eb,J0t,J0m,la,lb,ht,c4,c5,c14,c41,c39,c40,c43,c44,c45,c46,c49,c50,c51,c52,c6,c42,c53,c54,c15,c12,j0]
  | false=>
  have h0:j≠0:=by simp only[beq_eq_false_iff_ne] at j0;omega
  rw[show Js8 x.kind j (typN y.kind)=0 by rw[k];simp[Js8,h0]]
  simp only[evC,seval,↓evP,hr,Nat.zero_add,ea,eb,J0t,J0m,la,lb,ht,c4,c5,c14,c41,c39,c40,c43,c44,c45,c46,c49,c50,c51,c52,c6,c42,c53,c54,c15,c12,j0]
 | false=>
 cases c13:(x.kind==13) with
 | true=>
  have k:=beq_iff_eq.1 c13
  cases j0:((j:Int)==0) with
  | true=>
   have hj:j=0:=by have:=beq_iff_eq.1 j0;omega
   rw[show Js8 x.kind j (typN y.kind)=1 by rw[k,hj];rfl]
   simp only[evC,seval,↓evP,hr,Nat.zero_add,ea,eb,J0t,J0m,la,lb,ht,c4,c5,c14,c41,c39,c40,c43,c44,c45,c46,c49,c50,c51,c52,c6,c42,c53,c54,c15,c12,c13,j0]
  | false=>
  have h0:j≠0:=by simp only[beq_eq_false_iff_ne] at j0;omega
  cases j1:((j:Int)==1) with
  | true=>
   have hj:j=1:=by have:=beq_iff_eq.1 j1;omega
   rw[show Js8 x.kind j (typN y.kind)=2 by rw[k,hj];rfl]
   simp only[evC,seval,↓evP,hr,Nat.zero_add,ea,eb,J0t,J0m,la,lb,ht,c4,c5,c14,c41,c39,c40,c43,c44,c45,c46,c49,c50,c51,c52,c6,c42,c53,c54,c15,c12,c13,j0,j1]
  | false=>
  have h1:j≠1:=by simp only[beq_eq_false_iff_ne] at j1;omega
  rw[show Js8 x.kind j (typN y.kind)=0 by rw[k];simp[Js8,h0,h1]]
  simp only[evC,seval,↓evP,hr,Nat.zero_add,ea,eb,J0t,J0m,la,lb,ht,c4,c5,c14,c41,c39,c40,c43,c44,c45,c46,c49,c50,c51,c52,c6,c42,c53,c54,c15,c12,c13,j0,j1]
 | false=>
 cases c47:(x.kind==47) with
 | true=>
  have k:=beq_iff_eq.1 c47
  cases j1:((j:Int)==1) with
  | true=>
   have hj:j=1:=by have:=beq_iff_eq.1 j1;omega
   rw[show Js8 x.kind j (typN y.kind)=typN y.kind by rw[k,hj];rfl]
   simp only[evC,seval,↓evP,hr,Nat.zero_add,ea,eb,J0t,J0m,la,lb,ht,c4,c5,c14,c41,c39,c40,c43,c44,c45,c46,c49,c50,c51,c52,c6,c42,c53,c54,c15,c12,c13,c47,j1]
  | false=>
  have h1:j≠1:=by simp only[beq_eq_false_iff_ne] at j1;omega
  rw[show Js8 x.kind j (typN y.kind)=0 by rw[k];simp[Js8,h1]]
  simp only[evC,seval,↓evP,hr,Nat.zero_add,ea,eb,J0t,J0m,la,lb,ht,c4,c5,c14,c41,c39,c40,c43,c44,c45,c46,c49,c50,c51,c52,c6,c42,c53,c54,c15,c12,c13,c47,j1]
 | false=>
 cases c48:(x.kind==48) with
 | true=>
  have k:=beq_iff_eq.1 c48
  cases j1:((j:Int)==1) with
  | true=>
   have hj:j=1:=by have:=beq_iff_eq.1 j1;omega
   rw[show Js8 x.kind j (typN y.kind)=typN y.kind by rw[k,hj];rfl]
   simp only[evC,seval,↓evP,hr,Nat.zero_add,ea,eb,J0t,J0m,la,lb,ht,c4,c5,c14,c41,c39,c40,c43,c44,c45,c46,c49,c50,c51,c52,c6,c42,c53,c54,c15,c12,c13,c47,c48,j1]
  | false=>
  have h1:j≠1:=by simp only[beq_eq_false_iff_ne] at j1;omega
  rw[show Js8 x.kind j (typN y.kind)=0 by rw[k];simp[Js8,h1]]
  simp only[evC,seval,↓evP,hr,Nat.zero_add,ea,eb,J0t,J0m,la,lb,ht,c4,c5,c14,c41,c39,c40,c43,c44,c45,c46,c49,c50,c51,c52,c6,c42,c53,c54,c15,c12,c13,c47,c48,j1]
 | false=>
 have e:Js8 x.kind j (typN y.kind)=0:=by
  simp only[beq_eq_false_iff_ne] at c4 c5 c14 c41 c39 c40 c43 c44 c45 c46 c49 c50 c51 c52 c6 c42 c53 c54 c15 c12 c13 c47 c48
  simp[Js8,c4,c5,c14,c41,c39,c40,c43,c44,c45,c46,c49,c50,c51,c52,c6,c42,c53,c54,c15,c12,c13,c47,c48]
 rw[e]
 simp only[evC,seval,↓evP,hr,Nat.zero_add,ea,eb,J0t,J0m,la,lb,ht,c4,c5,c14,c41,c39,c40,c43,c44,c45,c46,c49,c50,c51,c52,c6,c42,c53,c54,c15,c12,c13,c47,c48]
theorem JtN {R:List RowN} {v:Value} (hv:J0l h v R) {a f j:Nat} {x y:RowN} (hx:R[a]?=some x) (hy:R[f]?=some y) (ky:1≤y.kind∧y.kind≤54) (hn:1<n):J0T n 64 [v,iv (a:Int),iv (f:Int),iv (j:Int)] h=some (iv (Js8 x.kind j (typN y.kind)),h):=by
 obtain⟨n,rfl⟩:∃ j,n=j+1:=⟨n-1,by omega⟩
 exact J6r (J13 ⟨rfl,rfl,rfl⟩) rfl (Jt4 (n:=n) (N:=n) hv hx hy ky (by omega))
end
structure MkH (h H:SHeap) (M:MkT):Prop where
 a:H.get h.next=.row (ints M.A) 3 false false
 c:H.get (h.next+1)=.row (Jsd M.C) 4 false false
 n:h.next+2≤H.next
 fl:H.floor=h.floor
 o:∀ i,i<h.next→H.get i=h.get i
theorem MkH.mono {h H H':SHeap} {M:MkT} (hT:MkH h H M) (hn:H.next≤H'.next) (hf:H'.floor=H.floor) (hg:∀ i,i<h.next+2→H'.get i=H.get i):MkH h H' M:=
 ⟨by rw[hg _ (by omega)];exact hT.a,by rw[hg _ (by omega)];exact hT.c,by have:=hT.n;omega,hf.trans hT.fl,fun i hi=>by rw[hg i (by omega)];exact hT.o i hi⟩
def Ju3:List (Bool × Bool × List Operand):=[fa2,fa2,fa2,fa2,fa2,fa3 [.tmp 34],fa3 [.tmp 34],fa3 [.tmp 34],fa3 [.tmp 34],fa3 [.tmp 34],fa3 [.tmp 34,.tmp 39],fa3 [.tmp 34],fa0,fa0]
def Ju4:List (Bool × Bool × List Operand):=[fa1,fa1,fa1,fa1,fa1,fa3 [.tmp 52],fa3 [.tmp 52],fa3 [.tmp 52],fa3 [.tmp 52],fa3 [.tmp 52],fa3 [.tmp 52],fa3 [.tmp 52],fa3 [.tmp 52],fa3 [.tmp 52],fa3 [.tmp 52],fa3 [.tmp 52],fa3 [.tmp 52],fa3 [.tmp 52],fa3 [.tmp 52],fa3 [.tmp 52],fa3 [.tmp 52],fa3 [.tmp 52],fa3 [.tmp 52],fa3 [.tmp 52],fa3 [.tmp 52],fa3 [.tmp 52],fa3 [.tmp 52],fa3 [.tmp 52],fa3 [.tmp 52],fa0,fa0]
section
variable {n N:Nat} {h:SHeap}
theorem Jt6 {Z:List RowN} {s:StN} {v:Value} (hG:GoodT Z s) (hv:J0l h v s.rows) (hl:s.rows.length<9000000) (hfl:h.floor≤h.next) (hn:s.rows.length+60<n) (hN:s.rows.length+40<N) :
  ∃ h',J0L Tryz.prog (J0T n) N 35 [v] h=some (.tuple #[qS h.next s.rows.length s.rows.length,qS (h.next+1) s.rows.length s.rows.length],h')∧MkH h h' (Js7 s.rows (endN Z) s.rows.length):=by
 have hsn:=(J1z n).2
 refine J1N (R:=fun h'=>MkH h h' (Js7 s.rows (endN Z) s.rows.length)) Tryz.func35 rfl (by simp[Tryz.f35]) ?_
 have hr:Tryz.f35.results.toList=[.tmp 2,.tmp 3]:=rfl
 have hsl:=hG.sk.1
 have npos:0<s.rows.length:=by have:=hG.t.pos;omega
 have len1:∀ h':SHeap,lenS Tryz.prog h' 22 v=some (iv (s.rows.length:Int)):=fun h'=>hv.len (h':=h')
 have mkI:∀ H:SHeap,J2l Tryz.prog H 25 (iv (s.rows.length:Int)) (iv (s.rows.length:Int))=some (qS H.next s.rows.length s.rows.length,H.push (.row (ints (List.replicate s.rows.length 0)) 3 false false)):=fun H=>by
  have:=Jrq (P:=Tryz.prog) (h:=H) (t:=25) (e:=3) (z:=.int .i64 0) Tryz.underlying25 sz3 by3 J8P rfl rfl (by decide) (by decide) (n:=s.rows.length) (by omega)
  rw[show J3e (Value.int IntKind.i64 0).cells.toList s.rows.length=ints (List.replicate s.rows.length 0) from J8K _] at this
  exact this
 have mkB:∀ H:SHeap,J2l Tryz.prog H 63 (iv (s.rows.length:Int)) (iv (s.rows.length:Int))=some (qS H.next s.rows.length s.rows.length,H.push (.row (Jsd (List.replicate s.rows.length false)) 4 false false)):=fun H=>by
  have:=Jrq (P:=Tryz.prog) (h:=H) (t:=63) (e:=4) (z:=.bool false) Tryz.underlying63 sz4 by4 JtV rfl rfl (by decide) (by decide) (n:=s.rows.length) (by omega)
  rw[show J3e (Value.bool false).cells.toList s.rows.length=Jsd (List.replicate s.rows.length false) from Jsz _] at this
  exact this
 have g2:∀ (a b:SObj),let A:=(h.push a).push b
   A.get h.next=a∧A.get (h.next+1)=b∧A.next=h.next+2∧A.floor=h.floor∧∀ i,i<h.next→A.get i=h.get i:=fun a b=>
  ⟨J4c,J48,rfl,rfl,fun i hi=>by rw[J06 (by show i<h.next+1;omega),J06 hi]⟩
 have h4:=g2 (.row (ints (List.replicate s.rows.length 0)) 3 false false) (.row (Jsd (List.replicate s.rows.length false)) 4 false false)
 simp only[evC,seval,↓evP,len1,mkI,mkB,J1D]
 obtain⟨ga,gb,n4,f4,o4⟩:=h4
 generalize (h.push (.row (ints (List.replicate s.rows.length 0)) 3 false false)).push (.row (Jsd (List.replicate s.rows.length false)) 4 false false)=B at *
 have hT0:MkH h B (Js7 s.rows (endN Z) 0):=⟨ga,gb,by omega,f4,o4⟩
 refine WK.loop (fun i s'=>s'.T.get 0=v∧s'.T.get 4=qS h.next s.rows.length s.rows.length∧s'.T.get 5=qS (h.next+1) s.rows.length s.rows.length∧s'.T.get 6=iv (i:Int)∧i≤s.rows.length∧MkH h s'.h (Js7 s.rows (endN Z) i)) s.rows.length (by omega) ?_ ?_
 ·exact⟨by simp only[evC,seval,↓evP,rpC],by simp only[evC,seval,↓evP,rpC],by simp only[evC,seval,↓evP,rpC],by simp only[evC,seval,↓evP,rpC] <;> rfl,by omega,hT0⟩
 rintro i ⟨T,H⟩ hi ⟨t0,t4,t5,t6,hil,hT⟩
 simp only at t0 t4 t5 t6 hT
 by_cases hlt:i<s.rows.length
 rotate_left
 ·have c1:decide ((i:Int)<(s.rows.length:Int))=false:=by simp;omega
  have hin:i=s.rows.length:=by omega
  subst hin
  simp only[evC,seval,↓evP,hr,t0,t4,t5,t6,len1,c1]
  exact hT
 have c1:decide ((i:Int)<(s.rows.length:Int))=true:=by simp;omega
 obtain⟨x,hx⟩:∃ x,s.rows[i]?=some x:=⟨_,List.getElem?_eq_getElem hlt⟩
 have hnx:=hT.n
 have hfl':=hT.fl
 have hvH:J0l H v s.rows:=hv.mono (by omega) hT.o
 obtain⟨zz,hzz,_,hzk⟩:=hG.z hx
 obtain⟨kv,H5,hkids,hkL,f5,n5,o5⟩:=JtR (n:=n) hG.t hG.sk hvH hzz (by omega) (by omega) (by omega)
 rw[← hzk] at hkL
 have hkc:=hkL.ints (Nat.le_refl _)
 have lenK:=fun h'=>JfF hkc h'
 have hkl:((Js9 (endN Z) x.kids.toNat (i+1)).map (fun (k:Nat)=>(k:Int))).length=x.kids.toNat:=by rw[List.length_map,Jsg]
 obtain⟨k0,hch,hel,hei⟩:=hG.kids0 hx
 rw[hkl,show ((x.kids.toNat:Nat):Int)=x.kids by omega] at lenK
 have w1:IntKind.i64.wrap ((i:Int)+1)=((i+1:Nat):Int):=J0s (by omega) (by omega)
 have hT5:MkH h H5 (Js7 s.rows (endN Z) i):=hT.mono (by omega) (by omega) fun j hj=>o5 j (by omega)
 have hkn:x.kids.toNat≤s.rows.length:=by have:=J2o _ _ _ hch;omega
 simp only[evC,seval,↓evP,t0,t4,t5,t6,len1,c1,hkids]
 have eM:Js7 s.rows (endN Z) (i+1)=setL i x (typN (((s.rows[i+1]?).map (·.kind)).getD 0)) 0 (Js9 (endN Z) x.kids.toNat (i+1)) (Js7 s.rows (endN Z) i):=by
  show Jsq s.rows (endN Z) i (Js7 s.rows (endN Z) i)=_
  unfold Jsq
  rw[hx]
 refine WK.loop (fun q s'=>s'.T.get 0=v∧s'.T.get 4=qS h.next s.rows.length s.rows.length∧s'.T.get 5=qS (h.next+1) s.rows.length s.rows.length∧s'.T.get 6=iv (i:Int)∧s'.T.get 7=kv∧s'.T.get 8=iv (q:Int)∧q≤x.kids.toNat∧H5.next≤s'.h.next∧(∀ j,h.next+2≤j→j<H5.next→s'.h.get j=H5.get j)∧MkH h s'.h (setL i x (typN (((s.rows[i+1]?).map (·.kind)).getD 0)) 0 ((Js9 (endN Z) x.kids.toNat (i+1)).take q) (Js7 s.rows (endN Z) i))) x.kids.toNat (by omega) ?_ ?_
 ·exact⟨by simp only[evC,seval,↓evP,rpC,t0],by simp only[evC,seval,↓evP,rpC,t4],by simp only[evC,seval,↓evP,rpC,t5],by simp only[evC,seval,↓evP,rpC,t6],by simp only[evC,seval,↓evP,rpC],by simp only[evC,seval,↓evP,rpC] <;> rfl,by omega,Nat.le_refl _,fun _ _ _=>rfl,by rw[List.take_zero];exact hT5⟩
 rintro q ⟨T4,H6⟩ hq ⟨u0,u4,u5,u6,u7,u8,hqk,n6,o6,hT6⟩
 simp only at u0 u4 u5 u6 u7 u8 n6 o6 hT6
 by_cases hql:q<x.kids.toNat
 rotate_left
 ·have c3:decide ((q:Int)<x.kids)=false:=by simp;omega
  simp only[evC,seval,↓evP,u0,u4,u5,u6,u7,u8,lenK,c3,w1]
  have hq9:q=x.kids.toNat:=by omega
  subst hq9
  have hTk:(Js9 (endN Z) x.kids.toNat (i+1)).take x.kids.toNat=Js9 (endN Z) x.kids.toNat (i+1):=List.take_of_length_le (by rw[Jsg];omega)
  rw[hTk] at hT6
  exact⟨hlt,by omega,by rw[eM];exact hT6⟩
 have c3:decide ((q:Int)<x.kids)=true:=by simp;omega
 have hi1:=hG.next hx (by omega)
 obtain⟨y,hy⟩:∃ y,s.rows[i+1]?=some y:=⟨_,List.getElem?_eq_getElem hi1⟩
 have ky:=hG.ks _ y hy
 have eY:((s.rows[i+1]?).map (·.kind)).getD 0=y.kind:=by rw[hy];rfl
 rw[eY] at hT6 ⊢
 obtain⟨p,hpk⟩:∃ p,(Js9 (endN Z) x.kids.toNat (i+1))[q]?=some p:=⟨_,List.getElem?_eq_getElem (by rw[Jsg];exact hql)⟩
 obtain⟨hip,hpl⟩:=hG.kid hx hpk
 have hkc6:J1S (h.next+2) H6 kv ((Js9 (endN Z) x.kids.toNat (i+1)).map (fun (k:Nat)=>(k:Int))):=J1S.mono (hkL.ints (by omega)) (by omega) fun j h1 h2=>o6 j h1 h2
 obtain⟨ip,pp,ep,hip2,lp⟩:=J1S.get hkc6 (i:=q) (x:=(p:Int)) (by rw[List.getElem?_map,hpk];rfl)
 obtain⟨r9,hr9⟩:∃ r,x.kids.toNat=r+1:=⟨x.kids.toNat-1,by omega⟩
 obtain⟨if_,pf,ef,hif2,lf⟩:=J1S.get hkc6 (i:=0) (x:=((i+1:Nat):Int)) (by rw[List.getElem?_map,hr9];rfl)
 have ef':J0R Tryz.prog 25 kv (iv 0)=some (qP if_ pf):=ef
 have w2:IntKind.i64.wrap ((q:Int)+1)=((q+1:Nat):Int):=J0s (by omega) (by omega)
 have eS:=Jsu (i:=i) (x:=x) (first:=typN y.kind) (Js9 (endN Z) x.kids.toNat (i+1)) 0 q (Js7 s.rows (endN Z) i) p hpk
 rw[Nat.zero_add] at eS
 rw[eS]
 obtain⟨b1,b2,b3⟩:=Jss (i:=i) (x:=x) (first:=typN y.kind) ((Js9 (endN Z) x.kids.toNat (i+1)).take q) 0 (Js7 s.rows (endN Z) i)
 obtain⟨m1,m2,m3⟩:=Jsk (R:=s.rows) (endN Z) i
 generalize setL i x (typN y.kind) 0 ((Js9 (endN Z) x.kids.toNat (i+1)).take q) (Js7 s.rows (endN Z) i)=Mq at *
 obtain⟨c,hcq⟩:∃ cq,Mq.C[i]?=some cq:=⟨_,List.getElem?_eq_getElem (by omega)⟩
 have hnx6:=hT6.n
 have hfl6:=hT6.fl
 have hask:∀ fl:Nat,J0T n 64 [v,iv (i:Int),iv ((i+1:Nat):Int),iv (q:Int)] (H6.fl fl)=some (iv (Js8 x.kind q (typN y.kind)),H6.fl fl):=fun fl=>JtN (h:=H6.fl fl) (J0l.mono hv (by show h.next≤H6.next;omega) fun j hj=>hT6.o j hj) hx hy ky (by omega)
 have jx1:=J1F (id:=h.next) (n:=s.rows.length) (c:=s.rows.length) (i:=p) hpl
 have jx2:=idxB (id:=h.next+1) (n:=s.rows.length) (c:=s.rows.length) (i:=p) hpl
 have ix2:=idxB (id:=h.next+1) (n:=s.rows.length) (c:=s.rows.length) (i:=i) hlt
 have sa:J0K Tryz.prog H6 3 (qP h.next p) (iv (Js8 x.kind q (typN y.kind)))=some (H6.put h.next (.row (ints (Mq.A.set p (Js8 x.kind q (typN y.kind)))) 3 false false)):=J59 hT6.a (by omega) (by omega)
 have na:∀ j,j≠h.next→(H6.put h.next (.row (ints (Mq.A.set p (Js8 x.kind q (typN y.kind)))) 3 false false)).get j=H6.get j:=fun j hj=>J05 (by omega) (Ne.symm hj)
 have ga1:(H6.put h.next (.row (ints (Mq.A.set p (Js8 x.kind q (typN y.kind)))) 3 false false)).get h.next=.row (ints (Mq.A.set p (Js8 x.kind q (typN y.kind)))) 3 false false:=J0b rfl (by omega)
 have nna:(H6.put h.next (.row (ints (Mq.A.set p (Js8 x.kind q (typN y.kind)))) 3 false false)).next=H6.next:=rfl
 have ffa:(H6.put h.next (.row (ints (Mq.A.set p (Js8 x.kind q (typN y.kind)))) 3 false false)).floor=H6.floor:=rfl
 have fla:(H6.put h.next (.row (ints (Mq.A.set p (Js8 x.kind q (typN y.kind)))) 3 false false)).fl H6.floor=H6.put h.next (.row (ints (Mq.A.set p (Js8 x.kind q (typN y.kind)))) 3 false false):=rfl
 simp only[evC,seval,↓evP,u0,u4,u5,u6,u7,u8,lenK,c3]
 have hAp:(ip<H6.next)=True:=eq_true hip2
 generalize hHa:H6.put h.next (.row (ints (Mq.A.set p (Js8 x.kind q (typN y.kind)))) 3 false false)=Ha at *
 refine WK.flags (fs:=Ju3) (by kernel_rfl) ?_
 unfold Ju3
 iterate 14
  refine wcs hsn ?_
  simp only[rgC,seval,J04,J02,WKFC,rgL,rgK,J17,rgS,rgB,Option.bind_some,JcC,u0,u4,u5,u6,u7,u8,ep,lp,hAp,ef',lf,J0m,hask,jx1,sa,fla,J0V,J6Q,J2T,JiM,J1g,J0J,Jk2,J6L]
 refine JvR ?_
 have hvA:J0l Ha v s.rows:=hv.mono (by omega) fun j hj=>by rw[na j (by omega)];exact hT6.o j hj
 obtain⟨ib,pb,eb,hib,lb,_⟩:=hvA.row hx
 have hkcA:J1S (h.next+2) Ha kv ((Js9 (endN Z) x.kids.toNat (i+1)).map (fun (k:Nat)=>(k:Int))):=J1S.mono hkc6 (by omega) fun j h1 h2=>na j (by omega)
 obtain⟨iq,pq,eq_,hiq2,lq⟩:=J1S.get hkcA (i:=q) (x:=(p:Int)) (by rw[List.getElem?_map,hpk];rfl)
 have lc:ld1 i (Ha.get (h.next+1))=some (.bool c):=by rw[na _ (by omega),hT6.c];exact Jst hcq
 have sc:∀ v:Bool,J0K Tryz.prog Ha 4 (qP (h.next+1) p) (.bool v)=some (Ha.put (h.next+1) (.row (Jsd (Mq.C.set p v)) 4 false false)):=fun v=>Jt0 (by rw[na _ (by omega)];exact hT6.c) (by omega) (by omega)
 have fin:∀ v:Bool,v=(((Mq.C[i]?).getD false)||Jsn x.kind q)→MkH h (Ha.put (h.next+1) (.row (Jsd (Mq.C.set p v)) 4 false false)) (Jsf i x (typN y.kind) Mq q p) ∧
   ∀ j,h.next+2≤j→(Ha.put (h.next+1) (.row (Jsd (Mq.C.set p v)) 4 false false)).get j=H6.get j:=fun v hv=>by
  have g:∀ j,j≠h.next+1→(Ha.put (h.next+1) (.row (Jsd (Mq.C.set p v)) 4 false false)).get j=Ha.get j:=fun j h1=>by rw[J05 (by omega) (Ne.symm h1)]
  refine⟨⟨by rw[g _ (by omega)];exact ga1,?_,by show _≤Ha.next;omega,by show Ha.floor=_;omega,fun j hj=>by rw[g j (by omega),na j (by omega)];exact hT6.o j hj⟩,fun j hj=>by rw[g j (by omega),na j (by omega)]⟩
  rw[J0b rfl (by omega),hv]
  rfl
 simp only[evC,seval,↓evP,u0,u4,u5,u6,u7,u8,eb,Nat.zero_add,J0t,J0m,lb]
 have ef9:=JsZ x.kind q
 generalize e4:(x.kind==4)=b4 at *
 generalize e5:(x.kind==5)=b5 at *
 generalize e6:(x.kind==6)=b6 at *
 generalize e13:(x.kind==13)=b13 at *
 generalize ej:((q:Int)==0)=bj at *
 have six:c=true∨(c=false∧b4=true)∨(c=false∧b4=false∧b5=true)∨(c=false∧b4=false∧b5=false∧b6=true)∨(c=false∧b4=false∧b5=false∧b6=false∧b13=true)∨(c=false∧b4=false∧b5=false∧b6=false∧b13=false):=by
  cases c <;> cases b4 <;> cases b5 <;> cases b6 <;> cases b13 <;> simp
 rcases six with rfl | ⟨rfl,rfl⟩ | ⟨rfl,rfl,rfl⟩ | ⟨rfl,rfl,rfl,rfl⟩ | ⟨rfl,rfl,rfl,rfl,rfl⟩ | ⟨rfl,rfl,rfl,rfl,rfl⟩
 all_goals
  refine WK.flags (fs:=Ju4) (by kernel_rfl) ?_
  unfold Ju4
  iterate 31
   refine wcs hsn ?_
   simp only[rgC,seval,J04,J02,WKFC,rgL,rgK,J17,rgS,rgB,Option.bind_some,JcC,u0,u4,u5,u6,u7,u8,eq_,lq,J0m,ix2,J1V,lc,e4,e5,e6,e13,ej,jx2,sc,J0V,J6Q,J2T,JiM,J1g,J0J,Jk2,J6L]
  refine JvR ?_
  simp only[evC,seval,↓evP,u0,u4,u5,u6,u7,u8,w2]
  have go:∀ v:Bool,v=(((Mq.C[i]?).getD false)||Jsn x.kind q)→(∀ j,h.next+2≤j→j<H5.next→(Ha.put (h.next+1) (.row (Jsd (Mq.C.set p v)) 4 false false)).get j=H5.get j)∧MkH h (Ha.put (h.next+1) (.row (Jsd (Mq.C.set p v)) 4 false false)) (Jsf i x (typN y.kind) Mq q p):=fun v hv=>⟨fun j h1 h2=>by rw[(fin v hv).2 j h1];exact o6 j h1 h2,(fin v hv).1⟩
  first
   | exact⟨hql,by omega,Nat.le_trans n6 (Nat.le_of_eq nna.symm),go true (by simp[hcq,ef9])⟩
   | exact⟨hql,by omega,Nat.le_trans n6 (Nat.le_of_eq nna.symm),go bj (by simp[hcq,ef9])⟩
   | exact⟨hql,by omega,Nat.le_trans n6 (Nat.le_of_eq nna.symm),go false (by simp[hcq,ef9])⟩
end
section
variable {n N:Nat} {h:SHeap}
theorem JtP {Z:List RowN} {s:StN} {v:Value} (hG:GoodT Z s) (hv:J0l h v s.rows) (hl:s.rows.length<9000000) (hfl:h.floor≤h.next) (hn:s.rows.length+100<n) :
  ∃ h',J0T n 35 [v] h=some (.tuple #[qS h.next s.rows.length s.rows.length,qS (h.next+1) s.rows.length s.rows.length],h')∧MkH h h' (Js7 s.rows (endN Z) s.rows.length):=by
 obtain⟨n,rfl⟩:∃ j,n=j+1:=⟨n-1,by omega⟩
 exact Jc0 (J13 ⟨rfl,rfl,rfl⟩) (by simp[J3m,flat,J1i]) (Jt6 (n:=n) (N:=n) hG hv hl hfl (by omega) (by omega))
theorem Jt9 {nm : ByteArray} {s:StN} {pv:Value} {lo:Nat} (hp:J3x lo h pv nm s) (h64:∀ x∈s.rows,x.kids≤9223372036854775807) (hs:JdC s) (hl:s.rows.length<9000000) (hfl:h.floor≤h.next) (hn:Jbg s+100400<n) (hN:s.rows.length+40<N) :
  ∃ v' h',J0L Tryz.prog (J0T n) N 10 [pv] h=some (v',h')∧JsA h' h.next v' (Jsb nm s)∧h'.floor=h.floor∧h.next≤h'.next∧∀ i,i<h.next→h'.get i=h.get i:=by
 obtain⟨vr,vq,vv,vt,vu,vo,rfl,p1,p2,p3,p4,p5,p6⟩:=id hp
 have htot:Jbg s=s.rows.length+s.queues.length+s.vars.length+s.tags.length+s.rules.length+s.on.length:=rfl
 refine J65 (R:=fun v' h'=>JsA h' h.next v' (Jsb nm s)∧h'.floor=h.floor∧h.next≤h'.next∧∀ i,i<h.next→h'.get i=h.get i) Tryz.func10 rfl (by simp[Tryz.f10]) ?_
 have hr:Tryz.f10.results.toList=[.tmp 2,.cell 3 32]:=rfl
 have ca:(Value.agg #[.string nm,vr,vq,vv,vt,vu,vo,iv s.miss]).cells.toList=[.string nm,vr,vq,vv,vt,vu,vo,iv s.miss]:=rfl
 have oa:=all8 (nm:=nm) p1 p2 p3 p4 p5 p6
 have zc33:(Value.agg #[Value.int IntKind.i64 0,Value.int IntKind.i64 0]).cells.toList=[iv 0,iv 0]:=rfl
 have g0:∀ (a b:SObj),let A:=(h.push a).push b
   A.get h.next=a∧A.get (h.next+1)=b∧A.next=h.next+2∧A.floor=h.floor∧∀ i,i<h.next→A.get i=h.get i:=fun a b=>
  ⟨J4c,J48,rfl,rfl,fun i hi=>by rw[J06 (by show i<h.next+1;omega),J06 hi]⟩
 obtain⟨gA,gF,nG,fG,gO⟩:=g0 (.row [.string nm,vr,vq,vv,vt,vu,vo,iv s.miss] 27 false false) (.row [iv 0,iv 0] 32 false false)
 simp only[evC,seval,↓evP,rpD,J0X,J2t,ca,oa,sz30,J3C,J1t,zc33]
 generalize (h.push (.row [.string nm,vr,vq,vv,vt,vu,vo,iv s.miss] 27 false false)).push (.row [iv 0,iv 0] 32 false false)=Q at *
 have lA:ldN 8 0 (Q.get h.next)=some (.agg #[.string nm,vr,vq,vv,vt,vu,vo,iv s.miss]):=J9E gA rfl
 have x1:ld1 1 (Q.get h.next)=some vr:=by rw[gA];rfl
 have hpQ:J3x lo Q (.agg #[.string nm,vr,vq,vv,vt,vu,vo,iv s.miss]) nm s:=hp.mono (by omega) fun i _ hi=>gO i hi
 have hchk:=JpH (n:=n) hpQ h64 hs (by omega) (by omega) (by omega)
 cases d1:(JkA nm s != 0) with
 | true=>
  obtain⟨H',s1,s2,s3,s4,s5⟩:=Jsm gF (by omega) (by omega) (JkA nm s) 0
  have e:Jsb nm s=((JkA nm s,0),[]):=by unfold Jsb;rw[if_pos (by simpa using d1)]
  rw[e]
  simp only[evC,seval,↓evP,hr,J1b,lA,hchk,d1,J96,s1,J2n,s2]
  exact⟨⟨_,rfl,J0p.nil _ _ _⟩,by omega,by omega,fun i hi=>by rw[s5 i (by omega)];exact gO i hi⟩
 | false=>
 have e1:JkA nm s=0:=by simpa using d1
 have hG:=JtL e1
 have eR:Jsb nm s=Jsa s.rows s.queues (endN (Jk8 s.rows)) s.rows.length 0:=by unfold Jsb;rw[if_neg (by rw[e1];decide)]
 rw[eR]
 generalize hZ:Jk8 s.rows=Z at *
 clear hZ eR
 have hsl:=hG.sk.1
 have npos:0<s.rows.length:=by have:=hG.t.pos;omega
 have len1:=fun h'=>JfA p1.2 h'
 have hvQ:J0l Q vr s.rows:=p1.1.mono (by omega) gO
 obtain⟨B,hmk,hM⟩:=JtP (n:=n) hG hvQ hl (by omega) (by omega)
 have nB:=hM.n
 have fB:=hM.fl
 have oB:=hM.o
 have xB:ld1 1 (B.get h.next)=some vr:=by rw[oB _ (by omega)];exact x1
 simp only[evC,seval,↓evP,J1b,lA,hchk,d1,Nat.zero_add,J0y,J0F,x1,hmk]
 refine WK.loop (fun i s'=>s'.T.get 1=qP h.next 0∧s'.T.get 3=qP (h.next+1) 0∧s'.T.get 5=qS Q.next s.rows.length s.rows.length∧s'.T.get 6=qS (Q.next+1) s.rows.length s.rows.length∧s'.T.get 8=iv (i:Int)∧i≤s.rows.length∧Jsa s.rows s.queues (endN Z) (s.rows.length-i) i=Jsa s.rows s.queues (endN Z) s.rows.length 0∧B.next≤s'.h.next∧s'.h.floor=h.floor∧(∀ j,j<B.next→s'.h.get j=B.get j)∧∃ w,s'.T.get 7=w∧IntL s'.h B.next w ((s.rows.take i).map (typN ·.kind))) s.rows.length (by omega) ?_ ?_
 ·exact⟨by simp only[evC,seval,↓evP,rpC],by simp only[evC,seval,↓evP,rpC],by simp only[evC,seval,↓evP,rpC],by simp only[evC,seval,↓evP,rpC],by simp only[evC,seval,↓evP,rpC] <;> rfl,by omega,rfl,Nat.le_refl _,by show B.floor=_;omega,fun _ _=>rfl,Z0,by simp only[evC,seval,↓evP,rpC],.inl ⟨rfl,rfl⟩⟩
 rintro i ⟨T,H⟩ hi ⟨t1,t3,t5,t6,t8,hil,hgo,nH,fH,oH,w,t7,hL⟩
 simp only at t1 t3 t5 t6 t8 nH fH oH t7 hL
 have xH:ld1 1 (H.get h.next)=some vr:=by rw[oH _ (by omega)];exact xB
 have gFH:H.get (h.next+1)=.row [iv 0,iv 0] 32 false false:=by rw[oH _ (by omega),oB _ (by omega)];exact gF
 have oHh:∀ j,j<h.next→H.get j=h.get j:=fun j hj=>by rw[oH j (by omega),oB j (by omega)];exact gO j hj
 by_cases hlt:i<s.rows.length
 rotate_left
 ·have c1:decide ((i:Int)<(s.rows.length:Int))=false:=by simp;omega
  have hin:i=s.rows.length:=by omega
  subst hin
  rw[List.take_of_length_le (Nat.le_refl _)] at hL
  obtain⟨H',s1,s2,s3,s4,s5⟩:=Jsm gFH (by omega) (by omega) 0 0
  have eG:Jsa s.rows s.queues (endN Z) s.rows.length 0=((0,0),s.rows.map (typN ·.kind)):=by rw[← hgo,Nat.sub_self];rfl
  rw[eG]
  simp only[evC,seval,↓evP,hr,t1,t3,t5,t6,t7,t8,Nat.zero_add,J0y,J0F,xH,len1,c1,J5n,s1,J2n,s2]
  exact⟨⟨_,rfl,(hL.mono (h':=H') (by omega) fun j h1 h2=>s5 j (by omega)).ints (by omega)⟩,by omega,by omega,fun j hj=>by rw[s5 j (by omega)];exact oHh j hj⟩
 have c1:decide ((i:Int)<(s.rows.length:Int))=true:=by simp;omega
 obtain⟨x,hx⟩:∃ x,s.rows[i]?=some x:=⟨_,List.getElem?_eq_getElem hlt⟩
 obtain⟨r,hr1⟩:∃ r,s.rows.length-i=r+1:=⟨s.rows.length-i-1,by omega⟩
 rw[hr1] at hgo
 have hri:s.rows.length-(i+1)=r:=by omega
 have hvH:J0l H vr s.rows:=p1.1.mono (by omega) oHh
 obtain⟨ia,pa,ea,hia,la,_⟩:=hvH.row hx
 have kx:=hG.ks i x hx
 have ht1:=JtH (n:=n) (h:=H) kx (by omega)
 have hfr:=Ju5 (n:=n) (h:=H) kx (by omega)
 obtain⟨m1,m2,m3⟩:=Jsk (R:=s.rows) (endN Z) i
 have eZ:=fun j=>Jso (e:=endN Z) hG.kk hG.sk j
 obtain⟨st1,st2,_⟩:=JsC hG.t (i:=i) s.rows.length (by omega)
 rw[← eZ,← eZ] at st1 st2
 obtain⟨a,hA⟩:∃ a,(Js7 s.rows (endN Z) i).A[i]?=some a:=⟨_,List.getElem?_eq_getElem (by omega)⟩
 obtain⟨c,hC⟩:∃ c,(Js7 s.rows (endN Z) i).C[i]?=some c:=⟨_,List.getElem?_eq_getElem (by omega)⟩
 obtain⟨u,hU⟩:∃ u,(Js7 s.rows (endN Z) i).U[i]?=some u:=⟨_,List.getElem?_eq_getElem (by omega)⟩
 have hUb:=JsF (R:=s.rows) (e:=endN Z) rfl npos i (by omega) u (List.mem_of_getElem? hU)
 obtain⟨up,hup⟩:∃ up,s.rows[u.toNat]?=some up:=⟨_,List.getElem?_eq_getElem (by omega)⟩
 have ix1:=J1F (id:=Q.next) (n:=s.rows.length) (c:=s.rows.length) (i:=i) hlt
 have ix2:=idxB (id:=Q.next+1) (n:=s.rows.length) (c:=s.rows.length) (i:=i) hlt
 have l1:ld1 i (H.get Q.next)=some (iv a):=by rw[oH _ (by omega),hM.a];exact J2z (st1.trans hA)
 have l2:ld1 i (H.get (Q.next+1))=some (.bool c):=by rw[oH _ (by omega),hM.c];exact Jst (st2.trans hC)
 have lAH:ldN 8 0 (H.get h.next)=some (.agg #[.string nm,vr,vq,vv,vt,vu,vo,iv s.miss]):=by rw[oH _ (by omega),oB _ (by omega)];exact lA
 have hpH:J3x lo H (.agg #[.string nm,vr,vq,vv,vt,vu,vo,iv s.miss]) nm s:=hp.mono (by omega) fun j _ hj=>oHh j hj
 have hoth:=Jtz (n:=n) (x:=x) (up:=up) hpH (a:=i) hx (fun h24=>by
  obtain⟨h0i,up',hup',hU',_⟩:=hG.place hx h24
  rw[hU] at hU'
  cases hU'
  rw[show ((i-1:Nat):Int).toNat=i-1 by omega] at hup
  exact⟨hup,h0i⟩) (by omega) (fun h9=>hG.qn i x hx (Jsx h9)) (fun h24 h20=>by
  obtain⟨h0i,up',hup',hU',hrange⟩:=hG.place hx h24
  rw[hU] at hU'
  cases hU'
  rw[show ((i-1:Nat):Int).toNat=i-1 by omega,hup'] at hup
  cases hup
  exact hrange h20) (by omega) (by omega)
 have w1:IntKind.i64.wrap ((i:Int)+1)=((i+1:Nat):Int):=J0s (by omega) (by omega)
 obtain⟨w',H',happ,hL',fH',nH',oH'⟩:=JsR (x:=typN x.kind) hL nH (by omega) (by rw[List.length_map,List.length_take];omega)
 have eT:(s.rows.take i).map (typN ·.kind)++[typN x.kind]=(s.rows.take (i+1)).map (typN ·.kind):=by
  rw[List.take_add_one,hx,List.map_append]
  rfl
 rw[eT] at hL'
 have bad:∀ b:Int,∃ H',J0K Tryz.prog H 32 (qP (h.next+1) 0) (J2k b i)=some H'∧ldN 2 0 (H'.get (h.next+1))=some (J2k b i)∧H'.floor=h.floor∧h.next≤H'.next∧∀ j,j<h.next→H'.get j=h.get j:=fun b=>by
  obtain⟨H',s1,s2,s3,s4,s5⟩:=Jsm gFH (by omega) (by omega) b i
  exact⟨H',s1,s2,by omega,by omega,fun j hj=>by rw[s5 j (by omega)];exact oHh j hj⟩
 have ea0:∀ b:Int,badN s.rows s.queues (Js7 s.rows (endN Z) i) i x=b→b≠0→Jsa s.rows s.queues (endN Z) s.rows.length 0=((b,(i:Int)),[]):=fun b hb h0=>by rw[← hgo];exact JtJ hx hb h0
 generalize e1':(a != 0)=ba
 generalize e2':(a != typN x.kind)=bt
 generalize e3':Jsi x.kind=bv at *
 generalize e4':Jse s.queues x up=bo at *
 have hAB:(ba=true∧bt=true)∨ba=false∨(ba=true∧bt=false):=by cases ba <;> cases bt <;> simp
 have hCV:(c=true∧bv=true)∨c=false∨(c=true∧bv=false):=by cases c <;> cases bv <;> simp
 rcases hAB with⟨rfl,rfl⟩ | hAB
 ·obtain⟨H',s1,s2,s3,s4,s5⟩:=bad 41
  rw[ea0 41 (Jto hA (by simpa using e1') (fun h9=>by rw[h9] at e2';simp at e2')) (by decide)]
  simp only[evC,seval,↓evP,hr,t1,t3,t5,t6,t7,t8,Nat.zero_add,J0y,J0F,xH,len1,c1,ea,J0t,J0m,la,ht1,ix1,l1,e1',e2',J4G,s1,J2n,s2]
  exact⟨⟨_,rfl,J0p.nil _ _ _⟩,s3,s4,s5⟩
 have n41 : ¬(a ≠ 0∧typN x.kind≠a):=by
  rintro ⟨h1,h2⟩
  rcases hAB with rfl | ⟨rfl,rfl⟩
  ·exact h1 (by simpa using e1')
  ·exact h2 (by have:a=typN x.kind:=by simpa using e2'
                exact this.symm)
 rcases hCV with⟨rfl,rfl⟩ | hCV
 ·obtain⟨H',s1,s2,s3,s4,s5⟩:=bad 42
  rw[ea0 42 (Jtc hA n41 hC e3') (by decide)]
  rcases hAB with rfl | ⟨rfl,rfl⟩
  all_goals
   simp only[evC,seval,↓evP,hr,t1,t3,t5,t6,t7,t8,Nat.zero_add,J0y,J0F,xH,len1,c1,ea,J0t,J0m,la,ht1,ix1,l1,e1',e2',ix2,J1V,l2,hfr,J4G,s1,J2n,s2]
   exact⟨⟨_,rfl,J0p.nil _ _ _⟩,s3,s4,s5⟩
 have hcv:(c&&Jsi x.kind)=false:=by
  rw[e3']
  rcases hCV with rfl | ⟨rfl,rfl⟩ <;> rfl
 have b46:=Jtj (Q:=s.queues) hA n41 hC hcv hU hup
 rw[e4'] at b46
 cases bo with
 | true=>
  obtain⟨H',s1,s2,s3,s4,s5⟩:=bad 46
  rw[ea0 46 (b46.trans rfl) (by decide)]
  rcases hAB with rfl | ⟨rfl,rfl⟩ <;> rcases hCV with rfl | ⟨rfl,rfl⟩
  all_goals
   simp only[evC,seval,↓evP,hr,t1,t3,t5,t6,t7,t8,Nat.zero_add,J0y,J0F,xH,len1,c1,ea,J0t,J0m,la,ht1,ix1,l1,e1',e2',ix2,J1V,l2,hfr,J1b,lAH,hoth,J4G,s1,J2n,s2]
   exact⟨⟨_,rfl,J0p.nil _ _ _⟩,s3,s4,s5⟩
 | false=>
  have hgo2:Jsa s.rows s.queues (endN Z) (s.rows.length-(i+1)) (i+1)=Jsa s.rows s.queues (endN Z) s.rows.length 0:=by rw[← hgo,hri];exact(JtY hx (b46.trans rfl)).symm
  rcases hAB with rfl | ⟨rfl,rfl⟩ <;> rcases hCV with rfl | ⟨rfl,rfl⟩
  all_goals
   simp only[evC,seval,↓evP,hr,t1,t3,t5,t6,t7,t8,Nat.zero_add,J0y,J0F,xH,len1,c1,ea,J0t,J0m,la,ht1,ix1,l1,e1',e2',ix2,J1V,l2,hfr,J1b,lAH,hoth,bs28,happ,w1]
   exact⟨hlt,by omega,hgo2,by omega,by omega,fun j hj=>(oH' j hj).trans (oH j hj),hL'⟩
theorem Jtv {nm:ByteArray} {s:StN} {pv:Value} {lo:Nat} (hp:J3x lo h pv nm s) (h64:∀ x∈s.rows,x.kids≤9223372036854775807) (hs:JdC s) (hl:s.rows.length<9000000) (hfl:h.floor≤h.next) (hn:Jbg s+100450<n) :
  ∃ v' h',J0T n 10 [pv] h=some (v',h')∧JsA h' h.next v' (Jsb nm s)∧h'.floor=h.floor∧h.next≤h'.next∧∀ i,i<h.next→h'.get i=h.get i:=by
 obtain⟨n,rfl⟩:∃ j,n=j+1:=⟨n-1,by omega⟩
 have htot:Jbg s=s.rows.length+s.queues.length+s.vars.length+s.tags.length+s.rules.length+s.on.length:=rfl
 refine k_ex (J13 ⟨rfl,rfl,rfl⟩) (Jt9 (n:=n) (N:=n) hp h64 hs hl hfl (by omega) (by omega)) fun v' h1 hf _ ht=>?_
 obtain⟨⟨tv,rfl,ht⟩,_⟩:=ht
 exact⟨⟨tv,rfl,Jt1 ht hf h⟩,rfl,Nat.le_refl _,fun _ _=>rfl⟩
end
end Go.Proofs.YtdejoodfeljmkaaGreatDoor
