/- Part 14 of what the claim leans on: 7 texts laid one behind another. -/
import Derived.Test.YtdejoodfeljmkaaGreatDoorTC13
namespace Go.Proofs.YtdejoodfeljmkaaGreatDoor
open Go Go.Sx
set_option maxRecDepth 100000
set_option linter.unusedSimpArgs false
set_option linter.unusedVariables false
set_option maxHeartbeats 64000000
def J3M:List ThN→ByteArray→Nat→Int
 | [],_,_=>-1
 | t :: l,x,i=>if x==t.name then (i:Int) else J3M l x (i+1)
theorem J54 (a b:ByteArray):(a==b)=(b==a):=by
 cases h:(a==b) with
 | true=>have:=J3o h;subst this;exact(J34 a).symm
 | false=>
  cases h2:(b==a) with
  | true=>have:=J3o h2;subst this;rw[J34] at h;cases h
  | false=>rfl
theorem J58:∀ (l:List ThN) (x:ByteArray) (i:Nat),match J30 l x with
  | none=>J3M l x i=-1
  | some t=>∃ k:Nat,J3M l x i=((i+k:Nat):Int)∧l[k]?=some t
 | [],x,i=>rfl
 | t :: l,x,i=>by
  have ih:=J58 l x (i+1)
  simp only[J30,List.find?_cons,J3M] at ih ⊢
  cases hb:(x==t.name) with
  | true=>exact⟨0,rfl,rfl⟩
  | false=>
   simp only[Bool.false_eq_true,if_false]
   revert ih
   cases l.find? (fun t=>x==t.name) with
   | none=>exact id
   | some u=>
    rintro ⟨k,h1,h2⟩
    exact⟨k+1,by rw[h1];congr 1;omega,h2⟩
section
variable {call:J0r} {N:Nat} {h:SHeap} {lo m e r n:Nat} {nm:ByteArray} {E:List Int} {tag:Nat→Nat} {V:Nat→Value} {C:List Int} {s:StN}
theorem JbE {x:ByteArray} (hp:MkR h lo m e r n nm E tag V C s) (hN:s.things.length+3<N) (hb:s.things.length<1000000):J0L Tryz.prog call N 118 [qP m 0,.string x] h=some (iv (J3M s.things x 0),h):=by
 refine J1m Tryz.func118 rfl (by simp[Tryz.f118]) ?_
 have hr:Tryz.f118.results.toList=[.tmp 4]:=rfl
 have c9:=hp.c9
 have hsl:=hp.sl 8 (by decide) (by decide)
 have hlen:∀ h',lenS Tryz.prog h' 117 (V 8)=some (iv (s.things.length:Int)):=fun h'=>by
  rcases hsl with⟨h1,h2,h3⟩ | ⟨id,ex,h1,_⟩
  ·rw[h3]
   have:s.things.length=0:=h1
   rw[this]
   exact JeT
  ·rw[h1];exact JeT
 simp only[evC,↓reduceIte,Nat.reduceEqDiff,reduceCtorEq,↓evP,rpC,Nat.reduceAdd,Nat.reduceLT,hr]
 refine WK.loop (fun i st=>st.h=h∧st.T.get 0=qP m 0∧st.T.get 1=.string x∧st.T.get 5=iv i∧i≤s.things.length∧J3M (s.things.drop i) x i=J3M s.things x 0) s.things.length (by omega) ?_ ?_
 ·simp only[evC,↓reduceIte,Nat.reduceEqDiff,reduceCtorEq,↓evP,rpC,Nat.reduceAdd,Nat.reduceLT]
  exact⟨rfl,rfl⟩
 ·rintro i ⟨T1,h1⟩ hi ⟨rfl,t0,t1,t5,hil,hfx⟩
  simp only at t0 t1 t5
  by_cases hlt:i<s.things.length
  ·have c1:decide ((i:Int)<(s.things.length:Int))=true:=by simp only[decide_eq_true_eq];omega
   have w1:IntKind.i64.wrap ((i:Int)+1)=((i+1:Nat):Int):=J0s (by omega) (by omega)
   obtain⟨t,ht⟩:∃ t,s.things[i]?=some t:=⟨_,List.getElem?_eq_getElem hlt⟩
   have hd:s.things.drop i=t :: s.things.drop (i+1):=by
    obtain⟨h1,h2⟩:=List.getElem?_eq_some_iff.1 ht
    rw[List.drop_eq_getElem_cons h1,h2]
   rw[hd,J3M] at hfx
   rcases hsl with⟨h1,_⟩ | ⟨id,ex,hv8,hg,_,_,_⟩
   ·have:s.things.length=0:=h1
    omega
   ·have hg':h1.get id=.row (J4t s.things++ex) 135 true false:=hg
    have hix:=Jd8 (id:=id) (c:=unk) hlt
    have hv8':V 8=qS id s.things.length unk:=hv8
    have l0:ld1 (i*4) (h1.get id)=some (.string t.name):=by rw[hg'];exact J4I (j:=0) ex ht (by decide)
    cases hb:(x==t.name) with
    | true=>
     have hb':(t.name==x)=true:=by rw[J54];exact hb
     rw[hb,if_pos rfl] at hfx
     simp only[evC,seval,↓evP,rpC,hr,t0,t1,t5,J3K,J4B,c9,hv8',JeT,c1,hix,JaK,l0,hb',← hfx]
    | false=>
     have hb':(t.name==x)=false:=by rw[J54];exact hb
     rw[hb] at hfx
     simp only[evC,seval,↓evP,rpC,hr,t0,t1,t5,J3K,J4B,c9,hv8',JeT,c1,hix,JaK,l0,hb',w1]
     exact⟨by omega,by omega,hfx⟩
  ·have c1:decide ((i:Int)<(s.things.length:Int))=false:=by simp only[decide_eq_false_iff_not];omega
   rw[List.drop_of_length_le (by omega)] at hfx
   have hfx':J3M s.things x 0=-1:=hfx.symm
   simp only[evC,seval,↓evP,rpC,hr,t0,t1,t5,J3K,J4B,c9,hlen,c1,hfx']
def cntL (s:StN):List Int:=[0,s.queues.length,s.vars.length,s.tags.length,s.rules.length]
theorem Jev {s:StN} {k:Int} (h1:1≤k) (h4:k≤4):(cntL s)[k.toNat]?=some (cntN s k:Int):=by
 obtain rfl | rfl | rfl | rfl:k=1∨k=2∨k=3∨k=4:=by omega
 all_goals rfl
def MkRE (h:SHeap) (lo m e r n:Nat) (nm:ByteArray) (E:List Int) (s:StN):Prop:=∃ tag V,MkR h lo m e r n nm E tag V (cntL s) s∧WfS s
def AftR (h H:SHeap) (lo:Nat):Prop:=(∀ i,i<lo→H.get i=h.get i)∧h.next≤H.next∧H.floor=h.floor
noncomputable def Q4:Code:=rt (rt (rt (Tryz.f81.body.getD .skip)))
noncomputable def Q7:Code:=rt (rt Q4)
noncomputable def Q8:Code:=rt Q7
noncomputable def Q9:Code:=rt Q8
noncomputable def Q10:Code:=rt Q9
theorem Jiv {T:Tr} {H0:SHeap} {at_:Nat} {x:RowN} {K:Kont} {kd end_:Int} {b:Nat} (hp:MkR H0 lo m e r n nm E tag V (cntL s) s) (hx:s.rows[at_]?=some x) (h1:1≤kd) (h4:kd≤4) (hw:WfS s) (hth:s.things.length<100000) (hE:E[at_]?=some end_)
  (h87:∀ h',call 119 [iv kd] h'=some (iv (J3g kd),h'))
  (t0:T.get 0=qP m 0) (t1:T.get 1=iv at_) (t2:T.get 2=iv kd) (t7:T.get 7=qP b 0) (hbx:H0.get b=.row (J0e x) 60 false false) (hbl:b<H0.next) (hbt:tag b=11)
  (hk1:∀ T',(cntN s kd:Int)=J3g kd→T'.get 6=iv 3→K.ap Tryz.prog call N .ret ⟨T',H0⟩)
  (hk2:∀ T' H tag' V',(cntN s kd:Int)≠J3g kd→(∀ t,t≤8→t≠6→t≠8→T'.get t=T.get t)→MkR H lo m e r n nm E tag' V' ((cntL s).set kd.toNat ((cntN s kd:Int)+1)) { s with rows:=setN s.rows at_ (cntN s kd),things:=s.things++[⟨x.name,kd,(cntN s kd:Int),end_⟩] } →
   (∀ i,i<H0.next→tag' i=tag i)→(∀ i,i<H0.next→i<lo∨tag i=11→H.get i=H0.get i)→H0.next≤H.next→H.floor=H0.floor→WK Tryz.prog call N Q10 ⟨T',H⟩ K):WK Tryz.prog call N Q4 ⟨T,H0⟩ K:=by
 show WK _ _ _ (.seq _ (.seq _ (.seq _ (.seq (.region _ _ true) (.seq _ Q10))))) _ _
 have cle:=JdD hw kd
 obtain⟨kn,hkn,hkn1,hkn4⟩:∃ kn:Nat,kd=(kn:Int)∧1≤kn∧kn≤4:=⟨kd.toNat,by omega,by omega,by omega⟩
 have hcg:=Jev (s:=s) h1 h4
 have hkt:kd.toNat=kn:=by omega
 rw[hkt] at hcg hk2
 have cc:=hp.cC hcg
 have i91:J0R Tryz.prog 118 (qP m 10) (iv kd)=some (qP m (10+kn)):=by rw[hkn];exact JjP (by omega)
 have w1:IntKind.i64.wrap ((cntN s kd:Int)+1)=(cntN s kd:Int)+1:=J0s (by omega) (by omega)
 have z10:0+10=10:=rfl
 cases d1:((cntN s kd:Int)==J3g kd) with
 | true=>
  simp only[evC,seval,↓evP,rpC,t0,t1,t2,t7,Jae,z10,i91,cc,h87,d1]
  exact hk1 _ (by simpa using d1) (by simp only[Tr.get_put,if_true])
 | false=>
  have sC:=hp.stC (i:=kn) (by simp only[cntL,List.length_cons,List.length_nil];omega) (x:=(cntN s kd:Int)+1)
  simp only[evC,seval,↓evP,rpD,J0G,J0X,J2t,t0,t1,t2,t7,Jae,z10,i91,cc,h87,d1,w1,sC]
  have keep1:∀ i,i<H0.next→i<lo∨tag i=11→(H0.put m (.row (J1p nm r n V s.miss e E.length ((cntL s).set kn ((cntN s kd:Int)+1))) 120 false false)).get i=H0.get i:=fun i _ hi=>by
   have:=hp.lm
   exact J05 hp.lm.2 (fun hh=>by subst hh;have:=hp.tm;omega)
  have hp1:=hp.cellW (C':=(cntL s).set kn ((cntN s kd:Int)+1)) (miss':=s.miss)
  have hn1:(H0.put m (.row (J1p nm r n V s.miss e E.length ((cntL s).set kn ((cntN s kd:Int)+1))) 120 false false)).next=H0.next:=rfl
  have hf1:(H0.put m (.row (J1p nm r n V s.miss e E.length ((cntL s).set kn ((cntN s kd:Int)+1))) 120 false false)).floor=H0.floor:=rfl
  generalize H0.put m (.row (J1p nm r n V s.miss e E.length ((cntL s).set kn ((cntN s kd:Int)+1))) 120 false false)=H1 at *
  have gb:H1.get b=.row (J0e x) 60 false false:=by rw[keep1 b hbl (.inr hbt)];exact hbx
  have c8:=hp1.c8
  have c9:=hp1.c9
  have hEl:at_<E.length:=(List.getElem?_eq_some_iff.1 hE).1
  have lE:ld1 at_ (H1.get e)=some (iv end_):=by rw[hp1.ends];exact J2z hE
  have lb1:ld1 1 (H1.get b)=some (.string x.name):=by rw[gb];rfl
  obtain⟨v',H2,a1,a2,a3,a4,a5,a6,a7,a8⟩:=hp1.grow (j:=8) (by decide) (by decide) (t:=117) (w:=4) (bb:=40) Tryz.underlying117 Jh7 JjH J9G rfl (by decide) (by decide) (xs:=[.string x.name,iv kd,iv (cntN s kd:Int),iv end_]) (J7t _) (J7a _) rfl rfl (by show s.things.length<10000000;omega)
  have hp2:=a8 { s with things:=s.things++[⟨x.name,kd,(cntN s kd:Int),end_⟩] } rfl rfl (by simp[slN]) (by simp[slC,J4t,thC]) (fun i hi=>by
   unfold slN slC
   split <;> simp_all)
  have a1':J1o Tryz.prog (H1.push (.row [.string x.name,iv kd,iv (cntN s kd:Int),iv end_] 135 false false)) 117 (V 8) (qS H1.next 1 1)=some (v',H2):=a1
  have sV:=hp1.stV a4 a5 sz90 (j:=8) (p:=9) (.inr ⟨rfl,rfl⟩) a3 a2
  refine WK.quiet (by kernel_rfl) ?_
  simp only[evC,seval,↓evP,rpD,J0G,J0X,J2t,t0,t1,t2,t7,J19,J3K,J4B,J0n,c8,c9,lb1,J1F hEl,lE,Jem,bs90,a1',sV]
  have hm2:m<H2.next:=by have:=hp.lm;omega
  have keep2:∀ i,i<H0.next→i<lo∨tag i=11→(H2.put m (.row (J1p nm r n (upd V 8 v') s.miss e E.length ((cntL s).set kn ((cntN s kd:Int)+1))) 120 false false)).get i=H0.get i:=fun i h1 hi=>by
   have:=hp.lm
   rw[J05 hm2 (fun hh=>by subst hh;have:=hp.tm;omega),a7 i (by omega) hi,keep1 i h1 hi]
  have hn2:(H2.put m (.row (J1p nm r n (upd V 8 v') s.miss e E.length ((cntL s).set kn ((cntN s kd:Int)+1))) 120 false false)).next=H0.next+2:=by show H2.next=_;omega
  have hf2:(H2.put m (.row (J1p nm r n (upd V 8 v') s.miss e E.length ((cntL s).set kn ((cntN s kd:Int)+1))) 120 false false)).floor=H0.floor:=by show H2.floor=_;omega
  have e0:({ s with miss:=s.miss }:StN)=s:=rfl
  generalize H2.put m (.row (J1p nm r n (upd V 8 v') s.miss e E.length ((cntL s).set kn ((cntN s kd:Int)+1))) 120 false false)=H3 at *
  have b1:=hp2.c1
  have hlt:at_<n:=(hp.row hx).1
  have hst:=stc (off:=at_*5+3) sz3 (v:=iv (cntN s kd:Int)) rfl rfl hp2.rows (by rw[J0N];have:=hp.len;show at_*5+3<s.rows.length*5;omega) (by have:=hp2.fl;have:=hp2.lr.1;omega)
  have hx':({ s with things:=s.things++[⟨x.name,kd,(cntN s kd:Int),end_⟩] }:StN).rows[at_]?=some x:=hx
  rw[J3N hx'] at hst
  have hp3:=hp2.rowsW (l:=setN s.rows at_ (cntN s kd:Int)) J4N
  simp only[evC,seval,↓evP,rpD,J0G,J0X,J2t,t0,t1,t2,t7,J0z,J0y,J0F,b1,J4z hlt,J0O,hst]
  refine hk2 _ _ _ _ (by simpa using d1) (fun t h8 h6 h9=>?_) hp3 (fun i hi=>if_neg (by omega)) (fun i h1 hi=>?_) (by show H0.next≤H3.next;omega) hf2
  ·simp only[Tr.get_put,Option.some.injEq,reduceCtorEq,if_false]
   (repeat rw[if_neg (by omega)])
  ·have:=hp.lr
   rw[J05 (by omega) (fun hh=>by subst hh;have:=hp.tr;omega)]
   exact keep2 i h1 hi
theorem Jfi {s:StN} {at_:Nat} {x:RowN} {kd:Int} (h1:1≤kd) (h4:kd≤4):(cntL s).set kd.toNat ((cntN s kd:Int)+1)=cntL (appS kd at_ x s):=by
 obtain rfl | rfl | rfl | rfl:kd=1∨kd=2∨kd=3∨kd=4:=by omega
 all_goals simp[cntL,appS,cntN]
theorem Jek {T:Tr} {H0:SHeap} {at_:Nat} {x:RowN} {K:Kont} {kd:Int} {b:Nat} (hp:MkR H0 lo m e r n nm E tag V C s) (h1:1≤kd) (h4:kd≤4) (hn:at_<1099511627776)
  (hb:s.queues.length<1000∧s.vars.length<1000∧s.tags.length<1000∧s.rules.length<1000∧s.on.length<1000)
  (t0:T.get 0=qP m 0) (t1:T.get 1=iv at_) (t2:T.get 2=iv kd) (t7:T.get 7=qP b 0) (hbx:H0.get b=.row (J0e x) 60 false false) (hbl:b<H0.next) (hbt:tag b=11)
  (hk:∀ T' H tag' V',T'.get 6=iv 0→MkR H lo m e r n nm E tag' V' C (appS kd at_ x s)→(∀ i,i<H0.next→i<lo→H.get i=H0.get i)→H0.next≤H.next→H.floor=H0.floor→K.ap Tryz.prog call N .ret ⟨T',H⟩):WK Tryz.prog call N Q10 ⟨T,H0⟩ K:=by
 show WK _ _ _ (.seq (.seq _ (.block _ _)) (.seq _ _)) _ _
 have lb1:ld1 1 (H0.get b)=some (.string x.name):=by rw[hbx];rfl
 have lb0:ld1 0 (H0.get b)=some (iv x.kind):=by rw[hbx];rfl
 have hm:=hp.lm
 have w1:IntKind.i64.wrap ((at_:Int)+1)=(at_:Int)+1:=J0s (by omega) (by omega)
 have q1:((2:Int)==1)=false:=rfl
 have q2:((3:Int)==1)=false:=rfl
 have q3:((3:Int)==2)=false:=rfl
 have q4:((4:Int)==1)=false:=rfl
 have q5:((4:Int)==2)=false:=rfl
 have q6:((4:Int)==3)=false:=rfl
 have fin:∀ (T':Tr) (h1:SHeap) tag' V' s',T'.get 6=iv 0→MkR h1 lo m e r n nm E tag' V' C s'→s'=appS kd at_ x s→(∀ i,i<H0.next→i<lo→h1.get i=H0.get i)→H0.next≤h1.next→h1.floor=H0.floor→K.ap Tryz.prog call N .ret ⟨T',h1⟩:=fun T' h1 tag' V' s' a b c d e f=>hk T' h1 tag' V' a (by rw[← c];exact b) d e f
 obtain rfl | rfl | rfl | rfl:kd=1∨kd=2∨kd=3∨kd=4:=by omega
 ·have cj:=hp.c2
  obtain⟨v',H2,a1,a2,a3,a4,a5,a6,a7,a8⟩:=hp.grow (j:=2) (by decide) (by decide) (t:=23) (w:=2) (bb:=24) Tryz.underlying23 sz57 by57 J9V rfl (by decide) (by decide) (xs:=[.string x.name,.bool (x.kind==3)]) (J2J _) (J5A _) rfl rfl (by show s.queues.length<10000000;omega)
  have hp2:=a8 { s with queues:=s.queues++[(x.name,x.kind==3)] } rfl rfl (by simp[slN]) (by simp[slC,J3S]) (fun i hi=>by
   unfold slN slC
   split <;> simp_all)
  have a1':J1o Tryz.prog (H0.push (.row [.string x.name,.bool (x.kind==3)] 75 false false)) 23 (V 2) (qS H0.next 1 1)=some (v',H2):=a1
  have sV:=hp.stV a4 a5 sz26 (j:=2) (p:=2) (.inl ⟨rfl,by decide,by decide⟩) a3 a2
  simp only[evC,seval,↓evP,rpC,t0,t1,t2,t7,q1,q2,q3]
  refine WK.quiet (by kernel_rfl) ?_
  simp only[evC,seval,↓evP,rpD,J0G,J0X,J2t,t0,t1,t2,t7,J0z,J0B,J0S,cj,lb0,lb1,J2q,bs26,a1',sV]
  have o2:∀ i,i<H0.next→i<lo→(H2.put m (.row (J1p nm r n (upd V 2 v') s.miss e E.length C) 120 false false)).get i=H0.get i:=fun i hi h1=>by rw[J05 (by omega) (by omega),a7 i hi (.inl h1)]
  have n2:(H2.put m (.row (J1p nm r n (upd V 2 v') s.miss e E.length C) 120 false false)).next=H0.next+2:=a6
  have f2:(H2.put m (.row (J1p nm r n (upd V 2 v') s.miss e E.length C) 120 false false)).floor=H0.floor:=a5
  generalize H2.put m (.row (J1p nm r n (upd V 2 v') s.miss e E.length C) 120 false false)=H3 at *
  have ck:=hp2.c6
  obtain⟨v2,H4,b1,b2,b3,b4,b5,b6,b7,b8⟩:=hp2.grow (j:=6) (by decide) (by decide) (t:=25) (w:=1) (bb:=8) Tryz.underlying25 sz3 by3 J8P rfl (by decide) (by decide) (xs:=[iv (-1)]) ((J1h _).trans (Nat.mul_one _).symm) (J5u _) rfl rfl (by show s.on.length<10000000;omega)
  have hp4:=b8 { s with queues:=s.queues++[(x.name,x.kind==3)],on:=s.on++[-1] } rfl rfl (by simp[slN]) (by simp[slC,ints]) (fun i hi=>by
   unfold slN slC
   split <;> simp_all)
  have b1':J1o Tryz.prog (H3.push (.row [iv (-1)] 3 false false)) 25 (upd V 2 v' 6) (qS H3.next 1 1)=some (v2,H4):=b1
  have sW:=hp2.stV b4 b5 sz28 (j:=6) (p:=6) (.inl ⟨rfl,by decide,by decide⟩) b3 b2
  simp only[evC,seval,↓evP,rpD,J0G,J0X,J2t,t0,t1,t2,t7,J0z,J1T,J0n,ck,bs28,b1',sW]
  refine fin _ _ _ _ _ (by simp only[Tr.get_put,if_true]) hp4 rfl (fun i hi h1=>?_) (by show H0.next≤H4.next;omega) (by show H4.floor=_;omega)
  rw[J05 (by omega) (by omega),b7 i (by omega) (.inl h1),o2 i hi h1]
 ·have cj:=hp.c3
  obtain⟨v',H2,a1,a2,a3,a4,a5,a6,a7,a8⟩:=hp.grow (j:=3) (by decide) (by decide) (t:=24) (w:=1) (bb:=16) Tryz.underlying24 sz9 by9 Jdg rfl (by decide) (by decide) (xs:=[.string x.name]) ((J4W _).trans (Nat.mul_one _).symm) (J6e _) rfl rfl (by show s.vars.length<10000000;omega)
  have hp2:=a8 { s with vars:=s.vars++[x.name] } rfl rfl (by simp[slN]) (by simp[slC,strs]) (fun i hi=>by
   unfold slN slC
   split <;> simp_all)
  have a1':J1o Tryz.prog (H0.push (.row [.string x.name] 9 false false)) 24 (V 3) (qS H0.next 1 1)=some (v',H2):=a1
  have sV:=hp.stV a4 a5 sz27 (j:=3) (p:=3) (.inl ⟨rfl,by decide,by decide⟩) a3 a2
  simp only[evC,seval,↓evP,rpC,t0,t1,t2,t7,q1,q2,q3]
  refine WK.quiet (by kernel_rfl) ?_
  simp only[evC,seval,↓evP,rpD,J0G,J0X,J2t,t0,t1,t2,t7,J0z,J1A,J0Y,cj,lb0,lb1,bs27,a1',sV]
  refine fin _ _ _ _ _ (by simp only[Tr.get_put,if_true]) hp2 rfl (fun i hi h1=>?_) (by show H0.next≤H2.next;omega) a5
  rw[J05 (by omega) (by omega),a7 i hi (.inl h1)]
 ·have cj:=hp.c4
  obtain⟨v',H2,a1,a2,a3,a4,a5,a6,a7,a8⟩:=hp.grow (j:=4) (by decide) (by decide) (t:=24) (w:=1) (bb:=16) Tryz.underlying24 sz9 by9 Jdg rfl (by decide) (by decide) (xs:=[.string x.name]) ((J4W _).trans (Nat.mul_one _).symm) (J6e _) rfl rfl (by show s.tags.length<10000000;omega)
  have hp2:=a8 { s with tags:=s.tags++[x.name] } rfl rfl (by simp[slN]) (by simp[slC,strs]) (fun i hi=>by
   unfold slN slC
   split <;> simp_all)
  have a1':J1o Tryz.prog (H0.push (.row [.string x.name] 9 false false)) 24 (V 4) (qS H0.next 1 1)=some (v',H2):=a1
  have sV:=hp.stV a4 a5 sz27 (j:=4) (p:=4) (.inl ⟨rfl,by decide,by decide⟩) a3 a2
  simp only[evC,seval,↓evP,rpC,t0,t1,t2,t7,q1,q2,q3]
  refine WK.quiet (by kernel_rfl) ?_
  simp only[evC,seval,↓evP,rpD,J0G,J0X,J2t,t0,t1,t2,t7,J0z,J1B,J0Y,cj,lb0,lb1,bs27,a1',sV]
  refine fin _ _ _ _ _ (by simp only[Tr.get_put,if_true]) hp2 rfl (fun i hi h1=>?_) (by show H0.next≤H2.next;omega) a5
  rw[J05 (by omega) (by omega),a7 i hi (.inl h1)]
 ·have cj:=hp.c5
  obtain⟨v',H2,a1,a2,a3,a4,a5,a6,a7,a8⟩:=hp.grow (j:=5) (by decide) (by decide) (t:=25) (w:=1) (bb:=8) Tryz.underlying25 sz3 by3 J8P rfl (by decide) (by decide) (xs:=[iv ((at_:Int)+1)]) ((J1h _).trans (Nat.mul_one _).symm) (J5u _) rfl rfl (by show s.rules.length<10000000;omega)
  have hp2:=a8 { s with rules:=s.rules++[(at_:Int)+1] } rfl rfl (by simp[slN]) (by simp[slC,ints]) (fun i hi=>by
   unfold slN slC
   split <;> simp_all)
  have a1':J1o Tryz.prog (H0.push (.row [iv ((at_:Int)+1)] 3 false false)) 25 (V 5) (qS H0.next 1 1)=some (v',H2):=a1
  have sV:=hp.stV a4 a5 sz28 (j:=5) (p:=5) (.inl ⟨rfl,by decide,by decide⟩) a3 a2
  simp only[evC,seval,↓evP,rpD,J0G,J0X,J2t,t0,t1,t2,t7,q4,q5,q6,w1,J0z,J36,J0n,cj,bs28,a1',sV]
  refine fin _ _ _ _ _ (by simp only[Tr.get_put,if_true]) hp2 rfl (fun i hi h1=>?_) (by show H0.next≤H2.next;omega) a5
  rw[J05 (by omega) (by omega),a7 i hi (.inl h1)]
end
theorem J4c {h:SHeap} {o o':SObj}:((h.push o).push o').get h.next=o:=by rw[J06 (by show h.next<h.next+1;omega)];exact J0h
theorem J48 {h:SHeap} {o o':SObj}:((h.push o).push o').get (h.next+1)=o':=J0h (h:=h.push o)
structure ParAt (l:List RowN) (U W:List Int):Prop where
 lu:U.length=l.length
 lw:W.length=l.length
 top:U[0]?=some (-1)
 kid:∀ p k i,J3I l p k i→U[i]?=some (p:Int)∧W[i]?=some (k:Int)
section
variable {call:J0r} {n:Nat}
theorem J8I {l:List RowN} {v:Value} {h:SHeap} (ht:J2c l) (hv:J0l h v l) (hlen:l.length<1099511627776) (hn:l.length+3<n) (hfl:h.floor≤h.next)
  (hE:∀ H,J0l H v l→H.floor≤H.next→∃ h',call 79 [v] H=some (qS H.next l.length l.length,h')∧(h'.get H.next=.row (ints (J0o l)) 3 false false∧h'.next=H.next+1∧h'.floor=H.floor∧∀ i,i<H.next→h'.get i=H.get i)) :
  ∃ h',J0L Tryz.prog call n 129 [v] h=some (.tuple #[qS h.next l.length l.length,qS (h.next+1) l.length l.length],h') ∧
   (∃ U W,ParAt l U W∧h'.get h.next=.row (ints U) 3 false false∧h'.get (h.next+1)=.row (ints W) 3 false false∧h'.next=h.next+3∧h'.floor=h.floor∧∀ i,i<h.next→h'.get i=h.get i):=by
 refine J1N (R:=fun h'=>∃ U W,ParAt l U W∧h'.get h.next=.row (ints U) 3 false false∧h'.get (h.next+1)=.row (ints W) 3 false false∧h'.next=h.next+3∧h'.floor=h.floor∧∀ i,i<h.next→h'.get i=h.get i) Tryz.func129 rfl (by simp[Tryz.f129]) ?_
 have hr:Tryz.f129.results.toList=[.tmp 2,.tmp 3]:=rfl
 have hl22:∀ h',lenS Tryz.prog h' 22 v=some (.int .i64 l.length):=fun h'=>hv.len
 have hpos:=ht.pos
 have hold2:∀ i,i<h.next→((h.push (.row (ints (List.replicate l.length 0)) 3 false false)).push (.row (ints (List.replicate l.length 0)) 3 false false)).get i=h.get i:=fun i hi=>by rw[J06 (by show i<h.next+1;omega),J06 hi]
 obtain⟨h3,hE,g1,g2,g3,g4⟩:=hE ((h.push (.row (ints (List.replicate l.length 0)) 3 false false)).push (.row (ints (List.replicate l.length 0)) 3 false false)) (hv.mono (by show h.next≤h.next+1+1;omega) hold2) (by show h.floor≤h.next+1+1;omega)
 have ga:=(g4 h.next (by show h.next<h.next+1+1;omega)).trans J4c
 have gb:=(g4 (h.next+1) (by show h.next+1<h.next+1+1;omega)).trans J48
 simp only[J1D,J0i] at hE g1 g2 g3
 have hold3:∀ i,i<h.next→h3.get i=h.get i:=fun i hi=>(g4 i (by show i<h.next+1+1;omega)).trans (hold2 i hi)
 clear g4
 have i0:J0R Tryz.prog 25 (qS h.next l.length l.length) (iv 0)=some (qP h.next 0):=J1F (i:=0) hpos
 have s0:=J59 (x:=-1) ga (i:=0) (by rw[List.length_replicate];exact hpos) (by rw[g3];exact hfl)
 have c0:decide ((l.length:Int)>0)=true:=by simp only[decide_eq_true_eq];omega
 simp only[evC,seval,↓evP,rpC,hr,hl22,J8p hlen,hE,i0,s0,c0]
 have z1:(h3.put h.next (.row (ints ((List.replicate l.length 0).set 0 (-1))) 3 false false)).get h.next=.row (ints ((List.replicate l.length 0).set 0 (-1))) 3 false false:=J0b rfl (by omega)
 have z2:=(J05 (h:=h3) (i:=h.next) (j:=h.next+1) (o:=.row (ints ((List.replicate l.length 0).set 0 (-1))) 3 false false) (by omega) (by omega)).trans gb
 have z3:=(J05 (h:=h3) (i:=h.next) (j:=h.next+1+1) (o:=.row (ints ((List.replicate l.length 0).set 0 (-1))) 3 false false) (by omega) (by omega)).trans g1
 have z4:∀ i,i<h.next→(h3.put h.next (.row (ints ((List.replicate l.length 0).set 0 (-1))) 3 false false)).get i=h.get i:=fun i hi=>by rw[J05 (by omega) (by omega)];exact hold3 i hi
 have z5:(h3.put h.next (.row (ints ((List.replicate l.length 0).set 0 (-1))) 3 false false)).next=h.next+3:=by show h3.next=_;omega
 have z6:(h3.put h.next (.row (ints ((List.replicate l.length 0).set 0 (-1))) 3 false false)).floor=h.floor:=g3
 generalize h3.put h.next (.row (ints ((List.replicate l.length 0).set 0 (-1))) 3 false false)=h4 at *
 refine WK.loop (fun j s=>s.T.get 0=v∧s.T.get 4=qS h.next l.length l.length∧s.T.get 5=qS (h.next+1) l.length l.length∧s.T.get 6=qS (h.next+1+1) l.length l.length∧s.T.get 7=iv j∧s.h.next=h.next+3∧s.h.floor=h.floor∧(∀ i,i<h.next→s.h.get i=h.get i) ∧
  s.h.get (h.next+1+1)=.row (ints (J0o l)) 3 false false∧∃ U W:List Int,U.length=l.length∧W.length=l.length∧s.h.get h.next=.row (ints U) 3 false false∧s.h.get (h.next+1)=.row (ints W) 3 false false∧U[0]?=some (-1)∧∀ p k i,p<j→J3I l p k i→U[i]?=some (p:Int)∧W[i]?=some (k:Int)) l.length (by omega) ?_ ?_
 ·simp only[evC,↓reduceIte,Nat.reduceEqDiff,reduceCtorEq,↓evP,rpC,Nat.reduceAdd,Nat.reduceLT]
  refine⟨rfl,z5,z6,z4,z3,_,_,?_,?_,z1,z2,?_,fun p k i hp=>by omega⟩
  ·simp
  ·simp
  ·rw[List.getElem?_set_self (by simpa using hpos)]
 ·rintro j ⟨T1,h1⟩ hj ⟨t0,t4,t5,t6,t7,hnx,hf1,hold,gE,U,W,hU,hW,gU,gW,u0,huw⟩
  simp only at t0 t4 t5 t6 t7 hnx hf1 hold gE gU gW
  by_cases hlt:j<l.length
  ·have c1:decide ((j:Int)<(l.length:Int))=true:=by simp only[decide_eq_true_eq];omega
   have w1:IntKind.i64.wrap ((j:Int)+1)=((j+1:Nat):Int):=J0s (by omega) (by omega)
   have hsub:=ht.end hlt
   obtain⟨x,hx,hk0,hkk,hchain⟩:=hsub.kids
   have hv1:J0l h1 v l:=hv.mono (by omega) hold
   have hcl:=J2o _ _ _ hchain
   have hel:=hsub.lt
   simp only[evC,seval,↓evP,rpC,t0,t4,t5,t6,t7,hl22,c1,w1]
   refine WK.loop (fun k s=>s.T.get 0=v∧s.T.get 4=qS h.next l.length l.length∧s.T.get 5=qS (h.next+1) l.length l.length∧s.T.get 6=qS (h.next+1+1) l.length l.length∧s.T.get 7=iv j∧s.T.get 9=iv k∧s.h.next=h.next+3∧s.h.floor=h.floor∧(∀ i,i<h.next→s.h.get i=h.get i) ∧
    s.h.get (h.next+1+1)=.row (ints (J0o l)) 3 false false∧k≤x.kids.toNat∧(∃ p:Nat,s.T.get 8=iv p∧j<p∧J35 l k (j+1) p∧J35 l (x.kids.toNat-k) p (endN l j))∧∃ U W:List Int,U.length=l.length∧W.length=l.length∧s.h.get h.next=.row (ints U) 3 false false∧s.h.get (h.next+1)=.row (ints W) 3 false false∧U[0]?=some (-1) ∧
    ∀ p k' i,p<j∨(p=j∧k'<k)→J3I l p k' i→U[i]?=some (p:Int)∧W[i]?=some (k':Int)) x.kids.toNat (by omega) ?_ ?_
   ·simp only[evC,↓reduceIte,Nat.reduceEqDiff,reduceCtorEq,↓evP,rpC,Nat.reduceAdd,Nat.reduceLT,t0,t4,t5,t6,t7]
    refine⟨rfl,hnx,hf1,hold,gE,⟨j+1,rfl,by omega,rfl,by rw[Nat.sub_zero];exact hchain⟩,U,W,hU,hW,gU,gW,u0,fun p k' i h1 h2=>huw p k' i (by omega) h2⟩
   ·rintro k ⟨T2,h2⟩ hk ⟨v0,v4,v5,v6,v7,v9,hnx2,hf2,hold2,gE2,hkk2,⟨p,v8,hp,hc1,hch⟩,U2,W2,hU2,hW2,gU2,gW2,u02,huw2⟩
    simp only at v0 v4 v5 v6 v7 v8 v9 hnx2 hf2 hold2 gE2 gU2 gW2
    have hv2:J0l h2 v l:=hv.mono (by omega) hold2
    obtain⟨id,q,e0,hid,l0,l1,l2,l3,l4,lr⟩:=hv2.row hx
    by_cases hlt2:k<x.kids.toNat
    ·have c2:decide ((k:Int)<x.kids)=true:=by simp only[decide_eq_true_eq];omega
     obtain⟨r,hr1⟩:∃ r,x.kids.toNat-k=r+1:=⟨x.kids.toNat-k-1,by omega⟩
     rw[hr1] at hch
     obtain⟨p',s1,s2,s3,s4⟩:=hch
     have w5:IntKind.i64.wrap ((k:Int)+1)=((k+1:Nat):Int):=J0s (by omega) (by omega)
     have hpl:p<l.length:=by omega
     have kid:J3I l j k p:=⟨x,hx,hlt2,hc1⟩
     have st1:=J59 (x:=(j:Int)) gU2 (i:=p) (by omega) (by omega)
     have gW3:=(J05 (h:=h2) (i:=h.next) (j:=h.next+1) (o:=.row (ints (U2.set p (j:Int))) 3 false false) (by omega) (by omega)).trans gW2
     have st2:=J59 (h:=h2.put h.next (.row (ints (U2.set p (j:Int))) 3 false false)) (x:=(k:Int)) gW3 (i:=p) (by omega) (by show h2.floor≤_;omega)
     have gE3:((h2.put h.next (.row (ints (U2.set p (j:Int))) 3 false false)).put (h.next+1) (.row (ints (W2.set p (k:Int))) 3 false false)).get (h.next+1+1)=.row (ints (J0o l)) 3 false false:=by
      rw[J05 (by show h.next+1<h2.next;omega) (by omega),J05 (by omega) (by omega)];exact gE2
     have gU4:((h2.put h.next (.row (ints (U2.set p (j:Int))) 3 false false)).put (h.next+1) (.row (ints (W2.set p (k:Int))) 3 false false)).get h.next=.row (ints (U2.set p (j:Int))) 3 false false:=by
      rw[J05 (by show h.next+1<h2.next;omega) (by omega)];exact J0b rfl (by omega)
     have gW4:((h2.put h.next (.row (ints (U2.set p (j:Int))) 3 false false)).put (h.next+1) (.row (ints (W2.set p (k:Int))) 3 false false)).get (h.next+1)=.row (ints (W2.set p (k:Int))) 3 false false:=J0b rfl (by show h.next+1<h2.next;omega)
     have hold4:∀ i,i<h.next→((h2.put h.next (.row (ints (U2.set p (j:Int))) 3 false false)).put (h.next+1) (.row (ints (W2.set p (k:Int))) 3 false false)).get i=h.get i:=fun i hi=>by
      rw[J05 (by show h.next+1<h2.next;omega) (by omega),J05 (by omega) (by omega)];exact hold2 i hi
     have nx4:((h2.put h.next (.row (ints (U2.set p (j:Int))) 3 false false)).put (h.next+1) (.row (ints (W2.set p (k:Int))) 3 false false)).next=h.next+3:=hnx2
     have f4:((h2.put h.next (.row (ints (U2.set p (j:Int))) 3 false false)).put (h.next+1) (.row (ints (W2.set p (k:Int))) 3 false false)).floor=h.floor:=hf2
     have hEp:ld1 p (((h2.put h.next (.row (ints (U2.set p (j:Int))) 3 false false)).put (h.next+1) (.row (ints (W2.set p (k:Int))) 3 false false)).get (h.next+1+1))=some (iv (p':Int)):=by
      rw[gE3]
      refine J2z ?_
      rw[J2B hpl,J5P s1]
     simp only[evC,seval,↓evP,rpD,J0G,J0X,J2t,v0,v4,v5,v6,v7,v8,v9,e0,l4,c2,J1F hpl,st1,st2,w5,hEp]
     refine⟨hlt2,nx4,f4,hold4,gE3,by omega,⟨p',rfl,by omega,J4b _ _ _ _ hc1 s1,by rw[show x.kids.toNat-(k+1)=r by omega];exact s4⟩,U2.set p (j:Int),W2.set p (k:Int),by simpa using hU2,by simpa using hW2,gU4,gW4,?_,fun p9 k9 i9 h9 q9=>?_⟩
     ·rw[List.getElem?_set_ne (by omega)];exact u02
     ·by_cases hi:p=i9
      ·subst hi
       obtain⟨rfl,rfl⟩:=J3I.unique ht q9 kid
       rw[List.getElem?_set_self (by omega),List.getElem?_set_self (by omega)]
       exact⟨rfl,rfl⟩
      ·rw[List.getElem?_set_ne hi,List.getElem?_set_ne hi]
       refine huw2 p9 k9 i9 ?_ q9
       rcases h9 with h9 | ⟨h9,h9'⟩
       ·exact .inl h9
       ·refine .inr ⟨h9,?_⟩
        rcases Nat.lt_or_ge k9 k with h | h
        ·exact h
        ·exfalso
         obtain rfl:k9=k:=by omega
         subst h9
         obtain⟨_,_,_,q⟩:=q9
         exact hi (J2e _ _ _ _ hc1 q)
    ·have c2:decide ((k:Int)<x.kids)=false:=by simp only[decide_eq_false_iff_not];omega
     simp only[evC,seval,↓evP,rpC,v0,v4,v5,v6,v7,v8,v9,e0,l4,c2,w1]
     refine⟨hlt,hnx2,hf2,hold2,gE2,U2,W2,hU2,hW2,gU2,gW2,u02,fun p9 k9 i9 h9 q9=>huw2 p9 k9 i9 ?_ q9⟩
     rcases Nat.lt_or_ge p9 j with h | h
     ·exact .inl h
     ·refine .inr ⟨by omega,?_⟩
      obtain⟨y,hy,h5,_⟩:=q9
      obtain rfl:p9=j:=by omega
      rw[hx] at hy
      cases hy
      omega
  ·have c1:decide ((j:Int)<(l.length:Int))=false:=by simp only[decide_eq_false_iff_not];omega
   simp only[evC,seval,↓evP,rpC,hr,t0,t4,t5,t6,t7,hl22,c1]
   refine⟨U,W,⟨hU,hW,u0,fun p k i hk'=>?_⟩,gU,gW,hnx,hf1,hold⟩
   have hk:=hk'
   obtain⟨y,hy,_⟩:=hk
   exact huw p k i (by have:=(List.getElem?_eq_some_iff.1 hy).1;omega) hk'
end
def J5c (r:Nat):Code→Option Code
 | .seq a b=>match J5c r a with
  | some o=>some o
  | none=>J5c r b
 | .cond _ a b=>match J5c r a with
  | some o=>some o
  | none=>J5c r b
 | .block i c=>if i=r then some (.block i c) else J5c r c
 | .loop c=>J5c r c
 | _=>none
def J81 (fn:Func) (r:Nat):Code:=match fn.body with
 | some c=>(J5c r c).getD .skip
 | none=>.skip
noncomputable def SW85:Code:=J81 Tryz.f117 2
section
variable {call:J0r} {N:Nat}
theorem sw85 {κ n:Int} {T:Tr} {h:SHeap} {k:Kont} (hκ:T.get 59=iv κ) (h8:T.get 8=iv n) (hn:0≤n∧n<4611686018427387904)
  (hrest:∀ T':Tr,(∀ t,t≤7→T'.get t=T.get t)→T'.get 8=iv (n+J1s κ)→k.ap Tryz.prog call N .normal ⟨T',h⟩):WK Tryz.prog call N SW85 ⟨T,h⟩ k:=by
 have w:IntKind.i64.wrap (n+1)=n+1:=J0s (by omega) (by omega)
 have fin:∀ T':Tr,(∀ t,t≤7→T'.get t=T.get t)→J1s κ=1→T'.get 8=iv (n+1)→k.ap Tryz.prog call N .normal ⟨T',h⟩:=fun T' h1 h2 h3=>hrest T' h1 (by rw[h2];exact h3)
 show WK _ _ _ (.block 2 _) _ _
 by_cases e0:κ=1
 ·have d0:(κ==1)=true:=by rw[e0];rfl
  simp only[evC,seval,↓evP,rpC,hκ,h8,w,d0]
  exact fin _ (fun t ht=>by simp only[Tr.get_put,Option.some.injEq];(repeat rw[if_neg (by omega)])) (by rw[e0];rfl) (by simp only[Tr.get_put,Option.some.injEq,if_true])
 have d0:(κ==1)=false:=by simpa using e0
 by_cases e1:κ=11
 ·have d1:(κ==11)=true:=by rw[e1];rfl
  simp only[evC,seval,↓evP,rpC,hκ,h8,w,d0,d1]
  exact fin _ (fun t ht=>by simp only[Tr.get_put,Option.some.injEq];(repeat rw[if_neg (by omega)])) (by rw[e1];rfl) (by simp only[Tr.get_put,Option.some.injEq,if_true])
 have d1:(κ==11)=false:=by simpa using e1
 by_cases e2:κ=26
 ·have d2:(κ==26)=true:=by rw[e2];rfl
  simp only[evC,seval,↓evP,rpC,hκ,h8,w,d0,d1,d2]
  exact fin _ (fun t ht=>by simp only[Tr.get_put,Option.some.injEq];(repeat rw[if_neg (by omega)])) (by rw[e2];rfl) (by simp only[Tr.get_put,Option.some.injEq,if_true])
 have d2:(κ==26)=false:=by simpa using e2
 by_cases e3:κ=31
 ·have d3:(κ==31)=true:=by rw[e3];rfl
  simp only[evC,seval,↓evP,rpC,hκ,h8,w,d0,d1,d2,d3]
  exact fin _ (fun t ht=>by simp only[Tr.get_put,Option.some.injEq];(repeat rw[if_neg (by omega)])) (by rw[e3];rfl) (by simp only[Tr.get_put,Option.some.injEq,if_true])
 have d3:(κ==31)=false:=by simpa using e3
 by_cases e4:κ=32
 ·have d4:(κ==32)=true:=by rw[e4];rfl
  simp only[evC,seval,↓evP,rpC,hκ,h8,w,d0,d1,d2,d3,d4]
  exact fin _ (fun t ht=>by simp only[Tr.get_put,Option.some.injEq];(repeat rw[if_neg (by omega)])) (by rw[e4];rfl) (by simp only[Tr.get_put,Option.some.injEq,if_true])
 have d4:(κ==32)=false:=by simpa using e4
 by_cases e5:κ=35
 ·have d5:(κ==35)=true:=by rw[e5];rfl
  simp only[evC,seval,↓evP,rpC,hκ,h8,w,d0,d1,d2,d3,d4,d5]
  exact fin _ (fun t ht=>by simp only[Tr.get_put,Option.some.injEq];(repeat rw[if_neg (by omega)])) (by rw[e5];rfl) (by simp only[Tr.get_put,Option.some.injEq,if_true])
 have d5:(κ==35)=false:=by simpa using e5
 by_cases e6:κ=36
 ·have d6:(κ==36)=true:=by rw[e6];rfl
  simp only[evC,seval,↓evP,rpC,hκ,h8,w,d0,d1,d2,d3,d4,d5,d6]
  exact fin _ (fun t ht=>by simp only[Tr.get_put,Option.some.injEq];(repeat rw[if_neg (by omega)])) (by rw[e6];rfl) (by simp only[Tr.get_put,Option.some.injEq,if_true])
 have d6:(κ==36)=false:=by simpa using e6
 by_cases e7:κ=37
 ·have d7:(κ==37)=true:=by rw[e7];rfl
  simp only[evC,seval,↓evP,rpC,hκ,h8,w,d0,d1,d2,d3,d4,d5,d6,d7]
  exact fin _ (fun t ht=>by simp only[Tr.get_put,Option.some.injEq];(repeat rw[if_neg (by omega)])) (by rw[e7];rfl) (by simp only[Tr.get_put,Option.some.injEq,if_true])
 have d7:(κ==37)=false:=by simpa using e7
 by_cases e8:κ=39
 ·have d8:(κ==39)=true:=by rw[e8];rfl
  simp only[evC,seval,↓evP,rpC,hκ,h8,w,d0,d1,d2,d3,d4,d5,d6,d7,d8]
  exact fin _ (fun t ht=>by simp only[Tr.get_put,Option.some.injEq];(repeat rw[if_neg (by omega)])) (by rw[e8];rfl) (by simp only[Tr.get_put,Option.some.injEq,if_true])
 have d8:(κ==39)=false:=by simpa using e8
 by_cases e9:κ=40
 ·have d9:(κ==40)=true:=by rw[e9];rfl
  simp only[evC,seval,↓evP,rpC,hκ,h8,w,d0,d1,d2,d3,d4,d5,d6,d7,d8,d9]
  exact fin _ (fun t ht=>by simp only[Tr.get_put,Option.some.injEq];(repeat rw[if_neg (by omega)])) (by rw[e9];rfl) (by simp only[Tr.get_put,Option.some.injEq,if_true])
 have d9:(κ==40)=false:=by simpa using e9
 by_cases e10:κ=38
 ·have d10:(κ==38)=true:=by rw[e10];rfl
  simp only[evC,seval,↓evP,rpC,hκ,h8,w,d0,d1,d2,d3,d4,d5,d6,d7,d8,d9,d10]
  exact fin _ (fun t ht=>by simp only[Tr.get_put,Option.some.injEq];(repeat rw[if_neg (by omega)])) (by rw[e10];rfl) (by simp only[Tr.get_put,Option.some.injEq,if_true])
 have d10:(κ==38)=false:=by simpa using e10
 by_cases e11:κ=41
 ·have d11:(κ==41)=true:=by rw[e11];rfl
  simp only[evC,seval,↓evP,rpC,hκ,h8,w,d0,d1,d2,d3,d4,d5,d6,d7,d8,d9,d10,d11]
  exact fin _ (fun t ht=>by simp only[Tr.get_put,Option.some.injEq];(repeat rw[if_neg (by omega)])) (by rw[e11];rfl) (by simp only[Tr.get_put,Option.some.injEq,if_true])
 have d11:(κ==41)=false:=by simpa using e11
 by_cases e12:κ=42
 ·have d12:(κ==42)=true:=by rw[e12];rfl
  simp only[evC,seval,↓evP,rpC,hκ,h8,w,d0,d1,d2,d3,d4,d5,d6,d7,d8,d9,d10,d11,d12]
  exact fin _ (fun t ht=>by simp only[Tr.get_put,Option.some.injEq];(repeat rw[if_neg (by omega)])) (by rw[e12];rfl) (by simp only[Tr.get_put,Option.some.injEq,if_true])
 have d12:(κ==42)=false:=by simpa using e12
 simp only[evC,seval,↓evP,rpC,hκ,h8,w,d0,d1,d2,d3,d4,d5,d6,d7,d8,d9,d10,d11,d12]
 refine hrest _ (fun t ht=>by simp only[Tr.get_put,Option.some.injEq];(repeat rw[if_neg (by omega)])) ?_
 have h0:J1s κ=0:=by
  unfold J1s
  rw[if_neg]
  simp only[List.contains_cons,List.contains_nil,Bool.or_false,Bool.or_eq_true,beq_iff_eq]
  omega
 rw[h0,Int.add_zero]
 simp only[Tr.get_put,Option.some.injEq,Nat.reduceEqDiff,if_false]
 exact h8
end
structure OpenTo (l:List RowN) (O:List Int) (j:Nat) (most:Int):Prop where
 len:O.length=l.length
 top:0<j→∀ x,l[0]?=some x→O[0]?=some (J1s x.kind)
 kid:∀ p k i x y o,i<j→J3I l p k i→l[p]?=some x→l[i]?=some y→O[p]?=some o→O[i]?=some (o+J2i (J1f x.kind) (J1f y.kind) k+J1s y.kind)
 le:∀ (i:Nat) o,i<j→O[i]?=some o→0≤o∧o≤2*(i:Int)+2
 max:(j=0∧most=0)∨(0<j∧J6X O 0 j most)
theorem OpenTo.most {l:List RowN} {O:List Int} {j:Nat} {most:Int} (h:OpenTo l O j most):0≤most∧most≤2*(j:Int):=by
 rcases h.max with⟨_,h1⟩ | ⟨_,_,i,_,h2,h3⟩
 ·omega
 ·have:=h.le i _ h2 h3
  omega
theorem OpenTo.step {l:List RowN} {O:List Int} {j:Nat} {most n:Int} (ht:J2c l) (h:OpenTo l O j most) (hj:j<l.length)
  (hn:(j=0∧∀ x,l[0]?=some x→n=J1s x.kind)∨∃ p k x y o,J3I l p k j∧l[p]?=some x∧l[j]?=some y∧O[p]?=some o∧n=o+J2i (J1f x.kind) (J1f y.kind) k+J1s y.kind):OpenTo l (O.set j n) (j+1) (if n>most then n else most):=by
 have hlO:=h.len
 have hnle:0≤n∧n≤2*(j:Int)+2:=by
  rcases hn with⟨rfl,h1⟩ | ⟨p,k,x,y,o,h1,h2,h3,h4,rfl⟩
  ·have:=J4A l[0].kind
   have:=h1 l[0] (List.getElem?_eq_getElem hj)
   omega
  ·have:=h.le p o h1.lt h4
   have:=J4A y.kind
   have:=J6p (J1f x.kind) (J1f y.kind) k
   have:=h1.lt
   omega
 refine⟨by simpa using hlO,fun _ x hx=>?_,fun p k i x y o hi hk hx hy ho=>?_,fun i o hi ho=>?_,.inr ⟨by omega,?_⟩⟩
 ·by_cases h0:j=0
  ·subst h0
   rw[List.getElem?_set_self (by omega)]
   rcases hn with⟨_,h1⟩ | ⟨p,k,x,y,o,h1,_⟩
   ·rw[h1 x hx]
   ·have:=h1.lt;omega
  ·rw[List.getElem?_set_ne (by omega)]
   exact h.top (by omega) x hx
 ·have hlt:=hk.lt
  rw[List.getElem?_set_ne (by omega)] at ho
  by_cases hij:j=i
  ·subst hij
   rw[List.getElem?_set_self (by omega)]
   rcases hn with⟨rfl,_⟩ | ⟨p',k',x',y',o',h1,h2,h3,h4,rfl⟩
   ·omega
   ·obtain⟨rfl,rfl⟩:=J3I.unique ht hk h1
    rw[hx] at h2
    rw[hy] at h3
    rw[ho] at h4
    cases h2
    cases h3
    cases h4
    rfl
  ·rw[List.getElem?_set_ne (by omega)]
   exact h.kid p k i x y o (by omega) hk hx hy ho
 ·by_cases hij:j=i
  ·subst hij
   rw[List.getElem?_set_self (by omega)] at ho
   cases ho
   exact hnle
  ·rw[List.getElem?_set_ne (by omega)] at ho
   exact h.le i o (by omega) ho
 ·rcases h.max with⟨rfl,rfl⟩ | ⟨hp,h1,i,h2,h3,h4⟩
  ·have he:(if n>0 then n else 0)=n:=by split <;> omega
   rw[he]
   refine⟨fun i x _ hi hx=>?_,0,by omega,by omega,List.getElem?_set_self (by omega)⟩
   obtain rfl:i=0:=by omega
   rw[List.getElem?_set_self (by omega)] at hx
   cases hx
   omega
  ·refine⟨fun t x _ ht hx=>?_,?_⟩
   ·by_cases htj:j=t
    ·subst htj
     rw[List.getElem?_set_self (by omega)] at hx
     cases hx
     split <;> omega
    ·rw[List.getElem?_set_ne htj] at hx
     have:=h1 t x (by omega) (by omega) hx
     split <;> omega
   ·split
    ·exact⟨j,by omega,by omega,List.getElem?_set_self (by omega)⟩
    ·exact⟨i,h2,by omega,by rw[List.getElem?_set_ne (by omega)];exact h4⟩
theorem OpenTo.done {l:List RowN} {O:List Int} {most:Int} (ht:J2c l) (h:OpenTo l O l.length most):most=(levN l (l.length+1) 0).1:=by
 have hp:=ht.pos
 have hx:l[0]?=some l[0]:=List.getElem?_eq_getElem hp
 have hO:IsOpen l O:=⟨fun x hx=>h.top hp x hx,fun p k i x y o hk hx hy ho=>h.kid p k i x y o (List.getElem?_eq_some_iff.1 hy).1 hk hx hy ho⟩
 have h1:=(Jgn hO (l.length+1) 0 l.length _ _ ht (by omega) hx (hO.top _ hx)).1
 rw[Int.sub_self,Int.zero_add] at h1
 rcases h.max with⟨h0,_⟩ | ⟨_,h2⟩
 ·omega
 ·exact h2.unique h1
section
variable {call:J0r} {N:Nat}
theorem Ji0 {id n c:Nat} {i:Int} (h0:0≤i) (hi:i<n):J0R Tryz.prog 25 (qS id n c) (iv i)=some (qP id i.toNat):=by
 obtain⟨k,rfl⟩:∃ k:Nat,i=(k:Int):=⟨i.toNat,by omega⟩
 exact J1F (by omega)
def inB:Code→Code
 | .block _ c=>c
 | c=>c
noncomputable def B85:Code:=J81 Tryz.f117 1
noncomputable def TL85:Code:=rt (rt (inB B85))
theorem J8a {l:List RowN} {v:Value} {a:Nat} {v3 v4:Value} {y:RowN} {T:Tr} {H:SHeap} {j:Nat} {O:List Int} {most n:Int} {K:Kont} (t0:T.get 0=v) (t3:T.get 3=v3) (t4:T.get 4=v4) (t5:T.get 5=qS a l.length l.length) (t6:T.get 6=iv most) (t7:T.get 7=iv j) (t8:T.get 8=iv n)
  (hn:0≤n∧n<4611686018427387904) (hv:J0l H v l) (hy:l[j]?=some y) (gO:H.get a=.row (ints O) 3 false false) (hO:O.length=l.length) (ha:a<H.next) (hf:H.floor≤a)
  (hK:∀ T':Tr,T'.get 0=v→T'.get 3=v3→T'.get 4=v4→T'.get 5=qS a l.length l.length→T'.get 6=iv (if n+J1s y.kind>most then n+J1s y.kind else most)→T'.get 7=iv j→K.ap Tryz.prog call N .normal ⟨T',H.put a (.row (ints (O.set j (n+J1s y.kind))) 3 false false)⟩) :
  WK Tryz.prog call N TL85 ⟨T,H⟩ K:=by
 show WK _ _ _ (.seq (.seq _ SW85) (rt TL85)) _ _
 have hlt:j<l.length:=(List.getElem?_eq_some_iff.1 hy).1
 obtain⟨id,q,e0,hid,l0,l1,l2,l3,l4,lr⟩:=hv.row hy
 simp only[evB,seval,↓evP,rpC,t0,t3,t4,t5,t6,t7,t8,e0,l0]
 refine sw85 (κ:=y.kind) (n:=n) ?_ ?_ hn fun T' hT h8=>?_
 ·simp only[evC,seval,↓evP,rpC]
 ·simp only[evC,seval,↓evP,rpC,t8]
 have q0:=hT 0 (by decide)
 have q3:=hT 3 (by decide)
 have q4:=hT 4 (by decide)
 have q5:=hT 5 (by decide)
 have q6:=hT 6 (by decide)
 have q7:=hT 7 (by decide)
 simp only[evC,seval,↓evP,rpC,t0,t3,t4,t5,t6,t7] at q0 q3 q4 q5 q6 q7
 have st:=J59 (x:=n+J1s y.kind) gO (show j<O.length by omega) hf
 show WK _ _ _ (rt TL85) _ _
 cases d:decide (n+J1s y.kind>most) with
 | true=>
  rw[if_pos (by simpa using d)] at hK
  show WK _ _ _ (.seq _ _) _ _
  simp only[evC,seval,↓evP,rpD,J0G,J29,J0X,J2t,q0,q3,q4,q5,q6,q7,h8,J1F hlt,st,d]
  refine hK _ ?_ ?_ ?_ ?_ ?_ ?_ <;> simp only[evC,seval,↓evP,rpC,q0,q3,q4,q5,q6,q7,h8]
 | false=>
  rw[if_neg (by simpa using d)] at hK
  show WK _ _ _ (.seq _ _) _ _
  simp only[evC,seval,↓evP,rpD,J0G,J29,J0X,J2t,q0,q3,q4,q5,q6,q7,h8,J1F hlt,st,d]
  refine hK _ ?_ ?_ ?_ ?_ ?_ ?_ <;> simp only[evC,seval,↓evP,rpC,q0,q3,q4,q5,q6,q7,h8]
theorem J90 {l:List RowN} {v:Value} {h:SHeap} (ht:J2c l) (hv:J0l h v l) (hlen:l.length<1099511627776) (hn:l.length+3<N) (hfl:h.floor≤h.next)
  (hP:∃ h',call 129 [v] h=some (.tuple #[qS h.next l.length l.length,qS (h.next+1) l.length l.length],h') ∧
   (∃ U W,ParAt l U W∧h'.get h.next=.row (ints U) 3 false false∧h'.get (h.next+1)=.row (ints W) 3 false false∧h'.next=h.next+3∧h'.floor=h.floor∧∀ i,i<h.next→h'.get i=h.get i))
  (hL:∀ P K (k:Nat) h,1≤P∧P≤54→1≤K∧K≤54→call 130 [iv P,iv k,iv K] h=some (.bool (J4q (J1f P) (J1f K) k),h)) :
  ∃ h',J0L Tryz.prog call N 117 [v] h=some (iv (levN l (l.length+1) 0).1,h')∧∀ i,i<h.next→h'.get i=h.get i:=by
 refine J1N (R:=fun h'=>∀ i,i<h.next→h'.get i=h.get i) Tryz.func117 rfl (by simp[Tryz.f117]) ?_
 have hr:Tryz.f117.results.toList=[.tmp 2]:=rfl
 have hl22:∀ h',lenS Tryz.prog h' 22 v=some (.int .i64 l.length):=fun h'=>hv.len
 have hpos:=ht.pos
 obtain⟨h1,hP,U,W,hUW,gU,gW,hnx,hf1,hold⟩:=hP
 simp only[evC,seval,↓evP,rpC,hr,hl22,J8p hlen,hP]
 refine WK.loop (fun j s=>s.T.get 0=v∧s.T.get 3=qS h.next l.length l.length∧s.T.get 4=qS (h.next+1) l.length l.length∧s.T.get 5=qS h1.next l.length l.length∧s.T.get 7=iv j∧s.h.next=h1.next+1∧s.h.floor=h.floor∧(∀ i,i<h.next→s.h.get i=h.get i) ∧
  s.h.get h.next=.row (ints U) 3 false false∧s.h.get (h.next+1)=.row (ints W) 3 false false∧∃ O most,s.T.get 6=iv most∧s.h.get h1.next=.row (ints O) 3 false false∧OpenTo l O j most) l.length (by omega) ?_ ?_
 ·simp only[evC,↓reduceIte,Nat.reduceEqDiff,reduceCtorEq,↓evP,rpC,Nat.reduceAdd,Nat.reduceLT]
  refine⟨rfl,hf1,fun i hi=>?_,?_,?_,List.replicate l.length 0,rfl,⟨by simp,(fun h=>by omega),(fun p k i x y o h=>by omega),(fun i o h=>by omega),.inl ⟨rfl,rfl⟩⟩⟩
  ·rw[if_neg (by omega)];exact hold i hi
  ·rw[if_neg (by omega)];exact gU
  ·rw[if_neg (by omega)];exact gW
 ·rintro j ⟨T1,H⟩ hj ⟨t0,t3,t4,t5,t7,hnx1,hf2,hold1,gU1,gW1,O,most,t6,gO,hO⟩
  simp only at t0 t3 t4 t5 t6 t7 hnx1 hf2 hold1 gU1 gW1 gO
  have hmost:=hO.most
  by_cases hlt:j<l.length
  ·have c1:decide ((j:Int)<(l.length:Int))=true:=by simp only[decide_eq_true_eq];omega
   have w1:IntKind.i64.wrap ((j:Int)+1)=((j+1:Nat):Int):=J0s (by omega) (by omega)
   have hv1:J0l H v l:=hv.mono (by omega) hold1
   obtain⟨y,hy⟩:∃ y,l[j]?=some y:=⟨_,List.getElem?_eq_getElem hlt⟩
   obtain⟨id,q,e0,hid,l0,l1,l2,l3,l4,lr⟩:=hv1.row hy
   have hky:1≤y.kind∧y.kind≤54:=(ht.end hlt).kids.elim fun z hz=>by rw[hy] at hz;cases hz.1;exact hz.2.2.1
   have hoy:=J4A y.kind
   simp only[evB,seval,↓evP,rpC,t0,t3,t4,t5,t6,t7,hl22,c1]
   show WK _ _ _ B85 _ _
   have fin:∀ (n:Int),0≤n∧n<4611686018427387904→(j=0∧(∀ x,l[0]?=some x→n+J1s y.kind=J1s x.kind)∨∃ p k x y' o,J3I l p k j∧l[p]?=some x∧l[j]?=some y'∧O[p]?=some o∧n+J1s y.kind=o+J2i (J1f x.kind) (J1f y'.kind) k+J1s y'.kind) →
     OpenTo l (O.set j (n+J1s y.kind)) (j+1) (if n+J1s y.kind>most then n+J1s y.kind else most):=fun n h1 h2=>hO.step ht hlt h2
   have ha:h1.next<H.next:=by omega
   have hfa:H.floor≤h1.next:=by omega
   have po:=fun (X:SObj)=>J0b (h:=H) (i:=h1.next) (o:=X) rfl ha
   have pn:=fun (X:SObj) (i:Nat) (hi:i≠h1.next)=>J05 (h:=H) (i:=h1.next) (j:=i) (o:=X) ha (Ne.symm hi)
   rcases Nat.eq_zero_or_pos j with h0 | h0
   ·subst h0
    have hU0:=hUW.top
    have cm:decide ((-1:Int)≥0)=false:=rfl
    have o0:=fin 0 (by omega) (.inl ⟨rfl,fun x hx=>by rw[hy] at hx;cases hx;omega⟩)
    have i0:J0R Tryz.prog 25 (qS h.next l.length l.length) (iv ((0:Nat):Int))=some (qP h.next 0):=J1F (i:=0) hpos
    show WK _ _ _ (.block 1 (.seq _ (.seq _ TL85))) _ _
    simp only[evC,↓reduceIte,Nat.reduceEqDiff,reduceCtorEq,↓evP,rpC,Nat.reduceAdd,Nat.reduceLT,t0,t3,t4,t5,t6,t7,i0,gU1,J2z hU0,cm]
    refine J8a (y:=y) (O:=O) (most:=most) (n:=0) (j:=0) (a:=h1.next) ?_ rfl rfl ?_ ?_ ?_ ?_ (by omega) hv1 hy gO hO.len ha hfa fun T' u0 u3 u4 u5 u6 u7=>?_
    ·simp only[evC,seval,↓evP,rpC,t0]
    ·simp only[evC,seval,↓evP,rpC,t5]
    ·simp only[evC,seval,↓evP,rpC,t6]
    ·simp only[evC,seval,↓evP,rpC,t7]
    ·simp only[evC,seval,↓evP,rpC]
    simp only[evC,seval,↓evP,rpC,t3,t4] at u3 u4
    simp only[evC,↓reduceIte,Nat.reduceEqDiff,reduceCtorEq,↓evP,rpD,J0G,J29,J0X,J2t,Nat.reduceAdd,Nat.reduceLT,u0,u3,u4,u5,u6,u7,w1]
    exact⟨hlt,hnx1,hf2,fun i hi=>by rw[pn _ _ (by omega)];exact hold1 i hi,by rw[pn _ _ (by omega)];exact gU1,by rw[pn _ _ (by omega)];exact gW1,_,po _,o0⟩
   ·obtain⟨p,k,hk⟩:=ht.parent h0 hlt
    obtain⟨hUj,hWj⟩:=hUW.kid p k j hk
    have hpj:=hk.lt
    obtain⟨x,hx,hkx,hch⟩:=hk
    have hk:J3I l p k j:=⟨x,hx,hkx,hch⟩
    obtain⟨o,ho⟩:∃ o,O[p]?=some o:=⟨_,List.getElem?_eq_getElem (by rw[hO.len];omega)⟩
    have hole:=hO.le p o hpj ho
    have hkx1:1≤x.kind∧x.kind≤54:=(ht.end (show p<l.length by omega)).kids.elim fun z hz=>by rw[hx] at hz;cases hz.1;exact hz.2.2.1
    obtain⟨id2,q2,f0,hid2,m0,m1,m2,m3,m4,mr⟩:=hv1.row hx
    have cm:decide ((p:Int)≥0)=true:=by simp
    have hl:=fun hh=>hL x.kind y.kind k hh hkx1 hky
    have hpl:p<l.length:=by omega
    show WK _ _ _ (.block 1 (.seq _ (.seq _ TL85))) _ _
    simp only[evC,seval,↓evP,rpC,t0,t3,t4,t5,t6,t7,J1F hlt,J1F hpl,gU1,gO,J2z hUj,J2z ho,cm]
    refine WK.quiet (by kernel_rfl) ?_
    cases hlo:J4q (J1f x.kind) (J1f y.kind) k with
    | false=>
     have hI:J2i (J1f x.kind) (J1f y.kind) k=0:=by unfold J2i;rw[hlo];rfl
     have o0:=fin o (by omega) (.inr ⟨p,k,x,y,o,hk,hx,hy,ho,by rw[hI];omega⟩)
     simp only[evC,seval,↓evP,rpC,t0,t3,t4,t5,t6,t7,J1F hlt,J1F hpl,gU1,gW1,gO,J2z hUj,J2z hWj,J2z ho,cm,e0,f0,l0,m0,hl,hlo]
     refine J8a (y:=y) (O:=O) (most:=most) (n:=o) (j:=j) (a:=h1.next) ?_ rfl rfl ?_ ?_ ?_ ?_ (by omega) hv1 hy gO hO.len ha hfa fun T' u0 u3 u4 u5 u6 u7=>?_
     ·simp only[evC,seval,↓evP,rpC,t0]
     ·simp only[evC,seval,↓evP,rpC,t5]
     ·simp only[evC,seval,↓evP,rpC,t6]
     ·simp only[evC,seval,↓evP,rpC,t7]
     ·simp only[evC,seval,↓evP,rpC]
     simp only[evC,seval,↓evP,rpC,t3,t4] at u3 u4
     simp only[evC,↓reduceIte,Nat.reduceEqDiff,reduceCtorEq,↓evP,rpD,J0G,J29,J0X,J2t,Nat.reduceAdd,Nat.reduceLT,u0,u3,u4,u5,u6,u7,w1]
     exact⟨hlt,hnx1,hf2,fun i hi=>by rw[pn _ _ (by omega)];exact hold1 i hi,by rw[pn _ _ (by omega)];exact gU1,by rw[pn _ _ (by omega)];exact gW1,_,po _,o0⟩
    | true=>
     have hI:J2i (J1f x.kind) (J1f y.kind) k=1:=by unfold J2i;rw[hlo];rfl
     have o0:=fin (o+1) (by omega) (.inr ⟨p,k,x,y,o,hk,hx,hy,ho,by rw[hI]⟩)
     have w2:IntKind.i64.wrap (o+1)=o+1:=J0s (by omega) (by omega)
     simp only[evC,seval,↓evP,rpC,t0,t3,t4,t5,t6,t7,J1F hlt,J1F hpl,gU1,gW1,gO,J2z hUj,J2z hWj,J2z ho,cm,e0,f0,l0,m0,hl,hlo,w2]
     refine J8a (y:=y) (O:=O) (most:=most) (n:=o+1) (j:=j) (a:=h1.next) ?_ rfl rfl ?_ ?_ ?_ ?_ (by omega) hv1 hy gO hO.len ha hfa fun T' u0 u3 u4 u5 u6 u7=>?_
     ·simp only[evC,seval,↓evP,rpC,t0]
     ·simp only[evC,seval,↓evP,rpC,t5]
     ·simp only[evC,seval,↓evP,rpC,t6]
     ·simp only[evC,seval,↓evP,rpC,t7]
     ·simp only[evC,seval,↓evP,rpC]
     simp only[evC,seval,↓evP,rpC,t3,t4] at u3 u4
     simp only[evC,↓reduceIte,Nat.reduceEqDiff,reduceCtorEq,↓evP,rpD,J0G,J29,J0X,J2t,Nat.reduceAdd,Nat.reduceLT,u0,u3,u4,u5,u6,u7,w1]
     exact⟨hlt,hnx1,hf2,fun i hi=>by rw[pn _ _ (by omega)];exact hold1 i hi,by rw[pn _ _ (by omega)];exact gU1,by rw[pn _ _ (by omega)];exact gW1,_,po _,o0⟩
  ·have c1:decide ((j:Int)<(l.length:Int))=false:=by simp only[decide_eq_false_iff_not];omega
   have:j=l.length:=by omega
   subst this
   have e:=hO.done ht
   subst e
   simp only[evC,seval,↓evP,rpC,hr,t0,t3,t4,t5,t6,t7,hl22,c1]
   exact hold1
end
section
variable {call:J0r} {N:Nat} {h:SHeap} {lo m e r n:Nat} {nm:ByteArray} {E:List Int} {s:StN}
theorem Jaf {H:SHeap} {x:RowN} (hf:H.floor≤H.next):J0K Tryz.prog (H.push (.row zRc 60 false false)) 60 (qP H.next 0) (.agg #[.int .i64 x.kind,.string x.name,.int .i64 x.ends,.int .i64 x.n,.int .i64 x.kids])=some ((H.push (.row zRc 60 false false)).put H.next (.row (J0e x) 60 false false)):=by
 have hone:([.int .i64 x.kind,.string x.name,.int .i64 x.ends,.int .i64 x.n,.int .i64 x.kids]:List Value).all one=true:=rfl
 rw[J0X,J0h,J7F,if_pos ⟨hf,hone⟩]
 rfl
theorem J8j:flat (.agg #[.int .i64 0,.string ByteArray.empty,.int .i64 0,.int .i64 0,.int .i64 0])=true:=rfl
theorem J7m:(Value.agg #[.int .i64 0,.string ByteArray.empty,.int .i64 0,.int .i64 0,.int .i64 0]).cells.toList=zRc:=rfl
theorem J6n {l:List ThN} {x:ByteArray} (h:J30 l x=none):J3M l x 0=-1:=by have:=J58 l x 0;rw[h] at this;exact this
theorem J6W {l:List ThN} {x:ByteArray} {t:ThN} (h:J30 l x=some t):∃ k:Nat,J3M l x 0=(k:Int)∧l[k]?=some t:=by
 have:=J58 l x 0
 rw[h] at this
 obtain⟨k,h1,h2⟩:=this
 exact⟨k,by rw[h1];congr 1;omega,h2⟩
theorem JbZ {at_:Nat} {end_:Int} {x:RowN} (hp:MkRE h lo m e r n nm E s) (hx:s.rows[at_]?=some x) (hd:J0j x.kind≠0) (hn:at_<1099511627776) (hE:E[at_]?=some end_) (he:0≤end_) (hth:s.things.length<100000) (hN:100004<N)
  (hfind:∀ (y:ByteArray) H tag V C,MkR H lo m e r n nm E tag V C s→call 118 [qP m 0,.string y] H=some (iv (J3M s.things y 0),H))
  (h87:∀ k h',call 119 [iv k] h'=some (iv (J3g k),h')) :
  ∃ h',J0L Tryz.prog call N 81 [qP m 0,iv at_,iv (J0j x.kind)] h=some (iv (J25 x s),h')∧(AftR h h' lo∧(J25 x s=0→MkRE h' lo m e r n nm E (J0W at_ end_ x s))):=by
 obtain⟨tag,V,hp,hw⟩:=hp
 refine J1N (R:=fun h'=>AftR h h' lo∧(J25 x s=0→MkRE h' lo m e r n nm E (J0W at_ end_ x s))) Tryz.func81 rfl (by simp[Tryz.f81]) ?_
 have hr:Tryz.f81.results.toList=[.tmp 6]:=rfl
 generalize hKK:Kont.top (fun ex s_1=>(ex=SExit.normal∨ex=SExit.ret)∧∃ vs,resS Tryz.prog s_1 Tryz.f81.results.toList=some vs∧resV vs=iv (J25 x s)∧AftR h s_1.h lo∧(J25 x s=0→MkRE s_1.h lo m e r n nm E (J0W at_ end_ x s)))=K
 have fin:∀ (T':Tr) H v,T'.get 6=iv v→v=J25 x s→AftR h H lo→(v=0→MkRE H lo m e r n nm E (J0W at_ end_ x s))→K.ap Tryz.prog call N .ret ⟨T',H⟩:=fun T' H v h6 hv ha hb=>by
  subst hv
  rw[← hKK]
  simp only[evC,↓reduceIte,Nat.reduceEqDiff,reduceCtorEq,↓evP,rpC,Nat.reduceAdd,Nat.reduceLT,hr,h6]
  exact⟨ha,hb⟩
 show WK _ _ _ (.seq _ (.seq _ (.seq _ Q4))) _ _
 have hm1:=hp.c1
 obtain⟨hlt,l0,l1,l3,lr⟩:=hp.row hx
 have hdl:=J3c x.kind
 have hlo:lo≤h.next∧h.floor≤h.next:=by have:=hp.lm;have:=hp.fl;omega
 have hrc:=Jaf (x:=x) hlo.2
 simp only[evC,↓reduceIte,Nat.reduceEqDiff,reduceCtorEq,↓evP,rpD,Nat.reduceAdd,Nat.reduceLT,J8j,J7m,J0z,J0y,J0F,hm1,J4z hlt,lr,hrc]
 have hb:((h.push (.row zRc 60 false false)).put h.next (.row (J0e x) 60 false false)).get h.next=.row (J0e x) 60 false false:=J0b rfl (by show h.next<h.next+1;omega)
 have hp1:=((hp.retag (tag':=fun i=>if i=h.next then 11 else tag i) (fun i hi=>if_neg (by omega))).putNew (o:=.row (J0e x) 60 false false) (o':=.row zRc 60 false false))
 have ho:∀ i,i<h.next→((h.push (.row zRc 60 false false)).put h.next (.row (J0e x) 60 false false)).get i=h.get i:=fun i hi=>by rw[J05 (by show h.next<h.next+1;omega) (by omega),J06 hi]
 have hn1:((h.push (.row zRc 60 false false)).put h.next (.row (J0e x) 60 false false)).next=h.next+1:=rfl
 have hf1:((h.push (.row zRc 60 false false)).put h.next (.row (J0e x) 60 false false)).floor=h.floor:=rfl
 generalize (h.push (.row zRc 60 false false)).put h.next (.row (J0e x) 60 false false)=H1 at *
 have hfc:=hfind x.name H1 _ V _ hp1
 have lb1:ld1 1 (H1.get h.next)=some (.string x.name):=by rw[hb];rfl
 have aft1:AftR h H1 lo:=⟨fun i hi=>ho i (by omega),by omega,hf1⟩
 cases hf:J30 s.things x.name with
 | some t=>
  obtain⟨k,hk,_⟩:=J6W hf
  have c1:decide ((k:Int)≥0)=true:=by simp
  rw[hk] at hfc
  simp only[evC,seval,↓evP,rpC,lb1,hfc,c1]
  exact fin _ _ 31 (by simp only[Tr.get_put,if_true]) (by unfold J25;rw[if_neg hd,if_pos (by rw[hf];rfl)]) aft1 fun h=>by cases h
 | none=>
  have hE1:¬ (J30 s.things x.name).isSome=true:=by rw[hf];simp
  rw[J6n hf] at hfc
  have c1:decide ((-1:Int)≥0)=false:=rfl
  simp only[evC,seval,↓evP,rpC,lb1,hfc,c1]
  have cle:=JdD hw (J0j x.kind)
  refine Jiv (b:=h.next) (end_:=end_) hp1 hx (by omega) hdl.2 hw hth hE (fun h'=>h87 _ h') ?_ ?_ ?_ ?_ hb (by omega) (if_pos rfl) (fun T' hc h6=>?_) fun T2 H2 tag2 V2 hc hT2 hp2 htg2 ho2 hn2 hf2=>?_
  ·simp only[evC,seval,↓evP,rpC]
  ·simp only[evC,seval,↓evP,rpC]
  ·simp only[evC,seval,↓evP,rpC]
  ·simp only[evC,seval,↓evP,rpC]
  ·exact fin _ _ 3 h6 (by unfold J25;rw[if_neg hd,if_neg hE1,if_pos hc]) aft1 fun h=>by cases h
  ·have hq:=hw.q;have hv:=hw.v;have ht:=hw.t;have hu:=hw.u;have ho':=hw.o
   have g0:=hT2 0 (by decide) (by decide) (by decide)
   have g1:=hT2 1 (by decide) (by decide) (by decide)
   have g2:=hT2 2 (by decide) (by decide) (by decide)
   have g7:=hT2 7 (by decide) (by decide) (by decide)
   simp only[evC,seval,↓evP,rpC] at g0 g1 g2 g7
   refine Jek (b:=h.next) (x:=x) (kd:=J0j x.kind) hp2 (by omega) hdl.2 hn ⟨by show s.queues.length<1000;omega,by show s.vars.length<1000;omega,by show s.tags.length<1000;omega,by show s.rules.length<1000;omega,by show s.on.length<1000;omega⟩ g0 g1 g2 g7
    (by rw[ho2 h.next (by omega) (.inr (if_pos rfl))];exact hb) (by omega) ((htg2 _ (by omega)).trans (if_pos rfl)) fun T3 H3 tag3 V3 h6 hp3 ho3 hn3 hf3=>?_
   have hS:J0W at_ end_ x s=addN at_ end_ x s:=by unfold J0W;rw[if_neg hd]
   refine fin _ _ 0 h6 (by unfold J25;rw[if_neg hd,if_neg hE1,if_neg hc]) ⟨fun i hi=>by rw[ho3 i (by omega) hi,ho2 i (by omega) (.inl hi),ho i (by omega)],by omega,by omega⟩ fun _=>?_
   rw[hS]
   refine⟨tag3,V3,?_,JcU hw hd hc he⟩
   rw[Jfi (at_:=at_) (x:=x) (by omega) hdl.2] at hp3
   exact hp3
theorem J9A {at_:Nat} {x:RowN} (hp:MkRE h lo m e r n nm E s) (hx:s.rows[at_]?=some x) (hd:J1O x.kind≠0) (hn:at_<1099511627776)
  (hfind:∀ (y:ByteArray) H tag V C,MkR H lo m e r n nm E tag V C s→call 118 [qP m 0,.string y] H=some (iv (J3M s.things y 0),H)) :
  ∃ h',J0L Tryz.prog call N 83 [qP m 0,iv at_,iv (J1O x.kind)] h=some (iv (J1v at_ x s),h')∧(AftR h h' lo∧(J1v at_ x s=0→MkRE h' lo m e r n nm E (J0D at_ x s))):=by
 obtain⟨tag,V,hp,hw⟩:=hp
 refine J1N (R:=fun h'=>AftR h h' lo∧(J1v at_ x s=0→MkRE h' lo m e r n nm E (J0D at_ x s))) Tryz.func83 rfl (by simp[Tryz.f83]) ?_
 have hr:Tryz.f83.results.toList=[.tmp 6]:=rfl
 generalize hKK:Kont.top (fun ex s_1=>(ex=SExit.normal∨ex=SExit.ret)∧∃ vs,resS Tryz.prog s_1 Tryz.f83.results.toList=some vs∧resV vs=iv (J1v at_ x s)∧AftR h s_1.h lo∧(J1v at_ x s=0→MkRE s_1.h lo m e r n nm E (J0D at_ x s)))=K
 have fin:∀ (T':Tr) H v,T'.get 6=iv v→v=J1v at_ x s→AftR h H lo→(v=0→MkRE H lo m e r n nm E (J0D at_ x s))→K.ap Tryz.prog call N .ret ⟨T',H⟩:=fun T' H v h6 hv ha hb=>by
  subst hv
  rw[← hKK]
  simp only[evC,↓reduceIte,Nat.reduceEqDiff,reduceCtorEq,↓evP,rpC,Nat.reduceAdd,Nat.reduceLT,hr,h6]
  exact⟨ha,hb⟩
 have c1:=hp.c1
 have c9:=hp.c9
 obtain⟨hlt,l0,l1,l3,lr⟩:=hp.row hx
 have hfc:=hfind x.name h tag V _ hp
 have aft0:AftR h h lo:=⟨fun _ _=>rfl,Nat.le_refl _,rfl⟩
 show WK _ _ _ (.seq _ _) _ _
 cases hf:J30 s.things x.name with
 | none=>
  rw[J6n hf] at hfc
  have d1:decide ((-1:Int)<0)=true:=rfl
  simp only[evC,seval,↓evP,rpC,J0z,J0y,J0F,c1,J4z hlt,J07,l1,hfc,d1]
  exact fin _ _ 32 (by simp only[Tr.get_put,if_true]) (by unfold J1v;rw[if_neg hd,hf]) aft0 fun h=>by cases h
 | some t=>
  obtain⟨k,hk,hkt⟩:=J6W hf
  have hkl:=(List.getElem?_eq_some_iff.1 hkt).1
  rw[hk] at hfc
  have d1:decide ((k:Int)<0)=false:=by simp
  rcases hp.sl 8 (by decide) (by decide) with⟨h1,_⟩ | ⟨id,ex,hv8,hg,_,_,_⟩
  ·have:s.things.length=0:=h1
   omega
  ·have hg':h.get id=.row (J4t s.things++ex) 135 true false:=hg
   have hv8':V 8=qS id s.things.length unk:=hv8
   have l1':ld1 (k*4+1) (h.get id)=some (iv t.kind):=by rw[hg'];exact J4I (j:=1) ex hkt (by decide)
   have l2':ld1 (k*4+2) (h.get id)=some (iv t.num):=by rw[hg'];exact J4I (j:=2) ex hkt (by decide)
   have l3':ld1 (k*4+3) (h.get id)=some (iv t.known):=by rw[hg'];exact J4I (j:=3) ex hkt (by decide)
   cases d2:decide (t.known>(at_:Int)) with
   | true=>
    simp only[evC,seval,↓evP,rpC,J0z,J3K,J0y,J0F,J4B,c1,c9,hv8',J4z hlt,Jd8 hkl,J07,J7Z,l1,l3',hfc,d1,d2]
    exact fin _ _ 32 (by simp only[Tr.get_put,if_true]) (by unfold J1v;rw[if_neg hd,hf];simp only;rw[if_pos (by simpa using d2)]) aft0 fun h=>by cases h
   | false=>
    cases d3:(t.kind != J1O x.kind) with
    | true=>
     simp only[evC,seval,↓evP,rpC,J0z,J3K,J0y,J0F,J4B,c1,c9,hv8',J4z hlt,Jd8 hkl,J07,J7Z,JaE,l1,l3',l1',hfc,d1,d2,d3]
     exact fin _ _ 33 (by simp only[Tr.get_put,if_true]) (by unfold J1v;rw[if_neg hd,hf];simp only;rw[if_neg (by simpa using d2),if_pos (by simpa using d3)]) aft0 fun h=>by cases h
    | false=>
     have hst:=stc (off:=at_*5+3) sz3 (v:=iv t.num) rfl rfl hp.rows (by rw[J0N];have:=hp.len;omega) (by have:=hp.fl;have:=hp.lr.1;omega)
     rw[J3N hx] at hst
     have hp3:=hp.rowsW (l:=setN s.rows at_ t.num) J4N
     simp only[evC,seval,↓evP,rpC,J0z,J3K,J0y,J0F,J4B,c1,c9,hv8',J4z hlt,Jd8 hkl,J07,J7Z,JaE,l1,l3',l1',hfc,d1,d2,d3]
     refine WK.quiet (by kernel_rfl) ?_
     simp only[evC,seval,↓evP,rpD,J0G,J29,J0X,J2t,J0z,J3K,J0y,J0F,J4B,c1,c9,hv8',J4z hlt,Jd8 hkl,J0O,JeE,l2',hst]
     refine fin _ _ 0 (by simp only[Tr.get_put,if_true]) (by unfold J1v;rw[if_neg hd,hf];simp only;rw[if_neg (by simpa using d2),if_neg (by simpa using d3)]) ⟨fun i hi=>J05 hp.lr.2 (by have:=hp.lr;omega),Nat.le_refl _,rfl⟩ fun _=>?_
     have hS:J0D at_ x s={ s with rows:=setN s.rows at_ t.num }:=by unfold J0D;rw[if_neg hd,hf]
     rw[hS]
     exact⟨tag,V,hp3,⟨hw.q,hw.v,hw.t,hw.u,hw.o,hw.th⟩⟩
theorem J9Q {at_:Nat} {x:RowN} (hp:MkRE h lo m e r n nm E s) (hx:s.rows[at_]?=some x) (hev:J0E x.kind=true) (hn:at_<1099511627776) (hxn:x.kind≠10→0≤x.n∧x.n<s.on.length) :
  ∃ h',J0L Tryz.prog call N 85 [qP m 0,iv at_] h=some (iv (evE x s),h')∧(AftR h h' lo∧(evE x s=0→MkRE h' lo m e r n nm E (evS at_ x s))):=by
 obtain⟨tag,V,hp,hw⟩:=hp
 refine J1N (R:=fun h'=>AftR h h' lo∧(evE x s=0→MkRE h' lo m e r n nm E (evS at_ x s))) Tryz.func85 rfl (by simp[Tryz.f85]) ?_
 have hr:Tryz.f85.results.toList=[.tmp 4]:=rfl
 generalize hKK:Kont.top (fun ex s_1=>(ex=SExit.normal∨ex=SExit.ret)∧∃ vs,resS Tryz.prog s_1 Tryz.f85.results.toList=some vs∧resV vs=iv (evE x s)∧AftR h s_1.h lo∧(evE x s=0→MkRE s_1.h lo m e r n nm E (evS at_ x s)))=K
 have fin:∀ (T':Tr) H v,T'.get 4=iv v→v=evE x s→AftR h H lo→(v=0→MkRE H lo m e r n nm E (evS at_ x s))→K.ap Tryz.prog call N .ret ⟨T',H⟩:=fun T' H v h6 hv ha hb=>by
  subst hv
  rw[← hKK]
  simp only[evC,↓reduceIte,Nat.reduceEqDiff,reduceCtorEq,↓evP,rpC,Nat.reduceAdd,Nat.reduceLT,hr,h6]
  exact⟨ha,hb⟩
 have hm1:=hp.c1
 obtain⟨hlt,l0,l1,l3,lr⟩:=hp.row hx
 have hlo:lo≤h.next∧h.floor≤h.next:=by have:=hp.lm;have:=hp.fl;omega
 have hrc:=Jaf (x:=x) hlo.2
 have w1:IntKind.i64.wrap ((at_:Int)+1)=(at_:Int)+1:=J0s (by omega) (by omega)
 show WK _ _ _ (.seq _ (.seq _ (.seq (.seq _ (.cond _ _ _)) _))) _ _
 simp only[evC,↓reduceIte,Nat.reduceEqDiff,reduceCtorEq,↓evP,rpD,Nat.reduceAdd,Nat.reduceLT,J8j,J7m,J0z,J0y,J0F,hm1,J4z hlt,lr,hrc]
 have hb:((h.push (.row zRc 60 false false)).put h.next (.row (J0e x) 60 false false)).get h.next=.row (J0e x) 60 false false:=J0b rfl (by show h.next<h.next+1;omega)
 have hp1:=hp.putNew (o:=.row (J0e x) 60 false false) (o':=.row zRc 60 false false)
 have ho:∀ i,i<h.next→((h.push (.row zRc 60 false false)).put h.next (.row (J0e x) 60 false false)).get i=h.get i:=fun i hi=>by rw[J05 (by show h.next<h.next+1;omega) (by omega),J06 hi]
 have hn1:((h.push (.row zRc 60 false false)).put h.next (.row (J0e x) 60 false false)).next=h.next+1:=rfl
 have hf1:((h.push (.row zRc 60 false false)).put h.next (.row (J0e x) 60 false false)).floor=h.floor:=rfl
 generalize (h.push (.row zRc 60 false false)).put h.next (.row (J0e x) 60 false false)=H1 at *
 have lb0:ld1 0 (H1.get h.next)=some (iv x.kind):=by rw[hb];rfl
 have lb3:ld1 3 (H1.get h.next)=some (iv x.n):=by rw[hb];rfl
 have aft1:AftR h H1 lo:=⟨fun i hi=>ho i (by omega),by omega,hf1⟩
 have hev':¬ J0E x.kind=false:=by rw[hev];simp
 have c7:=hp1.c7
 have c6:=hp1.c6
 by_cases h10:x.kind=10
 ·have d0:(x.kind==10)=true:=by simpa using h10
  cases d1:decide (s.miss≥0) with
  | true=>
   simp only[evC,seval,↓evP,rpC,J0z,J38,lb0,d0,c7,d1]
   exact fin _ _ 31 (by simp only[Tr.get_put,if_true]) (by unfold evE;rw[if_neg hev',if_pos h10,if_pos (by simpa using d1)]) aft1 fun h=>by cases h
  | false=>
   have sM:=hp1.stM (x:=(at_:Int)+1)
   simp only[evC,seval,↓evP,rpD,J0G,J29,J0X,J2t,J0z,J38,lb0,d0,c7,d1,w1,sM]
   refine fin _ _ 0 (by simp only[Tr.get_put,if_true]) (by unfold evE;rw[if_neg hev',if_pos h10,if_neg (by simpa using d1)]) ⟨fun i hi=>?_,by show h.next≤H1.next;omega,hf1⟩ fun _=>?_
   ·rw[J05 hp1.lm.2 (by have:=hp1.lm;omega)];exact ho i (by omega)
   ·have hS:evS at_ x s={ s with miss:=(at_:Int)+1 }:=by unfold evS;rw[if_neg hev',if_pos h10]
    rw[hS]
    exact⟨tag,V,hp1.cellW (C':=cntL s) (miss':=(at_:Int)+1),⟨hw.q,hw.v,hw.t,hw.u,hw.o,hw.th⟩⟩
 ·have d0:(x.kind==10)=false:=by simpa using h10
  obtain⟨hx0,hx1⟩:=hxn h10
  obtain⟨v,hv⟩:∃ v,s.on[x.n.toNat]?=some v:=⟨_,List.getElem?_eq_getElem (by omega)⟩
  rcases hp1.sl 6 (by decide) (by decide) with⟨h1,_⟩ | ⟨id,ex,hv6,hg,hl1,hl2,htg⟩
  ·have:s.on.length=0:=h1
   omega
  ·have hg':H1.get id=.row (ints s.on++ex) 3 true false:=hg
   have hv6':V 6=qS id s.on.length unk:=hv6
   have hon:=J6V (l:=s.on) (ex:=ex) (ty:=3) (g:=true) (ro:=false) hv
   rw[← hg'] at hon
   have hix:J0R Tryz.prog 25 (qS id s.on.length unk) (iv x.n)=some (qP id x.n.toNat):=Ji0 hx0 hx1
   cases d1:decide (v≥0) with
   | true=>
    simp only[evC,seval,↓evP,rpC,lb0,d0]
    refine WK.quiet (by kernel_rfl) ?_
    simp only[evC,seval,↓evP,rpC,J0z,J1T,J0n,c6,hv6',J0O,lb3,hix,hon,d1]
    exact fin _ _ 31 (by simp only[Tr.get_put,if_true]) (by unfold evE;rw[if_neg hev',if_neg h10,hv];simp only;rw[if_pos (by simpa using d1)]) aft1 fun h=>by cases h
   | false=>
    have hlen:=J1h s.on
    have hst:=stc (off:=x.n.toNat) sz3 (v:=iv ((at_:Int)+1)) rfl rfl hg' (by rw[List.length_append,hlen];omega) (by have:=hp1.fl;omega)
    rw[List.set_append_left _ _ (by omega),J66] at hst
    have hpW:=hp1.slotW (j:=6) (s':={ s with on:=s.on.set x.n.toNat ((at_:Int)+1) }) (by decide) (by decide) (ex:=ex) hv6 htg ⟨hl1,hl2⟩ rfl rfl (by simp[slN]) (fun i hi=>by
     unfold slN slC
     split <;> simp_all)
    simp only[evC,seval,↓evP,rpC,lb0,d0]
    refine WK.quiet (by kernel_rfl) ?_
    simp only[evC,seval,↓evP,rpC,J0z,J1T,J0n,c6,hv6',J0O,lb3,hix,hon,d1]
    refine WK.quiet (by kernel_rfl) ?_
    simp only[evC,seval,↓evP,rpD,J0G,J29,J0X,J2t,J0z,J1T,J0n,c6,hv6',J0O,lb3,hix,hon,d1,w1,hst]
    refine fin _ _ 0 (by simp only[Tr.get_put,if_true]) (by unfold evE;rw[if_neg hev',if_neg h10,hv];simp only;rw[if_neg (by simpa using d1)]) ⟨fun i hi=>?_,by show h.next≤H1.next;omega,hf1⟩ fun _=>?_
    ·rw[J05 hl2 (by omega)];exact ho i (by have:=hp.lm;omega)
    ·have hS:evS at_ x s={ s with on:=s.on.set x.n.toNat ((at_:Int)+1) }:=by unfold evS;rw[if_neg hev',if_neg h10]
     rw[hS]
     exact⟨tag,V,hpW,⟨hw.q,hw.v,hw.t,hw.u,by simp only[List.length_set];exact hw.o,hw.th⟩⟩
end
def J0p (lo:Nat) (h:SHeap) (v:Value) (n w:Nat) (cs:List Value):Prop:=
 cs.length=n*w∧∃ a c,v=.slice a n c∧((n=0∧a=none)∨∃ id off row ty g ro,a=some ⟨id,off,none⟩∧h.get id=.row row ty g ro∧(lo≤id∧id<h.next)∧(row.drop off).take (n*w)=cs∧(0<lo→ro=false))
section
variable {lo:Nat} {h h':SHeap} {v:Value} {n w:Nat} {cs:List Value}
theorem J0p.mono (hc:J0p lo h v n w cs) (hn:h.next≤h'.next) (hg:∀ i,lo≤i→i<h.next→h'.get i=h.get i):J0p lo h' v n w cs:=by
 obtain⟨hl,a,c,rfl,h1 | ⟨id,off,row,ty,g,ro,rfl,h1,h2,h3⟩⟩:=hc
 ·exact⟨hl,_,_,rfl,.inl h1⟩
 ·exact⟨hl,_,_,rfl,.inr ⟨id,off,row,ty,g,ro,rfl,by rw[hg id h2.1 h2.2];exact h1,by omega,h3⟩⟩
theorem J0p.weak (hc:J0p lo h v n w cs) {lo':Nat} (hl:lo'≤lo):J0p lo' h v n w cs:=by
 obtain⟨hl',a,c,rfl,h1 | ⟨id,off,row,ty,g,ro,rfl,h1,h2,h3⟩⟩:=hc
 ·exact⟨hl',_,_,rfl,.inl h1⟩
 ·exact⟨hl',_,_,rfl,.inr ⟨id,off,row,ty,g,ro,rfl,h1,by omega,h3.1,fun h=>h3.2 (by omega)⟩⟩
theorem J0p.len (hc:J0p lo h v n w cs) {t e:TypeId} (ht:Tryz.prog.underlying t=some (.slice e)) {h':SHeap}:lenS Tryz.prog h' t v=some (iv (n:Int)):=by
 obtain⟨_,a,c,rfl,_⟩:=hc
 simp[lenS,ht]
theorem J0p.idx (hc:J0p lo h v n w cs) {t e:TypeId} (ht:Tryz.prog.underlying t=some (.slice e)) (he:szOf Tryz.prog e=some w) {i:Nat} (hi:i<n) :
  ∃ id p,J0R Tryz.prog t v (iv (i:Int))=some (qP id p)∧id<h.next∧∀ j,j<w→ld1 (p+j) (h.get id)=cs[i*w+j]?:=by
 obtain⟨hl,a,c,rfl,⟨h0,_⟩ | ⟨id,off,row,ty,g,ro,rfl,h1,h2,h3⟩⟩:=hc
 ·omega
 ·refine⟨id,off+i*w,?_,h2.2,fun j hj=>?_⟩
  ·simp only[J0R,ht,he,J0q]
   rw[if_pos (by omega)]
   simp
  ·have hlt:i*w+j<n*w:=by
    have:(i+1)*w≤n*w:=Nat.mul_le_mul_right w hi
    rw[Nat.add_mul] at this
    omega
   rw[h1,← h3.1,List.getElem?_take_of_lt hlt,List.getElem?_drop]
   simp only[ld1]
   congr 1
   omega
theorem J0p.whole (hc:J0p lo h v n w cs) {t e:TypeId} (ht:Tryz.prog.underlying t=some (.slice e)) (he:szOf Tryz.prog e=some w) {i:Nat} (hi:i<n) :
  ∃ id p,J0R Tryz.prog t v (iv (i:Int))=some (qP id p)∧id<h.next∧ldN w p (h.get id)=some (.agg ((cs.drop (i*w)).take w).toArray):=by
 obtain⟨hl,a,c,rfl,⟨h0,_⟩ | ⟨id,off,row,ty,g,ro,rfl,h1,h2,h3⟩⟩:=hc
 ·omega
 ·have hle:i*w+w≤n*w:=by
   have:(i+1)*w≤n*w:=Nat.mul_le_mul_right w hi
   rw[Nat.add_mul] at this
   omega
  have e1:(cs.drop (i*w)).take w=(row.drop (off+i*w)).take w:=by
   rw[← h3.1,List.drop_take,List.drop_drop,List.take_take]
   congr 1
   omega
  have e2:((cs.drop (i*w)).take w).length=w:=by
   rw[List.length_take,List.length_drop,hl]
   omega
  refine⟨id,off+i*w,?_,h2.2,?_⟩
  ·simp only[J0R,ht,he,J0q]
   rw[if_pos (by omega)]
   simp
  ·rw[h1]
   simp only[ldN,cut,← e1,e2,if_true]
theorem J0p.src (hc:J0p lo h v n w cs):J16 h w n v=some cs:=by
 obtain⟨hl,a,c,rfl,⟨h0,rfl⟩ | ⟨id,off,row,ty,g,ro,rfl,h1,h2,h3⟩⟩:=hc
 ·subst h0
  rw[Nat.zero_mul] at hl
  rw[List.length_eq_zero_iff.1 hl]
  rfl
 ·by_cases h0:n=0
  ·subst h0
   rw[Nat.zero_mul] at hl
   rw[List.length_eq_zero_iff.1 hl]
   simp[J16]
  ·simp only[J16,h0,if_false,h1,cut,h3.1,hl,if_true]
theorem J0p.nil (lo:Nat) (h:SHeap) (w:Nat):J0p lo h (Z0) 0 w []:=⟨by simp,none,0,rfl,.inl ⟨rfl,rfl⟩⟩
theorem J0p.rowR {r:Nat} {ty:TypeId} {g ro:Bool} {ex:List Value} {c:Nat} (hg:h.get r=.row (cs++ex) ty g ro) (hr:lo≤r∧r<h.next) (hl:cs.length=n*w) (hro:0<lo→ro=false):J0p lo h (qS r n c) n w cs:=
 ⟨hl,_,_,rfl,.inr ⟨r,0,_,_,_,_,rfl,hg,hr,by rw[List.drop_zero,List.take_append_of_le_length (by omega),List.take_of_length_le (by omega)],hro⟩⟩
theorem J0p.row {r:Nat} {ty:TypeId} {g:Bool} {ex:List Value} {c:Nat} (hg:h.get r=.row (cs++ex) ty g false) (hr:lo≤r∧r<h.next) (hl:cs.length=n*w):J0p lo h (qS r n c) n w cs:=J0p.rowR hg hr hl fun _=>rfl
theorem J0p.one (hc:J0p lo h v n w cs):one v=true:=by
 obtain⟨_,a,c,rfl,_⟩:=hc
 rfl
theorem SlAt.cells {tag:Nat→Nat} {j:Nat} {ty:TypeId} (hs:SlAt h lo tag j v n cs ty) (hl:cs.length=n*w):J0p lo h v n w cs:=by
 rcases hs with⟨rfl,rfl,rfl⟩ | ⟨id,ex,rfl,h2,h3,h4,h5⟩
 ·exact J0p.nil lo h w
 ·exact J0p.row h2 ⟨h3,h4⟩ hl
end
def J1S (lo:Nat) (h:SHeap) (v:Value) (l:List Int):Prop:=J0p lo h v l.length 1 (ints l)
section
variable {lo:Nat} {h h':SHeap} {v:Value} {l:List Int}
theorem J1S.mono (hc:J1S lo h v l) (hn:h.next≤h'.next) (hg:∀ i,lo≤i→i<h.next→h'.get i=h.get i):J1S lo h' v l:=J0p.mono hc hn hg
theorem J1S.weak (hc:J1S lo h v l) {lo':Nat} (hl:lo'≤lo):J1S lo' h v l:=J0p.weak hc hl
theorem J1S.len (hc:J1S lo h v l) {h':SHeap}:lenS Tryz.prog h' 25 v=some (iv (l.length:Int)):=J0p.len hc Tryz.underlying25
theorem J1S.get (hc:J1S lo h v l) {i:Nat} {x:Int} (hx:l[i]?=some x):∃ id p,J0R Tryz.prog 25 v (iv (i:Int))=some (qP id p)∧id<h.next∧ld1 p (h.get id)=some (iv x):=by
 obtain⟨id,p,h1,h2,h3⟩:=J0p.idx hc Tryz.underlying25 sz3 (List.getElem?_eq_some_iff.1 hx).1
 refine⟨id,p,h1,h2,?_⟩
 have:=h3 0 (by decide)
 rw[Nat.add_zero] at this
 rw[this,Nat.mul_one,Nat.add_zero,J6g,hx]
 rfl
theorem J1S.row {r:Nat} {ty:TypeId} {g:Bool} {ex:List Value} {c n:Nat} (hg:h.get r=.row (ints l++ex) ty g false) (hr:lo≤r∧r<h.next) (hn:n=l.length):J1S lo h (qS r n c) l:=by
 subst hn
 exact J0p.row hg hr (by rw[J1h,Nat.mul_one])
theorem J1S.row' {r:Nat} {ty:TypeId} {g:Bool} {c n:Nat} (hg:h.get r=.row (ints l) ty g false) (hr:lo≤r∧r<h.next) (hn:n=l.length):J1S lo h (qS r n c) l:=J1S.row (ex:=[]) (by rw[List.append_nil];exact hg) hr hn
end
def J3P (lo:Nat) (h:SHeap) (v:Value) (l:List RowN):Prop:=J0l h v l∧J0p lo h v l.length 5 (l.flatMap J0e)
theorem J3P.of {lo:Nat} {h:SHeap} {v:Value} {l:List RowN} (hc:J0p lo h v l.length 5 (l.flatMap J0e)):J3P lo h v l:=by
 refine⟨?_,hc⟩
 obtain⟨hl,a,c,rfl,⟨h0,rfl⟩ | ⟨id,off,row,ty,g,ro,rfl,h1,h2,h3⟩⟩:=hc
 ·exact⟨_,_,rfl,.inl ⟨List.length_eq_zero_iff.1 h0,rfl⟩⟩
 ·refine⟨_,_,rfl,.inr ⟨id,off,row,ty,g,ro,rfl,h1,h2.2,fun k r hk=>?_⟩⟩
  have hlt:=(List.getElem?_eq_some_iff.1 hk).1
  rw[← J2Y hk,← h3.1,List.drop_take,List.drop_drop,List.take_take]
  congr 1
  have:k*5+5≤l.length*5:=by omega
  omega
theorem J3P.mono {lo:Nat} {h h':SHeap} {v:Value} {l:List RowN} (hc:J3P lo h v l) (hn:h.next≤h'.next) (hg:∀ i,lo≤i→i<h.next→h'.get i=h.get i):J3P lo h' v l:=J3P.of (hc.2.mono hn hg)
theorem J0l.cells {h:SHeap} {v:Value} {l:List RowN} (hv:J0l h v l):J3P 0 h v l:=by
 have hs:=J0N l
 refine J3P.of ⟨hs,?_⟩
 obtain⟨a,c,rfl,⟨rfl,rfl⟩ | ⟨id,off,cs,ty,g,ro,rfl,hg,hid,hc⟩⟩:=hv
 ·exact⟨_,_,rfl,.inl ⟨rfl,rfl⟩⟩
 ·exact⟨_,_,rfl,.inr ⟨id,off,cs,ty,g,ro,rfl,hg,⟨Nat.zero_le _,hid⟩,J5N l cs off hc,fun h=>absurd h (Nat.lt_irrefl 0)⟩⟩
def J3x (lo:Nat) (h:SHeap) (pv:Value) (nm:ByteArray) (s:StN):Prop:=
 ∃ vr vq vv vt vu vo,pv=.agg #[.string nm,vr,vq,vv,vt,vu,vo,iv s.miss]∧J3P lo h vr s.rows∧J0p lo h vq s.queues.length 2 (J3S s.queues)∧J0p lo h vv s.vars.length 1 (strs s.vars)∧J0p lo h vt s.tags.length 1 (strs s.tags)∧J1S lo h vu s.rules∧J1S lo h vo s.on
theorem J3x.mono {lo:Nat} {h h':SHeap} {pv:Value} {nm:ByteArray} {s:StN} (hp:J3x lo h pv nm s) (hn:h.next≤h'.next) (hg:∀ i,lo≤i→i<h.next→h'.get i=h.get i):J3x lo h' pv nm s:=by
 obtain⟨vr,vq,vv,vt,vu,vo,h1,h2,h3,h4,h5,h6,h7⟩:=hp
 exact⟨vr,vq,vv,vt,vu,vo,h1,h2.mono hn hg,h3.mono hn hg,h4.mono hn hg,h5.mono hn hg,h6.mono hn hg,h7.mono hn hg⟩
theorem J0l.one {h:SHeap} {v:Value} {l:List RowN} (hv:J0l h v l):one v=true:=by
 obtain⟨a,c,rfl,_⟩:=hv
 rfl
theorem JfE {a b c d e f g i:Value}:(Value.agg #[a,b,c,d,e,f,g,i]).cells.toList=[a,b,c,d,e,f,g,i]:=rfl
section
variable {call:J0r} {N:Nat} {h:SHeap}
theorem JbP {a b:Int} (hb:0≤b∧b≤4611686018427387904) (ha:0≤a∧a≤4611686018427387904):J0L Tryz.prog call N 87 [iv a,iv b] h=some (iv (J2I a b),h):=by
 refine J1m Tryz.func87 rfl (by simp[Tryz.f87]) ?_
 have hr:Tryz.f87.results.toList=[.tmp 4]:=rfl
 have w1:IntKind.i64.wrap (4611686018427387904-b)=4611686018427387904-b:=J0s (by omega) (by omega)
 unfold J2I
 cases d:decide (a>4611686018427387904-b) with
 | true=>
  rw[if_pos (by simpa using d)]
  simp only[evC,seval,↓evP,rpC,hr,w1,d]
 | false=>
  have d':¬ a>4611686018427387904-b:=by simpa using d
  have w2:IntKind.i64.wrap (a+b)=a+b:=J0s (by omega) (by omega)
  rw[if_neg d']
  simp only[evC,seval,↓evP,rpC,hr,w1,d,w2]
theorem JaD {a b:Int} (h:SHeap) (hb:0≤b∧b≤4611686018427387904) (ha:0≤a∧a≤4611686018427387904):L1 87 [iv a,iv b] h=some (iv (J2I a b),h):=J0I (J20 rfl rfl) rfl rfl rfl ⟨_,JbP hb ha⟩
theorem JbQ {vr v0 vq vv vt vu vo v7 ve vs:Value} {rows:List RowN} {E S:List Int} {row q:Nat} (hone:one v0=true∧one vq=true∧one vv=true∧one vt=true∧one vu=true∧one vo=true∧one v7=true) (hv:J0l h vr rows) {le ls:Nat} (he:J1S le h ve E) (hS:J1S ls h vs S) (hs:Sums S) (hE:E[row]?=some (q:Int)) (hrq:row≤q) (hq:q≤rows.length) (hlen:rows.length<1099511627776) (hN:rows.length+3<N)
  (hcalls:∀ x∈(rows.drop row).take (q-row),x.kind=22→0≤x.n∧x.n<S.length) (h83:∀ a b h',0≤b∧b≤4611686018427387904→0≤a∧a≤4611686018427387904→call 87 [iv a,iv b] h'=some (iv (J2I a b),h')) :
  ∃ h',J0L Tryz.prog call N 88 [.agg #[v0,vr,vq,vv,vt,vu,vo,v7],ve,vs,iv row] h=some (iv (J2j S ((rows.drop row).take (q-row)) 0),h')∧∀ i,i<h.next→h'.get i=h.get i:=by
 refine J1N (R:=fun h'=>∀ i,i<h.next→h'.get i=h.get i) Tryz.func88 rfl (by simp[Tryz.f88]) ?_
 have hr:Tryz.f88.results.toList=[.tmp 8]:=rfl
 have hall:[v0,vr,vq,vv,vt,vu,vo,v7].all one=true:=by
  obtain⟨a,b,c,d,e,f,g⟩:=hone
  simp[a,b,c,d,e,f,g,hv.one]
 have hold:∀ i,i<h.next→(h.push (.row [v0,vr,vq,vv,vt,vu,vo,v7] 27 false false)).get i=h.get i:=fun i hi=>J06 hi
 have hnew:(h.push (.row [v0,vr,vq,vv,vt,vu,vo,v7] 27 false false)).get h.next=.row [v0,vr,vq,vv,vt,vu,vo,v7] 27 false false:=J0h
 have hnx:(h.push (.row [v0,vr,vq,vv,vt,vu,vo,v7] 27 false false)).next=h.next+1:=rfl
 simp only[evC,seval,↓evP,rpD,J0X,J2t,hr,JfE,hall,sz30]
 generalize h.push (.row [v0,vr,vq,vv,vt,vu,vo,v7] 27 false false)=H at *
 have hvH:=hv.mono (h':=H) (by omega) hold
 have heH:=he.mono (h':=H) (by omega) fun i _ hi=>hold i hi
 have hSH:=hS.mono (h':=H) (by omega) fun i _ hi=>hold i hi
 obtain⟨ie,pe,e1,e2,e3⟩:=heH.get hE
 have hl1:ld1 1 (H.get h.next)=some vr:=by rw[hnew];rfl
 have hseg:((rows.drop row).take (q-row)).length=q-row:=by rw[List.length_take,List.length_drop];omega
 refine WK.loop (fun i s=>s.h=H∧s.T.get 1=ve∧s.T.get 2=vs∧s.T.get 3=iv row∧s.T.get 4=qP h.next 0∧s.T.get 10=iv ((row+i:Nat):Int)∧i≤q-row∧∃ n:Int,s.T.get 9=iv n∧0≤n∧n≤4611686018427387904∧J2j S (((rows.drop row).take (q-row)).drop i) n=J2j S ((rows.drop row).take (q-row)) 0) (q-row) (by omega) ?_ ?_
 ·simp only[evC,↓reduceIte,Nat.reduceEqDiff,reduceCtorEq,↓evP,rpC,Nat.reduceAdd,Nat.reduceLT]
  exact⟨rfl,by omega,by omega,rfl⟩
 ·rintro i ⟨T1,H1⟩ hi ⟨rfl,t1,t2,t3,t4,t10,hil,n,t9,hn0,hnB,hcn⟩
  simp only at t1 t2 t3 t4 t10 t9
  by_cases hlt:i<q-row
  ·have c1:decide (((row+i:Nat):Int)<(q:Int))=true:=by simp only[decide_eq_true_eq];omega
   have w1:IntKind.i64.wrap (((row+i:Nat):Int)+1)=((row+(i+1):Nat):Int):=by rw[J0s (by omega) (by omega)];omega
   obtain⟨x,hx⟩:∃ x,rows[row+i]?=some x:=⟨_,List.getElem?_eq_getElem (by omega)⟩
   obtain⟨id,p,e0,hid,l0,l1,l2,l3,l4,lr⟩:=hvH.row hx
   have hsx:((rows.drop row).take (q-row))[i]?=some x:=by rw[List.getElem?_take_of_lt hlt,List.getElem?_drop];exact hx
   have p1:=J3O (a:=n) (b:=1) hn0 (by omega) (by omega)
   have h831:=fun hh=>h83 n 1 hh (by omega) ⟨hn0,hnB⟩
   have hdr:((rows.drop row).take (q-row)).drop i=x :: ((rows.drop row).take (q-row)).drop (i+1):=by
    obtain⟨hl,he⟩:=List.getElem?_eq_some_iff.1 hsx
    rw[List.drop_eq_getElem_cons hl,he]
   rw[hdr] at hcn
   change J2j S (((rows.drop row).take (q-row)).drop (i+1)) (if x.kind=22 then J2I (J2I n 1) (J5y S x.n) else J2I n 1)=_ at hcn
   cases d22:(x.kind==22) with
   | false=>
    rw[if_neg (by simpa using d22)] at hcn
    simp only[evC,seval,↓evP,rpC,t1,t2,t3,t4,t9,t10,e1,e3,c1,h831,J0y,J0F,hl1,e0,l0,J0t,d22,w1]
    exact⟨hlt,by omega,p1.1,p1.2,hcn⟩
   | true=>
    have h22:x.kind=22:=by simpa using d22
    rw[if_pos h22] at hcn
    obtain⟨n0,n1⟩:=hcalls x (List.mem_of_getElem? hsx) h22
    obtain⟨y,hy⟩:∃ y,S[x.n.toNat]?=some y:=⟨_,List.getElem?_eq_getElem (by omega)⟩
    obtain⟨is,ps,f1,f2,f3⟩:=hSH.get hy
    rw[Int.toNat_of_nonneg n0] at f1
    have hys:J5y S x.n=y:=by unfold J5y;rw[hy];rfl
    rw[hys] at hcn
    have hyb:0≤y∧y≤4611686018427387904:=hs y (List.mem_of_getElem? hy)
    have p2:=J3O p1.1 hyb.1 hyb.2
    have h832:=fun hh=>h83 (J2I n 1) y hh hyb p1
    simp only[evC,seval,↓evP,rpC,t1,t2,t3,t4,t9,t10,e1,e3,c1,h831,h832,J0y,J0F,hl1,e0,l0,l3,J0t,J0O,d22,w1,f1,f3]
    exact⟨hlt,by omega,p2.1,p2.2,hcn⟩
  ·have c1:decide (((row+i:Nat):Int)<(q:Int))=false:=by simp only[decide_eq_false_iff_not];omega
   have hnn:n=J2j S ((rows.drop row).take (q-row)) 0:=by
    rw[← hcn,List.drop_of_length_le (by omega)]
    rfl
   subst hnn
   simp only[evC,seval,↓evP,rpC,hr,t1,t2,t3,t4,t9,t10,e1,e3,c1]
   exact hold
end
theorem J65 {P:Program} {call:J0r} {n:Nat} {f:FuncId} {args:List Value} {h:SHeap} {fn:Func} {c:Code} {R:Value→SHeap→Prop} (hf:P.funcs[f]?=some fn) (hb:fn.body=some c) (hl:args.length≤fn.ntmps)
  (hw:WK P call n c ⟨J00 0 args .leaf,h⟩ (.top fun e s=>(e=.normal∨e=.ret)∧∃ vs,resS P s fn.results.toList=some vs∧R (resV vs) s.h)):∃ v h',J0L P call n f args h=some (v,h')∧R v h':=J6D hf hb hl hw
theorem Jbp {h:SHeap} {lo:Nat} {v:Value} {l:List Int} {x:Int} (hs:SlAt h lo (fun _=>1) 1 v l.length (ints l) 3) (hlo:lo≤h.next) (hf:h.floor≤lo) (hb:l.length<10000000) :
  ∃ v' h',J1o Tryz.prog (h.push (.row [iv x] 3 false false)) 25 v (qS h.next 1 1)=some (v',h')∧SlAt h' lo (fun _=>1) 1 v' (l++[x]).length (ints (l++[x])) 3∧h'.floor=h.floor∧h.next≤h'.next∧∀ i,i<lo→h'.get i=h.get i:=by
 have hs':SlAt (h.push (.row [iv x] 3 false false)) lo (fun i=>if i=h.next then 0 else 1) 1 v l.length (ints l) 3:=hs.mono (by show h.next≤h.next+1;omega) (fun i hi=>if_neg (by omega)) fun i _ hi _=>J06 hi
 obtain⟨v',h1,a1,a2,a3,a4,a5,a6,a7⟩:=J3B (et:=3) (w:=1) (c:=1) (sc:=1) (xs:=[iv x]) Tryz.underlying25 sz3 by3 J8P rfl (by decide) (by decide) hs' ((J1h _).trans (Nat.mul_one _).symm) (J5u _) rfl rfl (by decide) (by decide) hb (src:=h.next) J0h (by show h.next<h.next+1;omega) hf (by simp)
 have hnx:h1.next=h.next+2:=a4
 refine⟨v',h1,a1,?_,a3,by omega,fun i hi=>?_⟩
 ·rcases a2 with a2 | a2
  ·rcases a2 with⟨h2,_⟩ | ⟨id,ex,b1,b2,b3,b4,b5⟩
   ·omega
   ·refine .inr ⟨id,ex,?_,?_,b3,b4,rfl⟩
    ·rw[b1,List.length_append];rfl
    ·rw[b2];simp[ints]
  ·exact absurd (show lo≤h.next+1 by omega) a2
 ·rw[a7 i (by show i<h.next+1;omega) (by omega),J06 (by omega)]
def J4Y (rows:List RowN) (E:List Int):List Int→List Int→List Int
 | [],S=>S
 | ru :: rest,S=>J4Y rows E rest (S++[cAt rows E S ru.toNat])
def blk (rows:List RowN) (E:List Int) (row:Nat):List RowN:=(rows.drop row).take (((E[row]?).getD 0).toNat-row)
structure LayR (rows:List RowN) (E rules:List Int):Prop where
 lay:Laying rows E rules
 ahead:∀ (i:Nat) (ru:Int),rules[i]?=some ru→∀ x∈blk rows E ru.toNat,x.kind=22→x.n<i
theorem Laying.end {rows:List RowN} {E rules:List Int} (hL:Laying rows E rules) {i:Nat} (hi:i<rows.length):∃ q:Nat,E[i]?=some (q:Int)∧i≤q∧q≤rows.length∧blk rows E i=(rows.drop i).take (q-i):=by
 obtain⟨q,h1,h2,h3⟩:=hL.ends i hi
 exact⟨q,h1,by omega,h3,by unfold blk;rw[h1];rfl⟩
section
variable {call:J0r} {N:Nat} {h:SHeap}
theorem Jbz {vr v0 vq vv vt vu vo v7 ve:Value} {rows:List RowN} {E rules:List Int} (hone:one v0=true∧one vq=true∧one vv=true∧one vt=true∧one vo=true∧one v7=true) (hv:J0l h vr rows) {le lu:Nat} (he:J1S le h ve E) (hu:J1S lu h vu rules) (hL:LayR rows E rules) (hfl:h.floor≤h.next) (hN:rules.length+3<N)
  (h63:∀ vs S row H,(∀ i,i<h.next→H.get i=h.get i)→h.next≤H.next→J1S (h.next+1) H vs S→Sums S→row<rows.length→(∀ x∈blk rows E row,x.kind=22→0≤x.n∧x.n<S.length)→call 88 [.agg #[v0,vr,vq,vv,vt,vu,vo,v7],ve,vs,iv (row:Int)] H=some (iv (cAt rows E S row),H)) :
  ∃ v h',J0L Tryz.prog call N 86 [.agg #[v0,vr,vq,vv,vt,vu,vo,v7],ve] h=some (v,h')∧(J1S h.next h' v (J4Y rows E rules [])∧h'.floor=h.floor∧h.next≤h'.next∧∀ i,i<h.next→h'.get i=h.get i):=by
 refine J65 (R:=fun v h'=>J1S h.next h' v (J4Y rows E rules [])∧h'.floor=h.floor∧h.next≤h'.next∧∀ i,i<h.next→h'.get i=h.get i) Tryz.func86 rfl (by simp[Tryz.f86]) ?_
 have hr:Tryz.f86.results.toList=[.tmp 4]:=rfl
 have hall:[v0,vr,vq,vv,vt,vu,vo,v7].all one=true:=by
  obtain⟨a,b,c,d,e,f⟩:=hone
  simp[a,b,c,d,e,f,hv.one,J0p.one hu]
 have hold:∀ i,i<h.next→(h.push (.row [v0,vr,vq,vv,vt,vu,vo,v7] 27 false false)).get i=h.get i:=fun i hi=>J06 hi
 have hnew:(h.push (.row [v0,vr,vq,vv,vt,vu,vo,v7] 27 false false)).get h.next=.row [v0,vr,vq,vv,vt,vu,vo,v7] 27 false false:=J0h
 have hnx:(h.push (.row [v0,vr,vq,vv,vt,vu,vo,v7] 27 false false)).next=h.next+1:=rfl
 have hfx:(h.push (.row [v0,vr,vq,vv,vt,vu,vo,v7] 27 false false)).floor=h.floor:=rfl
 simp only[evC,seval,↓evP,rpD,J0X,J2t,hr,JfE,hall,sz30]
 generalize h.push (.row [v0,vr,vq,vv,vt,vu,vo,v7] 27 false false)=H at *
 refine WK.loop (fun i s=>s.T.get 1=ve∧s.T.get 2=qP h.next 0∧s.T.get 6=iv i∧i≤rules.length∧s.h.floor=h.floor∧h.next+1≤s.h.next∧(∀ i,i<h.next+1→s.h.get i=H.get i)∧∃ S:List Int,SlAt s.h (h.next+1) (fun _=>1) 1 (s.T.get 5) S.length (ints S) 3∧Sums S∧S.length=i∧J4Y rows E (rules.drop i) S=J4Y rows E rules []) rules.length (by omega) ?_ ?_
 ·simp only[evC,↓reduceIte,Nat.reduceEqDiff,reduceCtorEq,↓evP,rpC,Nat.reduceAdd,Nat.reduceLT]
  exact⟨rfl,hfx,by omega,fun _ _=>trivial,[],.inl ⟨rfl,rfl,rfl⟩,(fun x hx=>by cases hx),rfl,rfl⟩
 ·rintro i ⟨T1,H1⟩ hi ⟨t1,t2,t6,hil,hf1,hn1,ho1,S,hsl,hSS,hSl,hcn⟩
  simp only at t1 t2 t6 hf1 hn1 ho1 hsl
  have ho2:∀ i,i<h.next→H1.get i=h.get i:=fun i hi=>(ho1 i (by omega)).trans (hold i hi)
  have hg:H1.get h.next=.row [v0,vr,vq,vv,vt,vu,vo,v7] 27 false false:=(ho1 _ (by omega)).trans hnew
  have hSI:J1S (h.next+1) H1 (T1.get 5) S:=SlAt.cells hsl ((J1h _).trans (Nat.mul_one _).symm)
  have hu1:=hu.mono (h':=H1) (by omega) fun i _ hi=>ho2 i hi
  have hulen:=fun h'=>hu.len (h':=h')
  have hl5:ld1 5 (H1.get h.next)=some vu:=by rw[hg];rfl
  have hl8:ldN 8 0 (H1.get h.next)=some (.agg #[v0,vr,vq,vv,vt,vu,vo,v7]):=by rw[hg];rfl
  by_cases hlt:i<rules.length
  ·have c1:decide ((i:Int)<(rules.length:Int))=true:=by simp only[decide_eq_true_eq];omega
   have w1:IntKind.i64.wrap ((i:Int)+1)=((i+1:Nat):Int):=J0s (by have:=hL.lay.nrules;omega) (by have:=hL.lay.nrules;omega)
   obtain⟨ru,hru⟩:∃ ru,rules[i]?=some ru:=⟨_,List.getElem?_eq_getElem hlt⟩
   obtain⟨r0,r1⟩:=hL.lay.rl ru (List.mem_of_getElem? hru)
   obtain⟨iu,pu,f1,f2,f3⟩:=hu1.get hru
   have hc:=h63 (T1.get 5) S ru.toNat H1 ho2 (by omega) hSI hSS (by omega) (fun x hx h22=>by
    have h1:=hL.ahead i ru hru x hx h22
    refine⟨?_,by omega⟩
    have:x∈rows:=List.mem_of_mem_drop (List.mem_of_mem_take hx)
    exact(hL.lay.calls x this h22).1)
   rw[Int.toNat_of_nonneg r0] at hc
   have hdr:rules.drop i=ru :: rules.drop (i+1):=by
    obtain⟨hl,he⟩:=List.getElem?_eq_some_iff.1 hru
    rw[List.drop_eq_getElem_cons hl,he]
   rw[hdr,J4Y] at hcn
   obtain⟨v',H2,a1,a2,a3,a4,a5⟩:=Jbp (x:=cAt rows E S ru.toNat) hsl hn1 (by omega) (by have:=hL.lay.nrules;omega)
   have hle:=J7q (rows:=rows) (E:=E) hSS ru.toNat
   simp only[evC,seval,↓evP,rpC,t1,t2,t6,J36,J0n,hl5,hulen,c1]
   refine WK.quiet (by kernel_rfl) ?_
   simp only[evC,seval,↓evP,rpC,t1,t2,t6,J36,J0n,J1b,hl5,hl8,f1,f3,hc,bs28,a1,w1]
   refine⟨hlt,by omega,by omega,by omega,fun j hj=>by rw[a5 j hj];exact ho1 j hj,S++[cAt rows E S ru.toNat],a2,?_,by simp;omega,hcn⟩
   intro x hx
   rcases List.mem_append.1 hx with hx | hx
   ·exact hSS x hx
   ·rw[List.mem_singleton.1 hx];exact hle
  ·have c1:decide ((i:Int)<(rules.length:Int))=false:=by simp only[decide_eq_false_iff_not];omega
   rw[List.drop_of_length_le (by omega)] at hcn
   have hSe:S=J4Y rows E rules []:=hcn
   rw[hSe] at hSI
   simp only[evC,seval,↓evP,rpC,hr,t1,t2,t6,J36,J0n,hl5,hulen,c1]
   exact⟨hSI.weak (by omega),hf1,by omega,ho2⟩
end
end Go.Proofs.YtdejoodfeljmkaaGreatDoor
