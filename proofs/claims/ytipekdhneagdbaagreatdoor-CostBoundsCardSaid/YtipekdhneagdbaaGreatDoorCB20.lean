/- Part 20 of what the claim leans on: 3 texts laid one behind another. -/
import Derived.Test.YtipekdhneagdbaaGreatDoorCB19
namespace Go.Proofs.YtipekdhneagdbaaGreatDoor
open Go Go.Sx
set_option maxRecDepth 100000
set_option linter.unusedSimpArgs false
set_option linter.unusedVariables false
theorem Jey {call:J0r} {N:Nat} {h:SHeap} {l:List RowN} {v:Value} (hv:J0l h v l):J0L Tryz.prog call N 40 [v] h=some (.bool (decide ((l.length:Int)>65536)),h):=by
 refine J1m Tryz.func40 rfl (by simp[Tryz.f40]) ?_
 have hr:Tryz.f40.results.toList=[.tmp 2]:=rfl
 have hlen:=fun h'=>hv.len (h':=h')
 simp only[evC,seval,↓evP,hr,hlen]
theorem JiW {n:Nat} {h:SHeap} {l:List RowN} {v:Value} (hv:J0l h v l) (hn:0<n):J0T n 40 [v] h=some (.bool (decide ((l.length:Int)>65536)),h):=by
 obtain⟨n,rfl⟩:∃ j,n=j+1:=⟨n-1,by omega⟩
 exact J6r (J13 ⟨rfl,rfl,rfl⟩) rfl (Jey hv)
theorem JhO {l:List RowN} (h:(resN l).1.1=0):J2c l∧(J0v l).1=0∧(goN (J0o l) l.length 0 (s0N l)).1=0∧¬ J2K (goN (J0o l) l.length 0 (s0N l)).2.2.rows (J0o l) (goN (J0o l) l.length 0 (s0N l)).2.2.rules≥0 ∧
  resN l=((0,0),(goN (J0o l) l.length 0 (s0N l)).2.2)∧InvR l l.length (resN l).2:=by
 by_cases h1:(J0v l).1≠0
 ·unfold resN at h
  rw[if_pos h1] at h
  exact absurd h h1
 ·by_cases h2:(goN (J0o l) l.length 0 (s0N l)).1≠0
  ·unfold resN at h
   rw[if_neg h1] at h
   simp only at h
   rw[if_pos h2] at h
   exact absurd h h2
  ·by_cases h3:J2K (goN (J0o l) l.length 0 (s0N l)).2.2.rows (J0o l) (goN (J0o l) l.length 0 (s0N l)).2.2.rules≥0
   ·unfold resN at h
    rw[if_neg h1] at h
    simp only at h
    rw[if_neg h2,if_pos h3] at h
    cases h
   ·have e1:(J0v l).1=0:=by simpa using h1
    have e2:(goN (J0o l) l.length 0 (s0N l)).1=0:=by simpa using h2
    have e:resN l=((0,0),(goN (J0o l) l.length 0 (s0N l)).2.2):=by
     unfold resN
     rw[if_neg h1]
     simp only
     rw[if_neg h2,if_neg h3]
    have ht:=J8d (J5d e1)
    refine⟨ht,e1,e2,h3,e,?_⟩
    rw[e]
    exact JfJ ht J3T l.length 0 (s0N l) (by omega) (inv0 l) e2
theorem JeO {l:List RowN} (h:(resN l).1.1=0):outN l=(J52 l,(resN l).2):=by unfold outN;rw[if_neg (by rw[h];simp)]
theorem J8U (nm:ByteArray) (s:StN):J5b nm nm s s:=⟨rfl,rfl,rfl,rfl,rfl,rfl,rfl,rfl⟩
def Jli (x:RowN):RowN:=if x.kind≠27 then { x with n:=0 } else x
def Jk8 (l:List RowN):List RowN:=l.map Jli
def JmE (nm:ByteArray) (s:StN):Prop:=(resN (Jk8 s.rows)).1.1=0∧J5b nm (outN (Jk8 s.rows)).1 s (outN (Jk8 s.rows)).2
open Classical in
noncomputable def JkA (nm:ByteArray) (s:StN):Int:=if JmE nm s then 0 else 23
theorem Jlt {H:SHeap} {cs:List Value} {e p:Int} (hl:cs.length=8) (ho:cs.all one=true) (hf:H.floor≤H.next) :
  ∃ H':SHeap × SHeap,J0K Tryz.prog ((H.push (.row [.string ByteArray.empty,.slice none 0 0,.slice none 0 0,.slice none 0 0,.slice none 0 0,.slice none 0 0,.slice none 0 0,iv 0] 27 false false)).push (.row [iv 0,iv 0] 39 false false)) 27 (.pointer (some ⟨H.next,0,none⟩)) (.agg cs.toArray)=some (H'.1)∧J0K Tryz.prog H'.1 39 (.pointer (some ⟨H.next+1,0,none⟩)) (J2k e p)=some H'.2 ∧
   Out2 H.next H'.2 cs e p∧H'.2.next=H.next+2∧H'.2.floor=H.floor∧∀ i,i<H.next→H'.2.get i=H.get i:=by
 have ga:=J4c (h:=H) (o:=.row [.string ByteArray.empty,.slice none 0 0,.slice none 0 0,.slice none 0 0,.slice none 0 0,.slice none 0 0,.slice none 0 0,iv 0] 27 false false) (o':=.row [iv 0,iv 0] 39 false false)
 have gb:=J48 (h:=H) (o:=.row [.string ByteArray.empty,.slice none 0 0,.slice none 0 0,.slice none 0 0,.slice none 0 0,.slice none 0 0,.slice none 0 0,iv 0] 27 false false) (o':=.row [iv 0,iv 0] 39 false false)
 have gold:∀ i,i<H.next→((H.push (.row [.string ByteArray.empty,.slice none 0 0,.slice none 0 0,.slice none 0 0,.slice none 0 0,.slice none 0 0,.slice none 0 0,iv 0] 27 false false)).push (.row [iv 0,iv 0] 39 false false)).get i=H.get i:=fun i hi=>by rw[J06 (by show i<H.next+1;omega),J06 hi]
 have hnx:((H.push (.row [.string ByteArray.empty,.slice none 0 0,.slice none 0 0,.slice none 0 0,.slice none 0 0,.slice none 0 0,.slice none 0 0,iv 0] 27 false false)).push (.row [iv 0,iv 0] 39 false false)).next=H.next+2:=rfl
 have hfx:((H.push (.row [.string ByteArray.empty,.slice none 0 0,.slice none 0 0,.slice none 0 0,.slice none 0 0,.slice none 0 0,.slice none 0 0,iv 0] 27 false false)).push (.row [iv 0,iv 0] 39 false false)).floor=H.floor:=rfl
 generalize (H.push (.row [.string ByteArray.empty,.slice none 0 0,.slice none 0 0,.slice none 0 0,.slice none 0 0,.slice none 0 0,.slice none 0 0,iv 0] 27 false false)).push (.row [iv 0,iv 0] 39 false false)=G at *
 obtain⟨H',s1,s2,r1,r2,r3,r4⟩:=J4J (a:=H.next) (H:=G) ⟨ga,gb⟩ rfl (by omega) (by omega) (cs':=cs) hl ho (e':=e) (p':=p)
 exact⟨⟨_,H'⟩,s1,s2,r1,by show H'.next=_;omega,by show H'.floor=_;omega,fun i hi=>by show H'.get i=_;rw[r4 i (by omega) (by omega),gold i hi]⟩
theorem all8 {lo:Nat} {h:SHeap} {nm:ByteArray} {s:StN} {vr vq vv vt vu vo:Value} (h1:J3P lo h vr s.rows) (h2:J0p lo h vq s.queues.length 2 (J3S s.queues)) (h3:J0p lo h vv s.vars.length 1 (strs s.vars)) (h4:J0p lo h vt s.tags.length 1 (strs s.tags)) (h5:J1S lo h vu s.rules) (h6:J1S lo h vo s.on) :
  ([.string nm,vr,vq,vv,vt,vu,vo,iv s.miss]:List Value).all one=true:=by
 simp only[List.all_cons,List.all_nil,h1.2.one,h2.one,h3.one,h4.one,J0p.one h5,J0p.one h6,J5J,J5K,Bool.and_self]
def Lies (v:Value) (n:Nat):Prop:=∃ id off c,v=.slice (some ⟨id,off,none⟩) n c
theorem JlO {call:J0r} {N:Nat} {h:SHeap} {l:List RowN} {v:Value} (hv:J0l h v l) (hlies:Lies v l.length) (hlen:l.length<1099511627) :
  ∃ v' h',J0L Tryz.prog call N 42 [v] h=some (v',h')∧(∃ o c g,v'=.slice (some ⟨o,0,none⟩) l.length c∧h'.get o=.row (l.flatMap J0e) 51 g false∧h.next≤o∧o<h'.next)∧h'.floor=h.floor∧h.next≤h'.next∧∀ i,i<h.next→h'.get i=h.get i:=by
 by_cases h0:0<l.length
 ·obtain⟨h',e,g1,g2,g3,g4⟩:=Jby (call:=call) (N:=N) hv h0 hlen
  exact⟨_,h',e,⟨h.next+1,unk,true,rfl,g1,by omega,by omega⟩,g3,by omega,g4⟩
 ·have hl:l=[]:=List.length_eq_zero_iff.1 (by omega)
  subst hl
  obtain⟨id,off,c,rfl⟩:=hlies
  refine⟨.slice (some ⟨h.next,0,none⟩) 0 0,h.push (.row [] 51 false false),?_,⟨h.next,0,false,rfl,J0h,Nat.le_refl _,by show h.next<h.next+1;omega⟩,rfl,by show h.next≤h.next+1;omega,fun i hi=>J06 hi⟩
  refine J1m Tryz.func42 rfl (by simp[Tryz.f42]) ?_
  have hr:Tryz.f42.results.toList=[.tmp 2]:=rfl
  have hb:binS Tryz.prog .eql 22 (.tmp 3) (.const (.slice none 0 0)) (.slice (some ⟨id,off,none⟩) ([]:List RowN).length c) (.slice none 0 0)=some (.bool false):=by
   have hf:flat (.slice (some ⟨id,off,none⟩) ([]:List RowN).length c)=false:=rfl
   simp only[binS,hf,Bool.false_and,Bool.false_eq_true,if_false,Tryz.underlying22]
  have hbs:J0Q Tryz.prog h 22 0 []=some (.slice (some ⟨h.next,0,none⟩) 0 0,h.push (.row [] 51 false false)):=by
   simp[J0Q,Tryz.underlying22,sz46,J40,flat,J1i,J0G,J5k,J3e]
  have hsrc:J16 (h.push (.row [] 51 false false)) 5 ([]:List RowN).length (.slice (some ⟨id,off,none⟩) ([]:List RowN).length c)=some []:=by simp[J16]
  have hap:J1o Tryz.prog (h.push (.row [] 51 false false)) 22 (.slice (some ⟨h.next,0,none⟩) 0 0) (.slice (some ⟨id,off,none⟩) ([]:List RowN).length c)=some (.slice (some ⟨h.next,0,none⟩) 0 0,h.push (.row [] 51 false false)):=by
   have hu:(0:Nat)≠unk:=by unfold unk;omega
   have hzs:(Value.agg #[.int .i64 0,.string ByteArray.empty,.int .i64 0,.int .i64 0,.int .i64 0]).cells.size=5:=rfl
   simp[J1o,Tryz.underlying22,sz46,by46,J40,hzs,J16,hu]
  simp only[evC,seval,↓evP,hr,hb,hbs,hap]
theorem Jm9 {n:Nat} {h:SHeap} {l:List RowN} {v:Value} (hv:J0l h v l) (hlies:Lies v l.length) (hlen:l.length<1099511627) (hn:0<n) :
  ∃ v' h',J0T n 42 [v] h=some (v',h')∧(∃ o c g,v'=.slice (some ⟨o,0,none⟩) l.length c∧h'.get o=.row (l.flatMap J0e) 51 g false∧h.next≤o∧o<h'.next)∧h'.floor=h.floor∧h.next≤h'.next∧∀ i,i<h.next→h'.get i=h.get i:=by
 obtain⟨n,rfl⟩:∃ j,n=j+1:=⟨n-1,by omega⟩
 refine k_ex (J13 ⟨rfl,rfl,rfl⟩) (JlO (call:=J0T n) (N:=n) hv hlies hlen) fun v' h1 hf ho ⟨⟨o,c,g,e1,_⟩,_⟩=>?_
 rw[e1] at hf
 cases hf
section
variable {n N:Nat}
set_option maxHeartbeats 16000000 in
theorem JlL {nm:ByteArray} {s:StN} {pv:Value} {lo:Nat} {h:SHeap} (hp:J3x lo h pv nm s) (hlies:∀ nm' vr vq vv vt vu vo m,pv=.agg #[.string nm',vr,vq,vv,vt,vu,vo,m]→Lies vr s.rows.length) (hs:JdC s) (hl:s.rows.length<900000000) (hfl:h.floor≤h.next) (hg:h.get 0=J14) (hn0:0<h.next) (hn:2*Jbg s+200<n) (hN:Jbg s+200<N) :
  ∃ h',J0L Tryz.prog (J0T n) N 21 [pv] h=some (iv (JkA nm s),h')∧∀ i,i<h.next→h'.get i=h.get i:=by
 obtain⟨vr,vq,vv,vt,vu,vo,rfl,p1,p2,p3,p4,p5,p6⟩:=hp
 have hlv:=hlies _ _ _ _ _ _ _ _ rfl
 refine J1N (R:=fun h'=>∀ i,i<h.next→h'.get i=h.get i) Tryz.func21 rfl (by simp[Tryz.f21]) ?_
 have hr:Tryz.f21.results.toList=[.tmp 2]:=rfl
 unfold Jbg at hn hN
 obtain⟨q1,q2,q3,q4,q5,q6⟩:=hs
 have ca:(Value.agg #[.string nm,vr,vq,vv,vt,vu,vo,iv s.miss]).cells.toList=[.string nm,vr,vq,vv,vt,vu,vo,iv s.miss]:=rfl
 have oa:=all8 (nm:=nm) p1 p2 p3 p4 p5 p6
 have gA:(h.push (.row [.string nm,vr,vq,vv,vt,vu,vo,iv s.miss] 27 false false)).get h.next=.row [.string nm,vr,vq,vv,vt,vu,vo,iv s.miss] 27 false false:=J0h
 have gO:∀ i,i<h.next→(h.push (.row [.string nm,vr,vq,vv,vt,vu,vo,iv s.miss] 27 false false)).get i=h.get i:=fun i hi=>J06 hi
 have nA:(h.push (.row [.string nm,vr,vq,vv,vt,vu,vo,iv s.miss] 27 false false)).next=h.next+1:=rfl
 have fA:(h.push (.row [.string nm,vr,vq,vv,vt,vu,vo,iv s.miss] 27 false false)).floor=h.floor:=rfl
 show WK _ _ _ (.seq _ (.seq _ (.seq (.seq _ _) (.seq _ (.seq _ _))))) _ _
 simp only[evC,seval,↓evP,rpD,J0X,J2t,ca,oa,sz30]
 generalize h.push (.row [.string nm,vr,vq,vv,vt,vu,vo,iv s.miss] 27 false false)=A at *
 have l1:ld1 1 (A.get h.next)=some vr:=by rw[gA];rfl
 have P1:J0l A vr s.rows:=p1.1.mono (by omega) gO
 obtain⟨v',h1,hcl,⟨o,c,g,rfl,g1,g2,g3⟩,f1,n1,o1⟩:=Jm9 (n:=n) P1 hlv (by omega) (by omega)
 have hlen:∀ h':SHeap,lenS Tryz.prog h' 22 (.slice (some ⟨o,0,none⟩) s.rows.length c)=some (iv (s.rows.length:Int)):=fun h'=>JeK
 simp only[evC,seval,↓evP,Nat.zero_add,J0y,J0F,l1,hcl,hlen]
 refine WK.loop (fun i s'=>s'.T.get 1=.pointer (some ⟨h.next,0,none⟩)∧s'.T.get 3=.slice (some ⟨o,0,none⟩) s.rows.length c∧s'.T.get 11=iv (s.rows.length:Int)∧s'.T.get 12=iv i∧i≤s.rows.length∧s'.h.next=h1.next∧s'.h.floor=h1.floor∧(∀ i,i≠o→s'.h.get i=h1.get i) ∧
  ∃ L:List RowN,s'.h.get o=.row (L.flatMap J0e) 51 g false∧∀ j,L[j]?=(s.rows[j]?).map fun x=>if j<i then Jli x else x) s.rows.length (by omega) ?_ ?_
 ·refine⟨by simp only[evC,↓reduceIte,Nat.reduceEqDiff,reduceCtorEq,↓evP,rpC,Nat.reduceAdd,Nat.reduceLT],by simp only[evC,↓reduceIte,Nat.reduceEqDiff,reduceCtorEq,↓evP,rpC,Nat.reduceAdd,Nat.reduceLT],by simp only[evC,↓reduceIte,Nat.reduceEqDiff,reduceCtorEq,↓evP,rpC,Nat.reduceAdd,Nat.reduceLT],by simp only[evC,↓reduceIte,Nat.reduceEqDiff,reduceCtorEq,↓evP,rpC,Nat.reduceAdd,Nat.reduceLT];rfl,by omega,rfl,rfl,fun _ _=>rfl,s.rows,g1,fun j=>?_⟩
  simp
 rintro i ⟨T1,H1⟩ hi ⟨t1,t3,t11,t12,hil,m1,m2,m3,L,gL,hL⟩
 simp only at t1 t3 t11 t12 m1 m2 m3 gL
 have hLl:L.length=s.rows.length:=by
  rcases Nat.lt_trichotomy L.length s.rows.length with h9 | h9 | h9
  ·have:=hL L.length
   rw[List.getElem?_eq_none (Nat.le_refl _),List.getElem?_eq_getElem h9] at this
   cases this
  ·exact h9
  ·have:=hL s.rows.length
   rw[List.getElem?_eq_getElem h9,List.getElem?_eq_none (Nat.le_refl _)] at this
   cases this
 by_cases hlt:i<s.rows.length
 ·have c1:decide ((i:Int)<(s.rows.length:Int))=true:=by simp;omega
  obtain⟨x,hx⟩:∃ x,s.rows[i]?=some x:=⟨_,List.getElem?_eq_getElem hlt⟩
  have hLx:L[i]?=some x:=by rw[hL,hx];simp
  have ea:=JaW (id:=o) (n:=s.rows.length) (c:=c) hlt
  have lk:ld1 (i*5) (H1.get o)=some (iv x.kind):=by
   have h5:=J2Y hLx
   rw[gL]
   have:(L.flatMap J0e)[i*5]?=(J0e x)[0]?:=by
    rw[← h5,List.getElem?_take_of_lt (by omega),List.getElem?_drop,Nat.add_zero]
   simp only[ld1,this]
   rfl
  have w1:IntKind.i64.wrap ((i:Int)+1)=((i+1:Nat):Int):=J0s (by omega) (by omega)
  cases d:(x.kind != 27) with
  | false=>
   have hz:Jli x=x:=by
    unfold Jli
    rw[if_neg (by simpa using d)]
   simp only[evC,seval,↓evP,t1,t3,t11,t12,c1,ea,J0t,J0m,lk,d,w1]
   refine⟨hlt,by omega,m1,m2,m3,L,gL,fun j=>?_⟩
   rw[hL j]
   by_cases hj:j=i
   ·subst hj
    rw[hx]
    simp[hz]
   ·congr 1
    funext y
    by_cases h9:j<i
    ·rw[if_pos h9,if_pos (by omega)]
    ·rw[if_neg h9,if_neg (by omega)]
  | true=>
   have hz:Jli x={ x with n:=0 }:=by
    unfold Jli
    rw[if_pos (by simpa using d)]
   have hst:=stc (t:=3) (off:=i*5+3) (v:=iv 0) sz3 rfl rfl gL (by rw[J0N];omega) (by omega)
   rw[J3N hLx] at hst
   simp only[evC,seval,↓evP,t1,t3,t11,t12,c1,ea,J0t,J0O,J0m,lk,d,hst,w1]
   refine⟨hlt,by omega,m1,m2,fun j hj=>by rw[J05 (by omega) (Ne.symm hj)];exact m3 j hj,setN L i 0,J0b rfl (by omega),fun j=>?_⟩
   by_cases hj:j=i
   ·subst hj
    rw[J4g hLx,hx]
    simp[hz]
   ·rw[J4M hj,hL j]
    congr 1
    funext y
    by_cases h9:j<i
    ·rw[if_pos h9,if_pos (by omega)]
    ·rw[if_neg h9,if_neg (by omega)]
 have c1:decide ((i:Int)<(s.rows.length:Int))=false:=by simp;omega
 have:i=s.rows.length:=by omega
 subst this
 have hLz:L=Jk8 s.rows:=by
  apply List.ext_getElem?
  intro j
  rw[hL j,Jk8,List.getElem?_map]
  rcases Nat.lt_or_ge j s.rows.length with h9 | h9
  ·simp[h9]
  ·rw[List.getElem?_eq_none h9]
   rfl
 subst hLz
 have hvz:J0l H1 (.slice (some ⟨o,0,none⟩) s.rows.length c) (Jk8 s.rows):=by
  refine⟨_,_,by rw[hLl],.inr ⟨o,0,_,_,_,_,rfl,gL,by omega,fun k r hk=>by rw[Nat.zero_add];exact J2Y hk⟩⟩
 have hw1:H1.get 0=J14:=by rw[m3 0 (by omega),o1 0 (by omega),gO 0 hn0];exact hg
 obtain⟨v2,h2,hres,pv,rfl,hp',f2,n2,o2⟩:=Jia (n:=n) (h:=H1) (by omega) hw1 (by omega) hvz (by omega) (by omega)
 obtain⟨vr',vq',vv',vt',vu',vo',rfl,b1,b2,b3,b4,b5,b6⟩:=hp'
 obtain⟨⟨hb,h3⟩,s1,s2,rO,n3,f3,o3⟩:=Jlt (H:=h2) (cs:=[.string (outN (Jk8 s.rows)).1,vr',vq',vv',vt',vu',vo',iv (outN (Jk8 s.rows)).2.miss]) (e:=(resN (Jk8 s.rows)).1.1) (p:=(resN (Jk8 s.rows)).1.2) rfl (all8 b1 b2 b3 b4 b5 b6) (by omega)
 simp only at s1 s2 rO n3 f3 o3
 have zc30:zPol.cells.toList=[.string ByteArray.empty,.slice none 0 0,.slice none 0 0,.slice none 0 0,.slice none 0 0,.slice none 0 0,.slice none 0 0,iv 0]:=rfl
 have zc33:(J2k 0 0).cells.toList=[iv 0,iv 0]:=rfl
 have HO:∀ i,i<h.next→h3.get i=h.get i:=fun i hi=>by rw[o3 i (by omega),o2 i (by omega),m3 i (by omega),o1 i (by omega),gO i hi]
 have HA:h3.get h.next=.row [.string nm,vr,vq,vv,vt,vu,vo,iv s.miss] 27 false false:=by rw[o3 _ (by omega),o2 _ (by omega),m3 _ (by omega),o1 _ (by omega)];exact gA
 obtain⟨x0,x1,x2,x3,x4,x5,x6,x7⟩:=Jhw (a:=.string nm) (b:=vr) (c:=vq) (d:=vv) (e:=vt) (f:=vu) (g:=vo) (i:=iv s.miss) (ty:=27) (x:=false) (y:=false)
 obtain⟨y0,y1,y2,y3,y4,y5,y6,y7⟩:=Jhw (a:=.string (outN (Jk8 s.rows)).1) (b:=vr') (c:=vq') (d:=vv') (e:=vt') (f:=vu') (g:=vo') (i:=iv (outN (Jk8 s.rows)).2.miss) (ty:=27) (x:=false) (y:=false)
 rw[← HA] at x0 x1 x2 x3 x4 x5 x6 x7
 rw[← rO.1] at y0 y1 y2 y3 y4 y5 y6 y7
 have lF:ld1 0 (h3.get (h2.next+1))=some (iv (resN (Jk8 s.rows)).1.1):=by rw[rO.2];rfl
 have NN:h.next≤h3.next:=by omega
 have A1:=p1.1.mono NN HO
 have A2:=p2.mono NN fun i _ hi=>HO i hi
 have A3:=p3.mono NN fun i _ hi=>HO i hi
 have A4:=p4.mono NN fun i _ hi=>HO i hi
 have A5:=J1S.mono p5 NN fun i _ hi=>HO i hi
 have A6:=J1S.mono p6 NN fun i _ hi=>HO i hi
 have B1:=(b1.mono (h':=h3) (by omega) fun i _ hi=>o3 i hi).1
 have B2:=b2.mono (h':=h3) (by omega) fun i _ hi=>o3 i hi
 have B3:=b3.mono (h':=h3) (by omega) fun i _ hi=>o3 i hi
 have B4:=b4.mono (h':=h3) (by omega) fun i _ hi=>o3 i hi
 have B5:=J1S.mono (h':=h3) b5 (by omega) fun i _ hi=>o3 i hi
 have B6:=J1S.mono (h':=h3) b6 (by omega) fun i _ hi=>o3 i hi
 have hR:=Jnu (n:=n) A1 B1 (by omega) (by omega)
 have hQ:=Jnt (n:=n) A2 B2 (by omega) (by omega)
 have hV:=JmZ (n:=n) A3 B3 (by omega) (by omega)
 have hT:=JmZ (n:=n) A4 B4 (by omega) (by omega)
 have hU:=JmT (n:=n) A5 B5 (by omega) (by omega)
 have hO:=JmT (n:=n) A6 B6 (by omega) (by omega)
 have yes:(resN (Jk8 s.rows)).1.1=0→J5b nm (outN (Jk8 s.rows)).1 s (outN (Jk8 s.rows)).2→JkA nm s=0:=fun h8 h9=>if_pos ⟨h8,h9⟩
 have no1:(resN (Jk8 s.rows)).1.1≠0→JkA nm s=23:=fun h8=>if_neg fun h9=>h8 h9.1
 have no2:¬ J5b nm (outN (Jk8 s.rows)).1 s (outN (Jk8 s.rows)).2→JkA nm s=23:=fun h8=>if_neg fun h9=>h8 h9.2
 simp only[evC,seval,↓evP,t1,t3,t11,t12,c1,hres,J5F,J3Y,zc30,J3C,J1t,zc33,J1D,s1,s2]
 cases d0:((resN (Jk8 s.rows)).1.1 != 0) with
 | true=>
  rw[no1 (by simpa using d0)]
  simp only[evC,seval,↓evP,hr,t1,List.append_eq,List.toList_toArray,Nat.zero_add,J6a,J7G,lF,J5g,J0y,J0B,J1A,J1B,J36,J1T,J38,J0d,J0m,J0F,J0S,J0Y,J0n,x0,x1,x2,x3,x4,x5,x6,x7,y0,y1,y2,y3,y4,y5,y6,y7,J26,d0]
  exact HO
 | false=>
 cases d1:(!(nm==(outN (Jk8 s.rows)).1)) with
 | true=>
  rw[no2 fun h9=>by rw[h9.1,J34] at d1;cases d1]
  simp only[evC,seval,↓evP,hr,t1,List.append_eq,List.toList_toArray,Nat.zero_add,J6a,J7G,lF,J5g,J0y,J0B,J1A,J1B,J36,J1T,J38,J0d,J0m,J0F,J0S,J0Y,J0n,x0,x1,x2,x3,x4,x5,x6,x7,y0,y1,y2,y3,y4,y5,y6,y7,J26,d0,d1]
  exact HO
 | false=>
 cases d2:(s.miss != (outN (Jk8 s.rows)).2.miss) with
 | true=>
  rw[no2 fun h9=>by rw[h9.2.1] at d2;simp at d2]
  simp only[evC,seval,↓evP,hr,t1,List.append_eq,List.toList_toArray,Nat.zero_add,J6a,J7G,lF,J5g,J0y,J0B,J1A,J1B,J36,J1T,J38,J0d,J0m,J0F,J0S,J0Y,J0n,x0,x1,x2,x3,x4,x5,x6,x7,y0,y1,y2,y3,y4,y5,y6,y7,J26,d0,d1,d2]
  exact HO
 | false=>
 cases d3:decide (s.rows=(outN (Jk8 s.rows)).2.rows) with
 | false=>
  rw[d3] at hR
  rw[no2 fun h9=>(of_decide_eq_false d3) h9.2.2.1]
  simp only[evC,seval,↓evP,hr,t1,List.append_eq,List.toList_toArray,Nat.zero_add,J6a,J7G,lF,J5g,J0y,J0B,J1A,J1B,J36,J1T,J38,J0d,J0m,J0F,J0S,J0Y,J0n,x0,x1,x2,x3,x4,x5,x6,x7,y0,y1,y2,y3,y4,y5,y6,y7,J26,d0,d1,d2,hR]
  exact HO
 | true=>
 rw[d3] at hR
 cases d4:decide (s.queues=(outN (Jk8 s.rows)).2.queues) with
 | false=>
  rw[d4] at hQ
  rw[no2 fun h9=>(of_decide_eq_false d4) h9.2.2.2.1]
  simp only[evC,seval,↓evP,hr,t1,List.append_eq,List.toList_toArray,Nat.zero_add,J6a,J7G,lF,J5g,J0y,J0B,J1A,J1B,J36,J1T,J38,J0d,J0m,J0F,J0S,J0Y,J0n,x0,x1,x2,x3,x4,x5,x6,x7,y0,y1,y2,y3,y4,y5,y6,y7,J26,d0,d1,d2,hR,hQ]
  exact HO
 | true=>
 rw[d4] at hQ
 cases d5:decide (s.vars=(outN (Jk8 s.rows)).2.vars) with
 | false=>
  rw[d5] at hV
  rw[no2 fun h9=>(of_decide_eq_false d5) h9.2.2.2.2.1]
  simp only[evC,seval,↓evP,hr,t1,List.append_eq,List.toList_toArray,Nat.zero_add,J6a,J7G,lF,J5g,J0y,J0B,J1A,J1B,J36,J1T,J38,J0d,J0m,J0F,J0S,J0Y,J0n,x0,x1,x2,x3,x4,x5,x6,x7,y0,y1,y2,y3,y4,y5,y6,y7,J26,d0,d1,d2,hR,hQ,hV]
  exact HO
 | true=>
 rw[d5] at hV
 cases d6:decide (s.tags=(outN (Jk8 s.rows)).2.tags) with
 | false=>
  rw[d6] at hT
  rw[no2 fun h9=>(of_decide_eq_false d6) h9.2.2.2.2.2.1]
  simp only[evC,seval,↓evP,hr,t1,List.append_eq,List.toList_toArray,Nat.zero_add,J6a,J7G,lF,J5g,J0y,J0B,J1A,J1B,J36,J1T,J38,J0d,J0m,J0F,J0S,J0Y,J0n,x0,x1,x2,x3,x4,x5,x6,x7,y0,y1,y2,y3,y4,y5,y6,y7,J26,d0,d1,d2,hR,hQ,hV,hT]
  exact HO
 | true=>
 rw[d6] at hT
 cases d7:decide (s.rules=(outN (Jk8 s.rows)).2.rules) with
 | false=>
  rw[d7] at hU
  rw[no2 fun h9=>(of_decide_eq_false d7) h9.2.2.2.2.2.2.1]
  simp only[evC,seval,↓evP,hr,t1,List.append_eq,List.toList_toArray,Nat.zero_add,J6a,J7G,lF,J5g,J0y,J0B,J1A,J1B,J36,J1T,J38,J0d,J0m,J0F,J0S,J0Y,J0n,x0,x1,x2,x3,x4,x5,x6,x7,y0,y1,y2,y3,y4,y5,y6,y7,J26,d0,d1,d2,hR,hQ,hV,hT,hU]
  exact HO
 | true=>
 rw[d7] at hU
 cases d8:decide (s.on=(outN (Jk8 s.rows)).2.on) with
 | false=>
  rw[d8] at hO
  rw[no2 fun h9=>(of_decide_eq_false d8) h9.2.2.2.2.2.2.2]
  simp only[evC,seval,↓evP,hr,t1,List.append_eq,List.toList_toArray,Nat.zero_add,J6a,J7G,lF,J5g,J0y,J0B,J1A,J1B,J36,J1T,J38,J0d,J0m,J0F,J0S,J0Y,J0n,x0,x1,x2,x3,x4,x5,x6,x7,y0,y1,y2,y3,y4,y5,y6,y7,J26,d0,d1,d2,hR,hQ,hV,hT,hU,hO]
  exact HO
 | true=>
 rw[d8] at hO
 rw[yes (by simpa using d0) ⟨J3o (by simpa using d1),by simpa using d2,of_decide_eq_true d3,of_decide_eq_true d4,of_decide_eq_true d5,of_decide_eq_true d6,of_decide_eq_true d7,of_decide_eq_true d8⟩]
 simp only[evC,seval,↓evP,hr,t1,List.append_eq,List.toList_toArray,Nat.zero_add,J6a,J7G,lF,J5g,J0y,J0B,J1A,J1B,J36,J1T,J38,J0d,J0m,J0F,J0S,J0Y,J0n,x0,x1,x2,x3,x4,x5,x6,x7,y0,y1,y2,y3,y4,y5,y6,y7,J26,d0,d1,d2,hR,hQ,hV,hT,hU,hO]
 exact HO
theorem JnE {nm:ByteArray} {s:StN} {pv:Value} {lo:Nat} {h:SHeap} (hp:J3x lo h pv nm s) (hlies:∀ nm' vr vq vv vt vu vo m,pv=.agg #[.string nm',vr,vq,vv,vt,vu,vo,m]→Lies vr s.rows.length) (hs:JdC s) (hl:s.rows.length<900000000) (hfl:h.floor≤h.next) (hg:h.get 0=J14) (hn0:0<h.next) (hn:2*Jbg s+300<n) :
  J0T n 21 [pv] h=some (iv (JkA nm s),h):=by
 obtain⟨n,rfl⟩:∃ j,n=j+1:=⟨n-1,by omega⟩
 exact J4r (J13 ⟨rfl,rfl,rfl⟩) rfl (JlL hp hlies hs hl hfl hg hn0 (by omega) (by omega))
end
section
variable {call:J0r} {n N:Nat} {h:SHeap}
set_option maxHeartbeats 4000000 in
theorem Jo7 {l:List Int} {v:Value} {lo:Nat} (hv:J1S lo h v l) (hl:l.length<900000000) (hfl:h.floor≤h.next) :
  ∃ h',J0L Tryz.prog call N 20 [v] h=some (.slice (some ⟨h.next,0,none⟩) l.length (l.length+3),h')∧(LentC h' h.next l.length 1 (ints l) [iv (-77)] [iv 0] 3∧h'.next=h.next+2∧h'.floor=h.floor∧∀ i,i<h.next→h'.get i=h.get i):=by
 refine J1N (R:=fun h'=>LentC h' h.next l.length 1 (ints l) [iv (-77)] [iv 0] 3∧h'.next=h.next+2∧h'.floor=h.floor∧∀ i,i<h.next→h'.get i=h.get i) Tryz.func20 rfl (by simp[Tryz.f20]) ?_
 have hr:Tryz.f20.results.toList=[.tmp 2]:=rfl
 have hlen:=JfF hv
 have w3:IntKind.i64.wrap ((l.length:Int)+3)=((l.length+3:Nat):Int):=J0s (by omega) (by omega)
 have hmk:=Joa (h:=h) (n:=l.length+3) Tryz.underlying25 sz3 by3 J8P rfl rfl (by decide) (by decide) (by omega)
 obtain⟨h1,h3,a1,a2,a3,a4,a5,a6,a7,a8,a9⟩:=Jov (mk:=[iv (-77)]) Tryz.underlying25 sz3 by3 J8P rfl (by decide) hv (J5u l) rfl rfl (by omega) hfl
 have hsl:=fun (H:SHeap)=>JnH (h:=H) (id:=h.next) (n:=l.length+1) (m:=l.length) (c:=l.length+3) Tryz.underlying25 sz3 (by omega) (by unfold unk;omega)
 simp only[evC,seval,↓evP,hr,hlen,w3,hmk,a1,bs28,a5,hsl]
 exact⟨a6,a7,a8,a9⟩
theorem JnZ {l:List Int} {v:Value} {lo:Nat} (hv:J1S lo h v l) (hl:l.length<900000000) (hfl:h.floor≤h.next) (hn:0<n) :
  ∃ h',J0T n 20 [v] h=some (.slice (some ⟨h.next,0,none⟩) l.length (l.length+3),h')∧(LentC h' h.next l.length 1 (ints l) [iv (-77)] [iv 0] 3∧h'.next=h.next+2∧h'.floor=h.floor∧∀ i,i<h.next→h'.get i=h.get i):=by
 obtain⟨n,rfl⟩:∃ j,n=j+1:=⟨n-1,by omega⟩
 exact Jc0 (J13 ⟨rfl,rfl,rfl⟩) rfl (Jo7 hv hl hfl)
end
theorem JoW {nm:ByteArray} {m:Int} {id k c:Nat}:J1P Tryz.prog 27 [(0,.string nm),(7,iv m),(1,.slice (some ⟨id,0,none⟩) k c)]=some (.agg #[.string nm,.slice (some ⟨id,0,none⟩) k c,.slice none 0 0,.slice none 0 0,.slice none 0 0,.slice none 0 0,.slice none 0 0,iv m]):=by
 have h:=J82
 rw[Tryz.underlying27] at h
 simp only at h
 simp only[J1P,J5F,J3Y,if_true,Tryz.underlying27,h]
 rfl
theorem Joh {nm:ByteArray}:J1P Tryz.prog 55 [(0,.string nm)]=some (.agg #[.string nm,.bool false]):=by
 have h:=Jgp
 rw[Tryz.underlying55] at h
 simp only at h
 simp only[J1P,J9V,Ji6,Jig,Jh8,Bool.and_self,if_true,Tryz.underlying55,h]
 rfl
noncomputable def Jp6:Array Oper:=J18 Tryz.f7 1
def JpI:List (Bool × Bool × List Operand):=[(true,true,[]),(true,true,[]),(true,true,[.tmp 4]),(true,true,[.tmp 4]),(false,true,[.tmp 4,.tmp 6]),(false,true,[.tmp 4,.tmp 6]),(false,true,[.tmp 4,.tmp 6]),(false,false,[]),(true,true,[.tmp 4,.tmp 6,.tmp 8]),(false,false,[])]
theorem Jp0:J1E Jp6=JpI:=by kernel_rfl
noncomputable def JoU:Array Oper:=J18 Tryz.f7 2
def Jpx:List (Bool × Bool × List Operand):=[(false,true,[]),(false,true,[]),(false,true,[]),(false,true,[]),(false,true,[]),(true,true,[.tmp 12]),(true,true,[.tmp 12]),(false,true,[]),(true,true,[.tmp 12,.tmp 17]),(true,true,[.tmp 12,.tmp 17]),(false,true,[]),(true,true,[.tmp 12,.tmp 17]),(true,true,[.tmp 12,.tmp 17]),(true,true,[.tmp 12,.tmp 17]),(false,false,[]),(false,false,[]),(false,false,[])]
theorem Jp7:J1E JoU=Jpx:=by kernel_rfl
noncomputable def Jp4:Array Oper:=J18 Tryz.f7 3
def JpC:List (Bool × Bool × List Operand):=[(false,true,[]),(false,true,[]),(false,true,[]),(false,true,[]),(false,true,[]),(true,true,[.tmp 28]),(true,true,[.tmp 28]),(false,true,[]),(true,true,[.tmp 28,.tmp 33]),(false,true,[]),(true,true,[.tmp 28,.tmp 33]),(true,true,[.tmp 28,.tmp 33]),(true,true,[.tmp 28,.tmp 33]),(false,false,[]),(false,false,[]),(false,false,[])]
theorem JoZ:J1E Jp4=JpC:=by kernel_rfl
noncomputable def JoX:Array Oper:=J18 Tryz.f7 4
def Jpt:List (Bool × Bool × List Operand):=[(false,true,[]),(false,true,[]),(false,true,[]),(false,true,[]),(false,true,[]),(true,true,[.tmp 43]),(true,true,[.tmp 43]),(false,true,[]),(true,true,[.tmp 43,.tmp 48]),(false,true,[]),(true,true,[.tmp 43,.tmp 48]),(true,true,[.tmp 43,.tmp 48]),(true,true,[.tmp 43,.tmp 48]),(false,false,[]),(false,false,[]),(false,false,[])]
theorem Jp1:J1E JoX=Jpt:=by kernel_rfl
structure LentPol (h:SHeap) (b:Nat) (v:Value) (nm:ByteArray) (s:StN) (o:Nat→Nat):Prop where
 v:v=.agg #[.string nm,.slice (some ⟨o 1,0,none⟩) s.rows.length (s.rows.length+9),.slice (some ⟨o 2,0,none⟩) s.queues.length (s.queues.length+3),.slice (some ⟨o 3,0,none⟩) s.vars.length (s.vars.length+3),.slice (some ⟨o 4,0,none⟩) s.tags.length (s.tags.length+3),.slice (some ⟨o 5,0,none⟩) s.rules.length (s.rules.length+3),.slice (some ⟨o 6,0,none⟩) s.on.length (s.on.length+3),iv s.miss]
 far:b≤o 1∧o 1<o 2∧o 2<o 3∧o 3<o 4∧o 4<o 5∧o 5<o 6∧o 6<h.next
 r:∃ L,LentAt h (o 1) s.rows L
 q:LentC h (o 2) s.queues.length 2 (J3S s.queues) [.string JcY,.bool false] [.string ByteArray.empty,.bool false] 55
 w:LentC h (o 3) s.vars.length 1 (strs s.vars) [.string JcY] [.string ByteArray.empty] 9
 t:LentC h (o 4) s.tags.length 1 (strs s.tags) [.string JcY] [.string ByteArray.empty] 9
 u:LentC h (o 5) s.rules.length 1 (ints s.rules) [iv (-77)] [iv 0] 3
 p:LentC h (o 6) s.on.length 1 (ints s.on) [iv (-77)] [iv 0] 3
section
variable {n N:Nat} {h:SHeap}
set_option maxHeartbeats 16000000 in
theorem JoJ {nm:ByteArray} {s:StN} {pv:Value} {lo:Nat} (hp:J3x lo h pv nm s) (hs:JdC s) (hl:s.rows.length<900000000) (hl2:s.rules.length<900000000∧s.on.length<900000000) (hfl:h.floor≤h.next) (hn:20<n) :
  ∃ v' h',J0L Tryz.prog (J0T n) N 7 [pv] h=some (v',h')∧(∃ o,LentPol h' h.next v' nm s o)∧h.next≤h'.next∧h'.floor=h.floor∧∀ i,i<h.next→h'.get i=h.get i:=by
 obtain⟨vr,vq,vv,vt,vu,vo,rfl,p1,p2,p3,p4,p5,p6⟩:=hp
 obtain⟨aq,cq,rfl,_⟩:=id p2.2
 obtain⟨av,cv,rfl,_⟩:=id p3.2
 obtain⟨at_,ct,rfl,_⟩:=id p4.2
 have hsn:=(J1z n).2
 refine J65 (R:=fun v' h'=>(∃ o,LentPol h' h.next v' nm s o)∧h.next≤h'.next∧h'.floor=h.floor∧∀ i,i<h.next→h'.get i=h.get i) Tryz.func7 rfl (by simp[Tryz.f7]) ?_
 have hr:Tryz.f7.results.toList=[.cell 2 27]:=rfl
 obtain⟨q1,q2,q3,q4,q5,q6⟩:=hs
 have ca:(Value.agg #[.string nm,vr,.slice aq s.queues.length cq,.slice av s.vars.length cv,.slice at_ s.tags.length ct,vu,vo,iv s.miss]).cells.toList=[.string nm,vr,.slice aq s.queues.length cq,.slice av s.vars.length cv,.slice at_ s.tags.length ct,vu,vo,iv s.miss]:=rfl
 have zc30:zPol.cells.toList=[.string ByteArray.empty,.slice none 0 0,.slice none 0 0,.slice none 0 0,.slice none 0 0,.slice none 0 0,.slice none 0 0,iv 0]:=rfl
 have oa:=all8 (nm:=nm) p1 p2 p3 p4 p5 p6
 obtain⟨x0,x1,x2,x3,x4,x5,x6,x7⟩:=Jhw (a:=.string nm) (b:=vr) (c:=.slice aq s.queues.length cq) (d:=.slice av s.vars.length cv) (e:=.slice at_ s.tags.length ct) (f:=vu) (g:=vo) (i:=iv s.miss) (ty:=27) (x:=false) (y:=false)
 have len2:=JfC p2
 have len3:=JfT p3
 have len4:=JfT p4
 simp only[evC,seval,↓evP,rpD,J0X,J2t,ca,oa,sz30,J5F,J3Y,zc30]
 have gA:((h.push (.row [.string nm,vr,.slice aq s.queues.length cq,.slice av s.vars.length cv,.slice at_ s.tags.length ct,vu,vo,iv s.miss] 27 false false)).push (.row [.string ByteArray.empty,.slice none 0 0,.slice none 0 0,.slice none 0 0,.slice none 0 0,.slice none 0 0,.slice none 0 0,iv 0] 27 false false)).get h.next=.row [.string nm,vr,.slice aq s.queues.length cq,.slice av s.vars.length cv,.slice at_ s.tags.length ct,vu,vo,iv s.miss] 27 false false:=J4c
 have gZ:((h.push (.row [.string nm,vr,.slice aq s.queues.length cq,.slice av s.vars.length cv,.slice at_ s.tags.length ct,vu,vo,iv s.miss] 27 false false)).push (.row [.string ByteArray.empty,.slice none 0 0,.slice none 0 0,.slice none 0 0,.slice none 0 0,.slice none 0 0,.slice none 0 0,iv 0] 27 false false)).get (h.next+1)=.row [.string ByteArray.empty,.slice none 0 0,.slice none 0 0,.slice none 0 0,.slice none 0 0,.slice none 0 0,.slice none 0 0,iv 0] 27 false false:=J48
 have gO:∀ i,i<h.next→((h.push (.row [.string nm,vr,.slice aq s.queues.length cq,.slice av s.vars.length cv,.slice at_ s.tags.length ct,vu,vo,iv s.miss] 27 false false)).push (.row [.string ByteArray.empty,.slice none 0 0,.slice none 0 0,.slice none 0 0,.slice none 0 0,.slice none 0 0,.slice none 0 0,iv 0] 27 false false)).get i=h.get i:=fun i hi=>by rw[J06 (by show i<h.next+1;omega),J06 hi]
 have n0:((h.push (.row [.string nm,vr,.slice aq s.queues.length cq,.slice av s.vars.length cv,.slice at_ s.tags.length ct,vu,vo,iv s.miss] 27 false false)).push (.row [.string ByteArray.empty,.slice none 0 0,.slice none 0 0,.slice none 0 0,.slice none 0 0,.slice none 0 0,.slice none 0 0,iv 0] 27 false false)).next=h.next+2:=rfl
 have f0:((h.push (.row [.string nm,vr,.slice aq s.queues.length cq,.slice av s.vars.length cv,.slice at_ s.tags.length ct,vu,vo,iv s.miss] 27 false false)).push (.row [.string ByteArray.empty,.slice none 0 0,.slice none 0 0,.slice none 0 0,.slice none 0 0,.slice none 0 0,.slice none 0 0,iv 0] 27 false false)).floor=h.floor:=rfl
 generalize (h.push (.row [.string nm,vr,.slice aq s.queues.length cq,.slice av s.vars.length cv,.slice at_ s.tags.length ct,vu,vo,iv s.miss] 27 false false)).push (.row [.string ByteArray.empty,.slice none 0 0,.slice none 0 0,.slice none 0 0,.slice none 0 0,.slice none 0 0,.slice none 0 0,iv 0] 27 false false)=H0 at *
 have hA0:(h.next<H0.next)=True:=by rw[n0];simp
 have P1:J0l (H0.fl (max H0.floor H0.next)) vr s.rows:=p1.1.mono (by rw[J0J];omega) gO
 obtain⟨h1,hlend,⟨L,hL⟩,n1,f1,o1⟩:=Jic (n:=n) P1 hl (by rw[J0J,JiM];omega) hn
 rw[J0J] at hlend hL n1 o1
 rw[JiM] at f1
 have hst:J0K Tryz.prog ((h1.fl H0.floor).push (.row [.string ByteArray.empty,.slice none 0 0,.slice none 0 0,.slice none 0 0,.slice none 0 0,.slice none 0 0,.slice none 0 0,iv 0] 27 false false)) 27 (.pointer (some ⟨(h1.fl H0.floor).next,0,none⟩)) _=_:=
  stW sz30 (vs:=[.string nm,.slice (some ⟨H0.next,0,none⟩) s.rows.length (s.rows.length+9),.slice none 0 0,.slice none 0 0,.slice none 0 0,.slice none 0 0,.slice none 0 0,iv s.miss]) (J0h (h:=h1.fl H0.floor)) rfl rfl rfl (by rw[J0i,JiM,J0J];omega)
 refine WK.flags (ops:=Jp6) Jp0 ?_
 refine WKF.begin ?_
 refine wst hsn 0 (some 4) (.fieldAddr 27 (.tmp 1) 0) none ?_
 simp only[rgC,seval,J04,J02,WKFC,Nat.zero_add,J5g]
 refine wst hsn 1 (some 5) (.load 9 (.tmp 4)) none ?_
 simp only[rgC,seval,J04,J02,WKFC,rgL,J0d,gA,x0,hA0]
 refine wst hsn 2 (some 6) (.fieldAddr 27 (.tmp 1) 7) none ?_
 simp only[rgC,seval,J04,J02,WKFC,Nat.zero_add,J38]
 refine wst hsn 3 (some 7) (.load 3 (.tmp 6)) none ?_
 simp only[rgC,seval,J04,J02,WKFC,rgL,J0m,gA,x7,hA0]
 refine wst hsn 4 (some 8) (.fieldAddr 27 (.tmp 1) 1) none ?_
 simp only[rgC,seval,J04,J02,WKFC,Nat.zero_add,J0y]
 refine wst hsn 5 (some 9) (.load 22 (.tmp 8)) none ?_
 simp only[rgC,seval,J04,J02,WKFC,rgL,J0F,gA,x1,hA0]
 refine wst hsn 6 (some 10) (.call { callee:=.value (.func 19),args:=#[.tmp 9],argTypes:=#[22] }) none ?_
 simp only[rgC,seval,J04,J02,WKFC,rgK,hlend]
 refine wst hsn 7 (some 11) (.build 27 #[(0,.tmp 5),(7,.tmp 7),(1,.tmp 10)]) none ?_
 simp only[rgC,seval,J04,J02,WKFC,List.map_cons,List.map_nil,JoW]
 refine wst hsn 8 (some 3) (.alloc 27) none ?_
 simp only[rgC,seval,J04,J02,WKFC,rgA,J5F,J3Y,zc30]
 refine wst hsn 9 (none) (.store 27 (.tmp 3) (.tmp 11)) none ?_
 simp only[rgC,seval,J04,J02,WKFC,J17,rgS,hst]
 refine WKF.done (i:=10) (by kernel_rfl) ?_
 have gG:∀ i,(h1.fl H0.floor).get i=h1.get i:=fun _=>rfl
 have nG:(h1.fl H0.floor).next=H0.next+1:=n1
 have fG:(h1.fl H0.floor).floor=H0.floor:=rfl
 have hL0:LentAt (h1.fl H0.floor) H0.next s.rows L:=⟨hL.g,hL.len,hL.own,hL.marks⟩
 clear hst hlend hL P1
 generalize h1.fl H0.floor=G at *
 have nnG:((G.push (.row [.string ByteArray.empty,.slice none 0 0,.slice none 0 0,.slice none 0 0,.slice none 0 0,.slice none 0 0,.slice none 0 0,iv 0] 27 false false)).put G.next (.row [.string nm,.slice (some ⟨H0.next,0,none⟩) s.rows.length (s.rows.length+9),.slice none 0 0,.slice none 0 0,.slice none 0 0,.slice none 0 0,.slice none 0 0,iv s.miss] 27 false false)).next=G.next+1:=rfl
 have ffG:((G.push (.row [.string ByteArray.empty,.slice none 0 0,.slice none 0 0,.slice none 0 0,.slice none 0 0,.slice none 0 0,.slice none 0 0,iv 0] 27 false false)).put G.next (.row [.string nm,.slice (some ⟨H0.next,0,none⟩) s.rows.length (s.rows.length+9),.slice none 0 0,.slice none 0 0,.slice none 0 0,.slice none 0 0,.slice none 0 0,iv s.miss] 27 false false)).floor=G.floor:=rfl
 have gDH1:((G.push (.row [.string ByteArray.empty,.slice none 0 0,.slice none 0 0,.slice none 0 0,.slice none 0 0,.slice none 0 0,.slice none 0 0,iv 0] 27 false false)).put G.next (.row [.string nm,.slice (some ⟨H0.next,0,none⟩) s.rows.length (s.rows.length+9),.slice none 0 0,.slice none 0 0,.slice none 0 0,.slice none 0 0,.slice none 0 0,iv s.miss] 27 false false)).get G.next=.row [.string nm,.slice (some ⟨H0.next,0,none⟩) s.rows.length (s.rows.length+9),.slice none 0 0,.slice none 0 0,.slice none 0 0,.slice none 0 0,.slice none 0 0,iv s.miss] 27 false false:=J0b rfl (by rw[J1D];omega)
 have ggG:∀ i,i<G.next→((G.push (.row [.string ByteArray.empty,.slice none 0 0,.slice none 0 0,.slice none 0 0,.slice none 0 0,.slice none 0 0,.slice none 0 0,iv 0] 27 false false)).put G.next (.row [.string nm,.slice (some ⟨H0.next,0,none⟩) s.rows.length (s.rows.length+9),.slice none 0 0,.slice none 0 0,.slice none 0 0,.slice none 0 0,.slice none 0 0,iv s.miss] 27 false false)).get i=G.get i:=fun i hi=>by rw[J05 (by rw[J1D];omega) (by omega),J06 hi]
 generalize (G.push (.row [.string ByteArray.empty,.slice none 0 0,.slice none 0 0,.slice none 0 0,.slice none 0 0,.slice none 0 0,.slice none 0 0,iv 0] 27 false false)).put G.next (.row [.string nm,.slice (some ⟨H0.next,0,none⟩) s.rows.length (s.rows.length+9),.slice none 0 0,.slice none 0 0,.slice none 0 0,.slice none 0 0,.slice none 0 0,iv s.miss] 27 false false)=H1 at *
 generalize hDD:G.next=D at *
 have gAH1:H1.get h.next=.row [.string nm,vr,.slice aq s.queues.length cq,.slice av s.vars.length cv,.slice at_ s.tags.length ct,vu,vo,iv s.miss] 27 false false:=by rw[ggG _ (by omega),gG,o1 _ (by omega)];exact gA
 have gOH1:∀ i,i<h.next→H1.get i=h.get i:=fun i hi=>by rw[ggG _ (by omega),gG,o1 _ (by omega)];exact gO i hi
 have hL1:LentAt H1 H0.next s.rows L:=⟨by rw[ggG _ (by omega)];exact hL0.g,hL0.len,hL0.own,hL0.marks⟩
 have gZ1:∀ i,i=h.next+1→H1.get i=H0.get i:=fun i hi=>by rw[ggG _ (by omega),gG,o1 _ (by omega)];rfl
 have P2:=p2.mono (h':=H1.fl (max H1.floor H1.next)) (by rw[J0J];omega) fun i _ hi=>(gOH1 i hi)
 have w2:IntKind.i64.wrap ((s.queues.length:Int)+3)=((s.queues.length+3:Nat):Int):=J0s (by omega) (by omega)
 have mk2:=fun (H:SHeap)=>Joa (h:=H) (n:=s.queues.length+3) Tryz.underlying23 sz57 by57 J9V rfl rfl (by decide) (by decide) (by omega)
 obtain⟨g2,k2,a1,a2,a3,a4,a5,a6,a7,a8,a9⟩:=Jov (mk:=[.string JcY,.bool false]) Tryz.underlying23 sz57 by57 J9V rfl (by decide) P2 (J5A _) rfl rfl (by omega) (by rw[J0J,JiM];omega)
 rw[J0J] at a1 a2 a4 a5 a6 a7 a9
 rw[JiM] at a3 a8
 have sl2:=fun (H:SHeap)=>JnH (h:=H) (id:=H1.next) (n:=s.queues.length+1) (m:=s.queues.length) (c:=s.queues.length+3) Tryz.underlying23 sz57 (by omega) (by unfold unk;omega)
 have hfx:g2.fl (max H1.floor H1.next)=g2:=by rw[← a3];exact J6L g2
 have ex:∀ i,i<H1.next→g2.get i=H1.get i:=a4
 have ez:∀ i,i<H1.next→k2.get i=H1.get i:=a9
 have e1:(H1.push (.row (J3e ((Value.agg #[.string ByteArray.empty,.bool false]).cells.toList) (s.queues.length+3)) 55 false false)).get h.next=.row [.string nm,vr,.slice aq s.queues.length cq,.slice av s.vars.length cv,.slice at_ s.tags.length ct,vu,vo,iv s.miss] 27 false false:=by rw[J06 (by omega)];exact gAH1
 have e2:g2.get h.next=.row [.string nm,vr,.slice aq s.queues.length cq,.slice av s.vars.length cv,.slice at_ s.tags.length ct,vu,vo,iv s.miss] 27 false false:=by rw[ex _ (by omega)];exact gAH1
 have e3:k2.get h.next=.row [.string nm,vr,.slice aq s.queues.length cq,.slice av s.vars.length cv,.slice at_ s.tags.length ct,vu,vo,iv s.miss] 27 false false:=by rw[ez _ (by omega)];exact gAH1
 have gDk:(k2.fl H1.floor).get D=.row [.string nm,.slice (some ⟨H0.next,0,none⟩) s.rows.length (s.rows.length+9),.slice none 0 0,.slice none 0 0,.slice none 0 0,.slice none 0 0,.slice none 0 0,iv s.miss] 27 false false:=by rw[J1g,ez _ (by omega)];exact gDH1
 have hA:(h.next<H1.next)=True:=by simp;omega
 have st2:J0K Tryz.prog (k2.fl H1.floor) 23 (.pointer (some ⟨D,2,none⟩)) (.slice (some ⟨H1.next,0,none⟩) s.queues.length (s.queues.length+3))=_:=stc sz26 rfl rfl gDk (by simp only[List.length_cons,List.length_nil];omega) (by rw[JiM];omega)
 simp only[List.set_cons_succ,List.set_cons_zero] at st2
 simp only[evC,seval,↓evP]
 refine WK.flags (ops:=JoU) Jp7 ?_
 refine WKF.begin ?_
 refine wst hsn 0 (some 12) (.fieldAddr 27 (.tmp 1) 2) none ?_
 simp only[rgC,seval,J04,J02,WKFC,Nat.zero_add,Nat.zero_add,J0B]
 refine wst hsn 1 (some 13) (.load 23 (.tmp 12)) none ?_
 simp only[rgC,seval,J04,J02,WKFC,rgL,J0S,gAH1,x2,hA]
 refine wst hsn 2 (some 14) (.call { callee:=.builtin .len,args:=#[.tmp 13],argTypes:=#[23] }) none ?_
 simp only[rgC,seval,J04,J02,WKFC,rgK,len2]
 refine wst hsn 3 (some 15) (.binOp .add 3 (.tmp 14) (.const (Value.int IntKind.i64 3)) 3) none ?_
 simp only[rgC,seval,J04,J02,WKFC,rgB,w2]
 refine wst hsn 4 (some 16) (.makeSlice 23 (.const (Value.int IntKind.i64 0)) (.tmp 15)) none ?_
 simp only[rgC,seval,J04,J02,WKFC,mk2,J0a]
 refine wst hsn 5 (some 17) (.fieldAddr 27 (.tmp 1) 2) none ?_
 simp only[rgC,seval,J04,J02,WKFC,Nat.zero_add,Nat.zero_add,J0B,J0a,J0i]
 refine wst hsn 6 (some 18) (.load 23 (.tmp 17)) none ?_
 simp only[rgC,seval,J04,J02,WKFC,rgL,J0S,e1,x2,hA,J0a,J0i]
 refine wst hsn 7 (some 19) (.call { callee:=.builtin .append,args:=#[.tmp 16,.tmp 18],argTypes:=#[23,23] }) none ?_
 simp only[rgC,seval,J04,J02,WKFC,rgK,a1,J0a,J0i]
 refine wst hsn 8 (some 20) (.build 55 #[(0,.const (Value.string { data:=#[108,101,110,116] }))]) none ?_
 simp only[rgC,seval,J04,J02,WKFC,List.map_cons,List.map_nil,Joh,JiM,Jk2]
 refine wst hsn 9 (some 21) (.buildSlice 23 1 #[(0,.tmp 20)]) none ?_
 simp only[rgC,seval,J04,J02,WKFC,List.map_cons,List.map_nil,bs26,J0a,J0J,JiM,Jk2]
 refine wst hsn 10 (some 22) (.call { callee:=.builtin .append,args:=#[.tmp 19,.tmp 21],argTypes:=#[23,23] }) none ?_
 simp only[rgC,seval,J04,J02,WKFC,rgK,hfx,a5,J0a,J0i,JiM,Jk2]
 refine wst hsn 11 (some 23) (.fieldAddr 27 (.tmp 1) 2) none ?_
 simp only[rgC,seval,J04,J02,WKFC,Nat.zero_add,Nat.zero_add,J0B,JiM,Jk2]
 refine wst hsn 12 (some 24) (.load 23 (.tmp 23)) none ?_
 simp only[rgC,seval,J04,J02,WKFC,rgL,J0S,e3,x2,hA,JiM,J1g,Jk2]
 refine wst hsn 13 (some 25) (.call { callee:=.builtin .len,args:=#[.tmp 24],argTypes:=#[23] }) none ?_
 simp only[rgC,seval,J04,J02,WKFC,rgK,len2,JiM,Jk2]
 refine wst hsn 14 (some 26) (.slice 23 (.tmp 22) none (some (.tmp 25)) none) none ?_
 simp only[rgC,seval,J04,J02,WKFC,rgL,sl2,JiM,Jk2]
 refine wst hsn 15 (some 27) (.fieldAddr 27 (.tmp 3) 2) none ?_
 simp only[rgC,seval,J04,J02,WKFC,Nat.zero_add,Nat.zero_add,J0B,JiM,Jk2]
 refine wst hsn 16 (none) (.store 23 (.tmp 27) (.tmp 26)) none ?_
 simp only[rgC,seval,J04,J02,WKFC,J17,rgS,st2,JiM,Jk2]
 refine WKF.done (i:=17) (by kernel_rfl) ?_
 have nn2:((k2.fl H1.floor).put D (.row [.string nm,.slice (some ⟨H0.next,0,none⟩) s.rows.length (s.rows.length+9),.slice (some ⟨H1.next,0,none⟩) s.queues.length (s.queues.length+3),.slice none 0 0,.slice none 0 0,.slice none 0 0,.slice none 0 0,iv s.miss] 27 false false)).next=H1.next+2:=a7
 have ff2:((k2.fl H1.floor).put D (.row [.string nm,.slice (some ⟨H0.next,0,none⟩) s.rows.length (s.rows.length+9),.slice (some ⟨H1.next,0,none⟩) s.queues.length (s.queues.length+3),.slice none 0 0,.slice none 0 0,.slice none 0 0,.slice none 0 0,iv s.miss] 27 false false)).floor=H1.floor:=rfl
 have gg2:∀ i,i<H1.next→i≠D→((k2.fl H1.floor).put D (.row [.string nm,.slice (some ⟨H0.next,0,none⟩) s.rows.length (s.rows.length+9),.slice (some ⟨H1.next,0,none⟩) s.queues.length (s.queues.length+3),.slice none 0 0,.slice none 0 0,.slice none 0 0,.slice none 0 0,iv s.miss] 27 false false)).get i=H1.get i:=fun i hi hd=>by rw[J05 (by rw[J0J];omega) (Ne.symm hd),J1g,ez i hi]
 have gDH2:((k2.fl H1.floor).put D (.row [.string nm,.slice (some ⟨H0.next,0,none⟩) s.rows.length (s.rows.length+9),.slice (some ⟨H1.next,0,none⟩) s.queues.length (s.queues.length+3),.slice none 0 0,.slice none 0 0,.slice none 0 0,.slice none 0 0,iv s.miss] 27 false false)).get D=.row [.string nm,.slice (some ⟨H0.next,0,none⟩) s.rows.length (s.rows.length+9),.slice (some ⟨H1.next,0,none⟩) s.queues.length (s.queues.length+3),.slice none 0 0,.slice none 0 0,.slice none 0 0,.slice none 0 0,iv s.miss] 27 false false:=J0b rfl (by rw[J0J];omega)
 have gl2:((k2.fl H1.floor).put D (.row [.string nm,.slice (some ⟨H0.next,0,none⟩) s.rows.length (s.rows.length+9),.slice (some ⟨H1.next,0,none⟩) s.queues.length (s.queues.length+3),.slice none 0 0,.slice none 0 0,.slice none 0 0,.slice none 0 0,iv s.miss] 27 false false)).get H1.next=k2.get H1.next:=by rw[J05 (by rw[J0J];omega) (by omega),J1g]
 have L2:=a6.mono gl2
 clear gl2 gDk st2 a1 a4 a5 a6 a9 ex ez e1 e2 e3 hfx hA mk2
 generalize (k2.fl H1.floor).put D (.row [.string nm,.slice (some ⟨H0.next,0,none⟩) s.rows.length (s.rows.length+9),.slice (some ⟨H1.next,0,none⟩) s.queues.length (s.queues.length+3),.slice none 0 0,.slice none 0 0,.slice none 0 0,.slice none 0 0,iv s.miss] 27 false false)=H2 at *
 have gAH2:H2.get h.next=.row [.string nm,vr,.slice aq s.queues.length cq,.slice av s.vars.length cv,.slice at_ s.tags.length ct,vu,vo,iv s.miss] 27 false false:=(gg2 _ (by omega) (by omega)).trans gAH1
 have gOH2:∀ i,i<h.next→H2.get i=h.get i:=fun i hi=>(gg2 i (by omega) (by omega)).trans (gOH1 i hi)
 have P3:=p3.mono (h':=H2.fl (max H2.floor H2.next)) (by rw[J0J];omega) fun i _ hi=>(gOH2 i hi)
 have w3:IntKind.i64.wrap ((s.vars.length:Int)+3)=((s.vars.length+3:Nat):Int):=J0s (by omega) (by omega)
 have mk3:=fun (H:SHeap)=>Joa (h:=H) (n:=s.vars.length+3) Tryz.underlying24 sz9 by9 Jdg rfl rfl (by decide) (by decide) (by omega)
 obtain⟨g3,k3,a1,a2,a3,a4,a5,a6,a7,a8,a9⟩:=Jov (mk:=[.string JcY]) Tryz.underlying24 sz9 by9 Jdg rfl (by decide) P3 (J6e _) rfl rfl (by omega) (by rw[J0J,JiM];omega)
 rw[J0J] at a1 a2 a4 a5 a6 a7 a9
 rw[JiM] at a3 a8
 have sl3:=fun (H:SHeap)=>JnH (h:=H) (id:=H2.next) (n:=s.vars.length+1) (m:=s.vars.length) (c:=s.vars.length+3) Tryz.underlying24 sz9 (by omega) (by unfold unk;omega)
 have hfx:g3.fl (max H2.floor H2.next)=g3:=by rw[← a3];exact J6L g3
 have ex:∀ i,i<H2.next→g3.get i=H2.get i:=a4
 have ez:∀ i,i<H2.next→k3.get i=H2.get i:=a9
 have e1:(H2.push (.row (J3e ((Value.string ByteArray.empty).cells.toList) (s.vars.length+3)) 9 false false)).get h.next=.row [.string nm,vr,.slice aq s.queues.length cq,.slice av s.vars.length cv,.slice at_ s.tags.length ct,vu,vo,iv s.miss] 27 false false:=by rw[J06 (by omega)];exact gAH2
 have e2:g3.get h.next=.row [.string nm,vr,.slice aq s.queues.length cq,.slice av s.vars.length cv,.slice at_ s.tags.length ct,vu,vo,iv s.miss] 27 false false:=by rw[ex _ (by omega)];exact gAH2
 have e3:k3.get h.next=.row [.string nm,vr,.slice aq s.queues.length cq,.slice av s.vars.length cv,.slice at_ s.tags.length ct,vu,vo,iv s.miss] 27 false false:=by rw[ez _ (by omega)];exact gAH2
 have gDk:(k3.fl H2.floor).get D=.row [.string nm,.slice (some ⟨H0.next,0,none⟩) s.rows.length (s.rows.length+9),.slice (some ⟨H1.next,0,none⟩) s.queues.length (s.queues.length+3),.slice none 0 0,.slice none 0 0,.slice none 0 0,.slice none 0 0,iv s.miss] 27 false false:=by rw[J1g,ez _ (by omega)];exact gDH2
 have hA:(h.next<H2.next)=True:=by simp;omega
 have st3:J0K Tryz.prog (k3.fl H2.floor) 24 (.pointer (some ⟨D,3,none⟩)) (.slice (some ⟨H2.next,0,none⟩) s.vars.length (s.vars.length+3))=_:=stc sz27 rfl rfl gDk (by simp only[List.length_cons,List.length_nil];omega) (by rw[JiM];omega)
 simp only[List.set_cons_succ,List.set_cons_zero] at st3
 simp only[evC,seval,↓evP]
 refine WK.flags (ops:=Jp4) JoZ ?_
 refine WKF.begin ?_
 refine wst hsn 0 (some 28) (.fieldAddr 27 (.tmp 1) 3) none ?_
 simp only[rgC,seval,J04,J02,WKFC,Nat.zero_add,Nat.zero_add,J1A]
 refine wst hsn 1 (some 29) (.load 24 (.tmp 28)) none ?_
 simp only[rgC,seval,J04,J02,WKFC,rgL,J0Y,gAH2,x3,hA]
 refine wst hsn 2 (some 30) (.call { callee:=.builtin .len,args:=#[.tmp 29],argTypes:=#[24] }) none ?_
 simp only[rgC,seval,J04,J02,WKFC,rgK,len3]
 refine wst hsn 3 (some 31) (.binOp .add 3 (.tmp 30) (.const (Value.int IntKind.i64 3)) 3) none ?_
 simp only[rgC,seval,J04,J02,WKFC,rgB,w3]
 refine wst hsn 4 (some 32) (.makeSlice 24 (.const (Value.int IntKind.i64 0)) (.tmp 31)) none ?_
 simp only[rgC,seval,J04,J02,WKFC,mk3,J0a]
 refine wst hsn 5 (some 33) (.fieldAddr 27 (.tmp 1) 3) none ?_
 simp only[rgC,seval,J04,J02,WKFC,Nat.zero_add,Nat.zero_add,J1A,J0a,J0i]
 refine wst hsn 6 (some 34) (.load 24 (.tmp 33)) none ?_
 simp only[rgC,seval,J04,J02,WKFC,rgL,J0Y,e1,x3,hA,J0a,J0i]
 refine wst hsn 7 (some 35) (.call { callee:=.builtin .append,args:=#[.tmp 32,.tmp 34],argTypes:=#[24,24] }) none ?_
 simp only[rgC,seval,J04,J02,WKFC,rgK,a1,J0a,J0i]
 refine wst hsn 8 (some 36) (.buildSlice 24 1 #[(0,.const (Value.string { data:=#[108,101,110,116] }))]) none ?_
 simp only[rgC,seval,J04,J02,WKFC,List.map_cons,List.map_nil,bs27,J0a,J0J,JiM,Jk2]
 refine wst hsn 9 (some 37) (.call { callee:=.builtin .append,args:=#[.tmp 35,.tmp 36],argTypes:=#[24,24] }) none ?_
 simp only[rgC,seval,J04,J02,WKFC,rgK,hfx,a5,J0a,J0i,JiM,Jk2]
 refine wst hsn 10 (some 38) (.fieldAddr 27 (.tmp 1) 3) none ?_
 simp only[rgC,seval,J04,J02,WKFC,Nat.zero_add,Nat.zero_add,J1A,JiM,Jk2]
 refine wst hsn 11 (some 39) (.load 24 (.tmp 38)) none ?_
 simp only[rgC,seval,J04,J02,WKFC,rgL,J0Y,e3,x3,hA,JiM,J1g,Jk2]
 refine wst hsn 12 (some 40) (.call { callee:=.builtin .len,args:=#[.tmp 39],argTypes:=#[24] }) none ?_
 simp only[rgC,seval,J04,J02,WKFC,rgK,len3,JiM,Jk2]
 refine wst hsn 13 (some 41) (.slice 24 (.tmp 37) none (some (.tmp 40)) none) none ?_
 simp only[rgC,seval,J04,J02,WKFC,rgL,sl3,JiM,Jk2]
 refine wst hsn 14 (some 42) (.fieldAddr 27 (.tmp 3) 3) none ?_
 simp only[rgC,seval,J04,J02,WKFC,Nat.zero_add,Nat.zero_add,J1A,JiM,Jk2]
 refine wst hsn 15 (none) (.store 24 (.tmp 42) (.tmp 41)) none ?_
 simp only[rgC,seval,J04,J02,WKFC,J17,rgS,st3,JiM,Jk2]
 refine WKF.done (i:=16) (by kernel_rfl) ?_
 have nn3:((k3.fl H2.floor).put D (.row [.string nm,.slice (some ⟨H0.next,0,none⟩) s.rows.length (s.rows.length+9),.slice (some ⟨H1.next,0,none⟩) s.queues.length (s.queues.length+3),.slice (some ⟨H2.next,0,none⟩) s.vars.length (s.vars.length+3),.slice none 0 0,.slice none 0 0,.slice none 0 0,iv s.miss] 27 false false)).next=H2.next+2:=a7
 have ff3:((k3.fl H2.floor).put D (.row [.string nm,.slice (some ⟨H0.next,0,none⟩) s.rows.length (s.rows.length+9),.slice (some ⟨H1.next,0,none⟩) s.queues.length (s.queues.length+3),.slice (some ⟨H2.next,0,none⟩) s.vars.length (s.vars.length+3),.slice none 0 0,.slice none 0 0,.slice none 0 0,iv s.miss] 27 false false)).floor=H2.floor:=rfl
 have gg3:∀ i,i<H2.next→i≠D→((k3.fl H2.floor).put D (.row [.string nm,.slice (some ⟨H0.next,0,none⟩) s.rows.length (s.rows.length+9),.slice (some ⟨H1.next,0,none⟩) s.queues.length (s.queues.length+3),.slice (some ⟨H2.next,0,none⟩) s.vars.length (s.vars.length+3),.slice none 0 0,.slice none 0 0,.slice none 0 0,iv s.miss] 27 false false)).get i=H2.get i:=fun i hi hd=>by rw[J05 (by rw[J0J];omega) (Ne.symm hd),J1g,ez i hi]
 have gDH3:((k3.fl H2.floor).put D (.row [.string nm,.slice (some ⟨H0.next,0,none⟩) s.rows.length (s.rows.length+9),.slice (some ⟨H1.next,0,none⟩) s.queues.length (s.queues.length+3),.slice (some ⟨H2.next,0,none⟩) s.vars.length (s.vars.length+3),.slice none 0 0,.slice none 0 0,.slice none 0 0,iv s.miss] 27 false false)).get D=.row [.string nm,.slice (some ⟨H0.next,0,none⟩) s.rows.length (s.rows.length+9),.slice (some ⟨H1.next,0,none⟩) s.queues.length (s.queues.length+3),.slice (some ⟨H2.next,0,none⟩) s.vars.length (s.vars.length+3),.slice none 0 0,.slice none 0 0,.slice none 0 0,iv s.miss] 27 false false:=J0b rfl (by rw[J0J];omega)
 have gl3:((k3.fl H2.floor).put D (.row [.string nm,.slice (some ⟨H0.next,0,none⟩) s.rows.length (s.rows.length+9),.slice (some ⟨H1.next,0,none⟩) s.queues.length (s.queues.length+3),.slice (some ⟨H2.next,0,none⟩) s.vars.length (s.vars.length+3),.slice none 0 0,.slice none 0 0,.slice none 0 0,iv s.miss] 27 false false)).get H2.next=k3.get H2.next:=by rw[J05 (by rw[J0J];omega) (by omega),J1g]
 have L3:=a6.mono gl3
 clear gl3 gDk st3 a1 a4 a5 a6 a9 ex ez e1 e2 e3 hfx hA mk3
 generalize (k3.fl H2.floor).put D (.row [.string nm,.slice (some ⟨H0.next,0,none⟩) s.rows.length (s.rows.length+9),.slice (some ⟨H1.next,0,none⟩) s.queues.length (s.queues.length+3),.slice (some ⟨H2.next,0,none⟩) s.vars.length (s.vars.length+3),.slice none 0 0,.slice none 0 0,.slice none 0 0,iv s.miss] 27 false false)=H3 at *
 have gAH3:H3.get h.next=.row [.string nm,vr,.slice aq s.queues.length cq,.slice av s.vars.length cv,.slice at_ s.tags.length ct,vu,vo,iv s.miss] 27 false false:=(gg3 _ (by omega) (by omega)).trans gAH2
 have gOH3:∀ i,i<h.next→H3.get i=h.get i:=fun i hi=>(gg3 i (by omega) (by omega)).trans (gOH2 i hi)
 have P4:=p4.mono (h':=H3.fl (max H3.floor H3.next)) (by rw[J0J];omega) fun i _ hi=>(gOH3 i hi)
 have w4:IntKind.i64.wrap ((s.tags.length:Int)+3)=((s.tags.length+3:Nat):Int):=J0s (by omega) (by omega)
 have mk4:=fun (H:SHeap)=>Joa (h:=H) (n:=s.tags.length+3) Tryz.underlying24 sz9 by9 Jdg rfl rfl (by decide) (by decide) (by omega)
 obtain⟨g4,k4,a1,a2,a3,a4,a5,a6,a7,a8,a9⟩:=Jov (mk:=[.string JcY]) Tryz.underlying24 sz9 by9 Jdg rfl (by decide) P4 (J6e _) rfl rfl (by omega) (by rw[J0J,JiM];omega)
 rw[J0J] at a1 a2 a4 a5 a6 a7 a9
 rw[JiM] at a3 a8
 have sl4:=fun (H:SHeap)=>JnH (h:=H) (id:=H3.next) (n:=s.tags.length+1) (m:=s.tags.length) (c:=s.tags.length+3) Tryz.underlying24 sz9 (by omega) (by unfold unk;omega)
 have hfx:g4.fl (max H3.floor H3.next)=g4:=by rw[← a3];exact J6L g4
 have ex:∀ i,i<H3.next→g4.get i=H3.get i:=a4
 have ez:∀ i,i<H3.next→k4.get i=H3.get i:=a9
 have e1:(H3.push (.row (J3e ((Value.string ByteArray.empty).cells.toList) (s.tags.length+3)) 9 false false)).get h.next=.row [.string nm,vr,.slice aq s.queues.length cq,.slice av s.vars.length cv,.slice at_ s.tags.length ct,vu,vo,iv s.miss] 27 false false:=by rw[J06 (by omega)];exact gAH3
 have e2:g4.get h.next=.row [.string nm,vr,.slice aq s.queues.length cq,.slice av s.vars.length cv,.slice at_ s.tags.length ct,vu,vo,iv s.miss] 27 false false:=by rw[ex _ (by omega)];exact gAH3
 have e3:k4.get h.next=.row [.string nm,vr,.slice aq s.queues.length cq,.slice av s.vars.length cv,.slice at_ s.tags.length ct,vu,vo,iv s.miss] 27 false false:=by rw[ez _ (by omega)];exact gAH3
 have gDk:(k4.fl H3.floor).get D=.row [.string nm,.slice (some ⟨H0.next,0,none⟩) s.rows.length (s.rows.length+9),.slice (some ⟨H1.next,0,none⟩) s.queues.length (s.queues.length+3),.slice (some ⟨H2.next,0,none⟩) s.vars.length (s.vars.length+3),.slice none 0 0,.slice none 0 0,.slice none 0 0,iv s.miss] 27 false false:=by rw[J1g,ez _ (by omega)];exact gDH3
 have hA:(h.next<H3.next)=True:=by simp;omega
 have st4:J0K Tryz.prog (k4.fl H3.floor) 24 (.pointer (some ⟨D,4,none⟩)) (.slice (some ⟨H3.next,0,none⟩) s.tags.length (s.tags.length+3))=_:=stc sz27 rfl rfl gDk (by simp only[List.length_cons,List.length_nil];omega) (by rw[JiM];omega)
 simp only[List.set_cons_succ,List.set_cons_zero] at st4
 simp only[evC,seval,↓evP]
 refine WK.flags (ops:=JoX) Jp1 ?_
 refine WKF.begin ?_
 refine wst hsn 0 (some 43) (.fieldAddr 27 (.tmp 1) 4) none ?_
 simp only[rgC,seval,J04,J02,WKFC,Nat.zero_add,Nat.zero_add,J1B]
 refine wst hsn 1 (some 44) (.load 24 (.tmp 43)) none ?_
 simp only[rgC,seval,J04,J02,WKFC,rgL,J0Y,gAH3,x4,hA]
 refine wst hsn 2 (some 45) (.call { callee:=.builtin .len,args:=#[.tmp 44],argTypes:=#[24] }) none ?_
 simp only[rgC,seval,J04,J02,WKFC,rgK,len4]
 refine wst hsn 3 (some 46) (.binOp .add 3 (.tmp 45) (.const (Value.int IntKind.i64 3)) 3) none ?_
 simp only[rgC,seval,J04,J02,WKFC,rgB,w4]
 refine wst hsn 4 (some 47) (.makeSlice 24 (.const (Value.int IntKind.i64 0)) (.tmp 46)) none ?_
 simp only[rgC,seval,J04,J02,WKFC,mk4,J0a]
 refine wst hsn 5 (some 48) (.fieldAddr 27 (.tmp 1) 4) none ?_
 simp only[rgC,seval,J04,J02,WKFC,Nat.zero_add,Nat.zero_add,J1B,J0a,J0i]
 refine wst hsn 6 (some 49) (.load 24 (.tmp 48)) none ?_
 simp only[rgC,seval,J04,J02,WKFC,rgL,J0Y,e1,x4,hA,J0a,J0i]
 refine wst hsn 7 (some 50) (.call { callee:=.builtin .append,args:=#[.tmp 47,.tmp 49],argTypes:=#[24,24] }) none ?_
 simp only[rgC,seval,J04,J02,WKFC,rgK,a1,J0a,J0i]
 refine wst hsn 8 (some 51) (.buildSlice 24 1 #[(0,.const (Value.string { data:=#[108,101,110,116] }))]) none ?_
 simp only[rgC,seval,J04,J02,WKFC,List.map_cons,List.map_nil,bs27,J0a,J0J,JiM,Jk2]
 refine wst hsn 9 (some 52) (.call { callee:=.builtin .append,args:=#[.tmp 50,.tmp 51],argTypes:=#[24,24] }) none ?_
 simp only[rgC,seval,J04,J02,WKFC,rgK,hfx,a5,J0a,J0i,JiM,Jk2]
 refine wst hsn 10 (some 53) (.fieldAddr 27 (.tmp 1) 4) none ?_
 simp only[rgC,seval,J04,J02,WKFC,Nat.zero_add,Nat.zero_add,J1B,JiM,Jk2]
 refine wst hsn 11 (some 54) (.load 24 (.tmp 53)) none ?_
 simp only[rgC,seval,J04,J02,WKFC,rgL,J0Y,e3,x4,hA,JiM,J1g,Jk2]
 refine wst hsn 12 (some 55) (.call { callee:=.builtin .len,args:=#[.tmp 54],argTypes:=#[24] }) none ?_
 simp only[rgC,seval,J04,J02,WKFC,rgK,len4,JiM,Jk2]
 refine wst hsn 13 (some 56) (.slice 24 (.tmp 52) none (some (.tmp 55)) none) none ?_
 simp only[rgC,seval,J04,J02,WKFC,rgL,sl4,JiM,Jk2]
 refine wst hsn 14 (some 57) (.fieldAddr 27 (.tmp 3) 4) none ?_
 simp only[rgC,seval,J04,J02,WKFC,Nat.zero_add,Nat.zero_add,J1B,JiM,Jk2]
 refine wst hsn 15 (none) (.store 24 (.tmp 57) (.tmp 56)) none ?_
 simp only[rgC,seval,J04,J02,WKFC,J17,rgS,st4,JiM,Jk2]
 refine WKF.done (i:=16) (by kernel_rfl) ?_
 have nn4:((k4.fl H3.floor).put D (.row [.string nm,.slice (some ⟨H0.next,0,none⟩) s.rows.length (s.rows.length+9),.slice (some ⟨H1.next,0,none⟩) s.queues.length (s.queues.length+3),.slice (some ⟨H2.next,0,none⟩) s.vars.length (s.vars.length+3),.slice (some ⟨H3.next,0,none⟩) s.tags.length (s.tags.length+3),.slice none 0 0,.slice none 0 0,iv s.miss] 27 false false)).next=H3.next+2:=a7
 have ff4:((k4.fl H3.floor).put D (.row [.string nm,.slice (some ⟨H0.next,0,none⟩) s.rows.length (s.rows.length+9),.slice (some ⟨H1.next,0,none⟩) s.queues.length (s.queues.length+3),.slice (some ⟨H2.next,0,none⟩) s.vars.length (s.vars.length+3),.slice (some ⟨H3.next,0,none⟩) s.tags.length (s.tags.length+3),.slice none 0 0,.slice none 0 0,iv s.miss] 27 false false)).floor=H3.floor:=rfl
 have gg4:∀ i,i<H3.next→i≠D→((k4.fl H3.floor).put D (.row [.string nm,.slice (some ⟨H0.next,0,none⟩) s.rows.length (s.rows.length+9),.slice (some ⟨H1.next,0,none⟩) s.queues.length (s.queues.length+3),.slice (some ⟨H2.next,0,none⟩) s.vars.length (s.vars.length+3),.slice (some ⟨H3.next,0,none⟩) s.tags.length (s.tags.length+3),.slice none 0 0,.slice none 0 0,iv s.miss] 27 false false)).get i=H3.get i:=fun i hi hd=>by rw[J05 (by rw[J0J];omega) (Ne.symm hd),J1g,ez i hi]
 have gDH4:((k4.fl H3.floor).put D (.row [.string nm,.slice (some ⟨H0.next,0,none⟩) s.rows.length (s.rows.length+9),.slice (some ⟨H1.next,0,none⟩) s.queues.length (s.queues.length+3),.slice (some ⟨H2.next,0,none⟩) s.vars.length (s.vars.length+3),.slice (some ⟨H3.next,0,none⟩) s.tags.length (s.tags.length+3),.slice none 0 0,.slice none 0 0,iv s.miss] 27 false false)).get D=.row [.string nm,.slice (some ⟨H0.next,0,none⟩) s.rows.length (s.rows.length+9),.slice (some ⟨H1.next,0,none⟩) s.queues.length (s.queues.length+3),.slice (some ⟨H2.next,0,none⟩) s.vars.length (s.vars.length+3),.slice (some ⟨H3.next,0,none⟩) s.tags.length (s.tags.length+3),.slice none 0 0,.slice none 0 0,iv s.miss] 27 false false:=J0b rfl (by rw[J0J];omega)
 have gl4:((k4.fl H3.floor).put D (.row [.string nm,.slice (some ⟨H0.next,0,none⟩) s.rows.length (s.rows.length+9),.slice (some ⟨H1.next,0,none⟩) s.queues.length (s.queues.length+3),.slice (some ⟨H2.next,0,none⟩) s.vars.length (s.vars.length+3),.slice (some ⟨H3.next,0,none⟩) s.tags.length (s.tags.length+3),.slice none 0 0,.slice none 0 0,iv s.miss] 27 false false)).get H3.next=k4.get H3.next:=by rw[J05 (by rw[J0J];omega) (by omega),J1g]
 have L4:=a6.mono gl4
 clear gl4 gDk st4 a1 a4 a5 a6 a9 ex ez e1 e2 e3 hfx hA mk4
 generalize (k4.fl H3.floor).put D (.row [.string nm,.slice (some ⟨H0.next,0,none⟩) s.rows.length (s.rows.length+9),.slice (some ⟨H1.next,0,none⟩) s.queues.length (s.queues.length+3),.slice (some ⟨H2.next,0,none⟩) s.vars.length (s.vars.length+3),.slice (some ⟨H3.next,0,none⟩) s.tags.length (s.tags.length+3),.slice none 0 0,.slice none 0 0,iv s.miss] 27 false false)=H4 at *
 have gAH4:H4.get h.next=.row [.string nm,vr,.slice aq s.queues.length cq,.slice av s.vars.length cv,.slice at_ s.tags.length ct,vu,vo,iv s.miss] 27 false false:=(gg4 _ (by omega) (by omega)).trans gAH3
 have gOH4:∀ i,i<h.next→H4.get i=h.get i:=fun i hi=>(gg4 i (by omega) (by omega)).trans (gOH3 i hi)
 have P5:J1S lo H4 vu s.rules:=J1S.mono p5 (by omega) fun i _ hi=>gOH4 i hi
 obtain⟨j5,hc5,l5,m5,f5,o5⟩:=JnZ (n:=n) P5 hl2.1 (by omega) (by omega)
 have gA5:j5.get h.next=.row [.string nm,vr,.slice aq s.queues.length cq,.slice av s.vars.length cv,.slice at_ s.tags.length ct,vu,vo,iv s.miss] 27 false false:=by rw[o5 _ (by omega)];exact gAH4
 have gD5:j5.get D=.row [.string nm,.slice (some ⟨H0.next,0,none⟩) s.rows.length (s.rows.length+9),.slice (some ⟨H1.next,0,none⟩) s.queues.length (s.queues.length+3),.slice (some ⟨H2.next,0,none⟩) s.vars.length (s.vars.length+3),.slice (some ⟨H3.next,0,none⟩) s.tags.length (s.tags.length+3),.slice none 0 0,.slice none 0 0,iv s.miss] 27 false false:=by rw[o5 _ (by omega)];exact gDH4
 have st5:J0K Tryz.prog j5 25 (.pointer (some ⟨D,5,none⟩)) (.slice (some ⟨H4.next,0,none⟩) s.rules.length (s.rules.length+3))=_:=stc sz28 rfl rfl gD5 (by simp only[List.length_cons,List.length_nil];omega) (by omega)
 simp only[List.set_cons_succ,List.set_cons_zero] at st5
 simp only[evC,seval,↓evP,Nat.zero_add,J36,J0n,gAH4,x5,hc5,st5]
 have nn5:(j5.put D (.row [.string nm,.slice (some ⟨H0.next,0,none⟩) s.rows.length (s.rows.length+9),.slice (some ⟨H1.next,0,none⟩) s.queues.length (s.queues.length+3),.slice (some ⟨H2.next,0,none⟩) s.vars.length (s.vars.length+3),.slice (some ⟨H3.next,0,none⟩) s.tags.length (s.tags.length+3),.slice (some ⟨H4.next,0,none⟩) s.rules.length (s.rules.length+3),.slice none 0 0,iv s.miss] 27 false false)).next=H4.next+2:=m5
 have ff5:(j5.put D (.row [.string nm,.slice (some ⟨H0.next,0,none⟩) s.rows.length (s.rows.length+9),.slice (some ⟨H1.next,0,none⟩) s.queues.length (s.queues.length+3),.slice (some ⟨H2.next,0,none⟩) s.vars.length (s.vars.length+3),.slice (some ⟨H3.next,0,none⟩) s.tags.length (s.tags.length+3),.slice (some ⟨H4.next,0,none⟩) s.rules.length (s.rules.length+3),.slice none 0 0,iv s.miss] 27 false false)).floor=H4.floor:=f5
 have gD5':(j5.put D (.row [.string nm,.slice (some ⟨H0.next,0,none⟩) s.rows.length (s.rows.length+9),.slice (some ⟨H1.next,0,none⟩) s.queues.length (s.queues.length+3),.slice (some ⟨H2.next,0,none⟩) s.vars.length (s.vars.length+3),.slice (some ⟨H3.next,0,none⟩) s.tags.length (s.tags.length+3),.slice (some ⟨H4.next,0,none⟩) s.rules.length (s.rules.length+3),.slice none 0 0,iv s.miss] 27 false false)).get D=.row [.string nm,.slice (some ⟨H0.next,0,none⟩) s.rows.length (s.rows.length+9),.slice (some ⟨H1.next,0,none⟩) s.queues.length (s.queues.length+3),.slice (some ⟨H2.next,0,none⟩) s.vars.length (s.vars.length+3),.slice (some ⟨H3.next,0,none⟩) s.tags.length (s.tags.length+3),.slice (some ⟨H4.next,0,none⟩) s.rules.length (s.rules.length+3),.slice none 0 0,iv s.miss] 27 false false:=J0b rfl (by omega)
 have gg5:∀ i,i<H4.next→i≠D→(j5.put D (.row [.string nm,.slice (some ⟨H0.next,0,none⟩) s.rows.length (s.rows.length+9),.slice (some ⟨H1.next,0,none⟩) s.queues.length (s.queues.length+3),.slice (some ⟨H2.next,0,none⟩) s.vars.length (s.vars.length+3),.slice (some ⟨H3.next,0,none⟩) s.tags.length (s.tags.length+3),.slice (some ⟨H4.next,0,none⟩) s.rules.length (s.rules.length+3),.slice none 0 0,iv s.miss] 27 false false)).get i=H4.get i:=fun i hi hd=>by rw[J05 (by omega) (Ne.symm hd),o5 i hi]
 have L5:=l5.mono (h':=j5.put D (.row [.string nm,.slice (some ⟨H0.next,0,none⟩) s.rows.length (s.rows.length+9),.slice (some ⟨H1.next,0,none⟩) s.queues.length (s.queues.length+3),.slice (some ⟨H2.next,0,none⟩) s.vars.length (s.vars.length+3),.slice (some ⟨H3.next,0,none⟩) s.tags.length (s.tags.length+3),.slice (some ⟨H4.next,0,none⟩) s.rules.length (s.rules.length+3),.slice none 0 0,iv s.miss] 27 false false)) (by rw[J05 (by omega) (by omega)])
 clear gA5 gD5 st5 hc5
 generalize j5.put D (.row [.string nm,.slice (some ⟨H0.next,0,none⟩) s.rows.length (s.rows.length+9),.slice (some ⟨H1.next,0,none⟩) s.queues.length (s.queues.length+3),.slice (some ⟨H2.next,0,none⟩) s.vars.length (s.vars.length+3),.slice (some ⟨H3.next,0,none⟩) s.tags.length (s.tags.length+3),.slice (some ⟨H4.next,0,none⟩) s.rules.length (s.rules.length+3),.slice none 0 0,iv s.miss] 27 false false)=H5 at *
 have gAH5:H5.get h.next=.row [.string nm,vr,.slice aq s.queues.length cq,.slice av s.vars.length cv,.slice at_ s.tags.length ct,vu,vo,iv s.miss] 27 false false:=(gg5 _ (by omega) (by omega)).trans gAH4
 have gOH5:∀ i,i<h.next→H5.get i=h.get i:=fun i hi=>(gg5 i (by omega) (by omega)).trans (gOH4 i hi)
 have P6:J1S lo H5 vo s.on:=J1S.mono p6 (by omega) fun i _ hi=>gOH5 i hi
 obtain⟨j6,hc6,l6,m6,f6,o6⟩:=JnZ (n:=n) P6 hl2.2 (by omega) (by omega)
 have gA6:j6.get h.next=.row [.string nm,vr,.slice aq s.queues.length cq,.slice av s.vars.length cv,.slice at_ s.tags.length ct,vu,vo,iv s.miss] 27 false false:=by rw[o6 _ (by omega)];exact gAH5
 have gD6:j6.get D=.row [.string nm,.slice (some ⟨H0.next,0,none⟩) s.rows.length (s.rows.length+9),.slice (some ⟨H1.next,0,none⟩) s.queues.length (s.queues.length+3),.slice (some ⟨H2.next,0,none⟩) s.vars.length (s.vars.length+3),.slice (some ⟨H3.next,0,none⟩) s.tags.length (s.tags.length+3),.slice (some ⟨H4.next,0,none⟩) s.rules.length (s.rules.length+3),.slice none 0 0,iv s.miss] 27 false false:=by rw[o6 _ (by omega)];exact gD5'
 have st6:J0K Tryz.prog j6 25 (.pointer (some ⟨D,6,none⟩)) (.slice (some ⟨H5.next,0,none⟩) s.on.length (s.on.length+3))=_:=stc sz28 rfl rfl gD6 (by simp only[List.length_cons,List.length_nil];omega) (by omega)
 simp only[List.set_cons_succ,List.set_cons_zero] at st6
 simp only[evC,seval,↓evP,Nat.zero_add,J1T,J0n,gAH5,x6,hc6,st6]
 have nn6:(j6.put D (.row [.string nm,.slice (some ⟨H0.next,0,none⟩) s.rows.length (s.rows.length+9),.slice (some ⟨H1.next,0,none⟩) s.queues.length (s.queues.length+3),.slice (some ⟨H2.next,0,none⟩) s.vars.length (s.vars.length+3),.slice (some ⟨H3.next,0,none⟩) s.tags.length (s.tags.length+3),.slice (some ⟨H4.next,0,none⟩) s.rules.length (s.rules.length+3),.slice (some ⟨H5.next,0,none⟩) s.on.length (s.on.length+3),iv s.miss] 27 false false)).next=H5.next+2:=m6
 have ff6:(j6.put D (.row [.string nm,.slice (some ⟨H0.next,0,none⟩) s.rows.length (s.rows.length+9),.slice (some ⟨H1.next,0,none⟩) s.queues.length (s.queues.length+3),.slice (some ⟨H2.next,0,none⟩) s.vars.length (s.vars.length+3),.slice (some ⟨H3.next,0,none⟩) s.tags.length (s.tags.length+3),.slice (some ⟨H4.next,0,none⟩) s.rules.length (s.rules.length+3),.slice (some ⟨H5.next,0,none⟩) s.on.length (s.on.length+3),iv s.miss] 27 false false)).floor=H5.floor:=f6
 have gD6':(j6.put D (.row [.string nm,.slice (some ⟨H0.next,0,none⟩) s.rows.length (s.rows.length+9),.slice (some ⟨H1.next,0,none⟩) s.queues.length (s.queues.length+3),.slice (some ⟨H2.next,0,none⟩) s.vars.length (s.vars.length+3),.slice (some ⟨H3.next,0,none⟩) s.tags.length (s.tags.length+3),.slice (some ⟨H4.next,0,none⟩) s.rules.length (s.rules.length+3),.slice (some ⟨H5.next,0,none⟩) s.on.length (s.on.length+3),iv s.miss] 27 false false)).get D=.row [.string nm,.slice (some ⟨H0.next,0,none⟩) s.rows.length (s.rows.length+9),.slice (some ⟨H1.next,0,none⟩) s.queues.length (s.queues.length+3),.slice (some ⟨H2.next,0,none⟩) s.vars.length (s.vars.length+3),.slice (some ⟨H3.next,0,none⟩) s.tags.length (s.tags.length+3),.slice (some ⟨H4.next,0,none⟩) s.rules.length (s.rules.length+3),.slice (some ⟨H5.next,0,none⟩) s.on.length (s.on.length+3),iv s.miss] 27 false false:=J0b rfl (by omega)
 have gg6:∀ i,i<H5.next→i≠D→(j6.put D (.row [.string nm,.slice (some ⟨H0.next,0,none⟩) s.rows.length (s.rows.length+9),.slice (some ⟨H1.next,0,none⟩) s.queues.length (s.queues.length+3),.slice (some ⟨H2.next,0,none⟩) s.vars.length (s.vars.length+3),.slice (some ⟨H3.next,0,none⟩) s.tags.length (s.tags.length+3),.slice (some ⟨H4.next,0,none⟩) s.rules.length (s.rules.length+3),.slice (some ⟨H5.next,0,none⟩) s.on.length (s.on.length+3),iv s.miss] 27 false false)).get i=H5.get i:=fun i hi hd=>by rw[J05 (by omega) (Ne.symm hd),o6 i hi]
 have L6:=l6.mono (h':=j6.put D (.row [.string nm,.slice (some ⟨H0.next,0,none⟩) s.rows.length (s.rows.length+9),.slice (some ⟨H1.next,0,none⟩) s.queues.length (s.queues.length+3),.slice (some ⟨H2.next,0,none⟩) s.vars.length (s.vars.length+3),.slice (some ⟨H3.next,0,none⟩) s.tags.length (s.tags.length+3),.slice (some ⟨H4.next,0,none⟩) s.rules.length (s.rules.length+3),.slice (some ⟨H5.next,0,none⟩) s.on.length (s.on.length+3),iv s.miss] 27 false false)) (by rw[J05 (by omega) (by omega)])
 clear gA6 gD6 st6 hc6
 generalize j6.put D (.row [.string nm,.slice (some ⟨H0.next,0,none⟩) s.rows.length (s.rows.length+9),.slice (some ⟨H1.next,0,none⟩) s.queues.length (s.queues.length+3),.slice (some ⟨H2.next,0,none⟩) s.vars.length (s.vars.length+3),.slice (some ⟨H3.next,0,none⟩) s.tags.length (s.tags.length+3),.slice (some ⟨H4.next,0,none⟩) s.rules.length (s.rules.length+3),.slice (some ⟨H5.next,0,none⟩) s.on.length (s.on.length+3),iv s.miss] 27 false false)=H6 at *
 have gOH6:∀ i,i<h.next→H6.get i=h.get i:=fun i hi=>(gg6 i (by omega) (by omega)).trans (gOH5 i hi)
 have lD:ldN 8 0 (H6.get D)=some (.agg #[.string nm,.slice (some ⟨H0.next,0,none⟩) s.rows.length (s.rows.length+9),.slice (some ⟨H1.next,0,none⟩) s.queues.length (s.queues.length+3),.slice (some ⟨H2.next,0,none⟩) s.vars.length (s.vars.length+3),.slice (some ⟨H3.next,0,none⟩) s.tags.length (s.tags.length+3),.slice (some ⟨H4.next,0,none⟩) s.rules.length (s.rules.length+3),.slice (some ⟨H5.next,0,none⟩) s.on.length (s.on.length+3),iv s.miss]):=J9E gD6' rfl
 have gZ6:H6.get (h.next+1)=.row [.string ByteArray.empty,.slice none 0 0,.slice none 0 0,.slice none 0 0,.slice none 0 0,.slice none 0 0,.slice none 0 0,iv 0] 27 false false:=by
  rw[gg6 _ (by omega) (by omega),gg5 _ (by omega) (by omega),gg4 _ (by omega) (by omega),gg3 _ (by omega) (by omega),gg2 _ (by omega) (by omega),gZ1 _ rfl]
  exact gZ
 have st7:J0K Tryz.prog H6 27 (.pointer (some ⟨h.next+1,0,none⟩)) _=_:=stW sz30 (vs:=[.string nm,.slice (some ⟨H0.next,0,none⟩) s.rows.length (s.rows.length+9),.slice (some ⟨H1.next,0,none⟩) s.queues.length (s.queues.length+3),.slice (some ⟨H2.next,0,none⟩) s.vars.length (s.vars.length+3),.slice (some ⟨H3.next,0,none⟩) s.tags.length (s.tags.length+3),.slice (some ⟨H4.next,0,none⟩) s.rules.length (s.rules.length+3),.slice (some ⟨H5.next,0,none⟩) s.on.length (s.on.length+3),iv s.miss]) gZ6 rfl rfl rfl (by omega)
 have lZ:ldN 8 0 ((H6.put (h.next+1) (.row [.string nm,.slice (some ⟨H0.next,0,none⟩) s.rows.length (s.rows.length+9),.slice (some ⟨H1.next,0,none⟩) s.queues.length (s.queues.length+3),.slice (some ⟨H2.next,0,none⟩) s.vars.length (s.vars.length+3),.slice (some ⟨H3.next,0,none⟩) s.tags.length (s.tags.length+3),.slice (some ⟨H4.next,0,none⟩) s.rules.length (s.rules.length+3),.slice (some ⟨H5.next,0,none⟩) s.on.length (s.on.length+3),iv s.miss] 27 false false)).get (h.next+1))=some (.agg #[.string nm,.slice (some ⟨H0.next,0,none⟩) s.rows.length (s.rows.length+9),.slice (some ⟨H1.next,0,none⟩) s.queues.length (s.queues.length+3),.slice (some ⟨H2.next,0,none⟩) s.vars.length (s.vars.length+3),.slice (some ⟨H3.next,0,none⟩) s.tags.length (s.tags.length+3),.slice (some ⟨H4.next,0,none⟩) s.rules.length (s.rules.length+3),.slice (some ⟨H5.next,0,none⟩) s.on.length (s.on.length+3),iv s.miss]):=J9E (J0b rfl (by omega)) rfl
 simp only[evC,seval,↓evP,hr,J1b,lD,st7,lZ]
 have gg7:∀ i,i<H6.next→i≠h.next+1→(H6.put (h.next+1) (.row [.string nm,.slice (some ⟨H0.next,0,none⟩) s.rows.length (s.rows.length+9),.slice (some ⟨H1.next,0,none⟩) s.queues.length (s.queues.length+3),.slice (some ⟨H2.next,0,none⟩) s.vars.length (s.vars.length+3),.slice (some ⟨H3.next,0,none⟩) s.tags.length (s.tags.length+3),.slice (some ⟨H4.next,0,none⟩) s.rules.length (s.rules.length+3),.slice (some ⟨H5.next,0,none⟩) s.on.length (s.on.length+3),iv s.miss] 27 false false)).get i=H6.get i:=fun i hi hd=>J05 (by omega) (Ne.symm hd)
 have nn7:(H6.put (h.next+1) (.row [.string nm,.slice (some ⟨H0.next,0,none⟩) s.rows.length (s.rows.length+9),.slice (some ⟨H1.next,0,none⟩) s.queues.length (s.queues.length+3),.slice (some ⟨H2.next,0,none⟩) s.vars.length (s.vars.length+3),.slice (some ⟨H3.next,0,none⟩) s.tags.length (s.tags.length+3),.slice (some ⟨H4.next,0,none⟩) s.rules.length (s.rules.length+3),.slice (some ⟨H5.next,0,none⟩) s.on.length (s.on.length+3),iv s.miss] 27 false false)).next=H6.next:=rfl
 have ff7:(H6.put (h.next+1) (.row [.string nm,.slice (some ⟨H0.next,0,none⟩) s.rows.length (s.rows.length+9),.slice (some ⟨H1.next,0,none⟩) s.queues.length (s.queues.length+3),.slice (some ⟨H2.next,0,none⟩) s.vars.length (s.vars.length+3),.slice (some ⟨H3.next,0,none⟩) s.tags.length (s.tags.length+3),.slice (some ⟨H4.next,0,none⟩) s.rules.length (s.rules.length+3),.slice (some ⟨H5.next,0,none⟩) s.on.length (s.on.length+3),iv s.miss] 27 false false)).floor=H6.floor:=rfl
 generalize H6.put (h.next+1) (.row [.string nm,.slice (some ⟨H0.next,0,none⟩) s.rows.length (s.rows.length+9),.slice (some ⟨H1.next,0,none⟩) s.queues.length (s.queues.length+3),.slice (some ⟨H2.next,0,none⟩) s.vars.length (s.vars.length+3),.slice (some ⟨H3.next,0,none⟩) s.tags.length (s.tags.length+3),.slice (some ⟨H4.next,0,none⟩) s.rules.length (s.rules.length+3),.slice (some ⟨H5.next,0,none⟩) s.on.length (s.on.length+3),iv s.miss] 27 false false)=H7 at *
 refine⟨⟨fun i=>if i=1 then H0.next else if i=2 then H1.next else if i=3 then H2.next else if i=4 then H3.next else if i=5 then H4.next else H5.next,rfl,?_,⟨L,?_,hL1.len,hL1.own,hL1.marks⟩,L2.mono ?_,L3.mono ?_,L4.mono ?_,L5.mono ?_,L6.mono ?_⟩,by omega,by omega,fun i hi=>by rw[gg7 _ (by omega) (by omega)];exact gOH6 i hi⟩
 ·simp only[↓reduceIte,Nat.reduceEqDiff]
  omega
 ·show H7.get H0.next=_
  rw[gg7 _ (by omega) (by omega),gg6 _ (by omega) (by omega),gg5 _ (by omega) (by omega),gg4 _ (by omega) (by omega),gg3 _ (by omega) (by omega),gg2 _ (by omega) (by omega)]
  exact hL1.g
 ·show H7.get H1.next=_
  rw[gg7 _ (by omega) (by omega),gg6 _ (by omega) (by omega),gg5 _ (by omega) (by omega),gg4 _ (by omega) (by omega),gg3 _ (by omega) (by omega)]
 ·show H7.get H2.next=_
  rw[gg7 _ (by omega) (by omega),gg6 _ (by omega) (by omega),gg5 _ (by omega) (by omega),gg4 _ (by omega) (by omega)]
 ·show H7.get H3.next=_
  rw[gg7 _ (by omega) (by omega),gg6 _ (by omega) (by omega),gg5 _ (by omega) (by omega)]
 ·show H7.get H4.next=_
  rw[gg7 _ (by omega) (by omega),gg6 _ (by omega) (by omega)]
 ·show H7.get H5.next=_
  rw[gg7 _ (by omega) (by omega)]
theorem Jpq {nm:ByteArray} {s:StN} {pv:Value} {lo:Nat} (hp:J3x lo h pv nm s) (hs:JdC s) (hl:s.rows.length<900000000) (hl2:s.rules.length<900000000∧s.on.length<900000000) (hfl:h.floor≤h.next) (hn:30<n) :
  ∃ v' h',J0T n 7 [pv] h=some (v',h')∧(∃ o,LentPol h' h.next v' nm s o)∧h.next≤h'.next∧h'.floor=h.floor∧∀ i,i<h.next→h'.get i=h.get i:=by
 obtain⟨n,rfl⟩:∃ j,n=j+1:=⟨n-1,by omega⟩
 refine k_ex (J13 ⟨rfl,rfl,rfl⟩) (JoJ hp hs hl hl2 hfl (by omega)) fun v' h1 hf ho ⟨⟨o,hL⟩,_⟩=>?_
 rw[hL.v] at hf
 cases hf
end
end Go.Proofs.YtipekdhneagdbaaGreatDoor
