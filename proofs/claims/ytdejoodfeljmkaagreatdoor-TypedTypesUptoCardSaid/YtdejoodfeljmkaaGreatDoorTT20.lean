/- Part 20 of what the claim leans on: 4 texts laid one behind another. -/
import Derived.Test.YtdejoodfeljmkaaGreatDoorTT19
namespace Go.Proofs.YtdejoodfeljmkaaGreatDoor
open Go Go.Sx
set_option maxRecDepth 100000
set_option linter.unusedSimpArgs false
set_option linter.unusedVariables false
def Jli (x:RowN):RowN:=if x.kind≠27 then { x with n:=0 } else x
def Jk8 (l:List RowN):List RowN:=l.map Jli
def JmE (nm:ByteArray) (s:StN):Prop:=(resN (Jk8 s.rows)).1.1=0∧J5b nm (outN (Jk8 s.rows)).1 s (outN (Jk8 s.rows)).2
open Classical in
noncomputable def JkA (nm:ByteArray) (s:StN):Int:=if JmE nm s then 0 else 23
theorem Jlt {H:SHeap} {cs:List Value} {e p:Int} (hl:cs.length=8) (ho:cs.all one=true) (hf:H.floor≤H.next) :
  ∃ H':SHeap × SHeap,J0K Tryz.prog ((H.push (.row [.string ByteArray.empty,.slice none 0 0,.slice none 0 0,.slice none 0 0,.slice none 0 0,.slice none 0 0,.slice none 0 0,iv 0] 27 false false)).push (.row [iv 0,iv 0] 32 false false)) 27 (.pointer (some ⟨H.next,0,none⟩)) (.agg cs.toArray)=some (H'.1)∧J0K Tryz.prog H'.1 32 (.pointer (some ⟨H.next+1,0,none⟩)) (J2k e p)=some H'.2 ∧
   Out2 H.next H'.2 cs e p∧H'.2.next=H.next+2∧H'.2.floor=H.floor∧∀ i,i<H.next→H'.2.get i=H.get i:=by
 have ga:=J4c (h:=H) (o:=.row [.string ByteArray.empty,.slice none 0 0,.slice none 0 0,.slice none 0 0,.slice none 0 0,.slice none 0 0,.slice none 0 0,iv 0] 27 false false) (o':=.row [iv 0,iv 0] 32 false false)
 have gb:=J48 (h:=H) (o:=.row [.string ByteArray.empty,.slice none 0 0,.slice none 0 0,.slice none 0 0,.slice none 0 0,.slice none 0 0,.slice none 0 0,iv 0] 27 false false) (o':=.row [iv 0,iv 0] 32 false false)
 have gold:∀ i,i<H.next→((H.push (.row [.string ByteArray.empty,.slice none 0 0,.slice none 0 0,.slice none 0 0,.slice none 0 0,.slice none 0 0,.slice none 0 0,iv 0] 27 false false)).push (.row [iv 0,iv 0] 32 false false)).get i=H.get i:=fun i hi=>by rw[J06 (by show i<H.next+1;omega),J06 hi]
 have hnx:((H.push (.row [.string ByteArray.empty,.slice none 0 0,.slice none 0 0,.slice none 0 0,.slice none 0 0,.slice none 0 0,.slice none 0 0,iv 0] 27 false false)).push (.row [iv 0,iv 0] 32 false false)).next=H.next+2:=rfl
 have hfx:((H.push (.row [.string ByteArray.empty,.slice none 0 0,.slice none 0 0,.slice none 0 0,.slice none 0 0,.slice none 0 0,.slice none 0 0,iv 0] 27 false false)).push (.row [iv 0,iv 0] 32 false false)).floor=H.floor:=rfl
 generalize (H.push (.row [.string ByteArray.empty,.slice none 0 0,.slice none 0 0,.slice none 0 0,.slice none 0 0,.slice none 0 0,.slice none 0 0,iv 0] 27 false false)).push (.row [iv 0,iv 0] 32 false false)=G at *
 obtain⟨H',s1,s2,r1,r2,r3,r4⟩:=J4J (a:=H.next) (H:=G) ⟨ga,gb⟩ rfl (by omega) (by omega) (cs':=cs) hl ho (e':=e) (p':=p)
 exact⟨⟨_,H'⟩,s1,s2,r1,by show H'.next=_;omega,by show H'.floor=_;omega,fun i hi=>by show H'.get i=_;rw[r4 i (by omega) (by omega),gold i hi]⟩
theorem all8 {lo:Nat} {h:SHeap} {nm:ByteArray} {s:StN} {vr vq vv vt vu vo:Value} (h1:J3P lo h vr s.rows) (h2:J0p lo h vq s.queues.length 2 (J3S s.queues)) (h3:J0p lo h vv s.vars.length 1 (strs s.vars)) (h4:J0p lo h vt s.tags.length 1 (strs s.tags)) (h5:J1S lo h vu s.rules) (h6:J1S lo h vo s.on) :
  ([.string nm,vr,vq,vv,vt,vu,vo,iv s.miss]:List Value).all one=true:=by
 simp only[List.all_cons,List.all_nil,h1.2.one,h2.one,h3.one,h4.one,J0p.one h5,J0p.one h6,J5J,J5K,Bool.and_self]
def Lies (v:Value) (n:Nat):Prop:=∃ id off c,v=.slice (some ⟨id,off,none⟩) n c
theorem JlO {call:J0r} {N:Nat} {h:SHeap} {l:List RowN} {v:Value} (hv:J0l h v l) (hlies:Lies v l.length) (hlen:l.length<1099511627) :
  ∃ v' h',J0L Tryz.prog call N 49 [v] h=some (v',h')∧(∃ o c g,v'=.slice (some ⟨o,0,none⟩) l.length c∧h'.get o=.row (l.flatMap J0e) 60 g false∧h.next≤o∧o<h'.next)∧h'.floor=h.floor∧h.next≤h'.next∧∀ i,i<h.next→h'.get i=h.get i:=by
 by_cases h0:0<l.length
 ·obtain⟨h',e,g1,g2,g3,g4⟩:=Jby (call:=call) (N:=N) hv h0 hlen
  exact⟨_,h',e,⟨h.next+1,unk,true,rfl,g1,by omega,by omega⟩,g3,by omega,g4⟩
 ·have hl:l=[]:=List.length_eq_zero_iff.1 (by omega)
  subst hl
  obtain⟨id,off,c,rfl⟩:=hlies
  refine⟨.slice (some ⟨h.next,0,none⟩) 0 0,h.push (.row [] 60 false false),?_,⟨h.next,0,false,rfl,J0h,Nat.le_refl _,by show h.next<h.next+1;omega⟩,rfl,by show h.next≤h.next+1;omega,fun i hi=>J06 hi⟩
  refine J1m Tryz.func49 rfl (by simp[Tryz.f49]) ?_
  have hr:Tryz.f49.results.toList=[.tmp 2]:=rfl
  have hb:binS Tryz.prog .eql 22 (.tmp 3) (.const (.slice none 0 0)) (.slice (some ⟨id,off,none⟩) ([]:List RowN).length c) (.slice none 0 0)=some (.bool false):=by
   have hf:flat (.slice (some ⟨id,off,none⟩) ([]:List RowN).length c)=false:=rfl
   simp only[binS,hf,Bool.false_and,Bool.false_eq_true,if_false,Tryz.underlying22]
  have hbs:J0Q Tryz.prog h 22 0 []=some (.slice (some ⟨h.next,0,none⟩) 0 0,h.push (.row [] 60 false false)):=by
   simp[J0Q,Tryz.underlying22,sz46,J40,flat,J1i,J0G,J5k,J3e]
  have hsrc:J16 (h.push (.row [] 60 false false)) 5 ([]:List RowN).length (.slice (some ⟨id,off,none⟩) ([]:List RowN).length c)=some []:=by simp[J16]
  have hap:J1o Tryz.prog (h.push (.row [] 60 false false)) 22 (.slice (some ⟨h.next,0,none⟩) 0 0) (.slice (some ⟨id,off,none⟩) ([]:List RowN).length c)=some (.slice (some ⟨h.next,0,none⟩) 0 0,h.push (.row [] 60 false false)):=by
   have hu:(0:Nat)≠unk:=by unfold unk;omega
   have hzs:(Value.agg #[.int .i64 0,.string ByteArray.empty,.int .i64 0,.int .i64 0,.int .i64 0]).cells.size=5:=rfl
   simp[J1o,Tryz.underlying22,sz46,by46,J40,hzs,J16,hu]
  simp only[evC,seval,↓evP,hr,hb,hbs,hap]
theorem Jm9 {n:Nat} {h:SHeap} {l:List RowN} {v:Value} (hv:J0l h v l) (hlies:Lies v l.length) (hlen:l.length<1099511627) (hn:0<n) :
  ∃ v' h',J0T n 49 [v] h=some (v',h')∧(∃ o c g,v'=.slice (some ⟨o,0,none⟩) l.length c∧h'.get o=.row (l.flatMap J0e) 60 g false∧h.next≤o∧o<h'.next)∧h'.floor=h.floor∧h.next≤h'.next∧∀ i,i<h.next→h'.get i=h.get i:=by
 obtain⟨n,rfl⟩:∃ j,n=j+1:=⟨n-1,by omega⟩
 refine k_ex (J13 ⟨rfl,rfl,rfl⟩) (JlO (call:=J0T n) (N:=n) hv hlies hlen) fun v' h1 hf ho ⟨⟨o,c,g,e1,_⟩,_⟩=>?_
 rw[e1] at hf
 cases hf
section
variable {n N:Nat}
set_option maxHeartbeats 16000000 in
theorem JlL {nm:ByteArray} {s:StN} {pv:Value} {lo:Nat} {h:SHeap} (hp:J3x lo h pv nm s) (hlies:∀ nm' vr vq vv vt vu vo m,pv=.agg #[.string nm',vr,vq,vv,vt,vu,vo,m]→Lies vr s.rows.length) (hs:JdC s) (hl:s.rows.length<900000000) (hfl:h.floor≤h.next) (hg:h.get 0=J14) (hn0:0<h.next) (hn:2*Jbg s+200<n) (hN:Jbg s+200<N) :
  ∃ h',J0L Tryz.prog (J0T n) N 27 [pv] h=some (iv (JkA nm s),h')∧∀ i,i<h.next→h'.get i=h.get i:=by
 obtain⟨vr,vq,vv,vt,vu,vo,rfl,p1,p2,p3,p4,p5,p6⟩:=hp
 have hlv:=hlies _ _ _ _ _ _ _ _ rfl
 refine J1N (R:=fun h'=>∀ i,i<h.next→h'.get i=h.get i) Tryz.func27 rfl (by simp[Tryz.f27]) ?_
 have hr:Tryz.f27.results.toList=[.tmp 2]:=rfl
 unfold Jbg at hn hN
 obtain⟨q1,q2,q3,q4,q5,q6⟩:=hs
 have ca:(Value.agg #[.string nm,vr,vq,vv,vt,vu,vo,iv s.miss]).cells.toList=[.string nm,vr,vq,vv,vt,vu,vo,iv s.miss]:=rfl
 have oa:=all8 (nm:=nm) p1 p2 p3 p4 p5 p6
 have gA:(h.push (.row [.string nm,vr,vq,vv,vt,vu,vo,iv s.miss] 27 false false)).get h.next=.row [.string nm,vr,vq,vv,vt,vu,vo,iv s.miss] 27 false false:=J0h
 have gO:∀ i,i<h.next→(h.push (.row [.string nm,vr,vq,vv,vt,vu,vo,iv s.miss] 27 false false)).get i=h.get i:=fun i hi=>J06 hi
 have nA:(h.push (.row [.string nm,vr,vq,vv,vt,vu,vo,iv s.miss] 27 false false)).next=h.next+1:=rfl
 have fA:(h.push (.row [.string nm,vr,vq,vv,vt,vu,vo,iv s.miss] 27 false false)).floor=h.floor:=rfl
 show WK _ _ _ (.seq _ (.seq _ (.seq (.seq _ _) (.seq _ (.seq _ _))))) _ _
 simp only[evC,seval,↓evP,rpD,J0X,J2t,ca,oa,sz30]
 generalize h.push (.row [.string nm,vr,vq,vv,vt,vu,vo,iv s.miss] 27 false false)=A at *
 have l1:ld1 1 (A.get h.next)=some vr:=by rw[gA];rfl
 have P1:J0l A vr s.rows:=p1.1.mono (by omega) gO
 obtain⟨v',h1,hcl,⟨o,c,g,rfl,g1,g2,g3⟩,f1,n1,o1⟩:=Jm9 (n:=n) P1 hlv (by omega) (by omega)
 have hlen:∀ h':SHeap,lenS Tryz.prog h' 22 (.slice (some ⟨o,0,none⟩) s.rows.length c)=some (iv (s.rows.length:Int)):=fun h'=>JeK
 simp only[evC,seval,↓evP,Nat.zero_add,J0y,J0F,l1,hcl,hlen]
 refine WK.loop (fun i s'=>s'.T.get 1=.pointer (some ⟨h.next,0,none⟩)∧s'.T.get 3=.slice (some ⟨o,0,none⟩) s.rows.length c∧s'.T.get 11=iv (s.rows.length:Int)∧s'.T.get 12=iv i∧i≤s.rows.length∧s'.h.next=h1.next∧s'.h.floor=h1.floor∧(∀ i,i≠o→s'.h.get i=h1.get i) ∧
  ∃ L:List RowN,s'.h.get o=.row (L.flatMap J0e) 60 g false∧∀ j,L[j]?=(s.rows[j]?).map fun x=>if j<i then Jli x else x) s.rows.length (by omega) ?_ ?_
 ·refine⟨by simp only[evC,↓reduceIte,Nat.reduceEqDiff,reduceCtorEq,↓evP,rpC,Nat.reduceAdd,Nat.reduceLT],by simp only[evC,↓reduceIte,Nat.reduceEqDiff,reduceCtorEq,↓evP,rpC,Nat.reduceAdd,Nat.reduceLT],by simp only[evC,↓reduceIte,Nat.reduceEqDiff,reduceCtorEq,↓evP,rpC,Nat.reduceAdd,Nat.reduceLT],by simp only[evC,↓reduceIte,Nat.reduceEqDiff,reduceCtorEq,↓evP,rpC,Nat.reduceAdd,Nat.reduceLT];rfl,by omega,rfl,rfl,fun _ _=>rfl,s.rows,g1,fun j=>?_⟩
  simp
 rintro i ⟨T1,H1⟩ hi ⟨t1,t3,t11,t12,hil,m1,m2,m3,L,gL,hL⟩
 simp only at t1 t3 t11 t12 m1 m2 m3 gL
 have hLl:L.length=s.rows.length:=by
  rcases Nat.lt_trichotomy L.length s.rows.length with h9 | h9 | h9
  ·have:=hL L.length
   rw[List.getElem?_eq_none (Nat.le_refl _),List.getElem?_eq_getElem h9] at this
   cases this
  ·exact h9
  ·have:=hL s.rows.length
   rw[List.getElem?_eq_getElem h9,List.getElem?_eq_none (Nat.le_refl _)] at this
   cases this
 by_cases hlt:i<s.rows.length
 ·have c1:decide ((i:Int)<(s.rows.length:Int))=true:=by simp;omega
  obtain⟨x,hx⟩:∃ x,s.rows[i]?=some x:=⟨_,List.getElem?_eq_getElem hlt⟩
  have hLx:L[i]?=some x:=by rw[hL,hx];simp
  have ea:=JaW (id:=o) (n:=s.rows.length) (c:=c) hlt
  have lk:ld1 (i*5) (H1.get o)=some (iv x.kind):=by
   have h5:=J2Y hLx
   rw[gL]
   have:(L.flatMap J0e)[i*5]?=(J0e x)[0]?:=by
    rw[← h5,List.getElem?_take_of_lt (by omega),List.getElem?_drop,Nat.add_zero]
   simp only[ld1,this]
   rfl
  have w1:IntKind.i64.wrap ((i:Int)+1)=((i+1:Nat):Int):=J0s (by omega) (by omega)
  cases d:(x.kind != 27) with
  | false=>
   have hz:Jli x=x:=by
    unfold Jli
    rw[if_neg (by simpa using d)]
   simp only[evC,seval,↓evP,t1,t3,t11,t12,c1,ea,J0t,J0m,lk,d,w1]
   refine⟨hlt,by omega,m1,m2,m3,L,gL,fun j=>?_⟩
   rw[hL j]
   by_cases hj:j=i
   ·subst hj
    rw[hx]
    simp[hz]
   ·congr 1
    funext y
    by_cases h9:j<i
    ·rw[if_pos h9,if_pos (by omega)]
    ·rw[if_neg h9,if_neg (by omega)]
  | true=>
   have hz:Jli x={ x with n:=0 }:=by
    unfold Jli
    rw[if_pos (by simpa using d)]
   have hst:=stc (t:=3) (off:=i*5+3) (v:=iv 0) sz3 rfl rfl gL (by rw[J0N];omega) (by omega)
   rw[J3N hLx] at hst
   simp only[evC,seval,↓evP,t1,t3,t11,t12,c1,ea,J0t,J0O,J0m,lk,d,hst,w1]
   refine⟨hlt,by omega,m1,m2,fun j hj=>by rw[J05 (by omega) (Ne.symm hj)];exact m3 j hj,setN L i 0,J0b rfl (by omega),fun j=>?_⟩
   by_cases hj:j=i
   ·subst hj
    rw[J4g hLx,hx]
    simp[hz]
   ·rw[J4M hj,hL j]
    congr 1
    funext y
    by_cases h9:j<i
    ·rw[if_pos h9,if_pos (by omega)]
    ·rw[if_neg h9,if_neg (by omega)]
 have c1:decide ((i:Int)<(s.rows.length:Int))=false:=by simp;omega
 have:i=s.rows.length:=by omega
 subst this
 have hLz:L=Jk8 s.rows:=by
  apply List.ext_getElem?
  intro j
  rw[hL j,Jk8,List.getElem?_map]
  rcases Nat.lt_or_ge j s.rows.length with h9 | h9
  ·simp[h9]
  ·rw[List.getElem?_eq_none h9]
   rfl
 subst hLz
 have hvz:J0l H1 (.slice (some ⟨o,0,none⟩) s.rows.length c) (Jk8 s.rows):=by
  refine⟨_,_,by rw[hLl],.inr ⟨o,0,_,_,_,_,rfl,gL,by omega,fun k r hk=>by rw[Nat.zero_add];exact J2Y hk⟩⟩
 have hw1:H1.get 0=J14:=by rw[m3 0 (by omega),o1 0 (by omega),gO 0 hn0];exact hg
 obtain⟨v2,h2,hres,pv,rfl,hp',f2,n2,o2⟩:=Jia (n:=n) (h:=H1) (by omega) hw1 (by omega) hvz (by omega) (by omega)
 obtain⟨vr',vq',vv',vt',vu',vo',rfl,b1,b2,b3,b4,b5,b6⟩:=hp'
 obtain⟨⟨hb,h3⟩,s1,s2,rO,n3,f3,o3⟩:=Jlt (H:=h2) (cs:=[.string (outN (Jk8 s.rows)).1,vr',vq',vv',vt',vu',vo',iv (outN (Jk8 s.rows)).2.miss]) (e:=(resN (Jk8 s.rows)).1.1) (p:=(resN (Jk8 s.rows)).1.2) rfl (all8 b1 b2 b3 b4 b5 b6) (by omega)
 simp only at s1 s2 rO n3 f3 o3
 have zc30:zPol.cells.toList=[.string ByteArray.empty,.slice none 0 0,.slice none 0 0,.slice none 0 0,.slice none 0 0,.slice none 0 0,.slice none 0 0,iv 0]:=rfl
 have zc33:(J2k 0 0).cells.toList=[iv 0,iv 0]:=rfl
 have HO:∀ i,i<h.next→h3.get i=h.get i:=fun i hi=>by rw[o3 i (by omega),o2 i (by omega),m3 i (by omega),o1 i (by omega),gO i hi]
 have HA:h3.get h.next=.row [.string nm,vr,vq,vv,vt,vu,vo,iv s.miss] 27 false false:=by rw[o3 _ (by omega),o2 _ (by omega),m3 _ (by omega),o1 _ (by omega)];exact gA
 obtain⟨x0,x1,x2,x3,x4,x5,x6,x7⟩:=Jhw (a:=.string nm) (b:=vr) (c:=vq) (d:=vv) (e:=vt) (f:=vu) (g:=vo) (i:=iv s.miss) (ty:=27) (x:=false) (y:=false)
 obtain⟨y0,y1,y2,y3,y4,y5,y6,y7⟩:=Jhw (a:=.string (outN (Jk8 s.rows)).1) (b:=vr') (c:=vq') (d:=vv') (e:=vt') (f:=vu') (g:=vo') (i:=iv (outN (Jk8 s.rows)).2.miss) (ty:=27) (x:=false) (y:=false)
 rw[← HA] at x0 x1 x2 x3 x4 x5 x6 x7
 rw[← rO.1] at y0 y1 y2 y3 y4 y5 y6 y7
 have lF:ld1 0 (h3.get (h2.next+1))=some (iv (resN (Jk8 s.rows)).1.1):=by rw[rO.2];rfl
 have NN:h.next≤h3.next:=by omega
 have A1:=p1.1.mono NN HO
 have A2:=p2.mono NN fun i _ hi=>HO i hi
 have A3:=p3.mono NN fun i _ hi=>HO i hi
 have A4:=p4.mono NN fun i _ hi=>HO i hi
 have A5:=J1S.mono p5 NN fun i _ hi=>HO i hi
 have A6:=J1S.mono p6 NN fun i _ hi=>HO i hi
 have B1:=(b1.mono (h':=h3) (by omega) fun i _ hi=>o3 i hi).1
 have B2:=b2.mono (h':=h3) (by omega) fun i _ hi=>o3 i hi
 have B3:=b3.mono (h':=h3) (by omega) fun i _ hi=>o3 i hi
 have B4:=b4.mono (h':=h3) (by omega) fun i _ hi=>o3 i hi
 have B5:=J1S.mono (h':=h3) b5 (by omega) fun i _ hi=>o3 i hi
 have B6:=J1S.mono (h':=h3) b6 (by omega) fun i _ hi=>o3 i hi
 have hR:=Jnu (n:=n) A1 B1 (by omega) (by omega)
 have hQ:=Jnt (n:=n) A2 B2 (by omega) (by omega)
 have hV:=JmZ (n:=n) A3 B3 (by omega) (by omega)
 have hT:=JmZ (n:=n) A4 B4 (by omega) (by omega)
 have hU:=JmT (n:=n) A5 B5 (by omega) (by omega)
 have hO:=JmT (n:=n) A6 B6 (by omega) (by omega)
 have yes:(resN (Jk8 s.rows)).1.1=0→J5b nm (outN (Jk8 s.rows)).1 s (outN (Jk8 s.rows)).2→JkA nm s=0:=fun h8 h9=>if_pos ⟨h8,h9⟩
 have no1:(resN (Jk8 s.rows)).1.1≠0→JkA nm s=23:=fun h8=>if_neg fun h9=>h8 h9.1
 have no2:¬ J5b nm (outN (Jk8 s.rows)).1 s (outN (Jk8 s.rows)).2→JkA nm s=23:=fun h8=>if_neg fun h9=>h8 h9.2
 simp only[evC,seval,↓evP,t1,t3,t11,t12,c1,hres,J5F,J3Y,zc30,J3C,J1t,zc33,J1D,s1,s2]
 cases d0:((resN (Jk8 s.rows)).1.1 != 0) with
 | true=>
  rw[no1 (by simpa using d0)]
  simp only[evC,seval,↓evP,hr,t1,List.append_eq,List.toList_toArray,Nat.zero_add,J6a,J7G,lF,J5g,J0y,J0B,J1A,J1B,J36,J1T,J38,J0d,J0m,J0F,J0S,J0Y,J0n,x0,x1,x2,x3,x4,x5,x6,x7,y0,y1,y2,y3,y4,y5,y6,y7,J26,d0]
  exact HO
 | false=>
 cases d1:(!(nm==(outN (Jk8 s.rows)).1)) with
 | true=>
  rw[no2 fun h9=>by rw[h9.1,J34] at d1;cases d1]
  simp only[evC,seval,↓evP,hr,t1,List.append_eq,List.toList_toArray,Nat.zero_add,J6a,J7G,lF,J5g,J0y,J0B,J1A,J1B,J36,J1T,J38,J0d,J0m,J0F,J0S,J0Y,J0n,x0,x1,x2,x3,x4,x5,x6,x7,y0,y1,y2,y3,y4,y5,y6,y7,J26,d0,d1]
  exact HO
 | false=>
 cases d2:(s.miss != (outN (Jk8 s.rows)).2.miss) with
 | true=>
  rw[no2 fun h9=>by rw[h9.2.1] at d2;simp at d2]
  simp only[evC,seval,↓evP,hr,t1,List.append_eq,List.toList_toArray,Nat.zero_add,J6a,J7G,lF,J5g,J0y,J0B,J1A,J1B,J36,J1T,J38,J0d,J0m,J0F,J0S,J0Y,J0n,x0,x1,x2,x3,x4,x5,x6,x7,y0,y1,y2,y3,y4,y5,y6,y7,J26,d0,d1,d2]
  exact HO
 | false=>
 cases d3:decide (s.rows=(outN (Jk8 s.rows)).2.rows) with
 | false=>
  rw[d3] at hR
  rw[no2 fun h9=>(of_decide_eq_false d3) h9.2.2.1]
  simp only[evC,seval,↓evP,hr,t1,List.append_eq,List.toList_toArray,Nat.zero_add,J6a,J7G,lF,J5g,J0y,J0B,J1A,J1B,J36,J1T,J38,J0d,J0m,J0F,J0S,J0Y,J0n,x0,x1,x2,x3,x4,x5,x6,x7,y0,y1,y2,y3,y4,y5,y6,y7,J26,d0,d1,d2,hR]
  exact HO
 | true=>
 rw[d3] at hR
 cases d4:decide (s.queues=(outN (Jk8 s.rows)).2.queues) with
 | false=>
  rw[d4] at hQ
  rw[no2 fun h9=>(of_decide_eq_false d4) h9.2.2.2.1]
  simp only[evC,seval,↓evP,hr,t1,List.append_eq,List.toList_toArray,Nat.zero_add,J6a,J7G,lF,J5g,J0y,J0B,J1A,J1B,J36,J1T,J38,J0d,J0m,J0F,J0S,J0Y,J0n,x0,x1,x2,x3,x4,x5,x6,x7,y0,y1,y2,y3,y4,y5,y6,y7,J26,d0,d1,d2,hR,hQ]
  exact HO
 | true=>
 rw[d4] at hQ
 cases d5:decide (s.vars=(outN (Jk8 s.rows)).2.vars) with
 | false=>
  rw[d5] at hV
  rw[no2 fun h9=>(of_decide_eq_false d5) h9.2.2.2.2.1]
  simp only[evC,seval,↓evP,hr,t1,List.append_eq,List.toList_toArray,Nat.zero_add,J6a,J7G,lF,J5g,J0y,J0B,J1A,J1B,J36,J1T,J38,J0d,J0m,J0F,J0S,J0Y,J0n,x0,x1,x2,x3,x4,x5,x6,x7,y0,y1,y2,y3,y4,y5,y6,y7,J26,d0,d1,d2,hR,hQ,hV]
  exact HO
 | true=>
 rw[d5] at hV
 cases d6:decide (s.tags=(outN (Jk8 s.rows)).2.tags) with
 | false=>
  rw[d6] at hT
  rw[no2 fun h9=>(of_decide_eq_false d6) h9.2.2.2.2.2.1]
  simp only[evC,seval,↓evP,hr,t1,List.append_eq,List.toList_toArray,Nat.zero_add,J6a,J7G,lF,J5g,J0y,J0B,J1A,J1B,J36,J1T,J38,J0d,J0m,J0F,J0S,J0Y,J0n,x0,x1,x2,x3,x4,x5,x6,x7,y0,y1,y2,y3,y4,y5,y6,y7,J26,d0,d1,d2,hR,hQ,hV,hT]
  exact HO
 | true=>
 rw[d6] at hT
 cases d7:decide (s.rules=(outN (Jk8 s.rows)).2.rules) with
 | false=>
  rw[d7] at hU
  rw[no2 fun h9=>(of_decide_eq_false d7) h9.2.2.2.2.2.2.1]
  simp only[evC,seval,↓evP,hr,t1,List.append_eq,List.toList_toArray,Nat.zero_add,J6a,J7G,lF,J5g,J0y,J0B,J1A,J1B,J36,J1T,J38,J0d,J0m,J0F,J0S,J0Y,J0n,x0,x1,x2,x3,x4,x5,x6,x7,y0,y1,y2,y3,y4,y5,y6,y7,J26,d0,d1,d2,hR,hQ,hV,hT,hU]
  exact HO
 | true=>
 rw[d7] at hU
 cases d8:decide (s.on=(outN (Jk8 s.rows)).2.on) with
 | false=>
  rw[d8] at hO
  rw[no2 fun h9=>(of_decide_eq_false d8) h9.2.2.2.2.2.2.2]
  simp only[evC,seval,↓evP,hr,t1,List.append_eq,List.toList_toArray,Nat.zero_add,J6a,J7G,lF,J5g,J0y,J0B,J1A,J1B,J36,J1T,J38,J0d,J0m,J0F,J0S,J0Y,J0n,x0,x1,x2,x3,x4,x5,x6,x7,y0,y1,y2,y3,y4,y5,y6,y7,J26,d0,d1,d2,hR,hQ,hV,hT,hU,hO]
  exact HO
 | true=>
 rw[d8] at hO
 rw[yes (by simpa using d0) ⟨J3o (by simpa using d1),by simpa using d2,of_decide_eq_true d3,of_decide_eq_true d4,of_decide_eq_true d5,of_decide_eq_true d6,of_decide_eq_true d7,of_decide_eq_true d8⟩]
 simp only[evC,seval,↓evP,hr,t1,List.append_eq,List.toList_toArray,Nat.zero_add,J6a,J7G,lF,J5g,J0y,J0B,J1A,J1B,J36,J1T,J38,J0d,J0m,J0F,J0S,J0Y,J0n,x0,x1,x2,x3,x4,x5,x6,x7,y0,y1,y2,y3,y4,y5,y6,y7,J26,d0,d1,d2,hR,hQ,hV,hT,hU,hO]
 exact HO
theorem JnE {nm:ByteArray} {s:StN} {pv:Value} {lo:Nat} {h:SHeap} (hp:J3x lo h pv nm s) (hlies:∀ nm' vr vq vv vt vu vo m,pv=.agg #[.string nm',vr,vq,vv,vt,vu,vo,m]→Lies vr s.rows.length) (hs:JdC s) (hl:s.rows.length<900000000) (hfl:h.floor≤h.next) (hg:h.get 0=J14) (hn0:0<h.next) (hn:2*Jbg s+300<n) :
  J0T n 27 [pv] h=some (iv (JkA nm s),h):=by
 obtain⟨n,rfl⟩:∃ j,n=j+1:=⟨n-1,by omega⟩
 exact J4r (J13 ⟨rfl,rfl,rfl⟩) rfl (JlL hp hlies hs hl hfl hg hn0 (by omega) (by omega))
end
theorem bs22 {h:SHeap} {x:RowN}:J0Q Tryz.prog h 22 1 [(0,rowV x)]=some (.slice (some ⟨h.next,0,none⟩) 1 1,h.push (.row (J0e x) 60 false false)):=by
 simp[J0Q,Tryz.underlying22,sz46,J40,flat,J1i,J0G,J5k,J3e,Go.Sx.lay]
 rfl
theorem Jp5 {h:SHeap} {lo:Nat} {v:Value} {l:List RowN} {x:RowN} (hs:SlAt h lo (fun _=>1) 1 v l.length (l.flatMap J0e) 60) (hlo:lo≤h.next) (hf:h.floor≤lo) (hb:l.length<10000000) :
  ∃ v' h',J1o Tryz.prog (h.push (.row (J0e x) 60 false false)) 22 v (.slice (some ⟨h.next,0,none⟩) 1 1)=some (v',h')∧SlAt h' lo (fun _=>1) 1 v' (l++[x]).length ((l++[x]).flatMap J0e) 60∧h'.floor=h.floor∧h.next≤h'.next∧∀ i,i<lo→h'.get i=h.get i:=by
 have hs':SlAt (h.push (.row (J0e x) 60 false false)) lo (fun i=>if i=h.next then 0 else 1) 1 v l.length (l.flatMap J0e) 60:=hs.mono (by show h.next≤h.next+1;omega) (fun i hi=>if_neg (by omega)) fun i _ hi _=>J06 hi
 obtain⟨v',h1,a1,a2,a3,a4,a5,a6,a7⟩:=J3B (et:=60) (w:=5) (c:=1) (sc:=1) (xs:=J0e x) Tryz.underlying22 sz46 by46 J40 rfl (by decide) (by decide) hs' (J0N l) (J4y l) rfl rfl (by decide) (by decide) hb (src:=h.next) J0h (by show h.next<h.next+1;omega) hf (by simp)
 have hnx:h1.next=h.next+2:=a4
 refine⟨v',h1,a1,?_,a3,by omega,fun i hi=>?_⟩
 ·rcases a2 with a2 | a2
  ·rcases a2 with⟨h2,_⟩ | ⟨id,ex,b1,b2,b3,b4,b5⟩
   ·omega
   ·refine .inr ⟨id,ex,?_,?_,b3,b4,rfl⟩
    ·rw[b1,List.length_append];rfl
    ·rw[b2,List.flatMap_append,List.flatMap_cons,List.flatMap_nil,List.append_nil]
  ·exact absurd (show lo≤h.next+1 by omega) a2
 ·rw[a7 i (by show i<h.next+1;omega) (by omega),J06 (by omega)]
section
variable {call:J0r} {n N:Nat} {h:SHeap}
set_option maxHeartbeats 8000000 in
theorem JoE {l:List RowN} {v:Value} (hv:J0l h v l) (hl:l.length<9000000) (hfl:h.floor≤h.next) (hN:l.length+5<N) :
  ∃ v' h',J0L Tryz.prog call N 62 [v] h=some (v',h')∧J0p h.next h' v' (Jk8 l).length 5 ((Jk8 l).flatMap J0e)∧h'.floor=h.floor∧h.next≤h'.next∧∀ i,i<h.next→h'.get i=h.get i:=by
 refine J65 (R:=fun v' h'=>J0p h.next h' v' (Jk8 l).length 5 ((Jk8 l).flatMap J0e)∧h'.floor=h.floor∧h.next≤h'.next∧∀ i,i<h.next→h'.get i=h.get i) Tryz.func62 rfl (by simp[Tryz.f62]) ?_
 have hr:Tryz.f62.results.toList=[.tmp 2]:=rfl
 simp only[evC,seval,↓evP]
 refine WK.loop (fun i s'=>s'.T.get 0=v∧s'.T.get 4=iv i∧i≤l.length∧h.next≤s'.h.next∧s'.h.floor=h.floor∧(∀ i,i<h.next→s'.h.get i=h.get i)∧∃ u,s'.T.get 3=u∧SlAt s'.h h.next (fun _=>1) 1 u (Jk8 (l.take i)).length ((Jk8 (l.take i)).flatMap J0e) 60) l.length (by omega) ?_ ?_
 ·exact⟨by simp only[evC,↓reduceIte,Nat.reduceEqDiff,reduceCtorEq,↓evP,rpC,Nat.reduceAdd,Nat.reduceLT],by simp only[evC,↓reduceIte,Nat.reduceEqDiff,reduceCtorEq,↓evP,rpC,Nat.reduceAdd,Nat.reduceLT];rfl,by omega,Nat.le_refl _,rfl,fun _ _=>rfl,_,by simp only[evC,↓reduceIte,Nat.reduceEqDiff,reduceCtorEq,↓evP,rpC,Nat.reduceAdd,Nat.reduceLT],J5j⟩
 rintro i ⟨T1,H1⟩ hi ⟨t0,t4,hil,n1,f1,o1,u,t3,hS⟩
 simp only at t0 t4 n1 f1 o1 t3 hS
 have hv1:J0l H1 v l:=hv.mono n1 o1
 have hlen:=fun h'=>hv1.len (h':=h')
 by_cases hlt:i<l.length
 ·have c1:decide ((i:Int)<(l.length:Int))=true:=by simp;omega
  obtain⟨x,hx⟩:∃ x,l[i]?=some x:=⟨_,List.getElem?_eq_getElem hlt⟩
  obtain⟨rid,p,e0,hid,l0,l1,l2,l3,l4,lr⟩:=hv1.row hx
  have hz:flat (.agg #[.int .i64 0,.string ByteArray.empty,.int .i64 0,.int .i64 0,.int .i64 0])=true:=rfl
  have hzc:(Value.agg #[.int .i64 0,.string ByteArray.empty,.int .i64 0,.int .i64 0,.int .i64 0]).cells.toList=[.int .i64 0,.string ByteArray.empty,.int .i64 0,.int .i64 0,.int .i64 0]:=rfl
  have hst:J0K Tryz.prog (H1.push (.row [.int .i64 0,.string ByteArray.empty,.int .i64 0,.int .i64 0,.int .i64 0] 60 false false)) 60 (.pointer (some ⟨H1.next,0,none⟩)) (.agg #[.int .i64 x.kind,.string x.name,.int .i64 x.ends,.int .i64 x.n,.int .i64 x.kids])=some ((H1.push (.row [.int .i64 0,.string ByteArray.empty,.int .i64 0,.int .i64 0,.int .i64 0] 60 false false)).put H1.next (.row (J0e x) 60 false false)):=Jaf (by omega)
  have gN:((H1.push (.row [.int .i64 0,.string ByteArray.empty,.int .i64 0,.int .i64 0,.int .i64 0] 60 false false)).put H1.next (.row (J0e x) 60 false false)).get H1.next=.row (J0e x) 60 false false:=J0b rfl (by show H1.next<H1.next+1;omega)
  have gO:∀ i,i<H1.next→((H1.push (.row [.int .i64 0,.string ByteArray.empty,.int .i64 0,.int .i64 0,.int .i64 0] 60 false false)).put H1.next (.row (J0e x) 60 false false)).get i=H1.get i:=fun i hi=>by rw[J05 (by show H1.next<H1.next+1;omega) (by omega),J06 hi]
  have nG:((H1.push (.row [.int .i64 0,.string ByteArray.empty,.int .i64 0,.int .i64 0,.int .i64 0] 60 false false)).put H1.next (.row (J0e x) 60 false false)).next=H1.next+1:=rfl
  have fG:((H1.push (.row [.int .i64 0,.string ByteArray.empty,.int .i64 0,.int .i64 0,.int .i64 0] 60 false false)).put H1.next (.row (J0e x) 60 false false)).floor=H1.floor:=rfl
  generalize (H1.push (.row [.int .i64 0,.string ByteArray.empty,.int .i64 0,.int .i64 0,.int .i64 0] 60 false false)).put H1.next (.row (J0e x) 60 false false)=G at *
  have w1:IntKind.i64.wrap ((i:Int)+1)=((i+1:Nat):Int):=J0s (by omega) (by omega)
  have lk:ld1 0 (G.get H1.next)=some (iv x.kind):=by rw[gN];rfl
  have htk:Jk8 (l.take (i+1))=Jk8 (l.take i)++[Jli x]:=by
   rw[List.take_add_one,hx,Jk8,Jk8,List.map_append]
   rfl
  have hlt2:(Jk8 (l.take i)).length<10000000:=by
   rw[Jk8,List.length_map,List.length_take]
   omega
  cases d:(x.kind != 27) with
  | false=>
   have hz1:Jli x=x:=by unfold Jli;rw[if_neg (by simpa using d)]
   have lw:ldN 5 0 (G.get H1.next)=some (rowV x):=by rw[gN];rfl
   have hSG:SlAt G h.next (fun _=>1) 1 u (Jk8 (l.take i)).length ((Jk8 (l.take i)).flatMap J0e) 60:=hS.mono (by omega) (fun _ _=>rfl) fun i _ hi _=>gO i hi
   obtain⟨v',H2,ha,hS2,f2,n2,o2⟩:=Jp5 (x:=x) hSG (by omega) (by omega) hlt2
   simp only[evC,seval,↓evP,t0,t3,t4,hlen,c1,e0,J0u,lr,J40,hz,hzc,hst,J0t,J0m,lk,d,lw,bs22,ha,w1]
   refine⟨hlt,by omega,by omega,by omega,fun i hi=>by rw[o2 i hi,gO i (by omega),o1 i hi],?_⟩
   rw[htk,hz1]
   exact hS2
  | true=>
   have hz1:Jli x={ x with n:=0 }:=by unfold Jli;rw[if_pos (by simpa using d)]
   have hs3:=stc (t:=3) (off:=3) (v:=iv 0) sz3 rfl rfl gN (by show 3<5;omega) (by omega)
   have gN2:(G.put H1.next (.row ((J0e x).set 3 (iv 0)) 60 false false)).get H1.next=.row (J0e { x with n:=0 }) 60 false false:=J0b rfl (by omega)
   have gO2:∀ i,i<H1.next→(G.put H1.next (.row ((J0e x).set 3 (iv 0)) 60 false false)).get i=H1.get i:=fun i hi=>by rw[J05 (by omega) (by omega),gO i hi]
   have nG2:(G.put H1.next (.row ((J0e x).set 3 (iv 0)) 60 false false)).next=H1.next+1:=nG
   have fG2:(G.put H1.next (.row ((J0e x).set 3 (iv 0)) 60 false false)).floor=H1.floor:=fG
   generalize G.put H1.next (.row ((J0e x).set 3 (iv 0)) 60 false false)=G2 at *
   have lw:ldN 5 0 (G2.get H1.next)=some (rowV { x with n:=0 }):=by rw[gN2];rfl
   have hSG:SlAt G2 h.next (fun _=>1) 1 u (Jk8 (l.take i)).length ((Jk8 (l.take i)).flatMap J0e) 60:=hS.mono (by omega) (fun _ _=>rfl) fun i _ hi _=>gO2 i hi
   obtain⟨v',H2,ha,hS2,f2,n2,o2⟩:=Jp5 (x:={ x with n:=0 }) hSG (by omega) (by omega) hlt2
   simp only[evC,seval,↓evP,Nat.zero_add,t0,t3,t4,hlen,c1,e0,J0u,lr,J40,hz,hzc,hst,J0t,J0O,J0m,lk,d,hs3,lw,bs22,ha,w1]
   refine⟨hlt,by omega,by omega,by omega,fun i hi=>by rw[o2 i hi,gO2 i (by omega),o1 i hi],?_⟩
   rw[htk,hz1]
   exact hS2
 have c1:decide ((i:Int)<(l.length:Int))=false:=by simp;omega
 have:i=l.length:=by omega
 subst this
 rw[List.take_length] at hS
 simp only[evC,seval,↓evP,hr,t0,t3,t4,hlen,c1]
 exact⟨hS.cells (J0N _),f1,n1,o1⟩
theorem Jpn {l:List RowN} {v:Value} (hv:J0l h v l) (hl:l.length<9000000) (hfl:h.floor≤h.next) (hn:l.length+10<n) :
  ∃ v' h',J0T n 62 [v] h=some (v',h')∧J0l h' v' (Jk8 l)∧h'.floor=h.floor∧h.next≤h'.next∧∀ i,i<h.next→h'.get i=h.get i:=by
 obtain⟨n,rfl⟩:∃ j,n=j+1:=⟨n-1,by omega⟩
 have hex:=k_ex (n:=n) (R:=fun v' h'=>J0p h.next h' v' (Jk8 l).length 5 ((Jk8 l).flatMap J0e)∧h'.floor=h.floor∧h.next≤h'.next∧∀ i,i<h.next→h'.get i=h.get i) (J13 (f:=62) (args:=[v]) (h:=h) ⟨rfl,rfl,rfl⟩) (JoE (call:=J0T n) (N:=n) hv hl hfl (by omega)) fun v' h1 hf _ ⟨hc,_⟩=>⟨hc.flat ?_ _ _,rfl,Nat.le_refl _,fun _ _=>rfl⟩
 ·obtain⟨v',h',e,hc,a⟩:=hex
  exact⟨v',h',e,(J3P.of hc).1,a⟩
 ·obtain⟨_,a,c,rfl,_⟩:=hc
  exact hf
set_option maxHeartbeats 8000000 in
theorem JoT {nm:ByteArray} {s:StN} {pv:Value} {lo:Nat} (hp:J3x lo h pv nm s) (h64:∀ x∈s.rows,x.kids≤9223372036854775807) (hs:JdC s) (hl:s.rows.length<9000000) (hfl:h.floor≤h.next) (hn:Jbg s+100200<n) :
  ∃ h',J0L Tryz.prog (J0T n) N 34 [pv] h=some (iv (JkA nm s),h')∧∀ i,i<h.next→h'.get i=h.get i:=by
 obtain⟨vr,vq,vv,vt,vu,vo,rfl,p1,p2,p3,p4,p5,p6⟩:=hp
 refine J1N (R:=fun h'=>∀ i,i<h.next→h'.get i=h.get i) Tryz.func34 rfl (by simp[Tryz.f34]) ?_
 have hr:Tryz.f34.results.toList=[.tmp 2]:=rfl
 have htot:Jbg s=s.rows.length+s.queues.length+s.vars.length+s.tags.length+s.rules.length+s.on.length:=rfl
 have ca:(Value.agg #[.string nm,vr,vq,vv,vt,vu,vo,iv s.miss]).cells.toList=[.string nm,vr,vq,vv,vt,vu,vo,iv s.miss]:=rfl
 have oa:=all8 (nm:=nm) p1 p2 p3 p4 p5 p6
 have gA:(h.push (.row [.string nm,vr,vq,vv,vt,vu,vo,iv s.miss] 27 false false)).get h.next=.row [.string nm,vr,vq,vv,vt,vu,vo,iv s.miss] 27 false false:=J0h
 have gO:∀ i,i<h.next→(h.push (.row [.string nm,vr,vq,vv,vt,vu,vo,iv s.miss] 27 false false)).get i=h.get i:=fun i hi=>J06 hi
 have nA:(h.push (.row [.string nm,vr,vq,vv,vt,vu,vo,iv s.miss] 27 false false)).next=h.next+1:=rfl
 have fA:(h.push (.row [.string nm,vr,vq,vv,vt,vu,vo,iv s.miss] 27 false false)).floor=h.floor:=rfl
 show WK _ _ _ (.seq _ (.seq _ (.seq _ _))) _ _
 simp only[evC,seval,↓evP,rpD,J0X,J2t,ca,oa,sz30]
 generalize h.push (.row [.string nm,vr,vq,vv,vt,vu,vo,iv s.miss] 27 false false)=A at *
 have l1:ld1 1 (A.get h.next)=some vr:=by rw[gA];rfl
 have P1:J0l A vr s.rows:=p1.1.mono (by omega) gO
 obtain⟨v',h1,hpl,hvz,f1,n1,o1⟩:=Jpn (n:=n) P1 hl (by omega) (by omega)
 have hzl:(Jk8 s.rows).length=s.rows.length:=by rw[Jk8,List.length_map]
 have hz64:∀ x∈Jk8 s.rows,x.kids≤9223372036854775807:=fun x hx=>by
  obtain⟨y,hy,rfl⟩:=List.mem_map.1 hx
  have:=h64 y hy
  unfold Jli
  split <;> exact this
 obtain⟨v2,h2,hres,pv,rfl,hp',f2,n2,o2⟩:=Jij (n:=n) (h:=h1) (by omega) hvz (by omega) hz64 (by omega)
 obtain⟨vr',vq',vv',vt',vu',vo',rfl,b1,b2,b3,b4,b5,b6⟩:=hp'
 obtain⟨⟨hb,h3⟩,s1,s2,rO,n3,f3,o3⟩:=Jlt (H:=h2) (cs:=[.string (outN (Jk8 s.rows)).1,vr',vq',vv',vt',vu',vo',iv (outN (Jk8 s.rows)).2.miss]) (e:=(resN (Jk8 s.rows)).1.1) (p:=(resN (Jk8 s.rows)).1.2) rfl (all8 b1 b2 b3 b4 b5 b6) (by omega)
 simp only at s1 s2 rO n3 f3 o3
 have zc30:zPol.cells.toList=[.string ByteArray.empty,.slice none 0 0,.slice none 0 0,.slice none 0 0,.slice none 0 0,.slice none 0 0,.slice none 0 0,iv 0]:=rfl
 have zc33:(J2k 0 0).cells.toList=[iv 0,iv 0]:=rfl
 have HO:∀ i,i<h.next→h3.get i=h.get i:=fun i hi=>by rw[o3 i (by omega),o2 i (by omega),o1 i (by omega),gO i hi]
 have HA:h3.get h.next=.row [.string nm,vr,vq,vv,vt,vu,vo,iv s.miss] 27 false false:=by rw[o3 _ (by omega),o2 _ (by omega),o1 _ (by omega)];exact gA
 have LA:ldN 8 0 (h3.get h.next)=some (.agg #[.string nm,vr,vq,vv,vt,vu,vo,iv s.miss]):=by rw[HA];rfl
 have LB:ldN 8 0 (h3.get h2.next)=some (.agg #[.string (outN (Jk8 s.rows)).1,vr',vq',vv',vt',vu',vo',iv (outN (Jk8 s.rows)).2.miss]):=by rw[rO.1];rfl
 have lF:ld1 0 (h3.get (h2.next+1))=some (iv (resN (Jk8 s.rows)).1.1):=by rw[rO.2];rfl
 have NN:h.next≤h3.next:=by omega
 have hpA:J3x lo h3 (.agg #[.string nm,vr,vq,vv,vt,vu,vo,iv s.miss]) nm s:=⟨vr,vq,vv,vt,vu,vo,rfl,p1.mono NN fun i _ hi=>HO i hi,p2.mono NN fun i _ hi=>HO i hi,p3.mono NN fun i _ hi=>HO i hi,p4.mono NN fun i _ hi=>HO i hi,J1S.mono p5 NN fun i _ hi=>HO i hi,J1S.mono p6 NN fun i _ hi=>HO i hi⟩
 have hpB:J3x h1.next h3 (.agg #[.string (outN (Jk8 s.rows)).1,vr',vq',vv',vt',vu',vo',iv (outN (Jk8 s.rows)).2.miss]) (outN (Jk8 s.rows)).1 (outN (Jk8 s.rows)).2:=
  J3x.mono ⟨vr',vq',vv',vt',vu',vo',rfl,b1,b2,b3,b4,b5,b6⟩ (by omega) fun i _ hi=>o3 i hi
 obtain⟨b,hsame,hb'⟩:=JgK (n:=n) (h:=h3) hpA hpB hs (by omega)
 simp only[evC,seval,↓evP,Nat.zero_add,J0y,J0F,l1,hpl,hres,J5F,J3Y,zc30,J3C,J1t,zc33,J1D,s1,s2]
 cases d0:((resN (Jk8 s.rows)).1.1 != 0) with
 | true=>
  rw[show JkA nm s=23 from if_neg fun h9=>absurd h9.1 (by simpa using d0)]
  simp only[evC,seval,↓evP,hr,J6a,J7G,lF,d0]
  exact HO
 | false=>
  cases b with
  | true=>
   rw[show JkA nm s=0 from if_pos ⟨by simpa using d0,hb'.1 rfl⟩]
   simp only[evC,seval,↓evP,hr,J6a,J7G,lF,d0,J1b,LA,LB,hsame]
   exact HO
  | false=>
   rw[show JkA nm s=23 from if_neg fun h9=>by have:=hb'.2 h9.2;cases this]
   simp only[evC,seval,↓evP,hr,J6a,J7G,lF,d0,J1b,LA,LB,hsame]
   exact HO
theorem JpH {nm:ByteArray} {s:StN} {pv:Value} {lo:Nat} (hp:J3x lo h pv nm s) (h64:∀ x∈s.rows,x.kids≤9223372036854775807) (hs:JdC s) (hl:s.rows.length<9000000) (hfl:h.floor≤h.next) (hn:Jbg s+100300<n) :
  J0T n 34 [pv] h=some (iv (JkA nm s),h):=by
 obtain⟨n,rfl⟩:∃ j,n=j+1:=⟨n-1,by omega⟩
 exact J4r (J13 ⟨rfl,rfl,rfl⟩) rfl (JoT (N:=n) hp h64 hs hl hfl (by omega))
end
noncomputable def Jqf:Array Oper:=J18 Tryz.f12 6
def Jr1:List (Bool × Bool × List Operand):=[(false,true,[]),(false,true,[]),(false,true,[]),(false,true,[]),(false,true,[.tmp 19]),(false,true,[.tmp 19]),(false,true,[.tmp 19]),(false,true,[.tmp 19]),(false,false,[])]
theorem Jqp:J1E Jqf=Jr1:=by kernel_rfl
section
variable {call:J0r} {N:Nat} {h:SHeap}
set_option maxHeartbeats 4000000 in
theorem Jqu (hsn:J1G call) {va vb:Value} {A B:List Int} {la lb:Nat} (ha:J1S la h va A) (hb:J1S lb h vb B) (hN:A.length+3<N) (hl:A.length<1099511627776):J0L Tryz.prog call N 12 [va,vb] h=some (.bool (decide (A=B)),h):=by
 refine J1m Tryz.func12 rfl (by simp[Tryz.f12]) ?_
 have hr:Tryz.f12.results.toList=[.tmp 4]:=rfl
 have lA:=fun h'=>JfF ha h'
 have lB:=fun h'=>JfF hb h'
 cases d:((A.length:Int) != (B.length:Int)) with
 | true=>
  have hne:A≠B:=fun e=>by subst e;simp at d
  rw[decide_eq_false hne]
  simp only[evC,↓reduceIte,Nat.reduceEqDiff,reduceCtorEq,↓evP,hr,lA,lB,d]
 | false=>
  have hlen:A.length=B.length:=by
   have h9:(A.length:Int)=(B.length:Int):=by simpa using d
   omega
  simp only[evC,↓reduceIte,Nat.reduceEqDiff,reduceCtorEq,↓evP,lA,lB,d]
  refine WK.loop (fun i s'=>s'.T.get 0=va∧s'.T.get 1=vb∧s'.T.get 5=iv i∧s'.h=h∧i≤A.length∧∀ j,j<i→A[j]?=B[j]?) A.length (by omega) ?_ ?_
  ·simp only[evC,↓reduceIte,Nat.reduceEqDiff,reduceCtorEq,↓evP,rpC,Nat.reduceAdd,Nat.reduceLT]
   exact⟨rfl,fun j hj=>by omega⟩
  ·rintro i ⟨T1,H1⟩ hi ⟨t0,t1,t5,hh,hil,hsame⟩
   simp only at t0 t1 t5 hh
   subst hh
   by_cases hlt:i<A.length
   ·have c1:decide ((i:Int)<(A.length:Int))=true:=by simp;omega
    obtain⟨x,hx⟩:∃ x,A[i]?=some x:=⟨_,List.getElem?_eq_getElem hlt⟩
    obtain⟨y,hy⟩:∃ y,B[i]?=some y:=⟨_,List.getElem?_eq_getElem (by omega)⟩
    obtain⟨ida,pa,ea,_,xa⟩:=J1S.get ha hx
    obtain⟨idb,pb,eb,_,xb⟩:=J1S.get hb hy
    have w1:IntKind.i64.wrap ((i:Int)+1)=((i+1:Nat):Int):=J0s (by omega) (by omega)
    simp only[evC,seval,↓evP,t0,t1,t5,lA,c1]
    refine WK.flags (ops:=Jqf) Jqp ?_
    refine WKF.begin ?_
    have FF:=aQ @t0 (aQ @t1 (aQ @t5 (aQ @ea (aQ @eb (aQ @J0m (aQ @xa (aQ @xb @J4h)))))))
    refine wst hsn 0 (some 17) (.move (.tmp 0)) none ?_
    simp only[rgC,seval,J04,J02,WKFC,FF]
    refine wst hsn 1 (some 18) (.move (.tmp 5)) none ?_
    simp only[rgC,seval,J04,J02,WKFC,FF]
    refine wst hsn 2 (some 19) (.indexAddr 25 (.tmp 17) (.tmp 18)) none ?_
    simp only[rgC,seval,J04,J02,WKFC,Nat.zero_add,FF]
    refine wst hsn 3 (some 20) (.load 3 (.tmp 19)) none ?_
    simp only[rgC,seval,J04,J02,WKFC,rgL,FF]
    refine wst hsn 4 (some 21) (.move (.tmp 1)) none ?_
    simp only[rgC,seval,J04,J02,WKFC,FF]
    refine wst hsn 5 (some 22) (.move (.tmp 5)) none ?_
    simp only[rgC,seval,J04,J02,WKFC,FF]
    refine wst hsn 6 (some 23) (.indexAddr 25 (.tmp 21) (.tmp 22)) none ?_
    simp only[rgC,seval,J04,J02,WKFC,Nat.zero_add,FF]
    refine wst hsn 7 (some 24) (.load 3 (.tmp 23)) none ?_
    simp only[rgC,seval,J04,J02,WKFC,rgL,FF]
    refine wst hsn 8 (some 25) (.binOp .neq 3 (.tmp 20) (.tmp 24) 3) none ?_
    simp only[rgC,seval,J04,J02,WKFC,rgB,FF]
    refine WKF.done (i:=9) (by kernel_rfl) ?_
    clear FF
    cases e:(x != y) with
    | true=>
     have hne:A≠B:=fun h9=>by
      subst h9
      rw[hx] at hy
      cases hy
      simp at e
     rw[decide_eq_false hne]
     simp only[evC,seval,↓evP,hr,e]
    | false=>
     have hxy:x=y:=by simpa using e
     simp only[evC,seval,↓evP,t0,t1,t5,e,w1]
     refine⟨by omega,by omega,fun j hj=>?_⟩
     rcases Nat.lt_or_ge j i with h1 | h1
     ·exact hsame j h1
     ·have:j=i:=by omega
      subst this
      rw[hx,hy,hxy]
   ·have c1:decide ((i:Int)<(A.length:Int))=false:=by simp;omega
    have:i=A.length:=by omega
    subst this
    have hAB:A=B:=J4S hlen hsame
    rw[decide_eq_true hAB]
    simp only[evC,seval,↓evP,hr,t0,t1,t5,lA,c1]
end
noncomputable def Jqo:Array Oper:=J18 Tryz.f67 6
def Jri:List (Bool × Bool × List Operand):=[(false,true,[]),(false,true,[]),(false,true,[]),(false,true,[]),(false,true,[.tmp 19]),(false,true,[.tmp 19]),(false,true,[.tmp 19]),(false,true,[.tmp 19]),(false,false,[])]
theorem JqF:J1E Jqo=Jri:=by kernel_rfl
section
variable {call:J0r} {N:Nat} {h:SHeap}
set_option maxHeartbeats 4000000 in
theorem JqB (hsn:J1G call) {va vb:Value} {A B:List ByteArray} {la lb:Nat} (ha:J0p la h va A.length 1 (strs A)) (hb:J0p lb h vb B.length 1 (strs B)) (hN:A.length+3<N) (hl:A.length<1099511627776):J0L Tryz.prog call N 67 [va,vb] h=some (.bool (decide (A=B)),h):=by
 refine J1m Tryz.func67 rfl (by simp[Tryz.f67]) ?_
 have hr:Tryz.f67.results.toList=[.tmp 4]:=rfl
 have lA:=fun h'=>JfT ha h'
 have lB:=fun h'=>JfT hb h'
 cases d:((A.length:Int) != (B.length:Int)) with
 | true=>
  have hne:A≠B:=fun e=>by subst e;simp at d
  rw[decide_eq_false hne]
  simp only[evC,↓reduceIte,Nat.reduceEqDiff,reduceCtorEq,↓evP,hr,lA,lB,d]
 | false=>
  have hlen:A.length=B.length:=by
   have h9:(A.length:Int)=(B.length:Int):=by simpa using d
   omega
  simp only[evC,↓reduceIte,Nat.reduceEqDiff,reduceCtorEq,↓evP,lA,lB,d]
  refine WK.loop (fun i s'=>s'.T.get 0=va∧s'.T.get 1=vb∧s'.T.get 5=iv i∧s'.h=h∧i≤A.length∧∀ j,j<i→A[j]?=B[j]?) A.length (by omega) ?_ ?_
  ·simp only[evC,↓reduceIte,Nat.reduceEqDiff,reduceCtorEq,↓evP,rpC,Nat.reduceAdd,Nat.reduceLT]
   exact⟨rfl,fun j hj=>by omega⟩
  ·rintro i ⟨T1,H1⟩ hi ⟨t0,t1,t5,hh,hil,hsame⟩
   simp only at t0 t1 t5 hh
   subst hh
   by_cases hlt:i<A.length
   ·have c1:decide ((i:Int)<(A.length:Int))=true:=by simp;omega
    obtain⟨x,hx⟩:∃ x,A[i]?=some x:=⟨_,List.getElem?_eq_getElem hlt⟩
    obtain⟨y,hy⟩:∃ y,B[i]?=some y:=⟨_,List.getElem?_eq_getElem (by omega)⟩
    obtain⟨ida,pa,ea,_,xa⟩:=Ja3 hx ha
    obtain⟨idb,pb,eb,_,xb⟩:=Ja3 hy hb
    have w1:IntKind.i64.wrap ((i:Int)+1)=((i+1:Nat):Int):=J0s (by omega) (by omega)
    simp only[evC,seval,↓evP,t0,t1,t5,lA,c1]
    refine WK.flags (ops:=Jqo) JqF ?_
    refine WKF.begin ?_
    have FF:=aQ @t0 (aQ @t1 (aQ @t5 (aQ @ea (aQ @eb (aQ @J0d (aQ @xa (aQ @xb @J26)))))))
    refine wst hsn 0 (some 17) (.move (.tmp 0)) none ?_
    simp only[rgC,seval,J04,J02,WKFC,FF]
    refine wst hsn 1 (some 18) (.move (.tmp 5)) none ?_
    simp only[rgC,seval,J04,J02,WKFC,FF]
    refine wst hsn 2 (some 19) (.indexAddr 24 (.tmp 17) (.tmp 18)) none ?_
    simp only[rgC,seval,J04,J02,WKFC,Nat.zero_add,FF]
    refine wst hsn 3 (some 20) (.load 9 (.tmp 19)) none ?_
    simp only[rgC,seval,J04,J02,WKFC,rgL,FF]
    refine wst hsn 4 (some 21) (.move (.tmp 1)) none ?_
    simp only[rgC,seval,J04,J02,WKFC,FF]
    refine wst hsn 5 (some 22) (.move (.tmp 5)) none ?_
    simp only[rgC,seval,J04,J02,WKFC,FF]
    refine wst hsn 6 (some 23) (.indexAddr 24 (.tmp 21) (.tmp 22)) none ?_
    simp only[rgC,seval,J04,J02,WKFC,Nat.zero_add,FF]
    refine wst hsn 7 (some 24) (.load 9 (.tmp 23)) none ?_
    simp only[rgC,seval,J04,J02,WKFC,rgL,FF]
    refine wst hsn 8 (some 25) (.binOp .neq 9 (.tmp 20) (.tmp 24) 9) none ?_
    simp only[rgC,seval,J04,J02,WKFC,rgB,FF]
    refine WKF.done (i:=9) (by kernel_rfl) ?_
    clear FF
    cases e:(!(x==y)) with
    | true=>
     have hne:A≠B:=fun h9=>by
      subst h9
      rw[hx] at hy
      cases hy
      rw[J34] at e;cases e
     rw[decide_eq_false hne]
     simp only[evC,seval,↓evP,hr,e]
    | false=>
     have hxy:x=y:=J3o (by simpa using e)
     simp only[evC,seval,↓evP,t0,t1,t5,e,w1]
     refine⟨by omega,by omega,fun j hj=>?_⟩
     rcases Nat.lt_or_ge j i with h1 | h1
     ·exact hsame j h1
     ·have:j=i:=by omega
      subst this
      rw[hx,hy,hxy]
   ·have c1:decide ((i:Int)<(A.length:Int))=false:=by simp;omega
    have:i=A.length:=by omega
    subst this
    have hAB:A=B:=J4S hlen hsame
    rw[decide_eq_true hAB]
    simp only[evC,seval,↓evP,hr,t0,t1,t5,lA,c1]
end
noncomputable def Jqt:Array Oper:=J18 Tryz.f66 6
def Jrh:List (Bool × Bool × List Operand):=[(false,true,[]),(false,true,[]),(false,true,[]),(false,true,[]),(false,true,[.tmp 19]),(false,true,[.tmp 19]),(false,true,[.tmp 19]),(false,true,[.tmp 19]),(false,false,[])]
theorem Jqz:J1E Jqt=Jrh:=by kernel_rfl
section
variable {call:J0r} {N:Nat} {h:SHeap}
set_option maxHeartbeats 4000000 in
theorem Jqy (hsn:J1G call) {va vb:Value} {A B:List (ByteArray × Bool)} {la lb:Nat} (ha:J0p la h va A.length 2 (J3S A)) (hb:J0p lb h vb B.length 2 (J3S B)) (hN:A.length+3<N) (hl:A.length<1099511627776):J0L Tryz.prog call N 66 [va,vb] h=some (.bool (decide (A=B)),h):=by
 refine J1m Tryz.func66 rfl (by simp[Tryz.f66]) ?_
 have hr:Tryz.f66.results.toList=[.tmp 4]:=rfl
 have lA:=fun h'=>JfC ha h'
 have lB:=fun h'=>JfC hb h'
 cases d:((A.length:Int) != (B.length:Int)) with
 | true=>
  have hne:A≠B:=fun e=>by subst e;simp at d
  rw[decide_eq_false hne]
  simp only[evC,↓reduceIte,Nat.reduceEqDiff,reduceCtorEq,↓evP,hr,lA,lB,d]
 | false=>
  have hlen:A.length=B.length:=by
   have h9:(A.length:Int)=(B.length:Int):=by simpa using d
   omega
  simp only[evC,↓reduceIte,Nat.reduceEqDiff,reduceCtorEq,↓evP,lA,lB,d]
  refine WK.loop (fun i s'=>s'.T.get 0=va∧s'.T.get 1=vb∧s'.T.get 5=iv i∧s'.h=h∧i≤A.length∧∀ j,j<i→A[j]?=B[j]?) A.length (by omega) ?_ ?_
  ·simp only[evC,↓reduceIte,Nat.reduceEqDiff,reduceCtorEq,↓evP,rpC,Nat.reduceAdd,Nat.reduceLT]
   exact⟨rfl,fun j hj=>by omega⟩
  ·rintro i ⟨T1,H1⟩ hi ⟨t0,t1,t5,hh,hil,hsame⟩
   simp only at t0 t1 t5 hh
   subst hh
   by_cases hlt:i<A.length
   ·have c1:decide ((i:Int)<(A.length:Int))=true:=by simp;omega
    obtain⟨x,hx⟩:∃ x,A[i]?=some x:=⟨_,List.getElem?_eq_getElem hlt⟩
    obtain⟨y,hy⟩:∃ y,B[i]?=some y:=⟨_,List.getElem?_eq_getElem (by omega)⟩
    obtain⟨ida,pa,ea,_,xa⟩:=J8S hx ha
    obtain⟨idb,pb,eb,_,xb⟩:=J8S hy hb
    have w1:IntKind.i64.wrap ((i:Int)+1)=((i+1:Nat):Int):=J0s (by omega) (by omega)
    simp only[evC,seval,↓evP,t0,t1,t5,lA,c1]
    refine WK.flags (ops:=Jqt) Jqz ?_
    refine WKF.begin ?_
    have FF:=aQ @t0 (aQ @t1 (aQ @t5 (aQ @ea (aQ @eb (aQ @J3z (aQ @xa (aQ @xb @J6H)))))))
    refine wst hsn 0 (some 17) (.move (.tmp 0)) none ?_
    simp only[rgC,seval,J04,J02,WKFC,FF]
    refine wst hsn 1 (some 18) (.move (.tmp 5)) none ?_
    simp only[rgC,seval,J04,J02,WKFC,FF]
    refine wst hsn 2 (some 19) (.indexAddr 23 (.tmp 17) (.tmp 18)) none ?_
    simp only[rgC,seval,J04,J02,WKFC,Nat.zero_add,FF]
    refine wst hsn 3 (some 20) (.load 75 (.tmp 19)) none ?_
    simp only[rgC,seval,J04,J02,WKFC,rgL,FF]
    refine wst hsn 4 (some 21) (.move (.tmp 1)) none ?_
    simp only[rgC,seval,J04,J02,WKFC,FF]
    refine wst hsn 5 (some 22) (.move (.tmp 5)) none ?_
    simp only[rgC,seval,J04,J02,WKFC,FF]
    refine wst hsn 6 (some 23) (.indexAddr 23 (.tmp 21) (.tmp 22)) none ?_
    simp only[rgC,seval,J04,J02,WKFC,Nat.zero_add,FF]
    refine wst hsn 7 (some 24) (.load 75 (.tmp 23)) none ?_
    simp only[rgC,seval,J04,J02,WKFC,rgL,FF]
    refine wst hsn 8 (some 25) (.binOp .neq 75 (.tmp 20) (.tmp 24) 75) none ?_
    simp only[rgC,seval,J04,J02,WKFC,rgB,FF]
    refine WKF.done (i:=9) (by kernel_rfl) ?_
    clear FF
    cases e:(!(x.1==y.1&&x.2==y.2)) with
    | true=>
     have hne:A≠B:=fun h9=>by
      subst h9
      rw[hx] at hy
      cases hy
      rw[J34] at e;simp at e
     rw[decide_eq_false hne]
     simp only[evC,seval,↓evP,hr,e]
    | false=>
     have hxy:x=y:=by
      have e':(x.1==y.1&&x.2==y.2)=true:=by simpa using e
      rw[Bool.and_eq_true] at e'
      exact Prod.ext (J3o e'.1) (by simpa using e'.2)
     simp only[evC,seval,↓evP,t0,t1,t5,e,w1]
     refine⟨by omega,by omega,fun j hj=>?_⟩
     rcases Nat.lt_or_ge j i with h1 | h1
     ·exact hsame j h1
     ·have:j=i:=by omega
      subst this
      rw[hx,hy,hxy]
   ·have c1:decide ((i:Int)<(A.length:Int))=false:=by simp;omega
    have:i=A.length:=by omega
    subst this
    have hAB:A=B:=J4S hlen hsame
    rw[decide_eq_true hAB]
    simp only[evC,seval,↓evP,hr,t0,t1,t5,lA,c1]
end
noncomputable def Jqw:Array Oper:=J18 Tryz.f65 6
def Jro:List (Bool × Bool × List Operand):=[(false,true,[]),(false,true,[]),(false,true,[]),(false,true,[]),(false,true,[.tmp 19]),(false,true,[.tmp 19]),(false,true,[.tmp 19]),(false,true,[.tmp 19]),(false,false,[])]
theorem JqC:J1E Jqw=Jro:=by kernel_rfl
section
variable {call:J0r} {N:Nat} {h:SHeap}
open Classical in
set_option maxHeartbeats 4000000 in
theorem JqE (hsn:J1G call) {va vb:Value} {A B:List RowN} (ha:J0l h va A) (hb:J0l h vb B) (hN:A.length+3<N) (hl:A.length<1099511627776):J0L Tryz.prog call N 65 [va,vb] h=some (.bool (decide (A=B)),h):=by
 refine J1m Tryz.func65 rfl (by simp[Tryz.f65]) ?_
 have hr:Tryz.f65.results.toList=[.tmp 4]:=rfl
 have lA:=fun h'=>ha.len (h':=h')
 have lB:=fun h'=>hb.len (h':=h')
 cases d:((A.length:Int) != (B.length:Int)) with
 | true=>
  have hne:A≠B:=fun e=>by subst e;simp at d
  rw[decide_eq_false hne]
  simp only[evC,↓reduceIte,Nat.reduceEqDiff,reduceCtorEq,↓evP,hr,lA,lB,d]
 | false=>
  have hlen:A.length=B.length:=by
   have h9:(A.length:Int)=(B.length:Int):=by simpa using d
   omega
  simp only[evC,↓reduceIte,Nat.reduceEqDiff,reduceCtorEq,↓evP,lA,lB,d]
  refine WK.loop (fun i s'=>s'.T.get 0=va∧s'.T.get 1=vb∧s'.T.get 5=iv i∧s'.h=h∧i≤A.length∧∀ j,j<i→A[j]?=B[j]?) A.length (by omega) ?_ ?_
  ·simp only[evC,↓reduceIte,Nat.reduceEqDiff,reduceCtorEq,↓evP,rpC,Nat.reduceAdd,Nat.reduceLT]
   exact⟨rfl,fun j hj=>by omega⟩
  ·rintro i ⟨T1,H1⟩ hi ⟨t0,t1,t5,hh,hil,hsame⟩
   simp only at t0 t1 t5 hh
   subst hh
   by_cases hlt:i<A.length
   ·have c1:decide ((i:Int)<(A.length:Int))=true:=by simp;omega
    obtain⟨x,hx⟩:∃ x,A[i]?=some x:=⟨_,List.getElem?_eq_getElem hlt⟩
    obtain⟨y,hy⟩:∃ y,B[i]?=some y:=⟨_,List.getElem?_eq_getElem (by omega)⟩
    obtain⟨ida,pa,ea,_,_,_,_,_,_,xa⟩:=ha.row hx
    obtain⟨idb,pb,eb,_,_,_,_,_,_,xb⟩:=hb.row hy
    have xa':ldN 5 pa (H1.get ida)=some (rowV x):=xa
    have xb':ldN 5 pb (H1.get idb)=some (rowV y):=xb
    have w1:IntKind.i64.wrap ((i:Int)+1)=((i+1:Nat):Int):=J0s (by omega) (by omega)
    simp only[evC,seval,↓evP,t0,t1,t5,lA,c1]
    refine WK.flags (ops:=Jqw) JqC ?_
    refine WKF.begin ?_
    have FF:=aQ @t0 (aQ @t1 (aQ @t5 (aQ @ea (aQ @eb (aQ @J0u (aQ @xa' (aQ @xb' @J6U)))))))
    refine wst hsn 0 (some 17) (.move (.tmp 0)) none ?_
    simp only[rgC,seval,J04,J02,WKFC,FF]
    refine wst hsn 1 (some 18) (.move (.tmp 5)) none ?_
    simp only[rgC,seval,J04,J02,WKFC,FF]
    refine wst hsn 2 (some 19) (.indexAddr 22 (.tmp 17) (.tmp 18)) none ?_
    simp only[rgC,seval,J04,J02,WKFC,Nat.zero_add,FF]
    refine wst hsn 3 (some 20) (.load 60 (.tmp 19)) none ?_
    simp only[rgC,seval,J04,J02,WKFC,rgL,FF]
    refine wst hsn 4 (some 21) (.move (.tmp 1)) none ?_
    simp only[rgC,seval,J04,J02,WKFC,FF]
    refine wst hsn 5 (some 22) (.move (.tmp 5)) none ?_
    simp only[rgC,seval,J04,J02,WKFC,FF]
    refine wst hsn 6 (some 23) (.indexAddr 22 (.tmp 21) (.tmp 22)) none ?_
    simp only[rgC,seval,J04,J02,WKFC,Nat.zero_add,FF]
    refine wst hsn 7 (some 24) (.load 60 (.tmp 23)) none ?_
    simp only[rgC,seval,J04,J02,WKFC,rgL,FF]
    refine wst hsn 8 (some 25) (.binOp .neq 60 (.tmp 20) (.tmp 24) 60) none ?_
    simp only[rgC,seval,J04,J02,WKFC,rgB,FF]
    refine WKF.done (i:=9) (by kernel_rfl) ?_
    clear FF
    cases e:(!(J5z x y)) with
    | true=>
     have hne:A≠B:=fun h9=>by
      subst h9
      rw[hx] at hy
      cases hy
      rw[J6E.2 rfl] at e;cases e
     rw[decide_eq_false hne]
     simp only[evC,seval,↓evP,hr,e]
    | false=>
     have hxy:x=y:=J6E.1 (by simpa using e)
     simp only[evC,seval,↓evP,t0,t1,t5,e,w1]
     refine⟨by omega,by omega,fun j hj=>?_⟩
     rcases Nat.lt_or_ge j i with h1 | h1
     ·exact hsame j h1
     ·have:j=i:=by omega
      subst this
      rw[hx,hy,hxy]
   ·have c1:decide ((i:Int)<(A.length:Int))=false:=by simp;omega
    have:i=A.length:=by omega
    subst this
    have hAB:A=B:=J4S hlen hsame
    rw[decide_eq_true hAB]
    simp only[evC,seval,↓evP,hr,t0,t1,t5,lA,c1]
end
section
variable {n:Nat} {h:SHeap} {va vb:Value}
theorem Jqd {A:List Int} {la lb:Nat} (ha:J1S la h va A) (hb:J1S lb h vb A) (hl:A.length<1000000000) (hn:A.length+5<n):J0T n 12 [va,vb] h=some (.bool true,h):=by
 obtain⟨n,rfl⟩:∃ j,n=j+1:=⟨n-1,by omega⟩
 have:=Jqu (N:=n) (J1z n).2 ha hb (by omega) (by omega)
 rw[decide_eq_true rfl] at this
 exact J6r (J13 ⟨rfl,rfl,rfl⟩) rfl this
theorem Jqi {A:List ByteArray} {la lb:Nat} (ha:J0p la h va A.length 1 (strs A)) (hb:J0p lb h vb A.length 1 (strs A)) (hl:A.length<1000000000) (hn:A.length+5<n):J0T n 67 [va,vb] h=some (.bool true,h):=by
 obtain⟨n,rfl⟩:∃ j,n=j+1:=⟨n-1,by omega⟩
 have:=JqB (N:=n) (J1z n).2 ha hb (by omega) (by omega)
 rw[decide_eq_true rfl] at this
 exact J6r (J13 ⟨rfl,rfl,rfl⟩) rfl this
theorem Jrt {A:List (ByteArray × Bool)} {la lb:Nat} (ha:J0p la h va A.length 2 (J3S A)) (hb:J0p lb h vb A.length 2 (J3S A)) (hl:A.length<1000000000) (hn:A.length+5<n):J0T n 66 [va,vb] h=some (.bool true,h):=by
 obtain⟨n,rfl⟩:∃ j,n=j+1:=⟨n-1,by omega⟩
 have:=Jqy (N:=n) (J1z n).2 ha hb (by omega) (by omega)
 rw[decide_eq_true rfl] at this
 exact J6r (J13 ⟨rfl,rfl,rfl⟩) rfl this
open Classical in
theorem Jru {A:List RowN} (ha:J0l h va A) (hb:J0l h vb A) (hl:A.length<1000000000) (hn:A.length+5<n):J0T n 65 [va,vb] h=some (.bool true,h):=by
 obtain⟨n,rfl⟩:∃ j,n=j+1:=⟨n-1,by omega⟩
 have:=JqE (N:=n) (J1z n).2 ha hb (by omega) (by omega)
 rw[decide_eq_true rfl] at this
 exact J6r (J13 ⟨rfl,rfl,rfl⟩) rfl this
end
theorem Jrc {h:SHeap} {a:Option Addr} {n c:Nat}:lenS Tryz.prog h 25 (.slice a n c)=some (iv (n:Int)):=by simp[lenS,Tryz.underlying25]
def mkI (i:Nat):Int:=-77-(i:Int)
structure LentI (h:SHeap) (o:Nat) (l L:List Int):Prop where
 g:h.get o=.row (ints L) 3 false false
 len:L.length=l.length+5
 own:∀ j,j<l.length→L[j]?=l[j]?
 marks:∀ q,q<5→L[l.length+q]?=some (mkI (l.length+q))
theorem LentI.cells {h:SHeap} {o:Nat} {l L:List Int} (hl:LentI h o l L) {lo c:Nat} (ho:lo≤o∧o<h.next):J1S lo h (.slice (some ⟨o,0,none⟩) l.length c) l:=by
 have e:L=l++L.drop l.length:=by
  apply List.ext_getElem?
  intro j
  rcases Nat.lt_or_ge j l.length with h1 | h1
  ·rw[List.getElem?_append_left h1,hl.own j h1]
  ·rw[List.getElem?_append_right h1,List.getElem?_drop]
   congr 1
   omega
 have g:=hl.g
 rw[e] at g
 have g':h.get o=.row (ints l++ints (L.drop l.length)) 3 false false:=by rw[g];simp[ints]
 exact J0p.row g' ho (by rw[J1h];omega)
section
variable {call:J0r} {N n:Nat} {h:SHeap}
set_option maxHeartbeats 4000000 in
theorem JqU {l:List Int} {v:Value} {lo:Nat} (hv:J1S lo h v l) (hl:l.length<900000000) (hfl:h.floor≤h.next) (hN:12<N) :
  ∃ h',J0L Tryz.prog call N 26 [v] h=some (.slice (some ⟨h.next,0,none⟩) l.length (l.length+5),h')∧((∃ L,LentI h' h.next l L)∧h'.next=h.next+1∧h'.floor=h.floor∧∀ i,i<h.next→h'.get i=h.get i):=by
 refine J1N (R:=fun h'=>(∃ L,LentI h' h.next l L)∧h'.next=h.next+1∧h'.floor=h.floor∧∀ i,i<h.next→h'.get i=h.get i) Tryz.func26 rfl (by simp[Tryz.f26]) ?_
 have hr:Tryz.f26.results.toList=[.tmp 2]:=rfl
 have hlen:=fun h'=>JfF hv h'
 have w9:IntKind.i64.wrap ((l.length:Int)+5)=((l.length+5:Nat):Int):=J0s (by omega) (by omega)
 obtain⟨H1,hmk,hcp,g1,n1,f1,o1⟩:=JqZ (P:=Tryz.prog) (t:=25) (e:=3) (k:=5) (z:=.int .i64 0) Tryz.underlying25 sz3 by3 J8P rfl rfl (by decide) (by decide) hv (J5u l) (by omega) hfl
 have hlen9:∀ h':SHeap,lenS Tryz.prog h' 25 (.slice (some ⟨h.next,0,none⟩) (l.length+5) (l.length+5))=some (iv ((l.length+5:Nat):Int)):=fun h'=>Jrc
 have hsl:=fun (H:SHeap)=>JnH (P:=Tryz.prog) (h:=H) (t:=25) (e:=3) (id:=h.next) (n:=l.length+5) (m:=l.length) (c:=l.length+5) Tryz.underlying25 sz3 (by omega) (by unfold unk;omega)
 simp only[evC,seval,↓evP,hlen,w9,hmk,hcp]
 refine WK.loop (fun k s'=>s'.T.get 0=v∧s'.T.get 3=.slice (some ⟨h.next,0,none⟩) (l.length+5) (l.length+5)∧s'.T.get 4=iv ((l.length+k:Nat):Int)∧k≤5∧s'.h.next=h.next+1∧s'.h.floor=h.floor∧(∀ i,i<h.next→s'.h.get i=h.get i) ∧
  ∃ L:List Int,s'.h.get h.next=.row (ints L) 3 false false∧L.length=l.length+5∧(∀ j,j<l.length→L[j]?=l[j]?)∧∀ q,q<k→L[l.length+q]?=some (mkI (l.length+q))) 5 (by omega) ?_ ?_
 ·refine⟨by simp only[evC,seval,↓evP,rpC],by simp only[evC,seval,↓evP,rpC],by simp only[evC,seval,↓evP,rpC];rfl,by omega,n1,f1,o1,l++List.replicate 5 0,?_,by simp,fun j hj=>by rw[List.getElem?_append_left hj],fun q hq=>by omega⟩
  show H1.get h.next=_
  rw[g1]
  have:J3e (Value.int IntKind.i64 0).cells.toList 5=ints (List.replicate 5 0):=J8K 5
  rw[this]
  simp[ints]
 ·rintro k ⟨T1,H2⟩ hk ⟨t0,t3,t4,hk9,n2,f2,o2,L,gL,lL,own,marks⟩
  simp only at t0 t3 t4 n2 f2 o2 gL
  by_cases hlt:k<5
  ·have c1:decide (((l.length+k:Nat):Int)<((l.length+5:Nat):Int))=true:=by simp;omega
   have hix:=J1F (id:=h.next) (n:=l.length+5) (c:=l.length+5) (i:=l.length+k) (by omega)
   have w2:IntKind.i64.wrap (-77-((l.length+k:Nat):Int))=mkI (l.length+k):=J0s (by omega) (by omega)
   have hst:J0K Tryz.prog H2 3 (.pointer (some ⟨h.next,l.length+k,none⟩)) (iv (mkI (l.length+k)))=some (H2.put h.next (.row (ints (L.set (l.length+k) (mkI (l.length+k)))) 3 false false)):=J59 gL (by omega) (by omega)
   have w1:IntKind.i64.wrap (((l.length+k:Nat):Int)+1)=((l.length+(k+1):Nat):Int):=J0s (by omega) (by omega)
   simp only[evC,seval,↓evP,t0,t3,t4,hlen9,c1,w2,hix,hst,w1]
   refine⟨hlt,by omega,n2,f2,fun i hi=>by rw[J05 (by omega) (by omega)];exact o2 i hi,_,J0b rfl (by omega),by rw[List.length_set];exact lL,fun j hj=>?_,fun q hq=>?_⟩
   ·rw[List.getElem?_set_ne (by omega)]
    exact own j hj
   ·rcases Nat.lt_or_ge q k with h1 | h1
    ·rw[List.getElem?_set_ne (by omega)]
     exact marks q h1
    ·have:q=k:=by omega
     subst this
     rw[List.getElem?_set_self (by omega)]
  ·have c1:decide (((l.length+k:Nat):Int)<((l.length+5:Nat):Int))=false:=by simp;omega
   have:k=5:=by omega
   subst this
   simp only[evC,seval,↓evP,hr,t0,t3,t4,hlen,hlen9,c1,hsl]
   exact⟨⟨L,gL,lL,own,marks⟩,n2,f2,o2⟩
theorem Jr7 {l:List Int} {v:Value} {lo:Nat} (hv:J1S lo h v l) (hl:l.length<900000000) (hfl:h.floor≤h.next) (hn:20<n) :
  ∃ h',J0T n 26 [v] h=some (.slice (some ⟨h.next,0,none⟩) l.length (l.length+5),h')∧((∃ L,LentI h' h.next l L)∧h'.next=h.next+1∧h'.floor=h.floor∧∀ i,i<h.next→h'.get i=h.get i):=by
 obtain⟨n,rfl⟩:∃ j,n=j+1:=⟨n-1,by omega⟩
 exact Jc0 (J13 ⟨rfl,rfl,rfl⟩) rfl (JqU hv hl hfl (by omega))
end
section
variable {call:J0r} {N n:Nat} {h:SHeap}
set_option maxHeartbeats 8000000 in
theorem JqN {o lo:Nat} {l L:List Int} {v:Value} (hL:LentI h o l L) (ho:o<h.next) (hf:h.floor≤o) (hv:J1S lo h v l) (hl:l.length<900000000) (hN:l.length+20<N)
  (hs:call 12 [.slice (some ⟨o,0,none⟩) l.length (l.length+5),v] h=some (.bool true,h)) :
  ∃ h',J0L Tryz.prog call N 15 [.slice (some ⟨o,0,none⟩) l.length (l.length+5),v] h=some (.bool true,h')∧(h'.next=h.next∧h'.floor=h.floor∧∀ i,i≠o→h'.get i=h.get i):=by
 refine J1N (R:=fun h'=>h'.next=h.next∧h'.floor=h.floor∧∀ i,i≠o→h'.get i=h.get i) Tryz.func15 rfl (by simp[Tryz.f15]) ?_
 have hr:Tryz.f15.results.toList=[.tmp 4]:=rfl
 have lenM:∀ h':SHeap,lenS Tryz.prog h' 25 (.slice (some ⟨o,0,none⟩) l.length (l.length+5))=some (iv (l.length:Int)):=fun h'=>Jrc
 have lenA:∀ h':SHeap,lenS Tryz.prog h' 25 (.slice (some ⟨o,0,none⟩) (l.length+5) (l.length+5))=some (iv ((l.length+5:Nat):Int)):=fun h'=>Jrc
 have hsl:=fun (H:SHeap)=>JnH (P:=Tryz.prog) (h:=H) (t:=25) (e:=3) (id:=o) (n:=l.length) (m:=l.length+5) (c:=l.length+5) Tryz.underlying25 sz3 (by omega) (by unfold unk;omega)
 have w9:IntKind.i64.wrap ((l.length:Int)+5)=((l.length+5:Nat):Int):=J0s (by omega) (by omega)
 simp only[evC,seval,↓evP,hs,lenM,lenA,w9,hsl]
 refine WK.loop (fun q s'=>s'.T.get 5=.bool true∧s'.T.get 6=.slice (some ⟨o,0,none⟩) (l.length+5) (l.length+5)∧s'.T.get 7=iv ((l.length+q:Nat):Int)∧q≤5∧s'.h=h) 5 (by omega) ?_ ?_
 ·exact⟨by simp only[evC,seval,↓evP,rpC],by simp only[evC,seval,↓evP,rpC],by simp only[evC,seval,↓evP,rpC];rfl,by omega,rfl⟩
 rintro q ⟨T2,H2⟩ hq ⟨t5,t7,t8,hq9,hh⟩
 simp only at t5 t7 t8 hh
 subst hh
 by_cases hlt:q<5
 ·have c1:decide (((l.length+q:Nat):Int)<((l.length+5:Nat):Int))=true:=by simp;omega
  have ea:=J1F (id:=o) (n:=l.length+5) (c:=l.length+5) (i:=l.length+q) (by omega)
  have xa:ld1 (l.length+q) (H2.get o)=some (iv (mkI (l.length+q))):=by rw[hL.g];exact J2z (hL.marks q hlt)
  have w1:IntKind.i64.wrap (((l.length+q:Nat):Int)+1)=((l.length+(q+1):Nat):Int):=J0s (by omega) (by omega)
  have w2:IntKind.i64.wrap (-77-((l.length+q:Nat):Int))=mkI (l.length+q):=J0s (by omega) (by omega)
  simp only[evC,seval,↓evP,t5,t7,t8,lenA,c1,ea,J0m,xa,w2,BEq.rfl,w1]
  exact⟨hlt,by omega⟩
 have c1:decide (((l.length+q:Nat):Int)<((l.length+5:Nat):Int))=false:=by simp;omega
 have:q=5:=by omega
 subst this
 simp only[evC,seval,↓evP,t5,t7,t8,lenA,c1]
 refine WK.loop (fun k s'=>s'.T.get 5=.bool true∧s'.T.get 6=.slice (some ⟨o,0,none⟩) (l.length+5) (l.length+5)∧s'.T.get 8=iv (k:Int)∧k≤l.length+5∧s'.h.next=H2.next∧s'.h.floor=H2.floor∧(∀ i,i≠o→s'.h.get i=H2.get i)∧∃ L':List Int,s'.h.get o=.row (ints L') 3 false false∧L'.length=l.length+5) (l.length+5) (by omega) ?_ ?_
 ·exact⟨by simp only[evC,↓reduceIte,Nat.reduceEqDiff,reduceCtorEq,↓evP,rpC,Nat.reduceAdd,Nat.reduceLT,t5],by simp only[evC,↓reduceIte,Nat.reduceEqDiff,reduceCtorEq,↓evP,rpC,Nat.reduceAdd,Nat.reduceLT,t7],by simp only[evC,↓reduceIte,Nat.reduceEqDiff,reduceCtorEq,↓evP,rpC,Nat.reduceAdd,Nat.reduceLT];rfl,by omega,rfl,rfl,fun _ _=>rfl,L,hL.g,hL.len⟩
 rintro k ⟨T3,H3⟩ hk ⟨t5,t7,t9,hk9,n3,f3,o3,L',g3,l3⟩
 simp only at t5 t7 t9 n3 f3 o3 g3
 by_cases hlt:k<l.length+5
 ·have c1:decide ((k:Int)<((l.length+5:Nat):Int))=true:=by simp;omega
  have ea:=J1F (id:=o) (n:=l.length+5) (c:=l.length+5) (i:=k) hlt
  have hst:J0K Tryz.prog H3 3 (.pointer (some ⟨o,k,none⟩)) (iv 31)=some (H3.put o (.row (ints (L'.set k 31)) 3 false false)):=J59 g3 (by omega) (by omega)
  have w1:IntKind.i64.wrap ((k:Int)+1)=((k+1:Nat):Int):=J0s (by omega) (by omega)
  simp only[evC,seval,↓evP,t5,t7,t9,lenA,c1,ea,hst,w1]
  exact⟨hlt,by omega,n3,f3,fun i hi=>by rw[J05 (by omega) (Ne.symm hi)];exact o3 i hi,_,J0b rfl (by omega),by rw[List.length_set];exact l3⟩
 have c1:decide ((k:Int)<((l.length+5:Nat):Int))=false:=by simp;omega
 simp only[evC,seval,↓evP,hr,t5,t7,t9,lenA,c1]
 exact⟨n3,f3,o3⟩
theorem JqA {o lo:Nat} {l L:List Int} {v:Value} (hL:LentI h o l L) (ho:o<h.next) (hf:h.floor≤o) (hv:J1S lo h v l) (hl:l.length<900000000) (hn:l.length+30<n) :
  ∃ h',J0T n 15 [.slice (some ⟨o,0,none⟩) l.length (l.length+5),v] h=some (.bool true,h')∧(h'.next=h.next∧h'.floor=h.floor∧∀ i,i≠o→h'.get i=h.get i):=by
 obtain⟨n,rfl⟩:∃ j,n=j+1:=⟨n-1,by omega⟩
 exact k_wr (J13 ⟨rfl,rfl,rfl⟩) (JqN hL ho hf hv hl (by omega) (Jqd (hL.cells (lo:=0) ⟨Nat.zero_le _,ho⟩) hv (by omega) (by omega)))
end
end Go.Proofs.YtdejoodfeljmkaaGreatDoor
