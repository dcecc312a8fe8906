/- Part 23 of what the claim leans on: 3 texts laid one behind another. -/
import Derived.Test.YtdejoodfeljmkaaGreatDoorTT22
namespace Go.Proofs.YtdejoodfeljmkaaGreatDoor
open Go Go.Sx
set_option maxRecDepth 100000
set_option linter.unusedSimpArgs false
set_option linter.unusedVariables false
theorem JtK {P:Program} {call:J0r} {n:Nat} {c:Code} {s:St} {k:Kont} (Q:SExit→St→Prop) (h1:WK P call n c s (.top Q)) (h2:∀ e s',Q e s'→k.ap P call n e s'):WK P call n c s k:=WS.mono h1 h2
def Jsd (l:List Bool):List Value:=l.map (.bool ·)
theorem Jtk (l:List Bool):(Jsd l).length=l.length:=by simp[Jsd]
theorem by4:byOf Tryz.prog 4=some 1:=by kernel_rfl
theorem JtV:J1w Tryz.prog 4=some (.bool false):=by kernel_rfl
theorem Jsz (n:Nat):J3e [Value.bool false] n=Jsd (List.replicate n false):=by
 induction n with
 | zero=>rfl
 | succ n ih=>
  rw[List.replicate_succ]
  show [Value.bool false]++J3e [Value.bool false] n=_
  rw[ih]
  rfl
theorem Jst {l:List Bool} {i:Nat} {x:Bool} {ty:TypeId} {g ro:Bool} (hx:l[i]?=some x):ld1 i (.row (Jsd l) ty g ro)=some (.bool x):=by simp[ld1,Jsd,hx]
theorem Jt0 {h:SHeap} {id i:Nat} {l:List Bool} {x:Bool} {ty:TypeId} {g:Bool} (hg:h.get id=.row (Jsd l) ty g false) (hi:i<l.length) (hf:h.floor≤id):J0K Tryz.prog h 4 (.pointer (some ⟨id,i,none⟩)) (.bool x)=some (h.put id (.row (Jsd (l.set i x)) ty g false)):=by
 have:=stc (v:=.bool x) (off:=i) sz4 rfl rfl hg (by rw[Jtk];exact hi) hf
 rw[this]
 simp[Jsd,List.map_set]
theorem idxB {id n c i:Nat} (hi:i<n):J0R Tryz.prog 63 (.slice (some ⟨id,0,none⟩) n c) (iv (i:Int))=some (.pointer (some ⟨id,i,none⟩)):=by
 have:=idxA (id:=id) (n:=n) (c:=c) (i:=i) Tryz.underlying63 sz4 hi
 rwa [Nat.mul_one] at this
structure TyH (h H:SHeap) (P:List Value) (TP:List Int) (M:MkT):Prop where
 p:H.get h.next=.row P 27 false false
 f:H.get (h.next+1)=.row [iv 0,iv 0] 32 false false
 t:H.get (h.next+2)=.row (ints TP) 3 false false
 a:H.get (h.next+3)=.row (ints M.A) 3 false false
 c:H.get (h.next+4)=.row (Jsd M.C) 4 false false
 u:H.get (h.next+5)=.row (ints M.U) 3 false false
 n:h.next+6≤H.next
 fl:H.floor=h.floor
 o:∀ i,i<h.next→H.get i=h.get i
theorem TyH.mono {h H H':SHeap} {P:List Value} {TP:List Int} {M:MkT} (hT:TyH h H P TP M) (hn:H.next≤H'.next) (hf:H'.floor=H.floor) (hg:∀ i,i<h.next+6→H'.get i=H.get i):TyH h H' P TP M:=
 ⟨by rw[hg _ (by omega)];exact hT.p,by rw[hg _ (by omega)];exact hT.f,by rw[hg _ (by omega)];exact hT.t,by rw[hg _ (by omega)];exact hT.a,by rw[hg _ (by omega)];exact hT.c,by rw[hg _ (by omega)];exact hT.u,by have:=hT.n;omega,hf.trans hT.fl,fun i hi=>by rw[hg i (by omega)];exact hT.o i hi⟩
theorem Jsm {H:SHeap} {id:Nat} (hg:H.get id=.row [iv 0,iv 0] 32 false false) (hid:id<H.next) (hf:H.floor≤id) (e a:Int) :
  ∃ H',J0K Tryz.prog H 32 (.pointer (some ⟨id,0,none⟩)) (J2k e a)=some H'∧ldN 2 0 (H'.get id)=some (J2k e a)∧H'.next=H.next∧H'.floor=H.floor∧∀ i,i≠id→H'.get i=H.get i:=
 ⟨_,stW sz33 (vs:=[iv e,iv a]) hg rfl rfl rfl hf,by rw[J0b rfl hid];rfl,rfl,rfl,fun i hi=>J05 hid (Ne.symm hi)⟩
noncomputable def JsD:Array Oper:=J18 Tryz.f9 12
def Ju6:List (Bool × Bool × List Operand):=[(false,false,[]),(false,false,[]),(false,false,[]),(false,false,[]),(false,false,[]),(false,false,[]),(false,true,[]),(false,true,[]),(false,true,[]),(false,true,[]),(false,true,[.tmp 59]),(false,true,[.tmp 59]),(false,true,[.tmp 59]),(false,true,[.tmp 59]),(false,false,[]),(false,false,[]),(false,false,[])]
theorem JsJ:J1E JsD=Ju6:=by kernel_rfl
noncomputable def JsX:Array Oper:=J18 Tryz.f9 16
def JtW:List (Bool × Bool × List Operand):=[(false,true,[]),(false,true,[.tmp 1]),(false,true,[.tmp 1,.tmp 10]),(false,true,[.tmp 1,.tmp 10]),(false,true,[.tmp 1,.tmp 10,.tmp 84]),(false,true,[.tmp 1,.tmp 10,.tmp 84]),(false,true,[.tmp 1,.tmp 10,.tmp 84]),(false,true,[.tmp 1,.tmp 10,.tmp 84]),(false,true,[.tmp 1,.tmp 10]),(false,true,[.tmp 1,.tmp 10]),(false,false,[]),(false,false,[])]
theorem JsL:J1E JsX=JtW:=by kernel_rfl
noncomputable def JsH:Array Oper:=J18 Tryz.f9 23
def JtX:List (Bool × Bool × List Operand):=[(true,true,[]),(true,true,[]),(true,true,[]),(true,true,[]),(true,true,[]),(true,true,[]),(false,true,[]),(false,true,[]),(false,true,[.tmp 122]),(false,true,[.tmp 122]),(false,true,[]),(true,true,[.tmp 122]),(true,true,[.tmp 122]),(true,true,[.tmp 122]),(true,true,[.tmp 122]),(false,false,[]),(false,false,[]),(false,false,[]),(false,true,[.tmp 132]),(false,false,[]),(false,false,[]),(true,true,[.tmp 122,.tmp 129,.tmp 132]),(false,false,[]),(false,false,[]),(false,false,[]),(false,false,[]),(false,false,[]),(false,false,[])]
theorem JsP:J1E JsH=JtX:=by kernel_rfl
theorem JtF:(JsD[5]?).bind (·.dst)=some 56:=by kernel_rfl
theorem JtI:(JsH[15]?).bind (·.dst)=some 131:=by kernel_rfl
def Ju9 (h H2:SHeap) (D m i:Nat) (vr:Value) (B:Int) (e:SExit) (s':St):Prop:=
 (e=.normal∧s'.h=H2∧s'.T.get 1=.pointer (some ⟨h.next,0,none⟩)∧s'.T.get 3=.pointer (some ⟨h.next+1,0,none⟩)∧s'.T.get 5=.slice (some ⟨h.next+2,0,none⟩) m m∧s'.T.get 6=.slice (some ⟨h.next+3,0,none⟩) m m∧s'.T.get 7=.slice (some ⟨h.next+4,0,none⟩) m m∧s'.T.get 8=.slice (some ⟨h.next+5,0,none⟩) m m∧s'.T.get 37=vr∧s'.T.get 38=iv (m:Int)∧s'.T.get 39=iv (i:Int)∧s'.T.get 9=iv (i:Int)∧s'.T.get 10=.pointer (some ⟨D,0,none⟩)∧B=0) ∨
  (e=.ret∧s'.T.get 2=.slice none 0 0∧s'.T.get 3=.pointer (some ⟨h.next+1,0,none⟩)∧B≠0∧ldN 2 0 (s'.h.get (h.next+1))=some (J2k B i)∧s'.h.floor=h.floor∧h.next≤s'.h.next∧∀ j,j<h.next→s'.h.get j=h.get j)
theorem Jt1 {h1:SHeap} {lo:Nat} {tv:Value} {l:List Int} {e a:Int} (ht:J1S lo h1 tv l) (hf:J3m (.tuple #[tv,J2k e a])=true) (h:SHeap):J1S lo h tv l:=by
 obtain⟨hl,a',c,rfl,⟨h0,h1⟩ | ⟨id,off,row,ty,g,ro,rfl,_⟩⟩:=ht
 ·exact⟨hl,a',c,rfl,.inl ⟨h0,h1⟩⟩
 ·simp[J3m,flat,J1i] at hf
section
variable {n N:Nat} {h:SHeap}
set_option maxHeartbeats 64000000 in
theorem Jtm {nm : ByteArray} {s:StN} {pv:Value} {lo:Nat} (hp:J3x lo h pv nm s) (hlies:∀ nm' vr vq vv vt vu vo m,pv=.agg #[.string nm',vr,vq,vv,vt,vu,vo,m]→Lies vr s.rows.length) (hs:JdC s) (hl:s.rows.length<9000000) (hg:h.get 0=J14) (hn0:0<h.next) (hfl:h.floor≤h.next) (hn:2*Jbg s+400<n) (hN:s.rows.length+40<N) :
  ∃ v' h',J0L Tryz.prog (J0T n) N 9 [pv] h=some (v',h')∧JsA h' h.next v' (Jsb nm s)∧h'.floor=h.floor∧h.next≤h'.next∧∀ i,i<h.next→h'.get i=h.get i:=by
 obtain⟨vr,vq,vv,vt,vu,vo,rfl,p1,p2,p3,p4,p5,p6⟩:=id hp
 have hsn:=(J1z n).2
 have htot:Jbg s=s.rows.length+s.queues.length+s.vars.length+s.tags.length+s.rules.length+s.on.length:=rfl
 refine J65 (R:=fun v' h'=>JsA h' h.next v' (Jsb nm s)∧h'.floor=h.floor∧h.next≤h'.next∧∀ i,i<h.next→h'.get i=h.get i) Tryz.func9 rfl (by simp[Tryz.f9]) ?_
 have hr:Tryz.f9.results.toList=[.tmp 2,.cell 3 32]:=rfl
 have ca:(Value.agg #[.string nm,vr,vq,vv,vt,vu,vo,iv s.miss]).cells.toList=[.string nm,vr,vq,vv,vt,vu,vo,iv s.miss]:=rfl
 have oa:=all8 (nm:=nm) p1 p2 p3 p4 p5 p6
 have zc33:(Value.agg #[Value.int IntKind.i64 0,Value.int IntKind.i64 0]).cells.toList=[iv 0,iv 0]:=rfl
 have g0:∀ (a b:SObj),let A:=(h.push a).push b
   A.get h.next=a∧A.get (h.next+1)=b∧A.next=h.next+2∧A.floor=h.floor∧∀ i,i<h.next→A.get i=h.get i:=fun a b=>
  ⟨J4c,J48,rfl,rfl,fun i hi=>by rw[J06 (by show i<h.next+1;omega),J06 hi]⟩
 obtain⟨gA,gF,nG,fG,gO⟩:=g0 (.row [.string nm,vr,vq,vv,vt,vu,vo,iv s.miss] 27 false false) (.row [iv 0,iv 0] 32 false false)
 simp only[evC,seval,↓evP,rpD,J0X,J2t,ca,oa,sz30,J3C,J1t,zc33]
 generalize (h.push (.row [.string nm,vr,vq,vv,vt,vu,vo,iv s.miss] 27 false false)).push (.row [iv 0,iv 0] 32 false false)=Q at *
 have lA:ldN 8 0 (Q.get h.next)=some (.agg #[.string nm,vr,vq,vv,vt,vu,vo,iv s.miss]):=J9E gA rfl
 have x1:ld1 1 (Q.get h.next)=some vr:=by rw[gA];rfl
 have hpQ:J3x lo Q (.agg #[.string nm,vr,vq,vv,vt,vu,vo,iv s.miss]) nm s:=hp.mono (by omega) fun i _ hi=>gO i hi
 have hchk:=JnE (n:=n) hpQ hlies hs (by omega) (by omega) (by rw[gO 0 hn0];exact hg) (by omega) (by omega)
 cases d1:(JkA nm s != 0) with
 | true=>
  obtain⟨H',s1,s2,s3,s4,s5⟩:=Jsm gF (by omega) (by omega) (JkA nm s) 0
  have e:Jsb nm s=((JkA nm s,0),[]):=by unfold Jsb;rw[if_pos (by simpa using d1)]
  rw[e]
  simp only[evC,seval,↓evP,hr,J1b,lA,hchk,d1,J96,s1,J2n,s2]
  exact⟨⟨_,rfl,J0p.nil _ _ _⟩,by omega,by omega,fun i hi=>by rw[s5 i (by omega)];exact gO i hi⟩
 | false=>
 have e1:JkA nm s=0:=by simpa using d1
 have hG:=JtL e1
 have eR:Jsb nm s=Jsa s.rows s.queues (endN (Jk8 s.rows)) s.rows.length 0:=by unfold Jsb;rw[if_neg (by rw[e1];decide)]
 rw[eR]
 generalize hZ:Jk8 s.rows=Z at *
 clear hZ eR
 have hsl:=hG.sk.1
 have npos:0<s.rows.length:=by have:=hG.t.pos;omega
 have len1:=fun h'=>JfA p1.2 h'
 have mkI:∀ H:SHeap,J2l Tryz.prog H 25 (iv (s.rows.length:Int)) (iv (s.rows.length:Int))=some (.slice (some ⟨H.next,0,none⟩) s.rows.length s.rows.length,H.push (.row (ints (List.replicate s.rows.length 0)) 3 false false)):=fun H=>by
  have:=Jrq (P:=Tryz.prog) (h:=H) (t:=25) (e:=3) (z:=.int .i64 0) Tryz.underlying25 sz3 by3 J8P rfl rfl (by decide) (by decide) (n:=s.rows.length) (by omega)
  rw[show J3e (Value.int IntKind.i64 0).cells.toList s.rows.length=ints (List.replicate s.rows.length 0) from J8K _] at this
  exact this
 have mkB:∀ H:SHeap,J2l Tryz.prog H 63 (iv (s.rows.length:Int)) (iv (s.rows.length:Int))=some (.slice (some ⟨H.next,0,none⟩) s.rows.length s.rows.length,H.push (.row (Jsd (List.replicate s.rows.length false)) 4 false false)):=fun H=>by
  have:=Jrq (P:=Tryz.prog) (h:=H) (t:=63) (e:=4) (z:=.bool false) Tryz.underlying63 sz4 by4 JtV rfl rfl (by decide) (by decide) (n:=s.rows.length) (by omega)
  rw[show J3e (Value.bool false).cells.toList s.rows.length=Jsd (List.replicate s.rows.length false) from Jsz _] at this
  exact this
 have q1:∀ a,ld1 1 ((Q.push a).get h.next)=some vr:=fun a=>by rw[J06 (by omega)];exact x1
 have q2:∀ a b,ld1 1 (((Q.push a).push b).get h.next)=some vr:=fun a b=>by rw[J06 (by show h.next<Q.next+1;omega)];exact q1 a
 have q3:∀ a b c,ld1 1 ((((Q.push a).push b).push c).get h.next)=some vr:=fun a b c=>by rw[J06 (by show h.next<Q.next+2;omega)];exact q2 a b
 have q4:∀ a b c d,ld1 1 (((((Q.push a).push b).push c).push d).get h.next)=some vr:=fun a b c d=>by rw[J06 (by show h.next<Q.next+3;omega)];exact q3 a b c
 have g4:∀ (a b c d:SObj),let A:=(((Q.push a).push b).push c).push d
   A.get Q.next=a∧A.get (Q.next+1)=b∧A.get (Q.next+2)=c∧A.get (Q.next+3)=d∧A.next=Q.next+4∧A.floor=Q.floor∧∀ i,i<Q.next→A.get i=Q.get i:=fun a b c d=>
  ⟨by rw[J06 (by show Q.next<Q.next+3;omega),J06 (by show Q.next<Q.next+2;omega)];exact J4c,
   by rw[J06 (by show Q.next+1<Q.next+3;omega),J06 (by show Q.next+1<Q.next+2;omega)];exact J48,
   by rw[J06 (by show Q.next+2<Q.next+3;omega)];exact J0h (h:=(Q.push a).push b),J0h (h:=((Q.push a).push b).push c),rfl,rfl,
   fun i hi=>by rw[J06 (by show i<Q.next+3;omega),J06 (by show i<Q.next+2;omega),J06 (by show i<Q.next+1;omega),J06 hi]⟩
 have h4:=g4 (.row (ints (List.replicate s.rows.length 0)) 3 false false) (.row (ints (List.replicate s.rows.length 0)) 3 false false) (.row (Jsd (List.replicate s.rows.length false)) 4 false false) (.row (ints (List.replicate s.rows.length 0)) 3 false false)
 simp only[evC,seval,↓evP,J1b,lA,hchk,d1,Nat.zero_add,J0y,J0F,x1,q1,q2,q3,q4,len1,mkI,mkB]
 obtain⟨ga,gb,gc,gd,n4,f4,o4⟩:=h4
 generalize (((Q.push (.row (ints (List.replicate s.rows.length 0)) 3 false false)).push (.row (ints (List.replicate s.rows.length 0)) 3 false false)).push (.row (Jsd (List.replicate s.rows.length false)) 4 false false)).push (.row (ints (List.replicate s.rows.length 0)) 3 false false)=B at *
 have hT0:TyH h B [.string nm,vr,vq,vv,vt,vu,vo,iv s.miss] (List.replicate s.rows.length 0) (Js7 s.rows (endN Z) 0):=by
  rw[nG] at ga gb gc gd
  exact⟨by rw[o4 _ (by omega)];exact gA,by rw[o4 _ (by omega)];exact gF,ga,gb,gc,gd,by omega,by omega,fun i hi=>by rw[o4 i (by omega)];exact gO i hi⟩
 refine WK.loop (fun i s'=>s'.T.get 1=.pointer (some ⟨h.next,0,none⟩)∧s'.T.get 3=.pointer (some ⟨h.next+1,0,none⟩)∧s'.T.get 5=.slice (some ⟨h.next+2,0,none⟩) s.rows.length s.rows.length∧s'.T.get 6=.slice (some ⟨h.next+3,0,none⟩) s.rows.length s.rows.length∧s'.T.get 7=.slice (some ⟨h.next+4,0,none⟩) s.rows.length s.rows.length∧s'.T.get 8=.slice (some ⟨h.next+5,0,none⟩) s.rows.length s.rows.length∧s'.T.get 37=vr∧s'.T.get 38=iv (s.rows.length:Int)∧s'.T.get 39=iv (i:Int)∧i≤s.rows.length∧Jsa s.rows s.queues (endN Z) (s.rows.length-i) i=Jsa s.rows s.queues (endN Z) s.rows.length 0∧∃ TP:List Int,TP.length=s.rows.length∧(∀ j,j<i→TP[j]?=(s.rows.map (typN ·.kind))[j]?)∧TyH h s'.h [.string nm,vr,vq,vv,vt,vu,vo,iv s.miss] TP (Js7 s.rows (endN Z) i)) s.rows.length (by omega) ?_ ?_
 ·exact⟨by simp only[evC,seval,↓evP,rpC],by simp only[evC,seval,↓evP,rpC],by simp only[evC,seval,↓evP,rpC,nG],by simp only[evC,seval,↓evP,rpC,J1D,nG],by simp only[evC,seval,↓evP,rpC,J1D,nG],by simp only[evC,seval,↓evP,rpC,J1D,nG],by simp only[evC,seval,↓evP,rpC],by simp only[evC,seval,↓evP,rpC],by simp only[evC,seval,↓evP,rpC] <;> rfl,by omega,rfl,_,by simp,fun j hj=>by omega,hT0⟩
 rintro i ⟨T,H⟩ hi ⟨t1,t3,t5,t6,t7,t8,t37,t38,t39,hil,hgo,TP,hTl,hTP,hT⟩
 simp only at t1 t3 t5 t6 t7 t8 t37 t38 t39 hT
 by_cases hlt:i<s.rows.length
 rotate_left
 ·have c1:decide ((i:Int)<(s.rows.length:Int))=false:=by simp;omega
  have hin:i=s.rows.length:=by omega
  subst hin
  have hTe:TP=s.rows.map (typN ·.kind):=by
   apply List.ext_getElem?
   intro j
   rcases Nat.lt_or_ge j s.rows.length with h1 | h1
   ·exact hTP j h1
   ·rw[List.getElem?_eq_none (by omega),List.getElem?_eq_none (by rw[List.length_map];omega)]
  have hnx:=hT.n
  have hfl':=hT.fl
  obtain⟨H',s1,s2,s3,s4,s5⟩:=Jsm hT.f (by omega) (by omega) 0 0
  have eG:Jsa s.rows s.queues (endN Z) s.rows.length 0=((0,0),s.rows.map (typN ·.kind)):=by rw[← hgo,Nat.sub_self];rfl
  rw[eG]
  simp only[evC,seval,↓evP,hr,t1,t3,t5,t6,t7,t8,t37,t38,t39,c1,J5n,s1,J2n,s2]
  exact⟨⟨_,rfl,by rw[← hTe];exact J1S.row' (by rw[s5 _ (by omega)];exact hT.t) ⟨by omega,by omega⟩ hTl.symm⟩,by omega,by omega,fun j hj=>by rw[s5 j (by omega)];exact hT.o j hj⟩
 have c1:decide ((i:Int)<(s.rows.length:Int))=true:=by simp;omega
 obtain⟨x,hx⟩:∃ x,s.rows[i]?=some x:=⟨_,List.getElem?_eq_getElem hlt⟩
 obtain⟨r,hr1⟩:∃ r,s.rows.length-i=r+1:=⟨s.rows.length-i-1,by omega⟩
 rw[hr1] at hgo
 have hri:s.rows.length-(i+1)=r:=by omega
 have hnx:=hT.n
 have hfl':=hT.fl
 have hvH:J0l H vr s.rows:=p1.1.mono (by omega) hT.o
 obtain⟨ia,pa,ea,hia,_,_,_,_,_,la⟩:=hvH.row hx
 have zr:(rowV zRow).cells.toList=J0e zRow:=rfl
 have fz:flat (rowV zRow)=true:=rfl
 obtain⟨H1,stX,gX,n1,f1,o1⟩:=Jsj (t:=60) sz46 (H:=H) (zs:=J0e zRow) (vs:=J0e x) rfl rfl rfl (by omega)
 have stX':J0K Tryz.prog (H.push (.row (J0e zRow) 60 false false)) 60 (.pointer (some ⟨H.next,0,none⟩)) (rowV x)=some H1:=stX
 have hT1:TyH h H1 [.string nm,vr,vq,vv,vt,vu,vo,iv s.miss] TP (Js7 s.rows (endN Z) i):=hT.mono (by omega) f1 fun j hj=>o1 j (by omega)
 have kx:=hG.ks i x hx
 have ht1:=Ju0 (n:=n) (h:=H1) kx (by omega)
 have y0:ld1 0 (H1.get H.next)=some (iv x.kind):=by rw[gX];rfl
 have ix0:=J1F (id:=h.next+2) (n:=s.rows.length) (c:=s.rows.length) (i:=i) hlt
 have st0:J0K Tryz.prog H1 3 (.pointer (some ⟨h.next+2,i,none⟩)) (iv (typN x.kind))=some (H1.put (h.next+2) (.row (ints (TP.set i (typN x.kind))) 3 false false)):=J59 hT1.t (by omega) (by omega)
 have hT2:TyH h (H1.put (h.next+2) (.row (ints (TP.set i (typN x.kind))) 3 false false)) [.string nm,vr,vq,vv,vt,vu,vo,iv s.miss] (TP.set i (typN x.kind)) (Js7 s.rows (endN Z) i):=by
  have g:∀ j,j≠h.next+2→(H1.put (h.next+2) (.row (ints (TP.set i (typN x.kind))) 3 false false)).get j=H1.get j:=fun j hj=>J05 (by omega) (Ne.symm hj)
  exact⟨by rw[g _ (by omega)];exact hT1.p,by rw[g _ (by omega)];exact hT1.f,J0b rfl (by omega),by rw[g _ (by omega)];exact hT1.a,by rw[g _ (by omega)];exact hT1.c,by rw[g _ (by omega)];exact hT1.u,hT1.n,hT1.fl,fun j hj=>by rw[g j (by omega)];exact hT1.o j hj⟩
 have gX2:(H1.put (h.next+2) (.row (ints (TP.set i (typN x.kind))) 3 false false)).get H.next=.row (J0e x) 60 false false:=by rw[J05 (by omega) (by omega)];exact gX
 have n2:(H1.put (h.next+2) (.row (ints (TP.set i (typN x.kind))) 3 false false)).next=H.next+1:=n1
 simp only[evB,seval,↓evP,t1,t3,t5,t6,t7,t8,t37,t38,t39,c1,ea,J0u,la,J40,fz,zr,stX',Nat.zero_add,J0t,J0m,y0,ht1,ix0,st0]
 rw[Jaj]
 simp only[evB,seval,↓evP,t1,t3,t5,t6,t7,t8,t37,t38,t39,c1,ea,J0u,la,J40,fz,zr,stX',Nat.zero_add,J0t,J0m,y0,ht1,ix0,st0]
 have hTl2:(TP.set i (typN x.kind)).length=s.rows.length:=by rw[List.length_set];exact hTl
 have hTP2:∀ j,j<i+1→(TP.set i (typN x.kind))[j]?=(s.rows.map (typN ·.kind))[j]?:=fun j hj=>by
  rcases Nat.lt_or_ge j i with h1 | h1
  ·rw[List.getElem?_set_ne (by omega)]
   exact hTP j h1
  ·have:j=i:=by omega
   subst this
   rw[List.getElem?_set_self (by omega),List.getElem?_map,hx]
   rfl
 generalize H1.put (h.next+2) (.row (ints (TP.set i (typN x.kind))) 3 false false)=H2 at *
 generalize TP.set i (typN x.kind)=TP2 at *
 generalize hD:H.next=D at *
 clear st0 stX stX' y0 ht1 hT1 hT hTP
 obtain⟨m1,m2,m3⟩:=Jsk (R:=s.rows) (endN Z) i
 obtain⟨a,hA⟩:∃ a,(Js7 s.rows (endN Z) i).A[i]?=some a:=⟨_,List.getElem?_eq_getElem (by omega)⟩
 obtain⟨c,hC⟩:∃ c,(Js7 s.rows (endN Z) i).C[i]?=some c:=⟨_,List.getElem?_eq_getElem (by omega)⟩
 obtain⟨u,hU⟩:∃ u,(Js7 s.rows (endN Z) i).U[i]?=some u:=⟨_,List.getElem?_eq_getElem (by omega)⟩
 have hUb:=JsF (R:=s.rows) (e:=endN Z) rfl npos i (by omega) u (List.mem_of_getElem? hU)
 obtain⟨up,hup⟩:∃ up,s.rows[u.toNat]?=some up:=⟨_,List.getElem?_eq_getElem (by omega)⟩
 have hnx2:=hT2.n
 have hfl2:=hT2.fl
 have lA':ldN 8 0 (H2.get h.next)=some (.agg #[.string nm,vr,vq,vv,vt,vu,vo,iv s.miss]):=J9E hT2.p rfl
 have xa1:ld1 1 (H2.get h.next)=some vr:=by rw[hT2.p];rfl
 have y0:ld1 0 (H2.get D)=some (iv x.kind):=by rw[gX2];rfl
 have y4:ld1 4 (H2.get D)=some (iv x.kids):=by rw[gX2];rfl
 have yN:ldN 5 0 (H2.get D)=some (rowV x):=by rw[gX2];rfl
 have ix1:=J1F (id:=h.next+3) (n:=s.rows.length) (c:=s.rows.length) (i:=i) hlt
 have ix2:=idxB (id:=h.next+4) (n:=s.rows.length) (c:=s.rows.length) (i:=i) hlt
 have ix3:=J1F (id:=h.next+5) (n:=s.rows.length) (c:=s.rows.length) (i:=i) hlt
 have l0:ld1 i (H2.get (h.next+2))=some (iv (typN x.kind)):=by
  rw[hT2.t]
  refine J2z ?_
  rw[hTP2 i (by omega),List.getElem?_map,hx]
  rfl
 have l1:ld1 i (H2.get (h.next+3))=some (iv a):=by rw[hT2.a];exact J2z hA
 have l2:ld1 i (H2.get (h.next+4))=some (.bool c):=by rw[hT2.c];exact Jst hC
 have l3:ld1 i (H2.get (h.next+5))=some (iv u):=by rw[hT2.u];exact J2z hU
 have hv2:J0l H2 vr s.rows:=p1.1.mono (by omega) hT2.o
 obtain⟨iu,pu,eu,hiu,_,_,_,_,_,lu⟩:=hv2.row hup
 rw[show ((u.toNat:Nat):Int)=u by omega] at eu
 have hvar:=JtD (n:=n) (h:=H2) kx (by omega)
 have hp2:J3x lo H2 (.agg #[.string nm,vr,vq,vv,vt,vu,vo,iv s.miss]) nm s:=hp.mono (by omega) fun j _ hj=>hT2.o j hj
 have hoth:=JtC (n:=n) (x:=x) (up:=up) hp2 (fun h9=>hG.qn i x hx (Jsx h9)) (fun h24 h20=>by
  obtain⟨h0i,up',hup',hU',hrange⟩:=hG.place hx h24
  rw[hU] at hU'
  cases hU'
  rw[show ((i-1:Nat):Int).toNat=i-1 by omega,hup'] at hup
  cases hup
  exact hrange h20) (by omega)
 refine JtK (Ju9 h H2 D s.rows.length i vr (badN s.rows s.queues (Js7 s.rows (endN Z) i) i x)) ?_ ?_
 ·have bad:∀ b:Int,∃ H',J0K Tryz.prog H2 32 (.pointer (some ⟨h.next+1,0,none⟩)) (J2k b i)=some H'∧ldN 2 0 (H'.get (h.next+1))=some (J2k b i)∧H'.floor=h.floor∧h.next≤H'.next∧∀ j,j<h.next→H'.get j=h.get j:=fun b=>by
   obtain⟨H',s1,s2,s3,s4,s5⟩:=Jsm hT2.f (by omega) (by omega) b i
   exact⟨H',s1,s2,by omega,by omega,fun j hj=>by rw[s5 j (by omega)];exact hT2.o j hj⟩
  rw[Jaj]
  simp only[evC,seval,↓evP,t1,t3,t5,t6,t7,t8,t37,t38,t39]
  refine JtK (fun e s'=>e=.normal∧s'.h=H2∧s'.T.get 1=.pointer (some ⟨h.next,0,none⟩)∧s'.T.get 3=.pointer (some ⟨h.next+1,0,none⟩)∧s'.T.get 5=.slice (some ⟨h.next+2,0,none⟩) s.rows.length s.rows.length∧s'.T.get 6=.slice (some ⟨h.next+3,0,none⟩) s.rows.length s.rows.length∧s'.T.get 7=.slice (some ⟨h.next+4,0,none⟩) s.rows.length s.rows.length∧s'.T.get 8=.slice (some ⟨h.next+5,0,none⟩) s.rows.length s.rows.length∧s'.T.get 37=vr∧s'.T.get 38=iv (s.rows.length:Int)∧s'.T.get 39=iv (i:Int)∧s'.T.get 9=iv (i:Int)∧s'.T.get 10=.pointer (some ⟨D,0,none⟩)∧s'.T.get 50=.bool (a != 0&&typN x.kind != a)) ?_ ?_
  ·cases da:(a != 0) with
   | false=>
    refine WK.flags (ops:=JsD) JsJ ?_
    refine WKF.begin ?_
    have FF:=aQ @JcC (aQ @JtF (aQ @t1 (aQ @t3 (aQ @t5 (aQ @t6 (aQ @t7 (aQ @t8 (aQ @t37 (aQ @t38 (aQ @t39 (aQ @ix1 (aQ @l1 (aQ @J0m (aQ @da (aQ @JiM (aQ @J1g (aQ @J0J (aQ @Jk2 @J6L))))))))))))))))))
    refine wst hsn 0 (some 51) (.move (.tmp 6)) none ?_
    simp only[rgC,seval,J04,J02,WKFC,FF]
    refine wst hsn 1 (some 52) (.move (.tmp 9)) none ?_
    simp only[rgC,seval,J04,J02,WKFC,FF]
    refine wst hsn 2 (some 53) (.indexAddr 25 (.tmp 51) (.tmp 52)) none ?_
    simp only[rgC,seval,J04,J02,WKFC,Nat.zero_add,FF]
    refine wst hsn 3 (some 54) (.load 3 (.tmp 53)) none ?_
    simp only[rgC,seval,J04,J02,WKFC,rgL,FF]
    refine wst hsn 4 (some 55) (.binOp .neq 3 (.tmp 54) (.const (Value.int IntKind.i64 0)) 3) none ?_
    simp only[rgC,seval,J04,J02,WKFC,rgB,FF]
    refine wst hsn 5 (some 56) (.move (.tmp 55)) none ?_
    simp only[rgC,seval,J04,J02,WKFC,FF]
    refine wst hsn 6 (some 57) (.move (.tmp 5)) (some (5,true)) ?_
    simp only[rgC,seval,J04,J02,WKFC,FF]
    refine wst hsn 7 (some 58) (.move (.tmp 9)) (some (5,true)) ?_
    simp only[rgC,seval,J04,J02,WKFC,FF]
    refine wst hsn 8 (some 59) (.indexAddr 25 (.tmp 57) (.tmp 58)) (some (5,true)) ?_
    simp only[rgC,seval,J04,J02,WKFC,Nat.zero_add,FF]
    refine wst hsn 9 (some 60) (.load 3 (.tmp 59)) (some (5,true)) ?_
    simp only[rgC,seval,J04,J02,WKFC,rgL,FF]
    refine wst hsn 10 (some 61) (.move (.tmp 6)) (some (5,true)) ?_
    simp only[rgC,seval,J04,J02,WKFC,FF]
    refine wst hsn 11 (some 62) (.move (.tmp 9)) (some (5,true)) ?_
    simp only[rgC,seval,J04,J02,WKFC,FF]
    refine wst hsn 12 (some 63) (.indexAddr 25 (.tmp 61) (.tmp 62)) (some (5,true)) ?_
    simp only[rgC,seval,J04,J02,WKFC,Nat.zero_add,FF]
    refine wst hsn 13 (some 64) (.load 3 (.tmp 63)) (some (5,true)) ?_
    simp only[rgC,seval,J04,J02,WKFC,rgL,FF]
    refine wst hsn 14 (some 65) (.binOp .neq 3 (.tmp 60) (.tmp 64) 3) (some (5,true)) ?_
    simp only[rgC,seval,J04,J02,WKFC,rgB,FF]
    refine wst hsn 15 (some 66) (.pick (.tmp 56) (.tmp 65) (.const (Value.bool false))) none ?_
    simp only[rgC,seval,J04,J02,WKFC,FF]
    refine wst hsn 16 (some 50) (.assign (.tmp 66)) none ?_
    simp only[rgC,seval,J04,J02,WKFC,FF]
    refine WKF.done (i:=17) (by kernel_rfl) ?_
    clear FF
    exact⟨rfl,rfl,by simp only[evC,seval,↓evP,rpC,t1],by simp only[evC,seval,↓evP,rpC,t3],by simp only[evC,seval,↓evP,rpC,t5],by simp only[evC,seval,↓evP,rpC,t6],by simp only[evC,seval,↓evP,rpC,t7],by simp only[evC,seval,↓evP,rpC,t8],by simp only[evC,seval,↓evP,rpC,t37],by simp only[evC,seval,↓evP,rpC,t38],by simp only[evC,seval,↓evP,rpC,t39],by simp only[evC,seval,↓evP,rpC],by simp only[evC,seval,↓evP,rpC],by simp only[evC,seval,↓evP,rpC,Bool.false_and]⟩
   | true=>
    refine WK.flags (ops:=JsD) JsJ ?_
    refine WKF.begin ?_
    have FF:=aQ @JcC (aQ @JtF (aQ @t1 (aQ @t3 (aQ @t5 (aQ @t6 (aQ @t7 (aQ @t8 (aQ @t37 (aQ @t38 (aQ @t39 (aQ @ix1 (aQ @l1 (aQ @ix0 (aQ @l0 (aQ @J0m (aQ @da (aQ @JiM (aQ @J1g (aQ @J0J (aQ @Jk2 @J6L))))))))))))))))))))
    refine wst hsn 0 (some 51) (.move (.tmp 6)) none ?_
    simp only[rgC,seval,J04,J02,WKFC,FF]
    refine wst hsn 1 (some 52) (.move (.tmp 9)) none ?_
    simp only[rgC,seval,J04,J02,WKFC,FF]
    refine wst hsn 2 (some 53) (.indexAddr 25 (.tmp 51) (.tmp 52)) none ?_
    simp only[rgC,seval,J04,J02,WKFC,Nat.zero_add,FF]
    refine wst hsn 3 (some 54) (.load 3 (.tmp 53)) none ?_
    simp only[rgC,seval,J04,J02,WKFC,rgL,FF]
    refine wst hsn 4 (some 55) (.binOp .neq 3 (.tmp 54) (.const (Value.int IntKind.i64 0)) 3) none ?_
    simp only[rgC,seval,J04,J02,WKFC,rgB,FF]
    refine wst hsn 5 (some 56) (.move (.tmp 55)) none ?_
    simp only[rgC,seval,J04,J02,WKFC,FF]
    refine wst hsn 6 (some 57) (.move (.tmp 5)) (some (5,true)) ?_
    simp only[rgC,seval,J04,J02,WKFC,FF]
    refine wst hsn 7 (some 58) (.move (.tmp 9)) (some (5,true)) ?_
    simp only[rgC,seval,J04,J02,WKFC,FF]
    refine wst hsn 8 (some 59) (.indexAddr 25 (.tmp 57) (.tmp 58)) (some (5,true)) ?_
    simp only[rgC,seval,J04,J02,WKFC,Nat.zero_add,FF]
    refine wst hsn 9 (some 60) (.load 3 (.tmp 59)) (some (5,true)) ?_
    simp only[rgC,seval,J04,J02,WKFC,rgL,FF]
    refine wst hsn 10 (some 61) (.move (.tmp 6)) (some (5,true)) ?_
    simp only[rgC,seval,J04,J02,WKFC,FF]
    refine wst hsn 11 (some 62) (.move (.tmp 9)) (some (5,true)) ?_
    simp only[rgC,seval,J04,J02,WKFC,FF]
    refine wst hsn 12 (some 63) (.indexAddr 25 (.tmp 61) (.tmp 62)) (some (5,true)) ?_
    simp only[rgC,seval,J04,J02,WKFC,Nat.zero_add,FF]
    refine wst hsn 13 (some 64) (.load 3 (.tmp 63)) (some (5,true)) ?_
    simp only[rgC,seval,J04,J02,WKFC,rgL,FF]
    refine wst hsn 14 (some 65) (.binOp .neq 3 (.tmp 60) (.tmp 64) 3) (some (5,true)) ?_
    simp only[rgC,seval,J04,J02,WKFC,rgB,FF]
    refine wst hsn 15 (some 66) (.pick (.tmp 56) (.tmp 65) (.const (Value.bool false))) none ?_
    simp only[rgC,seval,J04,J02,WKFC,FF]
    refine wst hsn 16 (some 50) (.assign (.tmp 66)) none ?_
    simp only[rgC,seval,J04,J02,WKFC,FF]
    refine WKF.done (i:=17) (by kernel_rfl) ?_
    clear FF
    exact⟨rfl,rfl,by simp only[evC,seval,↓evP,rpC,t1],by simp only[evC,seval,↓evP,rpC,t3],by simp only[evC,seval,↓evP,rpC,t5],by simp only[evC,seval,↓evP,rpC,t6],by simp only[evC,seval,↓evP,rpC,t7],by simp only[evC,seval,↓evP,rpC,t8],by simp only[evC,seval,↓evP,rpC,t37],by simp only[evC,seval,↓evP,rpC,t38],by simp only[evC,seval,↓evP,rpC,t39],by simp only[evC,seval,↓evP,rpC],by simp only[evC,seval,↓evP,rpC],by simp only[evC,seval,↓evP,rpC,Bool.true_and]⟩
  rintro e ⟨T2,HH⟩ ⟨rfl,hh,u1,u3,u5,u6,u7,u8,u37,u38,u39,u9,u10,u50⟩
  simp only at hh u1 u3 u5 u6 u7 u8 u37 u38 u39 u9 u10 u50
  subst hh
  cases d50:(a != 0&&typN x.kind != a) with
  | true=>
   obtain⟨H',s1,s2,s3,s4,s5⟩:=bad 41
   simp only[evC,seval,↓evP,u1,u3,u5,u6,u7,u8,u37,u38,u39,u9,u10,u50,d50,J4G,s1]
   simp only[Bool.and_eq_true,bne_iff_ne] at d50
   exact .inr ⟨rfl,by simp only[evC,seval,↓evP,rpC],by simp only[evC,seval,↓evP,rpC,u3],by rw[Jto hA d50.1 d50.2];decide,by rw[Jto hA d50.1 d50.2];exact s2,s3,s4,s5⟩
  | false=>
  have n41:¬(a≠0∧typN x.kind≠a):=by
   intro hc
   rw[show (a != 0&&typN x.kind != a)=true by simp[hc.1,hc.2]] at d50
   cases d50
  cases c with
  | false=>
   have b46:=Jtj (Q:=s.queues) hA n41 hC (x:=x) (by rw[Bool.false_and]) hU hup
   simp only[evC,seval,↓evP,u1,u3,u5,u6,u7,u8,u37,u38,u39,u9,u10,u50,d50,ix2,J1V,l2,Nat.zero_add,J0t,J0m,y0,hvar]
   refine WK.flags (ops:=JsX) JsL ?_
   refine WKF.begin ?_
   have FF:=aQ @JcC (aQ @u1 (aQ @u3 (aQ @u5 (aQ @u6 (aQ @u7 (aQ @u8 (aQ @u37 (aQ @u38 (aQ @u39 (aQ @u9 (aQ @u10 (aQ @J1b (aQ @lA' (aQ @J0u (aQ @yN (aQ @J0y (aQ @J0F (aQ @xa1 (aQ @ix3 (aQ @J0m (aQ @l3 (aQ @eu (aQ @lu (aQ @hoth (aQ @JiM (aQ @J1g (aQ @J0J (aQ @Jk2 @J6L))))))))))))))))))))))))))))
   refine wst hsn 0 (some 82) (.load 27 (.tmp 1)) none ?_
   simp only[rgC,seval,J04,J02,WKFC,rgL,FF]
   refine wst hsn 1 (some 83) (.load 60 (.tmp 10)) none ?_
   simp only[rgC,seval,J04,J02,WKFC,rgL,FF]
   refine wst hsn 2 (some 84) (.fieldAddr 27 (.tmp 1) 1) none ?_
   simp only[rgC,seval,J04,J02,WKFC,Nat.zero_add,FF]
   refine wst hsn 3 (some 85) (.load 22 (.tmp 84)) none ?_
   simp only[rgC,seval,J04,J02,WKFC,rgL,FF]
   refine wst hsn 4 (some 86) (.move (.tmp 8)) none ?_
   simp only[rgC,seval,J04,J02,WKFC,FF]
   refine wst hsn 5 (some 87) (.move (.tmp 9)) none ?_
   simp only[rgC,seval,J04,J02,WKFC,FF]
   refine wst hsn 6 (some 88) (.indexAddr 25 (.tmp 86) (.tmp 87)) none ?_
   simp only[rgC,seval,J04,J02,WKFC,Nat.zero_add,FF]
   refine wst hsn 7 (some 89) (.load 3 (.tmp 88)) none ?_
   simp only[rgC,seval,J04,J02,WKFC,rgL,FF]
   refine wst hsn 8 (some 90) (.indexAddr 22 (.tmp 85) (.tmp 89)) none ?_
   simp only[rgC,seval,J04,J02,WKFC,Nat.zero_add,FF]
   refine wst hsn 9 (some 91) (.load 60 (.tmp 90)) none ?_
   simp only[rgC,seval,J04,J02,WKFC,rgL,FF]
   refine wst hsn 10 (some 92) (.call { callee:=.value (.func 30),args:=#[.tmp 82,.tmp 83,.tmp 91],argTypes:=#[27,60,60] }) none ?_
   simp only[rgC,seval,J04,J02,WKFC,rgK,FF]
   refine wst hsn 11 (some 81) (.assign (.tmp 92)) none ?_
   simp only[rgC,seval,J04,J02,WKFC,FF]
   refine WKF.done (i:=12) (by kernel_rfl) ?_
   clear FF
   cases do_:Jse s.queues x up with
   | true=>
    obtain⟨H',s1,s2,s3,s4,s5⟩:=bad 46
    simp only[evC,seval,↓evP,u1,u3,u5,u6,u7,u8,u37,u38,u39,u9,u10,do_,J4G,s1]
    exact .inr ⟨rfl,by simp only[evC,seval,↓evP,rpC],by simp only[evC,seval,↓evP,rpC,u3],by rw[b46,do_];decide,by rw[b46,do_];exact s2,s3,s4,s5⟩
   | false=>
    simp only[evC,seval,↓evP,u1,u3,u5,u6,u7,u8,u37,u38,u39,u9,u10,do_]
    exact .inl ⟨rfl,rfl,by simp only[evC,seval,↓evP,rpC,u1],by simp only[evC,seval,↓evP,rpC,u3],by simp only[evC,seval,↓evP,rpC,u5],by simp only[evC,seval,↓evP,rpC,u6],by simp only[evC,seval,↓evP,rpC,u7],by simp only[evC,seval,↓evP,rpC,u8],by simp only[evC,seval,↓evP,rpC,u37],by simp only[evC,seval,↓evP,rpC,u38],by simp only[evC,seval,↓evP,rpC,u39],by simp only[evC,seval,↓evP,rpC,u9],by simp only[evC,seval,↓evP,rpC,u10],by rw[b46,do_];rfl⟩
  | true=>
   cases dv:Jsi x.kind with
   | true=>
    rw[dv] at hvar
    obtain⟨H',s1,s2,s3,s4,s5⟩:=bad 42
    simp only[evC,seval,↓evP,u1,u3,u5,u6,u7,u8,u37,u38,u39,u9,u10,u50,d50,ix2,J1V,l2,Nat.zero_add,J0t,J0m,y0,hvar,J4G,s1]
    exact .inr ⟨rfl,by simp only[evC,seval,↓evP,rpC],by simp only[evC,seval,↓evP,rpC,u3],by rw[Jtc hA n41 hC dv];decide,by rw[Jtc hA n41 hC dv];exact s2,s3,s4,s5⟩
   | false=>
    rw[dv] at hvar
    have b46:=Jtj (Q:=s.queues) hA n41 hC (x:=x) (by rw[dv,Bool.and_false]) hU hup
    simp only[evC,seval,↓evP,u1,u3,u5,u6,u7,u8,u37,u38,u39,u9,u10,u50,d50,ix2,J1V,l2,Nat.zero_add,J0t,J0m,y0,hvar]
    refine WK.flags (ops:=JsX) JsL ?_
    refine WKF.begin ?_
    have FF:=aQ @JcC (aQ @u1 (aQ @u3 (aQ @u5 (aQ @u6 (aQ @u7 (aQ @u8 (aQ @u37 (aQ @u38 (aQ @u39 (aQ @u9 (aQ @u10 (aQ @J1b (aQ @lA' (aQ @J0u (aQ @yN (aQ @J0y (aQ @J0F (aQ @xa1 (aQ @ix3 (aQ @J0m (aQ @l3 (aQ @eu (aQ @lu (aQ @hoth (aQ @JiM (aQ @J1g (aQ @J0J (aQ @Jk2 @J6L))))))))))))))))))))))))))))
    refine wst hsn 0 (some 82) (.load 27 (.tmp 1)) none ?_
    simp only[rgC,seval,J04,J02,WKFC,rgL,FF]
    refine wst hsn 1 (some 83) (.load 60 (.tmp 10)) none ?_
    simp only[rgC,seval,J04,J02,WKFC,rgL,FF]
    refine wst hsn 2 (some 84) (.fieldAddr 27 (.tmp 1) 1) none ?_
    simp only[rgC,seval,J04,J02,WKFC,Nat.zero_add,FF]
    refine wst hsn 3 (some 85) (.load 22 (.tmp 84)) none ?_
    simp only[rgC,seval,J04,J02,WKFC,rgL,FF]
    refine wst hsn 4 (some 86) (.move (.tmp 8)) none ?_
    simp only[rgC,seval,J04,J02,WKFC,FF]
    refine wst hsn 5 (some 87) (.move (.tmp 9)) none ?_
    simp only[rgC,seval,J04,J02,WKFC,FF]
    refine wst hsn 6 (some 88) (.indexAddr 25 (.tmp 86) (.tmp 87)) none ?_
    simp only[rgC,seval,J04,J02,WKFC,Nat.zero_add,FF]
    refine wst hsn 7 (some 89) (.load 3 (.tmp 88)) none ?_
    simp only[rgC,seval,J04,J02,WKFC,rgL,FF]
    refine wst hsn 8 (some 90) (.indexAddr 22 (.tmp 85) (.tmp 89)) none ?_
    simp only[rgC,seval,J04,J02,WKFC,Nat.zero_add,FF]
    refine wst hsn 9 (some 91) (.load 60 (.tmp 90)) none ?_
    simp only[rgC,seval,J04,J02,WKFC,rgL,FF]
    refine wst hsn 10 (some 92) (.call { callee:=.value (.func 30),args:=#[.tmp 82,.tmp 83,.tmp 91],argTypes:=#[27,60,60] }) none ?_
    simp only[rgC,seval,J04,J02,WKFC,rgK,FF]
    refine wst hsn 11 (some 81) (.assign (.tmp 92)) none ?_
    simp only[rgC,seval,J04,J02,WKFC,FF]
    refine WKF.done (i:=12) (by kernel_rfl) ?_
    clear FF
    cases do_:Jse s.queues x up with
    | true=>
     obtain⟨H',s1,s2,s3,s4,s5⟩:=bad 46
     simp only[evC,seval,↓evP,u1,u3,u5,u6,u7,u8,u37,u38,u39,u9,u10,do_,J4G,s1]
     exact .inr ⟨rfl,by simp only[evC,seval,↓evP,rpC],by simp only[evC,seval,↓evP,rpC,u3],by rw[b46,do_];decide,by rw[b46,do_];exact s2,s3,s4,s5⟩
    | false=>
     simp only[evC,seval,↓evP,u1,u3,u5,u6,u7,u8,u37,u38,u39,u9,u10,do_]
     exact .inl ⟨rfl,rfl,by simp only[evC,seval,↓evP,rpC,u1],by simp only[evC,seval,↓evP,rpC,u3],by simp only[evC,seval,↓evP,rpC,u5],by simp only[evC,seval,↓evP,rpC,u6],by simp only[evC,seval,↓evP,rpC,u7],by simp only[evC,seval,↓evP,rpC,u8],by simp only[evC,seval,↓evP,rpC,u37],by simp only[evC,seval,↓evP,rpC,u38],by simp only[evC,seval,↓evP,rpC,u39],by simp only[evC,seval,↓evP,rpC,u9],by simp only[evC,seval,↓evP,rpC,u10],by rw[b46,do_];rfl⟩
 rintro e ⟨T3,HH⟩ (⟨rfl,hh,u1,u3,u5,u6,u7,u8,u37,u38,u39,u9,u10,b0⟩ | ⟨rfl,u2,u3,hb0,lF,fF,nF,oF⟩)
 rotate_left
 ·simp only at u2 u3 lF fF nF oF
  have eG:Jsa s.rows s.queues (endN Z) s.rows.length 0=((badN s.rows s.queues (Js7 s.rows (endN Z) i) i x,(i:Int)),[]):=by rw[← hgo];exact JtJ hx rfl hb0
  rw[eG]
  simp only[evC,seval,↓evP,hr,u2,u3,J2n,lF]
  exact⟨⟨_,rfl,J0p.nil _ _ _⟩,fF,nF,oF⟩
 simp only at hh u1 u3 u5 u6 u7 u8 u37 u38 u39 u9 u10
 subst hh
 have hgo2:Jsa s.rows s.queues (endN Z) (s.rows.length-(i+1)) (i+1)=Jsa s.rows s.queues (endN Z) s.rows.length 0:=by rw[← hgo,hri];exact(JtY hx b0).symm
 have w1:IntKind.i64.wrap ((i:Int)+1)=((i+1:Nat):Int):=J0s (by omega) (by omega)
 obtain⟨k0,hch,hel,hei⟩:=hG.kids0 hx
 have eM:Js7 s.rows (endN Z) (i+1)=setL i x (typN (((s.rows[i+1]?).map (·.kind)).getD 0)) 0 (Js9 (endN Z) x.kids.toNat (i+1)) (Js7 s.rows (endN Z) i):=by
  show Jsq s.rows (endN Z) i (Js7 s.rows (endN Z) i)=_
  unfold Jsq
  rw[hx]
 cases dk:(x.kids==0) with
 | true=>
  have hk0:x.kids.toNat=0:=by have:=beq_iff_eq.1 dk;omega
  have eM0:Js7 s.rows (endN Z) (i+1)=Js7 s.rows (endN Z) i:=by rw[eM,hk0];rfl
  simp only[evC,seval,↓evP,u1,u3,u5,u6,u7,u8,u37,u38,u39,u9,u10,Nat.zero_add,Jhp,J0m,y4,dk,w1]
  exact⟨hlt,by omega,hgo2,TP2,hTl2,hTP2,by rw[eM0];exact hT2⟩
 | false=>
 have hk1 : 0 < x.kids := by have:x.kids≠0:=by simpa using dk
                             omega
 have hi1:=hG.next hx hk1
 obtain⟨y,hy⟩:∃ y,s.rows[i+1]?=some y:=⟨_,List.getElem?_eq_getElem hi1⟩
 have ky:=hG.ks _ y hy
 obtain⟨ib,pb,eb,hib,lb,_⟩:=hv2.row hy
 have hty:=Ju0 (n:=n) (h:=HH) ky (by omega)
 obtain⟨zz,hzz,_,hzk⟩:=hG.z hx
 obtain⟨kv,H5,hkids,hkL,f5,n5,o5⟩:=Ju7 (n:=n) hG.t hG.sk hv2 hzz (by omega) (by omega) (by omega)
 rw[← hzk] at hkL
 have hkc:=hkL.ints (Nat.le_refl _)
 have lenK:=fun h'=>JfF hkc h'
 have hkl:((Js9 (endN Z) x.kids.toNat (i+1)).map (fun (k:Nat)=>(k:Int))).length=x.kids.toNat:=by rw[List.length_map,Jsg]
 rw[hkl,show ((x.kids.toNat:Nat):Int)=x.kids by omega] at lenK
 simp only[evC,seval,↓evP,u1,u3,u5,u6,u7,u8,u37,u38,u39,u9,u10,Nat.zero_add,Jhp,J0t,J0m,y4,dk,J0y,J0F,xa1,w1,eb,lb,hty,hkids,lenK]
 have eY:((s.rows[i+1]?).map (·.kind)).getD 0=y.kind:=by rw[hy];rfl
 rw[eY] at eM
 have hT5:TyH h H5 [.string nm,vr,vq,vv,vt,vu,vo,iv s.miss] TP2 (Js7 s.rows (endN Z) i):=hT2.mono (by omega) (by omega) fun j hj=>o5 j (by omega)
 obtain⟨mo1,mo2⟩:=hG.most hx
 have hkn:x.kids.toNat≤s.rows.length:=by have:=J2o _ _ _ hch;omega
 refine WK.loop (fun q s'=>s'.T.get 1=.pointer (some ⟨h.next,0,none⟩)∧s'.T.get 3=.pointer (some ⟨h.next+1,0,none⟩)∧s'.T.get 5=.slice (some ⟨h.next+2,0,none⟩) s.rows.length s.rows.length∧s'.T.get 6=.slice (some ⟨h.next+3,0,none⟩) s.rows.length s.rows.length∧s'.T.get 7=.slice (some ⟨h.next+4,0,none⟩) s.rows.length s.rows.length∧s'.T.get 8=.slice (some ⟨h.next+5,0,none⟩) s.rows.length s.rows.length∧s'.T.get 37=vr∧s'.T.get 38=iv (s.rows.length:Int)∧s'.T.get 39=iv (i:Int)∧s'.T.get 9=iv (i:Int)∧s'.T.get 10=.pointer (some ⟨D,0,none⟩)∧s'.T.get 11=iv (typN y.kind)∧s'.T.get 109=kv∧s'.T.get 110=iv x.kids∧s'.T.get 111=iv (q:Int)∧q≤x.kids.toNat∧H5.next≤s'.h.next∧(∀ j,h.next+6≤j→j<H5.next→s'.h.get j=H5.get j)∧TyH h s'.h [.string nm,vr,vq,vv,vt,vu,vo,iv s.miss] TP2 (setL i x (typN y.kind) 0 ((Js9 (endN Z) x.kids.toNat (i+1)).take q) (Js7 s.rows (endN Z) i))) x.kids.toNat (by omega) ?_ ?_
 ·exact⟨by simp only[evC,seval,↓evP,rpC,u1],by simp only[evC,seval,↓evP,rpC,u3],by simp only[evC,seval,↓evP,rpC,u5],by simp only[evC,seval,↓evP,rpC,u6],by simp only[evC,seval,↓evP,rpC,u7],by simp only[evC,seval,↓evP,rpC,u8],by simp only[evC,seval,↓evP,rpC,u37],by simp only[evC,seval,↓evP,rpC,u38],by simp only[evC,seval,↓evP,rpC,u39],by simp only[evC,seval,↓evP,rpC,u9],by simp only[evC,seval,↓evP,rpC,u10],by simp only[evC,seval,↓evP,rpC],by simp only[evC,seval,↓evP,rpC],by simp only[evC,seval,↓evP,rpC],by simp only[evC,seval,↓evP,rpC] <;> rfl,by omega,Nat.le_refl _,fun _ _ _=>rfl,by rw[List.take_zero];exact hT5⟩
 rintro q ⟨T4,H6⟩ hq ⟨wt1,wt3,wt5,wt6,wt7,wt8,wt37,wt38,w39,w9,w10,w11,w109,w110,w111,hqk,n6,o6,hT6⟩
 simp only at wt1 wt3 wt5 wt6 wt7 wt8 wt37 wt38 w39 w9 w10 w11 w109 w110 w111 n6 o6 hT6
 by_cases hql:q<x.kids.toNat
 rotate_left
 ·have c3:decide ((q:Int)<x.kids)=false:=by simp;omega
  simp only[evC,seval,↓evP,wt1,wt3,wt5,wt6,wt7,wt8,wt37,wt38,w39,w9,w10,w11,w109,w110,w111,c3,w1]
  have hq9:q=x.kids.toNat:=by omega
  subst hq9
  have hTk:(Js9 (endN Z) x.kids.toNat (i+1)).take x.kids.toNat=Js9 (endN Z) x.kids.toNat (i+1):=List.take_of_length_le (by rw[Jsg];omega)
  rw[hTk] at hT6
  exact⟨hlt,by omega,hgo2,TP2,hTl2,hTP2,by rw[eM];exact hT6⟩
 have c3:decide ((q:Int)<x.kids)=true:=by simp;omega
 obtain⟨p,hpk⟩:∃ p,(Js9 (endN Z) x.kids.toNat (i+1))[q]?=some p:=⟨_,List.getElem?_eq_getElem (by rw[Jsg];exact hql)⟩
 obtain⟨hip,hpl⟩:=hG.kid hx hpk
 have hkc6:J1S (h.next+6) H6 kv ((Js9 (endN Z) x.kids.toNat (i+1)).map (fun (k:Nat)=>(k:Int))):=J1S.mono (hkL.ints (by omega)) (by omega) fun j h1 h2=>o6 j h1 h2
 obtain⟨ip,pp,ep,hip2,lp⟩:=J1S.get hkc6 (i:=q) (x:=(p:Int)) (by rw[List.getElem?_map,hpk];rfl)
 have w2:IntKind.i64.wrap ((q:Int)+1)=((q+1:Nat):Int):=J0s (by omega) (by omega)
 have eS:=Jsu (i:=i) (x:=x) (first:=typN y.kind) (Js9 (endN Z) x.kids.toNat (i+1)) 0 q (Js7 s.rows (endN Z) i) p hpk
 rw[Nat.zero_add] at eS
 obtain⟨b1,b2,b3⟩:=Jss (i:=i) (x:=x) (first:=typN y.kind) ((Js9 (endN Z) x.kids.toNat (i+1)).take q) 0 (Js7 s.rows (endN Z) i)
 generalize setL i x (typN y.kind) 0 ((Js9 (endN Z) x.kids.toNat (i+1)).take q) (Js7 s.rows (endN Z) i)=Mq at *
 obtain⟨cq,hcq⟩:∃ cq,Mq.C[i]?=some cq:=⟨_,List.getElem?_eq_getElem (by omega)⟩
 have hnx6:=hT6.n
 have hfl6:=hT6.fl
 have z0:ld1 0 (H6.get D)=some (iv x.kind):=by rw[o6 D (by omega) (by omega),o5 D (by omega)];exact y0
 have hask:∀ G:SHeap,J0T n 32 [iv x.kind,iv (q:Int),iv (typN y.kind)] G=some (iv (Js8 x.kind q (typN y.kind)),G):=fun G=>Ju2 kx (fun h9=>by have:=mo1 h9;omega) (fun h9=>by have:=mo2 h9;omega) (by omega)
 have hfix:∀ G:SHeap,J0T n 33 [iv x.kind,iv (q:Int)] G=some (.bool (Jsn x.kind q),G):=fun G=>JtQ (by omega)
 have jx1:=J1F (id:=h.next+3) (n:=s.rows.length) (c:=s.rows.length) (i:=p) hpl
 have jx2:=idxB (id:=h.next+4) (n:=s.rows.length) (c:=s.rows.length) (i:=p) hpl
 have jx3:=J1F (id:=h.next+5) (n:=s.rows.length) (c:=s.rows.length) (i:=p) hpl
 have lc:ld1 i (H6.get (h.next+4))=some (.bool cq):=by rw[hT6.c];exact Jst hcq
 have hA0:(h.next+4<H6.next)=True:=by simp;omega
 have sa:J0K Tryz.prog H6 3 (.pointer (some ⟨h.next+3,p,none⟩)) (iv (Js8 x.kind q (typN y.kind)))=some (H6.put (h.next+3) (.row (ints (Mq.A.set p (Js8 x.kind q (typN y.kind)))) 3 false false)):=J59 hT6.a (by omega) (by omega)
 have na:∀ j,j≠h.next+3→(H6.put (h.next+3) (.row (ints (Mq.A.set p (Js8 x.kind q (typN y.kind)))) 3 false false)).get j=H6.get j:=fun j hj=>J05 (by omega) (Ne.symm hj)
 have ga1:(H6.put (h.next+3) (.row (ints (Mq.A.set p (Js8 x.kind q (typN y.kind)))) 3 false false)).get (h.next+3)=.row (ints (Mq.A.set p (Js8 x.kind q (typN y.kind)))) 3 false false:=J0b rfl (by omega)
 have nna:(H6.put (h.next+3) (.row (ints (Mq.A.set p (Js8 x.kind q (typN y.kind)))) 3 false false)).next=H6.next:=rfl
 have ffa:(H6.put (h.next+3) (.row (ints (Mq.A.set p (Js8 x.kind q (typN y.kind)))) 3 false false)).floor=H6.floor:=rfl
 have fla:(H6.put (h.next+3) (.row (ints (Mq.A.set p (Js8 x.kind q (typN y.kind)))) 3 false false)).fl H6.floor=H6.put (h.next+3) (.row (ints (Mq.A.set p (Js8 x.kind q (typN y.kind)))) 3 false false):=rfl
 generalize H6.put (h.next+3) (.row (ints (Mq.A.set p (Js8 x.kind q (typN y.kind)))) 3 false false)=Ha at *
 have sc:∀ v:Bool,J0K Tryz.prog Ha 4 (.pointer (some ⟨h.next+4,p,none⟩)) (.bool v)=some (Ha.put (h.next+4) (.row (Jsd (Mq.C.set p v)) 4 false false)):=fun v=>Jt0 (by rw[na _ (by omega)];exact hT6.c) (by omega) (by omega)
 have su:∀ v:Bool,J0K Tryz.prog (Ha.put (h.next+4) (.row (Jsd (Mq.C.set p v)) 4 false false)) 3 (.pointer (some ⟨h.next+5,p,none⟩)) (iv (i:Int))=some ((Ha.put (h.next+4) (.row (Jsd (Mq.C.set p v)) 4 false false)).put (h.next+5) (.row (ints (Mq.U.set p (i:Int))) 3 false false)):=fun v=>J59 (by rw[J05 (by omega) (by omega),na _ (by omega)];exact hT6.u) (by omega) (by show Ha.floor≤_;omega)
 have fin:∀ v:Bool,v=(((Mq.C[i]?).getD false)||Jsn x.kind q)→TyH h ((Ha.put (h.next+4) (.row (Jsd (Mq.C.set p v)) 4 false false)).put (h.next+5) (.row (ints (Mq.U.set p (i:Int))) 3 false false)) [.string nm,vr,vq,vv,vt,vu,vo,iv s.miss] TP2 (Jsf i x (typN y.kind) Mq q p) ∧
   ∀ j,h.next+6≤j→((Ha.put (h.next+4) (.row (Jsd (Mq.C.set p v)) 4 false false)).put (h.next+5) (.row (ints (Mq.U.set p (i:Int))) 3 false false)).get j=H6.get j:=fun v hv=>by
  have g:∀ j,j≠h.next+4→j≠h.next+5→((Ha.put (h.next+4) (.row (Jsd (Mq.C.set p v)) 4 false false)).put (h.next+5) (.row (ints (Mq.U.set p (i:Int))) 3 false false)).get j=Ha.get j:=fun j h1 h2=>by rw[J05 (by show _<Ha.next;omega) (Ne.symm h2),J05 (by omega) (Ne.symm h1)]
  refine⟨⟨by rw[g _ (by omega) (by omega),na _ (by omega)];exact hT6.p,by rw[g _ (by omega) (by omega),na _ (by omega)];exact hT6.f,by rw[g _ (by omega) (by omega),na _ (by omega)];exact hT6.t,by rw[g _ (by omega) (by omega)];exact ga1,?_,J0b rfl (by show _<Ha.next;omega),by show _≤Ha.next;omega,by show Ha.floor=_;omega,fun j hj=>by rw[g j (by omega) (by omega),na j (by omega)];exact hT6.o j hj⟩,fun j hj=>by rw[g j (by omega) (by omega),na j (by omega)]⟩
  rw[J05 (by show _<Ha.next;omega) (by omega),J0b rfl (by omega)]
  show SObj.row (Jsd (Mq.C.set p v)) 4 false false=.row (Jsd (Mq.C.set p (((Mq.C[i]?).getD false)||Jsn x.kind q))) 4 false false
  rw[hv]
 simp only[evC,seval,↓evP,wt1,wt3,wt5,wt6,wt7,wt8,wt37,wt38,w39,w9,w10,w11,w109,w110,w111,c3,ep,J0m,lp]
 cases cq with
 | true=>
  refine WK.flags (ops:=JsH) JsP ?_
  refine WKF.begin ?_
  have FF:=aQ @JcC (aQ @JtI (aQ @wt1 (aQ @wt3 (aQ @wt5 (aQ @wt6 (aQ @wt7 (aQ @wt8 (aQ @wt37 (aQ @wt38 (aQ @w39 (aQ @w9 (aQ @w10 (aQ @w11 (aQ @w109 (aQ @w110 (aQ @w111 (aQ @J0t (aQ @J0m (aQ @z0 (aQ @hask (aQ @ix2 (aQ @J1V (aQ @lc (aQ @hA0 (aQ @hfix (aQ @jx1 (aQ @jx2 (aQ @jx3 (aQ @sa (aQ @sc (aQ @su (aQ @fla (aQ @J0V (aQ @J6Q (aQ @J2T (aQ @ffa (aQ @nna (aQ @JiM (aQ @J1g (aQ @J0J (aQ @Jk2 @J6L)))))))))))))))))))))))))))))))))))))))))
  refine wst hsn 0 (some 116) (.move (.tmp 6)) none ?_
  simp only[rgC,seval,J04,J02,WKFC,Nat.zero_add,FF]
  refine wst hsn 1 (some 117) (.move (.tmp 13)) none ?_
  simp only[rgC,seval,J04,J02,WKFC,Nat.zero_add,FF]
  refine wst hsn 2 (some 118) (.move (.tmp 7)) none ?_
  simp only[rgC,seval,J04,J02,WKFC,Nat.zero_add,FF]
  refine wst hsn 3 (some 119) (.move (.tmp 13)) none ?_
  simp only[rgC,seval,J04,J02,WKFC,Nat.zero_add,FF]
  refine wst hsn 4 (some 120) (.move (.tmp 8)) none ?_
  simp only[rgC,seval,J04,J02,WKFC,Nat.zero_add,FF]
  refine wst hsn 5 (some 121) (.move (.tmp 13)) none ?_
  simp only[rgC,seval,J04,J02,WKFC,Nat.zero_add,FF]
  refine wst hsn 6 (some 122) (.fieldAddr 60 (.tmp 10) 0) none ?_
  simp only[rgC,seval,J04,J02,WKFC,Nat.zero_add,Nat.zero_add,FF]
  refine wst hsn 7 (some 123) (.load 3 (.tmp 122)) none ?_
  simp only[rgC,seval,J04,J02,WKFC,rgL,Nat.zero_add,FF]
  refine wst hsn 8 (some 124) (.move (.tmp 12)) none ?_
  simp only[rgC,seval,J04,J02,WKFC,Nat.zero_add,FF]
  refine wst hsn 9 (some 125) (.move (.tmp 11)) none ?_
  simp only[rgC,seval,J04,J02,WKFC,Nat.zero_add,FF]
  refine wst hsn 10 (some 126) (.call { callee:=.value (.func 32),args:=#[.tmp 123,.tmp 124,.tmp 125],argTypes:=#[3,3,3] }) none ?_
  simp only[rgC,seval,J04,J02,WKFC,rgK,Nat.zero_add,FF]
  refine wst hsn 11 (some 127) (.move (.tmp 7)) none ?_
  simp only[rgC,seval,J04,J02,WKFC,Nat.zero_add,FF]
  refine wst hsn 12 (some 128) (.move (.tmp 9)) none ?_
  simp only[rgC,seval,J04,J02,WKFC,Nat.zero_add,FF]
  refine wst hsn 13 (some 129) (.indexAddr 63 (.tmp 127) (.tmp 128)) none ?_
  simp only[rgC,seval,J04,J02,WKFC,Nat.zero_add,Nat.zero_add,FF]
  refine wst hsn 14 (some 130) (.load 4 (.tmp 129)) none ?_
  simp only[rgC,seval,J04,J02,WKFC,rgL,Nat.zero_add,FF]
  refine wst hsn 15 (some 131) (.move (.tmp 130)) none ?_
  simp only[rgC,seval,J04,J02,WKFC,Nat.zero_add,FF]
  refine wst hsn 16 (some 132) (.fieldAddr 60 (.tmp 10) 0) (some (15,false)) ?_
  simp only[rgC,seval,J04,J02,WKFC,Nat.zero_add,Nat.zero_add,FF]
  refine wst hsn 17 (some 133) (.load 3 (.tmp 132)) (some (15,false)) ?_
  simp only[rgC,seval,J04,J02,WKFC,rgL,Nat.zero_add,FF]
  refine wst hsn 18 (some 134) (.move (.tmp 12)) (some (15,false)) ?_
  simp only[rgC,seval,J04,J02,WKFC,Nat.zero_add,FF]
  refine wst hsn 19 (some 135) (.call { callee:=.value (.func 33),args:=#[.tmp 133,.tmp 134],argTypes:=#[3,3] }) (some (15,false)) ?_
  simp only[rgC,seval,J04,J02,WKFC,rgK,Nat.zero_add,FF]
  refine wst hsn 20 (some 136) (.pick (.tmp 131) (.const (Value.bool true)) (.tmp 135)) none ?_
  simp only[rgC,seval,J04,J02,WKFC,Nat.zero_add,FF]
  refine wst hsn 21 (some 137) (.move (.tmp 9)) none ?_
  simp only[rgC,seval,J04,J02,WKFC,Nat.zero_add,FF]
  refine wst hsn 22 (some 138) (.indexAddr 25 (.tmp 116) (.tmp 117)) none ?_
  simp only[rgC,seval,J04,J02,WKFC,Nat.zero_add,Nat.zero_add,FF]
  refine wst hsn 23 (none) (.store 3 (.tmp 138) (.tmp 126)) none ?_
  simp only[rgC,seval,J04,J02,WKFC,J17,rgS,Nat.zero_add,FF]
  refine wst hsn 24 (some 139) (.indexAddr 63 (.tmp 118) (.tmp 119)) none ?_
  simp only[rgC,seval,J04,J02,WKFC,Nat.zero_add,Nat.zero_add,FF]
  refine wst hsn 25 (none) (.store 4 (.tmp 139) (.tmp 136)) none ?_
  simp only[rgC,seval,J04,J02,WKFC,J17,rgS,Nat.zero_add,FF]
  refine wst hsn 26 (some 140) (.indexAddr 25 (.tmp 120) (.tmp 121)) none ?_
  simp only[rgC,seval,J04,J02,WKFC,Nat.zero_add,Nat.zero_add,FF]
  refine wst hsn 27 (none) (.store 3 (.tmp 140) (.tmp 137)) none ?_
  simp only[rgC,seval,J04,J02,WKFC,J17,rgS,Nat.zero_add,FF]
  refine WKF.done (i:=28) (by kernel_rfl) ?_
  clear FF
  obtain⟨hT7,o7⟩:=fin (true) (by rw[hcq];rfl)
  simp only[evC,seval,↓evP,wt1,wt3,wt5,wt6,wt7,wt8,wt37,wt38,w39,w9,w10,w11,w109,w110,w111,w2]
  exact⟨hql,by omega,Nat.le_trans n6 (Nat.le_of_eq nna.symm),fun j h1 h2=>by rw[o7 j h1];exact o6 j h1 h2,by rw[eS];exact hT7⟩
 | false=>
  refine WK.flags (ops:=JsH) JsP ?_
  refine WKF.begin ?_
  have FF:=aQ @JcC (aQ @JtI (aQ @wt1 (aQ @wt3 (aQ @wt5 (aQ @wt6 (aQ @wt7 (aQ @wt8 (aQ @wt37 (aQ @wt38 (aQ @w39 (aQ @w9 (aQ @w10 (aQ @w11 (aQ @w109 (aQ @w110 (aQ @w111 (aQ @J0t (aQ @J0m (aQ @z0 (aQ @hask (aQ @ix2 (aQ @J1V (aQ @lc (aQ @hA0 (aQ @hfix (aQ @jx1 (aQ @jx2 (aQ @jx3 (aQ @sa (aQ @sc (aQ @su (aQ @fla (aQ @J0V (aQ @J6Q (aQ @J2T (aQ @ffa (aQ @nna (aQ @JiM (aQ @J1g (aQ @J0J (aQ @Jk2 @J6L)))))))))))))))))))))))))))))))))))))))))
  refine wst hsn 0 (some 116) (.move (.tmp 6)) none ?_
  simp only[rgC,seval,J04,J02,WKFC,Nat.zero_add,FF]
  refine wst hsn 1 (some 117) (.move (.tmp 13)) none ?_
  simp only[rgC,seval,J04,J02,WKFC,Nat.zero_add,FF]
  refine wst hsn 2 (some 118) (.move (.tmp 7)) none ?_
  simp only[rgC,seval,J04,J02,WKFC,Nat.zero_add,FF]
  refine wst hsn 3 (some 119) (.move (.tmp 13)) none ?_
  simp only[rgC,seval,J04,J02,WKFC,Nat.zero_add,FF]
  refine wst hsn 4 (some 120) (.move (.tmp 8)) none ?_
  simp only[rgC,seval,J04,J02,WKFC,Nat.zero_add,FF]
  refine wst hsn 5 (some 121) (.move (.tmp 13)) none ?_
  simp only[rgC,seval,J04,J02,WKFC,Nat.zero_add,FF]
  refine wst hsn 6 (some 122) (.fieldAddr 60 (.tmp 10) 0) none ?_
  simp only[rgC,seval,J04,J02,WKFC,Nat.zero_add,Nat.zero_add,FF]
  refine wst hsn 7 (some 123) (.load 3 (.tmp 122)) none ?_
  simp only[rgC,seval,J04,J02,WKFC,rgL,Nat.zero_add,FF]
  refine wst hsn 8 (some 124) (.move (.tmp 12)) none ?_
  simp only[rgC,seval,J04,J02,WKFC,Nat.zero_add,FF]
  refine wst hsn 9 (some 125) (.move (.tmp 11)) none ?_
  simp only[rgC,seval,J04,J02,WKFC,Nat.zero_add,FF]
  refine wst hsn 10 (some 126) (.call { callee:=.value (.func 32),args:=#[.tmp 123,.tmp 124,.tmp 125],argTypes:=#[3,3,3] }) none ?_
  simp only[rgC,seval,J04,J02,WKFC,rgK,Nat.zero_add,FF]
  refine wst hsn 11 (some 127) (.move (.tmp 7)) none ?_
  simp only[rgC,seval,J04,J02,WKFC,Nat.zero_add,FF]
  refine wst hsn 12 (some 128) (.move (.tmp 9)) none ?_
  simp only[rgC,seval,J04,J02,WKFC,Nat.zero_add,FF]
  refine wst hsn 13 (some 129) (.indexAddr 63 (.tmp 127) (.tmp 128)) none ?_
  simp only[rgC,seval,J04,J02,WKFC,Nat.zero_add,Nat.zero_add,FF]
  refine wst hsn 14 (some 130) (.load 4 (.tmp 129)) none ?_
  simp only[rgC,seval,J04,J02,WKFC,rgL,Nat.zero_add,FF]
  refine wst hsn 15 (some 131) (.move (.tmp 130)) none ?_
  simp only[rgC,seval,J04,J02,WKFC,Nat.zero_add,FF]
  refine wst hsn 16 (some 132) (.fieldAddr 60 (.tmp 10) 0) (some (15,false)) ?_
  simp only[rgC,seval,J04,J02,WKFC,Nat.zero_add,Nat.zero_add,FF]
  refine wst hsn 17 (some 133) (.load 3 (.tmp 132)) (some (15,false)) ?_
  simp only[rgC,seval,J04,J02,WKFC,rgL,Nat.zero_add,FF]
  refine wst hsn 18 (some 134) (.move (.tmp 12)) (some (15,false)) ?_
  simp only[rgC,seval,J04,J02,WKFC,Nat.zero_add,FF]
  refine wst hsn 19 (some 135) (.call { callee:=.value (.func 33),args:=#[.tmp 133,.tmp 134],argTypes:=#[3,3] }) (some (15,false)) ?_
  simp only[rgC,seval,J04,J02,WKFC,rgK,Nat.zero_add,FF]
  refine wst hsn 20 (some 136) (.pick (.tmp 131) (.const (Value.bool true)) (.tmp 135)) none ?_
  simp only[rgC,seval,J04,J02,WKFC,Nat.zero_add,FF]
  refine wst hsn 21 (some 137) (.move (.tmp 9)) none ?_
  simp only[rgC,seval,J04,J02,WKFC,Nat.zero_add,FF]
  refine wst hsn 22 (some 138) (.indexAddr 25 (.tmp 116) (.tmp 117)) none ?_
  simp only[rgC,seval,J04,J02,WKFC,Nat.zero_add,Nat.zero_add,FF]
  refine wst hsn 23 (none) (.store 3 (.tmp 138) (.tmp 126)) none ?_
  simp only[rgC,seval,J04,J02,WKFC,J17,rgS,Nat.zero_add,FF]
  refine wst hsn 24 (some 139) (.indexAddr 63 (.tmp 118) (.tmp 119)) none ?_
  simp only[rgC,seval,J04,J02,WKFC,Nat.zero_add,Nat.zero_add,FF]
  refine wst hsn 25 (none) (.store 4 (.tmp 139) (.tmp 136)) none ?_
  simp only[rgC,seval,J04,J02,WKFC,J17,rgS,Nat.zero_add,FF]
  refine wst hsn 26 (some 140) (.indexAddr 25 (.tmp 120) (.tmp 121)) none ?_
  simp only[rgC,seval,J04,J02,WKFC,Nat.zero_add,Nat.zero_add,FF]
  refine wst hsn 27 (none) (.store 3 (.tmp 140) (.tmp 137)) none ?_
  simp only[rgC,seval,J04,J02,WKFC,J17,rgS,Nat.zero_add,FF]
  refine WKF.done (i:=28) (by kernel_rfl) ?_
  clear FF
  obtain⟨hT7,o7⟩:=fin (Jsn x.kind q) (by rw[hcq];rfl)
  simp only[evC,seval,↓evP,wt1,wt3,wt5,wt6,wt7,wt8,wt37,wt38,w39,w9,w10,w11,w109,w110,w111,w2]
  exact⟨hql,by omega,Nat.le_trans n6 (Nat.le_of_eq nna.symm),fun j h1 h2=>by rw[o7 j h1];exact o6 j h1 h2,by rw[eS];exact hT7⟩
theorem JtT {nm:ByteArray} {s:StN} {pv:Value} {lo:Nat} (hp:J3x lo h pv nm s) (hlies:∀ nm' vr vq vv vt vu vo m,pv=.agg #[.string nm',vr,vq,vv,vt,vu,vo,m]→Lies vr s.rows.length) (hs:JdC s) (hl:s.rows.length<9000000) (hg:h.get 0=J14) (hn0:0<h.next) (hfl:h.floor≤h.next) (hn:2*Jbg s+450<n) :
  ∃ v' h',J0T n 9 [pv] h=some (v',h')∧JsA h' h.next v' (Jsb nm s)∧h'.floor=h.floor∧h.next≤h'.next∧∀ i,i<h.next→h'.get i=h.get i:=by
 obtain⟨n,rfl⟩:∃ j,n=j+1:=⟨n-1,by omega⟩
 have htot:Jbg s=s.rows.length+s.queues.length+s.vars.length+s.tags.length+s.rules.length+s.on.length:=rfl
 refine k_ex (J13 ⟨rfl,rfl,rfl⟩) (Jtm (n:=n) (N:=n) hp hlies hs hl hg hn0 hfl (by omega) (by omega)) fun v' h1 hf _ ht=>?_
 obtain⟨⟨tv,rfl,ht⟩,_⟩:=ht
 exact⟨⟨tv,rfl,Jt1 ht hf h⟩,rfl,Nat.le_refl _,fun _ _=>rfl⟩
end
section
variable {n N:Nat} {h:SHeap}
set_option maxHeartbeats 16000000 in
theorem Jt4 {R:List RowN} {v:Value} (hv:J0l h v R) {a f j:Nat} {x y:RowN} (hx:R[a]?=some x) (hy:R[f]?=some y) (ky:1≤y.kind∧y.kind≤54) (hn:0<n) :
  J0L Tryz.prog (J0T n) N 64 [v,iv (a:Int),iv (f:Int),iv (j:Int)] h=some (iv (Js8 x.kind j (typN y.kind)),h):=by
 refine J1m Tryz.func64 rfl (by simp[Tryz.f64]) ?_
 have hr:Tryz.f64.results.toList=[.tmp 8]:=rfl
 obtain⟨ia,pa,ea,_,la,_⟩:=hv.row hx
 obtain⟨ib,pb,eb,_,lb,_⟩:=hv.row hy
 have ht:=JtH (n:=n) (h:=h) ky hn
 cases c4:(x.kind==4) with
 | true=>
  have k:=beq_iff_eq.1 c4
  rw[show Js8 x.kind j (typN y.kind)=1 by rw[k];rfl]
  simp only[evC,seval,↓evP,hr,Nat.zero_add,ea,eb,J0t,J0m,la,lb,ht,c4]
 | false=>
 cases c5:(x.kind==5) with
 | true=>
  have k:=beq_iff_eq.1 c5
  rw[show Js8 x.kind j (typN y.kind)=1 by rw[k];rfl]
  simp only[evC,seval,↓evP,hr,Nat.zero_add,ea,eb,J0t,J0m,la,lb,ht,c4,c5]
 | false=>
 cases c14:(x.kind==14) with
 | true=>
  have k:=beq_iff_eq.1 c14
  rw[show Js8 x.kind j (typN y.kind)=1 by rw[k];rfl]
  simp only[evC,seval,↓evP,hr,Nat.zero_add,ea,eb,J0t,J0m,la,lb,ht,c4,c5,c14]
 | false=>
 cases c41:(x.kind==41) with
 | true=>
  have k:=beq_iff_eq.1 c41
  rw[show Js8 x.kind j (typN y.kind)=1 by rw[k];rfl]
  simp only[evC,seval,↓evP,hr,Nat.zero_add,ea,eb,J0t,J0m,la,lb,ht,c4,c5,c14,c41]
 | false=>
 cases c39:(x.kind==39) with
 | true=>
  have k:=beq_iff_eq.1 c39
  rw[show Js8 x.kind j (typN y.kind)=1 by rw[k];rfl]
  simp only[evC,seval,↓evP,hr,Nat.zero_add,ea,eb,J0t,J0m,la,lb,ht,c4,c5,c14,c41,c39]
 | false=>
 cases c40:(x.kind==40) with
 | true=>
  have k:=beq_iff_eq.1 c40
  rw[show Js8 x.kind j (typN y.kind)=1 by rw[k];rfl]
  simp only[evC,seval,↓evP,hr,Nat.zero_add,ea,eb,J0t,J0m,la,lb,ht,c4,c5,c14,c41,c39,c40]
 | false=>
 cases c43:(x.kind==43) with
 | true=>
  have k:=beq_iff_eq.1 c43
  rw[show Js8 x.kind j (typN y.kind)=1 by rw[k];rfl]
  simp only[evC,seval,↓evP,hr,Nat.zero_add,ea,eb,J0t,J0m,la,lb,ht,c4,c5,c14,c41,c39,c40,c43]
 | false=>
 cases c44:(x.kind==44) with
 | true=>
  have k:=beq_iff_eq.1 c44
  rw[show Js8 x.kind j (typN y.kind)=1 by rw[k];rfl]
  simp only[evC,seval,↓evP,hr,Nat.zero_add,ea,eb,J0t,J0m,la,lb,ht,c4,c5,c14,c41,c39,c40,c43,c44]
 | false=>
 cases c45:(x.kind==45) with
 | true=>
  have k:=beq_iff_eq.1 c45
  rw[show Js8 x.kind j (typN y.kind)=1 by rw[k];rfl]
  simp only[evC,seval,↓evP,hr,Nat.zero_add,ea,eb,J0t,J0m,la,lb,ht,c4,c5,c14,c41,c39,c40,c43,c44,c45]
 | false=>
 cases c46:(x.kind==46) with
 | true=>
  have k:=beq_iff_eq.1 c46
  rw[show Js8 x.kind j (typN y.kind)=1 by rw[k];rfl]
  simp only[evC,seval,↓evP,hr,Nat.zero_add,ea,eb,J0t,J0m,la,lb,ht,c4,c5,c14,c41,c39,c40,c43,c44,c45,c46]
 | false=>
 cases c49:(x.kind==49) with
 | true=>
  have k:=beq_iff_eq.1 c49
  rw[show Js8 x.kind j (typN y.kind)=1 by rw[k];rfl]
  simp only[evC,seval,↓evP,hr,Nat.zero_add,ea,eb,J0t,J0m,la,lb,ht,c4,c5,c14,c41,c39,c40,c43,c44,c45,c46,c49]
 | false=>
 cases c50:(x.kind==50) with
 | true=>
  have k:=beq_iff_eq.1 c50
  rw[show Js8 x.kind j (typN y.kind)=1 by rw[k];rfl]
  simp only[evC,seval,↓evP,hr,Nat.zero_add,ea,eb,J0t,J0m,la,lb,ht,c4,c5,c14,c41,c39,c40,c43,c44,c45,c46,c49,c50]
 | false=>
 cases c51:(x.kind==51) with
 | true=>
  have k:=beq_iff_eq.1 c51
  rw[show Js8 x.kind j (typN y.kind)=1 by rw[k];rfl]
  simp only[evC,seval,↓evP,hr,Nat.zero_add,ea,eb,J0t,J0m,la,lb,ht,c4,c5,c14,c41,c39,c40,c43,c44,c45,c46,c49,c50,c51]
 | false=>
 cases c52:(x.kind==52) with
 | true=>
  have k:=beq_iff_eq.1 c52
  rw[show Js8 x.kind j (typN y.kind)=1 by rw[k];rfl]
  simp only[evC,seval,↓evP,hr,Nat.zero_add,ea,eb,J0t,J0m,la,lb,ht,c4,c5,c14,c41,c39,c40,c43,c44,c45,c46,c49,c50,c51,c52]
 | false=>
 cases c6:(x.kind==6) with
 | true=>
  have k:=beq_iff_eq.1 c6
  rw[show Js8 x.kind j (typN y.kind)=2 by rw[k];rfl]
  simp only[evC,seval,↓evP,hr,Nat.zero_add,ea,eb,J0t,J0m,la,lb,ht,c4,c5,c14,c41,c39,c40,c43,c44,c45,c46,c49,c50,c51,c52,c6]
 | false=>
 cases c42:(x.kind==42) with
 | true=>
  have k:=beq_iff_eq.1 c42
  rw[show Js8 x.kind j (typN y.kind)=2 by rw[k];rfl]
  simp only[evC,seval,↓evP,hr,Nat.zero_add,ea,eb,J0t,J0m,la,lb,ht,c4,c5,c14,c41,c39,c40,c43,c44,c45,c46,c49,c50,c51,c52,c6,c42]
 | false=>
 cases c53:(x.kind==53) with
 | true=>
  have k:=beq_iff_eq.1 c53
  rw[show Js8 x.kind j (typN y.kind)=2 by rw[k];rfl]
  simp only[evC,seval,↓evP,hr,Nat.zero_add,ea,eb,J0t,J0m,la,lb,ht,c4,c5,c14,c41,c39,c40,c43,c44,c45,c46,c49,c50,c51,c52,c6,c42,c53]
 | false=>
 cases c54:(x.kind==54) with
 | true=>
  have k:=beq_iff_eq.1 c54
  rw[show Js8 x.kind j (typN y.kind)=2 by rw[k];rfl]
  simp only[evC,seval,↓evP,hr,Nat.zero_add,ea,eb,J0t,J0m,la,lb,ht,c4,c5,c14,c41,c39,c40,c43,c44,c45,c46,c49,c50,c51,c52,c6,c42,c53,c54]
 | false=>
 cases c15:(x.kind==15) with
 | true=>
  have k:=beq_iff_eq.1 c15
  cases j1:((j:Int)==1) with
  | true=>
   have hj:j=1:=by have:=beq_iff_eq.1 j1;omega
   rw[show Js8 x.kind j (typN y.kind)=1 by rw[k,hj];rfl]
   simp only[evC,seval,↓evP,hr,Nat.zero_add,ea,eb,J0t,J0m,la,lb,ht,c4,c5,c14,c41,c39,c40,c43,c44,c45,c46,c49,c50,c51,c52,c6,c42,c53,c54,c15,j1]
  | false=>
  have h1:j≠1:=by simp only[beq_eq_false_iff_ne] at j1;omega
  rw[show Js8 x.kind j (typN y.kind)=0 by rw[k];simp[Js8,h1]]
  simp only[evC,seval,↓evP,hr,Nat.zero_add,ea,eb,J0t,J0m,la,lb,ht,c4,c5,c14,c41,c39,c40,c43,c44,c45,c46,c49,c50,c51,c52,c6,c42,c53,c54,c15,j1]
 | false=>
 cases c12:(x.kind==12) with
 | true=>
  have k:=beq_iff_eq.1 c12
  cases j0:((j:Int)==0) with
  | true=>
   have hj:j=0:=by have:=beq_iff_eq.1 j0;omega
   rw[show Js8 x.kind j (typN y.kind)=2 by rw[k,hj];rfl]
   simp only[evC,seval,↓evP,hr,Nat.zero_add,ea,eb,J0t,J0m,la,lb,ht,c4,c5,c14,c41,c39,c40,c43,c44,c45,c46,c49,c50,c51,c52,c6,c42,c53,c54,c15,c12,j0]
  | false=>
  have h0:j≠0:=by simp only[beq_eq_false_iff_ne] at j0;omega
  rw[show Js8 x.kind j (typN y.kind)=0 by rw[k];simp[Js8,h0]]
  simp only[evC,seval,↓evP,hr,Nat.zero_add,ea,eb,J0t,J0m,la,lb,ht,c4,c5,c14,c41,c39,c40,c43,c44,c45,c46,c49,c50,c51,c52,c6,c42,c53,c54,c15,c12,j0]
 | false=>
 cases c13:(x.kind==13) with
 | true=>
  have k:=beq_iff_eq.1 c13
  cases j0:((j:Int)==0) with
  | true=>
   have hj:j=0:=by have:=beq_iff_eq.1 j0;omega
   rw[show Js8 x.kind j (typN y.kind)=1 by rw[k,hj];rfl]
   simp only[evC,seval,↓evP,hr,Nat.zero_add,ea,eb,J0t,J0m,la,lb,ht,c4,c5,c14,c41,c39,c40,c43,c44,c45,c46,c49,c50,c51,c52,c6,c42,c53,c54,c15,c12,c13,j0]
  | false=>
  have h0:j≠0:=by simp only[beq_eq_false_iff_ne] at j0;omega
  cases j1:((j:Int)==1) with
  | true=>
   have hj:j=1:=by have:=beq_iff_eq.1 j1;omega
   rw[show Js8 x.kind j (typN y.kind)=2 by rw[k,hj];rfl]
   simp only[evC,seval,↓evP,hr,Nat.zero_add,ea,eb,J0t,J0m,la,lb,ht,c4,c5,c14,c41,c39,c40,c43,c44,c45,c46,c49,c50,c51,c52,c6,c42,c53,c54,c15,c12,c13,j0,j1]
  | false=>
  have h1:j≠1:=by simp only[beq_eq_false_iff_ne] at j1;omega
  rw[show Js8 x.kind j (typN y.kind)=0 by rw[k];simp[Js8,h0,h1]]
  simp only[evC,seval,↓evP,hr,Nat.zero_add,ea,eb,J0t,J0m,la,lb,ht,c4,c5,c14,c41,c39,c40,c43,c44,c45,c46,c49,c50,c51,c52,c6,c42,c53,c54,c15,c12,c13,j0,j1]
 | false=>
 cases c47:(x.kind==47) with
 | true=>
  have k:=beq_iff_eq.1 c47
  cases j1:((j:Int)==1) with
  | true=>
   have hj:j=1:=by have:=beq_iff_eq.1 j1;omega
   rw[show Js8 x.kind j (typN y.kind)=typN y.kind by rw[k,hj];rfl]
   simp only[evC,seval,↓evP,hr,Nat.zero_add,ea,eb,J0t,J0m,la,lb,ht,c4,c5,c14,c41,c39,c40,c43,c44,c45,c46,c49,c50,c51,c52,c6,c42,c53,c54,c15,c12,c13,c47,j1]
  | false=>
  have h1:j≠1:=by simp only[beq_eq_false_iff_ne] at j1;omega
  rw[show Js8 x.kind j (typN y.kind)=0 by rw[k];simp[Js8,h1]]
  simp only[evC,seval,↓evP,hr,Nat.zero_add,ea,eb,J0t,J0m,la,lb,ht,c4,c5,c14,c41,c39,c40,c43,c44,c45,c46,c49,c50,c51,c52,c6,c42,c53,c54,c15,c12,c13,c47,j1]
 | false=>
 cases c48:(x.kind==48) with
 | true=>
  have k:=beq_iff_eq.1 c48
  cases j1:((j:Int)==1) with
  | true=>
   have hj:j=1:=by have:=beq_iff_eq.1 j1;omega
   rw[show Js8 x.kind j (typN y.kind)=typN y.kind by rw[k,hj];rfl]
   simp only[evC,seval,↓evP,hr,Nat.zero_add,ea,eb,J0t,J0m,la,lb,ht,c4,c5,c14,c41,c39,c40,c43,c44,c45,c46,c49,c50,c51,c52,c6,c42,c53,c54,c15,c12,c13,c47,c48,j1]
  | false=>
  have h1:j≠1:=by simp only[beq_eq_false_iff_ne] at j1;omega
  rw[show Js8 x.kind j (typN y.kind)=0 by rw[k];simp[Js8,h1]]
  simp only[evC,seval,↓evP,hr,Nat.zero_add,ea,eb,J0t,J0m,la,lb,ht,c4,c5,c14,c41,c39,c40,c43,c44,c45,c46,c49,c50,c51,c52,c6,c42,c53,c54,c15,c12,c13,c47,c48,j1]
 | false=>
 have e:Js8 x.kind j (typN y.kind)=0:=by
  simp only[beq_eq_false_iff_ne] at c4 c5 c14 c41 c39 c40 c43 c44 c45 c46 c49 c50 c51 c52 c6 c42 c53 c54 c15 c12 c13 c47 c48
  simp[Js8,c4,c5,c14,c41,c39,c40,c43,c44,c45,c46,c49,c50,c51,c52,c6,c42,c53,c54,c15,c12,c13,c47,c48]
 rw[e]
 simp only[evC,seval,↓evP,hr,Nat.zero_add,ea,eb,J0t,J0m,la,lb,ht,c4,c5,c14,c41,c39,c40,c43,c44,c45,c46,c49,c50,c51,c52,c6,c42,c53,c54,c15,c12,c13,c47,c48]
theorem JtN {R:List RowN} {v:Value} (hv:J0l h v R) {a f j:Nat} {x y:RowN} (hx:R[a]?=some x) (hy:R[f]?=some y) (ky:1≤y.kind∧y.kind≤54) (hn:1<n):J0T n 64 [v,iv (a:Int),iv (f:Int),iv (j:Int)] h=some (iv (Js8 x.kind j (typN y.kind)),h):=by
 obtain⟨n,rfl⟩:∃ j,n=j+1:=⟨n-1,by omega⟩
 exact J6r (J13 ⟨rfl,rfl,rfl⟩) rfl (Jt4 (n:=n) (N:=n) hv hx hy ky (by omega))
end
section
variable {call:J0r} {N:Nat} {h:SHeap}
set_option maxHeartbeats 4000000 in
theorem Jta {Z L:List RowN} {v:Value} {at_ q:Nat} (hsk:Jkk L Z) (hv:J0l h v L) (hs:SubT Z at_ q) (hlen:L.length<1099511627776) (hN:L.length+3<N) :
  J0L Tryz.prog call N 44 [v,iv at_] h=some (iv q,h):=by
 refine J1m Tryz.func44 rfl (by simp[Tryz.f44]) ?_
 have hr:Tryz.f44.results.toList=[.tmp 4]:=rfl
 have hq:=hs.lt
 have hZ:=hsk.1
 simp only[evC,seval,↓evP,rpC,hr]
 refine WK.loop (fun i s'=>s'.h=h∧s'.T.get 0=v∧s'.T.get 1=iv ((at_+i:Nat):Int)∧∃ r:Nat,s'.T.get 5=iv r∧J35 Z r (at_+i) q) (q-at_) (by omega) ?_ ?_
 ·exact⟨rfl,by simp only[evC,seval,↓evP,rpC],by simp only[evC,seval,↓evP,rpC,Nat.add_zero],1,by simp only[evC,seval,↓evP,rpC],q,hs,hq.1,hq.2,rfl⟩
 rintro i ⟨T1,H1⟩ hi ⟨rfl,t0,t1,r,t5,hc⟩
 simp only at t0 t1 t5
 cases r with
 | zero=>
  have hpq:at_+i=q:=hc
  have c1:decide (((0:Nat):Int)>0)=false:=rfl
  rw[hpq] at t1
  simp only[evC,seval,↓evP,rpC,hr,t0,t1,t5,c1]
 | succ r=>
  obtain⟨p',h1,h2,h3,h4⟩:=hc
  have hle:=J2o _ _ _ h4
  have c1:decide (((r+1:Nat):Int)>0)=true:=decide_eq_true (by omega)
  obtain⟨x,hx,hk0,_,hch⟩:=h1.kids
  obtain⟨y,hy,hyk⟩:=hsk.2 _ x hx
  obtain⟨id,p,e0,hid,l0,l1,l2,l3,l4,lr⟩:=hv.row hy
  rw[hyk] at l4
  have hcl:=J2o _ _ _ hch
  have w1:IntKind.i64.wrap (((r+1:Nat):Int)-1)=(r:Int):=by rw[J0s (by omega) (by omega)];omega
  have w2:IntKind.i64.wrap ((r:Int)+x.kids)=((x.kids.toNat+r:Nat):Int):=by rw[J0s (by omega) (by omega)];omega
  have w3:IntKind.i64.wrap (((at_+i:Nat):Int)+1)=((at_+(i+1):Nat):Int):=by rw[J0s (by omega) (by omega)];omega
  simp only[evC,seval,↓evP,rpC,t0,t1,t5,c1,e0,l4,w1,w2,w3]
  exact⟨by omega,_,rfl,Jsw _ _ _ _ _ hch h4⟩
theorem Ju1 {n:Nat} {Z L:List RowN} {v:Value} {at_ q:Nat} (hsk:Jkk L Z) (hv:J0l h v L) (hs:SubT Z at_ q) (hlen:L.length<1099511627776) (hn:L.length+5<n) :
  J0T n 44 [v,iv at_] h=some (iv q,h):=by
 obtain⟨n,rfl⟩:∃ j,n=j+1:=⟨n-1,by omega⟩
 exact J6r (J13 ⟨rfl,rfl,rfl⟩) rfl (Jta hsk hv hs hlen (by omega))
set_option maxHeartbeats 8000000 in
theorem Jt2 {n:Nat} {Z L:List RowN} {v:Value} {at_:Nat} {x:RowN} (ht:J2c Z) (hsk:Jkk L Z) (hv:J0l h v L) (hx:Z[at_]?=some x) (hlen:L.length<100000000) (hn:L.length+10<n) (hN:L.length+3<N) (hfl:h.floor≤h.next) :
  ∃ v' h',J0L Tryz.prog (J0T n) N 47 [v,iv at_] h=some (v',h')∧(IntL h' h.next v' ((Js9 (endN Z) x.kids.toNat (at_+1)).map (fun (k:Nat)=>(k:Int)))∧h'.floor=h.floor∧h.next≤h'.next∧∀ i,i<h.next→h'.get i=h.get i):=by
 refine J65 (R:=fun v' h'=>IntL h' h.next v' ((Js9 (endN Z) x.kids.toNat (at_+1)).map (fun (k:Nat)=>(k:Int)))∧h'.floor=h.floor∧h.next≤h'.next∧∀ i,i<h.next→h'.get i=h.get i) Tryz.func47 rfl (by simp[Tryz.f47]) ?_
 have hr:Tryz.f47.results.toList=[.tmp 4]:=rfl
 have hal:=(List.getElem?_eq_some_iff.1 hx).1
 have hZ:=hsk.1
 have hs:=ht.end hal
 obtain⟨x',hx',hk0,_,hch⟩:=hs.kids
 rw[hx] at hx'
 cases hx'
 have hq:=hs.lt
 have hcl:=J2o _ _ _ hch
 obtain⟨y,hy,hyk⟩:=hsk.2 _ x hx
 have w1:IntKind.i64.wrap ((at_:Int)+1)=((at_+1:Nat):Int):=J0s (by omega) (by omega)
 simp only[evC,seval,↓evP,rpC,hr,w1]
 refine WK.loop (fun i s'=>s'.T.get 0=v∧s'.T.get 1=iv (at_:Int)∧s'.T.get 7=iv i∧i≤x.kids.toNat∧h.next≤s'.h.next∧s'.h.floor=h.floor∧(∀ j,j<h.next→s'.h.get j=h.get j)∧∃ p l w,s'.T.get 6=iv ((p:Nat):Int)∧s'.T.get 5=w∧IntL s'.h h.next w (l.map (fun (k:Nat)=>(k:Int)))∧l.length=i∧l++Js9 (endN Z) (x.kids.toNat-i) p=Js9 (endN Z) x.kids.toNat (at_+1)∧J35 Z (x.kids.toNat-i) p (endN Z at_)) x.kids.toNat (by omega) ?_ ?_
 ·exact⟨by simp only[evC,seval,↓evP,rpC],by simp only[evC,seval,↓evP,rpC],by simp only[evC,seval,↓evP,rpC] <;> rfl,by omega,Nat.le_refl _,rfl,fun _ _=>rfl,at_+1,[],.slice none 0 0,by simp only[evC,seval,↓evP,rpC],by simp only[evC,seval,↓evP,rpC],.inl ⟨rfl,rfl⟩,rfl,rfl,hch⟩
 rintro i ⟨T1,H1⟩ hi ⟨t0,t1,t7,hil,m1,m2,m3,p,l,w,t6,t5,hL,hll,hlk,hc⟩
 simp only at t0 t1 t7 m1 m2 m3 t6 t5 hL
 have hv1:J0l H1 v L:=hv.mono (by omega) m3
 obtain⟨id,pp,e0,hid,l0,l1,l2,l3,l4,lr⟩:=hv1.row hy
 rw[hyk] at l4
 by_cases hlt:i<x.kids.toNat
 ·have d1:decide ((i:Int)<x.kids)=true:=by simp;omega
  obtain⟨r,hr1⟩:∃ r,x.kids.toNat-i=r+1:=⟨x.kids.toNat-i-1,by omega⟩
  rw[hr1] at hc hlk
  obtain⟨p',s1,s2,s3,s4⟩:=hc
  have hle:=J2o _ _ _ s4
  have hep:=J5P s1
  obtain⟨w',H',happ,hL',fH,nH,oH⟩:=JsR (x:=(p:Int)) hL m1 (by omega) (by rw[List.length_map];omega)
  have hvH:J0l H' v L:=hv.mono (by omega) fun j hj=>(oH j hj).trans (m3 j hj)
  have hend:=Ju1 (n:=n) hsk hvH s1 (by omega) (by omega)
  have w2:IntKind.i64.wrap ((i:Int)+1)=((i+1:Nat):Int):=J0s (by omega) (by omega)
  simp only[evC,seval,↓evP,t0,t1,t7,t5,t6,e0,Nat.zero_add,Jhp,J0m,l4,d1,bs28,happ,hend,w2]
  refine⟨hlt,by omega,by omega,by omega,fun j hj=>(oH j hj).trans (m3 j hj),p',l++[p],w',rfl,rfl,?_,by rw[List.length_append,hll];rfl,?_,?_⟩
  ·rw[List.map_append]
   exact hL'
  ·rw[List.append_assoc,← hlk,show x.kids.toNat-(i+1)=r by omega]
   show l++(p :: Js9 (endN Z) r p')=l++(p :: Js9 (endN Z) r (endN Z p))
   rw[hep]
  ·rw[show x.kids.toNat-(i+1)=r by omega]
   exact s4
 ·have d1:decide ((i:Int)<x.kids)=false:=by simp;omega
  rw[show x.kids.toNat-i=0 by omega] at hlk
  have hl9:l=Js9 (endN Z) x.kids.toNat (at_+1):=by
   rw[← hlk]
   exact(List.append_nil l).symm
  subst hl9
  simp only[evC,seval,↓evP,hr,t0,t1,t7,t5,t6,e0,Nat.zero_add,Jhp,J0m,l4,d1]
  exact⟨hL,m2,m1,m3⟩
theorem JtR {n:Nat} {Z L:List RowN} {v:Value} {at_:Nat} {x:RowN} (ht:J2c Z) (hsk:Jkk L Z) (hv:J0l h v L) (hx:Z[at_]?=some x) (hlen:L.length<100000000) (hn:L.length+20<n) (hfl:h.floor≤h.next) :
  ∃ v' h',J0T n 47 [v,iv at_] h=some (v',h')∧(IntL h' h.next v' ((Js9 (endN Z) x.kids.toNat (at_+1)).map (fun (k:Nat)=>(k:Int)))∧h'.floor=h.floor∧h.next≤h'.next∧∀ i,i<h.next→h'.get i=h.get i):=by
 obtain⟨n,rfl⟩:∃ j,n=j+1:=⟨n-1,by omega⟩
 exact k_ex (J13 ⟨rfl,rfl,rfl⟩) (Jt2 (n:=n) (N:=n) ht hsk hv hx hlen (by omega) (by omega) hfl) fun v' h1 hf _ ht=>⟨ht.1.flat hf _ _,rfl,Nat.le_refl _,fun _ _=>rfl⟩
end
end Go.Proofs.YtdejoodfeljmkaaGreatDoor
