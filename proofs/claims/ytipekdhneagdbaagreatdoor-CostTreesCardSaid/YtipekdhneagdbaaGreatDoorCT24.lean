/- Part 24 of what the claim leans on: 2 texts laid one behind another. -/
import Derived.Test.YtipekdhneagdbaaGreatDoorCT23
namespace Go.Proofs.YtipekdhneagdbaaGreatDoor
open Go Go.Sx
set_option maxRecDepth 100000
set_option linter.unusedSimpArgs false
set_option linter.unusedVariables false
theorem szC:szOf Tryz.prog 36=some 2:=by kernel_rfl
theorem aggC:J2X Tryz.prog 36=some true:=by kernel_rfl
abbrev cV (v:Value) (m:Int):Value:=.agg #[v,iv m]
theorem JqY:J1w Tryz.prog 36=some (cV (.slice none 0 0) 0):=by kernel_rfl
theorem JqV:flat (cV (.slice none 0 0) 0)=true:=rfl
theorem JrQ:J2Q Tryz.prog (match Tryz.prog.underlying 36 with | some (.struct fs)=>fs.toList | _=>[])=some [(0,1),(1,1)]:=by kernel_rfl
theorem Jq7:J1P Tryz.prog 36 []=some (cV (.slice none 0 0) 0):=by
 have h:=JrQ
 rw[Tryz.underlying36] at h
 simp only at h
 simp only[J1P,JqY,JqV,if_true,Tryz.underlying36,h]
 rfl
theorem Jsn {a:Option Addr} {n c:Nat}:J1P Tryz.prog 36 [(0,.slice a n c)]=some (cV (.slice a n c) 0):=by
 have h:=JrQ
 rw[Tryz.underlying36] at h
 simp only at h
 simp only[J1P,JqY,JqV,if_true,Tryz.underlying36,h]
 rfl
theorem JsX:J1w Tryz.prog 62=some (.agg #[.string ByteArray.empty,.slice none 0 0,.slice none 0 0,.slice none 0 0,.slice none 0 0,.slice none 0 0,.slice none 0 0,iv 0,.slice none 0 0,.slice none 0 0,.slice none 0 0,.slice none 0 0]):=by kernel_rfl
theorem JrT:J2Q Tryz.prog (match Tryz.prog.underlying 62 with | some (.struct fs)=>fs.toList | _=>[])=some [(0,8),(8,3),(11,1)]:=by kernel_rfl
theorem Jsz {nm:ByteArray} {vr vq vv vt vu vo a b c:Value} {m:Int}:J1P Tryz.prog 62 [(0,.agg #[.string nm,vr,vq,vv,vt,vu,vo,iv m]),(1,.agg #[a,b,c])]=some (.agg #[.string nm,vr,vq,vv,vt,vu,vo,iv m,a,b,c,.slice none 0 0]):=by
 have h:=JrT
 rw[Tryz.underlying62] at h
 simp only at h
 have hf:flat (.agg #[.string ByteArray.empty,.slice none 0 0,.slice none 0 0,.slice none 0 0,.slice none 0 0,.slice none 0 0,.slice none 0 0,iv 0,.slice none 0 0,.slice none 0 0,.slice none 0 0,.slice none 0 0])=true:=rfl
 simp only[J1P,JsX,hf,if_true,Tryz.underlying62,h]
 rfl
section
variable {h:SHeap} {id off:Nat}
theorem JqN:J2x Tryz.prog h 36 (.pointer (some ⟨id,off,none⟩))=ldN 2 off (h.get id):=J5S aggC szC
theorem Jqs:J08 Tryz.prog 36 (.pointer (some ⟨id,off,none⟩)) 0=some (.pointer (some ⟨id,off,none⟩)):=by simp[J08,Tryz.underlying36,sz28,J0q]
theorem Jqp:J08 Tryz.prog 36 (.pointer (some ⟨id,off,none⟩)) 1=some (.pointer (some ⟨id,off+1,none⟩)):=by simp[J08,Tryz.underlying36,sz3,J0q]
end
def vcells (l:List (Int × Int × Int)):List Value:=l.flatMap fun x=>[iv x.1,iv x.2.1,iv x.2.2]
def Jqg (lo:Nat) (h:SHeap) (tv:Value) (W:List (Int × Int × Int)) (G rd:List Int):Prop:=
 ∃ vv vg vr,tv=.agg #[vv,vg,vr]∧J0p lo h vv W.length 3 (vcells W)∧J1S lo h vg G∧J1S lo h vr rd
theorem Jqg.mono {lo:Nat} {h h':SHeap} {tv:Value} {W:List (Int × Int × Int)} {G rd:List Int} (ht:Jqg lo h tv W G rd) (hn:h.next≤h'.next) (hg:∀ i,lo≤i→i<h.next→h'.get i=h.get i):Jqg lo h' tv W G rd:=by
 obtain⟨vv,vg,vr,h1,h2,h3,h4⟩:=ht
 exact⟨vv,vg,vr,h1,h2.mono hn hg,J1S.mono h3 hn hg,J1S.mono h4 hn hg⟩
def Jq4 (lo:Nat) (h:SHeap) (cv:Value) (c:CostN):Prop:=
 ∃ vo,cv=cV vo c.miss∧((vo=.slice none 0 0∧c.on=[])∨∃ id,vo=.slice (some ⟨id,0,none⟩) c.on.length c.on.length∧lo≤id∧id<h.next∧h.get id=.row (ints c.on) 3 false false)
theorem Jq4.mono {lo:Nat} {h h':SHeap} {cv:Value} {c:CostN} (hc:Jq4 lo h cv c) (hn:h.next≤h'.next) (hg:∀ i,lo≤i→i<h.next→h'.get i=h.get i):Jq4 lo h' cv c:=by
 obtain⟨vo,h1,h2 | ⟨id,h2,h3,h4,h5⟩⟩:=hc
 ·exact⟨vo,h1,.inl h2⟩
 ·exact⟨vo,h1,.inr ⟨id,h2,h3,by omega,(hg id h3 h4).trans h5⟩⟩
theorem Jq4.weak {lo lo':Nat} {h:SHeap} {cv:Value} {c:CostN} (hc:Jq4 lo h cv c) (hl:lo'≤lo):Jq4 lo' h cv c:=by
 obtain⟨vo,h1,h2 | ⟨id,h2,h3,h4,h5⟩⟩:=hc
 ·exact⟨vo,h1,.inl h2⟩
 ·exact⟨vo,h1,.inr ⟨id,h2,by omega,h4,h5⟩⟩
theorem Jq1 (lo:Nat) (h:SHeap):Jq4 lo h (cV (.slice none 0 0) 0) zC:=⟨_,rfl,.inl ⟨rfl,rfl⟩⟩
def Jqy (h:SHeap) (nm:ByteArray) (s:StN) (rd:List Int) (v:Value) (h':SHeap):Prop:=
 ∃ cv,v=.tuple #[cv,J2k (JpV nm s rd).1.1 (JpV nm s rd).1.2]∧Jq4 h.next h' cv (JpV nm s rd).2∧h'.floor=h.floor∧h.next≤h'.next∧∀ i,i<h.next→h'.get i=h.get i
noncomputable def Jsj:Array Oper:=J18 Tryz.f9 16
def Jt9:List (Bool × Bool × List Operand):=[(true,true,[]),(true,false,[]),(true,false,[]),(true,false,[]),(true,false,[]),(false,true,[.tmp 62]),(false,true,[.tmp 62]),(false,true,[.tmp 62]),(false,true,[.tmp 62]),(false,false,[]),(false,false,[]),(false,false,[]),(false,false,[])]
theorem JrU:J1E Jsj=Jt9:=by kernel_rfl
theorem Jr7 {R:List RowN} {V:Nat→Int} {r at_:Nat} {c:CostN} {x:RowN} (h:R[at_]?=some x):goC R V (r+1) at_ c=if J0E x.kind=false then goC R V r (at_+1) c
   else if V (at_+1)>72057594037927936 then ((61,(at_:Int)),zC)
   else goC R V r (at_+1) (if x.kind=10 then ⟨c.on,V (at_+1)⟩ else ⟨c.on.set x.n.toNat (V (at_+1)),c.miss⟩):=by
 conv=>lhs;unfold goC
 rw[h]
theorem IntL.one {h:SHeap} {lo:Nat} {v:Value} {l:List Int} (hl:IntL h lo v l):one v=true∧v.cells=#[v]:=by
 rcases hl with⟨rfl,_⟩ | ⟨id,c,rfl,_⟩ <;> exact⟨rfl,rfl⟩
section
variable {n N:Nat}
set_option maxHeartbeats 32000000 in
theorem Jrh {nm:ByteArray} {s:StN} {W:List (Int × Int × Int)} {G rd:List Int} {pv tv:Value} {lo lt:Nat} {h:SHeap} (hp:J3x lo h pv nm s) (hlies:∀ nm' vr vq vv vt vu vo m,pv=.agg #[.string nm',vr,vq,vv,vt,vu,vo,m]→Lies vr s.rows.length) (hty:Jqg lt h tv W G rd) (hs:JdC s) (hl:s.rows.length<90000000) (hrl:rd.length<90000000)
  (hfl:h.floor≤h.next) (hg:h.get 0=J14) (hn0:0<h.next) (hn:2*Jbg s+300<n) (hN:Jbg s+rd.length+200<N) :
  ∃ v' h',J0L Tryz.prog (J0T n) N 9 [pv,tv] h=some (v',h')∧Jqy h nm s rd v' h':=by
 have hsn:=(J1z n).2
 refine J65 (R:=Jqy h nm s rd) Tryz.func9 rfl (by simp[Tryz.f9]) ?_
 have hr:Tryz.f9.results.toList=[.cell 4 36,.cell 5 39]:=rfl
 obtain⟨vr,vq,vv,vt,vu,vo,rfl,p1,p2,p3,p4,p5,p6⟩:=id hp
 obtain⟨tw,tg,td,rfl,y1,y2,y3⟩:=id hty
 have ca:(Value.agg #[.string nm,vr,vq,vv,vt,vu,vo,iv s.miss]).cells.toList=[.string nm,vr,vq,vv,vt,vu,vo,iv s.miss]:=rfl
 have oa:=all8 (nm:=nm) p1 p2 p3 p4 p5 p6
 have cy:(Value.agg #[tw,tg,td]).cells.toList=[tw,tg,td]:=rfl
 have oy:[tw,tg,td].all one=true:=by simp only[List.all_cons,List.all_nil,y1.one,J0p.one y2,J0p.one y3,Bool.and_self]
 have zcC:(cV (.slice none 0 0) 0).cells.toList=[.slice none 0 0,iv 0]:=rfl
 have zc33:(J2k 0 0).cells.toList=[iv 0,iv 0]:=rfl
 generalize hKK:Kont.top (fun e s_1=>(e=SExit.normal∨e=SExit.ret)∧∃ vs,resS Tryz.prog s_1 Tryz.f9.results.toList=some vs∧Jqy h nm s rd (resV vs) s_1.h)=K
 have fin:∀ (T':Tr) (H':SHeap) vo' m e p,T'.get 4=.pointer (some ⟨h.next+2,0,none⟩)→T'.get 5=.pointer (some ⟨h.next+3,0,none⟩)→H'.get (h.next+2)=.row [vo',iv m] 36 false false→H'.get (h.next+3)=.row [iv e,iv p] 39 false false→Jq4 h.next H' (cV vo' m) (JpV nm s rd).2→(JpV nm s rd).1=(e,p)→h.next≤H'.next→H'.floor=h.floor→(∀ i,i<h.next→H'.get i=h.get i)→K.ap Tryz.prog (J0T n) N .ret ⟨T',H'⟩:=by
  intro T' H' vo' m e p t4 t5 g4 g5 hc he hnx hf hold
  have l4:ldN 2 0 (H'.get (h.next+2))=some (cV vo' m):=by rw[g4];rfl
  have l5:ldN 2 0 (H'.get (h.next+3))=some (J2k e p):=by rw[g5];rfl
  rw[← hKK]
  simp only[evC,seval,↓evP,hr,t4,t5,JqN,J2n,l4,l5]
  exact⟨_,by rw[he],hc,hf,hnx,hold⟩
 have g0:∀ (a b c d:SObj),let A:=(((h.push a).push b).push c).push d
   A.get h.next=a∧A.get (h.next+1)=b∧A.get (h.next+2)=c∧A.get (h.next+3)=d∧A.next=h.next+4∧A.floor=h.floor∧∀ i,i<h.next→A.get i=h.get i:=fun a b c d=>by
  have q1:(h.push a).next=h.next+1:=rfl
  have q2:((h.push a).push b).next=h.next+2:=rfl
  have q3:(((h.push a).push b).push c).next=h.next+3:=rfl
  refine⟨?_,?_,?_,?_,rfl,rfl,fun i hi=>?_⟩
  ·rw[J06 (by omega),J06 (by omega),J06 (by omega),J0h]
  ·rw[J06 (by omega),J06 (by omega)]
   exact J0h (h:=h.push a)
  ·rw[J06 (by omega)]
   exact J0h (h:=(h.push a).push b)
  ·exact J0h (h:=((h.push a).push b).push c)
  ·rw[J06 (by omega),J06 (by omega),J06 (by omega),J06 hi]
 obtain⟨gA,gB,gC,gD,nA,fA,oA⟩:=g0 (.row [.string nm,vr,vq,vv,vt,vu,vo,iv s.miss] 27 false false) (.row [tw,tg,td] 30 false false) (.row [.slice none 0 0,iv 0] 36 false false) (.row [iv 0,iv 0] 39 false false)
 simp only[evC,seval,↓evP,rpD,J0X,J2t,ca,oa,cy,oy,sz30,szY,JqY,JqV,zcC,J3C,J1t,zc33]
 generalize (((h.push (.row [.string nm,vr,vq,vv,vt,vu,vo,iv s.miss] 27 false false)).push (.row [tw,tg,td] 30 false false)).push (.row [.slice none 0 0,iv 0] 36 false false)).push (.row [iv 0,iv 0] 39 false false)=A at *
 have lP:ldN 8 0 (A.get h.next)=some (.agg #[.string nm,vr,vq,vv,vt,vu,vo,iv s.miss]):=J9E gA rfl
 have lY:ldN 3 0 (A.get (h.next+1))=some (.agg #[tw,tg,td]):=by rw[gB];rfl
 have lY2:ld1 2 (A.get (h.next+1))=some td:=by rw[gB];rfl
 have lP1:ld1 1 (A.get h.next)=some vr:=by rw[gA];rfl
 have hpA:=hp.mono (h':=A) (by omega) fun i _ hi=>oA i hi
 have hchk:=JnE (n:=n) hpA hlies hs (by omega) (by omega) (by rw[oA 0 hn0];exact hg) (by omega) hn
 have st2:∀ (H:SHeap) vo' m e p,one vo'=true→H.get (h.next+2)=.row [.slice none 0 0,iv 0] 36 false false→H.get (h.next+3)=.row [iv 0,iv 0] 39 false false→H.floor=h.floor→h.next+4≤H.next →
   ∃ H':SHeap × SHeap,J0K Tryz.prog H 36 (.pointer (some ⟨h.next+2,0,none⟩)) (cV vo' m)=some H'.1∧J0K Tryz.prog H'.1 39 (.pointer (some ⟨h.next+3,0,none⟩)) (J2k e p)=some H'.2∧H'.2.get (h.next+2)=.row [vo',iv m] 36 false false∧H'.2.get (h.next+3)=.row [iv e,iv p] 39 false false∧H'.2.next=H.next∧H'.2.floor=H.floor∧∀ i,i≠h.next+2→i≠h.next+3→H'.2.get i=H.get i:=fun H vo' m e p ho g2 g3 hf hx=>by
  have a1:=stW (t:=36) szC (vs:=[vo',iv m]) g2 rfl rfl (by simp only[List.all_cons,List.all_nil,ho,J5K,Bool.and_self]) (by omega)
  have g3':(H.put (h.next+2) (.row [vo',iv m] 36 false false)).get (h.next+3)=.row [iv 0,iv 0] 39 false false:=by rw[J05 (by omega) (by omega)];exact g3
  have a2:=stW (t:=39) sz33 (vs:=[iv e,iv p]) g3' rfl rfl rfl (by show H.floor≤_;omega)
  refine⟨⟨_,_⟩,a1,a2,?_,J0b rfl (by show h.next+3<H.next;omega),rfl,rfl,fun i h1 h2=>?_⟩
  ·show ((H.put _ _).put _ _).get _=_
   rw[J05 (by show h.next+3<H.next;omega) (by omega)]
   exact J0b rfl (by omega)
  ·show ((H.put _ _).put _ _).get _=_
   rw[J05 (by show h.next+3<H.next;omega) (Ne.symm h2),J05 (by omega) (Ne.symm h1)]
 cases dc:(JkA nm s != 0) with
 | true=>
  have hcn:JkA nm s≠0:=by simpa using dc
  have hbn:JpV nm s rd=((JkA nm s,0),zC):=by unfold JpV;rw[if_pos hcn]
  obtain⟨⟨H1,H2⟩,s1,s2,q1,q2,q3,q4,q5⟩:=st2 A (.slice none 0 0) 0 (JkA nm s) 0 rfl gC gD fA (by omega)
  simp only at s1 s2 q1 q2 q3 q4 q5
  simp only[evC,seval,↓evP,J1b,lP,hchk,dc,Jq7,J96,s1,s2]
  exact fin _ _ _ _ _ _ (by simp only[evC,seval,↓evP,rpC]) (by simp only[evC,seval,↓evP,rpC]) q1 q2 (by rw[hbn];exact Jq1 _ _) (by rw[hbn]) (by omega) (by omega) fun i hi=>(q5 i (by omega) (by omega)).trans (oA i hi)
 | false=>
 have hck:JkA nm s=0:=by simpa using dc
 have lenR:=fun h'=>JfA p1.2 h'
 have lenD:=fun h'=>JfF y3 h'
 cases dl:((rd.length:Int) != (s.rows.length:Int)) with
 | true=>
  have hne:rd.length≠s.rows.length:=fun e=>by rw[e] at dl;simp at dl
  have hbn:JpV nm s rd=((43,0),zC):=by unfold JpV;rw[if_neg (by rw[hck];decide),if_pos fun h9=>hne h9.1]
  obtain⟨⟨H1,H2⟩,s1,s2,q1,q2,q3,q4,q5⟩:=st2 A (.slice none 0 0) 0 43 0 rfl gC gD fA (by omega)
  simp only at s1 s2 q1 q2 q3 q4 q5
  simp only[evC,seval,↓evP,Nat.zero_add,J1b,lP,hchk,dc,JpX,J0n,lY2,lenD,J0y,J0F,lP1,lenR,dl,Jq7,J96,s1,s2]
  exact fin _ _ _ _ _ _ (by simp only[evC,seval,↓evP,rpC]) (by simp only[evC,seval,↓evP,rpC]) q1 q2 (by rw[hbn];exact Jq1 _ _) (by rw[hbn]) (by omega) (by omega) fun i hi=>(q5 i (by omega) (by omega)).trans (oA i hi)
 | false=>
 have hlen:rd.length=s.rows.length:=by
  have h9:(rd.length:Int)=(s.rows.length:Int):=by simpa using dl
  omega
 simp only[evC,seval,↓evP,Nat.zero_add,J1b,lP,hchk,dc,JpX,J0n,lY2,lenD,J0y,J0F,lP1,lenR,dl]
 refine WK.loop (fun i s'=>s'.h=A∧s'.T.get 2=.pointer (some ⟨h.next,0,none⟩)∧s'.T.get 3=.pointer (some ⟨h.next+1,0,none⟩)∧s'.T.get 4=.pointer (some ⟨h.next+2,0,none⟩)∧s'.T.get 5=.pointer (some ⟨h.next+3,0,none⟩)∧s'.T.get 33=td∧s'.T.get 34=iv (rd.length:Int)∧s'.T.get 35=iv i∧i≤rd.length∧∀ x∈rd.take i,0≤x∧x≤4194304) rd.length (by omega) ?_ ?_
 ·exact⟨rfl,by simp only[evC,seval,↓evP,rpC],by simp only[evC,seval,↓evP,rpC],by simp only[evC,seval,↓evP,rpC],by simp only[evC,seval,↓evP,rpC],by simp only[evC,seval,↓evP,rpC],by simp only[evC,seval,↓evP,rpC],by simp only[evC,seval,↓evP,rpC],by omega,fun x hx=>by simp at hx⟩
 rintro i ⟨T1,H1⟩ hi ⟨hH1,t2,t3,t4,t5,t33,t34,t35,hil,hrs⟩
 simp only at t2 t3 t4 t5 t33 t34 t35 hH1
 subst hH1
 have y3A:J1S lt H1 td rd:=J1S.mono y3 (by omega) fun i _ hi=>oA i hi
 by_cases hlt:i<rd.length
 ·have c1:decide ((i:Int)<(rd.length:Int))=true:=by simp;omega
  obtain⟨x,hx⟩:∃ x,rd[i]?=some x:=⟨_,List.getElem?_eq_getElem hlt⟩
  obtain⟨id,p,a1,a2,a3⟩:=J1S.get y3A hx
  have bad:¬ (0≤x∧x≤4194304)→JpV nm s rd=((43,0),zC):=fun h9=>by
   unfold JpV
   rw[if_neg (by rw[hck];decide),if_pos fun h8=>h9 (h8.2 x (List.mem_of_getElem? hx))]
  obtain⟨⟨H2,H3⟩,s1,s2,q1,q2,q3,q4,q5⟩:=st2 H1 (.slice none 0 0) 0 43 0 rfl gC gD fA (by omega)
  simp only at s1 s2 q1 q2 q3 q4 q5
  have w1:IntKind.i64.wrap ((i:Int)+1)=((i+1:Nat):Int):=J0s (by omega) (by omega)
  cases d1:decide (x<0) with
  | true=>
   have hbn:=bad (by have:=of_decide_eq_true d1;omega)
   simp only[evC,seval,↓evP,t4,t5,t33,t34,t35,c1,a1,J0m,a3,d1,Jq7,J96,s1,s2]
   exact fin _ _ _ _ _ _ (by simp only[evC,seval,↓evP,rpC,t4]) (by simp only[evC,seval,↓evP,rpC,t5]) q1 q2 (by rw[hbn];exact Jq1 _ _) (by rw[hbn]) (by omega) (by omega) fun i hi=>(q5 i (by omega) (by omega)).trans (oA i hi)
  | false=>
  cases d2:decide (x>4194304) with
  | true=>
   have hbn:=bad (by have:=of_decide_eq_true d2;omega)
   simp only[evC,seval,↓evP,t4,t5,t33,t34,t35,c1,a1,J0m,a3,d1,d2,Jq7,J96,s1,s2]
   exact fin _ _ _ _ _ _ (by simp only[evC,seval,↓evP,rpC,t4]) (by simp only[evC,seval,↓evP,rpC,t5]) q1 q2 (by rw[hbn];exact Jq1 _ _) (by rw[hbn]) (by omega) (by omega) fun i hi=>(q5 i (by omega) (by omega)).trans (oA i hi)
  | false=>
   simp only[evC,seval,↓evP,t2,t3,t4,t5,t33,t34,t35,c1,a1,J0m,a3,d1,d2,w1]
   refine⟨hlt,hlt,fun z hz=>?_⟩
   rw[List.take_add_one,hx] at hz
   simp only[Option.toList_some,List.mem_append,List.mem_cons,List.not_mem_nil,or_false] at hz
   rcases hz with hz | rfl
   ·exact hrs z hz
   ·have:=of_decide_eq_false d1
    have:=of_decide_eq_false d2
    omega
 have c1:decide ((i:Int)<(rd.length:Int))=false:=by simp;omega
 have hRd:Jq9 rd:=by rw[List.take_of_length_le (by omega)] at hrs;exact hrs
 have hgood:=JrJ hck (by omega)
 have hbn:JpV nm s rd=goC s.rows (valA s.rows (endN (Jk8 s.rows)) rd (JpZ s.rows (endN (Jk8 s.rows)) rd s.rules [])) s.rows.length 0 ⟨List.replicate s.queues.length 0,0⟩:=by
  unfold JpV
  rw[if_neg (by rw[hck];decide),if_neg fun h9=>h9 ⟨hlen,hRd⟩]
 clear hchk hil hi
 have hcb:(Value.agg #[.string nm,vr,vq,vv,vt,vu,vo,iv s.miss,tw,tg,td,.slice none 0 0]).cells.toList=[.string nm,vr,vq,vv,vt,vu,vo,iv s.miss,tw,tg,td,.slice none 0 0]:=rfl
 have hob:[.string nm,vr,vq,vv,vt,vu,vo,iv s.miss,tw,tg,td,.slice none 0 0].all one=true:=by
  have h9:([.string nm,vr,vq,vv,vt,vu,vo,iv s.miss]++[tw,tg,td]++[.slice none 0 0]:List Value).all one=true:=by rw[List.all_append,List.all_append,oa,oy];rfl
  exact h9
 have lP5:ld1 5 (H1.get h.next)=some vu:=by rw[gA];rfl
 have lenU:=fun h'=>JfF p5 h'
 have gBd:(H1.push (.row [.string nm,vr,vq,vv,vt,vu,vo,iv s.miss,tw,tg,td,.slice none 0 0] 62 false false)).get H1.next=.row [.string nm,vr,vq,vv,vt,vu,vo,iv s.miss,tw,tg,td,.slice none 0 0] 62 false false:=J0h
 have oB:∀ i,i<h.next+4→(H1.push (.row [.string nm,vr,vq,vv,vt,vu,vo,iv s.miss,tw,tg,td,.slice none 0 0] 62 false false)).get i=H1.get i:=fun i hi=>J06 (by omega)
 have nB:(H1.push (.row [.string nm,vr,vq,vv,vt,vu,vo,iv s.miss,tw,tg,td,.slice none 0 0] 62 false false)).next=h.next+5:=by rw[J1D,nA]
 have fB:(H1.push (.row [.string nm,vr,vq,vv,vt,vu,vo,iv s.miss,tw,tg,td,.slice none 0 0] 62 false false)).floor=h.floor:=by rw[J0i,fA]
 have lP5B:ld1 5 ((H1.push (.row [.string nm,vr,vq,vv,vt,vu,vo,iv s.miss,tw,tg,td,.slice none 0 0] 62 false false)).get h.next)=some vu:=by rw[oB _ (by omega)];exact lP5
 simp only[evC,seval,↓evP,Nat.zero_add,t2,t3,t34,t35,c1,J1b,lP,JqF,lY,Jsz,hcb,hob,szB,J36,J0n,lP5B,lenU]
 generalize H1.push (.row [.string nm,vr,vq,vv,vt,vu,vo,iv s.miss,tw,tg,td,.slice none 0 0] 62 false false)=B at *
 unfold Jbg at hn hN
 have hsmall:=hs
 unfold JdC at hsmall
 generalize hb:H1.next=b at *
 have hRl:(Jk8 s.rows).length=s.rows.length:=by unfold Jk8;rw[List.length_map]
 refine WK.loop (fun i s'=>s'.T.get 2=.pointer (some ⟨h.next,0,none⟩)∧s'.T.get 4=.pointer (some ⟨h.next+2,0,none⟩)∧s'.T.get 5=.pointer (some ⟨h.next+3,0,none⟩)∧s'.T.get 9=.pointer (some ⟨b,0,none⟩)∧s'.T.get 53=vu∧s'.T.get 54=iv (s.rules.length:Int)∧s'.T.get 55=iv i∧i≤s.rules.length∧h.next+5≤s'.h.next∧s'.h.floor=h.floor∧(∀ j,j<b→s'.h.get j=B.get j) ∧
  ∃ w,s'.h.get b=.row [.string nm,vr,vq,vv,vt,vu,vo,iv s.miss,tw,tg,td,w] 62 false false∧IntL s'.h (h.next+5) w (JpZ s.rows (endN (Jk8 s.rows)) rd (s.rules.take i) [])) s.rules.length (by omega) ?_ ?_
 ·exact⟨by simp only[evC,seval,↓evP,rpC,t2],by simp only[evC,seval,↓evP,rpC,t4],by simp only[evC,seval,↓evP,rpC,t5],by simp only[evC,seval,↓evP,rpC],by simp only[evC,seval,↓evP,rpC],by simp only[evC,seval,↓evP,rpC],by simp only[evC,seval,↓evP,rpC],by omega,by show h.next+5≤B.next;omega,fB,fun _ _=>rfl,.slice none 0 0,gBd,.inl ⟨rfl,rfl⟩⟩
 rintro i ⟨T2,C⟩ hi ⟨t2,t4,t5,t9,t53,t54,t55,hil,m1,m2,m3,w,gw,hL⟩
 simp only at t2 t4 t5 t9 t53 t54 t55 m1 m2 m3 gw hL
 have oC:∀ j,j<h.next→C.get j=h.get j:=fun j hj=>by rw[m3 j (by omega),oB j (by omega),oA j hj]
 have lw:ld1 11 (C.get b)=some w:=by rw[gw];rfl
 have hbC:BndAt C b vr td w s.rows rd (JpZ s.rows (endN (Jk8 s.rows)) rd (s.rules.take i) []):=⟨by rw[gw];rfl,by rw[gw];rfl,lw,by omega,p1.1.mono (by omega) oC,J1S.mono (J1S.weak y3 (Nat.zero_le _)) (by omega) fun j _ hj=>oC j hj,IntL.ints hL (Nat.zero_le _)⟩
 have hSi:Sums (JpZ s.rows (endN (Jk8 s.rows)) rd (s.rules.take i) []):=Jqi hRd _ _ fun x hx=>by simp at hx
 by_cases hlt:i<s.rules.length
 ·have c1:decide ((i:Int)<(s.rules.length:Int))=true:=by simp;omega
  obtain⟨ru,hru⟩:∃ ru,s.rules[i]?=some ru:=⟨_,List.getElem?_eq_getElem hlt⟩
  obtain⟨r0,r1,r2⟩:=hgood.rules i ru hru
  obtain⟨r,rfl⟩:∃ r:Nat,ru=(r:Int):=⟨ru.toNat,by omega⟩
  rw[Int.toNat_natCast] at r1 r2
  have hsub:=hgood.t.end r1
  have hsl:=hsub.lt
  have hSl:(JpZ s.rows (endN (Jk8 s.rows)) rd (s.rules.take i) []).length=i:=by rw[Jqa,List.length_take];simp;omega
  obtain⟨iu,pu,a1,a2,a3⟩:=J1S.get (J1S.mono (J1S.weak p5 (Nat.zero_le _)) (by omega) fun j _ hj=>oC j hj) hru
  have hbd:=Jrs hgood.t hgood.sk hgood.kk hRd hlen hSi (by omega) s.rows.length n r _ (C.fl (max C.floor C.next)) hsub (by omega) (r2 _ hSl) (by omega) (hbC.mono (h':=C.fl (max C.floor C.next)) (Nat.le_refl _) fun _ _=>rfl) (by rw[JiM,J0J];omega)
  obtain⟨w',D,happ,hL',fD,nD,oD⟩:=Jqv (x:=valA s.rows (endN (Jk8 s.rows)) rd (JpZ s.rows (endN (Jk8 s.rows)) rd (s.rules.take i) []) r) hL m1 (by omega) (by omega)
  have hst:=stc (off:=11) (v:=w') sz28 hL'.one.2 hL'.one.1 ((oD b (by omega)).trans gw) (by show 11<12;omega) (by omega)
  have hst':J0K Tryz.prog D 25 (.pointer (some ⟨b,11,none⟩)) w'=some (D.put b (.row [.string nm,vr,vq,vv,vt,vu,vo,iv s.miss,tw,tg,td,w'] 62 false false)):=hst
  have bT:(b<C.next)=True:=by simp;omega
  have hff:C.fl C.floor=C:=rfl
  have hfD:∀ o,(D.put b o).fl C.floor=D.put b o:=fun o=>by rw[show C.floor=(D.put b o).floor by show C.floor=D.floor;omega];rfl
  have hfD':D.fl C.floor=D:=by rw[show C.floor=D.floor by omega];rfl
  have w1:IntKind.i64.wrap ((i:Int)+1)=((i+1:Nat):Int):=J0s (by omega) (by omega)
  simp only[evC,seval,↓evP,t53,t54,t55,c1,a1,J0m,a3]
  refine WK.flags (ops:=Jsj) JrU ?_
  refine WKF.begin ?_
  refine wst hsn 0 (some 59) (.move (.tmp 9)) none ?_
  simp only[rgC,seval,J04,J02,WKFC,hff,t9,Nat.zero_add]
  refine wst hsn 1 (some 60) (.move (.tmp 9)) none ?_
  simp only[rgC,seval,J04,J02,WKFC,hff,t9]
  refine wst hsn 2 (some 61) (.nilCheck (.tmp 60)) none ?_
  simp only[rgC,seval,J04,J02,WKFC,hff]
  refine wst hsn 3 (some 62) (.fieldAddr 62 (.tmp 61) 2) none ?_
  simp only[rgC,seval,J04,J02,WKFC,Nat.zero_add,hff,Jra,Nat.zero_add]
  refine wst hsn 4 (some 63) (.load 25 (.tmp 62)) none ?_
  simp only[rgC,seval,J04,J02,WKFC,rgL,hff,bT,lw,J0n]
  refine wst hsn 5 (some 64) (.move (.tmp 9)) none ?_
  simp only[rgC,seval,J04,J02,WKFC,hff,t9]
  refine wst hsn 6 (some 65) (.move (.tmp 11)) none ?_
  simp only[rgC,seval,J04,J02,WKFC,hff]
  refine wst hsn 7 (some 66) (.call { callee:=.value (.func 22),args:=#[.tmp 64,.tmp 65],argTypes:=#[60,3] }) none ?_
  simp only[rgC,seval,J04,J02,WKFC,rgK,hff,hbd,Jk2]
  refine wst hsn 8 (some 67) (.buildSlice 25 1 #[(0,.tmp 66)]) none ?_
  simp only[rgC,seval,J04,J02,WKFC,List.map_cons,List.map_nil,hff,bs28,J0a]
  refine wst hsn 9 (some 68) (.call { callee:=.builtin .append,args:=#[.tmp 63,.tmp 67],argTypes:=#[25,25] }) none ?_
  simp only[rgC,seval,J04,J02,WKFC,rgK,J0i,happ,hfD']
  refine wst hsn 10 (some 69) (.nilCheck (.tmp 59)) none ?_
  simp only[rgC,seval,J04,J02,WKFC]
  refine wst hsn 11 (some 70) (.fieldAddr 62 (.tmp 69) 2) none ?_
  simp only[rgC,seval,J04,J02,WKFC,Nat.zero_add,Jra,Nat.zero_add]
  refine wst hsn 12 (none) (.store 25 (.tmp 70) (.tmp 68)) none ?_
  simp only[rgC,seval,J04,J02,WKFC,J17,rgS,JcC,hst',J0V]
  refine WKF.done (i:=13) (by kernel_rfl) ?_
  simp only[evC,seval,↓evP,t2,t4,t5,t9,t53,t54,t55,w1]
  refine⟨hlt,by omega,by show h.next+5≤D.next;omega,by show D.floor=_;omega,fun j hj=>?_,w',J0b rfl (by omega),?_⟩
  ·rw[J05 (by omega) (by omega),oD j (by omega)]
   exact m3 j hj
  ·rw[Jql i _ _ hru,Int.toNat_natCast]
   exact hL'.mono (Nat.le_refl _) fun j h1 h2=>J05 (by omega) (by omega)
 have c2:decide ((i:Int)<(s.rules.length:Int))=false:=by simp;omega
 rw[List.take_of_length_le (show s.rules.length≤i by omega)] at hL hbC hSi
 have hSl:(JpZ s.rows (endN (Jk8 s.rows)) rd s.rules []).length=s.rules.length:=by rw[Jqa];simp
 have hcalls:=fun p q=>hgood.calls _ p q hSl
 generalize JpZ s.rows (endN (Jk8 s.rows)) rd s.rules []=S at *
 have lP2:ld1 2 (C.get h.next)=some vq:=by rw[m3 _ (by omega),oB _ (by omega),gA];rfl
 have lP1C:ld1 1 (C.get h.next)=some vr:=by rw[m3 _ (by omega),oB _ (by omega)];exact lP1
 have gC2:C.get (h.next+2)=.row [.slice none 0 0,iv 0] 36 false false:=by rw[m3 _ (by omega),oB _ (by omega)];exact gC
 have gD2:C.get (h.next+3)=.row [iv 0,iv 0] 39 false false:=by rw[m3 _ (by omega),oB _ (by omega)];exact gD
 have lenQ:=fun h'=>JfC p2 h'
 have hmk:=J8p (h:=C) (n:=s.queues.length) (by omega)
 have g1:∀ (a:SObj) (x y:List Value),let D:=((C.push a).push (.row x 36 false false)).put (C.next+1) (.row y 36 false false)
   D.get C.next=a∧D.get (C.next+1)=.row y 36 false false∧D.next=C.next+2∧D.floor=C.floor∧∀ i,i<C.next→D.get i=C.get i:=fun a x y=>by
  have q1:(C.push a).next=C.next+1:=rfl
  have q2:((C.push a).push (.row x 36 false false)).next=C.next+2:=rfl
  refine⟨?_,J0b rfl (by omega),rfl,rfl,fun i hi=>?_⟩
  ·rw[J05 (by omega) (by omega),J06 (by omega),J0h]
  ·rw[J05 (by omega) (by omega),J06 (by omega),J06 hi]
 obtain⟨gon,gco,nD,fD,oD⟩:=g1 (.row (ints (List.replicate s.queues.length 0)) 3 false false) [.slice none 0 0,iv 0] [.slice (some ⟨C.next,0,none⟩) s.queues.length s.queues.length,iv 0]
 have hstc:=stW (t:=36) szC (h:=(C.push (.row (ints (List.replicate s.queues.length 0)) 3 false false)).push (.row [.slice none 0 0,iv 0] 36 false false)) (id:=C.next+1) (vs:=[.slice (some ⟨C.next,0,none⟩) s.queues.length s.queues.length,iv 0]) (cs:=[.slice none 0 0,iv 0]) (ty:=36) (g:=false) (by exact J0h (h:=C.push _)) rfl rfl rfl (by show C.floor≤_;omega)
 have hstc':J0K Tryz.prog ((C.push (.row (ints (List.replicate s.queues.length 0)) 3 false false)).push (.row [.slice none 0 0,iv 0] 36 false false)) 36 (.pointer (some ⟨C.next+1,0,none⟩)) (cV (.slice (some ⟨C.next,0,none⟩) s.queues.length s.queues.length) 0)=_:=hstc
 have lP1D:ld1 1 ((((C.push (.row (ints (List.replicate s.queues.length 0)) 3 false false)).push (.row [.slice none 0 0,iv 0] 36 false false)).put (C.next+1) (.row [.slice (some ⟨C.next,0,none⟩) s.queues.length s.queues.length,iv 0] 36 false false)).get h.next)=some vr:=by rw[oD _ (by omega)];exact lP1C
 simp only[evC,seval,↓evP,Nat.zero_add,t2,t54,t55,c2,J0B,J0S,lP2,lenQ,hmk,Jsn,JqY,JqV,zcC,J1D,hstc',J0y,J0F,lP1D,lenR]
 generalize ((C.push (.row (ints (List.replicate s.queues.length 0)) 3 false false)).push (.row [.slice none 0 0,iv 0] 36 false false)).put (C.next+1) (.row [.slice (some ⟨C.next,0,none⟩) s.queues.length s.queues.length,iv 0] 36 false false)=D at *
 refine WK.loop (fun i s'=>s'.T.get 4=.pointer (some ⟨h.next+2,0,none⟩)∧s'.T.get 5=.pointer (some ⟨h.next+3,0,none⟩)∧s'.T.get 9=.pointer (some ⟨b,0,none⟩)∧s'.T.get 12=.pointer (some ⟨C.next+1,0,none⟩)∧s'.T.get 78=vr∧s'.T.get 79=iv (s.rows.length:Int)∧s'.T.get 80=iv i∧i≤s.rows.length∧C.next+2≤s'.h.next∧s'.h.floor=h.floor∧(∀ j,j<C.next→s'.h.get j=C.get j) ∧
  ∃ c:CostN,c.on.length=s.queues.length∧s'.h.get C.next=.row (ints c.on) 3 false false∧s'.h.get (C.next+1)=.row [.slice (some ⟨C.next,0,none⟩) s.queues.length s.queues.length,iv c.miss] 36 false false∧goC s.rows (valA s.rows (endN (Jk8 s.rows)) rd S) (s.rows.length-i) i c=goC s.rows (valA s.rows (endN (Jk8 s.rows)) rd S) s.rows.length 0 ⟨List.replicate s.queues.length 0,0⟩) s.rows.length (by omega) ?_ ?_
 ·exact⟨by simp only[evC,seval,↓evP,rpC,t4],by simp only[evC,seval,↓evP,rpC,t5],by simp only[evC,seval,↓evP,rpC,t9],by simp only[evC,seval,↓evP,rpC],by simp only[evC,seval,↓evP,rpC],by simp only[evC,seval,↓evP,rpC],by simp only[evC,seval,↓evP,rpC],by omega,by show C.next+2≤D.next;omega,by show D.floor=_;omega,oD,⟨List.replicate s.queues.length 0,0⟩,List.length_replicate ..,gon,gco,rfl⟩
 rintro k ⟨T3,E⟩ hk ⟨t4,t5,t9,t12,t78,t79,t80,hkl,k1,k2,k3,c,hcl,gon,gco,hgo⟩
 simp only at t4 t5 t9 t12 t78 t79 t80 k1 k2 k3 gon gco
 have oE:∀ j,j<h.next→E.get j=h.get j:=fun j hj=>by rw[k3 j (by omega),oC j hj]
 have hbE:BndAt E b vr td w s.rows rd S:=hbC.mono (by omega) fun j hj=>by
  rw[k3 j hj]
 have gCE:E.get (h.next+2)=.row [.slice none 0 0,iv 0] 36 false false:=by rw[k3 _ (by omega)];exact gC2
 have gDE:E.get (h.next+3)=.row [iv 0,iv 0] 39 false false:=by rw[k3 _ (by omega)];exact gD2
 by_cases hlk:k<s.rows.length
 ·have c3:decide ((k:Int)<(s.rows.length:Int))=true:=by simp;omega
  obtain⟨x,hx⟩:∃ x,s.rows[k]?=some x:=⟨_,List.getElem?_eq_getElem hlk⟩
  obtain⟨idr,pr,b0,bid,l0,l1,l2,l3,l4,lr⟩:=hbE.rows.row hx
  have hzx:(Value.agg #[iv 0,.string ByteArray.empty,iv 0,iv 0,iv 0]).cells.toList=J0e zRow:=rfl
  have hst:J0K Tryz.prog (E.push (.row (J0e zRow) 51 false false)) 51 (.pointer (some ⟨E.next,0,none⟩)) (rowV x)=some ((E.push (.row (J0e zRow) 51 false false)).put E.next (.row (J0e x) 51 false false)):=JaU (i:=0) (off:=0) (L:=[zRow]) rfl J0h (by decide) (by rw[J0i];omega)
  have gX:((E.push (.row (J0e zRow) 51 false false)).put E.next (.row (J0e x) 51 false false)).get E.next=.row (J0e x) 51 false false:=J0b rfl (by rw[J1D];omega)
  have oX:∀ i,i<E.next→((E.push (.row (J0e zRow) 51 false false)).put E.next (.row (J0e x) 51 false false)).get i=E.get i:=fun i hi=>by rw[J05 (by rw[J1D];omega) (by omega),J06 hi]
  have nX:((E.push (.row (J0e zRow) 51 false false)).put E.next (.row (J0e x) 51 false false)).next=E.next+1:=rfl
  have fX:((E.push (.row (J0e zRow) 51 false false)).put E.next (.row (J0e x) 51 false false)).floor=E.floor:=rfl
  have hlx0:ld1 0 (((E.push (.row (J0e zRow) 51 false false)).put E.next (.row (J0e x) 51 false false)).get E.next)=some (iv x.kind):=by rw[gX];rfl
  have w1:IntKind.i64.wrap ((k:Int)+1)=((k+1:Nat):Int):=J0s (by omega) (by omega)
  have hr1:s.rows.length-k=(s.rows.length-(k+1))+1:=by omega
  rw[hr1,Jr7 hx] at hgo
  have keepC:∀ G:SHeap,(∀ i,i<E.next→G.get i=E.get i)→(∀ j,j<C.next→G.get j=C.get j)∧G.get C.next=.row (ints c.on) 3 false false∧G.get (C.next+1)=.row [.slice (some ⟨C.next,0,none⟩) s.queues.length s.queues.length,iv c.miss] 36 false false:=fun G hG=>
   ⟨fun j hj=>(hG j (by omega)).trans (k3 j hj),(hG _ (by omega)).trans gon,(hG _ (by omega)).trans gco⟩
  have notEv:J0E x.kind=false→k<s.rows.length∧k+1≤s.rows.length∧C.next+2≤((E.push (.row (J0e zRow) 51 false false)).put E.next (.row (J0e x) 51 false false)).next∧((E.push (.row (J0e zRow) 51 false false)).put E.next (.row (J0e x) 51 false false)).floor=h.floor∧(∀ j,j<C.next→((E.push (.row (J0e zRow) 51 false false)).put E.next (.row (J0e x) 51 false false)).get j=C.get j) ∧
    ∃ c:CostN,c.on.length=s.queues.length∧((E.push (.row (J0e zRow) 51 false false)).put E.next (.row (J0e x) 51 false false)).get C.next=.row (ints c.on) 3 false false∧((E.push (.row (J0e zRow) 51 false false)).put E.next (.row (J0e x) 51 false false)).get (C.next+1)=.row [.slice (some ⟨C.next,0,none⟩) s.queues.length s.queues.length,iv c.miss] 36 false false∧goC s.rows (valA s.rows (endN (Jk8 s.rows)) rd S) (s.rows.length-(k+1)) (k+1) c=goC s.rows (valA s.rows (endN (Jk8 s.rows)) rd S) s.rows.length 0 ⟨List.replicate s.queues.length 0,0⟩:=fun hne=>by
   obtain⟨q1,q2,q3⟩:=keepC _ oX
   rw[if_pos hne] at hgo
   exact⟨hlk,by omega,by omega,by omega,q1,c,hcl,q2,q3,hgo⟩
  cases d8:decide (x.kind<8) with
  | true=>
   have hne:J0E x.kind=false:=by
    have:=of_decide_eq_true d8
    unfold J0E
    rw[decide_eq_false (by omega)]
    rfl
   simp only[evC,seval,↓evP,t4,t5,t9,t12,t78,t79,t80,c3,b0,J0u,lr,J40,hzx,J2t,J51,Jig,Bool.and_self,hst,J0t,J0m,hlx0,d8,w1]
   exact notEv hne
  | false=>
  cases d10:decide (x.kind>10) with
  | true=>
   have hne:J0E x.kind=false:=by
    have:=of_decide_eq_true d10
    unfold J0E
    rw[decide_eq_false (show ¬ x.kind≤10 by omega),Bool.and_false]
   simp only[evC,seval,↓evP,t4,t5,t9,t12,t78,t79,t80,c3,b0,J0u,lr,J40,hzx,J2t,J51,Jig,Bool.and_self,hst,J0t,J0m,hlx0,d8,d10,w1]
   exact notEv hne
  | false=>
  have hev:J0E x.kind=true:=by
   have:=of_decide_eq_false d8
   have:=of_decide_eq_false d10
   unfold J0E
   rw[decide_eq_true (show x.kind≥8 by omega),decide_eq_true (show x.kind≤10 by omega)]
   rfl
  rw[if_neg (by rw[hev];decide)] at hgo
  obtain⟨v1,v2⟩:=hgood.evs k x hx hev
  have hsub:=hgood.t.end v1
  have hsl:=hsub.lt
  have w2:IntKind.i64.wrap ((k:Int)+1)=((k+1:Nat):Int):=w1
  have hlx3:ld1 3 (((E.push (.row (J0e zRow) 51 false false)).put E.next (.row (J0e x) 51 false false)).get E.next)=some (iv x.n):=by rw[gX];rfl
  have vle:=JqJ (R:=s.rows) (e:=endN (Jk8 s.rows)) (at_:=k+1) hRd hSi
  simp only[evC,seval,↓evP,t9,t78,t79,t80,c3,b0,J0u,lr,J40,hzx,J2t,J51,Jig,Bool.and_self,hst,J0t,J0m,hlx0,d8,d10,w1]
  generalize (E.push (.row (J0e zRow) 51 false false)).put E.next (.row (J0e x) 51 false false)=X at *
  obtain⟨kk1,kk2,kk3⟩:=keepC X oX
  have hbd:=Jrs hgood.t hgood.sk hgood.kk hRd hlen hSi (by omega) s.rows.length n (k+1) _ X hsub (by omega) (hcalls _ _) (by omega) (hbE.mono (by omega) oX) (by omega)
  cases dm:decide (valA s.rows (endN (Jk8 s.rows)) rd S (k+1)>72057594037927936) with
  | true=>
   rw[if_pos (of_decide_eq_true dm)] at hgo
   rw[← hgo] at hbn
   obtain⟨⟨H2,H3⟩,s1,s2,q1,q2,q3,q4,q5⟩:=st2 X (.slice none 0 0) 0 61 k rfl (by rw[oX _ (by omega)];exact gCE) (by rw[oX _ (by omega)];exact gDE) (by omega) (by omega)
   simp only at s1 s2 q1 q2 q3 q4 q5
   simp only[evC,seval,↓evP,t4,t5,hbd,dm,Jq7,J4G,s1,s2]
   exact fin _ _ _ _ _ _ (by simp only[evC,seval,↓evP,rpC,t4]) (by simp only[evC,seval,↓evP,rpC,t5]) q1 q2 (by rw[hbn];exact Jq1 _ _) (by rw[hbn]) (by omega) (by omega) fun i hi=>by rw[q5 i (by omega) (by omega),oX i (by omega),oE i hi]
  | false=>
  rw[if_neg (of_decide_eq_false dm)] at hgo
  have ET:(E.next<X.next)=True:=by simp;omega
  cases de:(x.kind==10) with
  | true=>
   have h10:x.kind=10:=by simpa using de
   rw[if_pos h10] at hgo
   have hst2:=stc (off:=1) (t:=3) (v:=iv (valA s.rows (endN (Jk8 s.rows)) rd S (k+1))) sz3 rfl rfl kk3 (by show 1<2;decide) (by omega)
   have hst3:J0K Tryz.prog X 3 (.pointer (some ⟨C.next+1,1,none⟩)) (iv (valA s.rows (endN (Jk8 s.rows)) rd S (k+1)))=some (X.put (C.next+1) (.row [.slice (some ⟨C.next,0,none⟩) s.queues.length s.queues.length,iv (valA s.rows (endN (Jk8 s.rows)) rd S (k+1))] 36 false false)):=hst2
   simp only[evC,seval,↓evP,t4,t5,t9,t12,t78,t79,t80,hbd,dm,J0t,J0m,hlx0,de,Nat.zero_add,Jqp,hst3,w1]
   refine⟨hlk,by omega,by show C.next+2≤X.next;omega,by show X.floor=_;omega,fun j hj=>by rw[J05 (by omega) (by omega)];exact kk1 j hj,⟨c.on,valA s.rows (endN (Jk8 s.rows)) rd S (k+1)⟩,hcl,by rw[J05 (by omega) (by omega)];exact kk2,J0b rfl (by omega),hgo⟩
  | false=>
   have h10:x.kind≠10:=by simpa using de
   rw[if_neg h10] at hgo
   obtain⟨v3,v4⟩:=v2 h10
   obtain⟨kn,hkn⟩:∃ kn:Nat,x.n=(kn:Int):=⟨x.n.toNat,by omega⟩
   have hon:=hgood.on
   rw[hkn] at hlx3 v4
   rw[hkn,Int.toNat_natCast] at hgo
   have lon:ld1 0 (X.get (C.next+1))=some (.slice (some ⟨C.next,0,none⟩) s.queues.length s.queues.length):=by rw[kk3];rfl
   have ix:=J1F (id:=C.next) (n:=s.queues.length) (c:=s.queues.length) (i:=kn) (by omega)
   have hst3:=J59 (x:=valA s.rows (endN (Jk8 s.rows)) rd S (k+1)) kk2 (show kn<c.on.length by omega) (by omega)
   simp only[evC,seval,↓evP,t4,t5,t9,t12,t78,t79,t80,hbd,dm,J0t,J0m,hlx0,de,Nat.zero_add,Jqs,J0n,lon,J0O,hlx3,ix,hst3,w1]
   refine⟨hlk,by omega,by show C.next+2≤X.next;omega,by show X.floor=_;omega,fun j hj=>by rw[J05 (by omega) (by omega)];exact kk1 j hj,⟨c.on.set kn (valA s.rows (endN (Jk8 s.rows)) rd S (k+1)),c.miss⟩,by rw[List.length_set];exact hcl,J0b rfl (by omega),by rw[J05 (by omega) (by omega)];exact kk3,hgo⟩
 ·have c3:decide ((k:Int)<(s.rows.length:Int))=false:=by simp;omega
  rw[show s.rows.length-k=0 by omega] at hgo
  have hgo':goC s.rows (valA s.rows (endN (Jk8 s.rows)) rd S) s.rows.length 0 ⟨List.replicate s.queues.length 0,0⟩=((0,0),c):=hgo.symm
  rw[hgo'] at hbn
  have lco:ldN 2 0 (E.get (C.next+1))=some (cV (.slice (some ⟨C.next,0,none⟩) s.queues.length s.queues.length) c.miss):=by rw[gco];rfl
  obtain⟨⟨H2,H3⟩,s1,s2,q1,q2,q3,q4,q5⟩:=st2 E (.slice (some ⟨C.next,0,none⟩) s.queues.length s.queues.length) c.miss 0 0 rfl gCE gDE k2 (by omega)
  simp only at s1 s2 q1 q2 q3 q4 q5
  simp only[evC,seval,↓evP,t4,t5,t12,t79,t80,c3,JqN,lco,J5n,s1,s2]
  exact fin _ _ _ _ _ _ (by simp only[evC,seval,↓evP,rpC,t4]) (by simp only[evC,seval,↓evP,rpC,t5]) q1 q2 (by rw[hbn];exact⟨_,rfl,.inr ⟨C.next,by rw[hcl],by omega,by omega,(q5 _ (by omega) (by omega)).trans gon⟩⟩) (by rw[hbn]) (by omega) (by omega) fun i hi=>by rw[q5 i (by omega) (by omega),oE i hi]
theorem JqB {h h1:SHeap} {nm:ByteArray} {s:StN} {rd:List Int} {v:Value} (hf:J3m v=true) (ht:Jqy h nm s rd v h1):Jqy h nm s rd v h:=by
 obtain⟨cv,rfl,⟨vo,rfl,h2⟩,_⟩:=ht
 refine⟨_,rfl,⟨vo,rfl,?_⟩,rfl,Nat.le_refl _,fun _ _=>rfl⟩
 rcases h2 with h2 | ⟨id,rfl,_⟩
 ·exact .inl h2
 ·simp[J3m,flat,J1i] at hf
theorem JsG {nm:ByteArray} {s:StN} {W:List (Int × Int × Int)} {G rd:List Int} {pv tv:Value} {lo lt:Nat} {h:SHeap} (hp:J3x lo h pv nm s) (hlies:∀ nm' vr vq vv vt vu vo m,pv=.agg #[.string nm',vr,vq,vv,vt,vu,vo,m]→Lies vr s.rows.length) (hty:Jqg lt h tv W G rd) (hs:JdC s) (hl:s.rows.length<90000000) (hrl:rd.length<90000000)
  (hfl:h.floor≤h.next) (hg:h.get 0=J14) (hn0:0<h.next) (hn:2*Jbg s+rd.length+400<n):∃ v' h',J0T n 9 [pv,tv] h=some (v',h')∧Jqy h nm s rd v' h':=by
 obtain⟨n,rfl⟩:∃ j,n=j+1:=⟨n-1,by omega⟩
 exact k_ex (J13 ⟨rfl,rfl,rfl⟩) (Jrh (n:=n) (N:=n) hp hlies hty hs hl hrl hfl hg hn0 (by omega) (by omega)) fun v' h1 hf _ ht=>JqB hf ht
end
noncomputable def Jsg:Array Oper:=J18 Tryz.f10 16
def Jt4:List (Bool × Bool × List Operand):=[(false,true,[]),(false,true,[.tmp 2]),(false,true,[.tmp 2]),(false,true,[.tmp 2,.tmp 70]),(false,true,[.tmp 2,.tmp 70]),(false,true,[.tmp 2,.tmp 70]),(false,true,[.tmp 2,.tmp 70]),(false,true,[.tmp 2,.tmp 70,.tmp 74]),(false,true,[.tmp 2,.tmp 70]),(false,true,[.tmp 2,.tmp 70]),(false,false,[]),(false,false,[])]
theorem JrX:J1E Jsg=Jt4:=by kernel_rfl
section
variable {n N:Nat}
set_option maxHeartbeats 32000000 in
theorem Jrl {nm:ByteArray} {s:StN} {W:List (Int × Int × Int)} {G rd:List Int} {pv tv:Value} {lo lt:Nat} {h:SHeap} (hp:J3x lo h pv nm s) (h64:∀ x∈s.rows,x.kids≤9223372036854775807) (hty:Jqg lt h tv W G rd) (hs:JdC s) (hl:s.rows.length<9000000) (hrl:rd.length<90000000)
  (hfl:h.floor≤h.next) (hn:2*Jbg s+100400<n) (hN:Jbg s+rd.length+200<N) :
  ∃ v' h',J0L Tryz.prog (J0T n) N 10 [pv,tv] h=some (v',h')∧Jqy h nm s rd v' h':=by
 have hsn:=(J1z n).2
 refine J65 (R:=Jqy h nm s rd) Tryz.func10 rfl (by simp[Tryz.f10]) ?_
 have hr:Tryz.f10.results.toList=[.cell 4 36,.cell 5 39]:=rfl
 obtain⟨vr,vq,vv,vt,vu,vo,rfl,p1,p2,p3,p4,p5,p6⟩:=id hp
 obtain⟨tw,tg,td,rfl,y1,y2,y3⟩:=id hty
 have ca:(Value.agg #[.string nm,vr,vq,vv,vt,vu,vo,iv s.miss]).cells.toList=[.string nm,vr,vq,vv,vt,vu,vo,iv s.miss]:=rfl
 have oa:=all8 (nm:=nm) p1 p2 p3 p4 p5 p6
 have cy:(Value.agg #[tw,tg,td]).cells.toList=[tw,tg,td]:=rfl
 have oy:[tw,tg,td].all one=true:=by simp only[List.all_cons,List.all_nil,y1.one,J0p.one y2,J0p.one y3,Bool.and_self]
 have zcC:(cV (.slice none 0 0) 0).cells.toList=[.slice none 0 0,iv 0]:=rfl
 have zc33:(J2k 0 0).cells.toList=[iv 0,iv 0]:=rfl
 generalize hKK:Kont.top (fun e s_1=>(e=SExit.normal∨e=SExit.ret)∧∃ vs,resS Tryz.prog s_1 Tryz.f10.results.toList=some vs∧Jqy h nm s rd (resV vs) s_1.h)=K
 have fin:∀ (T':Tr) (H':SHeap) vo' m e p,T'.get 4=.pointer (some ⟨h.next+2,0,none⟩)→T'.get 5=.pointer (some ⟨h.next+3,0,none⟩)→H'.get (h.next+2)=.row [vo',iv m] 36 false false→H'.get (h.next+3)=.row [iv e,iv p] 39 false false→Jq4 h.next H' (cV vo' m) (JpV nm s rd).2→(JpV nm s rd).1=(e,p)→h.next≤H'.next→H'.floor=h.floor→(∀ i,i<h.next→H'.get i=h.get i)→K.ap Tryz.prog (J0T n) N .ret ⟨T',H'⟩:=by
  intro T' H' vo' m e p t4 t5 g4 g5 hc he hnx hf hold
  have l4:ldN 2 0 (H'.get (h.next+2))=some (cV vo' m):=by rw[g4];rfl
  have l5:ldN 2 0 (H'.get (h.next+3))=some (J2k e p):=by rw[g5];rfl
  rw[← hKK]
  simp only[evC,seval,↓evP,hr,t4,t5,JqN,J2n,l4,l5]
  exact⟨_,by rw[he],hc,hf,hnx,hold⟩
 have g0:∀ (a b c d:SObj),let A:=(((h.push a).push b).push c).push d
   A.get h.next=a∧A.get (h.next+1)=b∧A.get (h.next+2)=c∧A.get (h.next+3)=d∧A.next=h.next+4∧A.floor=h.floor∧∀ i,i<h.next→A.get i=h.get i:=fun a b c d=>by
  have q1:(h.push a).next=h.next+1:=rfl
  have q2:((h.push a).push b).next=h.next+2:=rfl
  have q3:(((h.push a).push b).push c).next=h.next+3:=rfl
  refine⟨?_,?_,?_,?_,rfl,rfl,fun i hi=>?_⟩
  ·rw[J06 (by omega),J06 (by omega),J06 (by omega),J0h]
  ·rw[J06 (by omega),J06 (by omega)]
   exact J0h (h:=h.push a)
  ·rw[J06 (by omega)]
   exact J0h (h:=(h.push a).push b)
  ·exact J0h (h:=((h.push a).push b).push c)
  ·rw[J06 (by omega),J06 (by omega),J06 (by omega),J06 hi]
 obtain⟨gA,gB,gC,gD,nA,fA,oA⟩:=g0 (.row [.string nm,vr,vq,vv,vt,vu,vo,iv s.miss] 27 false false) (.row [tw,tg,td] 30 false false) (.row [.slice none 0 0,iv 0] 36 false false) (.row [iv 0,iv 0] 39 false false)
 simp only[evC,seval,↓evP,rpD,J0X,J2t,ca,oa,cy,oy,sz30,szY,JqY,JqV,zcC,J3C,J1t,zc33]
 generalize (((h.push (.row [.string nm,vr,vq,vv,vt,vu,vo,iv s.miss] 27 false false)).push (.row [tw,tg,td] 30 false false)).push (.row [.slice none 0 0,iv 0] 36 false false)).push (.row [iv 0,iv 0] 39 false false)=A at *
 have lP:ldN 8 0 (A.get h.next)=some (.agg #[.string nm,vr,vq,vv,vt,vu,vo,iv s.miss]):=J9E gA rfl
 have lY:ldN 3 0 (A.get (h.next+1))=some (.agg #[tw,tg,td]):=by rw[gB];rfl
 have lY2:ld1 2 (A.get (h.next+1))=some td:=by rw[gB];rfl
 have lP1:ld1 1 (A.get h.next)=some vr:=by rw[gA];rfl
 have hpA:=hp.mono (h':=A) (by omega) fun i _ hi=>oA i hi
 have hchk:=JpH (n:=n) hpA h64 hs (by omega) (by omega) (by omega)
 have st2:∀ (H:SHeap) vo' m e p,one vo'=true→H.get (h.next+2)=.row [.slice none 0 0,iv 0] 36 false false→H.get (h.next+3)=.row [iv 0,iv 0] 39 false false→H.floor=h.floor→h.next+4≤H.next →
   ∃ H':SHeap × SHeap,J0K Tryz.prog H 36 (.pointer (some ⟨h.next+2,0,none⟩)) (cV vo' m)=some H'.1∧J0K Tryz.prog H'.1 39 (.pointer (some ⟨h.next+3,0,none⟩)) (J2k e p)=some H'.2∧H'.2.get (h.next+2)=.row [vo',iv m] 36 false false∧H'.2.get (h.next+3)=.row [iv e,iv p] 39 false false∧H'.2.next=H.next∧H'.2.floor=H.floor∧∀ i,i≠h.next+2→i≠h.next+3→H'.2.get i=H.get i:=fun H vo' m e p ho g2 g3 hf hx=>by
  have a1:=stW (t:=36) szC (vs:=[vo',iv m]) g2 rfl rfl (by simp only[List.all_cons,List.all_nil,ho,J5K,Bool.and_self]) (by omega)
  have g3':(H.put (h.next+2) (.row [vo',iv m] 36 false false)).get (h.next+3)=.row [iv 0,iv 0] 39 false false:=by rw[J05 (by omega) (by omega)];exact g3
  have a2:=stW (t:=39) sz33 (vs:=[iv e,iv p]) g3' rfl rfl rfl (by show H.floor≤_;omega)
  refine⟨⟨_,_⟩,a1,a2,?_,J0b rfl (by show h.next+3<H.next;omega),rfl,rfl,fun i h1 h2=>?_⟩
  ·show ((H.put _ _).put _ _).get _=_
   rw[J05 (by show h.next+3<H.next;omega) (by omega)]
   exact J0b rfl (by omega)
  ·show ((H.put _ _).put _ _).get _=_
   rw[J05 (by show h.next+3<H.next;omega) (Ne.symm h2),J05 (by omega) (Ne.symm h1)]
 cases dc:(JkA nm s != 0) with
 | true=>
  have hcn:JkA nm s≠0:=by simpa using dc
  have hbn:JpV nm s rd=((JkA nm s,0),zC):=by unfold JpV;rw[if_pos hcn]
  obtain⟨⟨H1,H2⟩,s1,s2,q1,q2,q3,q4,q5⟩:=st2 A (.slice none 0 0) 0 (JkA nm s) 0 rfl gC gD fA (by omega)
  simp only at s1 s2 q1 q2 q3 q4 q5
  simp only[evC,seval,↓evP,J1b,lP,hchk,dc,Jq7,J96,s1,s2]
  exact fin _ _ _ _ _ _ (by simp only[evC,seval,↓evP,rpC]) (by simp only[evC,seval,↓evP,rpC]) q1 q2 (by rw[hbn];exact Jq1 _ _) (by rw[hbn]) (by omega) (by omega) fun i hi=>(q5 i (by omega) (by omega)).trans (oA i hi)
 | false=>
 have hck:JkA nm s=0:=by simpa using dc
 have lenR:=fun h'=>JfA p1.2 h'
 have lenD:=fun h'=>JfF y3 h'
 have noB:¬ (rd.length=s.rows.length∧Jq9 rd)→JpV nm s rd=((43,0),zC):=fun h9=>by unfold JpV;rw[if_neg (by rw[hck];decide),if_pos h9]
 simp only[evC,seval,↓evP,Nat.zero_add,J1b,lP,hchk,dc,JpX,J0n,lY2,lenD,J0y,J0F,lP1,lenR]
 refine WK.loop (fun i s'=>s'.h=A∧s'.T.get 2=.pointer (some ⟨h.next,0,none⟩)∧s'.T.get 3=.pointer (some ⟨h.next+1,0,none⟩)∧s'.T.get 4=.pointer (some ⟨h.next+2,0,none⟩)∧s'.T.get 5=.pointer (some ⟨h.next+3,0,none⟩)∧s'.T.get 8=iv i∧i≤rd.length∧∃ b:Bool,s'.T.get 7=.bool b∧(b=true→¬ (rd.length=s.rows.length∧Jq9 rd))∧(b=false→rd.length=s.rows.length∧∀ x∈rd.take i,0≤x∧x≤4194304)) rd.length (by omega) ?_ ?_
 ·refine⟨rfl,by simp only[evC,seval,↓evP,rpC],by simp only[evC,seval,↓evP,rpC],by simp only[evC,seval,↓evP,rpC],by simp only[evC,seval,↓evP,rpC],by simp only[evC,seval,↓evP,rpC],by omega,((rd.length:Int) != (s.rows.length:Int)),by simp only[evC,seval,↓evP,rpC],fun h9 h8=>?_,fun h9=>⟨?_,fun x hx=>by simp at hx⟩⟩
  ·rw[h8.1] at h9
   simp at h9
  ·have h8:(rd.length:Int)=(s.rows.length:Int):=by simpa using h9
   omega
 rintro i ⟨T1,H1⟩ hi ⟨hH1,t2,t3,t4,t5,t8,hil,b,t7,hb1,hb2⟩
 simp only at t2 t3 t4 t5 t7 t8 hH1
 subst hH1
 have y3A:J1S lt H1 td rd:=J1S.mono y3 (by omega) fun i _ hi=>oA i hi
 cases b with
 | true=>
  have hbn:=noB (hb1 rfl)
  obtain⟨⟨H2,H3⟩,s1,s2,q1,q2,q3,q4,q5⟩:=st2 H1 (.slice none 0 0) 0 43 0 rfl gC gD fA (by omega)
  simp only at s1 s2 q1 q2 q3 q4 q5
  cases c1:decide ((i:Int)<(rd.length:Int)) with
  | true=>
   simp only[evC,seval,↓evP,Nat.zero_add,t3,t4,t5,t7,t8,JpX,J0n,lY2,lenD,c1,Jq7,J96,s1,s2]
   exact fin _ _ _ _ _ _ (by simp only[evC,seval,↓evP,rpC,t4]) (by simp only[evC,seval,↓evP,rpC,t5]) q1 q2 (by rw[hbn];exact Jq1 _ _) (by rw[hbn]) (by omega) (by omega) fun i hi=>(q5 i (by omega) (by omega)).trans (oA i hi)
  | false=>
   simp only[evC,seval,↓evP,Nat.zero_add,t3,t4,t5,t7,t8,JpX,J0n,lY2,lenD,c1,Jq7,J96,s1,s2]
   exact fin _ _ _ _ _ _ (by simp only[evC,seval,↓evP,rpC,t4]) (by simp only[evC,seval,↓evP,rpC,t5]) q1 q2 (by rw[hbn];exact Jq1 _ _) (by rw[hbn]) (by omega) (by omega) fun i hi=>(q5 i (by omega) (by omega)).trans (oA i hi)
 | false=>
 obtain⟨hlen,hrs⟩:=hb2 rfl
 by_cases hlt:i<rd.length
 ·have c1:decide ((i:Int)<(rd.length:Int))=true:=by simp;omega
  obtain⟨x,hx⟩:∃ x,rd[i]?=some x:=⟨_,List.getElem?_eq_getElem hlt⟩
  obtain⟨id,p,a1,a2,a3⟩:=J1S.get y3A hx
  have w1:IntKind.i64.wrap ((i:Int)+1)=((i+1:Nat):Int):=J0s (by omega) (by omega)
  cases d1:decide (x<0) with
  | true=>
   have:=of_decide_eq_true d1
   simp only[evC,seval,↓evP,Nat.zero_add,t2,t3,t4,t5,t7,t8,JpX,J0n,lY2,lenD,c1,a1,J0m,a3,d1,w1]
   exact⟨hlt,hlt,true,rfl,fun _ h9=>by have:=h9.2 x (List.mem_of_getElem? hx);omega,fun h9=>by cases h9⟩
  | false=>
  cases d2:decide (x>4194304) with
  | true=>
   have:=of_decide_eq_true d2
   simp only[evC,seval,↓evP,Nat.zero_add,t2,t3,t4,t5,t7,t8,JpX,J0n,lY2,lenD,c1,a1,J0m,a3,d1,d2,w1]
   exact⟨hlt,hlt,true,rfl,fun _ h9=>by have:=h9.2 x (List.mem_of_getElem? hx);omega,fun h9=>by cases h9⟩
  | false=>
   simp only[evC,seval,↓evP,Nat.zero_add,t2,t3,t4,t5,t7,t8,JpX,J0n,lY2,lenD,c1,a1,J0m,a3,d1,d2,w1]
   refine⟨hlt,hlt,false,rfl,fun h9=>(by cases h9),fun _=>⟨hlen,fun z hz=>?_⟩⟩
   rw[List.take_add_one,hx] at hz
   simp only[Option.toList_some,List.mem_append,List.mem_cons,List.not_mem_nil,or_false] at hz
   rcases hz with hz | rfl
   ·exact hrs z hz
   ·have:=of_decide_eq_false d1
    have:=of_decide_eq_false d2
    omega
 have c1:decide ((i:Int)<(rd.length:Int))=false:=by simp;omega
 have hRd:Jq9 rd:=by rw[List.take_of_length_le (by omega)] at hrs;exact hrs
 have hgood:=JrJ hck (by omega)
 have hbn:JpV nm s rd=goC s.rows (valA s.rows (endN (Jk8 s.rows)) rd (JpZ s.rows (endN (Jk8 s.rows)) rd s.rules [])) s.rows.length 0 ⟨List.replicate s.queues.length 0,0⟩:=by
  unfold JpV
  rw[if_neg (by rw[hck];decide),if_neg fun h9=>h9 ⟨hlen,hRd⟩]
 clear hchk hil hi
 unfold Jbg at hn hN
 have hsmall:=hs
 unfold JdC at hsmall
 have hRl:(Jk8 s.rows).length=s.rows.length:=by unfold Jk8;rw[List.length_map]
 have p1A:J0l H1 vr s.rows:=p1.1.mono (by omega) oA
 obtain⟨E1,he1,ge1,ne1,fe1,oe1⟩:=Jn8 (n:=n) hgood.t hgood.sk p1A (by omega) (by omega) (by omega)
 have lP5:ld1 5 (E1.get h.next)=some vu:=by rw[oe1 _ (by omega),gA];rfl
 have lenU:=fun h'=>JfF p5 h'
 simp only[evC,seval,↓evP,Nat.zero_add,t2,t3,t7,t8,JpX,J0n,lY2,lenD,c1,J0y,J0F,lP1,he1]
 generalize hb:H1.next=b at *
 refine WK.loop (fun i s'=>s'.T.get 2=.pointer (some ⟨h.next,0,none⟩)∧s'.T.get 3=.pointer (some ⟨h.next+1,0,none⟩)∧s'.T.get 4=.pointer (some ⟨h.next+2,0,none⟩)∧s'.T.get 5=.pointer (some ⟨h.next+3,0,none⟩)∧s'.T.get 9=.slice (some ⟨b,0,none⟩) (Jk8 s.rows).length (Jk8 s.rows).length∧s'.T.get 11=iv i∧i≤s.rules.length∧b+1≤s'.h.next∧s'.h.floor=h.floor∧(∀ j,j<b+1→s'.h.get j=E1.get j) ∧
  ∃ w,s'.T.get 10=w∧IntL s'.h (b+1) w (JpZ s.rows (endN (Jk8 s.rows)) rd (s.rules.take i) [])) s.rules.length (by omega) ?_ ?_
 ·exact⟨by simp only[evC,seval,↓evP,rpC,t2],by simp only[evC,seval,↓evP,rpC,t3],by simp only[evC,seval,↓evP,rpC,t4],by simp only[evC,seval,↓evP,rpC,t5],by simp only[evC,seval,↓evP,rpC],by simp only[evC,seval,↓evP,rpC],by omega,by show b+1≤E1.next;omega,by show E1.floor=_;omega,fun _ _=>rfl,.slice none 0 0,by simp only[evC,seval,↓evP,rpC],.inl ⟨rfl,rfl⟩⟩
 rintro i ⟨T2,C⟩ hi ⟨t2,t3,t4,t5,t9,t11,hil,m1,m2,m3,w,t10,hL⟩
 simp only at t2 t3 t4 t5 t9 t11 m1 m2 m3 t10 hL
 have oC:∀ j,j<h.next→C.get j=h.get j:=fun j hj=>by rw[m3 j (by omega),oe1 j (by omega),oA j hj]
 have oCA:∀ j,j<h.next+4→C.get j=H1.get j:=fun j hj=>by rw[m3 j (by omega),oe1 j (by omega)]
 have hpC:=hp.mono (h':=C) (by omega) fun j _ hj=>oC j hj
 have dC:J1S 0 C td rd:=J1S.mono (J1S.weak y3 (Nat.zero_le _)) (by omega) fun j _ hj=>oC j hj
 have eC:J1S 0 C (.slice (some ⟨b,0,none⟩) (Jk8 s.rows).length (Jk8 s.rows).length) (J0o (Jk8 s.rows)):=J1S.row' (by rw[m3 b (by omega)];exact ge1) ⟨Nat.zero_le _,by omega⟩ J39.symm
 have lPC:ldN 8 0 (C.get h.next)=some (.agg #[.string nm,vr,vq,vv,vt,vu,vo,iv s.miss]):=by rw[oCA _ (by omega)];exact lP
 have lYC:ld1 2 (C.get (h.next+1))=some td:=by rw[oCA _ (by omega)];exact lY2
 have lP5C:ld1 5 (C.get h.next)=some vu:=by rw[oCA _ (by omega),gA];rfl
 have hSi:Sums (JpZ s.rows (endN (Jk8 s.rows)) rd (s.rules.take i) []):=Jqi hRd _ _ fun x hx=>by simp at hx
 by_cases hlt:i<s.rules.length
 ·have c1:decide ((i:Int)<(s.rules.length:Int))=true:=by simp;omega
  obtain⟨ru,hru⟩:∃ ru,s.rules[i]?=some ru:=⟨_,List.getElem?_eq_getElem hlt⟩
  obtain⟨r0,r1,r2⟩:=hgood.rules i ru hru
  obtain⟨r,rfl⟩:∃ r:Nat,ru=(r:Int):=⟨ru.toNat,by omega⟩
  rw[Int.toNat_natCast] at r1 r2
  have hsub:=hgood.t.end r1
  have hsl:=hsub.lt
  have hSl:(JpZ s.rows (endN (Jk8 s.rows)) rd (s.rules.take i) []).length=i:=by rw[Jqa,List.length_take];simp;omega
  obtain⟨iu,pu,a1,a2,a3⟩:=J1S.get (J1S.mono (J1S.weak p5 (Nat.zero_le _)) (by omega) fun j _ hj=>oC j hj) hru
  have hbd:=Jr8 (n:=n) hpC eC dC (IntL.ints hL (Nat.zero_le _)) hgood.t hgood.sk hgood.kk hRd hlen hSi hsub (r2 _ hSl) (by omega) (by omega) (by omega)
  obtain⟨w',D,happ,hL',fD,nD,oD⟩:=Jqv (x:=valA s.rows (endN (Jk8 s.rows)) rd (JpZ s.rows (endN (Jk8 s.rows)) rd (s.rules.take i) []) r) hL m1 (by omega) (by omega)
  have hff:C.fl C.floor=C:=rfl
  have w1:IntKind.i64.wrap ((i:Int)+1)=((i+1:Nat):Int):=J0s (by omega) (by omega)
  simp only[evC,seval,↓evP,Nat.zero_add,t2,t11,J36,J0n,lP5C,lenU,c1]
  refine WK.flags (ops:=Jsg) JrX ?_
  refine WKF.begin ?_
  refine wst hsn 0 (some 69) (.load 27 (.tmp 2)) none ?_
  simp only[rgC,seval,J04,J02,WKFC,rgL,hff,t2,lPC,J1b,Nat.zero_add]
  refine wst hsn 1 (some 70) (.fieldAddr 30 (.tmp 3) 2) none ?_
  simp only[rgC,seval,J04,J02,WKFC,Nat.zero_add,hff,t3,JpX,Nat.zero_add]
  refine wst hsn 2 (some 71) (.load 25 (.tmp 70)) none ?_
  simp only[rgC,seval,J04,J02,WKFC,rgL,hff,lYC,J0n]
  refine wst hsn 3 (some 72) (.move (.tmp 9)) none ?_
  simp only[rgC,seval,J04,J02,WKFC,hff,t9]
  refine wst hsn 4 (some 73) (.move (.tmp 10)) none ?_
  simp only[rgC,seval,J04,J02,WKFC,hff,t10]
  refine wst hsn 5 (some 74) (.fieldAddr 27 (.tmp 2) 5) none ?_
  simp only[rgC,seval,J04,J02,WKFC,Nat.zero_add,hff,t2,J36,Nat.zero_add]
  refine wst hsn 6 (some 75) (.load 25 (.tmp 74)) none ?_
  simp only[rgC,seval,J04,J02,WKFC,rgL,hff,lP5C,J0n]
  refine wst hsn 7 (some 76) (.move (.tmp 11)) none ?_
  simp only[rgC,seval,J04,J02,WKFC,hff,t11]
  refine wst hsn 8 (some 77) (.indexAddr 25 (.tmp 75) (.tmp 76)) none ?_
  simp only[rgC,seval,J04,J02,WKFC,hff,a1]
  refine wst hsn 9 (some 78) (.load 3 (.tmp 77)) none ?_
  simp only[rgC,seval,J04,J02,WKFC,rgL,hff,J0m,a3]
  refine wst hsn 10 (some 79) (.call { callee:=.value (.func 25),args:=#[.tmp 69,.tmp 71,.tmp 72,.tmp 73,.tmp 78],argTypes:=#[27,25,25,25,3] }) none ?_
  simp only[rgC,seval,J04,J02,WKFC,rgK,hff,hbd]
  refine wst hsn 11 (some 12) (.assign (.tmp 79)) none ?_
  simp only[rgC,seval,J04,J02,WKFC,hff]
  refine WKF.done (i:=12) (by kernel_rfl) ?_
  simp only[evC,seval,↓evP,t2,t3,t4,t5,t9,t10,t11,bs28,happ,w1]
  refine⟨hlt,by omega,by omega,by omega,fun j hj=>(oD j (by omega)).trans (m3 j hj),?_⟩
  rw[Jql i _ _ hru,Int.toNat_natCast]
  exact hL'
 have c2:decide ((i:Int)<(s.rules.length:Int))=false:=by simp;omega
 rw[List.take_of_length_le (show s.rules.length≤i by omega)] at hL hSi
 have hSl:(JpZ s.rows (endN (Jk8 s.rows)) rd s.rules []).length=s.rules.length:=by rw[Jqa];simp
 have hcalls:=fun p q=>hgood.calls _ p q hSl
 generalize JpZ s.rows (endN (Jk8 s.rows)) rd s.rules []=S at *
 have hon:=hgood.on
 have sC:=IntL.ints hL (Nat.zero_le (b+1))
 have lP6:ld1 6 (C.get h.next)=some vo:=by rw[oCA _ (by omega),gA];rfl
 have lP1C:ld1 1 (C.get h.next)=some vr:=by rw[oCA _ (by omega)];exact lP1
 have gC2:C.get (h.next+2)=.row [.slice none 0 0,iv 0] 36 false false:=by rw[oCA _ (by omega)];exact gC
 have gD2:C.get (h.next+3)=.row [iv 0,iv 0] 39 false false:=by rw[oCA _ (by omega)];exact gD
 have lenO:∀ h',lenS Tryz.prog h' 25 vo=some (iv (s.queues.length:Int)):=fun h'=>by rw[← hon];exact JfF p6 h'
 have hmk:=J8p (h:=C) (n:=s.queues.length) (by omega)
 have g1:∀ (a:SObj) (x y:List Value),let D:=((C.push a).push (.row x 36 false false)).put (C.next+1) (.row y 36 false false)
   D.get C.next=a∧D.get (C.next+1)=.row y 36 false false∧D.next=C.next+2∧D.floor=C.floor∧∀ i,i<C.next→D.get i=C.get i:=fun a x y=>by
  have q1:(C.push a).next=C.next+1:=rfl
  have q2:((C.push a).push (.row x 36 false false)).next=C.next+2:=rfl
  refine⟨?_,J0b rfl (by omega),rfl,rfl,fun i hi=>?_⟩
  ·rw[J05 (by omega) (by omega),J06 (by omega),J0h]
  ·rw[J05 (by omega) (by omega),J06 (by omega),J06 hi]
 obtain⟨gon,gco,nD,fD,oD⟩:=g1 (.row (ints (List.replicate s.queues.length 0)) 3 false false) [.slice none 0 0,iv 0] [.slice (some ⟨C.next,0,none⟩) s.queues.length s.queues.length,iv 0]
 have hstc:=stW (t:=36) szC (h:=(C.push (.row (ints (List.replicate s.queues.length 0)) 3 false false)).push (.row [.slice none 0 0,iv 0] 36 false false)) (id:=C.next+1) (vs:=[.slice (some ⟨C.next,0,none⟩) s.queues.length s.queues.length,iv 0]) (cs:=[.slice none 0 0,iv 0]) (ty:=36) (g:=false) (by exact J0h (h:=C.push _)) rfl rfl rfl (by show C.floor≤_;omega)
 have hstc':J0K Tryz.prog ((C.push (.row (ints (List.replicate s.queues.length 0)) 3 false false)).push (.row [.slice none 0 0,iv 0] 36 false false)) 36 (.pointer (some ⟨C.next+1,0,none⟩)) (cV (.slice (some ⟨C.next,0,none⟩) s.queues.length s.queues.length) 0)=_:=hstc
 simp only[evC,seval,↓evP,Nat.zero_add,t2,t11,J36,J0n,lP5C,lenU,c2,J1T,lP6,lenO,hmk,Jsn,JqY,JqV,zcC,J1D,hstc']
 generalize ((C.push (.row (ints (List.replicate s.queues.length 0)) 3 false false)).push (.row [.slice none 0 0,iv 0] 36 false false)).put (C.next+1) (.row [.slice (some ⟨C.next,0,none⟩) s.queues.length s.queues.length,iv 0] 36 false false)=D at *
 refine WK.loop (fun i s'=>s'.T.get 2=.pointer (some ⟨h.next,0,none⟩)∧s'.T.get 3=.pointer (some ⟨h.next+1,0,none⟩)∧s'.T.get 4=.pointer (some ⟨h.next+2,0,none⟩)∧s'.T.get 5=.pointer (some ⟨h.next+3,0,none⟩)∧s'.T.get 9=.slice (some ⟨b,0,none⟩) (Jk8 s.rows).length (Jk8 s.rows).length∧s'.T.get 10=w∧s'.T.get 13=.pointer (some ⟨C.next+1,0,none⟩)∧s'.T.get 14=iv i∧i≤s.rows.length∧C.next+2≤s'.h.next∧s'.h.floor=h.floor∧(∀ j,j<C.next→s'.h.get j=C.get j) ∧
  ∃ c:CostN,c.on.length=s.queues.length∧s'.h.get C.next=.row (ints c.on) 3 false false∧s'.h.get (C.next+1)=.row [.slice (some ⟨C.next,0,none⟩) s.queues.length s.queues.length,iv c.miss] 36 false false∧goC s.rows (valA s.rows (endN (Jk8 s.rows)) rd S) (s.rows.length-i) i c=goC s.rows (valA s.rows (endN (Jk8 s.rows)) rd S) s.rows.length 0 ⟨List.replicate s.queues.length 0,0⟩) s.rows.length (by omega) ?_ ?_
 ·exact⟨by simp only[evC,seval,↓evP,rpC,t2],by simp only[evC,seval,↓evP,rpC,t3],by simp only[evC,seval,↓evP,rpC,t4],by simp only[evC,seval,↓evP,rpC,t5],by simp only[evC,seval,↓evP,rpC,t9],by simp only[evC,seval,↓evP,rpC,t10],by simp only[evC,seval,↓evP,rpC],by simp only[evC,seval,↓evP,rpC],by omega,by show C.next+2≤D.next;omega,by show D.floor=_;omega,oD,⟨List.replicate s.queues.length 0,0⟩,List.length_replicate ..,gon,gco,rfl⟩
 rintro k ⟨T3,E⟩ hk ⟨t2,t3,t4,t5,t9,t10,t13,t14,hkl,k1,k2,k3,c,hcl,gon,gco,hgo⟩
 simp only at t2 t3 t4 t5 t9 t10 t13 t14 k1 k2 k3 gon gco
 have oE:∀ j,j<h.next→E.get j=h.get j:=fun j hj=>by rw[k3 j (by omega),oC j hj]
 have gCE:E.get (h.next+2)=.row [.slice none 0 0,iv 0] 36 false false:=by rw[k3 _ (by omega)];exact gC2
 have gDE:E.get (h.next+3)=.row [iv 0,iv 0] 39 false false:=by rw[k3 _ (by omega)];exact gD2
 have lP1E:ld1 1 (E.get h.next)=some vr:=by rw[k3 _ (by omega)];exact lP1C
 have lPE:ldN 8 0 (E.get h.next)=some (.agg #[.string nm,vr,vq,vv,vt,vu,vo,iv s.miss]):=by rw[k3 _ (by omega)];exact lPC
 have lYE:ld1 2 (E.get (h.next+1))=some td:=by rw[k3 _ (by omega)];exact lYC
 by_cases hlk:k<s.rows.length
 ·have c3:decide ((k:Int)<(s.rows.length:Int))=true:=by simp;omega
  obtain⟨x,hx⟩:∃ x,s.rows[k]?=some x:=⟨_,List.getElem?_eq_getElem hlk⟩
  have rE:J0l E vr s.rows:=p1.1.mono (by omega) oE
  obtain⟨idr,pr,b0,bid,l0,l1,l2,l3,l4,lr⟩:=rE.row hx
  have hzx:(Value.agg #[iv 0,.string ByteArray.empty,iv 0,iv 0,iv 0]).cells.toList=J0e zRow:=rfl
  have hst:J0K Tryz.prog (E.push (.row (J0e zRow) 51 false false)) 51 (.pointer (some ⟨E.next,0,none⟩)) (rowV x)=some ((E.push (.row (J0e zRow) 51 false false)).put E.next (.row (J0e x) 51 false false)):=JaU (i:=0) (off:=0) (L:=[zRow]) rfl J0h (by decide) (by rw[J0i];omega)
  have gX:((E.push (.row (J0e zRow) 51 false false)).put E.next (.row (J0e x) 51 false false)).get E.next=.row (J0e x) 51 false false:=J0b rfl (by rw[J1D];omega)
  have oX:∀ i,i<E.next→((E.push (.row (J0e zRow) 51 false false)).put E.next (.row (J0e x) 51 false false)).get i=E.get i:=fun i hi=>by rw[J05 (by rw[J1D];omega) (by omega),J06 hi]
  have nX:((E.push (.row (J0e zRow) 51 false false)).put E.next (.row (J0e x) 51 false false)).next=E.next+1:=rfl
  have fX:((E.push (.row (J0e zRow) 51 false false)).put E.next (.row (J0e x) 51 false false)).floor=E.floor:=rfl
  have hlx0:ld1 0 (((E.push (.row (J0e zRow) 51 false false)).put E.next (.row (J0e x) 51 false false)).get E.next)=some (iv x.kind):=by rw[gX];rfl
  have w1:IntKind.i64.wrap ((k:Int)+1)=((k+1:Nat):Int):=J0s (by omega) (by omega)
  have hr1:s.rows.length-k=(s.rows.length-(k+1))+1:=by omega
  rw[hr1,Jr7 hx] at hgo
  have keepC:∀ G:SHeap,(∀ i,i<E.next→G.get i=E.get i)→(∀ j,j<C.next→G.get j=C.get j)∧G.get C.next=.row (ints c.on) 3 false false∧G.get (C.next+1)=.row [.slice (some ⟨C.next,0,none⟩) s.queues.length s.queues.length,iv c.miss] 36 false false:=fun G hG=>
   ⟨fun j hj=>(hG j (by omega)).trans (k3 j hj),(hG _ (by omega)).trans gon,(hG _ (by omega)).trans gco⟩
  have hev0:=fun H=>J2Z (n:=n) (J1M (k:=12) (Jgw x.kind H (hgood.kindsG k x hx)))
  simp only[evC,seval,↓evP,Nat.zero_add,t2,t3,t4,t5,t9,t10,t13,t14,J0y,J0F,lP1E,lenR,c3,b0,J0u,lr,J40,hzx,J2t,J51,Jig,Bool.and_self,hst,J0t,J0m,hlx0,hev0]
  generalize (E.push (.row (J0e zRow) 51 false false)).put E.next (.row (J0e x) 51 false false)=X at *
  obtain⟨kk1,kk2,kk3⟩:=keepC X oX
  cases dev:J0E x.kind with
  | false=>
   rw[if_pos dev] at hgo
   simp only[evC,seval,↓evP,w1]
   exact⟨hlk,by omega,by omega,by omega,kk1,c,hcl,kk2,kk3,hgo⟩
  | true=>
  rw[if_neg (by rw[dev];decide)] at hgo
  obtain⟨v1,v2⟩:=hgood.evs k x hx dev
  have hsub:=hgood.t.end v1
  have hsl:=hsub.lt
  have hlx3:ld1 3 (X.get E.next)=some (iv x.n):=by rw[gX];rfl
  have oXC:∀ j,j<C.next→X.get j=C.get j:=kk1
  have hbd:=Jr8 (n:=n) (hpC.mono (h':=X) (by omega) fun j _ hj=>oXC j hj) (J1S.mono eC (by omega) fun j _ hj=>oXC j hj) (J1S.mono dC (by omega) fun j _ hj=>oXC j hj) (J1S.mono sC (by omega) fun j _ hj=>oXC j hj) hgood.t hgood.sk hgood.kk hRd hlen hSi hsub (hcalls _ _) (by omega) (by omega) (by omega)
  have lPX:ldN 8 0 (X.get h.next)=some (.agg #[.string nm,vr,vq,vv,vt,vu,vo,iv s.miss]):=by rw[oX _ (by omega)];exact lPE
  have lYX:ld1 2 (X.get (h.next+1))=some td:=by rw[oX _ (by omega)];exact lYE
  cases dm:decide (valA s.rows (endN (Jk8 s.rows)) rd S (k+1)>72057594037927936) with
  | true=>
   rw[if_pos (of_decide_eq_true dm)] at hgo
   rw[← hgo] at hbn
   obtain⟨⟨H2,H3⟩,s1,s2,q1,q2,q3,q4,q5⟩:=st2 X (.slice none 0 0) 0 61 k rfl (by rw[oX _ (by omega)];exact gCE) (by rw[oX _ (by omega)];exact gDE) (by omega) (by omega)
   simp only at s1 s2 q1 q2 q3 q4 q5
   simp only[evC,seval,↓evP,Nat.zero_add,t3,t4,t5,t9,t10,t14,J1b,lPX,JpX,J0n,lYX,w1,hbd,dm,Jq7,J4G,s1,s2]
   exact fin _ _ _ _ _ _ (by simp only[evC,seval,↓evP,rpC,t4]) (by simp only[evC,seval,↓evP,rpC,t5]) q1 q2 (by rw[hbn];exact Jq1 _ _) (by rw[hbn]) (by omega) (by omega) fun i hi=>by rw[q5 i (by omega) (by omega),oX i (by omega),oE i hi]
  | false=>
  rw[if_neg (of_decide_eq_false dm)] at hgo
  cases de:(x.kind==10) with
  | true=>
   have h10:x.kind=10:=by simpa using de
   rw[if_pos h10] at hgo
   have hst2:=stc (off:=1) (t:=3) (v:=iv (valA s.rows (endN (Jk8 s.rows)) rd S (k+1))) sz3 rfl rfl kk3 (by show 1<2;decide) (by omega)
   have hst3:J0K Tryz.prog X 3 (.pointer (some ⟨C.next+1,1,none⟩)) (iv (valA s.rows (endN (Jk8 s.rows)) rd S (k+1)))=some (X.put (C.next+1) (.row [.slice (some ⟨C.next,0,none⟩) s.queues.length s.queues.length,iv (valA s.rows (endN (Jk8 s.rows)) rd S (k+1))] 36 false false)):=hst2
   simp only[evC,seval,↓evP,Nat.zero_add,t2,t3,t4,t5,t9,t10,t13,t14,J1b,lPX,JpX,J0n,lYX,w1,hbd,dm,J0t,J0m,hlx0,de,Jqp,hst3]
   refine⟨hlk,by omega,by show C.next+2≤X.next;omega,by show X.floor=_;omega,fun j hj=>by rw[J05 (by omega) (by omega)];exact kk1 j hj,⟨c.on,valA s.rows (endN (Jk8 s.rows)) rd S (k+1)⟩,hcl,by rw[J05 (by omega) (by omega)];exact kk2,J0b rfl (by omega),hgo⟩
  | false=>
   have h10:x.kind≠10:=by simpa using de
   rw[if_neg h10] at hgo
   obtain⟨v3,v4⟩:=v2 h10
   obtain⟨kn,hkn⟩:∃ kn:Nat,x.n=(kn:Int):=⟨x.n.toNat,by omega⟩
   rw[hkn] at hlx3 v4
   rw[hkn,Int.toNat_natCast] at hgo
   have lon:ld1 0 (X.get (C.next+1))=some (.slice (some ⟨C.next,0,none⟩) s.queues.length s.queues.length):=by rw[kk3];rfl
   have ix:=J1F (id:=C.next) (n:=s.queues.length) (c:=s.queues.length) (i:=kn) (by omega)
   have hst3:=J59 (x:=valA s.rows (endN (Jk8 s.rows)) rd S (k+1)) kk2 (show kn<c.on.length by omega) (by omega)
   simp only[evC,seval,↓evP,Nat.zero_add,t2,t3,t4,t5,t9,t10,t13,t14,J1b,lPX,JpX,J0n,lYX,w1,hbd,dm,J0t,J0m,hlx0,de,Jqs,lon,J0O,hlx3,ix,hst3]
   refine⟨hlk,by omega,by show C.next+2≤X.next;omega,by show X.floor=_;omega,fun j hj=>by rw[J05 (by omega) (by omega)];exact kk1 j hj,⟨c.on.set kn (valA s.rows (endN (Jk8 s.rows)) rd S (k+1)),c.miss⟩,by rw[List.length_set];exact hcl,J0b rfl (by omega),by rw[J05 (by omega) (by omega)];exact kk3,hgo⟩
 ·have c3:decide ((k:Int)<(s.rows.length:Int))=false:=by simp;omega
  rw[show s.rows.length-k=0 by omega] at hgo
  have hgo':goC s.rows (valA s.rows (endN (Jk8 s.rows)) rd S) s.rows.length 0 ⟨List.replicate s.queues.length 0,0⟩=((0,0),c):=hgo.symm
  rw[hgo'] at hbn
  have lco:ldN 2 0 (E.get (C.next+1))=some (cV (.slice (some ⟨C.next,0,none⟩) s.queues.length s.queues.length) c.miss):=by rw[gco];rfl
  obtain⟨⟨H2,H3⟩,s1,s2,q1,q2,q3,q4,q5⟩:=st2 E (.slice (some ⟨C.next,0,none⟩) s.queues.length s.queues.length) c.miss 0 0 rfl gCE gDE k2 (by omega)
  simp only at s1 s2 q1 q2 q3 q4 q5
  simp only[evC,seval,↓evP,Nat.zero_add,t2,t4,t5,t13,t14,J0y,J0F,lP1E,lenR,c3,JqN,lco,J5n,s1,s2]
  exact fin _ _ _ _ _ _ (by simp only[evC,seval,↓evP,rpC,t4]) (by simp only[evC,seval,↓evP,rpC,t5]) q1 q2 (by rw[hbn];exact⟨_,rfl,.inr ⟨C.next,by rw[hcl],by omega,by omega,(q5 _ (by omega) (by omega)).trans gon⟩⟩) (by rw[hbn]) (by omega) (by omega) fun i hi=>by rw[q5 i (by omega) (by omega),oE i hi]
theorem Jss {nm:ByteArray} {s:StN} {W:List (Int × Int × Int)} {G rd:List Int} {pv tv:Value} {lo lt:Nat} {h:SHeap} (hp:J3x lo h pv nm s) (h64:∀ x∈s.rows,x.kids≤9223372036854775807) (hty:Jqg lt h tv W G rd) (hs:JdC s) (hl:s.rows.length<9000000) (hrl:rd.length<90000000)
  (hfl:h.floor≤h.next) (hn:2*Jbg s+rd.length+100500<n):∃ v' h',J0T n 10 [pv,tv] h=some (v',h')∧Jqy h nm s rd v' h':=by
 obtain⟨n,rfl⟩:∃ j,n=j+1:=⟨n-1,by omega⟩
 exact k_ex (J13 ⟨rfl,rfl,rfl⟩) (Jrl (n:=n) (N:=n) hp h64 hty hs hl hrl hfl (by omega) (by omega)) fun v' h1 hf _ ht=>JqB hf ht
end
end Go.Proofs.YtipekdhneagdbaaGreatDoor
