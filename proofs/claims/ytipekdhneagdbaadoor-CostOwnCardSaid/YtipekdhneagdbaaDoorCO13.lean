/- Part 13 of what the claim leans on: 18 texts laid one behind another. -/
import Derived.Test.YtipekdhneagdbaaDoorCO12
namespace Go.Proofs.YtipekdhneagdbaaDoor
open Go Go.Sx
set_option maxRecDepth 100000
set_option linter.unusedSimpArgs false
set_option linter.unusedVariables false
set_option maxHeartbeats 64000000
theorem MY:BN Tryd.prog 65=some 2:=by kernel_rfl
theorem yT:FK Tryd.prog 65=some true:=by kernel_rfl
abbrev cV (v:Value) (m:Int):Value:=.agg #[v,iv m]
theorem IG:DQ Tryd.prog 65=some (cV (Z0) 0):=by kernel_rfl
theorem N8:flat (cV (Z0) 0)=true:=rfl
theorem oS:HC Tryd.prog (match Tryd.prog.underlying 65 with | some (.struct fs)=>fs.toList | _=>[])=some [(0,1),(1,1)]:=by kernel_rfl
theorem OQ:DG Tryd.prog 65 []=some (cV (Z0) 0):=by
 have h:=oS
 rw[Tryd.underlying65] at h
 simp only at h
 simp only[DG,IG,N8,if_true,Tryd.underlying65,h]
 rfl
theorem iD {a:Option Addr} {n c:Nat}:DG Tryd.prog 65 [(0,.slice a n c)]=some (cV (.slice a n c) 0):=by
 have h:=oS
 rw[Tryd.underlying65] at h
 simp only at h
 simp only[DG,IG,N8,if_true,Tryd.underlying65,h]
 rfl
theorem Qh:DQ Tryd.prog 108=some (.agg #[.string ByteArray.empty,Z0,Z0,Z0,Z0,Z0,Z0,iv 0,Z0,Z0,Z0,Z0]):=by kernel_rfl
theorem Od:HC Tryd.prog (match Tryd.prog.underlying 108 with | some (.struct fs)=>fs.toList | _=>[])=some [(0,8),(8,3),(11,1)]:=by kernel_rfl
theorem xM {nm:ByteArray} {vr vq vv vt vu vo a b c:Value} {m:Int}:DG Tryd.prog 108 [(0,.agg #[.string nm,vr,vq,vv,vt,vu,vo,iv m]),(1,.agg #[a,b,c])]=some (.agg #[.string nm,vr,vq,vv,vt,vu,vo,iv m,a,b,c,Z0]):=by
 have h:=Od
 rw[Tryd.underlying108] at h
 simp only at h
 have hf:flat (.agg #[.string ByteArray.empty,Z0,Z0,Z0,Z0,Z0,Z0,iv 0,Z0,Z0,Z0,Z0])=true:=rfl
 simp only[DG,Qh,hf,if_true,Tryd.underlying108,h]
 rfl
section
variable {h:AA} {id off:Nat}
theorem UQ:EI Tryd.prog h 65 (qP id off)=BL 2 off (h.get id):=MV yT MY
theorem RE:BC Tryd.prog 65 (qP id off) 0=some (qP id off):=by simp[BC,Tryd.underlying65,JG,CH]
theorem YO:BC Tryd.prog 65 (qP id off) 1=some (qP id (off+1)):=by simp[BC,Tryd.underlying65,CU,CH]
end
def vcells (l:List (Int × Int × Int)):List Value:=l.flatMap fun x=>[iv x.1,iv x.2.1,iv x.2.2]
def L7 (lo:Nat) (h:AA) (tv:Value) (W:List (Int × Int × Int)) (G rd:List Int):Prop:=
 ∃ vv vg vr,tv=.agg #[vv,vg,vr]∧A7 lo h vv W.length 3 (vcells W)∧AN lo h vg G∧AN lo h vr rd
theorem L7.mono {lo:Nat} {h h':AA} {tv:Value} {W:List (Int × Int × Int)} {G rd:List Int} (ht:L7 lo h tv W G rd) (hn:h.next≤h'.next) (hg:∀ i,lo≤i→i<h.next→h'.get i=h.get i):L7 lo h' tv W G rd:=by
 obtain⟨vv,vg,vr,h1,h2,h3,h4⟩:=ht
 exact⟨vv,vg,vr,h1,h2.mono hn hg,AN.mono h3 hn hg,AN.mono h4 hn hg⟩
def IP (lo:Nat) (h:AA) (cv:Value) (c:HJ):Prop:=
 ∃ vo,cv=cV vo c.miss∧((vo=Z0∧c.on=[])∨∃ id,vo=qS id c.on.length c.on.length∧lo≤id∧id<h.next∧h.get id=.row (ints c.on) 3 false false)
theorem IP.mono {lo:Nat} {h h':AA} {cv:Value} {c:HJ} (hc:IP lo h cv c) (hn:h.next≤h'.next) (hg:∀ i,lo≤i→i<h.next→h'.get i=h.get i):IP lo h' cv c:=by
 obtain⟨vo,h1,h2 | ⟨id,h2,h3,h4,h5⟩⟩:=hc
 ·exact⟨vo,h1,.inl h2⟩
 ·exact⟨vo,h1,.inr ⟨id,h2,h3,by omega,(hg id h3 h4).trans h5⟩⟩
theorem IP.weak {lo lo':Nat} {h:AA} {cv:Value} {c:HJ} (hc:IP lo h cv c) (hl:lo'≤lo):IP lo' h cv c:=by
 obtain⟨vo,h1,h2 | ⟨id,h2,h3,h4,h5⟩⟩:=hc
 ·exact⟨vo,h1,.inl h2⟩
 ·exact⟨vo,h1,.inr ⟨id,h2,by omega,h4,h5⟩⟩
theorem NY (lo:Nat) (h:AA):IP lo h (cV (Z0) 0) zC:=⟨_,rfl,.inl ⟨rfl,rfl⟩⟩
def NW (h:AA) (nm:ByteArray) (s:AS) (rd:List Int) (v:Value) (h':AA):Prop:=
 ∃ cv,v=.tuple #[cv,EN (DW nm s rd).1.1 (DW nm s rd).1.2]∧IP h.next h' cv (DW nm s rd).2∧h'.floor=h.floor∧h.next≤h'.next∧∀ i,i<h.next→h'.get i=h.get i
noncomputable def qF:Array Oper:=DR Tryd.f41 16
def Rr:List (Bool × Bool × List Operand):=[FT,(true,false,[]),(true,false,[]),(true,false,[]),(true,false,[]),AJ [.tmp 62],AJ [.tmp 62],AJ [.tmp 62],AJ [.tmp 62],AL,AL,AL,AL]
theorem Kd:DU qF=Rr:=by kernel_rfl
theorem l_ {R:List AE} {V:Nat→Int} {r at_:Nat} {c:HJ} {x:AE} (h:R[at_]?=some x):D_ R V (r+1) at_ c=if C3 x.kind=false then D_ R V r (at_+1) c
   else if V (at_+1)>72057594037927936 then ((61,(at_:Int)),zC)
   else D_ R V r (at_+1) (if x.kind=10 then ⟨c.on,V (at_+1)⟩ else ⟨c.on.set x.n.toNat (V (at_+1)),c.miss⟩):=by
 conv=>lhs;unfold D_
 rw[h]
theorem GJ.one {h:AA} {lo:Nat} {v:Value} {l:List Int} (hl:GJ h lo v l):one v=true∧v.cells=#[v]:=by
 rcases hl with⟨rfl,_⟩ | ⟨id,c,rfl,_⟩ <;> exact⟨rfl,rfl⟩
section
variable {n N:Nat}
theorem Bu {nm:ByteArray} {s:AS} {W:List (Int × Int × Int)} {G rd:List Int} {pv tv:Value} {lo lt:Nat} {h:AA} (hp:DJ lo h pv nm s) (hlies:∀ nm' vr vq vv vt vu vo m,pv=.agg #[.string nm',vr,vq,vv,vt,vu,vo,m]→PV vr s.rows.length) (hty:L7 lt h tv W G rd) (hs:IJ s) (hl:s.rows.length<2932031007403) (hrl:rd.length<2932031007403)
  (hfl:h.floor≤h.next) (hg:h.get 0=ED) (hn0:0<h.next) (hn:2*F8 s+300<n) (hN:F8 s+rd.length+200<N) :
  ∃ v' h',A9 Tryd.prog (AX n) N 41 [pv,tv] h=some (v',h')∧NW h nm s rd v' h':=by
 have hsn:=(FH n).2
 refine MO (R:=NW h nm s rd) Tryd.func41 rfl (by simp[Tryd.f41]) ?_
 have hr:Tryd.f41.results.toList=[.cell 4 65,.cell 5 33]:=rfl
 obtain⟨vr,vq,vv,vt,vu,vo,rfl,p1,p2,p3,p4,p5,p6⟩:=id hp
 obtain⟨tw,tg,td,rfl,y1,y2,y3⟩:=id hty
 have ca:=F7 [.string nm,vr,vq,vv,vt,vu,vo,iv s.miss]
 have oa:=MJ (nm:=nm) p1 p2 p3 p4 p5 p6
 have cy:=F7 [tw,tg,td]
 have oy:[tw,tg,td].all one=true:=by simp only[List.all_cons,List.all_nil,y1.one,A7.one y2,A7.one y3,Bool.and_self]
 have zcC:(cV (Z0) 0).cells.toList=[Z0,iv 0]:=rfl
 generalize hKK:B7.top (fun e s_1=>(e=DK.normal∨e=DK.ret)∧∃ vs,E8 Tryd.prog s_1 Tryd.f41.results.toList=some vs∧NW h nm s rd (GR vs) s_1.h)=K
 have fin:∀ (T':Tr) (H':AA) vo' m e p,T'.get 4=qP (h.next+2) 0→T'.get 5=qP (h.next+3) 0→H'.get (h.next+2)=.row [vo',iv m] 65 false false→H'.get (h.next+3)=.row [iv e,iv p] 33 false false→IP h.next H' (cV vo' m) (DW nm s rd).2→(DW nm s rd).1=(e,p)→h.next≤H'.next→H'.floor=h.floor→(∀ i,i<h.next→H'.get i=h.get i)→K.ap Tryd.prog (AX n) N .ret ⟨T',H'⟩:=by
  intro T' H' vo' m e p t4 t5 g4 g5 hc he hnx hf hold
  have l4:BL 2 0 (H'.get (h.next+2))=some (cV vo' m):=by rw[g4];rfl
  have l5:BL 2 0 (H'.get (h.next+3))=some (EN e p):=by rw[g5];rfl
  rw[← hKK]
  simp only[eE,seval,↓eP,hr,t4,t5,UQ,K8,l4,l5]
  exact⟨_,by rw[he],hc,hf,hnx,hold⟩
 obtain⟨gA,gB,gC,gD,nA,fA,oA⟩:=pO h (.row [.string nm,vr,vq,vv,vt,vu,vo,iv s.miss] 30 false false) (.row [tw,tg,td] 70 false false) (.row [Z0,iv 0] 65 false false) (.row [iv 0,iv 0] 33 false false)
 simp only[eE,seval,↓eP,DC,C8,C4,ca,oa,cy,oy,HM,NT,IG,N8,zcC,HU,HT,ME]
 generalize (((h.push (.row [.string nm,vr,vq,vv,vt,vu,vo,iv s.miss] 30 false false)).push (.row [tw,tg,td] 70 false false)).push (.row [Z0,iv 0] 65 false false)).push (.row [iv 0,iv 0] 33 false false)=A at *
 have lP:BL 8 0 (A.get h.next)=some (.agg #[.string nm,vr,vq,vv,vt,vu,vo,iv s.miss]):=NO gA rfl
 have lY:BL 3 0 (A.get (h.next+1))=some (.agg #[tw,tg,td]):=by rw[gB];rfl
 have lY2:AO 2 (A.get (h.next+1))=some td:=by rw[gB];rfl
 have lP1:AO 1 (A.get h.next)=some vr:=by rw[gA];rfl
 have hpA:=hp.mono (h':=A) (by omega) fun i _ hi=>oA i hi
 have hchk:=xL (n:=n) hpA hlies hs (by omega) (by omega) (by rw[oA 0 hn0];exact hg) (by omega) hn
 have st2:∀ (H:AA) vo' m e p,one vo'=true→H.get (h.next+2)=.row [Z0,iv 0] 65 false false→H.get (h.next+3)=.row [iv 0,iv 0] 33 false false→H.floor=h.floor→h.next+4≤H.next →
   ∃ H':AA × AA,BH Tryd.prog H 65 (qP (h.next+2) 0) (cV vo' m)=some H'.1∧BH Tryd.prog H'.1 33 (qP (h.next+3) 0) (EN e p)=some H'.2∧H'.2.get (h.next+2)=.row [vo',iv m] 65 false false∧H'.2.get (h.next+3)=.row [iv e,iv p] 33 false false∧H'.2.next=H.next∧H'.2.floor=H.floor∧∀ i,i≠h.next+2→i≠h.next+3→H'.2.get i=H.get i:=fun H vo' m e p ho g2 g3 hf hx=>by
  have a1:=GY (t:=65) MY (vs:=[vo',iv m]) g2 rfl rfl (by simp only[List.all_cons,List.all_nil,ho,JY,Bool.and_self]) (by omega)
  have g3':(H.put (h.next+2) (.row [vo',iv m] 65 false false)).get (h.next+3)=.row [iv 0,iv 0] 33 false false:=by rw[AK (by omega) (by omega)];exact g3
  have a2:=GY (t:=33) MF (vs:=[iv e,iv p]) g3' rfl rfl rfl (by show H.floor≤_;omega)
  refine⟨⟨_,_⟩,a1,a2,?_,BI rfl (by show h.next+3<H.next;omega),rfl,rfl,fun i h1 h2=>?_⟩
  ·show ((H.put _ _).put _ _).get _=_
   rw[AK (by show h.next+3<H.next;omega) (by omega)]
   exact BI rfl (by omega)
  ·show ((H.put _ _).put _ _).get _=_
   rw[AK (by show h.next+3<H.next;omega) (Ne.symm h2),AK (by omega) (Ne.symm h1)]
 cases dc:(F3 nm s != 0) with
 | true=>
  have hcn:F3 nm s≠0:=by simpa using dc
  have hbn:DW nm s rd=((F3 nm s,0),zC):=by unfold DW;rw[if_pos hcn]
  obtain⟨⟨H1,H2⟩,s1,s2,q1,q2,q3,q4,q5⟩:=st2 A (Z0) 0 (F3 nm s) 0 rfl gC gD fA (by omega)
  simp only at s1 s2 q1 q2 q3 q4 q5
  simp only[eE,seval,↓eP,GX,lP,hchk,dc,OQ,OW,s1,s2]
  exact fin _ _ _ _ _ _ (by simp only[eE,seval,↓eP,rP]) (by simp only[eE,seval,↓eP,rP]) q1 q2 (by rw[hbn];exact NY _ _) (by rw[hbn]) (by omega) (by omega) fun i hi=>(q5 i (by omega) (by omega)).trans (oA i hi)
 | false=>
 have hck:F3 nm s=0:=by simpa using dc
 have lenR:=fun h'=>YY p1.2 h'
 have lenD:=fun h'=>I7 y3 h'
 cases dl:((rd.length:Int) != (s.rows.length:Int)) with
 | true=>
  have hne:rd.length≠s.rows.length:=fun e=>by rw[e] at dl;simp at dl
  have hbn:DW nm s rd=((43,0),zC):=by unfold DW;rw[if_neg (by rw[hck];decide),if_pos fun h9=>hne h9.1]
  obtain⟨⟨H1,H2⟩,s1,s2,q1,q2,q3,q4,q5⟩:=st2 A (Z0) 0 43 0 rfl gC gD fA (by omega)
  simp only at s1 s2 q1 q2 q3 q4 q5
  simp only[eE,seval,↓eP,Nat.zero_add,GX,lP,hchk,dc,J_,CC,lY2,lenD,CR,CI,lP1,lenR,dl,OQ,OW,s1,s2]
  exact fin _ _ _ _ _ _ (by simp only[eE,seval,↓eP,rP]) (by simp only[eE,seval,↓eP,rP]) q1 q2 (by rw[hbn];exact NY _ _) (by rw[hbn]) (by omega) (by omega) fun i hi=>(q5 i (by omega) (by omega)).trans (oA i hi)
 | false=>
 have hlen:rd.length=s.rows.length:=by
  have h9:(rd.length:Int)=(s.rows.length:Int):=by simpa using dl
  omega
 simp only[eE,seval,↓eP,Nat.zero_add,GX,lP,hchk,dc,J_,CC,lY2,lenD,CR,CI,lP1,lenR,dl]
 refine WK.loop (fun i s'=>s'.h=A∧s'.T.get 2=qP h.next 0∧s'.T.get 3=qP (h.next+1) 0∧s'.T.get 4=qP (h.next+2) 0∧s'.T.get 5=qP (h.next+3) 0∧s'.T.get 33=td∧s'.T.get 34=iv (rd.length:Int)∧s'.T.get 35=iv i∧i≤rd.length∧∀ x∈rd.take i,0≤x∧x≤4194304) rd.length (by omega) ?_ ?_
 ·exact⟨rfl,by simp only[eE,seval,↓eP,rP],by simp only[eE,seval,↓eP,rP],by simp only[eE,seval,↓eP,rP],by simp only[eE,seval,↓eP,rP],by simp only[eE,seval,↓eP,rP],by simp only[eE,seval,↓eP,rP],by simp only[eE,seval,↓eP,rP],by omega,fun x hx=>by simp at hx⟩
 rintro i ⟨T1,H1⟩ hi ⟨hH1,t2,t3,t4,t5,t33,t34,t35,hil,hrs⟩
 simp only at t2 t3 t4 t5 t33 t34 t35 hH1
 subst hH1
 have y3A:AN lt H1 td rd:=AN.mono y3 (by omega) fun i _ hi=>oA i hi
 by_cases hlt:i<rd.length
 ·have c1:decide ((i:Int)<(rd.length:Int))=true:=by simp;omega
  obtain⟨x,hx⟩:∃ x,rd[i]?=some x:=⟨_,List.getElem?_eq_getElem hlt⟩
  obtain⟨id,p,a1,a2,a3⟩:=AN.get y3A hx
  have bad:¬ (0≤x∧x≤4194304)→DW nm s rd=((43,0),zC):=fun h9=>by
   unfold DW
   rw[if_neg (by rw[hck];decide),if_pos fun h8=>h9 (h8.2 x (List.mem_of_getElem? hx))]
  obtain⟨⟨H2,H3⟩,s1,s2,q1,q2,q3,q4,q5⟩:=st2 H1 (Z0) 0 43 0 rfl gC gD fA (by omega)
  simp only at s1 s2 q1 q2 q3 q4 q5
  have w1:=C6 i (by omega)
  cases d1:decide (x<0) with
  | true=>
   have hbn:=bad (by have:=of_decide_eq_true d1;omega)
   simp only[eE,seval,↓eP,t4,t5,t33,t34,t35,c1,a1,A_,a3,d1,OQ,OW,s1,s2]
   exact fin _ _ _ _ _ _ (by simp only[eE,seval,↓eP,rP,t4]) (by simp only[eE,seval,↓eP,rP,t5]) q1 q2 (by rw[hbn];exact NY _ _) (by rw[hbn]) (by omega) (by omega) fun i hi=>(q5 i (by omega) (by omega)).trans (oA i hi)
  | false=>
  cases d2:decide (x>4194304) with
  | true=>
   have hbn:=bad (by have:=of_decide_eq_true d2;omega)
   simp only[eE,seval,↓eP,t4,t5,t33,t34,t35,c1,a1,A_,a3,d1,d2,OQ,OW,s1,s2]
   exact fin _ _ _ _ _ _ (by simp only[eE,seval,↓eP,rP,t4]) (by simp only[eE,seval,↓eP,rP,t5]) q1 q2 (by rw[hbn];exact NY _ _) (by rw[hbn]) (by omega) (by omega) fun i hi=>(q5 i (by omega) (by omega)).trans (oA i hi)
  | false=>
   simp only[eE,seval,↓eP,t2,t3,t4,t5,t33,t34,t35,c1,a1,A_,a3,d1,d2,w1]
   refine⟨hlt,hlt,fun z hz=>?_⟩
   rw[List.take_add_one,hx] at hz
   simp only[Option.toList_some,List.mem_append,List.mem_cons,List.not_mem_nil,or_false] at hz
   rcases hz with hz | rfl
   ·exact hrs z hz
   ·have:=of_decide_eq_false d1
    have:=of_decide_eq_false d2
    omega
 have c1:decide ((i:Int)<(rd.length:Int))=false:=by simp;omega
 have hRd:GH rd:=by rw[List.take_of_length_le (by omega)] at hrs;exact hrs
 have hgood:=lX hck (by omega)
 have hbn:DW nm s rd=D_ s.rows (AZ s.rows (AG (AY s.rows)) rd (EW s.rows (AG (AY s.rows)) rd s.rules [])) s.rows.length 0 ⟨List.replicate s.queues.length 0,0⟩:=by
  unfold DW
  rw[if_neg (by rw[hck];decide),if_neg fun h9=>h9 ⟨hlen,hRd⟩]
 clear hchk hil hi
 have hcb:=F7 [.string nm,vr,vq,vv,vt,vu,vo,iv s.miss,tw,tg,td,Z0]
 have hob:[.string nm,vr,vq,vv,vt,vu,vo,iv s.miss,tw,tg,td,Z0].all one=true:=by
  have h9:([.string nm,vr,vq,vv,vt,vu,vo,iv s.miss]++[tw,tg,td]++[Z0]:List Value).all one=true:=by rw[List.all_append,List.all_append,oa,oy];rfl
  exact h9
 have lP5:AO 5 (H1.get h.next)=some vu:=by rw[gA];rfl
 have lenU:=fun h'=>I7 p5 h'
 have gBd:(H1.push (.row [.string nm,vr,vq,vv,vt,vu,vo,iv s.miss,tw,tg,td,Z0] 108 false false)).get H1.next=.row [.string nm,vr,vq,vv,vt,vu,vo,iv s.miss,tw,tg,td,Z0] 108 false false:=BO
 have oB:∀ i,i<h.next+4→(H1.push (.row [.string nm,vr,vq,vv,vt,vu,vo,iv s.miss,tw,tg,td,Z0] 108 false false)).get i=H1.get i:=fun i hi=>AP (by omega)
 have nB:(H1.push (.row [.string nm,vr,vq,vv,vt,vu,vo,iv s.miss,tw,tg,td,Z0] 108 false false)).next=h.next+5:=by rw[C7,nA]
 have fB:(H1.push (.row [.string nm,vr,vq,vv,vt,vu,vo,iv s.miss,tw,tg,td,Z0] 108 false false)).floor=h.floor:=by rw[DA,fA]
 have lP5B:AO 5 ((H1.push (.row [.string nm,vr,vq,vv,vt,vu,vo,iv s.miss,tw,tg,td,Z0] 108 false false)).get h.next)=some vu:=by rw[oB _ (by omega)];exact lP5
 simp only[eE,seval,↓eP,Nat.zero_add,t2,t3,t34,t35,c1,GX,lP,RS,lY,xM,hcb,hob,yP,F2,CC,lP5B,lenU]
 generalize H1.push (.row [.string nm,vr,vq,vv,vt,vu,vo,iv s.miss,tw,tg,td,Z0] 108 false false)=B at *
 unfold F8 at hn hN
 have hsmall:=hs
 unfold IJ at hsmall
 generalize hb:H1.next=b at *
 have hRl:(AY s.rows).length=s.rows.length:=by unfold AY;rw[List.length_map]
 refine WK.loop (fun i s'=>s'.T.get 2=qP h.next 0∧s'.T.get 4=qP (h.next+2) 0∧s'.T.get 5=qP (h.next+3) 0∧s'.T.get 9=qP b 0∧s'.T.get 53=vu∧s'.T.get 54=iv (s.rules.length:Int)∧s'.T.get 55=iv i∧i≤s.rules.length∧h.next+5≤s'.h.next∧s'.h.floor=h.floor∧(∀ j,j<b→s'.h.get j=B.get j) ∧
  ∃ w,s'.h.get b=.row [.string nm,vr,vq,vv,vt,vu,vo,iv s.miss,tw,tg,td,w] 108 false false∧GJ s'.h (h.next+5) w (EW s.rows (AG (AY s.rows)) rd (s.rules.take i) [])) s.rules.length (by omega) ?_ ?_
 ·exact⟨by simp only[eE,seval,↓eP,rP,t2],by simp only[eE,seval,↓eP,rP,t4],by simp only[eE,seval,↓eP,rP,t5],by simp only[eE,seval,↓eP,rP],by simp only[eE,seval,↓eP,rP],by simp only[eE,seval,↓eP,rP],by simp only[eE,seval,↓eP,rP],by omega,by show h.next+5≤B.next;omega,fB,fun _ _=>rfl,Z0,gBd,.inl ⟨rfl,rfl⟩⟩
 rintro i ⟨T2,C⟩ hi ⟨t2,t4,t5,t9,t53,t54,t55,hil,m1,m2,m3,w,gw,hL⟩
 simp only at t2 t4 t5 t9 t53 t54 t55 m1 m2 m3 gw hL
 have oC:∀ j,j<h.next→C.get j=h.get j:=fun j hj=>by rw[m3 j (by omega),oB j (by omega),oA j hj]
 have lw:AO 11 (C.get b)=some w:=by rw[gw];rfl
 have hbC:M8 C b vr td w s.rows rd (EW s.rows (AG (AY s.rows)) rd (s.rules.take i) []):=⟨by rw[gw];rfl,by rw[gw];rfl,lw,by omega,p1.1.mono (by omega) oC,AN.mono (AN.weak y3 (Nat.zero_le _)) (by omega) fun j _ hj=>oC j hj,GJ.ints hL (Nat.zero_le _)⟩
 have hSi:C1 (EW s.rows (AG (AY s.rows)) rd (s.rules.take i) []):=SP hRd _ _ fun x hx=>by simp at hx
 by_cases hlt:i<s.rules.length
 ·have c1:decide ((i:Int)<(s.rules.length:Int))=true:=by simp;omega
  obtain⟨ru,hru⟩:∃ ru,s.rules[i]?=some ru:=⟨_,List.getElem?_eq_getElem hlt⟩
  obtain⟨r0,r1,r2⟩:=hgood.rules i ru hru
  obtain⟨r,rfl⟩:∃ r:Nat,ru=(r:Int):=⟨ru.toNat,by omega⟩
  rw[Int.toNat_natCast] at r1 r2
  have hsub:=hgood.t.end r1
  have hsl:=hsub.lt
  have hSl:(EW s.rows (AG (AY s.rows)) rd (s.rules.take i) []).length=i:=by rw[UD,List.length_take];simp;omega
  obtain⟨iu,pu,a1,a2,a3⟩:=AN.get (AN.mono (AN.weak p5 (Nat.zero_le _)) (by omega) fun j _ hj=>oC j hj) hru
  have hbd:=r_ hgood.t hgood.sk hgood.kk hRd hlen hSi (by omega) s.rows.length n r _ (C.fl (max C.floor C.next)) hsub (by omega) (r2 _ hSl) (by omega) (hbC.mono (h':=C.fl (max C.floor C.next)) (Nat.le_refl _) fun _ _=>rfl) (by rw[CA,CL];omega)
  obtain⟨w',D,happ,hL',fD,nD,oD⟩:=T0 (x:=AZ s.rows (AG (AY s.rows)) rd (EW s.rows (AG (AY s.rows)) rd (s.rules.take i) []) r) hL m1 (by omega) (by omega)
  have hst:=FU (off:=11) (v:=w') JG hL'.one.2 hL'.one.1 ((oD b (by omega)).trans gw) (by show 11<12;omega) (by omega)
  have hst':BH Tryd.prog D 28 (qP b 11) w'=some (D.put b (.row [.string nm,vr,vq,vv,vt,vu,vo,iv s.miss,tw,tg,td,w'] 108 false false)):=hst
  have bT:(b<C.next)=True:=by simp;omega
  have hff:C.fl C.floor=C:=rfl
  have hfD:∀ o,(D.put b o).fl C.floor=D.put b o:=fun o=>by rw[show C.floor=(D.put b o).floor by show C.floor=D.floor;omega];rfl
  have hfD':D.fl C.floor=D:=by rw[show C.floor=D.floor by omega];rfl
  have w1:=C6 i (by omega)
  simp only[eE,seval,↓eP,t53,t54,t55,c1,a1,A_,a3]
  refine WK.flags (ops:=qF) Kd ?_
  refine BQ.begin ?_
  refine AF hsn 0 (some 59) (.move (.tmp 9)) none ?_
  simp only[rG,seval,AB,AD,AC,hff,t9,Nat.zero_add]
  refine AF hsn 1 (some 60) (.move (.tmp 9)) none ?_
  simp only[rG,seval,AB,AD,AC,hff,t9]
  refine AF hsn 2 (some 61) (.nilCheck (.tmp 60)) none ?_
  simp only[rG,seval,AB,AD,AC,hff]
  refine AF hsn 3 (some 62) (.fieldAddr 108 (.tmp 61) 2) none ?_
  simp only[rG,seval,AB,AD,AC,Nat.zero_add,hff,aZ,Nat.zero_add]
  refine AF hsn 4 (some 63) (.load 28 (.tmp 62)) none ?_
  simp only[rG,seval,AB,AD,AC,BU,hff,bT,lw,CC]
  refine AF hsn 5 (some 64) (.move (.tmp 9)) none ?_
  simp only[rG,seval,AB,AD,AC,hff,t9]
  refine AF hsn 6 (some 65) (.move (.tmp 11)) none ?_
  simp only[rG,seval,AB,AD,AC,hff]
  refine AF hsn 7 (some 66) (.call { callee:=.value (.func 77),args:=#[.tmp 64,.tmp 65],argTypes:=#[106,3] }) none ?_
  simp only[rG,seval,AB,AD,AC,CF,hff,hbd,DB]
  refine AF hsn 8 (some 67) (.buildSlice 28 1 #[(0,.tmp 66)]) none ?_
  simp only[rG,seval,AB,AD,AC,List.map_cons,List.map_nil,hff,MB,DS]
  refine AF hsn 9 (some 68) (.call { callee:=.builtin .append,args:=#[.tmp 63,.tmp 67],argTypes:=#[28,28] }) none ?_
  simp only[rG,seval,AB,AD,AC,CF,DA,happ,hfD']
  refine AF hsn 10 (some 69) (.nilCheck (.tmp 59)) none ?_
  simp only[rG,seval,AB,AD,AC]
  refine AF hsn 11 (some 70) (.fieldAddr 108 (.tmp 69) 2) none ?_
  simp only[rG,seval,AB,AD,AC,Nat.zero_add,aZ,Nat.zero_add]
  refine AF hsn 12 (none) (.store 28 (.tmp 70) (.tmp 68)) none ?_
  simp only[rG,seval,AB,AD,AC,DP,EE,S4,hst',P7]
  refine BQ.done (i:=13) (by kernel_rfl) ?_
  simp only[eE,seval,↓eP,t2,t4,t5,t9,t53,t54,t55,w1]
  refine⟨hlt,by omega,by show h.next+5≤D.next;omega,by show D.floor=_;omega,fun j hj=>?_,w',BI rfl (by omega),?_⟩
  ·rw[AK (by omega) (by omega),oD j (by omega)]
   exact m3 j hj
  ·rw[aB i _ _ hru,Int.toNat_natCast]
   exact hL'.mono (Nat.le_refl _) fun j h1 h2=>AK (by omega) (by omega)
 have c2:decide ((i:Int)<(s.rules.length:Int))=false:=by simp;omega
 rw[List.take_of_length_le (show s.rules.length≤i by omega)] at hL hbC hSi
 have hSl:(EW s.rows (AG (AY s.rows)) rd s.rules []).length=s.rules.length:=by rw[UD];simp
 have hcalls:=fun p q=>hgood.calls _ p q hSl
 generalize EW s.rows (AG (AY s.rows)) rd s.rules []=S at *
 have lP2:AO 2 (C.get h.next)=some vq:=by rw[m3 _ (by omega),oB _ (by omega),gA];rfl
 have lP1C:AO 1 (C.get h.next)=some vr:=by rw[m3 _ (by omega),oB _ (by omega)];exact lP1
 have gC2:C.get (h.next+2)=.row [Z0,iv 0] 65 false false:=by rw[m3 _ (by omega),oB _ (by omega)];exact gC
 have gD2:C.get (h.next+3)=.row [iv 0,iv 0] 33 false false:=by rw[m3 _ (by omega),oB _ (by omega)];exact gD
 have lenQ:=fun h'=>PW p2 h'
 have hmk:=N4 (h:=C) (n:=s.queues.length) (by omega)
 have g1:∀ (a:BF) (x y:List Value),let D:=((C.push a).push (.row x 65 false false)).put (C.next+1) (.row y 65 false false)
   D.get C.next=a∧D.get (C.next+1)=.row y 65 false false∧D.next=C.next+2∧D.floor=C.floor∧∀ i,i<C.next→D.get i=C.get i:=fun a x y=>by
  have q1:(C.push a).next=C.next+1:=rfl
  have q2:((C.push a).push (.row x 65 false false)).next=C.next+2:=rfl
  refine⟨?_,BI rfl (by omega),rfl,rfl,fun i hi=>?_⟩
  ·rw[AK (by omega) (by omega),AP (by omega),BO]
  ·rw[AK (by omega) (by omega),AP (by omega),AP hi]
 obtain⟨gon,gco,nD,fD,oD⟩:=g1 (.row (ints (List.replicate s.queues.length 0)) 3 false false) [Z0,iv 0] [qS C.next s.queues.length s.queues.length,iv 0]
 have hstc:=GY (t:=65) MY (h:=(C.push (.row (ints (List.replicate s.queues.length 0)) 3 false false)).push (.row [Z0,iv 0] 65 false false)) (id:=C.next+1) (vs:=[qS C.next s.queues.length s.queues.length,iv 0]) (cs:=[Z0,iv 0]) (ty:=65) (g:=false) (by exact BO (h:=C.push _)) rfl rfl rfl (by show C.floor≤_;omega)
 have hstc':BH Tryd.prog ((C.push (.row (ints (List.replicate s.queues.length 0)) 3 false false)).push (.row [Z0,iv 0] 65 false false)) 65 (qP (C.next+1) 0) (cV (qS C.next s.queues.length s.queues.length) 0)=_:=hstc
 have lP1D:AO 1 ((((C.push (.row (ints (List.replicate s.queues.length 0)) 3 false false)).push (.row [Z0,iv 0] 65 false false)).put (C.next+1) (.row [qS C.next s.queues.length s.queues.length,iv 0] 65 false false)).get h.next)=some vr:=by rw[oD _ (by omega)];exact lP1C
 simp only[eE,seval,↓eP,Nat.zero_add,t2,t54,t55,c2,FD,FM,lP2,lenQ,hmk,iD,IG,N8,zcC,C7,hstc',CR,CI,lP1D,lenR]
 generalize ((C.push (.row (ints (List.replicate s.queues.length 0)) 3 false false)).push (.row [Z0,iv 0] 65 false false)).put (C.next+1) (.row [qS C.next s.queues.length s.queues.length,iv 0] 65 false false)=D at *
 refine WK.loop (fun i s'=>s'.T.get 4=qP (h.next+2) 0∧s'.T.get 5=qP (h.next+3) 0∧s'.T.get 9=qP b 0∧s'.T.get 12=qP (C.next+1) 0∧s'.T.get 78=vr∧s'.T.get 79=iv (s.rows.length:Int)∧s'.T.get 80=iv i∧i≤s.rows.length∧C.next+2≤s'.h.next∧s'.h.floor=h.floor∧(∀ j,j<C.next→s'.h.get j=C.get j) ∧
  ∃ c:HJ,c.on.length=s.queues.length∧s'.h.get C.next=.row (ints c.on) 3 false false∧s'.h.get (C.next+1)=.row [qS C.next s.queues.length s.queues.length,iv c.miss] 65 false false∧D_ s.rows (AZ s.rows (AG (AY s.rows)) rd S) (s.rows.length-i) i c=D_ s.rows (AZ s.rows (AG (AY s.rows)) rd S) s.rows.length 0 ⟨List.replicate s.queues.length 0,0⟩) s.rows.length (by omega) ?_ ?_
 ·exact⟨by simp only[eE,seval,↓eP,rP,t4],by simp only[eE,seval,↓eP,rP,t5],by simp only[eE,seval,↓eP,rP,t9],by simp only[eE,seval,↓eP,rP],by simp only[eE,seval,↓eP,rP],by simp only[eE,seval,↓eP,rP],by simp only[eE,seval,↓eP,rP],by omega,by show C.next+2≤D.next;omega,by show D.floor=_;omega,oD,⟨List.replicate s.queues.length 0,0⟩,List.length_replicate ..,gon,gco,rfl⟩
 rintro k ⟨T3,E⟩ hk ⟨t4,t5,t9,t12,t78,t79,t80,hkl,k1,k2,k3,c,hcl,gon,gco,hgo⟩
 simp only at t4 t5 t9 t12 t78 t79 t80 k1 k2 k3 gon gco
 have oE:∀ j,j<h.next→E.get j=h.get j:=fun j hj=>by rw[k3 j (by omega),oC j hj]
 have hbE:M8 E b vr td w s.rows rd S:=hbC.mono (by omega) fun j hj=>by
  rw[k3 j hj]
 have gCE:E.get (h.next+2)=.row [Z0,iv 0] 65 false false:=by rw[k3 _ (by omega)];exact gC2
 have gDE:E.get (h.next+3)=.row [iv 0,iv 0] 33 false false:=by rw[k3 _ (by omega)];exact gD2
 by_cases hlk:k<s.rows.length
 ·have c3:decide ((k:Int)<(s.rows.length:Int))=true:=by simp;omega
  obtain⟨x,hx⟩:∃ x,s.rows[k]?=some x:=⟨_,List.getElem?_eq_getElem hlk⟩
  obtain⟨idr,pr,b0,bid,l0,l1,l2,l3,l4,lr⟩:=hbE.rows.row hx
  have hzx:(Value.agg #[iv 0,.string ByteArray.empty,iv 0,iv 0,iv 0]).cells.toList=AI DF:=rfl
  have hst:BH Tryd.prog (E.push (.row (AI DF) 46 false false)) 46 (qP E.next 0) (DM x)=some ((E.push (.row (AI DF) 46 false false)).put E.next (.row (AI x) 46 false false)):=RK (i:=0) (off:=0) (L:=[DF]) rfl BO (by decide) (by rw[DA];omega)
  have gX:((E.push (.row (AI DF) 46 false false)).put E.next (.row (AI x) 46 false false)).get E.next=.row (AI x) 46 false false:=BI rfl (by rw[C7];omega)
  have oX:∀ i,i<E.next→((E.push (.row (AI DF) 46 false false)).put E.next (.row (AI x) 46 false false)).get i=E.get i:=fun i hi=>by rw[AK (by rw[C7];omega) (by omega),AP hi]
  have nX:((E.push (.row (AI DF) 46 false false)).put E.next (.row (AI x) 46 false false)).next=E.next+1:=rfl
  have fX:((E.push (.row (AI DF) 46 false false)).put E.next (.row (AI x) 46 false false)).floor=E.floor:=rfl
  have hlx0:AO 0 (((E.push (.row (AI DF) 46 false false)).put E.next (.row (AI x) 46 false false)).get E.next)=some (iv x.kind):=by rw[gX];rfl
  have w1:=C6 k (by omega)
  have hr1:s.rows.length-k=(s.rows.length-(k+1))+1:=by omega
  rw[hr1,l_ hx] at hgo
  have keepC:∀ G:AA,(∀ i,i<E.next→G.get i=E.get i)→(∀ j,j<C.next→G.get j=C.get j)∧G.get C.next=.row (ints c.on) 3 false false∧G.get (C.next+1)=.row [qS C.next s.queues.length s.queues.length,iv c.miss] 65 false false:=fun G hG=>
   ⟨fun j hj=>(hG j (by omega)).trans (k3 j hj),(hG _ (by omega)).trans gon,(hG _ (by omega)).trans gco⟩
  have notEv:C3 x.kind=false→k<s.rows.length∧k+1≤s.rows.length∧C.next+2≤((E.push (.row (AI DF) 46 false false)).put E.next (.row (AI x) 46 false false)).next∧((E.push (.row (AI DF) 46 false false)).put E.next (.row (AI x) 46 false false)).floor=h.floor∧(∀ j,j<C.next→((E.push (.row (AI DF) 46 false false)).put E.next (.row (AI x) 46 false false)).get j=C.get j) ∧
    ∃ c:HJ,c.on.length=s.queues.length∧((E.push (.row (AI DF) 46 false false)).put E.next (.row (AI x) 46 false false)).get C.next=.row (ints c.on) 3 false false∧((E.push (.row (AI DF) 46 false false)).put E.next (.row (AI x) 46 false false)).get (C.next+1)=.row [qS C.next s.queues.length s.queues.length,iv c.miss] 65 false false∧D_ s.rows (AZ s.rows (AG (AY s.rows)) rd S) (s.rows.length-(k+1)) (k+1) c=D_ s.rows (AZ s.rows (AG (AY s.rows)) rd S) s.rows.length 0 ⟨List.replicate s.queues.length 0,0⟩:=fun hne=>by
   obtain⟨q1,q2,q3⟩:=keepC _ oX
   rw[if_pos hne] at hgo
   exact⟨hlk,by omega,by omega,by omega,q1,c,hcl,q2,q3,hgo⟩
  cases d8:decide (x.kind<8) with
  | true=>
   have hne:C3 x.kind=false:=by
    have:=of_decide_eq_true d8
    unfold C3
    rw[decide_eq_false (by omega)]
    rfl
   simp only[eE,seval,↓eP,t4,t5,t9,t12,t78,t79,t80,c3,b0,HX,lr,GA,hzx,C4,LQ,PH,Bool.and_self,hst,DI,A_,hlx0,d8,w1]
   exact notEv hne
  | false=>
  cases d10:decide (x.kind>10) with
  | true=>
   have hne:C3 x.kind=false:=by
    have:=of_decide_eq_true d10
    unfold C3
    rw[decide_eq_false (show ¬ x.kind≤10 by omega),Bool.and_false]
   simp only[eE,seval,↓eP,t4,t5,t9,t12,t78,t79,t80,c3,b0,HX,lr,GA,hzx,C4,LQ,PH,Bool.and_self,hst,DI,A_,hlx0,d8,d10,w1]
   exact notEv hne
  | false=>
  have hev:C3 x.kind=true:=by
   have:=of_decide_eq_false d8
   have:=of_decide_eq_false d10
   unfold C3
   rw[decide_eq_true (show x.kind≥8 by omega),decide_eq_true (show x.kind≤10 by omega)]
   rfl
  rw[if_neg (by rw[hev];decide)] at hgo
  obtain⟨v1,v2⟩:=hgood.evs k x hx hev
  have hsub:=hgood.t.end v1
  have hsl:=hsub.lt
  have w2:IntKind.i64.wrap ((k:Int)+1)=((k+1:Nat):Int):=w1
  have hlx3:AO 3 (((E.push (.row (AI DF) 46 false false)).put E.next (.row (AI x) 46 false false)).get E.next)=some (iv x.n):=by rw[gX];rfl
  have vle:=SK (R:=s.rows) (e:=AG (AY s.rows)) (at_:=k+1) hRd hSi
  simp only[eE,seval,↓eP,t9,t78,t79,t80,c3,b0,HX,lr,GA,hzx,C4,LQ,PH,Bool.and_self,hst,DI,A_,hlx0,d8,d10,w1]
  generalize (E.push (.row (AI DF) 46 false false)).put E.next (.row (AI x) 46 false false)=X at *
  obtain⟨kk1,kk2,kk3⟩:=keepC X oX
  have hbd:=r_ hgood.t hgood.sk hgood.kk hRd hlen hSi (by omega) s.rows.length n (k+1) _ X hsub (by omega) (hcalls _ _) (by omega) (hbE.mono (by omega) oX) (by omega)
  cases dm:decide (AZ s.rows (AG (AY s.rows)) rd S (k+1)>72057594037927936) with
  | true=>
   rw[if_pos (of_decide_eq_true dm)] at hgo
   rw[← hgo] at hbn
   obtain⟨⟨H2,H3⟩,s1,s2,q1,q2,q3,q4,q5⟩:=st2 X (Z0) 0 61 k rfl (by rw[oX _ (by omega)];exact gCE) (by rw[oX _ (by omega)];exact gDE) (by omega) (by omega)
   simp only at s1 s2 q1 q2 q3 q4 q5
   simp only[eE,seval,↓eP,t4,t5,hbd,dm,OQ,NF,s1,s2]
   exact fin _ _ _ _ _ _ (by simp only[eE,seval,↓eP,rP,t4]) (by simp only[eE,seval,↓eP,rP,t5]) q1 q2 (by rw[hbn];exact NY _ _) (by rw[hbn]) (by omega) (by omega) fun i hi=>by rw[q5 i (by omega) (by omega),oX i (by omega),oE i hi]
  | false=>
  rw[if_neg (of_decide_eq_false dm)] at hgo
  have ET:(E.next<X.next)=True:=by simp;omega
  cases de:(x.kind==10) with
  | true=>
   have h10:x.kind=10:=by simpa using de
   rw[if_pos h10] at hgo
   have hst2:=FU (off:=1) (t:=3) (v:=iv (AZ s.rows (AG (AY s.rows)) rd S (k+1))) CU rfl rfl kk3 (by show 1<2;decide) (by omega)
   have hst3:BH Tryd.prog X 3 (qP (C.next+1) 1) (iv (AZ s.rows (AG (AY s.rows)) rd S (k+1)))=some (X.put (C.next+1) (.row [qS C.next s.queues.length s.queues.length,iv (AZ s.rows (AG (AY s.rows)) rd S (k+1))] 65 false false)):=hst2
   simp only[eE,seval,↓eP,t4,t5,t9,t12,t78,t79,t80,hbd,dm,DI,A_,hlx0,de,Nat.zero_add,YO,hst3,w1]
   refine⟨hlk,by omega,by show C.next+2≤X.next;omega,by show X.floor=_;omega,fun j hj=>by rw[AK (by omega) (by omega)];exact kk1 j hj,⟨c.on,AZ s.rows (AG (AY s.rows)) rd S (k+1)⟩,hcl,by rw[AK (by omega) (by omega)];exact kk2,BI rfl (by omega),hgo⟩
  | false=>
   have h10:x.kind≠10:=by simpa using de
   rw[if_neg h10] at hgo
   obtain⟨v3,v4⟩:=v2 h10
   obtain⟨kn,hkn⟩:∃ kn:Nat,x.n=(kn:Int):=⟨x.n.toNat,by omega⟩
   have hon:=hgood.on
   rw[hkn] at hlx3 v4
   rw[hkn,Int.toNat_natCast] at hgo
   have lon:AO 0 (X.get (C.next+1))=some (qS C.next s.queues.length s.queues.length):=by rw[kk3];rfl
   have ix:=F6 (id:=C.next) (n:=s.queues.length) (c:=s.queues.length) (i:=kn) (by omega)
   have hst3:=LV (x:=AZ s.rows (AG (AY s.rows)) rd S (k+1)) kk2 (show kn<c.on.length by omega) (by omega)
   simp only[eE,seval,↓eP,t4,t5,t9,t12,t78,t79,t80,hbd,dm,DI,A_,hlx0,de,Nat.zero_add,RE,CC,lon,I_,hlx3,ix,hst3,w1]
   refine⟨hlk,by omega,by show C.next+2≤X.next;omega,by show X.floor=_;omega,fun j hj=>by rw[AK (by omega) (by omega)];exact kk1 j hj,⟨c.on.set kn (AZ s.rows (AG (AY s.rows)) rd S (k+1)),c.miss⟩,by rw[List.length_set];exact hcl,BI rfl (by omega),by rw[AK (by omega) (by omega)];exact kk3,hgo⟩
 ·have c3:decide ((k:Int)<(s.rows.length:Int))=false:=by simp;omega
  rw[show s.rows.length-k=0 by omega] at hgo
  have hgo':D_ s.rows (AZ s.rows (AG (AY s.rows)) rd S) s.rows.length 0 ⟨List.replicate s.queues.length 0,0⟩=((0,0),c):=hgo.symm
  rw[hgo'] at hbn
  have lco:BL 2 0 (E.get (C.next+1))=some (cV (qS C.next s.queues.length s.queues.length) c.miss):=by rw[gco];rfl
  obtain⟨⟨H2,H3⟩,s1,s2,q1,q2,q3,q4,q5⟩:=st2 E (qS C.next s.queues.length s.queues.length) c.miss 0 0 rfl gCE gDE k2 (by omega)
  simp only at s1 s2 q1 q2 q3 q4 q5
  simp only[eE,seval,↓eP,t4,t5,t12,t79,t80,c3,UQ,lco,SV,s1,s2]
  exact fin _ _ _ _ _ _ (by simp only[eE,seval,↓eP,rP,t4]) (by simp only[eE,seval,↓eP,rP,t5]) q1 q2 (by rw[hbn];exact⟨_,rfl,.inr ⟨C.next,by rw[hcl],by omega,by omega,(q5 _ (by omega) (by omega)).trans gon⟩⟩) (by rw[hbn]) (by omega) (by omega) fun i hi=>by rw[q5 i (by omega) (by omega),oE i hi]
theorem iR {h h1:AA} {nm:ByteArray} {s:AS} {rd:List Int} {v:Value} (hf:FP v=true) (ht:NW h nm s rd v h1):NW h nm s rd v h:=by
 obtain⟨cv,rfl,⟨vo,rfl,h2⟩,_⟩:=ht
 refine⟨_,rfl,⟨vo,rfl,?_⟩,rfl,Nat.le_refl _,fun _ _=>rfl⟩
 rcases h2 with h2 | ⟨id,rfl,_⟩
 ·exact .inl h2
 ·simp[FP,flat,B9] at hf
theorem Qi {nm:ByteArray} {s:AS} {W:List (Int × Int × Int)} {G rd:List Int} {pv tv:Value} {lo lt:Nat} {h:AA} (hp:DJ lo h pv nm s) (hlies:∀ nm' vr vq vv vt vu vo m,pv=.agg #[.string nm',vr,vq,vv,vt,vu,vo,m]→PV vr s.rows.length) (hty:L7 lt h tv W G rd) (hs:IJ s) (hl:s.rows.length<2932031007403) (hrl:rd.length<2932031007403)
  (hfl:h.floor≤h.next) (hg:h.get 0=ED) (hn0:0<h.next) (hn:2*F8 s+rd.length+400<n):∃ v' h',AX n 41 [pv,tv] h=some (v',h')∧NW h nm s rd v' h':=by
 obtain⟨n,rfl⟩:∃ j,n=j+1:=⟨n-1,by omega⟩
 exact M5 (CP ⟨rfl,rfl,rfl⟩) (Bu (n:=n) (N:=n) hp hlies hty hs hl hrl hfl hg hn0 (by omega) (by omega)) fun v' h1 hf _ ht=>iR hf ht
end
theorem TE:BN Tryd.prog 110=some 3:=by kernel_rfl
theorem kW:IB Tryd.prog 110=some 24:=by kernel_rfl
abbrev IC (a b c:Int):Value:=.agg #[iv a,iv b,iv c]
theorem XA:DQ Tryd.prog 110=some (IC 0 0 0):=by kernel_rfl
theorem Dt:HC Tryd.prog (match Tryd.prog.underlying 110 with | some (.struct fs)=>fs.toList | _=>[])=some [(0,1),(1,1),(2,1)]:=by kernel_rfl
theorem Qd:HC Tryd.prog (match Tryd.prog.underlying 70 with | some (.struct fs)=>fs.toList | _=>[])=some [(0,1),(1,1),(2,1)]:=by kernel_rfl
theorem Rf {a:Int}:DG Tryd.prog 110 [(0,iv a)]=some (IC a 0 0):=by
 have h:=Dt
 rw[Tryd.underlying110] at h
 simp only at h
 have hf:flat (IC 0 0 0)=true:=rfl
 simp only[DG,XA,hf,if_true,Tryd.underlying110,h]
 rfl
theorem QM:flat (.agg #[Z0,Z0,Z0])=true:=rfl
theorem Cb {a b:Option Addr} {n c m d:Nat}:DG Tryd.prog 70 [(1,.slice a n c),(2,.slice b m d)]=some (.agg #[Z0,.slice a n c,.slice b m d]):=by
 have h:=Qd
 rw[Tryd.underlying70] at h
 simp only at h
 simp only[DG,QJ,QM,if_true,Tryd.underlying70,h]
 rfl
theorem Pp {h:AA} {a b c:Int}:FI Tryd.prog h 68 1 [(0,IC a b c)]=some (qS h.next 1 1,h.push (.row [iv a,iv b,iv c] 110 false false)):=by
 simp[FI,Tryd.underlying68,TE,XA,flat,B9,E6,IL,C0,Go.Sx.lay]
theorem P_ {lo:Nat} {h:AA} {v:Value} {n w:Nat} {cs:List Value} (hc:A7 lo h v n w cs) (h':AA):BZ Tryd.prog h' 68 v=some (iv (n:Int)):=A7.len hc Tryd.underlying68
theorem Df (l:List (Int × Int × Int)):(vcells l).all one=true:=by
 unfold vcells
 rw[List.all_flatMap]
 exact List.all_eq_true.2 fun x _=>rfl
noncomputable def pD:Array Oper:=DR Tryd.f45 16
def Ct:List (Bool × Bool × List Operand):=[AW,AJ [.tmp 2],AJ [.tmp 2],AJ [.tmp 2,.tmp 70],AJ [.tmp 2,.tmp 70],AJ [.tmp 2,.tmp 70],AJ [.tmp 2,.tmp 70],AJ [.tmp 2,.tmp 70,.tmp 74],AJ [.tmp 2,.tmp 70],AJ [.tmp 2,.tmp 70],AL,AL]
theorem Ea:DU pD=Ct:=by kernel_rfl
section
variable {n N:Nat}
theorem yW {nm:ByteArray} {s:AS} {W:List (Int × Int × Int)} {G rd:List Int} {pv tv:Value} {lo lt:Nat} {h:AA} (hp:DJ lo h pv nm s) (h64:∀ x∈s.rows,x.kids≤9223372036854775807) (hty:L7 lt h tv W G rd) (hs:IJ s) (hl:s.rows.length<2932031007403) (hrl:rd.length<2932031007403)
  (hfl:h.floor≤h.next) (hn:2*F8 s+100400<n) (hN:F8 s+rd.length+200<N) :
  ∃ v' h',A9 Tryd.prog (AX n) N 45 [pv,tv] h=some (v',h')∧NW h nm s rd v' h':=by
 have hsn:=(FH n).2
 refine MO (R:=NW h nm s rd) Tryd.func45 rfl (by simp[Tryd.f45]) ?_
 have hr:Tryd.f45.results.toList=[.cell 4 65,.cell 5 33]:=rfl
 obtain⟨vr,vq,vv,vt,vu,vo,rfl,p1,p2,p3,p4,p5,p6⟩:=id hp
 obtain⟨tw,tg,td,rfl,y1,y2,y3⟩:=id hty
 have ca:=F7 [.string nm,vr,vq,vv,vt,vu,vo,iv s.miss]
 have oa:=MJ (nm:=nm) p1 p2 p3 p4 p5 p6
 have cy:=F7 [tw,tg,td]
 have oy:[tw,tg,td].all one=true:=by simp only[List.all_cons,List.all_nil,y1.one,A7.one y2,A7.one y3,Bool.and_self]
 have zcC:(cV (Z0) 0).cells.toList=[Z0,iv 0]:=rfl
 generalize hKK:B7.top (fun e s_1=>(e=DK.normal∨e=DK.ret)∧∃ vs,E8 Tryd.prog s_1 Tryd.f45.results.toList=some vs∧NW h nm s rd (GR vs) s_1.h)=K
 have fin:∀ (T':Tr) (H':AA) vo' m e p,T'.get 4=qP (h.next+2) 0→T'.get 5=qP (h.next+3) 0→H'.get (h.next+2)=.row [vo',iv m] 65 false false→H'.get (h.next+3)=.row [iv e,iv p] 33 false false→IP h.next H' (cV vo' m) (DW nm s rd).2→(DW nm s rd).1=(e,p)→h.next≤H'.next→H'.floor=h.floor→(∀ i,i<h.next→H'.get i=h.get i)→K.ap Tryd.prog (AX n) N .ret ⟨T',H'⟩:=by
  intro T' H' vo' m e p t4 t5 g4 g5 hc he hnx hf hold
  have l4:BL 2 0 (H'.get (h.next+2))=some (cV vo' m):=by rw[g4];rfl
  have l5:BL 2 0 (H'.get (h.next+3))=some (EN e p):=by rw[g5];rfl
  rw[← hKK]
  simp only[eE,seval,↓eP,hr,t4,t5,UQ,K8,l4,l5]
  exact⟨_,by rw[he],hc,hf,hnx,hold⟩
 obtain⟨gA,gB,gC,gD,nA,fA,oA⟩:=pO h (.row [.string nm,vr,vq,vv,vt,vu,vo,iv s.miss] 30 false false) (.row [tw,tg,td] 70 false false) (.row [Z0,iv 0] 65 false false) (.row [iv 0,iv 0] 33 false false)
 simp only[eE,seval,↓eP,DC,C8,C4,ca,oa,cy,oy,HM,NT,IG,N8,zcC,HU,HT,ME]
 generalize (((h.push (.row [.string nm,vr,vq,vv,vt,vu,vo,iv s.miss] 30 false false)).push (.row [tw,tg,td] 70 false false)).push (.row [Z0,iv 0] 65 false false)).push (.row [iv 0,iv 0] 33 false false)=A at *
 have lP:BL 8 0 (A.get h.next)=some (.agg #[.string nm,vr,vq,vv,vt,vu,vo,iv s.miss]):=NO gA rfl
 have lY:BL 3 0 (A.get (h.next+1))=some (.agg #[tw,tg,td]):=by rw[gB];rfl
 have lY2:AO 2 (A.get (h.next+1))=some td:=by rw[gB];rfl
 have lP1:AO 1 (A.get h.next)=some vr:=by rw[gA];rfl
 have hpA:=hp.mono (h':=A) (by omega) fun i _ hi=>oA i hi
 have hchk:=Kn (n:=n) hpA h64 hs (by omega) (by omega) (by omega)
 have st2:∀ (H:AA) vo' m e p,one vo'=true→H.get (h.next+2)=.row [Z0,iv 0] 65 false false→H.get (h.next+3)=.row [iv 0,iv 0] 33 false false→H.floor=h.floor→h.next+4≤H.next →
   ∃ H':AA × AA,BH Tryd.prog H 65 (qP (h.next+2) 0) (cV vo' m)=some H'.1∧BH Tryd.prog H'.1 33 (qP (h.next+3) 0) (EN e p)=some H'.2∧H'.2.get (h.next+2)=.row [vo',iv m] 65 false false∧H'.2.get (h.next+3)=.row [iv e,iv p] 33 false false∧H'.2.next=H.next∧H'.2.floor=H.floor∧∀ i,i≠h.next+2→i≠h.next+3→H'.2.get i=H.get i:=fun H vo' m e p ho g2 g3 hf hx=>by
  have a1:=GY (t:=65) MY (vs:=[vo',iv m]) g2 rfl rfl (by simp only[List.all_cons,List.all_nil,ho,JY,Bool.and_self]) (by omega)
  have g3':(H.put (h.next+2) (.row [vo',iv m] 65 false false)).get (h.next+3)=.row [iv 0,iv 0] 33 false false:=by rw[AK (by omega) (by omega)];exact g3
  have a2:=GY (t:=33) MF (vs:=[iv e,iv p]) g3' rfl rfl rfl (by show H.floor≤_;omega)
  refine⟨⟨_,_⟩,a1,a2,?_,BI rfl (by show h.next+3<H.next;omega),rfl,rfl,fun i h1 h2=>?_⟩
  ·show ((H.put _ _).put _ _).get _=_
   rw[AK (by show h.next+3<H.next;omega) (by omega)]
   exact BI rfl (by omega)
  ·show ((H.put _ _).put _ _).get _=_
   rw[AK (by show h.next+3<H.next;omega) (Ne.symm h2),AK (by omega) (Ne.symm h1)]
 cases dc:(F3 nm s != 0) with
 | true=>
  have hcn:F3 nm s≠0:=by simpa using dc
  have hbn:DW nm s rd=((F3 nm s,0),zC):=by unfold DW;rw[if_pos hcn]
  obtain⟨⟨H1,H2⟩,s1,s2,q1,q2,q3,q4,q5⟩:=st2 A (Z0) 0 (F3 nm s) 0 rfl gC gD fA (by omega)
  simp only at s1 s2 q1 q2 q3 q4 q5
  simp only[eE,seval,↓eP,GX,lP,hchk,dc,OQ,OW,s1,s2]
  exact fin _ _ _ _ _ _ (by simp only[eE,seval,↓eP,rP]) (by simp only[eE,seval,↓eP,rP]) q1 q2 (by rw[hbn];exact NY _ _) (by rw[hbn]) (by omega) (by omega) fun i hi=>(q5 i (by omega) (by omega)).trans (oA i hi)
 | false=>
 have hck:F3 nm s=0:=by simpa using dc
 have lenR:=fun h'=>YY p1.2 h'
 have lenD:=fun h'=>I7 y3 h'
 have noB:¬ (rd.length=s.rows.length∧GH rd)→DW nm s rd=((43,0),zC):=fun h9=>by unfold DW;rw[if_neg (by rw[hck];decide),if_pos h9]
 simp only[eE,seval,↓eP,Nat.zero_add,GX,lP,hchk,dc,J_,CC,lY2,lenD,CR,CI,lP1,lenR]
 refine WK.loop (fun i s'=>s'.h=A∧s'.T.get 2=qP h.next 0∧s'.T.get 3=qP (h.next+1) 0∧s'.T.get 4=qP (h.next+2) 0∧s'.T.get 5=qP (h.next+3) 0∧s'.T.get 8=iv i∧i≤rd.length∧∃ b:Bool,s'.T.get 7=.bool b∧(b=true→¬ (rd.length=s.rows.length∧GH rd))∧(b=false→rd.length=s.rows.length∧∀ x∈rd.take i,0≤x∧x≤4194304)) rd.length (by omega) ?_ ?_
 ·refine⟨rfl,by simp only[eE,seval,↓eP,rP],by simp only[eE,seval,↓eP,rP],by simp only[eE,seval,↓eP,rP],by simp only[eE,seval,↓eP,rP],by simp only[eE,seval,↓eP,rP],by omega,((rd.length:Int) != (s.rows.length:Int)),by simp only[eE,seval,↓eP,rP],fun h9 h8=>?_,fun h9=>⟨?_,fun x hx=>by simp at hx⟩⟩
  ·rw[h8.1] at h9
   simp at h9
  ·have h8:(rd.length:Int)=(s.rows.length:Int):=by simpa using h9
   omega
 rintro i ⟨T1,H1⟩ hi ⟨hH1,t2,t3,t4,t5,t8,hil,b,t7,hb1,hb2⟩
 simp only at t2 t3 t4 t5 t7 t8 hH1
 subst hH1
 have y3A:AN lt H1 td rd:=AN.mono y3 (by omega) fun i _ hi=>oA i hi
 cases b with
 | true=>
  have hbn:=noB (hb1 rfl)
  obtain⟨⟨H2,H3⟩,s1,s2,q1,q2,q3,q4,q5⟩:=st2 H1 (Z0) 0 43 0 rfl gC gD fA (by omega)
  simp only at s1 s2 q1 q2 q3 q4 q5
  cases c1:decide ((i:Int)<(rd.length:Int)) with
  | true=>
   simp only[eE,seval,↓eP,Nat.zero_add,t3,t4,t5,t7,t8,J_,CC,lY2,lenD,c1,OQ,OW,s1,s2]
   exact fin _ _ _ _ _ _ (by simp only[eE,seval,↓eP,rP,t4]) (by simp only[eE,seval,↓eP,rP,t5]) q1 q2 (by rw[hbn];exact NY _ _) (by rw[hbn]) (by omega) (by omega) fun i hi=>(q5 i (by omega) (by omega)).trans (oA i hi)
  | false=>
   simp only[eE,seval,↓eP,Nat.zero_add,t3,t4,t5,t7,t8,J_,CC,lY2,lenD,c1,OQ,OW,s1,s2]
   exact fin _ _ _ _ _ _ (by simp only[eE,seval,↓eP,rP,t4]) (by simp only[eE,seval,↓eP,rP,t5]) q1 q2 (by rw[hbn];exact NY _ _) (by rw[hbn]) (by omega) (by omega) fun i hi=>(q5 i (by omega) (by omega)).trans (oA i hi)
 | false=>
 obtain⟨hlen,hrs⟩:=hb2 rfl
 by_cases hlt:i<rd.length
 ·have c1:decide ((i:Int)<(rd.length:Int))=true:=by simp;omega
  obtain⟨x,hx⟩:∃ x,rd[i]?=some x:=⟨_,List.getElem?_eq_getElem hlt⟩
  obtain⟨id,p,a1,a2,a3⟩:=AN.get y3A hx
  have w1:=C6 i (by omega)
  cases d1:decide (x<0) with
  | true=>
   have:=of_decide_eq_true d1
   simp only[eE,seval,↓eP,Nat.zero_add,t2,t3,t4,t5,t7,t8,J_,CC,lY2,lenD,c1,a1,A_,a3,d1,w1]
   exact⟨hlt,hlt,true,rfl,fun _ h9=>by have:=h9.2 x (List.mem_of_getElem? hx);omega,fun h9=>by cases h9⟩
  | false=>
  cases d2:decide (x>4194304) with
  | true=>
   have:=of_decide_eq_true d2
   simp only[eE,seval,↓eP,Nat.zero_add,t2,t3,t4,t5,t7,t8,J_,CC,lY2,lenD,c1,a1,A_,a3,d1,d2,w1]
   exact⟨hlt,hlt,true,rfl,fun _ h9=>by have:=h9.2 x (List.mem_of_getElem? hx);omega,fun h9=>by cases h9⟩
  | false=>
   simp only[eE,seval,↓eP,Nat.zero_add,t2,t3,t4,t5,t7,t8,J_,CC,lY2,lenD,c1,a1,A_,a3,d1,d2,w1]
   refine⟨hlt,hlt,false,rfl,fun h9=>(by cases h9),fun _=>⟨hlen,fun z hz=>?_⟩⟩
   rw[List.take_add_one,hx] at hz
   simp only[Option.toList_some,List.mem_append,List.mem_cons,List.not_mem_nil,or_false] at hz
   rcases hz with hz | rfl
   ·exact hrs z hz
   ·have:=of_decide_eq_false d1
    have:=of_decide_eq_false d2
    omega
 have c1:decide ((i:Int)<(rd.length:Int))=false:=by simp;omega
 have hRd:GH rd:=by rw[List.take_of_length_le (by omega)] at hrs;exact hrs
 have hgood:=lX hck (by omega)
 have hbn:DW nm s rd=D_ s.rows (AZ s.rows (AG (AY s.rows)) rd (EW s.rows (AG (AY s.rows)) rd s.rules [])) s.rows.length 0 ⟨List.replicate s.queues.length 0,0⟩:=by
  unfold DW
  rw[if_neg (by rw[hck];decide),if_neg fun h9=>h9 ⟨hlen,hRd⟩]
 clear hchk hil hi
 unfold F8 at hn hN
 have hsmall:=hs
 unfold IJ at hsmall
 have hRl:(AY s.rows).length=s.rows.length:=by unfold AY;rw[List.length_map]
 have p1A:AU H1 vr s.rows:=p1.1.mono (by omega) oA
 obtain⟨E1,he1,ge1,ne1,fe1,oe1⟩:=Ny (n:=n) hgood.t hgood.sk p1A (by omega) (by omega) (by omega)
 have lP5:AO 5 (E1.get h.next)=some vu:=by rw[oe1 _ (by omega),gA];rfl
 have lenU:=fun h'=>I7 p5 h'
 simp only[eE,seval,↓eP,Nat.zero_add,t2,t3,t7,t8,J_,CC,lY2,lenD,c1,CR,CI,lP1,he1]
 generalize hb:H1.next=b at *
 refine WK.loop (fun i s'=>s'.T.get 2=qP h.next 0∧s'.T.get 3=qP (h.next+1) 0∧s'.T.get 4=qP (h.next+2) 0∧s'.T.get 5=qP (h.next+3) 0∧s'.T.get 9=qS b (AY s.rows).length (AY s.rows).length∧s'.T.get 11=iv i∧i≤s.rules.length∧b+1≤s'.h.next∧s'.h.floor=h.floor∧(∀ j,j<b+1→s'.h.get j=E1.get j) ∧
  ∃ w,s'.T.get 10=w∧GJ s'.h (b+1) w (EW s.rows (AG (AY s.rows)) rd (s.rules.take i) [])) s.rules.length (by omega) ?_ ?_
 ·exact⟨by simp only[eE,seval,↓eP,rP,t2],by simp only[eE,seval,↓eP,rP,t3],by simp only[eE,seval,↓eP,rP,t4],by simp only[eE,seval,↓eP,rP,t5],by simp only[eE,seval,↓eP,rP],by simp only[eE,seval,↓eP,rP],by omega,by show b+1≤E1.next;omega,by show E1.floor=_;omega,fun _ _=>rfl,Z0,by simp only[eE,seval,↓eP,rP],.inl ⟨rfl,rfl⟩⟩
 rintro i ⟨T2,C⟩ hi ⟨t2,t3,t4,t5,t9,t11,hil,m1,m2,m3,w,t10,hL⟩
 simp only at t2 t3 t4 t5 t9 t11 m1 m2 m3 t10 hL
 have oC:∀ j,j<h.next→C.get j=h.get j:=fun j hj=>by rw[m3 j (by omega),oe1 j (by omega),oA j hj]
 have oCA:∀ j,j<h.next+4→C.get j=H1.get j:=fun j hj=>by rw[m3 j (by omega),oe1 j (by omega)]
 have hpC:=hp.mono (h':=C) (by omega) fun j _ hj=>oC j hj
 have dC:AN 0 C td rd:=AN.mono (AN.weak y3 (Nat.zero_le _)) (by omega) fun j _ hj=>oC j hj
 have eC:AN 0 C (qS b (AY s.rows).length (AY s.rows).length) (AR (AY s.rows)):=AN.row' (by rw[m3 b (by omega)];exact ge1) ⟨Nat.zero_le _,by omega⟩ OA.symm
 have lPC:BL 8 0 (C.get h.next)=some (.agg #[.string nm,vr,vq,vv,vt,vu,vo,iv s.miss]):=by rw[oCA _ (by omega)];exact lP
 have lYC:AO 2 (C.get (h.next+1))=some td:=by rw[oCA _ (by omega)];exact lY2
 have lP5C:AO 5 (C.get h.next)=some vu:=by rw[oCA _ (by omega),gA];rfl
 have hSi:C1 (EW s.rows (AG (AY s.rows)) rd (s.rules.take i) []):=SP hRd _ _ fun x hx=>by simp at hx
 by_cases hlt:i<s.rules.length
 ·have c1:decide ((i:Int)<(s.rules.length:Int))=true:=by simp;omega
  obtain⟨ru,hru⟩:∃ ru,s.rules[i]?=some ru:=⟨_,List.getElem?_eq_getElem hlt⟩
  obtain⟨r0,r1,r2⟩:=hgood.rules i ru hru
  obtain⟨r,rfl⟩:∃ r:Nat,ru=(r:Int):=⟨ru.toNat,by omega⟩
  rw[Int.toNat_natCast] at r1 r2
  have hsub:=hgood.t.end r1
  have hsl:=hsub.lt
  have hSl:(EW s.rows (AG (AY s.rows)) rd (s.rules.take i) []).length=i:=by rw[UD,List.length_take];simp;omega
  obtain⟨iu,pu,a1,a2,a3⟩:=AN.get (AN.mono (AN.weak p5 (Nat.zero_le _)) (by omega) fun j _ hj=>oC j hj) hru
  have hbd:=mK (n:=n) hpC eC dC (GJ.ints hL (Nat.zero_le _)) hgood.t hgood.sk hgood.kk hRd hlen hSi hsub (r2 _ hSl) (by omega) (by omega) (by omega)
  obtain⟨w',D,happ,hL',fD,nD,oD⟩:=T0 (x:=AZ s.rows (AG (AY s.rows)) rd (EW s.rows (AG (AY s.rows)) rd (s.rules.take i) []) r) hL m1 (by omega) (by omega)
  have hff:C.fl C.floor=C:=rfl
  have w1:=C6 i (by omega)
  simp only[eE,seval,↓eP,Nat.zero_add,t2,t11,F2,CC,lP5C,lenU,c1]
  refine WK.flags (ops:=pD) Ea ?_
  refine BQ.begin ?_
  refine AF hsn 0 (some 69) (.load 30 (.tmp 2)) none ?_
  simp only[rG,seval,AB,AD,AC,BU,hff,t2,lPC,GX,Nat.zero_add]
  refine AF hsn 1 (some 70) (.fieldAddr 70 (.tmp 3) 2) none ?_
  simp only[rG,seval,AB,AD,AC,Nat.zero_add,hff,t3,J_,Nat.zero_add]
  refine AF hsn 2 (some 71) (.load 28 (.tmp 70)) none ?_
  simp only[rG,seval,AB,AD,AC,BU,hff,lYC,CC]
  refine AF hsn 3 (some 72) (.move (.tmp 9)) none ?_
  simp only[rG,seval,AB,AD,AC,hff,t9]
  refine AF hsn 4 (some 73) (.move (.tmp 10)) none ?_
  simp only[rG,seval,AB,AD,AC,hff,t10]
  refine AF hsn 5 (some 74) (.fieldAddr 30 (.tmp 2) 5) none ?_
  simp only[rG,seval,AB,AD,AC,Nat.zero_add,hff,t2,F2,Nat.zero_add]
  refine AF hsn 6 (some 75) (.load 28 (.tmp 74)) none ?_
  simp only[rG,seval,AB,AD,AC,BU,hff,lP5C,CC]
  refine AF hsn 7 (some 76) (.move (.tmp 11)) none ?_
  simp only[rG,seval,AB,AD,AC,hff,t11]
  refine AF hsn 8 (some 77) (.indexAddr 28 (.tmp 75) (.tmp 76)) none ?_
  simp only[rG,seval,AB,AD,AC,hff,a1]
  refine AF hsn 9 (some 78) (.load 3 (.tmp 77)) none ?_
  simp only[rG,seval,AB,AD,AC,BU,hff,A_,a3]
  refine AF hsn 10 (some 79) (.call { callee:=.value (.func 78),args:=#[.tmp 69,.tmp 71,.tmp 72,.tmp 73,.tmp 78],argTypes:=#[30,28,28,28,3] }) none ?_
  simp only[rG,seval,AB,AD,AC,CF,hff,hbd]
  refine AF hsn 11 (some 12) (.assign (.tmp 79)) none ?_
  simp only[rG,seval,AB,AD,AC,hff]
  refine BQ.done (i:=12) (by kernel_rfl) ?_
  simp only[eE,seval,↓eP,t2,t3,t4,t5,t9,t10,t11,MB,happ,w1]
  refine⟨hlt,by omega,by omega,by omega,fun j hj=>(oD j (by omega)).trans (m3 j hj),?_⟩
  rw[aB i _ _ hru,Int.toNat_natCast]
  exact hL'
 have c2:decide ((i:Int)<(s.rules.length:Int))=false:=by simp;omega
 rw[List.take_of_length_le (show s.rules.length≤i by omega)] at hL hSi
 have hSl:(EW s.rows (AG (AY s.rows)) rd s.rules []).length=s.rules.length:=by rw[UD];simp
 have hcalls:=fun p q=>hgood.calls _ p q hSl
 generalize EW s.rows (AG (AY s.rows)) rd s.rules []=S at *
 have hon:=hgood.on
 have sC:=GJ.ints hL (Nat.zero_le (b+1))
 have lP6:AO 6 (C.get h.next)=some vo:=by rw[oCA _ (by omega),gA];rfl
 have lP1C:AO 1 (C.get h.next)=some vr:=by rw[oCA _ (by omega)];exact lP1
 have gC2:C.get (h.next+2)=.row [Z0,iv 0] 65 false false:=by rw[oCA _ (by omega)];exact gC
 have gD2:C.get (h.next+3)=.row [iv 0,iv 0] 33 false false:=by rw[oCA _ (by omega)];exact gD
 have KV:∀ h',BZ Tryd.prog h' 28 vo=some (iv (s.queues.length:Int)):=fun h'=>by rw[← hon];exact I7 p6 h'
 have hmk:=N4 (h:=C) (n:=s.queues.length) (by omega)
 have g1:∀ (a:BF) (x y:List Value),let D:=((C.push a).push (.row x 65 false false)).put (C.next+1) (.row y 65 false false)
   D.get C.next=a∧D.get (C.next+1)=.row y 65 false false∧D.next=C.next+2∧D.floor=C.floor∧∀ i,i<C.next→D.get i=C.get i:=fun a x y=>by
  have q1:(C.push a).next=C.next+1:=rfl
  have q2:((C.push a).push (.row x 65 false false)).next=C.next+2:=rfl
  refine⟨?_,BI rfl (by omega),rfl,rfl,fun i hi=>?_⟩
  ·rw[AK (by omega) (by omega),AP (by omega),BO]
  ·rw[AK (by omega) (by omega),AP (by omega),AP hi]
 obtain⟨gon,gco,nD,fD,oD⟩:=g1 (.row (ints (List.replicate s.queues.length 0)) 3 false false) [Z0,iv 0] [qS C.next s.queues.length s.queues.length,iv 0]
 have hstc:=GY (t:=65) MY (h:=(C.push (.row (ints (List.replicate s.queues.length 0)) 3 false false)).push (.row [Z0,iv 0] 65 false false)) (id:=C.next+1) (vs:=[qS C.next s.queues.length s.queues.length,iv 0]) (cs:=[Z0,iv 0]) (ty:=65) (g:=false) (by exact BO (h:=C.push _)) rfl rfl rfl (by show C.floor≤_;omega)
 have hstc':BH Tryd.prog ((C.push (.row (ints (List.replicate s.queues.length 0)) 3 false false)).push (.row [Z0,iv 0] 65 false false)) 65 (qP (C.next+1) 0) (cV (qS C.next s.queues.length s.queues.length) 0)=_:=hstc
 simp only[eE,seval,↓eP,Nat.zero_add,t2,t11,F2,CC,lP5C,lenU,c2,HG,lP6,KV,hmk,iD,IG,N8,zcC,C7,hstc']
 generalize ((C.push (.row (ints (List.replicate s.queues.length 0)) 3 false false)).push (.row [Z0,iv 0] 65 false false)).put (C.next+1) (.row [qS C.next s.queues.length s.queues.length,iv 0] 65 false false)=D at *
 refine WK.loop (fun i s'=>s'.T.get 2=qP h.next 0∧s'.T.get 3=qP (h.next+1) 0∧s'.T.get 4=qP (h.next+2) 0∧s'.T.get 5=qP (h.next+3) 0∧s'.T.get 9=qS b (AY s.rows).length (AY s.rows).length∧s'.T.get 10=w∧s'.T.get 13=qP (C.next+1) 0∧s'.T.get 14=iv i∧i≤s.rows.length∧C.next+2≤s'.h.next∧s'.h.floor=h.floor∧(∀ j,j<C.next→s'.h.get j=C.get j) ∧
  ∃ c:HJ,c.on.length=s.queues.length∧s'.h.get C.next=.row (ints c.on) 3 false false∧s'.h.get (C.next+1)=.row [qS C.next s.queues.length s.queues.length,iv c.miss] 65 false false∧D_ s.rows (AZ s.rows (AG (AY s.rows)) rd S) (s.rows.length-i) i c=D_ s.rows (AZ s.rows (AG (AY s.rows)) rd S) s.rows.length 0 ⟨List.replicate s.queues.length 0,0⟩) s.rows.length (by omega) ?_ ?_
 ·exact⟨by simp only[eE,seval,↓eP,rP,t2],by simp only[eE,seval,↓eP,rP,t3],by simp only[eE,seval,↓eP,rP,t4],by simp only[eE,seval,↓eP,rP,t5],by simp only[eE,seval,↓eP,rP,t9],by simp only[eE,seval,↓eP,rP,t10],by simp only[eE,seval,↓eP,rP],by simp only[eE,seval,↓eP,rP],by omega,by show C.next+2≤D.next;omega,by show D.floor=_;omega,oD,⟨List.replicate s.queues.length 0,0⟩,List.length_replicate ..,gon,gco,rfl⟩
 rintro k ⟨T3,E⟩ hk ⟨t2,t3,t4,t5,t9,t10,t13,t14,hkl,k1,k2,k3,c,hcl,gon,gco,hgo⟩
 simp only at t2 t3 t4 t5 t9 t10 t13 t14 k1 k2 k3 gon gco
 have oE:∀ j,j<h.next→E.get j=h.get j:=fun j hj=>by rw[k3 j (by omega),oC j hj]
 have gCE:E.get (h.next+2)=.row [Z0,iv 0] 65 false false:=by rw[k3 _ (by omega)];exact gC2
 have gDE:E.get (h.next+3)=.row [iv 0,iv 0] 33 false false:=by rw[k3 _ (by omega)];exact gD2
 have lP1E:AO 1 (E.get h.next)=some vr:=by rw[k3 _ (by omega)];exact lP1C
 have lPE:BL 8 0 (E.get h.next)=some (.agg #[.string nm,vr,vq,vv,vt,vu,vo,iv s.miss]):=by rw[k3 _ (by omega)];exact lPC
 have lYE:AO 2 (E.get (h.next+1))=some td:=by rw[k3 _ (by omega)];exact lYC
 by_cases hlk:k<s.rows.length
 ·have c3:decide ((k:Int)<(s.rows.length:Int))=true:=by simp;omega
  obtain⟨x,hx⟩:∃ x,s.rows[k]?=some x:=⟨_,List.getElem?_eq_getElem hlk⟩
  have rE:AU E vr s.rows:=p1.1.mono (by omega) oE
  obtain⟨idr,pr,b0,bid,l0,l1,l2,l3,l4,lr⟩:=rE.row hx
  have hzx:(Value.agg #[iv 0,.string ByteArray.empty,iv 0,iv 0,iv 0]).cells.toList=AI DF:=rfl
  have hst:BH Tryd.prog (E.push (.row (AI DF) 46 false false)) 46 (qP E.next 0) (DM x)=some ((E.push (.row (AI DF) 46 false false)).put E.next (.row (AI x) 46 false false)):=RK (i:=0) (off:=0) (L:=[DF]) rfl BO (by decide) (by rw[DA];omega)
  have gX:((E.push (.row (AI DF) 46 false false)).put E.next (.row (AI x) 46 false false)).get E.next=.row (AI x) 46 false false:=BI rfl (by rw[C7];omega)
  have oX:∀ i,i<E.next→((E.push (.row (AI DF) 46 false false)).put E.next (.row (AI x) 46 false false)).get i=E.get i:=fun i hi=>by rw[AK (by rw[C7];omega) (by omega),AP hi]
  have nX:((E.push (.row (AI DF) 46 false false)).put E.next (.row (AI x) 46 false false)).next=E.next+1:=rfl
  have fX:((E.push (.row (AI DF) 46 false false)).put E.next (.row (AI x) 46 false false)).floor=E.floor:=rfl
  have hlx0:AO 0 (((E.push (.row (AI DF) 46 false false)).put E.next (.row (AI x) 46 false false)).get E.next)=some (iv x.kind):=by rw[gX];rfl
  have w1:=C6 k (by omega)
  have hr1:s.rows.length-k=(s.rows.length-(k+1))+1:=by omega
  rw[hr1,l_ hx] at hgo
  have keepC:∀ G:AA,(∀ i,i<E.next→G.get i=E.get i)→(∀ j,j<C.next→G.get j=C.get j)∧G.get C.next=.row (ints c.on) 3 false false∧G.get (C.next+1)=.row [qS C.next s.queues.length s.queues.length,iv c.miss] 65 false false:=fun G hG=>
   ⟨fun j hj=>(hG j (by omega)).trans (k3 j hj),(hG _ (by omega)).trans gon,(hG _ (by omega)).trans gco⟩
  have hev0:=fun H=>F5 (n:=n) (GK (k:=12) (XZ x.kind H (hgood.kindsG k x hx)))
  simp only[eE,seval,↓eP,Nat.zero_add,t2,t3,t4,t5,t9,t10,t13,t14,CR,CI,lP1E,lenR,c3,b0,HX,lr,GA,hzx,C4,LQ,PH,Bool.and_self,hst,DI,A_,hlx0,hev0]
  generalize (E.push (.row (AI DF) 46 false false)).put E.next (.row (AI x) 46 false false)=X at *
  obtain⟨kk1,kk2,kk3⟩:=keepC X oX
  cases dev:C3 x.kind with
  | false=>
   rw[if_pos dev] at hgo
   simp only[eE,seval,↓eP,w1]
   exact⟨hlk,by omega,by omega,by omega,kk1,c,hcl,kk2,kk3,hgo⟩
  | true=>
  rw[if_neg (by rw[dev];decide)] at hgo
  obtain⟨v1,v2⟩:=hgood.evs k x hx dev
  have hsub:=hgood.t.end v1
  have hsl:=hsub.lt
  have hlx3:AO 3 (X.get E.next)=some (iv x.n):=by rw[gX];rfl
  have oXC:∀ j,j<C.next→X.get j=C.get j:=kk1
  have hbd:=mK (n:=n) (hpC.mono (h':=X) (by omega) fun j _ hj=>oXC j hj) (AN.mono eC (by omega) fun j _ hj=>oXC j hj) (AN.mono dC (by omega) fun j _ hj=>oXC j hj) (AN.mono sC (by omega) fun j _ hj=>oXC j hj) hgood.t hgood.sk hgood.kk hRd hlen hSi hsub (hcalls _ _) (by omega) (by omega) (by omega)
  have lPX:BL 8 0 (X.get h.next)=some (.agg #[.string nm,vr,vq,vv,vt,vu,vo,iv s.miss]):=by rw[oX _ (by omega)];exact lPE
  have lYX:AO 2 (X.get (h.next+1))=some td:=by rw[oX _ (by omega)];exact lYE
  cases dm:decide (AZ s.rows (AG (AY s.rows)) rd S (k+1)>72057594037927936) with
  | true=>
   rw[if_pos (of_decide_eq_true dm)] at hgo
   rw[← hgo] at hbn
   obtain⟨⟨H2,H3⟩,s1,s2,q1,q2,q3,q4,q5⟩:=st2 X (Z0) 0 61 k rfl (by rw[oX _ (by omega)];exact gCE) (by rw[oX _ (by omega)];exact gDE) (by omega) (by omega)
   simp only at s1 s2 q1 q2 q3 q4 q5
   simp only[eE,seval,↓eP,Nat.zero_add,t3,t4,t5,t9,t10,t14,GX,lPX,J_,CC,lYX,w1,hbd,dm,OQ,NF,s1,s2]
   exact fin _ _ _ _ _ _ (by simp only[eE,seval,↓eP,rP,t4]) (by simp only[eE,seval,↓eP,rP,t5]) q1 q2 (by rw[hbn];exact NY _ _) (by rw[hbn]) (by omega) (by omega) fun i hi=>by rw[q5 i (by omega) (by omega),oX i (by omega),oE i hi]
  | false=>
  rw[if_neg (of_decide_eq_false dm)] at hgo
  cases de:(x.kind==10) with
  | true=>
   have h10:x.kind=10:=by simpa using de
   rw[if_pos h10] at hgo
   have hst2:=FU (off:=1) (t:=3) (v:=iv (AZ s.rows (AG (AY s.rows)) rd S (k+1))) CU rfl rfl kk3 (by show 1<2;decide) (by omega)
   have hst3:BH Tryd.prog X 3 (qP (C.next+1) 1) (iv (AZ s.rows (AG (AY s.rows)) rd S (k+1)))=some (X.put (C.next+1) (.row [qS C.next s.queues.length s.queues.length,iv (AZ s.rows (AG (AY s.rows)) rd S (k+1))] 65 false false)):=hst2
   simp only[eE,seval,↓eP,Nat.zero_add,t2,t3,t4,t5,t9,t10,t13,t14,GX,lPX,J_,CC,lYX,w1,hbd,dm,DI,A_,hlx0,de,YO,hst3]
   refine⟨hlk,by omega,by show C.next+2≤X.next;omega,by show X.floor=_;omega,fun j hj=>by rw[AK (by omega) (by omega)];exact kk1 j hj,⟨c.on,AZ s.rows (AG (AY s.rows)) rd S (k+1)⟩,hcl,by rw[AK (by omega) (by omega)];exact kk2,BI rfl (by omega),hgo⟩
  | false=>
   have h10:x.kind≠10:=by simpa using de
   rw[if_neg h10] at hgo
   obtain⟨v3,v4⟩:=v2 h10
   obtain⟨kn,hkn⟩:∃ kn:Nat,x.n=(kn:Int):=⟨x.n.toNat,by omega⟩
   rw[hkn] at hlx3 v4
   rw[hkn,Int.toNat_natCast] at hgo
   have lon:AO 0 (X.get (C.next+1))=some (qS C.next s.queues.length s.queues.length):=by rw[kk3];rfl
   have ix:=F6 (id:=C.next) (n:=s.queues.length) (c:=s.queues.length) (i:=kn) (by omega)
   have hst3:=LV (x:=AZ s.rows (AG (AY s.rows)) rd S (k+1)) kk2 (show kn<c.on.length by omega) (by omega)
   simp only[eE,seval,↓eP,Nat.zero_add,t2,t3,t4,t5,t9,t10,t13,t14,GX,lPX,J_,CC,lYX,w1,hbd,dm,DI,A_,hlx0,de,RE,lon,I_,hlx3,ix,hst3]
   refine⟨hlk,by omega,by show C.next+2≤X.next;omega,by show X.floor=_;omega,fun j hj=>by rw[AK (by omega) (by omega)];exact kk1 j hj,⟨c.on.set kn (AZ s.rows (AG (AY s.rows)) rd S (k+1)),c.miss⟩,by rw[List.length_set];exact hcl,BI rfl (by omega),by rw[AK (by omega) (by omega)];exact kk3,hgo⟩
 ·have c3:decide ((k:Int)<(s.rows.length:Int))=false:=by simp;omega
  rw[show s.rows.length-k=0 by omega] at hgo
  have hgo':D_ s.rows (AZ s.rows (AG (AY s.rows)) rd S) s.rows.length 0 ⟨List.replicate s.queues.length 0,0⟩=((0,0),c):=hgo.symm
  rw[hgo'] at hbn
  have lco:BL 2 0 (E.get (C.next+1))=some (cV (qS C.next s.queues.length s.queues.length) c.miss):=by rw[gco];rfl
  obtain⟨⟨H2,H3⟩,s1,s2,q1,q2,q3,q4,q5⟩:=st2 E (qS C.next s.queues.length s.queues.length) c.miss 0 0 rfl gCE gDE k2 (by omega)
  simp only at s1 s2 q1 q2 q3 q4 q5
  simp only[eE,seval,↓eP,Nat.zero_add,t2,t4,t5,t13,t14,CR,CI,lP1E,lenR,c3,UQ,lco,SV,s1,s2]
  exact fin _ _ _ _ _ _ (by simp only[eE,seval,↓eP,rP,t4]) (by simp only[eE,seval,↓eP,rP,t5]) q1 q2 (by rw[hbn];exact⟨_,rfl,.inr ⟨C.next,by rw[hcl],by omega,by omega,(q5 _ (by omega) (by omega)).trans gon⟩⟩) (by rw[hbn]) (by omega) (by omega) fun i hi=>by rw[q5 i (by omega) (by omega),oE i hi]
theorem Lq {nm:ByteArray} {s:AS} {W:List (Int × Int × Int)} {G rd:List Int} {pv tv:Value} {lo lt:Nat} {h:AA} (hp:DJ lo h pv nm s) (h64:∀ x∈s.rows,x.kids≤9223372036854775807) (hty:L7 lt h tv W G rd) (hs:IJ s) (hl:s.rows.length<2932031007403) (hrl:rd.length<2932031007403)
  (hfl:h.floor≤h.next) (hn:2*F8 s+rd.length+100500<n):∃ v' h',AX n 45 [pv,tv] h=some (v',h')∧NW h nm s rd v' h':=by
 obtain⟨n,rfl⟩:∃ j,n=j+1:=⟨n-1,by omega⟩
 exact M5 (CP ⟨rfl,rfl,rfl⟩) (yW (n:=n) (N:=n) hp h64 hty hs hl hrl hfl (by omega) (by omega)) fun v' h1 hf _ ht=>iR hf ht
end
theorem Qn {cs:List Value} {off:Nat}:Go.Sx.lay cs off []=cs:=by simp[Go.Sx.lay]
theorem gS {a b c new:List Value} {off:Nat} (ho:off=a.length) (h:b.length=new.length):Go.Sx.lay (a++(b++c)) off new=a++(new++c):=by
 subst ho
 simp only[Go.Sx.lay,← h]
 rw[List.take_left',List.append_assoc]
 ·congr 2
  rw[← List.append_assoc,List.drop_left' (by simp)]
 ·rfl
theorem UM {z:List Value}:∀ n,(C0 z n).length=n*z.length
 | 0=>by simp[C0]
 | n+1=>by rw[C0,List.length_append,UM n,Nat.succ_mul];omega
theorem hJ {z:List Value}:∀ a b,C0 z (a+b)=C0 z a++C0 z b
 | 0,b=>by simp[C0]
 | a+1,b=>by rw[Nat.succ_add,C0,C0,hJ a b,List.append_assoc]
section
variable {P:Program} {t e:TypeId} {w b:Nat} {z:Value} {h:AA}
theorem UR (ht:P.underlying t=some (.slice e)) (he:BN P e=some w) (hb:IB P e=some b) (hz:DQ P e=some z) (hzc:z.cells.size=w) (hzf:flat z=true) (hw:0<w) (hbb:b≤64) {n:Nat} (hn:n<4000000000000) :
  MK P h t (iv 0) (iv (n:Int))=some (qS h.next 0 n,h.push (.row (C0 z.cells.toList n) e false false)):=by
 simp only[MK,ht,he,hz,hb]
 have hmul:(b:Int)*(n:Int)≤64*(n:Int):=Int.mul_le_mul_of_nonneg_right (by omega) (by omega)
 rw[if_pos (by simp[hzf,hzc,hw];omega)]
 simp
theorem lM (ht:P.underlying t=some (.slice e)) (he:BN P e=some w) (hb:IB P e=some b) (hz:DQ P e=some z) (hzc:z.cells.size=w) (hw:0<w)
  {id n c k c':Nat} {a:Option Addr} {cs new:List Value} {ty:TypeId} {g:Bool} (hg:h.get id=.row cs ty g false) (hid:id<h.next) (hf:h.floor≤id) (hsrc:DX h w k (.slice a k c')=some new) (hnl:new.length=k*w) (hone:new.all one=true) (hc:c≠AM) (hle:n+k≤c) (hlen:cs.length=c*w) :
  ∃ h',DE P h t (qS id n c) (.slice a k c')=some (qS id (n+k) c,h')∧h'.get id=.row (Go.Sx.lay cs (n*w) new) ty g false∧h'.next=h.next∧h'.floor=h.floor∧∀ i,i≠id→h'.get i=h.get i:=by
 by_cases h0:k=0
 ·subst h0
  have:new=[]:=List.length_eq_zero_iff.1 (by rw[hnl,Nat.zero_mul])
  subst this
  refine⟨h,?_,by rw[Qn];exact hg,rfl,rfl,fun _ _=>rfl⟩
  simp only[DE,ht,he,hb,hz,hsrc]
  rw[if_pos (by simp[hw,hzc];omega),if_pos hone,if_neg hc,if_pos hle,if_true]
 ·have hfit:n*w+new.length≤cs.length:=by
   rw[hnl,hlen,← Nat.add_mul]
   exact Nat.mul_le_mul_right w hle
  have hst:GW h id (0+n*w) new=some (h.put id (.row (Go.Sx.lay cs (n*w) new) ty g false)):=by
   simp only[GW,hg]
   rw[if_pos (by simp[hone];omega),Nat.zero_add]
  refine⟨_,?_,BI rfl hid,rfl,rfl,fun i hi=>AK hid (Ne.symm hi)⟩
  simp only[DE,ht,he,hb,hz,hsrc]
  rw[if_pos (by simp[hw,hzc];omega),if_pos hone,if_neg hc,if_pos hle,if_neg h0]
  simp only[hst]
theorem OJ (ht:P.underlying t=some (.slice e)) (he:BN P e=some w) {id n m c:Nat} (hm:m≤c) (hc:c≠AM):H9 P h t (qS id n c) none (some (iv (m:Int))) none=some (qS id m c):=by
 simp only[H9,ht,he,F9,hc,if_false]
 rw[if_pos (by omega)]
 simp only[Int.toNat_natCast]
 by_cases h0:c=0
 ·subst h0
  simp[CH]
 ·simp[CH]
end
structure GL (h:AA) (o n w:Nat) (cs mk z:List Value) (e:TypeId):Prop where
 g:h.get o=.row (cs++(mk++C0 z 2)) e false false
 len:cs.length=n*w
 mlen:mk.length=w
 zlen:z.length=w
section
variable {t e:TypeId} {w b:Nat} {z:Value} {h:AA}
theorem Gd (ht:Tryd.prog.underlying t=some (.slice e)) (he:BN Tryd.prog e=some w) (hb:IB Tryd.prog e=some b) (hz:DQ Tryd.prog e=some z) (hzc:z.cells.size=w) (hw:0<w) {lo n:Nat} {v:Value} {cs:List Value} (hv:A7 lo h v n w cs) (hone:cs.all one=true) (hn:n<4000000000000) (hfl:h.floor≤h.next) :
  ∃ h1,DE Tryd.prog (h.push (.row (C0 z.cells.toList (n+3)) e false false)) t (qS h.next 0 (n+3)) v=some (qS h.next n (n+3),h1)∧h1.get h.next=.row (cs++(z.cells.toList++C0 z.cells.toList 2)) e false false∧h1.next=h.next+1∧h1.floor=h.floor∧∀ i,i<h.next→h1.get i=h.get i:=by
 have hv1:=hv.mono (h':=h.push (.row (C0 z.cells.toList (n+3)) e false false)) (by rw[C7];omega) fun i _ hi=>AP hi
 have hsrc:=hv1.src
 have hcl:=hv.1
 obtain⟨_,a,c,rfl,_⟩:=hv
 have hzl:z.cells.toList.length=w:=by simpa using hzc
 obtain⟨h1,e1,e2,e3,e4,e5⟩:=lM (n:=0) (c:=n+3) ht he hb hz hzc hw BO (by rw[C7];omega) hfl hsrc hcl hone (by unfold AM;omega) (by omega) (by rw[UM,hzl])
 rw[Nat.zero_add] at e1
 refine⟨h1,e1,?_,e3,e4,fun i hi=>by rw[e5 i (by omega),AP hi]⟩
 rw[e2,hJ,show C0 z.cells.toList 3=z.cells.toList++C0 z.cells.toList 2 from rfl,← List.nil_append (C0 z.cells.toList n++_),gS (by simp) (by rw[UM,hcl,hzl])]
 rfl
theorem yD (ht:Tryd.prog.underlying t=some (.slice e)) (he:BN Tryd.prog e=some w) (hb:IB Tryd.prog e=some b) (hz:DQ Tryd.prog e=some z) (hzc:z.cells.size=w) (hw:0<w) {lo n o:Nat} {v:Value} {cs mk:List Value} (hg:h.get o=.row (cs++(z.cells.toList++C0 z.cells.toList 2)) e false false) (ho:o<h.next) (hf:h.floor≤o) (hcl:cs.length=n*w)
  (hv:A7 lo h v 1 w mk) (hone:mk.all one=true) (hn:n<4000000000000) :
  ∃ h1,DE Tryd.prog h t (qS o n (n+3)) v=some (qS o (n+1) (n+3),h1)∧GL h1 o n w cs mk z.cells.toList e∧h1.next=h.next∧h1.floor=h.floor∧∀ i,i≠o→h1.get i=h.get i:=by
 have hsrc:=hv.src
 have hml:=hv.1
 obtain⟨_,a,c,rfl,_⟩:=hv
 have hzl:z.cells.toList.length=w:=by simpa using hzc
 obtain⟨h1,e1,e2,e3,e4,e5⟩:=lM (n:=n) (c:=n+3) ht he hb hz hzc hw hg ho hf hsrc hml hone (by unfold AM;omega) (by omega) (by
  rw[List.length_append,List.length_append,UM,hcl,hzl]
  simp only[Nat.add_mul]
  omega)
 rw[gS hcl.symm (by rw[hzl,hml,Nat.one_mul])] at e2
 exact⟨h1,e1,⟨e2,hcl,by rw[hml,Nat.one_mul],hzl⟩,e3,e4,e5⟩
end
section
variable {t e:TypeId} {w b:Nat} {z:Value} {h:AA}
theorem TD (ht:Tryd.prog.underlying t=some (.slice e)) (he:BN Tryd.prog e=some w) (hb:IB Tryd.prog e=some b) (hz:DQ Tryd.prog e=some z) (hzc:z.cells.size=w) (hw:0<w) {lo n:Nat} {v:Value} {cs mk:List Value} (hv:A7 lo h v n w cs) (hone:cs.all one=true) (hml:mk.length=w) (hmo:mk.all one=true) (hn:n<2932031007403) (hfl:h.floor≤h.next) :
  ∃ h1 h3,DE Tryd.prog (h.push (.row (C0 z.cells.toList (n+3)) e false false)) t (qS h.next 0 (n+3)) v=some (qS h.next n (n+3),h1)∧h1.next=h.next+1∧h1.floor=h.floor∧(∀ i,i<h.next→h1.get i=h.get i) ∧
   DE Tryd.prog (h1.push (.row mk e false false)) t (qS h.next n (n+3)) (qS h1.next 1 1)=some (qS h.next (n+1) (n+3),h3)∧GL h3 h.next n w cs mk z.cells.toList e∧h3.next=h.next+2∧h3.floor=h.floor∧∀ i,i<h.next→h3.get i=h.get i:=by
 obtain⟨h1,a1,a2,a3,a4,a5⟩:=Gd ht he hb hz hzc hw hv hone (by omega) hfl
 have hm:A7 0 (h1.push (.row mk e false false)) (qS h1.next 1 1) 1 w mk:=A7.row (ex:=[]) (by rw[List.append_nil];exact BO) ⟨Nat.zero_le _,by rw[C7];omega⟩ (by rw[hml,Nat.one_mul])
 obtain⟨h3,b1,b2,b3,b4,b5⟩:=yD (h:=h1.push (.row mk e false false)) (o:=h.next) ht he hb hz hzc hw (by rw[AP (by omega)];exact a2) (by rw[C7];omega) (by rw[DA];omega) hv.1 hm hmo (by omega)
 exact⟨h1,h3,a1,a3,a4,a5,b1,b2,by rw[b3,C7,a3],by rw[b4,DA,a4],fun i hi=>by rw[b5 i (by omega),AP (by omega),a5 i hi]⟩
end
section
variable {h h':AA} {o n w:Nat} {cs mk z:List Value} {e:TypeId}
theorem GL.mono (hl:GL h o n w cs mk z e) (hg:h'.get o=h.get o):GL h' o n w cs mk z e:=⟨by rw[hg];exact hl.g,hl.len,hl.mlen,hl.zlen⟩
theorem GL.cells (hl:GL h o n w cs mk z e) {lo c:Nat} (ho:lo≤o∧o<h.next):A7 lo h (qS o n c) n w cs:=A7.row hl.g ho hl.len
theorem GL.mark (hl:GL h o n w cs mk z e) {lo c:Nat} (ho:lo≤o∧o<h.next):A7 lo h (qS o (n+1) c) (n+1) w (cs++mk):=
 A7.row (ex:=C0 z 2) (by rw[List.append_assoc];exact hl.g) ho (by rw[List.length_append,hl.len,hl.mlen,Nat.succ_mul])
end
section
variable {call:AT} {N:Nat} {h:AA}
theorem wK {l:List AE} {v:Value} (hv:AU h v l) (hl:l.length<2932031007403) (hfl:h.floor≤h.next) (hN:12<N) :
  ∃ h',A9 Tryd.prog call N 15 [v] h=some (qS h.next l.length (l.length+9),h')∧((∃ L,M2 h' h.next l L)∧h'.next=h.next+1∧h'.floor=h.floor∧∀ i,i<h.next→h'.get i=h.get i):=by
 refine FB (R:=fun h'=>(∃ L,M2 h' h.next l L)∧h'.next=h.next+1∧h'.floor=h.floor∧∀ i,i<h.next→h'.get i=h.get i) Tryd.func15 rfl (by simp[Tryd.f15]) ?_
 have hr:Tryd.f15.results.toList=[.tmp 2]:=rfl
 have hlen:=fun h'=>hv.len (h':=h')
 have w9:IntKind.i64.wrap ((l.length:Int)+9)=((l.length+9:Nat):Int):=B0 (by omega) (by omega)
 have hmk:=Nn (h:=h) (n:=l.length+9) (by omega)
 have hv1:AU (h.push (.row ((List.replicate (l.length+9) DF).flatMap AI) 46 false false)) v l:=hv.mono (by show h.next≤h.next+1;omega) fun i hi=>AP hi
 obtain⟨H1,hcp,g1,n1,f1,o1⟩:=Ap (id:=h.next) (n:=l.length+9) (c:=l.length+9) hv1 BO (by rw[List.length_replicate]) (by omega) (by show h.next<h.next+1;omega) hfl
 have hlen9:∀ h':AA,BZ Tryd.prog h' 22 (qS h.next (l.length+9) (l.length+9))=some (iv ((l.length+9:Nat):Int)):=fun h'=>O5
 have hsl:=fun (H:AA)=>uF (h:=H) (id:=h.next) (n:=l.length+9) (m:=l.length) (c:=l.length+9) (by omega) (by unfold AM;omega)
 simp only[eE,seval,↓eP,hlen,w9,hmk,hcp]
 have n1':H1.next=h.next+1:=n1
 have f1':H1.floor=h.floor:=f1
 have o1':∀ i,i<h.next→H1.get i=h.get i:=fun i hi=>by rw[o1 i (by omega),AP hi]
 refine WK.loop (fun k s'=>s'.T.get 0=v∧s'.T.get 3=qS h.next (l.length+9) (l.length+9)∧s'.T.get 4=iv ((l.length+k:Nat):Int)∧k≤9∧s'.h.next=h.next+1∧s'.h.floor=h.floor∧(∀ i,i<h.next→s'.h.get i=h.get i) ∧
  ∃ L:List AE,s'.h.get h.next=.row (L.flatMap AI) 46 false false∧L.length=l.length+9∧(∀ j,j<l.length→L[j]?=l[j]?)∧∀ q,q<k→L[l.length+q]?=some (mark (l.length+q))) 9 (by omega) ?_ ?_
 ·refine⟨by simp only[eE,seval,↓eP,rP],by simp only[eE,seval,↓eP,rP],by simp only[eE,seval,↓eP,rP];rfl,by omega,n1',f1',o1',_,g1,?_,fun j hj=>by rw[List.getElem?_append_left hj],fun q hq=>by omega⟩
  rw[List.length_append,List.length_drop,List.length_replicate]
  omega
 ·rintro k ⟨T1,H2⟩ hk ⟨t0,t3,t4,hk9,n2,f2,o2,L,gL,lL,own,marks⟩
  simp only at t0 t3 t4 n2 f2 o2 gL
  by_cases hlt:k<9
  ·have c1:decide (((l.length+k:Nat):Int)<((l.length+9:Nat):Int))=true:=by simp;omega
   have hix:=TI (id:=h.next) (n:=l.length+9) (c:=l.length+9) (i:=l.length+k) (by omega)
   have hst:=RK (i:=l.length+k) (x:=⟨-7,KB,0,0,((l.length+k:Nat):Int)⟩) rfl gL (by omega) (by omega)
   have w1:IntKind.i64.wrap (((l.length+k:Nat):Int)+1)=((l.length+(k+1):Nat):Int):=B0 (by omega) (by omega)
   simp only[eE,seval,↓eP,t0,t3,t4,hlen9,c1,k_,hix,hst,w1]
   refine⟨hlt,by omega,n2,f2,fun i hi=>by rw[AK (by omega) (by omega)];exact o2 i hi,_,BI rfl (by omega),by rw[List.length_set];exact lL,fun j hj=>?_,fun q hq=>?_⟩
   ·rw[List.getElem?_set_ne (by omega)]
    exact own j hj
   ·rcases Nat.lt_or_ge q k with h1 | h1
    ·rw[List.getElem?_set_ne (by omega)]
     exact marks q h1
    ·have:q=k:=by omega
     subst this
     rw[List.getElem?_set_self (by omega)]
     rfl
  ·have c1:decide (((l.length+k:Nat):Int)<((l.length+9:Nat):Int))=false:=by simp;omega
   have:k=9:=by omega
   subst this
   simp only[eE,seval,↓eP,hr,t0,t3,t4,hlen,hlen9,c1,hsl]
   exact⟨⟨L,gL,lL,own,marks⟩,n2,f2,o2⟩
end
theorem Gm {n:Nat} {h:AA} {l:List AE} {v:Value} (hv:AU h v l) (hl:l.length<2932031007403) (hfl:h.floor≤h.next) (hn:20<n) :
  ∃ h',AX n 15 [v] h=some (qS h.next l.length (l.length+9),h')∧((∃ L,M2 h' h.next l L)∧h'.next=h.next+1∧h'.floor=h.floor∧∀ i,i<h.next→h'.get i=h.get i):=by
 obtain⟨n,rfl⟩:=D3 hn
 exact OV (CP ⟨rfl,rfl,rfl⟩) rfl (wK hv hl hfl (by omega))
section
variable {call:AT} {N:Nat} {h:AA}
end
section
variable {call:AT} {n N:Nat} {h:AA}
theorem Mr {l:List Int} {v:Value} {lo:Nat} (hv:AN lo h v l) (hl:l.length<2932031007403) (hfl:h.floor≤h.next) :
  ∃ h',A9 Tryd.prog call N 65 [v] h=some (qS h.next l.length (l.length+3),h')∧(GL h' h.next l.length 1 (ints l) [iv (-77)] [iv 0] 3∧h'.next=h.next+2∧h'.floor=h.floor∧∀ i,i<h.next→h'.get i=h.get i):=by
 refine FB (R:=fun h'=>GL h' h.next l.length 1 (ints l) [iv (-77)] [iv 0] 3∧h'.next=h.next+2∧h'.floor=h.floor∧∀ i,i<h.next→h'.get i=h.get i) Tryd.func65 rfl (by simp[Tryd.f65]) ?_
 have hr:Tryd.f65.results.toList=[.tmp 2]:=rfl
 have hlen:=I7 hv
 have w3:IntKind.i64.wrap ((l.length:Int)+3)=((l.length+3:Nat):Int):=B0 (by omega) (by omega)
 have hmk:=UR (h:=h) (n:=l.length+3) Tryd.underlying28 CU LU JI rfl rfl (by decide) (by decide) (by omega)
 obtain⟨h1,h3,a1,a2,a3,a4,a5,a6,a7,a8,a9⟩:=TD (mk:=[iv (-77)]) Tryd.underlying28 CU LU JI rfl (by decide) hv (PJ l) rfl rfl (by omega) hfl
 have hsl:=fun (H:AA)=>OJ (h:=H) (id:=h.next) (n:=l.length+1) (m:=l.length) (c:=l.length+3) Tryd.underlying28 CU (by omega) (by unfold AM;omega)
 simp only[eE,seval,↓eP,hr,hlen,w3,hmk,a1,MB,a5,hsl]
 exact⟨a6,a7,a8,a9⟩
theorem YK {l:List Int} {v:Value} {lo:Nat} (hv:AN lo h v l) (hl:l.length<2932031007403) (hfl:h.floor≤h.next) (hn:0<n) :
  ∃ h',AX n 65 [v] h=some (qS h.next l.length (l.length+3),h')∧(GL h' h.next l.length 1 (ints l) [iv (-77)] [iv 0] 3∧h'.next=h.next+2∧h'.floor=h.floor∧∀ i,i<h.next→h'.get i=h.get i):=by
 obtain⟨n,rfl⟩:=D3 hn
 exact OV (CP ⟨rfl,rfl,rfl⟩) rfl (Mr hv hl hfl)
end
theorem Gc {nm:ByteArray} {m:Int} {id k c:Nat}:DG Tryd.prog 30 [(0,.string nm),(7,iv m),(1,qS id k c)]=some (.agg #[.string nm,qS id k c,Z0,Z0,Z0,Z0,Z0,iv m]):=by
 have h:=Y1
 rw[Tryd.underlying30] at h
 simp only at h
 simp only[DG,L_,MD,if_true,Tryd.underlying30,h]
 rfl
theorem mA {nm:ByteArray}:DG Tryd.prog 57 [(0,.string nm)]=some (.agg #[.string nm,.bool false]):=by
 have h:=iZ
 rw[Tryd.underlying57] at h
 simp only at h
 simp only[DG,QI,dM,PH,fY,Bool.and_self,if_true,Tryd.underlying57,h]
 rfl
noncomputable def iM:Array Oper:=DR Tryd.f21 1
def Sk:List (Bool × Bool × List Operand):=[FT,FT,CZ [.tmp 4],CZ [.tmp 4],AJ [.tmp 4,.tmp 6],AJ [.tmp 4,.tmp 6],AJ [.tmp 4,.tmp 6],AL,CZ [.tmp 4,.tmp 6,.tmp 8],AL]
theorem De:DU iM=Sk:=by kernel_rfl
noncomputable def lH:Array Oper:=DR Tryd.f21 2
def z_:List (Bool × Bool × List Operand):=[AW,AW,AW,AW,AW,CZ [.tmp 12],CZ [.tmp 12],AW,CZ [.tmp 12,.tmp 17],CZ [.tmp 12,.tmp 17],AW,CZ [.tmp 12,.tmp 17],CZ [.tmp 12,.tmp 17],CZ [.tmp 12,.tmp 17],AL,AL,AL]
theorem Mf:DU lH=z_:=by kernel_rfl
noncomputable def g8:Array Oper:=DR Tryd.f21 3
def Ci:List (Bool × Bool × List Operand):=[AW,AW,AW,AW,AW,CZ [.tmp 28],CZ [.tmp 28],AW,CZ [.tmp 28,.tmp 33],AW,CZ [.tmp 28,.tmp 33],CZ [.tmp 28,.tmp 33],CZ [.tmp 28,.tmp 33],AL,AL,AL]
theorem Bk:DU g8=Ci:=by kernel_rfl
noncomputable def uG:Array Oper:=DR Tryd.f21 4
def Oq:List (Bool × Bool × List Operand):=[AW,AW,AW,AW,AW,CZ [.tmp 43],CZ [.tmp 43],AW,CZ [.tmp 43,.tmp 48],AW,CZ [.tmp 43,.tmp 48],CZ [.tmp 43,.tmp 48],CZ [.tmp 43,.tmp 48],AL,AL,AL]
theorem Bq:DU uG=Oq:=by kernel_rfl
structure LW (h:AA) (b:Nat) (v:Value) (nm:ByteArray) (s:AS) (o:Nat→Nat):Prop where
 v:v=.agg #[.string nm,qS (o 1) s.rows.length (s.rows.length+9),qS (o 2) s.queues.length (s.queues.length+3),qS (o 3) s.vars.length (s.vars.length+3),qS (o 4) s.tags.length (s.tags.length+3),qS (o 5) s.rules.length (s.rules.length+3),qS (o 6) s.on.length (s.on.length+3),iv s.miss]
 far:b≤o 1∧o 1<o 2∧o 2<o 3∧o 3<o 4∧o 4<o 5∧o 5<o 6∧o 6<h.next
 r:∃ L,M2 h (o 1) s.rows L
 q:GL h (o 2) s.queues.length 2 (IE s.queues) [.string KB,.bool false] [.string ByteArray.empty,.bool false] 57
 w:GL h (o 3) s.vars.length 1 (DZ s.vars) [.string KB] [.string ByteArray.empty] 9
 t:GL h (o 4) s.tags.length 1 (DZ s.tags) [.string KB] [.string ByteArray.empty] 9
 u:GL h (o 5) s.rules.length 1 (ints s.rules) [iv (-77)] [iv 0] 3
 p:GL h (o 6) s.on.length 1 (ints s.on) [iv (-77)] [iv 0] 3
section
variable {n N:Nat} {h:AA}
theorem Co {nm:ByteArray} {s:AS} {pv:Value} {lo:Nat} (hp:DJ lo h pv nm s) (hs:IJ s) (hl:s.rows.length<2932031007403) (hl2:s.rules.length<2932031007403∧s.on.length<2932031007403) (hfl:h.floor≤h.next) (hn:20<n) :
  ∃ v' h',A9 Tryd.prog (AX n) N 21 [pv] h=some (v',h')∧(∃ o,LW h' h.next v' nm s o)∧h.next≤h'.next∧h'.floor=h.floor∧∀ i,i<h.next→h'.get i=h.get i:=by
 obtain⟨vr,vq,vv,vt,vu,vo,rfl,p1,p2,p3,p4,p5,p6⟩:=hp
 obtain⟨aq,cq,rfl,_⟩:=id p2.2
 obtain⟨av,cv,rfl,_⟩:=id p3.2
 obtain⟨at_,ct,rfl,_⟩:=id p4.2
 have hsn:=(FH n).2
 refine MO (R:=fun v' h'=>(∃ o,LW h' h.next v' nm s o)∧h.next≤h'.next∧h'.floor=h.floor∧∀ i,i<h.next→h'.get i=h.get i) Tryd.func21 rfl (by simp[Tryd.f21]) ?_
 have hr:Tryd.f21.results.toList=[.cell 2 30]:=rfl
 obtain⟨q1,q2,q3,q4,q5,q6⟩:=hs
 have ca:=F7 [.string nm,vr,.slice aq s.queues.length cq,.slice av s.vars.length cv,.slice at_ s.tags.length ct,vu,vo,iv s.miss]
 have oa:=MJ (nm:=nm) p1 p2 p3 p4 p5 p6
 obtain⟨x0,x1,x2,x3,x4,x5,x6,x7⟩:=O3 (a:=.string nm) (b:=vr) (c:=.slice aq s.queues.length cq) (d:=.slice av s.vars.length cv) (e:=.slice at_ s.tags.length ct) (f:=vu) (g:=vo) (i:=iv s.miss) (ty:=30) (x:=false) (y:=false)
 have len2:=PW p2
 have len3:=NP p3
 have len4:=NP p4
 simp only[eE,seval,↓eP,DC,C8,C4,ca,oa,HM,L_,MD,NS]
 have gA:((h.push (.row [.string nm,vr,.slice aq s.queues.length cq,.slice av s.vars.length cv,.slice at_ s.tags.length ct,vu,vo,iv s.miss] 30 false false)).push (.row BT 30 false false)).get h.next=.row [.string nm,vr,.slice aq s.queues.length cq,.slice av s.vars.length cv,.slice at_ s.tags.length ct,vu,vo,iv s.miss] 30 false false:=MM
 have gZ:((h.push (.row [.string nm,vr,.slice aq s.queues.length cq,.slice av s.vars.length cv,.slice at_ s.tags.length ct,vu,vo,iv s.miss] 30 false false)).push (.row BT 30 false false)).get (h.next+1)=.row BT 30 false false:=MN
 have gO:∀ i,i<h.next→((h.push (.row [.string nm,vr,.slice aq s.queues.length cq,.slice av s.vars.length cv,.slice at_ s.tags.length ct,vu,vo,iv s.miss] 30 false false)).push (.row BT 30 false false)).get i=h.get i:=fun i hi=>by rw[AP (by show i<h.next+1;omega),AP hi]
 have n0:((h.push (.row [.string nm,vr,.slice aq s.queues.length cq,.slice av s.vars.length cv,.slice at_ s.tags.length ct,vu,vo,iv s.miss] 30 false false)).push (.row BT 30 false false)).next=h.next+2:=rfl
 have f0:((h.push (.row [.string nm,vr,.slice aq s.queues.length cq,.slice av s.vars.length cv,.slice at_ s.tags.length ct,vu,vo,iv s.miss] 30 false false)).push (.row BT 30 false false)).floor=h.floor:=rfl
 generalize (h.push (.row [.string nm,vr,.slice aq s.queues.length cq,.slice av s.vars.length cv,.slice at_ s.tags.length ct,vu,vo,iv s.miss] 30 false false)).push (.row BT 30 false false)=H0 at *
 have hA0:(h.next<H0.next)=True:=by rw[n0];simp
 have P1:AU (H0.fl (max H0.floor H0.next)) vr s.rows:=p1.1.mono (by rw[CL];omega) gO
 obtain⟨h1,hlend,⟨L,hL⟩,n1,f1,o1⟩:=Gm (n:=n) P1 hl (by rw[CL,CA];omega) hn
 rw[CL] at hlend hL n1 o1
 rw[CA] at f1
 have hst:BH Tryd.prog ((h1.fl H0.floor).push (.row BT 30 false false)) 30 (qP ((h1.fl H0.floor).next) 0) _=_:=
  GY HM (vs:=[.string nm,qS H0.next s.rows.length (s.rows.length+9),Z0,Z0,Z0,Z0,Z0,iv s.miss]) (BO (h:=h1.fl H0.floor)) rfl rfl rfl (by rw[DA,CA,CL];omega)
 refine WK.flags (ops:=iM) De ?_
 refine BQ.begin ?_
 refine AF hsn 0 (some 4) (.fieldAddr 30 (.tmp 1) 0) none ?_
 simp only[rG,seval,AB,AD,AC,Nat.zero_add,JX]
 refine AF hsn 1 (some 5) (.load 9 (.tmp 4)) none ?_
 simp only[rG,seval,AB,AD,AC,BU,FN,gA,x0,hA0]
 refine AF hsn 2 (some 6) (.fieldAddr 30 (.tmp 1) 7) none ?_
 simp only[rG,seval,AB,AD,AC,Nat.zero_add,ID]
 refine AF hsn 3 (some 7) (.load 3 (.tmp 6)) none ?_
 simp only[rG,seval,AB,AD,AC,BU,A_,gA,x7,hA0]
 refine AF hsn 4 (some 8) (.fieldAddr 30 (.tmp 1) 1) none ?_
 simp only[rG,seval,AB,AD,AC,Nat.zero_add,CR]
 refine AF hsn 5 (some 9) (.load 22 (.tmp 8)) none ?_
 simp only[rG,seval,AB,AD,AC,BU,CI,gA,x1,hA0]
 refine AF hsn 6 (some 10) (.call { callee:=.value (.func 15),args:=#[.tmp 9],argTypes:=#[22] }) none ?_
 simp only[rG,seval,AB,AD,AC,CF,hlend]
 refine AF hsn 7 (some 11) (.build 30 #[(0,.tmp 5),(7,.tmp 7),(1,.tmp 10)]) none ?_
 simp only[rG,seval,AB,AD,AC,List.map_cons,List.map_nil,Gc]
 refine AF hsn 8 (some 3) (.alloc 30) none ?_
 simp only[rG,seval,AB,AD,AC,N1,L_,MD,NS]
 refine AF hsn 9 (none) (.store 30 (.tmp 3) (.tmp 11)) none ?_
 simp only[rG,seval,AB,AD,AC,DP,EE,hst]
 refine BQ.done (i:=10) (by kernel_rfl) ?_
 have gG:∀ i,(h1.fl H0.floor).get i=h1.get i:=fun _=>rfl
 have nG:(h1.fl H0.floor).next=H0.next+1:=n1
 have fG:(h1.fl H0.floor).floor=H0.floor:=rfl
 have hL0:M2 (h1.fl H0.floor) H0.next s.rows L:=⟨hL.g,hL.len,hL.own,hL.marks⟩
 clear hst hlend hL P1
 generalize h1.fl H0.floor=G at *
 have nnG:((G.push (.row BT 30 false false)).put G.next (.row [.string nm,qS H0.next s.rows.length (s.rows.length+9),Z0,Z0,Z0,Z0,Z0,iv s.miss] 30 false false)).next=G.next+1:=rfl
 have ffG:((G.push (.row BT 30 false false)).put G.next (.row [.string nm,qS H0.next s.rows.length (s.rows.length+9),Z0,Z0,Z0,Z0,Z0,iv s.miss] 30 false false)).floor=G.floor:=rfl
 have gDH1:((G.push (.row BT 30 false false)).put G.next (.row [.string nm,qS H0.next s.rows.length (s.rows.length+9),Z0,Z0,Z0,Z0,Z0,iv s.miss] 30 false false)).get G.next=.row [.string nm,qS H0.next s.rows.length (s.rows.length+9),Z0,Z0,Z0,Z0,Z0,iv s.miss] 30 false false:=BI rfl (by rw[C7];omega)
 have ggG:∀ i,i<G.next→((G.push (.row BT 30 false false)).put G.next (.row [.string nm,qS H0.next s.rows.length (s.rows.length+9),Z0,Z0,Z0,Z0,Z0,iv s.miss] 30 false false)).get i=G.get i:=fun i hi=>by rw[AK (by rw[C7];omega) (by omega),AP hi]
 generalize (G.push (.row BT 30 false false)).put G.next (.row [.string nm,qS H0.next s.rows.length (s.rows.length+9),Z0,Z0,Z0,Z0,Z0,iv s.miss] 30 false false)=H1 at *
 generalize hDD:G.next=D at *
 have gAH1:H1.get h.next=.row [.string nm,vr,.slice aq s.queues.length cq,.slice av s.vars.length cv,.slice at_ s.tags.length ct,vu,vo,iv s.miss] 30 false false:=by rw[ggG _ (by omega),gG,o1 _ (by omega)];exact gA
 have gOH1:∀ i,i<h.next→H1.get i=h.get i:=fun i hi=>by rw[ggG _ (by omega),gG,o1 _ (by omega)];exact gO i hi
 have hL1:M2 H1 H0.next s.rows L:=⟨by rw[ggG _ (by omega)];exact hL0.g,hL0.len,hL0.own,hL0.marks⟩
 have gZ1:∀ i,i=h.next+1→H1.get i=H0.get i:=fun i hi=>by rw[ggG _ (by omega),gG,o1 _ (by omega)];rfl
 have P2:=p2.mono (h':=H1.fl (max H1.floor H1.next)) (by rw[CL];omega) fun i _ hi=>(gOH1 i hi)
 have w2:IntKind.i64.wrap ((s.queues.length:Int)+3)=((s.queues.length+3:Nat):Int):=B0 (by omega) (by omega)
 have mk2:=fun (H:AA)=>UR (h:=H) (n:=s.queues.length+3) Tryd.underlying26 LY YT QI rfl rfl (by decide) (by decide) (by omega)
 obtain⟨g2,k2,a1,a2,a3,a4,a5,a6,a7,a8,a9⟩:=TD (mk:=[.string KB,.bool false]) Tryd.underlying26 LY YT QI rfl (by decide) P2 (YA _) rfl rfl (by omega) (by rw[CL,CA];omega)
 rw[CL] at a1 a2 a4 a5 a6 a7 a9
 rw[CA] at a3 a8
 have sl2:=fun (H:AA)=>OJ (h:=H) (id:=H1.next) (n:=s.queues.length+1) (m:=s.queues.length) (c:=s.queues.length+3) Tryd.underlying26 LY (by omega) (by unfold AM;omega)
 have hfx:g2.fl (max H1.floor H1.next)=g2:=by rw[← a3];exact NV g2
 have ex:∀ i,i<H1.next→g2.get i=H1.get i:=a4
 have ez:∀ i,i<H1.next→k2.get i=H1.get i:=a9
 have e1:(H1.push (.row (C0 ((Value.agg #[.string ByteArray.empty,.bool false]).cells.toList) (s.queues.length+3)) 57 false false)).get h.next=.row [.string nm,vr,.slice aq s.queues.length cq,.slice av s.vars.length cv,.slice at_ s.tags.length ct,vu,vo,iv s.miss] 30 false false:=by rw[AP (by omega)];exact gAH1
 have e2:g2.get h.next=.row [.string nm,vr,.slice aq s.queues.length cq,.slice av s.vars.length cv,.slice at_ s.tags.length ct,vu,vo,iv s.miss] 30 false false:=by rw[ex _ (by omega)];exact gAH1
 have e3:k2.get h.next=.row [.string nm,vr,.slice aq s.queues.length cq,.slice av s.vars.length cv,.slice at_ s.tags.length ct,vu,vo,iv s.miss] 30 false false:=by rw[ez _ (by omega)];exact gAH1
 have gDk:(k2.fl H1.floor).get D=.row [.string nm,qS H0.next s.rows.length (s.rows.length+9),Z0,Z0,Z0,Z0,Z0,iv s.miss] 30 false false:=by rw[FX,ez _ (by omega)];exact gDH1
 have hA:(h.next<H1.next)=True:=by simp;omega
 have st2:BH Tryd.prog (k2.fl H1.floor) 26 (qP D 2) (qS H1.next s.queues.length (s.queues.length+3))=_:=FU VO rfl rfl gDk (by simp only[List.length_cons,List.length_nil];omega) (by rw[CA];omega)
 simp only[List.set_cons_succ,List.set_cons_zero] at st2
 simp only[eE,seval,↓eP]
 refine WK.flags (ops:=lH) Mf ?_
 refine BQ.begin ?_
 refine AF hsn 0 (some 12) (.fieldAddr 30 (.tmp 1) 2) none ?_
 simp only[rG,seval,AB,AD,AC,Nat.zero_add,Nat.zero_add,FD]
 refine AF hsn 1 (some 13) (.load 26 (.tmp 12)) none ?_
 simp only[rG,seval,AB,AD,AC,BU,FM,gAH1,x2,hA]
 refine AF hsn 2 (some 14) (.call { callee:=.builtin .len,args:=#[.tmp 13],argTypes:=#[26] }) none ?_
 simp only[rG,seval,AB,AD,AC,CF,len2]
 refine AF hsn 3 (some 15) (.binOp .add 3 (.tmp 14) (.const (Value.int IntKind.i64 3)) 3) none ?_
 simp only[rG,seval,AB,AD,AC,GN,w2]
 refine AF hsn 4 (some 16) (.makeSlice 26 (.const (Value.int IntKind.i64 0)) (.tmp 15)) none ?_
 simp only[rG,seval,AB,AD,AC,mk2,DS]
 refine AF hsn 5 (some 17) (.fieldAddr 30 (.tmp 1) 2) none ?_
 simp only[rG,seval,AB,AD,AC,Nat.zero_add,Nat.zero_add,FD,DS,DA]
 refine AF hsn 6 (some 18) (.load 26 (.tmp 17)) none ?_
 simp only[rG,seval,AB,AD,AC,BU,FM,e1,x2,hA,DS,DA]
 refine AF hsn 7 (some 19) (.call { callee:=.builtin .append,args:=#[.tmp 16,.tmp 18],argTypes:=#[26,26] }) none ?_
 simp only[rG,seval,AB,AD,AC,CF,a1,DS,DA]
 refine AF hsn 8 (some 20) (.build 57 #[(0,.const (Value.string { data:=#[108,101,110,116] }))]) none ?_
 simp only[rG,seval,AB,AD,AC,List.map_cons,List.map_nil,mA,CA,DB]
 refine AF hsn 9 (some 21) (.buildSlice 26 1 #[(0,.tmp 20)]) none ?_
 simp only[rG,seval,AB,AD,AC,List.map_cons,List.map_nil,eW,DS,CL,CA,DB]
 refine AF hsn 10 (some 22) (.call { callee:=.builtin .append,args:=#[.tmp 19,.tmp 21],argTypes:=#[26,26] }) none ?_
 simp only[rG,seval,AB,AD,AC,CF,hfx,a5,DS,DA,CA,DB]
 refine AF hsn 11 (some 23) (.fieldAddr 30 (.tmp 1) 2) none ?_
 simp only[rG,seval,AB,AD,AC,Nat.zero_add,Nat.zero_add,FD,CA,DB]
 refine AF hsn 12 (some 24) (.load 26 (.tmp 23)) none ?_
 simp only[rG,seval,AB,AD,AC,BU,FM,e3,x2,hA,CA,FX,DB]
 refine AF hsn 13 (some 25) (.call { callee:=.builtin .len,args:=#[.tmp 24],argTypes:=#[26] }) none ?_
 simp only[rG,seval,AB,AD,AC,CF,len2,CA,DB]
 refine AF hsn 14 (some 26) (.slice 26 (.tmp 22) none (some (.tmp 25)) none) none ?_
 simp only[rG,seval,AB,AD,AC,BU,sl2,CA,DB]
 refine AF hsn 15 (some 27) (.fieldAddr 30 (.tmp 3) 2) none ?_
 simp only[rG,seval,AB,AD,AC,Nat.zero_add,Nat.zero_add,FD,CA,DB]
 refine AF hsn 16 (none) (.store 26 (.tmp 27) (.tmp 26)) none ?_
 simp only[rG,seval,AB,AD,AC,DP,EE,st2,CA,DB]
 refine BQ.done (i:=17) (by kernel_rfl) ?_
 have nn2:((k2.fl H1.floor).put D (.row [.string nm,qS H0.next s.rows.length (s.rows.length+9),qS H1.next s.queues.length (s.queues.length+3),Z0,Z0,Z0,Z0,iv s.miss] 30 false false)).next=H1.next+2:=a7
 have ff2:((k2.fl H1.floor).put D (.row [.string nm,qS H0.next s.rows.length (s.rows.length+9),qS H1.next s.queues.length (s.queues.length+3),Z0,Z0,Z0,Z0,iv s.miss] 30 false false)).floor=H1.floor:=rfl
 have gg2:∀ i,i<H1.next→i≠D→((k2.fl H1.floor).put D (.row [.string nm,qS H0.next s.rows.length (s.rows.length+9),qS H1.next s.queues.length (s.queues.length+3),Z0,Z0,Z0,Z0,iv s.miss] 30 false false)).get i=H1.get i:=fun i hi hd=>by rw[AK (by rw[CL];omega) (Ne.symm hd),FX,ez i hi]
 have gDH2:((k2.fl H1.floor).put D (.row [.string nm,qS H0.next s.rows.length (s.rows.length+9),qS H1.next s.queues.length (s.queues.length+3),Z0,Z0,Z0,Z0,iv s.miss] 30 false false)).get D=.row [.string nm,qS H0.next s.rows.length (s.rows.length+9),qS H1.next s.queues.length (s.queues.length+3),Z0,Z0,Z0,Z0,iv s.miss] 30 false false:=BI rfl (by rw[CL];omega)
 have gl2:((k2.fl H1.floor).put D (.row [.string nm,qS H0.next s.rows.length (s.rows.length+9),qS H1.next s.queues.length (s.queues.length+3),Z0,Z0,Z0,Z0,iv s.miss] 30 false false)).get H1.next=k2.get H1.next:=by rw[AK (by rw[CL];omega) (by omega),FX]
 have L2:=a6.mono gl2
 clear gl2 gDk st2 a1 a4 a5 a6 a9 ex ez e1 e2 e3 hfx hA mk2
 generalize (k2.fl H1.floor).put D (.row [.string nm,qS H0.next s.rows.length (s.rows.length+9),qS H1.next s.queues.length (s.queues.length+3),Z0,Z0,Z0,Z0,iv s.miss] 30 false false)=H2 at *
 have gAH2:H2.get h.next=.row [.string nm,vr,.slice aq s.queues.length cq,.slice av s.vars.length cv,.slice at_ s.tags.length ct,vu,vo,iv s.miss] 30 false false:=(gg2 _ (by omega) (by omega)).trans gAH1
 have gOH2:∀ i,i<h.next→H2.get i=h.get i:=fun i hi=>(gg2 i (by omega) (by omega)).trans (gOH1 i hi)
 have P3:=p3.mono (h':=H2.fl (max H2.floor H2.next)) (by rw[CL];omega) fun i _ hi=>(gOH2 i hi)
 have w3:IntKind.i64.wrap ((s.vars.length:Int)+3)=((s.vars.length+3:Nat):Int):=B0 (by omega) (by omega)
 have mk3:=fun (H:AA)=>UR (h:=H) (n:=s.vars.length+3) Tryd.underlying27 GF O9 OM rfl rfl (by decide) (by decide) (by omega)
 obtain⟨g3,k3,a1,a2,a3,a4,a5,a6,a7,a8,a9⟩:=TD (mk:=[.string KB]) Tryd.underlying27 GF O9 OM rfl (by decide) P3 (R0 _) rfl rfl (by omega) (by rw[CL,CA];omega)
 rw[CL] at a1 a2 a4 a5 a6 a7 a9
 rw[CA] at a3 a8
 have sl3:=fun (H:AA)=>OJ (h:=H) (id:=H2.next) (n:=s.vars.length+1) (m:=s.vars.length) (c:=s.vars.length+3) Tryd.underlying27 GF (by omega) (by unfold AM;omega)
 have hfx:g3.fl (max H2.floor H2.next)=g3:=by rw[← a3];exact NV g3
 have ex:∀ i,i<H2.next→g3.get i=H2.get i:=a4
 have ez:∀ i,i<H2.next→k3.get i=H2.get i:=a9
 have e1:(H2.push (.row (C0 ((Value.string ByteArray.empty).cells.toList) (s.vars.length+3)) 9 false false)).get h.next=.row [.string nm,vr,.slice aq s.queues.length cq,.slice av s.vars.length cv,.slice at_ s.tags.length ct,vu,vo,iv s.miss] 30 false false:=by rw[AP (by omega)];exact gAH2
 have e2:g3.get h.next=.row [.string nm,vr,.slice aq s.queues.length cq,.slice av s.vars.length cv,.slice at_ s.tags.length ct,vu,vo,iv s.miss] 30 false false:=by rw[ex _ (by omega)];exact gAH2
 have e3:k3.get h.next=.row [.string nm,vr,.slice aq s.queues.length cq,.slice av s.vars.length cv,.slice at_ s.tags.length ct,vu,vo,iv s.miss] 30 false false:=by rw[ez _ (by omega)];exact gAH2
 have gDk:(k3.fl H2.floor).get D=.row [.string nm,qS H0.next s.rows.length (s.rows.length+9),qS H1.next s.queues.length (s.queues.length+3),Z0,Z0,Z0,Z0,iv s.miss] 30 false false:=by rw[FX,ez _ (by omega)];exact gDH2
 have hA:(h.next<H2.next)=True:=by simp;omega
 have st3:BH Tryd.prog (k3.fl H2.floor) 27 (qP D 3) (qS H2.next s.vars.length (s.vars.length+3))=_:=FU PY rfl rfl gDk (by simp only[List.length_cons,List.length_nil];omega) (by rw[CA];omega)
 simp only[List.set_cons_succ,List.set_cons_zero] at st3
 simp only[eE,seval,↓eP]
 refine WK.flags (ops:=g8) Bk ?_
 refine BQ.begin ?_
 refine AF hsn 0 (some 28) (.fieldAddr 30 (.tmp 1) 3) none ?_
 simp only[rG,seval,AB,AD,AC,Nat.zero_add,Nat.zero_add,GB]
 refine AF hsn 1 (some 29) (.load 27 (.tmp 28)) none ?_
 simp only[rG,seval,AB,AD,AC,BU,FE,gAH2,x3,hA]
 refine AF hsn 2 (some 30) (.call { callee:=.builtin .len,args:=#[.tmp 29],argTypes:=#[27] }) none ?_
 simp only[rG,seval,AB,AD,AC,CF,len3]
 refine AF hsn 3 (some 31) (.binOp .add 3 (.tmp 30) (.const (Value.int IntKind.i64 3)) 3) none ?_
 simp only[rG,seval,AB,AD,AC,GN,w3]
 refine AF hsn 4 (some 32) (.makeSlice 27 (.const (Value.int IntKind.i64 0)) (.tmp 31)) none ?_
 simp only[rG,seval,AB,AD,AC,mk3,DS]
 refine AF hsn 5 (some 33) (.fieldAddr 30 (.tmp 1) 3) none ?_
 simp only[rG,seval,AB,AD,AC,Nat.zero_add,Nat.zero_add,GB,DS,DA]
 refine AF hsn 6 (some 34) (.load 27 (.tmp 33)) none ?_
 simp only[rG,seval,AB,AD,AC,BU,FE,e1,x3,hA,DS,DA]
 refine AF hsn 7 (some 35) (.call { callee:=.builtin .append,args:=#[.tmp 32,.tmp 34],argTypes:=#[27,27] }) none ?_
 simp only[rG,seval,AB,AD,AC,CF,a1,DS,DA]
 refine AF hsn 8 (some 36) (.buildSlice 27 1 #[(0,.const (Value.string { data:=#[108,101,110,116] }))]) none ?_
 simp only[rG,seval,AB,AD,AC,List.map_cons,List.map_nil,RO,DS,CL,CA,DB]
 refine AF hsn 9 (some 37) (.call { callee:=.builtin .append,args:=#[.tmp 35,.tmp 36],argTypes:=#[27,27] }) none ?_
 simp only[rG,seval,AB,AD,AC,CF,hfx,a5,DS,DA,CA,DB]
 refine AF hsn 10 (some 38) (.fieldAddr 30 (.tmp 1) 3) none ?_
 simp only[rG,seval,AB,AD,AC,Nat.zero_add,Nat.zero_add,GB,CA,DB]
 refine AF hsn 11 (some 39) (.load 27 (.tmp 38)) none ?_
 simp only[rG,seval,AB,AD,AC,BU,FE,e3,x3,hA,CA,FX,DB]
 refine AF hsn 12 (some 40) (.call { callee:=.builtin .len,args:=#[.tmp 39],argTypes:=#[27] }) none ?_
 simp only[rG,seval,AB,AD,AC,CF,len3,CA,DB]
 refine AF hsn 13 (some 41) (.slice 27 (.tmp 37) none (some (.tmp 40)) none) none ?_
 simp only[rG,seval,AB,AD,AC,BU,sl3,CA,DB]
 refine AF hsn 14 (some 42) (.fieldAddr 30 (.tmp 3) 3) none ?_
 simp only[rG,seval,AB,AD,AC,Nat.zero_add,Nat.zero_add,GB,CA,DB]
 refine AF hsn 15 (none) (.store 27 (.tmp 42) (.tmp 41)) none ?_
 simp only[rG,seval,AB,AD,AC,DP,EE,st3,CA,DB]
 refine BQ.done (i:=16) (by kernel_rfl) ?_
 have nn3:((k3.fl H2.floor).put D (.row [.string nm,qS H0.next s.rows.length (s.rows.length+9),qS H1.next s.queues.length (s.queues.length+3),qS H2.next s.vars.length (s.vars.length+3),Z0,Z0,Z0,iv s.miss] 30 false false)).next=H2.next+2:=a7
 have ff3:((k3.fl H2.floor).put D (.row [.string nm,qS H0.next s.rows.length (s.rows.length+9),qS H1.next s.queues.length (s.queues.length+3),qS H2.next s.vars.length (s.vars.length+3),Z0,Z0,Z0,iv s.miss] 30 false false)).floor=H2.floor:=rfl
 have gg3:∀ i,i<H2.next→i≠D→((k3.fl H2.floor).put D (.row [.string nm,qS H0.next s.rows.length (s.rows.length+9),qS H1.next s.queues.length (s.queues.length+3),qS H2.next s.vars.length (s.vars.length+3),Z0,Z0,Z0,iv s.miss] 30 false false)).get i=H2.get i:=fun i hi hd=>by rw[AK (by rw[CL];omega) (Ne.symm hd),FX,ez i hi]
 have gDH3:((k3.fl H2.floor).put D (.row [.string nm,qS H0.next s.rows.length (s.rows.length+9),qS H1.next s.queues.length (s.queues.length+3),qS H2.next s.vars.length (s.vars.length+3),Z0,Z0,Z0,iv s.miss] 30 false false)).get D=.row [.string nm,qS H0.next s.rows.length (s.rows.length+9),qS H1.next s.queues.length (s.queues.length+3),qS H2.next s.vars.length (s.vars.length+3),Z0,Z0,Z0,iv s.miss] 30 false false:=BI rfl (by rw[CL];omega)
 have gl3:((k3.fl H2.floor).put D (.row [.string nm,qS H0.next s.rows.length (s.rows.length+9),qS H1.next s.queues.length (s.queues.length+3),qS H2.next s.vars.length (s.vars.length+3),Z0,Z0,Z0,iv s.miss] 30 false false)).get H2.next=k3.get H2.next:=by rw[AK (by rw[CL];omega) (by omega),FX]
 have L3:=a6.mono gl3
 clear gl3 gDk st3 a1 a4 a5 a6 a9 ex ez e1 e2 e3 hfx hA mk3
 generalize (k3.fl H2.floor).put D (.row [.string nm,qS H0.next s.rows.length (s.rows.length+9),qS H1.next s.queues.length (s.queues.length+3),qS H2.next s.vars.length (s.vars.length+3),Z0,Z0,Z0,iv s.miss] 30 false false)=H3 at *
 have gAH3:H3.get h.next=.row [.string nm,vr,.slice aq s.queues.length cq,.slice av s.vars.length cv,.slice at_ s.tags.length ct,vu,vo,iv s.miss] 30 false false:=(gg3 _ (by omega) (by omega)).trans gAH2
 have gOH3:∀ i,i<h.next→H3.get i=h.get i:=fun i hi=>(gg3 i (by omega) (by omega)).trans (gOH2 i hi)
 have P4:=p4.mono (h':=H3.fl (max H3.floor H3.next)) (by rw[CL];omega) fun i _ hi=>(gOH3 i hi)
 have w4:IntKind.i64.wrap ((s.tags.length:Int)+3)=((s.tags.length+3:Nat):Int):=B0 (by omega) (by omega)
 have mk4:=fun (H:AA)=>UR (h:=H) (n:=s.tags.length+3) Tryd.underlying27 GF O9 OM rfl rfl (by decide) (by decide) (by omega)
 obtain⟨g4,k4,a1,a2,a3,a4,a5,a6,a7,a8,a9⟩:=TD (mk:=[.string KB]) Tryd.underlying27 GF O9 OM rfl (by decide) P4 (R0 _) rfl rfl (by omega) (by rw[CL,CA];omega)
 rw[CL] at a1 a2 a4 a5 a6 a7 a9
 rw[CA] at a3 a8
 have sl4:=fun (H:AA)=>OJ (h:=H) (id:=H3.next) (n:=s.tags.length+1) (m:=s.tags.length) (c:=s.tags.length+3) Tryd.underlying27 GF (by omega) (by unfold AM;omega)
 have hfx:g4.fl (max H3.floor H3.next)=g4:=by rw[← a3];exact NV g4
 have ex:∀ i,i<H3.next→g4.get i=H3.get i:=a4
 have ez:∀ i,i<H3.next→k4.get i=H3.get i:=a9
 have e1:(H3.push (.row (C0 ((Value.string ByteArray.empty).cells.toList) (s.tags.length+3)) 9 false false)).get h.next=.row [.string nm,vr,.slice aq s.queues.length cq,.slice av s.vars.length cv,.slice at_ s.tags.length ct,vu,vo,iv s.miss] 30 false false:=by rw[AP (by omega)];exact gAH3
 have e2:g4.get h.next=.row [.string nm,vr,.slice aq s.queues.length cq,.slice av s.vars.length cv,.slice at_ s.tags.length ct,vu,vo,iv s.miss] 30 false false:=by rw[ex _ (by omega)];exact gAH3
 have e3:k4.get h.next=.row [.string nm,vr,.slice aq s.queues.length cq,.slice av s.vars.length cv,.slice at_ s.tags.length ct,vu,vo,iv s.miss] 30 false false:=by rw[ez _ (by omega)];exact gAH3
 have gDk:(k4.fl H3.floor).get D=.row [.string nm,qS H0.next s.rows.length (s.rows.length+9),qS H1.next s.queues.length (s.queues.length+3),qS H2.next s.vars.length (s.vars.length+3),Z0,Z0,Z0,iv s.miss] 30 false false:=by rw[FX,ez _ (by omega)];exact gDH3
 have hA:(h.next<H3.next)=True:=by simp;omega
 have st4:BH Tryd.prog (k4.fl H3.floor) 27 (qP D 4) (qS H3.next s.tags.length (s.tags.length+3))=_:=FU PY rfl rfl gDk (by simp only[List.length_cons,List.length_nil];omega) (by rw[CA];omega)
 simp only[List.set_cons_succ,List.set_cons_zero] at st4
 simp only[eE,seval,↓eP]
 refine WK.flags (ops:=uG) Bq ?_
 refine BQ.begin ?_
 refine AF hsn 0 (some 43) (.fieldAddr 30 (.tmp 1) 4) none ?_
 simp only[rG,seval,AB,AD,AC,Nat.zero_add,Nat.zero_add,GI]
 refine AF hsn 1 (some 44) (.load 27 (.tmp 43)) none ?_
 simp only[rG,seval,AB,AD,AC,BU,FE,gAH3,x4,hA]
 refine AF hsn 2 (some 45) (.call { callee:=.builtin .len,args:=#[.tmp 44],argTypes:=#[27] }) none ?_
 simp only[rG,seval,AB,AD,AC,CF,len4]
 refine AF hsn 3 (some 46) (.binOp .add 3 (.tmp 45) (.const (Value.int IntKind.i64 3)) 3) none ?_
 simp only[rG,seval,AB,AD,AC,GN,w4]
 refine AF hsn 4 (some 47) (.makeSlice 27 (.const (Value.int IntKind.i64 0)) (.tmp 46)) none ?_
 simp only[rG,seval,AB,AD,AC,mk4,DS]
 refine AF hsn 5 (some 48) (.fieldAddr 30 (.tmp 1) 4) none ?_
 simp only[rG,seval,AB,AD,AC,Nat.zero_add,Nat.zero_add,GI,DS,DA]
 refine AF hsn 6 (some 49) (.load 27 (.tmp 48)) none ?_
 simp only[rG,seval,AB,AD,AC,BU,FE,e1,x4,hA,DS,DA]
 refine AF hsn 7 (some 50) (.call { callee:=.builtin .append,args:=#[.tmp 47,.tmp 49],argTypes:=#[27,27] }) none ?_
 simp only[rG,seval,AB,AD,AC,CF,a1,DS,DA]
 refine AF hsn 8 (some 51) (.buildSlice 27 1 #[(0,.const (Value.string { data:=#[108,101,110,116] }))]) none ?_
 simp only[rG,seval,AB,AD,AC,List.map_cons,List.map_nil,RO,DS,CL,CA,DB]
 refine AF hsn 9 (some 52) (.call { callee:=.builtin .append,args:=#[.tmp 50,.tmp 51],argTypes:=#[27,27] }) none ?_
 simp only[rG,seval,AB,AD,AC,CF,hfx,a5,DS,DA,CA,DB]
 refine AF hsn 10 (some 53) (.fieldAddr 30 (.tmp 1) 4) none ?_
 simp only[rG,seval,AB,AD,AC,Nat.zero_add,Nat.zero_add,GI,CA,DB]
 refine AF hsn 11 (some 54) (.load 27 (.tmp 53)) none ?_
 simp only[rG,seval,AB,AD,AC,BU,FE,e3,x4,hA,CA,FX,DB]
 refine AF hsn 12 (some 55) (.call { callee:=.builtin .len,args:=#[.tmp 54],argTypes:=#[27] }) none ?_
 simp only[rG,seval,AB,AD,AC,CF,len4,CA,DB]
 refine AF hsn 13 (some 56) (.slice 27 (.tmp 52) none (some (.tmp 55)) none) none ?_
 simp only[rG,seval,AB,AD,AC,BU,sl4,CA,DB]
 refine AF hsn 14 (some 57) (.fieldAddr 30 (.tmp 3) 4) none ?_
 simp only[rG,seval,AB,AD,AC,Nat.zero_add,Nat.zero_add,GI,CA,DB]
 refine AF hsn 15 (none) (.store 27 (.tmp 57) (.tmp 56)) none ?_
 simp only[rG,seval,AB,AD,AC,DP,EE,st4,CA,DB]
 refine BQ.done (i:=16) (by kernel_rfl) ?_
 have nn4:((k4.fl H3.floor).put D (.row [.string nm,qS H0.next s.rows.length (s.rows.length+9),qS H1.next s.queues.length (s.queues.length+3),qS H2.next s.vars.length (s.vars.length+3),qS H3.next s.tags.length (s.tags.length+3),Z0,Z0,iv s.miss] 30 false false)).next=H3.next+2:=a7
 have ff4:((k4.fl H3.floor).put D (.row [.string nm,qS H0.next s.rows.length (s.rows.length+9),qS H1.next s.queues.length (s.queues.length+3),qS H2.next s.vars.length (s.vars.length+3),qS H3.next s.tags.length (s.tags.length+3),Z0,Z0,iv s.miss] 30 false false)).floor=H3.floor:=rfl
 have gg4:∀ i,i<H3.next→i≠D→((k4.fl H3.floor).put D (.row [.string nm,qS H0.next s.rows.length (s.rows.length+9),qS H1.next s.queues.length (s.queues.length+3),qS H2.next s.vars.length (s.vars.length+3),qS H3.next s.tags.length (s.tags.length+3),Z0,Z0,iv s.miss] 30 false false)).get i=H3.get i:=fun i hi hd=>by rw[AK (by rw[CL];omega) (Ne.symm hd),FX,ez i hi]
 have gDH4:((k4.fl H3.floor).put D (.row [.string nm,qS H0.next s.rows.length (s.rows.length+9),qS H1.next s.queues.length (s.queues.length+3),qS H2.next s.vars.length (s.vars.length+3),qS H3.next s.tags.length (s.tags.length+3),Z0,Z0,iv s.miss] 30 false false)).get D=.row [.string nm,qS H0.next s.rows.length (s.rows.length+9),qS H1.next s.queues.length (s.queues.length+3),qS H2.next s.vars.length (s.vars.length+3),qS H3.next s.tags.length (s.tags.length+3),Z0,Z0,iv s.miss] 30 false false:=BI rfl (by rw[CL];omega)
 have gl4:((k4.fl H3.floor).put D (.row [.string nm,qS H0.next s.rows.length (s.rows.length+9),qS H1.next s.queues.length (s.queues.length+3),qS H2.next s.vars.length (s.vars.length+3),qS H3.next s.tags.length (s.tags.length+3),Z0,Z0,iv s.miss] 30 false false)).get H3.next=k4.get H3.next:=by rw[AK (by rw[CL];omega) (by omega),FX]
 have L4:=a6.mono gl4
 clear gl4 gDk st4 a1 a4 a5 a6 a9 ex ez e1 e2 e3 hfx hA mk4
 generalize (k4.fl H3.floor).put D (.row [.string nm,qS H0.next s.rows.length (s.rows.length+9),qS H1.next s.queues.length (s.queues.length+3),qS H2.next s.vars.length (s.vars.length+3),qS H3.next s.tags.length (s.tags.length+3),Z0,Z0,iv s.miss] 30 false false)=H4 at *
 have gAH4:H4.get h.next=.row [.string nm,vr,.slice aq s.queues.length cq,.slice av s.vars.length cv,.slice at_ s.tags.length ct,vu,vo,iv s.miss] 30 false false:=(gg4 _ (by omega) (by omega)).trans gAH3
 have gOH4:∀ i,i<h.next→H4.get i=h.get i:=fun i hi=>(gg4 i (by omega) (by omega)).trans (gOH3 i hi)
 have P5:AN lo H4 vu s.rules:=AN.mono p5 (by omega) fun i _ hi=>gOH4 i hi
 obtain⟨j5,hc5,l5,m5,f5,o5⟩:=YK (n:=n) P5 hl2.1 (by omega) (by omega)
 have gA5:j5.get h.next=.row [.string nm,vr,.slice aq s.queues.length cq,.slice av s.vars.length cv,.slice at_ s.tags.length ct,vu,vo,iv s.miss] 30 false false:=by rw[o5 _ (by omega)];exact gAH4
 have gD5:j5.get D=.row [.string nm,qS H0.next s.rows.length (s.rows.length+9),qS H1.next s.queues.length (s.queues.length+3),qS H2.next s.vars.length (s.vars.length+3),qS H3.next s.tags.length (s.tags.length+3),Z0,Z0,iv s.miss] 30 false false:=by rw[o5 _ (by omega)];exact gDH4
 have N9:BH Tryd.prog j5 28 (qP D 5) (qS H4.next s.rules.length (s.rules.length+3))=_:=FU JG rfl rfl gD5 (by simp only[List.length_cons,List.length_nil];omega) (by omega)
 simp only[List.set_cons_succ,List.set_cons_zero] at N9
 simp only[eE,seval,↓eP,Nat.zero_add,F2,CC,gAH4,x5,hc5,N9]
 have nn5:(j5.put D (.row [.string nm,qS H0.next s.rows.length (s.rows.length+9),qS H1.next s.queues.length (s.queues.length+3),qS H2.next s.vars.length (s.vars.length+3),qS H3.next s.tags.length (s.tags.length+3),qS H4.next s.rules.length (s.rules.length+3),Z0,iv s.miss] 30 false false)).next=H4.next+2:=m5
 have ff5:(j5.put D (.row [.string nm,qS H0.next s.rows.length (s.rows.length+9),qS H1.next s.queues.length (s.queues.length+3),qS H2.next s.vars.length (s.vars.length+3),qS H3.next s.tags.length (s.tags.length+3),qS H4.next s.rules.length (s.rules.length+3),Z0,iv s.miss] 30 false false)).floor=H4.floor:=f5
 have gD5':(j5.put D (.row [.string nm,qS H0.next s.rows.length (s.rows.length+9),qS H1.next s.queues.length (s.queues.length+3),qS H2.next s.vars.length (s.vars.length+3),qS H3.next s.tags.length (s.tags.length+3),qS H4.next s.rules.length (s.rules.length+3),Z0,iv s.miss] 30 false false)).get D=.row [.string nm,qS H0.next s.rows.length (s.rows.length+9),qS H1.next s.queues.length (s.queues.length+3),qS H2.next s.vars.length (s.vars.length+3),qS H3.next s.tags.length (s.tags.length+3),qS H4.next s.rules.length (s.rules.length+3),Z0,iv s.miss] 30 false false:=BI rfl (by omega)
 have gg5:∀ i,i<H4.next→i≠D→(j5.put D (.row [.string nm,qS H0.next s.rows.length (s.rows.length+9),qS H1.next s.queues.length (s.queues.length+3),qS H2.next s.vars.length (s.vars.length+3),qS H3.next s.tags.length (s.tags.length+3),qS H4.next s.rules.length (s.rules.length+3),Z0,iv s.miss] 30 false false)).get i=H4.get i:=fun i hi hd=>by rw[AK (by omega) (Ne.symm hd),o5 i hi]
 have L5:=l5.mono (h':=j5.put D (.row [.string nm,qS H0.next s.rows.length (s.rows.length+9),qS H1.next s.queues.length (s.queues.length+3),qS H2.next s.vars.length (s.vars.length+3),qS H3.next s.tags.length (s.tags.length+3),qS H4.next s.rules.length (s.rules.length+3),Z0,iv s.miss] 30 false false)) (by rw[AK (by omega) (by omega)])
 clear gA5 gD5 N9 hc5
 generalize j5.put D (.row [.string nm,qS H0.next s.rows.length (s.rows.length+9),qS H1.next s.queues.length (s.queues.length+3),qS H2.next s.vars.length (s.vars.length+3),qS H3.next s.tags.length (s.tags.length+3),qS H4.next s.rules.length (s.rules.length+3),Z0,iv s.miss] 30 false false)=H5 at *
 have gAH5:H5.get h.next=.row [.string nm,vr,.slice aq s.queues.length cq,.slice av s.vars.length cv,.slice at_ s.tags.length ct,vu,vo,iv s.miss] 30 false false:=(gg5 _ (by omega) (by omega)).trans gAH4
 have gOH5:∀ i,i<h.next→H5.get i=h.get i:=fun i hi=>(gg5 i (by omega) (by omega)).trans (gOH4 i hi)
 have P6:AN lo H5 vo s.on:=AN.mono p6 (by omega) fun i _ hi=>gOH5 i hi
 obtain⟨j6,hc6,l6,m6,f6,o6⟩:=YK (n:=n) P6 hl2.2 (by omega) (by omega)
 have gA6:j6.get h.next=.row [.string nm,vr,.slice aq s.queues.length cq,.slice av s.vars.length cv,.slice at_ s.tags.length ct,vu,vo,iv s.miss] 30 false false:=by rw[o6 _ (by omega)];exact gAH5
 have gD6:j6.get D=.row [.string nm,qS H0.next s.rows.length (s.rows.length+9),qS H1.next s.queues.length (s.queues.length+3),qS H2.next s.vars.length (s.vars.length+3),qS H3.next s.tags.length (s.tags.length+3),qS H4.next s.rules.length (s.rules.length+3),Z0,iv s.miss] 30 false false:=by rw[o6 _ (by omega)];exact gD5'
 have st6:BH Tryd.prog j6 28 (qP D 6) (qS H5.next s.on.length (s.on.length+3))=_:=FU JG rfl rfl gD6 (by simp only[List.length_cons,List.length_nil];omega) (by omega)
 simp only[List.set_cons_succ,List.set_cons_zero] at st6
 simp only[eE,seval,↓eP,Nat.zero_add,HG,CC,gAH5,x6,hc6,st6]
 have nn6:(j6.put D (.row [.string nm,qS H0.next s.rows.length (s.rows.length+9),qS H1.next s.queues.length (s.queues.length+3),qS H2.next s.vars.length (s.vars.length+3),qS H3.next s.tags.length (s.tags.length+3),qS H4.next s.rules.length (s.rules.length+3),qS H5.next s.on.length (s.on.length+3),iv s.miss] 30 false false)).next=H5.next+2:=m6
 have ff6:(j6.put D (.row [.string nm,qS H0.next s.rows.length (s.rows.length+9),qS H1.next s.queues.length (s.queues.length+3),qS H2.next s.vars.length (s.vars.length+3),qS H3.next s.tags.length (s.tags.length+3),qS H4.next s.rules.length (s.rules.length+3),qS H5.next s.on.length (s.on.length+3),iv s.miss] 30 false false)).floor=H5.floor:=f6
 have gD6':(j6.put D (.row [.string nm,qS H0.next s.rows.length (s.rows.length+9),qS H1.next s.queues.length (s.queues.length+3),qS H2.next s.vars.length (s.vars.length+3),qS H3.next s.tags.length (s.tags.length+3),qS H4.next s.rules.length (s.rules.length+3),qS H5.next s.on.length (s.on.length+3),iv s.miss] 30 false false)).get D=.row [.string nm,qS H0.next s.rows.length (s.rows.length+9),qS H1.next s.queues.length (s.queues.length+3),qS H2.next s.vars.length (s.vars.length+3),qS H3.next s.tags.length (s.tags.length+3),qS H4.next s.rules.length (s.rules.length+3),qS H5.next s.on.length (s.on.length+3),iv s.miss] 30 false false:=BI rfl (by omega)
 have gg6:∀ i,i<H5.next→i≠D→(j6.put D (.row [.string nm,qS H0.next s.rows.length (s.rows.length+9),qS H1.next s.queues.length (s.queues.length+3),qS H2.next s.vars.length (s.vars.length+3),qS H3.next s.tags.length (s.tags.length+3),qS H4.next s.rules.length (s.rules.length+3),qS H5.next s.on.length (s.on.length+3),iv s.miss] 30 false false)).get i=H5.get i:=fun i hi hd=>by rw[AK (by omega) (Ne.symm hd),o6 i hi]
 have L6:=l6.mono (h':=j6.put D (.row [.string nm,qS H0.next s.rows.length (s.rows.length+9),qS H1.next s.queues.length (s.queues.length+3),qS H2.next s.vars.length (s.vars.length+3),qS H3.next s.tags.length (s.tags.length+3),qS H4.next s.rules.length (s.rules.length+3),qS H5.next s.on.length (s.on.length+3),iv s.miss] 30 false false)) (by rw[AK (by omega) (by omega)])
 clear gA6 gD6 st6 hc6
 generalize j6.put D (.row [.string nm,qS H0.next s.rows.length (s.rows.length+9),qS H1.next s.queues.length (s.queues.length+3),qS H2.next s.vars.length (s.vars.length+3),qS H3.next s.tags.length (s.tags.length+3),qS H4.next s.rules.length (s.rules.length+3),qS H5.next s.on.length (s.on.length+3),iv s.miss] 30 false false)=H6 at *
 have gOH6:∀ i,i<h.next→H6.get i=h.get i:=fun i hi=>(gg6 i (by omega) (by omega)).trans (gOH5 i hi)
 have lD:BL 8 0 (H6.get D)=some (.agg #[.string nm,qS H0.next s.rows.length (s.rows.length+9),qS H1.next s.queues.length (s.queues.length+3),qS H2.next s.vars.length (s.vars.length+3),qS H3.next s.tags.length (s.tags.length+3),qS H4.next s.rules.length (s.rules.length+3),qS H5.next s.on.length (s.on.length+3),iv s.miss]):=NO gD6' rfl
 have gZ6:H6.get (h.next+1)=.row BT 30 false false:=by
  rw[gg6 _ (by omega) (by omega),gg5 _ (by omega) (by omega),gg4 _ (by omega) (by omega),gg3 _ (by omega) (by omega),gg2 _ (by omega) (by omega),gZ1 _ rfl]
  exact gZ
 have st7:BH Tryd.prog H6 30 (qP (h.next+1) 0) _=_:=GY HM (vs:=[.string nm,qS H0.next s.rows.length (s.rows.length+9),qS H1.next s.queues.length (s.queues.length+3),qS H2.next s.vars.length (s.vars.length+3),qS H3.next s.tags.length (s.tags.length+3),qS H4.next s.rules.length (s.rules.length+3),qS H5.next s.on.length (s.on.length+3),iv s.miss]) gZ6 rfl rfl rfl (by omega)
 have lZ:BL 8 0 ((H6.put (h.next+1) (.row [.string nm,qS H0.next s.rows.length (s.rows.length+9),qS H1.next s.queues.length (s.queues.length+3),qS H2.next s.vars.length (s.vars.length+3),qS H3.next s.tags.length (s.tags.length+3),qS H4.next s.rules.length (s.rules.length+3),qS H5.next s.on.length (s.on.length+3),iv s.miss] 30 false false)).get (h.next+1))=some (.agg #[.string nm,qS H0.next s.rows.length (s.rows.length+9),qS H1.next s.queues.length (s.queues.length+3),qS H2.next s.vars.length (s.vars.length+3),qS H3.next s.tags.length (s.tags.length+3),qS H4.next s.rules.length (s.rules.length+3),qS H5.next s.on.length (s.on.length+3),iv s.miss]):=NO (BI rfl (by omega)) rfl
 simp only[eE,seval,↓eP,hr,GX,lD,st7,lZ]
 have gg7:∀ i,i<H6.next→i≠h.next+1→(H6.put (h.next+1) (.row [.string nm,qS H0.next s.rows.length (s.rows.length+9),qS H1.next s.queues.length (s.queues.length+3),qS H2.next s.vars.length (s.vars.length+3),qS H3.next s.tags.length (s.tags.length+3),qS H4.next s.rules.length (s.rules.length+3),qS H5.next s.on.length (s.on.length+3),iv s.miss] 30 false false)).get i=H6.get i:=fun i hi hd=>AK (by omega) (Ne.symm hd)
 have nn7:(H6.put (h.next+1) (.row [.string nm,qS H0.next s.rows.length (s.rows.length+9),qS H1.next s.queues.length (s.queues.length+3),qS H2.next s.vars.length (s.vars.length+3),qS H3.next s.tags.length (s.tags.length+3),qS H4.next s.rules.length (s.rules.length+3),qS H5.next s.on.length (s.on.length+3),iv s.miss] 30 false false)).next=H6.next:=rfl
 have ff7:(H6.put (h.next+1) (.row [.string nm,qS H0.next s.rows.length (s.rows.length+9),qS H1.next s.queues.length (s.queues.length+3),qS H2.next s.vars.length (s.vars.length+3),qS H3.next s.tags.length (s.tags.length+3),qS H4.next s.rules.length (s.rules.length+3),qS H5.next s.on.length (s.on.length+3),iv s.miss] 30 false false)).floor=H6.floor:=rfl
 generalize H6.put (h.next+1) (.row [.string nm,qS H0.next s.rows.length (s.rows.length+9),qS H1.next s.queues.length (s.queues.length+3),qS H2.next s.vars.length (s.vars.length+3),qS H3.next s.tags.length (s.tags.length+3),qS H4.next s.rules.length (s.rules.length+3),qS H5.next s.on.length (s.on.length+3),iv s.miss] 30 false false)=H7 at *
 refine⟨⟨fun i=>if i=1 then H0.next else if i=2 then H1.next else if i=3 then H2.next else if i=4 then H3.next else if i=5 then H4.next else H5.next,rfl,?_,⟨L,?_,hL1.len,hL1.own,hL1.marks⟩,L2.mono ?_,L3.mono ?_,L4.mono ?_,L5.mono ?_,L6.mono ?_⟩,by omega,by omega,fun i hi=>by rw[gg7 _ (by omega) (by omega)];exact gOH6 i hi⟩
 ·simp only[↓reduceIte,Nat.reduceEqDiff]
  omega
 ·show H7.get H0.next=_
  rw[gg7 _ (by omega) (by omega),gg6 _ (by omega) (by omega),gg5 _ (by omega) (by omega),gg4 _ (by omega) (by omega),gg3 _ (by omega) (by omega),gg2 _ (by omega) (by omega)]
  exact hL1.g
 ·show H7.get H1.next=_
  rw[gg7 _ (by omega) (by omega),gg6 _ (by omega) (by omega),gg5 _ (by omega) (by omega),gg4 _ (by omega) (by omega),gg3 _ (by omega) (by omega)]
 ·show H7.get H2.next=_
  rw[gg7 _ (by omega) (by omega),gg6 _ (by omega) (by omega),gg5 _ (by omega) (by omega),gg4 _ (by omega) (by omega)]
 ·show H7.get H3.next=_
  rw[gg7 _ (by omega) (by omega),gg6 _ (by omega) (by omega),gg5 _ (by omega) (by omega)]
 ·show H7.get H4.next=_
  rw[gg7 _ (by omega) (by omega),gg6 _ (by omega) (by omega)]
 ·show H7.get H5.next=_
  rw[gg7 _ (by omega) (by omega)]
theorem Nw {nm:ByteArray} {s:AS} {pv:Value} {lo:Nat} (hp:DJ lo h pv nm s) (hs:IJ s) (hl:s.rows.length<2932031007403) (hl2:s.rules.length<2932031007403∧s.on.length<2932031007403) (hfl:h.floor≤h.next) (hn:30<n) :
  ∃ v' h',AX n 21 [pv] h=some (v',h')∧(∃ o,LW h' h.next v' nm s o)∧h.next≤h'.next∧h'.floor=h.floor∧∀ i,i<h.next→h'.get i=h.get i:=by
 obtain⟨n,rfl⟩:=D3 hn
 refine M5 (CP ⟨rfl,rfl,rfl⟩) (Co hp hs hl hl2 hfl (by omega)) fun v' h1 hf ho ⟨⟨o,hL⟩,_⟩=>?_
 rw[hL.v] at hf
 cases hf
end
theorem j7 {h:AA} {o:Nat} {l L:List AE} (hL:M2 h o l L) (ho:o<h.next):AU h (qS o l.length (l.length+9)) l:=by
 refine⟨_,_,rfl,.inr ⟨o,0,_,_,_,_,rfl,hL.g,ho,fun k r hk=>?_⟩⟩
 have hkl:=(List.getElem?_eq_some_iff.1 hk).1
 rw[Nat.zero_add]
 exact PT ((hL.own k hkl).trans hk)
theorem GL.size {h:AA} {o n w:Nat} {cs mk z:List Value} {e:TypeId} (hl:GL h o n w cs mk z e):(cs++(mk++C0 z 2)).length=(n+3)*w:=by
 rw[List.length_append,List.length_append,UM,hl.len,hl.mlen,hl.zlen]
 simp only[Nat.add_mul]
 omega
section
variable {n N:Nat} {h:AA}
end
theorem LW.pol {h:AA} {b:Nat} {v:Value} {nm:ByteArray} {s:AS} {o:Nat→Nat} (hL:LW h b v nm s o):DJ 0 h v nm s:=by
 obtain⟨rfl,⟨u1,u2,u3,u4,u5,u6,u7⟩,⟨L,L1⟩,L2,L3,L4,L5,L6⟩:=hL
 exact⟨_,_,_,_,_,_,rfl,AU.cells (j7 L1 (by omega)),L2.cells ⟨Nat.zero_le _,by omega⟩,L3.cells ⟨Nat.zero_le _,by omega⟩,L4.cells ⟨Nat.zero_le _,by omega⟩,L5.cells ⟨Nat.zero_le _,by omega⟩,L6.cells ⟨Nat.zero_le _,by omega⟩⟩
theorem LW.mono {h h':AA} {b:Nat} {v:Value} {nm:ByteArray} {s:AS} {o:Nat→Nat} (hL:LW h b v nm s o) (hn:h.next≤h'.next) (hg:∀ i,i<h.next→h'.get i=h.get i):LW h' b v nm s o:=by
 obtain⟨hv,⟨u1,u2,u3,u4,u5,u6,u7⟩,⟨L,L1⟩,L2,L3,L4,L5,L6⟩:=hL
 exact⟨hv,⟨u1,u2,u3,u4,u5,u6,by omega⟩,⟨L,by rw[hg _ (by omega)];exact L1.g,L1.len,L1.own,L1.marks⟩,L2.mono (hg _ (by omega)),L3.mono (hg _ (by omega)),L4.mono (hg _ (by omega)),L5.mono (hg _ (by omega)),L6.mono (hg _ (by omega))⟩
theorem LW.lies {h:AA} {b:Nat} {v:Value} {nm:ByteArray} {s:AS} {o:Nat→Nat} (hL:LW h b v nm s o):∀ nm' vr vq vv vt vu vo m,v=.agg #[.string nm',vr,vq,vv,vt,vu,vo,m]→PV vr s.rows.length:=by
 intro nm' vr vq vv vt vu vo m hv
 rw[hL.v] at hv
 simp only[Value.agg.injEq,Array.mk.injEq,List.cons.injEq] at hv
 obtain⟨_,h1,_⟩:=hv
 subst h1
 exact⟨_,_,_,rfl⟩
section
variable {n N:Nat} {h:AA}
end
structure O7 (h:AA) (b:Nat) (v:Value) (W:List (Int × Int × Int)) (G rd:List Int) (o:Nat→Nat):Prop where
 v:v=.agg #[qS (o 1) W.length (W.length+3),qS (o 2) G.length (G.length+3),qS (o 3) rd.length (rd.length+3)]
 far:b≤o 2∧o 2<o 3∧o 3<o 1∧o 1<h.next
 w:GL h (o 1) W.length 3 (vcells W) [iv (-77),iv 0,iv 0] [iv 0,iv 0,iv 0] 110
 g:GL h (o 2) G.length 1 (ints G) [iv (-77)] [iv 0] 3
 r:GL h (o 3) rd.length 1 (ints rd) [iv (-77)] [iv 0] 3
theorem O7.typ {h:AA} {b:Nat} {v:Value} {W:List (Int × Int × Int)} {G rd:List Int} {o:Nat→Nat} (hL:O7 h b v W G rd o):L7 0 h v W G rd:=by
 obtain⟨rfl,⟨u1,u2,u3,u4⟩,L1,L2,L3⟩:=hL
 exact⟨_,_,_,rfl,L1.cells ⟨Nat.zero_le _,by omega⟩,L2.cells ⟨Nat.zero_le _,by omega⟩,L3.cells ⟨Nat.zero_le _,by omega⟩⟩
theorem O7.mono {h h':AA} {b:Nat} {v:Value} {W:List (Int × Int × Int)} {G rd:List Int} {o:Nat→Nat} (hL:O7 h b v W G rd o) (hn:h.next≤h'.next) (hg:∀ i,b≤i→i<h.next→h'.get i=h.get i):O7 h' b v W G rd o:=by
 obtain⟨hv,⟨u1,u2,u3,u4⟩,L1,L2,L3⟩:=hL
 exact⟨hv,⟨u1,u2,u3,by omega⟩,L1.mono (hg _ (by omega) (by omega)),L2.mono (hg _ (by omega) (by omega)),L3.mono (hg _ (by omega) (by omega))⟩
noncomputable def p8:Array Oper:=DR Tryd.f44 1
def Ll:List (Bool × Bool × List Operand):=[AW,AW,AW,CZ [.tmp 4],CZ [.tmp 4],AL,AL,CZ [.tmp 4,.tmp 7],AL]
theorem Jv:DU p8=Ll:=by kernel_rfl
noncomputable def pJ:Array Oper:=DR Tryd.f44 2
def vZ:List (Bool × Bool × List Operand):=[AW,AW,AW,AW,AW,CZ [.tmp 11],CZ [.tmp 11],AW,CZ [.tmp 11,.tmp 16],CZ [.tmp 11,.tmp 16],AW,CZ [.tmp 11,.tmp 16],CZ [.tmp 11,.tmp 16],CZ [.tmp 11,.tmp 16],AL,AL,AL]
theorem wD:DU pJ=vZ:=by kernel_rfl
section
variable {n N:Nat} {h:AA}
theorem Ck {W:List (Int × Int × Int)} {G rd:List Int} {tv:Value} {lo:Nat} (hp:L7 lo h tv W G rd) (hw:W.length<100000) (hg:G.length<100000) (hrl:rd.length<2932031007403) (hfl:h.floor≤h.next) (hn:20<n) :
  ∃ v' h',A9 Tryd.prog (AX n) N 44 [tv] h=some (v',h')∧(∃ o,O7 h' h.next v' W G rd o)∧h.next≤h'.next∧h'.floor=h.floor∧∀ i,i<h.next→h'.get i=h.get i:=by
 obtain⟨tw,tg,td,rfl,y1,y2,y3⟩:=hp
 obtain⟨aw,cw,rfl,_⟩:=id y1.2
 have hsn:=(FH n).2
 refine MO (R:=fun v' h'=>(∃ o,O7 h' h.next v' W G rd o)∧h.next≤h'.next∧h'.floor=h.floor∧∀ i,i<h.next→h'.get i=h.get i) Tryd.func44 rfl (by simp[Tryd.f44]) ?_
 have hr:Tryd.f44.results.toList=[.cell 2 70]:=rfl
 have cy:=F7 [.slice aw W.length cw,tg,td]
 have oy:[.slice aw W.length cw,tg,td].all one=true:=by
  have:=y1.one
  simp only[List.all_cons,List.all_nil,this,A7.one y2,A7.one y3,Bool.and_self]
 have zcY:=F7 [Z0,Z0,Z0]
 have len1:=P_ y1
 obtain⟨gA,gZ,n0,f0,gO⟩:=V9 h (.row [.slice aw W.length cw,tg,td] 70 false false) (.row [Z0,Z0,Z0] 70 false false)
 simp only[eE,seval,↓eP,DC,C8,C4,cy,oy,NT,QJ,QM,zcY]
 generalize (h.push (.row [.slice aw W.length cw,tg,td] 70 false false)).push (.row [Z0,Z0,Z0] 70 false false)=H0 at *
 have hA0:(h.next<H0.next)=True:=by rw[n0];simp
 have x1:AO 1 (H0.get h.next)=some tg:=by rw[gA];rfl
 have y2':AN lo (H0.fl (max H0.floor H0.next)) tg G:=AN.mono y2 (by rw[CL];omega) fun i _ hi=>gO i hi
 obtain⟨h1,hk1,l1,n1,f1,o1⟩:=YK (n:=n) y2' (by omega) (by rw[CL,CA];omega) (by omega)
 rw[CL] at hk1 l1 n1 o1
 rw[CA] at f1
 have y3':AN lo (h1.fl H0.floor) td rd:=AN.mono y3 (by rw[CL];omega) fun i _ hi=>(o1 i (by omega)).trans (gO i hi)
 obtain⟨h2,hk2,l2,n2,f2,o2⟩:=YK (n:=n) y3' (by omega) (by rw[CL,CA];omega) (by omega)
 rw[CL] at hk2 l2 n2 o2
 rw[CA] at f2
 have x2:AO 2 (h1.get h.next)=some td:=by rw[o1 _ (by omega)];show AO 2 (H0.get h.next)=_;rw[gA];rfl
 have hst:BH Tryd.prog (h2.push (.row [Z0,Z0,Z0] 70 false false)) 70 (qP h2.next 0) (.agg #[Z0,qS H0.next G.length (G.length+3),qS h1.next rd.length (rd.length+3)])=_:=
  GY NT (vs:=[Z0,qS H0.next G.length (G.length+3),qS h1.next rd.length (rd.length+3)]) (BO (h:=h2)) rfl rfl rfl (by rw[DA];omega)
 have hf2:h2.fl H0.floor=h2:=by rw[show H0.floor=h2.floor by omega];rfl
 have hf2p:∀ o,(h2.push o).fl H0.floor=h2.push o:=fun o=>by rw[show H0.floor=(h2.push o).floor by show H0.floor=h2.floor;omega];rfl
 refine WK.flags (ops:=p8) Jv ?_
 refine BQ.begin ?_
 refine AF hsn 0 (some 4) (.fieldAddr 70 (.tmp 1) 1) none ?_
 simp only[rG,seval,AB,AD,AC,Nat.zero_add,uR,Nat.zero_add]
 refine AF hsn 1 (some 5) (.load 28 (.tmp 4)) none ?_
 simp only[rG,seval,AB,AD,AC,BU,CC,x1,hA0]
 refine AF hsn 2 (some 6) (.call { callee:=.value (.func 65),args:=#[.tmp 5],argTypes:=#[28] }) none ?_
 simp only[rG,seval,AB,AD,AC,CF,hk1]
 refine AF hsn 3 (some 7) (.fieldAddr 70 (.tmp 1) 2) none ?_
 simp only[rG,seval,AB,AD,AC,Nat.zero_add,J_,Nat.zero_add,CA,DB]
 refine AF hsn 4 (some 8) (.load 28 (.tmp 7)) none ?_
 simp only[rG,seval,AB,AD,AC,BU,CC,x2,hA0,CA,FX,DB]
 refine AF hsn 5 (some 9) (.call { callee:=.value (.func 65),args:=#[.tmp 8],argTypes:=#[28] }) none ?_
 simp only[rG,seval,AB,AD,AC,CF,hk2,hf2,CA]
 refine AF hsn 6 (some 10) (.build 70 #[(1,.tmp 6),(2,.tmp 9)]) none ?_
 simp only[rG,seval,AB,AD,AC,List.map_cons,List.map_nil,Cb]
 refine AF hsn 7 (some 3) (.alloc 70) none ?_
 simp only[rG,seval,AB,AD,AC,N1,QJ,QM,zcY]
 refine AF hsn 8 (none) (.store 70 (.tmp 3) (.tmp 10)) none ?_
 simp only[rG,seval,AB,AD,AC,DP,EE,hst]
 refine BQ.done (i:=9) (by kernel_rfl) ?_
 have gA1:((h2.push (.row [Z0,Z0,Z0] 70 false false)).put h2.next (.row [Z0,qS H0.next G.length (G.length+3),qS h1.next rd.length (rd.length+3)] 70 false false)).get h2.next=.row [Z0,qS H0.next G.length (G.length+3),qS h1.next rd.length (rd.length+3)] 70 false false:=BI rfl (by show h2.next<h2.next+1;omega)
 have oA1:∀ i,i<h2.next→((h2.push (.row [Z0,Z0,Z0] 70 false false)).put h2.next (.row [Z0,qS H0.next G.length (G.length+3),qS h1.next rd.length (rd.length+3)] 70 false false)).get i=h2.get i:=fun i hi=>by rw[AK (by show h2.next<h2.next+1;omega) (by omega),AP hi]
 have nA1:((h2.push (.row [Z0,Z0,Z0] 70 false false)).put h2.next (.row [Z0,qS H0.next G.length (G.length+3),qS h1.next rd.length (rd.length+3)] 70 false false)).next=h2.next+1:=rfl
 have fA1:((h2.push (.row [Z0,Z0,Z0] 70 false false)).put h2.next (.row [Z0,qS H0.next G.length (G.length+3),qS h1.next rd.length (rd.length+3)] 70 false false)).floor=h2.floor:=rfl
 simp only[eE,seval,↓eP]
 generalize (h2.push (.row [Z0,Z0,Z0] 70 false false)).put h2.next (.row [Z0,qS H0.next G.length (G.length+3),qS h1.next rd.length (rd.length+3)] 70 false false)=A1 at *
 generalize hD:h2.next=D at *
 have oH1:∀ i,i<h.next→A1.get i=h.get i:=fun i hi=>by rw[oA1 i (by omega),o2 i (by omega)];exact(o1 i (by omega)).trans (gO i hi)
 have gAA:∀ i,i<H0.next→A1.get i=H0.get i:=fun i hi=>by rw[oA1 i (by omega),o2 i (by omega)];exact o1 i (by omega)
 have P1:=y1.mono (h':=A1.fl (max A1.floor A1.next)) (by rw[CL];omega) fun i _ hi=>oH1 i hi
 have w2:IntKind.i64.wrap ((W.length:Int)+3)=((W.length+3:Nat):Int):=B0 (by omega) (by omega)
 have mk2:=fun (H:AA)=>UR (h:=H) (n:=W.length+3) Tryd.underlying68 TE kW XA rfl rfl (by decide) (by decide) (by omega)
 obtain⟨g2,k2,a1,a2,a3,a4,a5,a6,a7,a8,a9⟩:=TD (mk:=[iv (-77),iv 0,iv 0]) Tryd.underlying68 TE kW XA rfl (by decide) P1 (Df _) rfl rfl (by omega) (by rw[CL,CA];omega)
 rw[CL] at a1 a2 a4 a5 a6 a7 a9
 rw[CA] at a3 a8
 have sl2:=fun (H:AA)=>OJ (h:=H) (id:=A1.next) (n:=W.length+1) (m:=W.length) (c:=W.length+3) Tryd.underlying68 TE (by omega) (by unfold AM;omega)
 have hfx:g2.fl (max A1.floor A1.next)=g2:=by rw[← a3];exact NV g2
 have ex:∀ i,i<A1.next→g2.get i=A1.get i:=a4
 have ez:∀ i,i<A1.next→k2.get i=A1.get i:=a9
 have gT:A1.get h.next=.row [.slice aw W.length cw,tg,td] 70 false false:=by rw[gAA _ (by omega)];exact gA
 have e1:(A1.push (.row (C0 ((IC 0 0 0).cells.toList) (W.length+3)) 110 false false)).get h.next=.row [.slice aw W.length cw,tg,td] 70 false false:=by rw[AP (by omega)];exact gT
 have e2:g2.get h.next=.row [.slice aw W.length cw,tg,td] 70 false false:=by rw[ex _ (by omega)];exact gT
 have e3:k2.get h.next=.row [.slice aw W.length cw,tg,td] 70 false false:=by rw[ez _ (by omega)];exact gT
 have x0:AO 0 (.row [.slice aw W.length cw,tg,td] 70 false false)=some (.slice aw W.length cw):=rfl
 have gDk:(k2.fl A1.floor).get D=.row [Z0,qS H0.next G.length (G.length+3),qS h1.next rd.length (rd.length+3)] 70 false false:=by rw[FX,ez _ (by omega)];exact gA1
 have hA:(h.next<A1.next)=True:=by simp;omega
 have st2:BH Tryd.prog (k2.fl A1.floor) 68 (qP D 0) (qS A1.next W.length (W.length+3))=_:=FU tB rfl rfl gDk (by simp only[List.length_cons,List.length_nil];omega) (by rw[CA];omega)
 simp only[List.set_cons_zero] at st2
 refine WK.flags (ops:=pJ) wD ?_
 refine BQ.begin ?_
 refine AF hsn 0 (some 11) (.fieldAddr 70 (.tmp 1) 0) none ?_
 simp only[rG,seval,AB,AD,AC,Nat.zero_add,Nat.zero_add,WB]
 refine AF hsn 1 (some 12) (.load 68 (.tmp 11)) none ?_
 simp only[rG,seval,AB,AD,AC,BU,cF,gT,x0,hA]
 refine AF hsn 2 (some 13) (.call { callee:=.builtin .len,args:=#[.tmp 12],argTypes:=#[68] }) none ?_
 simp only[rG,seval,AB,AD,AC,CF,len1]
 refine AF hsn 3 (some 14) (.binOp .add 3 (.tmp 13) (.const (Value.int IntKind.i64 3)) 3) none ?_
 simp only[rG,seval,AB,AD,AC,GN,w2]
 refine AF hsn 4 (some 15) (.makeSlice 68 (.const (Value.int IntKind.i64 0)) (.tmp 14)) none ?_
 simp only[rG,seval,AB,AD,AC,mk2,DS]
 refine AF hsn 5 (some 16) (.fieldAddr 70 (.tmp 1) 0) none ?_
 simp only[rG,seval,AB,AD,AC,WB,DS,DA]
 refine AF hsn 6 (some 17) (.load 68 (.tmp 16)) none ?_
 simp only[rG,seval,AB,AD,AC,BU,cF,e1,x0,hA,DS,DA]
 refine AF hsn 7 (some 18) (.call { callee:=.builtin .append,args:=#[.tmp 15,.tmp 17],argTypes:=#[68,68] }) none ?_
 simp only[rG,seval,AB,AD,AC,CF,a1,DS,DA]
 refine AF hsn 8 (some 19) (.build 110 #[(0,.const (Value.int IntKind.i64 (-77)))]) none ?_
 simp only[rG,seval,AB,AD,AC,List.map_cons,List.map_nil,Rf,CA,DB]
 refine AF hsn 9 (some 20) (.buildSlice 68 1 #[(0,.tmp 19)]) none ?_
 simp only[rG,seval,AB,AD,AC,List.map_cons,List.map_nil,Pp,DS,CL,CA,DB]
 refine AF hsn 10 (some 21) (.call { callee:=.builtin .append,args:=#[.tmp 18,.tmp 20],argTypes:=#[68,68] }) none ?_
 simp only[rG,seval,AB,AD,AC,CF,hfx,a5,DS,DA,CA,DB]
 refine AF hsn 11 (some 22) (.fieldAddr 70 (.tmp 1) 0) none ?_
 simp only[rG,seval,AB,AD,AC,WB,CA,DB]
 refine AF hsn 12 (some 23) (.load 68 (.tmp 22)) none ?_
 simp only[rG,seval,AB,AD,AC,BU,cF,e3,x0,hA,CA,FX,DB]
 refine AF hsn 13 (some 24) (.call { callee:=.builtin .len,args:=#[.tmp 23],argTypes:=#[68] }) none ?_
 simp only[rG,seval,AB,AD,AC,CF,len1,CA,DB]
 refine AF hsn 14 (some 25) (.slice 68 (.tmp 21) none (some (.tmp 24)) none) none ?_
 simp only[rG,seval,AB,AD,AC,BU,sl2,CA,DB]
 refine AF hsn 15 (some 26) (.fieldAddr 70 (.tmp 3) 0) none ?_
 simp only[rG,seval,AB,AD,AC,WB,CA,DB]
 refine AF hsn 16 (none) (.store 68 (.tmp 26) (.tmp 25)) none ?_
 simp only[rG,seval,AB,AD,AC,DP,EE,st2,CA,DB]
 refine BQ.done (i:=17) (by kernel_rfl) ?_
 have nn2:((k2.fl A1.floor).put D (.row [qS A1.next W.length (W.length+3),qS H0.next G.length (G.length+3),qS h1.next rd.length (rd.length+3)] 70 false false)).next=A1.next+2:=a7
 have ff2:((k2.fl A1.floor).put D (.row [qS A1.next W.length (W.length+3),qS H0.next G.length (G.length+3),qS h1.next rd.length (rd.length+3)] 70 false false)).floor=A1.floor:=rfl
 have gg2:∀ i,i≠D→((k2.fl A1.floor).put D (.row [qS A1.next W.length (W.length+3),qS H0.next G.length (G.length+3),qS h1.next rd.length (rd.length+3)] 70 false false)).get i=k2.get i:=fun i hd=>by rw[AK (by rw[CL];omega) (Ne.symm hd)];rfl
 have gD2:((k2.fl A1.floor).put D (.row [qS A1.next W.length (W.length+3),qS H0.next G.length (G.length+3),qS h1.next rd.length (rd.length+3)] 70 false false)).get D=.row [qS A1.next W.length (W.length+3),qS H0.next G.length (G.length+3),qS h1.next rd.length (rd.length+3)] 70 false false:=BI rfl (by rw[CL];omega)
 generalize (k2.fl A1.floor).put D (.row [qS A1.next W.length (W.length+3),qS H0.next G.length (G.length+3),qS h1.next rd.length (rd.length+3)] 70 false false)=Q at *
 have lD:BL 3 0 (Q.get D)=some (.agg #[qS A1.next W.length (W.length+3),qS H0.next G.length (G.length+3),qS h1.next rd.length (rd.length+3)]):=by rw[gD2];rfl
 have gZQ:Q.get (h.next+1)=.row [Z0,Z0,Z0] 70 false false:=by rw[gg2 _ (by omega),ez _ (by omega),gAA _ (by omega)];exact gZ
 have st3:=GY NT (h:=Q) (vs:=[qS A1.next W.length (W.length+3),qS H0.next G.length (G.length+3),qS h1.next rd.length (rd.length+3)]) gZQ rfl rfl rfl (by omega)
 have st3':BH Tryd.prog Q 70 (qP (h.next+1) 0) (.agg #[qS A1.next W.length (W.length+3),qS H0.next G.length (G.length+3),qS h1.next rd.length (rd.length+3)])=_:=st3
 have lE:BL 3 0 ((Q.put (h.next+1) (.row [qS A1.next W.length (W.length+3),qS H0.next G.length (G.length+3),qS h1.next rd.length (rd.length+3)] 70 false false)).get (h.next+1))=some (.agg #[qS A1.next W.length (W.length+3),qS H0.next G.length (G.length+3),qS h1.next rd.length (rd.length+3)]):=by rw[BI rfl (by omega)];rfl
 have oQ:∀ i,i≠h.next+1→i≠D→(Q.put (h.next+1) (.row [qS A1.next W.length (W.length+3),qS H0.next G.length (G.length+3),qS h1.next rd.length (rd.length+3)] 70 false false)).get i=k2.get i:=fun i h1 h2=>by rw[AK (by omega) (Ne.symm h1),gg2 i h2]
 simp only[eE,seval,↓eP,hr,RS,lD,st3',lE]
 refine⟨⟨fun j=>if j=1 then A1.next else if j=2 then H0.next else h1.next,rfl,⟨by show h.next≤H0.next;omega,by show H0.next<h1.next;omega,by show h1.next<A1.next;omega,by show A1.next<Q.next;omega⟩,?_,?_,?_⟩,by show h.next≤Q.next;omega,by show Q.floor=_;omega,fun i hi=>?_⟩
 ·exact a6.mono (oQ A1.next (by omega) (by omega))
 ·refine l1.mono (h':=_) ?_
  show _=h1.get H0.next
  rw[oQ H0.next (by omega) (by omega),ez _ (by omega),oA1 _ (by omega),o2 _ (by omega)]
  rfl
 ·refine l2.mono (h':=_) ?_
  show _=h2.get h1.next
  rw[oQ h1.next (by omega) (by omega),ez _ (by omega),oA1 _ (by omega)]
 ·rw[oQ i (by omega) (by omega),ez i (by omega)]
  exact oH1 i hi
theorem Qt {W:List (Int × Int × Int)} {G rd:List Int} {tv:Value} {lo:Nat} (hp:L7 lo h tv W G rd) (hw:W.length<100000) (hg:G.length<100000) (hrl:rd.length<2932031007403) (hfl:h.floor≤h.next) (hn:30<n) :
  ∃ v' h',AX n 44 [tv] h=some (v',h')∧(∃ o,O7 h' h.next v' W G rd o)∧h.next≤h'.next∧h'.floor=h.floor∧∀ i,i<h.next→h'.get i=h.get i:=by
 obtain⟨n,rfl⟩:=D3 hn
 refine M5 (CP ⟨rfl,rfl,rfl⟩) (Ck (n:=n) (N:=n) hp hw hg hrl hfl (by omega)) fun v' h1 hf _ ht=>?_
 obtain⟨⟨o,hL⟩,_⟩:=ht
 rw[hL.v] at hf
 cases hf
theorem IP.ints {lo:Nat} {h:AA} {cv:Value} {c:HJ} (hc:IP lo h cv c):∃ vo,cv=cV vo c.miss∧one vo=true∧AN 0 h vo c.on:=by
 obtain⟨vo,rfl,⟨rfl,h2⟩ | ⟨id,rfl,h3,h4,h5⟩⟩:=hc
 ·exact⟨_,rfl,rfl,by rw[h2];exact A7.nil 0 h 1⟩
 ·exact⟨_,rfl,rfl,AN.row' h5 ⟨Nat.zero_le _,h4⟩ rfl⟩
theorem vG {ca cb:Value} {c d:HJ} {la lb:Nat} (ha:IP la h ca c) (hb:IP lb h cb d) (hcl:c.on.length<100000) (hn:c.on.length+10<n) :
  ∃ h',A9 Tryd.prog (AX n) N 46 [ca,cb] h=some (.bool (decide (c.miss=d.miss∧c.on=d.on)),h')∧∀ i,i<h.next→h'.get i=h.get i:=by
 obtain⟨va,rfl,o1,a2⟩:=ha.ints
 obtain⟨vb,rfl,o2,b2⟩:=hb.ints
 refine FB (R:=fun h'=>∀ i,i<h.next→h'.get i=h.get i) Tryd.func46 rfl (by simp[Tryd.f46]) ?_
 have hr:Tryd.f46.results.toList=[.tmp 4]:=rfl
 have cx:(cV va c.miss).cells.toList=[va,iv c.miss]:=rfl
 have cy:(cV vb d.miss).cells.toList=[vb,iv d.miss]:=rfl
 have ox:[va,iv c.miss].all one=true:=by simp only[List.all_cons,List.all_nil,o1,JY,Bool.and_self]
 have oy:[vb,iv d.miss].all one=true:=by simp only[List.all_cons,List.all_nil,o2,JY,Bool.and_self]
 obtain⟨gA,gB,nG,fG,gO⟩:=V9 h (.row [va,iv c.miss] 65 false false) (.row [vb,iv d.miss] 65 false false)
 simp only[eE,seval,↓eP,DC,C8,C4,cx,cy,ox,oy,MY]
 generalize (h.push (.row [va,iv c.miss] 65 false false)).push (.row [vb,iv d.miss] 65 false false)=Q at *
 have x0:AO 0 (Q.get h.next)=some va:=by rw[gA];rfl
 have x1:AO 1 (Q.get h.next)=some (iv c.miss):=by rw[gA];rfl
 have z0:AO 0 (Q.get (h.next+1))=some vb:=by rw[gB];rfl
 have z1:AO 1 (Q.get (h.next+1))=some (iv d.miss):=by rw[gB];rfl
 have hs:=ZA (n:=n) (h:=Q) (AN.mono a2 (by omega) fun i _ hi=>gO i hi) (AN.mono b2 (by omega) fun i _ hi=>gO i hi) (by omega) (by omega)
 cases dm:(c.miss==d.miss) with
 | false=>
  have hne:c.miss≠d.miss:=by simpa using dm
  rw[decide_eq_false (fun h9=>hne h9.1)]
  simp only[eE,seval,↓eP,hr,Nat.zero_add,YO,A_,x1,z1,dm]
  exact gO
 | true=>
  have he:c.miss=d.miss:=by simpa using dm
  have hd:decide (c.miss=d.miss∧c.on=d.on)=decide (c.on=d.on):=by simp[he]
  rw[hd]
  simp only[eE,seval,↓eP,hr,Nat.zero_add,RE,YO,A_,CC,x1,z1,dm,x0,z0,hs]
  exact gO
theorem Sp {ca cb:Value} {c d:HJ} {la lb:Nat} (ha:IP la h ca c) (hb:IP lb h cb d) (hcl:c.on.length<100000) (hn:c.on.length+20<n) :
  AX n 46 [ca,cb] h=some (.bool (decide (c.miss=d.miss∧c.on=d.on)),h):=by
 obtain⟨n,rfl⟩:=D3 hn
 exact JN (CP ⟨rfl,rfl,rfl⟩) rfl (vG (n:=n) (N:=n) ha hb hcl (by omega))
end
theorem Lv {H:AA} {cv:Value} {c:HJ} {lo:Nat} {e p:Int} (hc:IP lo H cv c) (hf:H.floor≤H.next) :
  ∃ H':AA × AA,BH Tryd.prog ((H.push (.row [Z0,iv 0] 65 false false)).push (.row [iv 0,iv 0] 33 false false)) 65 (qP H.next 0) cv=some (H'.1)∧BH Tryd.prog H'.1 33 (qP (H.next+1) 0) (EN e p)=some H'.2 ∧
   BL 2 0 (H'.2.get H.next)=some cv∧BL 2 0 (H'.2.get (H.next+1))=some (EN e p)∧H'.2.next=H.next+2∧H'.2.floor=H.floor∧∀ i,i<H.next→H'.2.get i=H.get i:=by
 obtain⟨vo,rfl,ho,_⟩:=hc.ints
 have ga:=MM (h:=H) (o:=.row [Z0,iv 0] 65 false false) (o':=.row [iv 0,iv 0] 33 false false)
 have gb:=MN (h:=H) (o:=.row [Z0,iv 0] 65 false false) (o':=.row [iv 0,iv 0] 33 false false)
 have gold:∀ i,i<H.next→((H.push (.row [Z0,iv 0] 65 false false)).push (.row [iv 0,iv 0] 33 false false)).get i=H.get i:=fun i hi=>by rw[AP (by show i<H.next+1;omega),AP hi]
 have hnx:((H.push (.row [Z0,iv 0] 65 false false)).push (.row [iv 0,iv 0] 33 false false)).next=H.next+2:=rfl
 have hfx:((H.push (.row [Z0,iv 0] 65 false false)).push (.row [iv 0,iv 0] 33 false false)).floor=H.floor:=rfl
 generalize (H.push (.row [Z0,iv 0] 65 false false)).push (.row [iv 0,iv 0] 33 false false)=G at *
 have a1:=GY (t:=65) MY (vs:=[vo,iv c.miss]) ga rfl rfl (by simp only[List.all_cons,List.all_nil,ho,JY,Bool.and_self]) (by omega)
 have g3':(G.put H.next (.row [vo,iv c.miss] 65 false false)).get (H.next+1)=.row [iv 0,iv 0] 33 false false:=by rw[AK (by omega) (by omega)];exact gb
 have a2:=GY (t:=33) MF (vs:=[iv e,iv p]) g3' rfl rfl rfl (by show G.floor≤_;omega)
 refine⟨⟨_,_⟩,a1,a2,?_,?_,hnx,hfx,fun i hi=>?_⟩
 ·show BL 2 0 (((G.put _ _).put _ _).get _)=_
  rw[AK (by show H.next+1<G.next;omega) (by omega),BI rfl (by omega)]
  rfl
 ·show BL 2 0 (((G.put _ _).put _ _).get _)=_
  rw[BI rfl (by show H.next+1<G.next;omega)]
  rfl
 ·show ((G.put _ _).put _ _).get i=_
  rw[AK (by show H.next+1<G.next;omega) (by omega),AK (by omega) (by omega),gold i hi]
section
variable {n:Nat} {h:AA}
end
abbrev G7:Type:=Option Nat × Nat × Int
def GG (e:G7):Value:=match e.1 with
 | none=>Z0
 | some id=>qS id e.2.1 e.2.1
def JC (K:List G7):List Value:=K.flatMap fun e=>[GG e,iv e.2.2]
theorem nE:∀ K,(JC K).length=K.length*2
 | []=>rfl
 | e :: K=>by
  have:=nE K
  unfold JC at this ⊢
  rw[List.flatMap_cons,List.length_append,this]
  simp only[List.length_cons,List.length_nil]
  omega
theorem mE (e:G7):one (GG e)=true:=by
 unfold GG
 split <;> rfl
theorem Jq (K:List G7):(JC K).all one=true:=by
 unfold JC
 rw[List.all_eq_true]
 intro v hv
 obtain⟨e,_,he⟩:=List.mem_flatMap.1 hv
 simp only[List.mem_cons,List.not_mem_nil,or_false] at he
 rcases he with rfl | rfl
 ·exact mE e
 ·rfl
theorem gH:∀ {K:List G7} {i:Nat} {e:G7},K[i]?=some e→(JC K)[i*2]?=some (GG e)
 | [],i,e,h=>by simp at h
 | x :: K,0,e,h=>by
  cases h
  rfl
 | x :: K,i+1,e,h=>by
  have:=gH (K:=K) (i:=i) (e:=e) h
  unfold JC at this ⊢
  rw[List.flatMap_cons,List.getElem?_append_right (by simp only[List.length_cons,List.length_nil];omega)]
  simp only[List.length_cons,List.length_nil]
  rw[show (i+1)*2-(0+1+1)=i*2 by omega]
  exact this
theorem Kr (K:List G7) (e:G7):JC (K++[e])=JC K++[GG e,iv e.2.2]:=by
 unfold JC
 rw[List.flatMap_append]
 rfl
structure GM (lo:Nat) (H:AA) (K:List G7) (c:Nat→List Int):Prop where
 at_:∀ j e,K[j]?=some e→(c j).length=e.2.1∧(e.1=none→e.2.1=0)∧∀ id,e.1=some id→lo≤id∧id<H.next∧H.get id=.row (ints (c j)) 3 false false
 ne:∀ (i j:Nat) e e' id id',i<j→K[i]?=some e→K[j]?=some e'→e.1=some id→e'.1=some id'→id≠id'
section
variable {lo:Nat} {H H':AA} {K:List G7} {c:Nat→List Int}
theorem GM.mono (hk:GM lo H K c) (hn:H.next≤H'.next) (hg:∀ i,lo≤i→i<H.next→(∃ cs,H.get i=.row cs 3 false false)→H'.get i=H.get i):GM lo H' K c:=
 ⟨fun j e he=>by
  obtain⟨h1,h2,h3⟩:=hk.at_ j e he
  refine⟨h1,h2,fun id hid=>?_⟩
  obtain⟨a,b,d⟩:=h3 id hid
  exact⟨a,by omega,by rw[hg id a b ⟨_,d⟩];exact d⟩,hk.ne⟩
theorem GM.nil:GM lo H [] c:=⟨fun j e he=>by simp at he,fun i j e e' id id' _ he=>by simp at he⟩
theorem GM.add {H0:AA} (h0:GM lo H0 K c) (hk:GM lo H K c) {b:Nat} {cv:Value} {d:HJ} (hc:IP b H cv d) (hb:H0.next≤b) (hlo:lo≤b) :
  ∃ e:G7,cv=cV (GG e) e.2.2∧e.2.1=d.on.length∧GM lo H (K++[e]) (fun j=>if j<K.length then c j else d.on):=by
 obtain⟨vo,rfl,hor⟩:=hc
 have main:∀ e:G7,((d.on.length=e.2.1)∧(e.1=none→e.2.1=0)∧∀ id,e.1=some id→b≤id∧id<H.next∧H.get id=.row (ints d.on) 3 false false)→GM lo H (K++[e]) (fun j=>if j<K.length then c j else d.on):=fun e he=>by
  refine⟨fun j e' hj=>?_,fun i j e1 e2 id id' hij h1 h2 h3 h4=>?_⟩
  ·rcases Nat.lt_or_ge j K.length with h | h
   ·rw[List.getElem?_append_left h] at hj
    simp only[h,if_true]
    exact hk.at_ j e' hj
   ·rw[List.getElem?_append_right h] at hj
    have e0:j-K.length=0:=by
     rcases Nat.eq_zero_or_pos (j-K.length) with h9 | h9
     ·exact h9
     ·rw[List.getElem?_eq_none (by simp;omega)] at hj
      cases hj
    rw[e0] at hj
    cases hj
    simp only[if_neg (show ¬ j<K.length by omega)]
    exact⟨he.1,he.2.1,fun id hid=>⟨by have:=(he.2.2 id hid).1;omega,(he.2.2 id hid).2⟩⟩
  ·have hi:i<K.length:=by
    have:=(List.getElem?_eq_some_iff.1 h2).1
    simp at this
    omega
   rw[List.getElem?_append_left hi] at h1
   rcases Nat.lt_or_ge j K.length with h | h
   ·rw[List.getElem?_append_left h] at h2
    exact hk.ne i j e1 e2 id id' hij h1 h2 h3 h4
   ·rw[List.getElem?_append_right h] at h2
    have e0:j-K.length=0:=by
     rcases Nat.eq_zero_or_pos (j-K.length) with h9 | h9
     ·exact h9
     ·rw[List.getElem?_eq_none (by simp;omega)] at h2
      cases h2
    rw[e0] at h2
    cases h2
    have:=(h0.at_ i e1 h1).2.2 id h3
    have:=(he.2.2 id' h4).1
    omega
 rcases hor with⟨rfl,hon⟩ | ⟨id,rfl,h1,h2,h3⟩
 ·exact⟨(none,0,d.miss),rfl,by rw[hon];rfl,main _ ⟨by rw[hon];rfl,fun _=>rfl,fun id hid=>by cases hid⟩⟩
 ·exact⟨(some id,d.on.length,d.miss),rfl,rfl,main _ ⟨rfl,(fun h=>by cases h),fun id' hid=>(by cases hid;exact⟨h1,h2,h3⟩)⟩⟩
theorem GM.wr (hk:GM lo H K c) (hf:H.floor≤lo) {j k:Nat} {e:G7} (he:K[j]?=some e) (hk2:k<e.2.1) (x:Int) :
  ∃ p H2,CO Tryd.prog 28 (GG e) (iv (k:Int))=some p∧BH Tryd.prog H 3 p (iv x)=some H2∧GM lo H2 K (fun q=>if q=j then (c j).set k x else c q)∧H2.next=H.next∧H2.floor=H.floor∧∀ i,(i<lo∨¬ ∃ cs,H.get i=.row cs 3 false false)→H2.get i=H.get i:=by
 obtain⟨h1,h2,h3⟩:=hk.at_ j e he
 cases ho:e.1 with
 | none=>have:=h2 ho;omega
 | some id=>
  obtain⟨a,b,d⟩:=h3 id ho
  have ev:GG e=qS id e.2.1 e.2.1:=by unfold GG;rw[ho]
  rw[ev]
  refine⟨_,_,F6 hk2,LV d (by omega) (by omega),⟨fun q e' hq=>?_,hk.ne⟩,rfl,rfl,fun i hi=>AK b ?_⟩
  ·obtain⟨g1,g2,g3⟩:=hk.at_ q e' hq
   by_cases hqj:q=j
   ·subst hqj
    rw[he] at hq
    cases hq
    simp only[if_true]
    refine⟨by rw[List.length_set];exact h1,h2,fun id' hid=>?_⟩
    rw[ho] at hid
    cases hid
    exact⟨a,b,BI rfl b⟩
   ·simp only[if_neg hqj]
    refine⟨g1,g2,fun id' hid=>?_⟩
    obtain⟨a',b',d'⟩:=g3 id' hid
    have hne:id≠id':=by
     rcases Nat.lt_or_ge q j with h9 | h9
     ·exact fun h8=>hk.ne q j e' e id' id h9 hq he hid ho h8.symm
     ·exact hk.ne j q e e' id id' (by omega) he hq ho hid
    exact⟨a',b',by rw[AK b hne];exact d'⟩
  ·rintro rfl
   rcases hi with h9 | h9
   ·omega
   ·exact h9 ⟨_,d⟩
theorem GM.rd (hk:GM lo H K c) {j k:Nat} {e:G7} (he:K[j]?=some e) (hk2:k<e.2.1) {x:Int} (hx:(c j)[k]?=some x) :
  ∃ id p,CO Tryd.prog 28 (GG e) (iv (k:Int))=some (qP id p)∧AO p (H.get id)=some (iv x):=by
 obtain⟨h1,h2,h3⟩:=hk.at_ j e he
 cases ho:e.1 with
 | none=>have:=h2 ho;omega
 | some id=>
  obtain⟨a,b,d⟩:=h3 id ho
  have ev:GG e=qS id e.2.1 e.2.1:=by unfold GG;rw[ho]
  rw[ev]
  exact⟨id,k,F6 hk2,by rw[d];exact JO hx⟩
theorem nI (hk:GM lo H K c) {j:Nat} {e:G7} (he:K[j]?=some e) (h':AA):BZ Tryd.prog h' 28 (GG e)=some (iv (e.2.1:Int)):=by
 obtain⟨h1,h2,h3⟩:=hk.at_ j e he
 unfold GG
 cases ho:e.1 with
 | none=>
  rw[h2 ho]
  simp[BZ,Tryd.underlying28]
 | some id=>simp[BZ,Tryd.underlying28]
theorem GM.app3 (hk:GM lo H K c) {j:Nat} {e:G7} (he:K[j]?=some e) (hb:e.2.1<2932031007403) (x y z:Int) :
  ∃ d h1,DE Tryd.prog (H.push (.row [iv x,iv y,iv z] 3 false false)) 28 (GG e) (qS H.next 3 3)=some (qS d (e.2.1+3) AM,h1)∧h1.floor=H.floor∧H.next≤h1.next∧∀ i,i<H.next→h1.get i=H.get i:=by
 obtain⟨h1,h2,h3⟩:=hk.at_ j e he
 have hsrc:DX (H.push (.row [iv x,iv y,iv z] 3 false false)) 1 3 (qS H.next 3 3)=some [iv x,iv y,iv z]:=by
  simp only[DX,BO]
  rfl
 have o3:[iv x,iv y,iv z].all one=true:=rfl
 have s1:(Value.int .i64 0).cells.size=1:=rfl
 cases ho:e.1 with
 | none=>
  have ev:GG e=Z0:=by unfold GG;rw[ho]
  rw[ev,h2 ho]
  have hnu:(0:Nat)≠AM:=by unfold AM;omega
  have h0:DX (H.push (.row [iv x,iv y,iv z] 3 false false)) 1 0 (Z0)=some []:=by simp[DX]
  refine⟨H.next+1,(H.push (.row [iv x,iv y,iv z] 3 false false)).push (.row [iv x,iv y,iv z] 3 true false),?_,rfl,by show H.next≤H.next+1+1;omega,fun i hi=>by rw[AP (by show i<H.next+1;omega),AP hi]⟩
  simp only[DE,Tryd.underlying28,CU,LU,JI,s1,hsrc,o3,h0]
  rw[if_pos (by simp),if_pos trivial,if_neg hnu,if_neg (by omega),if_pos (by simp)]
  rfl
 | some id=>
  obtain⟨a,b,d⟩:=h3 id ho
  have ev:GG e=qS id e.2.1 e.2.1:=by unfold GG;rw[ho]
  rw[ev]
  have hnu:e.2.1≠AM:=by unfold AM;omega
  have gi:(H.push (.row [iv x,iv y,iv z] 3 false false)).get id=.row (ints (c j)) 3 false false:=by rw[AP b];exact d
  have il:=FZ (c j)
  have h0:DX (H.push (.row [iv x,iv y,iv z] 3 false false)) 1 e.2.1 (qS id e.2.1 e.2.1)=some (ints (c j)):=by
   have:=A7.src (lo:=0) (w:=1) (cs:=ints (c j)) (AN.row' (c:=e.2.1) (n:=e.2.1) (lo:=0) gi ⟨by omega,by rw[C7];omega⟩ h1.symm)
   rwa [h1] at this
  have io:=PJ (c j)
  refine⟨H.next+1,(H.push (.row [iv x,iv y,iv z] 3 false false)).push (.row (ints (c j)++[iv x,iv y,iv z]) 3 true false),?_,rfl,by show H.next≤H.next+1+1;omega,fun i hi=>by rw[AP (by show i<H.next+1;omega),AP hi]⟩
  simp only[DE,Tryd.underlying28,CU,LU,JI,s1,hsrc,o3,h0]
  rw[if_pos (by simp),if_pos trivial,if_neg hnu,if_neg (by omega),if_pos (by simp;omega)]
  rfl
end
section
variable {h:AA} {id off:Nat}
theorem Nr:IB Tryd.prog 65=some 32:=by kernel_rfl
theorem TB:Tryd.prog.underlying 74=some (.slice 65):=by kernel_rfl
theorem Qc {id n c i:Nat} (hi:i<n):CO Tryd.prog 74 (qS id n c) (iv (i:Int))=some (.pointer (some ⟨id,i*2,none⟩)):=by
 simp only[CO,TB,MY,CH]
 rw[if_pos (by omega)]
 simp
theorem Ec {e:G7}:FI Tryd.prog h 74 1 [(0,cV (GG e) e.2.2)]=some (qS h.next 1 1,h.push (.row [GG e,iv e.2.2] 65 false false)):=by
 have hc:(cV (GG e) e.2.2).cells=#[GG e,iv e.2.2]:=rfl
 have hc0:(cV (Z0) 0).cells=#[Z0,iv 0]:=rfl
 simp[FI,TB,MY,IG,N8,hc,hc0,IL,C0,Go.Sx.lay]
theorem xC {lo:Nat} {v:Value} {K:List G7} {e:G7} (hl:GC 65 h lo v K.length (JC K)) (hlo:lo≤h.next) (hf:h.floor≤lo) (hn:K.length<1000) :
  ∃ v' h',DE Tryd.prog (h.push (.row [GG e,iv e.2.2] 65 false false)) 74 v (qS h.next 1 1)=some (v',h')∧GC 65 h' h.next v' (K.length+1) (JC (K++[e]))∧h'.floor=h.floor∧h.next≤h'.next∧∀ i,i<h.next→(∀ m c,v≠qS i m c)→h'.get i=h.get i:=by
 rw[Kr]
 exact Ja (z:=cV (Z0) 0) TB MY Nr IG rfl (by decide) (by decide) hl (nE K) (Jq K) rfl (by simp only[List.all_cons,List.all_nil,mE,JY,Bool.and_self]) hlo hf (by omega)
theorem GC.on {lo:Nat} {v:Value} {K:List G7} (hl:GC 65 h lo v K.length (JC K)) {i:Nat} {e:G7} (he:K[i]?=some e) :
  ∃ id,CO Tryd.prog 74 v (iv (i:Int))=some (.pointer (some ⟨id,i*2,none⟩))∧AO (i*2) (h.get id)=some (GG e):=by
 have hlt:=(List.getElem?_eq_some_iff.1 he).1
 rcases hl with⟨_,h0,_⟩ | ⟨id,rfl,h1,h2,h3⟩
 ·omega
 ·refine⟨id,Qc hlt,?_⟩
  rw[h3]
  simp only[AO,gH he]
theorem zA {lo:Nat} {v:Value} {n:Nat} {cs:List Value} (hl:GC 65 h lo v n cs) (h':AA):BZ Tryd.prog h' 74 v=some (iv (n:Int)):=by
 rcases hl with⟨rfl,rfl,_⟩ | ⟨id,rfl,_⟩
 ·simp[BZ,TB]
 ·simp[BZ,TB]
end
noncomputable def tR:Array Oper:=DR Tryd.f42 7
def wP:List (Bool × Bool × List Operand):=[AW,AW,AJ [.tmp 32],AJ [.tmp 32],AJ [.tmp 32],AJ [.tmp 32],AJ [.tmp 32],AJ [.tmp 32],AJ [.tmp 32],AJ [.tmp 32],AL,AL]
theorem Rk:DU tR=wP:=by kernel_rfl
theorem Bg:HC Tryd.prog (match Tryd.prog.underlying 70 with | some (.struct fs)=>fs.toList | _=>[])=some [(0,1),(1,1),(2,1)]:=by kernel_rfl
theorem Ba {a:Option Addr} {n c:Nat}:DG Tryd.prog 70 [(2,.slice a n c)]=some (.agg #[Z0,Z0,.slice a n c]):=by
 have h:=Bg
 rw[Tryd.underlying70] at h
 simp only at h
 simp only[DG,QJ,QM,if_true,Tryd.underlying70,h]
 rfl
def XH (h:AA) (len:Nat) (v:Value) (h':AA):Prop:=
 ∃ rd:List Int,∃ id,rd.length=len∧v=.agg #[Z0,Z0,qS id len len]∧L7 h.next h' v [] [] rd∧h'.floor=h.floor∧h.next≤h'.next∧∀ i,i<h.next→h'.get i=h.get i
section
variable {n N:Nat} {h:AA}
theorem Rp {nm:ByteArray} {s:AS} {pv w:Value} {A:List Int} {lo lw:Nat} (hp:DJ lo h pv nm s) (hw:AN lw h w A) (hl:s.rows.length<2932031007403) (hfl:h.floor≤h.next) (hN:s.rows.length+10<N) :
  ∃ v' h',A9 Tryd.prog (AX n) N 42 [pv,w] h=some (v',h')∧XH h s.rows.length v' h':=by
 have hsn:=(FH n).2
 refine MO (R:=XH h s.rows.length) Tryd.func42 rfl (by simp[Tryd.f42]) ?_
 have hr:Tryd.f42.results.toList=[.cell 4 70]:=rfl
 obtain⟨vr,vq,vv,vt,vu,vo,rfl,p1,p2,p3,p4,p5,p6⟩:=id hp
 obtain⟨ar,cr,hvr,_⟩:=id p1.2.2
 obtain⟨aw,cw,hwv,_⟩:=id hw.2
 subst hvr
 subst hwv
 have ca:=F7 [.string nm,.slice ar s.rows.length cr,vq,vv,vt,vu,vo,iv s.miss]
 have oa:=MJ (nm:=nm) p1 p2 p3 p4 p5 p6
 have len1:∀ h':AA,BZ Tryd.prog h' 22 (.slice ar s.rows.length cr)=some (iv (s.rows.length:Int)):=fun h'=>O5
 have len2:=fun h'=>I7 hw h'
 have zcY:=F7 [Z0,Z0,Z0]
 obtain⟨gA,gZ,n0,f0,gO⟩:=V9 h (.row [.string nm,.slice ar s.rows.length cr,vq,vv,vt,vu,vo,iv s.miss] 30 false false) (.row [Z0,Z0,Z0] 70 false false)
 simp only[eE,seval,↓eP,DC,C8,C4,ca,oa,HM,QJ,QM,zcY]
 generalize (h.push (.row [.string nm,.slice ar s.rows.length cr,vq,vv,vt,vu,vo,iv s.miss] 30 false false)).push (.row [Z0,Z0,Z0] 70 false false)=H0 at *
 have lP1:AO 1 (H0.get h.next)=some (.slice ar s.rows.length cr):=by rw[gA];rfl
 have hst:=GY (t:=70) NT (h:=(H0.push (.row (ints (List.replicate s.rows.length 0)) 3 false false)).push (.row [Z0,Z0,Z0] 70 false false)) (id:=H0.next+1) (vs:=[Z0,Z0,qS H0.next s.rows.length s.rows.length]) (MN (h:=H0)) rfl rfl rfl (by rw[DA,DA];omega)
 simp only[eE,seval,↓eP,CR,CI,lP1,len1,N4 (show s.rows.length<30000000000000 by omega),Ba,QJ,QM,zcY,C7]
 have hst':BH Tryd.prog ((H0.push (.row (ints (List.replicate s.rows.length 0)) 3 false false)).push (.row [Z0,Z0,Z0] 70 false false)) 70 (qP (H0.next+1) 0) (.agg #[Z0,Z0,qS H0.next s.rows.length s.rows.length])=some (((H0.push (.row (ints (List.replicate s.rows.length 0)) 3 false false)).push (.row [Z0,Z0,Z0] 70 false false)).put (H0.next+1) (.row [Z0,Z0,qS H0.next s.rows.length s.rows.length] 70 false false)):=hst
 simp only[eE,seval,↓eP,hst']
 have gR:(((H0.push (.row (ints (List.replicate s.rows.length 0)) 3 false false)).push (.row [Z0,Z0,Z0] 70 false false)).put (H0.next+1) (.row [Z0,Z0,qS H0.next s.rows.length s.rows.length] 70 false false)).get H0.next=.row (ints (List.replicate s.rows.length 0)) 3 false false:=by
  rw[AK (by show H0.next+1<H0.next+2;omega) (by omega)];exact MM
 have gY:(((H0.push (.row (ints (List.replicate s.rows.length 0)) 3 false false)).push (.row [Z0,Z0,Z0] 70 false false)).put (H0.next+1) (.row [Z0,Z0,qS H0.next s.rows.length s.rows.length] 70 false false)).get (H0.next+1)=.row [Z0,Z0,qS H0.next s.rows.length s.rows.length] 70 false false:=
  BI rfl (by show H0.next+1<H0.next+2;omega)
 have gO1:∀ i,i<H0.next→(((H0.push (.row (ints (List.replicate s.rows.length 0)) 3 false false)).push (.row [Z0,Z0,Z0] 70 false false)).put (H0.next+1) (.row [Z0,Z0,qS H0.next s.rows.length s.rows.length] 70 false false)).get i=H0.get i:=fun i hi=>by
  rw[AK (by show H0.next+1<H0.next+2;omega) (by omega),AP (by show i<H0.next+1;omega),AP hi]
 have n1:(((H0.push (.row (ints (List.replicate s.rows.length 0)) 3 false false)).push (.row [Z0,Z0,Z0] 70 false false)).put (H0.next+1) (.row [Z0,Z0,qS H0.next s.rows.length s.rows.length] 70 false false)).next=H0.next+2:=rfl
 have f1:(((H0.push (.row (ints (List.replicate s.rows.length 0)) 3 false false)).push (.row [Z0,Z0,Z0] 70 false false)).put (H0.next+1) (.row [Z0,Z0,qS H0.next s.rows.length s.rows.length] 70 false false)).floor=H0.floor:=rfl
 generalize ((H0.push (.row (ints (List.replicate s.rows.length 0)) 3 false false)).push (.row [Z0,Z0,Z0] 70 false false)).put (H0.next+1) (.row [Z0,Z0,qS H0.next s.rows.length s.rows.length] 70 false false)=H1 at *
 refine WK.loop (fun i s'=>s'.T.get 1=.slice aw A.length cw∧s'.T.get 2=qP h.next 0∧s'.T.get 4=qP (h.next+1) 0∧s'.T.get 5=qP (H0.next+1) 0∧s'.T.get 7=iv (i:Int)∧i≤s.rows.length∧s'.h.next=H1.next∧s'.h.floor=H1.floor∧(∃ c:Nat,c≤i∧s'.T.get 6=iv (c:Int))∧(∃ rd:List Int,rd.length=s.rows.length∧s'.h.get H0.next=.row (ints rd) 3 false false)∧∀ j,j<H1.next→j≠H0.next→s'.h.get j=H1.get j) s.rows.length (by omega) ?_ ?_
 ·exact⟨by simp only[eE,seval,↓eP,rP],by simp only[eE,seval,↓eP,rP],by simp only[eE,seval,↓eP,rP],by simp only[eE,seval,↓eP,rP],by simp only[eE,seval,↓eP,rP],by omega,rfl,rfl,⟨0,by omega,by simp only[eE,seval,↓eP,rP]⟩,⟨_,List.length_replicate,gR⟩,fun _ _ _=>rfl⟩
 rintro i ⟨T1,H2⟩ hi ⟨t1,t2,t4,t5,t7,hil,m1,m2,⟨c,hci,t6⟩,⟨rd,hrd,gI⟩,m3⟩
 simp only at t1 t2 t4 t5 t7 m1 m2 t6 gI m3
 have oH2:∀ j,j<h.next→H2.get j=h.get j:=fun j hj=>by rw[m3 j (by omega) (by omega),gO1 j (by omega),gO j hj]
 have lP2:AO 1 (H2.get h.next)=some (.slice ar s.rows.length cr):=by rw[m3 _ (by omega) (by omega),gO1 _ (by omega)];exact lP1
 have g5:H2.get (H0.next+1)=.row [Z0,Z0,qS H0.next s.rows.length s.rows.length] 70 false false:=by rw[m3 _ (by omega) (by omega)];exact gY
 have l5:AO 2 (H2.get (H0.next+1))=some (qS H0.next s.rows.length s.rows.length):=by rw[g5];rfl
 have lw5:BL 3 0 (H2.get (H0.next+1))=some (.agg #[Z0,Z0,qS H0.next s.rows.length s.rows.length]):=by rw[g5];rfl
 have g4:H2.get (h.next+1)=.row [Z0,Z0,Z0] 70 false false:=by rw[m3 _ (by omega) (by omega),gO1 _ (by omega)];exact gZ
 have hst2:BH Tryd.prog H2 70 (qP (h.next+1) 0) (.agg #[Z0,Z0,qS H0.next s.rows.length s.rows.length])=some (H2.put (h.next+1) (.row [Z0,Z0,qS H0.next s.rows.length s.rows.length] 70 false false)):=GY (t:=70) NT (vs:=[Z0,Z0,qS H0.next s.rows.length s.rows.length]) g4 rfl rfl rfl (by omega)
 have lE:BL 3 0 ((H2.put (h.next+1) (.row [Z0,Z0,qS H0.next s.rows.length s.rows.length] 70 false false)).get (h.next+1))=some (.agg #[Z0,Z0,qS H0.next s.rows.length s.rows.length]):=by rw[BI rfl (by omega)];rfl
 have fin:XH h s.rows.length (.agg #[Z0,Z0,qS H0.next s.rows.length s.rows.length]) (H2.put (h.next+1) (.row [Z0,Z0,qS H0.next s.rows.length s.rows.length] 70 false false)):=by
  refine⟨rd,H0.next,hrd,rfl,⟨_,_,_,rfl,A7.nil _ _ _,A7.nil _ _ _,?_⟩,by show H2.floor=_;omega,by show _≤H2.next;omega,fun j hj=>?_⟩
  ·rw[← hrd]
   exact A7.row (ex:=[]) (by rw[AK (by omega) (by omega),List.append_nil];exact gI) ⟨by omega,by show _<H2.next;omega⟩ (by rw[FZ];omega)
  ·rw[AK (by omega) (by omega),oH2 j hj]
 cases c1:decide ((i:Int)<(s.rows.length:Int)) with
 | false=>
  simp only[eE,seval,↓eP,hr,t2,t4,t5,t7,CR,CI,lP2,len1,c1,RS,lw5,hst2,lE]
  exact fin
 | true=>
 cases c2:decide ((A.length:Int)>0) with
 | false=>
  simp only[eE,seval,↓eP,hr,t1,t2,t4,t5,t7,CR,CI,lP2,len1,len2,c1,c2,RS,lw5,hst2,lE]
  exact fin
 | true=>
 have d1:=of_decide_eq_true c1
 have d2:=of_decide_eq_true c2
 obtain⟨x,hx⟩:∃ x,s.rows[i]?=some x:=⟨_,List.getElem?_eq_getElem (by omega)⟩
 have p1':IA lo H2 (.slice ar s.rows.length cr) s.rows:=p1.mono (by omega) fun j _ hj=>oH2 j hj
 obtain⟨id,pk,b0,_,b2,_⟩:=p1'.1.row hx
 have w7:IntKind.i64.wrap ((i:Int)+1)=((i+1:Nat):Int):=by rw[B0 (by omega) (by omega)];omega
 cases c3:(x.kind==13) with
 | false=>
  simp only[eE,seval,↓eP,t1,t2,t4,t5,t6,t7,CR,CI,lP2,len1,len2,c1,c2,b0,DI,A_,b2,c3,w7]
  exact⟨by omega,by omega,m1,m2,⟨c,by omega,rfl⟩,⟨rd,hrd,gI⟩,m3⟩
 | true=>
 have hwH:AN lw H2 (.slice aw A.length cw) A:=AN.mono hw (by omega) fun j _ hj=>oH2 j hj
 obtain⟨q,hq,hql⟩:∃ q:Nat,(c:Int).tmod (A.length:Int)=(q:Int)∧q<A.length:=by
  have h0:=Int.tmod_nonneg (A.length:Int) (show (0:Int)≤(c:Int) by omega)
  have h1:=Int.tmod_lt_of_pos (c:Int) d2
  exact⟨((c:Int).tmod (A.length:Int)).toNat,by omega,by omega⟩
 have hrem:=Cp (P:=Tryd.prog) (t:=3) (x:=.tmp 36) (y:=.tmp 38) (k:=.i64) (a:=(c:Int)) (show (A.length:Int)≠0 by omega)
 rw[hq] at hrem
 obtain⟨a,ha⟩:∃ a,A[q]?=some a:=⟨_,List.getElem?_eq_getElem hql⟩
 obtain⟨ida,pa,ea,hida,la⟩:=AN.get hwH ha
 have e1:=F6 (id:=H0.next) (n:=s.rows.length) (c:=s.rows.length) (i:=i) (by omega)
 have hst3:BH Tryd.prog H2 3 (qP H0.next i) (iv a)=some (H2.put H0.next (.row (ints (rd.set i a)) 3 false false)):=LV gI (by omega) (by omega)
 have w6:IntKind.i64.wrap ((c:Int)+1)=((c+1:Nat):Int):=by rw[B0 (by omega) (by omega)];omega
 have hA1:(H0.next+1<H2.next)=True:=by simp;omega
 have hA2:(ida<H2.next)=True:=by simp;exact hida
 simp only[eE,seval,↓eP,t1,t2,t7,CR,CI,lP2,len1,len2,c1,c2,b0,DI,A_,b2,c3]
 refine WK.flags (ops:=tR) Rk ?_
 refine BQ.begin ?_
 refine AF hsn 0 (some 32) (.fieldAddr 70 (.tmp 5) 2) none ?_
 simp only[rG,seval,AB,AD,AC,Nat.zero_add,t5,J_]
 refine AF hsn 1 (some 33) (.load 28 (.tmp 32)) none ?_
 simp only[rG,seval,AB,AD,AC,BU,CC,l5,hA1]
 refine AF hsn 2 (some 34) (.move (.tmp 7)) none ?_
 simp only[rG,seval,AB,AD,AC,t7]
 refine AF hsn 3 (some 35) (.move (.tmp 1)) none ?_
 simp only[rG,seval,AB,AD,AC,t1]
 refine AF hsn 4 (some 36) (.move (.tmp 6)) none ?_
 simp only[rG,seval,AB,AD,AC,t6]
 refine AF hsn 5 (some 37) (.move (.tmp 1)) none ?_
 simp only[rG,seval,AB,AD,AC,t1]
 refine AF hsn 6 (some 38) (.call { callee:=.builtin .len,args:=#[.tmp 37],argTypes:=#[28] }) none ?_
 simp only[rG,seval,AB,AD,AC,CF,len2]
 refine AF hsn 7 (some 39) (.binOp .rem 3 (.tmp 36) (.tmp 38) 3) none ?_
 simp only[rG,seval,AB,AD,AC,hrem]
 refine AF hsn 8 (some 40) (.indexAddr 28 (.tmp 35) (.tmp 39)) none ?_
 simp only[rG,seval,AB,AD,AC,ea]
 refine AF hsn 9 (some 41) (.load 3 (.tmp 40)) none ?_
 simp only[rG,seval,AB,AD,AC,BU,A_,la,hA2]
 refine AF hsn 10 (some 42) (.indexAddr 28 (.tmp 33) (.tmp 34)) none ?_
 simp only[rG,seval,AB,AD,AC,e1]
 refine AF hsn 11 (none) (.store 3 (.tmp 42) (.tmp 41)) none ?_
 simp only[rG,seval,AB,AD,AC,DP,EE,S4,hst3]
 refine BQ.done (i:=12) (by kernel_rfl) ?_
 simp only[eE,seval,↓eP,t6,t7,w6,w7]
 exact⟨by omega,t1,t2,t4,t5,by omega,m1,m2,⟨c+1,by omega,rfl⟩,⟨_,by rw[List.length_set];exact hrd,BI rfl (by omega)⟩,fun j h1 h2=>by
  show (H2.put _ _).get j=_
  rw[AK (by omega) (Ne.symm h2),m3 j h1 h2]⟩
theorem Db {nm:ByteArray} {s:AS} {pv w:Value} {A:List Int} {lo lw:Nat} (hp:DJ lo h pv nm s) (hw:AN lw h w A) (hl:s.rows.length<2932031007403) (hfl:h.floor≤h.next) (hn:s.rows.length+20<n) :
  ∃ v' h',AX n 42 [pv,w] h=some (v',h')∧XH h s.rows.length v' h':=by
 obtain⟨n,rfl⟩:=D3 hn
 exact M5 (CP ⟨rfl,rfl,rfl⟩) (Rp (n:=n) (N:=n) hp hw hl hfl (by omega)) fun v' h1 hf _ ht=>by
  obtain⟨rd,id,_,rfl,_⟩:=ht
  cases hf
end
section
variable {l:List AE} {m:Nat}
theorem cZ {p:Nat} {what:Int} (h:(BS AV l m p what).2=true):∃ y:AE,l[p]?=some y∧CE what y.kind=true∧DT AV y=true:=by
 cases m with
 | zero=>cases h
 | succ m=>
  unfold BS at h
  cases hx:l[p]? with
  | none=>rw[hx] at h;cases h
  | some y=>
   rw[hx] at h
   simp only at h
   split at h
   ·rename_i hc
    rw[Bool.and_eq_true] at hc
    exact⟨y,rfl,hc.1,hc.2⟩
   ·cases h
theorem Dc {κ:Int}:∀ r k p q,EQ (fun k next=>BS AV l m next (BW κ k)) r k p=(q,true)→∀ (j p':Nat),(BX (AG l) r p)[j]?=some p'→∃ y:AE,l[p']?=some y∧CE (BW κ (k+j)) y.kind=true:=by
 intro r
 induction r with
 | zero=>intro k p q _ j p' h;simp[BX] at h
 | succ r ih=>
  intro k p q h j p' hj
  unfold EQ at h
  split at h
  ·rename_i hc
   have he:AG l p=(BS AV l m p (BW κ k)).1:=I2 (.inl ⟨m,BW κ k,Prod.ext rfl hc⟩)
   cases j with
   | zero=>
    have:p=p':=by simpa [BX] using hj
    subst this
    obtain⟨y,h1,h2,_⟩:=cZ hc
    exact⟨y,h1,h2⟩
   | succ j=>
    have hj':(BX (AG l) r (AG l p))[j]?=some p':=by simpa [BX] using hj
    rw[he] at hj'
    have:=ih (k+1) _ _ h j p' hj'
    rwa [show k+1+j=k+(j+1) by omega] at this
  ·cases h
theorem Sm:∀ (r:Nat) (ev:Bool) (p q:Nat),EG AV l m r ev p=(q,true)→∀ (j p':Nat),(BX (AG l) r p)[j]?=some p'→∃ y:AE,l[p']?=some y∧2≤y.kind∧y.kind≤10:=by
 intro r
 induction r with
 | zero=>intro k p q _ j p' h;simp[BX] at h
 | succ r ih=>
  intro ev p q h j p' hj
  unfold EG at h
  split at h
  ·rename_i hc
   have he:AG l p=(BS AV l m p (HF ev l[p]?)).1:=I2 (.inl ⟨m,_,Prod.ext rfl hc⟩)
   cases j with
   | zero=>
    have:p=p':=by simpa [BX] using hj
    subst this
    obtain⟨y,h1,h2,_⟩:=cZ hc
    refine⟨y,h1,?_⟩
    unfold HF at h2
    split at h2
    ·unfold CE at h2
     simp at h2
     omega
    ·unfold CE at h2
     simp at h2
     omega
   | succ j=>
    have hj':(BX (AG l) r (AG l p))[j]?=some p':=by simpa [BX] using hj
    rw[he] at hj'
    exact ih _ _ _ h j p' hj'
  ·cases h
theorem B_.kid {i:Nat} {x:AE} (ht:B_ l) (hx:l[i]?=some x) {k p:Nat} (hk:(BX (AG l) x.kids.toNat (i+1))[k]?=some p):∃ y:AE,l[p]?=some y∧(CE (BW x.kind k) y.kind=true∨(2≤y.kind∧y.kind≤10)):=by
 obtain⟨q,hq⟩:∃ q,DV l i q:=⟨_,ht.end (List.getElem?_eq_some_iff.1 hx).1⟩
 rcases hq with⟨m,what,h⟩ | ⟨rfl,m,h⟩
 ·cases m with
  | zero=>cases h
  | succ m=>
   unfold BS at h
   rw[hx] at h
   simp only at h
   split at h
   ·obtain⟨y,h1,h2⟩:=Dc _ _ _ _ h k p hk
    rw[Nat.zero_add] at h2
    exact⟨y,h1,.inl h2⟩
   ·cases h
 ·unfold GZ at h
  rw[hx] at h
  simp only at h
  split at h
  ·obtain⟨y,h1,h2⟩:=Sm _ _ _ _ h k p hk
   exact⟨y,h1,.inr h2⟩
  ·cases h
theorem B_.fit {i:Nat} {x:AE} (ht:B_ l) (hx:l[i]?=some x):DT AV x=true:=by
 obtain⟨q,hq⟩:∃ q,DV l i q:=⟨_,ht.end (List.getElem?_eq_some_iff.1 hx).1⟩
 rcases hq with⟨m,what,h⟩ | ⟨rfl,m,h⟩
 ·obtain⟨y,h1,_,h3⟩:=cZ (congrArg (·.2) h)
  rw[hx] at h1
  cases h1
  exact h3
 ·unfold GZ at h
  rw[hx] at h
  simp only at h
  split at h
  ·rename_i hc
   rw[Bool.and_eq_true] at hc
   exact hc.2
  ·cases h
theorem B_.place {i:Nat} {x y:AE} (ht:B_ l) (hx:l[i]?=some x) {k p:Nat} (hk:(BX (AG l) x.kids.toNat (i+1))[k]?=some p) (hy:l[p]?=some y) (hp:y.kind=24):p=i+1∧(x.kind=19∨x.kind=20):=by
 obtain⟨y',h1,h2⟩:=ht.kid hx hk
 rw[hy] at h1
 cases h1
 have hf:=ht.fit hx
 unfold DT at hf
 simp only[Bool.and_eq_true,decide_eq_true_eq,Bool.or_eq_true] at hf
 obtain⟨⟨_,hl⟩,hm⟩:=hf
 have h19:x.kind=19∨x.kind=20:=by
  rcases h2 with h2 | h2
  ·rw[hp] at h2
   unfold BW at h2
   by_cases e1:x.kind=19
   ·exact .inl e1
   ·by_cases e2:x.kind=20
    ·exact .inr e2
    ·exfalso
     have c6:([19,20]:List Int).contains x.kind=false:=by simp[e1,e2]
     rw[c6] at h2
     (repeat' split at h2) <;> first | (simp[CE] at h2;done) | simp_all [CE]
  ·omega
 have hm1:x.kids≤1:=by
  rcases h19 with e | e <;> (rw[e] at hm;rcases hm with hm | hm <;> simp[CV] at hm <;> omega)
 have hkl:=(List.getElem?_eq_some_iff.1 hk).1
 rw[WX] at hkl
 have hk0:k=0:=by omega
 subst hk0
 obtain⟨r,hr⟩:∃ r,x.kids.toNat=r+1:=⟨x.kids.toNat-1,by omega⟩
 rw[hr] at hk
 have:i+1=p:=by simpa [BX] using hk
 exact⟨this.symm,h19⟩
end
def B8 (a i:Nat):Nat:=if i≤a then i else i+1
def KN (a:Nat) (v:Int):Int:=if v≤(a:Int) then v else v+1
theorem N3 {a i:Nat} (h:i≤a):B8 a i=i:=if_pos h
theorem zE {a i j:Nat} (h:B8 a i=B8 a j):i=j:=by
 unfold B8 at h
 split at h <;> split at h <;> omega
theorem Ok {a i:Nat} (h:i≠a):B8 a i≠a∧B8 a i≠a+1:=by
 unfold B8
 split <;> omega
theorem oG {a i:Nat} (h:i≠a):KN a ((i:Int)+1)=(B8 a i:Int)+1:=by
 unfold KN B8
 split <;> split <;> omega
def Mz:AE:=⟨23,ByteArray.empty,0,0,0⟩
structure HV (a:Nat) (l m:List AE):Prop where
 len:m.length=l.length+1
 lt:a<l.length
 at_:∀ x,l[a]?=some x→m[a]?=some { x with kids:=x.kids+1 }
 pass:m[a+1]?=some Mz
 rest:∀ (i:Nat) (x:AE),i≠a→l[i]?=some x→m[B8 a i]?=some x
section
variable {a:Nat} {l m:List AE}
theorem HV.set (h:HV a l m) {i:Nat} (hi:i≠a) (n:Int):HV a (E0 l i n) (E0 m (B8 a i) n):=by
 obtain⟨n1,n2⟩:=Ok hi
 refine⟨by rw[LG,LG];exact h.len,by rw[LG];exact h.lt,fun x hx=>?_,?_,fun j x hj hx=>?_⟩
 ·rw[JH (Ne.symm hi)] at hx
  rw[JH (Ne.symm n1)]
  exact h.at_ x hx
 ·rw[JH (Ne.symm n2)]
  exact h.pass
 ·by_cases hij:j=i
  ·subst hij
   have hl:=(List.getElem?_eq_some_iff.1 hx).1
   rw[LG] at hl
   obtain⟨y,hy⟩:∃ y,l[j]?=some y:=⟨_,List.getElem?_eq_getElem hl⟩
   rw[I8 hy] at hx
   cases hx
   exact I8 (h.rest j y hj hy)
  ·rw[JH hij] at hx
   rw[JH (fun e=>hij (zE e))]
   exact h.rest j x hj hx
end
def PE (t:F_):ByteArray × Int × Int:=(t.name,t.kind,t.num)
theorem qX {nm:ByteArray}:∀ {A B:List F_},A.map PE=B.map PE→(E5 A nm).map PE=(E5 B nm).map PE
 | [],[],_=>rfl
 | [],_ :: _,h=>by simp at h
 | _ :: _,[],h=>by simp at h
 | t :: A,u :: B,h=>by
  simp only[List.map_cons,List.cons.injEq] at h
  obtain⟨h1,h2⟩:=h
  have hn:t.name=u.name:=congrArg (·.1) h1
  have ih:=qX (nm:=nm) h2
  unfold E5 at ih ⊢
  rw[List.find?_cons,List.find?_cons,hn]
  split
  ·exact congrArg some h1
  ·exact ih
structure IZ (a:Nat) (s t:AS):Prop where
 rows:HV a s.rows t.rows
 ka:∀ x,s.rows[a]?=some x→x.kind=11
 q:t.queues=s.queues
 v:t.vars=s.vars
 g:t.tags=s.tags
 u:t.rules=s.rules.map (KN a)
 o:t.on=s.on.map (KN a)
 m:t.miss=KN a s.miss
 th:t.things.map PE=s.things.map PE
section
variable {a:Nat} {s t:AS}
theorem IZ.cnt (h:IZ a s t) (k:Int):BD t k=BD s k:=by
 unfold BD
 rw[h.q,h.v,h.g,h.u,List.length_map]
theorem IZ.setRows (h:IZ a s t) {i:Nat} (hi:i≠a) (n:Int):HV a (E0 s.rows i n) (E0 t.rows (B8 a i) n)∧∀ x,(E0 s.rows i n)[a]?=some x→x.kind=11:=
 ⟨h.rows.set hi n,fun x hx=>h.ka x (by rw[JH (Ne.symm hi)] at hx;exact hx)⟩
theorem IZ.decl (h:IZ a s t) {i:Nat} (hi:i≠a) (x:AE) (e e':Int):IZ a (BJ i e x s) (BJ (B8 a i) e' x t):=by
 unfold BJ
 by_cases h0:BM x.kind=0
 ·rw[if_pos h0,if_pos h0]
  exact h
 rw[if_neg h0,if_neg h0]
 have hz:=oG hi
 have hm1:KN a (-1)=-1:=by unfold KN;rw[if_pos (by omega)]
 obtain⟨r1,r2⟩:=h.setRows hi (BD s (BM x.kind))
 unfold EX
 refine⟨by show HV a _ (E0 t.rows (B8 a i) (BD t (BM x.kind)));rw[h.cnt];exact r1,r2,?_,?_,?_,?_,?_,h.m,?_⟩
 ·show (if _ then _ else _)=if _ then _ else _
  rw[h.q]
 ·show (if _ then _ else _)=if _ then _ else _
  rw[h.v]
 ·show (if _ then _ else _)=if _ then _ else _
  rw[h.g]
 ·show (if _ then _ else _)=List.map _ (if _ then _ else _)
  rw[h.u]
  split
  ·rw[List.map_append,List.map_cons,List.map_nil,hz]
  ·rfl
 ·show (if _ then _ else _)=List.map _ (if _ then _ else _)
  rw[h.o]
  split
  ·rw[List.map_append,List.map_cons,List.map_nil,hm1]
  ·rfl
 ·show List.map PE (t.things++_)=List.map PE (s.things++_)
  rw[List.map_append,List.map_append,h.th,h.cnt]
  rfl
theorem IZ.call (h:IZ a s t) {i:Nat} (hi:i≠a) (x:AE):IZ a (BP i x s) (BP (B8 a i) x t):=by
 unfold BP
 by_cases h0:DL x.kind=0
 ·rw[if_pos h0,if_pos h0]
  exact h
 rw[if_neg h0,if_neg h0]
 have hf:=qX (nm:=x.name) h.th
 cases h1:E5 s.things x.name with
 | none=>
  rw[h1] at hf
  cases h2:E5 t.things x.name with
  | none=>exact h
  | some w=>rw[h2] at hf;cases hf
 | some w=>
  rw[h1] at hf
  cases h2:E5 t.things x.name with
  | none=>rw[h2] at hf;cases hf
  | some w'=>
   rw[h2] at hf
   have hn:w'.num=w.num:=congrArg (fun z=>z.2.2) (Option.some.inj hf)
   obtain⟨r1,r2⟩:=h.setRows hi w.num
   exact⟨by show HV a _ (E0 t.rows (B8 a i) w'.num);rw[hn];exact r1,r2,h.q,h.v,h.g,h.u,h.o,h.m,h.th⟩
theorem IZ.ev (h:IZ a s t) {i:Nat} (hi:i≠a) (x:AE):IZ a (C2 i x s) (C2 (B8 a i) x t):=by
 unfold C2
 have hz:=oG hi
 split
 ·exact h
 split
 ·exact⟨h.rows,h.ka,h.q,h.v,h.g,h.u,h.o,hz.symm,h.th⟩
 ·refine⟨h.rows,h.ka,h.q,h.v,h.g,h.u,?_,h.m,h.th⟩
  show t.on.set _ _=List.map _ (s.on.set _ _)
  rw[h.o,← hz,List.map_set]
end
section
variable {a:Nat} {l m:List AE}
theorem HV.kid (h:HV a l m) {i:Nat} {x:AE} (hx:l[i]?=some x):∃ y:AE,m[B8 a i]?=some y∧y.kind=x.kind∧y.n=x.n:=by
 by_cases e:i=a
 ·subst e
  exact⟨{ x with kids:=x.kids+1 },by rw[N3 (Nat.le_refl _)];exact h.at_ x hx,rfl,rfl⟩
 ·exact⟨x,h.rest i x e hx,rfl,rfl⟩
variable {R R':List AE} {rd rd' S:List Int}
end
theorem c_ {l:List AE} {s:AS} (hi:GV l l.length s):G0 s.rows l:=by
 refine⟨hi.len,fun i x hx=>?_⟩
 have hl:=(List.getElem?_eq_some_iff.1 hx).1
 obtain⟨y,hy⟩:∃ y,s.rows[i]?=some y:=⟨_,List.getElem?_eq_getElem (by rw[hi.len];exact hl)⟩
 obtain⟨z,hz,he⟩:=hi.same i y hy
 rw[hx] at hz
 cases hz
 exact⟨y,hy,by rw[he]⟩
end Go.Proofs.YtipekdhneagdbaaDoor
namespace Go.Proofs.YtipekdhneagdbaaDoor
open Go Go.Sx Go.ChangeShapes Go.WideShapes Go.ChangeAt Go.RowKit
set_option maxRecDepth 100000
set_option linter.unusedSimpArgs false
set_option linter.unusedVariables false
set_option maxHeartbeats 64000000
section
variable {α:Type} {cells:α→List Value} {w:Nat} {l:List α}
theorem zF (hcl:∀ x,(cells x).length=w):(l.flatMap cells).length=l.length*w:=by
 induction l with
 | nil=>simp
 | cons x l ih=>
  rw[List.flatMap_cons,List.length_append,ih,hcl,List.length_cons,Nat.succ_mul]
  omega
theorem bD (hcl:∀ x,(cells x).length=w):∀ {l:List α} {i j:Nat} {x:α},l[i]?=some x→j<w→(l.flatMap cells)[i*w+j]?=(cells x)[j]?
 | [],i,j,x,h,_=>by simp at h
 | y :: l,0,j,x,h,hj=>by
  cases h
  rw[List.flatMap_cons,Nat.zero_mul,Nat.zero_add,List.getElem?_append_left (by rw[hcl];exact hj)]
 | y :: l,i+1,j,x,h,hj=>by
  have h':l[i]?=some x:=h
  rw[List.flatMap_cons,List.getElem?_append_right (by rw[hcl,Nat.succ_mul];omega),hcl,← bD hcl h' hj]
  congr 1
  rw[Nat.succ_mul]
  omega
end
def J2 (W:World) (v:Value) (n w:Nat) (cs:List Value):Prop:=cs.length=n*w∧((n=0∧v=Z0) ∨
 ∃ b off cap CS ty fr,v=.slice (some ⟨b,off,none⟩) n cap∧n≤cap∧cap<AM∧W.heap[b]?=some (.cells CS ty fr)∧∀ k,k<n*w→CS[off+k]?=cs[k]?)
section
variable {H:Type} {enc:TypeId × Value→H} {W:World} {base b0:Nat} {sp:Nat→Bool} {hd:Bool}
theorem OS {α:Type} {cells:α→List Value} {Q:α→Prop} {w:Nat} {t e:TypeId} (ht:Tryd.prog.underlying t=some (.slice e)) (hw:Tryd.prog.cellsOf e=w)
  (hopen:∀ n cs y,DataW.trod enc Tryd.prog W base sp hd n e cs=some y→∃ x,cs=cells x∧Q x) (hcl:∀ x,(cells x).length=w) (hw0:0<w)
  {v:Value} {n:Nat} {y:DataW H × List MemPlace} (hval:Cell.okWide Tryd.prog W .any b0 t v) (h:DataW.trod enc Tryd.prog W base sp hd n t [v]=some y):∃ l:List α,(∀ x∈l,Q x)∧J2 W v l.length w (l.flatMap cells):=by
 rcases DataW.trod_slice ht h with⟨h1,h2⟩ | ⟨a',len,cap,elems,rest,n',_,h1,_,hb,hl,hm,hlen,hel,_⟩
 ·cases h1
  exact⟨[],fun x hx=>(by cases hx),by simp,.inl ⟨rfl,rfl⟩⟩
 ·cases h1
  simp only[Cell.okWide,ht,Cell.ok] at hval
  obtain⟨_,_,_,hsp,row,cells',hsh,_⟩:=hval
  obtain⟨b,off,spot⟩:=a'
  simp only at hsp
  subst hsp
  have hblk:∃ CS ty fr,W.heap[b]?=some (.cells CS ty fr):=by
   simp only[World.shape?] at hsh
   split at hsh
   ·rename_i CS ty fr hh;exact⟨_,_,_,hh⟩
   ·cases hsh
  obtain⟨CS,ty,fr,hblk⟩:=hblk
  have each:∀ i,i<len→∃ x:α,Q x∧∀ j,j<w→CS[off+(i*w+j)]?=(cells x)[j]?:=fun i hi=>by
   have:=hel i hi
   obtain⟨y,hy⟩:∃ y,elems[i]?=some y:=⟨_,List.getElem?_eq_getElem (by omega)⟩
   rw[hy,XQ,hw,Option.bind_eq_some_iff] at this
   obtain⟨cs,hcs,ht⟩:=this
   obtain⟨x,rfl,hx⟩:=hopen _ _ _ ht
   obtain⟨_,hc⟩:=eR hcs
   refine⟨x,hx,fun j hj=>?_⟩
   rw[← hc j hj,← Nat.add_assoc]
   simp only[World.cell?,hblk,Option.isSome_none,Bool.false_eq_true,if_false]
  obtain⟨l,hll,hl1⟩:∃ l:List α,l.length=len∧∀ i x,l[i]?=some x→Q x∧∀ j,j<w→CS[off+(i*w+j)]?=(cells x)[j]?:=by
   have : ∀ m,m≤len→∃ l:List α,l.length=m∧∀ i x,l[i]?=some x→Q x∧∀ j,j<w→CS[off+(i*w+j)]?=(cells x)[j]?:=by
    intro m
    induction m with
    | zero=>exact fun _=>⟨[],rfl,fun i x h=>by simp at h⟩
    | succ m ih=>
     intro hm
     obtain⟨l,h1,h2⟩:=ih (by omega)
     obtain⟨x,hx⟩:=each m (by omega)
     refine⟨l++[x],by simp[h1],fun i y hy=>?_⟩
     rcases Nat.lt_or_ge i l.length with h3 | h3
     ·rw[List.getElem?_append_left h3] at hy
      exact h2 i y hy
     ·rw[List.getElem?_append_right h3] at hy
      have:i-l.length=0:=by
       rcases Nat.eq_zero_or_pos (i-l.length) with h4 | h4
       ·exact h4
       ·rw[List.getElem?_eq_none (by simp;omega)] at hy
        cases hy
      rw[this] at hy
      cases hy
      have:i=m:=by omega
      subst this
      exact hx
   exact this len (Nat.le_refl _)
  unfold maxLen at hm
  refine⟨l,fun x hx=>?_,zF hcl,.inr ⟨b,off,cap,CS,ty,fr,by rw[hll],by omega,by unfold AM;omega,hblk,fun k hk=>?_⟩⟩
  ·obtain⟨i,hi⟩:=List.getElem?_of_mem hx
   exact(hl1 i x hi).1
  ·have hdm:=Nat.div_add_mod k w
   rw[Nat.mul_comm] at hdm
   have hj:=Nat.mod_lt k hw0
   have hi:k/w<l.length:=(Nat.div_lt_iff_lt_mul hw0).2 hk
   have hx:=List.getElem?_eq_getElem hi
   rw[← hdm,(hl1 _ _ hx).2 _ hj,bD hcl hx hj]
end
theorem rV (l:List Int):l.flatMap (fun x=>[iv x])=ints l:=by
 induction l with
 | nil=>rfl
 | cons x l ih=>rw[List.flatMap_cons,ih];rfl
section
variable {H:Type} {enc:TypeId × Value→H} {W:World} {base b0:Nat} {sp:Nat→Bool} {hd:Bool}
theorem ZI {n:Nat} {cs:List Value} {y:DataW H × List MemPlace} (h:DataW.trod enc Tryd.prog W base sp hd n 3 cs=some y):∃ x:Int,cs=[iv x]∧(-9223372036854775808≤x∧x≤9223372036854775807):=by
 obtain⟨a,ha,_,wa⟩:=DataW.trod_int Tryd.underlying3 h
 exact⟨a,ha,bounds_i64 wa⟩
end
section
variable {H:Type} {enc:TypeId × Value→H} {W:World} {base b0:Nat} {sp:Nat→Bool} {hd:Bool} {v:Value} {d:DataW H} {p:List MemPlace}
theorem Bo (hval:Value.okWide Tryd.prog W .any b0 28 v) (h:DataW.Trod enc Tryd.prog W base sp hd 28 v d p):∃ l:List Int,J2 W v l.length 1 (ints l):=by
 obtain⟨a,len,cap,rfl⟩:=okWide_slice Tryd.underlying28 hval
 obtain⟨fuel,hf⟩:=h
 have hc:Cell.okWide Tryd.prog W .any b0 28 (.slice a len cap):=by simpa only[Value.okWide,Tryd.underlying28] using hval
 obtain⟨l,_,hl⟩:=OS (cells:=fun x:Int=>[iv x]) Tryd.underlying28 PC (fun n cs y h=>ZI h) (fun _=>rfl) (by decide) hc hf
 rw[rV] at hl
 exact⟨l,hl⟩
end
theorem UY:Tryd.prog.underlying 59=some (.slice 22):=by kernel_rfl
def XE (W:World) (v:Value) (l:List AE):Prop:=(l=[]∧(v=Z0∨∃ a c,v=.slice (some a) 0 c)) ∨
 (0<l.length∧∃ b off cap CS ty fr,v=.slice (some ⟨b,off,none⟩) l.length cap∧l.length≤cap∧cap<AM∧W.heap[b]?=some (.cells CS ty fr)∧∀ k,k<l.length*5→CS[off+k]?=(l.flatMap AI)[k]?)
section
variable {H:Type} {enc:TypeId × Value→H} {W:World} {base b0:Nat} {sp:Nat→Bool} {hd:Bool}
theorem zV {a:Addr} {n:Nat} {cs:List Value} (h:W.cells? base a (n+1)=some cs):a.spot=none∧∃ CS ty fr,W.heap[a.block]?=some (.cells CS ty fr):=by
 unfold World.cells? at h
 split at h
 ·have:=mapM_some_get h 0 0 (by simp)
  have ha:a.add 0=a:=by unfold Addr.add;rw[if_pos rfl]
  rw[ha] at this
  have hl:=mapM_some_length h
  simp at hl
  have h0:∃ u,W.cell? a=some u:=by
   rw[this]
   exact⟨_,List.getElem?_eq_getElem (by omega)⟩
  obtain⟨u,hu⟩:=h0
  unfold World.cell? at hu
  split at hu
  ·rename_i c x y hh
   refine⟨?_,c,x,y,hh⟩
   cases hs:a.spot with
   | none=>rfl
   | some _=>rw[hs] at hu;simp at hu
  ·cases hu
 ·cases h
theorem uW {n:Nat} {cs:List Value} {y:DataW H × List MemPlace} (h:DataW.trod enc Tryd.prog W base sp hd n 22 cs=some y):∃ x:Value × List AE,cs=[x.1]∧(XE W x.1 x.2∧∀ r∈x.2,LS r):=by
 rcases DataW.trod_slice Tryd.underlying22 h with⟨h1,h2⟩ | ⟨a',len,cap,elems,rest,n',_,h1,_,hb,hl,hm,hlen,hel,_⟩
 ·exact⟨(_,[]),h1,.inl ⟨rfl,.inl rfl⟩,fun r hr=>by cases hr⟩
 ·rcases Nat.eq_zero_or_pos len with h0 | h0
  ·subst h0
   exact⟨(_,[]),h1,.inl ⟨rfl,.inr ⟨_,_,rfl⟩⟩,fun r hr=>by cases hr⟩
  obtain⟨b,off,spot⟩:=a'
  have e0:=hel 0 h0
  obtain⟨y0,hy0⟩:∃ y,elems[0]?=some y:=⟨_,List.getElem?_eq_getElem (by omega)⟩
  rw[hy0,Nat.zero_mul,RN,Option.bind_eq_some_iff] at e0
  obtain⟨cs0,hcs0,_⟩:=e0
  have ha:(⟨b,off,spot⟩:Addr).add 0=⟨b,off,spot⟩:=by unfold Addr.add;rw[if_pos rfl]
  rw[ha] at hcs0
  obtain⟨hsp,CS,ty,fr,hblk⟩:=zV hcs0
  simp only at hsp hblk
  subst hsp
  have each:∀ i,i<len→∃ x:AE,LS x∧∀ j,j<5→CS[off+(i*5+j)]?=(AI x)[j]?:=fun i hi=>by
   have:=hel i hi
   obtain⟨y,hy⟩:∃ y,elems[i]?=some y:=⟨_,List.getElem?_eq_getElem (by omega)⟩
   rw[hy,XQ,RN,Option.bind_eq_some_iff] at this
   obtain⟨cs,hcs,ht⟩:=this
   obtain⟨x,rfl,hx⟩:=ZE ht
   obtain⟨_,hc⟩:=eR hcs
   refine⟨x,hx,fun j hj=>?_⟩
   rw[← hc j hj,← Nat.add_assoc]
   simp only[World.cell?,hblk,Option.isSome_none,Bool.false_eq_true,if_false]
  obtain⟨l,hll,hl1⟩:∃ l:List AE,l.length=len∧∀ i x,l[i]?=some x→LS x∧∀ j,j<5→CS[off+(i*5+j)]?=(AI x)[j]?:=by
   have : ∀ m,m≤len→∃ l:List AE,l.length=m∧∀ i x,l[i]?=some x→LS x∧∀ j,j<5→CS[off+(i*5+j)]?=(AI x)[j]?:=by
    intro m
    induction m with
    | zero=>exact fun _=>⟨[],rfl,fun i x h=>by simp at h⟩
    | succ m ih=>
     intro hm
     obtain⟨l,h1,h2⟩:=ih (by omega)
     obtain⟨x,hx⟩:=each m (by omega)
     refine⟨l++[x],by simp[h1],fun i y hy=>?_⟩
     rcases Nat.lt_or_ge i l.length with h3 | h3
     ·rw[List.getElem?_append_left h3] at hy
      exact h2 i y hy
     ·rw[List.getElem?_append_right h3] at hy
      have:i-l.length=0:=by
       rcases Nat.eq_zero_or_pos (i-l.length) with h4 | h4
       ·exact h4
       ·rw[List.getElem?_eq_none (by simp;omega)] at hy
        cases hy
      rw[this] at hy
      cases hy
      have:i=m:=by omega
      subst this
      exact hx
   exact this len (Nat.le_refl _)
  unfold maxLen at hm
  refine⟨(_,l),h1,.inr ⟨show 0<l.length by omega,b,off,cap,CS,ty,fr,by show Value.slice _ len cap=.slice _ l.length cap;rw[hll],show l.length≤cap by omega,by unfold AM;omega,hblk,fun k hk=>?_⟩,fun r hr=>by
   obtain⟨i,hi⟩:=List.getElem?_of_mem hr
   exact(hl1 i r hi).1⟩
  have hk:k<l.length*5:=hk
  show CS[off+k]?=(l.flatMap AI)[k]?
  have hdm:=Nat.div_add_mod k 5
  rw[Nat.mul_comm] at hdm
  have hj:=Nat.mod_lt k (show 0<5 by decide)
  have hi:k/5<l.length:=(Nat.div_lt_iff_lt_mul (by decide)).2 hk
  have hx:=List.getElem?_eq_getElem hi
  rw[← hdm,(hl1 _ _ hx).2 _ hj,bD (cells:=AI) (w:=5) (fun _=>rfl) hx hj]
theorem yC {v:Value} {d:DataW H} {p:List MemPlace} (hval:Value.okWide Tryd.prog W .any b0 59 v) (h:DataW.Trod enc Tryd.prog W base sp hd 59 v d p) :
  ∃ L:List (Value × List AE),(∀ x∈L,XE W x.1 x.2∧∀ r∈x.2,LS r)∧J2 W v L.length 1 (L.flatMap fun x=>[x.1]):=by
 obtain⟨a,len,cap,rfl⟩:=okWide_slice UY hval
 obtain⟨fuel,hf⟩:=h
 have hc:Cell.okWide Tryd.prog W .any b0 59 (.slice a len cap):=by simpa only[Value.okWide,UY] using hval
 exact OS (cells:=fun x:Value × List AE=>[x.1]) (Q:=fun x=>XE W x.1 x.2∧∀ r∈x.2,LS r) UY (by kernel_rfl) (fun n cs y h=>uW h) (fun _=>rfl) (by decide) hc hf
end
structure M9 where
 v:Value
 n:Nat
 w:Nat
 cs:List Value
 sc:List Value
 ty:TypeId
noncomputable def JM:AA→List M9→AA
 | h,[]=>h
 | h,p :: ps=>JM (h.push (.row p.sc p.ty false true)) ps
theorem eK:∀ (ps:List M9) (h:AA),(JM h ps).next=h.next+ps.length∧(JM h ps).floor=h.floor∧∀ i,i<h.next→(JM h ps).get i=h.get i
 | [],h=>⟨rfl,rfl,fun _ _=>rfl⟩
 | p :: ps,h=>by
  obtain⟨h1,h2,h3⟩:=eK ps (h.push (.row p.sc p.ty false true))
  rw[C7] at h1 h3
  refine⟨by show (JM _ ps).next=_;rw[h1,List.length_cons];omega,h2,fun i hi=>?_⟩
  show (JM _ ps).get i=_
  rw[h3 i (by omega),AP hi]
theorem rX:∀ {ps:List M9} {h:AA} {i:Nat} {p:M9},ps[i]?=some p→(JM h ps).get (h.next+i)=.row p.sc p.ty false true
 | [],h,i,p,hp=>by simp at hp
 | q :: ps,h,0,p,hp=>by
  cases hp
  show (JM _ ps).get h.next=_
  rw[(eK ps _).2.2 _ (by rw[C7];omega),BO]
 | q :: ps,h,i+1,p,hp=>by
  have:=rX (ps:=ps) (h:=h.push (.row q.sc q.ty false true)) (i:=i) (p:=p) hp
  rw[C7] at this
  show (JM _ ps).get (h.next+(i+1))=_
  rw[← this]
  congr 1
  omega
def L8 (p:M9):Go.Sx.Loc:=match p.v with
 | .slice (some a) _ _=>⟨a.block,a.off,0,0⟩
 | _=>⟨0,0,0,0⟩
def PK (ps:List M9):BK:=fun i=>if i=0 then some ⟨0,0,0,0⟩ else (ps[i-1]?).map L8
def OI (i:Nat) (p:M9):Value:=match p.v with
 | .slice (some _) n c=>qS i n c
 | v=>v
theorem YL {ps:List M9} {i:Nat} {p:M9} (h:ps[i]?=some p):PK ps (i+1)=some (L8 p):=by
 unfold PK
 rw[if_neg (by omega),Nat.add_sub_cancel,h]
 rfl
theorem Gz {W : World} (h : laidMetH Tryd.prog [("winnow/lex.words", Rows.laid_winnow_lex_words)] W) {ps : List M9} (hps : ∀ p ∈ ps, J2 W p.v p.n p.w p.cs ∧ p.sc.length = p.cs.length ∧ ∀ (k : Nat) v V, p.sc[k]? = some v → p.cs[k]? = some V → AH (PK ps) v V) :
  CB Tryd.prog (PK ps) (JM GP ps) W∧(∀ i,¬ wr ((JM GP ps).get i))∧(JM GP ps).next=ps.length+1∧(JM GP ps).floor=0∧(JM GP ps).get 0=ED ∧
   ∀ (i:Nat) p,ps[i]?=some p→AH (PK ps) (OI (i+1) p) p.v∧A7 0 (JM GP ps) (OI (i+1) p) p.n p.w p.sc:=by
 obtain⟨hn,hf,ho⟩:=eK ps GP
 have h01:GP.next=1:=rfl
 rw[h01] at hn ho
 obtain⟨CS0,ty0,fr0,hb0,hcs0⟩:=VK (zs:=HP) (rest:=[]) X8 XV Tryd.underlying145 Tryd.underlying9 V7 X7 h
 have hget:∀ (i:Nat) p,ps[i]?=some p→(JM GP ps).get (i+1)=.row p.sc p.ty false true:=fun i p hp=>by
  have:=rX (h:=GP) hp
  rw[h01,Nat.add_comm] at this
  exact this
 have hro:=TP (P:=Tryd.prog) (W:=W) (ρ:=PK ps) (h:=JM GP ps) rfl (fun i hi=>by
   unfold PK
   rw[if_neg (by omega),List.getElem?_eq_none (by omega)]
   rfl) (fun g hg=>by
   rw[T_] at hg
   obtain rfl:g=0:=by omega
   exact⟨_,rfl,rfl,rfl⟩) (fun i hi=>by
   rw[hn] at hi
   cases i with
   | zero=>
    refine⟨LF,9,false,⟨0,0,0,0⟩,CS0,ty0,fr0,(ho 0 (by omega)).trans rfl,rfl,hb0,fun k v hv=>⟨v,?_,?_⟩⟩
    ·have:CS0.toList[k]?=some v:=by rw[hcs0];exact hv
     simpa using this
    ·have hm:v∈LF:=List.mem_of_getElem? hv
     obtain⟨z,_,rfl⟩:=List.mem_map.1 hm
     exact .flat rfl
   | succ i=>
    obtain⟨p,hp⟩:∃ p,ps[i]?=some p:=⟨_,List.getElem?_eq_getElem (by omega)⟩
    obtain⟨⟨hl,hor⟩,hsl,hfl⟩:=hps p (List.mem_of_getElem? hp)
    rcases hor with⟨h0,hv⟩ | ⟨b,off,cap,CS,ty,fr,hv,h1,h2,h3,h4⟩
    ·refine⟨p.sc,p.ty,false,L8 p,CS0,ty0,fr0,hget i p hp,YL hp,by unfold L8;rw[hv];exact hb0,fun k v hk=>?_⟩
     have:=(List.getElem?_eq_some_iff.1 hk).1
     rw[hsl,hl,h0,Nat.zero_mul] at this
     omega
    ·refine⟨p.sc,p.ty,false,L8 p,CS,ty,fr,hget i p hp,YL hp,by unfold L8;rw[hv];exact h3,fun k v hk=>?_⟩
     have hkl:=(List.getElem?_eq_some_iff.1 hk).1
     obtain⟨V,hV⟩:∃ V,p.cs[k]?=some V:=⟨_,List.getElem?_eq_getElem (by omega)⟩
     refine⟨V,?_,hfl k v V hk hV⟩
     have e:(L8 p).d=off:=by unfold L8;rw[hv]
     rw[e,h4 k (by omega)]
     exact hV)
 refine⟨hro.1,hro.2,by omega,hf,(ho 0 (by omega)).trans rfl,fun i p hp=>?_⟩
 obtain⟨⟨hl,hor⟩,hsl,hfl⟩:=hps p (List.mem_of_getElem? hp)
 have hil:=(List.getElem?_eq_some_iff.1 hp).1
 rcases hor with⟨h0,hv⟩ | ⟨b,off,cap,CS,ty,fr,hv,h1,h2,h3,h4⟩
 ·have e:OI (i+1) p=Z0:=by unfold OI;rw[hv]
  have ecs:p.sc=[]:=List.length_eq_zero_iff.1 (by rw[hsl,hl,h0,Nat.zero_mul])
  rw[e,hv,ecs,h0]
  exact⟨.flat rfl,A7.nil _ _ _⟩
 ·have e:OI (i+1) p=qS (i+1) p.n cap:=by unfold OI;rw[hv]
  have eL:L8 p=⟨b,off,0,0⟩:=by unfold L8;rw[hv]
  rw[e]
  refine⟨?_,A7.rowR (ex:=[]) (by rw[List.append_nil];exact hget i p hp) ⟨Nat.zero_le _,by omega⟩ (hsl.trans hl) fun h=>absurd h (Nat.lt_irrefl 0)⟩
  rw[hv]
  exact AH.slice (L:=⟨b,off,0,0⟩) (by rw[YL hp,eL]) h2
def KA (x:Value × List AE):M9:=if x.2.length=0 then ⟨Z0,0,5,[],[],46⟩ else ⟨x.1,x.2.length,5,x.2.flatMap AI,x.2.flatMap AI,46⟩
def OH (i:Nat) (x:Value × List AE):Value:=if x.2.length=0 then (match x.1 with | .slice none _ _=>Z0 | _=>qS 0 0 AM) else OI i (KA x)
theorem xK {W : World} (h : laidMetH Tryd.prog [("winnow/lex.words", Rows.laid_winnow_lex_words)] W) {v w : Value} {L : List (Value × List AE)} {A : List Int} (hv : J2 W v L.length 1 (L.flatMap fun x => [x.1])) (hq : ∀ x ∈ L, XE W x.1 x.2) (hw : J2 W w A.length 1 (ints A)) :
  ∃ hp ρ sv sw S,CB Tryd.prog ρ hp W∧(∀ i,¬ wr (hp.get i))∧AH ρ sv v∧AH ρ sw w∧S.length=L.length∧(∀ (i:Nat) sx x,S[i]?=some sx→L[i]?=some x→AU hp sx x.2)∧A7 0 hp sv L.length 1 S∧AN 0 hp sw A∧hp.floor=0∧hp.get 0=ED∧0<hp.next:=by
 have eM:(L.flatMap fun x=>[x.1])=L.map (·.1):=by
  clear hv hq
  induction L with
  | nil=>rfl
  | cons x L ih=>rw[List.flatMap_cons,ih];rfl
 rw[eM] at hv
 let S:=L.mapIdx fun i x=>OH (i+1) x
 let ps:=L.map KA++[⟨v,L.length,1,L.map (·.1),S,22⟩,⟨w,A.length,1,ints A,ints A,3⟩]
 have hSl:S.length=L.length:=List.length_mapIdx
 have hS:∀ (i:Nat) x,L[i]?=some x→S[i]?=some (OH (i+1) x):=fun i x hx=>by
  show (L.mapIdx _)[i]?=_
  rw[List.getElem?_mapIdx,hx]
  rfl
 have hpi:∀ (i:Nat) x,L[i]?=some x→ps[i]?=some (KA x):=fun i x hx=>by
  show (L.map KA++_)[i]?=_
  rw[List.getElem?_append_left (by rw[List.length_map];exact(List.getElem?_eq_some_iff.1 hx).1),List.getElem?_map,hx]
  rfl
 have hso:ps[L.length]?=some ⟨v,L.length,1,L.map (·.1),S,22⟩:=by
  show (L.map KA++_)[L.length]?=_
  rw[List.getElem?_append_right (by rw[List.length_map];omega),List.length_map,Nat.sub_self]
  rfl
 have hsw:ps[L.length+1]?=some ⟨w,A.length,1,ints A,ints A,3⟩:=by
  show (L.map KA++_)[L.length+1]?=_
  rw[List.getElem?_append_right (by rw[List.length_map];omega),List.length_map,show L.length+1-L.length=1 by omega]
  rfl
 have hin:∀ (i:Nat) x,L[i]?=some x→AH (PK ps) (OH (i+1) x) x.1:=fun i x hx=>by
  rcases hq x (List.mem_of_getElem? hx) with⟨h0,h1 | ⟨a,c,h1⟩⟩ | ⟨h0,b,off,cap,CS,ty,fr,h1,h2,h3,h4,h5⟩
  ·unfold OH
   rw[if_pos (by rw[h0];rfl),h1]
   exact .flat rfl
  ·unfold OH
   rw[if_pos (by rw[h0];rfl),h1]
   exact .sliceU (L:=⟨0,0,0,0⟩) rfl (Nat.zero_le _) (.inl (.inr ⟨rfl,rfl⟩))
  ·have e0:KA x=⟨x.1,x.2.length,5,x.2.flatMap AI,x.2.flatMap AI,46⟩:=by unfold KA;rw[if_neg (by omega)]
   unfold OH
   rw[if_neg (by omega)]
   have e1:OI (i+1) (KA x)=qS (i+1) x.2.length cap:=by rw[e0];unfold OI;rw[h1]
   have e2:L8 (KA x)=⟨b,off,0,0⟩:=by rw[e0];unfold L8;rw[h1]
   rw[e1,h1]
   exact AH.slice (L:=⟨b,off,0,0⟩) (by rw[YL (hpi i x hx),e2]) h3
 have hR:=Gz h (ps:=ps) (fun p hp=>by
  rcases List.mem_append.1 hp with hp | hp
  ·obtain⟨x,hx,rfl⟩:=List.mem_map.1 hp
   rcases hq x hx with⟨h0,_⟩ | ⟨h0,b,off,cap,CS,ty,fr,h1,h2,h3,h4,h5⟩
   ·have e0:KA x=⟨Z0,0,5,[],[],46⟩:=by unfold KA;rw[if_pos (by rw[h0];rfl)]
    rw[e0]
    exact⟨⟨rfl,.inl ⟨rfl,rfl⟩⟩,rfl,fun k v V hk=>by cases hk⟩
   ·have e0:KA x=⟨x.1,x.2.length,5,x.2.flatMap AI,x.2.flatMap AI,46⟩:=by unfold KA;rw[if_neg (by omega)]
    rw[e0]
    refine⟨⟨JL _,.inr ⟨b,off,cap,CS,ty,fr,h1,h2,h3,h4,h5⟩⟩,rfl,fun k v V hk hV=>?_⟩
    have:v=V:=by
     have h9:=hk.symm.trans hV
     exact Option.some.inj h9
    subst this
    obtain⟨r,_,hr⟩:=List.mem_flatMap.1 (List.mem_of_getElem? hk)
    obtain⟨j,hj⟩:=List.getElem?_of_mem hr
    exact .flat (Y9 hj)
  ·simp only[List.mem_cons,List.not_mem_nil,or_false] at hp
   rcases hp with rfl | rfl
   ·refine⟨hv,by rw[List.length_map];exact hSl,fun k sv V hk hV=>?_⟩
    obtain⟨x,hx,rfl⟩:∃ x,L[k]?=some x∧x.1=V:=by
     have:(L.map (·.1))[k]?=some V:=hV
     rw[List.getElem?_map] at this
     cases hx:L[k]? with
     | none=>rw[hx] at this;cases this
     | some x=>rw[hx] at this;exact⟨x,rfl,Option.some.inj this⟩
    have e:=(hS k x hx).symm.trans hk
    cases e
    exact hin k x hx
   ·refine⟨hw,rfl,fun k v V hk hV=>?_⟩
    have:v=V:=by
     have h9:=hk.symm.trans hV
     exact Option.some.inj h9
    subst this
    obtain⟨r,_,rfl⟩:=List.mem_map.1 (List.mem_of_getElem? hk)
    exact .flat rfl)
 obtain⟨r1,r2,r3,r4,r5,r6⟩:=hR
 obtain⟨a0,b0⟩:=r6 _ _ hso
 obtain⟨a1,b1⟩:=r6 _ _ hsw
 refine⟨_,_,_,_,S,r1,r2,a0,a1,hSl,fun i sx x h1 h2=>?_,b0,b1,r4,r5,by omega⟩
 have e:=(hS i x h2).symm.trans h1
 cases e
 rcases hq x (List.mem_of_getElem? h2) with⟨h0,h3 | ⟨a,c,h3⟩⟩ | ⟨h0,b,off,cap,CS,ty,fr,h3,_⟩
 ·unfold OH
  rw[if_pos (by rw[h0];rfl),h3,h0]
  exact⟨none,0,rfl,.inl ⟨rfl,rfl⟩⟩
 ·unfold OH
  rw[if_pos (by rw[h0];rfl),h3,h0]
  exact⟨some ⟨0,0,none⟩,AM,rfl,.inr ⟨0,0,_,_,_,_,rfl,r5,by omega,fun k r hk=>by simp at hk⟩⟩
 ·have e0:KA x=⟨x.1,x.2.length,5,x.2.flatMap AI,x.2.flatMap AI,46⟩:=by unfold KA;rw[if_neg (by omega)]
  have b2:=(r6 _ _ (hpi i x h2)).2
  unfold OH
  rw[if_neg (by omega)]
  rw[e0] at b2 ⊢
  exact(IA.of b2).1
end Go.Proofs.YtipekdhneagdbaaDoor
namespace Go.Proofs.YtipekdhneagdbaaDoor
open Go Go.Sx
set_option maxRecDepth 100000
set_option linter.unusedSimpArgs false
set_option linter.unusedVariables false
set_option maxHeartbeats 64000000
noncomputable def tN:Array Oper:=DR Tryd.f12 12
def Lg:List (Bool × Bool × List Operand):=[AW,AW,CZ [.tmp 7],AL,AL,AL,AL,AL,CZ [.tmp 7,.tmp 10],CZ [.tmp 7,.tmp 10],AL,AL]
theorem Hf:DU tN=Lg:=by kernel_rfl
theorem Lk:BN Tryd.prog 22=some 1:=by kernel_rfl
theorem Ch {lo:Nat} {h:AA} {v:Value} {n:Nat} {cs:List Value} {t e:TypeId} (hc:A7 lo h v n 1 cs) (ht:Tryd.prog.underlying t=some (.slice e)) (he:BN Tryd.prog e=some 1) {i:Nat} {x:Value} (hx:cs[i]?=some x) :
  ∃ id p,CO Tryd.prog t v (iv (i:Int))=some (qP id p)∧id<h.next∧AO p (h.get id)=some x:=by
 have hi:i<n:=by
  have:=(List.getElem?_eq_some_iff.1 hx).1
  have:=hc.1
  omega
 obtain⟨id,p,h1,h2,h3⟩:=A7.idx hc ht he hi
 refine⟨id,p,h1,h2,?_⟩
 have:=h3 0 (by decide)
 rw[Nat.add_zero] at this
 rw[this,Nat.mul_one,Nat.add_zero,hx]
theorem Ix {e a c d:Int} {x y:Operand}:CJ Tryd.prog .neq 33 x y (EN e a) (EN c d)=some (.bool (!(e==c&&a==d))):=by
 have e9:BE Tryd.prog (do eqGuard .neq 33 x y (EC e a) (EC c d);binOp .neq 33 (EC e a) (EC c d))=some (.bool (!(e==c&&a==d))):=by
  rw[CY]
  have g:BE Tryd.prog (eqGuard .neq 33 x y (EC e a) (EC c d))=some ():=by
   unfold eqGuard
   simp[CY,LR,IF,Sf]
  rw[g]
  show BE Tryd.prog ((do pure (.bool (!(← Op.equal 33 (EC e a) (EC c d))))):Sem Value)=_
  rw[CY]
  have k:BE Tryd.prog (Op.equal 33 (EC e a) (EC c d))=some (e==c&&a==d):=qH 9998
  rw[k]
  rfl
 have e2:CJ Tryd.prog .neq 33 x y (EC e a) (EC c d)=some (.bool (!(e==c&&a==d))):=by simp only[CJ,dA,Bool.and_self,if_true,e9,KX]
 exact e2
theorem Pn {e a:Int} {x y:Operand}:CJ Tryd.prog .neq 33 x y (EN e a) (EN e a)=some (.bool false):=by
 rw[Ix]
 simp
theorem Bv {H:AA} {cv:Value} {c:HJ} {lo:Nat} {e p:Int} (hc:IP lo H cv c) (hf:H.floor≤H.next) :
  ∃ H':AA × AA,BH Tryd.prog ((H.push (.row [Z0,iv 0] 65 false false)).push (.row [iv 0,iv 0] 33 false false)) 65 (qP H.next 0) cv=some (H'.1)∧BH Tryd.prog H'.1 33 (qP (H.next+1) 0) (EN e p)=some H'.2∧H'.1.floor=H.floor ∧
   BL 2 0 (H'.2.get H.next)=some cv∧BL 2 0 (H'.2.get (H.next+1))=some (EN e p)∧H'.2.next=H.next+2∧H'.2.floor=H.floor∧∀ i,i<H.next→H'.2.get i=H.get i:=by
 obtain⟨vo,rfl,ho,_⟩:=hc.ints
 have ga:=MM (h:=H) (o:=.row [Z0,iv 0] 65 false false) (o':=.row [iv 0,iv 0] 33 false false)
 have gb:=MN (h:=H) (o:=.row [Z0,iv 0] 65 false false) (o':=.row [iv 0,iv 0] 33 false false)
 have gold:∀ i,i<H.next→((H.push (.row [Z0,iv 0] 65 false false)).push (.row [iv 0,iv 0] 33 false false)).get i=H.get i:=fun i hi=>by rw[AP (by show i<H.next+1;omega),AP hi]
 have hnx:((H.push (.row [Z0,iv 0] 65 false false)).push (.row [iv 0,iv 0] 33 false false)).next=H.next+2:=rfl
 have hfx:((H.push (.row [Z0,iv 0] 65 false false)).push (.row [iv 0,iv 0] 33 false false)).floor=H.floor:=rfl
 generalize (H.push (.row [Z0,iv 0] 65 false false)).push (.row [iv 0,iv 0] 33 false false)=G at *
 have a1:=GY (t:=65) MY (vs:=[vo,iv c.miss]) ga rfl rfl (by simp only[List.all_cons,List.all_nil,ho,JY,Bool.and_self]) (by omega)
 have g3':(G.put H.next (.row [vo,iv c.miss] 65 false false)).get (H.next+1)=.row [iv 0,iv 0] 33 false false:=by rw[AK (by omega) (by omega)];exact gb
 have a2:=GY (t:=33) MF (vs:=[iv e,iv p]) g3' rfl rfl rfl (by show G.floor≤_;omega)
 refine⟨⟨_,_⟩,a1,a2,hfx,?_,?_,hnx,hfx,fun i hi=>?_⟩
 ·show BL 2 0 (((G.put _ _).put _ _).get _)=_
  rw[AK (by show H.next+1<G.next;omega) (by omega),BI rfl (by omega)]
  rfl
 ·show BL 2 0 (((G.put _ _).put _ _).get _)=_
  rw[BI rfl (by show H.next+1<G.next;omega)]
  rfl
 ·show ((G.put _ _).put _ _).get i=_
  rw[AK (by show H.next+1<G.next;omega) (by omega),AK (by omega) (by omega),gold i hi]
theorem tL {P:Program} {call:AT} {n:Nat} {c:Code} {s:St} {k:B7} {Q:DK→St→Prop} (h1:WK P call n c s (.top Q)) (h2:∀ e s',Q e s'→k.ap P call n e s'):WK P call n c s k:=WS.mono h1 fun e s' g=>h2 e s' g
theorem Qz {t:TypeId} {k:Nat} (ht:BN Tryd.prog t=some k) {H:AA} {vs zs:List Value} (hz:zs.length=k) (hl:vs.length=k) (ho:vs.all one=true) (hf:H.floor≤H.next) :
  ∃ H',BH Tryd.prog (H.push (.row zs t false false)) t (qP H.next 0) (.agg vs.toArray)=some H'∧H'.get H.next=.row vs t false false∧H'.next=H.next+1∧H'.floor=H.floor∧∀ i,i<H.next→H'.get i=H.get i:=
 ⟨_,GY ht (BO (h:=H)) hz hl ho hf,BI rfl (by show H.next<H.next+1;omega),rfl,rfl,fun i hi=>by rw[AK (by show H.next<H.next+1;omega) (by omega),AP hi]⟩
section
variable {n:Nat} {h:AA}
theorem Nu {L:List (Value × List AE)} {S:List Value} {v w:Value} {A:List Int} (hv:A7 0 h v L.length 1 S) (hSl:S.length=L.length) (hS:∀ (i:Nat) sx x,S[i]?=some sx→L[i]?=some x→AU h sx x.2) (h64:∀ x∈L,∀ r∈x.2,r.kids≤9223372036854775807) (hw:AN 0 h w A) (hfl:h.floor≤h.next) (hg:h.get 0=ED) (hn0:0<h.next) (hn:9000000<n) :
  ∃ h',A9 Tryd.prog (RQ n) n 12 [v,w] h=some (.bool true,h')∧True:=by
 have hsn:=(eT n).2
 refine FB (R:=fun _=>True) Tryd.func12 rfl (by simp[Tryd.f12]) ?_
 have hr:Tryd.f12.results.toList=[.tmp 4]:=rfl
 have KV:∀ h':AA,BZ Tryd.prog h' 59 v=some (iv (L.length:Int)):=fun h'=>A7.len hv UY
 have zcY:=F7 [Z0,Z0,Z0]
 have zcC:(cV (Z0) 0).cells.toList=[Z0,iv 0]:=rfl
 simp only[eE,seval,↓eP]
 refine tL (Q:=fun e s'=>e=.exit 0∧h.next≤s'.h.next∧s'.h.floor=h.floor∧(∀ j,j<h.next→s'.h.get j=h.get j)∧∃ K c kv,s'.T.get 5=kv∧GC 65 s'.h h.next kv K.length (JC K)∧GM h.next s'.h K c∧K.length≤18∧∀ e∈K,e.2.1≤1000) ?_ ?_
 rotate_left
 ·rintro e ⟨T,H⟩ ⟨rfl,nH,fH,oH,K,c,kv,t5,hGr,hOw,hK18,hKe⟩
  simp only at nH fH oH t5 hGr hOw
  have lenK:=zA hGr
  have hlt:∀ {j:Nat} {e:G7},K[j]?=some e→e.2.1≤1000:=fun he=>hKe _ (List.mem_of_getElem? he)
  simp only[eE,seval,↓eP,t5]
  refine tL (Q:=fun e s'=>e=.exit 4∧s'.T.get 5=kv∧h.next≤s'.h.next∧s'.h.floor=h.floor∧(∀ j,j<h.next→s'.h.get j=h.get j)∧GC 65 s'.h h.next kv K.length (JC K)∧∃ c',GM h.next s'.h K c'∧∀ (j:Nat) (e:G7),K[j]?=some e→∀ q,q<e.2.1→(c' j)[q]?=some ((1000*j+q:Nat):Int)) ?_ ?_
  rotate_left
  ·rintro e ⟨T2,X⟩ ⟨rfl,t5,nX,fX,oX,hGr,c',hOw,hval⟩
   simp only at t5 nX fX oX hGr hOw
   simp only[eE,seval,↓eP,t5]
   refine WK.loop (fun p s'=>s'.T.get 5=kv∧s'.T.get 18=iv (p:Int)∧p≤K.length∧s'.h=X) K.length (by omega) ?_ ?_
   ·exact⟨by simp only[eE,seval,↓eP,rP,t5],by simp only[eE,seval,↓eP,rP] <;> rfl,by omega,rfl⟩
   rintro p ⟨T3,X3⟩ hp9 ⟨t5,t18,hp,hh⟩
   simp only at t5 t18 hh
   subst hh
   have w1:=C6 p (by omega)
   by_cases hpl:p<K.length
   rotate_left
   ·have c1:decide ((p:Int)<(K.length:Int))=false:=by simp;omega
    have hhd:=w_ (n:=n) (h:=X3) (by rw[oX 0 hn0];exact hg)
    simp only[eE,seval,↓eP,hr,t5,t18,lenK,c1,hhd]
   have c1:decide ((p:Int)<(K.length:Int))=true:=by simp;omega
   obtain⟨e,he⟩:∃ e,K[p]?=some e:=⟨_,List.getElem?_eq_getElem hpl⟩
   obtain⟨idk,ei,lo⟩:=hGr.on he
   have P_:=nI hOw he
   have hel:=hlt he
   simp only[eE,seval,↓eP,t5,t18,lenK,c1]
   refine WK.loop (fun q s'=>s'.T.get 5=kv∧s'.T.get 18=iv (p:Int)∧s'.T.get 19=iv (q:Int)∧q≤e.2.1∧s'.h=X3) e.2.1 (by omega) ?_ ?_
   ·exact⟨by simp only[eE,seval,↓eP,rP,t5],by simp only[eE,seval,↓eP,rP,t18],by simp only[eE,seval,↓eP,rP] <;> rfl,by omega,rfl⟩
   rintro q ⟨T4,X4⟩ hq9 ⟨t5,t18,t19,hq,hh⟩
   simp only at t5 t18 t19 hh
   subst hh
   have w2:=C6 q (by omega)
   by_cases hql:q<e.2.1
   ·have c2:decide ((q:Int)<(e.2.1:Int))=true:=by simp;omega
    obtain⟨idv,pv,ej,lj⟩:=hOw.rd he hql (hval p e he q hql)
    have wm:IntKind.i64.wrap (1000*(p:Int))=((1000*p:Nat):Int):=by rw[B0 (by omega) (by omega)];omega
    have wa:IntKind.i64.wrap (((1000*p:Nat):Int)+(q:Int))=((1000*p+q:Nat):Int):=by rw[B0 (by omega) (by omega)];omega
    simp only[eE,seval,↓eP,t5,t18,t19,ei,RE,CC,lo,P_,c2,ej,A_,lj,wm,wa,bne_self_eq_false,w2]
    exact⟨hql,by omega⟩
   ·have c2:decide ((q:Int)<(e.2.1:Int))=false:=by simp;omega
    simp only[eE,seval,↓eP,t5,t18,t19,ei,RE,CC,lo,P_,c2,w1]
    exact⟨hpl,by omega⟩
  refine WK.loop (fun p s'=>s'.T.get 5=kv∧s'.T.get 15=iv (p:Int)∧p≤K.length∧h.next≤s'.h.next∧s'.h.floor=h.floor∧(∀ j,j<h.next→s'.h.get j=h.get j)∧GC 65 s'.h h.next kv K.length (JC K)∧∃ c',GM h.next s'.h K c'∧∀ (j:Nat) (e:G7),j<p→K[j]?=some e→∀ q,q<e.2.1→(c' j)[q]?=some ((1000*j+q:Nat):Int)) K.length (by omega) ?_ ?_
  ·exact⟨by simp only[eE,seval,↓eP,rP,t5],by simp only[eE,seval,↓eP,rP] <;> rfl,by omega,nH,fH,oH,hGr,c,hOw,fun j e hj=>absurd hj (by omega)⟩
  clear hGr hOw nH fH oH t5
  rintro p ⟨T3,X3⟩ hp9 ⟨t5,t15,hp,nX,fX,oX,hGr,c',hOw,hval⟩
  simp only at t5 t15 nX fX oX hGr hOw
  have w1:=C6 p (by omega)
  by_cases hpl:p<K.length
  rotate_left
  ·have c1:decide ((p:Int)<(K.length:Int))=false:=by simp;omega
   simp only[eE,seval,↓eP,t5,t15,lenK,c1]
   exact⟨nX,fX,oX,hGr,c',hOw,fun j e hj=>hval j e (by have:=(List.getElem?_eq_some_iff.1 hj).1;omega) hj⟩
  have c1:decide ((p:Int)<(K.length:Int))=true:=by simp;omega
  obtain⟨e,he⟩:∃ e,K[p]?=some e:=⟨_,List.getElem?_eq_getElem hpl⟩
  have hel:=hlt he
  have wm:IntKind.i64.wrap (1000*(p:Int))=((1000*p:Nat):Int):=by rw[B0 (by omega) (by omega)];omega
  simp only[eE,seval,↓eP,t5,t15,lenK,c1]
  refine WK.loop (fun q s'=>s'.T.get 5=kv∧s'.T.get 15=iv (p:Int)∧s'.T.get 16=iv (q:Int)∧q≤e.2.1∧h.next≤s'.h.next∧s'.h.floor=h.floor∧(∀ j,j<h.next→s'.h.get j=h.get j)∧GC 65 s'.h h.next kv K.length (JC K)∧∃ c',GM h.next s'.h K c'∧(∀ (j:Nat) (e:G7),j<p→K[j]?=some e→∀ q,q<e.2.1→(c' j)[q]?=some ((1000*j+q:Nat):Int))∧∀ q',q'<q→(c' p)[q']?=some ((1000*p+q':Nat):Int)) e.2.1 (by omega) ?_ ?_
  ·exact⟨by simp only[eE,seval,↓eP,rP,t5],by simp only[eE,seval,↓eP,rP,t15],by simp only[eE,seval,↓eP,rP] <;> rfl,by omega,nX,fX,oX,hGr,c',hOw,hval,fun q' hq'=>absurd hq' (by omega)⟩
  clear hGr hOw nX fX oX t5 t15 hval c'
  rintro q ⟨T4,X4⟩ hq9 ⟨t5,t15,t16,hq,nX,fX,oX,hGr,c',hOw,hval,hvp⟩
  simp only at t5 t15 t16 nX fX oX hGr hOw
  obtain⟨idk,ei,lo⟩:=hGr.on he
  have P_:=nI hOw he
  have w2:=C6 q (by omega)
  by_cases hql:q<e.2.1
  ·have c2:decide ((q:Int)<(e.2.1:Int))=true:=by simp;omega
   have wa:IntKind.i64.wrap (((1000*p:Nat):Int)+(q:Int))=((1000*p+q:Nat):Int):=by rw[B0 (by omega) (by omega)];omega
   obtain⟨ad,X5,ej,st,hOw5,n5,f5,o5⟩:=hOw.wr (by omega) he hql ((1000*p+q:Nat):Int)
   have hcl:=(hOw.at_ p e he).1
   simp only[eE,seval,↓eP,t5,t15,t16,ei,RE,CC,lo,P_,c2,ej,wm,wa,st,w2]
   refine⟨hql,by omega,by omega,by omega,fun j hj=>by rw[o5 j (.inl hj),oX j hj],hGr.mono (by omega) fun j _ hj _=>o5 j (.inr ?_),_,hOw5,fun j e' hj he' z hz=>?_,fun z hz=>?_⟩
   ·rintro ⟨cs,h9⟩
    obtain⟨cs',g',h8⟩:=hj
    rw[h8] at h9
    cases h9
   ·simp only[if_neg (show ¬ j=p by omega)]
    exact hval j e' hj he' z hz
   ·simp only[if_true]
    rw[List.getElem?_set]
    by_cases hzq:q=z
    ·subst hzq
     rw[if_pos rfl,if_pos (by omega)]
    ·rw[if_neg hzq]
     exact hvp z (by omega)
  ·have c2:decide ((q:Int)<(e.2.1:Int))=false:=by simp;omega
   obtain⟨d,X5,ap,f5,n5,o5⟩:=hOw.app3 he (by omega) (-5) (-6) (-7)
   have ei5:AO (p*2) (X5.get idk)=some (GG e):=by
    obtain⟨idk2,ei2,lo2⟩:=(hGr.mono n5 fun j hj _ _=>o5 j hj).on he
    rw[ei] at ei2
    cases ei2
    exact lo2
   have w3:IntKind.i64.wrap ((e.2.1:Int)+3)=((e.2.1+3:Nat):Int):=B0 (by omega) (by omega)
   simp only[eE,seval,↓eP,t5,t15,t16,ei,RE,CC,lo,P_,c2,dY,ap,Rn,ei5,w3,bne_self_eq_false,w1]
   refine⟨hpl,by omega,by omega,by omega,fun j hj=>by rw[o5 j (by omega),oX j hj],hGr.mono n5 fun j hj _ _=>o5 j hj,c',hOw.mono n5 fun j _ hj _=>o5 j hj,fun j e' hj he' z hz=>?_⟩
   by_cases hjp:j=p
   ·subst hjp
    rw[he] at he'
    cases he'
    exact hvp z (by omega)
   ·exact hval j e' (by omega) he' z hz
 refine WK.loop (fun i s'=>s'.T.get 0=v∧s'.T.get 1=w∧s'.T.get 6=iv (i:Int)∧i≤9∧h.next≤s'.h.next∧s'.h.floor=h.floor∧(∀ j,j<h.next→s'.h.get j=h.get j)∧∃ K c kv,s'.T.get 5=kv∧GC 65 s'.h h.next kv K.length (JC K)∧GM h.next s'.h K c∧K.length≤2*i∧∀ e∈K,e.2.1≤1000) 9 (by omega) ?_ ?_
 ·exact⟨by simp only[eE,seval,↓eP,rP],by simp only[eE,seval,↓eP,rP],by simp only[eE,seval,↓eP,rP] <;> rfl,by omega,Nat.le_refl _,rfl,fun _ _=>rfl,[],fun _=>[],Z0,by simp only[eE,seval,↓eP,rP],.inl ⟨rfl,rfl,rfl⟩,GM.nil,Nat.zero_le _,fun e he=>by cases he⟩
 rintro i ⟨T,H⟩ hi9 ⟨t0,t1,t6,hi,nH,fH,oH,K,c,kv,t5,hGr,hOw,hKl,hKe⟩
 simp only at t0 t1 t6 nH fH oH t5 hGr hOw
 have w9:=C6 i (by omega)
 by_cases hgo:i<L.length∧i<9
 ·obtain⟨hiL,hi8⟩:=hgo
  have c1:decide ((i:Int)<(L.length:Int))=true:=by simp;omega
  have c2:decide ((i:Int)<9)=true:=by simp;omega
  obtain⟨x,hx⟩:∃ x,L[i]?=some x:=⟨_,List.getElem?_eq_getElem hiL⟩
  obtain⟨sx,hsx⟩:∃ sx,S[i]?=some sx:=⟨_,List.getElem?_eq_getElem (by omega)⟩
  have hrow:=hS i sx x hsx hx
  have h64x:=h64 x (List.mem_of_getElem? hx)
  generalize hxl:x.2=l at *
  obtain⟨ia,pa,ea,hia,la⟩:=Ch hv UY Lk hsx
  have laH:AO pa (H.get ia)=some sx:=by rw[oH ia hia];exact la
  have lenx:∀ h':AA,BZ Tryd.prog h' 22 sx=some (iv (l.length:Int)):=fun h'=>hrow.len
  cases d6:decide ((l.length:Int)>600) with
  | true=>
   simp only[eE,seval,↓eP,t0,t1,t5,t6,KV,c1,c2,ea,CI,laH,lenx,d6,w9]
   exact⟨hi8,by omega,nH,fH,oH,K,c,hGr,hOw,by omega,hKe⟩
  | false=>
  have hl:l.length≤600:=by
   have:=of_decide_eq_false d6
   omega
  obtain⟨v2,h2,hres,pv,rfl,hp,f2,n2,o2⟩:=oR (n:=n) (h:=H) (by omega) (hrow.mono nH oH) (by omega) h64x (by omega)
  have hres':=Q0 (n:=n) (by decide) hres
  obtain⟨nm,s,hout⟩:∃ nm s,C9 l=(nm,s):=⟨_,_,rfl⟩
  have hsm:=(oU (l:=l) (by omega)).1
  have htot:=(oU (l:=l) (by omega)).2
  rw[hout] at hp hsm htot
  simp only at hp hsm htot
  obtain⟨vr,vq,vv,vt,vu,vo,rfl,p1,p2,p3,p4,p5,p6⟩:=id hp
  have oa:=MJ (nm:=nm) p1 p2 p3 p4 p5 p6
  obtain⟨⟨hc9,h3⟩,s1,s2,rO,n3,f3,o3⟩:=eN (H:=h2) (cs:=[.string nm,vr,vq,vv,vt,vu,vo,iv s.miss]) (e:=(A8 l).1.1) (p:=(A8 l).1.2) rfl oa (by omega)
  simp only at s1 s2 rO n3 f3 o3
  have lF:AO 0 (h3.get (h2.next+1))=some (iv (A8 l).1.1):=by rw[rO.2];rfl
  have o3H:∀ j,j<H.next→h3.get j=H.get j:=fun j hj=>by rw[o3 j (by omega),o2 j hj]
  have o3h:∀ j,j<h.next→h3.get j=h.get j:=fun j hj=>by rw[o3H j (by omega),oH j hj]
  have hGr3:=hGr.mono (h':=h3) (by omega) fun j hj _ _=>o3H j hj
  have hOw3:=hOw.mono (H':=h3) (by omega) fun j _ hj _=>o3H j hj
  cases d0:((A8 l).1.1 != 0) with
  | true=>
   simp only[eE,seval,↓eP,t0,t1,t5,t6,KV,c1,c2,ea,CI,laH,lenx,d6,hres',L_,MD,NS,HU,HT,ME,C7,s1,s2,Nat.zero_add,I6,IX,lF,d0,w9]
   exact⟨hi8,by omega,by omega,by omega,o3h,K,c,hGr3,hOw3,by omega,hKe⟩
  | false=>
  simp only[eE,seval,↓eP,t0,t1,t5,t6,KV,c1,c2,ea,CI,laH,lenx,d6,hres',L_,MD,NS,HU,HT,ME,C7,s1,s2,Nat.zero_add,I6,IX,lF,d0]
  have hok:(A8 l).1.1=0:=by simpa using d0
  have hgood:=hout.symm.trans (UB hok)
  obtain⟨rfl,rfl⟩:nm=HQ l∧s=(A8 l).2:=by cases hgood;exact⟨rfl,rfl⟩
  obtain⟨_,_,_,_,_,hiv⟩:=KR hok
  have hlen:=hiv.len
  have hkid:=c_ hiv
  generalize hs:(A8 l).2=s at *
  generalize hnm:HQ l=nm at *
  have k64:∀ x∈s.rows,x.kids≤9223372036854775807:=fun x hx=>by
   obtain⟨i,hix⟩:=List.getElem?_of_mem hx
   have hil:=(List.getElem?_eq_some_iff.1 hix).1
   have hy:=List.getElem?_eq_getElem (show i<l.length by omega)
   obtain⟨y,g1,g2⟩:=hkid.2 i _ hy
   rw[hix] at g1
   cases g1
   rw[g2]
   exact h64x _ (List.getElem_mem _)
  have hp3:DJ H.next h3 (.agg #[.string nm,vr,vq,vv,vt,vu,vo,iv s.miss]) nm s:=hp.mono (by omega) fun i _ hi=>o3 i hi
  have lP3:BL 8 0 (h3.get h2.next)=some (.agg #[.string nm,vr,vq,vv,vt,vu,vo,iv s.miss]):=NO rO.1 rfl
  have hqs:s.queues.length≤900:=by unfold F8 at htot;omega
  refine WK.loop (fun k s'=>s'.T.get 0=v∧s'.T.get 1=w∧s'.T.get 6=iv (i:Int)∧s'.T.get 7=qP h2.next 0∧s'.T.get 9=iv (k:Int)∧k≤2∧h3.next≤s'.h.next∧s'.h.floor=h.floor∧(∀ j,j<h.next→s'.h.get j=h.get j)∧(∀ j,H.next≤j→j<h3.next→s'.h.get j=h3.get j)∧∃ K c kv,s'.T.get 5=kv∧GC 65 s'.h h.next kv K.length (JC K)∧GM h.next s'.h K c∧K.length≤2*i+k∧(∀ e∈K,e.2.1≤1000)∧∀ j,H.next≤j→j<h3.next→∀ m c,kv≠qS j m c) 2 (by omega) ?_ ?_
  ·exact⟨by simp only[eE,seval,↓eP,rP,t0],by simp only[eE,seval,↓eP,rP,t1],by simp only[eE,seval,↓eP,rP,t6],by simp only[eE,seval,↓eP,rP],by simp only[eE,seval,↓eP,rP] <;> rfl,by omega,Nat.le_refl _,by show h3.floor=_;omega,o3h,fun _ _ _=>rfl,K,c,kv,by simp only[eE,seval,↓eP,rP,t5],hGr3,hOw3,by omega,hKe,fun j hj _=>hGr.above hj⟩
  clear hGr3 hOw3 hOw hGr t5 hKe hKl t0 t1 t6
  rintro k ⟨T2,X⟩ hk9 ⟨t0,t1,t6,t7,t9,hk,nX,fX,oX,oX3,K2,c2',kv2,t5,hGr,hOw,hKl,hKe,hap⟩
  simp only at t0 t1 t6 t7 t9 nX fX oX oX3 t5 hGr hOw hap
  by_cases hk2:k<2
  rotate_left
  ·have d2:decide ((k:Int)<2)=false:=by simp;omega
   simp only[eE,seval,↓eP,t0,t1,t5,t6,t7,t9,d2,w9]
   exact⟨hi8,by omega,by omega,fX,oX,K2,c2',hGr,hOw,by omega,hKe⟩
  have d2:decide ((k:Int)<2)=true:=by simp;omega
  have w8:=C6 k (by omega)
  have lPX:BL 8 0 (X.get h2.next)=some (.agg #[.string nm,vr,vq,vv,vt,vu,vo,iv s.miss]):=by rw[oX3 _ (by omega) (by omega)];exact lP3
  have hpX:DJ H.next X (.agg #[.string nm,vr,vq,vv,vt,vu,vo,iv s.miss]) nm s:=hp3.mono nX fun j a b=>oX3 j a b
  have hwX:AN 0 X w A:=AN.mono hw (by omega) fun j _ hj=>oX j hj
  obtain⟨vy,G1,hrn,rd,id9,hrd,rfl,hty,f4,n4,o4⟩:=Db (n:=n) (h:=X) hpX hwX (by omega) (by omega) (by omega)
  have hrn':=Q0 (n:=n) (by decide) hrn
  obtain⟨G2,stY,gY,nG2,fG2,oG2⟩:=Qz (t:=70) NT (H:=G1) (zs:=[Z0,Z0,Z0]) (vs:=[Z0,Z0,qS id9 s.rows.length s.rows.length]) rfl rfl rfl (by omega)
  have oG2X:∀ j,j<X.next→G2.get j=X.get j:=fun j hj=>by rw[oG2 j (by omega),o4 j hj]
  have lY:BL 3 0 (G2.get G1.next)=some (.agg #[Z0,Z0,qS id9 s.rows.length s.rows.length]):=by rw[gY];rfl
  have hty2:L7 X.next G2 (.agg #[Z0,Z0,qS id9 s.rows.length s.rows.length]) [] [] rd:=hty.mono (by omega) fun j _ hj=>oG2 j hj
  generalize hTY:(Value.agg #[Z0,Z0,qS id9 s.rows.length s.rows.length])=TY at *
  have stY':=stY
  have lPG:BL 8 0 (G2.get h2.next)=some (.agg #[.string nm,vr,vq,vv,vt,vu,vo,iv s.miss]):=by rw[oG2X _ (by omega)];exact lPX
  obtain⟨v1,Q1,hld,⟨o7,hL7⟩,nQ1,fQ1,oQ1⟩:=Nw (n:=n) (h:=G2.fl (max G2.floor G2.next)) (s:=s) (nm:=nm) (pv:=(.agg #[.string nm,vr,vq,vv,vt,vu,vo,iv s.miss])) (lo:=H.next) (hpX.mono (by rw[CL];omega) fun j _ hj=>by rw[FX];exact oG2X j hj) hsm (by omega) (by unfold F8 at htot;omega) (by rw[CL,CA];omega) (by omega)
  simp only[CL,CA] at nQ1 fQ1 oQ1
  have oQ1:∀ j,j<G2.next→Q1.get j=G2.get j:=oQ1
  have hld':=Q0 (n:=n) (by decide) hld
  obtain⟨v3,Q2,hld2,⟨o10,hL10⟩,nQ2,fQ2,oQ2⟩:=Qt (n:=n) (h:=Q1.fl G2.floor) (tv:=TY) (W:=[]) (G:=[]) (rd:=rd) (lo:=X.next) (hty2.mono (by rw[CL];omega) fun j _ hj=>by rw[FX];exact oQ1 j hj) (by simp) (by simp) (by omega) (by rw[CL,CA];omega) (by omega)
  simp only[CL,CA,FX] at nQ2 fQ2 oQ2
  have hld2':=Q0 (n:=n) (by decide) hld2
  have hL7':=hL7.mono (h':=Q2.fl G2.floor) (by rw[CL];omega) fun j hj=>by rw[FX];exact oQ2 j hj
  have hL10':=hL10.mono (h':=Q2.fl G2.floor) (by rw[CL];exact Nat.le_refl _) fun _ _ _=>rfl
  obtain⟨w5,Q3,hc5,cv,rfl,hcv,f5,n5,o5⟩:=Qi (n:=n) (h:=Q2.fl G2.floor) hL7'.pol hL7'.lies hL10'.typ hsm (by omega) (by omega) (by rw[CL,CA];omega) (by rw[FX,oQ2 0 (by omega),oQ1 0 (by omega),oG2X 0 (by omega),oX 0 hn0];exact hg) (by rw[CL];omega) (by omega)
  simp only[CL,CA,FX] at hcv f5 n5 o5
  have hc5':=Q0 (n:=n) (by decide) hc5
  obtain⟨⟨ha6,h6⟩,s3,s4,f6a,la1,la2,n6,f6,o6⟩:=Bv (H:=Q3.fl G2.floor) (e:=(DW nm s rd).1.1) (p:=(DW nm s rd).1.2) (lo:=Q2.next) (hcv.mono (h':=Q3.fl G2.floor) (by rw[CL];exact Nat.le_refl _) fun _ _ _=>rfl) (by rw[CL,CA];omega)
  simp only[CL,CA,FX] at s3 s4 f6a la1 la2 n6 f6 o6
  have e6:ha6.fl G2.floor=ha6:=by
   rw[← f6a]
   rfl
  have e7:h6.fl ha6.floor=h6:=by
   rw[f6a,← f6]
   rfl
  have hqa:(h2.next<G2.next)=True:=by simp;omega
  have hqb:(G1.next<G2.next)=True:=by simp;omega
  have lYQ:BL 3 0 (Q1.get G1.next)=some TY:=by rw[oQ1 _ (by omega)];exact lY
  simp only[eE,seval,↓eP,t0,t1,t5,t6,t7,t9,d2,Nat.zero_add,GX,lPX,hrn',QJ,QM,zcY,C7,stY']
  refine WK.flags (ops:=tN) Hf ?_
  refine BQ.begin ?_
  have FF:=aQ @S4 (aQ @t0 (aQ @t1 (aQ @t5 (aQ @t6 (aQ @t7 (aQ @GX (aQ @lPG (aQ @hld' (aQ @RS (aQ @lYQ (aQ @hld2' (aQ @hc5' (aQ @N8 (aQ @zcC (aQ @HU (aQ @HT (aQ @ME (aQ @hqa (aQ @hqb (aQ @s3 (aQ @e6 (aQ @s4 (aQ @e7 (aQ @CA (aQ @FX (aQ @CL (aQ @DB @NV)))))))))))))))))))))))))))
  refine AF hsn 0 (some 55) (.load 30 (.tmp 7)) none ?_
  simp only[rG,seval,AB,AD,AC,BU,t9,Nat.zero_add,IG,decide_true,FF]
  refine AF hsn 1 (some 56) (.call { callee:=.value (.func 21),args:=#[.tmp 55],argTypes:=#[30] }) none ?_
  simp only[rG,seval,AB,AD,AC,CF,t9,Nat.zero_add,IG,decide_true,FF]
  refine AF hsn 2 (some 57) (.load 70 (.tmp 10)) none ?_
  simp only[rG,seval,AB,AD,AC,BU,t9,Nat.zero_add,IG,decide_true,FF]
  refine AF hsn 3 (some 58) (.call { callee:=.value (.func 44),args:=#[.tmp 57],argTypes:=#[70] }) none ?_
  simp only[rG,seval,AB,AD,AC,CF,t9,Nat.zero_add,IG,decide_true,FF]
  refine AF hsn 4 (some 59) (.call { callee:=.value (.func 41),args:=#[.tmp 56,.tmp 58],argTypes:=#[30,70] }) none ?_
  simp only[rG,seval,AB,AD,AC,CF,t9,Nat.zero_add,IG,decide_true,FF]
  refine AF hsn 5 (some 54) (.move (.tmp 59)) none ?_
  simp only[rG,seval,AB,AD,AC,t9,Nat.zero_add,IG,decide_true,FF]
  refine AF hsn 6 (some 60) (.extract (.tmp 54) 0) none ?_
  simp only[rG,seval,AB,AD,AC,t9,Nat.zero_add,IG,decide_true,FF]
  refine AF hsn 7 (some 61) (.extract (.tmp 54) 1) none ?_
  simp only[rG,seval,AB,AD,AC,t9,Nat.zero_add,IG,decide_true,FF]
  refine AF hsn 8 (some 11) (.alloc 65) none ?_
  simp only[rG,seval,AB,AD,AC,N1,t9,Nat.zero_add,IG,decide_true,FF]
  refine AF hsn 9 (some 12) (.alloc 33) none ?_
  simp only[rG,seval,AB,AD,AC,N1,t9,Nat.zero_add,IG,decide_true,FF]
  refine AF hsn 10 (none) (.store 65 (.tmp 11) (.tmp 60)) none ?_
  simp only[rG,seval,AB,AD,AC,DP,EE,t9,Nat.zero_add,IG,decide_true,FF]
  refine AF hsn 11 (none) (.store 33 (.tmp 12) (.tmp 61)) none ?_
  simp only[rG,seval,AB,AD,AC,DP,EE,t9,Nat.zero_add,IG,decide_true,FF]
  refine BQ.done (i:=12) (by kernel_rfl) ?_
  clear FF
  have o6X:∀ j,j<X.next→h6.get j=X.get j:=fun j hj=>by rw[o6 j (by omega),o5 j (by omega),oQ2 j (by omega),oQ1 j (by omega),oG2X j hj]
  have lP6:BL 8 0 (h6.get h2.next)=some (.agg #[.string nm,vr,vq,vv,vt,vu,vo,iv s.miss]):=by rw[o6X _ (by omega)];exact lPX
  have o6G:∀ j,j<G2.next→h6.get j=G2.get j:=fun j hj=>by rw[o6 j (by omega),o5 j (by omega),oQ2 j (by omega),oQ1 j hj]
  have lY6:BL 3 0 (h6.get G1.next)=some TY:=by rw[o6G _ (by omega)];exact lY
  obtain⟨w7,h7,hc7,dv,rfl,hdv,f7,n7,o7'⟩:=Lq (n:=n) (h:=h6) (hpX.mono (by omega) fun j _ hj=>o6X j hj) k64 (hty2.mono (by omega) fun j _ hj=>o6G j hj) hsm (by omega) (by omega) (by omega) (by omega)
  have hc7':=Q0 (n:=n) (by decide) hc7
  obtain⟨⟨ha8,h8⟩,s5,s6,lb1,lb2,n8,f8,o8⟩:=Lv (e:=(DW nm s rd).1.1) (p:=(DW nm s rd).1.2) hdv (by omega)
  simp only at s5 s6 lb1 lb2 n8 f8 o8
  have o8X:∀ j,j<X.next→h8.get j=X.get j:=fun j hj=>by rw[o8 j (by omega),o7' j (by omega),o6X j hj]
  have q1:BL 2 0 (h8.get (Q3.next+1))=some (EN (DW nm s rd).1.1 (DW nm s rd).1.2):=by rw[o8 _ (by omega),o7' _ (by omega)];exact la2
  have q3:BL 2 0 (h8.get Q3.next)=some cv:=by rw[o8 _ (by omega),o7' _ (by omega)];exact la1
  have hcl:(DW nm s rd).2.on.length≤900:=by
   unfold DW
   split
   ·show (0:Nat)≤_;omega
   ·split
    ·show (0:Nat)≤_;omega
    ·rcases bC (R:=s.rows) (V:=AZ s.rows (AG (AY s.rows)) rd (EW s.rows (AG (AY s.rows)) rd s.rules [])) s.rows.length 0 ⟨List.replicate s.queues.length 0,0⟩ with h9 | h9
     ·rw[h9];show (List.replicate s.queues.length (0:Int)).length≤_;rw[List.length_replicate];omega
     ·rw[h9];show (0:Nat)≤_;omega
  have hcv8:IP Q2.next h8 cv (DW nm s rd).2:=hcv.mono (by omega) fun j _ hj=>by rw[o8 j (by omega),o7' j (by omega),o6 j (by omega)]
  have hsame:=Sp (n:=n) (h:=h8) hcv8 (hdv.mono (h':=h8) (by omega) fun j _ hj=>o8 j hj) (by omega) (by omega)
  rw[decide_eq_true ⟨rfl,rfl⟩] at hsame
  have hsame':=Q0 (n:=n) (by decide) hsame
  have hOw8:=hOw.mono (H':=h8) (by omega) fun j _ hj _=>o8X j hj
  have hGr8:=hGr.mono (h':=h8) (by omega) fun j hj _ _=>o8X j hj
  obtain⟨e,he1,he2,hOwE⟩:=GM.add hOw hOw8 hcv8 (by omega) (by omega)
  obtain⟨kv3,h9,ap,hGr9,f9,n9,o9⟩:=xC (e:=e) hGr8 (by omega) (by omega) (by omega)
  rw[he1] at q3 hsame'
  simp only[eE,seval,↓eP,e7,t0,t1,t5,t6,t7,t9,Nat.zero_add,GX,lP6,RS,lY6,hc7',IG,N8,zcC,HU,HT,ME,C7,s5,s6,K8,q1,lb2,Pn,UQ,q3,lb1,hsame',Ec,ap,w8]
  have hdis:∀ j,(j<h.next∨(H.next≤j∧j<h3.next))→j<h8.next→h9.get j=h8.get j:=fun j hj hj8=>o9 j hj8 (by
   rcases hj with hj | ⟨h1,h2⟩
   ·exact hGr8.below hj
   ·exact hap j h1 h2)
  refine⟨hk2,by omega,by omega,by omega,fun j hj=>by rw[hdis j (.inl hj) (by omega),o8X j (by omega),oX j hj],fun j h1 h2=>by rw[hdis j (.inr ⟨h1,h2⟩) (by omega),o8X j (by omega),oX3 j h1 h2],K2++[e],_,?_,hOwE.mono n9 fun j hj1 hj2 hj3=>o9 j hj2 (by obtain⟨cs,hj3⟩:=hj3;exact hGr8.apart hj3 (by decide)),by simp;omega,fun e' he'=>?_,fun j h1 h2=>hGr9.below (by omega)⟩
  ·rw[List.length_append,List.length_singleton]
   exact hGr9.weak (by omega)
  ·rcases List.mem_append.1 he' with h1 | h1
   ·exact hKe e' h1
   ·simp only[List.mem_singleton] at h1
    rw[h1,he2]
    omega
 cases c1:decide ((i:Int)<(L.length:Int)) with
 | true=>
  have c2:decide ((i:Int)<9)=false:=by
   have:=of_decide_eq_true c1
   simp
   omega
  simp only[eE,seval,↓eP,t0,t1,t5,t6,KV,c1,c2]
  exact⟨nH,fH,oH,K,c,hGr,hOw,by omega,hKe⟩
 | false=>
  simp only[eE,seval,↓eP,t0,t1,t5,t6,KV,c1]
  exact⟨nH,fH,oH,K,c,hGr,hOw,by omega,hKe⟩
end
end Go.Proofs.YtipekdhneagdbaaDoor
