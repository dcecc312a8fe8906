/- Part 13 of what the claim leans on: 12 texts laid one behind another. -/
import Derived.Test.YtipekdhneagdbaaDoorCG12
namespace Go.Proofs.YtipekdhneagdbaaDoor
open Go Go.Sx
set_option maxRecDepth 100000
set_option linter.unusedSimpArgs false
set_option linter.unusedVariables false
set_option maxHeartbeats 64000000
theorem Rk {cs:List Value} {off:Nat}:Go.Sx.lay cs off []=cs:=by simp[Go.Sx.lay]
theorem lU {a b c new:List Value} {off:Nat} (ho:off=a.length) (h:b.length=new.length):Go.Sx.lay (a++(b++c)) off new=a++(new++c):=by
 subst ho
 simp only[Go.Sx.lay,← h]
 rw[List.take_left',List.append_assoc]
 ·congr 2
  rw[← List.append_assoc,List.drop_left' (by simp)]
 ·rfl
theorem US {z:List Value}:∀ n,(C0 z n).length=n*z.length
 | 0=>by simp[C0]
 | n+1=>by rw[C0,List.length_append,US n,Nat.succ_mul];omega
theorem uN {z:List Value}:∀ a b,C0 z (a+b)=C0 z a++C0 z b
 | 0,b=>by simp[C0]
 | a+1,b=>by rw[Nat.succ_add,C0,C0,uN a b,List.append_assoc]
section
variable {P:Program} {t e:TypeId} {w b:Nat} {z:Value} {h:AA}
theorem YX (ht:P.underlying t=some (.slice e)) (he:BQ P e=some w) (hb:IE P e=some b) (hz:DV P e=some z) (hzc:z.cells.size=w) (hzf:flat z=true) (hw:0<w) (hbb:b≤64) {n:Nat} (hn:n<4000000000000) :
  L_ P h t (iv 0) (iv (n:Int))=some (qS h.next 0 n,h.push (.row (C0 z.cells.toList n) e false false)):=by
 simp only[L_,ht,he,hz,hb]
 have hmul:(b:Int)*(n:Int)≤64*(n:Int):=Int.mul_le_mul_of_nonneg_right (by omega) (by omega)
 rw[if_pos (by simp[hzf,hzc,hw];omega)]
 simp
theorem qL (ht:P.underlying t=some (.slice e)) (he:BQ P e=some w) (hb:IE P e=some b) (hz:DV P e=some z) (hzc:z.cells.size=w) (hw:0<w)
  {id n c k c':Nat} {a:Option Addr} {cs new:List Value} {ty:TypeId} {g:Bool} (hg:h.get id=.row cs ty g false) (hid:id<h.next) (hf:h.floor≤id) (hsrc:C_ h w k (.slice a k c')=some new) (hnl:new.length=k*w) (hone:new.all one=true) (hc:c≠AJ) (hle:n+k≤c) (hlen:cs.length=c*w) :
  ∃ h',DF P h t (qS id n c) (.slice a k c')=some (qS id (n+k) c,h')∧h'.get id=.row (Go.Sx.lay cs (n*w) new) ty g false∧h'.next=h.next∧h'.floor=h.floor∧∀ i,i≠id→h'.get i=h.get i:=by
 by_cases h0:k=0
 ·subst h0
  have:new=[]:=List.length_eq_zero_iff.1 (by rw[hnl,Nat.zero_mul])
  subst this
  refine⟨h,?_,by rw[Rk];exact hg,rfl,rfl,fun _ _=>rfl⟩
  simp only[DF,ht,he,hb,hz,hsrc]
  rw[if_pos (by simp[hw,hzc];omega),if_pos hone,if_neg hc,if_pos hle,if_true]
 ·have hfit:n*w+new.length≤cs.length:=by
   rw[hnl,hlen,← Nat.add_mul]
   exact Nat.mul_le_mul_right w hle
  have hst:G4 h id (0+n*w) new=some (h.put id (.row (Go.Sx.lay cs (n*w) new) ty g false)):=by
   simp only[G4,hg]
   rw[if_pos (by simp[hone];omega),Nat.zero_add]
  refine⟨_,?_,BN rfl hid,rfl,rfl,fun i hi=>AM hid (Ne.symm hi)⟩
  simp only[DF,ht,he,hb,hz,hsrc]
  rw[if_pos (by simp[hw,hzc];omega),if_pos hone,if_neg hc,if_pos hle,if_neg h0]
  simp only[hst]
theorem OX (ht:P.underlying t=some (.slice e)) (he:BQ P e=some w) {id n m c:Nat} (hm:m≤c) (hc:c≠AJ):GG P h t (qS id n c) none (some (iv (m:Int))) none=some (qS id m c):=by
 simp only[GG,ht,he,EW,hc,if_false]
 rw[if_pos (by omega)]
 simp only[Int.toNat_natCast]
 by_cases h0:c=0
 ·subst h0
  simp[CF]
 ·simp[CF]
end
structure HL (h:AA) (o n w:Nat) (cs mk z:List Value) (e:TypeId):Prop where
 g:h.get o=.row (cs++(mk++C0 z 2)) e false false
 len:cs.length=n*w
 mlen:mk.length=w
 zlen:z.length=w
section
variable {t e:TypeId} {w b:Nat} {z:Value} {h:AA}
theorem Qi (ht:Tryd.prog.underlying t=some (.slice e)) (he:BQ Tryd.prog e=some w) (hb:IE Tryd.prog e=some b) (hz:DV Tryd.prog e=some z) (hzc:z.cells.size=w) (hw:0<w) {lo n:Nat} {v:Value} {cs:List Value} (hv:AZ lo h v n w cs) (hone:cs.all one=true) (hn:n<4000000000000) (hfl:h.floor≤h.next) :
  ∃ h1,DF Tryd.prog (h.push (.row (C0 z.cells.toList (n+3)) e false false)) t (qS h.next 0 (n+3)) v=some (qS h.next n (n+3),h1)∧h1.get h.next=.row (cs++(z.cells.toList++C0 z.cells.toList 2)) e false false∧h1.next=h.next+1∧h1.floor=h.floor∧∀ i,i<h.next→h1.get i=h.get i:=by
 have hv1:=hv.mono (h':=h.push (.row (C0 z.cells.toList (n+3)) e false false)) (by rw[DL];omega) fun i _ hi=>AT hi
 have hsrc:=hv1.src
 have hcl:=hv.1
 obtain⟨_,a,c,rfl,_⟩:=hv
 have hzl:z.cells.toList.length=w:=by simpa using hzc
 obtain⟨h1,e1,e2,e3,e4,e5⟩:=qL (n:=0) (c:=n+3) ht he hb hz hzc hw BP (by rw[DL];omega) hfl hsrc hcl hone (by unfold AJ;omega) (by omega) (by rw[US,hzl])
 rw[Nat.zero_add] at e1
 refine⟨h1,e1,?_,e3,e4,fun i hi=>by rw[e5 i (by omega),AT hi]⟩
 rw[e2,uN,show C0 z.cells.toList 3=z.cells.toList++C0 z.cells.toList 2 from rfl,← List.nil_append (C0 z.cells.toList n++_),lU (by simp) (by rw[US,hcl,hzl])]
 rfl
theorem Ju (ht:Tryd.prog.underlying t=some (.slice e)) (he:BQ Tryd.prog e=some w) (hb:IE Tryd.prog e=some b) (hz:DV Tryd.prog e=some z) (hzc:z.cells.size=w) (hw:0<w) {lo n o:Nat} {v:Value} {cs mk:List Value} (hg:h.get o=.row (cs++(z.cells.toList++C0 z.cells.toList 2)) e false false) (ho:o<h.next) (hf:h.floor≤o) (hcl:cs.length=n*w)
  (hv:AZ lo h v 1 w mk) (hone:mk.all one=true) (hn:n<4000000000000) :
  ∃ h1,DF Tryd.prog h t (qS o n (n+3)) v=some (qS o (n+1) (n+3),h1)∧HL h1 o n w cs mk z.cells.toList e∧h1.next=h.next∧h1.floor=h.floor∧∀ i,i≠o→h1.get i=h.get i:=by
 have hsrc:=hv.src
 have hml:=hv.1
 obtain⟨_,a,c,rfl,_⟩:=hv
 have hzl:z.cells.toList.length=w:=by simpa using hzc
 obtain⟨h1,e1,e2,e3,e4,e5⟩:=qL (n:=n) (c:=n+3) ht he hb hz hzc hw hg ho hf hsrc hml hone (by unfold AJ;omega) (by omega) (by
  rw[List.length_append,List.length_append,US,hcl,hzl]
  simp only[Nat.add_mul]
  omega)
 rw[lU hcl.symm (by rw[hzl,hml,Nat.one_mul])] at e2
 exact⟨h1,e1,⟨e2,hcl,by rw[hml,Nat.one_mul],hzl⟩,e3,e4,e5⟩
end
section
variable {t e:TypeId} {w b:Nat} {z:Value} {h:AA}
theorem XK (ht:Tryd.prog.underlying t=some (.slice e)) (he:BQ Tryd.prog e=some w) (hb:IE Tryd.prog e=some b) (hz:DV Tryd.prog e=some z) (hzc:z.cells.size=w) (hw:0<w) {lo n:Nat} {v:Value} {cs mk:List Value} (hv:AZ lo h v n w cs) (hone:cs.all one=true) (hml:mk.length=w) (hmo:mk.all one=true) (hn:n<2932031007403) (hfl:h.floor≤h.next) :
  ∃ h1 h3,DF Tryd.prog (h.push (.row (C0 z.cells.toList (n+3)) e false false)) t (qS h.next 0 (n+3)) v=some (qS h.next n (n+3),h1)∧h1.next=h.next+1∧h1.floor=h.floor∧(∀ i,i<h.next→h1.get i=h.get i) ∧
   DF Tryd.prog (h1.push (.row mk e false false)) t (qS h.next n (n+3)) (qS h1.next 1 1)=some (qS h.next (n+1) (n+3),h3)∧HL h3 h.next n w cs mk z.cells.toList e∧h3.next=h.next+2∧h3.floor=h.floor∧∀ i,i<h.next→h3.get i=h.get i:=by
 obtain⟨h1,a1,a2,a3,a4,a5⟩:=Qi ht he hb hz hzc hw hv hone (by omega) hfl
 have hm:AZ 0 (h1.push (.row mk e false false)) (qS h1.next 1 1) 1 w mk:=AZ.row (ex:=[]) (by rw[List.append_nil];exact BP) ⟨Nat.zero_le _,by rw[DL];omega⟩ (by rw[hml,Nat.one_mul])
 obtain⟨h3,b1,b2,b3,b4,b5⟩:=Ju (h:=h1.push (.row mk e false false)) (o:=h.next) ht he hb hz hzc hw (by rw[AT (by omega)];exact a2) (by rw[DL];omega) (by rw[DK];omega) hv.1 hm hmo (by omega)
 exact⟨h1,h3,a1,a3,a4,a5,b1,b2,by rw[b3,DL,a3],by rw[b4,DK,a4],fun i hi=>by rw[b5 i (by omega),AT (by omega),a5 i hi]⟩
end
section
variable {h h':AA} {o n w:Nat} {cs mk z:List Value} {e:TypeId}
theorem HL.mono (hl:HL h o n w cs mk z e) (hg:h'.get o=h.get o):HL h' o n w cs mk z e:=⟨by rw[hg];exact hl.g,hl.len,hl.mlen,hl.zlen⟩
theorem HL.cells (hl:HL h o n w cs mk z e) {lo c:Nat} (ho:lo≤o∧o<h.next):AZ lo h (qS o n c) n w cs:=AZ.row hl.g ho hl.len
theorem HL.mark (hl:HL h o n w cs mk z e) {lo c:Nat} (ho:lo≤o∧o<h.next):AZ lo h (qS o (n+1) c) (n+1) w (cs++mk):=
 AZ.row (ex:=C0 z 2) (by rw[List.append_assoc];exact hl.g) ho (by rw[List.length_append,hl.len,hl.mlen,Nat.succ_mul])
end
section
variable {call:AQ} {N:Nat} {h:AA}
theorem vT {l:List AC} {v:Value} (hv:AV h v l) (hl:l.length<2932031007403) (hfl:h.floor≤h.next) (hN:12<N) :
  ∃ h',A8 Tryd.prog call N 15 [v] h=some (qS h.next l.length (l.length+9),h')∧((∃ L,M3 h' h.next l L)∧h'.next=h.next+1∧h'.floor=h.floor∧∀ i,i<h.next→h'.get i=h.get i):=by
 refine FE (R:=fun h'=>(∃ L,M3 h' h.next l L)∧h'.next=h.next+1∧h'.floor=h.floor∧∀ i,i<h.next→h'.get i=h.get i) Tryd.func15 rfl (by simp[Tryd.f15]) ?_
 have hr:Tryd.f15.results.toList=[.tmp 2]:=rfl
 have hlen:=fun h'=>hv.len (h':=h')
 have w9:IntKind.i64.wrap ((l.length:Int)+9)=((l.length+9:Nat):Int):=B0 (by omega) (by omega)
 have hmk:=Nz (h:=h) (n:=l.length+9) (by omega)
 have hv1:AV (h.push (.row ((List.replicate (l.length+9) EI).flatMap AI) 46 false false)) v l:=hv.mono (by show h.next≤h.next+1;omega) fun i hi=>AT hi
 obtain⟨H1,hcp,g1,n1,f1,o1⟩:=Ec (id:=h.next) (n:=l.length+9) (c:=l.length+9) hv1 BP (by rw[List.length_replicate]) (by omega) (by show h.next<h.next+1;omega) hfl
 have hlen9:∀ h':AA,CC Tryd.prog h' 22 (qS h.next (l.length+9) (l.length+9))=some (iv ((l.length+9:Nat):Int)):=fun h'=>OI
 have hsl:=fun (H:AA)=>iX (h:=H) (id:=h.next) (n:=l.length+9) (m:=l.length) (c:=l.length+9) (by omega) (by unfold AJ;omega)
 simp only[eE,seval,↓eP,hlen,w9,hmk,hcp]
 have n1':H1.next=h.next+1:=n1
 have f1':H1.floor=h.floor:=f1
 have o1':∀ i,i<h.next→H1.get i=h.get i:=fun i hi=>by rw[o1 i (by omega),AT hi]
 refine WK.loop (fun k s'=>s'.T.get 0=v∧s'.T.get 3=qS h.next (l.length+9) (l.length+9)∧s'.T.get 4=iv ((l.length+k:Nat):Int)∧k≤9∧s'.h.next=h.next+1∧s'.h.floor=h.floor∧(∀ i,i<h.next→s'.h.get i=h.get i) ∧
  ∃ L:List AC,s'.h.get h.next=.row (L.flatMap AI) 46 false false∧L.length=l.length+9∧(∀ j,j<l.length→L[j]?=l[j]?)∧∀ q,q<k→L[l.length+q]?=some (mark (l.length+q))) 9 (by omega) ?_ ?_
 ·refine⟨by simp only[eE,seval,↓eP,rP],by simp only[eE,seval,↓eP,rP],by simp only[eE,seval,↓eP,rP];rfl,by omega,n1',f1',o1',_,g1,?_,fun j hj=>by rw[List.getElem?_append_left hj],fun q hq=>by omega⟩
  rw[List.length_append,List.length_drop,List.length_replicate]
  omega
 ·rintro k ⟨T1,H2⟩ hk ⟨t0,t3,t4,hk9,n2,f2,o2,L,gL,lL,own,marks⟩
  simp only at t0 t3 t4 n2 f2 o2 gL
  by_cases hlt:k<9
  ·have c1:decide (((l.length+k:Nat):Int)<((l.length+9:Nat):Int))=true:=by simp;omega
   have hix:=RP (id:=h.next) (n:=l.length+9) (c:=l.length+9) (i:=l.length+k) (by omega)
   have hst:=UJ (i:=l.length+k) (x:=⟨-7,J7,0,0,((l.length+k:Nat):Int)⟩) rfl gL (by omega) (by omega)
   have w1:IntKind.i64.wrap (((l.length+k:Nat):Int)+1)=((l.length+(k+1):Nat):Int):=B0 (by omega) (by omega)
   simp only[eE,seval,↓eP,t0,t3,t4,hlen9,c1,s_,hix,hst,w1]
   refine⟨hlt,by omega,n2,f2,fun i hi=>by rw[AM (by omega) (by omega)];exact o2 i hi,_,BN rfl (by omega),by rw[List.length_set];exact lL,fun j hj=>?_,fun q hq=>?_⟩
   ·rw[List.getElem?_set_ne (by omega)]
    exact own j hj
   ·rcases Nat.lt_or_ge q k with h1 | h1
    ·rw[List.getElem?_set_ne (by omega)]
     exact marks q h1
    ·have:q=k:=by omega
     subst this
     rw[List.getElem?_set_self (by omega)]
     rfl
  ·have c1:decide (((l.length+k:Nat):Int)<((l.length+9:Nat):Int))=false:=by simp;omega
   have:k=9:=by omega
   subst this
   simp only[eE,seval,↓eP,hr,t0,t3,t4,hlen,hlen9,c1,hsl]
   exact⟨⟨L,gL,lL,own,marks⟩,n2,f2,o2⟩
end
theorem xH {n:Nat} {h:AA} {l:List AC} {v:Value} (hv:AV h v l) (hl:l.length<2932031007403) (hfl:h.floor≤h.next) (hn:20<n) :
  ∃ h',AX n 15 [v] h=some (qS h.next l.length (l.length+9),h')∧((∃ L,M3 h' h.next l L)∧h'.next=h.next+1∧h'.floor=h.floor∧∀ i,i<h.next→h'.get i=h.get i):=by
 obtain⟨n,rfl⟩:=D7 hn
 exact OG (CN ⟨rfl,rfl,rfl⟩) rfl (vT hv hl hfl (by omega))
section
variable {call:AQ} {N:Nat} {h:AA}
end
section
variable {call:AQ} {n N:Nat} {h:AA}
theorem Mc {l:List Int} {v:Value} {lo:Nat} (hv:AK lo h v l) (hl:l.length<2932031007403) (hfl:h.floor≤h.next) :
  ∃ h',A8 Tryd.prog call N 65 [v] h=some (qS h.next l.length (l.length+3),h')∧(HL h' h.next l.length 1 (ints l) [iv (-77)] [iv 0] 3∧h'.next=h.next+2∧h'.floor=h.floor∧∀ i,i<h.next→h'.get i=h.get i):=by
 refine FE (R:=fun h'=>HL h' h.next l.length 1 (ints l) [iv (-77)] [iv 0] 3∧h'.next=h.next+2∧h'.floor=h.floor∧∀ i,i<h.next→h'.get i=h.get i) Tryd.func65 rfl (by simp[Tryd.f65]) ?_
 have hr:Tryd.f65.results.toList=[.tmp 2]:=rfl
 have hlen:=IX hv
 have w3:IntKind.i64.wrap ((l.length:Int)+3)=((l.length+3:Nat):Int):=B0 (by omega) (by omega)
 have hmk:=YX (h:=h) (n:=l.length+3) Tryd.underlying28 CQ LC JM rfl rfl (by decide) (by decide) (by omega)
 obtain⟨h1,h3,a1,a2,a3,a4,a5,a6,a7,a8,a9⟩:=XK (mk:=[iv (-77)]) Tryd.underlying28 CQ LC JM rfl (by decide) hv (PE l) rfl rfl (by omega) hfl
 have hsl:=fun (H:AA)=>OX (h:=H) (id:=h.next) (n:=l.length+1) (m:=l.length) (c:=l.length+3) Tryd.underlying28 CQ (by omega) (by unfold AJ;omega)
 simp only[eE,seval,↓eP,hr,hlen,w3,hmk,a1,K9,a5,hsl]
 exact⟨a6,a7,a8,a9⟩
theorem kC {l:List Int} {v:Value} {lo:Nat} (hv:AK lo h v l) (hl:l.length<2932031007403) (hfl:h.floor≤h.next) (hn:0<n) :
  ∃ h',AX n 65 [v] h=some (qS h.next l.length (l.length+3),h')∧(HL h' h.next l.length 1 (ints l) [iv (-77)] [iv 0] 3∧h'.next=h.next+2∧h'.floor=h.floor∧∀ i,i<h.next→h'.get i=h.get i):=by
 obtain⟨n,rfl⟩:=D7 hn
 exact OG (CN ⟨rfl,rfl,rfl⟩) rfl (Mc hv hl hfl)
end
theorem Nn {nm:ByteArray} {m:Int} {id k c:Nat}:DB Tryd.prog 30 [(0,.string nm),(7,iv m),(1,qS id k c)]=some (.agg #[.string nm,qS id k c,Z0,Z0,Z0,Z0,Z0,iv m]):=by
 have h:=V4
 rw[Tryd.underlying30] at h
 simp only at h
 simp only[DB,MF,MH,if_true,Tryd.underlying30,h]
 rfl
theorem m9 {nm:ByteArray}:DB Tryd.prog 57 [(0,.string nm)]=some (.agg #[.string nm,.bool false]):=by
 have h:=iD
 rw[Tryd.underlying57] at h
 simp only at h
 simp only[DB,Q6,ZK,PW,h_,Bool.and_self,if_true,Tryd.underlying57,h]
 rfl
noncomputable def kR:Array Oper:=DR Tryd.f21 1
def Ce:List (Bool × Bool × List Operand):=[FW,FW,C3 [.tmp 4],C3 [.tmp 4],AN [.tmp 4,.tmp 6],AN [.tmp 4,.tmp 6],AN [.tmp 4,.tmp 6],AL,C3 [.tmp 4,.tmp 6,.tmp 8],AL]
theorem Pv:DS kR=Ce:=by kernel_rfl
noncomputable def lM:Array Oper:=DR Tryd.f21 2
def zR:List (Bool × Bool × List Operand):=[AY,AY,AY,AY,AY,C3 [.tmp 12],C3 [.tmp 12],AY,C3 [.tmp 12,.tmp 17],C3 [.tmp 12,.tmp 17],AY,C3 [.tmp 12,.tmp 17],C3 [.tmp 12,.tmp 17],C3 [.tmp 12,.tmp 17],AL,AL,AL]
theorem Bi:DS lM=zR:=by kernel_rfl
noncomputable def iQ:Array Oper:=DR Tryd.f21 3
def Sn:List (Bool × Bool × List Operand):=[AY,AY,AY,AY,AY,C3 [.tmp 28],C3 [.tmp 28],AY,C3 [.tmp 28,.tmp 33],AY,C3 [.tmp 28,.tmp 33],C3 [.tmp 28,.tmp 33],C3 [.tmp 28,.tmp 33],AL,AL,AL]
theorem Fa:DS iQ=Sn:=by kernel_rfl
noncomputable def jV:Array Oper:=DR Tryd.f21 4
def Ao:List (Bool × Bool × List Operand):=[AY,AY,AY,AY,AY,C3 [.tmp 43],C3 [.tmp 43],AY,C3 [.tmp 43,.tmp 48],AY,C3 [.tmp 43,.tmp 48],C3 [.tmp 43,.tmp 48],C3 [.tmp 43,.tmp 48],AL,AL,AL]
theorem wO:DS jV=Ao:=by kernel_rfl
structure LT (h:AA) (b:Nat) (v:Value) (nm:ByteArray) (s:AP) (o:Nat→Nat):Prop where
 v:v=.agg #[.string nm,qS (o 1) s.rows.length (s.rows.length+9),qS (o 2) s.queues.length (s.queues.length+3),qS (o 3) s.vars.length (s.vars.length+3),qS (o 4) s.tags.length (s.tags.length+3),qS (o 5) s.rules.length (s.rules.length+3),qS (o 6) s.on.length (s.on.length+3),iv s.miss]
 far:b≤o 1∧o 1<o 2∧o 2<o 3∧o 3<o 4∧o 4<o 5∧o 5<o 6∧o 6<h.next
 r:∃ L,M3 h (o 1) s.rows L
 q:HL h (o 2) s.queues.length 2 (IF s.queues) [.string J7,.bool false] [.string ByteArray.empty,.bool false] 57
 w:HL h (o 3) s.vars.length 1 (D3 s.vars) [.string J7] [.string ByteArray.empty] 9
 t:HL h (o 4) s.tags.length 1 (D3 s.tags) [.string J7] [.string ByteArray.empty] 9
 u:HL h (o 5) s.rules.length 1 (ints s.rules) [iv (-77)] [iv 0] 3
 p:HL h (o 6) s.on.length 1 (ints s.on) [iv (-77)] [iv 0] 3
section
variable {n N:Nat} {h:AA}
theorem yH {nm:ByteArray} {s:AP} {pv:Value} {lo:Nat} (hp:C1 lo h pv nm s) (hs:HV s) (hl:s.rows.length<2932031007403) (hl2:s.rules.length<2932031007403∧s.on.length<2932031007403) (hfl:h.floor≤h.next) (hn:20<n) :
  ∃ v' h',A8 Tryd.prog (AX n) N 21 [pv] h=some (v',h')∧(∃ o,LT h' h.next v' nm s o)∧h.next≤h'.next∧h'.floor=h.floor∧∀ i,i<h.next→h'.get i=h.get i:=by
 obtain⟨vr,vq,vv,vt,vu,vo,rfl,p1,p2,p3,p4,p5,p6⟩:=hp
 obtain⟨aq,cq,rfl,_⟩:=id p2.2
 obtain⟨av,cv,rfl,_⟩:=id p3.2
 obtain⟨at_,ct,rfl,_⟩:=id p4.2
 have hsn:=(FM n).2
 refine M8 (R:=fun v' h'=>(∃ o,LT h' h.next v' nm s o)∧h.next≤h'.next∧h'.floor=h.floor∧∀ i,i<h.next→h'.get i=h.get i) Tryd.func21 rfl (by simp[Tryd.f21]) ?_
 have hr:Tryd.f21.results.toList=[.cell 2 30]:=rfl
 obtain⟨q1,q2,q3,q4,q5,q6⟩:=hs
 have ca:=GJ [.string nm,vr,.slice aq s.queues.length cq,.slice av s.vars.length cv,.slice at_ s.tags.length ct,vu,vo,iv s.miss]
 have oa:=K_ (nm:=nm) p1 p2 p3 p4 p5 p6
 obtain⟨x0,x1,x2,x3,x4,x5,x6,x7⟩:=O8 (a:=.string nm) (b:=vr) (c:=.slice aq s.queues.length cq) (d:=.slice av s.vars.length cv) (e:=.slice at_ s.tags.length ct) (f:=vu) (g:=vo) (i:=iv s.miss) (ty:=30) (x:=false) (y:=false)
 have len2:=OT p2
 have len3:=NJ p3
 have len4:=NJ p4
 simp only[eE,seval,↓eP,DG,DA,C9,ca,oa,HR,MF,MH,NL]
 have gA:((h.push (.row [.string nm,vr,.slice aq s.queues.length cq,.slice av s.vars.length cv,.slice at_ s.tags.length ct,vu,vo,iv s.miss] 30 false false)).push (.row BT 30 false false)).get h.next=.row [.string nm,vr,.slice aq s.queues.length cq,.slice av s.vars.length cv,.slice at_ s.tags.length ct,vu,vo,iv s.miss] 30 false false:=LY
 have gZ:((h.push (.row [.string nm,vr,.slice aq s.queues.length cq,.slice av s.vars.length cv,.slice at_ s.tags.length ct,vu,vo,iv s.miss] 30 false false)).push (.row BT 30 false false)).get (h.next+1)=.row BT 30 false false:=MJ
 have gO:∀ i,i<h.next→((h.push (.row [.string nm,vr,.slice aq s.queues.length cq,.slice av s.vars.length cv,.slice at_ s.tags.length ct,vu,vo,iv s.miss] 30 false false)).push (.row BT 30 false false)).get i=h.get i:=fun i hi=>by rw[AT (by show i<h.next+1;omega),AT hi]
 have n0:((h.push (.row [.string nm,vr,.slice aq s.queues.length cq,.slice av s.vars.length cv,.slice at_ s.tags.length ct,vu,vo,iv s.miss] 30 false false)).push (.row BT 30 false false)).next=h.next+2:=rfl
 have f0:((h.push (.row [.string nm,vr,.slice aq s.queues.length cq,.slice av s.vars.length cv,.slice at_ s.tags.length ct,vu,vo,iv s.miss] 30 false false)).push (.row BT 30 false false)).floor=h.floor:=rfl
 generalize (h.push (.row [.string nm,vr,.slice aq s.queues.length cq,.slice av s.vars.length cv,.slice at_ s.tags.length ct,vu,vo,iv s.miss] 30 false false)).push (.row BT 30 false false)=H0 at *
 have hA0:(h.next<H0.next)=True:=by rw[n0];simp
 have P1:AV (H0.fl (max H0.floor H0.next)) vr s.rows:=p1.1.mono (by rw[DD];omega) gO
 obtain⟨h1,hlend,⟨L,hL⟩,n1,f1,o1⟩:=xH (n:=n) P1 hl (by rw[DD,C8];omega) hn
 rw[DD] at hlend hL n1 o1
 rw[C8] at f1
 have hst:BJ Tryd.prog ((h1.fl H0.floor).push (.row BT 30 false false)) 30 (qP ((h1.fl H0.floor).next) 0) _=_:=
  H_ HR (vs:=[.string nm,qS H0.next s.rows.length (s.rows.length+9),Z0,Z0,Z0,Z0,Z0,iv s.miss]) (BP (h:=h1.fl H0.floor)) rfl rfl rfl (by rw[DK,C8,DD];omega)
 refine WK.flags (ops:=kR) Pv ?_
 refine BV.begin ?_
 refine AF hsn 0 (some 4) (.fieldAddr 30 (.tmp 1) 0) none ?_
 simp only[rG,seval,AB,AE,AD,Nat.zero_add,J3]
 refine AF hsn 1 (some 5) (.load 9 (.tmp 4)) none ?_
 simp only[rG,seval,AB,AE,AD,B_,FQ,gA,x0,hA0]
 refine AF hsn 2 (some 6) (.fieldAddr 30 (.tmp 1) 7) none ?_
 simp only[rG,seval,AB,AE,AD,Nat.zero_add,HP]
 refine AF hsn 3 (some 7) (.load 3 (.tmp 6)) none ?_
 simp only[rG,seval,AB,AE,AD,B_,A_,gA,x7,hA0]
 refine AF hsn 4 (some 8) (.fieldAddr 30 (.tmp 1) 1) none ?_
 simp only[rG,seval,AB,AE,AD,Nat.zero_add,CL]
 refine AF hsn 5 (some 9) (.load 22 (.tmp 8)) none ?_
 simp only[rG,seval,AB,AE,AD,B_,CK,gA,x1,hA0]
 refine AF hsn 6 (some 10) (.call { callee:=.value (.func 15),args:=#[.tmp 9],argTypes:=#[22] }) none ?_
 simp only[rG,seval,AB,AE,AD,CO,hlend]
 refine AF hsn 7 (some 11) (.build 30 #[(0,.tmp 5),(7,.tmp 7),(1,.tmp 10)]) none ?_
 simp only[rG,seval,AB,AE,AD,List.map_cons,List.map_nil,Nn]
 refine AF hsn 8 (some 3) (.alloc 30) none ?_
 simp only[rG,seval,AB,AE,AD,SV,MF,MH,NL]
 refine AF hsn 9 (none) (.store 30 (.tmp 3) (.tmp 11)) none ?_
 simp only[rG,seval,AB,AE,AD,DO,ED,hst]
 refine BV.done (i:=10) (by kernel_rfl) ?_
 have gG:∀ i,(h1.fl H0.floor).get i=h1.get i:=fun _=>rfl
 have nG:(h1.fl H0.floor).next=H0.next+1:=n1
 have fG:(h1.fl H0.floor).floor=H0.floor:=rfl
 have hL0:M3 (h1.fl H0.floor) H0.next s.rows L:=⟨hL.g,hL.len,hL.own,hL.marks⟩
 clear hst hlend hL P1
 generalize h1.fl H0.floor=G at *
 have nnG:((G.push (.row BT 30 false false)).put G.next (.row [.string nm,qS H0.next s.rows.length (s.rows.length+9),Z0,Z0,Z0,Z0,Z0,iv s.miss] 30 false false)).next=G.next+1:=rfl
 have ffG:((G.push (.row BT 30 false false)).put G.next (.row [.string nm,qS H0.next s.rows.length (s.rows.length+9),Z0,Z0,Z0,Z0,Z0,iv s.miss] 30 false false)).floor=G.floor:=rfl
 have gDH1:((G.push (.row BT 30 false false)).put G.next (.row [.string nm,qS H0.next s.rows.length (s.rows.length+9),Z0,Z0,Z0,Z0,Z0,iv s.miss] 30 false false)).get G.next=.row [.string nm,qS H0.next s.rows.length (s.rows.length+9),Z0,Z0,Z0,Z0,Z0,iv s.miss] 30 false false:=BN rfl (by rw[DL];omega)
 have ggG:∀ i,i<G.next→((G.push (.row BT 30 false false)).put G.next (.row [.string nm,qS H0.next s.rows.length (s.rows.length+9),Z0,Z0,Z0,Z0,Z0,iv s.miss] 30 false false)).get i=G.get i:=fun i hi=>by rw[AM (by rw[DL];omega) (by omega),AT hi]
 generalize (G.push (.row BT 30 false false)).put G.next (.row [.string nm,qS H0.next s.rows.length (s.rows.length+9),Z0,Z0,Z0,Z0,Z0,iv s.miss] 30 false false)=H1 at *
 generalize hDD:G.next=D at *
 have gAH1:H1.get h.next=.row [.string nm,vr,.slice aq s.queues.length cq,.slice av s.vars.length cv,.slice at_ s.tags.length ct,vu,vo,iv s.miss] 30 false false:=by rw[ggG _ (by omega),gG,o1 _ (by omega)];exact gA
 have gOH1:∀ i,i<h.next→H1.get i=h.get i:=fun i hi=>by rw[ggG _ (by omega),gG,o1 _ (by omega)];exact gO i hi
 have hL1:M3 H1 H0.next s.rows L:=⟨by rw[ggG _ (by omega)];exact hL0.g,hL0.len,hL0.own,hL0.marks⟩
 have gZ1:∀ i,i=h.next+1→H1.get i=H0.get i:=fun i hi=>by rw[ggG _ (by omega),gG,o1 _ (by omega)];rfl
 have P2:=p2.mono (h':=H1.fl (max H1.floor H1.next)) (by rw[DD];omega) fun i _ hi=>(gOH1 i hi)
 have w2:IntKind.i64.wrap ((s.queues.length:Int)+3)=((s.queues.length+3:Nat):Int):=B0 (by omega) (by omega)
 have mk2:=fun (H:AA)=>YX (h:=H) (n:=s.queues.length+3) Tryd.underlying26 MB VE Q6 rfl rfl (by decide) (by decide) (by omega)
 obtain⟨g2,k2,a1,a2,a3,a4,a5,a6,a7,a8,a9⟩:=XK (mk:=[.string J7,.bool false]) Tryd.underlying26 MB VE Q6 rfl (by decide) P2 (WR _) rfl rfl (by omega) (by rw[DD,C8];omega)
 rw[DD] at a1 a2 a4 a5 a6 a7 a9
 rw[C8] at a3 a8
 have sl2:=fun (H:AA)=>OX (h:=H) (id:=H1.next) (n:=s.queues.length+1) (m:=s.queues.length) (c:=s.queues.length+3) Tryd.underlying26 MB (by omega) (by unfold AJ;omega)
 have hfx:g2.fl (max H1.floor H1.next)=g2:=by rw[← a3];exact IB g2
 have ex:∀ i,i<H1.next→g2.get i=H1.get i:=a4
 have ez:∀ i,i<H1.next→k2.get i=H1.get i:=a9
 have e1:(H1.push (.row (C0 ((Value.agg #[.string ByteArray.empty,.bool false]).cells.toList) (s.queues.length+3)) 57 false false)).get h.next=.row [.string nm,vr,.slice aq s.queues.length cq,.slice av s.vars.length cv,.slice at_ s.tags.length ct,vu,vo,iv s.miss] 30 false false:=by rw[AT (by omega)];exact gAH1
 have e2:g2.get h.next=.row [.string nm,vr,.slice aq s.queues.length cq,.slice av s.vars.length cv,.slice at_ s.tags.length ct,vu,vo,iv s.miss] 30 false false:=by rw[ex _ (by omega)];exact gAH1
 have e3:k2.get h.next=.row [.string nm,vr,.slice aq s.queues.length cq,.slice av s.vars.length cv,.slice at_ s.tags.length ct,vu,vo,iv s.miss] 30 false false:=by rw[ez _ (by omega)];exact gAH1
 have gDk:(k2.fl H1.floor).get D=.row [.string nm,qS H0.next s.rows.length (s.rows.length+9),Z0,Z0,Z0,Z0,Z0,iv s.miss] 30 false false:=by rw[GL,ez _ (by omega)];exact gDH1
 have hA:(h.next<H1.next)=True:=by simp;omega
 have st2:BJ Tryd.prog (k2.fl H1.floor) 26 (qP D 2) (qS H1.next s.queues.length (s.queues.length+3))=_:=F5 Y0 rfl rfl gDk (by simp only[List.length_cons,List.length_nil];omega) (by rw[C8];omega)
 simp only[List.set_cons_succ,List.set_cons_zero] at st2
 simp only[eE,seval,↓eP]
 refine WK.flags (ops:=lM) Bi ?_
 refine BV.begin ?_
 refine AF hsn 0 (some 12) (.fieldAddr 30 (.tmp 1) 2) none ?_
 simp only[rG,seval,AB,AE,AD,Nat.zero_add,Nat.zero_add,FB]
 refine AF hsn 1 (some 13) (.load 26 (.tmp 12)) none ?_
 simp only[rG,seval,AB,AE,AD,B_,FL,gAH1,x2,hA]
 refine AF hsn 2 (some 14) (.call { callee:=.builtin .len,args:=#[.tmp 13],argTypes:=#[26] }) none ?_
 simp only[rG,seval,AB,AE,AD,CO,len2]
 refine AF hsn 3 (some 15) (.binOp .add 3 (.tmp 14) (.const (Value.int IntKind.i64 3)) 3) none ?_
 simp only[rG,seval,AB,AE,AD,Fsx,w2]
 refine AF hsn 4 (some 16) (.makeSlice 26 (.const (Value.int IntKind.i64 0)) (.tmp 15)) none ?_
 simp only[rG,seval,AB,AE,AD,mk2,EE]
 refine AF hsn 5 (some 17) (.fieldAddr 30 (.tmp 1) 2) none ?_
 simp only[rG,seval,AB,AE,AD,Nat.zero_add,Nat.zero_add,FB,EE,DK]
 refine AF hsn 6 (some 18) (.load 26 (.tmp 17)) none ?_
 simp only[rG,seval,AB,AE,AD,B_,FL,e1,x2,hA,EE,DK]
 refine AF hsn 7 (some 19) (.call { callee:=.builtin .append,args:=#[.tmp 16,.tmp 18],argTypes:=#[26,26] }) none ?_
 simp only[rG,seval,AB,AE,AD,CO,a1,EE,DK]
 refine AF hsn 8 (some 20) (.build 57 #[(0,.const (Value.string { data:=#[108,101,110,116] }))]) none ?_
 simp only[rG,seval,AB,AE,AD,List.map_cons,List.map_nil,m9,C8,D4]
 refine AF hsn 9 (some 21) (.buildSlice 26 1 #[(0,.tmp 20)]) none ?_
 simp only[rG,seval,AB,AE,AD,List.map_cons,List.map_nil,dX,EE,DD,C8,D4]
 refine AF hsn 10 (some 22) (.call { callee:=.builtin .append,args:=#[.tmp 19,.tmp 21],argTypes:=#[26,26] }) none ?_
 simp only[rG,seval,AB,AE,AD,CO,hfx,a5,EE,DK,C8,D4]
 refine AF hsn 11 (some 23) (.fieldAddr 30 (.tmp 1) 2) none ?_
 simp only[rG,seval,AB,AE,AD,Nat.zero_add,Nat.zero_add,FB,C8,D4]
 refine AF hsn 12 (some 24) (.load 26 (.tmp 23)) none ?_
 simp only[rG,seval,AB,AE,AD,B_,FL,e3,x2,hA,C8,GL,D4]
 refine AF hsn 13 (some 25) (.call { callee:=.builtin .len,args:=#[.tmp 24],argTypes:=#[26] }) none ?_
 simp only[rG,seval,AB,AE,AD,CO,len2,C8,D4]
 refine AF hsn 14 (some 26) (.slice 26 (.tmp 22) none (some (.tmp 25)) none) none ?_
 simp only[rG,seval,AB,AE,AD,B_,sl2,C8,D4]
 refine AF hsn 15 (some 27) (.fieldAddr 30 (.tmp 3) 2) none ?_
 simp only[rG,seval,AB,AE,AD,Nat.zero_add,Nat.zero_add,FB,C8,D4]
 refine AF hsn 16 (none) (.store 26 (.tmp 27) (.tmp 26)) none ?_
 simp only[rG,seval,AB,AE,AD,DO,ED,st2,C8,D4]
 refine BV.done (i:=17) (by kernel_rfl) ?_
 have nn2:((k2.fl H1.floor).put D (.row [.string nm,qS H0.next s.rows.length (s.rows.length+9),qS H1.next s.queues.length (s.queues.length+3),Z0,Z0,Z0,Z0,iv s.miss] 30 false false)).next=H1.next+2:=a7
 have ff2:((k2.fl H1.floor).put D (.row [.string nm,qS H0.next s.rows.length (s.rows.length+9),qS H1.next s.queues.length (s.queues.length+3),Z0,Z0,Z0,Z0,iv s.miss] 30 false false)).floor=H1.floor:=rfl
 have gg2:∀ i,i<H1.next→i≠D→((k2.fl H1.floor).put D (.row [.string nm,qS H0.next s.rows.length (s.rows.length+9),qS H1.next s.queues.length (s.queues.length+3),Z0,Z0,Z0,Z0,iv s.miss] 30 false false)).get i=H1.get i:=fun i hi hd=>by rw[AM (by rw[DD];omega) (Ne.symm hd),GL,ez i hi]
 have gDH2:((k2.fl H1.floor).put D (.row [.string nm,qS H0.next s.rows.length (s.rows.length+9),qS H1.next s.queues.length (s.queues.length+3),Z0,Z0,Z0,Z0,iv s.miss] 30 false false)).get D=.row [.string nm,qS H0.next s.rows.length (s.rows.length+9),qS H1.next s.queues.length (s.queues.length+3),Z0,Z0,Z0,Z0,iv s.miss] 30 false false:=BN rfl (by rw[DD];omega)
 have gl2:((k2.fl H1.floor).put D (.row [.string nm,qS H0.next s.rows.length (s.rows.length+9),qS H1.next s.queues.length (s.queues.length+3),Z0,Z0,Z0,Z0,iv s.miss] 30 false false)).get H1.next=k2.get H1.next:=by rw[AM (by rw[DD];omega) (by omega),GL]
 have L2:=a6.mono gl2
 clear gl2 gDk st2 a1 a4 a5 a6 a9 ex ez e1 e2 e3 hfx hA mk2
 generalize (k2.fl H1.floor).put D (.row [.string nm,qS H0.next s.rows.length (s.rows.length+9),qS H1.next s.queues.length (s.queues.length+3),Z0,Z0,Z0,Z0,iv s.miss] 30 false false)=H2 at *
 have gAH2:H2.get h.next=.row [.string nm,vr,.slice aq s.queues.length cq,.slice av s.vars.length cv,.slice at_ s.tags.length ct,vu,vo,iv s.miss] 30 false false:=(gg2 _ (by omega) (by omega)).trans gAH1
 have gOH2:∀ i,i<h.next→H2.get i=h.get i:=fun i hi=>(gg2 i (by omega) (by omega)).trans (gOH1 i hi)
 have P3:=p3.mono (h':=H2.fl (max H2.floor H2.next)) (by rw[DD];omega) fun i _ hi=>(gOH2 i hi)
 have w3:IntKind.i64.wrap ((s.vars.length:Int)+3)=((s.vars.length+3:Nat):Int):=B0 (by omega) (by omega)
 have mk3:=fun (H:AA)=>YX (h:=H) (n:=s.vars.length+3) Tryd.underlying27 GH PO NZ rfl rfl (by decide) (by decide) (by omega)
 obtain⟨g3,k3,a1,a2,a3,a4,a5,a6,a7,a8,a9⟩:=XK (mk:=[.string J7]) Tryd.underlying27 GH PO NZ rfl (by decide) P3 (R3 _) rfl rfl (by omega) (by rw[DD,C8];omega)
 rw[DD] at a1 a2 a4 a5 a6 a7 a9
 rw[C8] at a3 a8
 have sl3:=fun (H:AA)=>OX (h:=H) (id:=H2.next) (n:=s.vars.length+1) (m:=s.vars.length) (c:=s.vars.length+3) Tryd.underlying27 GH (by omega) (by unfold AJ;omega)
 have hfx:g3.fl (max H2.floor H2.next)=g3:=by rw[← a3];exact IB g3
 have ex:∀ i,i<H2.next→g3.get i=H2.get i:=a4
 have ez:∀ i,i<H2.next→k3.get i=H2.get i:=a9
 have e1:(H2.push (.row (C0 ((Value.string ByteArray.empty).cells.toList) (s.vars.length+3)) 9 false false)).get h.next=.row [.string nm,vr,.slice aq s.queues.length cq,.slice av s.vars.length cv,.slice at_ s.tags.length ct,vu,vo,iv s.miss] 30 false false:=by rw[AT (by omega)];exact gAH2
 have e2:g3.get h.next=.row [.string nm,vr,.slice aq s.queues.length cq,.slice av s.vars.length cv,.slice at_ s.tags.length ct,vu,vo,iv s.miss] 30 false false:=by rw[ex _ (by omega)];exact gAH2
 have e3:k3.get h.next=.row [.string nm,vr,.slice aq s.queues.length cq,.slice av s.vars.length cv,.slice at_ s.tags.length ct,vu,vo,iv s.miss] 30 false false:=by rw[ez _ (by omega)];exact gAH2
 have gDk:(k3.fl H2.floor).get D=.row [.string nm,qS H0.next s.rows.length (s.rows.length+9),qS H1.next s.queues.length (s.queues.length+3),Z0,Z0,Z0,Z0,iv s.miss] 30 false false:=by rw[GL,ez _ (by omega)];exact gDH2
 have hA:(h.next<H2.next)=True:=by simp;omega
 have st3:BJ Tryd.prog (k3.fl H2.floor) 27 (qP D 3) (qS H2.next s.vars.length (s.vars.length+3))=_:=F5 PA rfl rfl gDk (by simp only[List.length_cons,List.length_nil];omega) (by rw[C8];omega)
 simp only[List.set_cons_succ,List.set_cons_zero] at st3
 simp only[eE,seval,↓eP]
 refine WK.flags (ops:=iQ) Fa ?_
 refine BV.begin ?_
 refine AF hsn 0 (some 28) (.fieldAddr 30 (.tmp 1) 3) none ?_
 simp only[rG,seval,AB,AE,AD,Nat.zero_add,Nat.zero_add,GE]
 refine AF hsn 1 (some 29) (.load 27 (.tmp 28)) none ?_
 simp only[rG,seval,AB,AE,AD,B_,FH,gAH2,x3,hA]
 refine AF hsn 2 (some 30) (.call { callee:=.builtin .len,args:=#[.tmp 29],argTypes:=#[27] }) none ?_
 simp only[rG,seval,AB,AE,AD,CO,len3]
 refine AF hsn 3 (some 31) (.binOp .add 3 (.tmp 30) (.const (Value.int IntKind.i64 3)) 3) none ?_
 simp only[rG,seval,AB,AE,AD,Fsx,w3]
 refine AF hsn 4 (some 32) (.makeSlice 27 (.const (Value.int IntKind.i64 0)) (.tmp 31)) none ?_
 simp only[rG,seval,AB,AE,AD,mk3,EE]
 refine AF hsn 5 (some 33) (.fieldAddr 30 (.tmp 1) 3) none ?_
 simp only[rG,seval,AB,AE,AD,Nat.zero_add,Nat.zero_add,GE,EE,DK]
 refine AF hsn 6 (some 34) (.load 27 (.tmp 33)) none ?_
 simp only[rG,seval,AB,AE,AD,B_,FH,e1,x3,hA,EE,DK]
 refine AF hsn 7 (some 35) (.call { callee:=.builtin .append,args:=#[.tmp 32,.tmp 34],argTypes:=#[27,27] }) none ?_
 simp only[rG,seval,AB,AE,AD,CO,a1,EE,DK]
 refine AF hsn 8 (some 36) (.buildSlice 27 1 #[(0,.const (Value.string { data:=#[108,101,110,116] }))]) none ?_
 simp only[rG,seval,AB,AE,AD,List.map_cons,List.map_nil,RJ,EE,DD,C8,D4]
 refine AF hsn 9 (some 37) (.call { callee:=.builtin .append,args:=#[.tmp 35,.tmp 36],argTypes:=#[27,27] }) none ?_
 simp only[rG,seval,AB,AE,AD,CO,hfx,a5,EE,DK,C8,D4]
 refine AF hsn 10 (some 38) (.fieldAddr 30 (.tmp 1) 3) none ?_
 simp only[rG,seval,AB,AE,AD,Nat.zero_add,Nat.zero_add,GE,C8,D4]
 refine AF hsn 11 (some 39) (.load 27 (.tmp 38)) none ?_
 simp only[rG,seval,AB,AE,AD,B_,FH,e3,x3,hA,C8,GL,D4]
 refine AF hsn 12 (some 40) (.call { callee:=.builtin .len,args:=#[.tmp 39],argTypes:=#[27] }) none ?_
 simp only[rG,seval,AB,AE,AD,CO,len3,C8,D4]
 refine AF hsn 13 (some 41) (.slice 27 (.tmp 37) none (some (.tmp 40)) none) none ?_
 simp only[rG,seval,AB,AE,AD,B_,sl3,C8,D4]
 refine AF hsn 14 (some 42) (.fieldAddr 30 (.tmp 3) 3) none ?_
 simp only[rG,seval,AB,AE,AD,Nat.zero_add,Nat.zero_add,GE,C8,D4]
 refine AF hsn 15 (none) (.store 27 (.tmp 42) (.tmp 41)) none ?_
 simp only[rG,seval,AB,AE,AD,DO,ED,st3,C8,D4]
 refine BV.done (i:=16) (by kernel_rfl) ?_
 have nn3:((k3.fl H2.floor).put D (.row [.string nm,qS H0.next s.rows.length (s.rows.length+9),qS H1.next s.queues.length (s.queues.length+3),qS H2.next s.vars.length (s.vars.length+3),Z0,Z0,Z0,iv s.miss] 30 false false)).next=H2.next+2:=a7
 have ff3:((k3.fl H2.floor).put D (.row [.string nm,qS H0.next s.rows.length (s.rows.length+9),qS H1.next s.queues.length (s.queues.length+3),qS H2.next s.vars.length (s.vars.length+3),Z0,Z0,Z0,iv s.miss] 30 false false)).floor=H2.floor:=rfl
 have gg3:∀ i,i<H2.next→i≠D→((k3.fl H2.floor).put D (.row [.string nm,qS H0.next s.rows.length (s.rows.length+9),qS H1.next s.queues.length (s.queues.length+3),qS H2.next s.vars.length (s.vars.length+3),Z0,Z0,Z0,iv s.miss] 30 false false)).get i=H2.get i:=fun i hi hd=>by rw[AM (by rw[DD];omega) (Ne.symm hd),GL,ez i hi]
 have gDH3:((k3.fl H2.floor).put D (.row [.string nm,qS H0.next s.rows.length (s.rows.length+9),qS H1.next s.queues.length (s.queues.length+3),qS H2.next s.vars.length (s.vars.length+3),Z0,Z0,Z0,iv s.miss] 30 false false)).get D=.row [.string nm,qS H0.next s.rows.length (s.rows.length+9),qS H1.next s.queues.length (s.queues.length+3),qS H2.next s.vars.length (s.vars.length+3),Z0,Z0,Z0,iv s.miss] 30 false false:=BN rfl (by rw[DD];omega)
 have gl3:((k3.fl H2.floor).put D (.row [.string nm,qS H0.next s.rows.length (s.rows.length+9),qS H1.next s.queues.length (s.queues.length+3),qS H2.next s.vars.length (s.vars.length+3),Z0,Z0,Z0,iv s.miss] 30 false false)).get H2.next=k3.get H2.next:=by rw[AM (by rw[DD];omega) (by omega),GL]
 have L3:=a6.mono gl3
 clear gl3 gDk st3 a1 a4 a5 a6 a9 ex ez e1 e2 e3 hfx hA mk3
 generalize (k3.fl H2.floor).put D (.row [.string nm,qS H0.next s.rows.length (s.rows.length+9),qS H1.next s.queues.length (s.queues.length+3),qS H2.next s.vars.length (s.vars.length+3),Z0,Z0,Z0,iv s.miss] 30 false false)=H3 at *
 have gAH3:H3.get h.next=.row [.string nm,vr,.slice aq s.queues.length cq,.slice av s.vars.length cv,.slice at_ s.tags.length ct,vu,vo,iv s.miss] 30 false false:=(gg3 _ (by omega) (by omega)).trans gAH2
 have gOH3:∀ i,i<h.next→H3.get i=h.get i:=fun i hi=>(gg3 i (by omega) (by omega)).trans (gOH2 i hi)
 have P4:=p4.mono (h':=H3.fl (max H3.floor H3.next)) (by rw[DD];omega) fun i _ hi=>(gOH3 i hi)
 have w4:IntKind.i64.wrap ((s.tags.length:Int)+3)=((s.tags.length+3:Nat):Int):=B0 (by omega) (by omega)
 have mk4:=fun (H:AA)=>YX (h:=H) (n:=s.tags.length+3) Tryd.underlying27 GH PO NZ rfl rfl (by decide) (by decide) (by omega)
 obtain⟨g4,k4,a1,a2,a3,a4,a5,a6,a7,a8,a9⟩:=XK (mk:=[.string J7]) Tryd.underlying27 GH PO NZ rfl (by decide) P4 (R3 _) rfl rfl (by omega) (by rw[DD,C8];omega)
 rw[DD] at a1 a2 a4 a5 a6 a7 a9
 rw[C8] at a3 a8
 have sl4:=fun (H:AA)=>OX (h:=H) (id:=H3.next) (n:=s.tags.length+1) (m:=s.tags.length) (c:=s.tags.length+3) Tryd.underlying27 GH (by omega) (by unfold AJ;omega)
 have hfx:g4.fl (max H3.floor H3.next)=g4:=by rw[← a3];exact IB g4
 have ex:∀ i,i<H3.next→g4.get i=H3.get i:=a4
 have ez:∀ i,i<H3.next→k4.get i=H3.get i:=a9
 have e1:(H3.push (.row (C0 ((Value.string ByteArray.empty).cells.toList) (s.tags.length+3)) 9 false false)).get h.next=.row [.string nm,vr,.slice aq s.queues.length cq,.slice av s.vars.length cv,.slice at_ s.tags.length ct,vu,vo,iv s.miss] 30 false false:=by rw[AT (by omega)];exact gAH3
 have e2:g4.get h.next=.row [.string nm,vr,.slice aq s.queues.length cq,.slice av s.vars.length cv,.slice at_ s.tags.length ct,vu,vo,iv s.miss] 30 false false:=by rw[ex _ (by omega)];exact gAH3
 have e3:k4.get h.next=.row [.string nm,vr,.slice aq s.queues.length cq,.slice av s.vars.length cv,.slice at_ s.tags.length ct,vu,vo,iv s.miss] 30 false false:=by rw[ez _ (by omega)];exact gAH3
 have gDk:(k4.fl H3.floor).get D=.row [.string nm,qS H0.next s.rows.length (s.rows.length+9),qS H1.next s.queues.length (s.queues.length+3),qS H2.next s.vars.length (s.vars.length+3),Z0,Z0,Z0,iv s.miss] 30 false false:=by rw[GL,ez _ (by omega)];exact gDH3
 have hA:(h.next<H3.next)=True:=by simp;omega
 have st4:BJ Tryd.prog (k4.fl H3.floor) 27 (qP D 4) (qS H3.next s.tags.length (s.tags.length+3))=_:=F5 PA rfl rfl gDk (by simp only[List.length_cons,List.length_nil];omega) (by rw[C8];omega)
 simp only[List.set_cons_succ,List.set_cons_zero] at st4
 simp only[eE,seval,↓eP]
 refine WK.flags (ops:=jV) wO ?_
 refine BV.begin ?_
 refine AF hsn 0 (some 43) (.fieldAddr 30 (.tmp 1) 4) none ?_
 simp only[rG,seval,AB,AE,AD,Nat.zero_add,Nat.zero_add,GF]
 refine AF hsn 1 (some 44) (.load 27 (.tmp 43)) none ?_
 simp only[rG,seval,AB,AE,AD,B_,FH,gAH3,x4,hA]
 refine AF hsn 2 (some 45) (.call { callee:=.builtin .len,args:=#[.tmp 44],argTypes:=#[27] }) none ?_
 simp only[rG,seval,AB,AE,AD,CO,len4]
 refine AF hsn 3 (some 46) (.binOp .add 3 (.tmp 45) (.const (Value.int IntKind.i64 3)) 3) none ?_
 simp only[rG,seval,AB,AE,AD,Fsx,w4]
 refine AF hsn 4 (some 47) (.makeSlice 27 (.const (Value.int IntKind.i64 0)) (.tmp 46)) none ?_
 simp only[rG,seval,AB,AE,AD,mk4,EE]
 refine AF hsn 5 (some 48) (.fieldAddr 30 (.tmp 1) 4) none ?_
 simp only[rG,seval,AB,AE,AD,Nat.zero_add,Nat.zero_add,GF,EE,DK]
 refine AF hsn 6 (some 49) (.load 27 (.tmp 48)) none ?_
 simp only[rG,seval,AB,AE,AD,B_,FH,e1,x4,hA,EE,DK]
 refine AF hsn 7 (some 50) (.call { callee:=.builtin .append,args:=#[.tmp 47,.tmp 49],argTypes:=#[27,27] }) none ?_
 simp only[rG,seval,AB,AE,AD,CO,a1,EE,DK]
 refine AF hsn 8 (some 51) (.buildSlice 27 1 #[(0,.const (Value.string { data:=#[108,101,110,116] }))]) none ?_
 simp only[rG,seval,AB,AE,AD,List.map_cons,List.map_nil,RJ,EE,DD,C8,D4]
 refine AF hsn 9 (some 52) (.call { callee:=.builtin .append,args:=#[.tmp 50,.tmp 51],argTypes:=#[27,27] }) none ?_
 simp only[rG,seval,AB,AE,AD,CO,hfx,a5,EE,DK,C8,D4]
 refine AF hsn 10 (some 53) (.fieldAddr 30 (.tmp 1) 4) none ?_
 simp only[rG,seval,AB,AE,AD,Nat.zero_add,Nat.zero_add,GF,C8,D4]
 refine AF hsn 11 (some 54) (.load 27 (.tmp 53)) none ?_
 simp only[rG,seval,AB,AE,AD,B_,FH,e3,x4,hA,C8,GL,D4]
 refine AF hsn 12 (some 55) (.call { callee:=.builtin .len,args:=#[.tmp 54],argTypes:=#[27] }) none ?_
 simp only[rG,seval,AB,AE,AD,CO,len4,C8,D4]
 refine AF hsn 13 (some 56) (.slice 27 (.tmp 52) none (some (.tmp 55)) none) none ?_
 simp only[rG,seval,AB,AE,AD,B_,sl4,C8,D4]
 refine AF hsn 14 (some 57) (.fieldAddr 30 (.tmp 3) 4) none ?_
 simp only[rG,seval,AB,AE,AD,Nat.zero_add,Nat.zero_add,GF,C8,D4]
 refine AF hsn 15 (none) (.store 27 (.tmp 57) (.tmp 56)) none ?_
 simp only[rG,seval,AB,AE,AD,DO,ED,st4,C8,D4]
 refine BV.done (i:=16) (by kernel_rfl) ?_
 have nn4:((k4.fl H3.floor).put D (.row [.string nm,qS H0.next s.rows.length (s.rows.length+9),qS H1.next s.queues.length (s.queues.length+3),qS H2.next s.vars.length (s.vars.length+3),qS H3.next s.tags.length (s.tags.length+3),Z0,Z0,iv s.miss] 30 false false)).next=H3.next+2:=a7
 have ff4:((k4.fl H3.floor).put D (.row [.string nm,qS H0.next s.rows.length (s.rows.length+9),qS H1.next s.queues.length (s.queues.length+3),qS H2.next s.vars.length (s.vars.length+3),qS H3.next s.tags.length (s.tags.length+3),Z0,Z0,iv s.miss] 30 false false)).floor=H3.floor:=rfl
 have gg4:∀ i,i<H3.next→i≠D→((k4.fl H3.floor).put D (.row [.string nm,qS H0.next s.rows.length (s.rows.length+9),qS H1.next s.queues.length (s.queues.length+3),qS H2.next s.vars.length (s.vars.length+3),qS H3.next s.tags.length (s.tags.length+3),Z0,Z0,iv s.miss] 30 false false)).get i=H3.get i:=fun i hi hd=>by rw[AM (by rw[DD];omega) (Ne.symm hd),GL,ez i hi]
 have gDH4:((k4.fl H3.floor).put D (.row [.string nm,qS H0.next s.rows.length (s.rows.length+9),qS H1.next s.queues.length (s.queues.length+3),qS H2.next s.vars.length (s.vars.length+3),qS H3.next s.tags.length (s.tags.length+3),Z0,Z0,iv s.miss] 30 false false)).get D=.row [.string nm,qS H0.next s.rows.length (s.rows.length+9),qS H1.next s.queues.length (s.queues.length+3),qS H2.next s.vars.length (s.vars.length+3),qS H3.next s.tags.length (s.tags.length+3),Z0,Z0,iv s.miss] 30 false false:=BN rfl (by rw[DD];omega)
 have gl4:((k4.fl H3.floor).put D (.row [.string nm,qS H0.next s.rows.length (s.rows.length+9),qS H1.next s.queues.length (s.queues.length+3),qS H2.next s.vars.length (s.vars.length+3),qS H3.next s.tags.length (s.tags.length+3),Z0,Z0,iv s.miss] 30 false false)).get H3.next=k4.get H3.next:=by rw[AM (by rw[DD];omega) (by omega),GL]
 have L4:=a6.mono gl4
 clear gl4 gDk st4 a1 a4 a5 a6 a9 ex ez e1 e2 e3 hfx hA mk4
 generalize (k4.fl H3.floor).put D (.row [.string nm,qS H0.next s.rows.length (s.rows.length+9),qS H1.next s.queues.length (s.queues.length+3),qS H2.next s.vars.length (s.vars.length+3),qS H3.next s.tags.length (s.tags.length+3),Z0,Z0,iv s.miss] 30 false false)=H4 at *
 have gAH4:H4.get h.next=.row [.string nm,vr,.slice aq s.queues.length cq,.slice av s.vars.length cv,.slice at_ s.tags.length ct,vu,vo,iv s.miss] 30 false false:=(gg4 _ (by omega) (by omega)).trans gAH3
 have gOH4:∀ i,i<h.next→H4.get i=h.get i:=fun i hi=>(gg4 i (by omega) (by omega)).trans (gOH3 i hi)
 have P5:AK lo H4 vu s.rules:=AK.mono p5 (by omega) fun i _ hi=>gOH4 i hi
 obtain⟨j5,hc5,l5,m5,f5,o5⟩:=kC (n:=n) P5 hl2.1 (by omega) (by omega)
 have gA5:j5.get h.next=.row [.string nm,vr,.slice aq s.queues.length cq,.slice av s.vars.length cv,.slice at_ s.tags.length ct,vu,vo,iv s.miss] 30 false false:=by rw[o5 _ (by omega)];exact gAH4
 have gD5:j5.get D=.row [.string nm,qS H0.next s.rows.length (s.rows.length+9),qS H1.next s.queues.length (s.queues.length+3),qS H2.next s.vars.length (s.vars.length+3),qS H3.next s.tags.length (s.tags.length+3),Z0,Z0,iv s.miss] 30 false false:=by rw[o5 _ (by omega)];exact gDH4
 have N9:BJ Tryd.prog j5 28 (qP D 5) (qS H4.next s.rules.length (s.rules.length+3))=_:=F5 JI rfl rfl gD5 (by simp only[List.length_cons,List.length_nil];omega) (by omega)
 simp only[List.set_cons_succ,List.set_cons_zero] at N9
 simp only[eE,seval,↓eP,Nat.zero_add,GU,CX,gAH4,x5,hc5,N9]
 have nn5:(j5.put D (.row [.string nm,qS H0.next s.rows.length (s.rows.length+9),qS H1.next s.queues.length (s.queues.length+3),qS H2.next s.vars.length (s.vars.length+3),qS H3.next s.tags.length (s.tags.length+3),qS H4.next s.rules.length (s.rules.length+3),Z0,iv s.miss] 30 false false)).next=H4.next+2:=m5
 have ff5:(j5.put D (.row [.string nm,qS H0.next s.rows.length (s.rows.length+9),qS H1.next s.queues.length (s.queues.length+3),qS H2.next s.vars.length (s.vars.length+3),qS H3.next s.tags.length (s.tags.length+3),qS H4.next s.rules.length (s.rules.length+3),Z0,iv s.miss] 30 false false)).floor=H4.floor:=f5
 have gD5':(j5.put D (.row [.string nm,qS H0.next s.rows.length (s.rows.length+9),qS H1.next s.queues.length (s.queues.length+3),qS H2.next s.vars.length (s.vars.length+3),qS H3.next s.tags.length (s.tags.length+3),qS H4.next s.rules.length (s.rules.length+3),Z0,iv s.miss] 30 false false)).get D=.row [.string nm,qS H0.next s.rows.length (s.rows.length+9),qS H1.next s.queues.length (s.queues.length+3),qS H2.next s.vars.length (s.vars.length+3),qS H3.next s.tags.length (s.tags.length+3),qS H4.next s.rules.length (s.rules.length+3),Z0,iv s.miss] 30 false false:=BN rfl (by omega)
 have gg5:∀ i,i<H4.next→i≠D→(j5.put D (.row [.string nm,qS H0.next s.rows.length (s.rows.length+9),qS H1.next s.queues.length (s.queues.length+3),qS H2.next s.vars.length (s.vars.length+3),qS H3.next s.tags.length (s.tags.length+3),qS H4.next s.rules.length (s.rules.length+3),Z0,iv s.miss] 30 false false)).get i=H4.get i:=fun i hi hd=>by rw[AM (by omega) (Ne.symm hd),o5 i hi]
 have L5:=l5.mono (h':=j5.put D (.row [.string nm,qS H0.next s.rows.length (s.rows.length+9),qS H1.next s.queues.length (s.queues.length+3),qS H2.next s.vars.length (s.vars.length+3),qS H3.next s.tags.length (s.tags.length+3),qS H4.next s.rules.length (s.rules.length+3),Z0,iv s.miss] 30 false false)) (by rw[AM (by omega) (by omega)])
 clear gA5 gD5 N9 hc5
 generalize j5.put D (.row [.string nm,qS H0.next s.rows.length (s.rows.length+9),qS H1.next s.queues.length (s.queues.length+3),qS H2.next s.vars.length (s.vars.length+3),qS H3.next s.tags.length (s.tags.length+3),qS H4.next s.rules.length (s.rules.length+3),Z0,iv s.miss] 30 false false)=H5 at *
 have gAH5:H5.get h.next=.row [.string nm,vr,.slice aq s.queues.length cq,.slice av s.vars.length cv,.slice at_ s.tags.length ct,vu,vo,iv s.miss] 30 false false:=(gg5 _ (by omega) (by omega)).trans gAH4
 have gOH5:∀ i,i<h.next→H5.get i=h.get i:=fun i hi=>(gg5 i (by omega) (by omega)).trans (gOH4 i hi)
 have P6:AK lo H5 vo s.on:=AK.mono p6 (by omega) fun i _ hi=>gOH5 i hi
 obtain⟨j6,hc6,l6,m6,f6,o6⟩:=kC (n:=n) P6 hl2.2 (by omega) (by omega)
 have gA6:j6.get h.next=.row [.string nm,vr,.slice aq s.queues.length cq,.slice av s.vars.length cv,.slice at_ s.tags.length ct,vu,vo,iv s.miss] 30 false false:=by rw[o6 _ (by omega)];exact gAH5
 have gD6:j6.get D=.row [.string nm,qS H0.next s.rows.length (s.rows.length+9),qS H1.next s.queues.length (s.queues.length+3),qS H2.next s.vars.length (s.vars.length+3),qS H3.next s.tags.length (s.tags.length+3),qS H4.next s.rules.length (s.rules.length+3),Z0,iv s.miss] 30 false false:=by rw[o6 _ (by omega)];exact gD5'
 have st6:BJ Tryd.prog j6 28 (qP D 6) (qS H5.next s.on.length (s.on.length+3))=_:=F5 JI rfl rfl gD6 (by simp only[List.length_cons,List.length_nil];omega) (by omega)
 simp only[List.set_cons_succ,List.set_cons_zero] at st6
 simp only[eE,seval,↓eP,Nat.zero_add,HN,CX,gAH5,x6,hc6,st6]
 have nn6:(j6.put D (.row [.string nm,qS H0.next s.rows.length (s.rows.length+9),qS H1.next s.queues.length (s.queues.length+3),qS H2.next s.vars.length (s.vars.length+3),qS H3.next s.tags.length (s.tags.length+3),qS H4.next s.rules.length (s.rules.length+3),qS H5.next s.on.length (s.on.length+3),iv s.miss] 30 false false)).next=H5.next+2:=m6
 have ff6:(j6.put D (.row [.string nm,qS H0.next s.rows.length (s.rows.length+9),qS H1.next s.queues.length (s.queues.length+3),qS H2.next s.vars.length (s.vars.length+3),qS H3.next s.tags.length (s.tags.length+3),qS H4.next s.rules.length (s.rules.length+3),qS H5.next s.on.length (s.on.length+3),iv s.miss] 30 false false)).floor=H5.floor:=f6
 have gD6':(j6.put D (.row [.string nm,qS H0.next s.rows.length (s.rows.length+9),qS H1.next s.queues.length (s.queues.length+3),qS H2.next s.vars.length (s.vars.length+3),qS H3.next s.tags.length (s.tags.length+3),qS H4.next s.rules.length (s.rules.length+3),qS H5.next s.on.length (s.on.length+3),iv s.miss] 30 false false)).get D=.row [.string nm,qS H0.next s.rows.length (s.rows.length+9),qS H1.next s.queues.length (s.queues.length+3),qS H2.next s.vars.length (s.vars.length+3),qS H3.next s.tags.length (s.tags.length+3),qS H4.next s.rules.length (s.rules.length+3),qS H5.next s.on.length (s.on.length+3),iv s.miss] 30 false false:=BN rfl (by omega)
 have gg6:∀ i,i<H5.next→i≠D→(j6.put D (.row [.string nm,qS H0.next s.rows.length (s.rows.length+9),qS H1.next s.queues.length (s.queues.length+3),qS H2.next s.vars.length (s.vars.length+3),qS H3.next s.tags.length (s.tags.length+3),qS H4.next s.rules.length (s.rules.length+3),qS H5.next s.on.length (s.on.length+3),iv s.miss] 30 false false)).get i=H5.get i:=fun i hi hd=>by rw[AM (by omega) (Ne.symm hd),o6 i hi]
 have L6:=l6.mono (h':=j6.put D (.row [.string nm,qS H0.next s.rows.length (s.rows.length+9),qS H1.next s.queues.length (s.queues.length+3),qS H2.next s.vars.length (s.vars.length+3),qS H3.next s.tags.length (s.tags.length+3),qS H4.next s.rules.length (s.rules.length+3),qS H5.next s.on.length (s.on.length+3),iv s.miss] 30 false false)) (by rw[AM (by omega) (by omega)])
 clear gA6 gD6 st6 hc6
 generalize j6.put D (.row [.string nm,qS H0.next s.rows.length (s.rows.length+9),qS H1.next s.queues.length (s.queues.length+3),qS H2.next s.vars.length (s.vars.length+3),qS H3.next s.tags.length (s.tags.length+3),qS H4.next s.rules.length (s.rules.length+3),qS H5.next s.on.length (s.on.length+3),iv s.miss] 30 false false)=H6 at *
 have gOH6:∀ i,i<h.next→H6.get i=h.get i:=fun i hi=>(gg6 i (by omega) (by omega)).trans (gOH5 i hi)
 have lD:CB 8 0 (H6.get D)=some (.agg #[.string nm,qS H0.next s.rows.length (s.rows.length+9),qS H1.next s.queues.length (s.queues.length+3),qS H2.next s.vars.length (s.vars.length+3),qS H3.next s.tags.length (s.tags.length+3),qS H4.next s.rules.length (s.rules.length+3),qS H5.next s.on.length (s.on.length+3),iv s.miss]):=M4 gD6' rfl
 have gZ6:H6.get (h.next+1)=.row BT 30 false false:=by
  rw[gg6 _ (by omega) (by omega),gg5 _ (by omega) (by omega),gg4 _ (by omega) (by omega),gg3 _ (by omega) (by omega),gg2 _ (by omega) (by omega),gZ1 _ rfl]
  exact gZ
 have st7:BJ Tryd.prog H6 30 (qP (h.next+1) 0) _=_:=H_ HR (vs:=[.string nm,qS H0.next s.rows.length (s.rows.length+9),qS H1.next s.queues.length (s.queues.length+3),qS H2.next s.vars.length (s.vars.length+3),qS H3.next s.tags.length (s.tags.length+3),qS H4.next s.rules.length (s.rules.length+3),qS H5.next s.on.length (s.on.length+3),iv s.miss]) gZ6 rfl rfl rfl (by omega)
 have lZ:CB 8 0 ((H6.put (h.next+1) (.row [.string nm,qS H0.next s.rows.length (s.rows.length+9),qS H1.next s.queues.length (s.queues.length+3),qS H2.next s.vars.length (s.vars.length+3),qS H3.next s.tags.length (s.tags.length+3),qS H4.next s.rules.length (s.rules.length+3),qS H5.next s.on.length (s.on.length+3),iv s.miss] 30 false false)).get (h.next+1))=some (.agg #[.string nm,qS H0.next s.rows.length (s.rows.length+9),qS H1.next s.queues.length (s.queues.length+3),qS H2.next s.vars.length (s.vars.length+3),qS H3.next s.tags.length (s.tags.length+3),qS H4.next s.rules.length (s.rules.length+3),qS H5.next s.on.length (s.on.length+3),iv s.miss]):=M4 (BN rfl (by omega)) rfl
 simp only[eE,seval,↓eP,hr,I1,lD,st7,lZ]
 have gg7:∀ i,i<H6.next→i≠h.next+1→(H6.put (h.next+1) (.row [.string nm,qS H0.next s.rows.length (s.rows.length+9),qS H1.next s.queues.length (s.queues.length+3),qS H2.next s.vars.length (s.vars.length+3),qS H3.next s.tags.length (s.tags.length+3),qS H4.next s.rules.length (s.rules.length+3),qS H5.next s.on.length (s.on.length+3),iv s.miss] 30 false false)).get i=H6.get i:=fun i hi hd=>AM (by omega) (Ne.symm hd)
 have nn7:(H6.put (h.next+1) (.row [.string nm,qS H0.next s.rows.length (s.rows.length+9),qS H1.next s.queues.length (s.queues.length+3),qS H2.next s.vars.length (s.vars.length+3),qS H3.next s.tags.length (s.tags.length+3),qS H4.next s.rules.length (s.rules.length+3),qS H5.next s.on.length (s.on.length+3),iv s.miss] 30 false false)).next=H6.next:=rfl
 have ff7:(H6.put (h.next+1) (.row [.string nm,qS H0.next s.rows.length (s.rows.length+9),qS H1.next s.queues.length (s.queues.length+3),qS H2.next s.vars.length (s.vars.length+3),qS H3.next s.tags.length (s.tags.length+3),qS H4.next s.rules.length (s.rules.length+3),qS H5.next s.on.length (s.on.length+3),iv s.miss] 30 false false)).floor=H6.floor:=rfl
 generalize H6.put (h.next+1) (.row [.string nm,qS H0.next s.rows.length (s.rows.length+9),qS H1.next s.queues.length (s.queues.length+3),qS H2.next s.vars.length (s.vars.length+3),qS H3.next s.tags.length (s.tags.length+3),qS H4.next s.rules.length (s.rules.length+3),qS H5.next s.on.length (s.on.length+3),iv s.miss] 30 false false)=H7 at *
 refine⟨⟨fun i=>if i=1 then H0.next else if i=2 then H1.next else if i=3 then H2.next else if i=4 then H3.next else if i=5 then H4.next else H5.next,rfl,?_,⟨L,?_,hL1.len,hL1.own,hL1.marks⟩,L2.mono ?_,L3.mono ?_,L4.mono ?_,L5.mono ?_,L6.mono ?_⟩,by omega,by omega,fun i hi=>by rw[gg7 _ (by omega) (by omega)];exact gOH6 i hi⟩
 ·simp only[↓reduceIte,Nat.reduceEqDiff]
  omega
 ·show H7.get H0.next=_
  rw[gg7 _ (by omega) (by omega),gg6 _ (by omega) (by omega),gg5 _ (by omega) (by omega),gg4 _ (by omega) (by omega),gg3 _ (by omega) (by omega),gg2 _ (by omega) (by omega)]
  exact hL1.g
 ·show H7.get H1.next=_
  rw[gg7 _ (by omega) (by omega),gg6 _ (by omega) (by omega),gg5 _ (by omega) (by omega),gg4 _ (by omega) (by omega),gg3 _ (by omega) (by omega)]
 ·show H7.get H2.next=_
  rw[gg7 _ (by omega) (by omega),gg6 _ (by omega) (by omega),gg5 _ (by omega) (by omega),gg4 _ (by omega) (by omega)]
 ·show H7.get H3.next=_
  rw[gg7 _ (by omega) (by omega),gg6 _ (by omega) (by omega),gg5 _ (by omega) (by omega)]
 ·show H7.get H4.next=_
  rw[gg7 _ (by omega) (by omega),gg6 _ (by omega) (by omega)]
 ·show H7.get H5.next=_
  rw[gg7 _ (by omega) (by omega)]
theorem Cj {nm:ByteArray} {s:AP} {pv:Value} {lo:Nat} (hp:C1 lo h pv nm s) (hs:HV s) (hl:s.rows.length<2932031007403) (hl2:s.rules.length<2932031007403∧s.on.length<2932031007403) (hfl:h.floor≤h.next) (hn:30<n) :
  ∃ v' h',AX n 21 [pv] h=some (v',h')∧(∃ o,LT h' h.next v' nm s o)∧h.next≤h'.next∧h'.floor=h.floor∧∀ i,i<h.next→h'.get i=h.get i:=by
 obtain⟨n,rfl⟩:=D7 hn
 refine NG (CN ⟨rfl,rfl,rfl⟩) (yH hp hs hl hl2 hfl (by omega)) fun v' h1 hf ho ⟨⟨o,hL⟩,_⟩=>?_
 rw[hL.v] at hf
 cases hf
end
theorem kG {h:AA} {o:Nat} {l L:List AC} (hL:M3 h o l L) (ho:o<h.next):AV h (qS o l.length (l.length+9)) l:=by
 refine⟨_,_,rfl,.inr ⟨o,0,_,_,_,_,rfl,hL.g,ho,fun k r hk=>?_⟩⟩
 have hkl:=(List.getElem?_eq_some_iff.1 hk).1
 rw[Nat.zero_add]
 exact N5 ((hL.own k hkl).trans hk)
theorem HL.size {h:AA} {o n w:Nat} {cs mk z:List Value} {e:TypeId} (hl:HL h o n w cs mk z e):(cs++(mk++C0 z 2)).length=(n+3)*w:=by
 rw[List.length_append,List.length_append,US,hl.len,hl.mlen,hl.zlen]
 simp only[Nat.add_mul]
 omega
section
variable {n N:Nat} {h:AA}
end
theorem LT.pol {h:AA} {b:Nat} {v:Value} {nm:ByteArray} {s:AP} {o:Nat→Nat} (hL:LT h b v nm s o):C1 0 h v nm s:=by
 obtain⟨rfl,⟨u1,u2,u3,u4,u5,u6,u7⟩,⟨L,L1⟩,L2,L3,L4,L5,L6⟩:=hL
 exact⟨_,_,_,_,_,_,rfl,AV.cells (kG L1 (by omega)),L2.cells ⟨Nat.zero_le _,by omega⟩,L3.cells ⟨Nat.zero_le _,by omega⟩,L4.cells ⟨Nat.zero_le _,by omega⟩,L5.cells ⟨Nat.zero_le _,by omega⟩,L6.cells ⟨Nat.zero_le _,by omega⟩⟩
theorem LT.mono {h h':AA} {b:Nat} {v:Value} {nm:ByteArray} {s:AP} {o:Nat→Nat} (hL:LT h b v nm s o) (hn:h.next≤h'.next) (hg:∀ i,i<h.next→h'.get i=h.get i):LT h' b v nm s o:=by
 obtain⟨hv,⟨u1,u2,u3,u4,u5,u6,u7⟩,⟨L,L1⟩,L2,L3,L4,L5,L6⟩:=hL
 exact⟨hv,⟨u1,u2,u3,u4,u5,u6,by omega⟩,⟨L,by rw[hg _ (by omega)];exact L1.g,L1.len,L1.own,L1.marks⟩,L2.mono (hg _ (by omega)),L3.mono (hg _ (by omega)),L4.mono (hg _ (by omega)),L5.mono (hg _ (by omega)),L6.mono (hg _ (by omega))⟩
theorem LT.lies {h:AA} {b:Nat} {v:Value} {nm:ByteArray} {s:AP} {o:Nat→Nat} (hL:LT h b v nm s o):∀ nm' vr vq vv vt vu vo m,v=.agg #[.string nm',vr,vq,vv,vt,vu,vo,m]→PK vr s.rows.length:=by
 intro nm' vr vq vv vt vu vo m hv
 rw[hL.v] at hv
 simp only[Value.agg.injEq,Array.mk.injEq,List.cons.injEq] at hv
 obtain⟨_,h1,_⟩:=hv
 subst h1
 exact⟨_,_,_,rfl⟩
section
variable {n N:Nat} {h:AA}
end
theorem Qg {call:AQ} {N:Nat} {h:AA} {a m:Int} (hm:0<m∧m<2932031007403):A8 Tryd.prog call N 40 [iv a,iv m] h=some (iv (a%m),h):=by
 refine D_ Tryd.func40 rfl (by simp[Tryd.f40]) ?_
 have hr:Tryd.f40.results.toList=[.tmp 4]:=rfl
 have h1:=WH (P:=Tryd.prog) (t:=3) (x:=.tmp 6) (y:=.tmp 7) (k:=.i64) (a:=a) (show m≠0 by omega)
 have h2:=Int.tmod_add_mul_tdiv a m
 have h3:=Int.emod_add_mul_ediv a m
 have h4:=Int.emod_nonneg a (show m≠0 by omega)
 have h5:=Int.emod_lt_of_pos a hm.1
 have h6:=Int.tmod_lt_of_pos a hm.1
 have h7:-m<a.tmod m:=by
  have:=Int.tmod_lt_of_pos (-a) hm.1
  rw[Int.neg_tmod] at this
  omega
 have h8:(a-a.tmod m)%m=0:=by rw[show a-a.tmod m=m*(a.tdiv m) by omega];exact Int.mul_emod_right _ _
 have h9:a%m=(a.tmod m)%m:=by
  have:=Int.emod_emod_of_dvd a (Int.dvd_refl m)
  have e:=Int.add_emod (a-a.tmod m) (a.tmod m) m
  rw[Int.sub_add_cancel,h8,Int.zero_add,Int.emod_emod] at e
  exact e
 cases d:decide (a.tmod m<0) with
 | true=>
  have d':=of_decide_eq_true d
  have w:IntKind.i64.wrap (a.tmod m+m)=a%m:=by
   rw[B0 (by omega) (by omega),h9,← Int.add_emod_right,Int.emod_eq_of_lt (by omega) (by omega)]
  simp only[eE,seval,↓eP,hr,h1,d,w]
 | false=>
  have d':=of_decide_eq_false d
  have w:a.tmod m=a%m:=by rw[h9,Int.emod_eq_of_lt (by omega) (by omega)]
  rw[w] at d h1
  simp only[eE,seval,↓eP,hr,h1,d]
theorem uY {n:Nat} {h:AA} {a m:Int} (hm:0<m∧m<2932031007403) (hn:0<n):AX n 40 [iv a,iv m] h=some (iv (a%m),h):=by
 obtain⟨n,rfl⟩:=D7 hn
 exact JD (CN ⟨rfl,rfl,rfl⟩) rfl (Qg hm)
def GI (h:AA) (lo:Nat) (v:Value) (l:List Int) (id:Nat):Prop:=(v=Z0∧l=[]∧id=0)∨(v=qS id l.length AJ∧lo≤id∧id<h.next∧h.get id=.row (ints l) 3 true false)
section
variable {h h':AA} {lo id:Nat} {v:Value} {l:List Int}
theorem GI.mono (hl:GI h lo v l id) (hn:h.next≤h'.next) (hg:lo≤id→id<h.next→h'.get id=h.get id):GI h' lo v l id:=by
 rcases hl with h1 | ⟨h1,h2,h3,h4⟩
 ·exact .inl h1
 ·exact .inr ⟨h1,h2,by omega,by rw[hg h2 h3];exact h4⟩
theorem GI.ints (hl:GI h lo v l id) {lo':Nat} (hle:lo'≤lo):AK lo' h v l:=by
 rcases hl with⟨rfl,rfl,_⟩ | ⟨rfl,h2,h3,h4⟩
 ·exact AZ.nil lo' h 1
 ·exact AZ.row (ex:=[]) (by rw[List.append_nil];exact h4) ⟨by omega,h3⟩ (by rw[FP];omega)
theorem sD {x:Int} (hl:GI h lo v l id) (h0:0<lo) (hlo:lo≤h.next) (hf:h.floor≤lo) (hb:l.length<1000000) :
  ∃ v' h' id',DF Tryd.prog (h.push (.row [iv x] 3 false false)) 28 v (qS h.next 1 1)=some (v',h')∧GI h' lo v' (l++[x]) id'∧h.next≤id'∧h'.floor=h.floor∧h.next≤h'.next∧∀ i,i<h.next→(lo≤i→i≠id)→h'.get i=h.get i:=by
 have hsrc:C_ (h.push (.row [iv x] 3 false false)) 1 1 (qS h.next 1 1)=some [iv x]:=by
  simp only[C_,BP]
  rfl
 have hone:([iv x]:List Value).all one=true:=rfl
 have hi1:ints (l++[x])=ints l++[iv x]:=by simp[Go.Proofs.YtipekdhneagdbaaDoor.ints]
 have hsz:(Value.int IntKind.i64 0).cells.size=1:=rfl
 rcases hl with⟨rfl,rfl,rfl⟩ | ⟨rfl,h2,h3,hg⟩
 ·have hnu:(0:Nat)≠AJ:=by unfold AJ;omega
  have hs0:C_ (h.push (.row [iv x] 3 false false)) 1 0 (Z0)=some []:=by simp[C_]
  refine⟨.slice (some ⟨(h.push (.row [iv x] 3 false false)).next,0,none⟩) 1 AJ,(h.push (.row [iv x] 3 false false)).push (.row [iv x] 3 true false),h.next+1,?_,.inr ⟨rfl,by omega,by show h.next+1<h.next+1+1;omega,BP (h:=h.push (.row [iv x] 3 false false))⟩,by omega,rfl,by show h.next≤h.next+1+1;omega,fun i hi _=>?_⟩
  ·simp only[DF,Tryd.underlying28,CQ,LC,JM,hsz,hsrc,hone,hs0]
   rw[if_pos (by simp),if_pos trivial,if_neg hnu,if_neg (by omega),if_pos (by simp)]
   rfl
  ·rw[AT (by show i<h.next+1;omega),AT (by omega)]
 ·have hu:l.length≤AJ:=by unfold AJ;omega
  have hg':(h.push (.row [iv x] 3 false false)).get id=.row (Go.Proofs.YtipekdhneagdbaaDoor.ints l) 3 true false:=by rw[AT h3];exact hg
  have hll:(Go.Proofs.YtipekdhneagdbaaDoor.ints l).length=l.length:=FP l
  have hcut:F2 (Go.Proofs.YtipekdhneagdbaaDoor.ints l) 0 (l.length*1)=some (Go.Proofs.YtipekdhneagdbaaDoor.ints l):=by
   simp only[F2,List.drop_zero]
   rw[List.take_of_length_le (by omega),if_pos (by omega)]
  refine⟨.slice (some ⟨(h.push (.row [iv x] 3 false false)).next,0,none⟩) (l.length+1) AJ,((h.push (.row [iv x] 3 false false)).put id .dead).push (.row (Go.Proofs.YtipekdhneagdbaaDoor.ints l++[iv x]) 3 true false),h.next+1,?_,.inr ⟨by rw[List.length_append];rfl,by omega,by show h.next+1<h.next+1+1;omega,?_⟩,by omega,rfl,by show h.next≤h.next+1+1;omega,fun i hi hne=>?_⟩
  ·simp only[DF,Tryd.underlying28,CQ,LC,JM,hsz,hsrc,hone,hg',hcut,PE]
   rw[if_pos (by simp;omega),if_pos trivial,if_pos trivial,if_pos (by rw[DK,decide_eq_true (show (l.length+1)*8≤140737488355328 by omega),decide_eq_true (show l.length+1≤140737488355328 by omega),decide_eq_true (show h.floor≤id by omega)];rfl),if_neg (by decide),if_pos trivial,if_pos trivial]
  ·rw[hi1]
   exact BP (h:=(h.push (.row [iv x] 3 false false)).put id .dead)
  ·rw[AT (by show i<h.next+1;omega),AM (by show id<h.next+1;omega) (fun e=>by subst e;exact hne h2 rfl),AT (by omega)]
end
theorem KX.ints3 {lo:Nat} {h:AA} {cv:Value} {c:IJ} (hc:KX lo h cv c):∃ vo,cv=cV vo c.miss∧one vo=true∧AK lo h vo c.on:=by
 obtain⟨vo,rfl,⟨rfl,h2⟩ | ⟨id,rfl,h3,h4,h5⟩⟩:=hc
 ·exact⟨_,rfl,rfl,by rw[h2];exact AZ.nil lo h 1⟩
 ·exact⟨_,rfl,rfl,AK.row' h5 ⟨h3,h4⟩ rfl⟩
theorem Ed {t:TypeId} {k:Nat} (ht:BQ Tryd.prog t=some k) {H:AA} {vs zs:List Value} (hz:zs.length=k) (hl:vs.length=k) (ho:vs.all one=true) (hf:H.floor≤H.next) :
  ∃ H',BJ Tryd.prog (H.push (.row zs t false false)) t (qP H.next 0) (.agg vs.toArray)=some H'∧H'.get H.next=.row vs t false false∧H'.next=H.next+1∧H'.floor=H.floor∧∀ i,i<H.next→H'.get i=H.get i:=
 ⟨_,H_ ht (BP (h:=H)) hz hl ho hf,BN rfl (by show H.next<H.next+1;omega),rfl,rfl,fun i hi=>by rw[AM (by show H.next<H.next+1;omega) (by omega),AT hi]⟩
theorem rX {H:AA} {vo:Value} {miss e p:Int} (ho:one vo=true) (hf:H.floor≤H.next) :
  ∃ G1 G2,BJ Tryd.prog ((H.push (.row [Z0,iv 0] 65 false false)).push (.row [iv 0,iv 0] 33 false false)) 65 (qP H.next 0) (cV vo miss)=some G1∧BJ Tryd.prog G1 33 (qP (H.next+1) 0) (FY e p)=some G2 ∧
   G2.get H.next=.row [vo,iv miss] 65 false false∧G2.get (H.next+1)=.row [iv e,iv p] 33 false false∧G1.floor=H.floor∧G2.floor=H.floor∧G2.next=H.next+2∧∀ i,i<H.next→G2.get i=H.get i:=by
 have g0:∀ (a b:BE),let A:=(H.push a).push b
   A.get H.next=a∧A.get (H.next+1)=b∧A.next=H.next+2∧A.floor=H.floor∧∀ i,i<H.next→A.get i=H.get i:=fun a b=>
  ⟨LY,MJ,rfl,rfl,fun i hi=>by rw[AT (by show i<H.next+1;omega),AT hi]⟩
 obtain⟨ga,gb,nG,fG,oG⟩:=g0 (.row [Z0,iv 0] 65 false false) (.row [iv 0,iv 0] 33 false false)
 generalize (H.push (.row [Z0,iv 0] 65 false false)).push (.row [iv 0,iv 0] 33 false false)=G at *
 have a1:=H_ (t:=65) SP (vs:=[vo,iv miss]) ga rfl rfl (by simp only[List.all_cons,List.all_nil,ho,LE,Bool.and_self]) (by omega)
 have gb':(G.put H.next (.row [vo,iv miss] 65 false false)).get (H.next+1)=.row [iv 0,iv 0] 33 false false:=by rw[AM (by omega) (by omega)];exact gb
 have a2:=H_ (t:=33) M7 (vs:=[iv e,iv p]) gb' rfl rfl rfl (by show G.floor≤_;omega)
 refine⟨_,_,a1,a2,?_,BN rfl (by show H.next+1<G.next;omega),fG,fG,nG,fun i hi=>?_⟩
 ·rw[AM (by show H.next+1<G.next;omega) (by omega),BN rfl (by omega)]
 ·rw[AM (by show H.next+1<G.next;omega) (by omega),AM (by omega) (by omega),oG i hi]
theorem xF {P:Program} {call:AQ} {n:Nat} {c:Code} {s:St} {k:B9} {Q:DT→St→Prop} (h1:WK P call n c s (.top Q)) (h2:∀ e s',Q e s'→k.ap P call n e s'):WK P call n c s k:=WS.mono h1 fun e s' g=>h2 e s' g
theorem tH {nm:ByteArray} {s:AP} {rd:List Int}:(DY nm s rd).2.on.length≤s.queues.length:=by
 unfold DY
 split
 ·exact Nat.zero_le _
 ·split
  ·exact Nat.zero_le _
  ·rcases cE (R:=s.rows) (V:=A7 s.rows (AG (A9 s.rows)) rd (F8 s.rows (AG (A9 s.rows)) rd s.rules [])) s.rows.length 0 ⟨List.replicate s.queues.length 0,0⟩ with h | h
   ·rw[h];simp
   ·rw[h];exact Nat.zero_le _
section
variable {n:Nat} {H:AA}
theorem aS {nm:ByteArray} {s:AP} {pv w:Value} {A:List Int} {lo lw:Nat} (hp:C1 lo H pv nm s) (hw:AK lw H w A) (hs:HV s) (hl:s.rows.length<100000) (hl2:s.queues.length<100000∧s.vars.length<100000∧s.tags.length<100000∧s.rules.length<100000∧s.on.length<100000) (hfl:H.floor≤H.next) (hg:H.get 0=DZ) (hn0:0<H.next) (hn:9000000<n) :
  ∃ v1 H1 v2 H2 cv H3,LM n 21 [pv] (H.fl (max H.floor H.next))=some (v1,H1)∧LM n 42 [pv,w] (H1.fl H.floor)=some (v2,H2) ∧
   LM n 41 [v1,v2] H2=some (.tuple #[cv,FY (DY nm s (GC A s.rows)).1.1 (DY nm s (GC A s.rows)).1.2],H3)∧KX H2.next H3 cv (DY nm s (GC A s.rows)).2∧H2.fl H.floor=H2∧H3.fl H2.floor=H3∧H3.floor=H.floor∧H.next≤H2.next∧H2.next≤H3.next∧(∀ i,i<H.next→H3.get i=H.get i)∧∀ i,i<H.next→H1.get i=H.get i:=by
 have htot:HM s=s.rows.length+s.queues.length+s.vars.length+s.tags.length+s.rules.length+s.on.length:=rfl
 have hmx:max H.floor H.next=H.next:=by omega
 rw[hmx]
 obtain⟨v1,H1,c1,⟨o,hL⟩,n1,f1,o1⟩:=Cj (n:=n) (h:=H.fl H.next) (hp.mono (h':=H.fl H.next) (Nat.le_refl _) fun _ _ _=>rfl) hs (by omega) (by omega) (by rw[C8,DD];exact Nat.le_refl _) (by omega)
 rw[DD] at n1 o1
 rw[DD] at hL
 have o1':∀ i,i<H.next→(H1.fl H.floor).get i=H.get i:=fun i hi=>by rw[GL,o1 i hi,GL]
 obtain⟨v2,H2,c2,id,rfl,hty,f2,n2,o2⟩:=Fc (n:=n) (h:=H1.fl H.floor) (hp.mono (h':=H1.fl H.floor) (by rw[DD];exact n1) fun i _ hi=>o1' i hi) (AK.mono hw (by rw[DD];exact n1) fun i _ hi=>o1' i hi) (by omega) (by rw[DD,C8];omega) (by omega)
 rw[DD] at n2 o2 hty
 rw[C8] at f2
 have hL2:=hL.mono (h':=H2) n2 fun i hi=>by rw[o2 i hi,GL]
 have hrl:(GC A s.rows).length=s.rows.length:=PB
 obtain⟨v3,H3,c3,cv,rfl,hcv,f3,n3,o3⟩:=Ar (n:=n) (h:=H2) hL2.pol hL2.lies hty hs (by omega) (by omega) (by omega) (by rw[o2 0 (by omega),o1' 0 hn0];exact hg) (by omega) (by omega)
 refine⟨v1,H1,_,H2,cv,H3,S4 (by decide) c1,S4 (by decide) c2,S4 (by decide) c3,hcv,by rw[← f2];exact IB H2,by rw[← f3];exact IB H3,by omega,by omega,n3,fun i hi=>by rw[o3 i (by omega),o2 i (by omega),o1' i hi],fun i hi=>o1' i hi⟩
end
def QE (h:AA) (v:Value) (l:List AC):Prop:=∃ id c ty g ro,v=qS id l.length c∧l.length≤c∧c<AJ∧id<h.next∧h.get id=.row (l.flatMap AI) ty g ro
theorem QE.mono {h h':AA} {v:Value} {l:List AC} (ha:QE h v l) (hn:h.next≤h'.next) (hg:∀ i,i<h.next→h'.get i=h.get i):QE h' v l:=by
 obtain⟨id,c,ty,g,ro,h1,h2,h3,h4,h5⟩:=ha
 exact⟨id,c,ty,g,ro,h1,h2,h3,by omega,by rw[hg id h4];exact h5⟩
theorem RK:BQ Tryd.prog 46=some 5:=by kernel_rfl
theorem fM:IE Tryd.prog 46=some 48:=by kernel_rfl
theorem UW:DV Tryd.prog 46=some (.agg #[iv 0,.string ByteArray.empty,iv 0,iv 0,iv 0]):=by kernel_rfl
theorem Ke:G7 Tryd.prog (match Tryd.prog.underlying 46 with | some (.struct fs)=>fs.toList | _=>[])=some [(0,1),(1,1),(2,1),(3,1),(4,1)]:=by kernel_rfl
theorem Ky:DB Tryd.prog 46 [(0,iv 23)]=some (.agg #[iv 23,.string ByteArray.empty,iv 0,iv 0,iv 0]):=by
 have h:=Ke
 rw[Tryd.underlying46] at h
 simp only at h
 have hf:flat (.agg #[iv 0,.string ByteArray.empty,iv 0,iv 0,iv 0])=true:=rfl
 simp only[DB,UW,hf,if_true,Tryd.underlying46,h]
 rfl
theorem Sa {h:AA}:FN Tryd.prog h 22 1 [(0,.agg #[iv 23,.string ByteArray.empty,iv 0,iv 0,iv 0])]=some (qS h.next 1 1,h.push (.row (AI ML) 46 false false)):=by
 have hf:flat (.agg #[iv 0,.string ByteArray.empty,iv 0,iv 0,iv 0])=true:=rfl
 simp only[FN,Tryd.underlying22,RK,UW,hf]
 rfl
theorem Q1 (l:List AC):(l.flatMap AI).length=l.length*5:=JN l
theorem jP:∀ (l:List AC) (k:Nat),(l.flatMap AI).take (k*5)=(l.take k).flatMap AI
 | l,0=>by simp
 | [],k+1=>by simp
 | r :: l,k+1=>by
  rw[List.flatMap_cons,List.take_succ_cons,List.flatMap_cons,← jP l k,show (k+1)*5=5+k*5 by omega,List.take_add]
  congr 1
section
variable {h:AA} {v:Value} {l:List AC}
theorem w_ (ha:QE h v l) {k:Nat} (hk:k≤l.length):∃ a c,GG Tryd.prog h 22 v none (some (iv (k:Int))) none=some (.slice a k c)∧∀ h':AA,(∀ i,i<h.next→h'.get i=h.get i)→C_ h' 5 k (.slice a k c)=some ((l.take k).flatMap AI):=by
 obtain⟨id,c,ty,g,ro,rfl,h2,h3,h4,h5⟩:=ha
 refine⟨some ⟨id,0,none⟩,c,?_,fun h' hh=>?_⟩
 ·have hu:¬ c=AJ:=by omega
  have hb:EW (some (iv (k:Int))) l.length 0 c=some k:=by
   simp only[EW]
   rw[if_pos ⟨by omega,by omega⟩,Int.toNat_natCast]
  have hb0:EW none 0 0 k=some 0:=rfl
  simp only[GG,Tryd.underlying22,RK,if_neg hu,hb,hb0,Nat.sub_zero,Nat.zero_mul,Option.map_some,CF,Nat.add_zero,ite_self]
 ·by_cases h0:k=0
  ·subst h0
   simp[C_]
  ·simp only[C_,if_neg h0,hh id h4,h5,F2,List.drop_zero]
   rw[jP,if_pos (by rw[Q1,List.length_take];omega)]
theorem Qa (ha:QE h v l) {k:Nat} (hk:k≤l.length):∃ a c,GG Tryd.prog h 22 v (some (iv (k:Int))) none none=some (.slice a (l.length-k) c)∧∀ h':AA,(∀ i,i<h.next→h'.get i=h.get i)→C_ h' 5 (l.length-k) (.slice a (l.length-k) c)=some ((l.drop k).flatMap AI):=by
 obtain⟨id,c,ty,g,ro,rfl,h2,h3,h4,h5⟩:=ha
 have hu:¬ c=AJ:=by omega
 have hb:EW none l.length 0 c=some l.length:=rfl
 have hb0:EW (some (iv (k:Int))) 0 0 l.length=some k:=by
  simp only[EW]
  rw[if_pos ⟨by omega,by omega⟩,Int.toNat_natCast]
 refine⟨if c=k then some ⟨id,0,none⟩ else some ⟨id,0+k*5,none⟩,c-k,?_,fun h' hh=>?_⟩
 ·simp only[GG,Tryd.underlying22,RK,if_neg hu,hb,hb0,Option.map_some,CF]
 ·by_cases h0:l.length-k=0
  ·rw[h0,List.drop_of_length_le (by omega)]
   split <;> simp[C_]
  ·rw[if_neg (by omega)]
   simp only[C_,if_neg h0,hh id h4,h5,F2,Nat.zero_add,UC]
   rw[List.take_of_length_le (by rw[Q1,List.length_drop];omega),if_pos (by rw[Q1,List.length_drop])]
theorem eH (l:List AC):(l.flatMap AI).all one=true:=UY l
theorem aV:(Value.agg #[iv 0,.string ByteArray.empty,iv 0,iv 0,iv 0]).cells.size=5:=rfl
theorem Hs {a:Option Addr} {k c:Nat} {new:List AC} (hs:C_ h 5 k (.slice a k c)=some (new.flatMap AI)) (hk:0<k) (hkb:k<1000000) (hn:new.length=k) :
  DF Tryd.prog h 22 (Z0) (.slice a k c)=some (qS h.next k AJ,h.push (.row (new.flatMap AI) 46 true false)):=by
 have hnu:(0:Nat)≠AJ:=by unfold AJ;omega
 have h0:C_ h 5 0 (Z0)=some []:=by simp[C_]
 simp only[DF,Tryd.underlying22,RK,fM,UW,aV,hs,eH,h0]
 rw[if_pos (by simp),if_pos trivial,if_neg hnu,if_neg (by omega),if_pos (by simp only[Nat.zero_add,Nat.zero_mul,Bool.and_eq_true,decide_eq_true_eq];omega),List.nil_append,Nat.zero_add]
theorem kT {a:Option Addr} {id k c:Nat} {old new:List AC} (hs:C_ h 5 k (.slice a k c)=some (new.flatMap AI)) (hg:h.get id=.row (old.flatMap AI) 46 true false) (hf:h.floor≤id) (hid:id<h.next) (hob:old.length<1000000) (hkb:k<1000000) (hn:new.length=k) :
  ∃ id' h',DF Tryd.prog h 22 (qS id old.length AJ) (.slice a k c)=some (qS id' (old++new).length AJ,h')∧h'.get id'=.row ((old++new).flatMap AI) 46 true false∧id≤id'∧id'<h'.next∧h'.floor=h.floor∧h.next≤h'.next∧∀ i,i<h.next→i≠id→h'.get i=h.get i:=by
 have hu:old.length≤AJ:=by unfold AJ;omega
 by_cases h0:k=0
 ·subst h0
  have hnil:new=[]:=List.length_eq_zero_iff.1 hn
  subst hnil
  refine⟨id,h,?_,by rw[List.append_nil];exact hg,Nat.le_refl _,hid,rfl,Nat.le_refl _,fun _ _ _=>rfl⟩
  simp only[DF,Tryd.underlying22,RK,fM,UW,aV,hs,eH,List.append_nil]
  rw[if_pos (by simp;omega),if_pos trivial,if_pos trivial,if_pos (by simp only[Nat.add_zero,Bool.and_eq_true,decide_eq_true_eq];omega),if_pos trivial]
 ·have hcut:F2 (old.flatMap AI) 0 (old.length*5)=some (old.flatMap AI):=by
   simp only[F2,List.drop_zero]
   rw[List.take_of_length_le (by rw[Q1];omega),if_pos (Q1 old)]
  refine⟨h.next,(h.put id .dead).push (.row ((old++new).flatMap AI) 46 true false),?_,BP (h:=h.put id .dead),by omega,by show h.next<h.next+1;omega,rfl,by show h.next≤h.next+1;omega,fun i hi hne=>by rw[AT (by exact hi),AM hid (Ne.symm hne)]⟩
  simp only[DF,Tryd.underlying22,RK,fM,UW,aV,hs,eH,hg,hcut]
  rw[if_pos (by simp;omega),if_pos trivial,if_pos trivial,if_pos (by simp only[Bool.and_eq_true,decide_eq_true_eq];omega),if_neg h0,if_pos trivial,if_pos trivial,List.flatMap_append,List.length_append,hn]
end
def JA (a:Nat) (x:AC) (l:List AC):List AC:=l.take a++({ x with kids:=x.kids+1 } :: ML :: l.drop (a+1))
section
variable {a:Nat} {x:AC} {l:List AC}
theorem kO (hx:l[a]?=some x):(JA a x l).length=l.length+1:=by
 have:=(List.getElem?_eq_some_iff.1 hx).1
 simp[JA]
 omega
theorem Nr (hx:l[a]?=some x):HB a l (JA a x l):=by
 have hl:=(List.getElem?_eq_some_iff.1 hx).1
 have ht:(l.take a).length=a:=by rw[List.length_take];omega
 refine⟨kO hx,hl,fun y hy=>?_,?_,fun i y hi hy=>?_⟩
 ·rw[hx] at hy
  cases hy
  unfold JA
  rw[List.getElem?_append_right (by omega),ht,Nat.sub_self]
  rfl
 ·unfold JA
  rw[List.getElem?_append_right (by omega),ht,show a+1-a=1 by omega]
  rfl
 ·unfold JA
  rcases Nat.lt_or_ge i a with h | h
  ·rw[MC (by omega),List.getElem?_append_left (by omega),List.getElem?_take_of_lt h]
   exact hy
  ·rw[ON (by omega),List.getElem?_append_right (by omega),ht,show i+1-a=(i-(a+1))+1+1 by omega]
   show (l.drop (a+1))[i-(a+1)]?=_
   rw[List.getElem?_drop,show a+1+(i-(a+1))=i by omega]
   exact hy
theorem Hw (hx:l[a]?=some x):((l.take (a+1)++[ML]++l.drop (a+1)).flatMap AI).set (a*5+4) (iv (x.kids+1))=(JA a x l).flatMap AI:=by
 have hl:=(List.getElem?_eq_some_iff.1 hx).1
 have e:l.take (a+1)=l.take a++[x]:=by rw[List.take_add_one,hx];rfl
 have hlen:((l.take a).flatMap AI).length=a*5:=by rw[Q1,List.length_take];congr 1;omega
 unfold JA
 rw[e]
 simp only[List.append_assoc,List.flatMap_append,List.flatMap_cons,List.flatMap_nil,List.append_nil,List.singleton_append]
 rw[List.set_append_right _ _ (by omega),hlen,show a*5+4-a*5=4 by omega]
 rfl
end
section
variable {a:Nat} {l m:List AC}
theorem j0 (ht':B8 m) (hI:HB a l m):DX m (a+1) (a+2):=by
 have hlt:=(List.getElem?_eq_some_iff.1 hI.pass).1
 have h:=ht'.end hlt
 obtain⟨x,hx,_,_,hc⟩:=h.kids
 rw[hI.pass] at hx
 cases hx
 have e:a+1+1=AG m (a+1):=hc
 rw[← e] at h
 exact h
theorem lV (ht':B8 m) (hI:HB a l m) {b:Nat} (IH:∀ i,b<i→i<l.length→AG m (BX a i)=BX a (AG l i)):∀ c p q,b<p→EM l c p q→EM m c (BX a p) (BX a q)
 | 0,p,q,_,h=>by
  have:p=q:=h
  subst this
  rfl
 | c+1,p,q,hb,⟨p',h1,h2,h3,h4⟩=>by
  have e:=IH p hb (by omega)
  rw[IY h1] at e
  have hp:BX a p<m.length:=by rw[hI.len];unfold BX;split <;> omega
  have hs:=ht'.end hp
  rw[e] at hs
  refine⟨BX a p',hs,?_,?_,lV ht' hI IH c p' q (by omega) h4⟩
  ·unfold BX;split <;> split <;> omega
  ·rw[hI.len];unfold BX;split <;> omega
theorem kY (ht:B8 l) (ht':B8 m) (hI:HB a l m):∀ d i,l.length-i≤d→i<l.length→AG m (BX a i)=BX a (AG l i)
 | 0,i,h,hi=>by omega
 | d+1,i,h,hi=>by
  obtain⟨x,hx,hk0,_,hc⟩:=(ht.end hi).kids
  have IH:∀ j,i<j→j<l.length→AG m (BX a j)=BX a (AG l j):=fun j hj hjl=>kY ht ht' hI d j (by omega) hjl
  have hch:=lV ht' hI IH _ _ _ (Nat.lt_succ_self i) hc
  have hp:BX a i<m.length:=by rw[hI.len];unfold BX;split <;> omega
  obtain⟨y,hy,_,_,hc'⟩:=(ht'.end hp).kids
  by_cases e:i=a
  ·subst e
   rw[MC (Nat.le_refl _)] at hy hc' ⊢
   rw[hI.at_ x hx] at hy
   cases hy
   have hk:(x.kids+1).toNat=x.kids.toNat+1:=by omega
   simp only[hk] at hc'
   rw[ON (Nat.lt_succ_self i)] at hch
   exact NQ _ _ _ _ hc' ⟨i+2,j0 ht' hI,by omega,by have:=hI.lt;rw[hI.len];omega,hch⟩
  ·rw[hI.rest i x e hx] at hy
   cases hy
   rw[MD e] at hch
   exact NQ _ _ _ _ hc' hch
theorem aL (ht:B8 l) (ht':B8 m) (hI:HB a l m):∀ c p q,EM l c p q→BW (AG m) c (BX a p)=(BW (AG l) c p).map (BX a)
 | 0,p,q,_=>rfl
 | c+1,p,q,⟨p',h1,h2,h3,h4⟩=>by
  have e:=kY ht ht' hI l.length p (by omega) (by omega)
  show BX a p :: BW (AG m) c (AG m (BX a p))=BX a p :: (BW (AG l) c (AG l p)).map (BX a)
  rw[e,IY h1,aL ht ht' hI c p' q h4]
def VJ (a:Nat) (l:List AC) (i:Nat):Prop:=a<i∨AG l i≤a
theorem HB.kid (h:HB a l m) {i:Nat} {x:AC} (hx:l[i]?=some x):∃ y:AC,m[BX a i]?=some y∧y.kind=x.kind∧y.n=x.n:=by
 by_cases e:i=a
 ·subst e
  exact⟨{ x with kids:=x.kids+1 },by rw[MC (Nat.le_refl _)];exact h.at_ x hx,rfl,rfl⟩
 ·exact⟨x,h.rest i x e hx,rfl,rfl⟩
variable {R R':List AC} {rd rd' S:List Int}
theorem X_ (ht:B8 l) (ht':B8 m) (hI:HB a l m) (hR:HB a R R') (hsk:GV R l) (hsk':GV R' m) (hrd:∀ i,i≠a→i<R.length→(rd'[BX a i]?).getD 0=(rd[i]?).getD 0) :
  ∀ d i,l.length-i≤d→i<l.length→VJ a l i→A7 R' (AG m) rd' S (BX a i)=A7 R (AG l) rd S i
 | 0,i,h,hi,_=>by omega
 | d+1,i,h,hi,ho=>by
  have hl:=hsk.1
  have hs:=ht.end hi
  have hia:i≠a:=by
   rintro rfl
   have:=hs.lt
   rcases ho with h1 | h1 <;> omega
  obtain⟨x,hx⟩:∃ x,R[i]?=some x:=⟨_,List.getElem?_eq_getElem (by omega)⟩
  have hy:=hR.rest i x hia hx
  obtain⟨z,hz,hk0,_,hc⟩:=hs.kids
  obtain⟨x',hx',hxk⟩:=hsk.2 i z hz
  rw[hx] at hx'
  cases hx'
  rw[QO ht hsk hx,QO ht' hsk' hy,hrd i hia (by omega),← MD hia,hxk,aL ht ht' hI _ _ _ hc,List.map_map]
  congr 1
  refine List.map_congr_left fun k hk=>?_
  obtain⟨qk,s1,s2,s3⟩:=RY _ _ _ hc k hk
  have hkl:=s1.lt
  refine X_ ht ht' hI hR hsk hsk' hrd d k (by omega) (by omega) ?_
  rcases ho with h1 | h1
  ·exact .inl (by omega)
  ·exact .inr (by rw[IY s1];omega)
theorem mT (ht:B8 l) (ht':B8 m) (hI:HB a l m) (hR:HB a R R') (hsk:GV R l) (hsk':GV R' m) (hrd:∀ i,i≠a→i<R.length→(rd'[BX a i]?).getD 0=(rd[i]?).getD 0) :
  ∀ (us S:List Int),(∀ u∈us,0≤u∧u.toNat<l.length∧VJ a l u.toNat)→F8 R' (AG m) rd' (us.map (KI a)) S=F8 R (AG l) rd us S
 | [],S,_=>rfl
 | u :: us,S,h=>by
  obtain⟨h0,h1,h2⟩:=h u (by simp)
  show F8 R' (AG m) rd' (us.map (KI a)) (S++[A7 R' (AG m) rd' S (KI a u).toNat])=F8 R (AG l) rd us (S++[A7 R (AG l) rd S u.toNat])
  rw[(Gm h0).2,X_ ht ht' hI hR hsk hsk' hrd l.length u.toNat (by omega) h1 h2]
  exact mT ht ht' hI hR hsk hsk' hrd us _ fun v hv=>h v (by simp[hv])
theorem Hb (ht:B8 l) (ht':B8 m) (hI:HB a l m) (hR:HB a R R') (hsk:GV R l) (hsk':GV R' m) (hrd:∀ i,i≠a→i<R.length→(rd'[BX a i]?).getD 0=(rd[i]?).getD 0) (hr:F7 rd) (hs:CZ S)
  {x:AC} (hx:R[a]?=some x) (h11:x.kind=11) (hle:A7 R (AG l) rd S a≤72057594037927936):A7 R' (AG m) rd' S a=A7 R (AG l) rd S a+1:=by
 have hl:=hsk.1
 have hal:a<l.length:=hI.lt
 obtain⟨z,hz,hk0,_,hc⟩:=(ht.end hal).kids
 obtain⟨x',hx',hxk⟩:=hsk.2 a z hz
 rw[hx] at hx'
 cases hx'
 have hk:(x.kids+1).toNat=x.kids.toNat+1:=by omega
 have hp:A7 R' (AG m) rd' S (a+1)=1:=by
  rw[QO ht' hsk' hR.pass]
  rfl
 have hkl:=aL ht ht' hI _ _ _ hc
 rw[ON (Nat.lt_succ_self a)] at hkl
 have hmap:(BW (AG m) x.kids.toNat (a+2)).map (A7 R' (AG m) rd' S)=(BW (AG l) x.kids.toNat (a+1)).map (A7 R (AG l) rd S):=by
  rw[hxk,hkl,List.map_map]
  refine List.map_congr_left fun k hk=>?_
  obtain⟨qk,s1,s2,s3⟩:=RY _ _ _ hc k hk
  have hkl:=s1.lt
  exact X_ ht ht' hI hR hsk hsk' hrd l.length k (by omega) (by omega) (.inl (by omega))
 have e1:=QO (rd:=rd) (S:=S) ht hsk hx
 have e2:=QO (rd:=rd') (S:=S) ht' hsk' (hR.at_ x hx)
 simp only[hk] at e2
 have ek:BW (AG m) (x.kids.toNat+1) (a+1)=(a+1) :: BW (AG m) x.kids.toNat (a+2):=by
  show (a+1) :: BW (AG m) x.kids.toNat (AG m (a+1))=_
  rw[IY (j0 ht' hI)]
 rw[h11,bG (by decide) (by decide) (by decide) (by decide)] at e1 e2
 have hsm:CZ ((BW (AG l) x.kids.toNat (a+1)).map (A7 R (AG l) rd S)):=UZ hr hs R.length _
 rw[ek,List.map_cons,hp,hmap,XD hsm] at e2
 rw[e2]
 rw[e1] at hle ⊢
 have key:∀ v:Int,v≤72057594037927936→BF v 1=v+1:=fun v hv=>by unfold BF;rw[if_neg (by omega)]
 exact key _ hle
theorem U7 {V W:Nat→Int} (hR:HB a R R') (h11:∀ x,R[a]?=some x→x.kind=11) (h10:∀ (i:Nat) (x:AC),R[i]?=some x→(x.kind=10↔i+1=a))
  (hV:∀ (i:Nat) (x:AC),R[i]?=some x→C2 x.kind=true→i+1≠a→W (BX a i+1)=V (i+1)) (hA:V a≤72057594037927936→W a=V a+1) :
  ∀ (r i r':Nat) (c d:IJ),i+r=R.length→BX a i+r'=R.length+1→d.on=c.on→(i<a→d.miss=c.miss)→(a≤i→d.miss=c.miss+1)→(EF R V r i c).1.1=0→(EF R' W r' (BX a i) d).1.1=0 →
   (EF R' W r' (BX a i) d).2.on=(EF R V r i c).2.on∧(EF R' W r' (BX a i) d).2.miss=(EF R V r i c).2.miss+1
 | 0,i,r',c,d,hr,hr',ho,_,h2,_,_=>by
  have hlt:=hR.lt
  have:r'=0:=by
   rw[ON (by omega)] at hr'
   omega
  subst this
  exact⟨ho,h2 (by omega)⟩
 | r + 1,i,r',c,d,hr,hr',ho,h1,h2,g0,g1=>by
  have hlt:=hR.lt
  have hle:BX a i≤i+1:=by unfold BX;split <;> omega
  obtain⟨r1,rfl⟩:∃ j,r'=j+1:=⟨r'-1,by omega⟩
  obtain⟨x,hx⟩:∃ x,R[i]?=some x:=⟨_,List.getElem?_eq_getElem (by omega)⟩
  obtain⟨y,hy,hyk,hyn⟩:=hR.kid hx
  unfold EF at g0 g1 ⊢
  rw[hx] at g0 ⊢
  rw[hy] at g1 ⊢
  simp only at g0 g1 ⊢
  rw[hyk,hyn] at g1 ⊢
  by_cases hev:C2 x.kind=false
  ·rw[if_pos hev] at g0 g1 ⊢
   rw[if_pos hev]
   have hia:i+1≠a:=fun e=>by
    rw[(h10 i x hx).2 e] at hev
    cases hev
   by_cases hi:i=a
   ·have hu:BX a i=a:=by rw[hi];exact MC (Nat.le_refl _)
    have hu2:BX a (i+1)=a+2:=by rw[hi];exact ON (by omega)
    rw[hu] at g1 hr' ⊢
    obtain⟨r2,rfl⟩:∃ j,r1=j+1:=⟨r1-1,by omega⟩
    have hp:EF R' W (r2+1) (a+1) d=EF R' W r2 (a+2) d:=by
     conv=>lhs;unfold EF
     rw[hR.pass]
     rfl
    rw[hp] at g1 ⊢
    have:=U7 hR h11 h10 hV hA r (i+1) r2 c d (by omega) (by rw[hu2];omega) ho (fun h=>by omega) (fun _=>h2 (by omega)) g0
    rw[hu2] at this
    exact this g1
   ·have:=U7 hR h11 h10 hV hA r (i+1) r1 c d (by omega) (by rw[MD hi];omega) ho (fun h=>h1 (by omega)) (fun h=>h2 (by omega)) g0
    rw[MD hi] at this
    exact this g1
  ·rw[if_neg hev] at g0 g1 ⊢
   rw[if_neg hev]
   have hev':C2 x.kind=true:=by simpa using hev
   have hi:i≠a:=by
    rintro rfl
    rw[h11 x hx] at hev
    exact hev rfl
   by_cases b0:V (i+1)>72057594037927936
   ·rw[if_pos b0] at g0;cases g0
   by_cases b1:W (BX a i+1)>72057594037927936
   ·rw[if_pos b1] at g1;cases g1
   rw[if_neg b0] at g0 ⊢
   rw[if_neg b1] at g1 ⊢
   by_cases hk:x.kind=10
   ·have hia:=(h10 i x hx).1 hk
    rw[if_pos hk] at g0 g1 ⊢
    rw[if_pos hk]
    have hu:BX a i=i:=MC (by omega)
    have e:W (BX a i+1)=V (i+1)+1:=by rw[hu,hia];exact hA (by rw[← hia];omega)
    have:=U7 hR h11 h10 hV hA r (i+1) r1 ⟨c.on,V (i+1)⟩ ⟨d.on,W (BX a i+1)⟩ (by omega) (by rw[MD hi];omega) ho (fun h=>by omega) (fun _=>e) g0
    rw[MD hi] at this
    exact this g1
   ·rw[if_neg hk] at g0 g1 ⊢
    rw[if_neg hk]
    have hia:i+1≠a:=fun h=>hk ((h10 i x hx).2 h)
    have e:=hV i x hx hev' hia
    have:=U7 hR h11 h10 hV hA r (i+1) r1 ⟨c.on.set x.n.toNat (V (i+1)),c.miss⟩ ⟨d.on.set x.n.toNat (W (BX a i+1)),d.miss⟩ (by omega) (by rw[MD hi];omega) (by rw[e,ho]) (fun h=>h1 (by omega)) (fun h=>h2 (by omega)) g0
    rw[MD hi] at this
    exact this g1
end
theorem aI {R:List AC} {V:Nat→Int} (h:∀ (i:Nat) (x:AC),R[i]?=some x→x.kind≠10):∀ (r i:Nat) (c:IJ),c.miss=0→(EF R V r i c).2.miss=0
 | 0,i,c,hc=>hc
 | r + 1,i,c,hc=>by
  unfold EF
  cases hx:R[i]? with
  | none=>exact hc
  | some x=>
   simp only
   split
   ·exact aI h r (i+1) c hc
   ·split
    ·rfl
    ·rw[if_neg (h i x hx)]
     exact aI h r (i+1) _ hc
theorem qV {l:List AC} {s:AP} (hi:G9 l l.length s):GV s.rows l:=by
 refine⟨hi.len,fun i x hx=>?_⟩
 have hl:=(List.getElem?_eq_some_iff.1 hx).1
 obtain⟨y,hy⟩:∃ y,s.rows[i]?=some y:=⟨_,List.getElem?_eq_getElem (by rw[hi.len];exact hl)⟩
 obtain⟨z,hz,he⟩:=hi.same i y hy
 rw[hx] at hz
 cases hz
 exact⟨y,hy,by rw[he]⟩
theorem nT {l:List AC} (h:(AU l).1.1=0):RQ l.length (AU l).2:=by
 obtain⟨_,_,hg,_,he,_⟩:=J8 h
 rw[he]
 have:=oR (E:=AR l) l.length 0 (BU l) ⟨.inl (by show (-1:Int)<0;decide),fun j x hj=>by omega⟩ (by show 0+l.length=l.length;omega) hg
 rw[Nat.zero_add] at this
 exact this
theorem zA {l:List AC} (h:(AU l).1.1=0):PJ l l.length (AU l).2:=by
 obtain⟨ht,_,hg,_,he,_⟩:=J8 h
 rw[he]
 exact YL ht l.length 0 (BU l) (by omega) (PT l) (bK l) hg
theorem jQ {l:List AC} (h:(AU l).1.1=0) {i:Nat} {x:AC} (hx:(AU l).2.rows[i]?=some x):∃ y:AC,l[i]?=some y∧y.kind=x.kind∧y.kids=x.kids:=by
 obtain⟨_,_,_,_,_,hi⟩:=J8 h
 obtain⟨y,hy,e⟩:=hi.same i x hx
 exact⟨y,hy,by rw[e],by rw[e]⟩
theorem fY {l:List AC} (h:(AU l).1.1=0) {a:Nat} (ha:(AU l).2.miss=(a:Int)):∃ j:Nat,a=j+1∧(∃ x:AC,l[j]?=some x∧x.kind=10)∧(∃ y:AC,l[a]?=some y∧y.kind=11)∧∀ (i:Nat) (x:AC),(AU l).2.rows[i]?=some x→(x.kind=10↔i+1=a):=by
 obtain⟨ht,_,_,_,_,hi⟩:=J8 h
 have hM:=nT h
 rcases hM.no with h1 | ⟨j,x,h1,h2,h3,h4⟩
 ·omega
 obtain rfl:a=j+1:=by omega
 obtain⟨y,hy,hyk,_⟩:=jQ h h3
 have hyt:y.kind=10:=hyk.trans h4
 have hrow:=ht.row hy
 have h1k:1≤y.kids:=by have:=hrow.2.2.1;rw[hyt] at this;exact this
 obtain⟨z,hz,hk0,_,hc⟩:=(ht.end (List.getElem?_eq_some_iff.1 hy).1).kids
 rw[hy] at hz
 cases hz
 have hk:(BW (AG l) y.kids.toNat (j+1))[0]?=some (j+1):=by
  obtain⟨r,hr⟩:∃ r,y.kids.toNat=r+1:=⟨y.kids.toNat-1,by omega⟩
  rw[hr]
  rfl
 obtain⟨w,hw,hs⟩:=ht.kid hy hk
 refine⟨j,rfl,⟨y,hy,hyt⟩,⟨w,hw,?_⟩,fun i x' hx'=>⟨fun h10=>?_,fun e=>?_⟩⟩
 ·have hend:=HE _ _ _ hc
  obtain⟨w',hw',hd⟩:=fQ (ht.end (List.getElem?_eq_some_iff.1 hy).1) hy (by rw[hyt];decide) (j+1) (by omega) (by omega)
  rw[hw] at hw'
  cases hw'
  rcases hs with hs | hs
  ·rw[hyt] at hs
   have:(w.kind==11)=true:=hs
   simpa using this
  ·omega
 ·have:=hM.one i x' (by rw[← hi.len];exact(List.getElem?_eq_some_iff.1 hx').1) hx' h10
  omega
 ·obtain rfl:i=j:=by omega
  rw[h3] at hx'
  cases hx'
  exact h4
theorem pT {l:List AC} (ht:B8 l) {i j:Nat} {x y:AC} (hx:l[i]?=some x) (h1:x.kind≠1) (hk:1≤x.kids) (hy:l[j]?=some y) (h10:y.kind=10) (hij:i≠j):VJ (j+1) l (i+1):=by
 have hil:=(List.getElem?_eq_some_iff.1 hx).1
 rcases Nat.lt_or_ge (j+1) (i+1) with h2 | h2
 ·exact .inl h2
 rcases Nat.lt_or_ge (j+1) (AG l (i+1)) with h3 | h3
 ·exfalso
  obtain⟨z,hz,_,_,hc⟩:=(ht.end hil).kids
  rw[hx] at hz
  cases hz
  obtain⟨r,hr⟩:∃ r,x.kids.toNat=r+1:=⟨x.kids.toNat-1,by omega⟩
  rw[hr] at hc
  obtain⟨p',s1,s2,s3,s4⟩:=hc
  have hle:=HE _ _ _ s4
  rw[IY s1] at h3
  obtain⟨w,hw,hd⟩:=fQ (ht.end hil) hx h1 j (by omega) (by omega)
  rw[hy] at hw
  cases hw
  omega
 ·exact .inr h3
theorem iH {l m:List AC} {a:Nat} (hI:HB a l m) (hl:(AU l).1.1=0) (hm:(AU m).1.1=0) (ha:(AU l).2.miss=(a:Int)):I6 a (AU l).2 (AU m).2:=by
 obtain⟨ht,_,hg,_,he,hi⟩:=J8 hl
 obtain⟨ht',_,hg',_,he',hi'⟩:=J8 hm
 obtain⟨j,rfl,⟨y,hy,hyk⟩,⟨w,hw,hwk⟩,h10⟩:=fY hl ha
 have hrel0:I6 (j+1) (BU l) (BU m):=⟨hI,fun x hx=>by rw[show l[j+1]?=some x from hx] at hw;cases hw;exact hwk,rfl,rfl,rfl,rfl,rfl,by show (-1:Int)=KI (j+1) (-1);unfold KI;rw[if_pos (by omega)],rfl⟩
 rw[he,he']
 have:=dI (E:=AR l) (E':=AR m) l.length 0 m.length (BU l) (BU m) hrel0 (by show 0+l.length=l.length;omega) (by show BX (j+1) 0+m.length=l.length+1;rw[MC (by omega),hI.len];omega) hg
 rw[MC (Nat.zero_le _)] at this
 exact this hg'
theorem De {l m:List AC} {a:Nat} {rd rd':List Int} (hI:HB a l m) (hl:(AU l).1.1=0) (hm:(AU m).1.1=0) (ha:(AU l).2.miss=(a:Int)) (hlen:rd.length=l.length) (hlen':rd'.length=m.length) (hr:F7 rd) (hr':F7 rd')
  (hrd:∀ i,i≠a→i<l.length→(rd'[BX a i]?).getD 0=(rd[i]?).getD 0) (h0:(DY (C6 l) (AU l).2 rd).1.1=0) (h1:(DY (C6 m) (AU m).2 rd').1.1=0) :
  (DY (C6 m) (AU m).2 rd').2.on=(DY (C6 l) (AU l).2 rd).2.on∧(DY (C6 m) (AU m).2 rd').2.miss=(DY (C6 l) (AU l).2 rd).2.miss+1:=by
 obtain⟨ht,_,hg,_,he,hi⟩:=J8 hl
 obtain⟨ht',_,hg',_,he',hi'⟩:=J8 hm
 obtain⟨j,rfl,⟨y,hy,hyk⟩,⟨w,hw,hwk⟩,h10⟩:=fY hl ha
 have hrel:=iH hI hl hm ha
 have hz:=YA hl
 have hz':=YA hm
 have hL:=zA hl
 have hLr:=hi.len
 have hLr':=hi'.len
 have hsk:GV (AU l).2.rows l:=qV hi
 have hsk':GV (AU m).2.rows m:=qV hi'
 rw[P8 (SE hl) (by omega) hr] at h0 ⊢
 rw[P8 (SE hm) (by omega) hr'] at h1 ⊢
 rw[hz] at h0 ⊢
 rw[hz'] at h1 ⊢
 have hR:=hrel.rows
 have hq:=hrel.q
 have hrd2:∀ i,i≠j+1→i<(AU l).2.rows.length→(rd'[BX (j+1) i]?).getD 0=(rd[i]?).getD 0:=fun i h2 h3=>hrd i h2 (by omega)
 have hout:∀ u∈(AU l).2.rules,0≤u∧u.toNat<l.length∧VJ (j+1) l u.toNat:=fun u hu=>by
  obtain⟨k,hk⟩:=List.getElem?_of_mem hu
  obtain⟨r,rfl,h2,x,hx,hx7⟩:=hL.rul k u hk
  have hb:=hi.rl _ hu
  refine⟨by omega,by omega,?_⟩
  rw[show ((r:Int)+1).toNat=r+1 by omega]
  have hrow:=ht.row hx
  refine pT ht hx (by omega) (by have:=hrow.2.2.1;rw[hx7] at this;exact this) hy hyk fun e=>?_
  subst e
  rw[hx] at hy
  cases hy
  omega
 have hS:F8 (AU m).2.rows (AG m) rd' (AU m).2.rules []=F8 (AU l).2.rows (AG l) rd (AU l).2.rules []:=by
  rw[hrel.u]
  exact mT ht ht' hI hR hsk hsk' hrd2 _ _ hout
 rw[hS] at h1 ⊢
 rw[hrel.q] at h1 ⊢
 have hSm:CZ (F8 (AU l).2.rows (AG l) rd (AU l).2.rules []):=RI hr _ _ RN
 generalize F8 (AU l).2.rows (AG l) rd (AU l).2.rules []=S at *
 obtain⟨x0,hx0⟩:∃ x,(AU l).2.rows[j+1]?=some x:=⟨_,List.getElem?_eq_getElem hR.lt⟩
 have hx11:=hrel.ka x0 hx0
 have:=U7 (V:=A7 (AU l).2.rows (AG l) rd S) (W:=A7 (AU m).2.rows (AG m) rd' S) hR hrel.ka h10 (fun i x hx hev hia=>by
  have hine:i≠j+1:=by
   rintro rfl
   rw[hrel.ka x hx] at hev
   cases hev
  obtain⟨z,hz1,hzk,hzn⟩:=jQ hl hx
  have hk8:8≤z.kind∧z.kind≤10:=by
   rw[hzk]
   unfold C2 at hev
   simpa using hev
  have hrow:=ht.row hz1
  have hk1:1≤z.kids:=by
   have h2:=hrow.2.2.1
   have:FC z.kind=1:=by
    obtain h3 | h3 | h3:z.kind=8∨z.kind=9∨z.kind=10:=by omega
    all_goals rw[h3];rfl
   omega
  have hle:=hrow.2.2.2.1
  have hle2:=hrow.2.2.2.2
  rw[← MD hine]
  exact X_ ht ht' hI hR hsk hsk' hrd2 l.length (i+1) (by omega) (by omega) (pT ht hz1 (by omega) hk1 hy hyk (by omega))) (fun hle=>Hb ht ht' hI hR hsk hsk' hrd2 hr hSm hx0 hx11 hle)
  (AU l).2.rows.length 0 (AU m).2.rows.length ⟨List.replicate (AU l).2.queues.length 0,0⟩ ⟨List.replicate (AU l).2.queues.length 0,0⟩ (by omega) (by rw[MC (by omega),hLr',hI.len,hLr];omega) rfl (fun _=>rfl) (fun h=>by omega) h0
 rw[MC (Nat.zero_le _)] at this
 exact this h1
theorem Lw {l:List AC} {rd:List Int} (h:(AU l).1.1=0) (ha:(AU l).2.miss<0) (hlen:rd.length=l.length) (hr:F7 rd):(DY (C6 l) (AU l).2 rd).2.miss=0:=by
 obtain⟨_,_,_,_,_,hi⟩:=J8 h
 have hM:=nT h
 rw[P8 (SE h) (by rw[hi.len];exact hlen) hr]
 exact aI (fun i x hx h10=>by
  have:=hM.one i x (by rw[← hi.len];exact(List.getElem?_eq_some_iff.1 hx).1) hx h10
  omega) _ _ _ rfl
theorem Z2 {R:List AC} {V:Nat→Int} (hV:∀ i,0≤V i):∀ (r i:Nat) (c:IJ),0≤c.miss∧c.miss≤72057594037927936→0≤(EF R V r i c).2.miss∧(EF R V r i c).2.miss≤72057594037927936
 | 0,_,c,h=>h
 | r + 1,i,c,h=>by
  unfold EF
  cases hx:R[i]? with
  | none=>exact h
  | some x=>
   simp only
   split
   ·exact Z2 hV r (i+1) c h
   ·split
    ·exact(by decide:(0:Int)≤0∧(0:Int)≤72057594037927936)
    ·rename_i h2
     refine Z2 hV r (i+1) _ ?_
     split
     ·exact⟨hV _,by simp only;omega⟩
     ·exact h
theorem Mi {nm:ByteArray} {s:AP} {rd:List Int} (hc:GR nm s=0) (hl:rd.length=s.rows.length) (hr:F7 rd):0≤(DY nm s rd).2.miss∧(DY nm s rd).2.miss≤72057594037927936:=by
 rw[P8 hc hl hr]
 exact Z2 (fun i=>(QB hr (RI hr _ _ RN) i).1) _ _ _ (show (0:Int)≤0∧(0:Int)≤72057594037927936 by decide)
theorem nS {nm:ByteArray} {s:AP} {rd:List Int} (hc:GR nm s=0) (hl:rd.length=s.rows.length) (hr:F7 rd):(DY nm s rd).1.1=0∨(DY nm s rd).1.1=61:=by
 rw[P8 hc hl hr]
 exact YW _ _ _
def cG:List (Bool × Bool × List Operand):=[AY,AY,C3 [.tmp 10],C3 [.tmp 10,.tmp 10],AL,AL,AL,AL,AL,C3 [.tmp 10,.tmp 10],C3 [.tmp 10,.tmp 10],AL,AL]
section
variable {n:Nat} {h:AA}
theorem Kd {l:List AC} {v w cv:Value} {A:List Int} {c:IJ} {a lw lc:Nat} (ha:QE h v l) (hw:AK lw h w A) (hc:KX lc h cv c) (hl:l.length≤4096) (h64:∀ x∈l,x.kids≤9223372036854775807) (hfl:h.floor≤h.next) (hg:h.get 0=DZ) (hn0:0<h.next) (hn:9000000<n)
  (hA:∀ x∈A,0≤x∧x≤4194304) (hok:(AU l).1.1=0) (hmiss:(AU l).2.miss=(a:Int)) (hce:c=(DY (C6 l) (AU l).2 (GC A (AU l).2.rows)).2) (hb0:(DY (C6 l) (AU l).2 (GC A (AU l).2.rows)).1.1=0) :
  ∃ h',A8 Tryd.prog (LM n) n 43 [v,iv (a:Int),w,cv] h=some (.bool true,h')∧∀ i,i<h.next→h'.get i=h.get i:=by
 have hsn:=(YM n).2
 obtain⟨vo,rfl,ho,hoI⟩:=hc.ints3
 obtain⟨j,haj,_,⟨y,hy,hy11⟩,_⟩:=fY hok hmiss
 have hal:=(List.getElem?_eq_some_iff.1 hy).1
 obtain⟨ht,_,_,_,_,hi⟩:=J8 hok
 have hkids:=(ht.row hy)
 have hk1:0≤y.kids∧y.kids≤4096:=by
  obtain⟨z,hz,hz0,_,_⟩:=(ht.end hal).kids
  rw[hy] at hz
  cases hz
  omega
 refine FE (R:=fun h'=>∀ i,i<h.next→h'.get i=h.get i) Tryd.func43 rfl (by simp[Tryd.f43]) ?_
 have hr:Tryd.f43.results.toList=[.tmp 8]:=rfl
 have ca:=GJ [vo,iv c.miss]
 have oa:[vo,iv c.miss].all one=true:=by simp only[List.all_cons,List.all_nil,ho,LE,Bool.and_self]
 have gQ0:(h.push (.row [vo,iv c.miss] 65 false false)).get h.next=.row [vo,iv c.miss] 65 false false:=BP
 have oQ0:∀ i,i<h.next→(h.push (.row [vo,iv c.miss] 65 false false)).get i=h.get i:=fun i hi=>AT hi
 have nQ0:(h.push (.row [vo,iv c.miss] 65 false false)).next=h.next+1:=rfl
 have fQ0:(h.push (.row [vo,iv c.miss] 65 false false)).floor=h.floor:=rfl
 simp only[eE,seval,↓eP,DG,DA,C9,ca,oa,SP]
 generalize h.push (.row [vo,iv c.miss] 65 false false)=Q at *
 have haQ:=ha.mono (h':=Q) (by omega) oQ0
 have wa:=DJ a (by omega)
 obtain⟨b1,c1,hs1,hc1⟩:=w_ haQ (k:=a+1) (by omega)
 have hap1:=Hs (hc1 Q fun _ _=>rfl) (by omega) (by omega) (by rw[List.length_take];omega)
 have gH1:(Q.push (.row ((l.take (a+1)).flatMap AI) 46 true false)).get Q.next=.row ((l.take (a+1)).flatMap AI) 46 true false:=BP
 have oH1:∀ i,i<Q.next→(Q.push (.row ((l.take (a+1)).flatMap AI) 46 true false)).get i=Q.get i:=fun i hi=>AT hi
 have nH1:(Q.push (.row ((l.take (a+1)).flatMap AI) 46 true false)).next=Q.next+1:=rfl
 have fH1:(Q.push (.row ((l.take (a+1)).flatMap AI) 46 true false)).floor=Q.floor:=rfl
 have lt1:(l.take (a+1)).length=a+1:=by rw[List.length_take];omega
 generalize Q.push (.row ((l.take (a+1)).flatMap AI) 46 true false)=H1 at *
 have hsrc:C_ (H1.push (.row (AI ML) 46 false false)) 5 1 (qS H1.next 1 1)=some ([ML].flatMap AI):=by
  simp only[C_,BP]
  rfl
 obtain⟨i2,H2,hap2,g2,m2,k2,f2,n2,o2⟩:=kT (h:=H1.push (.row (AI ML) 46 false false)) (id:=Q.next) (old:=l.take (a+1)) hsrc (by rw[AT (by omega)];exact gH1) (by show H1.floor≤_;omega) (by show Q.next<H1.next+1;omega) (by omega) (by decide) rfl
 rw[DL] at n2 o2
 rw[DK] at f2
 rw[lt1] at hap2
 have oH2:∀ i,i<Q.next→H2.get i=Q.get i:=fun i hi=>by rw[o2 i (by omega) (by omega),AT (by omega),oH1 i hi]
 have haH:=haQ.mono (h':=H2) (by omega) oH2
 obtain⟨b3,c3,hs3,hc3⟩:=Qa haH (k:=a+1) (by omega)
 obtain⟨i3,H3,hap3,g3,m3,k3,f3,n3,o3⟩:=kT (h:=H2) (id:=i2) (old:=l.take (a+1)++[ML]) (hc3 H2 fun _ _=>rfl) g2 (by omega) k2 (by rw[List.length_append,lt1,List.length_singleton];omega) (by omega) (by rw[List.length_drop])
 have oH3:∀ i,i<Q.next→H3.get i=Q.get i:=fun i hi=>by rw[o3 i (by omega) (by omega),oH2 i hi]
 have hlen:(l.take (a+1)++[ML]++l.drop (a+1)).length=l.length+1:=by simp;omega
 rw[hlen] at hap3
 have ix:=RP (id:=i3) (n:=l.length+1) (c:=AJ) (i:=a) (by omega)
 have hrow:(l.take (a+1)++[ML]++l.drop (a+1))[a]?=some y:=by
  rw[List.append_assoc,List.getElem?_append_left (by omega),List.getElem?_take_of_lt (by omega)]
  exact hy
 have lk:AS (a*5+4) (H3.get i3)=some (iv y.kids):=by
  rw[g3]
  have:=N5 hrow
  have e:((l.take (a+1)++[ML]++l.drop (a+1)).flatMap AI)[a*5+4]?=some (iv y.kids):=by
   have h9:=congrArg (fun z=>z[4]?) this
   simp only[List.getElem?_take_of_lt (show 4<5 by decide),List.getElem?_drop] at h9
   rw[h9]
   rfl
  exact e
 have wk:IntKind.i64.wrap (y.kids+1)=y.kids+1:=B0 (by omega) (by omega)
 have st4:=F5 (h:=H3) (v:=iv (y.kids+1)) (off:=a*5+4) CQ rfl rfl g3 (by rw[Q1,hlen];omega) (by omega)
 rw[Hw hy] at st4
 have gH4:(H3.put i3 (.row ((JA a y l).flatMap AI) 46 true false)).get i3=.row ((JA a y l).flatMap AI) 46 true false:=BN rfl k3
 have oH4:∀ i,i<Q.next→(H3.put i3 (.row ((JA a y l).flatMap AI) 46 true false)).get i=Q.get i:=fun i hi=>by rw[AM k3 (by omega),oH3 i hi]
 have nH4:(H3.put i3 (.row ((JA a y l).flatMap AI) 46 true false)).next=H3.next:=rfl
 have fH4:(H3.put i3 (.row ((JA a y l).flatMap AI) 46 true false)).floor=H3.floor:=rfl
 generalize H3.put i3 (.row ((JA a y l).flatMap AI) 46 true false)=H4 at *
 have hml:=kO hy
 have hI:=Nr hy
 have hv4:AV H4 (qS i3 (l.length+1) AJ) (JA a y l):=by
  have:=W4 (c:=AJ) gH4 (by omega)
  rw[hml] at this
  exact this
 have m64:∀ x∈JA a y l,x.kids≤9223372036854775807:=fun x hx=>by
  unfold JA at hx
  simp only[List.mem_append,List.mem_cons] at hx
  rcases hx with hx | rfl | rfl | hx
  ·exact h64 x (List.mem_of_mem_take hx)
  ·show y.kids+1≤_
   omega
  ·exact(by decide:(0:Int)≤9223372036854775807)
  ·exact h64 x (List.mem_of_mem_drop hx)
 generalize hm:JA a y l=m at *
 obtain⟨v5,H5,hres,pv,rfl,hp,f5,n5,o5⟩:=b9 (n:=n) (h:=H4) (by omega) hv4 (by omega) m64 (by omega)
 have hres':=S4 (n:=n) (by decide) hres
 obtain⟨nm,s,hout⟩:∃ nm s,C7 m=(nm,s):=⟨_,_,rfl⟩
 rw[hout] at hp
 simp only at hp
 obtain⟨vr,vq,vv,vt,vu,vp,rfl,p1,p2,p3,p4,p5,p6⟩:=hp
 have op:=K_ (nm:=nm) p1 p2 p3 p4 p5 p6
 obtain⟨⟨hc6,H6⟩,s1,s2,rO,n6,f6,o6⟩:=W7 (H:=H5) (cs:=[.string nm,vr,vq,vv,vt,vu,vp,iv s.miss]) (e:=(AU m).1.1) (p:=(AU m).1.2) rfl op (by omega)
 simp only at s1 s2 rO n6 f6 o6
 have lF:AS 0 (H6.get (H5.next+1))=some (iv (AU m).1.1):=by rw[rO.2];rfl
 have oH6:∀ i,i<Q.next→H6.get i=Q.get i:=fun i hi=>by rw[o6 i (by omega),o5 i (by omega),oH4 i hi]
 have oHh:∀ i,i<h.next→H6.get i=h.get i:=fun i hi=>by rw[oH6 i (by omega)];exact oQ0 i hi
 simp only[eE,seval,↓eP,Nat.zero_add,wa,hs1,hap1,Ky,Sa,hap2,hs3,hap3,ix,eS,A_,lk,wk,st4,hres',MF,MH,NL,IA,IG,M0,DL,s1,s2,HJ,HC,lF]
 cases d0:((AU m).1.1 != 0) with
 | true=>
  simp only[eE,seval,↓eP,hr,d0]
  exact oHh
 | false=>
 have hmok:(AU m).1.1=0:=by simpa using d0
 have hgood:=hout.symm.trans (SX hmok)
 obtain⟨rfl,rfl⟩:nm=C6 m∧s=(AU m).2:=by cases hgood;exact⟨rfl,rfl⟩
 obtain⟨_,_,_,_,_,hi'⟩:=J8 hmok
 have hwf:=hi'.wf
 have q1:=hi'.len;have q2:=hwf.q;have q3:=hwf.v;have q4:=hwf.t;have q5:=hwf.u;have q6:=hwf.o
 have q0:=hi.len
 have hsm:HV (AU m).2:=by unfold HV;omega
 have hrl:(GC A (AU m).2.rows).length=(AU m).2.rows.length:=PB
 have hrl0:(GC A (AU l).2.rows).length=(AU l).2.rows.length:=PB
 have hrr:=XO (R:=(AU m).2.rows) hA
 have hrr0:=XO (R:=(AU l).2.rows) hA
 have herr:=nS (nm:=C6 m) (SE hmok) hrl hrr
 have hmb:=Mi (nm:=C6 l) (SE hok) hrl0 hrr0
 have hfin:(DY (C6 m) (AU m).2 (GC A (AU m).2.rows)).1.1=0→(DY (C6 m) (AU m).2 (GC A (AU m).2.rows)).2.on=c.on∧(DY (C6 m) (AU m).2 (GC A (AU m).2.rows)).2.miss=c.miss+1:=fun h0=>by
  rw[hce]
  have hrel:=iH hI hok hmok hmiss
  exact De hI hok hmok hmiss (by omega) (by omega) hrr0 hrr (fun i h1 h2=>Bq hrel.rows hrel.ka i h1 (by omega)) hb0 h0
 have hp6:C1 H4.next H6 (.agg #[.string (C6 m),vr,vq,vv,vt,vu,vp,iv (AU m).2.miss]) (C6 m) (AU m).2:=C1.mono (h:=H5) ⟨vr,vq,vv,vt,vu,vp,rfl,p1,p2,p3,p4,p5,p6⟩ (by omega) fun i _ hi=>o6 i hi
 have lP6:CB 8 0 (H6.get H5.next)=some (.agg #[.string (C6 m),vr,vq,vv,vt,vu,vp,iv (AU m).2.miss]):=M4 rO.1 rfl
 have hw6:AK lw H6 w A:=AK.mono hw (by omega) fun i _ hi=>oHh i hi
 obtain⟨u1,G1,u2,G2,dv,G3,cc1,cc2,cc3,hdv,e2,e3,e4,e5,e6,e7,e8⟩:=aS (n:=n) hp6 hw6 hsm (by omega) (by omega) (by omega) (by rw[oHh 0 hn0];exact hg) (by omega) hn
 generalize hB:DY (C6 m) (AU m).2 (GC A (AU m).2.rows)=B at *
 obtain⟨dvo,rfl,hdo,hdI⟩:=hdv.ints3
 obtain⟨hc7,H7,t1,t2,la1,la2,f7a,f7,n7,o7⟩:=rX (H:=G3) (miss:=B.2.miss) (e:=B.1.1) (p:=B.1.2) hdo (by omega)
 have lPG:CB 8 0 (G1.get H5.next)=some (.agg #[.string (C6 m),vr,vq,vv,vt,vu,vp,iv (AU m).2.miss]):=by rw[e8 _ (by omega)];exact lP6
 have hq:(H5.next<H6.next)=True:=by simp;omega
 have zC:(cV (Z0) 0).cells.toList=[Z0,iv 0]:=rfl
 have flC:flat (cV (Z0) 0)=true:=rfl
 have fl1:hc7.fl G3.floor=hc7:=by rw[← f7a];exact IB hc7
 have fl2:H7.fl hc7.floor=H7:=by rw[f7a,← f7];exact IB H7
 have lC7:AS 0 (H7.get (G3.next+1))=some (iv B.1.1):=by rw[la2];rfl
 have lC0:AS 1 (H7.get G3.next)=some (iv B.2.miss):=by rw[la1];rfl
 have lCo:AS 0 (H7.get G3.next)=some dvo:=by rw[la1];rfl
 have oH7:∀ i,i<H6.next→H7.get i=H6.get i:=fun i hi=>by rw[o7 i (by omega),e7 i hi]
 have x0:AS 0 (H7.get h.next)=some vo:=by rw[oH7 _ (by omega),oH6 _ (by omega),gQ0];rfl
 have x1:AS 1 (H7.get h.next)=some (iv c.miss):=by rw[oH7 _ (by omega),oH6 _ (by omega),gQ0];rfl
 simp only[eE,seval,↓eP,d0]
 refine WK.flags (fs:=cG) (by kernel_rfl) ?_
 unfold cG
 iterate 13
  refine GN hsn ?_
  simp only[rG,seval,AB,AE,AD,B_,CO,DO,ED,Fsx,Option.bind_some,NI,I1,lP6,lPG,hq,cc1,cc2,cc3,e2,e3,QL,flC,zC,IA,IG,M0,DL,t1,t2,fl1,fl2,C8,GL,DD,D4,IB]
 refine GM ?_
 have oend:∀ i,i<h.next→H7.get i=h.get i:=fun i hi=>by rw[oH7 i (by omega),oHh i hi]
 rcases herr with h9 | h9
 ·obtain⟨r1,r2⟩:=hfin h9
  have d1:((0:Int) != 0)=false:=rfl
  have wm:IntKind.i64.wrap (c.miss+1)=c.miss+1:=by rw[hce];exact B0 (by omega) (by omega)
  have hon:c.on.length≤(AU l).2.queues.length:=by rw[hce];exact tH
  have hq9:=hi.wf.q
  have hsI:=VW (n:=n) (h:=H7) (AK.mono hoI (by omega) fun i _ hi=>oend i hi) (AK.mono hdI (by omega) fun i _ hi=>o7 i hi) (by omega) (by omega)
  rw[r1,decide_eq_true rfl] at hsI
  have hsI':=S4 (n:=n) (by decide) hsI
  rw[h9] at lC7
  rw[r2] at lC0
  simp only[eE,seval,↓eP,hr,Nat.zero_add,HJ,HC,lC7,d1,QT,TU,CX,A_,lC0,lCo,x0,x1,wm,BEq.rfl,hsI']
  exact oend
 ·have d1:((61:Int) != 0)=true:=rfl
  rw[h9] at lC7
  simp only[eE,seval,↓eP,hr,Nat.zero_add,HJ,HC,lC7,d1]
  exact oend
end
def FZ (A:List Int) (j:Nat):Int:=((A[j]?).getD 0)%4194304
def K7 (A M:List Int) (j:Nat):Int:=if M.length=0 then FZ A j else if FZ A j+FZ M (j%M.length)<4194304 then FZ A j+FZ M (j%M.length) else 4194304
theorem RH (A:List Int) (j:Nat):0≤FZ A j∧FZ A j<4194304:=by
 unfold FZ
 exact⟨Int.emod_nonneg _ (by decide),Int.emod_lt_of_pos _ (by decide)⟩
theorem sO (A M:List Int) (j:Nat):FZ A j≤K7 A M j∧K7 A M j≤4194304:=by
 have h1:=RH A j
 have h2:=RH M (j%M.length)
 unfold K7
 split
 ·omega
 ·split <;> omega
def IQ (f:Nat→Int) (i:Nat):List Int:=(List.range i).map f
theorem UB {f:Nat→Int} {i:Nat}:(IQ f i).length=i:=by simp[IQ]
theorem gV {f:Nat→Int} {i:Nat}:IQ f (i+1)=IQ f i++[f i]:=by simp[IQ,List.range_succ]
theorem qF {f:Nat→Int} {i:Nat} {p:Int→Prop} (h:∀ j,p (f j)):∀ x∈IQ f i,p x:=fun x hx=>by
 obtain⟨j,_,rfl⟩:=List.mem_map.1 hx
 exact h j
theorem nY {f:Nat→Int} {i:Nat} (j:Nat):((IQ f i)[j]?).getD 0=if j<i then f j else 0:=by
 unfold IQ
 rw[List.getElem?_map]
 by_cases h:j<i
 ·rw[List.getElem?_range h,if_pos h]
  rfl
 ·rw[List.getElem?_eq_none (by simp;omega),if_neg h]
  rfl
noncomputable def PC (n:Nat):AQ:=G_ (J9 [43] (NP (A8 Tryd.prog (LM n) n))) (LM n)
theorem cY (n:Nat):DM Tryd.prog (PC n)∧CH (PC n):=
 ST (XQ (VT (QG J2 (YM n).1 (YM n).2 n).1)) (YM n)
section
variable {n:Nat} {f:FuncId} {args:List Value} {h:AA} {r:Value × AA}
theorem PG (hf:[43].contains f=false) (hb:LM n f args h=some r):PC n f args h=some r:=by
 unfold PC G_ J9
 rw[hf]
 exact hb
theorem Lt {v:Value} (hv:FO v=true) (hw:∃ h1,A8 Tryd.prog (LM n) n 43 args h=some (v,h1)∧∀ i,i<h.next→h1.get i=h.get i):PC n 43 args h=some (v,h):=by
 obtain⟨h1,h2,h3⟩:=hw
 refine S9 ?_
 unfold J9
 have e:[43].contains 43=true:=by decide
 rw[e]
 exact YK h2 hv h3
theorem bS (hf:[43].contains f=false) (hf2:f≠39) (hb:AX n f args h=some r):PC n f args h=some r:=PG hf (S4 hf2 hb)
end
def cB:List (Bool × Bool × List Operand):=[AY,AY,C3 [.tmp 7],C3 [.tmp 7,.tmp 7],AL,AL,AL,AL,AL,C3 [.tmp 7,.tmp 7],AL,AL]
def bQ:List (Bool × Bool × List Operand):=[AY,AY,C3 [.tmp 7],C3 [.tmp 7,.tmp 7],AL,AL,AL,AL,AL,C3 [.tmp 7,.tmp 7],C3 [.tmp 7,.tmp 7],AL,AL]
def eN:List (Bool × Bool × List Operand):=[AY,AY,AN [.tmp 138],AY,AY,AN [.tmp 138,.tmp 141],AN [.tmp 138,.tmp 141],AN [.tmp 138,.tmp 141,.tmp 143],AN [.tmp 138,.tmp 141],AN [.tmp 138,.tmp 141],AL]
section
variable {n:Nat} {h:AA}
theorem yM {l:List AC} {v w u:Value} {A M:List Int} {lw lu:Nat} (hv:AV h v l) (ha:l≠[]→QE h v l) (hw:AK lw h w A) (hu:AK lu h u M) (h64:∀ x∈l,x.kids≤9223372036854775807) (hfl:h.floor≤h.next) (hg:h.get 0=DZ) (hn0:0<h.next) (hn:9000000<n) :
  ∃ h',A8 Tryd.prog (PC n) n 11 [v,w,u] h=some (.bool true,h')∧True:=by
 have hsn:=(cY n).2
 refine FE (R:=fun _=>True) Tryd.func11 rfl (by simp[Tryd.f11]) ?_
 have hr:Tryd.f11.results.toList=[.tmp 6]:=rfl
 have lenv:∀ h':AA,CC Tryd.prog h' 22 v=some (iv (l.length:Int)):=fun h'=>hv.len
 have lenw:=fun h'=>IX hw h'
 have lenu:=fun h'=>IX hu h'
 have hhead:∀ H:AA,H.get 0=DZ→PC n 39 [] H=some (.bool true,H):=fun H hH=>PG (by decide) (Se hH)
 cases d:decide ((l.length:Int)>4096) with
 | true=>
  have hhd:=hhead h hg
  simp only[eE,seval,↓eP,hr,lenv,d,hhd]
 | false=>
 have hl:l.length≤4096:=by
  have:=of_decide_eq_false d
  omega
 obtain⟨v5,H5,hres,pv,rfl,hp,f5,n5,o5⟩:=b9 (n:=n) (h:=h) (by omega) hv (by omega) h64 (by omega)
 have hres':=bS (n:=n) (by decide) (by decide) hres
 obtain⟨nm,s,hout⟩:∃ nm s,C7 l=(nm,s):=⟨_,_,rfl⟩
 rw[hout] at hp
 simp only at hp
 obtain⟨vr,vq,vv,vt,vu,vp,rfl,p1,p2,p3,p4,p5,p6⟩:=hp
 have op:=K_ (nm:=nm) p1 p2 p3 p4 p5 p6
 obtain⟨⟨hc6,H6⟩,s1,s2,rO,n6,f6,o6⟩:=W7 (H:=H5) (cs:=[.string nm,vr,vq,vv,vt,vu,vp,iv s.miss]) (e:=(AU l).1.1) (p:=(AU l).1.2) rfl op (by omega)
 simp only at s1 s2 rO n6 f6 o6
 have lF:AS 0 (H6.get (H5.next+1))=some (iv (AU l).1.1):=by rw[rO.2];rfl
 have oH6:∀ i,i<h.next→H6.get i=h.get i:=fun i hi=>by rw[o6 i (by omega),o5 i hi]
 have g6:H6.get 0=DZ:=by rw[oH6 0 hn0];exact hg
 simp only[eE,seval,↓eP,lenv,d,hres',MF,MH,NL,IA,IG,M0,DL,s1,s2,Nat.zero_add,HJ,HC,lF]
 cases d0:((AU l).1.1 != 0) with
 | true=>
  have hhd:=hhead H6 g6
  simp only[eE,seval,↓eP,hr,d0,hhd]
 | false=>
 have hok:(AU l).1.1=0:=by simpa using d0
 have hgood:=hout.symm.trans (SX hok)
 obtain⟨rfl,rfl⟩:nm=C6 l∧s=(AU l).2:=by cases hgood;exact⟨rfl,rfl⟩
 obtain⟨ht,_,_,_,_,hi⟩:=J8 hok
 have hne:l≠[]:=fun e=>by have:=ht.pos;rw[e] at this;exact absurd this (by decide)
 have hav:=ha hne
 have hwf:=hi.wf
 have q1:=hi.len;have q2:=hwf.q;have q3:=hwf.v;have q4:=hwf.t;have q5:=hwf.u;have q6:=hwf.o
 have hsm:HV (AU l).2:=by unfold HV;omega
 have hchk:=SE hok
 have hp6:C1 h.next H6 (.agg #[.string (C6 l),vr,vq,vv,vt,vu,vp,iv (AU l).2.miss]) (C6 l) (AU l).2:=C1.mono (h:=H5) ⟨vr,vq,vv,vt,vu,vp,rfl,p1,p2,p3,p4,p5,p6⟩ (by omega) fun i _ hi=>o6 i hi
 have hp5:C1 h.next H5 (.agg #[.string (C6 l),vr,vq,vv,vt,vu,vp,iv (AU l).2.miss]) (C6 l) (AU l).2:=⟨vr,vq,vv,vt,vu,vp,rfl,p1,p2,p3,p4,p5,p6⟩
 have rP:=rO.1
 have rF:=rO.2
 have nn1:H5.next+1<H6.next:=by omega
 generalize hs:(AU l).2=s at *
 clear s1 s2 lF rO hres hres' hout hgood p1 p2 p3 p4 p5 p6
 simp only[eE,seval,↓eP,d0]
 refine xF (Q:=fun e s'=>e=.exit 0∧s'.T.get 0=v∧s'.T.get 7=qP H5.next 0∧s'.T.get 8=qP (H5.next+1) 0∧H6.next≤s'.h.next∧s'.h.floor=H6.floor∧(∀ j,j<H6.next→s'.h.get j=H6.get j)∧∃ i v9 v10,i≤100∧s'.T.get 9=v9∧s'.T.get 10=v10∧AK H6.next s'.h v9 (IQ (FZ A) i)∧AK H6.next s'.h v10 (IQ (K7 A M) i)) ?_ ?_
 rotate_left
 ·rintro e ⟨T,H⟩ ⟨rfl,t0,t7,t8,nH,fH,oH,i,v9,v10,hi100,t9,t10,hlI,hgI⟩
  simp only at t0 t7 t8 nH fH oH t9 t10 hlI hgI
  have hLm:∀ x∈IQ (FZ A) i,0≤x∧x≤4194304:=qF fun j=>by have:=RH A j;omega
  have hGm:∀ x∈IQ (K7 A M) i,0≤x∧x≤4194304:=qF fun j=>by have:=RH A j;have:=sO A M j;omega
  have hle:∀ j:Nat,((IQ (FZ A) i)[j]?).getD 0≤((IQ (K7 A M) i)[j]?).getD 0:=fun j=>by
   rw[nY,nY]
   split
   ·exact(sO A M j).1
   ·exact Int.le_refl _
  have hlen:(IQ (FZ A) i).length=(IQ (K7 A M) i).length:=by rw[UB,UB]
  generalize IQ (FZ A) i=L at *
  generalize IQ (K7 A M) i=G at *
  have hrL:=XO (R:=s.rows) hLm
  have hrG:=XO (R:=s.rows) hGm
  have hmono:=Hi (nm:=C6 l) hchk PB PB hrL hrG (Ai (R:=s.rows) hlen hle)
  have herG:=nS (nm:=C6 l) hchk PB hrG
  have hpH:C1 h.next H (.agg #[.string (C6 l),vr,vq,vv,vt,vu,vp,iv s.miss]) (C6 l) s:=hp6.mono (by omega) fun j _ hj=>oH j hj
  have oHh:∀ j,j<h.next→H.get j=h.get j:=fun j hj=>by rw[oH j (by omega),oH6 j hj]
  have rPH:H.get H5.next=.row [.string (C6 l),vr,vq,vv,vt,vu,vp,iv s.miss] 30 false false:=by rw[oH _ (by omega)];exact rP
  have rFH:H.get (H5.next+1)=.row [iv (AU l).1.1,iv (AU l).1.2] 33 false false:=by rw[oH _ (by omega)];exact rF
  have lPH:CB 8 0 (H.get H5.next)=some (.agg #[.string (C6 l),vr,vq,vv,vt,vu,vp,iv s.miss]):=M4 rPH rfl
  obtain⟨u1,G1,u2,G2,dv,G3,cc1,cc2,cc3,hdv,e2,e3,e4,e5,e6,e7,e8⟩:=aS (n:=n) hpH hlI hsm (by omega) (by omega) (by omega) (by rw[oHh 0 hn0];exact hg) (by omega) hn
  have cc1':=PG (n:=n) (by decide) cc1
  have cc2':=PG (n:=n) (by decide) cc2
  have cc3':=PG (n:=n) (by decide) cc3
  generalize hBL:DY (C6 l) s (GC L s.rows)=BL at *
  obtain⟨dvo,rfl,hdo,hdI⟩:=hdv.ints3
  obtain⟨D1,RA,gD1,nD1,fD1,oD1⟩:=Ed (t:=65) SP (H:=G3) (zs:=[Z0,iv 0]) (vs:=[dvo,iv BL.2.miss]) rfl rfl (by simp only[List.all_cons,List.all_nil,hdo,LE,Bool.and_self]) (by omega)
  have st1':BJ Tryd.prog (G3.push (.row [Z0,iv 0] 65 false false)) 65 (qP G3.next 0) (cV dvo BL.2.miss)=some D1:=RA
  have rFD:D1.get (H5.next+1)=.row [iv (AU l).1.1,iv (AU l).1.2] 33 false false:=by rw[oD1 _ (by omega),e7 _ (by omega)];exact rFH
  have st2:=H_ (t:=33) M7 (h:=D1) (vs:=[iv BL.1.1,iv BL.1.2]) rFD rfl rfl rfl (by omega)
  have st2':BJ Tryd.prog D1 33 (qP (H5.next+1) 0) (FY BL.1.1 BL.1.2)=some (D1.put (H5.next+1) (.row [iv BL.1.1,iv BL.1.2] 33 false false)):=st2
  have gJF:(D1.put (H5.next+1) (.row [iv BL.1.1,iv BL.1.2] 33 false false)).get (H5.next+1)=.row [iv BL.1.1,iv BL.1.2] 33 false false:=BN rfl (by omega)
  have oJ:∀ j,j≠H5.next+1→(D1.put (H5.next+1) (.row [iv BL.1.1,iv BL.1.2] 33 false false)).get j=D1.get j:=fun j hj=>AM (by omega) (Ne.symm hj)
  have nJ:(D1.put (H5.next+1) (.row [iv BL.1.1,iv BL.1.2] 33 false false)).next=D1.next:=rfl
  have fJ:(D1.put (H5.next+1) (.row [iv BL.1.1,iv BL.1.2] 33 false false)).floor=D1.floor:=rfl
  generalize D1.put (H5.next+1) (.row [iv BL.1.1,iv BL.1.2] 33 false false)=J at *
  have fl1:D1.fl G3.floor=D1:=by rw[← fD1];exact IB D1
  have fl2:J.fl D1.floor=J:=by rw[← fJ];exact IB J
  have lPG:CB 8 0 (G1.get H5.next)=some (.agg #[.string (C6 l),vr,vq,vv,vt,vu,vp,iv s.miss]):=by rw[e8 _ (by omega)];exact lPH
  have hq:(H5.next<H.next)=True:=by simp;omega
  have zC:(cV (Z0) 0).cells.toList=[Z0,iv 0]:=rfl
  have flC:flat (cV (Z0) 0)=true:=rfl
  have oJh:∀ j,j<h.next→J.get j=h.get j:=fun j hj=>by rw[oJ j (by omega),oD1 j (by omega),e7 j (by omega),oHh j hj]
  have oJH:∀ j,j<H.next→j≠H5.next+1→J.get j=H.get j:=fun j hj hj2=>by rw[oJ j hj2,oD1 j (by omega),e7 j hj]
  have hpJ:C1 h.next J (.agg #[.string (C6 l),vr,vq,vv,vt,vu,vp,iv s.miss]) (C6 l) s:=hp5.mono (by omega) fun j _ hj=>by rw[oJ j (by omega),oD1 j (by omega),e7 j (by omega),oH j (by omega),o6 j hj]
  have rPJ:J.get H5.next=.row [.string (C6 l),vr,vq,vv,vt,vu,vp,iv s.miss] 30 false false:=by rw[oJH _ (by omega) (by omega)];exact rPH
  have lPJ:CB 8 0 (J.get H5.next)=some (.agg #[.string (C6 l),vr,vq,vv,vt,vu,vp,iv s.miss]):=M4 rPJ rfl
  have hgJ:AK H6.next J v10 G:=AK.mono hgI (by omega) fun j h1 hj=>oJH j hj (by omega)
  obtain⟨w1,K1,w2,K2,ev,K3,kk1,kk2,kk3,hev,k2,k3,k4,k5,k6,k7,k8⟩:=aS (n:=n) hpJ hgJ hsm (by omega) (by omega) (by omega) (by rw[oJh 0 hn0];exact hg) (by omega) hn
  have kk1':=PG (n:=n) (by decide) kk1
  have kk2':=PG (n:=n) (by decide) kk2
  have kk3':=PG (n:=n) (by decide) kk3
  generalize hBG:DY (C6 l) s (GC G s.rows)=BG at *
  obtain⟨evo,rfl,heo,heI⟩:=hev.ints3
  obtain⟨Z1,Z,z1,z2,gZ1,gZ2,fZ1,fZ,nZ,oZ⟩:=rX (H:=K3) (miss:=BG.2.miss) (e:=BG.1.1) (p:=BG.1.2) heo (by omega)
  have fl3:Z1.fl K3.floor=Z1:=by rw[← fZ1];exact IB Z1
  have fl4:Z.fl Z1.floor=Z:=by rw[fZ1,← fZ];exact IB Z
  have lPK:CB 8 0 (K1.get H5.next)=some (.agg #[.string (C6 l),vr,vq,vv,vt,vu,vp,iv s.miss]):=by rw[k8 _ (by omega)];exact lPJ
  have hq2:(H5.next<J.next)=True:=by simp;omega
  have oZJ:∀ j,j<J.next→Z.get j=J.get j:=fun j hj=>by rw[oZ j (by omega),k7 j hj]
  have oZh:∀ j,j<h.next→Z.get j=h.get j:=fun j hj=>by rw[oZJ j (by omega),oJh j hj]
  have gZ0:Z.get 0=DZ:=by rw[oZh 0 hn0];exact hg
  have y8:AS 0 (Z.get (H5.next+1))=some (iv BL.1.1):=by rw[oZJ _ (by omega),gJF];rfl
  have y15:AS 0 (Z.get (K3.next+1))=some (iv BG.1.1):=by rw[gZ2];rfl
  have gZ13:Z.get G3.next=.row [dvo,iv BL.2.miss] 65 false false:=by rw[oZJ _ (by omega),oJ _ (by omega)];exact gD1
  have y13:AS 0 (Z.get G3.next)=some dvo:=by rw[gZ13];rfl
  have y13m:AS 1 (Z.get G3.next)=some (iv BL.2.miss):=by rw[gZ13];rfl
  have y14:AS 0 (Z.get K3.next)=some evo:=by rw[gZ1];rfl
  have y14m:AS 1 (Z.get K3.next)=some (iv BG.2.miss):=by rw[gZ1];rfl
  have rPZ:Z.get H5.next=.row [.string (C6 l),vr,vq,vv,vt,vu,vp,iv s.miss] 30 false false:=by rw[oZJ _ (by omega)];exact rPJ
  have y7m:AS 7 (Z.get H5.next)=some (iv s.miss):=by rw[rPZ];rfl
  have oZG:∀ j,G2.next≤j→j<G3.next→Z.get j=G3.get j:=fun j h1 h2=>by rw[oZJ j (by omega),oJ j (by omega),oD1 j h2]
  have hdIZ:AK G2.next Z dvo BL.2.on:=AK.mono hdI (by omega) oZG
  have heIZ:AK K2.next Z evo BG.2.on:=AK.mono heI (by omega) fun j _ hj=>oZ j hj
  have lend:=fun h'=>IX hdI h'
  have lene:=fun h'=>IX heI h'
  have lCZ:CB 2 0 (Z.get G3.next)=some (cV dvo BL.2.miss):=by rw[gZ13];rfl
  have hhd:=hhead Z gZ0
  have n1:((0:Int) != 0)=false:=rfl
  have n2:((0:Int) != 61)=true:=rfl
  have n3:((0:Int)==61)=false:=rfl
  have n4:((61:Int) != 0)=true:=rfl
  have n5':((61:Int) != 61)=false:=rfl
  have n6':((61:Int)==61)=true:=rfl
  have n7:((61:Int)==0)=false:=rfl
  simp only[eE,seval,↓eP]
  refine WK.flags (fs:=cB) (by kernel_rfl) ?_
  unfold cB
  iterate 12
   refine GN hsn ?_
   simp only[rG,seval,AB,AE,AD,B_,CO,DO,ED,Fsx,Option.bind_some,NI,t7,t8,t9,I1,lPH,lPG,hq,cc1',cc2',cc3',e2,e3,QL,flC,zC,st1',st2',fl1,fl2,C8,GL,DD,D4,IB]
  refine GM ?_
  simp only[eE,seval,↓eP]
  refine WK.flags (fs:=bQ) (by kernel_rfl) ?_
  unfold bQ
  iterate 13
   refine GN hsn ?_
   simp only[rG,seval,AB,AE,AD,B_,CO,DO,ED,Fsx,Option.bind_some,NI,t7,t10,I1,lPJ,lPK,hq2,kk1',kk2',kk3',k2,k3,QL,flC,zC,IA,IG,M0,DL,z1,z2,fl3,fl4,C8,GL,DD,D4,IB]
  refine GM ?_
  rcases herG with g9 | g9
  rotate_left
  ·rw[g9] at y15
   rcases hmono.1 with g8 | g8
   ·rw[g8] at y8
    simp only[eE,seval,↓eP,hr,t7,t8,Nat.zero_add,HJ,HC,y8,y15,n1,n2,n3,n4,n5',n6',hhd]
   ·rw[g8] at y8
    simp only[eE,seval,↓eP,hr,t7,t8,Nat.zero_add,HJ,HC,y8,y15,n1,n2,n3,n4,n5',n6',n7,hhd]
  obtain⟨e0,hleC⟩:=hmono.2 g9
  rw[g9] at y15
  rw[e0] at y8
  have q7:decide (BL.2.miss>BG.2.miss)=false:=by have:=hleC.miss;simp;omega
  have q8:((BL.2.on.length:Int) != (BG.2.on.length:Int))=false:=by rw[hleC.len];simp
  have honB:BL.2.on.length≤16:=by rw[← hBL];exact Nat.le_trans tH (by omega)
  simp only[eE,seval,↓eP,t0,t7,t8,t9,Nat.zero_add,HJ,HC,y8,y15,n1,n2,n3,QT,TU,CX,A_,y13,y14,y13m,y14m,lend,lene,q7,q8]
  refine WK.loop (fun k s'=>s'.T.get 0=v∧s'.T.get 7=qP H5.next 0∧s'.T.get 9=v9∧s'.T.get 13=qP G3.next 0∧s'.T.get 14=qP K3.next 0∧s'.T.get 16=iv (k:Int)∧s'.h=Z∧k≤BL.2.on.length) 17 (by omega) ?_ ?_
  ·exact⟨by simp only[eE,seval,↓eP,rP,t0],by simp only[eE,seval,↓eP,rP,t7],by simp only[eE,seval,↓eP,rP,t9],by simp only[eE,seval,↓eP,rP],by simp only[eE,seval,↓eP,rP],by simp only[eE,seval,↓eP,rP] <;> rfl,rfl,by omega⟩
  rintro k ⟨T2,Z'⟩ hk ⟨r0,r7,r9,r13,r14,r16,hh,hkl⟩
  simp only at r0 r7 r9 r13 r14 r16 hh
  subst hh
  by_cases hkt:k<BL.2.on.length
  ·have c1:decide ((k:Int)<(BL.2.on.length:Int))=true:=by simp;omega
   obtain⟨x,hx⟩:∃ x,BL.2.on[k]?=some x:=⟨_,List.getElem?_eq_getElem hkt⟩
   obtain⟨y,hy⟩:∃ y,BG.2.on[k]?=some y:=⟨_,List.getElem?_eq_getElem (by rw[← hleC.len];exact hkt)⟩
   obtain⟨ida,pa,ea,hida,la⟩:=AK.get hdIZ hx
   obtain⟨idb,pb,eb,hidb,lb⟩:=AK.get heIZ hy
   have hxy:x≤y:=by
    have:=hleC.on k
    unfold IC at this
    rw[hx,hy] at this
    exact this
   have c2:decide (x>y)=false:=by simp;omega
   have w1:=DJ k (by omega)
   simp only[eE,seval,↓eP,r0,r7,r9,r13,r14,r16,Nat.zero_add,QT,CX,y13,lend,c1]
   refine WK.flags (fs:=eN) (by kernel_rfl) ?_
   unfold eN
   iterate 11
    refine GN hsn ?_
    simp only[rG,seval,AB,AE,AD,B_,CO,DO,ED,Fsx,Option.bind_some,NI,r13,r14,r16,QT,CX,y13,y14,ea,eb,A_,la,lb,RF,c2,C8,GL,DD,D4,IB]
   refine GM ?_
   simp only[eE,seval,↓eP,r0,r7,r9,r13,r14,r16,c2,w1]
   exact⟨by omega,by omega⟩
  ·have c1:decide ((k:Int)<(BL.2.on.length:Int))=false:=by simp;omega
   cases c2:decide (s.miss<0) with
   | true=>
    have hm0:BL.2.miss=0:=by
     rw[← hBL,← hs]
     exact Lw hok (by rw[hs];simpa using c2) (by rw[hs,PB];omega) (by rw[hs];exact hrL)
    have c3:(BL.2.miss==0)=true:=by rw[hm0];rfl
    simp only[eE,seval,↓eP,hr,r0,r7,r9,r13,r14,r16,Nat.zero_add,QT,TU,CX,A_,y13,y13m,lend,c1,HP,y7m,c2,c3,hhd]
   | false=>
    have hm0:0≤s.miss:=by have:=of_decide_eq_false c2;omega
    obtain⟨a,ham⟩:∃ a:Nat,s.miss=(a:Int):=⟨s.miss.toNat,by omega⟩
    rw[ham] at y7m c2
    have hdZ:KX G2.next Z' (cV dvo BL.2.miss) BL.2:=hdv.mono (by omega) oZG
    have hlo:=Lt (n:=n) rfl (Kd (n:=n) (h:=Z') (hav.mono (by omega) oZh) (AK.mono hlI (by omega) fun j h1 hj=>by rw[oZJ j (by omega),oJH j hj (by omega)]) hdZ hl h64 (by omega) gZ0 (by omega) hn hLm hok (by rw[hs];exact ham) (by rw[hs,hBL]) (by rw[hs,hBL];exact e0))
    simp only[eE,seval,↓eP,hr,r0,r7,r9,r13,r14,r16,Nat.zero_add,QT,TU,CX,A_,y13,lend,c1,HP,y7m,c2,eV,lCZ,hlo,hhd]
 refine WK.loop (fun i s'=>s'.T.get 0=v∧s'.T.get 1=w∧s'.T.get 2=u∧s'.T.get 7=qP H5.next 0∧s'.T.get 8=qP (H5.next+1) 0∧s'.T.get 11=iv (i:Int)∧i≤A.length∧i≤100∧H6.next≤s'.h.next∧s'.h.floor=H6.floor∧(∀ j,j<H6.next→s'.h.get j=H6.get j)∧∃ v9 v10 x9 x10,s'.T.get 9=v9∧s'.T.get 10=v10∧GI s'.h H6.next v9 (IQ (FZ A) i) x9∧GI s'.h H6.next v10 (IQ (K7 A M) i) x10∧(x9=x10→x9=0)) 101 (by omega) ?_ ?_
 ·exact⟨by simp only[eE,seval,↓eP,rP],by simp only[eE,seval,↓eP,rP],by simp only[eE,seval,↓eP,rP],by simp only[eE,seval,↓eP,rP],by simp only[eE,seval,↓eP,rP],by simp only[eE,seval,↓eP,rP] <;> rfl,by omega,by omega,Nat.le_refl _,rfl,fun _ _=>rfl,Z0,Z0,0,0,by simp only[eE,seval,↓eP,rP],by simp only[eE,seval,↓eP,rP],.inl ⟨rfl,rfl,rfl⟩,.inl ⟨rfl,rfl,rfl⟩,fun _=>rfl⟩
 rintro i ⟨T,H⟩ hi9 ⟨t0,t1,t2,t7,t8,t11,hiA,hi100,nH,fH,oH,v9,v10,x9,x10,t9,t10,gl9,gl10,hx910⟩
 simp only at t0 t1 t2 t7 t8 t11 nH fH oH t9 t10 gl9 gl10
 have oHh:∀ j,j<h.next→H.get j=h.get j:=fun j hj=>by rw[oH j (by omega),oH6 j hj]
 by_cases hlt:i<A.length∧i<100
 ·obtain⟨hlA,hl100⟩:=hlt
  have c1:decide ((i:Int)<(A.length:Int))=true:=by simp;omega
  have c2:decide ((i:Int)<100)=true:=by simp;omega
  obtain⟨x,hx⟩:∃ x,A[i]?=some x:=⟨_,List.getElem?_eq_getElem hlA⟩
  have hwH:AK lw H w A:=AK.mono hw (by omega) fun j _ hj=>oHh j hj
  obtain⟨ida,pa,ea,hida,la⟩:=AK.get hwH hx
  have kw:=bS (n:=n) (by decide) (by decide) (uY (n:=n) (h:=H) (a:=x) (m:=4194304) (by decide) (by omega))
  have el:x%4194304=FZ A i:=by unfold FZ;rw[hx];rfl
  rw[el] at kw
  obtain⟨v9',H7,x9',ap9,gl9',hx9',f7,n7,o7⟩:=sD (x:=FZ A i) gl9 (by omega) nH (by omega) (by rw[UB];omega)
  rw[← gV] at gl9'
  have gl10':=gl10.mono (h':=H7) n7 fun h1 h2=>o7 _ h2 (fun _ e=>by have:=hx910 e.symm;omega)
  obtain⟨v10',H8,x10',ap10,gl10n,hx10',f8,n8,o8⟩:=sD (x:=K7 A M i) gl10' (by omega) (by omega) (by omega) (by rw[UB];omega)
  rw[← gV] at gl10n
  have hx10:x10<H7.next∧(x10=0∨H6.next≤x10):=by
   rcases gl10 with⟨_,_,h1⟩ | ⟨_,h1,h2,_⟩
   ·omega
   ·omega
  have gl9n:=gl9'.mono (h':=H8) n8 fun h1 h2=>o8 _ h2 (fun _ e=>by
   rcases gl10 with⟨_,_,h3⟩ | ⟨_,_,h3,_⟩ <;> omega)
  have w1:=DJ i (by omega)
  have o68:∀ j,j<H6.next→H8.get j=H6.get j:=fun j hj=>by
   rw[o8 j (by omega) (fun h9=>by omega),o7 j (by omega) (fun h9=>by omega),oH j hj]
  have hx9b:x9'<H8.next:=by
   rcases gl9n with⟨_,_,h3⟩ | ⟨_,_,h3,_⟩ <;> omega
  have fin:x9'=x10'→x9'=0:=fun e=>by
   rcases gl9' with⟨_,h3,_⟩ | ⟨_,_,h3,_⟩
   ·have:=congrArg List.length h3
    rw[UB] at this
    simp at this
   ·omega
  by_cases hM:M.length=0
  ·have c3:decide ((M.length:Int)>0)=false:=decide_eq_false (by omega)
   have eg:K7 A M i=FZ A i:=by unfold K7;rw[if_pos hM]
   rw[eg] at ap10
   simp only[eE,seval,↓eP,t0,t1,t2,t7,t8,t11,t9,t10,lenw,lenu,c1,c2,ea,A_,la,kw,K9,ap9,c3,ap10,w1]
   exact⟨by omega,by omega,by omega,by omega,by omega,o68,_,_,_,_,rfl,rfl,gl9n,gl10n,fin⟩
  ·have c3:decide ((M.length:Int)>0)=true:=decide_eq_true (by omega)
   have hrem:=WH (P:=Tryd.prog) (t:=3) (x:=.tmp 54) (y:=.tmp 56) (k:=.i64) (a:=(i:Int)) (show (M.length:Int)≠0 by omega)
   have hq:(i:Int).tmod (M.length:Int)=((i%M.length:Nat):Int):=by rw[Int.tmod_eq_emod_of_nonneg (by omega),Int.natCast_emod]
   rw[hq] at hrem
   have hql:i%M.length<M.length:=Nat.mod_lt _ (by omega)
   obtain⟨y,hy⟩:∃ y,M[i%M.length]?=some y:=⟨_,List.getElem?_eq_getElem hql⟩
   have huH:AK lu H7 u M:=AK.mono hu (by omega) fun j _ hj=>by rw[o7 j (by omega) (fun h9=>by omega),oHh j hj]
   obtain⟨idb,pb,eb,hidb,lb⟩:=AK.get huH hy
   have kw2:=bS (n:=n) (by decide) (by decide) (uY (n:=n) (h:=H7) (a:=y) (m:=4194304) (by decide) (by omega))
   have em:y%4194304=FZ M (i%M.length):=by unfold FZ;rw[hy];rfl
   rw[em] at kw2
   have b1:=RH A i
   have b2:=RH M (i%M.length)
   have w2:IntKind.i64.wrap (FZ A i+FZ M (i%M.length))=FZ A i+FZ M (i%M.length):=B0 (by omega) (by omega)
   have eg:K7 A M i=if FZ A i+FZ M (i%M.length)<4194304 then FZ A i+FZ M (i%M.length) else 4194304:=by unfold K7;rw[if_neg hM]
   simp only[eE,seval,↓eP,t0,t1,t2,t7,t8,t11,t9,t10,lenw,lenu,c1,c2,ea,A_,la,kw,K9,ap9,c3,hrem,eb,lb,kw2,w2,min2,← eg,ap10,w1]
   exact⟨by omega,by omega,by omega,by omega,by omega,o68,_,_,_,_,rfl,rfl,gl9n,gl10n,fin⟩
 by_cases h1:i<A.length
 ·have c1:decide ((i:Int)<(A.length:Int))=true:=by simp;omega
  have c2:decide ((i:Int)<100)=false:=by simp;omega
  simp only[eE,seval,↓eP,t0,t1,t2,t7,t8,t11,t9,t10,lenw,lenu,c1,c2]
  exact⟨nH,fH,oH,i,v9,v10,hi100,rfl,rfl,gl9.ints (Nat.le_refl _),gl10.ints (Nat.le_refl _)⟩
 ·have c1:decide ((i:Int)<(A.length:Int))=false:=by simp;omega
  simp only[eE,seval,↓eP,t0,t1,t2,t7,t8,t11,t9,t10,lenw,lenu,c1]
  exact⟨nH,fH,oH,i,v9,v10,hi100,rfl,rfl,gl9.ints (Nat.le_refl _),gl10.ints (Nat.le_refl _)⟩
end
end Go.Proofs.YtipekdhneagdbaaDoor
namespace Go.Proofs.YtipekdhneagdbaaDoor
open Go Go.Sx Go.ChangeShapes Go.WideShapes Go.ChangeAt Go.RowKit
set_option maxRecDepth 100000
set_option linter.unusedSimpArgs false
set_option linter.unusedVariables false
set_option maxHeartbeats 64000000
section
variable {α:Type} {cells:α→List Value} {w:Nat} {l:List α}
theorem Ep (hcl:∀ x,(cells x).length=w):(l.flatMap cells).length=l.length*w:=by
 induction l with
 | nil=>simp
 | cons x l ih=>
  rw[List.flatMap_cons,List.length_append,ih,hcl,List.length_cons,Nat.succ_mul]
  omega
theorem i_ (hcl:∀ x,(cells x).length=w):∀ {l:List α} {i j:Nat} {x:α},l[i]?=some x→j<w→(l.flatMap cells)[i*w+j]?=(cells x)[j]?
 | [],i,j,x,h,_=>by simp at h
 | y :: l,0,j,x,h,hj=>by
  cases h
  rw[List.flatMap_cons,Nat.zero_mul,Nat.zero_add,List.getElem?_append_left (by rw[hcl];exact hj)]
 | y :: l,i+1,j,x,h,hj=>by
  have h':l[i]?=some x:=h
  rw[List.flatMap_cons,List.getElem?_append_right (by rw[hcl,Nat.succ_mul];omega),hcl,← i_ hcl h' hj]
  congr 1
  rw[Nat.succ_mul]
  omega
end
def KD (W:World) (v:Value) (n w:Nat) (cs:List Value):Prop:=cs.length=n*w∧((n=0∧v=Z0) ∨
 ∃ b off cap CS ty fr,v=.slice (some ⟨b,off,none⟩) n cap∧n≤cap∧cap<AJ∧W.heap[b]?=some (.cells CS ty fr)∧∀ k,k<n*w→CS[off+k]?=cs[k]?)
section
variable {H:Type} {enc:TypeId × Value→H} {W:World} {base b0:Nat} {sp:Nat→Bool} {hd:Bool}
theorem PI {α:Type} {cells:α→List Value} {Q:α→Prop} {w:Nat} {t e:TypeId} (ht:Tryd.prog.underlying t=some (.slice e)) (hw:Tryd.prog.cellsOf e=w)
  (hopen:∀ n cs y,DataW.trod enc Tryd.prog W base sp hd n e cs=some y→∃ x,cs=cells x∧Q x) (hcl:∀ x,(cells x).length=w) (hw0:0<w)
  {v:Value} {n:Nat} {y:DataW H × List MemPlace} (hval:Cell.okWide Tryd.prog W .any b0 t v) (h:DataW.trod enc Tryd.prog W base sp hd n t [v]=some y):∃ l:List α,(∀ x∈l,Q x)∧KD W v l.length w (l.flatMap cells):=by
 rcases DataW.trod_slice ht h with⟨h1,h2⟩ | ⟨a',len,cap,elems,rest,n',_,h1,_,hb,hl,hm,hlen,hel,_⟩
 ·cases h1
  exact⟨[],fun x hx=>(by cases hx),by simp,.inl ⟨rfl,rfl⟩⟩
 ·cases h1
  simp only[Cell.okWide,ht,Cell.ok] at hval
  obtain⟨_,_,_,hsp,row,cells',hsh,_⟩:=hval
  obtain⟨b,off,spot⟩:=a'
  simp only at hsp
  subst hsp
  have hblk:∃ CS ty fr,W.heap[b]?=some (.cells CS ty fr):=by
   simp only[World.shape?] at hsh
   split at hsh
   ·rename_i CS ty fr hh;exact⟨_,_,_,hh⟩
   ·cases hsh
  obtain⟨CS,ty,fr,hblk⟩:=hblk
  have each:∀ i,i<len→∃ x:α,Q x∧∀ j,j<w→CS[off+(i*w+j)]?=(cells x)[j]?:=fun i hi=>by
   have:=hel i hi
   obtain⟨y,hy⟩:∃ y,elems[i]?=some y:=⟨_,List.getElem?_eq_getElem (by omega)⟩
   rw[hy,e_,hw,Option.bind_eq_some_iff] at this
   obtain⟨cs,hcs,ht⟩:=this
   obtain⟨x,rfl,hx⟩:=hopen _ _ _ ht
   obtain⟨_,hc⟩:=pI hcs
   refine⟨x,hx,fun j hj=>?_⟩
   rw[← hc j hj,← Nat.add_assoc]
   simp only[World.cell?,hblk,Option.isSome_none,Bool.false_eq_true,if_false]
  obtain⟨l,hll,hl1⟩:∃ l:List α,l.length=len∧∀ i x,l[i]?=some x→Q x∧∀ j,j<w→CS[off+(i*w+j)]?=(cells x)[j]?:=by
   have : ∀ m,m≤len→∃ l:List α,l.length=m∧∀ i x,l[i]?=some x→Q x∧∀ j,j<w→CS[off+(i*w+j)]?=(cells x)[j]?:=by
    intro m
    induction m with
    | zero=>exact fun _=>⟨[],rfl,fun i x h=>by simp at h⟩
    | succ m ih=>
     intro hm
     obtain⟨l,h1,h2⟩:=ih (by omega)
     obtain⟨x,hx⟩:=each m (by omega)
     refine⟨l++[x],by simp[h1],fun i y hy=>?_⟩
     rcases Nat.lt_or_ge i l.length with h3 | h3
     ·rw[List.getElem?_append_left h3] at hy
      exact h2 i y hy
     ·rw[List.getElem?_append_right h3] at hy
      have:i-l.length=0:=by
       rcases Nat.eq_zero_or_pos (i-l.length) with h4 | h4
       ·exact h4
       ·rw[List.getElem?_eq_none (by simp;omega)] at hy
        cases hy
      rw[this] at hy
      cases hy
      have:i=m:=by omega
      subst this
      exact hx
   exact this len (Nat.le_refl _)
  unfold maxLen at hm
  refine⟨l,fun x hx=>?_,Ep hcl,.inr ⟨b,off,cap,CS,ty,fr,by rw[hll],by omega,by unfold AJ;omega,hblk,fun k hk=>?_⟩⟩
  ·obtain⟨i,hi⟩:=List.getElem?_of_mem hx
   exact(hl1 i x hi).1
  ·have hdm:=Nat.div_add_mod k w
   rw[Nat.mul_comm] at hdm
   have hj:=Nat.mod_lt k hw0
   have hi:k/w<l.length:=(Nat.div_lt_iff_lt_mul hw0).2 hk
   have hx:=List.getElem?_eq_getElem hi
   rw[← hdm,(hl1 _ _ hx).2 _ hj,i_ hcl hx hj]
end
structure NH where
 v:Value
 n:Nat
 w:Nat
 cs:List Value
 ty:TypeId
noncomputable def JJ:AA→List NH→AA
 | h,[]=>h
 | h,p :: ps=>JJ (h.push (.row p.cs p.ty false true)) ps
theorem bW:∀ (ps:List NH) (h:AA),(JJ h ps).next=h.next+ps.length∧(JJ h ps).floor=h.floor∧∀ i,i<h.next→(JJ h ps).get i=h.get i
 | [],h=>⟨rfl,rfl,fun _ _=>rfl⟩
 | p :: ps,h=>by
  obtain⟨h1,h2,h3⟩:=bW ps (h.push (.row p.cs p.ty false true))
  rw[DL] at h1 h3
  refine⟨by show (JJ _ ps).next=_;rw[h1,List.length_cons];omega,h2,fun i hi=>?_⟩
  show (JJ _ ps).get i=_
  rw[h3 i (by omega),AT hi]
theorem eJ:∀ {ps:List NH} {h:AA} {i:Nat} {p:NH},ps[i]?=some p→(JJ h ps).get (h.next+i)=.row p.cs p.ty false true
 | [],h,i,p,hp=>by simp at hp
 | q :: ps,h,0,p,hp=>by
  cases hp
  show (JJ _ ps).get h.next=_
  rw[(bW ps _).2.2 _ (by rw[DL];omega),BP]
 | q :: ps,h,i+1,p,hp=>by
  have:=eJ (ps:=ps) (h:=h.push (.row q.cs q.ty false true)) (i:=i) (p:=p) hp
  rw[DL] at this
  show (JJ _ ps).get (h.next+(i+1))=_
  rw[← this]
  congr 1
  omega
def NO (p:NH):Go.Sx.Loc:=match p.v with
 | .slice (some a) _ _=>⟨a.block,a.off,0,0⟩
 | _=>⟨0,0,0,0⟩
def RO (ps:List NH):BK:=fun i=>if i=0 then some ⟨0,0,0,0⟩ else (ps[i-1]?).map NO
def PY (i:Nat) (p:NH):Value:=match p.v with
 | .slice (some _) n c=>qS i n c
 | v=>v
theorem aB {ps:List NH} {i:Nat} {p:NH} (h:ps[i]?=some p):RO ps (i+1)=some (NO p):=by
 unfold RO
 rw[if_neg (by omega),Nat.add_sub_cancel,h]
 rfl
theorem ZL {W : World} (h : laidMetH Tryd.prog [("winnow/lex.words", Rows.laid_winnow_lex_words)] W) {ps : List NH} (hps : ∀ p ∈ ps, KD W p.v p.n p.w p.cs ∧ ∀ v ∈ p.cs, B7 v = true) :
  CA Tryd.prog (RO ps) (JJ J5 ps) W∧(∀ i,¬ wr ((JJ J5 ps).get i))∧(JJ J5 ps).next=ps.length+1∧(JJ J5 ps).floor=0∧(JJ J5 ps).get 0=DZ ∧
   ∀ (i:Nat) p,ps[i]?=some p→AH (RO ps) (PY (i+1) p) p.v∧AZ 0 (JJ J5 ps) (PY (i+1) p) p.n p.w p.cs:=by
 obtain⟨hn,hf,ho⟩:=bW ps J5
 have h01:J5.next=1:=rfl
 rw[h01] at hn ho
 obtain⟨CS0,ty0,fr0,hb0,hcs0⟩:=ZF (zs:=H9) (rest:=[]) aF fN Tryd.underlying145 Tryd.underlying9 ZT bR h
 have hget:∀ (i:Nat) p,ps[i]?=some p→(JJ J5 ps).get (i+1)=.row p.cs p.ty false true:=fun i p hp=>by
  have:=eJ (h:=J5) hp
  rw[h01,Nat.add_comm] at this
  exact this
 have hro:=XZ (P:=Tryd.prog) (W:=W) (ρ:=RO ps) (h:=JJ J5 ps) rfl (fun i hi=>by
   unfold RO
   rw[if_neg (by omega),List.getElem?_eq_none (by omega)]
   rfl) (fun g hg=>by
   rw[Y7] at hg
   obtain rfl:g=0:=by omega
   exact⟨_,rfl,rfl,rfl⟩) (fun i hi=>by
   rw[hn] at hi
   cases i with
   | zero=>
    refine⟨MW,9,false,⟨0,0,0,0⟩,CS0,ty0,fr0,(ho 0 (by omega)).trans rfl,rfl,hb0,fun k v hv=>⟨v,?_,?_⟩⟩
    ·have:CS0.toList[k]?=some v:=by rw[hcs0];exact hv
     simpa using this
    ·have hm:v∈MW:=List.mem_of_getElem? hv
     obtain⟨z,_,rfl⟩:=List.mem_map.1 hm
     exact .flat rfl
   | succ i=>
    obtain⟨p,hp⟩:∃ p,ps[i]?=some p:=⟨_,List.getElem?_eq_getElem (by omega)⟩
    obtain⟨⟨hl,hor⟩,hfl⟩:=hps p (List.mem_of_getElem? hp)
    rcases hor with⟨h0,hv⟩ | ⟨b,off,cap,CS,ty,fr,hv,h1,h2,h3,h4⟩
    ·refine⟨p.cs,p.ty,false,NO p,CS0,ty0,fr0,hget i p hp,aB hp,by unfold NO;rw[hv];exact hb0,fun k v hk=>?_⟩
     have:=(List.getElem?_eq_some_iff.1 hk).1
     rw[hl,h0,Nat.zero_mul] at this
     omega
    ·refine⟨p.cs,p.ty,false,NO p,CS,ty,fr,hget i p hp,aB hp,by unfold NO;rw[hv];exact h3,fun k v hk=>⟨v,?_,.flat (hfl v (List.mem_of_getElem? hk))⟩⟩
     have hkl:=(List.getElem?_eq_some_iff.1 hk).1
     have e:(NO p).d=off:=by unfold NO;rw[hv]
     rw[e,h4 k (by omega)]
     exact hk)
 refine⟨hro.1,hro.2,by omega,hf,(ho 0 (by omega)).trans rfl,fun i p hp=>?_⟩
 obtain⟨⟨hl,hor⟩,hfl⟩:=hps p (List.mem_of_getElem? hp)
 have hil:=(List.getElem?_eq_some_iff.1 hp).1
 rcases hor with⟨h0,hv⟩ | ⟨b,off,cap,CS,ty,fr,hv,h1,h2,h3,h4⟩
 ·have e:PY (i+1) p=Z0:=by unfold PY;rw[hv]
  have ecs:p.cs=[]:=List.length_eq_zero_iff.1 (by rw[hl,h0,Nat.zero_mul])
  rw[e,hv,ecs,h0]
  exact⟨.flat rfl,AZ.nil _ _ _⟩
 ·have e:PY (i+1) p=qS (i+1) p.n cap:=by unfold PY;rw[hv]
  have eL:NO p=⟨b,off,0,0⟩:=by unfold NO;rw[hv]
  rw[e]
  refine⟨?_,AZ.rowR (ex:=[]) (by rw[List.append_nil];exact hget i p hp) ⟨Nat.zero_le _,by omega⟩ hl fun h=>absurd h (Nat.lt_irrefl 0)⟩
  rw[hv]
  exact AH.slice (L:=⟨b,off,0,0⟩) (by rw[aB hp,eL]) h2
theorem kS (l:List Int):l.flatMap (fun x=>[iv x])=ints l:=by
 induction l with
 | nil=>rfl
 | cons x l ih=>rw[List.flatMap_cons,ih];rfl
section
variable {H:Type} {enc:TypeId × Value→H} {W:World} {base b0:Nat} {sp:Nat→Bool} {hd:Bool}
theorem XI {n:Nat} {cs:List Value} {y:DataW H × List MemPlace} (h:DataW.trod enc Tryd.prog W base sp hd n 3 cs=some y):∃ x:Int,cs=[iv x]∧(-9223372036854775808≤x∧x≤9223372036854775807):=by
 obtain⟨a,ha,_,wa⟩:=DataW.trod_int Tryd.underlying3 h
 exact⟨a,ha,bounds_i64 wa⟩
end
section
variable {H:Type} {enc:TypeId × Value→H} {W:World} {base b0:Nat} {sp:Nat→Bool} {hd:Bool} {v:Value} {d:DataW H} {p:List MemPlace}
theorem Nw (hval:Value.okWide Tryd.prog W .any b0 22 v) (h:DataW.Trod enc Tryd.prog W base sp hd 22 v d p):∃ l:List AC,(∀ x∈l,QK x)∧KD W v l.length 5 (l.flatMap AI):=by
 obtain⟨a,len,cap,rfl⟩:=okWide_slice Tryd.underlying22 hval
 obtain⟨fuel,hf⟩:=h
 have hc:Cell.okWide Tryd.prog W .any b0 22 (.slice a len cap):=by simpa only[Value.okWide,Tryd.underlying22] using hval
 exact PI Tryd.underlying22 VN (fun n cs y h=>bN h) (fun _=>rfl) (by decide) hc hf
theorem iJ (hval:Value.okWide Tryd.prog W .any b0 28 v) (h:DataW.Trod enc Tryd.prog W base sp hd 28 v d p):∃ l:List Int,KD W v l.length 1 (ints l):=by
 obtain⟨a,len,cap,rfl⟩:=okWide_slice Tryd.underlying28 hval
 obtain⟨fuel,hf⟩:=h
 have hc:Cell.okWide Tryd.prog W .any b0 28 (.slice a len cap):=by simpa only[Value.okWide,Tryd.underlying28] using hval
 obtain⟨l,_,hl⟩:=PI (cells:=fun x:Int=>[iv x]) Tryd.underlying28 OY (fun n cs y h=>XI h) (fun _=>rfl) (by decide) hc hf
 rw[kS] at hl
 exact⟨l,hl⟩
end
end Go.Proofs.YtipekdhneagdbaaDoor
namespace Go.Proofs.YtipekdhneagdbaaDoor
open Go Go.ChangeShapes Go.WideShapes Go.ChangeAt Go.RowKit Go.Sx
set_option maxRecDepth 100000
set_option maxHeartbeats 64000000
theorem z9 {W : World} (h : laidMetH Tryd.prog [("winnow/lex.words", Rows.laid_winnow_lex_words)] W) {v w u : Value} {l : List AC} {A B : List Int} (hv : KD W v l.length 5 (l.flatMap AI)) (hw : KD W w A.length 1 (ints A)) (hu : KD W u B.length 1 (ints B)) :
  ∃ hp ρ sv sw su,CA Tryd.prog ρ hp W∧(∀ i,¬ wr (hp.get i))∧AH ρ sv v∧AH ρ sw w∧AH ρ su u∧AV hp sv l∧(l≠[]→∃ id c ty g ro,sv=qS id l.length c∧l.length≤c∧c<AJ∧id<hp.next∧hp.get id=.row (l.flatMap AI) ty g ro)∧AK 0 hp sw A∧AK 0 hp su B∧hp.floor=0∧hp.get 0=DZ∧0<hp.next:=by
 have hR:=ZL h (ps:=[⟨v,_,_,_,46⟩,⟨w,_,_,_,3⟩,⟨u,_,_,_,3⟩]) (fun p hp=>by
  simp only[List.mem_cons,List.not_mem_nil,or_false] at hp
  rcases hp with rfl | rfl | rfl
  ·refine⟨hv,fun v hv=>?_⟩
   obtain⟨x,_,hx⟩:=List.mem_flatMap.1 hv
   obtain⟨j,hj⟩:=List.getElem?_of_mem hx
   exact XF hj
  ·refine⟨hw,fun v hv=>?_⟩
   obtain⟨x,_,rfl⟩:=List.mem_map.1 hv
   rfl
  ·refine⟨hu,fun v hv=>?_⟩
   obtain⟨x,_,rfl⟩:=List.mem_map.1 hv
   rfl)
 obtain⟨r1,r2,r3,r4,r5,r6⟩:=hR
 obtain⟨a0,b0⟩:=r6 0 _ rfl
 obtain⟨a1,b1⟩:=r6 1 _ rfl
 obtain⟨a2,b2⟩:=r6 2 _ rfl
 have hget:=eJ (ps:=[⟨v,l.length,5,l.flatMap AI,46⟩,⟨w,A.length,1,ints A,3⟩,⟨u,B.length,1,ints B,3⟩]) (h:=J5) (i:=0) rfl
 refine⟨_,_,_,_,_,r1,r2,a0,a1,a2,(HT.of b0).1,fun hne=>?_,b1,b2,r4,r5,by omega⟩
 rcases hv.2 with⟨h0,_⟩ | ⟨b,off,cap,CS,ty,fr,e,h1,h2,_⟩
 ·exact absurd (List.length_eq_zero_iff.1 h0) hne
 ·exact⟨1,cap,_,_,_,by unfold PY;rw[e],h1,h2,Nat.lt_of_lt_of_eq (show 1<4 by decide) r3.symm,hget⟩
end Go.Proofs.YtipekdhneagdbaaDoor
