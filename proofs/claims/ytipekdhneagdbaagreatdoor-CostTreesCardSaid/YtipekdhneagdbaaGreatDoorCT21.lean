/- Part 21 of what the claim leans on: 2 texts laid one behind another. -/
import Derived.Test.YtipekdhneagdbaaGreatDoorCT20
namespace Go.Proofs.YtipekdhneagdbaaGreatDoor
open Go Go.Sx
set_option maxRecDepth 100000
set_option linter.unusedSimpArgs false
set_option linter.unusedVariables false
section
variable {call:J0r} {n N:Nat} {h:SHeap}
set_option maxHeartbeats 4000000 in
theorem Jo7 {l:List Int} {v:Value} {lo:Nat} (hv:J1S lo h v l) (hl:l.length<900000000) (hfl:h.floor≤h.next) :
  ∃ h',J0L Tryz.prog call N 20 [v] h=some (.slice (some ⟨h.next,0,none⟩) l.length (l.length+3),h')∧(LentC h' h.next l.length 1 (ints l) [iv (-77)] [iv 0] 3∧h'.next=h.next+2∧h'.floor=h.floor∧∀ i,i<h.next→h'.get i=h.get i):=by
 refine J1N (R:=fun h'=>LentC h' h.next l.length 1 (ints l) [iv (-77)] [iv 0] 3∧h'.next=h.next+2∧h'.floor=h.floor∧∀ i,i<h.next→h'.get i=h.get i) Tryz.func20 rfl (by simp[Tryz.f20]) ?_
 have hr:Tryz.f20.results.toList=[.tmp 2]:=rfl
 have hlen:=JfF hv
 have w3:IntKind.i64.wrap ((l.length:Int)+3)=((l.length+3:Nat):Int):=J0s (by omega) (by omega)
 have hmk:=Joa (h:=h) (n:=l.length+3) Tryz.underlying25 sz3 by3 J8P rfl rfl (by decide) (by decide) (by omega)
 obtain⟨h1,h3,a1,a2,a3,a4,a5,a6,a7,a8,a9⟩:=Jov (mk:=[iv (-77)]) Tryz.underlying25 sz3 by3 J8P rfl (by decide) hv (J5u l) rfl rfl (by omega) hfl
 have hsl:=fun (H:SHeap)=>JnH (h:=H) (id:=h.next) (n:=l.length+1) (m:=l.length) (c:=l.length+3) Tryz.underlying25 sz3 (by omega) (by unfold unk;omega)
 simp only[evC,seval,↓evP,hr,hlen,w3,hmk,a1,bs28,a5,hsl]
 exact⟨a6,a7,a8,a9⟩
theorem JnZ {l:List Int} {v:Value} {lo:Nat} (hv:J1S lo h v l) (hl:l.length<900000000) (hfl:h.floor≤h.next) (hn:0<n) :
  ∃ h',J0T n 20 [v] h=some (.slice (some ⟨h.next,0,none⟩) l.length (l.length+3),h')∧(LentC h' h.next l.length 1 (ints l) [iv (-77)] [iv 0] 3∧h'.next=h.next+2∧h'.floor=h.floor∧∀ i,i<h.next→h'.get i=h.get i):=by
 obtain⟨n,rfl⟩:∃ j,n=j+1:=⟨n-1,by omega⟩
 exact Jc0 (J13 ⟨rfl,rfl,rfl⟩) rfl (Jo7 hv hl hfl)
end
theorem JoW {nm:ByteArray} {m:Int} {id k c:Nat}:J1P Tryz.prog 27 [(0,.string nm),(7,iv m),(1,.slice (some ⟨id,0,none⟩) k c)]=some (.agg #[.string nm,.slice (some ⟨id,0,none⟩) k c,.slice none 0 0,.slice none 0 0,.slice none 0 0,.slice none 0 0,.slice none 0 0,iv m]):=by
 have h:=J82
 rw[Tryz.underlying27] at h
 simp only at h
 simp only[J1P,J5F,J3Y,if_true,Tryz.underlying27,h]
 rfl
theorem Joh {nm:ByteArray}:J1P Tryz.prog 55 [(0,.string nm)]=some (.agg #[.string nm,.bool false]):=by
 have h:=Jgp
 rw[Tryz.underlying55] at h
 simp only at h
 simp only[J1P,J9V,Ji6,Jig,Jh8,Bool.and_self,if_true,Tryz.underlying55,h]
 rfl
noncomputable def Jp6:Array Oper:=J18 Tryz.f7 1
def JpI:List (Bool × Bool × List Operand):=[(true,true,[]),(true,true,[]),(true,true,[.tmp 4]),(true,true,[.tmp 4]),(false,true,[.tmp 4,.tmp 6]),(false,true,[.tmp 4,.tmp 6]),(false,true,[.tmp 4,.tmp 6]),(false,false,[]),(true,true,[.tmp 4,.tmp 6,.tmp 8]),(false,false,[])]
theorem Jp0:J1E Jp6=JpI:=by kernel_rfl
noncomputable def JoU:Array Oper:=J18 Tryz.f7 2
def Jpx:List (Bool × Bool × List Operand):=[(false,true,[]),(false,true,[]),(false,true,[]),(false,true,[]),(false,true,[]),(true,true,[.tmp 12]),(true,true,[.tmp 12]),(false,true,[]),(true,true,[.tmp 12,.tmp 17]),(true,true,[.tmp 12,.tmp 17]),(false,true,[]),(true,true,[.tmp 12,.tmp 17]),(true,true,[.tmp 12,.tmp 17]),(true,true,[.tmp 12,.tmp 17]),(false,false,[]),(false,false,[]),(false,false,[])]
theorem Jp7:J1E JoU=Jpx:=by kernel_rfl
noncomputable def Jp4:Array Oper:=J18 Tryz.f7 3
def JpC:List (Bool × Bool × List Operand):=[(false,true,[]),(false,true,[]),(false,true,[]),(false,true,[]),(false,true,[]),(true,true,[.tmp 28]),(true,true,[.tmp 28]),(false,true,[]),(true,true,[.tmp 28,.tmp 33]),(false,true,[]),(true,true,[.tmp 28,.tmp 33]),(true,true,[.tmp 28,.tmp 33]),(true,true,[.tmp 28,.tmp 33]),(false,false,[]),(false,false,[]),(false,false,[])]
theorem JoZ:J1E Jp4=JpC:=by kernel_rfl
noncomputable def JoX:Array Oper:=J18 Tryz.f7 4
def Jpt:List (Bool × Bool × List Operand):=[(false,true,[]),(false,true,[]),(false,true,[]),(false,true,[]),(false,true,[]),(true,true,[.tmp 43]),(true,true,[.tmp 43]),(false,true,[]),(true,true,[.tmp 43,.tmp 48]),(false,true,[]),(true,true,[.tmp 43,.tmp 48]),(true,true,[.tmp 43,.tmp 48]),(true,true,[.tmp 43,.tmp 48]),(false,false,[]),(false,false,[]),(false,false,[])]
theorem Jp1:J1E JoX=Jpt:=by kernel_rfl
structure LentPol (h:SHeap) (b:Nat) (v:Value) (nm:ByteArray) (s:StN) (o:Nat→Nat):Prop where
 v:v=.agg #[.string nm,.slice (some ⟨o 1,0,none⟩) s.rows.length (s.rows.length+9),.slice (some ⟨o 2,0,none⟩) s.queues.length (s.queues.length+3),.slice (some ⟨o 3,0,none⟩) s.vars.length (s.vars.length+3),.slice (some ⟨o 4,0,none⟩) s.tags.length (s.tags.length+3),.slice (some ⟨o 5,0,none⟩) s.rules.length (s.rules.length+3),.slice (some ⟨o 6,0,none⟩) s.on.length (s.on.length+3),iv s.miss]
 far:b≤o 1∧o 1<o 2∧o 2<o 3∧o 3<o 4∧o 4<o 5∧o 5<o 6∧o 6<h.next
 r:∃ L,LentAt h (o 1) s.rows L
 q:LentC h (o 2) s.queues.length 2 (J3S s.queues) [.string JcY,.bool false] [.string ByteArray.empty,.bool false] 55
 w:LentC h (o 3) s.vars.length 1 (strs s.vars) [.string JcY] [.string ByteArray.empty] 9
 t:LentC h (o 4) s.tags.length 1 (strs s.tags) [.string JcY] [.string ByteArray.empty] 9
 u:LentC h (o 5) s.rules.length 1 (ints s.rules) [iv (-77)] [iv 0] 3
 p:LentC h (o 6) s.on.length 1 (ints s.on) [iv (-77)] [iv 0] 3
section
variable {n N:Nat} {h:SHeap}
set_option maxHeartbeats 16000000 in
theorem JoJ {nm:ByteArray} {s:StN} {pv:Value} {lo:Nat} (hp:J3x lo h pv nm s) (hs:JdC s) (hl:s.rows.length<900000000) (hl2:s.rules.length<900000000∧s.on.length<900000000) (hfl:h.floor≤h.next) (hn:20<n) :
  ∃ v' h',J0L Tryz.prog (J0T n) N 7 [pv] h=some (v',h')∧(∃ o,LentPol h' h.next v' nm s o)∧h.next≤h'.next∧h'.floor=h.floor∧∀ i,i<h.next→h'.get i=h.get i:=by
 obtain⟨vr,vq,vv,vt,vu,vo,rfl,p1,p2,p3,p4,p5,p6⟩:=hp
 obtain⟨aq,cq,rfl,_⟩:=id p2.2
 obtain⟨av,cv,rfl,_⟩:=id p3.2
 obtain⟨at_,ct,rfl,_⟩:=id p4.2
 have hsn:=(J1z n).2
 refine J65 (R:=fun v' h'=>(∃ o,LentPol h' h.next v' nm s o)∧h.next≤h'.next∧h'.floor=h.floor∧∀ i,i<h.next→h'.get i=h.get i) Tryz.func7 rfl (by simp[Tryz.f7]) ?_
 have hr:Tryz.f7.results.toList=[.cell 2 27]:=rfl
 obtain⟨q1,q2,q3,q4,q5,q6⟩:=hs
 have ca:(Value.agg #[.string nm,vr,.slice aq s.queues.length cq,.slice av s.vars.length cv,.slice at_ s.tags.length ct,vu,vo,iv s.miss]).cells.toList=[.string nm,vr,.slice aq s.queues.length cq,.slice av s.vars.length cv,.slice at_ s.tags.length ct,vu,vo,iv s.miss]:=rfl
 have zc30:zPol.cells.toList=[.string ByteArray.empty,.slice none 0 0,.slice none 0 0,.slice none 0 0,.slice none 0 0,.slice none 0 0,.slice none 0 0,iv 0]:=rfl
 have oa:=all8 (nm:=nm) p1 p2 p3 p4 p5 p6
 obtain⟨x0,x1,x2,x3,x4,x5,x6,x7⟩:=Jhw (a:=.string nm) (b:=vr) (c:=.slice aq s.queues.length cq) (d:=.slice av s.vars.length cv) (e:=.slice at_ s.tags.length ct) (f:=vu) (g:=vo) (i:=iv s.miss) (ty:=27) (x:=false) (y:=false)
 have len2:=JfC p2
 have len3:=JfT p3
 have len4:=JfT p4
 simp only[evC,seval,↓evP,rpD,J0X,J2t,ca,oa,sz30,J5F,J3Y,zc30]
 have gA:((h.push (.row [.string nm,vr,.slice aq s.queues.length cq,.slice av s.vars.length cv,.slice at_ s.tags.length ct,vu,vo,iv s.miss] 27 false false)).push (.row [.string ByteArray.empty,.slice none 0 0,.slice none 0 0,.slice none 0 0,.slice none 0 0,.slice none 0 0,.slice none 0 0,iv 0] 27 false false)).get h.next=.row [.string nm,vr,.slice aq s.queues.length cq,.slice av s.vars.length cv,.slice at_ s.tags.length ct,vu,vo,iv s.miss] 27 false false:=J4c
 have gZ:((h.push (.row [.string nm,vr,.slice aq s.queues.length cq,.slice av s.vars.length cv,.slice at_ s.tags.length ct,vu,vo,iv s.miss] 27 false false)).push (.row [.string ByteArray.empty,.slice none 0 0,.slice none 0 0,.slice none 0 0,.slice none 0 0,.slice none 0 0,.slice none 0 0,iv 0] 27 false false)).get (h.next+1)=.row [.string ByteArray.empty,.slice none 0 0,.slice none 0 0,.slice none 0 0,.slice none 0 0,.slice none 0 0,.slice none 0 0,iv 0] 27 false false:=J48
 have gO:∀ i,i<h.next→((h.push (.row [.string nm,vr,.slice aq s.queues.length cq,.slice av s.vars.length cv,.slice at_ s.tags.length ct,vu,vo,iv s.miss] 27 false false)).push (.row [.string ByteArray.empty,.slice none 0 0,.slice none 0 0,.slice none 0 0,.slice none 0 0,.slice none 0 0,.slice none 0 0,iv 0] 27 false false)).get i=h.get i:=fun i hi=>by rw[J06 (by show i<h.next+1;omega),J06 hi]
 have n0:((h.push (.row [.string nm,vr,.slice aq s.queues.length cq,.slice av s.vars.length cv,.slice at_ s.tags.length ct,vu,vo,iv s.miss] 27 false false)).push (.row [.string ByteArray.empty,.slice none 0 0,.slice none 0 0,.slice none 0 0,.slice none 0 0,.slice none 0 0,.slice none 0 0,iv 0] 27 false false)).next=h.next+2:=rfl
 have f0:((h.push (.row [.string nm,vr,.slice aq s.queues.length cq,.slice av s.vars.length cv,.slice at_ s.tags.length ct,vu,vo,iv s.miss] 27 false false)).push (.row [.string ByteArray.empty,.slice none 0 0,.slice none 0 0,.slice none 0 0,.slice none 0 0,.slice none 0 0,.slice none 0 0,iv 0] 27 false false)).floor=h.floor:=rfl
 generalize (h.push (.row [.string nm,vr,.slice aq s.queues.length cq,.slice av s.vars.length cv,.slice at_ s.tags.length ct,vu,vo,iv s.miss] 27 false false)).push (.row [.string ByteArray.empty,.slice none 0 0,.slice none 0 0,.slice none 0 0,.slice none 0 0,.slice none 0 0,.slice none 0 0,iv 0] 27 false false)=H0 at *
 have hA0:(h.next<H0.next)=True:=by rw[n0];simp
 have P1:J0l (H0.fl (max H0.floor H0.next)) vr s.rows:=p1.1.mono (by rw[J0J];omega) gO
 obtain⟨h1,hlend,⟨L,hL⟩,n1,f1,o1⟩:=Jic (n:=n) P1 hl (by rw[J0J,JiM];omega) hn
 rw[J0J] at hlend hL n1 o1
 rw[JiM] at f1
 have hst:J0K Tryz.prog ((h1.fl H0.floor).push (.row [.string ByteArray.empty,.slice none 0 0,.slice none 0 0,.slice none 0 0,.slice none 0 0,.slice none 0 0,.slice none 0 0,iv 0] 27 false false)) 27 (.pointer (some ⟨(h1.fl H0.floor).next,0,none⟩)) _=_:=
  stW sz30 (vs:=[.string nm,.slice (some ⟨H0.next,0,none⟩) s.rows.length (s.rows.length+9),.slice none 0 0,.slice none 0 0,.slice none 0 0,.slice none 0 0,.slice none 0 0,iv s.miss]) (J0h (h:=h1.fl H0.floor)) rfl rfl rfl (by rw[J0i,JiM,J0J];omega)
 refine WK.flags (ops:=Jp6) Jp0 ?_
 refine WKF.begin ?_
 refine wst hsn 0 (some 4) (.fieldAddr 27 (.tmp 1) 0) none ?_
 simp only[rgC,seval,J04,J02,WKFC,Nat.zero_add,J5g]
 refine wst hsn 1 (some 5) (.load 9 (.tmp 4)) none ?_
 simp only[rgC,seval,J04,J02,WKFC,rgL,J0d,gA,x0,hA0]
 refine wst hsn 2 (some 6) (.fieldAddr 27 (.tmp 1) 7) none ?_
 simp only[rgC,seval,J04,J02,WKFC,Nat.zero_add,J38]
 refine wst hsn 3 (some 7) (.load 3 (.tmp 6)) none ?_
 simp only[rgC,seval,J04,J02,WKFC,rgL,J0m,gA,x7,hA0]
 refine wst hsn 4 (some 8) (.fieldAddr 27 (.tmp 1) 1) none ?_
 simp only[rgC,seval,J04,J02,WKFC,Nat.zero_add,J0y]
 refine wst hsn 5 (some 9) (.load 22 (.tmp 8)) none ?_
 simp only[rgC,seval,J04,J02,WKFC,rgL,J0F,gA,x1,hA0]
 refine wst hsn 6 (some 10) (.call { callee:=.value (.func 19),args:=#[.tmp 9],argTypes:=#[22] }) none ?_
 simp only[rgC,seval,J04,J02,WKFC,rgK,hlend]
 refine wst hsn 7 (some 11) (.build 27 #[(0,.tmp 5),(7,.tmp 7),(1,.tmp 10)]) none ?_
 simp only[rgC,seval,J04,J02,WKFC,List.map_cons,List.map_nil,JoW]
 refine wst hsn 8 (some 3) (.alloc 27) none ?_
 simp only[rgC,seval,J04,J02,WKFC,rgA,J5F,J3Y,zc30]
 refine wst hsn 9 (none) (.store 27 (.tmp 3) (.tmp 11)) none ?_
 simp only[rgC,seval,J04,J02,WKFC,J17,rgS,hst]
 refine WKF.done (i:=10) (by kernel_rfl) ?_
 have gG:∀ i,(h1.fl H0.floor).get i=h1.get i:=fun _=>rfl
 have nG:(h1.fl H0.floor).next=H0.next+1:=n1
 have fG:(h1.fl H0.floor).floor=H0.floor:=rfl
 have hL0:LentAt (h1.fl H0.floor) H0.next s.rows L:=⟨hL.g,hL.len,hL.own,hL.marks⟩
 clear hst hlend hL P1
 generalize h1.fl H0.floor=G at *
 have nnG:((G.push (.row [.string ByteArray.empty,.slice none 0 0,.slice none 0 0,.slice none 0 0,.slice none 0 0,.slice none 0 0,.slice none 0 0,iv 0] 27 false false)).put G.next (.row [.string nm,.slice (some ⟨H0.next,0,none⟩) s.rows.length (s.rows.length+9),.slice none 0 0,.slice none 0 0,.slice none 0 0,.slice none 0 0,.slice none 0 0,iv s.miss] 27 false false)).next=G.next+1:=rfl
 have ffG:((G.push (.row [.string ByteArray.empty,.slice none 0 0,.slice none 0 0,.slice none 0 0,.slice none 0 0,.slice none 0 0,.slice none 0 0,iv 0] 27 false false)).put G.next (.row [.string nm,.slice (some ⟨H0.next,0,none⟩) s.rows.length (s.rows.length+9),.slice none 0 0,.slice none 0 0,.slice none 0 0,.slice none 0 0,.slice none 0 0,iv s.miss] 27 false false)).floor=G.floor:=rfl
 have gDH1:((G.push (.row [.string ByteArray.empty,.slice none 0 0,.slice none 0 0,.slice none 0 0,.slice none 0 0,.slice none 0 0,.slice none 0 0,iv 0] 27 false false)).put G.next (.row [.string nm,.slice (some ⟨H0.next,0,none⟩) s.rows.length (s.rows.length+9),.slice none 0 0,.slice none 0 0,.slice none 0 0,.slice none 0 0,.slice none 0 0,iv s.miss] 27 false false)).get G.next=.row [.string nm,.slice (some ⟨H0.next,0,none⟩) s.rows.length (s.rows.length+9),.slice none 0 0,.slice none 0 0,.slice none 0 0,.slice none 0 0,.slice none 0 0,iv s.miss] 27 false false:=J0b rfl (by rw[J1D];omega)
 have ggG:∀ i,i<G.next→((G.push (.row [.string ByteArray.empty,.slice none 0 0,.slice none 0 0,.slice none 0 0,.slice none 0 0,.slice none 0 0,.slice none 0 0,iv 0] 27 false false)).put G.next (.row [.string nm,.slice (some ⟨H0.next,0,none⟩) s.rows.length (s.rows.length+9),.slice none 0 0,.slice none 0 0,.slice none 0 0,.slice none 0 0,.slice none 0 0,iv s.miss] 27 false false)).get i=G.get i:=fun i hi=>by rw[J05 (by rw[J1D];omega) (by omega),J06 hi]
 generalize (G.push (.row [.string ByteArray.empty,.slice none 0 0,.slice none 0 0,.slice none 0 0,.slice none 0 0,.slice none 0 0,.slice none 0 0,iv 0] 27 false false)).put G.next (.row [.string nm,.slice (some ⟨H0.next,0,none⟩) s.rows.length (s.rows.length+9),.slice none 0 0,.slice none 0 0,.slice none 0 0,.slice none 0 0,.slice none 0 0,iv s.miss] 27 false false)=H1 at *
 generalize hDD:G.next=D at *
 have gAH1:H1.get h.next=.row [.string nm,vr,.slice aq s.queues.length cq,.slice av s.vars.length cv,.slice at_ s.tags.length ct,vu,vo,iv s.miss] 27 false false:=by rw[ggG _ (by omega),gG,o1 _ (by omega)];exact gA
 have gOH1:∀ i,i<h.next→H1.get i=h.get i:=fun i hi=>by rw[ggG _ (by omega),gG,o1 _ (by omega)];exact gO i hi
 have hL1:LentAt H1 H0.next s.rows L:=⟨by rw[ggG _ (by omega)];exact hL0.g,hL0.len,hL0.own,hL0.marks⟩
 have gZ1:∀ i,i=h.next+1→H1.get i=H0.get i:=fun i hi=>by rw[ggG _ (by omega),gG,o1 _ (by omega)];rfl
 have P2:=p2.mono (h':=H1.fl (max H1.floor H1.next)) (by rw[J0J];omega) fun i _ hi=>(gOH1 i hi)
 have w2:IntKind.i64.wrap ((s.queues.length:Int)+3)=((s.queues.length+3:Nat):Int):=J0s (by omega) (by omega)
 have mk2:=fun (H:SHeap)=>Joa (h:=H) (n:=s.queues.length+3) Tryz.underlying23 sz57 by57 J9V rfl rfl (by decide) (by decide) (by omega)
 obtain⟨g2,k2,a1,a2,a3,a4,a5,a6,a7,a8,a9⟩:=Jov (mk:=[.string JcY,.bool false]) Tryz.underlying23 sz57 by57 J9V rfl (by decide) P2 (J5A _) rfl rfl (by omega) (by rw[J0J,JiM];omega)
 rw[J0J] at a1 a2 a4 a5 a6 a7 a9
 rw[JiM] at a3 a8
 have sl2:=fun (H:SHeap)=>JnH (h:=H) (id:=H1.next) (n:=s.queues.length+1) (m:=s.queues.length) (c:=s.queues.length+3) Tryz.underlying23 sz57 (by omega) (by unfold unk;omega)
 have hfx:g2.fl (max H1.floor H1.next)=g2:=by rw[← a3];exact J6L g2
 have ex:∀ i,i<H1.next→g2.get i=H1.get i:=a4
 have ez:∀ i,i<H1.next→k2.get i=H1.get i:=a9
 have e1:(H1.push (.row (J3e ((Value.agg #[.string ByteArray.empty,.bool false]).cells.toList) (s.queues.length+3)) 55 false false)).get h.next=.row [.string nm,vr,.slice aq s.queues.length cq,.slice av s.vars.length cv,.slice at_ s.tags.length ct,vu,vo,iv s.miss] 27 false false:=by rw[J06 (by omega)];exact gAH1
 have e2:g2.get h.next=.row [.string nm,vr,.slice aq s.queues.length cq,.slice av s.vars.length cv,.slice at_ s.tags.length ct,vu,vo,iv s.miss] 27 false false:=by rw[ex _ (by omega)];exact gAH1
 have e3:k2.get h.next=.row [.string nm,vr,.slice aq s.queues.length cq,.slice av s.vars.length cv,.slice at_ s.tags.length ct,vu,vo,iv s.miss] 27 false false:=by rw[ez _ (by omega)];exact gAH1
 have gDk:(k2.fl H1.floor).get D=.row [.string nm,.slice (some ⟨H0.next,0,none⟩) s.rows.length (s.rows.length+9),.slice none 0 0,.slice none 0 0,.slice none 0 0,.slice none 0 0,.slice none 0 0,iv s.miss] 27 false false:=by rw[J1g,ez _ (by omega)];exact gDH1
 have hA:(h.next<H1.next)=True:=by simp;omega
 have st2:J0K Tryz.prog (k2.fl H1.floor) 23 (.pointer (some ⟨D,2,none⟩)) (.slice (some ⟨H1.next,0,none⟩) s.queues.length (s.queues.length+3))=_:=stc sz26 rfl rfl gDk (by simp only[List.length_cons,List.length_nil];omega) (by rw[JiM];omega)
 simp only[List.set_cons_succ,List.set_cons_zero] at st2
 simp only[evC,seval,↓evP]
 refine WK.flags (ops:=JoU) Jp7 ?_
 refine WKF.begin ?_
 refine wst hsn 0 (some 12) (.fieldAddr 27 (.tmp 1) 2) none ?_
 simp only[rgC,seval,J04,J02,WKFC,Nat.zero_add,Nat.zero_add,J0B]
 refine wst hsn 1 (some 13) (.load 23 (.tmp 12)) none ?_
 simp only[rgC,seval,J04,J02,WKFC,rgL,J0S,gAH1,x2,hA]
 refine wst hsn 2 (some 14) (.call { callee:=.builtin .len,args:=#[.tmp 13],argTypes:=#[23] }) none ?_
 simp only[rgC,seval,J04,J02,WKFC,rgK,len2]
 refine wst hsn 3 (some 15) (.binOp .add 3 (.tmp 14) (.const (Value.int IntKind.i64 3)) 3) none ?_
 simp only[rgC,seval,J04,J02,WKFC,rgB,w2]
 refine wst hsn 4 (some 16) (.makeSlice 23 (.const (Value.int IntKind.i64 0)) (.tmp 15)) none ?_
 simp only[rgC,seval,J04,J02,WKFC,mk2,J0a]
 refine wst hsn 5 (some 17) (.fieldAddr 27 (.tmp 1) 2) none ?_
 simp only[rgC,seval,J04,J02,WKFC,Nat.zero_add,Nat.zero_add,J0B,J0a,J0i]
 refine wst hsn 6 (some 18) (.load 23 (.tmp 17)) none ?_
 simp only[rgC,seval,J04,J02,WKFC,rgL,J0S,e1,x2,hA,J0a,J0i]
 refine wst hsn 7 (some 19) (.call { callee:=.builtin .append,args:=#[.tmp 16,.tmp 18],argTypes:=#[23,23] }) none ?_
 simp only[rgC,seval,J04,J02,WKFC,rgK,a1,J0a,J0i]
 refine wst hsn 8 (some 20) (.build 55 #[(0,.const (Value.string { data:=#[108,101,110,116] }))]) none ?_
 simp only[rgC,seval,J04,J02,WKFC,List.map_cons,List.map_nil,Joh,JiM,Jk2]
 refine wst hsn 9 (some 21) (.buildSlice 23 1 #[(0,.tmp 20)]) none ?_
 simp only[rgC,seval,J04,J02,WKFC,List.map_cons,List.map_nil,bs26,J0a,J0J,JiM,Jk2]
 refine wst hsn 10 (some 22) (.call { callee:=.builtin .append,args:=#[.tmp 19,.tmp 21],argTypes:=#[23,23] }) none ?_
 simp only[rgC,seval,J04,J02,WKFC,rgK,hfx,a5,J0a,J0i,JiM,Jk2]
 refine wst hsn 11 (some 23) (.fieldAddr 27 (.tmp 1) 2) none ?_
 simp only[rgC,seval,J04,J02,WKFC,Nat.zero_add,Nat.zero_add,J0B,JiM,Jk2]
 refine wst hsn 12 (some 24) (.load 23 (.tmp 23)) none ?_
 simp only[rgC,seval,J04,J02,WKFC,rgL,J0S,e3,x2,hA,JiM,J1g,Jk2]
 refine wst hsn 13 (some 25) (.call { callee:=.builtin .len,args:=#[.tmp 24],argTypes:=#[23] }) none ?_
 simp only[rgC,seval,J04,J02,WKFC,rgK,len2,JiM,Jk2]
 refine wst hsn 14 (some 26) (.slice 23 (.tmp 22) none (some (.tmp 25)) none) none ?_
 simp only[rgC,seval,J04,J02,WKFC,rgL,sl2,JiM,Jk2]
 refine wst hsn 15 (some 27) (.fieldAddr 27 (.tmp 3) 2) none ?_
 simp only[rgC,seval,J04,J02,WKFC,Nat.zero_add,Nat.zero_add,J0B,JiM,Jk2]
 refine wst hsn 16 (none) (.store 23 (.tmp 27) (.tmp 26)) none ?_
 simp only[rgC,seval,J04,J02,WKFC,J17,rgS,st2,JiM,Jk2]
 refine WKF.done (i:=17) (by kernel_rfl) ?_
 have nn2:((k2.fl H1.floor).put D (.row [.string nm,.slice (some ⟨H0.next,0,none⟩) s.rows.length (s.rows.length+9),.slice (some ⟨H1.next,0,none⟩) s.queues.length (s.queues.length+3),.slice none 0 0,.slice none 0 0,.slice none 0 0,.slice none 0 0,iv s.miss] 27 false false)).next=H1.next+2:=a7
 have ff2:((k2.fl H1.floor).put D (.row [.string nm,.slice (some ⟨H0.next,0,none⟩) s.rows.length (s.rows.length+9),.slice (some ⟨H1.next,0,none⟩) s.queues.length (s.queues.length+3),.slice none 0 0,.slice none 0 0,.slice none 0 0,.slice none 0 0,iv s.miss] 27 false false)).floor=H1.floor:=rfl
 have gg2:∀ i,i<H1.next→i≠D→((k2.fl H1.floor).put D (.row [.string nm,.slice (some ⟨H0.next,0,none⟩) s.rows.length (s.rows.length+9),.slice (some ⟨H1.next,0,none⟩) s.queues.length (s.queues.length+3),.slice none 0 0,.slice none 0 0,.slice none 0 0,.slice none 0 0,iv s.miss] 27 false false)).get i=H1.get i:=fun i hi hd=>by rw[J05 (by rw[J0J];omega) (Ne.symm hd),J1g,ez i hi]
 have gDH2:((k2.fl H1.floor).put D (.row [.string nm,.slice (some ⟨H0.next,0,none⟩) s.rows.length (s.rows.length+9),.slice (some ⟨H1.next,0,none⟩) s.queues.length (s.queues.length+3),.slice none 0 0,.slice none 0 0,.slice none 0 0,.slice none 0 0,iv s.miss] 27 false false)).get D=.row [.string nm,.slice (some ⟨H0.next,0,none⟩) s.rows.length (s.rows.length+9),.slice (some ⟨H1.next,0,none⟩) s.queues.length (s.queues.length+3),.slice none 0 0,.slice none 0 0,.slice none 0 0,.slice none 0 0,iv s.miss] 27 false false:=J0b rfl (by rw[J0J];omega)
 have gl2:((k2.fl H1.floor).put D (.row [.string nm,.slice (some ⟨H0.next,0,none⟩) s.rows.length (s.rows.length+9),.slice (some ⟨H1.next,0,none⟩) s.queues.length (s.queues.length+3),.slice none 0 0,.slice none 0 0,.slice none 0 0,.slice none 0 0,iv s.miss] 27 false false)).get H1.next=k2.get H1.next:=by rw[J05 (by rw[J0J];omega) (by omega),J1g]
 have L2:=a6.mono gl2
 clear gl2 gDk st2 a1 a4 a5 a6 a9 ex ez e1 e2 e3 hfx hA mk2
 generalize (k2.fl H1.floor).put D (.row [.string nm,.slice (some ⟨H0.next,0,none⟩) s.rows.length (s.rows.length+9),.slice (some ⟨H1.next,0,none⟩) s.queues.length (s.queues.length+3),.slice none 0 0,.slice none 0 0,.slice none 0 0,.slice none 0 0,iv s.miss] 27 false false)=H2 at *
 have gAH2:H2.get h.next=.row [.string nm,vr,.slice aq s.queues.length cq,.slice av s.vars.length cv,.slice at_ s.tags.length ct,vu,vo,iv s.miss] 27 false false:=(gg2 _ (by omega) (by omega)).trans gAH1
 have gOH2:∀ i,i<h.next→H2.get i=h.get i:=fun i hi=>(gg2 i (by omega) (by omega)).trans (gOH1 i hi)
 have P3:=p3.mono (h':=H2.fl (max H2.floor H2.next)) (by rw[J0J];omega) fun i _ hi=>(gOH2 i hi)
 have w3:IntKind.i64.wrap ((s.vars.length:Int)+3)=((s.vars.length+3:Nat):Int):=J0s (by omega) (by omega)
 have mk3:=fun (H:SHeap)=>Joa (h:=H) (n:=s.vars.length+3) Tryz.underlying24 sz9 by9 Jdg rfl rfl (by decide) (by decide) (by omega)
 obtain⟨g3,k3,a1,a2,a3,a4,a5,a6,a7,a8,a9⟩:=Jov (mk:=[.string JcY]) Tryz.underlying24 sz9 by9 Jdg rfl (by decide) P3 (J6e _) rfl rfl (by omega) (by rw[J0J,JiM];omega)
 rw[J0J] at a1 a2 a4 a5 a6 a7 a9
 rw[JiM] at a3 a8
 have sl3:=fun (H:SHeap)=>JnH (h:=H) (id:=H2.next) (n:=s.vars.length+1) (m:=s.vars.length) (c:=s.vars.length+3) Tryz.underlying24 sz9 (by omega) (by unfold unk;omega)
 have hfx:g3.fl (max H2.floor H2.next)=g3:=by rw[← a3];exact J6L g3
 have ex:∀ i,i<H2.next→g3.get i=H2.get i:=a4
 have ez:∀ i,i<H2.next→k3.get i=H2.get i:=a9
 have e1:(H2.push (.row (J3e ((Value.string ByteArray.empty).cells.toList) (s.vars.length+3)) 9 false false)).get h.next=.row [.string nm,vr,.slice aq s.queues.length cq,.slice av s.vars.length cv,.slice at_ s.tags.length ct,vu,vo,iv s.miss] 27 false false:=by rw[J06 (by omega)];exact gAH2
 have e2:g3.get h.next=.row [.string nm,vr,.slice aq s.queues.length cq,.slice av s.vars.length cv,.slice at_ s.tags.length ct,vu,vo,iv s.miss] 27 false false:=by rw[ex _ (by omega)];exact gAH2
 have e3:k3.get h.next=.row [.string nm,vr,.slice aq s.queues.length cq,.slice av s.vars.length cv,.slice at_ s.tags.length ct,vu,vo,iv s.miss] 27 false false:=by rw[ez _ (by omega)];exact gAH2
 have gDk:(k3.fl H2.floor).get D=.row [.string nm,.slice (some ⟨H0.next,0,none⟩) s.rows.length (s.rows.length+9),.slice (some ⟨H1.next,0,none⟩) s.queues.length (s.queues.length+3),.slice none 0 0,.slice none 0 0,.slice none 0 0,.slice none 0 0,iv s.miss] 27 false false:=by rw[J1g,ez _ (by omega)];exact gDH2
 have hA:(h.next<H2.next)=True:=by simp;omega
 have st3:J0K Tryz.prog (k3.fl H2.floor) 24 (.pointer (some ⟨D,3,none⟩)) (.slice (some ⟨H2.next,0,none⟩) s.vars.length (s.vars.length+3))=_:=stc sz27 rfl rfl gDk (by simp only[List.length_cons,List.length_nil];omega) (by rw[JiM];omega)
 simp only[List.set_cons_succ,List.set_cons_zero] at st3
 simp only[evC,seval,↓evP]
 refine WK.flags (ops:=Jp4) JoZ ?_
 refine WKF.begin ?_
 refine wst hsn 0 (some 28) (.fieldAddr 27 (.tmp 1) 3) none ?_
 simp only[rgC,seval,J04,J02,WKFC,Nat.zero_add,Nat.zero_add,J1A]
 refine wst hsn 1 (some 29) (.load 24 (.tmp 28)) none ?_
 simp only[rgC,seval,J04,J02,WKFC,rgL,J0Y,gAH2,x3,hA]
 refine wst hsn 2 (some 30) (.call { callee:=.builtin .len,args:=#[.tmp 29],argTypes:=#[24] }) none ?_
 simp only[rgC,seval,J04,J02,WKFC,rgK,len3]
 refine wst hsn 3 (some 31) (.binOp .add 3 (.tmp 30) (.const (Value.int IntKind.i64 3)) 3) none ?_
 simp only[rgC,seval,J04,J02,WKFC,rgB,w3]
 refine wst hsn 4 (some 32) (.makeSlice 24 (.const (Value.int IntKind.i64 0)) (.tmp 31)) none ?_
 simp only[rgC,seval,J04,J02,WKFC,mk3,J0a]
 refine wst hsn 5 (some 33) (.fieldAddr 27 (.tmp 1) 3) none ?_
 simp only[rgC,seval,J04,J02,WKFC,Nat.zero_add,Nat.zero_add,J1A,J0a,J0i]
 refine wst hsn 6 (some 34) (.load 24 (.tmp 33)) none ?_
 simp only[rgC,seval,J04,J02,WKFC,rgL,J0Y,e1,x3,hA,J0a,J0i]
 refine wst hsn 7 (some 35) (.call { callee:=.builtin .append,args:=#[.tmp 32,.tmp 34],argTypes:=#[24,24] }) none ?_
 simp only[rgC,seval,J04,J02,WKFC,rgK,a1,J0a,J0i]
 refine wst hsn 8 (some 36) (.buildSlice 24 1 #[(0,.const (Value.string { data:=#[108,101,110,116] }))]) none ?_
 simp only[rgC,seval,J04,J02,WKFC,List.map_cons,List.map_nil,bs27,J0a,J0J,JiM,Jk2]
 refine wst hsn 9 (some 37) (.call { callee:=.builtin .append,args:=#[.tmp 35,.tmp 36],argTypes:=#[24,24] }) none ?_
 simp only[rgC,seval,J04,J02,WKFC,rgK,hfx,a5,J0a,J0i,JiM,Jk2]
 refine wst hsn 10 (some 38) (.fieldAddr 27 (.tmp 1) 3) none ?_
 simp only[rgC,seval,J04,J02,WKFC,Nat.zero_add,Nat.zero_add,J1A,JiM,Jk2]
 refine wst hsn 11 (some 39) (.load 24 (.tmp 38)) none ?_
 simp only[rgC,seval,J04,J02,WKFC,rgL,J0Y,e3,x3,hA,JiM,J1g,Jk2]
 refine wst hsn 12 (some 40) (.call { callee:=.builtin .len,args:=#[.tmp 39],argTypes:=#[24] }) none ?_
 simp only[rgC,seval,J04,J02,WKFC,rgK,len3,JiM,Jk2]
 refine wst hsn 13 (some 41) (.slice 24 (.tmp 37) none (some (.tmp 40)) none) none ?_
 simp only[rgC,seval,J04,J02,WKFC,rgL,sl3,JiM,Jk2]
 refine wst hsn 14 (some 42) (.fieldAddr 27 (.tmp 3) 3) none ?_
 simp only[rgC,seval,J04,J02,WKFC,Nat.zero_add,Nat.zero_add,J1A,JiM,Jk2]
 refine wst hsn 15 (none) (.store 24 (.tmp 42) (.tmp 41)) none ?_
 simp only[rgC,seval,J04,J02,WKFC,J17,rgS,st3,JiM,Jk2]
 refine WKF.done (i:=16) (by kernel_rfl) ?_
 have nn3:((k3.fl H2.floor).put D (.row [.string nm,.slice (some ⟨H0.next,0,none⟩) s.rows.length (s.rows.length+9),.slice (some ⟨H1.next,0,none⟩) s.queues.length (s.queues.length+3),.slice (some ⟨H2.next,0,none⟩) s.vars.length (s.vars.length+3),.slice none 0 0,.slice none 0 0,.slice none 0 0,iv s.miss] 27 false false)).next=H2.next+2:=a7
 have ff3:((k3.fl H2.floor).put D (.row [.string nm,.slice (some ⟨H0.next,0,none⟩) s.rows.length (s.rows.length+9),.slice (some ⟨H1.next,0,none⟩) s.queues.length (s.queues.length+3),.slice (some ⟨H2.next,0,none⟩) s.vars.length (s.vars.length+3),.slice none 0 0,.slice none 0 0,.slice none 0 0,iv s.miss] 27 false false)).floor=H2.floor:=rfl
 have gg3:∀ i,i<H2.next→i≠D→((k3.fl H2.floor).put D (.row [.string nm,.slice (some ⟨H0.next,0,none⟩) s.rows.length (s.rows.length+9),.slice (some ⟨H1.next,0,none⟩) s.queues.length (s.queues.length+3),.slice (some ⟨H2.next,0,none⟩) s.vars.length (s.vars.length+3),.slice none 0 0,.slice none 0 0,.slice none 0 0,iv s.miss] 27 false false)).get i=H2.get i:=fun i hi hd=>by rw[J05 (by rw[J0J];omega) (Ne.symm hd),J1g,ez i hi]
 have gDH3:((k3.fl H2.floor).put D (.row [.string nm,.slice (some ⟨H0.next,0,none⟩) s.rows.length (s.rows.length+9),.slice (some ⟨H1.next,0,none⟩) s.queues.length (s.queues.length+3),.slice (some ⟨H2.next,0,none⟩) s.vars.length (s.vars.length+3),.slice none 0 0,.slice none 0 0,.slice none 0 0,iv s.miss] 27 false false)).get D=.row [.string nm,.slice (some ⟨H0.next,0,none⟩) s.rows.length (s.rows.length+9),.slice (some ⟨H1.next,0,none⟩) s.queues.length (s.queues.length+3),.slice (some ⟨H2.next,0,none⟩) s.vars.length (s.vars.length+3),.slice none 0 0,.slice none 0 0,.slice none 0 0,iv s.miss] 27 false false:=J0b rfl (by rw[J0J];omega)
 have gl3:((k3.fl H2.floor).put D (.row [.string nm,.slice (some ⟨H0.next,0,none⟩) s.rows.length (s.rows.length+9),.slice (some ⟨H1.next,0,none⟩) s.queues.length (s.queues.length+3),.slice (some ⟨H2.next,0,none⟩) s.vars.length (s.vars.length+3),.slice none 0 0,.slice none 0 0,.slice none 0 0,iv s.miss] 27 false false)).get H2.next=k3.get H2.next:=by rw[J05 (by rw[J0J];omega) (by omega),J1g]
 have L3:=a6.mono gl3
 clear gl3 gDk st3 a1 a4 a5 a6 a9 ex ez e1 e2 e3 hfx hA mk3
 generalize (k3.fl H2.floor).put D (.row [.string nm,.slice (some ⟨H0.next,0,none⟩) s.rows.length (s.rows.length+9),.slice (some ⟨H1.next,0,none⟩) s.queues.length (s.queues.length+3),.slice (some ⟨H2.next,0,none⟩) s.vars.length (s.vars.length+3),.slice none 0 0,.slice none 0 0,.slice none 0 0,iv s.miss] 27 false false)=H3 at *
 have gAH3:H3.get h.next=.row [.string nm,vr,.slice aq s.queues.length cq,.slice av s.vars.length cv,.slice at_ s.tags.length ct,vu,vo,iv s.miss] 27 false false:=(gg3 _ (by omega) (by omega)).trans gAH2
 have gOH3:∀ i,i<h.next→H3.get i=h.get i:=fun i hi=>(gg3 i (by omega) (by omega)).trans (gOH2 i hi)
 have P4:=p4.mono (h':=H3.fl (max H3.floor H3.next)) (by rw[J0J];omega) fun i _ hi=>(gOH3 i hi)
 have w4:IntKind.i64.wrap ((s.tags.length:Int)+3)=((s.tags.length+3:Nat):Int):=J0s (by omega) (by omega)
 have mk4:=fun (H:SHeap)=>Joa (h:=H) (n:=s.tags.length+3) Tryz.underlying24 sz9 by9 Jdg rfl rfl (by decide) (by decide) (by omega)
 obtain⟨g4,k4,a1,a2,a3,a4,a5,a6,a7,a8,a9⟩:=Jov (mk:=[.string JcY]) Tryz.underlying24 sz9 by9 Jdg rfl (by decide) P4 (J6e _) rfl rfl (by omega) (by rw[J0J,JiM];omega)
 rw[J0J] at a1 a2 a4 a5 a6 a7 a9
 rw[JiM] at a3 a8
 have sl4:=fun (H:SHeap)=>JnH (h:=H) (id:=H3.next) (n:=s.tags.length+1) (m:=s.tags.length) (c:=s.tags.length+3) Tryz.underlying24 sz9 (by omega) (by unfold unk;omega)
 have hfx:g4.fl (max H3.floor H3.next)=g4:=by rw[← a3];exact J6L g4
 have ex:∀ i,i<H3.next→g4.get i=H3.get i:=a4
 have ez:∀ i,i<H3.next→k4.get i=H3.get i:=a9
 have e1:(H3.push (.row (J3e ((Value.string ByteArray.empty).cells.toList) (s.tags.length+3)) 9 false false)).get h.next=.row [.string nm,vr,.slice aq s.queues.length cq,.slice av s.vars.length cv,.slice at_ s.tags.length ct,vu,vo,iv s.miss] 27 false false:=by rw[J06 (by omega)];exact gAH3
 have e2:g4.get h.next=.row [.string nm,vr,.slice aq s.queues.length cq,.slice av s.vars.length cv,.slice at_ s.tags.length ct,vu,vo,iv s.miss] 27 false false:=by rw[ex _ (by omega)];exact gAH3
 have e3:k4.get h.next=.row [.string nm,vr,.slice aq s.queues.length cq,.slice av s.vars.length cv,.slice at_ s.tags.length ct,vu,vo,iv s.miss] 27 false false:=by rw[ez _ (by omega)];exact gAH3
 have gDk:(k4.fl H3.floor).get D=.row [.string nm,.slice (some ⟨H0.next,0,none⟩) s.rows.length (s.rows.length+9),.slice (some ⟨H1.next,0,none⟩) s.queues.length (s.queues.length+3),.slice (some ⟨H2.next,0,none⟩) s.vars.length (s.vars.length+3),.slice none 0 0,.slice none 0 0,.slice none 0 0,iv s.miss] 27 false false:=by rw[J1g,ez _ (by omega)];exact gDH3
 have hA:(h.next<H3.next)=True:=by simp;omega
 have st4:J0K Tryz.prog (k4.fl H3.floor) 24 (.pointer (some ⟨D,4,none⟩)) (.slice (some ⟨H3.next,0,none⟩) s.tags.length (s.tags.length+3))=_:=stc sz27 rfl rfl gDk (by simp only[List.length_cons,List.length_nil];omega) (by rw[JiM];omega)
 simp only[List.set_cons_succ,List.set_cons_zero] at st4
 simp only[evC,seval,↓evP]
 refine WK.flags (ops:=JoX) Jp1 ?_
 refine WKF.begin ?_
 refine wst hsn 0 (some 43) (.fieldAddr 27 (.tmp 1) 4) none ?_
 simp only[rgC,seval,J04,J02,WKFC,Nat.zero_add,Nat.zero_add,J1B]
 refine wst hsn 1 (some 44) (.load 24 (.tmp 43)) none ?_
 simp only[rgC,seval,J04,J02,WKFC,rgL,J0Y,gAH3,x4,hA]
 refine wst hsn 2 (some 45) (.call { callee:=.builtin .len,args:=#[.tmp 44],argTypes:=#[24] }) none ?_
 simp only[rgC,seval,J04,J02,WKFC,rgK,len4]
 refine wst hsn 3 (some 46) (.binOp .add 3 (.tmp 45) (.const (Value.int IntKind.i64 3)) 3) none ?_
 simp only[rgC,seval,J04,J02,WKFC,rgB,w4]
 refine wst hsn 4 (some 47) (.makeSlice 24 (.const (Value.int IntKind.i64 0)) (.tmp 46)) none ?_
 simp only[rgC,seval,J04,J02,WKFC,mk4,J0a]
 refine wst hsn 5 (some 48) (.fieldAddr 27 (.tmp 1) 4) none ?_
 simp only[rgC,seval,J04,J02,WKFC,Nat.zero_add,Nat.zero_add,J1B,J0a,J0i]
 refine wst hsn 6 (some 49) (.load 24 (.tmp 48)) none ?_
 simp only[rgC,seval,J04,J02,WKFC,rgL,J0Y,e1,x4,hA,J0a,J0i]
 refine wst hsn 7 (some 50) (.call { callee:=.builtin .append,args:=#[.tmp 47,.tmp 49],argTypes:=#[24,24] }) none ?_
 simp only[rgC,seval,J04,J02,WKFC,rgK,a1,J0a,J0i]
 refine wst hsn 8 (some 51) (.buildSlice 24 1 #[(0,.const (Value.string { data:=#[108,101,110,116] }))]) none ?_
 simp only[rgC,seval,J04,J02,WKFC,List.map_cons,List.map_nil,bs27,J0a,J0J,JiM,Jk2]
 refine wst hsn 9 (some 52) (.call { callee:=.builtin .append,args:=#[.tmp 50,.tmp 51],argTypes:=#[24,24] }) none ?_
 simp only[rgC,seval,J04,J02,WKFC,rgK,hfx,a5,J0a,J0i,JiM,Jk2]
 refine wst hsn 10 (some 53) (.fieldAddr 27 (.tmp 1) 4) none ?_
 simp only[rgC,seval,J04,J02,WKFC,Nat.zero_add,Nat.zero_add,J1B,JiM,Jk2]
 refine wst hsn 11 (some 54) (.load 24 (.tmp 53)) none ?_
 simp only[rgC,seval,J04,J02,WKFC,rgL,J0Y,e3,x4,hA,JiM,J1g,Jk2]
 refine wst hsn 12 (some 55) (.call { callee:=.builtin .len,args:=#[.tmp 54],argTypes:=#[24] }) none ?_
 simp only[rgC,seval,J04,J02,WKFC,rgK,len4,JiM,Jk2]
 refine wst hsn 13 (some 56) (.slice 24 (.tmp 52) none (some (.tmp 55)) none) none ?_
 simp only[rgC,seval,J04,J02,WKFC,rgL,sl4,JiM,Jk2]
 refine wst hsn 14 (some 57) (.fieldAddr 27 (.tmp 3) 4) none ?_
 simp only[rgC,seval,J04,J02,WKFC,Nat.zero_add,Nat.zero_add,J1B,JiM,Jk2]
 refine wst hsn 15 (none) (.store 24 (.tmp 57) (.tmp 56)) none ?_
 simp only[rgC,seval,J04,J02,WKFC,J17,rgS,st4,JiM,Jk2]
 refine WKF.done (i:=16) (by kernel_rfl) ?_
 have nn4:((k4.fl H3.floor).put D (.row [.string nm,.slice (some ⟨H0.next,0,none⟩) s.rows.length (s.rows.length+9),.slice (some ⟨H1.next,0,none⟩) s.queues.length (s.queues.length+3),.slice (some ⟨H2.next,0,none⟩) s.vars.length (s.vars.length+3),.slice (some ⟨H3.next,0,none⟩) s.tags.length (s.tags.length+3),.slice none 0 0,.slice none 0 0,iv s.miss] 27 false false)).next=H3.next+2:=a7
 have ff4:((k4.fl H3.floor).put D (.row [.string nm,.slice (some ⟨H0.next,0,none⟩) s.rows.length (s.rows.length+9),.slice (some ⟨H1.next,0,none⟩) s.queues.length (s.queues.length+3),.slice (some ⟨H2.next,0,none⟩) s.vars.length (s.vars.length+3),.slice (some ⟨H3.next,0,none⟩) s.tags.length (s.tags.length+3),.slice none 0 0,.slice none 0 0,iv s.miss] 27 false false)).floor=H3.floor:=rfl
 have gg4:∀ i,i<H3.next→i≠D→((k4.fl H3.floor).put D (.row [.string nm,.slice (some ⟨H0.next,0,none⟩) s.rows.length (s.rows.length+9),.slice (some ⟨H1.next,0,none⟩) s.queues.length (s.queues.length+3),.slice (some ⟨H2.next,0,none⟩) s.vars.length (s.vars.length+3),.slice (some ⟨H3.next,0,none⟩) s.tags.length (s.tags.length+3),.slice none 0 0,.slice none 0 0,iv s.miss] 27 false false)).get i=H3.get i:=fun i hi hd=>by rw[J05 (by rw[J0J];omega) (Ne.symm hd),J1g,ez i hi]
 have gDH4:((k4.fl H3.floor).put D (.row [.string nm,.slice (some ⟨H0.next,0,none⟩) s.rows.length (s.rows.length+9),.slice (some ⟨H1.next,0,none⟩) s.queues.length (s.queues.length+3),.slice (some ⟨H2.next,0,none⟩) s.vars.length (s.vars.length+3),.slice (some ⟨H3.next,0,none⟩) s.tags.length (s.tags.length+3),.slice none 0 0,.slice none 0 0,iv s.miss] 27 false false)).get D=.row [.string nm,.slice (some ⟨H0.next,0,none⟩) s.rows.length (s.rows.length+9),.slice (some ⟨H1.next,0,none⟩) s.queues.length (s.queues.length+3),.slice (some ⟨H2.next,0,none⟩) s.vars.length (s.vars.length+3),.slice (some ⟨H3.next,0,none⟩) s.tags.length (s.tags.length+3),.slice none 0 0,.slice none 0 0,iv s.miss] 27 false false:=J0b rfl (by rw[J0J];omega)
 have gl4:((k4.fl H3.floor).put D (.row [.string nm,.slice (some ⟨H0.next,0,none⟩) s.rows.length (s.rows.length+9),.slice (some ⟨H1.next,0,none⟩) s.queues.length (s.queues.length+3),.slice (some ⟨H2.next,0,none⟩) s.vars.length (s.vars.length+3),.slice (some ⟨H3.next,0,none⟩) s.tags.length (s.tags.length+3),.slice none 0 0,.slice none 0 0,iv s.miss] 27 false false)).get H3.next=k4.get H3.next:=by rw[J05 (by rw[J0J];omega) (by omega),J1g]
 have L4:=a6.mono gl4
 clear gl4 gDk st4 a1 a4 a5 a6 a9 ex ez e1 e2 e3 hfx hA mk4
 generalize (k4.fl H3.floor).put D (.row [.string nm,.slice (some ⟨H0.next,0,none⟩) s.rows.length (s.rows.length+9),.slice (some ⟨H1.next,0,none⟩) s.queues.length (s.queues.length+3),.slice (some ⟨H2.next,0,none⟩) s.vars.length (s.vars.length+3),.slice (some ⟨H3.next,0,none⟩) s.tags.length (s.tags.length+3),.slice none 0 0,.slice none 0 0,iv s.miss] 27 false false)=H4 at *
 have gAH4:H4.get h.next=.row [.string nm,vr,.slice aq s.queues.length cq,.slice av s.vars.length cv,.slice at_ s.tags.length ct,vu,vo,iv s.miss] 27 false false:=(gg4 _ (by omega) (by omega)).trans gAH3
 have gOH4:∀ i,i<h.next→H4.get i=h.get i:=fun i hi=>(gg4 i (by omega) (by omega)).trans (gOH3 i hi)
 have P5:J1S lo H4 vu s.rules:=J1S.mono p5 (by omega) fun i _ hi=>gOH4 i hi
 obtain⟨j5,hc5,l5,m5,f5,o5⟩:=JnZ (n:=n) P5 hl2.1 (by omega) (by omega)
 have gA5:j5.get h.next=.row [.string nm,vr,.slice aq s.queues.length cq,.slice av s.vars.length cv,.slice at_ s.tags.length ct,vu,vo,iv s.miss] 27 false false:=by rw[o5 _ (by omega)];exact gAH4
 have gD5:j5.get D=.row [.string nm,.slice (some ⟨H0.next,0,none⟩) s.rows.length (s.rows.length+9),.slice (some ⟨H1.next,0,none⟩) s.queues.length (s.queues.length+3),.slice (some ⟨H2.next,0,none⟩) s.vars.length (s.vars.length+3),.slice (some ⟨H3.next,0,none⟩) s.tags.length (s.tags.length+3),.slice none 0 0,.slice none 0 0,iv s.miss] 27 false false:=by rw[o5 _ (by omega)];exact gDH4
 have st5:J0K Tryz.prog j5 25 (.pointer (some ⟨D,5,none⟩)) (.slice (some ⟨H4.next,0,none⟩) s.rules.length (s.rules.length+3))=_:=stc sz28 rfl rfl gD5 (by simp only[List.length_cons,List.length_nil];omega) (by omega)
 simp only[List.set_cons_succ,List.set_cons_zero] at st5
 simp only[evC,seval,↓evP,Nat.zero_add,J36,J0n,gAH4,x5,hc5,st5]
 have nn5:(j5.put D (.row [.string nm,.slice (some ⟨H0.next,0,none⟩) s.rows.length (s.rows.length+9),.slice (some ⟨H1.next,0,none⟩) s.queues.length (s.queues.length+3),.slice (some ⟨H2.next,0,none⟩) s.vars.length (s.vars.length+3),.slice (some ⟨H3.next,0,none⟩) s.tags.length (s.tags.length+3),.slice (some ⟨H4.next,0,none⟩) s.rules.length (s.rules.length+3),.slice none 0 0,iv s.miss] 27 false false)).next=H4.next+2:=m5
 have ff5:(j5.put D (.row [.string nm,.slice (some ⟨H0.next,0,none⟩) s.rows.length (s.rows.length+9),.slice (some ⟨H1.next,0,none⟩) s.queues.length (s.queues.length+3),.slice (some ⟨H2.next,0,none⟩) s.vars.length (s.vars.length+3),.slice (some ⟨H3.next,0,none⟩) s.tags.length (s.tags.length+3),.slice (some ⟨H4.next,0,none⟩) s.rules.length (s.rules.length+3),.slice none 0 0,iv s.miss] 27 false false)).floor=H4.floor:=f5
 have gD5':(j5.put D (.row [.string nm,.slice (some ⟨H0.next,0,none⟩) s.rows.length (s.rows.length+9),.slice (some ⟨H1.next,0,none⟩) s.queues.length (s.queues.length+3),.slice (some ⟨H2.next,0,none⟩) s.vars.length (s.vars.length+3),.slice (some ⟨H3.next,0,none⟩) s.tags.length (s.tags.length+3),.slice (some ⟨H4.next,0,none⟩) s.rules.length (s.rules.length+3),.slice none 0 0,iv s.miss] 27 false false)).get D=.row [.string nm,.slice (some ⟨H0.next,0,none⟩) s.rows.length (s.rows.length+9),.slice (some ⟨H1.next,0,none⟩) s.queues.length (s.queues.length+3),.slice (some ⟨H2.next,0,none⟩) s.vars.length (s.vars.length+3),.slice (some ⟨H3.next,0,none⟩) s.tags.length (s.tags.length+3),.slice (some ⟨H4.next,0,none⟩) s.rules.length (s.rules.length+3),.slice none 0 0,iv s.miss] 27 false false:=J0b rfl (by omega)
 have gg5:∀ i,i<H4.next→i≠D→(j5.put D (.row [.string nm,.slice (some ⟨H0.next,0,none⟩) s.rows.length (s.rows.length+9),.slice (some ⟨H1.next,0,none⟩) s.queues.length (s.queues.length+3),.slice (some ⟨H2.next,0,none⟩) s.vars.length (s.vars.length+3),.slice (some ⟨H3.next,0,none⟩) s.tags.length (s.tags.length+3),.slice (some ⟨H4.next,0,none⟩) s.rules.length (s.rules.length+3),.slice none 0 0,iv s.miss] 27 false false)).get i=H4.get i:=fun i hi hd=>by rw[J05 (by omega) (Ne.symm hd),o5 i hi]
 have L5:=l5.mono (h':=j5.put D (.row [.string nm,.slice (some ⟨H0.next,0,none⟩) s.rows.length (s.rows.length+9),.slice (some ⟨H1.next,0,none⟩) s.queues.length (s.queues.length+3),.slice (some ⟨H2.next,0,none⟩) s.vars.length (s.vars.length+3),.slice (some ⟨H3.next,0,none⟩) s.tags.length (s.tags.length+3),.slice (some ⟨H4.next,0,none⟩) s.rules.length (s.rules.length+3),.slice none 0 0,iv s.miss] 27 false false)) (by rw[J05 (by omega) (by omega)])
 clear gA5 gD5 st5 hc5
 generalize j5.put D (.row [.string nm,.slice (some ⟨H0.next,0,none⟩) s.rows.length (s.rows.length+9),.slice (some ⟨H1.next,0,none⟩) s.queues.length (s.queues.length+3),.slice (some ⟨H2.next,0,none⟩) s.vars.length (s.vars.length+3),.slice (some ⟨H3.next,0,none⟩) s.tags.length (s.tags.length+3),.slice (some ⟨H4.next,0,none⟩) s.rules.length (s.rules.length+3),.slice none 0 0,iv s.miss] 27 false false)=H5 at *
 have gAH5:H5.get h.next=.row [.string nm,vr,.slice aq s.queues.length cq,.slice av s.vars.length cv,.slice at_ s.tags.length ct,vu,vo,iv s.miss] 27 false false:=(gg5 _ (by omega) (by omega)).trans gAH4
 have gOH5:∀ i,i<h.next→H5.get i=h.get i:=fun i hi=>(gg5 i (by omega) (by omega)).trans (gOH4 i hi)
 have P6:J1S lo H5 vo s.on:=J1S.mono p6 (by omega) fun i _ hi=>gOH5 i hi
 obtain⟨j6,hc6,l6,m6,f6,o6⟩:=JnZ (n:=n) P6 hl2.2 (by omega) (by omega)
 have gA6:j6.get h.next=.row [.string nm,vr,.slice aq s.queues.length cq,.slice av s.vars.length cv,.slice at_ s.tags.length ct,vu,vo,iv s.miss] 27 false false:=by rw[o6 _ (by omega)];exact gAH5
 have gD6:j6.get D=.row [.string nm,.slice (some ⟨H0.next,0,none⟩) s.rows.length (s.rows.length+9),.slice (some ⟨H1.next,0,none⟩) s.queues.length (s.queues.length+3),.slice (some ⟨H2.next,0,none⟩) s.vars.length (s.vars.length+3),.slice (some ⟨H3.next,0,none⟩) s.tags.length (s.tags.length+3),.slice (some ⟨H4.next,0,none⟩) s.rules.length (s.rules.length+3),.slice none 0 0,iv s.miss] 27 false false:=by rw[o6 _ (by omega)];exact gD5'
 have st6:J0K Tryz.prog j6 25 (.pointer (some ⟨D,6,none⟩)) (.slice (some ⟨H5.next,0,none⟩) s.on.length (s.on.length+3))=_:=stc sz28 rfl rfl gD6 (by simp only[List.length_cons,List.length_nil];omega) (by omega)
 simp only[List.set_cons_succ,List.set_cons_zero] at st6
 simp only[evC,seval,↓evP,Nat.zero_add,J1T,J0n,gAH5,x6,hc6,st6]
 have nn6:(j6.put D (.row [.string nm,.slice (some ⟨H0.next,0,none⟩) s.rows.length (s.rows.length+9),.slice (some ⟨H1.next,0,none⟩) s.queues.length (s.queues.length+3),.slice (some ⟨H2.next,0,none⟩) s.vars.length (s.vars.length+3),.slice (some ⟨H3.next,0,none⟩) s.tags.length (s.tags.length+3),.slice (some ⟨H4.next,0,none⟩) s.rules.length (s.rules.length+3),.slice (some ⟨H5.next,0,none⟩) s.on.length (s.on.length+3),iv s.miss] 27 false false)).next=H5.next+2:=m6
 have ff6:(j6.put D (.row [.string nm,.slice (some ⟨H0.next,0,none⟩) s.rows.length (s.rows.length+9),.slice (some ⟨H1.next,0,none⟩) s.queues.length (s.queues.length+3),.slice (some ⟨H2.next,0,none⟩) s.vars.length (s.vars.length+3),.slice (some ⟨H3.next,0,none⟩) s.tags.length (s.tags.length+3),.slice (some ⟨H4.next,0,none⟩) s.rules.length (s.rules.length+3),.slice (some ⟨H5.next,0,none⟩) s.on.length (s.on.length+3),iv s.miss] 27 false false)).floor=H5.floor:=f6
 have gD6':(j6.put D (.row [.string nm,.slice (some ⟨H0.next,0,none⟩) s.rows.length (s.rows.length+9),.slice (some ⟨H1.next,0,none⟩) s.queues.length (s.queues.length+3),.slice (some ⟨H2.next,0,none⟩) s.vars.length (s.vars.length+3),.slice (some ⟨H3.next,0,none⟩) s.tags.length (s.tags.length+3),.slice (some ⟨H4.next,0,none⟩) s.rules.length (s.rules.length+3),.slice (some ⟨H5.next,0,none⟩) s.on.length (s.on.length+3),iv s.miss] 27 false false)).get D=.row [.string nm,.slice (some ⟨H0.next,0,none⟩) s.rows.length (s.rows.length+9),.slice (some ⟨H1.next,0,none⟩) s.queues.length (s.queues.length+3),.slice (some ⟨H2.next,0,none⟩) s.vars.length (s.vars.length+3),.slice (some ⟨H3.next,0,none⟩) s.tags.length (s.tags.length+3),.slice (some ⟨H4.next,0,none⟩) s.rules.length (s.rules.length+3),.slice (some ⟨H5.next,0,none⟩) s.on.length (s.on.length+3),iv s.miss] 27 false false:=J0b rfl (by omega)
 have gg6:∀ i,i<H5.next→i≠D→(j6.put D (.row [.string nm,.slice (some ⟨H0.next,0,none⟩) s.rows.length (s.rows.length+9),.slice (some ⟨H1.next,0,none⟩) s.queues.length (s.queues.length+3),.slice (some ⟨H2.next,0,none⟩) s.vars.length (s.vars.length+3),.slice (some ⟨H3.next,0,none⟩) s.tags.length (s.tags.length+3),.slice (some ⟨H4.next,0,none⟩) s.rules.length (s.rules.length+3),.slice (some ⟨H5.next,0,none⟩) s.on.length (s.on.length+3),iv s.miss] 27 false false)).get i=H5.get i:=fun i hi hd=>by rw[J05 (by omega) (Ne.symm hd),o6 i hi]
 have L6:=l6.mono (h':=j6.put D (.row [.string nm,.slice (some ⟨H0.next,0,none⟩) s.rows.length (s.rows.length+9),.slice (some ⟨H1.next,0,none⟩) s.queues.length (s.queues.length+3),.slice (some ⟨H2.next,0,none⟩) s.vars.length (s.vars.length+3),.slice (some ⟨H3.next,0,none⟩) s.tags.length (s.tags.length+3),.slice (some ⟨H4.next,0,none⟩) s.rules.length (s.rules.length+3),.slice (some ⟨H5.next,0,none⟩) s.on.length (s.on.length+3),iv s.miss] 27 false false)) (by rw[J05 (by omega) (by omega)])
 clear gA6 gD6 st6 hc6
 generalize j6.put D (.row [.string nm,.slice (some ⟨H0.next,0,none⟩) s.rows.length (s.rows.length+9),.slice (some ⟨H1.next,0,none⟩) s.queues.length (s.queues.length+3),.slice (some ⟨H2.next,0,none⟩) s.vars.length (s.vars.length+3),.slice (some ⟨H3.next,0,none⟩) s.tags.length (s.tags.length+3),.slice (some ⟨H4.next,0,none⟩) s.rules.length (s.rules.length+3),.slice (some ⟨H5.next,0,none⟩) s.on.length (s.on.length+3),iv s.miss] 27 false false)=H6 at *
 have gOH6:∀ i,i<h.next→H6.get i=h.get i:=fun i hi=>(gg6 i (by omega) (by omega)).trans (gOH5 i hi)
 have lD:ldN 8 0 (H6.get D)=some (.agg #[.string nm,.slice (some ⟨H0.next,0,none⟩) s.rows.length (s.rows.length+9),.slice (some ⟨H1.next,0,none⟩) s.queues.length (s.queues.length+3),.slice (some ⟨H2.next,0,none⟩) s.vars.length (s.vars.length+3),.slice (some ⟨H3.next,0,none⟩) s.tags.length (s.tags.length+3),.slice (some ⟨H4.next,0,none⟩) s.rules.length (s.rules.length+3),.slice (some ⟨H5.next,0,none⟩) s.on.length (s.on.length+3),iv s.miss]):=J9E gD6' rfl
 have gZ6:H6.get (h.next+1)=.row [.string ByteArray.empty,.slice none 0 0,.slice none 0 0,.slice none 0 0,.slice none 0 0,.slice none 0 0,.slice none 0 0,iv 0] 27 false false:=by
  rw[gg6 _ (by omega) (by omega),gg5 _ (by omega) (by omega),gg4 _ (by omega) (by omega),gg3 _ (by omega) (by omega),gg2 _ (by omega) (by omega),gZ1 _ rfl]
  exact gZ
 have st7:J0K Tryz.prog H6 27 (.pointer (some ⟨h.next+1,0,none⟩)) _=_:=stW sz30 (vs:=[.string nm,.slice (some ⟨H0.next,0,none⟩) s.rows.length (s.rows.length+9),.slice (some ⟨H1.next,0,none⟩) s.queues.length (s.queues.length+3),.slice (some ⟨H2.next,0,none⟩) s.vars.length (s.vars.length+3),.slice (some ⟨H3.next,0,none⟩) s.tags.length (s.tags.length+3),.slice (some ⟨H4.next,0,none⟩) s.rules.length (s.rules.length+3),.slice (some ⟨H5.next,0,none⟩) s.on.length (s.on.length+3),iv s.miss]) gZ6 rfl rfl rfl (by omega)
 have lZ:ldN 8 0 ((H6.put (h.next+1) (.row [.string nm,.slice (some ⟨H0.next,0,none⟩) s.rows.length (s.rows.length+9),.slice (some ⟨H1.next,0,none⟩) s.queues.length (s.queues.length+3),.slice (some ⟨H2.next,0,none⟩) s.vars.length (s.vars.length+3),.slice (some ⟨H3.next,0,none⟩) s.tags.length (s.tags.length+3),.slice (some ⟨H4.next,0,none⟩) s.rules.length (s.rules.length+3),.slice (some ⟨H5.next,0,none⟩) s.on.length (s.on.length+3),iv s.miss] 27 false false)).get (h.next+1))=some (.agg #[.string nm,.slice (some ⟨H0.next,0,none⟩) s.rows.length (s.rows.length+9),.slice (some ⟨H1.next,0,none⟩) s.queues.length (s.queues.length+3),.slice (some ⟨H2.next,0,none⟩) s.vars.length (s.vars.length+3),.slice (some ⟨H3.next,0,none⟩) s.tags.length (s.tags.length+3),.slice (some ⟨H4.next,0,none⟩) s.rules.length (s.rules.length+3),.slice (some ⟨H5.next,0,none⟩) s.on.length (s.on.length+3),iv s.miss]):=J9E (J0b rfl (by omega)) rfl
 simp only[evC,seval,↓evP,hr,J1b,lD,st7,lZ]
 have gg7:∀ i,i<H6.next→i≠h.next+1→(H6.put (h.next+1) (.row [.string nm,.slice (some ⟨H0.next,0,none⟩) s.rows.length (s.rows.length+9),.slice (some ⟨H1.next,0,none⟩) s.queues.length (s.queues.length+3),.slice (some ⟨H2.next,0,none⟩) s.vars.length (s.vars.length+3),.slice (some ⟨H3.next,0,none⟩) s.tags.length (s.tags.length+3),.slice (some ⟨H4.next,0,none⟩) s.rules.length (s.rules.length+3),.slice (some ⟨H5.next,0,none⟩) s.on.length (s.on.length+3),iv s.miss] 27 false false)).get i=H6.get i:=fun i hi hd=>J05 (by omega) (Ne.symm hd)
 have nn7:(H6.put (h.next+1) (.row [.string nm,.slice (some ⟨H0.next,0,none⟩) s.rows.length (s.rows.length+9),.slice (some ⟨H1.next,0,none⟩) s.queues.length (s.queues.length+3),.slice (some ⟨H2.next,0,none⟩) s.vars.length (s.vars.length+3),.slice (some ⟨H3.next,0,none⟩) s.tags.length (s.tags.length+3),.slice (some ⟨H4.next,0,none⟩) s.rules.length (s.rules.length+3),.slice (some ⟨H5.next,0,none⟩) s.on.length (s.on.length+3),iv s.miss] 27 false false)).next=H6.next:=rfl
 have ff7:(H6.put (h.next+1) (.row [.string nm,.slice (some ⟨H0.next,0,none⟩) s.rows.length (s.rows.length+9),.slice (some ⟨H1.next,0,none⟩) s.queues.length (s.queues.length+3),.slice (some ⟨H2.next,0,none⟩) s.vars.length (s.vars.length+3),.slice (some ⟨H3.next,0,none⟩) s.tags.length (s.tags.length+3),.slice (some ⟨H4.next,0,none⟩) s.rules.length (s.rules.length+3),.slice (some ⟨H5.next,0,none⟩) s.on.length (s.on.length+3),iv s.miss] 27 false false)).floor=H6.floor:=rfl
 generalize H6.put (h.next+1) (.row [.string nm,.slice (some ⟨H0.next,0,none⟩) s.rows.length (s.rows.length+9),.slice (some ⟨H1.next,0,none⟩) s.queues.length (s.queues.length+3),.slice (some ⟨H2.next,0,none⟩) s.vars.length (s.vars.length+3),.slice (some ⟨H3.next,0,none⟩) s.tags.length (s.tags.length+3),.slice (some ⟨H4.next,0,none⟩) s.rules.length (s.rules.length+3),.slice (some ⟨H5.next,0,none⟩) s.on.length (s.on.length+3),iv s.miss] 27 false false)=H7 at *
 refine⟨⟨fun i=>if i=1 then H0.next else if i=2 then H1.next else if i=3 then H2.next else if i=4 then H3.next else if i=5 then H4.next else H5.next,rfl,?_,⟨L,?_,hL1.len,hL1.own,hL1.marks⟩,L2.mono ?_,L3.mono ?_,L4.mono ?_,L5.mono ?_,L6.mono ?_⟩,by omega,by omega,fun i hi=>by rw[gg7 _ (by omega) (by omega)];exact gOH6 i hi⟩
 ·simp only[↓reduceIte,Nat.reduceEqDiff]
  omega
 ·show H7.get H0.next=_
  rw[gg7 _ (by omega) (by omega),gg6 _ (by omega) (by omega),gg5 _ (by omega) (by omega),gg4 _ (by omega) (by omega),gg3 _ (by omega) (by omega),gg2 _ (by omega) (by omega)]
  exact hL1.g
 ·show H7.get H1.next=_
  rw[gg7 _ (by omega) (by omega),gg6 _ (by omega) (by omega),gg5 _ (by omega) (by omega),gg4 _ (by omega) (by omega),gg3 _ (by omega) (by omega)]
 ·show H7.get H2.next=_
  rw[gg7 _ (by omega) (by omega),gg6 _ (by omega) (by omega),gg5 _ (by omega) (by omega),gg4 _ (by omega) (by omega)]
 ·show H7.get H3.next=_
  rw[gg7 _ (by omega) (by omega),gg6 _ (by omega) (by omega),gg5 _ (by omega) (by omega)]
 ·show H7.get H4.next=_
  rw[gg7 _ (by omega) (by omega),gg6 _ (by omega) (by omega)]
 ·show H7.get H5.next=_
  rw[gg7 _ (by omega) (by omega)]
theorem Jpq {nm:ByteArray} {s:StN} {pv:Value} {lo:Nat} (hp:J3x lo h pv nm s) (hs:JdC s) (hl:s.rows.length<900000000) (hl2:s.rules.length<900000000∧s.on.length<900000000) (hfl:h.floor≤h.next) (hn:30<n) :
  ∃ v' h',J0T n 7 [pv] h=some (v',h')∧(∃ o,LentPol h' h.next v' nm s o)∧h.next≤h'.next∧h'.floor=h.floor∧∀ i,i<h.next→h'.get i=h.get i:=by
 obtain⟨n,rfl⟩:∃ j,n=j+1:=⟨n-1,by omega⟩
 refine k_ex (J13 ⟨rfl,rfl,rfl⟩) (JoJ hp hs hl hl2 hfl (by omega)) fun v' h1 hf ho ⟨⟨o,hL⟩,_⟩=>?_
 rw[hL.v] at hf
 cases hf
end
theorem idx0 {P:Program} {t e:TypeId} {w id n c i:Nat} (ht:P.underlying t=some (.slice e)) (he:szOf P e=some w) (hi:i<n):J0R P t (.slice (some ⟨id,0,none⟩) n c) (iv (i:Int))=some (.pointer (some ⟨id,i*w,none⟩)):=by
 simp only[J0R,ht,he,J0q]
 rw[if_pos (by omega)]
 simp
theorem Jot {P:Program} {t:TypeId} {k:Nat} {h:SHeap} {id off:Nat} {cs:List Value} {ty:TypeId} {g:Bool} {v:Value} (ht:szOf P t=some k) (hk:v.cells.size=k) (ho:v.cells.toList.all one=true) (hg:h.get id=.row cs ty g false) (hl:off+k≤cs.length) (hf:h.floor≤id) :
  ∃ cs',J0K P h t (.pointer (some ⟨id,off,none⟩)) v=some (h.put id (.row cs' ty g false))∧cs'.length=cs.length:=by
 refine⟨Go.Sx.lay cs off v.cells.toList,?_,?_⟩
 ·simp only[J0K,ht,J1q,hg]
  rw[if_pos (by rw[hk]),if_pos (by simp only[ho,Array.length_toList,hk,Bool.and_true,Bool.and_eq_true,decide_eq_true_eq];omega)]
 ·simp only[Go.Sx.lay,List.length_append,List.length_take,List.length_drop,Array.length_toList,hk]
  omega
theorem JnT {h:SHeap} {o:Nat} {l L:List RowN} (hL:LentAt h o l L) (ho:o<h.next):J0l h (.slice (some ⟨o,0,none⟩) l.length (l.length+9)) l:=by
 refine⟨_,_,rfl,.inr ⟨o,0,_,_,_,_,rfl,hL.g,ho,fun k r hk=>?_⟩⟩
 have hkl:=(List.getElem?_eq_some_iff.1 hk).1
 rw[Nat.zero_add]
 exact J2Y ((hL.own k hkl).trans hk)
theorem LentC.ld {h:SHeap} {o n w:Nat} {cs mk z:List Value} {e:TypeId} (hl:LentC h o n w cs mk z e) {j:Nat} (hj:j<w):ld1 (n*w+j) (h.get o)=mk[j]?:=by
 rw[hl.g]
 simp only[ld1]
 rw[List.getElem?_append_right (by rw[hl.len];omega),hl.len,Nat.add_sub_cancel_left,List.getElem?_append_left (by rw[hl.mlen];exact hj)]
theorem LentC.size {h:SHeap} {o n w:Nat} {cs mk z:List Value} {e:TypeId} (hl:LentC h o n w cs mk z e):(cs++(mk++J3e z 2)).length=(n+3)*w:=by
 rw[List.length_append,List.length_append,JnJ,hl.len,hl.mlen,hl.zlen]
 simp only[Nat.add_mul]
 omega
section
variable {n N:Nat} {h:SHeap}
set_option maxHeartbeats 4000000 in
theorem Jo8 {l:List Int} {v:Value} {o lo:Nat} (hL:LentC h o l.length 1 (ints l) [iv (-77)] [iv 0] 3) (ho:o<h.next) (hf:h.floor≤o) (hv:J1S lo h v l) (hl:l.length<900000000) (hn:l.length+10<n) (hN:l.length+10<N) :
  ∃ h',J0L Tryz.prog (J0T n) N 29 [.slice (some ⟨o,0,none⟩) l.length (l.length+3),v] h=some (.bool true,h')∧(h'.next=h.next∧h'.floor=h.floor∧∀ i,i≠o→h'.get i=h.get i):=by
 refine J1N (R:=fun h'=>h'.next=h.next∧h'.floor=h.floor∧∀ i,i≠o→h'.get i=h.get i) Tryz.func29 rfl (by simp[Tryz.f29]) ?_
 have hr:Tryz.f29.results.toList=[.tmp 4]:=rfl
 have hM:J1S 0 h (.slice (some ⟨o,0,none⟩) l.length (l.length+3)) l:=hL.cells ⟨Nat.zero_le _,ho⟩
 have hsame:=J78 (n:=n) hM hv (by omega) (by omega)
 rw[decide_eq_true rfl] at hsame
 have hlen:=fun h'=>JfF hv h'
 have hlenM:=fun h'=>JfF hM h'
 have w1:IntKind.i64.wrap ((l.length:Int)+1)=((l.length+1:Nat):Int):=J0s (by omega) (by omega)
 have hsl:=fun (H:SHeap)=>JnH (h:=H) (id:=o) (n:=l.length) (m:=l.length+1) (c:=l.length+3) Tryz.underlying25 sz3 (by omega) (by unfold unk;omega)
 have hix:=idx0 (id:=o) (n:=l.length+1) (c:=l.length+3) (i:=l.length) Tryz.underlying25 sz3 (by omega)
 have hld:ld1 (l.length*1) (h.get o)=some (iv (-77)):=hL.ld (j:=0) (by decide)
 simp only[evC,seval,↓evP,hsame,hlen,w1,hsl,hix,J0m,hld,Int.reduceBEq,BEq.rfl]
 refine WK.loop (fun i s'=>s'.T.get 0=.slice (some ⟨o,0,none⟩) l.length (l.length+3)∧s'.T.get 5=.bool true∧s'.T.get 6=iv i∧i≤l.length∧s'.h.next=h.next∧s'.h.floor=h.floor∧(∀ i,i≠o→s'.h.get i=h.get i)∧∃ CS,s'.h.get o=.row CS 3 false false∧CS.length=(l.length+3)*1) l.length (by omega) ?_ ?_
 ·exact⟨by simp only[evC,↓reduceIte,Nat.reduceEqDiff,reduceCtorEq,↓evP,rpC,Nat.reduceAdd,Nat.reduceLT],by simp only[evC,↓reduceIte,Nat.reduceEqDiff,reduceCtorEq,↓evP,rpC,Nat.reduceAdd,Nat.reduceLT],by simp only[evC,↓reduceIte,Nat.reduceEqDiff,reduceCtorEq,↓evP,rpC,Nat.reduceAdd,Nat.reduceLT];rfl,by omega,rfl,rfl,fun _ _=>rfl,_,hL.g,hL.size⟩
 rintro i ⟨T1,H1⟩ hi ⟨t0,t5,t6,hil,n1,f1,o1,CS,gC,lC⟩
 simp only at t0 t5 t6 n1 f1 o1 gC
 by_cases hlt:i<l.length
 ·have c1:decide ((i:Int)<(l.length:Int))=true:=by simp;omega
  have hix:=idx0 (id:=o) (n:=l.length) (c:=l.length+3) (i:=i) Tryz.underlying25 sz3 hlt
  obtain⟨CS',hst,hl'⟩:=Jot (off:=i*1) (v:=iv (-78)) sz3 rfl rfl gC (by omega) (by omega)
  have w2:IntKind.i64.wrap ((i:Int)+1)=((i+1:Nat):Int):=J0s (by omega) (by omega)
  simp only[evC,seval,↓evP,t0,t5,t6,hlenM,c1,hix,hst,w2]
  exact⟨hlt,by omega,n1,f1,fun j hj=>by rw[J05 (by omega) (Ne.symm hj)];exact o1 j hj,CS',J0b rfl (by omega),by omega⟩
 have c1:decide ((i:Int)<(l.length:Int))=false:=by simp;omega
 simp only[evC,seval,↓evP,hr,t0,t5,t6,hlenM,c1]
 exact⟨n1,f1,o1⟩
theorem Jo0 {l:List Int} {v:Value} {o lo:Nat} (hL:LentC h o l.length 1 (ints l) [iv (-77)] [iv 0] 3) (ho:o<h.next) (hf:h.floor≤o) (hv:J1S lo h v l) (hl:l.length<900000000) (hn:l.length+20<n) :
  ∃ h',J0T n 29 [.slice (some ⟨o,0,none⟩) l.length (l.length+3),v] h=some (.bool true,h')∧(h'.next=h.next∧h'.floor=h.floor∧∀ i,i≠o→h'.get i=h.get i):=by
 obtain⟨n,rfl⟩:∃ j,n=j+1:=⟨n-1,by omega⟩
 exact k_wr (J13 ⟨rfl,rfl,rfl⟩) (Jo8 hL ho hf hv hl (by omega) (by omega))
noncomputable def JnN:Array Oper:=J18 Tryz.f11 2
def JpL:List (Bool × Bool × List Operand):=[(false,false,[]),(false,false,[]),(false,true,[]),(false,true,[]),(false,true,[.tmp 17]),(false,true,[.tmp 17]),(false,true,[.tmp 17]),(false,true,[.tmp 17]),(false,true,[]),(false,true,[.tmp 17,.tmp 19,.tmp 18]),(false,true,[.tmp 17,.tmp 19,.tmp 18]),(false,true,[.tmp 17,.tmp 19,.tmp 18]),(false,false,[]),(false,false,[]),(false,false,[]),(false,false,[]),(false,false,[]),(false,false,[]),(false,true,[]),(false,true,[]),(false,true,[.tmp 33]),(false,true,[.tmp 33]),(false,true,[.tmp 33]),(false,true,[.tmp 33]),(false,true,[]),(false,true,[.tmp 33,.tmp 35,.tmp 34]),(false,true,[.tmp 33,.tmp 35,.tmp 34]),(false,true,[.tmp 33,.tmp 35,.tmp 34]),(false,false,[]),(false,false,[]),(false,false,[]),(false,false,[]),(false,false,[]),(false,true,[]),(false,true,[]),(false,true,[.tmp 48]),(false,true,[.tmp 48]),(false,true,[.tmp 48]),(false,true,[.tmp 48]),(false,true,[]),(false,true,[.tmp 48,.tmp 50,.tmp 49]),(false,true,[.tmp 48,.tmp 50,.tmp 49]),(false,true,[.tmp 48,.tmp 50,.tmp 49]),(false,false,[]),(false,false,[]),(false,false,[]),(false,false,[]),(false,false,[])]
theorem JoR:J1E JnN=JpL:=by kernel_rfl
theorem Jp9:(JnN[1]?).bind (·.dst)=some 16∧(JnN[17]?).bind (·.dst)=some 32∧(JnN[32]?).bind (·.dst)=some 47:=⟨by kernel_rfl,by kernel_rfl,by kernel_rfl⟩
set_option maxHeartbeats 16000000 in
theorem JoF {nm:ByteArray} {s:StN} {pv v:Value} {lo b:Nat} {o:Nat→Nat} {h0:SHeap} (hL:LentPol h b v nm s o) (hp:J3x lo h0 pv nm s) (hb:h0.next≤b) (h0g:∀ i,i<h0.next→h.get i=h0.get i) (hf:h.floor≤b) (hs:JdC s) (hl:s.rows.length<900000000) (hl2:s.rules.length<900000000∧s.on.length<900000000) (hn:Jbg s+60<n) (hN:Jbg s+60<N) :
  ∃ h',J0L Tryz.prog (J0T n) N 11 [v,pv] h=some (.bool true,h')∧(h.next≤h'.next∧h'.floor=h.floor∧∀ i,i<h.next→(∀ j,1≤j→j≤6→i≠o j)→h'.get i=h.get i):=by
 obtain⟨vr,vq,vv,vt,vu,vo,rfl,p1,p2,p3,p4,p5,p6⟩:=id hp
 obtain⟨aq,cq,rfl,_⟩:=id p2.2
 obtain⟨av,cv,rfl,_⟩:=id p3.2
 obtain⟨at_,ct,rfl,_⟩:=id p4.2
 obtain⟨rfl,⟨u1,u2,u3,u4,u5,u6,u7⟩,⟨L,L1⟩,L2,L3,L4,L5,L6⟩:=hL
 have hsn:=(J1z n).2
 refine J1N (R:=fun h'=>h.next≤h'.next∧h'.floor=h.floor∧∀ i,i<h.next→(∀ j,1≤j→j≤6→i≠o j)→h'.get i=h.get i) Tryz.func11 rfl (by simp[Tryz.f11]) ?_
 have hr:Tryz.f11.results.toList=[.tmp 4]:=rfl
 have hs':=hs
 obtain⟨q1,q2,q3,q4,q5,q6⟩:=hs
 have htot:Jbg s=s.rows.length+s.queues.length+s.vars.length+s.tags.length+s.rules.length+s.on.length:=rfl
 have ca:(Value.agg #[.string nm,.slice (some ⟨o 1,0,none⟩) s.rows.length (s.rows.length+9),.slice (some ⟨o 2,0,none⟩) s.queues.length (s.queues.length+3),.slice (some ⟨o 3,0,none⟩) s.vars.length (s.vars.length+3),.slice (some ⟨o 4,0,none⟩) s.tags.length (s.tags.length+3),.slice (some ⟨o 5,0,none⟩) s.rules.length (s.rules.length+3),.slice (some ⟨o 6,0,none⟩) s.on.length (s.on.length+3),iv s.miss]).cells.toList=[.string nm,.slice (some ⟨o 1,0,none⟩) s.rows.length (s.rows.length+9),.slice (some ⟨o 2,0,none⟩) s.queues.length (s.queues.length+3),.slice (some ⟨o 3,0,none⟩) s.vars.length (s.vars.length+3),.slice (some ⟨o 4,0,none⟩) s.tags.length (s.tags.length+3),.slice (some ⟨o 5,0,none⟩) s.rules.length (s.rules.length+3),.slice (some ⟨o 6,0,none⟩) s.on.length (s.on.length+3),iv s.miss]:=rfl
 have oa:[Value.string nm,.slice (some ⟨o 1,0,none⟩) s.rows.length (s.rows.length+9),.slice (some ⟨o 2,0,none⟩) s.queues.length (s.queues.length+3),.slice (some ⟨o 3,0,none⟩) s.vars.length (s.vars.length+3),.slice (some ⟨o 4,0,none⟩) s.tags.length (s.tags.length+3),.slice (some ⟨o 5,0,none⟩) s.rules.length (s.rules.length+3),.slice (some ⟨o 6,0,none⟩) s.on.length (s.on.length+3),iv s.miss].all one=true:=rfl
 have cb:(Value.agg #[.string nm,vr,.slice aq s.queues.length cq,.slice av s.vars.length cv,.slice at_ s.tags.length ct,vu,vo,iv s.miss]).cells.toList=[.string nm,vr,.slice aq s.queues.length cq,.slice av s.vars.length cv,.slice at_ s.tags.length ct,vu,vo,iv s.miss]:=rfl
 have ob:=all8 (nm:=nm) p1 p2 p3 p4 p5 p6
 obtain⟨x0,x1,x2,x3,x4,x5,x6,x7⟩:=Jhw (a:=.string nm) (b:=.slice (some ⟨o 1,0,none⟩) s.rows.length (s.rows.length+9)) (c:=.slice (some ⟨o 2,0,none⟩) s.queues.length (s.queues.length+3)) (d:=.slice (some ⟨o 3,0,none⟩) s.vars.length (s.vars.length+3)) (e:=.slice (some ⟨o 4,0,none⟩) s.tags.length (s.tags.length+3)) (f:=.slice (some ⟨o 5,0,none⟩) s.rules.length (s.rules.length+3)) (g:=.slice (some ⟨o 6,0,none⟩) s.on.length (s.on.length+3)) (i:=iv s.miss) (ty:=27) (x:=false) (y:=false)
 obtain⟨y0,y1,y2,y3,y4,y5,y6,y7⟩:=Jhw (a:=.string nm) (b:=vr) (c:=.slice aq s.queues.length cq) (d:=.slice av s.vars.length cv) (e:=.slice at_ s.tags.length ct) (f:=vu) (g:=vo) (i:=iv s.miss) (ty:=27) (x:=false) (y:=false)
 have len2:=JfC p2
 have len3:=JfT p3
 have len4:=JfT p4
 have lenM2:∀ h':SHeap,lenS Tryz.prog h' 23 (.slice (some ⟨o 2,0,none⟩) s.queues.length (s.queues.length+3))=some (iv (s.queues.length:Int)):=fun h'=>by simp[lenS,Tryz.underlying23]
 have lenM3:∀ h':SHeap,lenS Tryz.prog h' 24 (.slice (some ⟨o 3,0,none⟩) s.vars.length (s.vars.length+3))=some (iv (s.vars.length:Int)):=fun h'=>by simp[lenS,Tryz.underlying24]
 have lenM4:∀ h':SHeap,lenS Tryz.prog h' 24 (.slice (some ⟨o 4,0,none⟩) s.tags.length (s.tags.length+3))=some (iv (s.tags.length:Int)):=fun h'=>by simp[lenS,Tryz.underlying24]
 simp only[evC,seval,↓evP,rpD,J0X,J2t,ca,oa,cb,ob,sz30]
 have gA:((h.push (.row [.string nm,.slice (some ⟨o 1,0,none⟩) s.rows.length (s.rows.length+9),.slice (some ⟨o 2,0,none⟩) s.queues.length (s.queues.length+3),.slice (some ⟨o 3,0,none⟩) s.vars.length (s.vars.length+3),.slice (some ⟨o 4,0,none⟩) s.tags.length (s.tags.length+3),.slice (some ⟨o 5,0,none⟩) s.rules.length (s.rules.length+3),.slice (some ⟨o 6,0,none⟩) s.on.length (s.on.length+3),iv s.miss] 27 false false)).push (.row [.string nm,vr,.slice aq s.queues.length cq,.slice av s.vars.length cv,.slice at_ s.tags.length ct,vu,vo,iv s.miss] 27 false false)).get h.next=.row [.string nm,.slice (some ⟨o 1,0,none⟩) s.rows.length (s.rows.length+9),.slice (some ⟨o 2,0,none⟩) s.queues.length (s.queues.length+3),.slice (some ⟨o 3,0,none⟩) s.vars.length (s.vars.length+3),.slice (some ⟨o 4,0,none⟩) s.tags.length (s.tags.length+3),.slice (some ⟨o 5,0,none⟩) s.rules.length (s.rules.length+3),.slice (some ⟨o 6,0,none⟩) s.on.length (s.on.length+3),iv s.miss] 27 false false:=J4c
 have gB:((h.push (.row [.string nm,.slice (some ⟨o 1,0,none⟩) s.rows.length (s.rows.length+9),.slice (some ⟨o 2,0,none⟩) s.queues.length (s.queues.length+3),.slice (some ⟨o 3,0,none⟩) s.vars.length (s.vars.length+3),.slice (some ⟨o 4,0,none⟩) s.tags.length (s.tags.length+3),.slice (some ⟨o 5,0,none⟩) s.rules.length (s.rules.length+3),.slice (some ⟨o 6,0,none⟩) s.on.length (s.on.length+3),iv s.miss] 27 false false)).push (.row [.string nm,vr,.slice aq s.queues.length cq,.slice av s.vars.length cv,.slice at_ s.tags.length ct,vu,vo,iv s.miss] 27 false false)).get (h.next+1)=.row [.string nm,vr,.slice aq s.queues.length cq,.slice av s.vars.length cv,.slice at_ s.tags.length ct,vu,vo,iv s.miss] 27 false false:=J48
 have gO:∀ i,i<h.next→((h.push (.row [.string nm,.slice (some ⟨o 1,0,none⟩) s.rows.length (s.rows.length+9),.slice (some ⟨o 2,0,none⟩) s.queues.length (s.queues.length+3),.slice (some ⟨o 3,0,none⟩) s.vars.length (s.vars.length+3),.slice (some ⟨o 4,0,none⟩) s.tags.length (s.tags.length+3),.slice (some ⟨o 5,0,none⟩) s.rules.length (s.rules.length+3),.slice (some ⟨o 6,0,none⟩) s.on.length (s.on.length+3),iv s.miss] 27 false false)).push (.row [.string nm,vr,.slice aq s.queues.length cq,.slice av s.vars.length cv,.slice at_ s.tags.length ct,vu,vo,iv s.miss] 27 false false)).get i=h.get i:=fun i hi=>by rw[J06 (by show i<h.next+1;omega),J06 hi]
 have nG:((h.push (.row [.string nm,.slice (some ⟨o 1,0,none⟩) s.rows.length (s.rows.length+9),.slice (some ⟨o 2,0,none⟩) s.queues.length (s.queues.length+3),.slice (some ⟨o 3,0,none⟩) s.vars.length (s.vars.length+3),.slice (some ⟨o 4,0,none⟩) s.tags.length (s.tags.length+3),.slice (some ⟨o 5,0,none⟩) s.rules.length (s.rules.length+3),.slice (some ⟨o 6,0,none⟩) s.on.length (s.on.length+3),iv s.miss] 27 false false)).push (.row [.string nm,vr,.slice aq s.queues.length cq,.slice av s.vars.length cv,.slice at_ s.tags.length ct,vu,vo,iv s.miss] 27 false false)).next=h.next+2:=rfl
 have fG:((h.push (.row [.string nm,.slice (some ⟨o 1,0,none⟩) s.rows.length (s.rows.length+9),.slice (some ⟨o 2,0,none⟩) s.queues.length (s.queues.length+3),.slice (some ⟨o 3,0,none⟩) s.vars.length (s.vars.length+3),.slice (some ⟨o 4,0,none⟩) s.tags.length (s.tags.length+3),.slice (some ⟨o 5,0,none⟩) s.rules.length (s.rules.length+3),.slice (some ⟨o 6,0,none⟩) s.on.length (s.on.length+3),iv s.miss] 27 false false)).push (.row [.string nm,vr,.slice aq s.queues.length cq,.slice av s.vars.length cv,.slice at_ s.tags.length ct,vu,vo,iv s.miss] 27 false false)).floor=h.floor:=rfl
 generalize (h.push (.row [.string nm,.slice (some ⟨o 1,0,none⟩) s.rows.length (s.rows.length+9),.slice (some ⟨o 2,0,none⟩) s.queues.length (s.queues.length+3),.slice (some ⟨o 3,0,none⟩) s.vars.length (s.vars.length+3),.slice (some ⟨o 4,0,none⟩) s.tags.length (s.tags.length+3),.slice (some ⟨o 5,0,none⟩) s.rules.length (s.rules.length+3),.slice (some ⟨o 6,0,none⟩) s.on.length (s.on.length+3),iv s.miss] 27 false false)).push (.row [.string nm,vr,.slice aq s.queues.length cq,.slice av s.vars.length cv,.slice at_ s.tags.length ct,vu,vo,iv s.miss] 27 false false)=G at *
 have L1:LentAt G (o 1) s.rows L:=⟨by rw[gO _ (by omega)];exact L1.g,L1.len,L1.own,L1.marks⟩
 have L2:=L2.mono (gO (o 2) (by omega))
 have L3:=L3.mono (gO (o 3) (by omega))
 have L4:=L4.mono (gO (o 4) (by omega))
 have L5:=L5.mono (gO (o 5) (by omega))
 have L6:=L6.mono (gO (o 6) (by omega))
 have hpG:J3x lo G (.agg #[.string nm,vr,.slice aq s.queues.length cq,.slice av s.vars.length cv,.slice at_ s.tags.length ct,vu,vo,iv s.miss]) nm s:=hp.mono (by omega) fun i _ hi=>by rw[gO i (by omega),h0g i hi]
 have hrM:J3P 0 G (.slice (some ⟨o 1,0,none⟩) s.rows.length (s.rows.length+9)) s.rows:=J0l.cells (JnT L1 (by omega))
 have hpM:J3x 0 G (.agg #[.string nm,.slice (some ⟨o 1,0,none⟩) s.rows.length (s.rows.length+9),.slice (some ⟨o 2,0,none⟩) s.queues.length (s.queues.length+3),.slice (some ⟨o 3,0,none⟩) s.vars.length (s.vars.length+3),.slice (some ⟨o 4,0,none⟩) s.tags.length (s.tags.length+3),.slice (some ⟨o 5,0,none⟩) s.rules.length (s.rules.length+3),.slice (some ⟨o 6,0,none⟩) s.on.length (s.on.length+3),iv s.miss]) nm s:=⟨_,_,_,_,_,_,rfl,hrM,L2.cells ⟨Nat.zero_le _,by omega⟩,L3.cells ⟨Nat.zero_le _,by omega⟩,L4.cells ⟨Nat.zero_le _,by omega⟩,L5.cells ⟨Nat.zero_le _,by omega⟩,L6.cells ⟨Nat.zero_le _,by omega⟩⟩
 obtain⟨bb,hsame,hbb⟩:=JgK (n:=n) hpM hpG hs' (by omega)
 obtain rfl:bb=true:=hbb.2 (J8U _ _)
 have lA:ldN 8 0 (G.get h.next)=some (.agg #[.string nm,.slice (some ⟨o 1,0,none⟩) s.rows.length (s.rows.length+9),.slice (some ⟨o 2,0,none⟩) s.queues.length (s.queues.length+3),.slice (some ⟨o 3,0,none⟩) s.vars.length (s.vars.length+3),.slice (some ⟨o 4,0,none⟩) s.tags.length (s.tags.length+3),.slice (some ⟨o 5,0,none⟩) s.rules.length (s.rules.length+3),.slice (some ⟨o 6,0,none⟩) s.on.length (s.on.length+3),iv s.miss]):=J9E gA rfl
 have lB:ldN 8 0 (G.get (h.next+1))=some (.agg #[.string nm,vr,.slice aq s.queues.length cq,.slice av s.vars.length cv,.slice at_ s.tags.length ct,vu,vo,iv s.miss]):=J9E gB rfl
 simp only[evC,seval,↓evP,J1b,lA,lB,hsame]
 rw[← gA] at x0 x1 x2 x3 x4 x5 x6 x7
 rw[← gB] at y0 y1 y2 y3 y4 y5 y6 y7
 have v2:IntKind.i64.wrap ((s.queues.length:Int)+1)=((s.queues.length+1:Nat):Int):=J0s (by omega) (by omega)
 have v3:IntKind.i64.wrap ((s.vars.length:Int)+1)=((s.vars.length+1:Nat):Int):=J0s (by omega) (by omega)
 have v4:IntKind.i64.wrap ((s.tags.length:Int)+1)=((s.tags.length+1:Nat):Int):=J0s (by omega) (by omega)
 have s2:=fun (H:SHeap)=>JnH (h:=H) (id:=o 2) (n:=s.queues.length) (m:=s.queues.length+1) (c:=s.queues.length+3) Tryz.underlying23 sz57 (by omega) (by unfold unk;omega)
 have s3:=fun (H:SHeap)=>JnH (h:=H) (id:=o 3) (n:=s.vars.length) (m:=s.vars.length+1) (c:=s.vars.length+3) Tryz.underlying24 sz9 (by omega) (by unfold unk;omega)
 have s4:=fun (H:SHeap)=>JnH (h:=H) (id:=o 4) (n:=s.tags.length) (m:=s.tags.length+1) (c:=s.tags.length+3) Tryz.underlying24 sz9 (by omega) (by unfold unk;omega)
 have i2:=idx0 (id:=o 2) (n:=s.queues.length+1) (c:=s.queues.length+3) (i:=s.queues.length) Tryz.underlying23 sz57 (by omega)
 have i3:=idx0 (id:=o 3) (n:=s.vars.length+1) (c:=s.vars.length+3) (i:=s.vars.length) Tryz.underlying24 sz9 (by omega)
 have i4:=idx0 (id:=o 4) (n:=s.tags.length+1) (c:=s.tags.length+3) (i:=s.tags.length) Tryz.underlying24 sz9 (by omega)
 have m2:ld1 (s.queues.length*2) (G.get (o 2))=some (.string JcY):=L2.ld (j:=0) (by decide)
 have m3:ld1 (s.vars.length*1) (G.get (o 3))=some (.string JcY):=L3.ld (j:=0) (by decide)
 have m4:ld1 (s.tags.length*1) (G.get (o 4))=some (.string JcY):=L4.ld (j:=0) (by decide)
 have hbe:((JcY:ByteArray)==JcY)=true:=J34 _
 refine WK.flags (ops:=JnN) JoR ?_
 refine WKF.begin ?_
 have FF:=aQ Jp9.1 (aQ Jp9.2.1 (aQ Jp9.2.2 (aQ @J0B (aQ @J1A (aQ @J1B (aQ @J0S (aQ @J0Y (aQ @J0d (aQ @x2 (aQ @x3 (aQ @x4 (aQ @y2 (aQ @y3 (aQ @y4 (aQ @len2 (aQ @len3 (aQ @len4 (aQ @v2 (aQ @v3 (aQ @v4 (aQ @s2 (aQ @s3 (aQ @s4 (aQ @i2 (aQ @i3 (aQ @i4 (aQ @JiV (aQ @m2 (aQ @m3 (aQ @m4 (aQ @hbe (aQ @J1g (aQ @J0J @JiM)))))))))))))))))))))))))))))))))
 refine wst hsn 0 (some 15) (.move (.tmp 5)) none ?_
 simp only[rgC,seval,J04,J02,WKFC,FF]
 refine wst hsn 1 (some 16) (.move (.tmp 15)) none ?_
 simp only[rgC,seval,J04,J02,WKFC,FF]
 refine wst hsn 2 (some 17) (.fieldAddr 27 (.tmp 2) 2) (some (1,true)) ?_
 simp only[rgC,seval,J04,J02,WKFC,Nat.zero_add,FF]
 refine wst hsn 3 (some 18) (.load 23 (.tmp 17)) (some (1,true)) ?_
 simp only[rgC,seval,J04,J02,WKFC,rgL,FF]
 refine wst hsn 4 (some 19) (.fieldAddr 27 (.tmp 3) 2) (some (1,true)) ?_
 simp only[rgC,seval,J04,J02,WKFC,Nat.zero_add,FF]
 refine wst hsn 5 (some 20) (.load 23 (.tmp 19)) (some (1,true)) ?_
 simp only[rgC,seval,J04,J02,WKFC,rgL,FF]
 refine wst hsn 6 (some 21) (.call { callee:=.builtin .len,args:=#[.tmp 20],argTypes:=#[23] }) (some (1,true)) ?_
 simp only[rgC,seval,J04,J02,WKFC,rgK,FF]
 refine wst hsn 7 (some 22) (.binOp .add 3 (.tmp 21) (.const (Value.int IntKind.i64 1)) 3) (some (1,true)) ?_
 simp only[rgC,seval,J04,J02,WKFC,rgB,FF]
 refine wst hsn 8 (some 23) (.slice 23 (.tmp 18) none (some (.tmp 22)) none) (some (1,true)) ?_
 simp only[rgC,seval,J04,J02,WKFC,rgL,FF]
 refine wst hsn 9 (some 24) (.fieldAddr 27 (.tmp 3) 2) (some (1,true)) ?_
 simp only[rgC,seval,J04,J02,WKFC,Nat.zero_add,FF]
 refine wst hsn 10 (some 25) (.load 23 (.tmp 24)) (some (1,true)) ?_
 simp only[rgC,seval,J04,J02,WKFC,rgL,FF]
 refine wst hsn 11 (some 26) (.call { callee:=.builtin .len,args:=#[.tmp 25],argTypes:=#[23] }) (some (1,true)) ?_
 simp only[rgC,seval,J04,J02,WKFC,rgK,FF]
 refine wst hsn 12 (some 27) (.indexAddr 23 (.tmp 23) (.tmp 26)) (some (1,true)) ?_
 simp only[rgC,seval,J04,J02,WKFC,Nat.zero_add,FF]
 refine wst hsn 13 (some 28) (.fieldAddr 55 (.tmp 27) 0) (some (1,true)) ?_
 simp only[rgC,seval,J04,J02,WKFC,Nat.zero_add,FF]
 refine wst hsn 14 (some 29) (.load 9 (.tmp 28)) (some (1,true)) ?_
 simp only[rgC,seval,J04,J02,WKFC,rgL,FF]
 refine wst hsn 15 (some 30) (.binOp .eql 9 (.tmp 29) (.const (Value.string { data:=#[108,101,110,116] })) 9) (some (1,true)) ?_
 simp only[rgC,seval,J04,J02,WKFC,rgB,FF]
 refine wst hsn 16 (some 31) (.pick (.tmp 16) (.tmp 30) (.const (Value.bool false))) none ?_
 simp only[rgC,seval,J04,J02,WKFC,FF]
 refine wst hsn 17 (some 32) (.move (.tmp 31)) none ?_
 simp only[rgC,seval,J04,J02,WKFC,FF]
 refine wst hsn 18 (some 33) (.fieldAddr 27 (.tmp 2) 3) (some (17,true)) ?_
 simp only[rgC,seval,J04,J02,WKFC,Nat.zero_add,FF]
 refine wst hsn 19 (some 34) (.load 24 (.tmp 33)) (some (17,true)) ?_
 simp only[rgC,seval,J04,J02,WKFC,rgL,FF]
 refine wst hsn 20 (some 35) (.fieldAddr 27 (.tmp 3) 3) (some (17,true)) ?_
 simp only[rgC,seval,J04,J02,WKFC,Nat.zero_add,FF]
 refine wst hsn 21 (some 36) (.load 24 (.tmp 35)) (some (17,true)) ?_
 simp only[rgC,seval,J04,J02,WKFC,rgL,FF]
 refine wst hsn 22 (some 37) (.call { callee:=.builtin .len,args:=#[.tmp 36],argTypes:=#[24] }) (some (17,true)) ?_
 simp only[rgC,seval,J04,J02,WKFC,rgK,FF]
 refine wst hsn 23 (some 38) (.binOp .add 3 (.tmp 37) (.const (Value.int IntKind.i64 1)) 3) (some (17,true)) ?_
 simp only[rgC,seval,J04,J02,WKFC,rgB,FF]
 refine wst hsn 24 (some 39) (.slice 24 (.tmp 34) none (some (.tmp 38)) none) (some (17,true)) ?_
 simp only[rgC,seval,J04,J02,WKFC,rgL,FF]
 refine wst hsn 25 (some 40) (.fieldAddr 27 (.tmp 3) 3) (some (17,true)) ?_
 simp only[rgC,seval,J04,J02,WKFC,Nat.zero_add,FF]
 refine wst hsn 26 (some 41) (.load 24 (.tmp 40)) (some (17,true)) ?_
 simp only[rgC,seval,J04,J02,WKFC,rgL,FF]
 refine wst hsn 27 (some 42) (.call { callee:=.builtin .len,args:=#[.tmp 41],argTypes:=#[24] }) (some (17,true)) ?_
 simp only[rgC,seval,J04,J02,WKFC,rgK,FF]
 refine wst hsn 28 (some 43) (.indexAddr 24 (.tmp 39) (.tmp 42)) (some (17,true)) ?_
 simp only[rgC,seval,J04,J02,WKFC,Nat.zero_add,FF]
 refine wst hsn 29 (some 44) (.load 9 (.tmp 43)) (some (17,true)) ?_
 simp only[rgC,seval,J04,J02,WKFC,rgL,FF]
 refine wst hsn 30 (some 45) (.binOp .eql 9 (.tmp 44) (.const (Value.string { data:=#[108,101,110,116] })) 9) (some (17,true)) ?_
 simp only[rgC,seval,J04,J02,WKFC,rgB,FF]
 refine wst hsn 31 (some 46) (.pick (.tmp 32) (.tmp 45) (.const (Value.bool false))) none ?_
 simp only[rgC,seval,J04,J02,WKFC,FF]
 refine wst hsn 32 (some 47) (.move (.tmp 46)) none ?_
 simp only[rgC,seval,J04,J02,WKFC,FF]
 refine wst hsn 33 (some 48) (.fieldAddr 27 (.tmp 2) 4) (some (32,true)) ?_
 simp only[rgC,seval,J04,J02,WKFC,Nat.zero_add,FF]
 refine wst hsn 34 (some 49) (.load 24 (.tmp 48)) (some (32,true)) ?_
 simp only[rgC,seval,J04,J02,WKFC,rgL,FF]
 refine wst hsn 35 (some 50) (.fieldAddr 27 (.tmp 3) 4) (some (32,true)) ?_
 simp only[rgC,seval,J04,J02,WKFC,Nat.zero_add,FF]
 refine wst hsn 36 (some 51) (.load 24 (.tmp 50)) (some (32,true)) ?_
 simp only[rgC,seval,J04,J02,WKFC,rgL,FF]
 refine wst hsn 37 (some 52) (.call { callee:=.builtin .len,args:=#[.tmp 51],argTypes:=#[24] }) (some (32,true)) ?_
 simp only[rgC,seval,J04,J02,WKFC,rgK,FF]
 refine wst hsn 38 (some 53) (.binOp .add 3 (.tmp 52) (.const (Value.int IntKind.i64 1)) 3) (some (32,true)) ?_
 simp only[rgC,seval,J04,J02,WKFC,rgB,FF]
 refine wst hsn 39 (some 54) (.slice 24 (.tmp 49) none (some (.tmp 53)) none) (some (32,true)) ?_
 simp only[rgC,seval,J04,J02,WKFC,rgL,FF]
 refine wst hsn 40 (some 55) (.fieldAddr 27 (.tmp 3) 4) (some (32,true)) ?_
 simp only[rgC,seval,J04,J02,WKFC,Nat.zero_add,FF]
 refine wst hsn 41 (some 56) (.load 24 (.tmp 55)) (some (32,true)) ?_
 simp only[rgC,seval,J04,J02,WKFC,rgL,FF]
 refine wst hsn 42 (some 57) (.call { callee:=.builtin .len,args:=#[.tmp 56],argTypes:=#[24] }) (some (32,true)) ?_
 simp only[rgC,seval,J04,J02,WKFC,rgK,FF]
 refine wst hsn 43 (some 58) (.indexAddr 24 (.tmp 54) (.tmp 57)) (some (32,true)) ?_
 simp only[rgC,seval,J04,J02,WKFC,Nat.zero_add,FF]
 refine wst hsn 44 (some 59) (.load 9 (.tmp 58)) (some (32,true)) ?_
 simp only[rgC,seval,J04,J02,WKFC,rgL,FF]
 refine wst hsn 45 (some 60) (.binOp .eql 9 (.tmp 59) (.const (Value.string { data:=#[108,101,110,116] })) 9) (some (32,true)) ?_
 simp only[rgC,seval,J04,J02,WKFC,rgB,FF]
 refine wst hsn 46 (some 61) (.pick (.tmp 47) (.tmp 60) (.const (Value.bool false))) none ?_
 simp only[rgC,seval,J04,J02,WKFC,FF]
 refine wst hsn 47 (some 5) (.assign (.tmp 61)) none ?_
 simp only[rgC,seval,J04,J02,WKFC,FF]
 refine WKF.done (i:=48) (by kernel_rfl) ?_
 clear FF
 simp only[evC,seval,↓evP]
 refine WK.loop (fun i s'=>s'.T.get 2=.pointer (some ⟨h.next,0,none⟩)∧s'.T.get 3=.pointer (some ⟨h.next+1,0,none⟩)∧s'.T.get 5=.bool true∧s'.T.get 6=iv i∧i≤s.queues.length∧s'.h.next=G.next∧s'.h.floor=G.floor∧(∀ i,i≠o 2→s'.h.get i=G.get i)∧∃ CS,s'.h.get (o 2)=.row CS 55 false false∧CS.length=(s.queues.length+3)*2) s.queues.length (by omega) ?_ ?_
 ·exact⟨by simp only[evC,↓reduceIte,Nat.reduceEqDiff,reduceCtorEq,↓evP,rpC,Nat.reduceAdd,Nat.reduceLT],by simp only[evC,↓reduceIte,Nat.reduceEqDiff,reduceCtorEq,↓evP,rpC,Nat.reduceAdd,Nat.reduceLT],by simp only[evC,↓reduceIte,Nat.reduceEqDiff,reduceCtorEq,↓evP,rpC,Nat.reduceAdd,Nat.reduceLT],by simp only[evC,↓reduceIte,Nat.reduceEqDiff,reduceCtorEq,↓evP,rpC,Nat.reduceAdd,Nat.reduceLT];rfl,by omega,rfl,rfl,fun _ _=>rfl,_,L2.g,L2.size⟩
 rintro i ⟨T1,G1⟩ hi ⟨t2,t3,t5,t6,hil,n1,f1,o1,CS,gC,lC⟩
 simp only at t2 t3 t5 t6 n1 f1 o1 gC
 have gA1:G1.get h.next=G.get h.next:=o1 _ (by omega)
 by_cases hlt:i<s.queues.length
 ·have c1:decide ((i:Int)<(s.queues.length:Int))=true:=by simp;omega
  have hix:=idx0 (id:=o 2) (n:=s.queues.length) (c:=s.queues.length+3) (i:=i) Tryz.underlying23 sz57 hlt
  obtain⟨CS',hst,hl'⟩:=Jot (off:=i*2) (v:=.agg #[.string J9F,.bool false]) sz57 rfl rfl gC (by omega) (by omega)
  have w2:IntKind.i64.wrap ((i:Int)+1)=((i+1:Nat):Int):=J0s (by omega) (by omega)
  simp only[evC,seval,↓evP,Nat.zero_add,t2,t3,t5,t6,J0B,J0S,gA1,x2,lenM2,c1,Joh,hix,hst,w2]
  exact⟨hlt,by omega,n1,f1,fun j hj=>by rw[J05 (by omega) (Ne.symm hj)];exact o1 j hj,CS',J0b rfl (by omega),by omega⟩
 have c1:decide ((i:Int)<(s.queues.length:Int))=false:=by simp;omega
 simp only[evC,seval,↓evP,Nat.zero_add,t2,t3,t5,t6,J0B,J0S,gA1,x2,lenM2,c1]
 clear hi hil hlt c1 gC lC
 have L3:=L3.mono (o1 (o 3) (by omega))
 rw[← gA1] at x3
 refine WK.loop (fun i s'=>s'.T.get 2=.pointer (some ⟨h.next,0,none⟩)∧s'.T.get 3=.pointer (some ⟨h.next+1,0,none⟩)∧s'.T.get 5=.bool true∧s'.T.get 7=iv i∧i≤s.vars.length∧s'.h.next=G1.next∧s'.h.floor=G1.floor∧(∀ i,i≠o 3→s'.h.get i=G1.get i)∧∃ CS,s'.h.get (o 3)=.row CS 9 false false∧CS.length=(s.vars.length+3)*1) s.vars.length (by omega) ?_ ?_
 ·exact⟨by simp only[evC,↓reduceIte,Nat.reduceEqDiff,reduceCtorEq,↓evP,rpC,Nat.reduceAdd,Nat.reduceLT,t2,t3,t5],by simp only[evC,↓reduceIte,Nat.reduceEqDiff,reduceCtorEq,↓evP,rpC,Nat.reduceAdd,Nat.reduceLT,t2,t3,t5],by simp only[evC,↓reduceIte,Nat.reduceEqDiff,reduceCtorEq,↓evP,rpC,Nat.reduceAdd,Nat.reduceLT,t2,t3,t5],by simp only[evC,↓reduceIte,Nat.reduceEqDiff,reduceCtorEq,↓evP,rpC,Nat.reduceAdd,Nat.reduceLT];rfl,by omega,rfl,rfl,fun _ _=>rfl,_,L3.g,L3.size⟩
 rintro i ⟨T2,G2⟩ hi ⟨t2,t3,t5,t7,hil,n2,f2,o2,CS,gC,lC⟩
 simp only at t2 t3 t5 t7 n2 f2 o2 gC
 have gA2:G2.get h.next=G1.get h.next:=o2 _ (by omega)
 by_cases hlt:i<s.vars.length
 ·have c1:decide ((i:Int)<(s.vars.length:Int))=true:=by simp;omega
  have hix:=idx0 (id:=o 3) (n:=s.vars.length) (c:=s.vars.length+3) (i:=i) Tryz.underlying24 sz9 hlt
  obtain⟨CS',hst,hl'⟩:=Jot (off:=i*1) (v:=.string J9F) sz9 rfl rfl gC (by omega) (by omega)
  have w2:IntKind.i64.wrap ((i:Int)+1)=((i+1:Nat):Int):=J0s (by omega) (by omega)
  simp only[evC,seval,↓evP,Nat.zero_add,t2,t3,t5,t7,J1A,J0Y,gA2,x3,lenM3,c1,hix,hst,w2]
  exact⟨hlt,by omega,n2,f2,fun j hj=>by rw[J05 (by omega) (Ne.symm hj)];exact o2 j hj,CS',J0b rfl (by omega),by omega⟩
 have c1:decide ((i:Int)<(s.vars.length:Int))=false:=by simp;omega
 simp only[evC,seval,↓evP,Nat.zero_add,t2,t3,t5,t7,J1A,J0Y,gA2,x3,lenM3,c1]
 clear hi hil hlt c1 gC lC
 have L4:=L4.mono ((o2 (o 4) (by omega)).trans (o1 (o 4) (by omega)))
 rw[← gA1,← gA2] at x4
 refine WK.loop (fun i s'=>s'.T.get 2=.pointer (some ⟨h.next,0,none⟩)∧s'.T.get 3=.pointer (some ⟨h.next+1,0,none⟩)∧s'.T.get 5=.bool true∧s'.T.get 8=iv i∧i≤s.tags.length∧s'.h.next=G2.next∧s'.h.floor=G2.floor∧(∀ i,i≠o 4→s'.h.get i=G2.get i)∧∃ CS,s'.h.get (o 4)=.row CS 9 false false∧CS.length=(s.tags.length+3)*1) s.tags.length (by omega) ?_ ?_
 ·exact⟨by simp only[evC,↓reduceIte,Nat.reduceEqDiff,reduceCtorEq,↓evP,rpC,Nat.reduceAdd,Nat.reduceLT,t2,t3,t5],by simp only[evC,↓reduceIte,Nat.reduceEqDiff,reduceCtorEq,↓evP,rpC,Nat.reduceAdd,Nat.reduceLT,t2,t3,t5],by simp only[evC,↓reduceIte,Nat.reduceEqDiff,reduceCtorEq,↓evP,rpC,Nat.reduceAdd,Nat.reduceLT,t2,t3,t5],by simp only[evC,↓reduceIte,Nat.reduceEqDiff,reduceCtorEq,↓evP,rpC,Nat.reduceAdd,Nat.reduceLT];rfl,by omega,rfl,rfl,fun _ _=>rfl,_,L4.g,L4.size⟩
 rintro i ⟨T3,G3⟩ hi ⟨t2,t3,t5,t8,hil,n3,f3,o3,CS,gC,lC⟩
 simp only at t2 t3 t5 t8 n3 f3 o3 gC
 have gA3:G3.get h.next=G2.get h.next:=o3 _ (by omega)
 by_cases hlt:i<s.tags.length
 ·have c1:decide ((i:Int)<(s.tags.length:Int))=true:=by simp;omega
  have hix:=idx0 (id:=o 4) (n:=s.tags.length) (c:=s.tags.length+3) (i:=i) Tryz.underlying24 sz9 hlt
  obtain⟨CS',hst,hl'⟩:=Jot (off:=i*1) (v:=.string J9F) sz9 rfl rfl gC (by omega) (by omega)
  have w2:IntKind.i64.wrap ((i:Int)+1)=((i+1:Nat):Int):=J0s (by omega) (by omega)
  simp only[evC,seval,↓evP,Nat.zero_add,t2,t3,t5,t8,J1B,J0Y,gA3,x4,lenM4,c1,hix,hst,w2]
  exact⟨hlt,by omega,n3,f3,fun j hj=>by rw[J05 (by omega) (Ne.symm hj)];exact o3 j hj,CS',J0b rfl (by omega),by omega⟩
 have c1:decide ((i:Int)<(s.tags.length:Int))=false:=by simp;omega
 simp only[evC,seval,↓evP,Nat.zero_add,t2,t3,t5,t8,J1B,J0Y,gA3,x4,lenM4,c1]
 clear hi hil hlt c1 gC lC
 have oz:∀ i,i≠o 2→i≠o 3→i≠o 4→G3.get i=G.get i:=fun i e1 e2 e3=>by rw[o3 i e3,o2 i e2,o1 i e1]
 have z0:∀ i,i<h0.next→G3.get i=h0.get i:=fun i hi=>by rw[oz i (by omega) (by omega) (by omega),gO i (by omega),h0g i hi]
 have gAz:G3.get h.next=G.get h.next:=oz _ (by omega) (by omega) (by omega)
 have gBz:G3.get (h.next+1)=G.get (h.next+1):=oz _ (by omega) (by omega) (by omega)
 have L1z:LentAt G3 (o 1) s.rows L:=⟨by rw[oz _ (by omega) (by omega) (by omega)];exact L1.g,L1.len,L1.own,L1.marks⟩
 have hvz:J0l G3 vr s.rows:=p1.1.mono (by omega) z0
 obtain⟨h4,hk4,n4,f4,o4⟩:=JhR (n:=n) L1z (by omega) (by omega) hvz hl (by omega)
 simp only[evC,seval,↓evP,Nat.zero_add,t2,t3,t5,J0y,J0F,gAz,gBz,x1,y1,hk4]
 have gA4:h4.get h.next=G.get h.next:=(o4 _ (by omega)).trans gAz
 have gB4:h4.get (h.next+1)=G.get (h.next+1):=(o4 _ (by omega)).trans gBz
 have L5z:=L5.mono ((o4 (o 5) (by omega)).trans (oz (o 5) (by omega) (by omega) (by omega)))
 have p5z:J1S lo h4 vu s.rules:=J1S.mono p5 (by omega) fun i _ hi=>(o4 i (by omega)).trans (z0 i hi)
 obtain⟨h5,hk5,n5,f5,o5⟩:=Jo0 (n:=n) L5z (by omega) (by omega) p5z hl2.1 (by omega)
 simp only[evC,seval,↓evP,Nat.zero_add,t2,t3,t5,J36,J0n,gA4,gB4,x5,y5,hk5]
 have gA5:h5.get h.next=G.get h.next:=(o5 _ (by omega)).trans gA4
 have gB5:h5.get (h.next+1)=G.get (h.next+1):=(o5 _ (by omega)).trans gB4
 have L6z:=L6.mono ((o5 (o 6) (by omega)).trans ((o4 (o 6) (by omega)).trans (oz (o 6) (by omega) (by omega) (by omega))))
 have p6z:J1S lo h5 vo s.on:=J1S.mono p6 (by omega) fun i _ hi=>(o5 i (by omega)).trans ((o4 i (by omega)).trans (z0 i hi))
 obtain⟨h6,hk6,n6,f6,o6⟩:=Jo0 (n:=n) L6z (by omega) (by omega) p6z hl2.2 (by omega)
 simp only[evC,seval,↓evP,Nat.zero_add,hr,t2,t3,t5,J1T,J0n,gA5,gB5,x6,y6,hk6]
 exact⟨by omega,by omega,fun i hi hj=>by rw[o6 i (hj 6 (by omega) (by omega)),o5 i (hj 5 (by omega) (by omega)),o4 i (hj 1 (by omega) (by omega)),oz i (hj 2 (by omega) (by omega)) (hj 3 (by omega) (by omega)) (hj 4 (by omega) (by omega)),gO i (by omega)]⟩
theorem Jre {nm:ByteArray} {s:StN} {pv v:Value} {lo b:Nat} {o:Nat→Nat} {h0:SHeap} (hL:LentPol h b v nm s o) (hp:J3x lo h0 pv nm s) (hb:h0.next≤b) (h0g:∀ i,i<h0.next→h.get i=h0.get i) (hf:h.floor≤b) (hs:JdC s) (hl:s.rows.length<900000000) (hl2:s.rules.length<900000000∧s.on.length<900000000) (hn:Jbg s+90<n) :
  ∃ h',J0T n 11 [v,pv] h=some (.bool true,h')∧(h.next≤h'.next∧h'.floor=h.floor∧∀ i,i<h.next→(∀ j,1≤j→j≤6→i≠o j)→h'.get i=h.get i):=by
 obtain⟨n,rfl⟩:∃ j,n=j+1:=⟨n-1,by omega⟩
 exact k_wr (J13 ⟨rfl,rfl,rfl⟩) (JoF hL hp hb h0g hf hs hl hl2 (by omega) (by omega))
end
end Go.Proofs.YtipekdhneagdbaaGreatDoor
