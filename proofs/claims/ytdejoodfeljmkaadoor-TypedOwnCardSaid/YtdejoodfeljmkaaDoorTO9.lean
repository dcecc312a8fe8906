/- Part 9 of what the claim leans on: 30 texts laid one behind another. -/
import Derived.Test.YtdejoodfeljmkaaDoorTO8
namespace Go.Proofs.YtdejoodfeljmkaaDoor
open Go Go.Sx
set_option maxRecDepth 100000
set_option linter.unusedSimpArgs false
set_option linter.unusedVariables false
set_option maxHeartbeats 64000000
noncomputable def D5:Code:=rt (rt (rt (rt (Tryd.f31.body.getD .skip))))
noncomputable def D8:Code:=rt D5
noncomputable def sE:Code:=rt (rt (rt D8))
noncomputable def En:Code:=rt sE
noncomputable def pM:Array Oper:=DX Tryd.f31 5
def Nh:List (Bool × Bool × List Operand):=[AR,AR,AR,AR,AH [.tmp 29],AH [.tmp 29],AH [.tmp 29],AH [.tmp 29],AL,AL,AL,AL,AH [.tmp 29,.tmp 33,.tmp 30],AL,AL]
theorem vA:DU pM=Nh:=by kernel_rfl
def eB:List (Bool × Bool × List Operand):=[AR,AR,AR,AR,AH [.tmp 58],AH [.tmp 58],AH [.tmp 58],AH [.tmp 58],AH [.tmp 58,.tmp 62],AH [.tmp 58,.tmp 62],AH [.tmp 58,.tmp 62],AH [.tmp 58,.tmp 62],AH [.tmp 58,.tmp 62],AL]
def YP:List (Bool × Bool × List Operand):=[EU,AR,AR,AR,AR,AR,AH [.tmp 80],AH [.tmp 80],AH [.tmp 80],AH [.tmp 80],AH [.tmp 80,.tmp 84],AH [.tmp 80,.tmp 84],AH [.tmp 80,.tmp 84],AH [.tmp 80,.tmp 84],AH [.tmp 80,.tmp 84],AH [.tmp 80],AH [.tmp 80],AL,AL,AL,AL,AL]
def dT:List (Bool × Bool × List Operand):=[EU,AR,AR,AR,AR,AR,AH [.tmp 114],AH [.tmp 114],AH [.tmp 114],AH [.tmp 114],AH [.tmp 114],AL,AL,AL,AL,AL]
def bW:List (Bool × Bool × List Operand):=[EU,AR,AR,AR,AR,AR,AH [.tmp 131],AH [.tmp 131],AH [.tmp 131],AH [.tmp 131],AH [.tmp 131],AL,AL,AL,AL,AL]
theorem rY {h:AA} {id:Nat} {a b c x y z:Value} {ty:TypeId} {g:Bool} (hg:h.get id=.row [x,y,z] ty g false) (hf:h.floor≤id) (ho:[a,b,c].all one=true):A9 Tryd.prog h 99 (qP id 0) (.agg #[a,b,c])=some (h.put id (.row [a,b,c] ty g false)):=by
 have hl:Go.Sx.lay [x,y,z] 0 [a,b,c]=[a,b,c]:=rfl
 have hc:(Value.agg #[a,b,c]).cells=#[a,b,c]:=rfl
 have hsz:(some 3:Option Nat)=some (#[a,b,c]:Array Value).size:=rfl
 simp only[A9,hc,oO,GB,hg]
 rw[if_pos hsz,if_pos (by simp only[List.length_cons,List.length_nil,ho];simp[hf])]
 rfl
theorem pP {b t:Nat} (ht:t≤b) {T:Tr} {d:Nat} {v:Value} (hd:b<d):(T.put (some d) v).get t=T.get t:=Ac (b:=b+1) hd (by omega)
theorem IZ {T:Tr} {v:Value}:T.put none v=T:=rfl
section
variable {call:AN} {N:Nat} {h:AA} {lo m k c e r n:Nat} {nm:ByteArray} {E:List Int} {tag:Nat→Nat} {vq vv vt vu vo:Value} {es:List (Value × Value)} {s:AK}
theorem xY (hsn:CD call) {T:Tr} {at_:Nat} {x:AB} {K:CU} (hp:BQ h lo m k c e r n nm E tag vq vv vt vu vo es s) (hx:s.rows[at_]?=some x)
  (t0:T.get 0=qP m 0) (t7:T.get 7=.pointer (some ⟨r,at_*5,none⟩))
  (hk1:∀ T' H,(F9 s.things x.name).isSome=true→T'.get 6=iv 31→(∀ i,i<h.next→H.get i=h.get i)→h.next≤H.next→H.floor=h.floor→K.ap Tryd.prog call N .ret ⟨T',H⟩)
  (hk2:∀ T' H,F9 s.things x.name=none→(∀ t,t≤8→T'.get t=T.get t)→(∀ i,i<h.next→H.get i=h.get i)→h.next≤H.next→H.floor=h.floor→WK Tryd.prog call N D8 ⟨T',H⟩ K):WK Tryd.prog call N D5 ⟨T,h⟩ K:=by
 show WK _ _ _ (.seq (.seq (.region _ _ true) _) D8) _ _
 rw[ME,ME]
 have c8:=hp.c8
 obtain⟨hlt,l0,l1,l2,l3,l4,lr⟩:=hp.row hx
 have hlook:=mZ (x:=x.name) hp.known
 have hm:=hp.lm.2
 have hkn:=hp.lk.2
 have hr:=hp.pol.lr.2
 have hflo:h.floor≤h.next:=by have:=hp.fl;have:=hp.lm.1;omega
 have n1:(some m != some h.next)=true:=by simp;omega
 have n2:(some r != some h.next)=true:=by simp;omega
 have n3:(some k != some h.next)=true:=by simp;omega
 have hnew:(h.push (.row [iv 0,iv 0,iv 0] 99 false false)).get h.next=.row [iv 0,iv 0,iv 0] 99 false false:=BM
 have hst:=fun a b d=>rY (a:=iv a) (b:=iv b) (c:=iv d) hnew (by exact hflo) rfl
 have hold:∀ o i,i<h.next→((h.push (.row [iv 0,iv 0,iv 0] 99 false false)).put h.next o).get i=h.get i:=fun o i hi=>by rw[AX (by show h.next<h.next+1;omega) (by omega),AQ hi]
 have hfl0:flat (.agg #[iv 0,iv 0,iv 0])=true:=rfl
 have hcl0:=E3 [iv 0,iv 0,iv 0]
 have i1:CV (qP m 8)=some m:=rfl
 have i2:CV (.pointer (some ⟨r,at_*5+1,none⟩))=some r:=rfl
 have i3:CV (.map (some k))=some k:=rfl
 have i4:CV (qP h.next 0)=some h.next:=rfl
 refine WK.flags (ops:=pM) vA ?_
 refine CO.begin ?_
 refine AG hsn 0 (some 27) (.move (.tmp 0)) none ?_
 simp only[rG,seval,AC,AF,AE,t0]
 refine AG hsn 1 (some 28) (.nilCheck (.tmp 27)) none ?_
 simp only[rG,seval,AC,AF,AE]
 refine AG hsn 2 (some 29) (.fieldAddr 69 (.tmp 28) 1) none ?_
 simp only[rG,seval,AC,AF,AE,Nat.zero_add,ZU]
 refine AG hsn 3 (some 30) (.load 66 (.tmp 29)) none ?_
 simp only[rG,seval,AC,AF,AE,CZ,cD,c8]
 refine AG hsn 4 (some 31) (.move (.tmp 7)) none ?_
 simp only[rG,seval,AC,AF,AE,t7]
 refine AG hsn 5 (some 32) (.nilCheck (.tmp 31)) none ?_
 simp only[rG,seval,AC,AF,AE]
 refine AG hsn 6 (some 33) (.fieldAddr 61 (.tmp 32) 1) none ?_
 simp only[rG,seval,AC,AF,AE,MC]
 refine AG hsn 7 (some 34) (.load 9 (.tmp 33)) none ?_
 simp only[rG,seval,AC,AF,AE,CZ,GQ,l1]
 cases hf:F9 s.things x.name with
 | some t=>
  rw[hf] at hlook
  refine AG hsn 8 (some 35) (.lookup 66 (.tmp 30) (.tmp 34) true) none ?_
  simp only[rG,seval,AC,AF,AE,CZ,hlook,i3]
  refine AG hsn 9 (some 26) (.move (.tmp 35)) none ?_
  simp only[rG,seval,AC,AF,AE]
  refine AG hsn 10 (some 36) (.extract (.tmp 26) 0) none ?_
  simp only[rG,seval,AC,AF,AE,List.getElem?_toArray,List.getElem?_cons_zero]
  refine AG hsn 11 (some 37) (.extract (.tmp 26) 1) none ?_
  simp only[rG,seval,AC,AF,AE,List.getElem?_toArray,List.getElem?_cons_succ,List.getElem?_cons_zero]
  refine AG hsn 12 (some 9) (.alloc 99) none ?_
  simp only[rG,seval,AC,AF,AE,XM,SL,hfl0,hcl0]
  refine AG hsn 13 (none) (.store 99 (.tmp 9) (.tmp 36)) none ?_
  simp only[rG,seval,AC,AF,AE,CQ,DI,hst,i4,CQ,List.all_nil]
  refine AG hsn 14 (some 10) (.assign (.tmp 37)) none ?_
  simp only[rG,seval,AC,AF,AE]
  refine CO.done (i:=15) (by kernel_rfl) ?_
  simp only[eE,seval,↓eP,rP]
  exact hk1 _ _ (by rw[hf];rfl) (by simp only[Tr.get_put,if_true]) (hold _) (by show h.next≤h.next+1;omega) rfl
 | none=>
  rw[hf] at hlook
  refine AG hsn 8 (some 35) (.lookup 66 (.tmp 30) (.tmp 34) true) none ?_
  simp only[rG,seval,AC,AF,AE,CZ,hlook,i3]
  refine AG hsn 9 (some 26) (.move (.tmp 35)) none ?_
  simp only[rG,seval,AC,AF,AE]
  refine AG hsn 10 (some 36) (.extract (.tmp 26) 0) none ?_
  simp only[rG,seval,AC,AF,AE,List.getElem?_toArray,List.getElem?_cons_zero]
  refine AG hsn 11 (some 37) (.extract (.tmp 26) 1) none ?_
  simp only[rG,seval,AC,AF,AE,List.getElem?_toArray,List.getElem?_cons_succ,List.getElem?_cons_zero]
  refine AG hsn 12 (some 9) (.alloc 99) none ?_
  simp only[rG,seval,AC,AF,AE,XM,SL,hfl0,hcl0]
  refine AG hsn 13 (none) (.store 99 (.tmp 9) (.tmp 36)) none ?_
  simp only[rG,seval,AC,AF,AE,CQ,DI,hst,i4,CQ,List.all_nil]
  refine AG hsn 14 (some 10) (.assign (.tmp 37)) none ?_
  simp only[rG,seval,AC,AF,AE]
  refine CO.done (i:=15) (by kernel_rfl) ?_
  simp only[eE,seval,↓eP,rP]
  refine hk2 _ _ hf (fun t ht=>?_) (hold _) (by show h.next≤h.next+1;omega) rfl
  simp only[pP ht,IZ,Nat.reduceLT]
noncomputable def fP:Code:=rt En
theorem Ii (hsn:CD call) {T:Tr} {at_:Nat} {x:AB} {K:CU} {kd end_:Int} (hp:BQ h lo m k c e r n nm E tag vq vv vt vu vo es s) (hx:s.rows[at_]?=some x) (hm:RJ es s) (h1:1≤kd) (h4:kd≤4) (hcn:BW s kd<1000)
  (h80:∀ h',call 49 [iv kd] h'=some (iv (JF kd),h')) (hf:F9 s.things x.name=none)
  (t0:T.get 0=qP m 0) (t2:T.get 2=iv end_) (t7:T.get 7=.pointer (some ⟨r,at_*5,none⟩)) (t8:T.get 8=iv kd)
  (hk1:∀ T',(BW s kd:Int)=JF kd→T'.get 6=iv 3→K.ap Tryd.prog call N .ret ⟨T',h⟩)
  (hk2:∀ T' H,(BW s kd:Int)≠JF kd→(∀ t,t≤8→T'.get t=T.get t)→BQ H lo m k c e r n nm E tag vq vv vt vu vo (GA (iv kd) (iv ((BW s kd:Int)+1)) es) { s with rows:=F8 s.rows at_ (BW s kd),things:=s.things++[⟨x.name,kd,(BW s kd:Int),end_⟩] } →
   (∀ i,i<lo∨(i<h.next∧11≤tag i)→H.get i=h.get i)→H.next=h.next→H.floor=h.floor→WK Tryd.prog call N fP ⟨T',H⟩ K):WK Tryd.prog call N D8 ⟨T,h⟩ K:=by
 show WK _ _ _ (.seq _ (.seq _ (.seq _ sE))) _ _
 have c9:=hp.c9
 have hlook:=Gc hp.many hm h1 h4
 have w1:IntKind.i64.wrap ((BW s kd:Int)+1)=(BW s kd:Int)+1:=C7 (by omega) (by omega)
 have hput:=tQ (v:=iv ((BW s kd:Int)+1)) hp.many hm h1 h4 (by have:=hp.fl;have:=hp.lc.1;omega)
 cases d1:((BW s kd:Int)==JF kd) with
 | true=>
  simp only[eE,seval,↓eP,rP,t0,t8,jC,qW,c9,hlook,h80,d1]
  exact hk1 _ (by simpa using d1) (by simp only[Tr.get_put,if_true])
 | false=>
  simp only[eE,seval,↓eP,rP,t0,t8,jC,qW,c9,hlook,h80,d1,w1,hput]
  have hp1:=hp.putC (GA (iv kd) (iv ((BW s kd:Int)+1)) es)
  have hlo1:∀ i,i<lo∨(i<h.next∧11≤tag i)→(h.put c (.map (GA (iv kd) (iv ((BW s kd:Int)+1)) es))).get i=h.get i:=fun i hi=>AX hp.lc.2 (OU hp.lc.1 (by rw[hp.tc];decide) hi)
  have hnx1:(h.put c (.map (GA (iv kd) (iv ((BW s kd:Int)+1)) es))).next=h.next:=rfl
  have hfl1:(h.put c (.map (GA (iv kd) (iv ((BW s kd:Int)+1)) es))).floor=h.floor:=rfl
  generalize h.put c (.map (GA (iv kd) (iv ((BW s kd:Int)+1)) es))=H1 at *
  show WK _ _ _ (.seq (.region _ _ true) (.seq _ fP)) _ _
  rw[ME]
  have b8:=hp1.c8
  obtain⟨hlt,l0,l1,l2,l3,l4,lr⟩:=hp1.row hx
  have hpk:=vX (a:=kd) (b:=(BW s kd:Int)) (c:=end_) hp1.known hf (by have:=hp1.fl;have:=hp1.lk.1;omega)
  refine WK.flags (fs:=eB) (by kernel_rfl) ?_
  unfold eB
  iterate 14
   refine EE hsn ?_
   simp only[rG,seval,AC,AF,AE,CZ,DY,CQ,DI,EB,t0,ZU,cD,b8,t7,MC,GQ,l1,t8,List.map_cons,List.map_nil,bV,t2,Gp,hpk]
  refine D_ ?_
  have hp2:=hp1.putK (s.things++[⟨x.name,kd,(BW s kd:Int),end_⟩])
  have hlo2:∀ i,i<lo∨(i<h.next∧11≤tag i)→(H1.put k (.map ((s.things++[(⟨x.name,kd,(BW s kd:Int),end_⟩:GC)]).map JJ))).get i=h.get i:=fun i hi=>by rw[AX hp1.lk.2 (OU hp1.lk.1 (by rw[hp1.tk];decide) hi)];exact hlo1 i hi
  have hnx2:(H1.put k (.map ((s.things++[(⟨x.name,kd,(BW s kd:Int),end_⟩:GC)]).map JJ))).next=h.next:=hnx1
  have hfl2:(H1.put k (.map ((s.things++[(⟨x.name,kd,(BW s kd:Int),end_⟩:GC)]).map JJ))).floor=h.floor:=hfl1
  generalize H1.put k (.map ((s.things++[(⟨x.name,kd,(BW s kd:Int),end_⟩:GC)]).map JJ))=H2 at *
  have hrl:=IW s.rows
  have hlen:=hp.pol.len
  have hst:=HD (off:=at_*5+3) CP (v:=iv (BW s kd:Int)) rfl rfl hp2.pol.rows (by rw[hrl];omega) (by have:=hp2.fl;have:=hp2.pol.lr.1;omega)
  rw[W8 hx] at hst
  have hp3:=hp2.putR (l:=F8 s.rows at_ (BW s kd:Int)) QB
  simp only[eE,seval,↓eP,rP,t7,hst]
  refine hk2 _ _ (by simpa using d1) (fun t ht=>?_) hp3 (fun i hi=>?_) hnx2 hfl2
  ·simp only[pP ht,IZ,Nat.reduceLT]
  ·rw[AX hp2.pol.lr.2 (OU hp2.pol.lr.1 (by rw[hp2.pol.tr];decide) hi)]
   exact hlo2 i hi
def dJ (kd:Int) (at_:Nat) (x:AB) (s:AK):AK:=
 { s with
   queues:=if kd=1 then s.queues++[(x.name,x.kind==3)] else s.queues
   vars:=if kd=2 then s.vars++[x.name] else s.vars
   tags:=if kd=3 then s.tags++[x.name] else s.tags
   rules:=if kd=4 then s.rules++[(at_:Int)+1] else s.rules
   on:=if kd=1 then s.on++[-1] else s.on }
theorem Be (hsn:CD call) {T:Tr} {at_:Nat} {x:AB} {K:CU} {kd:Int} (hp:BQ h lo m k c e r n nm E tag vq vv vt vu vo es s) (hx:s.rows[at_]?=some x) (h1:1≤kd) (h4:kd≤4)
  (hb:s.queues.length<1000∧s.vars.length<1000∧s.tags.length<1000∧s.rules.length<1000∧s.on.length<1000) (hn:n<30000000000000)
  (t0:T.get 0=qP m 0) (t1:T.get 1=iv at_) (t7:T.get 7=.pointer (some ⟨r,at_*5,none⟩)) (t8:T.get 8=iv kd)
  (hk:∀ T' H tag' vq' vv' vt' vu' vo',T'.get 6=iv 0→BQ H lo m k c e r n nm E tag' vq' vv' vt' vu' vo' es (dJ kd at_ x s)→(∀ i,i<h.next→tag' i=tag i)→(∀ i,i<lo∨(i<h.next∧11≤tag i)→H.get i=h.get i)→h.next≤H.next→H.floor=h.floor→K.ap Tryd.prog call N .ret ⟨T',H⟩):WK Tryd.prog call N fP ⟨T,h⟩ K:=by
 show WK _ _ _ (.seq (.seq _ (.block _ _)) (.seq _ _)) _ _
 have hm:=hp.lm.2
 have hlm:=hp.lm.1
 have hflm:h.floor≤m:=by have:=hp.fl;omega
 obtain⟨hlt,l0,l1,l2,l3,l4,lr⟩:=hp.row hx
 have hk4:kd=1∨kd=2∨kd=3∨kd=4:=by omega
 have nl:∀ (o o':BC) i,i<lo∨(i<h.next∧11≤tag i)→∀ hh:AA,(∀ i,i<h.next→i<lo∨11≤tag i→hh.get i=h.get i)→hh.next=h.next+2→(hh.put m o).get i=h.get i:=fun o o' i hi hh h1 h2=>by rw[AX (by omega) (OU hlm (by rw[hp.tm];decide) hi),h1 i (by omega) (by omega)]
 have tg:∀ j i,i<h.next→(fun i=>if i=h.next+1 then j else tag i) i=tag i:=fun j i hi=>if_neg (by omega)
 rcases hk4 with rfl | rfl | rfl | rfl
 ·obtain⟨v',h1',a1,a2,a3,a4,a5,a6,a7,hp2⟩:=hp.appQ (x.name,x.kind==3) (by omega)
  have c2:=hp.c2
  have hfx:h1'.fl h.floor=h1':=by rw[← a5];exact HE h1'
  have hst:A9 Tryd.prog h1' 30 (qP m 2) v'=_:=HD ZH a4 a3 (a2.trans hp.cell) (by simp only[List.length_cons,List.length_nil];omega) (by rw[a5];exact hflm)
  have lo2:=nl (.row [.string nm,qS r n AP,v',vv,vt,vu,vo,iv s.miss,.map (some k),.map (some c)] 69 false false) .dead
  simp only[List.set_cons_succ,List.set_cons_zero] at hst
  simp only[eE,seval,↓eP,rP,t8]
  show WK _ _ _ (.region _ _ true) _ _
  refine WK.flags (fs:=YP) (by kernel_rfl) ?_
  unfold YP
  iterate 22
   refine EE hsn ?_
   simp only[rG,seval,AC,AF,AE,CZ,DY,CQ,DI,EB,t0,IX,GM,GG,c2,t7,MC,GQ,l1,CW,AV,l0,List.map_cons,List.map_nil,x_,Bv,OA,a1,hfx,IV,hst]
  refine D_ ?_
  have lo3:=fun i hi=>lo2 i hi h1' a7 a6
  have hfl3:(h1'.put m (.row [.string nm,qS r n AP,v',vv,vt,vu,vo,iv s.miss,.map (some k),.map (some c)] 69 false false)).floor=h.floor:=a5
  have hnx3:(h1'.put m (.row [.string nm,qS r n AP,v',vv,vt,vu,vo,iv s.miss,.map (some k),.map (some c)] 69 false false)).next=h.next+2:=a6
  generalize h1'.put m (.row [.string nm,qS r n AP,v',vv,vt,vu,vo,iv s.miss,.map (some k),.map (some c)] 69 false false)=H2 at *
  obtain⟨v2,h2',b1,b2,b3,b4,b5,b6,b7,hp3⟩:=hp2.appO (-1) (by simp only;omega)
  have d6:=hp2.c6
  have hst2:A9 Tryd.prog h2' 27 (qP m 6) v2=_:=HD LU b4 b3 (b2.trans hp2.cell) (by simp only[List.length_cons,List.length_nil];omega) (by rw[b5,hfl3];exact hflm)
  simp only[List.set_cons_succ,List.set_cons_zero] at hst2
  simp only[eE,seval,↓eP,rP,t0,IX,K4,DG,d6,N5,b1,hst2]
  refine hk _ _ _ _ _ _ _ _ (by simp only[Tr.get_put,if_true]) hp3 (fun i hi=>?_) (fun i hi=>?_) ?_ (b5.trans hfl3)
  ·show (if i=H2.next+1 then 6 else if i=h.next+1 then 2 else tag i)=tag i
   rw[if_neg (by omega),if_neg (by omega)]
  ·rw[AX (by omega) (OU hlm (by rw[hp.tm];decide) hi),b7 i (by omega) (by show i<lo∨11≤(if i=h.next+1 then 2 else tag i);rw[if_neg (by omega)];omega),lo3 i hi]
  ·show h.next≤h2'.next;omega
 ·obtain⟨v',h1',a1,a2,a3,a4,a5,a6,a7,hp2⟩:=hp.appV x.name (by omega)
  have c3:=hp.c3
  have hfx:h1'.fl h.floor=h1':=by rw[← a5];exact HE h1'
  have hst:A9 Tryd.prog h1' 31 (qP m 3) v'=_:=HD Q6 a4 a3 (a2.trans hp.cell) (by simp only[List.length_cons,List.length_nil];omega) (by rw[a5];exact hflm)
  simp only[List.set_cons_succ,List.set_cons_zero] at hst
  simp only[eE,seval,↓eP,rP,t8,Int.reduceBEq]
  show WK _ _ _ (.region _ _ true) _ _
  refine WK.flags (fs:=dT) (by kernel_rfl) ?_
  unfold dT
  iterate 16
   refine EE hsn ?_
   simp only[rG,seval,AC,AF,AE,CZ,DY,CQ,DI,EB,t0,IX,K7,KF,c3,t7,MC,GQ,l1,List.map_cons,List.map_nil,pJ,OA,a1,hfx,IV,hst]
  refine D_ ?_
  simp only[eE,seval,↓eP,rP]
  refine hk _ _ _ _ _ _ _ _ (by simp only[Tr.get_put,if_true]) hp2 (tg _) (fun i hi=>nl _ .dead i hi h1' a7 a6) ?_ a5
  show h.next≤h1'.next;omega
 ·obtain⟨v',h1',a1,a2,a3,a4,a5,a6,a7,hp2⟩:=hp.appT x.name (by omega)
  have c4:=hp.c4
  have hfx:h1'.fl h.floor=h1':=by rw[← a5];exact HE h1'
  have hst:A9 Tryd.prog h1' 31 (qP m 4) v'=_:=HD Q6 a4 a3 (a2.trans hp.cell) (by simp only[List.length_cons,List.length_nil];omega) (by rw[a5];exact hflm)
  simp only[List.set_cons_succ,List.set_cons_zero] at hst
  simp only[eE,seval,↓eP,rP,t8,Int.reduceBEq]
  show WK _ _ _ (.region _ _ true) _ _
  refine WK.flags (fs:=bW) (by kernel_rfl) ?_
  unfold bW
  iterate 16
   refine EE hsn ?_
   simp only[rG,seval,AC,AF,AE,CZ,DY,CQ,DI,EB,t0,IX,KW,KF,c4,t7,MC,GQ,l1,List.map_cons,List.map_nil,pJ,OA,a1,hfx,IV,hst]
  refine D_ ?_
  simp only[eE,seval,↓eP,rP]
  refine hk _ _ _ _ _ _ _ _ (by simp only[Tr.get_put,if_true]) hp2 (tg _) (fun i hi=>nl _ .dead i hi h1' a7 a6) ?_ a5
  show h.next≤h1'.next;omega
 ·obtain⟨v',h1',a1,a2,a3,a4,a5,a6,a7,hp2⟩:=hp.appU ((at_:Int)+1) (by omega)
  have c5:=hp.c5
  have w1:IntKind.i64.wrap ((at_:Int)+1)=(at_:Int)+1:=C7 (by omega) (by omega)
  have hst:A9 Tryd.prog h1' 27 (qP m 5) v'=_:=HD LU a4 a3 (a2.trans hp.cell) (by simp only[List.length_cons,List.length_nil];omega) (by rw[a5];exact hflm)
  simp only[List.set_cons_succ,List.set_cons_zero] at hst
  simp only[eE,seval,↓eP,rP,t0,t1,t8,Int.reduceBEq,IX,KY,DG,c5,w1,N5,a1,hst]
  refine hk _ _ _ _ _ _ _ _ (by simp only[Tr.get_put,if_true]) hp2 (tg _) (fun i hi=>nl _ .dead i hi h1' a7 a6) ?_ a5
  show h.next≤h1'.next;omega
end
structure MN (s:AK):Prop where
 q:s.queues.length≤16
 v:s.vars.length≤16
 t:s.tags.length≤4
 u:s.rules.length≤64
 o:s.on.length=s.queues.length
 th:∀ t∈s.things,1≤t.kind∧t.kind≤4∧0≤t.num∧t.num<BW s t.kind∧0≤t.known
theorem RP (k:Int):0≤BS k∧BS k≤4:=by unfold BS;(repeat' split) <;> omega
theorem sG (k:Int):0≤EK k∧EK k≤4:=by unfold EK;(repeat' split) <;> omega
theorem J9 {l:List AB} {k:Nat} {n:Int} {x:AB} (hx:l[k]?=some x):(F8 l k n)[k]?=some { x with n:=n }:=by
 unfold F8
 rw[hx]
 simp[(List.getElem?_eq_some_iff.1 hx).1]
theorem Hp {s:AK} (hw:MN s) (k:Int):BW s k≤64:=by
 have:=hw.q;have:=hw.v;have:=hw.t;have:=hw.u
 unfold BW
 (repeat' split) <;> omega
section
variable {call:AN} {N:Nat} {h:AA} {lo m k c e r n:Nat} {nm:ByteArray} {E:List Int} {F:List Nat} {tag:Nat→Nat} {vq vv vt vu vo:Value} {es:List (Value × Value)} {s:AK}
def ER (h:AA) (lo m k c e r n:Nat) (nm:ByteArray) (E:List Int) (F:List Nat) (s:AK):Prop:=∃ tag vq vv vt vu vo es,BQ h lo m k c e r n nm E tag vq vv vt vu vo es s∧RJ es s∧MN s∧∀ i∈F,i<h.next∧11≤tag i
def FP (h H:AA) (lo:Nat) (F:List Nat):Prop:=(∀ i,i<lo∨i∈F→H.get i=h.get i)∧h.next≤H.next∧H.floor=h.floor
theorem Gi {s s':AK} {kd:Int} {es:List (Value × Value)} (hm:RJ es s) (h1:BW s' kd=BW s kd+1) (h2:∀ k,1≤k→k≤4→k≠kd→BW s' k=BW s k):RJ (GA (iv kd) (iv ((BW s kd:Int)+1)) es) s':=by
 refine⟨jU _ _ _ hm.1,fun k k1 k4=>?_⟩
 rw[l_ _ _ _ _ hm.1]
 by_cases hk:k=kd
 ·subst hk
  rw[if_pos rfl,h1,if_neg (by omega)]
  rfl
 ·rw[if_neg hk,h2 k k1 k4 hk]
  exact hm.2 k k1 k4
theorem Z_ {s:AK} {at_:Nat} {end_:Int} {x:AB} {k:Int} (hk:1≤k∧k≤4):BW (E5 at_ end_ x s) k=BW s k+(if k=BS x.kind then 1 else 0):=by
 have hd:=RP x.kind
 generalize hkd:BS x.kind=kd at *
 unfold BW E5
 rw[hkd]
 obtain rfl | rfl | rfl | rfl:k=1∨k=2∨k=3∨k=4:=by omega
 all_goals
  by_cases e:kd=1
  ·subst e;simp
  by_cases e2:kd=2
  ·subst e2;simp
  by_cases e3:kd=3
  ·subst e3;simp
  by_cases e4:kd=4
  ·subst e4;simp
  simp[e,e2,e3,e4,Ne.symm e,Ne.symm e2,Ne.symm e3,Ne.symm e4]
  try omega
theorem tD {s:AK} {at_:Nat} {end_:Int} {x:AB} (hw:MN s) (hkd:BS x.kind≠0) (hne:(BW s (BS x.kind):Int)≠JF (BS x.kind)) (he:0≤end_):MN (E5 at_ end_ x s):=by
 have hd:=RP x.kind
 have hq:=hw.q;have hv:=hw.v;have ht:=hw.t;have hu:=hw.u;have ho:=hw.o
 have hth:=hw.th
 have hcnt:=fun k (hk:1≤k∧k≤4)=>Z_ (s:=s) (at_:=at_) (end_:=end_) (x:=x) hk
 have key:∀ t∈(E5 at_ end_ x s).things,1≤t.kind∧t.kind≤4∧0≤t.num∧t.num<BW (E5 at_ end_ x s) t.kind∧0≤t.known:=by
  intro t htm
  simp only[E5,List.mem_append,List.mem_cons,List.not_mem_nil,or_false] at htm
  rcases htm with htm | rfl
  ·obtain⟨a1,a2,a3,a4,a5⟩:=hth t htm
   rw[hcnt _ ⟨a1,a2⟩]
   exact⟨a1,a2,a3,by split <;> omega,a5⟩
  ·have hk1:1≤BS x.kind:=by omega
   refine⟨hk1,hd.2,Int.natCast_nonneg _,?_,he⟩
   rw[hcnt _ ⟨hk1,hd.2⟩,if_pos rfl]
   simp only
   omega
 generalize hkd2:BS x.kind=kd at *
 have e:∀ k,k=kd→1≤k→BW s k≠(JF k).toNat:=by
  intro k hk h1 h
  subst hk
  apply hne
  rw[h]
  unfold JF
  (repeat' split) <;> rfl
 constructor
 ·simp only[E5,hkd2]
  split
  ·rename_i h1
   have:=e 1 h1.symm (by omega)
   simp[BW,JF] at this
   simp
   omega
  ·exact hq
 ·simp only[E5,hkd2]
  split
  ·rename_i h1
   have:=e 2 h1.symm (by omega)
   simp[BW,JF] at this
   simp
   omega
  ·exact hv
 ·simp only[E5,hkd2]
  split
  ·rename_i h1
   have:=e 3 h1.symm (by omega)
   simp[BW,JF] at this
   simp
   omega
  ·exact ht
 ·simp only[E5,hkd2]
  split
  ·rename_i h1
   have:=e 4 h1.symm (by omega)
   simp[BW,JF] at this
   simp
   omega
  ·exact hu
 ·simp only[E5,hkd2]
  split
  ·simp[ho]
  ·exact ho
 ·exact key
theorem Kz (hsn:CD call) {at_:Nat} {end_:Int} {x:AB} (hp:ER h lo m k c e r n nm E F s) (hx:s.rows[at_]?=some x) (hkind:1≤x.kind∧x.kind≤54) (hn:n<30000000000000) (he:0≤end_)
  (h79:∀ k h',1≤k∧k≤54→call 48 [iv k] h'=some (iv (BS k),h')) (h80:∀ k h',call 49 [iv k] h'=some (iv (JF k),h')) :
  ∃ h',A7 Tryd.prog call N 31 [qP m 0,iv at_,iv end_] h=some (iv (FD x s),h')∧(FP h h' lo F∧(FD x s=0→ER h' lo m k c e r n nm E F (BO at_ end_ x s))):=by
 obtain⟨tag,vq,vv,vt,vu,vo,es,hp,hm,hw,hF⟩:=hp
 have hlF:∀ i,i<lo∨i∈F→i<lo∨(i<h.next∧11≤tag i):=fun i hi=>hi.imp id fun h=>hF i h
 have hll:∀ i,i<lo∨i∈F→i<h.next:=fun i hi=>by have:=hp.lm;have:=hlF i hi;omega
 refine EH (R:=fun h'=>FP h h' lo F∧(FD x s=0→ER h' lo m k c e r n nm E F (BO at_ end_ x s))) Tryd.func31 rfl (by simp[Tryd.f31]) ?_
 have hr:Tryd.f31.results.toList=[.tmp 6]:=rfl
 generalize hKK:CU.top (fun ex s_1=>(ex=EM.normal∨ex=EM.ret)∧∃ vs,FZ Tryd.prog s_1 Tryd.f31.results.toList=some vs∧IM vs=iv (FD x s)∧FP h s_1.h lo F∧(FD x s=0→ER s_1.h lo m k c e r n nm E F (BO at_ end_ x s)))=K
 have fin:∀ (T':Tr) H v,T'.get 6=iv v→v=FD x s→FP h H lo F→(v=0→ER H lo m k c e r n nm E F (BO at_ end_ x s))→K.ap Tryd.prog call N .ret ⟨T',H⟩:=fun T' H v h6 hv ha hb=>by
  subst hv
  rw[← hKK]
  simp only[eE,↓reduceIte,Nat.reduceEqDiff,reduceCtorEq,↓eP,rP,Nat.reduceAdd,Nat.reduceLT,hr,h6]
  exact⟨ha,hb⟩
 show WK _ _ _ (.seq _ (.seq _ (.seq _ (.seq _ D5)))) _ _
 have hm1:=hp.c1
 obtain⟨hlt,l0,l1,l2,l3,l4,lr⟩:=hp.row hx
 have hd79:=fun h'=>h79 x.kind h' hkind
 have hdl:=RP x.kind
 by_cases d0:BS x.kind=0
 ·have dE:FD x s=0:=by unfold FD;rw[if_pos d0]
  have dS:BO at_ end_ x s=s:=by unfold BO;rw[if_pos d0]
  have b0:(BS x.kind==0)=true:=by simpa using d0
  simp only[eE,seval,↓eP,rP,IX,CJ,CL,hm1,N7 hlt,l0,hd79,b0]
  exact fin _ _ 0 (by simp only[Tr.get_put,if_true]) dE.symm ⟨fun _ _=>rfl,Nat.le_refl _,rfl⟩ fun _=>by rw[dS];exact⟨tag,vq,vv,vt,vu,vo,es,hp,hm,hw,hF⟩
 ·have b0:(BS x.kind==0)=false:=by simpa using d0
  simp only[eE,seval,↓eP,rP,IX,CJ,CL,hm1,N7 hlt,l0,hd79,b0]
  have hlh:lo≤h.next:=by have:=hp.lm;omega
  refine xY hsn hp hx (by simp only[eE,seval,↓eP,rP]) (by simp only[eE,seval,↓eP,rP]) (fun T' H hf h6 ho hn hf2=>?_) fun T' H hf hT ho hn1 hf2=>?_
  ·exact fin _ _ 31 h6 (by unfold FD;rw[if_neg d0,if_pos hf]) ⟨fun i hi=>ho i (hll i hi),hn,hf2⟩ fun h=>by cases h
  ·have hp1:BQ H lo m k c e r n nm E tag vq vv vt vu vo es s:=hp.mono hn1 hf2 (fun _ _=>rfl) fun i _ hi=>ho i hi
   have hE1:¬ (F9 s.things x.name).isSome=true:=by rw[hf];simp
   have cle:=Hp hw (BS x.kind)
   refine Ii (end_:=end_) hsn hp1 hx hm (by omega) hdl.2 (by omega) (fun h'=>h80 _ h') hf (by rw[hT 0 (by decide)];simp only[eE,seval,↓eP,rP]) (by rw[hT 2 (by decide)];simp only[eE,seval,↓eP,rP]) (by rw[hT 7 (by decide)];simp only[eE,seval,↓eP,rP]) (by rw[hT 8 (by decide)];simp only[eE,seval,↓eP,rP]) (fun T2 hc h6=>?_) fun T2 H2 hc hT2 hp2 ho2 hn2 hf3=>?_
   ·exact fin _ _ 3 h6 (by unfold FD;rw[if_neg d0,if_neg hE1,if_pos hc]) ⟨fun i hi=>ho i (hll i hi),hn1,hf2⟩ fun h=>by cases h
   ·have hq:=hw.q;have hv:=hw.v;have ht:=hw.t;have hu:=hw.u;have ho':=hw.o
    refine Be hsn hp2 (at_:=at_) (x:={ x with n:=(BW s (BS x.kind):Int) }) (J9 hx) (by omega) hdl.2 ⟨by show s.queues.length<1000;omega,by show s.vars.length<1000;omega,by show s.tags.length<1000;omega,by show s.rules.length<1000;omega,by show s.on.length<1000;omega⟩ hn
     (by rw[hT2 0 (by decide),hT 0 (by decide)];simp only[eE,seval,↓eP,rP]) (by rw[hT2 1 (by decide),hT 1 (by decide)];simp only[eE,seval,↓eP,rP]) (by rw[hT2 7 (by decide),hT 7 (by decide)];simp only[eE,seval,↓eP,rP]) (by rw[hT2 8 (by decide),hT 8 (by decide)];simp only[eE,seval,↓eP,rP]) fun T3 H3 tag' vq' vv' vt' vu' vo' h6 hp3 htg ho3 hn3 hf4=>?_
    have hS:BO at_ end_ x s=E5 at_ end_ x s:=by unfold BO;rw[if_neg d0]
    refine fin _ _ 0 h6 (by unfold FD;rw[if_neg d0,if_neg hE1,if_neg hc]) ⟨fun i hi=>by
     have h0:=hlF i hi
     rw[ho3 i (by omega),ho2 i (by omega),ho i (hll i hi)],by omega,by rw[hf4,hf3,hf2]⟩ fun _=>?_
    rw[hS]
    refine⟨tag',vq',vv',vt',vu',vo',_,hp3,Gi hm ?_ ?_,tD hw d0 hc he,fun i hi=>?_⟩
    ·exact(Z_ ⟨by omega,hdl.2⟩).trans (by rw[if_pos rfl])
    ·intro k k1 k4 hk
     exact(Z_ ⟨k1,k4⟩).trans (by rw[if_neg hk,Nat.add_zero])
    ·have h0:=hF i hi
     rw[htg i (by omega)]
     exact⟨by omega,h0.2⟩
end
theorem LF {P:Program}:BA P Go.program=some P:=rfl
theorem HF {P:Program} {α:Type} {a:α}:BA P (pure a:Sem α)=some a:=rfl
theorem LP {P:Program} {t:TypeId} {k0 k:IntKind} {a b:Int} (h:P.underlying t=some (.int k0)) (d:Nat):BA P (Op.equalIn (d+1) t (.int k a) (.int k b))=some (a==b):=by
 rw[Op.equalIn,CE,NA h]
 simp[HF]
theorem XL {a b:Int}:BA Tryd.prog (part 3 #[.int .i64 a,.int .i64 b] 0)=some (.int .i64 a)∧BA Tryd.prog (part 3 #[.int .i64 a,.int .i64 b] 1)=some (.int .i64 b)∧BA Tryd.prog (part 34 #[.int .i64 a,.int .i64 b] 0)=some (.int .i64 a):=⟨rfl,rfl,rfl⟩
theorem Ok:Tryd.prog.stoodInHeld 97=false:=by kernel_rfl
theorem Ck:Tryd.prog.eqGuardType Tryd.prog.depth 36=false:=by kernel_rfl
theorem Au:Tryd.prog.stoodInHeld 36=false:=by kernel_rfl
abbrev DV (a b:Int):Value:=.agg #[.int .i64 a,.int .i64 b]
theorem dF {a b:Int}:flat (DV a b)=true:=rfl
theorem Ee {a b c d:Int} (n:Nat):BA Tryd.prog (Op.equalIn (n+2) 97 (DV a b) (DV c d))=some (a==c&&b==d):=by
 rw[Op.equalIn,CE,NA Tryd.underlying97]
 simp only[Option.bind_some,CE,LF,Ok,Bool.false_eq_true,if_false]
 simp only[List.forIn_toArray,List.forIn_cons,List.forIn_nil,ne_eq,String.reduceEq,not_false_eq_true,if_true,CE,XL.1,Option.bind_some,LP Tryd.underlying3]
 cases h1:(a==c) <;> cases h2:(b==d) <;> simp[CE,HF,XL.2.1,LP Tryd.underlying3,h2,-beq_iff_eq,-beq_eq_false_iff_ne]
theorem qR {a b c d:Int} (n:Nat):BA Tryd.prog (Op.equalIn (n+2) 36 (DV a b) (DV c d))=some (a==c&&b==d):=by
 rw[Op.equalIn,CE,NA Tryd.underlying36]
 simp only[Option.bind_some,CE,LF,Au,Bool.false_eq_true,if_false]
 simp only[List.forIn_toArray,List.forIn_cons,List.forIn_nil,ne_eq,String.reduceEq,not_false_eq_true,if_true,CE,XL.2.2,Option.bind_some,LP Tryd.underlying3,LP Tryd.underlying34]
 cases h1:(a==c) <;> cases h2:(b==d) <;> simp[CE,HF,XL.2.1,LP Tryd.underlying3,LP Tryd.underlying34,h2,-beq_iff_eq,-beq_eq_false_iff_ne]
theorem sB {x y:Operand} {a b c d:Int}:BU Tryd.prog .neq 97 x y (DV a b) (DV c d)=some (.bool (!(a==c&&b==d))):=by
 have e:BA Tryd.prog (do eqGuard .neq 97 x y (DV a b) (DV c d);binOp .neq 97 (DV a b) (DV c d))=some (.bool (!(a==c&&b==d))):=by
  rw[CE]
  have g:BA Tryd.prog (eqGuard .neq 97 x y (DV a b) (DV c d))=some ():=by
   unfold eqGuard
   simp[CE,LF,HF]
  rw[g]
  show BA Tryd.prog ((do pure (.bool (!(← Op.equal 97 (DV a b) (DV c d))))):Sem Value)=_
  rw[CE]
  have k:BA Tryd.prog (Op.equal 97 (DV a b) (DV c d))=some (a==c&&b==d):=Ee 9998
  rw[k]
  rfl
 simp only[BU,dF,Bool.and_self,if_true,e,KN]
noncomputable def C5:Code:=rt (rt (rt (rt (Tryd.f32.body.getD .skip))))
noncomputable def lY:Array Oper:=DX Tryd.f32 5
def wT:List (Bool × Bool × List Operand):=[AR,AR,AR,AR,AH [.tmp 26],AH [.tmp 26],AH [.tmp 26],AH [.tmp 26],AL,AL,AL,AL,AH [.tmp 26,.tmp 30,.tmp 27],AL,AL]
theorem uZ:DU lY=wT:=by kernel_rfl
theorem q_ {a b c:Value} {ty:TypeId} {g ro:Bool}:AW 2 0 (.row [a,b,c] ty g ro)=some (.agg #[a,b]):=rfl
section
variable {call:AN} {N:Nat} {h:AA} {lo m k c e r n:Nat} {nm:ByteArray} {E:List Int} {F:List Nat} {tag:Nat→Nat} {vq vv vt vu vo:Value} {es:List (Value × Value)} {s:AK}
theorem rX {s:AK} {l:List AB} {k:Int}:BW { s with rows:=l } k=BW s k:=rfl
theorem Ny (hsn:CD call) {at_:Nat} {x:AB} (hp:ER h lo m k c e r n nm E F s) (hx:s.rows[at_]?=some x) (hkind:1≤x.kind∧x.kind≤54) (hn:n<30000000000000)
  (h81:∀ k h',1≤k∧k≤54→call 50 [iv k] h'=some (iv (EK k),h')) :
  ∃ h',A7 Tryd.prog call N 32 [qP m 0,iv at_] h=some (iv (DP at_ x s),h')∧(FP h h' lo F∧(DP at_ x s=0→ER h' lo m k c e r n nm E F (B8 at_ x s))):=by
 obtain⟨tag,vq,vv,vt,vu,vo,es,hp,hm,hw,hF⟩:=hp
 have hlF:∀ i,i<lo∨i∈F→i<lo∨(i<h.next∧11≤tag i):=fun i hi=>hi.imp id fun h=>hF i h
 have hll:∀ i,i<lo∨i∈F→i<h.next:=fun i hi=>by have:=hp.lm;have:=hlF i hi;omega
 refine EH (R:=fun h'=>FP h h' lo F∧(DP at_ x s=0→ER h' lo m k c e r n nm E F (B8 at_ x s))) Tryd.func32 rfl (by simp[Tryd.f32]) ?_
 have hr:Tryd.f32.results.toList=[.tmp 4]:=rfl
 generalize hKK:CU.top (fun ex s_1=>(ex=EM.normal∨ex=EM.ret)∧∃ vs,FZ Tryd.prog s_1 Tryd.f32.results.toList=some vs∧IM vs=iv (DP at_ x s)∧FP h s_1.h lo F∧(DP at_ x s=0→ER s_1.h lo m k c e r n nm E F (B8 at_ x s)))=K
 have fin:∀ (T':Tr) H v,T'.get 4=iv v→v=DP at_ x s→FP h H lo F→(v=0→ER H lo m k c e r n nm E F (B8 at_ x s))→K.ap Tryd.prog call N .ret ⟨T',H⟩:=fun T' H v h6 hv ha hb=>by
  subst hv
  rw[← hKK]
  simp only[eE,↓reduceIte,Nat.reduceEqDiff,reduceCtorEq,↓eP,rP,Nat.reduceAdd,Nat.reduceLT,hr,h6]
  exact⟨ha,hb⟩
 show WK _ _ _ (.seq _ (.seq _ (.seq _ (.seq _ C5)))) _ _
 have hm1:=hp.c1
 obtain⟨hlt,l0,l1,l2,l3,l4,lr⟩:=hp.row hx
 have hd81:=fun h'=>h81 x.kind h' hkind
 have hdl:=sG x.kind
 by_cases d0:EK x.kind=0
 ·have dE:DP at_ x s=0:=by unfold DP;rw[if_pos d0]
  have dS:B8 at_ x s=s:=by unfold B8;rw[if_pos d0]
  have b0:(EK x.kind==0)=true:=by simpa using d0
  simp only[eE,seval,↓eP,rP,IX,CJ,CL,hm1,N7 hlt,l0,hd81,b0]
  exact fin _ _ 0 (by simp only[Tr.get_put,if_true]) dE.symm ⟨fun _ _=>rfl,Nat.le_refl _,rfl⟩ fun _=>by rw[dS];exact⟨tag,vq,vv,vt,vu,vo,es,hp,hm,hw,hF⟩
 ·have b0:(EK x.kind==0)=false:=by simpa using d0
  simp only[eE,seval,↓eP,rP,IX,CJ,CL,hm1,N7 hlt,l0,hd81,b0]
  have hlh:lo≤h.next:=by have:=hp.lm;omega
  show WK _ _ _ (.seq (.region _ _ true) _) _ _
  rw[ME]
  have c8:=hp.c8
  have hlook:=mZ (x:=x.name) hp.known
  have hmn:=hp.lm.2
  have hkn:=hp.lk.2
  have hrn:=hp.pol.lr.2
  have hflo:h.floor≤h.next:=by have:=hp.fl;omega
  have n1:(some m != some h.next)=true:=by simp;omega
  have n2:(some r != some h.next)=true:=by simp;omega
  have n3:(some k != some h.next)=true:=by simp;omega
  have hnew:(h.push (.row [iv 0,iv 0,iv 0] 99 false false)).get h.next=.row [iv 0,iv 0,iv 0] 99 false false:=BM
  have hst:=fun a b d=>rY (a:=iv a) (b:=iv b) (c:=iv d) hnew (by exact hflo) rfl
  have hold:∀ o i,i<h.next→((h.push (.row [iv 0,iv 0,iv 0] 99 false false)).put h.next o).get i=h.get i:=fun o i hi=>by rw[AX (by show h.next<h.next+1;omega) (by omega),AQ hi]
  have hgn:∀ o,((h.push (.row [iv 0,iv 0,iv 0] 99 false false)).put h.next o).get h.next=o:=fun o=>B0 rfl (by show h.next<h.next+1;omega)
  have hfl0:flat (.agg #[iv 0,iv 0,iv 0])=true:=rfl
  have hcl0:=E3 [iv 0,iv 0,iv 0]
  have i1:CV (qP m 8)=some m:=rfl
  have i2:CV (.pointer (some ⟨r,at_*5+1,none⟩))=some r:=rfl
  have i3:CV (.map (some k))=some k:=rfl
  have i4:CV (qP h.next 0)=some h.next:=rfl
  refine WK.flags (ops:=lY) uZ ?_
  refine CO.begin ?_
  refine AG hsn 0 (some 24) (.move (.tmp 0)) none ?_
  simp only[rG,seval,AC,AF,AE,Tr.get_set]
  refine AG hsn 1 (some 25) (.nilCheck (.tmp 24)) none ?_
  simp only[rG,seval,AC,AF,AE]
  refine AG hsn 2 (some 26) (.fieldAddr 69 (.tmp 25) 1) none ?_
  simp only[rG,seval,AC,AF,AE,Nat.zero_add,ZU]
  refine AG hsn 3 (some 27) (.load 66 (.tmp 26)) none ?_
  simp only[rG,seval,AC,AF,AE,CZ,cD,c8]
  refine AG hsn 4 (some 28) (.move (.tmp 5)) none ?_
  simp only[rG,seval,AC,AF,AE]
  refine AG hsn 5 (some 29) (.nilCheck (.tmp 28)) none ?_
  simp only[rG,seval,AC,AF,AE]
  refine AG hsn 6 (some 30) (.fieldAddr 61 (.tmp 29) 1) none ?_
  simp only[rG,seval,AC,AF,AE,MC]
  refine AG hsn 7 (some 31) (.load 9 (.tmp 30)) none ?_
  simp only[rG,seval,AC,AF,AE,CZ,GQ,l1]
  cases hf:F9 s.things x.name with
  | none=>
   rw[hf] at hlook
   refine AG hsn 8 (some 32) (.lookup 66 (.tmp 27) (.tmp 31) true) none ?_
   simp only[rG,seval,AC,AF,AE,CZ,hlook,i3]
   refine AG hsn 9 (some 23) (.move (.tmp 32)) none ?_
   simp only[rG,seval,AC,AF,AE]
   refine AG hsn 10 (some 33) (.extract (.tmp 23) 0) none ?_
   simp only[rG,seval,AC,AF,AE,List.getElem?_toArray,List.getElem?_cons_zero]
   refine AG hsn 11 (some 34) (.extract (.tmp 23) 1) none ?_
   simp only[rG,seval,AC,AF,AE,List.getElem?_toArray,List.getElem?_cons_succ,List.getElem?_cons_zero]
   refine AG hsn 12 (some 7) (.alloc 99) none ?_
   simp only[rG,seval,AC,AF,AE,XM,SL,hfl0,hcl0]
   refine AG hsn 13 (none) (.store 99 (.tmp 7) (.tmp 33)) none ?_
   simp only[rG,seval,AC,AF,AE,CQ,DI,hst,i4,CQ,List.all_nil]
   refine AG hsn 14 (some 8) (.assign (.tmp 34)) none ?_
   simp only[rG,seval,AC,AF,AE]
   refine CO.done (i:=15) (by kernel_rfl) ?_
   have dE:DP at_ x s=32:=by unfold DP;rw[if_neg d0,hf]
   simp only[eE,seval,↓eP,rP]
   exact fin _ _ 32 (by simp only[Tr.get_put,if_true]) dE.symm ⟨fun i hi=>hold _ i (hll i hi),by show h.next≤h.next+1;omega,rfl⟩ fun h=>by cases h
  | some t=>
   rw[hf] at hlook
   refine AG hsn 8 (some 32) (.lookup 66 (.tmp 27) (.tmp 31) true) none ?_
   simp only[rG,seval,AC,AF,AE,CZ,hlook,i3]
   refine AG hsn 9 (some 23) (.move (.tmp 32)) none ?_
   simp only[rG,seval,AC,AF,AE]
   refine AG hsn 10 (some 33) (.extract (.tmp 23) 0) none ?_
   simp only[rG,seval,AC,AF,AE,List.getElem?_toArray,List.getElem?_cons_zero]
   refine AG hsn 11 (some 34) (.extract (.tmp 23) 1) none ?_
   simp only[rG,seval,AC,AF,AE,List.getElem?_toArray,List.getElem?_cons_succ,List.getElem?_cons_zero]
   refine AG hsn 12 (some 7) (.alloc 99) none ?_
   simp only[rG,seval,AC,AF,AE,XM,SL,hfl0,hcl0]
   refine AG hsn 13 (none) (.store 99 (.tmp 7) (.tmp 33)) none ?_
   simp only[rG,seval,AC,AF,AE,CQ,DI,hst,i4,CQ,List.all_nil]
   refine AG hsn 14 (some 8) (.assign (.tmp 34)) none ?_
   simp only[rG,seval,AC,AF,AE]
   refine CO.done (i:=15) (by kernel_rfl) ?_
   have hp1:BQ ((h.push (.row [iv 0,iv 0,iv 0] 99 false false)).put h.next (.row [iv t.kind,iv t.num,iv t.known] 99 false false)) lo m k c e r n nm E tag vq vv vt vu vo es s:=hp.putNew
   have hgo:=hold (.row [iv t.kind,iv t.num,iv t.known] 99 false false)
   have hgd:=hgn (.row [iv t.kind,iv t.num,iv t.known] 99 false false)
   have hnx:((h.push (.row [iv 0,iv 0,iv 0] 99 false false)).put h.next (.row [iv t.kind,iv t.num,iv t.known] 99 false false)).next=h.next+1:=rfl
   have hfl:((h.push (.row [iv 0,iv 0,iv 0] 99 false false)).put h.next (.row [iv t.kind,iv t.num,iv t.known] 99 false false)).floor=h.floor:=rfl
   generalize (h.push (.row [iv 0,iv 0,iv 0] 99 false false)).put h.next (.row [iv t.kind,iv t.num,iv t.known] 99 false false)=H1 at *
   generalize hdd:h.next=d at *
   have htm:t∈s.things:=List.mem_of_find?_eq_some hf
   obtain⟨q1,q2,q3,q4,q5⟩:=hw.th t htm
   cases dk:decide (t.known>(at_:Int)) with
   | true=>
    have dE:DP at_ x s=32:=by unfold DP;rw[if_neg d0,hf];simp only;rw[if_pos (by simpa using dk)]
    simp only[eE,seval,↓eP,rP,ZZ,hgd,dk]
    exact fin _ _ 32 (by simp only[Tr.get_put,if_true]) dE.symm ⟨fun i hi=>hgo i (hll i hi),by omega,hfl⟩ fun h=>by cases h
   | false=>
    have dk':¬ t.known>(at_:Int):=by simpa using dk
    cases dq:(t.kind==EK x.kind) with
    | false=>
     have dE:DP at_ x s=33:=by unfold DP;rw[if_neg d0,hf];simp only;rw[if_neg dk',if_pos (by simpa using dq)]
     simp only[eE,seval,↓eP,rP,ZZ,jE,sL,mK,hgd,dk,q_,bV,sB,dq]
     exact fin _ _ 33 (by simp only[Tr.get_put,if_true]) dE.symm ⟨fun i hi=>hgo i (hll i hi),by omega,hfl⟩ fun h=>by cases h
    | true=>
     have dq':¬ t.kind≠EK x.kind:=by simpa using dq
     have dE:DP at_ x s=0:=by unfold DP;rw[if_neg d0,hf];simp only;rw[if_neg dk',if_neg dq']
     have dS:B8 at_ x s={ s with rows:=F8 s.rows at_ t.num }:=by unfold B8;rw[if_neg d0,hf]
     have hrl:=IW s.rows
     have hlen:=hp1.pol.len
     have hst3:=HD (off:=at_*5+3) CP (v:=iv t.num) rfl rfl hp1.pol.rows (by rw[hrl];omega) (by have:=hp1.fl;have:=hp1.pol.lr.1;omega)
     rw[W8 hx] at hst3
     have hp3:=hp1.putR (l:=F8 s.rows at_ t.num) QB
     simp only[eE,seval,↓eP,rP,ZZ,jE,sL,mK,hgd,dk,q_,bV,sB,dq,hst3]
     refine fin _ _ 0 (by simp only[Tr.get_put,if_true]) dE.symm ⟨fun i hi=>?_,by show h.next≤H1.next;omega,hfl⟩ fun _=>?_
     ·rw[AX hp1.pol.lr.2 (OU (h:=h) (tag:=tag) hp1.pol.lr.1 (by rw[hp1.pol.tr];decide) (by rw[hdd];exact hlF i hi))]
      exact hgo i (hll i hi)
     ·rw[dS]
      exact⟨tag,vq,vv,vt,vu,vo,es,hp3,hm,⟨hw.q,hw.v,hw.t,hw.u,hw.o,hw.th⟩,fun i hi=>⟨by have h0:=hF i hi;show i<H1.next;omega,(hF i hi).2⟩⟩
end
noncomputable def E4:Code:=rt (rt (rt (Tryd.f33.body.getD .skip)))
def cQ:List (Bool × Bool × List Operand):=[AR,AR,AR,AR,AR,AH [.tmp 29],AH [.tmp 29],AL,AL]
section
variable {call:AN} {N:Nat} {h H:AA} {lo m k c e r n:Nat} {nm:ByteArray} {E:List Int} {F:List Nat} {tag:Nat→Nat} {vq vv vt vu vo:Value} {es:List (Value × Value)} {s:AK}
theorem BQ.putMiss (hp:BQ h lo m k c e r n nm E tag vq vv vt vu vo es s) (x:Int):BQ (h.put m (.row [.string nm,qS r n AP,vq,vv,vt,vu,vo,iv x,.map (some k),.map (some c)] 69 false false)) lo m k c e r n nm E tag vq vv vt vu vo es { s with miss:=x }:=by
 have h0:∀ i,tag i≠0→(h.put m (.row [.string nm,qS r n AP,vq,vv,vt,vu,vo,iv x,.map (some k),.map (some c)] 69 false false)).get i=h.get i:=fun i hi=>AX hp.lm.2 (GU (tag:=tag) (by rw[hp.tm];exact fun e=>hi e.symm))
 have hq:=hp.pol.mono (h':=h.put m (.row [.string nm,qS r n AP,vq,vv,vt,vu,vo,iv x,.map (some k),.map (some c)] 69 false false)) (Nat.le_refl _) (fun _ _=>rfl) fun i _ _ h1 _=>h0 i (by omega)
 exact hp.pol' (Nat.le_refl _) rfl (fun _ _=>rfl) (fun i _ _ h1=>h0 i (by omega)) (B0 rfl hp.lm.2) ⟨hq.rows,hq.len,hq.tr,hq.lr,hq.q,hq.v,hq.t,hq.u,hq.o⟩ rfl
theorem BQ.putOn (hp:BQ h lo m k c e r n nm E tag vq vv vt vu vo es s) {i:Nat} (hi:i<s.on.length) (x:Int):∃ id ex,vo=qS id s.on.length AP∧h.get id=.row (ints s.on++ex) 3 true false∧lo≤id∧id<h.next∧tag id=6 ∧
  BQ (h.put id (.row ((ints s.on++ex).set i (iv x)) 3 true false)) lo m k c e r n nm E tag vq vv vt vu vo es { s with on:=s.on.set i x }:=by
 rcases hp.pol.o with⟨h0,_,_⟩ | ⟨id,ex,h1,h2,h3,h4,h5⟩
 ·omega
 ·refine⟨id,ex,h1,h2,h3,h4,h5,?_⟩
  have hset:(ints s.on++ex).set i (iv x)=ints (s.on.set i x)++ex:=by
   rw[List.set_append_left _ _ (by rw[F7];exact hi),jW]
  rw[hset]
  have h0:∀ j,tag j≠6→(h.put id (.row (ints (s.on.set i x)++ex) 3 true false)).get j=h.get j:=fun j hj=>AX h4 (GU (tag:=tag) (by rw[h5];exact fun e=>hj e.symm))
  have hq:=hp.pol
  refine hp.pol' (Nat.le_refl _) rfl (fun _ _=>rfl) (fun j _ _ h1=>h0 j (by omega)) (by rw[h0 m (by rw[hp.tm];decide)];exact hp.cell) ?_ rfl
  refine⟨by rw[h0 r (by rw[hq.tr];decide)];exact hq.rows,hq.len,hq.tr,hq.lr,hq.q.mono (Nat.le_refl _) (fun _ _=>rfl) fun j _ _ h3=>h0 j (by omega),hq.v.mono (Nat.le_refl _) (fun _ _=>rfl) fun j _ _ h3=>h0 j (by omega),hq.t.mono (Nat.le_refl _) (fun _ _=>rfl) fun j _ _ h3=>h0 j (by omega),hq.u.mono (Nat.le_refl _) (fun _ _=>rfl) fun j _ _ h3=>h0 j (by omega),?_⟩
  refine .inr ⟨id,ex,by rw[h1,List.length_set],B0 rfl h4,h3,h4,h5⟩
theorem Fk {l:List Int} {ex:List Value} {i:Nat} {x:Int} {ty:TypeId} {g ro:Bool} (hx:l[i]?=some x):AJ i (.row (ints l++ex) ty g ro)=some (iv x):=by
 have hl:=(List.getElem?_eq_some_iff.1 hx).1
 simp only[AJ]
 rw[List.getElem?_append_left (by rw[F7];exact hl),Y_,hx]
 rfl
theorem Ks (hsn:CD call) {at_:Nat} {x:AB} (hp:ER h lo m k c e r n nm E F s) (hx:s.rows[at_]?=some x) (hkind:1≤x.kind∧x.kind≤54) (hn:n<30000000000000) (hxn:ID x.kind=true→x.kind≠10→0≤x.n∧x.n<s.on.length)
  (h82:∀ k h',1≤k∧k≤54→call 51 [iv k] h'=some (.bool (ID k),h')) :
  ∃ h',A7 Tryd.prog call N 33 [qP m 0,iv at_] h=some (iv (FF x s),h')∧(FP h h' lo F∧(FF x s=0→ER h' lo m k c e r n nm E F (EC at_ x s))):=by
 obtain⟨tag,vq,vv,vt,vu,vo,es,hp,hm,hw,hF⟩:=hp
 have hlF:∀ i,i<lo∨i∈F→i<lo∨(i<h.next∧11≤tag i):=fun i hi=>hi.imp id fun h=>hF i h
 have hll:∀ i,i<lo∨i∈F→i<h.next:=fun i hi=>by have:=hp.lm;have:=hlF i hi;omega
 refine EH (R:=fun h'=>FP h h' lo F∧(FF x s=0→ER h' lo m k c e r n nm E F (EC at_ x s))) Tryd.func33 rfl (by simp[Tryd.f33]) ?_
 have hr:Tryd.f33.results.toList=[.tmp 4]:=rfl
 generalize hKK:CU.top (fun ex s_1=>(ex=EM.normal∨ex=EM.ret)∧∃ vs,FZ Tryd.prog s_1 Tryd.f33.results.toList=some vs∧IM vs=iv (FF x s)∧FP h s_1.h lo F∧(FF x s=0→ER s_1.h lo m k c e r n nm E F (EC at_ x s)))=K
 have fin:∀ (T':Tr) H v,T'.get 4=iv v→v=FF x s→FP h H lo F→(v=0→ER H lo m k c e r n nm E F (EC at_ x s))→K.ap Tryd.prog call N .ret ⟨T',H⟩:=fun T' H v h6 hv ha hb=>by
  subst hv
  rw[← hKK]
  simp only[eE,↓reduceIte,Nat.reduceEqDiff,reduceCtorEq,↓eP,rP,Nat.reduceAdd,Nat.reduceLT,hr,h6]
  exact⟨ha,hb⟩
 show WK _ _ _ (.seq _ (.seq _ (.seq _ E4))) _ _
 have hm1:=hp.c1
 obtain⟨hlt,l0,l1,l2,l3,l4,lr⟩:=hp.row hx
 have hev:=fun h'=>h82 x.kind h' hkind
 have hflo:h.floor≤h.next:=by have:=hp.fl;have:=hp.lm;omega
 have hflT:(h.floor≤h.next)=True:=by simpa using hflo
 have hlh:lo≤h.next:=by have:=hp.lm;omega
 have hrn:=hp.pol.lr.2
 have hmn:=hp.lm.2
 have hrF:(r=h.next)=False:=by simp;omega
 have hmF:(m=h.next)=False:=by simp;omega
 have hltT:(h.next<h.next+1)=True:=by simp
 have hp1:=fun o o'=>hp.putNew (o:=o) (o':=o')
 have hone:([.int .i64 x.kind,.string x.name,.int .i64 x.ends,.int .i64 x.n,.int .i64 x.kids]:List Value).all one=true:=rfl
 have hz:flat (.agg #[.int .i64 0,.string ByteArray.empty,.int .i64 0,.int .i64 0,.int .i64 0])=true:=rfl
 have hzc:=E3 FG
 have hst:A9 Tryd.prog (h.push (.row FG 61 false false)) 61 (qP h.next 0) (.agg #[.int .i64 x.kind,.string x.name,.int .i64 x.ends,.int .i64 x.n,.int .i64 x.kids])=some ((h.push (.row FG 61 false false)).put h.next (.row [.int .i64 x.kind,.string x.name,.int .i64 x.ends,.int .i64 x.n,.int .i64 x.kids] 61 false false)):=by
  rw[FB,BM,RW,if_pos ⟨hflo,hone⟩]
 have hp1:BQ ((h.push (.row FG 61 false false)).put h.next (.row [.int .i64 x.kind,.string x.name,.int .i64 x.ends,.int .i64 x.n,.int .i64 x.kids] 61 false false)) lo m k c e r n nm E tag vq vv vt vu vo es s:=hp.putNew
 have hgd:((h.push (.row FG 61 false false)).put h.next (.row [.int .i64 x.kind,.string x.name,.int .i64 x.ends,.int .i64 x.n,.int .i64 x.kids] 61 false false)).get h.next=.row [.int .i64 x.kind,.string x.name,.int .i64 x.ends,.int .i64 x.n,.int .i64 x.kids] 61 false false:=B0 rfl (by show h.next<h.next+1;omega)
 have hgo:∀ i,i<h.next→((h.push (.row FG 61 false false)).put h.next (.row [.int .i64 x.kind,.string x.name,.int .i64 x.ends,.int .i64 x.n,.int .i64 x.kids] 61 false false)).get i=h.get i:=fun i hi=>by rw[AX (by show h.next<h.next+1;omega) (by omega),AQ hi]
 have hnx:((h.push (.row FG 61 false false)).put h.next (.row [.int .i64 x.kind,.string x.name,.int .i64 x.ends,.int .i64 x.n,.int .i64 x.kids] 61 false false)).next=h.next+1:=rfl
 have hfl:((h.push (.row FG 61 false false)).put h.next (.row [.int .i64 x.kind,.string x.name,.int .i64 x.ends,.int .i64 x.n,.int .i64 x.kids] 61 false false)).floor=h.floor:=rfl
 generalize hH1:(h.push (.row FG 61 false false)).put h.next (.row [.int .i64 x.kind,.string x.name,.int .i64 x.ends,.int .i64 x.n,.int .i64 x.kids] 61 false false)=H1 at *
 have hw1:IntKind.i64.wrap ((at_:Int)+1)=(at_:Int)+1:=C7 (by omega) (by omega)
 have after1:FP h H1 lo F:=⟨fun i hi=>hgo i (hll i hi),by omega,hfl⟩
 have hF1:∀ i∈F,i<H1.next∧11≤tag i:=fun i hi=>⟨by have h0:=hF i hi;omega,(hF i hi).2⟩
 have e46:=@IG
 cases d0:ID x.kind with
 | false=>
  have dE:FF x s=0:=by unfold FF;rw[if_pos d0]
  have dS:EC at_ x s=s:=by unfold EC;rw[if_pos d0]
  simp only[eE,seval,↓eP,Nat.reduceAdd,Nat.zero_add,IX,CJ,CL,IG,AV,hm1,N7 hlt,lr,FY,hz,hzc,hst,hgd,CW,JD,hev,d0]
  exact fin _ _ 0 (by simp only[Tr.get_put,if_true]) dE.symm after1 fun _=>by rw[dS];exact⟨tag,vq,vv,vt,vu,vo,es,hp1,hm,hw,hF1⟩
 | true=>
  simp only[eE,seval,↓eP,Nat.reduceAdd,Nat.zero_add,IX,CJ,CL,IG,AV,hm1,N7 hlt,lr,FY,hz,hzc,hst,hgd,CW,JD,hev,d0]
  show WK _ _ _ (.seq _ (.seq (.seq _ (.cond _ (.region _ _ _) _)) (.seq (.seq _ (.cond _ _ _)) (.seq _ (.seq _ _))))) _ _
  cases d10:(x.kind==10) with
  | true=>
   have k10:x.kind=10:=by simpa using d10
   have d10':(x.kind != 10)=false:=by rw[bne,d10];rfl
   have c7:=hp1.c7
   have hst7:A9 Tryd.prog H1 3 (qP m 7) (iv ((at_:Int)+1))=_:=HD CP rfl rfl hp1.cell (by simp only[List.length_cons,List.length_nil];omega) (by have:=hp1.fl;have:=hp1.lm;omega)
   simp only[List.set_cons_succ,List.set_cons_zero] at hst7
   cases dm:decide (s.miss≥0) with
   | true=>
    have dE:FF x s=31:=by unfold FF;rw[if_neg (by rw[d0];simp),if_pos k10,if_pos (by simpa using dm)]
    simp only[eE,seval,↓eP,Nat.zero_add,IX,KL,AV,hgd,CW,JD,d10',c7,dm]
    exact fin _ _ 31 (by simp only[Tr.get_put,if_true]) dE.symm after1 fun h=>by cases h
   | false=>
    have dE:FF x s=0:=by unfold FF;rw[if_neg (by rw[d0];simp),if_pos k10,if_neg (by simpa using dm)]
    have dS:EC at_ x s={ s with miss:=(at_:Int)+1 }:=by unfold EC;rw[if_neg (by rw[d0];simp),if_pos k10]
    simp only[eE,seval,↓eP,Nat.zero_add,IX,KL,AV,hgd,CW,JD,d10',c7,dm,hw1,hst7]
    refine fin _ _ 0 (by simp only[Tr.get_put,if_true]) dE.symm ⟨fun i hi=>?_,by show h.next≤H1.next;omega,hfl⟩ fun _=>?_
    ·rw[AX hp1.lm.2 (OU (h:=h) hp1.lm.1 (by rw[hp1.tm];decide) (hlF i hi))]
     exact hgo i (hll i hi)
    ·rw[dS]
     exact⟨tag,vq,vv,vt,vu,vo,es,hp1.putMiss _,hm,⟨hw.q,hw.v,hw.t,hw.u,hw.o,hw.th⟩,hF1⟩
  | false=>
   have k10:¬ x.kind=10:=by simpa using d10
   have d10':(x.kind != 10)=true:=by rw[bne,d10];rfl
   obtain⟨hn0,hn1⟩:=hxn d0 k10
   obtain⟨i,hi⟩:∃ i:Nat,x.n=(i:Int):=⟨x.n.toNat,by omega⟩
   have hil:i<s.on.length:=by omega
   obtain⟨id,ex,ev,hgi,hli,hni,hti,hp2⟩:=hp1.putOn hil ((at_:Int)+1)
   obtain⟨v,hv⟩:∃ v,s.on[i]?=some v:=⟨_,List.getElem?_eq_getElem hil⟩
   have c6:=hp1.c6
   rw[ev] at c6
   have lv:=Fk (ex:=ex) (ty:=3) (g:=true) (ro:=false) hv
   have hst6:=HD (h:=H1) (off:=i) CP (v:=iv ((at_:Int)+1)) rfl rfl hgi (by rw[List.length_append,F7];omega) (by have:=hp1.fl;omega)
   have hton:x.n.toNat=i:=by omega
   simp only[eE,seval,↓eP,Nat.zero_add,IX,KL,AV,hgd,CW,JD,d10']
   show WK _ _ _ (.region _ _ true) _ _
   refine WK.flags (fs:=cQ) (by kernel_rfl) ?_
   unfold cQ
   iterate 9
    refine EE hsn ?_
    simp only[rG,seval,AC,AF,AE,CZ,DY,CQ,DI,EB,hi,IX,K4,DG,c6,GI,AV,hgd,QY,FL hil]
   refine D_ ?_
   cases dm:decide (v≥0) with
   | true=>
    have dE:FF x s=31:=by unfold FF;rw[if_neg (by rw[d0];simp),if_neg k10,hton,hv];simp only;rw[if_pos (by simpa using dm)]
    simp only[eE,seval,↓eP,AV,hgi,lv,dm]
    exact fin _ _ 31 (by simp only[Tr.get_put,if_true]) dE.symm after1 fun h=>by cases h
   | false=>
    have dE:FF x s=0:=by unfold FF;rw[if_neg (by rw[d0];simp),if_neg k10,hton,hv];simp only;rw[if_neg (by simpa using dm)]
    have dS:EC at_ x s={ s with on:=s.on.set i ((at_:Int)+1) }:=by unfold EC;rw[if_neg (by rw[d0];simp),if_neg k10,hton]
    simp only[eE,seval,↓eP,AV,hgi,lv,dm,hw1,hst6]
    refine fin _ _ 0 (by simp only[Tr.get_put,if_true]) dE.symm ⟨fun j hj=>?_,by show h.next≤H1.next;omega,hfl⟩ fun _=>?_
    ·rw[AX hni (OU (h:=h) hli (by rw[hti];decide) (hlF j hj))]
     exact hgo j (hll j hj)
    ·rw[dS]
     exact⟨tag,vq,vv,vt,vu,vo,es,hp2,hm,⟨hw.q,hw.v,hw.t,hw.u,by simp only[List.length_set];exact hw.o,hw.th⟩,hF1⟩
end
def IF (a b:Int):Int:=if a>4611686018427387904-b then 4611686018427387904 else a+b
theorem UD {a b:Int} (ha:0≤a) (hb:0≤b) (hb2:b≤4611686018427387904):0≤IF a b∧IF a b≤4611686018427387904:=by unfold IF;split <;> omega
def NH (sums:List Int) (k:Int):Int:=(sums[k.toNat]?).getD 0
def IL (sums:List Int):List AB→Int→Int
 | [],n=>n
 | x :: l,n=>IL sums l (if x.kind=22 then IF (IF n 1) (NH sums x.n) else IF n 1)
def KH (sums:List Int):Prop:=∀ x∈sums,0≤x∧x≤4611686018427387904
theorem Hn {sums:List Int} (hs:KH sums) (k:Int):0≤NH sums k∧NH sums k≤4611686018427387904:=by
 unfold NH
 cases h:sums[k.toNat]? with
 | none=>exact⟨by simp,by simp⟩
 | some x=>exact hs x (List.mem_of_getElem? h)
theorem bT {sums:List Int} (hs:KH sums):∀ (l:List AB) (n:Int),0≤n→n≤4611686018427387904→0≤IL sums l n∧IL sums l n≤4611686018427387904
 | [],n,h0,h1=>⟨h0,h1⟩
 | x :: l,n,h0,h1=>by
  have h2:=UD (a:=n) (b:=1) h0 (by omega) (by omega)
  have h3:=Hn hs x.n
  have h4:=UD h2.1 h3.1 h3.2
  unfold IL
  split
  ·exact bT hs l _ h4.1 h4.2
  ·exact bT hs l _ h2.1 h2.2
section
variable {call:AN} {N:Nat} {h:AA}
theorem Ef {a b:Int} (hb:0≤b∧b≤4611686018427387904) (ha:0≤a∧a≤4611686018427387904):A7 Tryd.prog call N 53 [iv a,iv b] h=some (iv (IF a b),h):=by
 refine DL Tryd.func53 rfl (by simp[Tryd.f53]) ?_
 have hr:Tryd.f53.results.toList=[.tmp 4]:=rfl
 have w1:IntKind.i64.wrap (4611686018427387904-b)=4611686018427387904-b:=C7 (by omega) (by omega)
 unfold IF
 cases d:decide (a>4611686018427387904-b) with
 | true=>
  rw[if_pos (by simpa using d)]
  simp only[eE,seval,↓eP,rP,hr,w1,d]
 | false=>
  have d':¬ a>4611686018427387904-b:=by simpa using d
  have w2:IntKind.i64.wrap (a+b)=a+b:=C7 (by omega) (by omega)
  rw[if_neg d']
  simp only[eE,seval,↓eP,rP,hr,w1,d,w2]
theorem jV {a b:Int} (h:AA) (hb:0≤b∧b≤4611686018427387904) (ha:0≤a∧a≤4611686018427387904):L1 53 [iv a,iv b] h=some (iv (IF a b),h):=KS (I3 rfl rfl) rfl rfl rfl ⟨_,Ef hb ha⟩
def aP:List (Bool × Bool × List Operand):=[AR,AR,AH [.tmp 9],AH [.tmp 9],AH [.tmp 9,.tmp 2],AH [.tmp 9],AH [.tmp 9],AL,AL,AH [.tmp 9,.tmp 2,.tmp 14,.tmp 10]]
structure JT (h:AA) (pb eb sb:Nat) (rows:List AB) (E sums:List Int):Prop where
 p:∃ v0 vr v2 v3 v4 v5 v6 v7 g,h.get pb=.row [v0,vr,v2,v3,v4,v5,v6,v7] 33 g false∧(∀ (lo hi:Nat) h',(∀ i,i<h.next→h'.get i=h.get i)→h.next≤h'.next→lo≤hi→hi≤rows.length→∃ v',HL Tryd.prog h' 26 vr (some (iv lo)) (some (iv hi)) none=some v'∧A_ h' v' ((rows.drop lo).take (hi-lo)))
 e:∃ e n c g g',h.get eb=.row [qS e n c] 27 g false∧h.get e=.row (ints E) 3 g' false∧n=E.length∧e<h.next
 s:∃ q n c g g',h.get sb=.row [qS q n c] 27 g false∧h.get q=.row (ints sums) 3 g' false∧n=sums.length∧q<h.next
 lp:pb<h.next
 le:eb<h.next
 ls:sb<h.next
theorem JT.mono {h h':AA} {pb eb sb:Nat} {rows:List AB} {E sums:List Int} (hc:JT h pb eb sb rows E sums) (hn:h.next≤h'.next) (hg:∀ i,i<h.next→h'.get i=h.get i):JT h' pb eb sb rows E sums where
 p:=by
  obtain⟨v0,vr,v2,v3,v4,v5,v6,v7,g,h1,h2⟩:=hc.p
  exact⟨v0,vr,v2,v3,v4,v5,v6,v7,g,by rw[hg pb hc.lp];exact h1,fun lo hi h2' a b=>h2 lo hi h2' (fun i hi'=>by rw[a i (by omega),hg i hi']) (by omega)⟩
 e:=by
  obtain⟨e,n,c,g,g',h1,h2,h3,h4⟩:=hc.e
  exact⟨e,n,c,g,g',by rw[hg eb hc.le];exact h1,by rw[hg e h4];exact h2,h3,by omega⟩
 s:=by
  obtain⟨e,n,c,g,g',h1,h2,h3,h4⟩:=hc.s
  exact⟨e,n,c,g,g',by rw[hg sb hc.ls];exact h1,by rw[hg e h4];exact h2,h3,by omega⟩
 lp:=by have:=hc.lp;omega
 le:=by have:=hc.le;omega
 ls:=by have:=hc.ls;omega
theorem Jf (hsn:CD call) {pb eb sb row q:Nat} {rows:List AB} {E sums:List Int} (hc:JT h pb eb sb rows E sums) (hs:KH sums) (hfl:h.floor≤h.next) (hE:E[row]?=some (q:Int)) (hrq:row≤q) (hq:q≤rows.length) (hlen:rows.length<30000000000000) (hN:rows.length+3<N)
  (hcalls:∀ x∈(rows.drop row).take (q-row),x.kind=22→0≤x.n∧x.n<sums.length) (h83:∀ a b h',0≤b∧b≤4611686018427387904→0≤a∧a≤4611686018427387904→call 53 [iv a,iv b] h'=some (iv (IF a b),h')) :
  ∃ h',A7 Tryd.prog call N 66 [iv row,qP pb 0,qP eb 0,qP sb 0] h=some (iv (IL sums ((rows.drop row).take (q-row)) 0),h')∧∀ i,i<h.next→h'.get i=h.get i:=by
 refine EH (R:=fun h'=>∀ i,i<h.next→h'.get i=h.get i) Tryd.func66 rfl (by simp[Tryd.f66]) ?_
 have hr:Tryd.f66.results.toList=[.tmp 5]:=rfl
 obtain⟨v0,vr,v2,v3,v4,v5,v6,v7,g,hg1,hsl⟩:=hc.p
 obtain⟨e,ne,ce,ge,ge',he1,he2,he3,he4⟩:=hc.e
 obtain⟨sq,ns,cs,gs,gs',hs1,hs2,hs3,hs4⟩:=hc.s
 obtain⟨v',hv1,hv2⟩:=hsl row q h (fun _ _=>rfl) (Nat.le_refl _) hrq hq
 have hrE:row<E.length:=(List.getElem?_eq_some_iff.1 hE).1
 have hll:=fun h'=>hv2.len (h':=h')
 have hseg:((rows.drop row).take (q-row)).length=q-row:=by rw[List.length_take,List.length_drop];omega
 generalize hS:(rows.drop row).take (q-row)=S at *
 have lE:=NP (ty:=3) (g:=ge') (ro:=false) hE
 obtain⟨va,vc,hve⟩:∃ a c,v'=.slice a S.length c:=by obtain⟨a,c,h1,_⟩:=hv2;exact⟨a,c,h1⟩
 subst hve
 simp only[eE,seval,↓eP,rP]
 show WK _ _ _ (.region _ _ true) _ _
 refine WK.flags (fs:=aP) (by kernel_rfl) ?_
 unfold aP
 iterate 10
  refine EE hsn ?_
  simp only[rG,seval,AC,AF,AE,CZ,DY,CQ,DI,EB,CJ,Option.map_some,JP,false_implies,CL,hg1,Q2,DG,he1,JD,FL (show row<ne by omega),AV,he2,lE,Option.map_none,hv1,hll]
 refine D_ ?_
 simp only[eE,seval,↓eP,rP]
 refine WK.loop (fun i s=>s.T.get 3=qP sb 0∧s.T.get 16=.slice va S.length vc∧s.T.get 17=iv (S.length:Int)∧s.T.get 18=iv i∧i≤S.length∧s.h.floor=h.floor∧h.next≤s.h.next∧(∀ i,i<h.next→s.h.get i=h.get i) ∧
  ∃ n:Int,s.T.get 6=iv n∧0≤n∧n≤4611686018427387904∧IL sums (S.drop i) n=IL sums S 0) S.length (by omega) ?_ ?_
 ·simp only[eE,↓reduceIte,Nat.reduceEqDiff,reduceCtorEq,↓eP,rP,Nat.reduceAdd,Nat.reduceLT]
  exact⟨by omega,by omega,fun _ _=>trivial,by omega,by omega,rfl⟩
 ·rintro i ⟨T1,H1⟩ hi ⟨t3,t16,t17,t18,hil,hf1,hn1,ho1,n,t6,hn0,hnB,hcn⟩
  simp only at t3 t16 t17 t18 hf1 hn1 ho1 t6
  by_cases hlt:i<S.length
  ·have c1:decide ((i:Int)<(S.length:Int))=true:=by simp;omega
   obtain⟨x,hx⟩:∃ x,S[i]?=some x:=⟨_,List.getElem?_eq_getElem hlt⟩
   have hv3:A_ H1 (.slice va S.length vc) S:=hv2.mono hn1 ho1
   obtain⟨id,p,e0,hid,l0,l1,l2,l3,l4,lr⟩:=hv3.row hx
   have hflo:H1.floor≤H1.next:=by omega
   have hz:flat (.agg #[.int .i64 0,.string ByteArray.empty,.int .i64 0,.int .i64 0,.int .i64 0])=true:=rfl
   have hzc:=E3 FG
   have hone:([.int .i64 x.kind,.string x.name,.int .i64 x.ends,.int .i64 x.n,.int .i64 x.kids]:List Value).all one=true:=rfl
   have hst:A9 Tryd.prog (H1.push (.row FG 61 false false)) 61 (qP H1.next 0) (.agg #[.int .i64 x.kind,.string x.name,.int .i64 x.ends,.int .i64 x.n,.int .i64 x.kids])=some ((H1.push (.row FG 61 false false)).put H1.next (.row [.int .i64 x.kind,.string x.name,.int .i64 x.ends,.int .i64 x.n,.int .i64 x.kids] 61 false false)):=by
    rw[FB,BM,RW,if_pos ⟨hflo,hone⟩]
   have hgd:((H1.push (.row FG 61 false false)).put H1.next (.row [.int .i64 x.kind,.string x.name,.int .i64 x.ends,.int .i64 x.n,.int .i64 x.kids] 61 false false)).get H1.next=.row [.int .i64 x.kind,.string x.name,.int .i64 x.ends,.int .i64 x.n,.int .i64 x.kids] 61 false false:=B0 rfl (by show H1.next<H1.next+1;omega)
   have hgo:∀ i,i<h.next→((H1.push (.row FG 61 false false)).put H1.next (.row [.int .i64 x.kind,.string x.name,.int .i64 x.ends,.int .i64 x.n,.int .i64 x.kids] 61 false false)).get i=h.get i:=fun i hi=>by rw[AX (by show H1.next<H1.next+1;omega) (by omega),AQ (by omega)];exact ho1 i hi
   have hnx:((H1.push (.row FG 61 false false)).put H1.next (.row [.int .i64 x.kind,.string x.name,.int .i64 x.ends,.int .i64 x.n,.int .i64 x.kids] 61 false false)).next=H1.next+1:=rfl
   have hfl2:((H1.push (.row FG 61 false false)).put H1.next (.row [.int .i64 x.kind,.string x.name,.int .i64 x.ends,.int .i64 x.n,.int .i64 x.kids] 61 false false)).floor=H1.floor:=rfl
   generalize (H1.push (.row FG 61 false false)).put H1.next (.row [.int .i64 x.kind,.string x.name,.int .i64 x.ends,.int .i64 x.n,.int .i64 x.kids] 61 false false)=H2 at *
   have p1:=UD (a:=n) (b:=1) hn0 (by omega) (by omega)
   have h831:=fun hh=>h83 n 1 hh (by omega) ⟨hn0,hnB⟩
   have w1:=ET i (by omega)
   have hdr:S.drop i=x :: S.drop (i+1):=by
    obtain⟨hl,rfl⟩:=List.getElem?_eq_some_iff.1 hx
    exact List.drop_eq_getElem_cons hl
   rw[hdr] at hcn
   change IL sums (S.drop (i+1)) (if x.kind=22 then IF (IF n 1) (NH sums x.n) else IF n 1)=_ at hcn
   cases d22:(x.kind==22) with
   | false=>
    rw[if_neg (by simpa using d22)] at hcn
    simp only[eE,seval,↓eP,t3,t16,t17,t18,t6,c1,e0,IG,lr,FY,hz,hzc,hst,h831,CW,AV,hgd,JD,d22,w1]
    exact⟨by omega,by omega,by rw[hfl2];exact hf1,by omega,hgo,p1.1,p1.2,hcn⟩
   | true=>
    have k22:x.kind=22:=by simpa using d22
    rw[if_pos k22] at hcn
    obtain⟨c0,c2⟩:=hcalls x (List.mem_of_getElem? hx) k22
    obtain⟨j,hj⟩:∃ j:Nat,x.n=(j:Int):=⟨x.n.toNat,by omega⟩
    have hjl:j<sums.length:=by omega
    obtain⟨y,hy⟩:∃ y,sums[j]?=some y:=⟨_,List.getElem?_eq_getElem hjl⟩
    have hyy:=hs y (List.mem_of_getElem? hy)
    have hsa:NH sums x.n=y:=by unfold NH;rw[show x.n.toNat=j by omega,hy];rfl
    rw[hsa] at hcn
    have hgs:H2.get sb=.row [qS sq ns cs] 27 gs false:=by rw[hgo sb hc.ls];exact hs1
    have hgq:H2.get sq=.row (ints sums) 3 gs' false:=by rw[hgo sq hs4];exact hs2
    have lS:=NP (ty:=3) (g:=gs') (ro:=false) hy
    have h832:=fun hh=>h83 (IF n 1) y hh hyy p1
    have ix:CM Tryd.prog 27 (qS sq ns cs) (iv x.n)=some (qP sq j):=by rw[hj];exact FL (show j<ns by omega)
    have p2:=UD p1.1 hyy.1 hyy.2
    simp only[eE,seval,↓eP,Nat.zero_add,t3,t16,t17,t18,t6,c1,e0,IG,lr,FY,hz,hzc,hst,h831,CW,GI,AV,hgd,JD,QY,d22,w1,DG,hgs,ix,hgq,lS,h832]
    exact⟨by omega,by omega,by rw[hfl2];exact hf1,by omega,hgo,p2.1,p2.2,hcn⟩
  ·have c1:decide ((i:Int)<(S.length:Int))=false:=by simp;omega
   have hn:IL sums S 0=n:=by
    rw[← hcn,List.drop_of_length_le (by omega)]
    rfl
   rw[hn]
   simp only[eE,seval,↓eP,hr,t17,t18,t6,c1]
   exact ho1
end
def GN (rows:List AB) (E sums:List Int) (row:Nat):Int:=IL sums ((rows.drop row).take (((E[row]?).getD 0).toNat-row)) 0
def OW (rows:List AB) (E:List Int):List Int→Nat→List Int→List Int
 | [],_,sums=>sums
 | ru :: rest,i,sums=>OW rows E rest (i+1) (sums.set i (GN rows E sums ru.toNat))
def KX (rows:List AB) (E rules:List Int):List Int:=OW rows E rules 0 (List.replicate rules.length 0)
structure PC (rows:List AB) (E rules:List Int):Prop where
 len:rows.length<2932031007403
 e:E.length=rows.length
 ends:∀ i,i<rows.length→∃ q:Nat,E[i]?=some (q:Int)∧i<q∧q≤rows.length
 rl:∀ ru∈rules,0≤ru∧ru<rows.length
 nrules:rules.length<1000000
 calls:∀ x∈rows,x.kind=22→0≤x.n∧x.n<rules.length
theorem sH (n:Nat):KH (List.replicate n 0):=fun x hx=>by
 rw[List.mem_replicate] at hx
 rw[hx.2]
 omega
theorem kR {sums:List Int} (hs:KH sums) (i:Nat) {x:Int} (hx:0≤x∧x≤4611686018427387904):KH (sums.set i x):=fun y hy=>by
 rcases List.mem_or_eq_of_mem_set hy with h | h
 ·exact hs y h
 ·rw[h];exact hx
theorem XW {rows:List AB} {E sums:List Int} (hs:KH sums) (row:Nat):0≤GN rows E sums row∧GN rows E sums row≤4611686018427387904:=bT hs _ 0 (by omega) (by omega)
theorem qI {rows:List AB} {E:List Int}:∀ (l:List Int) (i:Nat) (sums:List Int),KH sums→KH (OW rows E l i sums)∧(OW rows E l i sums).length=sums.length
 | [],i,sums,hs=>⟨hs,rfl⟩
 | ru :: rest,i,sums,hs=>by
  have:=qI (rows:=rows) (E:=E) rest (i+1) (sums.set i (GN rows E sums ru.toNat)) (kR hs _ (XW hs _))
  rw[List.length_set] at this
  exact this
theorem cT {rows:List AB} {E rules:List Int}:KH (KX rows E rules)∧(KX rows E rules).length=rules.length:=by
 have:=qI (rows:=rows) (E:=E) rules 0 _ (sH rules.length)
 rw[List.length_replicate] at this
 exact this
def aJ:List (Bool × Bool × List Operand):=[(true,false,[]),E9 [.tmp 5],AH [.tmp 5],AH [.tmp 5],AH [.tmp 5],AL,AL]
theorem JT.flr {h:AA} {pb eb sb:Nat} {rows:List AB} {E sums:List Int} (hc:JT h pb eb sb rows E sums) (f:Nat):JT (h.fl f) pb eb sb rows E sums:=hc.mono (Nat.le_refl _) fun _ _=>rfl
section
variable {call:AN} {N:Nat} {h:AA}
theorem Dx (hsn:CD call) {rows:List AB} {E rules:List Int} (hL:PC rows E rules) {v0 vr v2 v3 v4 vu v6 v7:Value} {e ce:Nat} {ge:Bool} (hone:[v0,vr,v2,v3,v4,vu,v6,v7].all one=true) (hfl:h.floor≤h.next) (hN:rows.length+3<N) (hN2:rules.length+3<N)
  (hsl:∀ (lo hi:Nat) h',(∀ i,i<h.next→h'.get i=h.get i)→h.next≤h'.next→lo≤hi→hi≤rows.length→∃ v',HL Tryd.prog h' 26 vr (some (iv lo)) (some (iv hi)) none=some v'∧A_ h' v' ((rows.drop lo).take (hi-lo)))
  (hul:∀ h',CX Tryd.prog h' 27 vu=some (iv (rules.length:Int))) (hus:∃ a c,vu=.slice a rules.length c)
  (hu:∀ h':AA,(∀ i,i<h.next→h'.get i=h.get i)→∀ (i:Nat) ru,rules[i]?=some ru→∃ id off,CM Tryd.prog 27 vu (iv i)=some (qP id off)∧AJ off (h'.get id)=some (iv ru))
  (he:h.get e=.row (ints E) 3 ge false) (hel:e<h.next)
  (h88:∀ pb eb sb (row:Nat) sums h',JT h' pb eb sb rows E sums→sums.length=rules.length→KH sums→h'.floor≤h'.next→row<rows.length→call 66 [iv row,qP pb 0,qP eb 0,qP sb 0] h'=some (iv (GN rows E sums row),h')) :
  ∃ h',A7 Tryd.prog call N 52 [.agg #[v0,vr,v2,v3,v4,vu,v6,v7],qS e E.length ce] h=some (.func (.func 66) #[] #[qP h.next 0,qP (h.next+1) 0,qP (h.next+3) 0],h') ∧
   (JT h' h.next (h.next+1) (h.next+3) rows E (KX rows E rules)∧h.next≤h'.next∧h'.floor=h.floor∧∀ i,i<h.next→h'.get i=h.get i):=by
 refine EH (R:=fun h'=>JT h' h.next (h.next+1) (h.next+3) rows E (KX rows E rules)∧h.next≤h'.next∧h'.floor=h.floor∧∀ i,i<h.next→h'.get i=h.get i) Tryd.func52 rfl (by simp[Tryd.f52]) ?_
 have hr:Tryd.f52.results.toList=[.tmp 4]:=rfl
 have hlen:=hL.len
 have hnr:=hL.nrules
 obtain⟨ua,uc,rfl⟩:=hus
 have hcs:∀ a n c,(Value.slice a n c).cells.toList=[.slice a n c]:=fun _ _ _=>rfl
 have hos:∀ a n c,([.slice a n c]:List Value).all one=true:=fun _ _ _=>rfl
 have hca:=E3 [v0,vr,v2,v3,v4,.slice ua rules.length uc,v6,v7]
 have z28:DC Tryd.prog 27=some (Z0):=by kernel_rfl
 have fz:flat (Z0)=true:=rfl
 have hmk:=fun hh=>oZ (h:=hh) (show rules.length<30000000000000 by omega)
 have ld5:∀ {a b c d e' f:Value} {l:List Value} {ty:TypeId} {g ro:Bool},AJ 5 (.row (a :: b :: c :: d :: e' :: f :: l) ty g ro)=some f:=rfl
 have hst:∀ hh:AA,hh.get (h.next+3)=.row [Z0] 27 false false→hh.floor≤h.next+3→∀ a n c,A9 Tryd.prog hh 27 (qP (h.next+3) 0) (.slice a n c)=some (hh.put (h.next+3) (.row [.slice a n c] 27 false false)):=fun hh hg hf a n c=>HD LU rfl rfl hg (by decide) hf
 generalize hA:BC.row [v0,vr,v2,v3,v4,.slice ua rules.length uc,v6,v7] 33 false false=A at *
 generalize hB:BC.row [qS e E.length ce] 27 false false=B at *
 have hst0:=hst ((((h.push A).push B).push (.row (ints (List.replicate rules.length 0)) 3 false false)).push (.row [Z0] 27 false false)) BM (by show h.floor≤h.next+3;omega) (some ⟨h.next+2,0,none⟩) rules.length rules.length
 have a5:AJ 5 A=some (.slice ua rules.length uc):=by rw[← hA];rfl
 have hX:∀ C D o,let H:=((((h.push A).push B).push C).push D).put (h.next+3) o
   H.get h.next=A∧H.get (h.next+1)=B∧H.get (h.next+2)=C∧H.get (h.next+3)=o∧H.next=h.next+4∧H.floor=h.floor∧∀ i,i<h.next→H.get i=h.get i:=fun C D o=>by
  have q1:(h.push A).next=h.next+1:=rfl
  have q2:((h.push A).push B).next=h.next+2:=rfl
  have q3:(((h.push A).push B).push C).next=h.next+3:=rfl
  have q4:((((h.push A).push B).push C).push D).next=h.next+4:=rfl
  refine⟨?_,?_,?_,B0 rfl (by omega),rfl,rfl,fun i hi=>?_⟩
  ·rw[AX (by omega) (by omega),AQ (by omega),AQ (by omega),AQ (by omega),BM]
  ·rw[AX (by omega) (by omega),AQ (by omega),AQ (by omega)]
   exact BM (h:=h.push A)
  ·rw[AX (by omega) (by omega),AQ (by omega)]
   exact BM (h:=(h.push A).push B)
  ·rw[AX (by omega) (by omega),AQ (by omega),AQ (by omega),AQ (by omega),AQ hi]
 have gA2:((h.push A).push B).get h.next=A:=by
  rw[AQ (by show h.next<h.next+1;omega),BM]
 obtain⟨x0,x1,x2,x3,x4,x5,x6⟩:=hX (.row (ints (List.replicate rules.length 0)) 3 false false) (.row [Z0] 27 false false) (.row [qS (h.next+2) rules.length rules.length] 27 false false)
 simp only[eE,seval,↓eP,hca,hone,hcs,hos,HM,LU,hA,hB,BZ,Nat.add_assoc,Nat.reduceAdd,Nat.zero_add,KY,DG,gA2,a5,hul,hmk,z28,fz,hst0,List.map_toArray,x0]
 generalize hH:((((h.push A).push B).push (.row (ints (List.replicate rules.length 0)) 3 false false)).push (.row [Z0] 27 false false)).put (h.next+3) (.row [qS (h.next+2) rules.length rules.length] 27 false false)=H at *
 have mkC:∀ (H':AA) sums,H'.get h.next=A→H'.get (h.next+1)=B→H'.get (h.next+3)=.row [qS (h.next+2) rules.length rules.length] 27 false false→H'.get (h.next+2)=.row (ints sums) 3 false false→sums.length=rules.length→H'.next=h.next+4→(∀ i,i<h.next→H'.get i=h.get i)→JT H' h.next (h.next+1) (h.next+3) rows E sums:=fun H' sums g0 g1 g3 g2 hl hn ho=>
  { p:=⟨_,_,_,_,_,_,_,_,_,g0.trans hA.symm,fun lo hi h2 a b=>hsl lo hi h2 (fun i hi=>by rw[a i (by omega),ho i hi]) (by omega)⟩
    e:=⟨e,E.length,ce,_,_,g1.trans hB.symm,by rw[ho e hel];exact he,rfl,by omega⟩
    s:=⟨h.next+2,rules.length,rules.length,_,_,g3,g2,hl.symm,by omega⟩
    lp:=by omega
    le:=by omega
    ls:=by omega }
 refine WK.loop (fun i s=>s.T.get 5=qP (h.next+3) 0∧s.T.get 6=.func (.func 66) #[] #[qP h.next 0,qP (h.next+1) 0,qP (h.next+3) 0]∧s.T.get 15=.slice ua rules.length uc∧s.T.get 16=iv (rules.length:Int)∧s.T.get 17=iv i∧i≤rules.length ∧
  s.h.get h.next=A∧s.h.get (h.next+1)=B∧s.h.get (h.next+3)=.row [qS (h.next+2) rules.length rules.length] 27 false false∧s.h.next=h.next+4∧s.h.floor=h.floor∧(∀ i,i<h.next→s.h.get i=h.get i) ∧
  ∃ sums,s.h.get (h.next+2)=.row (ints sums) 3 false false∧sums.length=rules.length∧KH sums∧OW rows E (rules.drop i) i sums=KX rows E rules) rules.length (by omega) ?_ ?_
 ·simp only[eE,↓reduceIte,Nat.reduceEqDiff,reduceCtorEq,↓eP,rP,Nat.reduceAdd,Nat.reduceLT]
  exact⟨rfl,x0,x1,x3,x4,x5,x6,_,x2,by rw[List.length_replicate],sH _,rfl⟩
 ·rintro i ⟨T1,H1⟩ hi ⟨t5,t6,t15,t16,t17,hil,y0,y1,y3,y4,y5,y6,sums,y2,ysl,yS,yF⟩
  simp only at t5 t6 t15 t16 t17 y0 y1 y2 y3 y4 y5 y6
  have hC:=mkC H1 sums y0 y1 y3 y2 ysl y4 y6
  by_cases hlt:i<rules.length
  ·have c1:decide ((i:Int)<(rules.length:Int))=true:=by simp;omega
   obtain⟨ru,hru⟩:∃ ru,rules[i]?=some ru:=⟨_,List.getElem?_eq_getElem hlt⟩
   obtain⟨id,off,ix,lx⟩:=hu H1 y6 i ru hru
   have hrr:=hL.rl ru (List.mem_of_getElem? hru)
   obtain⟨row,hrow⟩:∃ row:Nat,ru=(row:Int):=⟨ru.toNat,by omega⟩
   subst hrow
   have hcall:=h88 h.next (h.next+1) (h.next+3) row sums (H1.fl (max H1.floor H1.next)) (hC.flr _) ysl yS (by show max H1.floor H1.next≤H1.next;omega) (by omega)
   have hd3:decide (h.next+3<H1.next)=true:=by simp;omega
   have w1:=ET i (by omega)
   have hcA:=XW (rows:=rows) (E:=E) yS row
   have hst:=LH (x:=GN rows E sums row) y2 (by omega:i<sums.length) (by omega)
   simp only[eE,seval,↓eP,t15,t16,t17,c1,ix,AV,lx]
   show WK _ _ _ (.region _ _ true) _ _
   refine WK.flags (fs:=aJ) (by kernel_rfl) ?_
   unfold aJ
   iterate 7
    refine EE hsn ?_
    simp only[rG,seval,AC,AF,AE,CZ,DY,CQ,DI,EB,t5,DG,y3,JD,hd3,t6,hcall,FL hlt,hst]
   refine D_ ?_
   have hn2:h.next+2<H1.next:=by omega
   simp only[eE,seval,↓eP,t5,t6,t15,t16,t17,w1]
   refine⟨hlt,by omega,?_,?_,?_,y4,y5,fun j hj=>?_,_,B0 rfl hn2,by rw[List.length_set];exact ysl,kR yS _ hcA,?_⟩
   ·rw[AX hn2 (by omega)];exact y0
   ·rw[AX hn2 (by omega)];exact y1
   ·rw[AX hn2 (by omega)];exact y3
   ·rw[AX hn2 (by omega)];exact y6 j hj
   ·rw[← yF,List.drop_eq_getElem_cons hlt]
    have:rules[i]=(row:Int):=(List.getElem?_eq_some_iff.1 hru).2
    rw[this]
    rfl
  ·have c1:decide ((i:Int)<(rules.length:Int))=false:=by simp;omega
   have hF:sums=KX rows E rules:=by
    rw[← yF,List.drop_of_length_le (by omega)]
    rfl
   rw[← hF]
   simp only[eE,seval,↓eP,hr,t16,t17,t6,c1]
   exact⟨hC,by omega,y5,y6⟩
end
def SN (rows:List AB) (E sums:List Int):List AB→Nat→Int→Int
 | [],_,_=>-1
 | x :: l,at_,n=>if ID x.kind=false then SN rows E sums l (at_+1) n
  else if IF n (GN rows E sums (at_+1))>16384 then at_ else SN rows E sums l (at_+1) (IF n (GN rows E sums (at_+1)))
def KK (rows:List AB) (E rules:List Int):Int:=SN rows E (KX rows E rules) rows 0 0
section
variable {call:AN} {N:Nat} {h:AA} {lo m k c e r n:Nat} {nm:ByteArray} {E:List Int} {tag:Nat→Nat} {vq vv vt vu vo:Value} {es:List (Value × Value)} {s:AK}
theorem My (hp:BQ h lo m k c e r n nm E tag vq vv vt vu vo es s) (hL:PC s.rows E s.rules) (hfl:h.floor≤h.next) (hN:s.rows.length+3<N) {ev_:Value} (hkinds:∀ x∈s.rows,1≤x.kind∧x.kind≤54)
  (hevs:∀ i x,s.rows[i]?=some x→ID x.kind=true→i+1<s.rows.length) {pb eb sb:Nat}
  (h72:∃ h',call 52 [.agg #[.string nm,qS r n AP,vq,vv,vt,vu,vo,iv s.miss],ev_] h=some (.func (.func 66) #[] #[qP pb 0,qP eb 0,qP sb 0],h') ∧
   (JT h' pb eb sb s.rows E (KX s.rows E s.rules)∧h.next≤h'.next∧h'.floor=h.floor∧∀ i,i<h.next→h'.get i=h.get i))
  (h82:∀ k h',1≤k∧k≤54→call 51 [iv k] h'=some (.bool (ID k),h')) (h83:∀ a b h',0≤b∧b≤4611686018427387904→0≤a∧a≤4611686018427387904→call 53 [iv a,iv b] h'=some (iv (IF a b),h'))
  (h88:∀ (row:Nat) h',JT h' pb eb sb s.rows E (KX s.rows E s.rules)→h'.floor≤h'.next→row<s.rows.length→call 66 [iv row,qP pb 0,qP eb 0,qP sb 0] h'=some (iv (GN s.rows E (KX s.rows E s.rules) row),h')) :
  ∃ h',A7 Tryd.prog call N 34 [qP m 0,ev_] h=some (iv (KK s.rows E s.rules),h')∧∀ i,i<h.next→h'.get i=h.get i:=by
 refine EH (R:=fun h'=>∀ i,i<h.next→h'.get i=h.get i) Tryd.func34 rfl (by simp[Tryd.f34]) ?_
 have hr:Tryd.f34.results.toList=[.tmp 4]:=rfl
 obtain⟨h1,hcl,hC,hn1,hf1,ho1⟩:=h72
 have hlen:=hL.len
 have hsl:=hp.pol.len
 have hmn:=hp.lm.2
 have l8:AW 8 0 (h.get m)=some (.agg #[.string nm,qS r n AP,vq,vv,vt,vu,vo,iv s.miss]):=by rw[hp.cell];rfl
 have c1:AJ 1 (h1.get m)=some (qS r n AP):=by rw[ho1 m hmn];exact hp.c1
 have hv1:A_ h1 (qS r n AP) s.rows:=hp.pol.at.mono hn1 ho1
 have hll:=fun h'=>hv1.len (h':=h')
 have hS:=(cT (rows:=s.rows) (E:=E) (rules:=s.rules)).1
 simp only[eE,↓reduceIte,Nat.reduceEqDiff,reduceCtorEq,↓eP,Nat.reduceAdd,Nat.zero_add,IX,CJ,CT,l8,hcl,CL,c1,hll]
 generalize hsum:KX s.rows E s.rules=sums at *
 refine WK.loop (fun i s'=>s'.T.get 5=.func (.func 66) #[] #[qP pb 0,qP eb 0,qP sb 0]∧s'.T.get 19=qS r n AP∧s'.T.get 20=iv (s.rows.length:Int)∧s'.T.get 21=iv i∧i≤s.rows.length∧s'.h.floor=h1.floor∧h1.next≤s'.h.next∧(∀ i,i<h1.next→s'.h.get i=h1.get i) ∧
  ∃ a:Int,s'.T.get 6=iv a∧0≤a∧a≤4611686018427387904∧SN s.rows E sums (s.rows.drop i) i a=KK s.rows E s.rules) s.rows.length (by omega) ?_ ?_
 ·simp only[eE,↓reduceIte,Nat.reduceEqDiff,reduceCtorEq,↓eP,rP,Nat.reduceAdd,Nat.reduceLT]
  refine⟨by omega,by omega,fun _ _=>trivial,by omega,by omega,?_⟩
  unfold KK
  rw[hsum]
  rfl
 ·rintro i ⟨T1,H1⟩ hi ⟨t5,t19,t20,t21,hil,hf2,hn2,ho2,a,t6,ha0,haB,hcn⟩
  simp only at t5 t19 t20 t21 hf2 hn2 ho2 t6
  by_cases hlt:i<s.rows.length
  ·have c1:decide ((i:Int)<(s.rows.length:Int))=true:=by simp;omega
   obtain⟨x,hx⟩:∃ x,s.rows[i]?=some x:=⟨_,List.getElem?_eq_getElem hlt⟩
   have hv3:A_ H1 (qS r n AP) s.rows:=hv1.mono hn2 ho2
   obtain⟨id,p,e0,hid,l0,l1,l2,l3,l4,lr⟩:=hv3.row hx
   have hkx:=hkinds x (List.mem_of_getElem? hx)
   have hev:=fun h'=>h82 x.kind h' hkx
   have hflo:H1.floor≤H1.next:=by omega
   have hz:flat (.agg #[.int .i64 0,.string ByteArray.empty,.int .i64 0,.int .i64 0,.int .i64 0])=true:=rfl
   have hzc:=E3 FG
   have hone:([.int .i64 x.kind,.string x.name,.int .i64 x.ends,.int .i64 x.n,.int .i64 x.kids]:List Value).all one=true:=rfl
   have hst:A9 Tryd.prog (H1.push (.row FG 61 false false)) 61 (qP H1.next 0) (.agg #[.int .i64 x.kind,.string x.name,.int .i64 x.ends,.int .i64 x.n,.int .i64 x.kids])=some ((H1.push (.row FG 61 false false)).put H1.next (.row [.int .i64 x.kind,.string x.name,.int .i64 x.ends,.int .i64 x.n,.int .i64 x.kids] 61 false false)):=by
    rw[FB,BM,RW,if_pos ⟨hflo,hone⟩]
   have hgd:((H1.push (.row FG 61 false false)).put H1.next (.row [.int .i64 x.kind,.string x.name,.int .i64 x.ends,.int .i64 x.n,.int .i64 x.kids] 61 false false)).get H1.next=.row [.int .i64 x.kind,.string x.name,.int .i64 x.ends,.int .i64 x.n,.int .i64 x.kids] 61 false false:=B0 rfl (by show H1.next<H1.next+1;omega)
   have hgo:∀ i,i<h1.next→((H1.push (.row FG 61 false false)).put H1.next (.row [.int .i64 x.kind,.string x.name,.int .i64 x.ends,.int .i64 x.n,.int .i64 x.kids] 61 false false)).get i=h1.get i:=fun i hi=>by rw[AX (by show H1.next<H1.next+1;omega) (by omega),AQ (by omega)];exact ho2 i hi
   have hnx:((H1.push (.row FG 61 false false)).put H1.next (.row [.int .i64 x.kind,.string x.name,.int .i64 x.ends,.int .i64 x.n,.int .i64 x.kids] 61 false false)).next=H1.next+1:=rfl
   have hfl2:((H1.push (.row FG 61 false false)).put H1.next (.row [.int .i64 x.kind,.string x.name,.int .i64 x.ends,.int .i64 x.n,.int .i64 x.kids] 61 false false)).floor=H1.floor:=rfl
   generalize (H1.push (.row FG 61 false false)).put H1.next (.row [.int .i64 x.kind,.string x.name,.int .i64 x.ends,.int .i64 x.n,.int .i64 x.kids] 61 false false)=H2 at *
   have w1:=ET i (by omega)
   have hdr:s.rows.drop i=x :: s.rows.drop (i+1):=by
    obtain⟨hl,rfl⟩:=List.getElem?_eq_some_iff.1 hx
    exact List.drop_eq_getElem_cons hl
   rw[hdr] at hcn
   change (if ID x.kind=false then SN s.rows E sums (s.rows.drop (i+1)) (i+1) a else if IF a (GN s.rows E sums (i+1))>16384 then (i:Int) else SN s.rows E sums (s.rows.drop (i+1)) (i+1) (IF a (GN s.rows E sums (i+1))))=_ at hcn
   cases dv:ID x.kind with
   | false=>
    rw[if_pos dv] at hcn
    simp only[eE,seval,↓eP,t5,t6,t19,t20,t21,c1,e0,IG,lr,FY,hz,hzc,hst,CW,AV,hgd,JD,hev,dv,w1]
    exact⟨by omega,by omega,by rw[hfl2];exact hf2,by omega,hgo,ha0,haB,hcn⟩
   | true=>
    rw[if_neg (by rw[dv];simp)] at hcn
    have hi1:=hevs i x hx dv
    have hC2:JT H2 pb eb sb s.rows E sums:=hC.mono (by omega) hgo
    have hcall:=h88 (i+1) H2 hC2 (by omega) hi1
    have hcA:=XW (rows:=s.rows) (E:=E) hS (i+1)
    have hpl:=h83 a _ H2 hcA ⟨ha0,haB⟩
    have hpn:=UD ha0 hcA.1 hcA.2
    cases dg:decide (IF a (GN s.rows E sums (i+1))>16384) with
    | true=>
     rw[if_pos (by simpa using dg)] at hcn
     rw[← hcn]
     simp only[eE,seval,↓eP,hr,t5,t6,t19,t20,t21,c1,e0,IG,lr,FY,hz,hzc,hst,CW,AV,hgd,JD,hev,dv,w1,hcall,hpl,dg]
     exact fun j hj=>by rw[hgo j (by omega)];exact ho1 j hj
    | false=>
     rw[if_neg (by simpa using dg)] at hcn
     simp only[eE,seval,↓eP,t5,t6,t19,t20,t21,c1,e0,IG,lr,FY,hz,hzc,hst,CW,AV,hgd,JD,hev,dv,w1,hcall,hpl,dg]
     exact⟨by omega,by omega,by rw[hfl2];exact hf2,by omega,hgo,hpn.1,hpn.2,hcn⟩
  ·have c1:decide ((i:Int)<(s.rows.length:Int))=false:=by simp;omega
   have hn:KK s.rows E s.rules=-1:=by
    rw[← hcn,List.drop_of_length_le (by omega)]
    rfl
   rw[hn]
   simp only[eE,seval,↓eP,hr,t20,t21,c1]
   exact fun j hj=>by rw[ho2 j (by omega)];exact ho1 j hj
end
def CR (l:List AB):AK:=⟨l,[],[],[],[],[],-1,[]⟩
def FE (E:List Int) (at_:Nat) (s:AK):Int × AK:=
 match s.rows[at_]? with
 | none=>(0,s)
 | some x=>
  if FD x s≠0 then (FD x s,s) else
  match (BO at_ ((E[at_]?).getD 0) x s).rows[at_]? with
  | none=>(0,s)
  | some x1=>
   if DP at_ x1 (BO at_ ((E[at_]?).getD 0) x s)≠0 then (DP at_ x1 (BO at_ ((E[at_]?).getD 0) x s),s) else
   match (B8 at_ x1 (BO at_ ((E[at_]?).getD 0) x s)).rows[at_]? with
   | none=>(0,s)
   | some x2=>if FF x2 (B8 at_ x1 (BO at_ ((E[at_]?).getD 0) x s))≠0 then (FF x2 (B8 at_ x1 (BO at_ ((E[at_]?).getD 0) x s)),s)
    else (0,EC at_ x2 (B8 at_ x1 (BO at_ ((E[at_]?).getD 0) x s)))
def DO (E:List Int):Nat→Nat→AK→Int × Nat × AK
 | 0,at_,s=>(0,at_,s)
 | r+1,at_,s=>if (FE E at_ s).1≠0 then ((FE E at_ s).1,at_,s) else DO E r (at_+1) (FE E at_ s).2
noncomputable def BE (l:List AB):(Int × Int) × AK:=
 if (C4 l).1≠0 then (C4 l,CR l) else
 let g:=DO (BR l) l.length 0 (CR l)
 if g.1≠0 then ((g.1,(g.2.1:Int)),CR l) else
 let b:=KK g.2.2.rows (BR l) g.2.2.rules
 if b≥0 then ((34,b),CR l) else ((0,0),g.2.2)
theorem DW.fit {l:List AB} {at_ q:Nat} (h:DW l at_ q):∃ x,l[at_]?=some x∧DK AY x=true:=by
 rcases h with⟨m,what,h⟩ | ⟨rfl,m,h⟩
 ·cases m with
  | zero=>cases h
  | succ m=>
   cases hx:l[at_]? with
   | none=>rw[fJ hx] at h;cases h
   | some x=>
    rw[YA hx] at h
    split at h
    ·rename_i hc
     simp only[Bool.and_eq_true] at hc
     exact⟨x,rfl,hc.2⟩
    ·cases h
 ·cases hx:l[0]? with
  | none=>rw[dM hx] at h;cases h
  | some x=>
   rw[UY hx] at h
   split at h
   ·rename_i hc
    simp only[Bool.and_eq_true] at hc
    exact⟨x,rfl,hc.2⟩
   ·cases h
theorem CN.row {l:List AB} (h:CN l) {i:Nat} {x:AB} (hx:l[i]?=some x):DK AY x=true∧(1≤x.kind∧x.kind≤54)∧F6 x.kind≤x.kids∧i+1+x.kids.toNat≤AD l i∧AD l i≤l.length:=by
 have hi:=(List.getElem?_eq_some_iff.1 hx).1
 have hs:=h.end hi
 obtain⟨y,hy,h1⟩:=hs.fit
 obtain⟨z,hz,h2,h3,h4⟩:=hs.kids
 rw[hx] at hy hz
 cases hy
 cases hz
 refine⟨h1,h3,?_,IU _ _ _ h4,hs.lt.2⟩
 unfold DK at h1
 simp only[Bool.and_eq_true,decide_eq_true_eq] at h1
 omega
theorem Ja {k:Int} (h:ID k=true) (h10:k≠10):EK k=1∧BS k=0:=by
 unfold ID at h
 simp only[Bool.and_eq_true,decide_eq_true_eq] at h
 obtain rfl | rfl:k=8∨k=9:=by omega
 ·exact⟨rfl,rfl⟩
 ·exact⟨rfl,rfl⟩
theorem M_ {l:List AB} {k i:Nat} {n:Int} (h:i≠k):(F8 l k n)[i]?=l[i]?:=by
 unfold F8
 split
 ·rw[List.getElem?_set_ne (Ne.symm h)]
 ·rfl
structure HY (l:List AB) (at_:Nat) (s:AK):Prop where
 wf:MN s
 len:s.rows.length=l.length
 same:∀ (i:Nat) (x:AB),s.rows[i]?=some x→∃ y:AB,l[i]?=some y∧x={ y with n:=x.n }
 later:∀ i:Nat,at_≤i→s.rows[i]?=l[i]?
 rl:∀ ru∈s.rules,0≤ru∧ru<l.length
 calls:∀ (i:Nat) (x:AB),i<at_→s.rows[i]?=some x→x.kind=22→0≤x.n∧x.n<s.rules.length
theorem cX (l:List AB):HY l 0 (CR l) where
 wf:=⟨by simp[CR],by simp[CR],by simp[CR],by simp[CR],rfl,fun t ht=>by simp[CR] at ht⟩
 len:=rfl
 same:=fun i x hx=>⟨x,hx,rfl⟩
 later:=fun _ _=>rfl
 rl:=fun ru h=>by simp[CR] at h
 calls:=fun i x h=>by omega
theorem W3 {at_:Nat} {end_:Int} {x:AB} {s:AK}:(BO at_ end_ x s).rows=if BS x.kind=0 then s.rows else F8 s.rows at_ (BW s (BS x.kind)):=by
 unfold BO
 split <;> rfl
theorem aC {l:List GC} {x:ByteArray} {t:GC} (h:F9 l x=some t):t∈l:=List.mem_of_find?_eq_some h
theorem wC {l:List AB} {E:List Int} {at_:Nat} {s:AK} {x:AB} (ht:CN l) (hE:0≤(E[at_]?).getD 0) (hi:HY l at_ s) (hx:s.rows[at_]?=some x) (hd:FD x s=0) :
  MN (BO at_ ((E[at_]?).getD 0) x s)∧(BO at_ ((E[at_]?).getD 0) x s).rows.length=l.length∧(∃ n,(BO at_ ((E[at_]?).getD 0) x s).rows[at_]?=some { x with n:=n })∧(∀ i,i≠at_→(BO at_ ((E[at_]?).getD 0) x s).rows[i]?=s.rows[i]?) ∧
  (∀ ru∈(BO at_ ((E[at_]?).getD 0) x s).rules,0≤ru∧ru<l.length)∧s.rules.length≤(BO at_ ((E[at_]?).getD 0) x s).rules.length:=by
 have hxl:l[at_]?=some x:=by rw[← hi.later at_ (Nat.le_refl _)];exact hx
 unfold BO
 unfold FD at hd
 by_cases d0:BS x.kind=0
 ·rw[if_pos d0]
  exact⟨hi.wf,hi.len,⟨x.n,hx⟩,fun _ _=>rfl,hi.rl,Nat.le_refl _⟩
 ·rw [if_neg d0] at hd ⊢
  have hne:(BW s (BS x.kind):Int)≠JF (BS x.kind):=fun h=>by
   split at hd
   ·cases hd
   ·omega
  refine⟨tD hi.wf d0 hne hE,?_,⟨_,J9 hx⟩,fun i hne=>M_ hne,fun ru hru=>?_,?_⟩
  ·exact QB.trans hi.len
  ·simp only[E5] at hru
   split at hru
   ·rename_i h4
    simp only[List.mem_append,List.mem_cons,List.not_mem_nil,or_false] at hru
    rcases hru with h | rfl
    ·exact hi.rl ru h
    ·have:=ht.row hxl
     have h7:x.kind=7:=by
      revert h4
      unfold BS
      (repeat' split) <;> simp_all
     have hl7:F6 x.kind=0∨0<F6 x.kind:=by have:=QJ x.kind;omega
     have h1:F6 x.kind=1:=by rw[h7];rfl
     omega
   ·exact hi.rl ru hru
  ·simp only[E5]
   split
   ·simp
   ·exact Nat.le_refl _
theorem VY {l:List AB} {E:List Int} {at_:Nat} {s:AK} (ht:CN l) (hE:0≤(E[at_]?).getD 0) (hat:at_<l.length) (hi:HY l at_ s) (h0:(FE E at_ s).1=0):HY l (at_+1) (FE E at_ s).2:=by
 obtain⟨x,hx⟩:∃ x,s.rows[at_]?=some x:=⟨_,List.getElem?_eq_getElem (by rw[hi.len];exact hat)⟩
 have hxl:l[at_]?=some x:=by rw[← hi.later at_ (Nat.le_refl _)];exact hx
 unfold FE at h0 ⊢
 rw[hx] at h0 ⊢
 simp only at h0 ⊢
 by_cases hd:FD x s=0
 case neg=>rw[if_pos hd] at h0;exact absurd h0 hd
 rw[if_neg (by simpa using hd)] at h0 ⊢
 obtain⟨w1,n1,⟨k1,r1⟩,o1,u1,c1⟩:=wC ht hE hi hx hd
 generalize BO at_ ((E[at_]?).getD 0) x s=s1 at *
 rw[r1] at h0 ⊢
 simp only at h0 ⊢
 by_cases hc:DP at_ { x with n:=k1 } s1=0
 case neg=>rw[if_pos hc] at h0;exact absurd h0 hc
 rw[if_neg (by simpa using hc)] at h0 ⊢
 have hcall:MN (B8 at_ { x with n:=k1 } s1)∧(B8 at_ { x with n:=k1 } s1).rows.length=l.length∧(∃ n,(B8 at_ { x with n:=k1 } s1).rows[at_]?=some { x with n:=n }∧(x.kind=22→0≤n∧n<s1.rules.length)∧(EK x.kind=1→0≤n∧n<s1.on.length)) ∧
   (∀ i,i≠at_→(B8 at_ { x with n:=k1 } s1).rows[i]?=s1.rows[i]?)∧(B8 at_ { x with n:=k1 } s1).rules=s1.rules∧(B8 at_ { x with n:=k1 } s1).on=s1.on:=by
  unfold B8
  unfold DP at hc
  by_cases d0:EK x.kind=0
  ·rw[if_pos d0]
   refine⟨w1,n1,⟨k1,r1,fun h=>?_,fun h=>by omega⟩,fun _ _=>rfl,rfl,rfl⟩
   rw[h] at d0
   cases d0
  ·rw [if_neg d0] at hc ⊢
   cases hf:F9 s1.things x.name with
   | none=>simp only[hf] at hc;cases hc
   | some t=>
    simp only[hf] at hc ⊢
    have htm:=w1.th t (aC hf)
    have hk:t.kind=EK x.kind:=by
     split at hc
     ·cases hc
     ·split at hc
      ·cases hc
      ·rename_i h;simpa using h
    refine⟨⟨w1.q,w1.v,w1.t,w1.u,w1.o,w1.th⟩,QB.trans n1,⟨t.num,(J9 r1).trans rfl,fun h=>?_,fun h=>?_⟩,fun i hne=>M_ hne,trivial,trivial⟩
    ·have h4:t.kind=4:=by rw[hk,h];rfl
     rw[h4] at htm
     exact⟨htm.2.2.1,htm.2.2.2.1⟩
    ·rw[hk,h] at htm
     rw[w1.o]
     exact⟨htm.2.2.1,htm.2.2.2.1⟩
 obtain⟨w2,n2,⟨k2,r2,q2,e2⟩,o2,u2,v2⟩:=hcall
 generalize B8 at_ { x with n:=k1 } s1=s2 at *
 rw[r2] at h0 ⊢
 simp only at h0 ⊢
 by_cases hv:FF { x with n:=k2 } s2=0
 case neg=>rw[if_pos hv] at h0;exact absurd h0 hv
 rw[if_neg (by simpa using hv)] at h0 ⊢
 have hev:MN (EC at_ { x with n:=k2 } s2)∧(EC at_ { x with n:=k2 } s2).rows=s2.rows∧(EC at_ { x with n:=k2 } s2).rules=s2.rules:=by
  unfold EC
  split
  ·exact⟨w2,rfl,rfl⟩
  ·split
   ·exact⟨⟨w2.q,w2.v,w2.t,w2.u,w2.o,w2.th⟩,rfl,rfl⟩
   ·exact⟨⟨w2.q,w2.v,w2.t,w2.u,by simp only[List.length_set];exact w2.o,w2.th⟩,rfl,rfl⟩
 obtain⟨w3,r3,u3⟩:=hev
 refine⟨w3,by rw[r3];exact n2,fun i y hy=>?_,fun i hi'=>?_,by rw[u3,u2];exact u1,fun i y hi' hy h22=>?_⟩
 ·rw[r3] at hy
  by_cases hia:i=at_
  ·subst hia
   rw[r2] at hy
   cases hy
   exact⟨x,hxl,rfl⟩
  ·rw[o2 i hia,o1 i hia] at hy
   exact hi.same i y hy
 ·rw[r3,o2 i (by omega),o1 i (by omega)]
  exact hi.later i (by omega)
 ·rw[r3] at hy
  rw[u3,u2]
  by_cases hia:i=at_
  ·subst hia
   rw[r2] at hy
   cases hy
   exact q2 h22
  ·rw[o2 i hia,o1 i hia] at hy
   have:=hi.calls i y (by omega) hy h22
   omega
theorem rW {l:List AB} {E:List Int} (ht:CN l) (hE:∀ i:Nat,0≤(E[i]?).getD 0):∀ r at_ s,at_+r=l.length→HY l at_ s→(DO E r at_ s).1=0→HY l l.length (DO E r at_ s).2.2
 | 0,at_,s,hr,hi,_=>by
  have:at_=l.length:=by omega
  subst this
  exact hi
 | r+1,at_,s,hr,hi,h0=>by
  unfold DO at h0 ⊢
  by_cases h:(FE E at_ s).1=0
  ·rw[if_neg (by simpa using h)] at h0 ⊢
   exact rW ht hE r (at_+1) _ (by omega) (VY ht (hE at_) (by omega) hi h) h0
  ·rw[if_pos h] at h0
   exact absurd h0 h
theorem WR {l:List AB} (i:Nat):0≤((BR l)[i]?).getD 0:=by
 by_cases hi:i<l.length
 ·rw[QG hi]
  simp
 ·rw[List.getElem?_eq_none (by rw[T5];omega)]
  simp
theorem gW {l:List AB} {s:AK} (ht:CN l) (hlen:l.length<2932031007403) (hi:HY l l.length s):PC s.rows (BR l) s.rules where
 len:=by rw[hi.len];exact hlen
 e:=by rw[T5,hi.len]
 ends:=fun i h=>by
  rw[hi.len] at h
  have:=(ht.end h).lt
  exact⟨AD l i,QG h,by omega,by rw[hi.len];omega⟩
 rl:=fun ru h=>by rw[hi.len];exact hi.rl ru h
 nrules:=by have:=hi.wf.u;omega
 calls:=fun x hx h22=>by
  obtain⟨i,hil,rfl⟩:=List.getElem_of_mem hx
  exact hi.calls i _ (by rw[← hi.len];exact hil) (List.getElem?_eq_getElem hil) h22
theorem ZC {l:List AB} {at_:Nat} {s:AK} (ht:CN l) (hi:HY l at_ s):∀ x∈s.rows,1≤x.kind∧x.kind≤54:=fun x hx=>by
 obtain⟨i,hil,rfl⟩:=List.getElem_of_mem hx
 obtain⟨y,hy,he⟩:=hi.same i _ (List.getElem?_eq_getElem hil)
 rw[he]
 exact(ht.row hy).2.1
theorem uF {l:List AB} {at_:Nat} {s:AK} (ht:CN l) (hi:HY l at_ s):∀ i x,s.rows[i]?=some x→ID x.kind=true→i+1<s.rows.length:=fun i x hx hev=>by
 obtain⟨y,hy,he⟩:=hi.same i _ hx
 have h1:=ht.row hy
 rw[he] at hev
 have hk:F6 y.kind=1:=by
  unfold ID at hev
  simp only[Bool.and_eq_true,decide_eq_true_eq] at hev
  obtain h | h | h:y.kind=8∨y.kind=9∨y.kind=10:=by omega
  all_goals (rw[h];rfl)
 rw[hi.len]
 omega
theorem TN (l:List AB):(l.flatMap AZ).all one=true:=by
 rw[List.all_eq_true]
 intro v hv
 rw[List.mem_flatMap] at hv
 obtain⟨r,_,hv⟩:=hv
 simp only[AZ,List.mem_cons,List.not_mem_nil,or_false] at hv
 rcases hv with rfl | rfl | rfl | rfl | rfl <;> rfl
theorem Bz {α:Type} (l:List α) (a b:Nat):l.take (a+b)=l.take a++(l.drop a).take b:=List.take_add
theorem eD:∀ (l:List AB) (cs:List Value) (off:Nat),(∀ k r,l[k]?=some r→(cs.drop (off+k*5)).take 5=AZ r)→(cs.drop off).take (l.length*5)=l.flatMap AZ
 | [],cs,off,_=>by simp
 | r :: l,cs,off,h=>by
  have h0:=h 0 r rfl
  rw[Nat.zero_mul,Nat.add_zero] at h0
  have ih:=eD l cs (off+5) fun k r' hk=>by
   have:=h (k+1) r' hk
   rw[← this]
   congr 2
   omega
  rw[List.length_cons,show (l.length+1)*5=5+l.length*5 by omega,Bz,h0,List.drop_drop,ih,List.flatMap_cons]
theorem A_.src {h:AA} {v:Value} {l:List AB} (hv:A_ h v l):DB h 5 l.length v=some (l.flatMap AZ):=by
 obtain⟨a,c,rfl,⟨rfl,rfl⟩ | ⟨id,off,cs,ty,g,ro,rfl,hg,hid,hc⟩⟩:=hv
 ·rfl
 ·have:=eD l cs off hc
  have hl:=IW l
  simp only[DB,hg,FI,this,hl,if_true]
  by_cases h0:l.length=0
  ·rw[if_pos h0,List.length_eq_zero_iff.1 h0]
   rfl
  ·rw[if_neg h0]
section
variable {call:AN} {N:Nat} {h:AA}
theorem k7 {l:List AB} {v:Value} (hv:A_ h v l) (hne:0<l.length) (hlen:l.length<2932031007403):∃ h',A7 Tryd.prog call N 28 [v] h=some (qS (h.next+1) l.length AP,h')∧(h'.get (h.next+1)=.row (l.flatMap AZ) 61 true false∧h'.next=h.next+2∧h'.floor=h.floor∧∀ i,i<h.next→h'.get i=h.get i):=by
 refine EH (R:=fun h'=>h'.get (h.next+1)=.row (l.flatMap AZ) 61 true false∧h'.next=h.next+2∧h'.floor=h.floor∧∀ i,i<h.next→h'.get i=h.get i) Tryd.func28 rfl (by simp[Tryd.f28]) ?_
 have hr:Tryd.f28.results.toList=[.tmp 2]:=rfl
 have hsrc:=(hv.mono (h':=h.push (.row [] 61 false false)) (by show h.next≤h.next+1;omega) fun i hi=>AQ hi).src
 obtain⟨a,c,rfl,h1⟩:=hv
 obtain⟨id,off,rfl⟩:∃ id off,a=some ⟨id,off,none⟩:=by
  rcases h1 with⟨h1,_⟩ | ⟨id,off,_,_,_,_,h2,_⟩
  ·rw[h1] at hne;exact absurd hne (by simp)
  ·exact⟨id,off,h2⟩
 have hb:BU Tryd.prog .eql 26 (.tmp 3) (.const (Z0)) (.slice (some ⟨id,off,none⟩) l.length c) (Z0)=some (.bool false):=by
  have hf:flat (.slice (some ⟨id,off,none⟩) l.length c)=false:=rfl
  simp only[BU,hf,Bool.false_and,Bool.false_eq_true,if_false,Tryd.underlying26]
 have hbs:FC Tryd.prog h 26 0 []=some (qS h.next 0 0,h.push (.row [] 61 false false)):=by
  simp[FC,Tryd.underlying26,GJ,FY,flat,BI,MT,IS,BY]
 have hzs:(Value.agg #[.int .i64 0,.string ByteArray.empty,.int .i64 0,.int .i64 0,.int .i64 0]).cells.size=5:=rfl
 have hap:C_ Tryd.prog (h.push (.row [] 61 false false)) 26 (qS h.next 0 0) (.slice (some ⟨id,off,none⟩) l.length c)=some (qS (h.next+1) l.length AP,(h.push (.row [] 61 false false)).push (.row (l.flatMap AZ) 61 true false)):=by
  have hu:(0:Nat)≠AP:=by unfold AP;omega
  have e1:¬ (l.length≤0):=by omega
  have e2:l.length*48≤140737488355328:=by omega
  have e3:l.length≤140737488355328:=by omega
  have h0:DB (h.push (.row [] 61 false false)) 5 0 (qS h.next 0 0)=some []:=by simp[DB]
  simp only[C_,Tryd.underlying26,GJ,R3,FY,hzs,hsrc,TN,hu,h0,e1,e2,e3,decide_true,beq_self_eq_true,Bool.and_self,if_true,if_false,Nat.le_refl,Nat.zero_add,Nat.zero_mul,Nat.zero_le,List.nil_append,show (0<5)=True by simp,BZ]
 simp only[eE,seval,↓eP,hr,hb,hbs,hap]
 refine⟨?_,rfl,rfl,fun i hi=>?_⟩
 ·exact BM (h:=h.push (.row [] 61 false false))
 ·rw[AQ (by show i<h.next+1;omega),AQ hi]
def aK:List (Bool × Bool × List Operand):=[AR,AH [.tmp 1],AH [.tmp 1],AH [.tmp 1,.tmp 2],AH [.tmp 1],AH [.tmp 1],AL,AL]
theorem yJ (hsn:CD call) {at_ m e c5 c6 n ce:Nat} {E:List Int} {y v:Int} {g5 g6 ge:Bool} {R:AA→Prop} (h5:h.get c5=.row [qP m 0] 65 g5 false) (h6:h.get c6=.row [qS e n ce] 27 g6 false) (he:h.get e=.row (ints E) 3 ge false) (hy:E[at_]?=some y) (hn:n=E.length)
  (hc:∃ h',call 31 [qP m 0,iv at_,iv y] h=some (iv v,h')∧(h'.floor=h.floor∧R h')):∃ h',A7 Tryd.prog call N 30 [iv at_,qP c5 0,qP c6 0] h=some (iv v,h')∧R h':=by
 refine EH (R:=R) Tryd.func30 rfl (by simp[Tryd.f30]) ?_
 have hr:Tryd.f30.results.toList=[.tmp 4]:=rfl
 obtain⟨h',hc,hf,hR⟩:=hc
 have hat:at_<n:=by rw[hn];exact(List.getElem?_eq_some_iff.1 hy).1
 have hfx:h'.fl h.floor=h':=by rw[← hf];exact HE h'
 have lE:=NP (ty:=3) (g:=ge) (ro:=false) hy
 simp only[eE,seval,↓eP]
 show WK _ _ _ (.region _ _ true) _ _
 refine WK.flags (fs:=aK) (by kernel_rfl) ?_
 unfold aK
 iterate 8
  refine EE hsn ?_
  simp only[rG,seval,AC,AF,AE,CZ,DY,CQ,DI,EB,S0,h5,JD,DG,h6,FL hat,AV,he,lE,hc,hfx]
 refine D_ ?_
 simp only[eE,seval,↓eP,hr]
 exact hR
end
theorem XZ {l:List AB}:∀ k a b c,EW l k a b→DW l b c→EW l (k+1) a c
 | 0,a,b,c,h,hs=>by
  have:a=b:=h
  subst this
  exact⟨c,hs,hs.lt.1,hs.lt.2,rfl⟩
 | k+1,a,b,c,⟨p,h1,h2,h3,h4⟩,hs=>⟨p,h1,h2,h3,XZ k p b c h4 hs⟩
theorem TW {l:List AB}:∀ k r a q,EW l (k+r) a q→∃ b,EW l k a b∧EW l r b q
 | 0,r,a,q,h=>⟨a,rfl,by rwa [Nat.zero_add] at h⟩
 | k+1,r,a,q,h=>by
  rw[show k+1+r=(k+r)+1 by omega] at h
  obtain⟨p,h1,h2,h3,h4⟩:=h
  obtain⟨b,h5,h6⟩:=TW k r p q h4
  exact⟨b,⟨p,h1,h2,h3,h5⟩,h6⟩
theorem QQ {l:List AB}:∀ k a b c,EW l k a b→EW l k a c→b=c
 | 0,a,b,c,h,h'=>(show a=b from h).symm.trans (show a=c from h')
 | k+1,a,b,c,⟨p,h1,_,_,h4⟩,⟨p',g1,_,_,g4⟩=>by
  have:p=p':=DW.unique l.length a (by omega) h1 g1
  subst this
  exact QQ k p b c h4 g4
theorem XB {l:List AB} {a b c:Nat}:∀ k j,k<j→EW l k a b→EW l j a c→b<c:=fun k j hkj h h'=>by
 obtain⟨b',h1,h2⟩:=TW k (j-k) a c (by rw[show k+(j-k)=j by omega];exact h')
 have:=QQ k a b b' h h1
 subst this
 have:=IU _ _ _ h2
 omega
def JV (l:List AB) (p k i:Nat):Prop:=∃ x,l[p]?=some x∧k<x.kids.toNat∧EW l k (p+1) i
theorem JV.lt {l:List AB} {p k i:Nat} (h:JV l p k i):p<i:=by
 obtain⟨x,_,_,h3⟩:=h
 have:=IU _ _ _ h3
 omega
theorem JV.sub {l:List AB} (ht:CN l) {p k i:Nat} (h:JV l p k i):∃ q,DW l i q∧q≤AD l p∧i<l.length:=by
 obtain⟨x,hx,hk,hc⟩:=h
 have hs:=ht.end (List.getElem?_eq_some_iff.1 hx).1
 obtain⟨y,hy,_,_,hch⟩:=hs.kids
 rw[hx] at hy
 cases hy
 obtain⟨r,hr⟩:∃ r,x.kids.toNat=k+(r+1):=⟨x.kids.toNat-k-1,by omega⟩
 rw[hr] at hch
 obtain⟨b,h1,q,h2,h3,h4,h5⟩:=TW _ _ _ _ hch
 have:=QQ _ _ _ _ hc h1
 subst this
 have:=IU _ _ _ h5
 exact⟨q,h2,by omega,by omega⟩
theorem Z2 {l:List AB}:∀ (r a q j:Nat),EW l r a q→a≤j→j<q→∃ k b c,k<r∧EW l k a b∧DW l b c∧b≤j∧j<c
 | 0,a,q,j,h,h1,h2=>by have:a=q:=h;omega
 | r+1,a,q,j,⟨p,s,h3,h4,h5⟩,h1,h2=>by
  rcases Nat.lt_or_ge j p with h6 | h6
  ·exact⟨0,a,p,by omega,rfl,s,h1,h6⟩
  ·obtain⟨k,b,c,k1,k2,k3,k4,k5⟩:=Z2 r p q j h5 h6 h2
   exact⟨k+1,b,c,by omega,⟨p,s,h3,h4,k2⟩,k3,k4,k5⟩
theorem JV.unique {l:List AB} (ht:CN l) {p k i p' k':Nat} (h:JV l p k i) (h':JV l p' k' i):p=p'∧k=k':=by
 have key:∀ {p k i p' k':Nat},JV l p k i→JV l p' k' i→¬ p<p':=by
  intro p k i p' k' h h' hlt
  have hi:=h'.lt
  obtain⟨qi,si,hqi,_⟩:=h'.sub ht
  have hsi:=si.lt
  obtain⟨x,hx,hk,hc⟩:=h
  have hs:=ht.end (List.getElem?_eq_some_iff.1 hx).1
  obtain⟨y,hy,_,_,hch⟩:=hs.kids
  rw[hx] at hy
  cases hy
  have hp':p'<l.length:=by
   obtain⟨x',hx',_⟩:=h'
   exact(List.getElem?_eq_some_iff.1 hx').1
  have he':=(ht.end hp').lt
  obtain⟨r,hr⟩:∃ r,x.kids.toNat=k+(r+1):=⟨x.kids.toNat-k-1,by omega⟩
  have hkc:=hch
  rw[hr] at hkc
  obtain⟨b0,g1,g2⟩:=TW _ _ _ _ hkc
  have:=QQ _ _ _ _ hc g1
  subst this
  have hle:=IU _ _ _ g2
  obtain⟨j,b,c,j1,j2,j3,j4,j5⟩:=Z2 _ _ _ p' hch hlt (by omega)
  obtain⟨q',s1,s2⟩:=DW.cover (c-b) (by have:=j3.lt;omega) j3 p' j4 j5
  have hee:=I4 s1
  -- i lies in (b, c), and is the start of the k-th kid
  rcases Nat.lt_trichotomy k j with hkj | hkj | hkj
  ·have:=XB k j hkj hc j2
   omega
  ·subst hkj
   have:=QQ _ _ _ _ hc j2
   omega
  ·have hj1:=XZ j _ _ _ j2 j3
   rcases Nat.lt_or_ge (j+1) k with h9 | h9
   ·have:=XB (j+1) k h9 hj1 hc
    omega
   ·have:j+1=k:=by omega
    subst this
    have:=QQ _ _ _ _ hj1 hc
    omega
 have hpp:p=p':=by
  have h1:=key h h'
  have h2:=key h' h
  omega
 subst hpp
 refine⟨rfl,?_⟩
 obtain⟨_,_,_,hc⟩:=h
 obtain⟨_,_,_,hc'⟩:=h'
 rcases Nat.lt_trichotomy k k' with h1 | h1 | h1
 ·have:=XB _ _ h1 hc hc';omega
 ·exact h1
 ·have:=XB _ _ h1 hc' hc;omega
theorem DW.parent {l:List AB}:∀ (n:Nat) {a q:Nat},q≤a+n→DW l a q→∀ i,a<i→i<q→∃ p k,JV l p k i∧a≤p
 | 0,a,q,hn,h,i,h1,h2=>by have:=h.lt;omega
 | n+1,a,q,hn,h,i,h1,h2=>by
  obtain⟨x,hx,_,_,hc⟩:=h.kids
  obtain⟨k,b,c,k1,k2,k3,k4,k5⟩:=Z2 _ _ _ i hc h1 h2
  rcases Nat.eq_or_lt_of_le k4 with rfl | h6
  ·exact⟨a,k,⟨x,hx,k1,k2⟩,Nat.le_refl _⟩
  ·have hb:=IU _ _ _ k2
   obtain⟨r,hr⟩:∃ r,x.kids.toNat=(k+1)+r:=⟨x.kids.toNat-(k+1),by omega⟩
   rw[hr] at hc
   obtain⟨c',g1,g2⟩:=TW _ _ _ _ hc
   have:=QQ _ _ _ _ (XZ _ _ _ _ k2 k3) g1
   subst this
   have:=IU _ _ _ g2
   obtain⟨p,k',h7,h8⟩:=DW.parent n (by omega) k3 i h6 k5
   exact⟨p,k',h7,by omega⟩
theorem CN.parent {l:List AB} (ht:CN l) {i:Nat} (h0:0<i) (h1:i<l.length):∃ p k,JV l p k i:=by
 obtain⟨p,k,h,_⟩:=DW.parent l.length (by omega) ht i h0 h1
 exact⟨p,k,h⟩
structure iS (l:List AB) (O:List Int):Prop where
 top:∀ x,l[0]?=some x→O[0]?=some (HP x.kind)
 kid:∀ p k i x y o,JV l p k i→l[p]?=some x→l[i]?=some y→O[p]?=some o→O[i]?=some (o+HZ (C3 x.kind) (C3 y.kind) k+HP y.kind)
def M6 (O:List Int) (a b:Nat) (M:Int):Prop:=(∀ i x,a≤i→i<b→O[i]?=some x→x≤M)∧∃ i,a≤i∧i<b∧O[i]?=some M
theorem M6.join {O:List Int} {a b c:Nat} {M M':Int} (h:M6 O a b M) (h':M6 O b c M') (hab:a≤b) (hbc:b≤c):M6 O a c (if M'>M then M' else M):=by
 obtain⟨h1,i,h2,h3,h4⟩:=h
 obtain⟨g1,j,g2,g3,g4⟩:=h'
 refine⟨fun t x t1 t2 t3=>?_,?_⟩
 ·rcases Nat.lt_or_ge t b with hb | hb
  ·have:=h1 t x t1 hb t3
   split <;> omega
  ·have:=g1 t x hb t2 t3
   split <;> omega
 ·split
  ·exact⟨j,by omega,g3,g4⟩
  ·exact⟨i,h2,by omega,h4⟩
theorem M6.unique {O:List Int} {a b:Nat} {M M':Int} (h:M6 O a b M) (h':M6 O a b M'):M=M':=by
 obtain⟨h1,i,h2,h3,h4⟩:=h
 obtain⟨g1,j,g2,g3,g4⟩:=h'
 have:=h1 j _ g2 g3 g4
 have:=g1 i _ h2 h3 h4
 omega
theorem Ch {l:List AB} {O:List Int} (hO:iS l O):∀ (m at_ q:Nat) (x:AB) (o:Int),DW l at_ q→l.length<at_+m→l[at_]?=some x→O[at_]?=some o →
  M6 O at_ q (o-HP x.kind+(DE l m at_).1)∧(DE l m at_).2=q:=by
 intro m
 induction m with
 | zero=>intro at_ q x o hs hm hx;have:=hs.lt;omega
 | succ m ih=>
  intro at_ q x o hs hm hx ho
  obtain⟨y,hy,_,_,hc⟩:=hs.kids
  rw[hx] at hy
  cases hy
  have key:∀ r k most next,k+r=x.kids.toNat→EW l k (at_+1) next→EW l r next q→M6 O at_ next (o+most)→M6 O at_ q (o+(IR (DE l m) l x.kind r k most next).1)∧(IR (DE l m) l x.kind r k most next).2=q:=by
   intro r
   induction r with
   | zero=>
    intro k most next hk h1 h2 h3
    have:next=q:=h2
    subst this
    exact⟨h3,rfl⟩
   | succ r ihr=>
    intro k most next hk h1 ⟨p',s1,s2,s3,s4⟩ h3
    have hn1:=IU _ _ _ h1
    obtain⟨z,hz,_,_,_⟩:=s1.kids
    have hz':=hO.kid at_ k next x z o ⟨x,hx,by omega,h1⟩ hx hz ho
    obtain⟨a1,a2⟩:=ih next p' z _ s1 (by omega) hz hz'
    unfold IR
    rw[hz]
    simp only
    rw[a2]
    refine ihr (k+1) _ p' (by omega) (XZ _ _ _ _ h1 s1) s4 ?_
    have h4:=h3.join a1 (by omega) (by omega)
    have e1:o+HZ (C3 x.kind) (C3 z.kind) k+HP z.kind-HP z.kind+(DE l m next).1=o+((DE l m next).1+HZ (C3 x.kind) (C3 z.kind) k):=by omega
    rw[e1] at h4
    refine cast ?_ h4
    congr 1
    split <;> split <;> omega
  have h0:=key x.kids.toNat 0 0 (at_+1) (by omega) rfl hc ⟨fun i v h1 h2 h3=>by
    have:i=at_:=by omega
    subst this
    rw[ho] at h3
    cases h3
    omega,at_,Nat.le_refl _,by omega,by rw[ho];congr 1;omega⟩
  unfold DE
  rw[hx]
  refine⟨?_,h0.2⟩
  refine cast ?_ h0.1
  congr 1
  simp only
  omega
def S6:List FuncId:=[31,32,33,30,999999,999999,999999,999999,999999,999999,999999,999999,999999,999999,999999,999999,23]
open Classical in
noncomputable def ND (call:AN):AN:=fun f args h=>match call f args h with
 | some (v,h1)=>if S6.contains f=false∧ED v=true∧∀ i,i<h.next→h1.get i=h.get i then some (v,h) else some (v,h1)
 | none=>none
theorem qD {call:AN} {f:FuncId} {args:List Value} {h h':AA} {v:Value} (hs:ND call f args h=some (v,h')):OC call f args h=some (v,h')∨call f args h=some (v,h'):=by
 unfold ND at hs
 split at hs
 ·rename_i v' h1 he
  split at hs
  ·rename_i hc
   cases hs
   exact .inl (YZ he hc.2.1 hc.2.2)
  ·cases hs
   exact .inr he
 ·cases hs
theorem wJ {P:Program} {call:AN} (hc:C8 P call∧CD call):C8 P (ND call)∧CD (ND call):=by
 have hk:=YH hc.1
 refine⟨fun f args h v h' hs=>?_,fun f args h v h' hs=>?_⟩
 ·rcases qD hs with h1 | h1
  ·exact hk.1 _ _ _ _ _ h1
  ·exact hc.1 _ _ _ _ _ h1
 ·rcases qD hs with h1 | h1
  ·exact hk.2 _ _ _ _ _ h1
  ·exact hc.2 _ _ _ _ _ h1
section
variable {call:AN} {n:Nat} {h:AA}
noncomputable def L3:AN:=NS [999999] L2 12
theorem sW:C8 Tryd.prog L3∧CD L3:=cO p9
end
noncomputable def AU:Nat→AN
 | 0=>L3
 | n+1=>GF L3 (ND (A7 Tryd.prog (AU n) n))
theorem FT:∀ n,C8 Tryd.prog (AU n)∧CD (AU n)
 | 0=>sW
 | n+1=>R2 sW (wJ (SE JG (FT n).1 (FT n).2 n))
section
variable {n:Nat} {f:FuncId} {args:List Value} {h h1:AA} {v:Value} {r:Value × AA}
theorem wK (hb:L3 f args h=some r):AU n f args h=some r:=by
 cases n with
 | zero=>exact hb
 | succ n=>exact US hb
theorem aI (hb:L2 f args h=some r):AU n f args h=some r:=wK (LS hb)
theorem J1 (hb:L1 f args h=some r):AU n f args h=some r:=aI (N8 hb)
theorem BX (hf:([61,88,86,48,50,51,999999,999999,999999,
 999999,999999,999999,999999,999999,999999,999999,64,82,84,
 999999,999999,60]:List Nat).contains f=false∧([85,999999,999999,49,999999,53,999999]:List Nat).contains f=false∧([62,999999,999999]:List Nat).contains f=false):L3 f args h=none:=by
 have h3:=hf.2.2
 simp only[List.contains_cons,List.contains_nil,Bool.or_false,Bool.or_eq_false_iff] at h3
 refine I3 (OZ (I3 (I3 rfl hf.1) hf.2.1) ?_) ?_
 ·simp only[List.contains_cons,List.contains_nil,Bool.or_false,Bool.or_eq_false_iff];exact⟨h3.1,h3.2.1⟩
 ·simp only[List.contains_cons,List.contains_nil,Bool.or_false];exact h3.2.2
theorem JR (hb:L3 f args h=none) (hv:ED v=true) (hw:∃ h1,A7 Tryd.prog (AU n) n f args h=some (v,h1)∧∀ i,i<h.next→h1.get i=h.get i) (hf:S6.contains f=false:=by rfl):AU (n+1) f args h=some (v,h):=by
 obtain⟨h1,he,hk⟩:=hw
 unfold AU GF ND
 rw[hb,he]
 simp only
 rw[if_pos ⟨hf,hv,hk⟩]
theorem EN (hb:L3 f args h=none) (hv:ED v=true) (hw:A7 Tryd.prog (AU n) n f args h=some (v,h)) (hf:S6.contains f=false:=by rfl):AU (n+1) f args h=some (v,h):=JR hb hv ⟨h,hw,fun _ _=>rfl⟩ hf
theorem QR {R:AA→Prop} (hb:L3 f args h=none) (hv:ED v=false) (hw:∃ h1,A7 Tryd.prog (AU n) n f args h=some (v,h1)∧R h1):∃ h1,AU (n+1) f args h=some (v,h1)∧R h1:=by
 obtain⟨h1,he,hk⟩:=hw
 refine⟨h1,?_,hk⟩
 unfold AU GF ND
 rw[hb,he]
 simp only
 rw[if_neg (fun hc=>by rw[hv] at hc;cases hc.2.1)]
theorem PM {R:Value→AA→Prop} (hb:L3 f args h=none) (hw:∃ v h1,A7 Tryd.prog (AU n) n f args h=some (v,h1)∧R v h1) (hf:∀ v h1,ED v=true→(∀ i,i<h.next→h1.get i=h.get i)→R v h1→R v h):∃ v h1,AU (n+1) f args h=some (v,h1)∧R v h1:=by
 obtain⟨v,h1,he,hk⟩:=hw
 by_cases hc:S6.contains f=false∧ED v=true∧∀ i,i<h.next→h1.get i=h.get i
 ·refine⟨v,h,?_,hf v h1 hc.2.1 hc.2.2 hk⟩
  unfold AU GF ND
  rw[hb,he]
  simp only
  rw[if_pos hc]
 ·refine⟨v,h1,?_,hk⟩
  unfold AU GF ND
  rw[hb,he]
  simp only
  rw[if_neg hc]
theorem YD {R:AA→Prop} (hb:L3 f args h=none) (hw:∃ h1,A7 Tryd.prog (AU n) n f args h=some (v,h1)∧R h1) (hf:S6.contains f=true:=by rfl):∃ h1,AU (n+1) f args h=some (v,h1)∧R h1:=by
 obtain⟨h1,he,hk⟩:=hw
 refine⟨h1,?_,hk⟩
 unfold AU GF ND
 rw[hb,he]
 simp only
 rw[if_neg (fun hc=>by rw[hf] at hc;cases hc.1)]
end
theorem Ng {l:List AB} {v:Value} (hlen:l.length<30000000000000):∀ m n (at_:Nat) (what:Int) h,at_≤l.length→l.length<at_+m→what≠8→A_ h v l→h.get 0=CF→0<h.next→h.floor≤h.next→l.length+4+m<n →
  AU n 46 [v,iv at_,iv what] h=some (.tuple #[iv ((BK AY l m at_ what).1:Int),.bool (BK AY l m at_ what).2],h):=by
 intro m
 induction m with
 | zero=>intro n at_ what h hat hm;omega
 | succ m ih=>
  intro n at_ what h hat hm hw hv hg hn0 hfl hn
  obtain⟨n,rfl⟩:∃ k,n=k+1:=⟨n-1,by omega⟩
  refine JR (BX ⟨rfl,rfl,rfl⟩) (PT rfl rfl) ?_
  exact tP (FT n).2 ⟨fun k j h hk hj=>J1 (sO k j h hk hj),fun p w h hp hpl hw hv hg hn0 hfl=>ih n p w h hpl (by omega) hw hv hg hn0 hfl (by omega)⟩
   (by omega) hlen hat hw (fun w k h=>J1 (RF w k h)) (fun k h hk=>J1 (WX k h hk)) (fun s h' hg=>aI (V2 hg s)) hv hg hn0 hfl
theorem wR {l:List AB} {v:Value} (hlen:l.length<30000000000000) {n m:Nat} (hm:l.length<1+m) (hn:l.length+7+m<n) {h:AA} (hv:A_ h v l) (hg:h.get 0=CF) (hn0:0<h.next) (hfl:h.floor≤h.next) :
  AU n 46 [v,iv 0,iv 8] h=some (.tuple #[iv ((FX AY l m).1:Int),.bool (FX AY l m).2],h):=by
 obtain⟨n,rfl⟩:∃ k,n=k+2:=⟨n-2,by omega⟩
 refine JR (BX ⟨rfl,rfl,rfl⟩) (PT rfl rfl) ?_
 refine mO (FT (n+1)).2 ?_ (by omega) hlen (fun w k h=>J1 (RF w k h)) (fun k h hk=>J1 (WX k h hk)) (fun s h' hg=>aI (V2 hg s)) hv hg hn0 hfl
 intro x h' hx hf hk1 hv' hg' hn0' hfl'
 have hk0:0≤x.kids:=by
  unfold DK at hf
  simp only[Bool.and_eq_true,decide_eq_true_eq] at hf
  have:=QJ x.kind
  omega
 refine EN (BX ⟨rfl,rfl,rfl⟩) (PT rfl rfl) ?_
 refine sI hx hk0 (by omega) hlen hv' (fun w k h=>J1 (RF w k h)) fun p w hp hpl hw=>?_
 exact Ng hlen m n p w h' hpl (by omega) hw hv' hg' hn0' hfl' (by omega)
theorem Nz {l:List AB} {v:Value} (hlen:l.length<30000000000000) (hval:∀ (i:Nat) x,l[i]?=some x→1≤x.kind∧x.kind≤54) {h:AA} (hv:A_ h v l):∀ m n (at_:Nat),m<30000000000000→at_<l.length→l.length<at_+m→l.length+4+m<n →
  AU n 65 [v,iv at_] h=some (.tuple #[iv (DE l m at_).1,iv ((DE l m at_).2:Int)],h):=by
 intro m
 induction m with
 | zero=>intro n at_ _ hat hm;omega
 | succ m ih=>
  intro n at_ hmm hat hm hn
  obtain⟨n,rfl⟩:∃ k,n=k+1:=⟨n-1,by omega⟩
  refine EN (BX ⟨rfl,rfl,rfl⟩) (PT rfl rfl) ?_
  refine qJ (FT n).2 (by omega) hlen (by omega) hat (by omega) hv hval (fun P Q k h hP hQ=>J1 (iK P Q k h hP hQ)) (fun k h hk=>J1 (sR k h hk)) fun p hp hpl=>?_
  exact ih n p (by omega) hpl (by omega) (by omega)
theorem Gt {n:Nat} {l:List AB} {v:Value} (hn:2*l.length+12<n) (hlen:l.length<2932031007403) {h:AA} (hv:A_ h v l) (hg:h.get 0=CF) (hn0:0<h.next) (hfl:h.floor≤h.next) :
  AU n 27 [v] h=some (BG (C4 l).1 (C4 l).2,h):=by
 obtain⟨n,rfl⟩:∃ k,n=k+2:=⟨n-2,by omega⟩
 refine JR (BX ⟨rfl,rfl,rfl⟩) rfl ?_
 refine sQ hv hg hn0 hfl (fun h' hv' hg' hn' hfl'=>wR (by omega) (by omega) (by omega) hv' hg' hn' hfl') fun hs h' hv'=>?_
 refine EN (BX ⟨rfl,rfl,rfl⟩) rfl ?_
 exact jN (m:=l.length+1) hv' (XJ hs) (Nz (by omega) (mB hs) hv' (l.length+1) n 0 (by omega) (XJ hs) (by omega) (by omega))
theorem Jb {l:List AB} {v:Value} {h:AA} {n:Nat} (ht:CN l) (hv:A_ h v l) (hlen:l.length<30000000000000) (hn:l.length+4<n) (hfl:h.floor≤h.next) :
  ∃ h',AU n 29 [v] h=some (qS h.next l.length l.length,h')∧(h'.get h.next=.row (ints (BR l)) 3 false false∧h'.next=h.next+1∧h'.floor=h.floor∧∀ i,i<h.next→h'.get i=h.get i):=by
 obtain⟨n,rfl⟩:∃ k,n=k+1:=⟨n-1,by omega⟩
 exact QR (BX ⟨rfl,rfl,rfl⟩) rfl (uV ht hv hlen (by omega) hfl)
section
variable {h:AA} {id off:Nat}
end
def F3 (V:Nat→Value) (j:Nat) (v:Value):Nat→Value:=fun i=>if i=j then v else V i
section
variable {h h':AA} {lo m e r n:Nat} {nm:ByteArray} {E:List Int} {tag tag':Nat→Nat} {V:Nat→Value} {C:List Int} {s s':AK}
end
section
variable {call:AN} {N:Nat} {h:AA} {lo m e r n:Nat} {nm:ByteArray} {E:List Int} {tag:Nat→Nat} {V:Nat→Value} {C:List Int} {s:AK}
def SC (h H:AA) (lo:Nat):Prop:=(∀ i,i<lo→H.get i=h.get i)∧h.next≤H.next∧H.floor=h.floor
end
theorem PE {h:AA} {o o':BC}:((h.push o).push o').get h.next=o:=by rw[AQ (by show h.next<h.next+1;omega)];exact BM
theorem PK {h:AA} {o o':BC}:((h.push o).push o').get (h.next+1)=o':=BM (h:=h.push o)
section
variable {call:AN} {n:Nat}
end
def QM (r:Nat):Code→Option Code
 | .seq a b=>match QM r a with
  | some o=>some o
  | none=>QM r b
 | .cond _ a b=>match QM r a with
  | some o=>some o
  | none=>QM r b
 | .block i c=>if i=r then some (.block i c) else QM r c
 | .loop c=>QM r c
 | _=>none
def Og (fn:Func) (r:Nat):Code:=match fn.body with
 | some c=>(QM r c).getD .skip
 | none=>.skip
section
variable {call:AN} {N:Nat}
end
structure QV (l:List AB) (O:List Int) (j:Nat) (most:Int):Prop where
 len:O.length=l.length
 top:0<j→∀ x,l[0]?=some x→O[0]?=some (HP x.kind)
 kid:∀ p k i x y o,i<j→JV l p k i→l[p]?=some x→l[i]?=some y→O[p]?=some o→O[i]?=some (o+HZ (C3 x.kind) (C3 y.kind) k+HP y.kind)
 le:∀ (i:Nat) o,i<j→O[i]?=some o→0≤o∧o≤2*(i:Int)+2
 max:(j=0∧most=0)∨(0<j∧M6 O 0 j most)
theorem QV.most {l:List AB} {O:List Int} {j:Nat} {most:Int} (h:QV l O j most):0≤most∧most≤2*(j:Int):=by
 rcases h.max with⟨_,h1⟩ | ⟨_,_,i,_,h2,h3⟩
 ·omega
 ·have:=h.le i _ h2 h3
  omega
theorem QV.step {l:List AB} {O:List Int} {j:Nat} {most n:Int} (ht:CN l) (h:QV l O j most) (hj:j<l.length)
  (hn:(j=0∧∀ x,l[0]?=some x→n=HP x.kind)∨∃ p k x y o,JV l p k j∧l[p]?=some x∧l[j]?=some y∧O[p]?=some o∧n=o+HZ (C3 x.kind) (C3 y.kind) k+HP y.kind):QV l (O.set j n) (j+1) (if n>most then n else most):=by
 have hlO:=h.len
 have hnle:0≤n∧n≤2*(j:Int)+2:=by
  rcases hn with⟨rfl,h1⟩ | ⟨p,k,x,y,o,h1,h2,h3,h4,rfl⟩
  ·have:=U0 l[0].kind
   have:=h1 l[0] (List.getElem?_eq_getElem hj)
   omega
  ·have:=h.le p o h1.lt h4
   have:=U0 y.kind
   have:=bJ (C3 x.kind) (C3 y.kind) k
   have:=h1.lt
   omega
 refine⟨by simpa using hlO,fun _ x hx=>?_,fun p k i x y o hi hk hx hy ho=>?_,fun i o hi ho=>?_,.inr ⟨by omega,?_⟩⟩
 ·by_cases h0:j=0
  ·subst h0
   rw[List.getElem?_set_self (by omega)]
   rcases hn with⟨_,h1⟩ | ⟨p,k,x,y,o,h1,_⟩
   ·rw[h1 x hx]
   ·have:=h1.lt;omega
  ·rw[List.getElem?_set_ne (by omega)]
   exact h.top (by omega) x hx
 ·have hlt:=hk.lt
  rw[List.getElem?_set_ne (by omega)] at ho
  by_cases hij:j=i
  ·subst hij
   rw[List.getElem?_set_self (by omega)]
   rcases hn with⟨rfl,_⟩ | ⟨p',k',x',y',o',h1,h2,h3,h4,rfl⟩
   ·omega
   ·obtain⟨rfl,rfl⟩:=JV.unique ht hk h1
    rw[hx] at h2
    rw[hy] at h3
    rw[ho] at h4
    cases h2
    cases h3
    cases h4
    rfl
  ·rw[List.getElem?_set_ne (by omega)]
   exact h.kid p k i x y o (by omega) hk hx hy ho
 ·by_cases hij:j=i
  ·subst hij
   rw[List.getElem?_set_self (by omega)] at ho
   cases ho
   exact hnle
  ·rw[List.getElem?_set_ne (by omega)] at ho
   exact h.le i o (by omega) ho
 ·rcases h.max with⟨rfl,rfl⟩ | ⟨hp,h1,i,h2,h3,h4⟩
  ·have he:(if n>0 then n else 0)=n:=by split <;> omega
   rw[he]
   refine⟨fun i x _ hi hx=>?_,0,by omega,by omega,List.getElem?_set_self (by omega)⟩
   obtain rfl:i=0:=by omega
   rw[List.getElem?_set_self (by omega)] at hx
   cases hx
   omega
  ·refine⟨fun t x _ ht hx=>?_,?_⟩
   ·by_cases htj:j=t
    ·subst htj
     rw[List.getElem?_set_self (by omega)] at hx
     cases hx
     split <;> omega
    ·rw[List.getElem?_set_ne htj] at hx
     have:=h1 t x (by omega) (by omega) hx
     split <;> omega
   ·split
    ·exact⟨j,by omega,by omega,List.getElem?_set_self (by omega)⟩
    ·exact⟨i,h2,by omega,by rw[List.getElem?_set_ne (by omega)];exact h4⟩
theorem QV.done {l:List AB} {O:List Int} {most:Int} (ht:CN l) (h:QV l O l.length most):most=(DE l (l.length+1) 0).1:=by
 have hp:=ht.pos
 have hx:l[0]?=some l[0]:=List.getElem?_eq_getElem hp
 have hO:iS l O:=⟨fun x hx=>h.top hp x hx,fun p k i x y o hk hx hy ho=>h.kid p k i x y o (List.getElem?_eq_some_iff.1 hy).1 hk hx hy ho⟩
 have h1:=(Ch hO (l.length+1) 0 l.length _ _ ht (by omega) hx (hO.top _ hx)).1
 rw[Int.sub_self,Int.zero_add] at h1
 rcases h.max with⟨h0,_⟩ | ⟨_,h2⟩
 ·omega
 ·exact h2.unique h1
section
variable {call:AN} {N:Nat}
def inB:Code→Code
 | .block _ c=>c
 | c=>c
end
def AM (lo:Nat) (h:AA) (v:Value) (n w:Nat) (cs:List Value):Prop:=
 cs.length=n*w∧∃ a c,v=.slice a n c∧((n=0∧a=none)∨∃ id off row ty g ro,a=some ⟨id,off,none⟩∧h.get id=.row row ty g ro∧(lo≤id∧id<h.next)∧(row.drop off).take (n*w)=cs∧(0<lo→ro=false))
section
variable {lo:Nat} {h h':AA} {v:Value} {n w:Nat} {cs:List Value}
theorem AM.mono (hc:AM lo h v n w cs) (hn:h.next≤h'.next) (hg:∀ i,lo≤i→i<h.next→h'.get i=h.get i):AM lo h' v n w cs:=by
 obtain⟨hl,a,c,rfl,h1 | ⟨id,off,row,ty,g,ro,rfl,h1,h2,h3⟩⟩:=hc
 ·exact⟨hl,_,_,rfl,.inl h1⟩
 ·exact⟨hl,_,_,rfl,.inr ⟨id,off,row,ty,g,ro,rfl,by rw[hg id h2.1 h2.2];exact h1,by omega,h3⟩⟩
theorem AM.weak (hc:AM lo h v n w cs) {lo':Nat} (hl:lo'≤lo):AM lo' h v n w cs:=by
 obtain⟨hl',a,c,rfl,h1 | ⟨id,off,row,ty,g,ro,rfl,h1,h2,h3⟩⟩:=hc
 ·exact⟨hl',_,_,rfl,.inl h1⟩
 ·exact⟨hl',_,_,rfl,.inr ⟨id,off,row,ty,g,ro,rfl,h1,by omega,h3.1,fun h=>h3.2 (by omega)⟩⟩
theorem AM.len (hc:AM lo h v n w cs) {t e:TypeId} (ht:Tryd.prog.underlying t=some (.slice e)) {h':AA}:CX Tryd.prog h' t v=some (iv (n:Int)):=by
 obtain⟨_,a,c,rfl,_⟩:=hc
 simp[CX,ht]
theorem AM.idx (hc:AM lo h v n w cs) {t e:TypeId} (ht:Tryd.prog.underlying t=some (.slice e)) (he:BN Tryd.prog e=some w) {i:Nat} (hi:i<n) :
  ∃ id p,CM Tryd.prog t v (iv (i:Int))=some (qP id p)∧id<h.next∧∀ j,j<w→AJ (p+j) (h.get id)=cs[i*w+j]?:=by
 obtain⟨hl,a,c,rfl,⟨h0,_⟩ | ⟨id,off,row,ty,g,ro,rfl,h1,h2,h3⟩⟩:=hc
 ·omega
 ·refine⟨id,off+i*w,?_,h2.2,fun j hj=>?_⟩
  ·simp only[CM,ht,he,CK]
   rw[if_pos (by omega)]
   simp
  ·have hlt:i*w+j<n*w:=by
    have:(i+1)*w≤n*w:=Nat.mul_le_mul_right w hi
    rw[Nat.add_mul] at this
    omega
   rw[h1,← h3.1,List.getElem?_take_of_lt hlt,List.getElem?_drop]
   simp only[AJ]
   congr 1
   omega
theorem AM.whole (hc:AM lo h v n w cs) {t e:TypeId} (ht:Tryd.prog.underlying t=some (.slice e)) (he:BN Tryd.prog e=some w) {i:Nat} (hi:i<n) :
  ∃ id p,CM Tryd.prog t v (iv (i:Int))=some (qP id p)∧id<h.next∧AW w p (h.get id)=some (.agg ((cs.drop (i*w)).take w).toArray):=by
 obtain⟨hl,a,c,rfl,⟨h0,_⟩ | ⟨id,off,row,ty,g,ro,rfl,h1,h2,h3⟩⟩:=hc
 ·omega
 ·have hle:i*w+w≤n*w:=by
   have:(i+1)*w≤n*w:=Nat.mul_le_mul_right w hi
   rw[Nat.add_mul] at this
   omega
  have e1:(cs.drop (i*w)).take w=(row.drop (off+i*w)).take w:=by
   rw[← h3.1,List.drop_take,List.drop_drop,List.take_take]
   congr 1
   omega
  have e2:((cs.drop (i*w)).take w).length=w:=by
   rw[List.length_take,List.length_drop,hl]
   omega
  refine⟨id,off+i*w,?_,h2.2,?_⟩
  ·simp only[CM,ht,he,CK]
   rw[if_pos (by omega)]
   simp
  ·rw[h1]
   simp only[AW,FI,← e1,e2,if_true]
theorem AM.src (hc:AM lo h v n w cs):DB h w n v=some cs:=by
 obtain⟨hl,a,c,rfl,⟨h0,rfl⟩ | ⟨id,off,row,ty,g,ro,rfl,h1,h2,h3⟩⟩:=hc
 ·subst h0
  rw[Nat.zero_mul] at hl
  rw[List.length_eq_zero_iff.1 hl]
  rfl
 ·by_cases h0:n=0
  ·subst h0
   rw[Nat.zero_mul] at hl
   rw[List.length_eq_zero_iff.1 hl]
   simp[DB]
  ·simp only[DB,h0,if_false,h1,FI,h3.1,hl,if_true]
theorem AM.nil (lo:Nat) (h:AA) (w:Nat):AM lo h (Z0) 0 w []:=⟨by simp,none,0,rfl,.inl ⟨rfl,rfl⟩⟩
theorem AM.rowR {r:Nat} {ty:TypeId} {g ro:Bool} {ex:List Value} {c:Nat} (hg:h.get r=.row (cs++ex) ty g ro) (hr:lo≤r∧r<h.next) (hl:cs.length=n*w) (hro:0<lo→ro=false):AM lo h (qS r n c) n w cs:=
 ⟨hl,_,_,rfl,.inr ⟨r,0,_,_,_,_,rfl,hg,hr,by rw[List.drop_zero,List.take_append_of_le_length (by omega),List.take_of_length_le (by omega)],hro⟩⟩
theorem AM.row {r:Nat} {ty:TypeId} {g:Bool} {ex:List Value} {c:Nat} (hg:h.get r=.row (cs++ex) ty g false) (hr:lo≤r∧r<h.next) (hl:cs.length=n*w):AM lo h (qS r n c) n w cs:=AM.rowR hg hr hl fun _=>rfl
theorem AM.one (hc:AM lo h v n w cs):one v=true:=by
 obtain⟨_,a,c,rfl,_⟩:=hc
 rfl
theorem FK.cells {tag:Nat→Nat} {j:Nat} {ty:TypeId} (hs:FK h lo tag j v n cs ty) (hl:cs.length=n*w):AM lo h v n w cs:=by
 rcases hs with⟨rfl,rfl,rfl⟩ | ⟨id,ex,rfl,h2,h3,h4,h5⟩
 ·exact AM.nil lo h w
 ·exact AM.row h2 ⟨h3,h4⟩ hl
end
def AT (lo:Nat) (h:AA) (v:Value) (l:List Int):Prop:=AM lo h v l.length 1 (ints l)
section
variable {lo:Nat} {h h':AA} {v:Value} {l:List Int}
theorem AT.mono (hc:AT lo h v l) (hn:h.next≤h'.next) (hg:∀ i,lo≤i→i<h.next→h'.get i=h.get i):AT lo h' v l:=AM.mono hc hn hg
theorem AT.weak (hc:AT lo h v l) {lo':Nat} (hl:lo'≤lo):AT lo' h v l:=AM.weak hc hl
theorem AT.len (hc:AT lo h v l) {h':AA}:CX Tryd.prog h' 27 v=some (iv (l.length:Int)):=AM.len hc Tryd.underlying27
theorem AT.get (hc:AT lo h v l) {i:Nat} {x:Int} (hx:l[i]?=some x):∃ id p,CM Tryd.prog 27 v (iv (i:Int))=some (qP id p)∧id<h.next∧AJ p (h.get id)=some (iv x):=by
 obtain⟨id,p,h1,h2,h3⟩:=AM.idx hc Tryd.underlying27 CP (List.getElem?_eq_some_iff.1 hx).1
 refine⟨id,p,h1,h2,?_⟩
 have:=h3 0 (by decide)
 rw[Nat.add_zero] at this
 rw[this,Nat.mul_one,Nat.add_zero,Y_,hx]
 rfl
theorem AT.row {r:Nat} {ty:TypeId} {g:Bool} {ex:List Value} {c n:Nat} (hg:h.get r=.row (ints l++ex) ty g false) (hr:lo≤r∧r<h.next) (hn:n=l.length):AT lo h (qS r n c) l:=by
 subst hn
 exact AM.row hg hr (by rw[F7,Nat.mul_one])
theorem AT.row' {r:Nat} {ty:TypeId} {g:Bool} {c n:Nat} (hg:h.get r=.row (ints l) ty g false) (hr:lo≤r∧r<h.next) (hn:n=l.length):AT lo h (qS r n c) l:=AT.row (ex:=[]) (by rw[List.append_nil];exact hg) hr hn
end
def HC (lo:Nat) (h:AA) (v:Value) (l:List AB):Prop:=A_ h v l∧AM lo h v l.length 5 (l.flatMap AZ)
theorem HC.of {lo:Nat} {h:AA} {v:Value} {l:List AB} (hc:AM lo h v l.length 5 (l.flatMap AZ)):HC lo h v l:=by
 refine⟨?_,hc⟩
 obtain⟨hl,a,c,rfl,⟨h0,rfl⟩ | ⟨id,off,row,ty,g,ro,rfl,h1,h2,h3⟩⟩:=hc
 ·exact⟨_,_,rfl,.inl ⟨List.length_eq_zero_iff.1 h0,rfl⟩⟩
 ·refine⟨_,_,rfl,.inr ⟨id,off,row,ty,g,ro,rfl,h1,h2.2,fun k r hk=>?_⟩⟩
  have hlt:=(List.getElem?_eq_some_iff.1 hk).1
  rw[← O_ hk,← h3.1,List.drop_take,List.drop_drop,List.take_take]
  congr 1
  have:k*5+5≤l.length*5:=by omega
  omega
theorem HC.mono {lo:Nat} {h h':AA} {v:Value} {l:List AB} (hc:HC lo h v l) (hn:h.next≤h'.next) (hg:∀ i,lo≤i→i<h.next→h'.get i=h.get i):HC lo h' v l:=HC.of (hc.2.mono hn hg)
theorem A_.cells {h:AA} {v:Value} {l:List AB} (hv:A_ h v l):HC 0 h v l:=by
 have hs:=IW l
 refine HC.of ⟨hs,?_⟩
 obtain⟨a,c,rfl,⟨rfl,rfl⟩ | ⟨id,off,cs,ty,g,ro,rfl,hg,hid,hc⟩⟩:=hv
 ·exact⟨_,_,rfl,.inl ⟨rfl,rfl⟩⟩
 ·exact⟨_,_,rfl,.inr ⟨id,off,cs,ty,g,ro,rfl,hg,⟨Nat.zero_le _,hid⟩,eD l cs off hc,fun h=>absurd h (Nat.lt_irrefl 0)⟩⟩
def CB (lo:Nat) (h:AA) (pv:Value) (nm:ByteArray) (s:AK):Prop:=
 ∃ vr vq vv vt vu vo,pv=.agg #[.string nm,vr,vq,vv,vt,vu,vo,iv s.miss]∧HC lo h vr s.rows∧AM lo h vq s.queues.length 2 (C9 s.queues)∧AM lo h vv s.vars.length 1 (DA s.vars)∧AM lo h vt s.tags.length 1 (DA s.tags)∧AT lo h vu s.rules∧AT lo h vo s.on
theorem CB.mono {lo:Nat} {h h':AA} {pv:Value} {nm:ByteArray} {s:AK} (hp:CB lo h pv nm s) (hn:h.next≤h'.next) (hg:∀ i,lo≤i→i<h.next→h'.get i=h.get i):CB lo h' pv nm s:=by
 obtain⟨vr,vq,vv,vt,vu,vo,h1,h2,h3,h4,h5,h6,h7⟩:=hp
 exact⟨vr,vq,vv,vt,vu,vo,h1,h2.mono hn hg,h3.mono hn hg,h4.mono hn hg,h5.mono hn hg,h6.mono hn hg,h7.mono hn hg⟩
theorem A_.one {h:AA} {v:Value} {l:List AB} (hv:A_ h v l):one v=true:=by
 obtain⟨a,c,rfl,_⟩:=hv
 rfl
section
variable {call:AN} {N:Nat} {h:AA}
end
theorem UL {P:Program} {call:AN} {n:Nat} {f:FuncId} {args:List Value} {h:AA} {fn:Func} {c:Code} {R:Value→AA→Prop} (hf:P.funcs[f]?=some fn) (hb:fn.body=some c) (hl:args.length≤fn.ntmps)
  (hw:WK P call n c ⟨IK 0 args .leaf,h⟩ (.top fun e s=>(e=.normal∨e=.ret)∧∃ vs,FZ P s fn.results.toList=some vs∧R (IM vs) s.h)):∃ v h',A7 P call n f args h=some (v,h')∧R v h':=ZX hf hb hl hw
def blk (rows:List AB) (E:List Int) (row:Nat):List AB:=(rows.drop row).take (((E[row]?).getD 0).toNat-row)
theorem PC.end {rows:List AB} {E rules:List Int} (hL:PC rows E rules) {i:Nat} (hi:i<rows.length):∃ q:Nat,E[i]?=some (q:Int)∧i≤q∧q≤rows.length∧blk rows E i=(rows.drop i).take (q-i):=by
 obtain⟨q,h1,h2,h3⟩:=hL.ends i hi
 exact⟨q,h1,by omega,h3,by unfold blk;rw[h1];rfl⟩
section
variable {call:AN} {N:Nat} {h:AA}
end
theorem Ei {k:Int} (h:BS k≠0):EK k=0∧ID k=false:=by
 have:k=2∨k=3∨k=4∨k=5∨k=7:=by
  unfold BS at h
  split at h
  ·rename_i h1
   simp only[List.contains_cons,List.contains_nil,Bool.or_false,Bool.or_eq_true,beq_iff_eq] at h1
   omega
  ·split at h
   ·omega
   ·split at h
    ·omega
    ·split at h
     ·omega
     ·exact absurd rfl h
 obtain rfl | rfl | rfl | rfl | rfl:=this <;> exact⟨rfl,rfl⟩
theorem kN {E:List Int} {at_:Nat} {s:AK} {x:AB} (hx:s.rows[at_]?=some x) (hd:BS x.kind≠0) :
  FE E at_ s=if FD x s≠0 then (FD x s,s) else (0,BO at_ ((E[at_]?).getD 0) x s):=by
 obtain⟨hc,he⟩:=Ei hd
 unfold FE
 rw[hx]
 simp only
 split
 ·rfl
 ·have hr:(BO at_ ((E[at_]?).getD 0) x s).rows[at_]?=some { x with n:=(BW s (BS x.kind):Int) }:=by
   rw[W3,if_neg hd]
   exact J9 hx
  rw[hr]
  simp only
  have h1:DP at_ { x with n:=(BW s (BS x.kind):Int) } (BO at_ ((E[at_]?).getD 0) x s)=0:=by unfold DP;rw[if_pos hc]
  have h2:B8 at_ { x with n:=(BW s (BS x.kind):Int) } (BO at_ ((E[at_]?).getD 0) x s)=BO at_ ((E[at_]?).getD 0) x s:=by unfold B8;rw[if_pos hc]
  rw[h1,h2,hr,if_neg (by simp)]
  simp only
  have h3:FF { x with n:=(BW s (BS x.kind):Int) } (BO at_ ((E[at_]?).getD 0) x s)=0:=by unfold FF;rw[if_pos he]
  have h4:EC at_ { x with n:=(BW s (BS x.kind):Int) } (BO at_ ((E[at_]?).getD 0) x s)=BO at_ ((E[at_]?).getD 0) x s:=by unfold EC;rw[if_pos he]
  rw[h3,h4,if_neg (by simp)]
theorem tJ {E:List Int} {at_:Nat} {s:AK} {x:AB} (hx:s.rows[at_]?=some x) (hd:BS x.kind=0) :
  FE E at_ s=if DP at_ x s≠0 then (DP at_ x s,s) else match (B8 at_ x s).rows[at_]? with
   | none=>(0,s)
   | some x2=>if FF x2 (B8 at_ x s)≠0 then (FF x2 (B8 at_ x s),s) else (0,EC at_ x2 (B8 at_ x s)):=by
 have h1:FD x s=0:=by unfold FD;rw[if_pos hd]
 have h2:BO at_ ((E[at_]?).getD 0) x s=s:=by unfold BO;rw[if_pos hd]
 unfold FE
 rw[hx]
 simp only
 rw[h1,h2,hx,if_neg (by simp)]
 all_goals rfl
theorem ZL {at_:Nat} {s:AK} {x:AB} (hx:s.rows[at_]?=some x) (hc:DP at_ x s=0) :
  ∃ n,(B8 at_ x s).rows[at_]?=some { x with n:=n }∧(∀ i,i≠at_→(B8 at_ x s).rows[i]?=s.rows[i]?)∧(B8 at_ x s).rules=s.rules∧(B8 at_ x s).on=s.on∧(B8 at_ x s).things=s.things ∧
   ((EK x.kind=0∧n=x.n)∨∃ t∈s.things,t.kind=EK x.kind∧n=t.num∧t.known≤at_∧F9 s.things x.name=some t):=by
 unfold DP at hc
 unfold B8
 by_cases h0:EK x.kind=0
 ·rw[if_pos h0]
  exact⟨x.n,hx,fun _ _=>rfl,rfl,rfl,rfl,.inl ⟨h0,rfl⟩⟩
 ·rw [if_neg h0] at hc ⊢
  cases hf:F9 s.things x.name with
  | none=>rw[hf] at hc;cases hc
  | some t=>
   rw[hf] at hc
   simp only at hc ⊢
   refine⟨t.num,J9 hx,fun i hi=>M_ hi,trivial,trivial,trivial,.inr ⟨t,aC hf,?_,rfl,?_,rfl⟩⟩
   ·split at hc
    ·cases hc
    ·split at hc
     ·cases hc
     ·rename_i h;simpa using h
   ·split at hc
    ·cases hc
    ·omega
section
variable {call:AN} {N:Nat} {h:AA}
theorem uX {k:Int}:A7 Tryd.prog call N 49 [iv k] h=some (iv (JF k),h):=by
 refine DL Tryd.func49 rfl (by simp[Tryd.f49]) ?_
 have hr:Tryd.f49.results.toList=[.tmp 2]:=rfl
 unfold JF
 by_cases h1:k=1
 ·have c1:(k==1)=true:=by simpa using h1
  rw[if_pos h1]
  simp only[eE,seval,↓eP,rP,hr,c1]
 have c1:(k==1)=false:=by simpa using h1
 rw[if_neg h1]
 by_cases h2:k=2
 ·have c2:(k==2)=true:=by simpa using h2
  rw[if_pos h2]
  simp only[eE,seval,↓eP,rP,hr,c1,c2]
 have c2:(k==2)=false:=by simpa using h2
 rw[if_neg h2]
 by_cases h3:k=3
 ·have c3:(k==3)=true:=by simpa using h3
  rw[if_pos h3]
  simp only[eE,seval,↓eP,rP,hr,c1,c2,c3]
 have c3:(k==3)=false:=by simpa using h3
 rw[if_neg h3]
 simp only[eE,seval,↓eP,rP,hr,c1,c2,c3]
end
theorem zB (k:Int) (h:AA):L1 49 [iv k] h=some (iv (JF k),h):=KS (I3 rfl rfl) rfl rfl rfl ⟨_,uX⟩
section
variable {n lo m e r k:Nat} {h:AA} {nm:ByteArray} {E:List Int} {s:AK}
end
section
variable {n:Nat} {h:AA} {rows:List AB} {E rules:List Int} {vr v0 vq vv vt vu vo v7 ve:Value}
end
def sZ:AK:=⟨[],[],[],[],[],[],0,[]⟩
def J_ (l:List AB):ByteArray:=match l[0]? with
 | some x=>x.name
 | none=>ByteArray.empty
noncomputable def DS (l:List AB):ByteArray × AK:=if (BE l).1.1≠0 then (ByteArray.empty,sZ) else (J_ l,(BE l).2)
abbrev SV:Value:=.agg #[.string ByteArray.empty,Z0,Z0,Z0,Z0,Z0,Z0,iv 0]
theorem Je (lo:Nat) (h:AA):CB lo h SV ByteArray.empty sZ:=
 ⟨_,_,_,_,_,_,rfl,HC.of (AM.nil lo h 5),AM.nil lo h 2,AM.nil lo h 1,AM.nil lo h 1,AM.nil lo h 1,AM.nil lo h 1⟩
theorem I5 {t:TypeId} {k:Nat} (ht:BN Tryd.prog t=some k) {h:AA} {id:Nat} {vs cs:List Value} {ty:TypeId} {g:Bool} (hg:h.get id=.row cs ty g false) (hl:cs.length=k) (hn:vs.length=k) (ho:vs.all one=true) (hf:h.floor≤id) :
  A9 Tryd.prog h t (qP id 0) (.agg vs.toArray)=some (h.put id (.row vs ty g false)):=by
 have hc:(Value.agg vs.toArray).cells=vs.toArray:=rfl
 have hlay:Go.Sx.lay cs 0 vs=vs:=by
  simp only[Go.Sx.lay,List.take_zero,List.nil_append,Nat.zero_add]
  rw[List.drop_of_length_le (by omega),List.append_nil]
 simp only[A9,hc,ht,GB,hg]
 rw[if_pos (by simp[hn]),if_pos (by simp only[ho];simp;omega),hlay]
theorem LY:DC Tryd.prog 33=some SV:=Bu
theorem LX:flat SV=true:=rfl
theorem X0:HW Tryd.prog (match Tryd.prog.underlying 33 with | some (.struct fs)=>fs.toList | _=>[])=some [(0,1),(1,1),(2,1),(3,1),(4,1),(5,1),(6,1),(7,1)]:=by kernel_rfl
theorem Z3:C1 Tryd.prog 33 []=some SV:=by
 have h:=X0
 rw[Tryd.underlying33] at h
 simp only at h
 simp only[C1,LY,LX,if_true,Tryd.underlying33,h]
 rfl
theorem Ko:BN Tryd.prog 34=some 1:=by kernel_rfl
theorem Ew:FM Tryd.prog 34=some false:=by kernel_rfl
theorem E8 {h:AA} {id off:Nat}:EL Tryd.prog h 34 (qP id off)=AJ off (h.get id):=K8 Ew
theorem E2 {id off:Nat}:BJ Tryd.prog 36 (qP id off) 0=some (qP id off):=by simp[BJ,Tryd.underlying36,Ko,CK]
def HS (a:Nat) (H:AA) (pcs:List Value) (e p:Int):Prop:=H.get a=.row pcs 33 false false∧H.get (a+1)=.row [iv e,iv p] 36 false false
section
variable {N:Nat} {call:AN}
end
noncomputable def XR:Code:=rt (rt (Tryd.f13.body.getD .skip))
noncomputable def Ex:Code:=rt XR
noncomputable def Ev:Code:=rt Ex
noncomputable def Oe:Code:=rt Ev
noncomputable def WQ:Code:=rt Oe
noncomputable def U3:Code:=rt WQ
noncomputable def iJ:Array Oper:=DX Tryd.f13 3
def Oc:List (Bool × Bool × List Operand):=[AR,AL,AH [.tmp 4],AL]
theorem Eo:DU iJ=Oc:=by kernel_rfl
noncomputable def sJ:Array Oper:=DX Tryd.f13 5
def Fb:List (Bool × Bool × List Operand):=[EU,E9 [.tmp 5],E9 [.tmp 5],E9 [.tmp 5],E9 [.tmp 5],AH [.tmp 5,.tmp 27],AH [.tmp 5,.tmp 27],AH [.tmp 5],AL,AL,AL]
theorem yU:DU sJ=Fb:=by kernel_rfl
theorem v8 {t:TypeId} {k:Nat} (ht:BN Tryd.prog t=some k) {h:AA} {id:Nat} {vs cs:List Value} {ty:TypeId} {g:Bool} (hg:h.get id=.row cs ty g false) (hl:k≤cs.length) (hn:vs.length=k) (ho:vs.all one=true) (hf:h.floor≤id) :
  A9 Tryd.prog h t (qP id 0) (.agg vs.toArray)=some (h.put id (.row (vs++cs.drop k) ty g false)):=by
 have hc:(Value.agg vs.toArray).cells=vs.toArray:=rfl
 have hlay:Go.Sx.lay cs 0 vs=vs++cs.drop k:=by
  simp only[Go.Sx.lay,List.take_zero,List.nil_append,Nat.zero_add,hn]
 simp only[A9,hc,ht,GB,hg]
 rw[if_pos (by simp[hn]),if_pos (by simp only[ho];simp;omega),hlay]
theorem vQ {nm:ByteArray} {a:Option Addr} {n c:Nat} {m:Int}:C1 Tryd.prog 33 [(0,.string nm),(1,.slice a n c),(7,iv m)]=some (.agg #[.string nm,.slice a n c,Z0,Z0,Z0,Z0,Z0,iv m]):=by
 have h:=X0
 rw[Tryd.underlying33] at h
 simp only at h
 simp only[C1,LY,LX,if_true,Tryd.underlying33,h]
 rfl
theorem Dh:HW Tryd.prog (match Tryd.prog.underlying 69 with | some (.struct fs)=>fs.toList | _=>[])=some [(0,8),(8,1),(9,1)]:=by kernel_rfl
theorem yQ:DC Tryd.prog 69=some (.agg #[.string ByteArray.empty,Z0,Z0,Z0,Z0,Z0,Z0,iv 0,.map none,.map none]):=by kernel_rfl
abbrev pQ (k c:Nat):Value:=.agg #[.string ByteArray.empty,Z0,Z0,Z0,Z0,Z0,Z0,iv 0,.map (some k),.map (some c)]
theorem Hl {k c:Nat}:C1 Tryd.prog 69 [(1,.map (some k)),(2,.map (some c))]=some (pQ k c):=by
 have h:=Dh
 rw[Tryd.underlying69] at h
 simp only at h
 have hf:flat (.agg #[.string ByteArray.empty,Z0,Z0,Z0,Z0,Z0,Z0,iv 0,.map none,.map none])=true:=rfl
 simp only[C1,yQ,hf,if_true,Tryd.underlying69,h]
 rfl
theorem kK:BN Tryd.prog 73=some 1:=by kernel_rfl
theorem Aq:FM Tryd.prog 73=some false:=by kernel_rfl
theorem tU:DC Tryd.prog 73=some .nilFunc:=by kernel_rfl
theorem Nc:DC Tryd.prog 65=some (.pointer none):=by kernel_rfl
theorem Iy:DC Tryd.prog 27=some (Z0):=by kernel_rfl
theorem s0 {h:AA} {id off:Nat}:EL Tryd.prog h 73 (qP id off)=AJ off (h.get id):=K8 Aq
theorem Ag {h:AA} {f0 f1 f2:FuncId} {a0 a1 a2 b0 b1 b2:Array Value}:FC Tryd.prog h 74 3 [(0,.func (.func f0) a0 b0),(1,.func (.func f1) a1 b1),(2,.func (.func f2) a2 b2)]=some (qS h.next 3 3,h.push (.row [.func (.func f0) a0 b0,.func (.func f1) a1 b1,.func (.func f2) a2 b2] 73 false false)):=by
 have hc:∀ (f:FuncId) (a b:Array Value),(Value.func (.func f) a b).cells=#[.func (.func f) a b]:=fun _ _ _=>rfl
 have hz:Value.nilFunc.cells=#[.nilFunc]:=rfl
 simp[FC,Tryd.underlying74,kK,tU,flat,BI,hc,hz,IS,BY,Go.Sx.lay]
theorem Du {h:AA} {id c i:Nat} (hi:i<3):CM Tryd.prog 74 (qS id 3 c) (iv (i:Int))=some (qP id i):=by
 simp only[CM,Tryd.underlying74,kK,CK]
 rw[if_pos (by omega)]
 simp
theorem Ed {h:AA} {a:Option Addr} {n c:Nat}:CX Tryd.prog h 74 (.slice a n c)=some (iv (n:Int)):=by simp[CX,Tryd.underlying74]
section
variable {N:Nat} {call:AN}
theorem Kl (hsn:CD call) {l:List AB} {v:Value} {h:AA} {K:CU} (hfl:h.floor≤h.next) (hv:A_ h v l)
  (hg:h.get 0=CF) (hn0:0<h.next)
  (hchk:∀ H,A_ H v l→H.get 0=CF→0<H.next→H.floor≤H.next→call 27 [v] H=some (BG (C4 l).1 (C4 l).2,H))
  (hk1:(C4 l).1≠0→∀ T' H,T'.get 2=qP h.next 0→T'.get 3=qP (h.next+1) 0→HS h.next H CY (C4 l).1 (C4 l).2 →
   h.next+2≤H.next→H.floor=h.floor→(∀ i,i<h.next→H.get i=h.get i)→K.ap Tryd.prog call N .ret ⟨T',H⟩)
  (hk2:(C4 l).1=0→∀ T' H,T'.get 0=v→T'.get 2=qP h.next 0→T'.get 3=qP (h.next+1) 0→HS h.next H CY 0 0 →
   h.next+2≤H.next→H.floor=h.floor→(∀ i,i<h.next→H.get i=h.get i)→WK Tryd.prog call N XR ⟨T',H⟩ K) :
  WK Tryd.prog call N (Tryd.f13.body.getD .skip) ⟨IK 0 [v] .leaf,h⟩ K:=by
 show WK _ _ _ (.seq _ (.seq _ XR)) _ _
 have N2:=E3 CY
 have ho2:∀ i,i<h.next→((h.push (.row CY 33 false false)).push (.row [iv 0,iv 0] 36 false false)).get i=h.get i:=fun i hi=>by rw[AQ (by show i<h.next+1;omega),AQ hi]
 have hc:=hchk ((h.push (.row CY 33 false false)).push (.row [iv 0,iv 0] 36 false false)) (hv.mono (by show h.next≤h.next+1+1;omega) ho2) ((ho2 0 hn0).trans hg) (by show 0<h.next+1+1;omega) (by show h.floor≤h.next+1+1;omega)
 have ga:=PE (h:=h) (o:=.row CY 33 false false) (o':=.row [iv 0,iv 0] 36 false false)
 have gb:=PK (h:=h) (o:=.row CY 33 false false) (o':=.row [iv 0,iv 0] 36 false false)
 simp only[eE,seval,↓eP,FU,FB,Fsx,LY,LX,N2,DD,DF,D7]
 generalize hH2:(h.push (.row CY 33 false false)).push (.row [iv 0,iv 0] 36 false false)=H2 at *
 have hn2:H2.next=h.next+1+1:=by rw[← hH2];rfl
 have hf2:H2.floor=h.floor:=by rw[← hH2];rfl
 have sF:=I5 (t:=36) IP (h:=H2.push (.row [iv 0,iv 0] 36 false false)) (vs:=[iv (C4 l).1,iv (C4 l).2]) BM rfl rfl rfl (by show H2.floor≤H2.next;omega)
 simp only[eE,seval,↓eP,FU,FB,Fsx,hc,DD,DF,D7,sF]
 have hg4:((H2.push (.row [iv 0,iv 0] 36 false false)).put H2.next (.row [iv (C4 l).1,iv (C4 l).2] 36 false false)).get H2.next=.row [iv (C4 l).1,iv (C4 l).2] 36 false false:=B0 rfl (by show H2.next<H2.next+1;omega)
 have hga:((H2.push (.row [iv 0,iv 0] 36 false false)).put H2.next (.row [iv (C4 l).1,iv (C4 l).2] 36 false false)).get h.next=.row CY 33 false false:=by
  rw[AX (by show H2.next<H2.next+1;omega) (by omega),AQ (by omega)];exact ga
 have hgb:((H2.push (.row [iv 0,iv 0] 36 false false)).put H2.next (.row [iv (C4 l).1,iv (C4 l).2] 36 false false)).get (h.next+1)=.row [iv 0,iv 0] 36 false false:=by
  rw[AX (by show H2.next<H2.next+1;omega) (by omega),AQ (by omega)];exact gb
 have hgo:∀ i,i<h.next→((H2.push (.row [iv 0,iv 0] 36 false false)).put H2.next (.row [iv (C4 l).1,iv (C4 l).2] 36 false false)).get i=h.get i:=fun i hi=>by
  rw[AX (by show H2.next<H2.next+1;omega) (by omega),AQ (by omega)];exact ho2 i hi
 have hn3:((H2.push (.row [iv 0,iv 0] 36 false false)).put H2.next (.row [iv (C4 l).1,iv (C4 l).2] 36 false false)).next=h.next+3:=by show H2.next+1=_;omega
 have hf3:((H2.push (.row [iv 0,iv 0] 36 false false)).put H2.next (.row [iv (C4 l).1,iv (C4 l).2] 36 false false)).floor=h.floor:=hf2
 generalize (H2.push (.row [iv 0,iv 0] 36 false false)).put H2.next (.row [iv (C4 l).1,iv (C4 l).2] 36 false false)=H3 at *
 have l4:AJ 0 (H3.get H2.next)=some (iv (C4 l).1):=by rw[hg4];rfl
 cases d:((C4 l).1 != 0) with
 | false=>
  have e0:(C4 l).1=0:=by simpa using d
  simp only[eE,seval,↓eP,FU,MT,FB,Fsx,E2,E8,l4,d]
  refine hk2 e0 _ _ ?_ ?_ ?_ ⟨hga,hgb⟩ (by omega) hf3 hgo <;> simp only[eE,seval,↓eP,rP]
 | true=>
  have e0:(C4 l).1≠0:=by simpa using d
  have l42:AW 2 0 (H3.get H2.next)=some (BG (C4 l).1 (C4 l).2):=by rw[hg4];rfl
  have sP:=I5 HM (vs:=CY) hga rfl rfl rfl (by omega)
  have hgb':=(AX (h:=H3) (i:=h.next) (j:=h.next+1) (o:=.row CY 33 false false) (by omega) (by omega)).trans hgb
  have sF2:=I5 (t:=36) IP (vs:=[iv (C4 l).1,iv (C4 l).2]) hgb' rfl rfl rfl (by show H3.floor≤_;omega)
  have n1:(some H2.next != some h.next)=true:=by simp;omega
  have i1:CV (qP H2.next 0)=some H2.next:=rfl
  have i2:CV (qP h.next 0)=some h.next:=rfl
  simp only[eE,seval,↓eP,FU,MT,FB,Fsx,E2,E8,l4,d]
  refine WK.flags (ops:=iJ) Eo ?_
  refine CO.begin ?_
  refine AG hsn 0 (some 18) (.build 33 #[]) none ?_
  simp only[rG,seval,AC,AF,AE,List.map_nil,Z3]
  refine AG hsn 1 (some 19) (.load 36 (.tmp 4)) none ?_
  simp only[rG,seval,AC,AF,AE,CZ,CG,l42,i1]
  refine AG hsn 2 (none) (.store 33 (.tmp 2) (.tmp 18)) none ?_
  simp only[rG,seval,AC,AF,AE,CQ,DI,i1,i2,n1,sP]
  refine AG hsn 3 (none) (.store 36 (.tmp 3) (.tmp 19)) none ?_
  simp only[rG,seval,AC,AF,AE,CQ,DI,sF2]
  refine CO.done (i:=4) (by kernel_rfl) ?_
  simp only[eE,seval,↓eP,FU,MT,FB,Fsx]
  have ha:∀ i,i≠h.next→(H3.put h.next (.row CY 33 false false)).get i=H3.get i:=fun i hi=>AX (by omega) (Ne.symm hi)
  refine hk1 e0 _ _ ?_ ?_ ⟨?_,B0 rfl (by show h.next+1<H3.next;omega)⟩ (by show h.next+2≤H3.next;omega) hf3 fun i hi=>?_
  ·simp only[eE,seval,↓eP,rP]
  ·simp only[eE,seval,↓eP,rP]
  ·rw[AX (by show h.next+1<H3.next;omega) (by omega)]
   exact B0 rfl (by omega)
  ·rw[AX (by show h.next+1<H3.next;omega) (by omega),ha i (by omega)]
   exact hgo i hi
structure UX (h:AA) (m e c5 c6 fl n:Nat) (E:List Int):Prop where
 h5:h.get c5=.row [qP m 0] 65 false false
 h6:h.get c6=.row [qS e n n] 27 false false
 hf:h.get fl=.row [.func (.func 30) #[] #[qP c5 0,qP c6 0],.func (.func 32) #[qP m 0] #[],.func (.func 33) #[qP m 0] #[]] 73 false false
theorem Kn (hsn:CD call) {l:List AB} {v:Value} {T:Tr} {H:AA} {K:CU} (ht:CN l) (hlen:l.length<2932031007403) (hfl:H.floor≤H.next) (hv:A_ H v l) (t0:T.get 0=v)
  (hclone:∀ H,A_ H v l→∃ h',call 28 [v] H=some (qS (H.next+1) l.length AP,h')∧(h'.get (H.next+1)=.row (l.flatMap AZ) 61 true false∧h'.next=H.next+2∧h'.floor=H.floor∧∀ i,i<H.next→h'.get i=H.get i))
  (hends:∀ H,A_ H v l→H.floor≤H.next→∃ h',call 29 [v] H=some (qS H.next l.length l.length,h')∧(h'.get H.next=.row (ints (BR l)) 3 false false∧h'.next=H.next+1∧h'.floor=H.floor∧∀ i,i<H.next→h'.get i=H.get i))
  (hk:∀ T' H' m k c e r c5 c6 fl,T'.get 0=v→T'.get 2=T.get 2→T'.get 3=T.get 3→T'.get 5=qP c5 0→T'.get 6=qP c6 0→T'.get 7=qS fl 3 3 →
   ER H' H.next m k c e r l.length (J_ l) (BR l) [c5,c6,fl] (CR l)→UX H' m e c5 c6 fl l.length (BR l)→H.next≤H'.next→H'.floor=H.floor→(∀ i,i<H.next→H'.get i=H.get i)→WK Tryd.prog call N WQ ⟨T',H'⟩ K) :
  WK Tryd.prog call N XR ⟨T,H⟩ K:=by
 show WK _ _ _ (.seq _ (.seq (.region _ _ true) (.seq _ (.seq _ WQ)))) _ _
 have hpos:=ht.pos
 obtain⟨x,hx⟩:∃ x,l[0]?=some x:=⟨_,List.getElem?_eq_getElem hpos⟩
 have hnm:J_ l=x.name:=by unfold J_;rw[hx]
 have mc:(pQ H.next (H.next+1)).cells.toList=[.string ByteArray.empty,Z0,Z0,Z0,Z0,Z0,Z0,iv 0,.map (some H.next),.map (some (H.next+1))]:=rfl
 have mo:([.string ByteArray.empty,Z0,Z0,Z0,Z0,Z0,Z0,iv 0,.map (some H.next),.map (some (H.next+1))]:List Value).all one=true:=rfl
 have z79:(Value.pointer none).cells.toList=[.pointer none]:=rfl
 have f79:flat (.pointer none)=true:=rfl
 have hst:A9 Tryd.prog ((((H.push (.map [])).push (.map [])).push (.row [.string ByteArray.empty,Z0,Z0,Z0,Z0,Z0,Z0,iv 0,.map (some H.next),.map (some (H.next+1))] 69 false false)).push (.row [.pointer none] 65 false false)) 65 (qP (H.next+1+1+1) 0) (qP (H.next+1+1) 0)=_:=
  HD (off:=0) Kt rfl rfl (BM (h:=(((H.push (.map [])).push (.map [])).push (.row [.string ByteArray.empty,Z0,Z0,Z0,Z0,Z0,Z0,iv 0,.map (some H.next),.map (some (H.next+1))] 69 false false)))) (by decide) (by show H.floor≤H.next+1+1+1;omega)
 simp only[eE,seval,↓eP,FU,FB,Fsx,Hl,mc,mo,Dm,Nc,z79,f79,hst]
 have n1:(((H.push (.map [])).push (.map [])).push (.row [.string ByteArray.empty,Z0,Z0,Z0,Z0,Z0,Z0,iv 0,.map (some H.next),.map (some (H.next+1))] 69 false false)).next=H.next+1+1+1:=rfl
 have P0:∀ i,i<H.next→((((H.push (.map [])).push (.map [])).push (.row [.string ByteArray.empty,Z0,Z0,Z0,Z0,Z0,Z0,iv 0,.map (some H.next),.map (some (H.next+1))] 69 false false)).push (.row [.pointer none] 65 false false)).get i=H.get i:=fun i hi=>by
  rw[AQ (by show i<H.next+1+1+1;omega),AQ (by show i<H.next+1+1;omega),AQ (by show i<H.next+1;omega),AQ hi]
 have P1:((((H.push (.map [])).push (.map [])).push (.row [.string ByteArray.empty,Z0,Z0,Z0,Z0,Z0,Z0,iv 0,.map (some H.next),.map (some (H.next+1))] 69 false false)).push (.row [.pointer none] 65 false false)).get H.next=.map []:=by
  rw[AQ (by show H.next<H.next+1+1+1;omega),AQ (by show H.next<H.next+1+1;omega)];exact PE
 have P2:((((H.push (.map [])).push (.map [])).push (.row [.string ByteArray.empty,Z0,Z0,Z0,Z0,Z0,Z0,iv 0,.map (some H.next),.map (some (H.next+1))] 69 false false)).push (.row [.pointer none] 65 false false)).get (H.next+1)=.map []:=by
  rw[AQ (by show H.next+1<H.next+1+1+1;omega),AQ (by show H.next+1<H.next+1+1;omega)];exact PK
 have P3:((((H.push (.map [])).push (.map [])).push (.row [.string ByteArray.empty,Z0,Z0,Z0,Z0,Z0,Z0,iv 0,.map (some H.next),.map (some (H.next+1))] 69 false false)).push (.row [.pointer none] 65 false false)).get (H.next+1+1)=.row [.string ByteArray.empty,Z0,Z0,Z0,Z0,Z0,Z0,iv 0,.map (some H.next),.map (some (H.next+1))] 69 false false:=by
  rw[AQ (by show H.next+1+1<H.next+1+1+1;omega)];exact BM (h:=(H.push (.map [])).push (.map []))
 have nA:((((H.push (.map [])).push (.map [])).push (.row [.string ByteArray.empty,Z0,Z0,Z0,Z0,Z0,Z0,iv 0,.map (some H.next),.map (some (H.next+1))] 69 false false)).push (.row [.pointer none] 65 false false)).next=H.next+4:=rfl
 have fA:((((H.push (.map [])).push (.map [])).push (.row [.string ByteArray.empty,Z0,Z0,Z0,Z0,Z0,Z0,iv 0,.map (some H.next),.map (some (H.next+1))] 69 false false)).push (.row [.pointer none] 65 false false)).floor=H.floor:=rfl
 generalize (((H.push (.map [])).push (.map [])).push (.row [.string ByteArray.empty,Z0,Z0,Z0,Z0,Z0,Z0,iv 0,.map (some H.next),.map (some (H.next+1))] 69 false false)).push (.row [.pointer none] 65 false false)=A0 at *
 have Q:∀ i,i≠H.next+1+1+1→(A0.put (H.next+1+1+1) (.row ([Value.pointer none].set 0 (qP (H.next+1+1) 0)) 65 false false)).get i=A0.get i:=fun i hi=>AX (by omega) (Ne.symm hi)
 have a0:∀ i,i<H.next→(A0.put (H.next+1+1+1) (.row ([Value.pointer none].set 0 (qP (H.next+1+1) 0)) 65 false false)).get i=H.get i:=fun i hi=>by rw[Q i (by omega)];exact P0 i hi
 have a1:=(Q H.next (by omega)).trans P1
 have a2:=(Q (H.next+1) (by omega)).trans P2
 have a3:=(Q (H.next+1+1) (by omega)).trans P3
 have a4:(A0.put (H.next+1+1+1) (.row ([Value.pointer none].set 0 (qP (H.next+1+1) 0)) 65 false false)).get (H.next+1+1+1)=.row [qP (H.next+1+1) 0] 65 false false:=B0 rfl (by omega)
 have nB:(A0.put (H.next+1+1+1) (.row ([Value.pointer none].set 0 (qP (H.next+1+1) 0)) 65 false false)).next=H.next+4:=nA
 have fB:(A0.put (H.next+1+1+1) (.row ([Value.pointer none].set 0 (qP (H.next+1+1) 0)) 65 false false)).floor=H.floor:=fA
 generalize A0.put (H.next+1+1+1) (.row ([Value.pointer none].set 0 (qP (H.next+1+1) 0)) 65 false false)=A at *
 clear hst n1 P0 P1 P2 P3 nA fA Q A0
 have hvA:A_ A v l:=hv.mono (by omega) a0
 obtain⟨id,q,e0,hid,l0,l1,l2,l3,l4,lr⟩:=hvA.row hx
 have e0':CM Tryd.prog 26 v (iv 0)=some (qP id q):=e0
 have hidT:(id<A.next)=True:=by simp[hid]
 have l79:AJ 0 (A.get (H.next+1+1+1))=some (qP (H.next+1+1) 0):=by rw[a4];rfl
 have hvf:A_ (A.fl (max A.floor A.next)) v l:=hvA.mono (Nat.le_refl _) fun _ _=>rfl
 obtain⟨h3,hE,g1,g2,g3,g4⟩:=hclone (A.fl (max A.floor A.next)) hvf
 simp only[E1] at hE g1 g2 g4
 have g4':∀ i,i<A.next→h3.get i=A.get i:=g4
 have hs30:A9 Tryd.prog (h3.fl A.floor) 33 (qP (H.next+1+1) 0) (.agg #[.string x.name,qS (A.next+1) l.length AP,Z0,Z0,Z0,Z0,Z0,iv (-1)])=_:=
  v8 (vs:=[.string x.name,qS (A.next+1) l.length AP,Z0,Z0,Z0,Z0,Z0,iv (-1)]) HM (by rw[H_,g4' _ (by omega)];exact a3) (by simp only[List.length_cons,List.length_nil];omega) rfl rfl (by show A.floor≤_;omega)
 have i3:((H.next+1+1+1)<A.next)=True:=by simp;omega
 refine WK.flags (ops:=sJ) yU ?_
 refine CO.begin ?_
 refine AG hsn 0 (some 24) (.load 65 (.tmp 5)) none ?_
 simp only[rG,seval,AC,AF,AE,CZ,l79,i3,S0]
 refine AG hsn 1 (some 25) (.move (.tmp 0)) none ?_
 simp only[rG,seval,AC,AF,AE,t0]
 refine AG hsn 2 (some 26) (.indexAddr 26 (.tmp 25) (.const (Value.int IntKind.i64 0))) none ?_
 simp only[rG,seval,AC,AF,AE,e0']
 refine AG hsn 3 (some 27) (.fieldAddr 61 (.tmp 26) 1) none ?_
 simp only[rG,seval,AC,AF,AE,MC]
 refine AG hsn 4 (some 28) (.load 9 (.tmp 27)) none ?_
 simp only[rG,seval,AC,AF,AE,CZ,hidT,GQ,l1]
 refine AG hsn 5 (some 29) (.move (.tmp 0)) none ?_
 simp only[rG,seval,AC,AF,AE,t0]
 refine AG hsn 6 (some 30) (.call { callee:=.value (.func 28),args:=#[.tmp 29],argTypes:=#[26] }) none ?_
 simp only[rG,seval,AC,AF,AE,DY,hE]
 refine AG hsn 7 (some 31) (.build 33 #[(0,.tmp 28),(1,.tmp 30),(7,.const (Value.int IntKind.i64 (-1)))]) none ?_
 simp only[rG,seval,AC,AF,AE,List.map_cons,List.map_nil,vQ]
 refine AG hsn 8 (some 32) (.nilCheck (.tmp 24)) none ?_
 simp only[rG,seval,AC,AF,AE]
 refine AG hsn 9 (some 33) (.fieldAddr 69 (.tmp 32) 0) none ?_
 simp only[rG,seval,AC,AF,AE,IX]
 refine AG hsn 10 (none) (.store 33 (.tmp 33) (.tmp 31)) none ?_
 simp only[rG,seval,AC,AF,AE,CQ,DI,hs30]
 refine CO.done (i:=11) (by kernel_rfl) ?_
 have hgo:∀ i,i≠H.next+1+1→((h3.fl A.floor).put (H.next+1+1) (BC.row ([.string x.name,qS (A.next+1) l.length AP,Z0,Z0,Z0,Z0,Z0,iv (-1)]++List.drop 8 [.string ByteArray.empty,Z0,Z0,Z0,Z0,Z0,Z0,iv 0,.map (some H.next),.map (some (H.next+1))]) 69 false false)).get i=h3.get i:=fun i hi=>AX (by show _<h3.next;omega) (Ne.symm hi)
 have b0:∀ i,i<H.next→((h3.fl A.floor).put (H.next+1+1) (BC.row ([.string x.name,qS (A.next+1) l.length AP,Z0,Z0,Z0,Z0,Z0,iv (-1)]++List.drop 8 [.string ByteArray.empty,Z0,Z0,Z0,Z0,Z0,Z0,iv 0,.map (some H.next),.map (some (H.next+1))]) 69 false false)).get i=H.get i:=fun i hi=>by rw[hgo i (by omega),g4' i (by omega),a0 i hi]
 have b1:((h3.fl A.floor).put (H.next+1+1) (BC.row ([.string x.name,qS (A.next+1) l.length AP,Z0,Z0,Z0,Z0,Z0,iv (-1)]++List.drop 8 [.string ByteArray.empty,Z0,Z0,Z0,Z0,Z0,Z0,iv 0,.map (some H.next),.map (some (H.next+1))]) 69 false false)).get H.next=.map []:=by rw[hgo _ (by omega),g4' _ (by omega)];exact a1
 have b2:((h3.fl A.floor).put (H.next+1+1) (BC.row ([.string x.name,qS (A.next+1) l.length AP,Z0,Z0,Z0,Z0,Z0,iv (-1)]++List.drop 8 [.string ByteArray.empty,Z0,Z0,Z0,Z0,Z0,Z0,iv 0,.map (some H.next),.map (some (H.next+1))]) 69 false false)).get (H.next+1)=.map []:=by rw[hgo _ (by omega),g4' _ (by omega)];exact a2
 have b3:((h3.fl A.floor).put (H.next+1+1) (BC.row ([.string x.name,qS (A.next+1) l.length AP,Z0,Z0,Z0,Z0,Z0,iv (-1)]++List.drop 8 [.string ByteArray.empty,Z0,Z0,Z0,Z0,Z0,Z0,iv 0,.map (some H.next),.map (some (H.next+1))]) 69 false false)).get (H.next+1+1)=.row [.string x.name,qS (A.next+1) l.length AP,Z0,Z0,Z0,Z0,Z0,iv (-1),.map (some H.next),.map (some (H.next+1))] 69 false false:=B0 rfl (by show _<h3.next;omega)
 have b4:((h3.fl A.floor).put (H.next+1+1) (BC.row ([.string x.name,qS (A.next+1) l.length AP,Z0,Z0,Z0,Z0,Z0,iv (-1)]++List.drop 8 [.string ByteArray.empty,Z0,Z0,Z0,Z0,Z0,Z0,iv 0,.map (some H.next),.map (some (H.next+1))]) 69 false false)).get (H.next+1+1+1)=.row [qP (H.next+1+1) 0] 65 false false:=by rw[hgo _ (by omega),g4' _ (by omega)];exact a4
 have b5:((h3.fl A.floor).put (H.next+1+1) (BC.row ([.string x.name,qS (A.next+1) l.length AP,Z0,Z0,Z0,Z0,Z0,iv (-1)]++List.drop 8 [.string ByteArray.empty,Z0,Z0,Z0,Z0,Z0,Z0,iv 0,.map (some H.next),.map (some (H.next+1))]) 69 false false)).get (A.next+1)=.row (l.flatMap AZ) 61 true false:=by rw[hgo _ (by omega)];exact g1
 have nW:((h3.fl A.floor).put (H.next+1+1) (BC.row ([.string x.name,qS (A.next+1) l.length AP,Z0,Z0,Z0,Z0,Z0,iv (-1)]++List.drop 8 [.string ByteArray.empty,Z0,Z0,Z0,Z0,Z0,Z0,iv 0,.map (some H.next),.map (some (H.next+1))]) 69 false false)).next=H.next+6:=by show h3.next=_;omega
 have fW:((h3.fl A.floor).put (H.next+1+1) (BC.row ([.string x.name,qS (A.next+1) l.length AP,Z0,Z0,Z0,Z0,Z0,iv (-1)]++List.drop 8 [.string ByteArray.empty,Z0,Z0,Z0,Z0,Z0,Z0,iv 0,.map (some H.next),.map (some (H.next+1))]) 69 false false)).floor=H.floor:=fB
 generalize (h3.fl A.floor).put (H.next+1+1) (BC.row ([.string x.name,qS (A.next+1) l.length AP,Z0,Z0,Z0,Z0,Z0,iv (-1)]++List.drop 8 [.string ByteArray.empty,Z0,Z0,Z0,Z0,Z0,Z0,iv 0,.map (some H.next),.map (some (H.next+1))]) 69 false false)=B at *
 have hvB:A_ B v l:=hv.mono (by omega) b0
 obtain⟨h4,hN,k1,k2,k3,k4⟩:=hends B hvB (by omega)
 have z28:(Z0).cells.toList=[Z0]:=rfl
 have f28:flat (Z0)=true:=rfl
 have hst:A9 Tryd.prog (h4.push (.row [Z0] 27 false false)) 27 (qP h4.next 0) (qS B.next l.length l.length)=_:=HD (off:=0) LU rfl rfl BM (by decide) (by show h4.floor≤h4.next;omega)
 have c0:∀ i,i≠h4.next→((h4.push (.row [Z0] 27 false false)).put h4.next (.row ([Z0].set 0 (qS B.next l.length l.length)) 27 false false)).get i=h4.get i:=fun i hi=>by rw[AX (by show h4.next<h4.next+1;omega) (Ne.symm hi),OM hi]
 have c6:((h4.push (.row [Z0] 27 false false)).put h4.next (.row ([Z0].set 0 (qS B.next l.length l.length)) 27 false false)).get h4.next=.row [qS B.next l.length l.length] 27 false false:=B0 rfl (by show h4.next<h4.next+1;omega)
 have nC:((h4.push (.row [Z0] 27 false false)).put h4.next (.row ([Z0].set 0 (qS B.next l.length l.length)) 27 false false)).next=H.next+8:=by show h4.next+1=_;omega
 have fC:((h4.push (.row [Z0] 27 false false)).put h4.next (.row ([Z0].set 0 (qS B.next l.length l.length)) 27 false false)).floor=H.floor:=by show h4.floor=_;omega
 simp only[eE,seval,↓eP,FU,FB,Fsx,t0,hN,Iy,z28,f28,hst]
 generalize (h4.push (.row [Z0] 27 false false)).put h4.next (.row ([Z0].set 0 (qS B.next l.length l.length)) 27 false false)=C at *
 have l5:AJ 0 (C.get (H.next+1+1+1))=some (qP (H.next+1+1) 0):=by rw[c0 _ (by omega),k4 _ (by omega),b4];rfl
 simp only[eE,seval,↓eP,FU,FB,Fsx,S0,l5,List.map_toArray,Ag]
 have D0:∀ (o:BC) i,i<C.next→(C.push o).get i=C.get i:=fun o i hi=>AQ hi
 have D6:∀ (o:BC) i,i<B.next→(C.push o).get i=B.get i:=fun o i hi=>by rw[D0 o i (by omega),c0 i (by omega),k4 i hi]
 have n4:h4.next=H.next+7:=by omega
 refine hk _ _ (H.next+1+1) H.next (H.next+1) B.next (A.next+1) (H.next+1+1+1) h4.next C.next ?_ ?_ ?_ ?_ ?_ ?_ ⟨fun i=>if i=H.next+1+1 then 0 else if i=A.next+1 then 1 else if i=H.next then 8 else if i=H.next+1 then 9 else if i=B.next then 10 else 11,Z0,Z0,Z0,Z0,Z0,[],?_,?_,⟨by simp[CR],by simp[CR],by simp[CR],by simp[CR],rfl,fun t ht=>by cases ht⟩,fun i hi=>?_⟩ ⟨?_,?_,BM⟩ (by show H.next≤C.next+1;omega) (by show C.floor=H.floor;exact fC) fun i hi=>?_
 ·simp only[eE,seval,↓eP,rP,t0]
 ·simp only[eE,seval,↓eP,rP]
 ·simp only[eE,seval,↓eP,rP]
 ·simp only[eE,seval,↓eP,rP]
 ·simp only[eE,seval,↓eP,rP]
 ·simp only[eE,seval,↓eP,rP]
 ·exact
   { cell:=by rw[D6 _ _ (by omega),b3,hnm];rfl
     pol:=
      { rows:=by rw[D6 _ _ (by omega)];exact b5
        len:=rfl
        tr:=by rw[if_neg (by omega),if_pos rfl]
        lr:=⟨by omega,by show _<C.next+1;omega⟩
        q:=TF
        v:=TF
        t:=TF
        u:=TF
        o:=TF }
     known:=by rw[D6 _ _ (by omega)];exact b1
     many:=by rw[D6 _ _ (by omega)];exact b2
     ends:=by rw[D0 _ _ (by omega),c0 _ (by omega)];exact k1
     tm:=if_pos rfl
     tk:=by rw[if_neg (by omega),if_neg (by omega),if_pos rfl]
     tc:=by rw[if_neg (by omega),if_neg (by omega),if_neg (by omega),if_pos rfl]
     te:=by rw[if_neg (by omega),if_neg (by omega),if_neg (by omega),if_neg (by omega),if_pos rfl]
     lm:=⟨by omega,by show _<C.next+1;omega⟩
     lk:=⟨Nat.le_refl _,by show _<C.next+1;omega⟩
     lc:=⟨by omega,by show _<C.next+1;omega⟩
     le:=⟨by omega,by show _<C.next+1;omega⟩
     fl:=by show C.floor≤H.next;omega }
 ·refine⟨fun p hp=>(by cases hp),fun k h1 h4=>?_⟩
  have:BW (CR l) k=0:=by unfold BW;(repeat' split) <;> rfl
  rw[if_pos this]
  rfl
 ·have hii:i=H.next+1+1+1∨i=h4.next∨i=C.next:=by simpa using hi
  refine⟨by show i<C.next+1;omega,?_⟩
  show 11≤(if i=H.next+1+1 then 0 else if i=A.next+1 then 1 else if i=H.next then 8 else if i=H.next+1 then 9 else if i=B.next then 10 else 11)
  rw[if_neg (by omega),if_neg (by omega),if_neg (by omega),if_neg (by omega),if_neg (by omega)]
  exact Nat.le_refl _
 ·rw[D6 _ _ (by omega)];exact b4
 ·rw[D0 _ _ (by omega)];exact c6
 ·rw[D6 _ _ (by omega)];exact b0 i hi
end
noncomputable def jY:Code:=inB (Og Tryd.f13 1)
theorem HS.mono {a:Nat} {H H':AA} {cs:List Value} {e p:Int} (h:HS a H cs e p) (h0:H'.get a=H.get a) (h1:H'.get (a+1)=H.get (a+1)):HS a H' cs e p:=⟨h0.trans h.1,h1.trans h.2⟩
section
variable {N:Nat} {call:AN}
theorem UT {a:Nat} {H:AA} {cs:List Value} {e p:Int} (h:HS a H cs e p) (hl:cs.length=8) (ha:a+1<H.next) (hf:H.floor≤a) {cs':List Value} (hl':cs'.length=8) (ho':cs'.all one=true) {e' p':Int} :
  ∃ H',A9 Tryd.prog H 33 (qP a 0) (.agg cs'.toArray)=some (H.put a (.row cs' 33 false false))∧A9 Tryd.prog (H.put a (.row cs' 33 false false)) 36 (qP (a+1) 0) (BG e' p')=some H' ∧
   HS a H' cs' e' p'∧H'.next=H.next∧H'.floor=H.floor∧∀ i,i≠a→i≠a+1→H'.get i=H.get i:=by
 have s1:=I5 (k:=8) HM h.1 hl hl' ho' hf
 have hb:(H.put a (.row cs' 33 false false)).get (a+1)=.row [iv e,iv p] 36 false false:=by rw[AX (by omega) (by omega)];exact h.2
 have s2:=I5 (t:=36) (k:=2) IP (vs:=[iv e',iv p']) hb rfl rfl rfl (by show H.floor≤a+1;omega)
 refine⟨_,s1,s2,⟨?_,B0 rfl (by show a+1<H.next;omega)⟩,rfl,rfl,fun i hi hi'=>?_⟩
 ·rw[AX (by show a+1<H.next;omega) (by omega)]
  exact B0 rfl (by omega)
 ·rw[AX (by show a+1<H.next;omega) (by omega),AX (by omega) (by omega)]
theorem zD {at_ a fl lo m k c e r n:Nat} {nm:ByteArray} {E:List Int} {F:List Nat} {er:Nat→Int} {st:Nat→AK} {T:Tr} {H:AA} {K:CU} {fs:List Value}
  (t2:T.get 2=qP a 0) (t3:T.get 3=qP (a+1) 0) (t7:T.get 7=qS fl 3 3) (t44:T.get 44=iv at_)
  (hN:3<N) (hp:ER H lo m k c e r n nm E F (st 0)) (ha:a+1<lo) (hlo:lo≤H.next) (hout:HS a H CY 0 0) (hfa:H.floor≤a) (hfl:H.get fl=.row fs 73 false false) (hFl:fl∈F)
  (hlook:∀ i,i<3→∀ H1,ER H1 lo m k c e r n nm E F (st i)→FP H H1 lo F→(∀ j,j<i→er j=0)→∃ fid first cap H2,fs[i]?=some (.func (.func fid) first cap)∧call fid (first.toList++[iv at_]++cap.toList) H1=some (iv (er i),H2)∧FP H1 H2 lo F∧(er i=0→ER H2 lo m k c e r n nm E F (st (i+1))))
  (hbad:∀ i,i<3→er i≠0→(∀ j,j<i→er j=0)→∀ T' H',T'.get 2=qP a 0→T'.get 3=qP (a+1) 0→HS a H' CY (er i) at_→H.next≤H'.next→H'.floor=H.floor→(∀ i,i<a→H'.get i=H.get i)→K.ap Tryd.prog call N .ret ⟨T',H'⟩)
  (hgood:(∀ j,j<3→er j=0)→∀ T' H',(∀ t,t≤7∨(42≤t∧t≤44)→T'.get t=T.get t)→ER H' lo m k c e r n nm E F (st 3)→FP H H' lo F→K.ap Tryd.prog call N .normal ⟨T',H'⟩) :
  WK Tryd.prog call N jY ⟨T,H⟩ K:=by
 show WK _ _ _ (.seq _ (.seq _ (.block 2 (.loop (.seq _ (.seq _ (.seq (.block 3 _) _))))))) _ _
 simp only[eE,↓reduceIte,Nat.reduceEqDiff,reduceCtorEq,↓eP,t7,t44,Ed]
 refine WK.loop (fun i s'=>s'.T.get 47=qS fl 3 3∧s'.T.get 48=iv 3∧s'.T.get 49=iv i∧s'.T.get 8=iv at_∧i≤3∧(∀ t,t≤7∨(42≤t∧t≤44)→s'.T.get t=T.get t)∧ER s'.h lo m k c e r n nm E F (st i)∧FP H s'.h lo F∧∀ j,j<i→er j=0) 3 hN ?_ ?_
 ·refine⟨by simp only[eE,↓reduceIte,Nat.reduceEqDiff,reduceCtorEq,↓eP,rP,Nat.reduceAdd,Nat.reduceLT],by simp only[eE,↓reduceIte,Nat.reduceEqDiff,reduceCtorEq,↓eP,rP,Nat.reduceAdd,Nat.reduceLT];rfl,by simp only[eE,↓reduceIte,Nat.reduceEqDiff,reduceCtorEq,↓eP,rP,Nat.reduceAdd,Nat.reduceLT];rfl,by simp only[eE,↓reduceIte,Nat.reduceEqDiff,reduceCtorEq,↓eP,rP,Nat.reduceAdd,Nat.reduceLT],by omega,fun t ht=>?_,hp,⟨fun _ _=>rfl,Nat.le_refl _,rfl⟩,fun j hj=>by omega⟩
  simp only[Tr.get_put,Option.some.injEq]
  repeat rw[if_neg (by omega)]
 ·rintro i ⟨T1,H1⟩ hi ⟨t47,t48,t49,t8,hi3,hkeep,hp1,haf,hz⟩
  simp only at t47 t48 t49 t8 hkeep hp1 haf
  have t2':T1.get 2=qP a 0:=(hkeep 2 (by omega)).trans t2
  have t3':T1.get 3=qP (a+1) 0:=(hkeep 3 (by omega)).trans t3
  by_cases hlt:i<3
  ·have c1:decide ((i:Int)<3)=true:=by simp;omega
   obtain⟨fid,first,cap,H2,hfi,hcall,haf2,hmk⟩:=hlook i hlt H1 hp1 haf hz
   have hfl1:H1.get fl=.row fs 73 false false:=(haf.1 fl (.inr hFl)).trans hfl
   have lf:AJ i (H1.get fl)=some (.func (.func fid) first cap):=by rw[hfl1];exact hfi
   have hix:=Du (h:=H1) (id:=fl) (c:=3) hlt
   cases d:(er i != 0) with
   | true=>
    have e0:er i≠0:=by simpa using d
    have n2:H.next≤H2.next:=Nat.le_trans haf.2.1 haf2.2.1
    have f2:H2.floor=H.floor:=haf2.2.2.trans haf.2.2
    have o2:∀ i,i<lo→H2.get i=H.get i:=fun i hi=>(haf2.1 i (.inl hi)).trans (haf.1 i (.inl hi))
    have hout2:HS a H2 CY 0 0:=hout.mono (o2 a (by omega)) (o2 (a+1) ha)
    obtain⟨H',s1,s2,r1,r2,r3,r4⟩:=UT hout2 rfl (by omega) (by omega) (cs':=CY) rfl rfl (e':=er i) (p':=at_)
    simp only[eE,seval,↓eP,t47,t48,t49,t8,t2',t3',c1,hix,s0,lf,hcall,d,Z3,IY,s1,s2]
    refine hbad i hlt e0 hz _ _ ?_ ?_ r1 (by omega) (r3.trans f2) fun j hj=>(r4 j (by omega) (by omega)).trans (o2 j (by omega))
    ·simp only[eE,seval,↓eP,rP,t2']
    ·simp only[eE,seval,↓eP,rP,t3']
   | false=>
    have e0:er i=0:=by simpa using d
    have w1:=ET i (by omega)
    simp only[eE,seval,↓eP,t47,t48,t49,t8,c1,hix,s0,lf,hcall,d,w1]
    refine⟨hlt,by omega,fun t ht=>?_,hmk e0,⟨fun i hi=>(haf2.1 i hi).trans (haf.1 i hi),Nat.le_trans haf.2.1 haf2.2.1,haf2.2.2.trans haf.2.2⟩,fun j hj=>?_⟩
    ·repeat rw[if_neg (by omega)]
     exact hkeep t ht
    ·rcases Nat.lt_or_ge j i with h1 | h1
     ·exact hz j h1
     ·have:j=i:=by omega
      subst this
      exact e0
  ·have c1:decide ((i:Int)<3)=false:=by simp;omega
   have:i=3:=by omega
   subst this
   simp only[eE,seval,↓eP,t48,t49]
   refine hgood hz _ _ (fun t ht=>?_) hp1 haf
   simp only[Tr.get_put,Option.some.injEq]
   repeat rw[if_neg (by omega)]
   exact hkeep t ht
end
theorem w_ (k:Int) (h:AA) (hk:1≤k∧k≤54):L0 48 [iv k] h=some (iv (BS k),h):=KS rfl rfl rfl rfl (NC Kr hk)
theorem wM (k:Int) (h:AA) (hk:1≤k∧k≤54):L0 50 [iv k] h=some (iv (EK k),h):=KS rfl rfl rfl rfl (NC uB hk)
theorem kV (k:Int) (h:AA) (hk:1≤k∧k≤54):L0 51 [iv k] h=some (.bool (ID k),h):=KS rfl rfl rfl rfl (NC xR hk)
theorem rI {at_:Nat} {end_:Int} {x:AB} {s:AK} (hx:s.rows[at_]?=some x):∃ n,(BO at_ end_ x s).rows[at_]?=some { x with n:=n }:=by
 rw[W3]
 split
 ·exact⟨x.n,hx⟩
 ·exact⟨_,J9 hx⟩
def OI (at_:Nat) (end_:Int) (x x1 x2:AB) (s:AK):Nat→Int
 | 0=>FD x s
 | 1=>DP at_ x1 (BO at_ end_ x s)
 | _=>FF x2 (B8 at_ x1 (BO at_ end_ x s))
def TU (at_:Nat) (end_:Int) (x x1 x2:AB) (s:AK):Nat→AK
 | 0=>s
 | 1=>BO at_ end_ x s
 | 2=>B8 at_ x1 (BO at_ end_ x s)
 | _=>EC at_ x2 (B8 at_ x1 (BO at_ end_ x s))
theorem Ga {E:List Int} {at_:Nat} {end_:Int} {x x1 x2:AB} {s:AK} (hx:s.rows[at_]?=some x) (hE:E[at_]?=some end_) (h1:(BO at_ end_ x s).rows[at_]?=some x1) (h2:DP at_ x1 (BO at_ end_ x s)=0→(B8 at_ x1 (BO at_ end_ x s)).rows[at_]?=some x2) :
  (∀ i,i<3→OI at_ end_ x x1 x2 s i≠0→(∀ j,j<i→OI at_ end_ x x1 x2 s j=0)→FE E at_ s=(OI at_ end_ x x1 x2 s i,s))∧((∀ j,j<3→OI at_ end_ x x1 x2 s j=0)→FE E at_ s=(0,TU at_ end_ x x1 x2 s 3)):=by
 have hEx:(E[at_]?).getD 0=end_:=by rw[hE];rfl
 constructor
 ·intro i hi he hz
  unfold FE
  rw[hx]
  simp only[hEx]
  match i,hi,he,hz with
  | 0,_,he,_=>
   have he:FD x s≠0:=he
   rw[if_pos he]
   rfl
  | 1,_,he,hz=>
   have h0:FD x s=0:=hz 0 (by omega)
   have he:DP at_ x1 (BO at_ end_ x s)≠0:=he
   rw[if_neg (by simpa using h0),h1]
   simp only
   rw[if_pos he]
   rfl
  | 2,_,he,hz=>
   have h0:FD x s=0:=hz 0 (by omega)
   have hc:DP at_ x1 (BO at_ end_ x s)=0:=hz 1 (by omega)
   have he:FF x2 (B8 at_ x1 (BO at_ end_ x s))≠0:=he
   rw[if_neg (by simpa using h0),h1]
   simp only
   rw[if_neg (by simpa using hc),h2 hc]
   simp only
   rw[if_pos he]
   rfl
 ·intro hz
  have h0:FD x s=0:=hz 0 (by omega)
  have hc:DP at_ x1 (BO at_ end_ x s)=0:=hz 1 (by omega)
  have he:FF x2 (B8 at_ x1 (BO at_ end_ x s))=0:=hz 2 (by omega)
  unfold FE
  rw[hx]
  simp only[hEx]
  rw[if_neg (by simpa using h0),h1]
  simp only
  rw[if_neg (by simpa using hc),h2 hc]
  simp only
  rw[if_neg (by simpa using he)]
  rfl
section
variable {n lo m k c e r L:Nat} {h:AA} {nm:ByteArray} {E:List Int} {F:List Nat} {s:AK}
theorem wQ {at_:Nat} {end_:Int} {x:AB} (hp:ER h lo m k c e r L nm E F s) (hx:s.rows[at_]?=some x) (hkind:1≤x.kind∧x.kind≤54) (hL:L<30000000000000) (he:0≤end_) (hn:0<n) :
  ∃ h',AU n 31 [qP m 0,iv at_,iv end_] h=some (iv (FD x s),h')∧(FP h h' lo F∧(FD x s=0→ER h' lo m k c e r L nm E F (BO at_ end_ x s))):=by
 obtain⟨n,rfl⟩:=DJ hn
 exact YD (BX ⟨rfl,rfl,rfl⟩) (Kz (FT n).2 hp hx hkind hL he (fun k h' hk=>J1 (LS (w_ k h' hk))) fun k h'=>J1 (zB k h'))
theorem wX {at_:Nat} {x:AB} (hp:ER h lo m k c e r L nm E F s) (hx:s.rows[at_]?=some x) (hkind:1≤x.kind∧x.kind≤54) (hL:L<30000000000000) (hn:0<n) :
  ∃ h',AU n 32 [qP m 0,iv at_] h=some (iv (DP at_ x s),h')∧(FP h h' lo F∧(DP at_ x s=0→ER h' lo m k c e r L nm E F (B8 at_ x s))):=by
 obtain⟨n,rfl⟩:=DJ hn
 exact YD (BX ⟨rfl,rfl,rfl⟩) (Ny (FT n).2 hp hx hkind hL fun k h' hk=>J1 (LS (wM k h' hk)))
theorem Bp {at_:Nat} {x:AB} (hp:ER h lo m k c e r L nm E F s) (hx:s.rows[at_]?=some x) (hkind:1≤x.kind∧x.kind≤54) (hL:L<30000000000000) (hxn:ID x.kind=true→x.kind≠10→0≤x.n∧x.n<s.on.length) (hn:0<n) :
  ∃ h',AU n 33 [qP m 0,iv at_] h=some (iv (FF x s),h')∧(FP h h' lo F∧(FF x s=0→ER h' lo m k c e r L nm E F (EC at_ x s))):=by
 obtain⟨n,rfl⟩:=DJ hn
 exact YD (BX ⟨rfl,rfl,rfl⟩) (Ks (FT n).2 hp hx hkind hL hxn fun k h' hk=>J1 (LS (kV k h' hk)))
theorem Ah {at_ c5 c6:Nat} {end_:Int} {x:AB} (hp:ER h lo m k c e r L nm E F s) (hx:s.rows[at_]?=some x) (hkind:1≤x.kind∧x.kind≤54) (hL:L<30000000000000) (he:0≤end_) (hE:E[at_]?=some end_) (hlE:L=E.length)
  (h5:h.get c5=.row [qP m 0] 65 false false) (h6:h.get c6=.row [qS e L L] 27 false false) (hn:1<n) :
  ∃ h',AU n 30 [iv at_,qP c5 0,qP c6 0] h=some (iv (FD x s),h')∧(FP h h' lo F∧(FD x s=0→ER h' lo m k c e r L nm E F (BO at_ end_ x s))):=by
 obtain⟨n,rfl⟩:∃ j,n=j+1:=⟨n-1,by omega⟩
 obtain⟨tag,vq,vv,vt,vu,vo,es,hp',_⟩:=id hp
 obtain⟨h',hc,ha,hm⟩:=wQ (n:=n) (at_:=at_) hp hx hkind hL he (by omega)
 exact YD (BX ⟨rfl,rfl,rfl⟩) (yJ (FT n).2 h5 h6 hp'.ends hE hlE ⟨h',hc,ha.2.2,ha,hm⟩)
theorem xP {l:List AB} {at_ c5 c6 fl:Nat} {x x1:AB} {H:AA} (ht:CN l) (hL:l.length<2932031007403) (hat:at_<l.length) (hi:HY l at_ s) (hx:s.rows[at_]?=some x) (h1:(BO at_ (AD l at_) x s).rows[at_]?=some x1) (hcl:UX H m e c5 c6 fl l.length (BR l)) (h5:c5∈F) (h6:c6∈F) (hfl:fl∈F) (hn:3<n) :
  ∃ x2,(DP at_ x1 (BO at_ (AD l at_) x s)=0→(B8 at_ x1 (BO at_ (AD l at_) x s)).rows[at_]?=some x2)∧∀ i,i<3→∀ H1,ER H1 lo m k c e r l.length nm (BR l) F (TU at_ (AD l at_) x x1 x2 s i)→FP H H1 lo F→(∀ j,j<i→OI at_ (AD l at_) x x1 x2 s j=0) →
   ∃ fid first cap H2,([.func (.func 30) #[] #[qP c5 0,qP c6 0],.func (.func 32) #[qP m 0] #[],.func (.func 33) #[qP m 0] #[]]:List Value)[i]?=some (.func (.func fid) first cap) ∧
    AU n fid (first.toList++[iv at_]++cap.toList) H1=some (iv (OI at_ (AD l at_) x x1 x2 s i),H2)∧FP H1 H2 lo F∧(OI at_ (AD l at_) x x1 x2 s i=0→ER H2 lo m k c e r l.length nm (BR l) F (TU at_ (AD l at_) x x1 x2 s (i+1))):=by
 have hkind:=ZC ht hi x (List.mem_of_getElem? hx)
 obtain⟨n1,hx1⟩:=rI (end_:=AD l at_) hx
 rw[h1] at hx1
 cases hx1
 obtain⟨x2,hx2⟩:∃ x2,DP at_ { x with n:=n1 } (BO at_ (AD l at_) x s)=0→(B8 at_ { x with n:=n1 } (BO at_ (AD l at_) x s)).rows[at_]?=some x2∧(∃ n,x2={ x with n:=n })∧(x2.kind≠10→ID x2.kind=true→MN (B8 at_ { x with n:=n1 } (BO at_ (AD l at_) x s))→0≤x2.n∧x2.n<(B8 at_ { x with n:=n1 } (BO at_ (AD l at_) x s)).on.length):=by
  by_cases hc:DP at_ { x with n:=n1 } (BO at_ (AD l at_) x s)=0
  ·obtain⟨n2,a1,a2,a3,a4,a5,a6⟩:=ZL h1 hc
   refine⟨_,fun _=>⟨a1,⟨n2,rfl⟩,fun h10 hev hw=>?_⟩⟩
   have hd:=Ja (k:=x.kind) hev h10
   rcases a6 with⟨b1,_⟩ | ⟨t,b1,b2,b3,_⟩
   ·have b1:EK x.kind=0:=b1
    rw[hd.1] at b1
    cases b1
   ·have b2:t.kind=EK x.kind:=b2
    rw[hd.1] at b2
    rw[← a5] at b1
    obtain⟨_,_,q1,q2,_⟩:=hw.th t b1
    rw[b2] at q2
    have q3:t.num<((B8 at_ { x with n:=n1 } (BO at_ (AD l at_) x s)).queues.length:Int):=q2
    rw[← hw.o] at q3
    simp only
    rw[b3]
    exact⟨q1,q3⟩
  ·exact⟨x,fun h=>absurd h hc⟩
 refine⟨x2,fun h=>(hx2 h).1,?_⟩
 intro i hi3 H1 hp haf hz
 have hEat:(BR l)[at_]?=some (AD l at_:Int):=QG hat
 match i,hi3 with
 | 0,_=>
  have g5:H1.get c5=_:=(haf.1 c5 (.inr h5)).trans hcl.h5
  have g6:H1.get c6=_:=(haf.1 c6 (.inr h6)).trans hcl.h6
  obtain⟨H2,q1,q2,q3⟩:=Ah (n:=n) (s:=s) (at_:=at_) hp hx hkind (by omega) (by omega) hEat (by rw[T5]) g5 g6 (by omega)
  exact⟨_,#[],#[qP c5 0,qP c6 0],H2,rfl,q1,q2,q3⟩
 | 1,_=>
  obtain⟨H2,q1,q2,q3⟩:=wX (n:=n) (s:=BO at_ (AD l at_) x s) (at_:=at_) hp h1 hkind (by omega) (by omega)
  exact⟨_,#[qP m 0],#[],H2,rfl,q1,q2,q3⟩
 | 2,_=>
  have hc:DP at_ { x with n:=n1 } (BO at_ (AD l at_) x s)=0:=hz 1 (by omega)
  obtain⟨r1,⟨n2,r2⟩,r3⟩:=hx2 hc
  have hw:MN (B8 at_ { x with n:=n1 } (BO at_ (AD l at_) x s)):=by
   obtain⟨_,_,_,_,_,_,_,_,_,hw,_⟩:=id hp
   exact hw
  obtain⟨H2,q1,q2,q3⟩:=Bp (n:=n) (s:=B8 at_ { x with n:=n1 } (BO at_ (AD l at_) x s)) (at_:=at_) hp r1 (by rw[r2];exact hkind) (by omega) (fun a b=>r3 b a hw) (by omega)
  exact⟨_,#[qP m 0],#[],H2,rfl,q1,q2,q3⟩
end
theorem xK {h:AA} {r:Nat} {rows:List AB} {lo hi:Nat} (hg:h.get r=.row (rows.flatMap AZ) 61 true false) (hr:r<h.next) (hlh:lo≤hi) (hhi:hi≤rows.length) :
  ∃ v',HL Tryd.prog h 26 (qS r rows.length AP) (some (iv lo)) (some (iv hi)) none=some v'∧A_ h v' ((rows.drop lo).take (hi-lo)):=by
 have hl:((rows.drop lo).take (hi-lo)).length=hi-lo:=by rw[List.length_take,List.length_drop];omega
 refine⟨.slice (some ⟨r,lo*5,none⟩) (hi-lo) AP,?_,?_⟩
 ·simp only[HL,Tryd.underlying26,GJ,F1,if_true]
  rw[if_pos (by omega)]
  simp only[Int.toNat_natCast]
  rw[if_pos (by omega)]
  simp only[Int.toNat_natCast]
  by_cases h0:lo=0
  ·subst h0
   rw[if_pos rfl]
   simp
  ·rw[if_neg h0,hg]
   simp only[GJ,if_true,Nat.zero_add]
 ·refine⟨some ⟨r,lo*5,none⟩,AP,by rw[hl],.inr ⟨r,lo*5,_,_,_,_,rfl,hg,hr,fun k x hk=>?_⟩⟩
  have hk1:=(List.getElem?_eq_some_iff.1 hk).1
  rw[List.getElem?_take_of_lt (by omega),List.getElem?_drop] at hk
  rw[show lo*5+k*5=(lo+k)*5 by omega]
  exact O_ hk
section
variable {n lo m k c e r L:Nat} {h:AA} {nm:ByteArray} {E:List Int} {F:List Nat} {s:AK}
theorem rT {pb eb sb row:Nat} {rows:List AB} {E rules sums:List Int} (hL:PC rows E rules) (hc:JT h pb eb sb rows E sums) (hs:KH sums) (hsl:sums.length=rules.length) (hfl:h.floor≤h.next) (hrow:row<rows.length) (hn:rows.length+8<n) :
  AU n 66 [iv row,qP pb 0,qP eb 0,qP sb 0] h=some (iv (GN rows E sums row),h):=by
 obtain⟨n,rfl⟩:=DJ hn
 obtain⟨q,q1,q2,q3,q4⟩:=hL.end hrow
 have hc':GN rows E sums row=IL sums ((rows.drop row).take (q-row)) 0:=by unfold GN;rw[q1];rfl
 rw[hc']
 exact JR (BX ⟨rfl,rfl,rfl⟩) rfl (Jf (FT n).2 hc hs hfl q1 q2 q3 (by have:=hL.len;omega) (by omega)
  (fun x hx h22=>by rw[hsl];exact hL.calls x (List.mem_of_mem_drop (List.mem_of_mem_take hx)) h22) fun a b h' hb ha=>J1 (jV h' hb ha))
theorem Mv {rows:List AB} {E rules:List Int} (hL:PC rows E rules) {v0 vr v2 v3 v4 vu v6 v7:Value} {e ce:Nat} {ge:Bool} (hone:[v0,vr,v2,v3,v4,vu,v6,v7].all one=true) (hfl:h.floor≤h.next) (hn:rows.length+rules.length+12<n)
  (hsl:∀ (lo hi:Nat) h',(∀ i,i<h.next→h'.get i=h.get i)→h.next≤h'.next→lo≤hi→hi≤rows.length→∃ v',HL Tryd.prog h' 26 vr (some (iv lo)) (some (iv hi)) none=some v'∧A_ h' v' ((rows.drop lo).take (hi-lo)))
  {lu:Nat} (hu:AT lu h vu rules) (he:h.get e=.row (ints E) 3 ge false) (hel:e<h.next) :
  ∃ h',AU n 52 [.agg #[v0,vr,v2,v3,v4,vu,v6,v7],qS e E.length ce] h=some (.func (.func 66) #[] #[qP h.next 0,qP (h.next+1) 0,qP (h.next+3) 0],h') ∧
   (JT h' h.next (h.next+1) (h.next+3) rows E (KX rows E rules)∧h.next≤h'.next∧h'.floor=h.floor∧∀ i,i<h.next→h'.get i=h.get i):=by
 obtain⟨n,rfl⟩:=DJ hn
 refine QR (BX ⟨rfl,rfl,rfl⟩) rfl (Dx (FT n).2 hL hone hfl (by omega) (by omega) hsl (fun h'=>hu.len) ?_ ?_ he hel ?_)
 ·obtain⟨_,a,c,h1,_⟩:=hu
  exact⟨a,c,h1⟩
 ·intro h' hold i ru hi
  obtain⟨id,p,h1,h2,h3⟩:=AT.get hu hi
  exact⟨id,p,h1,by rw[hold id h2];exact h3⟩
 ·intro pb eb sb row sums h' hc hsl' hs hfl' hrow
  exact rT hL hc hs hsl' hfl' hrow (by omega)
theorem yY {tag:Nat→Nat} {vq vv vt vu vo:Value} {es:List (Value × Value)} {l:List AB} (hp:BQ h lo m k c e r l.length nm (BR l) tag vq vv vt vu vo es s) (ht:CN l) (hlen:l.length<2932031007403) (hi:HY l l.length s) (hfl:h.floor≤h.next) (hn:l.length+100<n) :
  AU n 34 [qP m 0,qS e l.length l.length] h=some (iv (KK s.rows (BR l) s.rules),h):=by
 obtain⟨n,rfl⟩:=DJ hn
 have hL:=gW ht (by omega) hi
 have hnu:=hi.wf.u
 have hrl:=hi.len
 have hpl:=hp.pol.len
 refine JR (BX ⟨rfl,rfl,rfl⟩) rfl (My (pb:=h.next) (eb:=h.next+1) (sb:=h.next+3) hp hL hfl (by omega) (ZC ht hi) (uF ht hi) ?_ (fun k h' hk=>J1 (LS (kV k h' hk))) (fun a b h' hb ha=>J1 (jV h' hb ha)) ?_)
 ·have hE:(BR l).length=l.length:=T5
  have hs:∀ (lo hi:Nat) (h':AA),(∀ i,i<h.next→h'.get i=h.get i)→h.next≤h'.next→lo≤hi→hi≤s.rows.length→∃ v',HL Tryd.prog h' 26 (qS r l.length AP) (some (iv lo)) (some (iv hi)) none=some v'∧A_ h' v' ((s.rows.drop lo).take (hi-lo)):=fun lo hi h' ho hx a b=>by
   have:=xK (h:=h') (r:=r) (rows:=s.rows) (by rw[ho r hp.pol.lr.2];exact hp.pol.rows) (by have:=hp.pol.lr.2;omega) a b
   rw[hpl] at this
   exact this
  have:=Mv (n:=n) (h:=h) (ce:=l.length) (v0:=.string nm) (v2:=vq) (v3:=vv) (v4:=vt) (v6:=vo) (v7:=iv s.miss) (vr:=qS r l.length AP) hL ?_ hfl (by omega) hs (AT.weak (hp.pol.u.cells (by rw[F7,Nat.mul_one])) (Nat.zero_le _)) hp.ends hp.le.2
  ·rw[hE] at this
   exact this
  ·have q1:=(hp.pol.q.cells (w:=2) (O0 _)).one
   have q2:=(hp.pol.v.cells (w:=1) (by rw[WO,Nat.mul_one])).one
   have q3:=(hp.pol.t.cells (w:=1) (by rw[WO,Nat.mul_one])).one
   have q4:=(hp.pol.u.cells (w:=1) (by rw[F7,Nat.mul_one])).one
   have q5:=(hp.pol.o.cells (w:=1) (by rw[F7,Nat.mul_one])).one
   simp only[List.all_cons,List.all_nil,q1,q2,q3,q4,q5,RM,JU,Bool.and_self]
   rfl
 ·intro row h' hc hfl' hrow
  exact rT hL hc (cT).1 (cT).2 hfl' hrow (by omega)
end
theorem FP.trans {h H H':AA} {lo:Nat} {F:List Nat} (a:FP h H lo F) (b:FP H H' lo F):FP h H' lo F:=⟨fun i hi=>(b.1 i hi).trans (a.1 i hi),Nat.le_trans a.2.1 b.2.1,b.2.2.trans a.2.2⟩
section
variable {n N:Nat}
theorem uE {l:List AB} {v:Value} {T:Tr} {H:AA} {K:CU} {a fl lo m k c e r c5 c6:Nat} {nm:ByteArray} {F:List Nat} (ht:CN l) (hL:l.length<2932031007403) (hn:3<n) (hN:l.length+3<N)
  (t0:T.get 0=v) (t2:T.get 2=qP a 0) (t3:T.get 3=qP (a+1) 0) (t7:T.get 7=qS fl 3 3) (hv:A_ H v l)
  (hp:ER H lo m k c e r l.length nm (BR l) F (CR l)) (hcl:UX H m e c5 c6 fl l.length (BR l)) (h5:c5∈F) (h6:c6∈F) (hfl:fl∈F) (ha:a+1<lo) (hlo:lo≤H.next) (hout:HS a H CY 0 0) (hfa:H.floor≤a)
  (hbad:(DO (BR l) l.length 0 (CR l)).1≠0→∀ T' H',T'.get 2=qP a 0→T'.get 3=qP (a+1) 0→HS a H' CY (DO (BR l) l.length 0 (CR l)).1 (DO (BR l) l.length 0 (CR l)).2.1→H.next≤H'.next→H'.floor=H.floor→(∀ i,i<a→H'.get i=H.get i)→K.ap Tryd.prog (AU n) N .ret ⟨T',H'⟩)
  (hgood:(DO (BR l) l.length 0 (CR l)).1=0→∀ T' H',(∀ t,t≤7→T'.get t=T.get t)→ER H' lo m k c e r l.length nm (BR l) F (DO (BR l) l.length 0 (CR l)).2.2→HY l l.length (DO (BR l) l.length 0 (CR l)).2.2→FP H H' lo F→WK Tryd.prog (AU n) N U3 ⟨T',H'⟩ K) :
  WK Tryd.prog (AU n) N WQ ⟨T,H⟩ K:=by
 show WK _ _ _ (.seq (.seq _ (.block 0 (.loop (.seq _ (.seq _ (.seq (.block 1 jY) _)))))) U3) _ _
 have hlen:=fun h'=>hv.len (h':=h')
 simp only[eE,seval,↓eP,t0,hlen]
 refine WK.loop (fun i s'=>s'.T.get 43=iv l.length∧s'.T.get 44=iv i∧i≤l.length∧(∀ t,t≤7→s'.T.get t=T.get t)∧FP H s'.h lo F∧∃ s,ER s'.h lo m k c e r l.length nm (BR l) F s∧HY l i s∧DO (BR l) (l.length-i) i s=DO (BR l) l.length 0 (CR l)) l.length (by omega) ?_ ?_
 ·refine⟨by simp only[eE,↓reduceIte,Nat.reduceEqDiff,reduceCtorEq,↓eP,rP,Nat.reduceAdd,Nat.reduceLT],by simp only[eE,↓reduceIte,Nat.reduceEqDiff,reduceCtorEq,↓eP,rP,Nat.reduceAdd,Nat.reduceLT];rfl,by omega,fun t ht=>?_,⟨fun _ _=>rfl,Nat.le_refl _,rfl⟩,CR l,hp,cX l,rfl⟩
  simp only[Tr.get_put,Option.some.injEq]
  repeat rw[if_neg (by omega)]
 ·rintro i ⟨T1,H1⟩ hi ⟨t43,t44,hil,hkeep,haf,s,hp1,hin,hgo⟩
  simp only at t43 t44 hkeep haf hp1
  by_cases hlt:i<l.length
  ·have c1:decide ((i:Int)<(l.length:Int))=true:=by simp;omega
   obtain⟨x,hx⟩:∃ x,s.rows[i]?=some x:=⟨_,List.getElem?_eq_getElem (by rw[hin.len];exact hlt)⟩
   obtain⟨n1,h1⟩:=rI (end_:=AD l i) hx
   have hcl1:UX H1 m e c5 c6 fl l.length (BR l):=⟨(haf.1 c5 (.inr h5)).trans hcl.h5,(haf.1 c6 (.inr h6)).trans hcl.h6,(haf.1 fl (.inr hfl)).trans hcl.hf⟩
   obtain⟨x2,hx2,hlook⟩:=xP (n:=n) (lo:=lo) (k:=k) (c:=c) (r:=r) (nm:=nm) (F:=F) ht hL hlt hin hx h1 hcl1 h5 h6 hfl hn
   obtain⟨sb,sg⟩:=Ga (E:=BR l) hx (QG hlt) h1 hx2
   have hr:l.length-i=(l.length-(i+1))+1:=by omega
   rw[hr] at hgo
   have hout1:HS a H1 CY 0 0:=hout.mono (haf.1 a (.inl (by omega))) (haf.1 (a+1) (.inl ha))
   have hn1:=haf.2.1
   have hf1:=haf.2.2
   have w1:=ET i (by omega)
   have hkp:∀ t,t≤44→(T1.put (some 45) (Value.bool true)).get t=T1.get t:=fun t ht=>by
    rw[Tr.get_put,if_neg (fun h=>by have h9:(45:Nat)=t:=Option.some.inj h;omega)]
   simp only[eE,seval,↓eP,t43,t44,c1]
   refine zD (a:=a) (fl:=fl) (er:=OI i (AD l i) x { x with n:=n1 } x2 s) (st:=TU i (AD l i) x { x with n:=n1 } x2 s) (E:=BR l) (F:=F) ((hkp 2 (by omega)).trans ((hkeep 2 (by omega)).trans t2)) ((hkp 3 (by omega)).trans ((hkeep 3 (by omega)).trans t3)) ((hkp 7 (by omega)).trans ((hkeep 7 (by omega)).trans t7)) ((hkp 44 (by omega)).trans t44) (by omega) hp1 ha (by omega) hout1 (by omega) hcl1.hf hfl hlook ?_ ?_
   ·intro j hj he hz T' H' g2 g3 ho hnx hfx hox
    have hst:=sb j hj he hz
    have hg:DO (BR l) l.length 0 (CR l)=(OI i (AD l i) x { x with n:=n1 } x2 s j,i,s):=by
     rw[← hgo]
     unfold DO
     rw[hst,if_pos he]
    simp only[eE,seval,↓eP]
    refine hbad (by rw[hg];exact he) T' H' g2 g3 (by rw[hg];exact ho) (by omega) (by omega) fun q hq=>(hox q hq).trans (haf.1 q (.inl (by omega)))
   ·intro hz T' H' hk' hp' haf'
    have hst:=sg hz
    have e0:(FE (BR l) i s).1=0:=by rw[hst]
    have hin':=VY ht (WR i) hlt hin e0
    rw[hst] at hin'
    have hg:DO (BR l) (l.length-(i+1)) (i+1) (TU i (AD l i) x { x with n:=n1 } x2 s 3)=DO (BR l) l.length 0 (CR l):=by
     rw[← hgo]
     conv=>rhs;unfold DO
     rw[if_neg (by rw[e0];simp),hst]
    have u43:=(hk' 43 (by omega)).trans ((hkp 43 (by omega)).trans t43)
    have u44:=(hk' 44 (by omega)).trans ((hkp 44 (by omega)).trans t44)
    simp only[eE,seval,↓eP,u43,u44,w1]
    refine⟨hlt,by omega,fun t ht=>?_,haf.trans haf',_,hp',hin',hg⟩
    repeat rw[if_neg (by omega)]
    exact(hk' t (by omega)).trans ((hkp t (by omega)).trans (hkeep t ht))
  ·have c1:decide ((i:Int)<(l.length:Int))=false:=by simp;omega
   have:i=l.length:=by omega
   subst this
   have hg:DO (BR l) l.length 0 (CR l)=(0,l.length,s):=by
    rw[← hgo,Nat.sub_self]
    rfl
   simp only[eE,seval,↓eP,t43,t44,c1]
   refine hgood (by rw[hg]) _ _ (fun t ht=>?_) (by rw[hg];exact hp1) (by rw[hg];exact hin) haf
   simp only[Tr.get_put,Option.some.injEq]
   repeat rw[if_neg (by omega)]
   exact hkeep t ht
theorem CB.weak {lo lo':Nat} {h:AA} {pv:Value} {nm:ByteArray} {s:AK} (hp:CB lo h pv nm s) (hl:lo'≤lo):CB lo' h pv nm s:=by
 obtain⟨vr,vq,vv,vt,vu,vo,h1,h2,h3,h4,h5,h6,h7⟩:=hp
 exact⟨vr,vq,vv,vt,vu,vo,h1,HC.of (h2.2.weak hl),h3.weak hl,h4.weak hl,h5.weak hl,h6.weak hl,h7.weak hl⟩
def MP (lo:Nat) (h:AA) (pv:Value) (nm:ByteArray) (s:AK):Prop:=
 ∃ tag r vq vv vt vu vo,pv=.agg #[.string nm,qS r s.rows.length AP,vq,vv,vt,vu,vo,iv s.miss]∧KT h lo tag r s.rows.length vq vv vt vu vo s
theorem FK.weak {h:AA} {lo lo':Nat} {tag:Nat→Nat} {j:Nat} {v:Value} {n:Nat} {cs:List Value} {ty:TypeId} (hs:FK h lo tag j v n cs ty) (hl:lo'≤lo):FK h lo' tag j v n cs ty:=by
 rcases hs with h1 | ⟨id,ex,h1,h2,h3,h4,h5⟩
 ·exact .inl h1
 ·exact .inr ⟨id,ex,h1,h2,by omega,h4,h5⟩
theorem KT.weak {h:AA} {lo lo':Nat} {tag:Nat→Nat} {r n:Nat} {vq vv vt vu vo:Value} {s:AK} (hp:KT h lo tag r n vq vv vt vu vo s) (hl:lo'≤lo):KT h lo' tag r n vq vv vt vu vo s:=
 ⟨hp.rows,hp.len,hp.tr,⟨by have:=hp.lr.1;omega,hp.lr.2⟩,hp.q.weak hl,hp.v.weak hl,hp.t.weak hl,hp.u.weak hl,hp.o.weak hl⟩
theorem MP.weak {lo lo':Nat} {h:AA} {pv:Value} {nm:ByteArray} {s:AK} (hp:MP lo h pv nm s) (hl:lo'≤lo):MP lo' h pv nm s:=by
 obtain⟨tag,r,vq,vv,vt,vu,vo,h1,h2⟩:=hp
 exact⟨tag,r,vq,vv,vt,vu,vo,h1,h2.weak hl⟩
theorem MP.mono {lo:Nat} {h h':AA} {pv:Value} {nm:ByteArray} {s:AK} (hp:MP lo h pv nm s) (hn:h.next≤h'.next) (hg:∀ i,lo≤i→i<h.next→h'.get i=h.get i):MP lo h' pv nm s:=by
 obtain⟨tag,r,vq,vv,vt,vu,vo,h1,h2⟩:=hp
 exact⟨tag,r,vq,vv,vt,vu,vo,h1,h2.mono hn (fun _ _=>rfl) fun i a b _ _=>hg i a b⟩
theorem MP.pol {lo:Nat} {h:AA} {pv:Value} {nm:ByteArray} {s:AK} (hp:MP lo h pv nm s):CB lo h pv nm s:=by
 obtain⟨tag,r,vq,vv,vt,vu,vo,h1,h2⟩:=hp
 exact⟨_,vq,vv,vt,vu,vo,h1,HC.of (AM.row (ex:=[]) (by rw[List.append_nil];exact h2.rows) h2.lr (IW _)),h2.q.cells (O0 _),h2.v.cells (by simp[DA]),h2.t.cells (by simp[DA]),h2.u.cells (by rw[F7,Nat.mul_one]),h2.o.cells (by rw[F7,Nat.mul_one])⟩
theorem BQ.own {h:AA} {lo m k c e r n:Nat} {nm:ByteArray} {E:List Int} {tag:Nat→Nat} {vq vv vt vu vo:Value} {es:List (Value × Value)} {s:AK} (hp:BQ h lo m k c e r n nm E tag vq vv vt vu vo es s) :
  MP lo h (.agg #[.string nm,qS r n AP,vq,vv,vt,vu,vo,iv s.miss]) nm s:=by
 have hl:=hp.pol.len
 subst hl
 exact⟨tag,r,vq,vv,vt,vu,vo,rfl,hp.pol⟩
theorem Fj {l:List AB} {T:Tr} {H:AA} {K:CU} {a lo m k c e r c5 c6:Nat} {nm:ByteArray} {F:List Nat} {s:AK} (ht:CN l) (hL:l.length<2932031007403) (hn:l.length+100<n)
  (t2:T.get 2=qP a 0) (t3:T.get 3=qP (a+1) 0) (t5:T.get 5=qP c5 0) (t6:T.get 6=qP c6 0)
  (hp:ER H lo m k c e r l.length nm (BR l) F s) (hin:HY l l.length s) (h5:H.get c5=.row [qP m 0] 65 false false) (h6:H.get c6=.row [qS e l.length l.length] 27 false false) (ha:a+1<lo) (hlo:lo≤H.next) (hout:HS a H CY 0 0) (hfa:H.floor≤a)
  (hbad:KK s.rows (BR l) s.rules≥0→∀ T' H',T'.get 2=qP a 0→T'.get 3=qP (a+1) 0→HS a H' CY 34 (KK s.rows (BR l) s.rules)→H.next≤H'.next→H'.floor=H.floor→(∀ i,i<a→H'.get i=H.get i)→K.ap Tryd.prog (AU n) N .ret ⟨T',H'⟩)
  (hgood:¬ KK s.rows (BR l) s.rules≥0→∀ T' H' cs,T'.get 2=qP a 0→T'.get 3=qP (a+1) 0→cs.length=8→HS a H' cs 0 0→MP lo H' (.agg cs.toArray) nm s→H.next≤H'.next→H'.floor=H.floor→(∀ i,i<a→H'.get i=H.get i)→K.ap Tryd.prog (AU n) N .ret ⟨T',H'⟩) :
  WK Tryd.prog (AU n) N U3 ⟨T,H⟩ K:=by
 show WK _ _ _ (.seq (.seq _ (.seq _ _)) (.seq _ _)) _ _
 obtain⟨tag,vq,vv,vt,vu,vo,es,hp',_⟩:=id hp
 have hlg:=yY (n:=n) hp' ht hL hin (by omega) hn
 have l5:AJ 0 (H.get c5)=some (qP m 0):=by rw[h5];rfl
 have l6:AJ 0 (H.get c6)=some (qS e l.length l.length):=by rw[h6];rfl
 cases d:decide (KK s.rows (BR l) s.rules≥0) with
 | true=>
  obtain⟨H',s1,s2,r1,r2,r3,r4⟩:=UT hout rfl (by omega) (by omega) (cs':=CY) rfl rfl (e':=34) (p':=KK s.rows (BR l) s.rules)
  simp only[eE,seval,↓eP,S0,DG,t2,t3,t5,t6,l5,l6,hlg,d,Z3,IY,s1,s2]
  refine hbad (by simpa using d) _ _ ?_ ?_ r1 (by omega) r3 fun i hi=>r4 i (by omega) (by omega)
  ·simp only[eE,seval,↓eP,rP,t2]
  ·simp only[eE,seval,↓eP,rP,t3]
 | false=>
  have l8:AW 8 0 (H.get m)=some (.agg #[.string nm,qS r l.length AP,vq,vv,vt,vu,vo,iv s.miss]):=by rw[hp'.cell];rfl
  have hpol:=hp'.own
  have hall:([.string nm,qS r l.length AP,vq,vv,vt,vu,vo,iv s.miss]:List Value).all one=true:=by
   have q1:=(hp'.pol.q.cells (w:=2) (O0 _)).one
   have q2:=(hp'.pol.v.cells (w:=1) (by simp[DA])).one
   have q3:=(hp'.pol.t.cells (w:=1) (by simp[DA])).one
   have q4:=(hp'.pol.u.cells (w:=1) (by rw[F7,Nat.mul_one])).one
   have q5:=(hp'.pol.o.cells (w:=1) (by rw[F7,Nat.mul_one])).one
   simp only[List.all_cons,List.all_nil,q1,q2,q3,q4,q5,RM,JU,Bool.and_self]
   rfl
  obtain⟨H',s1,s2,r1,r2,r3,r4⟩:=UT hout rfl (by omega) (by omega) (cs':=[.string nm,qS r l.length AP,vq,vv,vt,vu,vo,iv s.miss]) rfl hall (e':=0) (p':=0)
  simp only[eE,seval,↓eP,S0,DG,t2,t3,t5,t6,l5,l6,hlg,d,IX,CT,l8,FR,s1,s2]
  refine hgood (by simpa using d) _ _ _ ?_ ?_ rfl r1 (hpol.mono (by omega) fun i hi _=>r4 i (by omega) (by omega)) (by omega) r3 fun i hi=>r4 i (by omega) (by omega)
  ·simp only[eE,seval,↓eP,rP,t2]
  ·simp only[eE,seval,↓eP,rP,t3]
end
theorem KQ {a:Nat} {H:AA} {cs:List Value} {ty:TypeId} {g ro:Bool} (h:H.get a=.row cs ty g ro) (hl:cs.length=8):AW 8 0 (H.get a)=some (.agg cs.toArray):=by
 rw[h]
 have:cs.take 8=cs:=List.take_of_length_le (by omega)
 simp only[AW,FI,List.drop_zero,this,hl,if_true]
theorem jJ {l:List AB} (h:(C4 l).1=0):I1 AY l=none:=by
 unfold C4 at h
 cases hs:I1 AY l with
 | none=>rfl
 | some p=>
  rw[hs] at h
  simp at h
def V9 (h:AA) (l:List AB) (v:Value) (h':AA):Prop:=
 ∃ pv,v=.tuple #[pv,BG (BE l).1.1 (BE l).1.2]∧CB h.next h' pv (DS l).1 (DS l).2∧h'.floor=h.floor∧h.next≤h'.next∧∀ i,i<h.next→h'.get i=h.get i
theorem AM.flat {lo:Nat} {h:AA} {v:Value} {n w:Nat} {cs:List Value} (hc:AM lo h v n w cs) (hf:BI v=true) (lo':Nat) (h':AA):AM lo' h' v n w cs:=by
 obtain⟨hl,a,c,rfl,⟨h0,rfl⟩ | ⟨id,off,row,ty,g,ro,rfl,g1,g2,g3⟩⟩:=hc
 ·exact⟨hl,_,_,rfl,.inl ⟨h0,rfl⟩⟩
 ·cases hf
def S1 (lo:Nat) (h:AA) (pv:Value) (nm:ByteArray) (s:AK):Prop:=(pv=SV∧nm=ByteArray.empty∧s=sZ)∨MP lo h pv nm s
theorem S1.pol {lo:Nat} {h:AA} {pv:Value} {nm:ByteArray} {s:AK} (hp:S1 lo h pv nm s):CB lo h pv nm s:=by
 rcases hp with⟨rfl,rfl,rfl⟩ | hp
 ·exact Je lo h
 ·exact hp.pol
def PI (h:AA) (l:List AB) (v:Value) (h':AA):Prop:=
 ∃ pv,v=.tuple #[pv,BG (BE l).1.1 (BE l).1.2]∧S1 h.next h' pv (DS l).1 (DS l).2∧h'.floor=h.floor∧h.next≤h'.next∧∀ i,i<h.next→h'.get i=h.get i
theorem PI.told {h h':AA} {l:List AB} {v:Value} (ht:PI h l v h'):V9 h l v h':=by
 obtain⟨pv,h1,h2,h3⟩:=ht
 exact⟨pv,h1,h2.pol,h3⟩
theorem Hd {h h1:AA} {l:List AB} {v:Value} (hf:ED v=true) (ht:PI h l v h1):PI h l v h:=by
 obtain⟨pv,rfl,h2,_⟩:=ht
 refine⟨pv,rfl,?_,rfl,Nat.le_refl _,fun _ _=>rfl⟩
 rcases h2 with h2 | ⟨tag,r,vq,vv,vt,vu,vo,rfl,_⟩
 ·exact .inl h2
 ·have hf':flat (.agg #[.string (DS l).1,qS r (DS l).2.rows.length AP,vq,vv,vt,vu,vo,iv (DS l).2.miss])=true:=by
   simp only[ED,List.all_toArray,List.all_cons,Bool.and_eq_true] at hf
   exact hf.1
  simp only[flat,List.all_cons,Bool.and_eq_true] at hf'
  exact absurd hf'.2.1 (by simp[BI])
section
variable {n N:Nat}
theorem Np {l:List AB} {v:Value} {h:AA} (hfl:h.floor≤h.next) (hg:h.get 0=CF) (hn0:0<h.next) (hv:A_ h v l) (hL:l.length<2932031007403) (hn:2*l.length+100<n) (hN:l.length+3<N) :
  ∃ v' h',A7 Tryd.prog (AU n) N 13 [v] h=some (v',h')∧PI h l v' h':=by
 refine UL (R:=PI h l) Tryd.func13 rfl (by simp[Tryd.f13]) ?_
 have hr:Tryd.f13.results.toList=[.cell 2 33,.cell 3 36]:=rfl
 generalize hKK:CU.top (fun e s=>(e=EM.normal∨e=EM.ret)∧∃ vs,FZ Tryd.prog s Tryd.f13.results.toList=some vs∧PI h l (IM vs) s.h)=K
 have fin:∀ (T':Tr) (H':AA) cs e p nm s,T'.get 2=qP h.next 0→T'.get 3=qP (h.next+1) 0→cs.length=8→HS h.next H' cs e p→S1 h.next H' (.agg cs.toArray) nm s→(BE l).1=(e,p)→DS l=(nm,s)→h.next≤H'.next→H'.floor=h.floor→(∀ i,i<h.next→H'.get i=h.get i)→K.ap Tryd.prog (AU n) N .ret ⟨T',H'⟩:=by
  intro T' H' cs e p nm s t2 t3 hl ho hp he hout hnx hf hold
  have l30:=KQ ho.1 hl
  have l33:AW 2 0 (H'.get (h.next+1))=some (BG e p):=by rw[ho.2];rfl
  rw[← hKK]
  simp only[eE,seval,↓eP,hr,t2,t3,CT,CG,l30,l33]
  exact⟨_,by rw[he],by rw[hout];exact hp,hf,hnx,hold⟩
 have hz:∀ H',S1 h.next H' SV ByteArray.empty sZ:=fun H'=>.inl ⟨rfl,rfl,rfl⟩
 refine Kl (FT n).2 hfl hv hg hn0 (fun H hv' hg' hn' hfl'=>Gt (by omega) (by omega) hv' hg' hn' hfl') ?_ ?_
 ·intro hc T' H t2 t3 ho hnx hf hold
  refine fin T' H _ _ _ ByteArray.empty sZ t2 t3 rfl ho (hz H) ?_ ?_ (by omega) hf hold
  ·unfold BE
   rw[if_pos hc]
  ·unfold DS
   have:(BE l).1.1≠0:=by unfold BE;rw[if_pos hc];exact hc
   rw[if_pos this]
 ·intro hc T' H t0 t2 t3 ho hnx hf hold
  have ht:=oM (jJ hc)
  have hvH:A_ H v l:=hv.mono (by omega) hold
  have hcw:=fun H' (hv':A_ H' v l)=>QR (n:=n-1) (BX (f:=28) (args:=[v]) (h:=H') ⟨rfl,rfl,rfl⟩) rfl (k7 (call:=AU (n-1)) (N:=n-1) hv' ht.pos (by omega))
  rw[show n-1+1=n by omega] at hcw
  refine Kn (FT n).2 ht hL (by omega) hvH t0 hcw (fun H' hv' hf'=>Jb ht hv' (by omega) (by omega) hf') ?_
  intro T1 H1 m k c e r c5 c6 fl u0 u2 u3 u5 u6 u7 hp hcl hnx1 hf1 hold1
  have ho1:HS h.next H1 CY 0 0:=ho.mono (hold1 _ (by omega)) (hold1 _ (by omega))
  refine uE (a:=h.next) ht hL (by omega) hN u0 (u2.trans t2) (u3.trans t3) u7 (hvH.mono hnx1 hold1) hp hcl (by simp) (by simp) (by simp) (by omega) (by omega) ho1 (by omega) ?_ ?_
  ·intro hgo T2 H2 w2 w3 ho2 hnx2 hf2 hold2
   refine fin T2 H2 _ _ _ ByteArray.empty sZ w2 w3 rfl ho2 (hz H2) ?_ ?_ (by omega) (by omega) fun i hi=>by rw[hold2 i hi,hold1 i (by omega),hold i hi]
   ·unfold BE
    rw[if_neg (by rw[hc];simp)]
    simp only
    rw[if_pos hgo]
   ·unfold DS
    have:(BE l).1.1≠0:=by
     unfold BE
     rw[if_neg (by rw[hc];simp)]
     simp only
     rw[if_pos hgo]
     exact hgo
    rw[if_pos this]
  ·intro hgo T2 H2 hk2 hp2 hin2 haf
   have g5:=(haf.1 c5 (.inr (by simp))).trans hcl.h5
   have g6:=(haf.1 c6 (.inr (by simp))).trans hcl.h6
   have ho2:HS h.next H2 CY 0 0:=ho1.mono (haf.1 _ (.inl (by omega))) (haf.1 _ (.inl (by omega)))
   have hf2:=haf.2.2
   have hn2:=haf.2.1
   refine Fj (a:=h.next) ht hL (by omega) ((hk2 2 (by omega)).trans (u2.trans t2)) ((hk2 3 (by omega)).trans (u3.trans t3)) ((hk2 5 (by omega)).trans u5) ((hk2 6 (by omega)).trans u6) hp2 hin2 g5 g6 (by omega) (by omega) ho2 (by omega) ?_ ?_
   ·intro hlg T3 H3 x2 x3 ho3 hnx3 hf3 hold3
    have hres:(BE l).1=(34,KK (DO (BR l) l.length 0 (CR l)).2.2.rows (BR l) (DO (BR l) l.length 0 (CR l)).2.2.rules):=by
     unfold BE
     rw[if_neg (by rw[hc];simp)]
     simp only
     rw[if_neg (by rw[hgo];simp),if_pos hlg]
    refine fin T3 H3 _ _ _ ByteArray.empty sZ x2 x3 rfl ho3 (hz H3) hres ?_ (by omega) (by omega) fun i hi=>by rw[hold3 i hi,haf.1 i (.inl (by omega)),hold1 i (by omega),hold i hi]
    unfold DS
    rw[if_pos (by rw[hres];simp)]
   ·intro hlg T3 H3 cs x2 x3 hcs ho3 hpol hnx3 hf3 hold3
    have hres:BE l=((0,0),(DO (BR l) l.length 0 (CR l)).2.2):=by
     unfold BE
     rw[if_neg (by rw[hc];simp)]
     simp only
     rw[if_neg (by rw[hgo];simp),if_neg hlg]
    refine fin T3 H3 cs _ _ (J_ l) (DO (BR l) l.length 0 (CR l)).2.2 x2 x3 hcs ho3 (.inr (hpol.weak (by omega))) (by rw[hres]) ?_ (by omega) (by omega) fun i hi=>by rw[hold3 i hi,haf.1 i (.inl (by omega)),hold1 i (by omega),hold i hi]
    unfold DS
    rw[hres]
    simp
theorem xI {l:List AB} {v:Value} {h:AA} (hfl:h.floor≤h.next) (hg:h.get 0=CF) (hn0:0<h.next) (hv:A_ h v l) (hL:l.length<2932031007403) (hn:2*l.length+110<n) :
  ∃ v' h',AU n 13 [v] h=some (v',h')∧PI h l v' h':=by
 obtain⟨n,rfl⟩:=DJ hn
 exact PM (BX ⟨rfl,rfl,rfl⟩) (Np (n:=n) (N:=n) hfl hg hn0 hv hL (by omega) (by omega)) fun v' h1 hf _ ht=>Hd hf ht
theorem U1 {l:List AB} {v:Value} {h:AA} (hfl:h.floor≤h.next) (hg:h.get 0=CF) (hn0:0<h.next) (hv:A_ h v l) (hL:l.length<2932031007403) (hn:2*l.length+110<n) :
  ∃ v' h',AU n 13 [v] h=some (v',h')∧V9 h l v' h':=by
 obtain⟨v',h',h1,h2⟩:=xI (n:=n) hfl hg hn0 hv hL hn
 exact⟨v',h',h1,h2.told⟩
end
theorem SC.trans {h H H':AA} {lo:Nat} (a:SC h H lo) (b:SC H H' lo):SC h H' lo:=⟨fun i hi=>(b.1 i hi).trans (a.1 i hi),Nat.le_trans a.2.1 b.2.1,b.2.2.trans a.2.2⟩
theorem SC.refl (h:AA) (lo:Nat):SC h h lo:=⟨fun _ _=>rfl,Nat.le_refl _,rfl⟩
section
variable {n N:Nat}
end
def FV (x:Int):Int:=if x < -1073741824 then -1073741824 else if x>1073741824 then 1073741824 else x
def O1 (a b:Int):Int:=if Int.tmod a b≠0∧(decide (Int.tmod a b<0) != decide (b<0))=true then Int.tdiv a b-1 else Int.tdiv a b
def KU (a b:Int):Int:=if b=0 then 0 else FV (O1 a b)
def JX (x:Int):Prop:=-9223372036854775808≤x∧x<9223372036854775808
theorem oQ (x:Int):-1073741824≤FV x∧FV x≤1073741824:=by unfold FV;(repeat' split) <;> omega
theorem S7 (a b:Int) (hb:b≠0):∃ p,p=b*a.tdiv b∧a=p+a.tmod b∧(0≤a→0≤a.tmod b)∧(a≤0→a.tmod b≤0)∧(a.tmod b).natAbs<b.natAbs∧(a.tdiv b).natAbs≤a.natAbs∧(2≤b.natAbs→2*(a.tdiv b).natAbs≤a.natAbs)∧(b=1→a.tdiv b=a)∧(b=-1→a.tdiv b=-a)∧(a.tmod b).natAbs≤a.natAbs:=by
 refine⟨b*a.tdiv b,rfl,?_,?_,?_,?_,?_,?_,?_,?_,?_⟩
 ·have:=Int.tmod_add_mul_tdiv a b
  omega
 ·exact fun h=>Int.tmod_nonneg b h
 ·intro h
  have h1:=Int.tmod_nonneg (a:=-a) b (by omega)
  rw[Int.neg_tmod] at h1
  omega
 ·rw[Int.natAbs_tmod]
  exact Nat.mod_lt _ (by omega)
 ·rw[Int.natAbs_tdiv]
  exact Nat.div_le_self _ _
 ·intro h
  rw[Int.natAbs_tdiv]
  have h1:a.natAbs/b.natAbs≤a.natAbs/2:=Nat.div_le_div_left h (by omega)
  have h2:Nat.div a.natAbs b.natAbs=a.natAbs/b.natAbs:=rfl
  omega
 ·rintro rfl;exact Int.tdiv_one a
 ·rintro rfl;rw[Int.tdiv_neg,Int.tdiv_one]
 ·rw[Int.natAbs_tmod];exact Nat.mod_le _ _
section
variable {call:AN} {n:Nat} {h:AA}
theorem vR {x:Int}:A7 Tryd.prog call n 9 [.int .i64 x] h=some (.int .i64 (FV x),h):=by
 refine DL Tryd.func9 rfl (by simp[Tryd.f9]) ?_
 have hr:Tryd.f9.results.toList=[.tmp 2]:=rfl
 simp only[eE,seval,hr]
 unfold FV
 (repeat' split) <;> omega
theorem lN {a b:Int} (ha:JX a) (hb:JX b) (h0:b≠0) (hx:¬ (b=-1∧a < -1073741824)):JX (Int.tdiv a b)∧JX (Int.tmod a b)∧(Int.tmod a b≠0→JX (Int.tdiv a b-1)):=by
 obtain⟨p,hp,h1,h2,h3,h4,h5,h6,h7,h8,h9⟩:=S7 a b h0
 unfold JX at *
 generalize Int.tdiv a b=q at *
 generalize Int.tmod a b=r at *
 refine⟨?_,?_,?_⟩
 ·by_cases e:b=1
  ·have:=h7 e;omega
  ·by_cases e':b=-1
   ·have:=h8 e';omega
   ·have:=h6 (by omega);omega
 ·omega
 ·intro hr
  have:=h6 (by omega)
  omega
theorem eJ {a b:Int}:(Int.tmod a b=0→O1 a b=Int.tdiv a b)∧(Int.tmod a b≠0→O1 a b=if (decide (Int.tmod a b<0) != decide (b<0))=true then Int.tdiv a b-1 else Int.tdiv a b):=by
 unfold O1
 exact⟨fun h=>by rw[if_neg (fun hh=>hh.1 h)],fun h=>by simp only[h,ne_eq,not_false_eq_true,true_and]⟩
theorem uI (hc:∀ x h,call 9 [.int .i64 x] h=some (.int .i64 (FV x),h)) {a b:Int} (ha:JX a) (hb:JX b):A7 Tryd.prog call n 11 [.int .i64 a,.int .i64 b] h=some (.int .i64 (KU a b),h):=by
 refine DL Tryd.func11 rfl (by simp[Tryd.f11]) ?_
 have hr:Tryd.f11.results.toList=[.tmp 4]:=rfl
 by_cases h0:b=0
 ·subst h0
  simp only[eE,seval,↓eP,hr]
  rfl
 have e0:(b==0)=false:=by simpa using h0
 have hD:KU a b=FV (O1 a b):=by unfold KU;rw[if_neg h0]
 by_cases hx:b=-1∧a < -1073741824
 ·obtain⟨rfl,hx⟩:=hx
  have ex:decide (a < -1073741824)=true:=by simpa using hx
  simp only[eE,seval,↓eP,hr,e0,ex]
  rw[hD]
  obtain⟨p,hp,h1,h2,h3,h4,h5,h6,h7,h8,h9⟩:=S7 a (-1) h0
  have:=h8 rfl
  unfold O1
  rw[if_neg (by omega),this]
  unfold FV
  rw[if_neg (by omega),if_pos (by omega)]
 ·obtain⟨r1,r2,r3⟩:=lN ha hb h0 hx
  obtain⟨f1,f2⟩:=eJ (a:=a) (b:=b)
  rw[hD]
  by_cases hm:Int.tmod a b=0
  ·have em:(Int.tmod a b != 0)=false:=by simpa using hm
   rw[f1 hm]
   by_cases e1:b=-1
   ·have ex:decide (a < -1073741824)=false:=by simp;omega
    subst e1
    simp only[eE,seval,↓eP,hr,e0,ex]
    refine WK.quiet (by kernel_rfl) ?_
    simp only[eE,seval,↓eP,P9 h0,UB h0,em,hc]
    rw[C7 r1.1 r1.2]
   ·have ex:(b == -1)=false:=by simpa using e1
    simp only[eE,seval,↓eP,hr,e0,ex]
    refine WK.quiet (by kernel_rfl) ?_
    simp only[eE,seval,↓eP,P9 h0,UB h0,em,hc]
    rw[C7 r1.1 r1.2]
  ·have em:(Int.tmod a b != 0)=true:=by simpa using hm
   rw[f2 hm]
   have r4:=r3 hm
   have e1:b≠-1:=by
    rintro rfl
    obtain⟨p,hp,h1,h2,h3,h4,h5,h6,h7,h8,h9⟩:=S7 a (-1) h0
    omega
   have ex:(b == -1)=false:=by simpa using e1
   simp only[eE,seval,↓eP,hr,e0,ex]
   refine WK.quiet (by kernel_rfl) ?_
   cases hs:(decide (Int.tmod a b<0) != decide (b<0)) with
   | true=>
    simp only[eE,seval,↓eP,P9 h0,UB h0,em,hc,UC Tryd.underlying4,hs]
    rw[C7 r1.1 r1.2,C7 r4.1 r4.2]
   | false=>
    simp only[eE,seval,↓eP,P9 h0,UB h0,em,hc,UC Tryd.underlying4,hs]
    rw[C7 r1.1 r1.2]
end
section
variable {n:Nat} {h:AA}
theorem YV {x:Int} (hn:0<n):AU n 9 [.int .i64 x] h=some (.int .i64 (FV x),h):=by
 obtain⟨n,rfl⟩:=DJ hn
 exact EN (BX ⟨rfl,rfl,rfl⟩) rfl vR
theorem Hk {a b:Int} (ha:JX a) (hb:JX b) (hn:1<n):AU n 11 [.int .i64 a,.int .i64 b] h=some (.int .i64 (KU a b),h):=by
 obtain⟨n,rfl⟩:=DJ hn
 exact EN (BX ⟨rfl,rfl,rfl⟩) rfl (uI (fun _ _=>YV (by omega)) ha hb)
end
noncomputable def SH:AN:=ON 8 CF
def sS:Option (Value × AA)→Bool
 | some (.bool b,_)=>b
 | _=>false
theorem Cd:sS (F5 Tryd.prog Jm 200 8 [] KA)=true:=by kernel_rfl
theorem yW:C8 Tryd.prog SH∧CD SH:=by
 have h:=Cd
 unfold sS at h
 split at h
 ·rename_i b h' hs
  cases h
  have ht:=R2 (Kg (WB JG 200).1 Cm) (Lt (WB JG 200).1 Az)
  exact j9 (NK JG ht.1 ht.2 200).1 X8 (by kernel_rfl) hs
 ·cases h
noncomputable def O8 (n:Nat):AN:=GF SH (AU n)
theorem T7 (n:Nat):C8 Tryd.prog (O8 n)∧CD (O8 n):=R2 yW (FT n)
section
variable {n:Nat} {f:FuncId} {args:List Value} {h:AA} {r:Value × AA}
theorem aD (hg:h.get 0=CF):O8 n 8 [] h=some (.bool true,h):=by
 refine US ?_
 unfold SH ON
 rw[if_pos ⟨rfl,rfl,hg⟩]
theorem EX (hf:f≠8) (hb:AU n f args h=some r):O8 n f args h=some r:=by
 unfold O8 GF
 have:SH f args h=none:=by
  unfold SH ON
  rw[if_neg (fun hc=>hf hc.1)]
 rw[this]
 exact hb
end
end Go.Proofs.YtdejoodfeljmkaaDoor
