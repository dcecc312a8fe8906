/- Part 9 of what the claim leans on: 30 texts laid one behind another. -/
import Derived.Test.YtdejoodfeljmkaaDoorTY8
namespace Go.Proofs.YtdejoodfeljmkaaDoor
open Go Go.Sx
set_option maxRecDepth 100000
set_option linter.unusedSimpArgs false
set_option linter.unusedVariables false
set_option maxHeartbeats 64000000
noncomputable def D5:Code:=rt (rt (rt (rt (Tryd.f31.body.getD .skip))))
noncomputable def D8:Code:=rt D5
noncomputable def lU:Code:=rt (rt (rt D8))
noncomputable def Fy:Code:=rt lU
noncomputable def eA:Array Oper:=D2 Tryd.f31 5
def Be:List (Bool × Bool × List Operand):=[AQ,AQ,AQ,AQ,AH [.tmp 29],AH [.tmp 29],AH [.tmp 29],AH [.tmp 29],AK,AK,AK,AK,AH [.tmp 29,.tmp 33,.tmp 30],AK,AK]
theorem Ax:DU eA=Be:=by kernel_rfl
def Z3:List (Bool × Bool × List Operand):=[AQ,AQ,AQ,AQ,AH [.tmp 58],AH [.tmp 58],AH [.tmp 58],AH [.tmp 58],AH [.tmp 58,.tmp 62],AH [.tmp 58,.tmp 62],AH [.tmp 58,.tmp 62],AH [.tmp 58,.tmp 62],AH [.tmp 58,.tmp 62],AK]
def cJ:List (Bool × Bool × List Operand):=[EX,AQ,AQ,AQ,AQ,AQ,AH [.tmp 80],AH [.tmp 80],AH [.tmp 80],AH [.tmp 80],AH [.tmp 80,.tmp 84],AH [.tmp 80,.tmp 84],AH [.tmp 80,.tmp 84],AH [.tmp 80,.tmp 84],AH [.tmp 80,.tmp 84],AH [.tmp 80],AH [.tmp 80],AK,AK,AK,AK,AK]
def Y4:List (Bool × Bool × List Operand):=[EX,AQ,AQ,AQ,AQ,AQ,AH [.tmp 114],AH [.tmp 114],AH [.tmp 114],AH [.tmp 114],AH [.tmp 114],AK,AK,AK,AK,AK]
def bA:List (Bool × Bool × List Operand):=[EX,AQ,AQ,AQ,AQ,AQ,AH [.tmp 131],AH [.tmp 131],AH [.tmp 131],AH [.tmp 131],AH [.tmp 131],AK,AK,AK,AK,AK]
theorem rI {h:AA} {id:Nat} {a b c x y z:Value} {ty:TypeId} {g:Bool} (hg:h.get id=.row [x,y,z] ty g false) (hf:h.floor≤id) (ho:[a,b,c].all one=true):BC Tryd.prog h 99 (qP id 0) (.agg #[a,b,c])=some (h.put id (.row [a,b,c] ty g false)):=by
 have hl:Go.Sx.lay [x,y,z] 0 [a,b,c]=[a,b,c]:=rfl
 have hc:(Value.agg #[a,b,c]).cells=#[a,b,c]:=rfl
 have hsz:(some 3:Option Nat)=some (#[a,b,c]:Array Value).size:=rfl
 simp only[BC,hc,k8,GB,hg]
 rw[if_pos hsz,if_pos (by simp only[List.length_cons,List.length_nil,ho];simp[hf])]
 rfl
theorem rH {b t:Nat} (ht:t≤b) {T:Tr} {d:Nat} {v:Value} (hd:b<d):(T.put (some d) v).get t=T.get t:=wT (b:=b+1) hd (by omega)
theorem I3 {T:Tr} {v:Value}:T.put none v=T:=rfl
section
variable {call:AM} {N:Nat} {h:AA} {lo m k c e r n:Nat} {nm:ByteArray} {E:List Int} {tag:Nat→Nat} {vq vv vt vu vo:Value} {es:List (Value × Value)} {s:AL}
theorem Hs (hsn:CA call) {T:Tr} {at_:Nat} {x:AB} {K:CO} (hp:BN h lo m k c e r n nm E tag vq vv vt vu vo es s) (hx:s.rows[at_]?=some x)
  (t0:T.get 0=qP m 0) (t7:T.get 7=.pointer (some ⟨r,at_*5,none⟩))
  (hk1:∀ T' H,(F2 s.things x.name).isSome=true→T'.get 6=iv 31→(∀ i,i<h.next→H.get i=h.get i)→h.next≤H.next→H.floor=h.floor→K.ap Tryd.prog call N .ret ⟨T',H⟩)
  (hk2:∀ T' H,F2 s.things x.name=none→(∀ t,t≤8→T'.get t=T.get t)→(∀ i,i<h.next→H.get i=h.get i)→h.next≤H.next→H.floor=h.floor→WK Tryd.prog call N D8 ⟨T',H⟩ K):WK Tryd.prog call N D5 ⟨T,h⟩ K:=by
 show WK _ _ _ (.seq (.seq (.region _ _ true) _) D8) _ _
 rw[K_,K_]
 have c8:=hp.c8
 obtain⟨hlt,l0,l1,l2,l3,l4,lr⟩:=hp.row hx
 have hlook:=mK (x:=x.name) hp.known
 have hm:=hp.lm.2
 have hkn:=hp.lk.2
 have hr:=hp.pol.lr.2
 have hflo:h.floor≤h.next:=by have:=hp.fl;have:=hp.lm.1;omega
 have n1:(some m != some h.next)=true:=by simp;omega
 have n2:(some r != some h.next)=true:=by simp;omega
 have n3:(some k != some h.next)=true:=by simp;omega
 have hnew:(h.push (.row [iv 0,iv 0,iv 0] 99 false false)).get h.next=.row [iv 0,iv 0,iv 0] 99 false false:=BP
 have hst:=fun a b d=>rI (a:=iv a) (b:=iv b) (c:=iv d) hnew (by exact hflo) rfl
 have hold:∀ o i,i<h.next→((h.push (.row [iv 0,iv 0,iv 0] 99 false false)).put h.next o).get i=h.get i:=fun o i hi=>by rw[AW (by show h.next<h.next+1;omega) (by omega),AR hi]
 have hfl0:flat (.agg #[iv 0,iv 0,iv 0])=true:=rfl
 have hcl0:=E1 [iv 0,iv 0,iv 0]
 have i1:CN (qP m 8)=some m:=rfl
 have i2:CN (.pointer (some ⟨r,at_*5+1,none⟩))=some r:=rfl
 have i3:CN (.map (some k))=some k:=rfl
 have i4:CN (qP h.next 0)=some h.next:=rfl
 refine WK.flags (ops:=eA) Ax ?_
 refine CJ.begin ?_
 refine AG hsn 0 (some 27) (.move (.tmp 0)) none ?_
 simp only[rG,seval,AC,AF,AE,t0]
 refine AG hsn 1 (some 28) (.nilCheck (.tmp 27)) none ?_
 simp only[rG,seval,AC,AF,AE]
 refine AG hsn 2 (some 29) (.fieldAddr 69 (.tmp 28) 1) none ?_
 simp only[rG,seval,AC,AF,AE,Nat.zero_add,Y5]
 refine AG hsn 3 (some 30) (.load 66 (.tmp 29)) none ?_
 simp only[rG,seval,AC,AF,AE,C0,aP,c8]
 refine AG hsn 4 (some 31) (.move (.tmp 7)) none ?_
 simp only[rG,seval,AC,AF,AE,t7]
 refine AG hsn 5 (some 32) (.nilCheck (.tmp 31)) none ?_
 simp only[rG,seval,AC,AF,AE]
 refine AG hsn 6 (some 33) (.fieldAddr 61 (.tmp 32) 1) none ?_
 simp only[rG,seval,AC,AF,AE,LJ]
 refine AG hsn 7 (some 34) (.load 9 (.tmp 33)) none ?_
 simp only[rG,seval,AC,AF,AE,C0,GJ,l1]
 cases hf:F2 s.things x.name with
 | some t=>
  rw[hf] at hlook
  refine AG hsn 8 (some 35) (.lookup 66 (.tmp 30) (.tmp 34) true) none ?_
  simp only[rG,seval,AC,AF,AE,C0,hlook,i3]
  refine AG hsn 9 (some 26) (.move (.tmp 35)) none ?_
  simp only[rG,seval,AC,AF,AE]
  refine AG hsn 10 (some 36) (.extract (.tmp 26) 0) none ?_
  simp only[rG,seval,AC,AF,AE,List.getElem?_toArray,List.getElem?_cons_zero]
  refine AG hsn 11 (some 37) (.extract (.tmp 26) 1) none ?_
  simp only[rG,seval,AC,AF,AE,List.getElem?_toArray,List.getElem?_cons_succ,List.getElem?_cons_zero]
  refine AG hsn 12 (some 9) (.alloc 99) none ?_
  simp only[rG,seval,AC,AF,AE,WC,RZ,hfl0,hcl0]
  refine AG hsn 13 (none) (.store 99 (.tmp 9) (.tmp 36)) none ?_
  simp only[rG,seval,AC,AF,AE,CR,DD,hst,i4,CR,List.all_nil]
  refine AG hsn 14 (some 10) (.assign (.tmp 37)) none ?_
  simp only[rG,seval,AC,AF,AE]
  refine CJ.done (i:=15) (by kernel_rfl) ?_
  simp only[eE,seval,↓eP,rP]
  exact hk1 _ _ (by rw[hf];rfl) (by simp only[Tr.get_put,if_true]) (hold _) (by show h.next≤h.next+1;omega) rfl
 | none=>
  rw[hf] at hlook
  refine AG hsn 8 (some 35) (.lookup 66 (.tmp 30) (.tmp 34) true) none ?_
  simp only[rG,seval,AC,AF,AE,C0,hlook,i3]
  refine AG hsn 9 (some 26) (.move (.tmp 35)) none ?_
  simp only[rG,seval,AC,AF,AE]
  refine AG hsn 10 (some 36) (.extract (.tmp 26) 0) none ?_
  simp only[rG,seval,AC,AF,AE,List.getElem?_toArray,List.getElem?_cons_zero]
  refine AG hsn 11 (some 37) (.extract (.tmp 26) 1) none ?_
  simp only[rG,seval,AC,AF,AE,List.getElem?_toArray,List.getElem?_cons_succ,List.getElem?_cons_zero]
  refine AG hsn 12 (some 9) (.alloc 99) none ?_
  simp only[rG,seval,AC,AF,AE,WC,RZ,hfl0,hcl0]
  refine AG hsn 13 (none) (.store 99 (.tmp 9) (.tmp 36)) none ?_
  simp only[rG,seval,AC,AF,AE,CR,DD,hst,i4,CR,List.all_nil]
  refine AG hsn 14 (some 10) (.assign (.tmp 37)) none ?_
  simp only[rG,seval,AC,AF,AE]
  refine CJ.done (i:=15) (by kernel_rfl) ?_
  simp only[eE,seval,↓eP,rP]
  refine hk2 _ _ hf (fun t ht=>?_) (hold _) (by show h.next≤h.next+1;omega) rfl
  simp only[rH ht,I3,Nat.reduceLT]
noncomputable def aX:Code:=rt Fy
theorem t_ (hsn:CA call) {T:Tr} {at_:Nat} {x:AB} {K:CO} {kd end_:Int} (hp:BN h lo m k c e r n nm E tag vq vv vt vu vo es s) (hx:s.rows[at_]?=some x) (hm:RF es s) (h1:1≤kd) (h4:kd≤4) (hcn:BV s kd<1000)
  (h80:∀ h',call 49 [iv kd] h'=some (iv (I2 kd),h')) (hf:F2 s.things x.name=none)
  (t0:T.get 0=qP m 0) (t2:T.get 2=iv end_) (t7:T.get 7=.pointer (some ⟨r,at_*5,none⟩)) (t8:T.get 8=iv kd)
  (hk1:∀ T',(BV s kd:Int)=I2 kd→T'.get 6=iv 3→K.ap Tryd.prog call N .ret ⟨T',h⟩)
  (hk2:∀ T' H,(BV s kd:Int)≠I2 kd→(∀ t,t≤8→T'.get t=T.get t)→BN H lo m k c e r n nm E tag vq vv vt vu vo (F6 (iv kd) (iv ((BV s kd:Int)+1)) es) { s with rows:=GF s.rows at_ (BV s kd),things:=s.things++[⟨x.name,kd,(BV s kd:Int),end_⟩] } →
   (∀ i,i<lo∨(i<h.next∧11≤tag i)→H.get i=h.get i)→H.next=h.next→H.floor=h.floor→WK Tryd.prog call N aX ⟨T',H⟩ K):WK Tryd.prog call N D8 ⟨T,h⟩ K:=by
 show WK _ _ _ (.seq _ (.seq _ (.seq _ lU))) _ _
 have c9:=hp.c9
 have hlook:=r8 hp.many hm h1 h4
 have w1:IntKind.i64.wrap ((BV s kd:Int)+1)=(BV s kd:Int)+1:=C8 (by omega) (by omega)
 have hput:=uA (v:=iv ((BV s kd:Int)+1)) hp.many hm h1 h4 (by have:=hp.fl;have:=hp.lc.1;omega)
 cases d1:((BV s kd:Int)==I2 kd) with
 | true=>
  simp only[eE,seval,↓eP,rP,t0,t8,oU,fY,c9,hlook,h80,d1]
  exact hk1 _ (by simpa using d1) (by simp only[Tr.get_put,if_true])
 | false=>
  simp only[eE,seval,↓eP,rP,t0,t8,oU,fY,c9,hlook,h80,d1,w1,hput]
  have hp1:=hp.putC (F6 (iv kd) (iv ((BV s kd:Int)+1)) es)
  have hlo1:∀ i,i<lo∨(i<h.next∧11≤tag i)→(h.put c (.map (F6 (iv kd) (iv ((BV s kd:Int)+1)) es))).get i=h.get i:=fun i hi=>AW hp.lc.2 (OS hp.lc.1 (by rw[hp.tc];decide) hi)
  have hnx1:(h.put c (.map (F6 (iv kd) (iv ((BV s kd:Int)+1)) es))).next=h.next:=rfl
  have hfl1:(h.put c (.map (F6 (iv kd) (iv ((BV s kd:Int)+1)) es))).floor=h.floor:=rfl
  generalize h.put c (.map (F6 (iv kd) (iv ((BV s kd:Int)+1)) es))=H1 at *
  show WK _ _ _ (.seq (.region _ _ true) (.seq _ aX)) _ _
  rw[K_]
  have b8:=hp1.c8
  obtain⟨hlt,l0,l1,l2,l3,l4,lr⟩:=hp1.row hx
  have hpk:=Kj (a:=kd) (b:=(BV s kd:Int)) (c:=end_) hp1.known hf (by have:=hp1.fl;have:=hp1.lk.1;omega)
  refine WK.flags (fs:=Z3) (by kernel_rfl) ?_
  unfold Z3
  iterate 14
   refine EC hsn ?_
   simp only[rG,seval,AC,AF,AE,C0,DW,CR,DD,EG,t0,Y5,aP,b8,t7,LJ,GJ,l1,t8,List.map_cons,List.map_nil,bT,t2,Fb,hpk]
  refine EF ?_
  have hp2:=hp1.putK (s.things++[⟨x.name,kd,(BV s kd:Int),end_⟩])
  have hlo2:∀ i,i<lo∨(i<h.next∧11≤tag i)→(H1.put k (.map ((s.things++[(⟨x.name,kd,(BV s kd:Int),end_⟩:F1)]).map JL))).get i=h.get i:=fun i hi=>by rw[AW hp1.lk.2 (OS hp1.lk.1 (by rw[hp1.tk];decide) hi)];exact hlo1 i hi
  have hnx2:(H1.put k (.map ((s.things++[(⟨x.name,kd,(BV s kd:Int),end_⟩:F1)]).map JL))).next=h.next:=hnx1
  have hfl2:(H1.put k (.map ((s.things++[(⟨x.name,kd,(BV s kd:Int),end_⟩:F1)]).map JL))).floor=h.floor:=hfl1
  generalize H1.put k (.map ((s.things++[(⟨x.name,kd,(BV s kd:Int),end_⟩:F1)]).map JL))=H2 at *
  have hrl:=KA s.rows
  have hlen:=hp.pol.len
  have hst:=H0 (off:=at_*5+3) C4 (v:=iv (BV s kd:Int)) rfl rfl hp2.pol.rows (by rw[hrl];omega) (by have:=hp2.fl;have:=hp2.pol.lr.1;omega)
  rw[Z6 hx] at hst
  have hp3:=hp2.putR (l:=GF s.rows at_ (BV s kd:Int)) PQ
  simp only[eE,seval,↓eP,rP,t7,hst]
  refine hk2 _ _ (by simpa using d1) (fun t ht=>?_) hp3 (fun i hi=>?_) hnx2 hfl2
  ·simp only[rH ht,I3,Nat.reduceLT]
  ·rw[AW hp2.pol.lr.2 (OS hp2.pol.lr.1 (by rw[hp2.pol.tr];decide) hi)]
   exact hlo2 i hi
def ZB (kd:Int) (at_:Nat) (x:AB) (s:AL):AL:=
 { s with
   queues:=if kd=1 then s.queues++[(x.name,x.kind==3)] else s.queues
   vars:=if kd=2 then s.vars++[x.name] else s.vars
   tags:=if kd=3 then s.tags++[x.name] else s.tags
   rules:=if kd=4 then s.rules++[(at_:Int)+1] else s.rules
   on:=if kd=1 then s.on++[-1] else s.on }
theorem tV (hsn:CA call) {T:Tr} {at_:Nat} {x:AB} {K:CO} {kd:Int} (hp:BN h lo m k c e r n nm E tag vq vv vt vu vo es s) (hx:s.rows[at_]?=some x) (h1:1≤kd) (h4:kd≤4)
  (hb:s.queues.length<1000∧s.vars.length<1000∧s.tags.length<1000∧s.rules.length<1000∧s.on.length<1000) (hn:n<30000000000000)
  (t0:T.get 0=qP m 0) (t1:T.get 1=iv at_) (t7:T.get 7=.pointer (some ⟨r,at_*5,none⟩)) (t8:T.get 8=iv kd)
  (hk:∀ T' H tag' vq' vv' vt' vu' vo',T'.get 6=iv 0→BN H lo m k c e r n nm E tag' vq' vv' vt' vu' vo' es (ZB kd at_ x s)→(∀ i,i<h.next→tag' i=tag i)→(∀ i,i<lo∨(i<h.next∧11≤tag i)→H.get i=h.get i)→h.next≤H.next→H.floor=h.floor→K.ap Tryd.prog call N .ret ⟨T',H⟩):WK Tryd.prog call N aX ⟨T,h⟩ K:=by
 show WK _ _ _ (.seq (.seq _ (.block _ _)) (.seq _ _)) _ _
 have hm:=hp.lm.2
 have hlm:=hp.lm.1
 have hflm:h.floor≤m:=by have:=hp.fl;omega
 obtain⟨hlt,l0,l1,l2,l3,l4,lr⟩:=hp.row hx
 have hk4:kd=1∨kd=2∨kd=3∨kd=4:=by omega
 have nl:∀ (o o':BA) i,i<lo∨(i<h.next∧11≤tag i)→∀ hh:AA,(∀ i,i<h.next→i<lo∨11≤tag i→hh.get i=h.get i)→hh.next=h.next+2→(hh.put m o).get i=h.get i:=fun o o' i hi hh h1 h2=>by rw[AW (by omega) (OS hlm (by rw[hp.tm];decide) hi),h1 i (by omega) (by omega)]
 have tg:∀ j i,i<h.next→(fun i=>if i=h.next+1 then j else tag i) i=tag i:=fun j i hi=>if_neg (by omega)
 rcases hk4 with rfl | rfl | rfl | rfl
 ·obtain⟨v',h1',a1,a2,a3,a4,a5,a6,a7,hp2⟩:=hp.appQ (x.name,x.kind==3) (by omega)
  have c2:=hp.c2
  have hfx:h1'.fl h.floor=h1':=by rw[← a5];exact HN h1'
  have hst:BC Tryd.prog h1' 30 (qP m 2) v'=_:=H0 YY a4 a3 (a2.trans hp.cell) (by simp only[List.length_cons,List.length_nil];omega) (by rw[a5];exact hflm)
  have lo2:=nl (.row [.string nm,qS r n AP,v',vv,vt,vu,vo,iv s.miss,.map (some k),.map (some c)] 69 false false) .dead
  simp only[List.set_cons_succ,List.set_cons_zero] at hst
  simp only[eE,seval,↓eP,rP,t8]
  show WK _ _ _ (.region _ _ true) _ _
  refine WK.flags (fs:=cJ) (by kernel_rfl) ?_
  unfold cJ
  iterate 22
   refine EC hsn ?_
   simp only[rG,seval,AC,AF,AE,C0,DW,CR,DD,EG,t0,IK,F_,F9,c2,t7,LJ,GJ,l1,CX,AT,l0,List.map_cons,List.map_nil,Du,Hx,N2,a1,hfx,IL,hst]
  refine EF ?_
  have lo3:=fun i hi=>lo2 i hi h1' a7 a6
  have hfl3:(h1'.put m (.row [.string nm,qS r n AP,v',vv,vt,vu,vo,iv s.miss,.map (some k),.map (some c)] 69 false false)).floor=h.floor:=a5
  have hnx3:(h1'.put m (.row [.string nm,qS r n AP,v',vv,vt,vu,vo,iv s.miss,.map (some k),.map (some c)] 69 false false)).next=h.next+2:=a6
  generalize h1'.put m (.row [.string nm,qS r n AP,v',vv,vt,vu,vo,iv s.miss,.map (some k),.map (some c)] 69 false false)=H2 at *
  obtain⟨v2,h2',b1,b2,b3,b4,b5,b6,b7,hp3⟩:=hp2.appO (-1) (by simp only;omega)
  have d6:=hp2.c6
  have hst2:BC Tryd.prog h2' 27 (qP m 6) v2=_:=H0 LH b4 b3 (b2.trans hp2.cell) (by simp only[List.length_cons,List.length_nil];omega) (by rw[b5,hfl3];exact hflm)
  simp only[List.set_cons_succ,List.set_cons_zero] at hst2
  simp only[eE,seval,↓eP,rP,t0,IK,KY,DB,d6,NQ,b1,hst2]
  refine hk _ _ _ _ _ _ _ _ (by simp only[Tr.get_put,if_true]) hp3 (fun i hi=>?_) (fun i hi=>?_) ?_ (b5.trans hfl3)
  ·show (if i=H2.next+1 then 6 else if i=h.next+1 then 2 else tag i)=tag i
   rw[if_neg (by omega),if_neg (by omega)]
  ·rw[AW (by omega) (OS hlm (by rw[hp.tm];decide) hi),b7 i (by omega) (by show i<lo∨11≤(if i=h.next+1 then 2 else tag i);rw[if_neg (by omega)];omega),lo3 i hi]
  ·show h.next≤h2'.next;omega
 ·obtain⟨v',h1',a1,a2,a3,a4,a5,a6,a7,hp2⟩:=hp.appV x.name (by omega)
  have c3:=hp.c3
  have hfx:h1'.fl h.floor=h1':=by rw[← a5];exact HN h1'
  have hst:BC Tryd.prog h1' 31 (qP m 3) v'=_:=H0 RU a4 a3 (a2.trans hp.cell) (by simp only[List.length_cons,List.length_nil];omega) (by rw[a5];exact hflm)
  simp only[List.set_cons_succ,List.set_cons_zero] at hst
  simp only[eE,seval,↓eP,rP,t8,Int.reduceBEq]
  show WK _ _ _ (.region _ _ true) _ _
  refine WK.flags (fs:=Y4) (by kernel_rfl) ?_
  unfold Y4
  iterate 16
   refine EC hsn ?_
   simp only[rG,seval,AC,AF,AE,C0,DW,CR,DD,EG,t0,IK,KQ,JT,c3,t7,LJ,GJ,l1,List.map_cons,List.map_nil,pG,N2,a1,hfx,IL,hst]
  refine EF ?_
  simp only[eE,seval,↓eP,rP]
  refine hk _ _ _ _ _ _ _ _ (by simp only[Tr.get_put,if_true]) hp2 (tg _) (fun i hi=>nl _ .dead i hi h1' a7 a6) ?_ a5
  show h.next≤h1'.next;omega
 ·obtain⟨v',h1',a1,a2,a3,a4,a5,a6,a7,hp2⟩:=hp.appT x.name (by omega)
  have c4:=hp.c4
  have hfx:h1'.fl h.floor=h1':=by rw[← a5];exact HN h1'
  have hst:BC Tryd.prog h1' 31 (qP m 4) v'=_:=H0 RU a4 a3 (a2.trans hp.cell) (by simp only[List.length_cons,List.length_nil];omega) (by rw[a5];exact hflm)
  simp only[List.set_cons_succ,List.set_cons_zero] at hst
  simp only[eE,seval,↓eP,rP,t8,Int.reduceBEq]
  show WK _ _ _ (.region _ _ true) _ _
  refine WK.flags (fs:=bA) (by kernel_rfl) ?_
  unfold bA
  iterate 16
   refine EC hsn ?_
   simp only[rG,seval,AC,AF,AE,C0,DW,CR,DD,EG,t0,IK,K3,JT,c4,t7,LJ,GJ,l1,List.map_cons,List.map_nil,pG,N2,a1,hfx,IL,hst]
  refine EF ?_
  simp only[eE,seval,↓eP,rP]
  refine hk _ _ _ _ _ _ _ _ (by simp only[Tr.get_put,if_true]) hp2 (tg _) (fun i hi=>nl _ .dead i hi h1' a7 a6) ?_ a5
  show h.next≤h1'.next;omega
 ·obtain⟨v',h1',a1,a2,a3,a4,a5,a6,a7,hp2⟩:=hp.appU ((at_:Int)+1) (by omega)
  have c5:=hp.c5
  have w1:IntKind.i64.wrap ((at_:Int)+1)=(at_:Int)+1:=C8 (by omega) (by omega)
  have hst:BC Tryd.prog h1' 27 (qP m 5) v'=_:=H0 LH a4 a3 (a2.trans hp.cell) (by simp only[List.length_cons,List.length_nil];omega) (by rw[a5];exact hflm)
  simp only[List.set_cons_succ,List.set_cons_zero] at hst
  simp only[eE,seval,↓eP,rP,t0,t1,t8,Int.reduceBEq,IK,K0,DB,c5,w1,NQ,a1,hst]
  refine hk _ _ _ _ _ _ _ _ (by simp only[Tr.get_put,if_true]) hp2 (tg _) (fun i hi=>nl _ .dead i hi h1' a7 a6) ?_ a5
  show h.next≤h1'.next;omega
end
structure L8 (s:AL):Prop where
 q:s.queues.length≤16
 v:s.vars.length≤16
 t:s.tags.length≤4
 u:s.rules.length≤64
 o:s.on.length=s.queues.length
 th:∀ t∈s.things,1≤t.kind∧t.kind≤4∧0≤t.num∧t.num<BV s t.kind∧0≤t.known
theorem QK (k:Int):0≤BO k∧BO k≤4:=by unfold BO;(repeat' split) <;> omega
theorem p_ (k:Int):0≤EE k∧EE k≤4:=by unfold EE;(repeat' split) <;> omega
theorem JY {l:List AB} {k:Nat} {n:Int} {x:AB} (hx:l[k]?=some x):(GF l k n)[k]?=some { x with n:=n }:=by
 unfold GF
 rw[hx]
 simp[(List.getElem?_eq_some_iff.1 hx).1]
theorem uQ {s:AL} (hw:L8 s) (k:Int):BV s k≤64:=by
 have:=hw.q;have:=hw.v;have:=hw.t;have:=hw.u
 unfold BV
 (repeat' split) <;> omega
section
variable {call:AM} {N:Nat} {h:AA} {lo m k c e r n:Nat} {nm:ByteArray} {E:List Int} {F:List Nat} {tag:Nat→Nat} {vq vv vt vu vo:Value} {es:List (Value × Value)} {s:AL}
def EM (h:AA) (lo m k c e r n:Nat) (nm:ByteArray) (E:List Int) (F:List Nat) (s:AL):Prop:=∃ tag vq vv vt vu vo es,BN h lo m k c e r n nm E tag vq vv vt vu vo es s∧RF es s∧L8 s∧∀ i∈F,i<h.next∧11≤tag i
def FF (h H:AA) (lo:Nat) (F:List Nat):Prop:=(∀ i,i<lo∨i∈F→H.get i=h.get i)∧h.next≤H.next∧H.floor=h.floor
theorem Bv {s s':AL} {kd:Int} {es:List (Value × Value)} (hm:RF es s) (h1:BV s' kd=BV s kd+1) (h2:∀ k,1≤k→k≤4→k≠kd→BV s' k=BV s k):RF (F6 (iv kd) (iv ((BV s kd:Int)+1)) es) s':=by
 refine⟨nV _ _ _ hm.1,fun k k1 k4=>?_⟩
 rw[j6 _ _ _ _ hm.1]
 by_cases hk:k=kd
 ·subst hk
  rw[if_pos rfl,h1,if_neg (by omega)]
  rfl
 ·rw[if_neg hk,h2 k k1 k4 hk]
  exact hm.2 k k1 k4
theorem bN {s:AL} {at_:Nat} {end_:Int} {x:AB} {k:Int} (hk:1≤k∧k≤4):BV (EU at_ end_ x s) k=BV s k+(if k=BO x.kind then 1 else 0):=by
 have hd:=QK x.kind
 generalize hkd:BO x.kind=kd at *
 unfold BV EU
 rw[hkd]
 obtain rfl | rfl | rfl | rfl:k=1∨k=2∨k=3∨k=4:=by omega
 all_goals
  by_cases e:kd=1
  ·subst e;simp
  by_cases e2:kd=2
  ·subst e2;simp
  by_cases e3:kd=3
  ·subst e3;simp
  by_cases e4:kd=4
  ·subst e4;simp
  simp[e,e2,e3,e4,Ne.symm e,Ne.symm e2,Ne.symm e3,Ne.symm e4]
  try omega
theorem oO {s:AL} {at_:Nat} {end_:Int} {x:AB} (hw:L8 s) (hkd:BO x.kind≠0) (hne:(BV s (BO x.kind):Int)≠I2 (BO x.kind)) (he:0≤end_):L8 (EU at_ end_ x s):=by
 have hd:=QK x.kind
 have hq:=hw.q;have hv:=hw.v;have ht:=hw.t;have hu:=hw.u;have ho:=hw.o
 have hth:=hw.th
 have hcnt:=fun k (hk:1≤k∧k≤4)=>bN (s:=s) (at_:=at_) (end_:=end_) (x:=x) hk
 have key:∀ t∈(EU at_ end_ x s).things,1≤t.kind∧t.kind≤4∧0≤t.num∧t.num<BV (EU at_ end_ x s) t.kind∧0≤t.known:=by
  intro t htm
  simp only[EU,List.mem_append,List.mem_cons,List.not_mem_nil,or_false] at htm
  rcases htm with htm | rfl
  ·obtain⟨a1,a2,a3,a4,a5⟩:=hth t htm
   rw[hcnt _ ⟨a1,a2⟩]
   exact⟨a1,a2,a3,by split <;> omega,a5⟩
  ·have hk1:1≤BO x.kind:=by omega
   refine⟨hk1,hd.2,Int.natCast_nonneg _,?_,he⟩
   rw[hcnt _ ⟨hk1,hd.2⟩,if_pos rfl]
   simp only
   omega
 generalize hkd2:BO x.kind=kd at *
 have e:∀ k,k=kd→1≤k→BV s k≠(I2 k).toNat:=by
  intro k hk h1 h
  subst hk
  apply hne
  rw[h]
  unfold I2
  (repeat' split) <;> rfl
 constructor
 ·simp only[EU,hkd2]
  split
  ·rename_i h1
   have:=e 1 h1.symm (by omega)
   simp[BV,I2] at this
   simp
   omega
  ·exact hq
 ·simp only[EU,hkd2]
  split
  ·rename_i h1
   have:=e 2 h1.symm (by omega)
   simp[BV,I2] at this
   simp
   omega
  ·exact hv
 ·simp only[EU,hkd2]
  split
  ·rename_i h1
   have:=e 3 h1.symm (by omega)
   simp[BV,I2] at this
   simp
   omega
  ·exact ht
 ·simp only[EU,hkd2]
  split
  ·rename_i h1
   have:=e 4 h1.symm (by omega)
   simp[BV,I2] at this
   simp
   omega
  ·exact hu
 ·simp only[EU,hkd2]
  split
  ·simp[ho]
  ·exact ho
 ·exact key
theorem uD (hsn:CA call) {at_:Nat} {end_:Int} {x:AB} (hp:EM h lo m k c e r n nm E F s) (hx:s.rows[at_]?=some x) (hkind:1≤x.kind∧x.kind≤54) (hn:n<30000000000000) (he:0≤end_)
  (h79:∀ k h',1≤k∧k≤54→call 48 [iv k] h'=some (iv (BO k),h')) (h80:∀ k h',call 49 [iv k] h'=some (iv (I2 k),h')) :
  ∃ h',A7 Tryd.prog call N 31 [qP m 0,iv at_,iv end_] h=some (iv (EZ x s),h')∧(FF h h' lo F∧(EZ x s=0→EM h' lo m k c e r n nm E F (BK at_ end_ x s))):=by
 obtain⟨tag,vq,vv,vt,vu,vo,es,hp,hm,hw,hF⟩:=hp
 have hlF:∀ i,i<lo∨i∈F→i<lo∨(i<h.next∧11≤tag i):=fun i hi=>hi.imp id fun h=>hF i h
 have hll:∀ i,i<lo∨i∈F→i<h.next:=fun i hi=>by have:=hp.lm;have:=hlF i hi;omega
 refine EQ (R:=fun h'=>FF h h' lo F∧(EZ x s=0→EM h' lo m k c e r n nm E F (BK at_ end_ x s))) Tryd.func31 rfl (by simp[Tryd.f31]) ?_
 have hr:Tryd.f31.results.toList=[.tmp 6]:=rfl
 generalize hKK:CO.top (fun ex s_1=>(ex=EI.normal∨ex=EI.ret)∧∃ vs,FU Tryd.prog s_1 Tryd.f31.results.toList=some vs∧HZ vs=iv (EZ x s)∧FF h s_1.h lo F∧(EZ x s=0→EM s_1.h lo m k c e r n nm E F (BK at_ end_ x s)))=K
 have fin:∀ (T':Tr) H v,T'.get 6=iv v→v=EZ x s→FF h H lo F→(v=0→EM H lo m k c e r n nm E F (BK at_ end_ x s))→K.ap Tryd.prog call N .ret ⟨T',H⟩:=fun T' H v h6 hv ha hb=>by
  subst hv
  rw[← hKK]
  simp only[eE,↓reduceIte,Nat.reduceEqDiff,reduceCtorEq,↓eP,rP,Nat.reduceAdd,Nat.reduceLT,hr,h6]
  exact⟨ha,hb⟩
 show WK _ _ _ (.seq _ (.seq _ (.seq _ (.seq _ D5)))) _ _
 have hm1:=hp.c1
 obtain⟨hlt,l0,l1,l2,l3,l4,lr⟩:=hp.row hx
 have hd79:=fun h'=>h79 x.kind h' hkind
 have hdl:=QK x.kind
 by_cases d0:BO x.kind=0
 ·have dE:EZ x s=0:=by unfold EZ;rw[if_pos d0]
  have dS:BK at_ end_ x s=s:=by unfold BK;rw[if_pos d0]
  have b0:(BO x.kind==0)=true:=by simpa using d0
  simp only[eE,seval,↓eP,rP,IK,CL,CK,hm1,ON hlt,l0,hd79,b0]
  exact fin _ _ 0 (by simp only[Tr.get_put,if_true]) dE.symm ⟨fun _ _=>rfl,Nat.le_refl _,rfl⟩ fun _=>by rw[dS];exact⟨tag,vq,vv,vt,vu,vo,es,hp,hm,hw,hF⟩
 ·have b0:(BO x.kind==0)=false:=by simpa using d0
  simp only[eE,seval,↓eP,rP,IK,CL,CK,hm1,ON hlt,l0,hd79,b0]
  have hlh:lo≤h.next:=by have:=hp.lm;omega
  refine Hs hsn hp hx (by simp only[eE,seval,↓eP,rP]) (by simp only[eE,seval,↓eP,rP]) (fun T' H hf h6 ho hn hf2=>?_) fun T' H hf hT ho hn1 hf2=>?_
  ·exact fin _ _ 31 h6 (by unfold EZ;rw[if_neg d0,if_pos hf]) ⟨fun i hi=>ho i (hll i hi),hn,hf2⟩ fun h=>by cases h
  ·have hp1:BN H lo m k c e r n nm E tag vq vv vt vu vo es s:=hp.mono hn1 hf2 (fun _ _=>rfl) fun i _ hi=>ho i hi
   have hE1:¬ (F2 s.things x.name).isSome=true:=by rw[hf];simp
   have cle:=uQ hw (BO x.kind)
   refine t_ (end_:=end_) hsn hp1 hx hm (by omega) hdl.2 (by omega) (fun h'=>h80 _ h') hf (by rw[hT 0 (by decide)];simp only[eE,seval,↓eP,rP]) (by rw[hT 2 (by decide)];simp only[eE,seval,↓eP,rP]) (by rw[hT 7 (by decide)];simp only[eE,seval,↓eP,rP]) (by rw[hT 8 (by decide)];simp only[eE,seval,↓eP,rP]) (fun T2 hc h6=>?_) fun T2 H2 hc hT2 hp2 ho2 hn2 hf3=>?_
   ·exact fin _ _ 3 h6 (by unfold EZ;rw[if_neg d0,if_neg hE1,if_pos hc]) ⟨fun i hi=>ho i (hll i hi),hn1,hf2⟩ fun h=>by cases h
   ·have hq:=hw.q;have hv:=hw.v;have ht:=hw.t;have hu:=hw.u;have ho':=hw.o
    refine tV hsn hp2 (at_:=at_) (x:={ x with n:=(BV s (BO x.kind):Int) }) (JY hx) (by omega) hdl.2 ⟨by show s.queues.length<1000;omega,by show s.vars.length<1000;omega,by show s.tags.length<1000;omega,by show s.rules.length<1000;omega,by show s.on.length<1000;omega⟩ hn
     (by rw[hT2 0 (by decide),hT 0 (by decide)];simp only[eE,seval,↓eP,rP]) (by rw[hT2 1 (by decide),hT 1 (by decide)];simp only[eE,seval,↓eP,rP]) (by rw[hT2 7 (by decide),hT 7 (by decide)];simp only[eE,seval,↓eP,rP]) (by rw[hT2 8 (by decide),hT 8 (by decide)];simp only[eE,seval,↓eP,rP]) fun T3 H3 tag' vq' vv' vt' vu' vo' h6 hp3 htg ho3 hn3 hf4=>?_
    have hS:BK at_ end_ x s=EU at_ end_ x s:=by unfold BK;rw[if_neg d0]
    refine fin _ _ 0 h6 (by unfold EZ;rw[if_neg d0,if_neg hE1,if_neg hc]) ⟨fun i hi=>by
     have h0:=hlF i hi
     rw[ho3 i (by omega),ho2 i (by omega),ho i (hll i hi)],by omega,by rw[hf4,hf3,hf2]⟩ fun _=>?_
    rw[hS]
    refine⟨tag',vq',vv',vt',vu',vo',_,hp3,Bv hm ?_ ?_,oO hw d0 hc he,fun i hi=>?_⟩
    ·exact(bN ⟨by omega,hdl.2⟩).trans (by rw[if_pos rfl])
    ·intro k k1 k4 hk
     exact(bN ⟨k1,k4⟩).trans (by rw[if_neg hk,Nat.add_zero])
    ·have h0:=hF i hi
     rw[htg i (by omega)]
     exact⟨by omega,h0.2⟩
end
theorem KW {P:Program}:A8 P Go.program=some P:=rfl
theorem GY {P:Program} {α:Type} {a:α}:A8 P (pure a:Sem α)=some a:=rfl
theorem LP {P:Program} {t:TypeId} {k0 k:IntKind} {a b:Int} (h:P.underlying t=some (.int k0)) (d:Nat):A8 P (Op.equalIn (d+1) t (.int k a) (.int k b))=some (a==b):=by
 rw[Op.equalIn,CD,MR h]
 simp[GY]
theorem WT {a b:Int}:A8 Tryd.prog (part 3 #[.int .i64 a,.int .i64 b] 0)=some (.int .i64 a)∧A8 Tryd.prog (part 3 #[.int .i64 a,.int .i64 b] 1)=some (.int .i64 b)∧A8 Tryd.prog (part 34 #[.int .i64 a,.int .i64 b] 0)=some (.int .i64 a):=⟨rfl,rfl,rfl⟩
theorem Hw:Tryd.prog.stoodInHeld 97=false:=by kernel_rfl
theorem vZ:Tryd.prog.eqGuardType Tryd.prog.depth 36=false:=by kernel_rfl
theorem sN:Tryd.prog.stoodInHeld 36=false:=by kernel_rfl
abbrev DQ (a b:Int):Value:=.agg #[.int .i64 a,.int .i64 b]
theorem bJ {a b:Int}:flat (DQ a b)=true:=rfl
theorem Ja {a b c d:Int} (n:Nat):A8 Tryd.prog (Op.equalIn (n+2) 97 (DQ a b) (DQ c d))=some (a==c&&b==d):=by
 rw[Op.equalIn,CD,MR Tryd.underlying97]
 simp only[Option.bind_some,CD,KW,Hw,Bool.false_eq_true,if_false]
 simp only[List.forIn_toArray,List.forIn_cons,List.forIn_nil,ne_eq,String.reduceEq,not_false_eq_true,if_true,CD,WT.1,Option.bind_some,LP Tryd.underlying3]
 cases h1:(a==c) <;> cases h2:(b==d) <;> simp[CD,GY,WT.2.1,LP Tryd.underlying3,h2,-beq_iff_eq,-beq_eq_false_iff_ne]
theorem n_ {a b c d:Int} (n:Nat):A8 Tryd.prog (Op.equalIn (n+2) 36 (DQ a b) (DQ c d))=some (a==c&&b==d):=by
 rw[Op.equalIn,CD,MR Tryd.underlying36]
 simp only[Option.bind_some,CD,KW,sN,Bool.false_eq_true,if_false]
 simp only[List.forIn_toArray,List.forIn_cons,List.forIn_nil,ne_eq,String.reduceEq,not_false_eq_true,if_true,CD,WT.2.2,Option.bind_some,LP Tryd.underlying3,LP Tryd.underlying34]
 cases h1:(a==c) <;> cases h2:(b==d) <;> simp[CD,GY,WT.2.1,LP Tryd.underlying3,LP Tryd.underlying34,h2,-beq_iff_eq,-beq_eq_false_iff_ne]
theorem eH {x y:Operand} {a b c d:Int}:BT Tryd.prog .neq 97 x y (DQ a b) (DQ c d)=some (.bool (!(a==c&&b==d))):=by
 have e:A8 Tryd.prog (do eqGuard .neq 97 x y (DQ a b) (DQ c d);binOp .neq 97 (DQ a b) (DQ c d))=some (.bool (!(a==c&&b==d))):=by
  rw[CD]
  have g:A8 Tryd.prog (eqGuard .neq 97 x y (DQ a b) (DQ c d))=some ():=by
   unfold eqGuard
   simp[CD,KW,GY]
  rw[g]
  show A8 Tryd.prog ((do pure (.bool (!(← Op.equal 97 (DQ a b) (DQ c d))))):Sem Value)=_
  rw[CD]
  have k:A8 Tryd.prog (Op.equal 97 (DQ a b) (DQ c d))=some (a==c&&b==d):=Ja 9998
  rw[k]
  rfl
 simp only[BT,bJ,Bool.and_self,if_true,e,KF]
theorem iH {x y:Operand} {a b c d:Int}:BT Tryd.prog .eql 36 x y (DQ a b) (DQ c d)=some (.bool (a==c&&b==d)):=by
 have e:A8 Tryd.prog (do eqGuard .eql 36 x y (DQ a b) (DQ c d);binOp .eql 36 (DQ a b) (DQ c d))=some (.bool (a==c&&b==d)):=by
  rw[CD]
  have g:A8 Tryd.prog (eqGuard .eql 36 x y (DQ a b) (DQ c d))=some ():=by
   unfold eqGuard
   simp[CD,KW,GY]
  rw[g]
  show A8 Tryd.prog ((do pure (.bool (← Op.equal 36 (DQ a b) (DQ c d)))):Sem Value)=_
  rw[CD]
  have k:A8 Tryd.prog (Op.equal 36 (DQ a b) (DQ c d))=some (a==c&&b==d):=n_ 9998
  rw[k]
  rfl
 simp only[BT,bJ,Bool.and_self,if_true,e,KF]
noncomputable def C5:Code:=rt (rt (rt (rt (Tryd.f32.body.getD .skip))))
noncomputable def iC:Array Oper:=D2 Tryd.f32 5
def Je:List (Bool × Bool × List Operand):=[AQ,AQ,AQ,AQ,AH [.tmp 26],AH [.tmp 26],AH [.tmp 26],AH [.tmp 26],AK,AK,AK,AK,AH [.tmp 26,.tmp 30,.tmp 27],AK,AK]
theorem tT:DU iC=Je:=by kernel_rfl
theorem jC {a b c:Value} {ty:TypeId} {g ro:Bool}:AY 2 0 (.row [a,b,c] ty g ro)=some (.agg #[a,b]):=rfl
section
variable {call:AM} {N:Nat} {h:AA} {lo m k c e r n:Nat} {nm:ByteArray} {E:List Int} {F:List Nat} {tag:Nat→Nat} {vq vv vt vu vo:Value} {es:List (Value × Value)} {s:AL}
theorem f_ {s:AL} {l:List AB} {k:Int}:BV { s with rows:=l } k=BV s k:=rfl
theorem Jk (hsn:CA call) {at_:Nat} {x:AB} (hp:EM h lo m k c e r n nm E F s) (hx:s.rows[at_]?=some x) (hkind:1≤x.kind∧x.kind≤54) (hn:n<30000000000000)
  (h81:∀ k h',1≤k∧k≤54→call 50 [iv k] h'=some (iv (EE k),h')) :
  ∃ h',A7 Tryd.prog call N 32 [qP m 0,iv at_] h=some (iv (DL at_ x s),h')∧(FF h h' lo F∧(DL at_ x s=0→EM h' lo m k c e r n nm E F (B0 at_ x s))):=by
 obtain⟨tag,vq,vv,vt,vu,vo,es,hp,hm,hw,hF⟩:=hp
 have hlF:∀ i,i<lo∨i∈F→i<lo∨(i<h.next∧11≤tag i):=fun i hi=>hi.imp id fun h=>hF i h
 have hll:∀ i,i<lo∨i∈F→i<h.next:=fun i hi=>by have:=hp.lm;have:=hlF i hi;omega
 refine EQ (R:=fun h'=>FF h h' lo F∧(DL at_ x s=0→EM h' lo m k c e r n nm E F (B0 at_ x s))) Tryd.func32 rfl (by simp[Tryd.f32]) ?_
 have hr:Tryd.f32.results.toList=[.tmp 4]:=rfl
 generalize hKK:CO.top (fun ex s_1=>(ex=EI.normal∨ex=EI.ret)∧∃ vs,FU Tryd.prog s_1 Tryd.f32.results.toList=some vs∧HZ vs=iv (DL at_ x s)∧FF h s_1.h lo F∧(DL at_ x s=0→EM s_1.h lo m k c e r n nm E F (B0 at_ x s)))=K
 have fin:∀ (T':Tr) H v,T'.get 4=iv v→v=DL at_ x s→FF h H lo F→(v=0→EM H lo m k c e r n nm E F (B0 at_ x s))→K.ap Tryd.prog call N .ret ⟨T',H⟩:=fun T' H v h6 hv ha hb=>by
  subst hv
  rw[← hKK]
  simp only[eE,↓reduceIte,Nat.reduceEqDiff,reduceCtorEq,↓eP,rP,Nat.reduceAdd,Nat.reduceLT,hr,h6]
  exact⟨ha,hb⟩
 show WK _ _ _ (.seq _ (.seq _ (.seq _ (.seq _ C5)))) _ _
 have hm1:=hp.c1
 obtain⟨hlt,l0,l1,l2,l3,l4,lr⟩:=hp.row hx
 have hd81:=fun h'=>h81 x.kind h' hkind
 have hdl:=p_ x.kind
 by_cases d0:EE x.kind=0
 ·have dE:DL at_ x s=0:=by unfold DL;rw[if_pos d0]
  have dS:B0 at_ x s=s:=by unfold B0;rw[if_pos d0]
  have b0:(EE x.kind==0)=true:=by simpa using d0
  simp only[eE,seval,↓eP,rP,IK,CL,CK,hm1,ON hlt,l0,hd81,b0]
  exact fin _ _ 0 (by simp only[Tr.get_put,if_true]) dE.symm ⟨fun _ _=>rfl,Nat.le_refl _,rfl⟩ fun _=>by rw[dS];exact⟨tag,vq,vv,vt,vu,vo,es,hp,hm,hw,hF⟩
 ·have b0:(EE x.kind==0)=false:=by simpa using d0
  simp only[eE,seval,↓eP,rP,IK,CL,CK,hm1,ON hlt,l0,hd81,b0]
  have hlh:lo≤h.next:=by have:=hp.lm;omega
  show WK _ _ _ (.seq (.region _ _ true) _) _ _
  rw[K_]
  have c8:=hp.c8
  have hlook:=mK (x:=x.name) hp.known
  have hmn:=hp.lm.2
  have hkn:=hp.lk.2
  have hrn:=hp.pol.lr.2
  have hflo:h.floor≤h.next:=by have:=hp.fl;omega
  have n1:(some m != some h.next)=true:=by simp;omega
  have n2:(some r != some h.next)=true:=by simp;omega
  have n3:(some k != some h.next)=true:=by simp;omega
  have hnew:(h.push (.row [iv 0,iv 0,iv 0] 99 false false)).get h.next=.row [iv 0,iv 0,iv 0] 99 false false:=BP
  have hst:=fun a b d=>rI (a:=iv a) (b:=iv b) (c:=iv d) hnew (by exact hflo) rfl
  have hold:∀ o i,i<h.next→((h.push (.row [iv 0,iv 0,iv 0] 99 false false)).put h.next o).get i=h.get i:=fun o i hi=>by rw[AW (by show h.next<h.next+1;omega) (by omega),AR hi]
  have hgn:∀ o,((h.push (.row [iv 0,iv 0,iv 0] 99 false false)).put h.next o).get h.next=o:=fun o=>B_ rfl (by show h.next<h.next+1;omega)
  have hfl0:flat (.agg #[iv 0,iv 0,iv 0])=true:=rfl
  have hcl0:=E1 [iv 0,iv 0,iv 0]
  have i1:CN (qP m 8)=some m:=rfl
  have i2:CN (.pointer (some ⟨r,at_*5+1,none⟩))=some r:=rfl
  have i3:CN (.map (some k))=some k:=rfl
  have i4:CN (qP h.next 0)=some h.next:=rfl
  refine WK.flags (ops:=iC) tT ?_
  refine CJ.begin ?_
  refine AG hsn 0 (some 24) (.move (.tmp 0)) none ?_
  simp only[rG,seval,AC,AF,AE,Tr.get_set]
  refine AG hsn 1 (some 25) (.nilCheck (.tmp 24)) none ?_
  simp only[rG,seval,AC,AF,AE]
  refine AG hsn 2 (some 26) (.fieldAddr 69 (.tmp 25) 1) none ?_
  simp only[rG,seval,AC,AF,AE,Nat.zero_add,Y5]
  refine AG hsn 3 (some 27) (.load 66 (.tmp 26)) none ?_
  simp only[rG,seval,AC,AF,AE,C0,aP,c8]
  refine AG hsn 4 (some 28) (.move (.tmp 5)) none ?_
  simp only[rG,seval,AC,AF,AE]
  refine AG hsn 5 (some 29) (.nilCheck (.tmp 28)) none ?_
  simp only[rG,seval,AC,AF,AE]
  refine AG hsn 6 (some 30) (.fieldAddr 61 (.tmp 29) 1) none ?_
  simp only[rG,seval,AC,AF,AE,LJ]
  refine AG hsn 7 (some 31) (.load 9 (.tmp 30)) none ?_
  simp only[rG,seval,AC,AF,AE,C0,GJ,l1]
  cases hf:F2 s.things x.name with
  | none=>
   rw[hf] at hlook
   refine AG hsn 8 (some 32) (.lookup 66 (.tmp 27) (.tmp 31) true) none ?_
   simp only[rG,seval,AC,AF,AE,C0,hlook,i3]
   refine AG hsn 9 (some 23) (.move (.tmp 32)) none ?_
   simp only[rG,seval,AC,AF,AE]
   refine AG hsn 10 (some 33) (.extract (.tmp 23) 0) none ?_
   simp only[rG,seval,AC,AF,AE,List.getElem?_toArray,List.getElem?_cons_zero]
   refine AG hsn 11 (some 34) (.extract (.tmp 23) 1) none ?_
   simp only[rG,seval,AC,AF,AE,List.getElem?_toArray,List.getElem?_cons_succ,List.getElem?_cons_zero]
   refine AG hsn 12 (some 7) (.alloc 99) none ?_
   simp only[rG,seval,AC,AF,AE,WC,RZ,hfl0,hcl0]
   refine AG hsn 13 (none) (.store 99 (.tmp 7) (.tmp 33)) none ?_
   simp only[rG,seval,AC,AF,AE,CR,DD,hst,i4,CR,List.all_nil]
   refine AG hsn 14 (some 8) (.assign (.tmp 34)) none ?_
   simp only[rG,seval,AC,AF,AE]
   refine CJ.done (i:=15) (by kernel_rfl) ?_
   have dE:DL at_ x s=32:=by unfold DL;rw[if_neg d0,hf]
   simp only[eE,seval,↓eP,rP]
   exact fin _ _ 32 (by simp only[Tr.get_put,if_true]) dE.symm ⟨fun i hi=>hold _ i (hll i hi),by show h.next≤h.next+1;omega,rfl⟩ fun h=>by cases h
  | some t=>
   rw[hf] at hlook
   refine AG hsn 8 (some 32) (.lookup 66 (.tmp 27) (.tmp 31) true) none ?_
   simp only[rG,seval,AC,AF,AE,C0,hlook,i3]
   refine AG hsn 9 (some 23) (.move (.tmp 32)) none ?_
   simp only[rG,seval,AC,AF,AE]
   refine AG hsn 10 (some 33) (.extract (.tmp 23) 0) none ?_
   simp only[rG,seval,AC,AF,AE,List.getElem?_toArray,List.getElem?_cons_zero]
   refine AG hsn 11 (some 34) (.extract (.tmp 23) 1) none ?_
   simp only[rG,seval,AC,AF,AE,List.getElem?_toArray,List.getElem?_cons_succ,List.getElem?_cons_zero]
   refine AG hsn 12 (some 7) (.alloc 99) none ?_
   simp only[rG,seval,AC,AF,AE,WC,RZ,hfl0,hcl0]
   refine AG hsn 13 (none) (.store 99 (.tmp 7) (.tmp 33)) none ?_
   simp only[rG,seval,AC,AF,AE,CR,DD,hst,i4,CR,List.all_nil]
   refine AG hsn 14 (some 8) (.assign (.tmp 34)) none ?_
   simp only[rG,seval,AC,AF,AE]
   refine CJ.done (i:=15) (by kernel_rfl) ?_
   have hp1:BN ((h.push (.row [iv 0,iv 0,iv 0] 99 false false)).put h.next (.row [iv t.kind,iv t.num,iv t.known] 99 false false)) lo m k c e r n nm E tag vq vv vt vu vo es s:=hp.putNew
   have hgo:=hold (.row [iv t.kind,iv t.num,iv t.known] 99 false false)
   have hgd:=hgn (.row [iv t.kind,iv t.num,iv t.known] 99 false false)
   have hnx:((h.push (.row [iv 0,iv 0,iv 0] 99 false false)).put h.next (.row [iv t.kind,iv t.num,iv t.known] 99 false false)).next=h.next+1:=rfl
   have hfl:((h.push (.row [iv 0,iv 0,iv 0] 99 false false)).put h.next (.row [iv t.kind,iv t.num,iv t.known] 99 false false)).floor=h.floor:=rfl
   generalize (h.push (.row [iv 0,iv 0,iv 0] 99 false false)).put h.next (.row [iv t.kind,iv t.num,iv t.known] 99 false false)=H1 at *
   generalize hdd:h.next=d at *
   have htm:t∈s.things:=List.mem_of_find?_eq_some hf
   obtain⟨q1,q2,q3,q4,q5⟩:=hw.th t htm
   cases dk:decide (t.known>(at_:Int)) with
   | true=>
    have dE:DL at_ x s=32:=by unfold DL;rw[if_neg d0,hf];simp only;rw[if_pos (by simpa using dk)]
    simp only[eE,seval,↓eP,rP,YK,hgd,dk]
    exact fin _ _ 32 (by simp only[Tr.get_put,if_true]) dE.symm ⟨fun i hi=>hgo i (hll i hi),by omega,hfl⟩ fun h=>by cases h
   | false=>
    have dk':¬ t.known>(at_:Int):=by simpa using dk
    cases dq:(t.kind==EE x.kind) with
    | false=>
     have dE:DL at_ x s=33:=by unfold DL;rw[if_neg d0,hf];simp only;rw[if_neg dk',if_pos (by simpa using dq)]
     simp only[eE,seval,↓eP,rP,YK,pX,j_,qO,hgd,dk,jC,bT,eH,dq]
     exact fin _ _ 33 (by simp only[Tr.get_put,if_true]) dE.symm ⟨fun i hi=>hgo i (hll i hi),by omega,hfl⟩ fun h=>by cases h
    | true=>
     have dq':¬ t.kind≠EE x.kind:=by simpa using dq
     have dE:DL at_ x s=0:=by unfold DL;rw[if_neg d0,hf];simp only;rw[if_neg dk',if_neg dq']
     have dS:B0 at_ x s={ s with rows:=GF s.rows at_ t.num }:=by unfold B0;rw[if_neg d0,hf]
     have hrl:=KA s.rows
     have hlen:=hp1.pol.len
     have hst3:=H0 (off:=at_*5+3) C4 (v:=iv t.num) rfl rfl hp1.pol.rows (by rw[hrl];omega) (by have:=hp1.fl;have:=hp1.pol.lr.1;omega)
     rw[Z6 hx] at hst3
     have hp3:=hp1.putR (l:=GF s.rows at_ t.num) PQ
     simp only[eE,seval,↓eP,rP,YK,pX,j_,qO,hgd,dk,jC,bT,eH,dq,hst3]
     refine fin _ _ 0 (by simp only[Tr.get_put,if_true]) dE.symm ⟨fun i hi=>?_,by show h.next≤H1.next;omega,hfl⟩ fun _=>?_
     ·rw[AW hp1.pol.lr.2 (OS (h:=h) (tag:=tag) hp1.pol.lr.1 (by rw[hp1.pol.tr];decide) (by rw[hdd];exact hlF i hi))]
      exact hgo i (hll i hi)
     ·rw[dS]
      exact⟨tag,vq,vv,vt,vu,vo,es,hp3,hm,⟨hw.q,hw.v,hw.t,hw.u,hw.o,hw.th⟩,fun i hi=>⟨by have h0:=hF i hi;show i<H1.next;omega,(hF i hi).2⟩⟩
end
noncomputable def E4:Code:=rt (rt (rt (Tryd.f33.body.getD .skip)))
def dP:List (Bool × Bool × List Operand):=[AQ,AQ,AQ,AQ,AQ,AH [.tmp 29],AH [.tmp 29],AK,AK]
section
variable {call:AM} {N:Nat} {h H:AA} {lo m k c e r n:Nat} {nm:ByteArray} {E:List Int} {F:List Nat} {tag:Nat→Nat} {vq vv vt vu vo:Value} {es:List (Value × Value)} {s:AL}
theorem BN.putMiss (hp:BN h lo m k c e r n nm E tag vq vv vt vu vo es s) (x:Int):BN (h.put m (.row [.string nm,qS r n AP,vq,vv,vt,vu,vo,iv x,.map (some k),.map (some c)] 69 false false)) lo m k c e r n nm E tag vq vv vt vu vo es { s with miss:=x }:=by
 have h0:∀ i,tag i≠0→(h.put m (.row [.string nm,qS r n AP,vq,vv,vt,vu,vo,iv x,.map (some k),.map (some c)] 69 false false)).get i=h.get i:=fun i hi=>AW hp.lm.2 (GI (tag:=tag) (by rw[hp.tm];exact fun e=>hi e.symm))
 have hq:=hp.pol.mono (h':=h.put m (.row [.string nm,qS r n AP,vq,vv,vt,vu,vo,iv x,.map (some k),.map (some c)] 69 false false)) (Nat.le_refl _) (fun _ _=>rfl) fun i _ _ h1 _=>h0 i (by omega)
 exact hp.pol' (Nat.le_refl _) rfl (fun _ _=>rfl) (fun i _ _ h1=>h0 i (by omega)) (B_ rfl hp.lm.2) ⟨hq.rows,hq.len,hq.tr,hq.lr,hq.q,hq.v,hq.t,hq.u,hq.o⟩ rfl
theorem BN.putOn (hp:BN h lo m k c e r n nm E tag vq vv vt vu vo es s) {i:Nat} (hi:i<s.on.length) (x:Int):∃ id ex,vo=qS id s.on.length AP∧h.get id=.row (ints s.on++ex) 3 true false∧lo≤id∧id<h.next∧tag id=6 ∧
  BN (h.put id (.row ((ints s.on++ex).set i (iv x)) 3 true false)) lo m k c e r n nm E tag vq vv vt vu vo es { s with on:=s.on.set i x }:=by
 rcases hp.pol.o with⟨h0,_,_⟩ | ⟨id,ex,h1,h2,h3,h4,h5⟩
 ·omega
 ·refine⟨id,ex,h1,h2,h3,h4,h5,?_⟩
  have hset:(ints s.on++ex).set i (iv x)=ints (s.on.set i x)++ex:=by
   rw[List.set_append_left _ _ (by rw[GK];exact hi),jA]
  rw[hset]
  have h0:∀ j,tag j≠6→(h.put id (.row (ints (s.on.set i x)++ex) 3 true false)).get j=h.get j:=fun j hj=>AW h4 (GI (tag:=tag) (by rw[h5];exact fun e=>hj e.symm))
  have hq:=hp.pol
  refine hp.pol' (Nat.le_refl _) rfl (fun _ _=>rfl) (fun j _ _ h1=>h0 j (by omega)) (by rw[h0 m (by rw[hp.tm];decide)];exact hp.cell) ?_ rfl
  refine⟨by rw[h0 r (by rw[hq.tr];decide)];exact hq.rows,hq.len,hq.tr,hq.lr,hq.q.mono (Nat.le_refl _) (fun _ _=>rfl) fun j _ _ h3=>h0 j (by omega),hq.v.mono (Nat.le_refl _) (fun _ _=>rfl) fun j _ _ h3=>h0 j (by omega),hq.t.mono (Nat.le_refl _) (fun _ _=>rfl) fun j _ _ h3=>h0 j (by omega),hq.u.mono (Nat.le_refl _) (fun _ _=>rfl) fun j _ _ h3=>h0 j (by omega),?_⟩
  refine .inr ⟨id,ex,by rw[h1,List.length_set],B_ rfl h4,h3,h4,h5⟩
theorem sE {l:List Int} {ex:List Value} {i:Nat} {x:Int} {ty:TypeId} {g ro:Bool} (hx:l[i]?=some x):AJ i (.row (ints l++ex) ty g ro)=some (iv x):=by
 have hl:=(List.getElem?_eq_some_iff.1 hx).1
 simp only[AJ]
 rw[List.getElem?_append_left (by rw[GK];exact hl),Y6,hx]
 rfl
theorem Cl (hsn:CA call) {at_:Nat} {x:AB} (hp:EM h lo m k c e r n nm E F s) (hx:s.rows[at_]?=some x) (hkind:1≤x.kind∧x.kind≤54) (hn:n<30000000000000) (hxn:HD x.kind=true→x.kind≠10→0≤x.n∧x.n<s.on.length)
  (h82:∀ k h',1≤k∧k≤54→call 51 [iv k] h'=some (.bool (HD k),h')) :
  ∃ h',A7 Tryd.prog call N 33 [qP m 0,iv at_] h=some (iv (E8 x s),h')∧(FF h h' lo F∧(E8 x s=0→EM h' lo m k c e r n nm E F (D9 at_ x s))):=by
 obtain⟨tag,vq,vv,vt,vu,vo,es,hp,hm,hw,hF⟩:=hp
 have hlF:∀ i,i<lo∨i∈F→i<lo∨(i<h.next∧11≤tag i):=fun i hi=>hi.imp id fun h=>hF i h
 have hll:∀ i,i<lo∨i∈F→i<h.next:=fun i hi=>by have:=hp.lm;have:=hlF i hi;omega
 refine EQ (R:=fun h'=>FF h h' lo F∧(E8 x s=0→EM h' lo m k c e r n nm E F (D9 at_ x s))) Tryd.func33 rfl (by simp[Tryd.f33]) ?_
 have hr:Tryd.f33.results.toList=[.tmp 4]:=rfl
 generalize hKK:CO.top (fun ex s_1=>(ex=EI.normal∨ex=EI.ret)∧∃ vs,FU Tryd.prog s_1 Tryd.f33.results.toList=some vs∧HZ vs=iv (E8 x s)∧FF h s_1.h lo F∧(E8 x s=0→EM s_1.h lo m k c e r n nm E F (D9 at_ x s)))=K
 have fin:∀ (T':Tr) H v,T'.get 4=iv v→v=E8 x s→FF h H lo F→(v=0→EM H lo m k c e r n nm E F (D9 at_ x s))→K.ap Tryd.prog call N .ret ⟨T',H⟩:=fun T' H v h6 hv ha hb=>by
  subst hv
  rw[← hKK]
  simp only[eE,↓reduceIte,Nat.reduceEqDiff,reduceCtorEq,↓eP,rP,Nat.reduceAdd,Nat.reduceLT,hr,h6]
  exact⟨ha,hb⟩
 show WK _ _ _ (.seq _ (.seq _ (.seq _ E4))) _ _
 have hm1:=hp.c1
 obtain⟨hlt,l0,l1,l2,l3,l4,lr⟩:=hp.row hx
 have hev:=fun h'=>h82 x.kind h' hkind
 have hflo:h.floor≤h.next:=by have:=hp.fl;have:=hp.lm;omega
 have hflT:(h.floor≤h.next)=True:=by simpa using hflo
 have hlh:lo≤h.next:=by have:=hp.lm;omega
 have hrn:=hp.pol.lr.2
 have hmn:=hp.lm.2
 have hrF:(r=h.next)=False:=by simp;omega
 have hmF:(m=h.next)=False:=by simp;omega
 have hltT:(h.next<h.next+1)=True:=by simp
 have hp1:=fun o o'=>hp.putNew (o:=o) (o':=o')
 have hone:([.int .i64 x.kind,.string x.name,.int .i64 x.ends,.int .i64 x.n,.int .i64 x.kids]:List Value).all one=true:=rfl
 have hz:flat (.agg #[.int .i64 0,.string ByteArray.empty,.int .i64 0,.int .i64 0,.int .i64 0])=true:=rfl
 have hzc:=E1 E6
 have hst:BC Tryd.prog (h.push (.row E6 61 false false)) 61 (qP h.next 0) (.agg #[.int .i64 x.kind,.string x.name,.int .i64 x.ends,.int .i64 x.n,.int .i64 x.kids])=some ((h.push (.row E6 61 false false)).put h.next (.row [.int .i64 x.kind,.string x.name,.int .i64 x.ends,.int .i64 x.n,.int .i64 x.kids] 61 false false)):=by
  rw[FD,BP,R1,if_pos ⟨hflo,hone⟩]
 have hp1:BN ((h.push (.row E6 61 false false)).put h.next (.row [.int .i64 x.kind,.string x.name,.int .i64 x.ends,.int .i64 x.n,.int .i64 x.kids] 61 false false)) lo m k c e r n nm E tag vq vv vt vu vo es s:=hp.putNew
 have hgd:((h.push (.row E6 61 false false)).put h.next (.row [.int .i64 x.kind,.string x.name,.int .i64 x.ends,.int .i64 x.n,.int .i64 x.kids] 61 false false)).get h.next=.row [.int .i64 x.kind,.string x.name,.int .i64 x.ends,.int .i64 x.n,.int .i64 x.kids] 61 false false:=B_ rfl (by show h.next<h.next+1;omega)
 have hgo:∀ i,i<h.next→((h.push (.row E6 61 false false)).put h.next (.row [.int .i64 x.kind,.string x.name,.int .i64 x.ends,.int .i64 x.n,.int .i64 x.kids] 61 false false)).get i=h.get i:=fun i hi=>by rw[AW (by show h.next<h.next+1;omega) (by omega),AR hi]
 have hnx:((h.push (.row E6 61 false false)).put h.next (.row [.int .i64 x.kind,.string x.name,.int .i64 x.ends,.int .i64 x.n,.int .i64 x.kids] 61 false false)).next=h.next+1:=rfl
 have hfl:((h.push (.row E6 61 false false)).put h.next (.row [.int .i64 x.kind,.string x.name,.int .i64 x.ends,.int .i64 x.n,.int .i64 x.kids] 61 false false)).floor=h.floor:=rfl
 generalize hH1:(h.push (.row E6 61 false false)).put h.next (.row [.int .i64 x.kind,.string x.name,.int .i64 x.ends,.int .i64 x.n,.int .i64 x.kids] 61 false false)=H1 at *
 have hw1:IntKind.i64.wrap ((at_:Int)+1)=(at_:Int)+1:=C8 (by omega) (by omega)
 have after1:FF h H1 lo F:=⟨fun i hi=>hgo i (hll i hi),by omega,hfl⟩
 have hF1:∀ i∈F,i<H1.next∧11≤tag i:=fun i hi=>⟨by have h0:=hF i hi;omega,(hF i hi).2⟩
 have e46:=@HW
 cases d0:HD x.kind with
 | false=>
  have dE:E8 x s=0:=by unfold E8;rw[if_pos d0]
  have dS:D9 at_ x s=s:=by unfold D9;rw[if_pos d0]
  simp only[eE,seval,↓eP,Nat.reduceAdd,Nat.zero_add,IK,CL,CK,HW,AT,hm1,ON hlt,lr,Fsx,hz,hzc,hst,hgd,CX,IT,hev,d0]
  exact fin _ _ 0 (by simp only[Tr.get_put,if_true]) dE.symm after1 fun _=>by rw[dS];exact⟨tag,vq,vv,vt,vu,vo,es,hp1,hm,hw,hF1⟩
 | true=>
  simp only[eE,seval,↓eP,Nat.reduceAdd,Nat.zero_add,IK,CL,CK,HW,AT,hm1,ON hlt,lr,Fsx,hz,hzc,hst,hgd,CX,IT,hev,d0]
  show WK _ _ _ (.seq _ (.seq (.seq _ (.cond _ (.region _ _ _) _)) (.seq (.seq _ (.cond _ _ _)) (.seq _ (.seq _ _))))) _ _
  cases d10:(x.kind==10) with
  | true=>
   have k10:x.kind=10:=by simpa using d10
   have d10':(x.kind != 10)=false:=by rw[bne,d10];rfl
   have c7:=hp1.c7
   have hst7:BC Tryd.prog H1 3 (qP m 7) (iv ((at_:Int)+1))=_:=H0 C4 rfl rfl hp1.cell (by simp only[List.length_cons,List.length_nil];omega) (by have:=hp1.fl;have:=hp1.lm;omega)
   simp only[List.set_cons_succ,List.set_cons_zero] at hst7
   cases dm:decide (s.miss≥0) with
   | true=>
    have dE:E8 x s=31:=by unfold E8;rw[if_neg (by rw[d0];simp),if_pos k10,if_pos (by simpa using dm)]
    simp only[eE,seval,↓eP,Nat.zero_add,IK,KH,AT,hgd,CX,IT,d10',c7,dm]
    exact fin _ _ 31 (by simp only[Tr.get_put,if_true]) dE.symm after1 fun h=>by cases h
   | false=>
    have dE:E8 x s=0:=by unfold E8;rw[if_neg (by rw[d0];simp),if_pos k10,if_neg (by simpa using dm)]
    have dS:D9 at_ x s={ s with miss:=(at_:Int)+1 }:=by unfold D9;rw[if_neg (by rw[d0];simp),if_pos k10]
    simp only[eE,seval,↓eP,Nat.zero_add,IK,KH,AT,hgd,CX,IT,d10',c7,dm,hw1,hst7]
    refine fin _ _ 0 (by simp only[Tr.get_put,if_true]) dE.symm ⟨fun i hi=>?_,by show h.next≤H1.next;omega,hfl⟩ fun _=>?_
    ·rw[AW hp1.lm.2 (OS (h:=h) hp1.lm.1 (by rw[hp1.tm];decide) (hlF i hi))]
     exact hgo i (hll i hi)
    ·rw[dS]
     exact⟨tag,vq,vv,vt,vu,vo,es,hp1.putMiss _,hm,⟨hw.q,hw.v,hw.t,hw.u,hw.o,hw.th⟩,hF1⟩
  | false=>
   have k10:¬ x.kind=10:=by simpa using d10
   have d10':(x.kind != 10)=true:=by rw[bne,d10];rfl
   obtain⟨hn0,hn1⟩:=hxn d0 k10
   obtain⟨i,hi⟩:∃ i:Nat,x.n=(i:Int):=⟨x.n.toNat,by omega⟩
   have hil:i<s.on.length:=by omega
   obtain⟨id,ex,ev,hgi,hli,hni,hti,hp2⟩:=hp1.putOn hil ((at_:Int)+1)
   obtain⟨v,hv⟩:∃ v,s.on[i]?=some v:=⟨_,List.getElem?_eq_getElem hil⟩
   have c6:=hp1.c6
   rw[ev] at c6
   have lv:=sE (ex:=ex) (ty:=3) (g:=true) (ro:=false) hv
   have hst6:=H0 (h:=H1) (off:=i) C4 (v:=iv ((at_:Int)+1)) rfl rfl hgi (by rw[List.length_append,GK];omega) (by have:=hp1.fl;omega)
   have hton:x.n.toNat=i:=by omega
   simp only[eE,seval,↓eP,Nat.zero_add,IK,KH,AT,hgd,CX,IT,d10']
   show WK _ _ _ (.region _ _ true) _ _
   refine WK.flags (fs:=dP) (by kernel_rfl) ?_
   unfold dP
   iterate 9
    refine EC hsn ?_
    simp only[rG,seval,AC,AF,AE,C0,DW,CR,DD,EG,hi,IK,KY,DB,c6,GL,AT,hgd,QI,FP hil]
   refine EF ?_
   cases dm:decide (v≥0) with
   | true=>
    have dE:E8 x s=31:=by unfold E8;rw[if_neg (by rw[d0];simp),if_neg k10,hton,hv];simp only;rw[if_pos (by simpa using dm)]
    simp only[eE,seval,↓eP,AT,hgi,lv,dm]
    exact fin _ _ 31 (by simp only[Tr.get_put,if_true]) dE.symm after1 fun h=>by cases h
   | false=>
    have dE:E8 x s=0:=by unfold E8;rw[if_neg (by rw[d0];simp),if_neg k10,hton,hv];simp only;rw[if_neg (by simpa using dm)]
    have dS:D9 at_ x s={ s with on:=s.on.set i ((at_:Int)+1) }:=by unfold D9;rw[if_neg (by rw[d0];simp),if_neg k10,hton]
    simp only[eE,seval,↓eP,AT,hgi,lv,dm,hw1,hst6]
    refine fin _ _ 0 (by simp only[Tr.get_put,if_true]) dE.symm ⟨fun j hj=>?_,by show h.next≤H1.next;omega,hfl⟩ fun _=>?_
    ·rw[AW hni (OS (h:=h) hli (by rw[hti];decide) (hlF j hj))]
     exact hgo j (hll j hj)
    ·rw[dS]
     exact⟨tag,vq,vv,vt,vu,vo,es,hp2,hm,⟨hw.q,hw.v,hw.t,hw.u,by simp only[List.length_set];exact hw.o,hw.th⟩,hF1⟩
end
def HC (a b:Int):Int:=if a>4611686018427387904-b then 4611686018427387904 else a+b
theorem TC {a b:Int} (ha:0≤a) (hb:0≤b) (hb2:b≤4611686018427387904):0≤HC a b∧HC a b≤4611686018427387904:=by unfold HC;split <;> omega
def MQ (sums:List Int) (k:Int):Int:=(sums[k.toNat]?).getD 0
def IC (sums:List Int):List AB→Int→Int
 | [],n=>n
 | x :: l,n=>IC sums l (if x.kind=22 then HC (HC n 1) (MQ sums x.n) else HC n 1)
def JN (sums:List Int):Prop:=∀ x∈sums,0≤x∧x≤4611686018427387904
theorem xY {sums:List Int} (hs:JN sums) (k:Int):0≤MQ sums k∧MQ sums k≤4611686018427387904:=by
 unfold MQ
 cases h:sums[k.toNat]? with
 | none=>exact⟨by simp,by simp⟩
 | some x=>exact hs x (List.mem_of_getElem? h)
theorem aR {sums:List Int} (hs:JN sums):∀ (l:List AB) (n:Int),0≤n→n≤4611686018427387904→0≤IC sums l n∧IC sums l n≤4611686018427387904
 | [],n,h0,h1=>⟨h0,h1⟩
 | x :: l,n,h0,h1=>by
  have h2:=TC (a:=n) (b:=1) h0 (by omega) (by omega)
  have h3:=xY hs x.n
  have h4:=TC h2.1 h3.1 h3.2
  unfold IC
  split
  ·exact aR hs l _ h4.1 h4.2
  ·exact aR hs l _ h2.1 h2.2
section
variable {call:AM} {N:Nat} {h:AA}
theorem Gs {a b:Int} (hb:0≤b∧b≤4611686018427387904) (ha:0≤a∧a≤4611686018427387904):A7 Tryd.prog call N 53 [iv a,iv b] h=some (iv (HC a b),h):=by
 refine DG Tryd.func53 rfl (by simp[Tryd.f53]) ?_
 have hr:Tryd.f53.results.toList=[.tmp 4]:=rfl
 have w1:IntKind.i64.wrap (4611686018427387904-b)=4611686018427387904-b:=C8 (by omega) (by omega)
 unfold HC
 cases d:decide (a>4611686018427387904-b) with
 | true=>
  rw[if_pos (by simpa using d)]
  simp only[eE,seval,↓eP,rP,hr,w1,d]
 | false=>
  have d':¬ a>4611686018427387904-b:=by simpa using d
  have w2:IntKind.i64.wrap (a+b)=a+b:=C8 (by omega) (by omega)
  rw[if_neg d']
  simp only[eE,seval,↓eP,rP,hr,w1,d,w2]
theorem jS {a b:Int} (h:AA) (hb:0≤b∧b≤4611686018427387904) (ha:0≤a∧a≤4611686018427387904):L1 53 [iv a,iv b] h=some (iv (HC a b),h):=KG (IJ rfl rfl) rfl rfl rfl ⟨_,Gs hb ha⟩
def bK:List (Bool × Bool × List Operand):=[AQ,AQ,AH [.tmp 9],AH [.tmp 9],AH [.tmp 9,.tmp 2],AH [.tmp 9],AH [.tmp 9],AK,AK,AH [.tmp 9,.tmp 2,.tmp 14,.tmp 10]]
structure I9 (h:AA) (pb eb sb:Nat) (rows:List AB) (E sums:List Int):Prop where
 p:∃ v0 vr v2 v3 v4 v5 v6 v7 g,h.get pb=.row [v0,vr,v2,v3,v4,v5,v6,v7] 33 g false∧(∀ (lo hi:Nat) h',(∀ i,i<h.next→h'.get i=h.get i)→h.next≤h'.next→lo≤hi→hi≤rows.length→∃ v',G0 Tryd.prog h' 26 vr (some (iv lo)) (some (iv hi)) none=some v'∧A9 h' v' ((rows.drop lo).take (hi-lo)))
 e:∃ e n c g g',h.get eb=.row [qS e n c] 27 g false∧h.get e=.row (ints E) 3 g' false∧n=E.length∧e<h.next
 s:∃ q n c g g',h.get sb=.row [qS q n c] 27 g false∧h.get q=.row (ints sums) 3 g' false∧n=sums.length∧q<h.next
 lp:pb<h.next
 le:eb<h.next
 ls:sb<h.next
theorem I9.mono {h h':AA} {pb eb sb:Nat} {rows:List AB} {E sums:List Int} (hc:I9 h pb eb sb rows E sums) (hn:h.next≤h'.next) (hg:∀ i,i<h.next→h'.get i=h.get i):I9 h' pb eb sb rows E sums where
 p:=by
  obtain⟨v0,vr,v2,v3,v4,v5,v6,v7,g,h1,h2⟩:=hc.p
  exact⟨v0,vr,v2,v3,v4,v5,v6,v7,g,by rw[hg pb hc.lp];exact h1,fun lo hi h2' a b=>h2 lo hi h2' (fun i hi'=>by rw[a i (by omega),hg i hi']) (by omega)⟩
 e:=by
  obtain⟨e,n,c,g,g',h1,h2,h3,h4⟩:=hc.e
  exact⟨e,n,c,g,g',by rw[hg eb hc.le];exact h1,by rw[hg e h4];exact h2,h3,by omega⟩
 s:=by
  obtain⟨e,n,c,g,g',h1,h2,h3,h4⟩:=hc.s
  exact⟨e,n,c,g,g',by rw[hg sb hc.ls];exact h1,by rw[hg e h4];exact h2,h3,by omega⟩
 lp:=by have:=hc.lp;omega
 le:=by have:=hc.le;omega
 ls:=by have:=hc.ls;omega
theorem s_ (hsn:CA call) {pb eb sb row q:Nat} {rows:List AB} {E sums:List Int} (hc:I9 h pb eb sb rows E sums) (hs:JN sums) (hfl:h.floor≤h.next) (hE:E[row]?=some (q:Int)) (hrq:row≤q) (hq:q≤rows.length) (hlen:rows.length<30000000000000) (hN:rows.length+3<N)
  (hcalls:∀ x∈(rows.drop row).take (q-row),x.kind=22→0≤x.n∧x.n<sums.length) (h83:∀ a b h',0≤b∧b≤4611686018427387904→0≤a∧a≤4611686018427387904→call 53 [iv a,iv b] h'=some (iv (HC a b),h')) :
  ∃ h',A7 Tryd.prog call N 66 [iv row,qP pb 0,qP eb 0,qP sb 0] h=some (iv (IC sums ((rows.drop row).take (q-row)) 0),h')∧∀ i,i<h.next→h'.get i=h.get i:=by
 refine EQ (R:=fun h'=>∀ i,i<h.next→h'.get i=h.get i) Tryd.func66 rfl (by simp[Tryd.f66]) ?_
 have hr:Tryd.f66.results.toList=[.tmp 5]:=rfl
 obtain⟨v0,vr,v2,v3,v4,v5,v6,v7,g,hg1,hsl⟩:=hc.p
 obtain⟨e,ne,ce,ge,ge',he1,he2,he3,he4⟩:=hc.e
 obtain⟨sq,ns,cs,gs,gs',hs1,hs2,hs3,hs4⟩:=hc.s
 obtain⟨v',hv1,hv2⟩:=hsl row q h (fun _ _=>rfl) (Nat.le_refl _) hrq hq
 have hrE:row<E.length:=(List.getElem?_eq_some_iff.1 hE).1
 have hll:=fun h'=>hv2.len (h':=h')
 have hseg:((rows.drop row).take (q-row)).length=q-row:=by rw[List.length_take,List.length_drop];omega
 generalize hS:(rows.drop row).take (q-row)=S at *
 have lE:=MZ (ty:=3) (g:=ge') (ro:=false) hE
 obtain⟨va,vc,hve⟩:∃ a c,v'=.slice a S.length c:=by obtain⟨a,c,h1,_⟩:=hv2;exact⟨a,c,h1⟩
 subst hve
 simp only[eE,seval,↓eP,rP]
 show WK _ _ _ (.region _ _ true) _ _
 refine WK.flags (fs:=bK) (by kernel_rfl) ?_
 unfold bK
 iterate 10
  refine EC hsn ?_
  simp only[rG,seval,AC,AF,AE,C0,DW,CR,DD,EG,CL,Option.map_some,JC,false_implies,CK,hg1,QQ,DB,he1,IT,FP (show row<ne by omega),AT,he2,lE,Option.map_none,hv1,hll]
 refine EF ?_
 simp only[eE,seval,↓eP,rP]
 refine WK.loop (fun i s=>s.T.get 3=qP sb 0∧s.T.get 16=.slice va S.length vc∧s.T.get 17=iv (S.length:Int)∧s.T.get 18=iv i∧i≤S.length∧s.h.floor=h.floor∧h.next≤s.h.next∧(∀ i,i<h.next→s.h.get i=h.get i) ∧
  ∃ n:Int,s.T.get 6=iv n∧0≤n∧n≤4611686018427387904∧IC sums (S.drop i) n=IC sums S 0) S.length (by omega) ?_ ?_
 ·simp only[eE,↓reduceIte,Nat.reduceEqDiff,reduceCtorEq,↓eP,rP,Nat.reduceAdd,Nat.reduceLT]
  exact⟨by omega,by omega,fun _ _=>trivial,by omega,by omega,rfl⟩
 ·rintro i ⟨T1,H1⟩ hi ⟨t3,t16,t17,t18,hil,hf1,hn1,ho1,n,t6,hn0,hnB,hcn⟩
  simp only at t3 t16 t17 t18 hf1 hn1 ho1 t6
  by_cases hlt:i<S.length
  ·have c1:decide ((i:Int)<(S.length:Int))=true:=by simp;omega
   obtain⟨x,hx⟩:∃ x,S[i]?=some x:=⟨_,List.getElem?_eq_getElem hlt⟩
   have hv3:A9 H1 (.slice va S.length vc) S:=hv2.mono hn1 ho1
   obtain⟨id,p,e0,hid,l0,l1,l2,l3,l4,lr⟩:=hv3.row hx
   have hflo:H1.floor≤H1.next:=by omega
   have hz:flat (.agg #[.int .i64 0,.string ByteArray.empty,.int .i64 0,.int .i64 0,.int .i64 0])=true:=rfl
   have hzc:=E1 E6
   have hone:([.int .i64 x.kind,.string x.name,.int .i64 x.ends,.int .i64 x.n,.int .i64 x.kids]:List Value).all one=true:=rfl
   have hst:BC Tryd.prog (H1.push (.row E6 61 false false)) 61 (qP H1.next 0) (.agg #[.int .i64 x.kind,.string x.name,.int .i64 x.ends,.int .i64 x.n,.int .i64 x.kids])=some ((H1.push (.row E6 61 false false)).put H1.next (.row [.int .i64 x.kind,.string x.name,.int .i64 x.ends,.int .i64 x.n,.int .i64 x.kids] 61 false false)):=by
    rw[FD,BP,R1,if_pos ⟨hflo,hone⟩]
   have hgd:((H1.push (.row E6 61 false false)).put H1.next (.row [.int .i64 x.kind,.string x.name,.int .i64 x.ends,.int .i64 x.n,.int .i64 x.kids] 61 false false)).get H1.next=.row [.int .i64 x.kind,.string x.name,.int .i64 x.ends,.int .i64 x.n,.int .i64 x.kids] 61 false false:=B_ rfl (by show H1.next<H1.next+1;omega)
   have hgo:∀ i,i<h.next→((H1.push (.row E6 61 false false)).put H1.next (.row [.int .i64 x.kind,.string x.name,.int .i64 x.ends,.int .i64 x.n,.int .i64 x.kids] 61 false false)).get i=h.get i:=fun i hi=>by rw[AW (by show H1.next<H1.next+1;omega) (by omega),AR (by omega)];exact ho1 i hi
   have hnx:((H1.push (.row E6 61 false false)).put H1.next (.row [.int .i64 x.kind,.string x.name,.int .i64 x.ends,.int .i64 x.n,.int .i64 x.kids] 61 false false)).next=H1.next+1:=rfl
   have hfl2:((H1.push (.row E6 61 false false)).put H1.next (.row [.int .i64 x.kind,.string x.name,.int .i64 x.ends,.int .i64 x.n,.int .i64 x.kids] 61 false false)).floor=H1.floor:=rfl
   generalize (H1.push (.row E6 61 false false)).put H1.next (.row [.int .i64 x.kind,.string x.name,.int .i64 x.ends,.int .i64 x.n,.int .i64 x.kids] 61 false false)=H2 at *
   have p1:=TC (a:=n) (b:=1) hn0 (by omega) (by omega)
   have h831:=fun hh=>h83 n 1 hh (by omega) ⟨hn0,hnB⟩
   have w1:=E_ i (by omega)
   have hdr:S.drop i=x :: S.drop (i+1):=by
    obtain⟨hl,rfl⟩:=List.getElem?_eq_some_iff.1 hx
    exact List.drop_eq_getElem_cons hl
   rw[hdr] at hcn
   change IC sums (S.drop (i+1)) (if x.kind=22 then HC (HC n 1) (MQ sums x.n) else HC n 1)=_ at hcn
   cases d22:(x.kind==22) with
   | false=>
    rw[if_neg (by simpa using d22)] at hcn
    simp only[eE,seval,↓eP,t3,t16,t17,t18,t6,c1,e0,HW,lr,Fsx,hz,hzc,hst,h831,CX,AT,hgd,IT,d22,w1]
    exact⟨by omega,by omega,by rw[hfl2];exact hf1,by omega,hgo,p1.1,p1.2,hcn⟩
   | true=>
    have k22:x.kind=22:=by simpa using d22
    rw[if_pos k22] at hcn
    obtain⟨c0,c2⟩:=hcalls x (List.mem_of_getElem? hx) k22
    obtain⟨j,hj⟩:∃ j:Nat,x.n=(j:Int):=⟨x.n.toNat,by omega⟩
    have hjl:j<sums.length:=by omega
    obtain⟨y,hy⟩:∃ y,sums[j]?=some y:=⟨_,List.getElem?_eq_getElem hjl⟩
    have hyy:=hs y (List.mem_of_getElem? hy)
    have hsa:MQ sums x.n=y:=by unfold MQ;rw[show x.n.toNat=j by omega,hy];rfl
    rw[hsa] at hcn
    have hgs:H2.get sb=.row [qS sq ns cs] 27 gs false:=by rw[hgo sb hc.ls];exact hs1
    have hgq:H2.get sq=.row (ints sums) 3 gs' false:=by rw[hgo sq hs4];exact hs2
    have lS:=MZ (ty:=3) (g:=gs') (ro:=false) hy
    have h832:=fun hh=>h83 (HC n 1) y hh hyy p1
    have ix:CQ Tryd.prog 27 (qS sq ns cs) (iv x.n)=some (qP sq j):=by rw[hj];exact FP (show j<ns by omega)
    have p2:=TC p1.1 hyy.1 hyy.2
    simp only[eE,seval,↓eP,Nat.zero_add,t3,t16,t17,t18,t6,c1,e0,HW,lr,Fsx,hz,hzc,hst,h831,CX,GL,AT,hgd,IT,QI,d22,w1,DB,hgs,ix,hgq,lS,h832]
    exact⟨by omega,by omega,by rw[hfl2];exact hf1,by omega,hgo,p2.1,p2.2,hcn⟩
  ·have c1:decide ((i:Int)<(S.length:Int))=false:=by simp;omega
   have hn:IC sums S 0=n:=by
    rw[← hcn,List.drop_of_length_le (by omega)]
    rfl
   rw[hn]
   simp only[eE,seval,↓eP,hr,t17,t18,t6,c1]
   exact ho1
end
def GG (rows:List AB) (E sums:List Int) (row:Nat):Int:=IC sums ((rows.drop row).take (((E[row]?).getD 0).toNat-row)) 0
def OV (rows:List AB) (E:List Int):List Int→Nat→List Int→List Int
 | [],_,sums=>sums
 | ru :: rest,i,sums=>OV rows E rest (i+1) (sums.set i (GG rows E sums ru.toNat))
def KJ (rows:List AB) (E rules:List Int):List Int:=OV rows E rules 0 (List.replicate rules.length 0)
structure OZ (rows:List AB) (E rules:List Int):Prop where
 len:rows.length<2932031007403
 e:E.length=rows.length
 ends:∀ i,i<rows.length→∃ q:Nat,E[i]?=some (q:Int)∧i<q∧q≤rows.length
 rl:∀ ru∈rules,0≤ru∧ru<rows.length
 nrules:rules.length<1000000
 calls:∀ x∈rows,x.kind=22→0≤x.n∧x.n<rules.length
theorem rE (n:Nat):JN (List.replicate n 0):=fun x hx=>by
 rw[List.mem_replicate] at hx
 rw[hx.2]
 omega
theorem pI {sums:List Int} (hs:JN sums) (i:Nat) {x:Int} (hx:0≤x∧x≤4611686018427387904):JN (sums.set i x):=fun y hy=>by
 rcases List.mem_or_eq_of_mem_set hy with h | h
 ·exact hs y h
 ·rw[h];exact hx
theorem XD {rows:List AB} {E sums:List Int} (hs:JN sums) (row:Nat):0≤GG rows E sums row∧GG rows E sums row≤4611686018427387904:=aR hs _ 0 (by omega) (by omega)
theorem oI {rows:List AB} {E:List Int}:∀ (l:List Int) (i:Nat) (sums:List Int),JN sums→JN (OV rows E l i sums)∧(OV rows E l i sums).length=sums.length
 | [],i,sums,hs=>⟨hs,rfl⟩
 | ru :: rest,i,sums,hs=>by
  have:=oI (rows:=rows) (E:=E) rest (i+1) (sums.set i (GG rows E sums ru.toNat)) (pI hs _ (XD hs _))
  rw[List.length_set] at this
  exact this
theorem X_ {rows:List AB} {E rules:List Int}:JN (KJ rows E rules)∧(KJ rows E rules).length=rules.length:=by
 have:=oI (rows:=rows) (E:=E) rules 0 _ (rE rules.length)
 rw[List.length_replicate] at this
 exact this
def YF:List (Bool × Bool × List Operand):=[(true,false,[]),F3 [.tmp 5],AH [.tmp 5],AH [.tmp 5],AH [.tmp 5],AK,AK]
theorem I9.flr {h:AA} {pb eb sb:Nat} {rows:List AB} {E sums:List Int} (hc:I9 h pb eb sb rows E sums) (f:Nat):I9 (h.fl f) pb eb sb rows E sums:=hc.mono (Nat.le_refl _) fun _ _=>rfl
section
variable {call:AM} {N:Nat} {h:AA}
theorem xO (hsn:CA call) {rows:List AB} {E rules:List Int} (hL:OZ rows E rules) {v0 vr v2 v3 v4 vu v6 v7:Value} {e ce:Nat} {ge:Bool} (hone:[v0,vr,v2,v3,v4,vu,v6,v7].all one=true) (hfl:h.floor≤h.next) (hN:rows.length+3<N) (hN2:rules.length+3<N)
  (hsl:∀ (lo hi:Nat) h',(∀ i,i<h.next→h'.get i=h.get i)→h.next≤h'.next→lo≤hi→hi≤rows.length→∃ v',G0 Tryd.prog h' 26 vr (some (iv lo)) (some (iv hi)) none=some v'∧A9 h' v' ((rows.drop lo).take (hi-lo)))
  (hul:∀ h',C7 Tryd.prog h' 27 vu=some (iv (rules.length:Int))) (hus:∃ a c,vu=.slice a rules.length c)
  (hu:∀ h':AA,(∀ i,i<h.next→h'.get i=h.get i)→∀ (i:Nat) ru,rules[i]?=some ru→∃ id off,CQ Tryd.prog 27 vu (iv i)=some (qP id off)∧AJ off (h'.get id)=some (iv ru))
  (he:h.get e=.row (ints E) 3 ge false) (hel:e<h.next)
  (h88:∀ pb eb sb (row:Nat) sums h',I9 h' pb eb sb rows E sums→sums.length=rules.length→JN sums→h'.floor≤h'.next→row<rows.length→call 66 [iv row,qP pb 0,qP eb 0,qP sb 0] h'=some (iv (GG rows E sums row),h')) :
  ∃ h',A7 Tryd.prog call N 52 [.agg #[v0,vr,v2,v3,v4,vu,v6,v7],qS e E.length ce] h=some (.func (.func 66) #[] #[qP h.next 0,qP (h.next+1) 0,qP (h.next+3) 0],h') ∧
   (I9 h' h.next (h.next+1) (h.next+3) rows E (KJ rows E rules)∧h.next≤h'.next∧h'.floor=h.floor∧∀ i,i<h.next→h'.get i=h.get i):=by
 refine EQ (R:=fun h'=>I9 h' h.next (h.next+1) (h.next+3) rows E (KJ rows E rules)∧h.next≤h'.next∧h'.floor=h.floor∧∀ i,i<h.next→h'.get i=h.get i) Tryd.func52 rfl (by simp[Tryd.f52]) ?_
 have hr:Tryd.f52.results.toList=[.tmp 4]:=rfl
 have hlen:=hL.len
 have hnr:=hL.nrules
 obtain⟨ua,uc,rfl⟩:=hus
 have hcs:∀ a n c,(Value.slice a n c).cells.toList=[.slice a n c]:=fun _ _ _=>rfl
 have hos:∀ a n c,([.slice a n c]:List Value).all one=true:=fun _ _ _=>rfl
 have hca:=E1 [v0,vr,v2,v3,v4,.slice ua rules.length uc,v6,v7]
 have z28:C6 Tryd.prog 27=some (Z0):=by kernel_rfl
 have fz:flat (Z0)=true:=rfl
 have hmk:=fun hh=>rB (h:=hh) (show rules.length<30000000000000 by omega)
 have ld5:∀ {a b c d e' f:Value} {l:List Value} {ty:TypeId} {g ro:Bool},AJ 5 (.row (a :: b :: c :: d :: e' :: f :: l) ty g ro)=some f:=rfl
 have hst:∀ hh:AA,hh.get (h.next+3)=.row [Z0] 27 false false→hh.floor≤h.next+3→∀ a n c,BC Tryd.prog hh 27 (qP (h.next+3) 0) (.slice a n c)=some (hh.put (h.next+3) (.row [.slice a n c] 27 false false)):=fun hh hg hf a n c=>H0 LH rfl rfl hg (by decide) hf
 generalize hA:BA.row [v0,vr,v2,v3,v4,.slice ua rules.length uc,v6,v7] 33 false false=A at *
 generalize hB:BA.row [qS e E.length ce] 27 false false=B at *
 have hst0:=hst ((((h.push A).push B).push (.row (ints (List.replicate rules.length 0)) 3 false false)).push (.row [Z0] 27 false false)) BP (by show h.floor≤h.next+3;omega) (some ⟨h.next+2,0,none⟩) rules.length rules.length
 have a5:AJ 5 A=some (.slice ua rules.length uc):=by rw[← hA];rfl
 have hX:∀ C D o,let H:=((((h.push A).push B).push C).push D).put (h.next+3) o
   H.get h.next=A∧H.get (h.next+1)=B∧H.get (h.next+2)=C∧H.get (h.next+3)=o∧H.next=h.next+4∧H.floor=h.floor∧∀ i,i<h.next→H.get i=h.get i:=fun C D o=>by
  have q1:(h.push A).next=h.next+1:=rfl
  have q2:((h.push A).push B).next=h.next+2:=rfl
  have q3:(((h.push A).push B).push C).next=h.next+3:=rfl
  have q4:((((h.push A).push B).push C).push D).next=h.next+4:=rfl
  refine⟨?_,?_,?_,B_ rfl (by omega),rfl,rfl,fun i hi=>?_⟩
  ·rw[AW (by omega) (by omega),AR (by omega),AR (by omega),AR (by omega),BP]
  ·rw[AW (by omega) (by omega),AR (by omega),AR (by omega)]
   exact BP (h:=h.push A)
  ·rw[AW (by omega) (by omega),AR (by omega)]
   exact BP (h:=(h.push A).push B)
  ·rw[AW (by omega) (by omega),AR (by omega),AR (by omega),AR (by omega),AR hi]
 have gA2:((h.push A).push B).get h.next=A:=by
  rw[AR (by show h.next<h.next+1;omega),BP]
 obtain⟨x0,x1,x2,x3,x4,x5,x6⟩:=hX (.row (ints (List.replicate rules.length 0)) 3 false false) (.row [Z0] 27 false false) (.row [qS (h.next+2) rules.length rules.length] 27 false false)
 simp only[eE,seval,↓eP,hca,hone,hcs,hos,HT,LH,hA,hB,CB,Nat.add_assoc,Nat.reduceAdd,Nat.zero_add,K0,DB,gA2,a5,hul,hmk,z28,fz,hst0,List.map_toArray,x0]
 generalize hH:((((h.push A).push B).push (.row (ints (List.replicate rules.length 0)) 3 false false)).push (.row [Z0] 27 false false)).put (h.next+3) (.row [qS (h.next+2) rules.length rules.length] 27 false false)=H at *
 have mkC:∀ (H':AA) sums,H'.get h.next=A→H'.get (h.next+1)=B→H'.get (h.next+3)=.row [qS (h.next+2) rules.length rules.length] 27 false false→H'.get (h.next+2)=.row (ints sums) 3 false false→sums.length=rules.length→H'.next=h.next+4→(∀ i,i<h.next→H'.get i=h.get i)→I9 H' h.next (h.next+1) (h.next+3) rows E sums:=fun H' sums g0 g1 g3 g2 hl hn ho=>
  { p:=⟨_,_,_,_,_,_,_,_,_,g0.trans hA.symm,fun lo hi h2 a b=>hsl lo hi h2 (fun i hi=>by rw[a i (by omega),ho i hi]) (by omega)⟩
    e:=⟨e,E.length,ce,_,_,g1.trans hB.symm,by rw[ho e hel];exact he,rfl,by omega⟩
    s:=⟨h.next+2,rules.length,rules.length,_,_,g3,g2,hl.symm,by omega⟩
    lp:=by omega
    le:=by omega
    ls:=by omega }
 refine WK.loop (fun i s=>s.T.get 5=qP (h.next+3) 0∧s.T.get 6=.func (.func 66) #[] #[qP h.next 0,qP (h.next+1) 0,qP (h.next+3) 0]∧s.T.get 15=.slice ua rules.length uc∧s.T.get 16=iv (rules.length:Int)∧s.T.get 17=iv i∧i≤rules.length ∧
  s.h.get h.next=A∧s.h.get (h.next+1)=B∧s.h.get (h.next+3)=.row [qS (h.next+2) rules.length rules.length] 27 false false∧s.h.next=h.next+4∧s.h.floor=h.floor∧(∀ i,i<h.next→s.h.get i=h.get i) ∧
  ∃ sums,s.h.get (h.next+2)=.row (ints sums) 3 false false∧sums.length=rules.length∧JN sums∧OV rows E (rules.drop i) i sums=KJ rows E rules) rules.length (by omega) ?_ ?_
 ·simp only[eE,↓reduceIte,Nat.reduceEqDiff,reduceCtorEq,↓eP,rP,Nat.reduceAdd,Nat.reduceLT]
  exact⟨rfl,x0,x1,x3,x4,x5,x6,_,x2,by rw[List.length_replicate],rE _,rfl⟩
 ·rintro i ⟨T1,H1⟩ hi ⟨t5,t6,t15,t16,t17,hil,y0,y1,y3,y4,y5,y6,sums,y2,ysl,yS,yF⟩
  simp only at t5 t6 t15 t16 t17 y0 y1 y2 y3 y4 y5 y6
  have hC:=mkC H1 sums y0 y1 y3 y2 ysl y4 y6
  by_cases hlt:i<rules.length
  ·have c1:decide ((i:Int)<(rules.length:Int))=true:=by simp;omega
   obtain⟨ru,hru⟩:∃ ru,rules[i]?=some ru:=⟨_,List.getElem?_eq_getElem hlt⟩
   obtain⟨id,off,ix,lx⟩:=hu H1 y6 i ru hru
   have hrr:=hL.rl ru (List.mem_of_getElem? hru)
   obtain⟨row,hrow⟩:∃ row:Nat,ru=(row:Int):=⟨ru.toNat,by omega⟩
   subst hrow
   have hcall:=h88 h.next (h.next+1) (h.next+3) row sums (H1.fl (max H1.floor H1.next)) (hC.flr _) ysl yS (by show max H1.floor H1.next≤H1.next;omega) (by omega)
   have hd3:decide (h.next+3<H1.next)=true:=by simp;omega
   have w1:=E_ i (by omega)
   have hcA:=XD (rows:=rows) (E:=E) yS row
   have hst:=M5 (x:=GG rows E sums row) y2 (by omega:i<sums.length) (by omega)
   simp only[eE,seval,↓eP,t15,t16,t17,c1,ix,AT,lx]
   show WK _ _ _ (.region _ _ true) _ _
   refine WK.flags (fs:=YF) (by kernel_rfl) ?_
   unfold YF
   iterate 7
    refine EC hsn ?_
    simp only[rG,seval,AC,AF,AE,C0,DW,CR,DD,EG,t5,DB,y3,IT,hd3,t6,hcall,FP hlt,hst]
   refine EF ?_
   have hn2:h.next+2<H1.next:=by omega
   simp only[eE,seval,↓eP,t5,t6,t15,t16,t17,w1]
   refine⟨hlt,by omega,?_,?_,?_,y4,y5,fun j hj=>?_,_,B_ rfl hn2,by rw[List.length_set];exact ysl,pI yS _ hcA,?_⟩
   ·rw[AW hn2 (by omega)];exact y0
   ·rw[AW hn2 (by omega)];exact y1
   ·rw[AW hn2 (by omega)];exact y3
   ·rw[AW hn2 (by omega)];exact y6 j hj
   ·rw[← yF,List.drop_eq_getElem_cons hlt]
    have:rules[i]=(row:Int):=(List.getElem?_eq_some_iff.1 hru).2
    rw[this]
    rfl
  ·have c1:decide ((i:Int)<(rules.length:Int))=false:=by simp;omega
   have hF:sums=KJ rows E rules:=by
    rw[← yF,List.drop_of_length_le (by omega)]
    rfl
   rw[← hF]
   simp only[eE,seval,↓eP,hr,t16,t17,t6,c1]
   exact⟨hC,by omega,y5,y6⟩
end
def RC (rows:List AB) (E sums:List Int):List AB→Nat→Int→Int
 | [],_,_=>-1
 | x :: l,at_,n=>if HD x.kind=false then RC rows E sums l (at_+1) n
  else if HC n (GG rows E sums (at_+1))>16384 then at_ else RC rows E sums l (at_+1) (HC n (GG rows E sums (at_+1)))
def J9 (rows:List AB) (E rules:List Int):Int:=RC rows E (KJ rows E rules) rows 0 0
section
variable {call:AM} {N:Nat} {h:AA} {lo m k c e r n:Nat} {nm:ByteArray} {E:List Int} {tag:Nat→Nat} {vq vv vt vu vo:Value} {es:List (Value × Value)} {s:AL}
theorem Fz (hp:BN h lo m k c e r n nm E tag vq vv vt vu vo es s) (hL:OZ s.rows E s.rules) (hfl:h.floor≤h.next) (hN:s.rows.length+3<N) {ev_:Value} (hkinds:∀ x∈s.rows,1≤x.kind∧x.kind≤54)
  (hevs:∀ i x,s.rows[i]?=some x→HD x.kind=true→i+1<s.rows.length) {pb eb sb:Nat}
  (h72:∃ h',call 52 [.agg #[.string nm,qS r n AP,vq,vv,vt,vu,vo,iv s.miss],ev_] h=some (.func (.func 66) #[] #[qP pb 0,qP eb 0,qP sb 0],h') ∧
   (I9 h' pb eb sb s.rows E (KJ s.rows E s.rules)∧h.next≤h'.next∧h'.floor=h.floor∧∀ i,i<h.next→h'.get i=h.get i))
  (h82:∀ k h',1≤k∧k≤54→call 51 [iv k] h'=some (.bool (HD k),h')) (h83:∀ a b h',0≤b∧b≤4611686018427387904→0≤a∧a≤4611686018427387904→call 53 [iv a,iv b] h'=some (iv (HC a b),h'))
  (h88:∀ (row:Nat) h',I9 h' pb eb sb s.rows E (KJ s.rows E s.rules)→h'.floor≤h'.next→row<s.rows.length→call 66 [iv row,qP pb 0,qP eb 0,qP sb 0] h'=some (iv (GG s.rows E (KJ s.rows E s.rules) row),h')) :
  ∃ h',A7 Tryd.prog call N 34 [qP m 0,ev_] h=some (iv (J9 s.rows E s.rules),h')∧∀ i,i<h.next→h'.get i=h.get i:=by
 refine EQ (R:=fun h'=>∀ i,i<h.next→h'.get i=h.get i) Tryd.func34 rfl (by simp[Tryd.f34]) ?_
 have hr:Tryd.f34.results.toList=[.tmp 4]:=rfl
 obtain⟨h1,hcl,hC,hn1,hf1,ho1⟩:=h72
 have hlen:=hL.len
 have hsl:=hp.pol.len
 have hmn:=hp.lm.2
 have l8:AY 8 0 (h.get m)=some (.agg #[.string nm,qS r n AP,vq,vv,vt,vu,vo,iv s.miss]):=by rw[hp.cell];rfl
 have c1:AJ 1 (h1.get m)=some (qS r n AP):=by rw[ho1 m hmn];exact hp.c1
 have hv1:A9 h1 (qS r n AP) s.rows:=hp.pol.at.mono hn1 ho1
 have hll:=fun h'=>hv1.len (h':=h')
 have hS:=(X_ (rows:=s.rows) (E:=E) (rules:=s.rules)).1
 simp only[eE,↓reduceIte,Nat.reduceEqDiff,reduceCtorEq,↓eP,Nat.reduceAdd,Nat.zero_add,IK,CL,C2,l8,hcl,CK,c1,hll]
 generalize hsum:KJ s.rows E s.rules=sums at *
 refine WK.loop (fun i s'=>s'.T.get 5=.func (.func 66) #[] #[qP pb 0,qP eb 0,qP sb 0]∧s'.T.get 19=qS r n AP∧s'.T.get 20=iv (s.rows.length:Int)∧s'.T.get 21=iv i∧i≤s.rows.length∧s'.h.floor=h1.floor∧h1.next≤s'.h.next∧(∀ i,i<h1.next→s'.h.get i=h1.get i) ∧
  ∃ a:Int,s'.T.get 6=iv a∧0≤a∧a≤4611686018427387904∧RC s.rows E sums (s.rows.drop i) i a=J9 s.rows E s.rules) s.rows.length (by omega) ?_ ?_
 ·simp only[eE,↓reduceIte,Nat.reduceEqDiff,reduceCtorEq,↓eP,rP,Nat.reduceAdd,Nat.reduceLT]
  refine⟨by omega,by omega,fun _ _=>trivial,by omega,by omega,?_⟩
  unfold J9
  rw[hsum]
  rfl
 ·rintro i ⟨T1,H1⟩ hi ⟨t5,t19,t20,t21,hil,hf2,hn2,ho2,a,t6,ha0,haB,hcn⟩
  simp only at t5 t19 t20 t21 hf2 hn2 ho2 t6
  by_cases hlt:i<s.rows.length
  ·have c1:decide ((i:Int)<(s.rows.length:Int))=true:=by simp;omega
   obtain⟨x,hx⟩:∃ x,s.rows[i]?=some x:=⟨_,List.getElem?_eq_getElem hlt⟩
   have hv3:A9 H1 (qS r n AP) s.rows:=hv1.mono hn2 ho2
   obtain⟨id,p,e0,hid,l0,l1,l2,l3,l4,lr⟩:=hv3.row hx
   have hkx:=hkinds x (List.mem_of_getElem? hx)
   have hev:=fun h'=>h82 x.kind h' hkx
   have hflo:H1.floor≤H1.next:=by omega
   have hz:flat (.agg #[.int .i64 0,.string ByteArray.empty,.int .i64 0,.int .i64 0,.int .i64 0])=true:=rfl
   have hzc:=E1 E6
   have hone:([.int .i64 x.kind,.string x.name,.int .i64 x.ends,.int .i64 x.n,.int .i64 x.kids]:List Value).all one=true:=rfl
   have hst:BC Tryd.prog (H1.push (.row E6 61 false false)) 61 (qP H1.next 0) (.agg #[.int .i64 x.kind,.string x.name,.int .i64 x.ends,.int .i64 x.n,.int .i64 x.kids])=some ((H1.push (.row E6 61 false false)).put H1.next (.row [.int .i64 x.kind,.string x.name,.int .i64 x.ends,.int .i64 x.n,.int .i64 x.kids] 61 false false)):=by
    rw[FD,BP,R1,if_pos ⟨hflo,hone⟩]
   have hgd:((H1.push (.row E6 61 false false)).put H1.next (.row [.int .i64 x.kind,.string x.name,.int .i64 x.ends,.int .i64 x.n,.int .i64 x.kids] 61 false false)).get H1.next=.row [.int .i64 x.kind,.string x.name,.int .i64 x.ends,.int .i64 x.n,.int .i64 x.kids] 61 false false:=B_ rfl (by show H1.next<H1.next+1;omega)
   have hgo:∀ i,i<h1.next→((H1.push (.row E6 61 false false)).put H1.next (.row [.int .i64 x.kind,.string x.name,.int .i64 x.ends,.int .i64 x.n,.int .i64 x.kids] 61 false false)).get i=h1.get i:=fun i hi=>by rw[AW (by show H1.next<H1.next+1;omega) (by omega),AR (by omega)];exact ho2 i hi
   have hnx:((H1.push (.row E6 61 false false)).put H1.next (.row [.int .i64 x.kind,.string x.name,.int .i64 x.ends,.int .i64 x.n,.int .i64 x.kids] 61 false false)).next=H1.next+1:=rfl
   have hfl2:((H1.push (.row E6 61 false false)).put H1.next (.row [.int .i64 x.kind,.string x.name,.int .i64 x.ends,.int .i64 x.n,.int .i64 x.kids] 61 false false)).floor=H1.floor:=rfl
   generalize (H1.push (.row E6 61 false false)).put H1.next (.row [.int .i64 x.kind,.string x.name,.int .i64 x.ends,.int .i64 x.n,.int .i64 x.kids] 61 false false)=H2 at *
   have w1:=E_ i (by omega)
   have hdr:s.rows.drop i=x :: s.rows.drop (i+1):=by
    obtain⟨hl,rfl⟩:=List.getElem?_eq_some_iff.1 hx
    exact List.drop_eq_getElem_cons hl
   rw[hdr] at hcn
   change (if HD x.kind=false then RC s.rows E sums (s.rows.drop (i+1)) (i+1) a else if HC a (GG s.rows E sums (i+1))>16384 then (i:Int) else RC s.rows E sums (s.rows.drop (i+1)) (i+1) (HC a (GG s.rows E sums (i+1))))=_ at hcn
   cases dv:HD x.kind with
   | false=>
    rw[if_pos dv] at hcn
    simp only[eE,seval,↓eP,t5,t6,t19,t20,t21,c1,e0,HW,lr,Fsx,hz,hzc,hst,CX,AT,hgd,IT,hev,dv,w1]
    exact⟨by omega,by omega,by rw[hfl2];exact hf2,by omega,hgo,ha0,haB,hcn⟩
   | true=>
    rw[if_neg (by rw[dv];simp)] at hcn
    have hi1:=hevs i x hx dv
    have hC2:I9 H2 pb eb sb s.rows E sums:=hC.mono (by omega) hgo
    have hcall:=h88 (i+1) H2 hC2 (by omega) hi1
    have hcA:=XD (rows:=s.rows) (E:=E) hS (i+1)
    have hpl:=h83 a _ H2 hcA ⟨ha0,haB⟩
    have hpn:=TC ha0 hcA.1 hcA.2
    cases dg:decide (HC a (GG s.rows E sums (i+1))>16384) with
    | true=>
     rw[if_pos (by simpa using dg)] at hcn
     rw[← hcn]
     simp only[eE,seval,↓eP,hr,t5,t6,t19,t20,t21,c1,e0,HW,lr,Fsx,hz,hzc,hst,CX,AT,hgd,IT,hev,dv,w1,hcall,hpl,dg]
     exact fun j hj=>by rw[hgo j (by omega)];exact ho1 j hj
    | false=>
     rw[if_neg (by simpa using dg)] at hcn
     simp only[eE,seval,↓eP,t5,t6,t19,t20,t21,c1,e0,HW,lr,Fsx,hz,hzc,hst,CX,AT,hgd,IT,hev,dv,w1,hcall,hpl,dg]
     exact⟨by omega,by omega,by rw[hfl2];exact hf2,by omega,hgo,hpn.1,hpn.2,hcn⟩
  ·have c1:decide ((i:Int)<(s.rows.length:Int))=false:=by simp;omega
   have hn:J9 s.rows E s.rules=-1:=by
    rw[← hcn,List.drop_of_length_le (by omega)]
    rfl
   rw[hn]
   simp only[eE,seval,↓eP,hr,t20,t21,c1]
   exact fun j hj=>by rw[ho2 j (by omega)];exact ho1 j hj
end
def CP (l:List AB):AL:=⟨l,[],[],[],[],[],-1,[]⟩
def E2 (E:List Int) (at_:Nat) (s:AL):Int × AL:=
 match s.rows[at_]? with
 | none=>(0,s)
 | some x=>
  if EZ x s≠0 then (EZ x s,s) else
  match (BK at_ ((E[at_]?).getD 0) x s).rows[at_]? with
  | none=>(0,s)
  | some x1=>
   if DL at_ x1 (BK at_ ((E[at_]?).getD 0) x s)≠0 then (DL at_ x1 (BK at_ ((E[at_]?).getD 0) x s),s) else
   match (B0 at_ x1 (BK at_ ((E[at_]?).getD 0) x s)).rows[at_]? with
   | none=>(0,s)
   | some x2=>if E8 x2 (B0 at_ x1 (BK at_ ((E[at_]?).getD 0) x s))≠0 then (E8 x2 (B0 at_ x1 (BK at_ ((E[at_]?).getD 0) x s)),s)
    else (0,D9 at_ x2 (B0 at_ x1 (BK at_ ((E[at_]?).getD 0) x s)))
def DP (E:List Int):Nat→Nat→AL→Int × Nat × AL
 | 0,at_,s=>(0,at_,s)
 | r+1,at_,s=>if (E2 E at_ s).1≠0 then ((E2 E at_ s).1,at_,s) else DP E r (at_+1) (E2 E at_ s).2
noncomputable def BJ (l:List AB):(Int × Int) × AL:=
 if (CY l).1≠0 then (CY l,CP l) else
 let g:=DP (BQ l) l.length 0 (CP l)
 if g.1≠0 then ((g.1,(g.2.1:Int)),CP l) else
 let b:=J9 g.2.2.rows (BQ l) g.2.2.rules
 if b≥0 then ((34,b),CP l) else ((0,0),g.2.2)
theorem DV.fit {l:List AB} {at_ q:Nat} (h:DV l at_ q):∃ x,l[at_]?=some x∧DH AU x=true:=by
 rcases h with⟨m,what,h⟩ | ⟨rfl,m,h⟩
 ·cases m with
  | zero=>cases h
  | succ m=>
   cases hx:l[at_]? with
   | none=>rw[X1 hx] at h;cases h
   | some x=>
    rw[XA hx] at h
    split at h
    ·rename_i hc
     simp only[Bool.and_eq_true] at hc
     exact⟨x,rfl,hc.2⟩
    ·cases h
 ·cases hx:l[0]? with
  | none=>rw[ZR hx] at h;cases h
  | some x=>
   rw[UT hx] at h
   split at h
   ·rename_i hc
    simp only[Bool.and_eq_true] at hc
    exact⟨x,rfl,hc.2⟩
   ·cases h
theorem CH.row {l:List AB} (h:CH l) {i:Nat} {x:AB} (hx:l[i]?=some x):DH AU x=true∧(1≤x.kind∧x.kind≤54)∧F7 x.kind≤x.kids∧i+1+x.kids.toNat≤AD l i∧AD l i≤l.length:=by
 have hi:=(List.getElem?_eq_some_iff.1 hx).1
 have hs:=h.end hi
 obtain⟨y,hy,h1⟩:=hs.fit
 obtain⟨z,hz,h2,h3,h4⟩:=hs.kids
 rw[hx] at hy hz
 cases hy
 cases hz
 refine⟨h1,h3,?_,IF _ _ _ h4,hs.lt.2⟩
 unfold DH at h1
 simp only[Bool.and_eq_true,decide_eq_true_eq] at h1
 omega
theorem Hk {k:Int} (h:HD k=true) (h10:k≠10):EE k=1∧BO k=0:=by
 unfold HD at h
 simp only[Bool.and_eq_true,decide_eq_true_eq] at h
 obtain rfl | rfl:k=8∨k=9:=by omega
 ·exact⟨rfl,rfl⟩
 ·exact⟨rfl,rfl⟩
theorem M3 {l:List AB} {k i:Nat} {n:Int} (h:i≠k):(GF l k n)[i]?=l[i]?:=by
 unfold GF
 split
 ·rw[List.getElem?_set_ne (Ne.symm h)]
 ·rfl
structure HR (l:List AB) (at_:Nat) (s:AL):Prop where
 wf:L8 s
 len:s.rows.length=l.length
 same:∀ (i:Nat) (x:AB),s.rows[i]?=some x→∃ y:AB,l[i]?=some y∧x={ y with n:=x.n }
 later:∀ i:Nat,at_≤i→s.rows[i]?=l[i]?
 rl:∀ ru∈s.rules,0≤ru∧ru<l.length
 calls:∀ (i:Nat) (x:AB),i<at_→s.rows[i]?=some x→x.kind=22→0≤x.n∧x.n<s.rules.length
theorem XW (l:List AB):HR l 0 (CP l) where
 wf:=⟨by simp[CP],by simp[CP],by simp[CP],by simp[CP],rfl,fun t ht=>by simp[CP] at ht⟩
 len:=rfl
 same:=fun i x hx=>⟨x,hx,rfl⟩
 later:=fun _ _=>rfl
 rl:=fun ru h=>by simp[CP] at h
 calls:=fun i x h=>by omega
theorem V6 {at_:Nat} {end_:Int} {x:AB} {s:AL}:(BK at_ end_ x s).rows=if BO x.kind=0 then s.rows else GF s.rows at_ (BV s (BO x.kind)):=by
 unfold BK
 split <;> rfl
theorem Z4 {l:List F1} {x:ByteArray} {t:F1} (h:F2 l x=some t):t∈l:=List.mem_of_find?_eq_some h
theorem y_ {l:List AB} {E:List Int} {at_:Nat} {s:AL} {x:AB} (ht:CH l) (hE:0≤(E[at_]?).getD 0) (hi:HR l at_ s) (hx:s.rows[at_]?=some x) (hd:EZ x s=0) :
  L8 (BK at_ ((E[at_]?).getD 0) x s)∧(BK at_ ((E[at_]?).getD 0) x s).rows.length=l.length∧(∃ n,(BK at_ ((E[at_]?).getD 0) x s).rows[at_]?=some { x with n:=n })∧(∀ i,i≠at_→(BK at_ ((E[at_]?).getD 0) x s).rows[i]?=s.rows[i]?) ∧
  (∀ ru∈(BK at_ ((E[at_]?).getD 0) x s).rules,0≤ru∧ru<l.length)∧s.rules.length≤(BK at_ ((E[at_]?).getD 0) x s).rules.length:=by
 have hxl:l[at_]?=some x:=by rw[← hi.later at_ (Nat.le_refl _)];exact hx
 unfold BK
 unfold EZ at hd
 by_cases d0:BO x.kind=0
 ·rw[if_pos d0]
  exact⟨hi.wf,hi.len,⟨x.n,hx⟩,fun _ _=>rfl,hi.rl,Nat.le_refl _⟩
 ·rw [if_neg d0] at hd ⊢
  have hne:(BV s (BO x.kind):Int)≠I2 (BO x.kind):=fun h=>by
   split at hd
   ·cases hd
   ·omega
  refine⟨oO hi.wf d0 hne hE,?_,⟨_,JY hx⟩,fun i hne=>M3 hne,fun ru hru=>?_,?_⟩
  ·exact PQ.trans hi.len
  ·simp only[EU] at hru
   split at hru
   ·rename_i h4
    simp only[List.mem_append,List.mem_cons,List.not_mem_nil,or_false] at hru
    rcases hru with h | rfl
    ·exact hi.rl ru h
    ·have:=ht.row hxl
     have h7:x.kind=7:=by
      revert h4
      unfold BO
      (repeat' split) <;> simp_all
     have hl7:F7 x.kind=0∨0<F7 x.kind:=by have:=PT x.kind;omega
     have h1:F7 x.kind=1:=by rw[h7];rfl
     omega
   ·exact hi.rl ru hru
  ·simp only[EU]
   split
   ·simp
   ·exact Nat.le_refl _
theorem VQ {l:List AB} {E:List Int} {at_:Nat} {s:AL} (ht:CH l) (hE:0≤(E[at_]?).getD 0) (hat:at_<l.length) (hi:HR l at_ s) (h0:(E2 E at_ s).1=0):HR l (at_+1) (E2 E at_ s).2:=by
 obtain⟨x,hx⟩:∃ x,s.rows[at_]?=some x:=⟨_,List.getElem?_eq_getElem (by rw[hi.len];exact hat)⟩
 have hxl:l[at_]?=some x:=by rw[← hi.later at_ (Nat.le_refl _)];exact hx
 unfold E2 at h0 ⊢
 rw[hx] at h0 ⊢
 simp only at h0 ⊢
 by_cases hd:EZ x s=0
 case neg=>rw[if_pos hd] at h0;exact absurd h0 hd
 rw[if_neg (by simpa using hd)] at h0 ⊢
 obtain⟨w1,n1,⟨k1,r1⟩,o1,u1,c1⟩:=y_ ht hE hi hx hd
 generalize BK at_ ((E[at_]?).getD 0) x s=s1 at *
 rw[r1] at h0 ⊢
 simp only at h0 ⊢
 by_cases hc:DL at_ { x with n:=k1 } s1=0
 case neg=>rw[if_pos hc] at h0;exact absurd h0 hc
 rw[if_neg (by simpa using hc)] at h0 ⊢
 have hcall:L8 (B0 at_ { x with n:=k1 } s1)∧(B0 at_ { x with n:=k1 } s1).rows.length=l.length∧(∃ n,(B0 at_ { x with n:=k1 } s1).rows[at_]?=some { x with n:=n }∧(x.kind=22→0≤n∧n<s1.rules.length)∧(EE x.kind=1→0≤n∧n<s1.on.length)) ∧
   (∀ i,i≠at_→(B0 at_ { x with n:=k1 } s1).rows[i]?=s1.rows[i]?)∧(B0 at_ { x with n:=k1 } s1).rules=s1.rules∧(B0 at_ { x with n:=k1 } s1).on=s1.on:=by
  unfold B0
  unfold DL at hc
  by_cases d0:EE x.kind=0
  ·rw[if_pos d0]
   refine⟨w1,n1,⟨k1,r1,fun h=>?_,fun h=>by omega⟩,fun _ _=>rfl,rfl,rfl⟩
   rw[h] at d0
   cases d0
  ·rw [if_neg d0] at hc ⊢
   cases hf:F2 s1.things x.name with
   | none=>simp only[hf] at hc;cases hc
   | some t=>
    simp only[hf] at hc ⊢
    have htm:=w1.th t (Z4 hf)
    have hk:t.kind=EE x.kind:=by
     split at hc
     ·cases hc
     ·split at hc
      ·cases hc
      ·rename_i h;simpa using h
    refine⟨⟨w1.q,w1.v,w1.t,w1.u,w1.o,w1.th⟩,PQ.trans n1,⟨t.num,(JY r1).trans rfl,fun h=>?_,fun h=>?_⟩,fun i hne=>M3 hne,trivial,trivial⟩
    ·have h4:t.kind=4:=by rw[hk,h];rfl
     rw[h4] at htm
     exact⟨htm.2.2.1,htm.2.2.2.1⟩
    ·rw[hk,h] at htm
     rw[w1.o]
     exact⟨htm.2.2.1,htm.2.2.2.1⟩
 obtain⟨w2,n2,⟨k2,r2,q2,e2⟩,o2,u2,v2⟩:=hcall
 generalize B0 at_ { x with n:=k1 } s1=s2 at *
 rw[r2] at h0 ⊢
 simp only at h0 ⊢
 by_cases hv:E8 { x with n:=k2 } s2=0
 case neg=>rw[if_pos hv] at h0;exact absurd h0 hv
 rw[if_neg (by simpa using hv)] at h0 ⊢
 have hev:L8 (D9 at_ { x with n:=k2 } s2)∧(D9 at_ { x with n:=k2 } s2).rows=s2.rows∧(D9 at_ { x with n:=k2 } s2).rules=s2.rules:=by
  unfold D9
  split
  ·exact⟨w2,rfl,rfl⟩
  ·split
   ·exact⟨⟨w2.q,w2.v,w2.t,w2.u,w2.o,w2.th⟩,rfl,rfl⟩
   ·exact⟨⟨w2.q,w2.v,w2.t,w2.u,by simp only[List.length_set];exact w2.o,w2.th⟩,rfl,rfl⟩
 obtain⟨w3,r3,u3⟩:=hev
 refine⟨w3,by rw[r3];exact n2,fun i y hy=>?_,fun i hi'=>?_,by rw[u3,u2];exact u1,fun i y hi' hy h22=>?_⟩
 ·rw[r3] at hy
  by_cases hia:i=at_
  ·subst hia
   rw[r2] at hy
   cases hy
   exact⟨x,hxl,rfl⟩
  ·rw[o2 i hia,o1 i hia] at hy
   exact hi.same i y hy
 ·rw[r3,o2 i (by omega),o1 i (by omega)]
  exact hi.later i (by omega)
 ·rw[r3] at hy
  rw[u3,u2]
  by_cases hia:i=at_
  ·subst hia
   rw[r2] at hy
   cases hy
   exact q2 h22
  ·rw[o2 i hia,o1 i hia] at hy
   have:=hi.calls i y (by omega) hy h22
   omega
theorem qQ {l:List AB} {E:List Int} (ht:CH l) (hE:∀ i:Nat,0≤(E[i]?).getD 0):∀ r at_ s,at_+r=l.length→HR l at_ s→(DP E r at_ s).1=0→HR l l.length (DP E r at_ s).2.2
 | 0,at_,s,hr,hi,_=>by
  have:at_=l.length:=by omega
  subst this
  exact hi
 | r+1,at_,s,hr,hi,h0=>by
  unfold DP at h0 ⊢
  by_cases h:(E2 E at_ s).1=0
  ·rw[if_neg (by simpa using h)] at h0 ⊢
   exact qQ ht hE r (at_+1) _ (by omega) (VQ ht (hE at_) (by omega) hi h) h0
  ·rw[if_pos h] at h0
   exact absurd h0 h
theorem WQ {l:List AB} (i:Nat):0≤((BQ l)[i]?).getD 0:=by
 by_cases hi:i<l.length
 ·rw[QE hi]
  simp
 ·rw[List.getElem?_eq_none (by rw[T5];omega)]
  simp
theorem nJ {l:List AB} {s:AL} (ht:CH l) (hlen:l.length<2932031007403) (hi:HR l l.length s):OZ s.rows (BQ l) s.rules where
 len:=by rw[hi.len];exact hlen
 e:=by rw[T5,hi.len]
 ends:=fun i h=>by
  rw[hi.len] at h
  have:=(ht.end h).lt
  exact⟨AD l i,QE h,by omega,by rw[hi.len];omega⟩
 rl:=fun ru h=>by rw[hi.len];exact hi.rl ru h
 nrules:=by have:=hi.wf.u;omega
 calls:=fun x hx h22=>by
  obtain⟨i,hil,rfl⟩:=List.getElem_of_mem hx
  exact hi.calls i _ (by rw[← hi.len];exact hil) (List.getElem?_eq_getElem hil) h22
theorem aI {l:List AB} {at_:Nat} {s:AL} (ht:CH l) (hi:HR l at_ s):∀ x∈s.rows,1≤x.kind∧x.kind≤54:=fun x hx=>by
 obtain⟨i,hil,rfl⟩:=List.getElem_of_mem hx
 obtain⟨y,hy,he⟩:=hi.same i _ (List.getElem?_eq_getElem hil)
 rw[he]
 exact(ht.row hy).2.1
theorem Gw {l:List AB} {at_:Nat} {s:AL} (ht:CH l) (hi:HR l at_ s):∀ i x,s.rows[i]?=some x→HD x.kind=true→i+1<s.rows.length:=fun i x hx hev=>by
 obtain⟨y,hy,he⟩:=hi.same i _ hx
 have h1:=ht.row hy
 rw[he] at hev
 have hk:F7 y.kind=1:=by
  unfold HD at hev
  simp only[Bool.and_eq_true,decide_eq_true_eq] at hev
  obtain h | h | h:y.kind=8∨y.kind=9∨y.kind=10:=by omega
  all_goals (rw[h];rfl)
 rw[hi.len]
 omega
theorem S2 (l:List AB):(l.flatMap AX).all one=true:=by
 rw[List.all_eq_true]
 intro v hv
 rw[List.mem_flatMap] at hv
 obtain⟨r,_,hv⟩:=hv
 simp only[AX,List.mem_cons,List.not_mem_nil,or_false] at hv
 rcases hv with rfl | rfl | rfl | rfl | rfl <;> rfl
theorem zM {α:Type} (l:List α) (a b:Nat):l.take (a+b)=l.take a++(l.drop a).take b:=List.take_add
theorem XX:∀ (l:List AB) (cs:List Value) (off:Nat),(∀ k r,l[k]?=some r→(cs.drop (off+k*5)).take 5=AX r)→(cs.drop off).take (l.length*5)=l.flatMap AX
 | [],cs,off,_=>by simp
 | r :: l,cs,off,h=>by
  have h0:=h 0 r rfl
  rw[Nat.zero_mul,Nat.add_zero] at h0
  have ih:=XX l cs (off+5) fun k r' hk=>by
   have:=h (k+1) r' hk
   rw[← this]
   congr 2
   omega
  rw[List.length_cons,show (l.length+1)*5=5+l.length*5 by omega,zM,h0,List.drop_drop,ih,List.flatMap_cons]
theorem A9.src {h:AA} {v:Value} {l:List AB} (hv:A9 h v l):DZ h 5 l.length v=some (l.flatMap AX):=by
 obtain⟨a,c,rfl,⟨rfl,rfl⟩ | ⟨id,off,cs,ty,g,ro,rfl,hg,hid,hc⟩⟩:=hv
 ·rfl
 ·have:=XX l cs off hc
  have hl:=KA l
  simp only[DZ,hg,FN,this,hl,if_true]
  by_cases h0:l.length=0
  ·rw[if_pos h0,List.length_eq_zero_iff.1 h0]
   rfl
  ·rw[if_neg h0]
section
variable {call:AM} {N:Nat} {h:AA}
theorem fJ {l:List AB} {v:Value} (hv:A9 h v l) (hne:0<l.length) (hlen:l.length<2932031007403):∃ h',A7 Tryd.prog call N 28 [v] h=some (qS (h.next+1) l.length AP,h')∧(h'.get (h.next+1)=.row (l.flatMap AX) 61 true false∧h'.next=h.next+2∧h'.floor=h.floor∧∀ i,i<h.next→h'.get i=h.get i):=by
 refine EQ (R:=fun h'=>h'.get (h.next+1)=.row (l.flatMap AX) 61 true false∧h'.next=h.next+2∧h'.floor=h.floor∧∀ i,i<h.next→h'.get i=h.get i) Tryd.func28 rfl (by simp[Tryd.f28]) ?_
 have hr:Tryd.f28.results.toList=[.tmp 2]:=rfl
 have hsrc:=(hv.mono (h':=h.push (.row [] 61 false false)) (by show h.next≤h.next+1;omega) fun i hi=>AR hi).src
 obtain⟨a,c,rfl,h1⟩:=hv
 obtain⟨id,off,rfl⟩:∃ id off,a=some ⟨id,off,none⟩:=by
  rcases h1 with⟨h1,_⟩ | ⟨id,off,_,_,_,_,h2,_⟩
  ·rw[h1] at hne;exact absurd hne (by simp)
  ·exact⟨id,off,h2⟩
 have hb:BT Tryd.prog .eql 26 (.tmp 3) (.const (Z0)) (.slice (some ⟨id,off,none⟩) l.length c) (Z0)=some (.bool false):=by
  have hf:flat (.slice (some ⟨id,off,none⟩) l.length c)=false:=rfl
  simp only[BT,hf,Bool.false_and,Bool.false_eq_true,if_false,Tryd.underlying26]
 have hbs:FO Tryd.prog h 26 0 []=some (qS h.next 0 0,h.push (.row [] 61 false false)):=by
  simp[FO,Tryd.underlying26,GC,Fsx,flat,BL,M6,I5,BW]
 have hzs:(Value.agg #[.int .i64 0,.string ByteArray.empty,.int .i64 0,.int .i64 0,.int .i64 0]).cells.size=5:=rfl
 have hap:DS Tryd.prog (h.push (.row [] 61 false false)) 26 (qS h.next 0 0) (.slice (some ⟨id,off,none⟩) l.length c)=some (qS (h.next+1) l.length AP,(h.push (.row [] 61 false false)).push (.row (l.flatMap AX) 61 true false)):=by
  have hu:(0:Nat)≠AP:=by unfold AP;omega
  have e1:¬ (l.length≤0):=by omega
  have e2:l.length*48≤140737488355328:=by omega
  have e3:l.length≤140737488355328:=by omega
  have h0:DZ (h.push (.row [] 61 false false)) 5 0 (qS h.next 0 0)=some []:=by simp[DZ]
  simp only[DS,Tryd.underlying26,GC,RT,Fsx,hzs,hsrc,S2,hu,h0,e1,e2,e3,decide_true,beq_self_eq_true,Bool.and_self,if_true,if_false,Nat.le_refl,Nat.zero_add,Nat.zero_mul,Nat.zero_le,List.nil_append,show (0<5)=True by simp,CB]
 simp only[eE,seval,↓eP,hr,hb,hbs,hap]
 refine⟨?_,rfl,rfl,fun i hi=>?_⟩
 ·exact BP (h:=h.push (.row [] 61 false false))
 ·rw[AR (by show i<h.next+1;omega),AR hi]
def dL:List (Bool × Bool × List Operand):=[AQ,AH [.tmp 1],AH [.tmp 1],AH [.tmp 1,.tmp 2],AH [.tmp 1],AH [.tmp 1],AK,AK]
theorem Cx (hsn:CA call) {at_ m e c5 c6 n ce:Nat} {E:List Int} {y v:Int} {g5 g6 ge:Bool} {R:AA→Prop} (h5:h.get c5=.row [qP m 0] 65 g5 false) (h6:h.get c6=.row [qS e n ce] 27 g6 false) (he:h.get e=.row (ints E) 3 ge false) (hy:E[at_]?=some y) (hn:n=E.length)
  (hc:∃ h',call 31 [qP m 0,iv at_,iv y] h=some (iv v,h')∧(h'.floor=h.floor∧R h')):∃ h',A7 Tryd.prog call N 30 [iv at_,qP c5 0,qP c6 0] h=some (iv v,h')∧R h':=by
 refine EQ (R:=R) Tryd.func30 rfl (by simp[Tryd.f30]) ?_
 have hr:Tryd.f30.results.toList=[.tmp 4]:=rfl
 obtain⟨h',hc,hf,hR⟩:=hc
 have hat:at_<n:=by rw[hn];exact(List.getElem?_eq_some_iff.1 hy).1
 have hfx:h'.fl h.floor=h':=by rw[← hf];exact HN h'
 have lE:=MZ (ty:=3) (g:=ge) (ro:=false) hy
 simp only[eE,seval,↓eP]
 show WK _ _ _ (.region _ _ true) _ _
 refine WK.flags (fs:=dL) (by kernel_rfl) ?_
 unfold dL
 iterate 8
  refine EC hsn ?_
  simp only[rG,seval,AC,AF,AE,C0,DW,CR,DD,EG,S0,h5,IT,DB,h6,FP hat,AT,he,lE,hc,hfx]
 refine EF ?_
 simp only[eE,seval,↓eP,hr]
 exact hR
end
theorem WE {l:List AB}:∀ k a b c,ER l k a b→DV l b c→ER l (k+1) a c
 | 0,a,b,c,h,hs=>by
  have:a=b:=h
  subst this
  exact⟨c,hs,hs.lt.1,hs.lt.2,rfl⟩
 | k+1,a,b,c,⟨p,h1,h2,h3,h4⟩,hs=>⟨p,h1,h2,h3,WE k p b c h4 hs⟩
theorem SN {l:List AB}:∀ k r a q,ER l (k+r) a q→∃ b,ER l k a b∧ER l r b q
 | 0,r,a,q,h=>⟨a,rfl,by rwa [Nat.zero_add] at h⟩
 | k+1,r,a,q,h=>by
  rw[show k+1+r=(k+r)+1 by omega] at h
  obtain⟨p,h1,h2,h3,h4⟩:=h
  obtain⟨b,h5,h6⟩:=SN k r p q h4
  exact⟨b,⟨p,h1,h2,h3,h5⟩,h6⟩
theorem PM {l:List AB}:∀ k a b c,ER l k a b→ER l k a c→b=c
 | 0,a,b,c,h,h'=>(show a=b from h).symm.trans (show a=c from h')
 | k+1,a,b,c,⟨p,h1,_,_,h4⟩,⟨p',g1,_,_,g4⟩=>by
  have:p=p':=DV.unique l.length a (by omega) h1 g1
  subst this
  exact PM k p b c h4 g4
theorem V4 {l:List AB} {a b c:Nat}:∀ k j,k<j→ER l k a b→ER l j a c→b<c:=fun k j hkj h h'=>by
 obtain⟨b',h1,h2⟩:=SN k (j-k) a c (by rw[show k+(j-k)=j by omega];exact h')
 have:=PM k a b b' h h1
 subst this
 have:=IF _ _ _ h2
 omega
def JA (l:List AB) (p k i:Nat):Prop:=∃ x,l[p]?=some x∧k<x.kids.toNat∧ER l k (p+1) i
theorem JA.lt {l:List AB} {p k i:Nat} (h:JA l p k i):p<i:=by
 obtain⟨x,_,_,h3⟩:=h
 have:=IF _ _ _ h3
 omega
theorem JA.sub {l:List AB} (ht:CH l) {p k i:Nat} (h:JA l p k i):∃ q,DV l i q∧q≤AD l p∧i<l.length:=by
 obtain⟨x,hx,hk,hc⟩:=h
 have hs:=ht.end (List.getElem?_eq_some_iff.1 hx).1
 obtain⟨y,hy,_,_,hch⟩:=hs.kids
 rw[hx] at hy
 cases hy
 obtain⟨r,hr⟩:∃ r,x.kids.toNat=k+(r+1):=⟨x.kids.toNat-k-1,by omega⟩
 rw[hr] at hch
 obtain⟨b,h1,q,h2,h3,h4,h5⟩:=SN _ _ _ _ hch
 have:=PM _ _ _ _ hc h1
 subst this
 have:=IF _ _ _ h5
 exact⟨q,h2,by omega,by omega⟩
theorem dK {l:List AB}:∀ (r a q j:Nat),ER l r a q→a≤j→j<q→∃ k b c,k<r∧ER l k a b∧DV l b c∧b≤j∧j<c
 | 0,a,q,j,h,h1,h2=>by have:a=q:=h;omega
 | r+1,a,q,j,⟨p,s,h3,h4,h5⟩,h1,h2=>by
  rcases Nat.lt_or_ge j p with h6 | h6
  ·exact⟨0,a,p,by omega,rfl,s,h1,h6⟩
  ·obtain⟨k,b,c,k1,k2,k3,k4,k5⟩:=dK r p q j h5 h6 h2
   exact⟨k+1,b,c,by omega,⟨p,s,h3,h4,k2⟩,k3,k4,k5⟩
theorem JA.unique {l:List AB} (ht:CH l) {p k i p' k':Nat} (h:JA l p k i) (h':JA l p' k' i):p=p'∧k=k':=by
 have key:∀ {p k i p' k':Nat},JA l p k i→JA l p' k' i→¬ p<p':=by
  intro p k i p' k' h h' hlt
  have hi:=h'.lt
  obtain⟨qi,si,hqi,_⟩:=h'.sub ht
  have hsi:=si.lt
  obtain⟨x,hx,hk,hc⟩:=h
  have hs:=ht.end (List.getElem?_eq_some_iff.1 hx).1
  obtain⟨y,hy,_,_,hch⟩:=hs.kids
  rw[hx] at hy
  cases hy
  have hp':p'<l.length:=by
   obtain⟨x',hx',_⟩:=h'
   exact(List.getElem?_eq_some_iff.1 hx').1
  have he':=(ht.end hp').lt
  obtain⟨r,hr⟩:∃ r,x.kids.toNat=k+(r+1):=⟨x.kids.toNat-k-1,by omega⟩
  have hkc:=hch
  rw[hr] at hkc
  obtain⟨b0,g1,g2⟩:=SN _ _ _ _ hkc
  have:=PM _ _ _ _ hc g1
  subst this
  have hle:=IF _ _ _ g2
  obtain⟨j,b,c,j1,j2,j3,j4,j5⟩:=dK _ _ _ p' hch hlt (by omega)
  obtain⟨q',s1,s2⟩:=DV.cover (c-b) (by have:=j3.lt;omega) j3 p' j4 j5
  have hee:=IP s1
  -- i lies in (b, c), and is the start of the k-th kid
  rcases Nat.lt_trichotomy k j with hkj | hkj | hkj
  ·have:=V4 k j hkj hc j2
   omega
  ·subst hkj
   have:=PM _ _ _ _ hc j2
   omega
  ·have hj1:=WE j _ _ _ j2 j3
   rcases Nat.lt_or_ge (j+1) k with h9 | h9
   ·have:=V4 (j+1) k h9 hj1 hc
    omega
   ·have:j+1=k:=by omega
    subst this
    have:=PM _ _ _ _ hj1 hc
    omega
 have hpp:p=p':=by
  have h1:=key h h'
  have h2:=key h' h
  omega
 subst hpp
 refine⟨rfl,?_⟩
 obtain⟨_,_,_,hc⟩:=h
 obtain⟨_,_,_,hc'⟩:=h'
 rcases Nat.lt_trichotomy k k' with h1 | h1 | h1
 ·have:=V4 _ _ h1 hc hc';omega
 ·exact h1
 ·have:=V4 _ _ h1 hc' hc;omega
theorem DV.parent {l:List AB}:∀ (n:Nat) {a q:Nat},q≤a+n→DV l a q→∀ i,a<i→i<q→∃ p k,JA l p k i∧a≤p
 | 0,a,q,hn,h,i,h1,h2=>by have:=h.lt;omega
 | n+1,a,q,hn,h,i,h1,h2=>by
  obtain⟨x,hx,_,_,hc⟩:=h.kids
  obtain⟨k,b,c,k1,k2,k3,k4,k5⟩:=dK _ _ _ i hc h1 h2
  rcases Nat.eq_or_lt_of_le k4 with rfl | h6
  ·exact⟨a,k,⟨x,hx,k1,k2⟩,Nat.le_refl _⟩
  ·have hb:=IF _ _ _ k2
   obtain⟨r,hr⟩:∃ r,x.kids.toNat=(k+1)+r:=⟨x.kids.toNat-(k+1),by omega⟩
   rw[hr] at hc
   obtain⟨c',g1,g2⟩:=SN _ _ _ _ hc
   have:=PM _ _ _ _ (WE _ _ _ _ k2 k3) g1
   subst this
   have:=IF _ _ _ g2
   obtain⟨p,k',h7,h8⟩:=DV.parent n (by omega) k3 i h6 k5
   exact⟨p,k',h7,by omega⟩
theorem CH.parent {l:List AB} (ht:CH l) {i:Nat} (h0:0<i) (h1:i<l.length):∃ p k,JA l p k i:=by
 obtain⟨p,k,h,_⟩:=DV.parent l.length (by omega) ht i h0 h1
 exact⟨p,k,h⟩
structure kG (l:List AB) (O:List Int):Prop where
 top:∀ x,l[0]?=some x→O[0]?=some (G9 x.kind)
 kid:∀ p k i x y o,JA l p k i→l[p]?=some x→l[i]?=some y→O[p]?=some o→O[i]?=some (o+G_ (C1 x.kind) (C1 y.kind) k+G9 y.kind)
def L9 (O:List Int) (a b:Nat) (M:Int):Prop:=(∀ i x,a≤i→i<b→O[i]?=some x→x≤M)∧∃ i,a≤i∧i<b∧O[i]?=some M
theorem L9.join {O:List Int} {a b c:Nat} {M M':Int} (h:L9 O a b M) (h':L9 O b c M') (hab:a≤b) (hbc:b≤c):L9 O a c (if M'>M then M' else M):=by
 obtain⟨h1,i,h2,h3,h4⟩:=h
 obtain⟨g1,j,g2,g3,g4⟩:=h'
 refine⟨fun t x t1 t2 t3=>?_,?_⟩
 ·rcases Nat.lt_or_ge t b with hb | hb
  ·have:=h1 t x t1 hb t3
   split <;> omega
  ·have:=g1 t x hb t2 t3
   split <;> omega
 ·split
  ·exact⟨j,by omega,g3,g4⟩
  ·exact⟨i,h2,by omega,h4⟩
theorem L9.unique {O:List Int} {a b:Nat} {M M':Int} (h:L9 O a b M) (h':L9 O a b M'):M=M':=by
 obtain⟨h1,i,h2,h3,h4⟩:=h
 obtain⟨g1,j,g2,g3,g4⟩:=h'
 have:=h1 j _ g2 g3 g4
 have:=g1 i _ h2 h3 h4
 omega
theorem x9 {l:List AB} {O:List Int} (hO:kG l O):∀ (m at_ q:Nat) (x:AB) (o:Int),DV l at_ q→l.length<at_+m→l[at_]?=some x→O[at_]?=some o →
  L9 O at_ q (o-G9 x.kind+(C9 l m at_).1)∧(C9 l m at_).2=q:=by
 intro m
 induction m with
 | zero=>intro at_ q x o hs hm hx;have:=hs.lt;omega
 | succ m ih=>
  intro at_ q x o hs hm hx ho
  obtain⟨y,hy,_,_,hc⟩:=hs.kids
  rw[hx] at hy
  cases hy
  have key:∀ r k most next,k+r=x.kids.toNat→ER l k (at_+1) next→ER l r next q→L9 O at_ next (o+most)→L9 O at_ q (o+(HX (C9 l m) l x.kind r k most next).1)∧(HX (C9 l m) l x.kind r k most next).2=q:=by
   intro r
   induction r with
   | zero=>
    intro k most next hk h1 h2 h3
    have:next=q:=h2
    subst this
    exact⟨h3,rfl⟩
   | succ r ihr=>
    intro k most next hk h1 ⟨p',s1,s2,s3,s4⟩ h3
    have hn1:=IF _ _ _ h1
    obtain⟨z,hz,_,_,_⟩:=s1.kids
    have hz':=hO.kid at_ k next x z o ⟨x,hx,by omega,h1⟩ hx hz ho
    obtain⟨a1,a2⟩:=ih next p' z _ s1 (by omega) hz hz'
    unfold HX
    rw[hz]
    simp only
    rw[a2]
    refine ihr (k+1) _ p' (by omega) (WE _ _ _ _ h1 s1) s4 ?_
    have h4:=h3.join a1 (by omega) (by omega)
    have e1:o+G_ (C1 x.kind) (C1 z.kind) k+G9 z.kind-G9 z.kind+(C9 l m next).1=o+((C9 l m next).1+G_ (C1 x.kind) (C1 z.kind) k):=by omega
    rw[e1] at h4
    refine cast ?_ h4
    congr 1
    split <;> split <;> omega
  have h0:=key x.kids.toNat 0 0 (at_+1) (by omega) rfl hc ⟨fun i v h1 h2 h3=>by
    have:i=at_:=by omega
    subst this
    rw[ho] at h3
    cases h3
    omega,at_,Nat.le_refl _,by omega,by rw[ho];congr 1;omega⟩
  unfold C9
  rw[hx]
  refine⟨?_,h0.2⟩
  refine cast ?_ h0.1
  congr 1
  simp only
  omega
def S8:List FuncId:=[31,32,33,30,999999,999999,999999,999999,999999,999999,999999,999999,999999,999999,999999,999999,23]
open Classical in
noncomputable def ND (call:AM):AM:=fun f args h=>match call f args h with
 | some (v,h1)=>if S8.contains f=false∧EJ v=true∧∀ i,i<h.next→h1.get i=h.get i then some (v,h) else some (v,h1)
 | none=>none
theorem jK {call:AM} {f:FuncId} {args:List Value} {h h':AA} {v:Value} (hs:ND call f args h=some (v,h')):NZ call f args h=some (v,h')∨call f args h=some (v,h'):=by
 unfold ND at hs
 split at hs
 ·rename_i v' h1 he
  split at hs
  ·rename_i hc
   cases hs
   exact .inl (cX he hc.2.1 hc.2.2)
  ·cases hs
   exact .inr he
 ·cases hs
theorem xA {P:Program} {call:AM} (hc:C3 P call∧CA call):C3 P (ND call)∧CA (ND call):=by
 have hk:=bP hc.1
 refine⟨fun f args h v h' hs=>?_,fun f args h v h' hs=>?_⟩
 ·rcases jK hs with h1 | h1
  ·exact hk.1 _ _ _ _ _ h1
  ·exact hc.1 _ _ _ _ _ h1
 ·rcases jK hs with h1 | h1
  ·exact hk.2 _ _ _ _ _ h1
  ·exact hc.2 _ _ _ _ _ h1
section
variable {call:AM} {n:Nat} {h:AA}
noncomputable def L3:AM:=MN [999999] L2 12
theorem pB:C3 Tryd.prog L3∧CA L3:=ZC iO
end
noncomputable def AS:Nat→AM
 | 0=>L3
 | n+1=>GA L3 (ND (A7 Tryd.prog (AS n) n))
theorem FL:∀ n,C3 Tryd.prog (AS n)∧CA (AS n)
 | 0=>pB
 | n+1=>RG pB (xA (RA I1 (FL n).1 (FL n).2 n))
section
variable {n:Nat} {f:FuncId} {args:List Value} {h h1:AA} {v:Value} {r:Value × AA}
theorem yH (hb:L3 f args h=some r):AS n f args h=some r:=by
 cases n with
 | zero=>exact hb
 | succ n=>exact SM hb
theorem cT (hb:L2 f args h=some r):AS n f args h=some r:=yH (LB hb)
theorem JV (hb:L1 f args h=some r):AS n f args h=some r:=cT (NM hb)
theorem BX (hf:([61,88,86,48,50,51,999999,999999,999999,
 999999,999999,999999,999999,999999,999999,999999,64,82,84,
 999999,999999,60]:List Nat).contains f=false∧([85,999999,999999,49,999999,53,999999]:List Nat).contains f=false∧([62,999999,999999]:List Nat).contains f=false):L3 f args h=none:=by
 have h3:=hf.2.2
 simp only[List.contains_cons,List.contains_nil,Bool.or_false,Bool.or_eq_false_iff] at h3
 refine IJ (OO (IJ (IJ rfl hf.1) hf.2.1) ?_) ?_
 ·simp only[List.contains_cons,List.contains_nil,Bool.or_false,Bool.or_eq_false_iff];exact⟨h3.1,h3.2.1⟩
 ·simp only[List.contains_cons,List.contains_nil,Bool.or_false];exact h3.2.2
theorem JB (hb:L3 f args h=none) (hv:EJ v=true) (hw:∃ h1,A7 Tryd.prog (AS n) n f args h=some (v,h1)∧∀ i,i<h.next→h1.get i=h.get i) (hf:S8.contains f=false:=by rfl):AS (n+1) f args h=some (v,h):=by
 obtain⟨h1,he,hk⟩:=hw
 unfold AS GA ND
 rw[hb,he]
 simp only
 rw[if_pos ⟨hf,hv,hk⟩]
theorem EL (hb:L3 f args h=none) (hv:EJ v=true) (hw:A7 Tryd.prog (AS n) n f args h=some (v,h)) (hf:S8.contains f=false:=by rfl):AS (n+1) f args h=some (v,h):=JB hb hv ⟨h,hw,fun _ _=>rfl⟩ hf
theorem PZ {R:AA→Prop} (hb:L3 f args h=none) (hv:EJ v=false) (hw:∃ h1,A7 Tryd.prog (AS n) n f args h=some (v,h1)∧R h1):∃ h1,AS (n+1) f args h=some (v,h1)∧R h1:=by
 obtain⟨h1,he,hk⟩:=hw
 refine⟨h1,?_,hk⟩
 unfold AS GA ND
 rw[hb,he]
 simp only
 rw[if_neg (fun hc=>by rw[hv] at hc;cases hc.2.1)]
theorem PY {R:Value→AA→Prop} (hb:L3 f args h=none) (hw:∃ v h1,A7 Tryd.prog (AS n) n f args h=some (v,h1)∧R v h1) (hf:∀ v h1,EJ v=true→(∀ i,i<h.next→h1.get i=h.get i)→R v h1→R v h):∃ v h1,AS (n+1) f args h=some (v,h1)∧R v h1:=by
 obtain⟨v,h1,he,hk⟩:=hw
 by_cases hc:S8.contains f=false∧EJ v=true∧∀ i,i<h.next→h1.get i=h.get i
 ·refine⟨v,h,?_,hf v h1 hc.2.1 hc.2.2 hk⟩
  unfold AS GA ND
  rw[hb,he]
  simp only
  rw[if_pos hc]
 ·refine⟨v,h1,?_,hk⟩
  unfold AS GA ND
  rw[hb,he]
  simp only
  rw[if_neg hc]
theorem WF {R:AA→Prop} (hb:L3 f args h=none) (hw:∃ h1,A7 Tryd.prog (AS n) n f args h=some (v,h1)∧R h1) (hf:S8.contains f=true:=by rfl):∃ h1,AS (n+1) f args h=some (v,h1)∧R h1:=by
 obtain⟨h1,he,hk⟩:=hw
 refine⟨h1,?_,hk⟩
 unfold AS GA ND
 rw[hb,he]
 simp only
 rw[if_neg (fun hc=>by rw[hf] at hc;cases hc.1)]
end
theorem Gd {l:List AB} {v:Value} (hlen:l.length<30000000000000):∀ m n (at_:Nat) (what:Int) h,at_≤l.length→l.length<at_+m→what≠8→A9 h v l→h.get 0=CT→0<h.next→h.floor≤h.next→l.length+4+m<n →
  AS n 46 [v,iv at_,iv what] h=some (.tuple #[iv ((BG AU l m at_ what).1:Int),.bool (BG AU l m at_ what).2],h):=by
 intro m
 induction m with
 | zero=>intro n at_ what h hat hm;omega
 | succ m ih=>
  intro n at_ what h hat hm hw hv hg hn0 hfl hn
  obtain⟨n,rfl⟩:∃ k,n=k+1:=⟨n-1,by omega⟩
  refine JB (BX ⟨rfl,rfl,rfl⟩) (O_ rfl rfl) ?_
  exact kI (FL n).2 ⟨fun k j h hk hj=>JV (rQ k j h hk hj),fun p w h hp hpl hw hv hg hn0 hfl=>ih n p w h hpl (by omega) hw hv hg hn0 hfl (by omega)⟩
   (by omega) hlen hat hw (fun w k h=>JV (SA w k h)) (fun k h hk=>JV (WN k h hk)) (fun s h' hg=>cT (U5 hg s)) hv hg hn0 hfl
theorem Jn {l:List AB} {v:Value} (hlen:l.length<30000000000000) {n m:Nat} (hm:l.length<1+m) (hn:l.length+7+m<n) {h:AA} (hv:A9 h v l) (hg:h.get 0=CT) (hn0:0<h.next) (hfl:h.floor≤h.next) :
  AS n 46 [v,iv 0,iv 8] h=some (.tuple #[iv ((FR AU l m).1:Int),.bool (FR AU l m).2],h):=by
 obtain⟨n,rfl⟩:∃ k,n=k+2:=⟨n-2,by omega⟩
 refine JB (BX ⟨rfl,rfl,rfl⟩) (O_ rfl rfl) ?_
 refine mR (FL (n+1)).2 ?_ (by omega) hlen (fun w k h=>JV (SA w k h)) (fun k h hk=>JV (WN k h hk)) (fun s h' hg=>cT (U5 hg s)) hv hg hn0 hfl
 intro x h' hx hf hk1 hv' hg' hn0' hfl'
 have hk0:0≤x.kids:=by
  unfold DH at hf
  simp only[Bool.and_eq_true,decide_eq_true_eq] at hf
  have:=PT x.kind
  omega
 refine EL (BX ⟨rfl,rfl,rfl⟩) (O_ rfl rfl) ?_
 refine oZ hx hk0 (by omega) hlen hv' (fun w k h=>JV (SA w k h)) fun p w hp hpl hw=>?_
 exact Gd hlen m n p w h' hpl (by omega) hw hv' hg' hn0' hfl' (by omega)
theorem zL {l:List AB} {v:Value} (hlen:l.length<30000000000000) (hval:∀ (i:Nat) x,l[i]?=some x→1≤x.kind∧x.kind≤54) {h:AA} (hv:A9 h v l):∀ m n (at_:Nat),m<30000000000000→at_<l.length→l.length<at_+m→l.length+4+m<n →
  AS n 65 [v,iv at_] h=some (.tuple #[iv (C9 l m at_).1,iv ((C9 l m at_).2:Int)],h):=by
 intro m
 induction m with
 | zero=>intro n at_ _ hat hm;omega
 | succ m ih=>
  intro n at_ hmm hat hm hn
  obtain⟨n,rfl⟩:∃ k,n=k+1:=⟨n-1,by omega⟩
  refine EL (BX ⟨rfl,rfl,rfl⟩) (O_ rfl rfl) ?_
  refine eO (FL n).2 (by omega) hlen (by omega) hat (by omega) hv hval (fun P Q k h hP hQ=>JV (nI P Q k h hP hQ)) (fun k h hk=>JV (eN k h hk)) fun p hp hpl=>?_
  exact ih n p (by omega) hpl (by omega) (by omega)
theorem Cn {n:Nat} {l:List AB} {v:Value} (hn:2*l.length+12<n) (hlen:l.length<2932031007403) {h:AA} (hv:A9 h v l) (hg:h.get 0=CT) (hn0:0<h.next) (hfl:h.floor≤h.next) :
  AS n 27 [v] h=some (BR (CY l).1 (CY l).2,h):=by
 obtain⟨n,rfl⟩:∃ k,n=k+2:=⟨n-2,by omega⟩
 refine JB (BX ⟨rfl,rfl,rfl⟩) rfl ?_
 refine lI hv hg hn0 hfl (fun h' hv' hg' hn' hfl'=>Jn (by omega) (by omega) (by omega) hv' hg' hn' hfl') fun hs h' hv'=>?_
 refine EL (BX ⟨rfl,rfl,rfl⟩) rfl ?_
 exact fT (m:=l.length+1) hv' (XG hs) (zL (by omega) (qN hs) hv' (l.length+1) n 0 (by omega) (XG hs) (by omega) (by omega))
theorem Gb {l:List AB} {v:Value} {h:AA} {n:Nat} (ht:CH l) (hv:A9 h v l) (hlen:l.length<30000000000000) (hn:l.length+4<n) (hfl:h.floor≤h.next) :
  ∃ h',AS n 29 [v] h=some (qS h.next l.length l.length,h')∧(h'.get h.next=.row (ints (BQ l)) 3 false false∧h'.next=h.next+1∧h'.floor=h.floor∧∀ i,i<h.next→h'.get i=h.get i):=by
 obtain⟨n,rfl⟩:∃ k,n=k+1:=⟨n-1,by omega⟩
 exact PZ (BX ⟨rfl,rfl,rfl⟩) rfl (Fs ht hv hlen (by omega) hfl)
section
variable {h:AA} {id off:Nat}
end
def FX (V:Nat→Value) (j:Nat) (v:Value):Nat→Value:=fun i=>if i=j then v else V i
section
variable {h h':AA} {lo m e r n:Nat} {nm:ByteArray} {E:List Int} {tag tag':Nat→Nat} {V:Nat→Value} {C:List Int} {s s':AL}
end
section
variable {call:AM} {N:Nat} {h:AA} {lo m e r n:Nat} {nm:ByteArray} {E:List Int} {tag:Nat→Nat} {V:Nat→Value} {C:List Int} {s:AL}
def SE (h H:AA) (lo:Nat):Prop:=(∀ i,i<lo→H.get i=h.get i)∧h.next≤H.next∧H.floor=h.floor
end
theorem OI {h:AA} {o o':BA}:((h.push o).push o').get h.next=o:=by rw[AR (by show h.next<h.next+1;omega)];exact BP
theorem OM {h:AA} {o o':BA}:((h.push o).push o').get (h.next+1)=o':=BP (h:=h.push o)
section
variable {call:AM} {n:Nat}
end
def PS (r:Nat):Code→Option Code
 | .seq a b=>match PS r a with
  | some o=>some o
  | none=>PS r b
 | .cond _ a b=>match PS r a with
  | some o=>some o
  | none=>PS r b
 | .block i c=>if i=r then some (.block i c) else PS r c
 | .loop c=>PS r c
 | _=>none
def Hu (fn:Func) (r:Nat):Code:=match fn.body with
 | some c=>(PS r c).getD .skip
 | none=>.skip
section
variable {call:AM} {N:Nat}
end
structure PR (l:List AB) (O:List Int) (j:Nat) (most:Int):Prop where
 len:O.length=l.length
 top:0<j→∀ x,l[0]?=some x→O[0]?=some (G9 x.kind)
 kid:∀ p k i x y o,i<j→JA l p k i→l[p]?=some x→l[i]?=some y→O[p]?=some o→O[i]?=some (o+G_ (C1 x.kind) (C1 y.kind) k+G9 y.kind)
 le:∀ (i:Nat) o,i<j→O[i]?=some o→0≤o∧o≤2*(i:Int)+2
 max:(j=0∧most=0)∨(0<j∧L9 O 0 j most)
theorem PR.most {l:List AB} {O:List Int} {j:Nat} {most:Int} (h:PR l O j most):0≤most∧most≤2*(j:Int):=by
 rcases h.max with⟨_,h1⟩ | ⟨_,_,i,_,h2,h3⟩
 ·omega
 ·have:=h.le i _ h2 h3
  omega
theorem PR.step {l:List AB} {O:List Int} {j:Nat} {most n:Int} (ht:CH l) (h:PR l O j most) (hj:j<l.length)
  (hn:(j=0∧∀ x,l[0]?=some x→n=G9 x.kind)∨∃ p k x y o,JA l p k j∧l[p]?=some x∧l[j]?=some y∧O[p]?=some o∧n=o+G_ (C1 x.kind) (C1 y.kind) k+G9 y.kind):PR l (O.set j n) (j+1) (if n>most then n else most):=by
 have hlO:=h.len
 have hnle:0≤n∧n≤2*(j:Int)+2:=by
  rcases hn with⟨rfl,h1⟩ | ⟨p,k,x,y,o,h1,h2,h3,h4,rfl⟩
  ·have:=UW l[0].kind
   have:=h1 l[0] (List.getElem?_eq_getElem hj)
   omega
  ·have:=h.le p o h1.lt h4
   have:=UW y.kind
   have:=X8 (C1 x.kind) (C1 y.kind) k
   have:=h1.lt
   omega
 refine⟨by simpa using hlO,fun _ x hx=>?_,fun p k i x y o hi hk hx hy ho=>?_,fun i o hi ho=>?_,.inr ⟨by omega,?_⟩⟩
 ·by_cases h0:j=0
  ·subst h0
   rw[List.getElem?_set_self (by omega)]
   rcases hn with⟨_,h1⟩ | ⟨p,k,x,y,o,h1,_⟩
   ·rw[h1 x hx]
   ·have:=h1.lt;omega
  ·rw[List.getElem?_set_ne (by omega)]
   exact h.top (by omega) x hx
 ·have hlt:=hk.lt
  rw[List.getElem?_set_ne (by omega)] at ho
  by_cases hij:j=i
  ·subst hij
   rw[List.getElem?_set_self (by omega)]
   rcases hn with⟨rfl,_⟩ | ⟨p',k',x',y',o',h1,h2,h3,h4,rfl⟩
   ·omega
   ·obtain⟨rfl,rfl⟩:=JA.unique ht hk h1
    rw[hx] at h2
    rw[hy] at h3
    rw[ho] at h4
    cases h2
    cases h3
    cases h4
    rfl
  ·rw[List.getElem?_set_ne (by omega)]
   exact h.kid p k i x y o (by omega) hk hx hy ho
 ·by_cases hij:j=i
  ·subst hij
   rw[List.getElem?_set_self (by omega)] at ho
   cases ho
   exact hnle
  ·rw[List.getElem?_set_ne (by omega)] at ho
   exact h.le i o (by omega) ho
 ·rcases h.max with⟨rfl,rfl⟩ | ⟨hp,h1,i,h2,h3,h4⟩
  ·have he:(if n>0 then n else 0)=n:=by split <;> omega
   rw[he]
   refine⟨fun i x _ hi hx=>?_,0,by omega,by omega,List.getElem?_set_self (by omega)⟩
   obtain rfl:i=0:=by omega
   rw[List.getElem?_set_self (by omega)] at hx
   cases hx
   omega
  ·refine⟨fun t x _ ht hx=>?_,?_⟩
   ·by_cases htj:j=t
    ·subst htj
     rw[List.getElem?_set_self (by omega)] at hx
     cases hx
     split <;> omega
    ·rw[List.getElem?_set_ne htj] at hx
     have:=h1 t x (by omega) (by omega) hx
     split <;> omega
   ·split
    ·exact⟨j,by omega,by omega,List.getElem?_set_self (by omega)⟩
    ·exact⟨i,h2,by omega,by rw[List.getElem?_set_ne (by omega)];exact h4⟩
theorem PR.done {l:List AB} {O:List Int} {most:Int} (ht:CH l) (h:PR l O l.length most):most=(C9 l (l.length+1) 0).1:=by
 have hp:=ht.pos
 have hx:l[0]?=some l[0]:=List.getElem?_eq_getElem hp
 have hO:kG l O:=⟨fun x hx=>h.top hp x hx,fun p k i x y o hk hx hy ho=>h.kid p k i x y o (List.getElem?_eq_some_iff.1 hy).1 hk hx hy ho⟩
 have h1:=(x9 hO (l.length+1) 0 l.length _ _ ht (by omega) hx (hO.top _ hx)).1
 rw[Int.sub_self,Int.zero_add] at h1
 rcases h.max with⟨h0,_⟩ | ⟨_,h2⟩
 ·omega
 ·exact h2.unique h1
section
variable {call:AM} {N:Nat}
def inB:Code→Code
 | .block _ c=>c
 | c=>c
end
def AO (lo:Nat) (h:AA) (v:Value) (n w:Nat) (cs:List Value):Prop:=
 cs.length=n*w∧∃ a c,v=.slice a n c∧((n=0∧a=none)∨∃ id off row ty g ro,a=some ⟨id,off,none⟩∧h.get id=.row row ty g ro∧(lo≤id∧id<h.next)∧(row.drop off).take (n*w)=cs∧(0<lo→ro=false))
section
variable {lo:Nat} {h h':AA} {v:Value} {n w:Nat} {cs:List Value}
theorem AO.mono (hc:AO lo h v n w cs) (hn:h.next≤h'.next) (hg:∀ i,lo≤i→i<h.next→h'.get i=h.get i):AO lo h' v n w cs:=by
 obtain⟨hl,a,c,rfl,h1 | ⟨id,off,row,ty,g,ro,rfl,h1,h2,h3⟩⟩:=hc
 ·exact⟨hl,_,_,rfl,.inl h1⟩
 ·exact⟨hl,_,_,rfl,.inr ⟨id,off,row,ty,g,ro,rfl,by rw[hg id h2.1 h2.2];exact h1,by omega,h3⟩⟩
theorem AO.weak (hc:AO lo h v n w cs) {lo':Nat} (hl:lo'≤lo):AO lo' h v n w cs:=by
 obtain⟨hl',a,c,rfl,h1 | ⟨id,off,row,ty,g,ro,rfl,h1,h2,h3⟩⟩:=hc
 ·exact⟨hl',_,_,rfl,.inl h1⟩
 ·exact⟨hl',_,_,rfl,.inr ⟨id,off,row,ty,g,ro,rfl,h1,by omega,h3.1,fun h=>h3.2 (by omega)⟩⟩
theorem AO.len (hc:AO lo h v n w cs) {t e:TypeId} (ht:Tryd.prog.underlying t=some (.slice e)) {h':AA}:C7 Tryd.prog h' t v=some (iv (n:Int)):=by
 obtain⟨_,a,c,rfl,_⟩:=hc
 simp[C7,ht]
theorem AO.idx (hc:AO lo h v n w cs) {t e:TypeId} (ht:Tryd.prog.underlying t=some (.slice e)) (he:BI Tryd.prog e=some w) {i:Nat} (hi:i<n) :
  ∃ id p,CQ Tryd.prog t v (iv (i:Int))=some (qP id p)∧id<h.next∧∀ j,j<w→AJ (p+j) (h.get id)=cs[i*w+j]?:=by
 obtain⟨hl,a,c,rfl,⟨h0,_⟩ | ⟨id,off,row,ty,g,ro,rfl,h1,h2,h3⟩⟩:=hc
 ·omega
 ·refine⟨id,off+i*w,?_,h2.2,fun j hj=>?_⟩
  ·simp only[CQ,ht,he,CI]
   rw[if_pos (by omega)]
   simp
  ·have hlt:i*w+j<n*w:=by
    have:(i+1)*w≤n*w:=Nat.mul_le_mul_right w hi
    rw[Nat.add_mul] at this
    omega
   rw[h1,← h3.1,List.getElem?_take_of_lt hlt,List.getElem?_drop]
   simp only[AJ]
   congr 1
   omega
theorem AO.whole (hc:AO lo h v n w cs) {t e:TypeId} (ht:Tryd.prog.underlying t=some (.slice e)) (he:BI Tryd.prog e=some w) {i:Nat} (hi:i<n) :
  ∃ id p,CQ Tryd.prog t v (iv (i:Int))=some (qP id p)∧id<h.next∧AY w p (h.get id)=some (.agg ((cs.drop (i*w)).take w).toArray):=by
 obtain⟨hl,a,c,rfl,⟨h0,_⟩ | ⟨id,off,row,ty,g,ro,rfl,h1,h2,h3⟩⟩:=hc
 ·omega
 ·have hle:i*w+w≤n*w:=by
   have:(i+1)*w≤n*w:=Nat.mul_le_mul_right w hi
   rw[Nat.add_mul] at this
   omega
  have e1:(cs.drop (i*w)).take w=(row.drop (off+i*w)).take w:=by
   rw[← h3.1,List.drop_take,List.drop_drop,List.take_take]
   congr 1
   omega
  have e2:((cs.drop (i*w)).take w).length=w:=by
   rw[List.length_take,List.length_drop,hl]
   omega
  refine⟨id,off+i*w,?_,h2.2,?_⟩
  ·simp only[CQ,ht,he,CI]
   rw[if_pos (by omega)]
   simp
  ·rw[h1]
   simp only[AY,FN,← e1,e2,if_true]
theorem AO.src (hc:AO lo h v n w cs):DZ h w n v=some cs:=by
 obtain⟨hl,a,c,rfl,⟨h0,rfl⟩ | ⟨id,off,row,ty,g,ro,rfl,h1,h2,h3⟩⟩:=hc
 ·subst h0
  rw[Nat.zero_mul] at hl
  rw[List.length_eq_zero_iff.1 hl]
  rfl
 ·by_cases h0:n=0
  ·subst h0
   rw[Nat.zero_mul] at hl
   rw[List.length_eq_zero_iff.1 hl]
   simp[DZ]
  ·simp only[DZ,h0,if_false,h1,FN,h3.1,hl,if_true]
theorem AO.nil (lo:Nat) (h:AA) (w:Nat):AO lo h (Z0) 0 w []:=⟨by simp,none,0,rfl,.inl ⟨rfl,rfl⟩⟩
theorem AO.rowR {r:Nat} {ty:TypeId} {g ro:Bool} {ex:List Value} {c:Nat} (hg:h.get r=.row (cs++ex) ty g ro) (hr:lo≤r∧r<h.next) (hl:cs.length=n*w) (hro:0<lo→ro=false):AO lo h (qS r n c) n w cs:=
 ⟨hl,_,_,rfl,.inr ⟨r,0,_,_,_,_,rfl,hg,hr,by rw[List.drop_zero,List.take_append_of_le_length (by omega),List.take_of_length_le (by omega)],hro⟩⟩
theorem AO.row {r:Nat} {ty:TypeId} {g:Bool} {ex:List Value} {c:Nat} (hg:h.get r=.row (cs++ex) ty g false) (hr:lo≤r∧r<h.next) (hl:cs.length=n*w):AO lo h (qS r n c) n w cs:=AO.rowR hg hr hl fun _=>rfl
theorem AO.one (hc:AO lo h v n w cs):one v=true:=by
 obtain⟨_,a,c,rfl,_⟩:=hc
 rfl
theorem FC.cells {tag:Nat→Nat} {j:Nat} {ty:TypeId} (hs:FC h lo tag j v n cs ty) (hl:cs.length=n*w):AO lo h v n w cs:=by
 rcases hs with⟨rfl,rfl,rfl⟩ | ⟨id,ex,rfl,h2,h3,h4,h5⟩
 ·exact AO.nil lo h w
 ·exact AO.row h2 ⟨h3,h4⟩ hl
end
def AV (lo:Nat) (h:AA) (v:Value) (l:List Int):Prop:=AO lo h v l.length 1 (ints l)
section
variable {lo:Nat} {h h':AA} {v:Value} {l:List Int}
theorem AV.mono (hc:AV lo h v l) (hn:h.next≤h'.next) (hg:∀ i,lo≤i→i<h.next→h'.get i=h.get i):AV lo h' v l:=AO.mono hc hn hg
theorem AV.weak (hc:AV lo h v l) {lo':Nat} (hl:lo'≤lo):AV lo' h v l:=AO.weak hc hl
theorem AV.len (hc:AV lo h v l) {h':AA}:C7 Tryd.prog h' 27 v=some (iv (l.length:Int)):=AO.len hc Tryd.underlying27
theorem AV.get (hc:AV lo h v l) {i:Nat} {x:Int} (hx:l[i]?=some x):∃ id p,CQ Tryd.prog 27 v (iv (i:Int))=some (qP id p)∧id<h.next∧AJ p (h.get id)=some (iv x):=by
 obtain⟨id,p,h1,h2,h3⟩:=AO.idx hc Tryd.underlying27 C4 (List.getElem?_eq_some_iff.1 hx).1
 refine⟨id,p,h1,h2,?_⟩
 have:=h3 0 (by decide)
 rw[Nat.add_zero] at this
 rw[this,Nat.mul_one,Nat.add_zero,Y6,hx]
 rfl
theorem AV.row {r:Nat} {ty:TypeId} {g:Bool} {ex:List Value} {c n:Nat} (hg:h.get r=.row (ints l++ex) ty g false) (hr:lo≤r∧r<h.next) (hn:n=l.length):AV lo h (qS r n c) l:=by
 subst hn
 exact AO.row hg hr (by rw[GK,Nat.mul_one])
theorem AV.row' {r:Nat} {ty:TypeId} {g:Bool} {c n:Nat} (hg:h.get r=.row (ints l) ty g false) (hr:lo≤r∧r<h.next) (hn:n=l.length):AV lo h (qS r n c) l:=AV.row (ex:=[]) (by rw[List.append_nil];exact hg) hr hn
end
def HF (lo:Nat) (h:AA) (v:Value) (l:List AB):Prop:=A9 h v l∧AO lo h v l.length 5 (l.flatMap AX)
theorem HF.of {lo:Nat} {h:AA} {v:Value} {l:List AB} (hc:AO lo h v l.length 5 (l.flatMap AX)):HF lo h v l:=by
 refine⟨?_,hc⟩
 obtain⟨hl,a,c,rfl,⟨h0,rfl⟩ | ⟨id,off,row,ty,g,ro,rfl,h1,h2,h3⟩⟩:=hc
 ·exact⟨_,_,rfl,.inl ⟨List.length_eq_zero_iff.1 h0,rfl⟩⟩
 ·refine⟨_,_,rfl,.inr ⟨id,off,row,ty,g,ro,rfl,h1,h2.2,fun k r hk=>?_⟩⟩
  have hlt:=(List.getElem?_eq_some_iff.1 hk).1
  rw[← PL hk,← h3.1,List.drop_take,List.drop_drop,List.take_take]
  congr 1
  have:k*5+5≤l.length*5:=by omega
  omega
theorem HF.mono {lo:Nat} {h h':AA} {v:Value} {l:List AB} (hc:HF lo h v l) (hn:h.next≤h'.next) (hg:∀ i,lo≤i→i<h.next→h'.get i=h.get i):HF lo h' v l:=HF.of (hc.2.mono hn hg)
theorem A9.cells {h:AA} {v:Value} {l:List AB} (hv:A9 h v l):HF 0 h v l:=by
 have hs:=KA l
 refine HF.of ⟨hs,?_⟩
 obtain⟨a,c,rfl,⟨rfl,rfl⟩ | ⟨id,off,cs,ty,g,ro,rfl,hg,hid,hc⟩⟩:=hv
 ·exact⟨_,_,rfl,.inl ⟨rfl,rfl⟩⟩
 ·exact⟨_,_,rfl,.inr ⟨id,off,cs,ty,g,ro,rfl,hg,⟨Nat.zero_le _,hid⟩,XX l cs off hc,fun h=>absurd h (Nat.lt_irrefl 0)⟩⟩
def CE (lo:Nat) (h:AA) (pv:Value) (nm:ByteArray) (s:AL):Prop:=
 ∃ vr vq vv vt vu vo,pv=.agg #[.string nm,vr,vq,vv,vt,vu,vo,iv s.miss]∧HF lo h vr s.rows∧AO lo h vq s.queues.length 2 (DC s.queues)∧AO lo h vv s.vars.length 1 (DE s.vars)∧AO lo h vt s.tags.length 1 (DE s.tags)∧AV lo h vu s.rules∧AV lo h vo s.on
theorem CE.mono {lo:Nat} {h h':AA} {pv:Value} {nm:ByteArray} {s:AL} (hp:CE lo h pv nm s) (hn:h.next≤h'.next) (hg:∀ i,lo≤i→i<h.next→h'.get i=h.get i):CE lo h' pv nm s:=by
 obtain⟨vr,vq,vv,vt,vu,vo,h1,h2,h3,h4,h5,h6,h7⟩:=hp
 exact⟨vr,vq,vv,vt,vu,vo,h1,h2.mono hn hg,h3.mono hn hg,h4.mono hn hg,h5.mono hn hg,h6.mono hn hg,h7.mono hn hg⟩
theorem A9.one {h:AA} {v:Value} {l:List AB} (hv:A9 h v l):one v=true:=by
 obtain⟨a,c,rfl,_⟩:=hv
 rfl
section
variable {call:AM} {N:Nat} {h:AA}
end
theorem TG {P:Program} {call:AM} {n:Nat} {f:FuncId} {args:List Value} {h:AA} {fn:Func} {c:Code} {R:Value→AA→Prop} (hf:P.funcs[f]?=some fn) (hb:fn.body=some c) (hl:args.length≤fn.ntmps)
  (hw:WK P call n c ⟨HY 0 args .leaf,h⟩ (.top fun e s=>(e=.normal∨e=.ret)∧∃ vs,FU P s fn.results.toList=some vs∧R (HZ vs) s.h)):∃ v h',A7 P call n f args h=some (v,h')∧R v h':=aE hf hb hl hw
def blk (rows:List AB) (E:List Int) (row:Nat):List AB:=(rows.drop row).take (((E[row]?).getD 0).toNat-row)
theorem OZ.end {rows:List AB} {E rules:List Int} (hL:OZ rows E rules) {i:Nat} (hi:i<rows.length):∃ q:Nat,E[i]?=some (q:Int)∧i≤q∧q≤rows.length∧blk rows E i=(rows.drop i).take (q-i):=by
 obtain⟨q,h1,h2,h3⟩:=hL.ends i hi
 exact⟨q,h1,by omega,h3,by unfold blk;rw[h1];rfl⟩
section
variable {call:AM} {N:Nat} {h:AA}
end
theorem xQ {k:Int} (h:BO k≠0):EE k=0∧HD k=false:=by
 have:k=2∨k=3∨k=4∨k=5∨k=7:=by
  unfold BO at h
  split at h
  ·rename_i h1
   simp only[List.contains_cons,List.contains_nil,Bool.or_false,Bool.or_eq_true,beq_iff_eq] at h1
   omega
  ·split at h
   ·omega
   ·split at h
    ·omega
    ·split at h
     ·omega
     ·exact absurd rfl h
 obtain rfl | rfl | rfl | rfl | rfl:=this <;> exact⟨rfl,rfl⟩
theorem nX {E:List Int} {at_:Nat} {s:AL} {x:AB} (hx:s.rows[at_]?=some x) (hd:BO x.kind≠0) :
  E2 E at_ s=if EZ x s≠0 then (EZ x s,s) else (0,BK at_ ((E[at_]?).getD 0) x s):=by
 obtain⟨hc,he⟩:=xQ hd
 unfold E2
 rw[hx]
 simp only
 split
 ·rfl
 ·have hr:(BK at_ ((E[at_]?).getD 0) x s).rows[at_]?=some { x with n:=(BV s (BO x.kind):Int) }:=by
   rw[V6,if_neg hd]
   exact JY hx
  rw[hr]
  simp only
  have h1:DL at_ { x with n:=(BV s (BO x.kind):Int) } (BK at_ ((E[at_]?).getD 0) x s)=0:=by unfold DL;rw[if_pos hc]
  have h2:B0 at_ { x with n:=(BV s (BO x.kind):Int) } (BK at_ ((E[at_]?).getD 0) x s)=BK at_ ((E[at_]?).getD 0) x s:=by unfold B0;rw[if_pos hc]
  rw[h1,h2,hr,if_neg (by simp)]
  simp only
  have h3:E8 { x with n:=(BV s (BO x.kind):Int) } (BK at_ ((E[at_]?).getD 0) x s)=0:=by unfold E8;rw[if_pos he]
  have h4:D9 at_ { x with n:=(BV s (BO x.kind):Int) } (BK at_ ((E[at_]?).getD 0) x s)=BK at_ ((E[at_]?).getD 0) x s:=by unfold D9;rw[if_pos he]
  rw[h3,h4,if_neg (by simp)]
theorem k9 {E:List Int} {at_:Nat} {s:AL} {x:AB} (hx:s.rows[at_]?=some x) (hd:BO x.kind=0) :
  E2 E at_ s=if DL at_ x s≠0 then (DL at_ x s,s) else match (B0 at_ x s).rows[at_]? with
   | none=>(0,s)
   | some x2=>if E8 x2 (B0 at_ x s)≠0 then (E8 x2 (B0 at_ x s),s) else (0,D9 at_ x2 (B0 at_ x s)):=by
 have h1:EZ x s=0:=by unfold EZ;rw[if_pos hd]
 have h2:BK at_ ((E[at_]?).getD 0) x s=s:=by unfold BK;rw[if_pos hd]
 unfold E2
 rw[hx]
 simp only
 rw[h1,h2,hx,if_neg (by simp)]
 all_goals rfl
theorem YO {at_:Nat} {s:AL} {x:AB} (hx:s.rows[at_]?=some x) (hc:DL at_ x s=0) :
  ∃ n,(B0 at_ x s).rows[at_]?=some { x with n:=n }∧(∀ i,i≠at_→(B0 at_ x s).rows[i]?=s.rows[i]?)∧(B0 at_ x s).rules=s.rules∧(B0 at_ x s).on=s.on∧(B0 at_ x s).things=s.things ∧
   ((EE x.kind=0∧n=x.n)∨∃ t∈s.things,t.kind=EE x.kind∧n=t.num∧t.known≤at_∧F2 s.things x.name=some t):=by
 unfold DL at hc
 unfold B0
 by_cases h0:EE x.kind=0
 ·rw[if_pos h0]
  exact⟨x.n,hx,fun _ _=>rfl,rfl,rfl,rfl,.inl ⟨h0,rfl⟩⟩
 ·rw [if_neg h0] at hc ⊢
  cases hf:F2 s.things x.name with
  | none=>rw[hf] at hc;cases hc
  | some t=>
   rw[hf] at hc
   simp only at hc ⊢
   refine⟨t.num,JY hx,fun i hi=>M3 hi,trivial,trivial,trivial,.inr ⟨t,Z4 hf,?_,rfl,?_,rfl⟩⟩
   ·split at hc
    ·cases hc
    ·split at hc
     ·cases hc
     ·rename_i h;simpa using h
   ·split at hc
    ·cases hc
    ·omega
section
variable {call:AM} {N:Nat} {h:AA}
theorem Ct {k:Int}:A7 Tryd.prog call N 49 [iv k] h=some (iv (I2 k),h):=by
 refine DG Tryd.func49 rfl (by simp[Tryd.f49]) ?_
 have hr:Tryd.f49.results.toList=[.tmp 2]:=rfl
 unfold I2
 by_cases h1:k=1
 ·have c1:(k==1)=true:=by simpa using h1
  rw[if_pos h1]
  simp only[eE,seval,↓eP,rP,hr,c1]
 have c1:(k==1)=false:=by simpa using h1
 rw[if_neg h1]
 by_cases h2:k=2
 ·have c2:(k==2)=true:=by simpa using h2
  rw[if_pos h2]
  simp only[eE,seval,↓eP,rP,hr,c1,c2]
 have c2:(k==2)=false:=by simpa using h2
 rw[if_neg h2]
 by_cases h3:k=3
 ·have c3:(k==3)=true:=by simpa using h3
  rw[if_pos h3]
  simp only[eE,seval,↓eP,rP,hr,c1,c2,c3]
 have c3:(k==3)=false:=by simpa using h3
 rw[if_neg h3]
 simp only[eE,seval,↓eP,rP,hr,c1,c2,c3]
end
theorem Cv (k:Int) (h:AA):L1 49 [iv k] h=some (iv (I2 k),h):=KG (IJ rfl rfl) rfl rfl rfl ⟨_,Ct⟩
section
variable {n lo m e r k:Nat} {h:AA} {nm:ByteArray} {E:List Int} {s:AL}
end
section
variable {n:Nat} {h:AA} {rows:List AB} {E rules:List Int} {vr v0 vq vv vt vu vo v7 ve:Value}
end
def sZ:AL:=⟨[],[],[],[],[],[],0,[]⟩
def K4 (l:List AB):ByteArray:=match l[0]? with
 | some x=>x.name
 | none=>ByteArray.empty
noncomputable def DT (l:List AB):ByteArray × AL:=if (BJ l).1.1≠0 then (ByteArray.empty,sZ) else (K4 l,(BJ l).2)
abbrev QN:Value:=.agg #[.string ByteArray.empty,Z0,Z0,Z0,Z0,Z0,Z0,iv 0]
theorem Iv (lo:Nat) (h:AA):CE lo h QN ByteArray.empty sZ:=
 ⟨_,_,_,_,_,_,rfl,HF.of (AO.nil lo h 5),AO.nil lo h 2,AO.nil lo h 1,AO.nil lo h 1,AO.nil lo h 1,AO.nil lo h 1⟩
theorem JQ {t:TypeId} {k:Nat} (ht:BI Tryd.prog t=some k) {h:AA} {id:Nat} {vs cs:List Value} {ty:TypeId} {g:Bool} (hg:h.get id=.row cs ty g false) (hl:cs.length=k) (hn:vs.length=k) (ho:vs.all one=true) (hf:h.floor≤id) :
  BC Tryd.prog h t (qP id 0) (.agg vs.toArray)=some (h.put id (.row vs ty g false)):=by
 have hc:(Value.agg vs.toArray).cells=vs.toArray:=rfl
 have hlay:Go.Sx.lay cs 0 vs=vs:=by
  simp only[Go.Sx.lay,List.take_zero,List.nil_append,Nat.zero_add]
  rw[List.drop_of_length_le (by omega),List.append_nil]
 simp only[BC,hc,ht,GB,hg]
 rw[if_pos (by simp[hn]),if_pos (by simp only[ho];simp;omega),hlay]
theorem MS:C6 Tryd.prog 33=some QN:=wO
theorem MV:flat QN=true:=rfl
theorem VW:H_ Tryd.prog (match Tryd.prog.underlying 33 with | some (.struct fs)=>fs.toList | _=>[])=some [(0,1),(1,1),(2,1),(3,1),(4,1),(5,1),(6,1),(7,1)]:=by kernel_rfl
theorem ZV:C_ Tryd.prog 33 []=some QN:=by
 have h:=VW
 rw[Tryd.underlying33] at h
 simp only at h
 simp only[C_,MS,MV,if_true,Tryd.underlying33,h]
 rfl
theorem tX:BI Tryd.prog 34=some 1:=by kernel_rfl
theorem De:FB Tryd.prog 34=some false:=by kernel_rfl
theorem EV {h:AA} {id off:Nat}:EA Tryd.prog h 34 (qP id off)=AJ off (h.get id):=KR De
theorem EW {id off:Nat}:BF Tryd.prog 36 (qP id off) 0=some (qP id off):=by simp[BF,Tryd.underlying36,tX,CI]
theorem bX {id off:Nat}:BF Tryd.prog 36 (qP id off) 1=some (qP id (off+1)):=by simp[BF,Tryd.underlying36,C4,CI]
def HU (a:Nat) (H:AA) (pcs:List Value) (e p:Int):Prop:=H.get a=.row pcs 33 false false∧H.get (a+1)=.row [iv e,iv p] 36 false false
section
variable {N:Nat} {call:AM}
end
noncomputable def WH:Code:=rt (rt (Tryd.f13.body.getD .skip))
noncomputable def Bi:Code:=rt WH
noncomputable def Fd:Code:=rt Bi
noncomputable def Dn:Code:=rt Fd
noncomputable def UJ:Code:=rt Dn
noncomputable def VC:Code:=rt UJ
noncomputable def dY:Array Oper:=D2 Tryd.f13 3
def Cu:List (Bool × Bool × List Operand):=[AQ,AK,AH [.tmp 4],AK]
theorem yY:DU dY=Cu:=by kernel_rfl
noncomputable def j8:Array Oper:=D2 Tryd.f13 5
def Ch:List (Bool × Bool × List Operand):=[EX,F3 [.tmp 5],F3 [.tmp 5],F3 [.tmp 5],F3 [.tmp 5],AH [.tmp 5,.tmp 27],AH [.tmp 5,.tmp 27],AH [.tmp 5],AK,AK,AK]
theorem sX:DU j8=Ch:=by kernel_rfl
theorem Hj {t:TypeId} {k:Nat} (ht:BI Tryd.prog t=some k) {h:AA} {id:Nat} {vs cs:List Value} {ty:TypeId} {g:Bool} (hg:h.get id=.row cs ty g false) (hl:k≤cs.length) (hn:vs.length=k) (ho:vs.all one=true) (hf:h.floor≤id) :
  BC Tryd.prog h t (qP id 0) (.agg vs.toArray)=some (h.put id (.row (vs++cs.drop k) ty g false)):=by
 have hc:(Value.agg vs.toArray).cells=vs.toArray:=rfl
 have hlay:Go.Sx.lay cs 0 vs=vs++cs.drop k:=by
  simp only[Go.Sx.lay,List.take_zero,List.nil_append,Nat.zero_add,hn]
 simp only[BC,hc,ht,GB,hg]
 rw[if_pos (by simp[hn]),if_pos (by simp only[ho];simp;omega),hlay]
theorem Er {nm:ByteArray} {a:Option Addr} {n c:Nat} {m:Int}:C_ Tryd.prog 33 [(0,.string nm),(1,.slice a n c),(7,iv m)]=some (.agg #[.string nm,.slice a n c,Z0,Z0,Z0,Z0,Z0,iv m]):=by
 have h:=VW
 rw[Tryd.underlying33] at h
 simp only at h
 simp only[C_,MS,MV,if_true,Tryd.underlying33,h]
 rfl
theorem Gk:H_ Tryd.prog (match Tryd.prog.underlying 69 with | some (.struct fs)=>fs.toList | _=>[])=some [(0,8),(8,1),(9,1)]:=by kernel_rfl
theorem sQ:C6 Tryd.prog 69=some (.agg #[.string ByteArray.empty,Z0,Z0,Z0,Z0,Z0,Z0,iv 0,.map none,.map none]):=by kernel_rfl
abbrev qG (k c:Nat):Value:=.agg #[.string ByteArray.empty,Z0,Z0,Z0,Z0,Z0,Z0,iv 0,.map (some k),.map (some c)]
theorem rT {k c:Nat}:C_ Tryd.prog 69 [(1,.map (some k)),(2,.map (some c))]=some (qG k c):=by
 have h:=Gk
 rw[Tryd.underlying69] at h
 simp only at h
 have hf:flat (.agg #[.string ByteArray.empty,Z0,Z0,Z0,Z0,Z0,Z0,iv 0,.map none,.map none])=true:=rfl
 simp only[C_,sQ,hf,if_true,Tryd.underlying69,h]
 rfl
theorem jB:BI Tryd.prog 73=some 1:=by kernel_rfl
theorem Jz:FB Tryd.prog 73=some false:=by kernel_rfl
theorem sJ:C6 Tryd.prog 73=some .nilFunc:=by kernel_rfl
theorem Kp:C6 Tryd.prog 65=some (.pointer none):=by kernel_rfl
theorem sH:C6 Tryd.prog 27=some (Z0):=by kernel_rfl
theorem mU {h:AA} {id off:Nat}:EA Tryd.prog h 73 (qP id off)=AJ off (h.get id):=KR Jz
theorem xE {h:AA} {f0 f1 f2:FuncId} {a0 a1 a2 b0 b1 b2:Array Value}:FO Tryd.prog h 74 3 [(0,.func (.func f0) a0 b0),(1,.func (.func f1) a1 b1),(2,.func (.func f2) a2 b2)]=some (qS h.next 3 3,h.push (.row [.func (.func f0) a0 b0,.func (.func f1) a1 b1,.func (.func f2) a2 b2] 73 false false)):=by
 have hc:∀ (f:FuncId) (a b:Array Value),(Value.func (.func f) a b).cells=#[.func (.func f) a b]:=fun _ _ _=>rfl
 have hz:Value.nilFunc.cells=#[.nilFunc]:=rfl
 simp[FO,Tryd.underlying74,jB,sJ,flat,BL,hc,hz,I5,BW,Go.Sx.lay]
theorem Lq {h:AA} {id c i:Nat} (hi:i<3):CQ Tryd.prog 74 (qS id 3 c) (iv (i:Int))=some (qP id i):=by
 simp only[CQ,Tryd.underlying74,jB,CI]
 rw[if_pos (by omega)]
 simp
theorem Dq {h:AA} {a:Option Addr} {n c:Nat}:C7 Tryd.prog h 74 (.slice a n c)=some (iv (n:Int)):=by simp[C7,Tryd.underlying74]
section
variable {N:Nat} {call:AM}
theorem Hb (hsn:CA call) {l:List AB} {v:Value} {h:AA} {K:CO} (hfl:h.floor≤h.next) (hv:A9 h v l)
  (hg:h.get 0=CT) (hn0:0<h.next)
  (hchk:∀ H,A9 H v l→H.get 0=CT→0<H.next→H.floor≤H.next→call 27 [v] H=some (BR (CY l).1 (CY l).2,H))
  (hk1:(CY l).1≠0→∀ T' H,T'.get 2=qP h.next 0→T'.get 3=qP (h.next+1) 0→HU h.next H CW (CY l).1 (CY l).2 →
   h.next+2≤H.next→H.floor=h.floor→(∀ i,i<h.next→H.get i=h.get i)→K.ap Tryd.prog call N .ret ⟨T',H⟩)
  (hk2:(CY l).1=0→∀ T' H,T'.get 0=v→T'.get 2=qP h.next 0→T'.get 3=qP (h.next+1) 0→HU h.next H CW 0 0 →
   h.next+2≤H.next→H.floor=h.floor→(∀ i,i<h.next→H.get i=h.get i)→WK Tryd.prog call N WH ⟨T',H⟩ K) :
  WK Tryd.prog call N (Tryd.f13.body.getD .skip) ⟨HY 0 [v] .leaf,h⟩ K:=by
 show WK _ _ _ (.seq _ (.seq _ WH)) _ _
 have QA:=E1 CW
 have ho2:∀ i,i<h.next→((h.push (.row CW 33 false false)).push (.row [iv 0,iv 0] 36 false false)).get i=h.get i:=fun i hi=>by rw[AR (by show i<h.next+1;omega),AR hi]
 have hc:=hchk ((h.push (.row CW 33 false false)).push (.row [iv 0,iv 0] 36 false false)) (hv.mono (by show h.next≤h.next+1+1;omega) ho2) ((ho2 0 hn0).trans hg) (by show 0<h.next+1+1;omega) (by show h.floor≤h.next+1+1;omega)
 have ga:=OI (h:=h) (o:=.row CW 33 false false) (o':=.row [iv 0,iv 0] 36 false false)
 have gb:=OM (h:=h) (o:=.row CW 33 false false) (o':=.row [iv 0,iv 0] 36 false false)
 simp only[eE,seval,↓eP,FW,FD,FY,MS,MV,QA,DK,DJ,EO]
 generalize hH2:(h.push (.row CW 33 false false)).push (.row [iv 0,iv 0] 36 false false)=H2 at *
 have hn2:H2.next=h.next+1+1:=by rw[← hH2];rfl
 have hf2:H2.floor=h.floor:=by rw[← hH2];rfl
 have sF:=JQ (t:=36) IS (h:=H2.push (.row [iv 0,iv 0] 36 false false)) (vs:=[iv (CY l).1,iv (CY l).2]) BP rfl rfl rfl (by show H2.floor≤H2.next;omega)
 simp only[eE,seval,↓eP,FW,FD,FY,hc,DK,DJ,EO,sF]
 have hg4:((H2.push (.row [iv 0,iv 0] 36 false false)).put H2.next (.row [iv (CY l).1,iv (CY l).2] 36 false false)).get H2.next=.row [iv (CY l).1,iv (CY l).2] 36 false false:=B_ rfl (by show H2.next<H2.next+1;omega)
 have hga:((H2.push (.row [iv 0,iv 0] 36 false false)).put H2.next (.row [iv (CY l).1,iv (CY l).2] 36 false false)).get h.next=.row CW 33 false false:=by
  rw[AW (by show H2.next<H2.next+1;omega) (by omega),AR (by omega)];exact ga
 have hgb:((H2.push (.row [iv 0,iv 0] 36 false false)).put H2.next (.row [iv (CY l).1,iv (CY l).2] 36 false false)).get (h.next+1)=.row [iv 0,iv 0] 36 false false:=by
  rw[AW (by show H2.next<H2.next+1;omega) (by omega),AR (by omega)];exact gb
 have hgo:∀ i,i<h.next→((H2.push (.row [iv 0,iv 0] 36 false false)).put H2.next (.row [iv (CY l).1,iv (CY l).2] 36 false false)).get i=h.get i:=fun i hi=>by
  rw[AW (by show H2.next<H2.next+1;omega) (by omega),AR (by omega)];exact ho2 i hi
 have hn3:((H2.push (.row [iv 0,iv 0] 36 false false)).put H2.next (.row [iv (CY l).1,iv (CY l).2] 36 false false)).next=h.next+3:=by show H2.next+1=_;omega
 have hf3:((H2.push (.row [iv 0,iv 0] 36 false false)).put H2.next (.row [iv (CY l).1,iv (CY l).2] 36 false false)).floor=h.floor:=hf2
 generalize (H2.push (.row [iv 0,iv 0] 36 false false)).put H2.next (.row [iv (CY l).1,iv (CY l).2] 36 false false)=H3 at *
 have l4:AJ 0 (H3.get H2.next)=some (iv (CY l).1):=by rw[hg4];rfl
 cases d:((CY l).1 != 0) with
 | false=>
  have e0:(CY l).1=0:=by simpa using d
  simp only[eE,seval,↓eP,FW,M6,FD,FY,EW,EV,l4,d]
  refine hk2 e0 _ _ ?_ ?_ ?_ ⟨hga,hgb⟩ (by omega) hf3 hgo <;> simp only[eE,seval,↓eP,rP]
 | true=>
  have e0:(CY l).1≠0:=by simpa using d
  have l42:AY 2 0 (H3.get H2.next)=some (BR (CY l).1 (CY l).2):=by rw[hg4];rfl
  have sP:=JQ HT (vs:=CW) hga rfl rfl rfl (by omega)
  have hgb':=(AW (h:=H3) (i:=h.next) (j:=h.next+1) (o:=.row CW 33 false false) (by omega) (by omega)).trans hgb
  have sF2:=JQ (t:=36) IS (vs:=[iv (CY l).1,iv (CY l).2]) hgb' rfl rfl rfl (by show H3.floor≤_;omega)
  have n1:(some H2.next != some h.next)=true:=by simp;omega
  have i1:CN (qP H2.next 0)=some H2.next:=rfl
  have i2:CN (qP h.next 0)=some h.next:=rfl
  simp only[eE,seval,↓eP,FW,M6,FD,FY,EW,EV,l4,d]
  refine WK.flags (ops:=dY) yY ?_
  refine CJ.begin ?_
  refine AG hsn 0 (some 18) (.build 33 #[]) none ?_
  simp only[rG,seval,AC,AF,AE,List.map_nil,ZV]
  refine AG hsn 1 (some 19) (.load 36 (.tmp 4)) none ?_
  simp only[rG,seval,AC,AF,AE,C0,CM,l42,i1]
  refine AG hsn 2 (none) (.store 33 (.tmp 2) (.tmp 18)) none ?_
  simp only[rG,seval,AC,AF,AE,CR,DD,i1,i2,n1,sP]
  refine AG hsn 3 (none) (.store 36 (.tmp 3) (.tmp 19)) none ?_
  simp only[rG,seval,AC,AF,AE,CR,DD,sF2]
  refine CJ.done (i:=4) (by kernel_rfl) ?_
  simp only[eE,seval,↓eP,FW,M6,FD,FY]
  have ha:∀ i,i≠h.next→(H3.put h.next (.row CW 33 false false)).get i=H3.get i:=fun i hi=>AW (by omega) (Ne.symm hi)
  refine hk1 e0 _ _ ?_ ?_ ⟨?_,B_ rfl (by show h.next+1<H3.next;omega)⟩ (by show h.next+2≤H3.next;omega) hf3 fun i hi=>?_
  ·simp only[eE,seval,↓eP,rP]
  ·simp only[eE,seval,↓eP,rP]
  ·rw[AW (by show h.next+1<H3.next;omega) (by omega)]
   exact B_ rfl (by omega)
  ·rw[AW (by show h.next+1<H3.next;omega) (by omega),ha i (by omega)]
   exact hgo i hi
structure XC (h:AA) (m e c5 c6 fl n:Nat) (E:List Int):Prop where
 h5:h.get c5=.row [qP m 0] 65 false false
 h6:h.get c6=.row [qS e n n] 27 false false
 hf:h.get fl=.row [.func (.func 30) #[] #[qP c5 0,qP c6 0],.func (.func 32) #[qP m 0] #[],.func (.func 33) #[qP m 0] #[]] 73 false false
theorem Da (hsn:CA call) {l:List AB} {v:Value} {T:Tr} {H:AA} {K:CO} (ht:CH l) (hlen:l.length<2932031007403) (hfl:H.floor≤H.next) (hv:A9 H v l) (t0:T.get 0=v)
  (hclone:∀ H,A9 H v l→∃ h',call 28 [v] H=some (qS (H.next+1) l.length AP,h')∧(h'.get (H.next+1)=.row (l.flatMap AX) 61 true false∧h'.next=H.next+2∧h'.floor=H.floor∧∀ i,i<H.next→h'.get i=H.get i))
  (hends:∀ H,A9 H v l→H.floor≤H.next→∃ h',call 29 [v] H=some (qS H.next l.length l.length,h')∧(h'.get H.next=.row (ints (BQ l)) 3 false false∧h'.next=H.next+1∧h'.floor=H.floor∧∀ i,i<H.next→h'.get i=H.get i))
  (hk:∀ T' H' m k c e r c5 c6 fl,T'.get 0=v→T'.get 2=T.get 2→T'.get 3=T.get 3→T'.get 5=qP c5 0→T'.get 6=qP c6 0→T'.get 7=qS fl 3 3 →
   EM H' H.next m k c e r l.length (K4 l) (BQ l) [c5,c6,fl] (CP l)→XC H' m e c5 c6 fl l.length (BQ l)→H.next≤H'.next→H'.floor=H.floor→(∀ i,i<H.next→H'.get i=H.get i)→WK Tryd.prog call N UJ ⟨T',H'⟩ K) :
  WK Tryd.prog call N WH ⟨T,H⟩ K:=by
 show WK _ _ _ (.seq _ (.seq (.region _ _ true) (.seq _ (.seq _ UJ)))) _ _
 have hpos:=ht.pos
 obtain⟨x,hx⟩:∃ x,l[0]?=some x:=⟨_,List.getElem?_eq_getElem hpos⟩
 have hnm:K4 l=x.name:=by unfold K4;rw[hx]
 have mc:(qG H.next (H.next+1)).cells.toList=[.string ByteArray.empty,Z0,Z0,Z0,Z0,Z0,Z0,iv 0,.map (some H.next),.map (some (H.next+1))]:=rfl
 have mo:([.string ByteArray.empty,Z0,Z0,Z0,Z0,Z0,Z0,iv 0,.map (some H.next),.map (some (H.next+1))]:List Value).all one=true:=rfl
 have z79:(Value.pointer none).cells.toList=[.pointer none]:=rfl
 have f79:flat (.pointer none)=true:=rfl
 have hst:BC Tryd.prog ((((H.push (.map [])).push (.map [])).push (.row [.string ByteArray.empty,Z0,Z0,Z0,Z0,Z0,Z0,iv 0,.map (some H.next),.map (some (H.next+1))] 69 false false)).push (.row [.pointer none] 65 false false)) 65 (qP (H.next+1+1+1) 0) (qP (H.next+1+1) 0)=_:=
  H0 (off:=0) zH rfl rfl (BP (h:=(((H.push (.map [])).push (.map [])).push (.row [.string ByteArray.empty,Z0,Z0,Z0,Z0,Z0,Z0,iv 0,.map (some H.next),.map (some (H.next+1))] 69 false false)))) (by decide) (by show H.floor≤H.next+1+1+1;omega)
 simp only[eE,seval,↓eP,FW,FD,FY,rT,mc,mo,Ft,Kp,z79,f79,hst]
 have n1:(((H.push (.map [])).push (.map [])).push (.row [.string ByteArray.empty,Z0,Z0,Z0,Z0,Z0,Z0,iv 0,.map (some H.next),.map (some (H.next+1))] 69 false false)).next=H.next+1+1+1:=rfl
 have P0:∀ i,i<H.next→((((H.push (.map [])).push (.map [])).push (.row [.string ByteArray.empty,Z0,Z0,Z0,Z0,Z0,Z0,iv 0,.map (some H.next),.map (some (H.next+1))] 69 false false)).push (.row [.pointer none] 65 false false)).get i=H.get i:=fun i hi=>by
  rw[AR (by show i<H.next+1+1+1;omega),AR (by show i<H.next+1+1;omega),AR (by show i<H.next+1;omega),AR hi]
 have P1:((((H.push (.map [])).push (.map [])).push (.row [.string ByteArray.empty,Z0,Z0,Z0,Z0,Z0,Z0,iv 0,.map (some H.next),.map (some (H.next+1))] 69 false false)).push (.row [.pointer none] 65 false false)).get H.next=.map []:=by
  rw[AR (by show H.next<H.next+1+1+1;omega),AR (by show H.next<H.next+1+1;omega)];exact OI
 have P2:((((H.push (.map [])).push (.map [])).push (.row [.string ByteArray.empty,Z0,Z0,Z0,Z0,Z0,Z0,iv 0,.map (some H.next),.map (some (H.next+1))] 69 false false)).push (.row [.pointer none] 65 false false)).get (H.next+1)=.map []:=by
  rw[AR (by show H.next+1<H.next+1+1+1;omega),AR (by show H.next+1<H.next+1+1;omega)];exact OM
 have P3:((((H.push (.map [])).push (.map [])).push (.row [.string ByteArray.empty,Z0,Z0,Z0,Z0,Z0,Z0,iv 0,.map (some H.next),.map (some (H.next+1))] 69 false false)).push (.row [.pointer none] 65 false false)).get (H.next+1+1)=.row [.string ByteArray.empty,Z0,Z0,Z0,Z0,Z0,Z0,iv 0,.map (some H.next),.map (some (H.next+1))] 69 false false:=by
  rw[AR (by show H.next+1+1<H.next+1+1+1;omega)];exact BP (h:=(H.push (.map [])).push (.map []))
 have nA:((((H.push (.map [])).push (.map [])).push (.row [.string ByteArray.empty,Z0,Z0,Z0,Z0,Z0,Z0,iv 0,.map (some H.next),.map (some (H.next+1))] 69 false false)).push (.row [.pointer none] 65 false false)).next=H.next+4:=rfl
 have fA:((((H.push (.map [])).push (.map [])).push (.row [.string ByteArray.empty,Z0,Z0,Z0,Z0,Z0,Z0,iv 0,.map (some H.next),.map (some (H.next+1))] 69 false false)).push (.row [.pointer none] 65 false false)).floor=H.floor:=rfl
 generalize (((H.push (.map [])).push (.map [])).push (.row [.string ByteArray.empty,Z0,Z0,Z0,Z0,Z0,Z0,iv 0,.map (some H.next),.map (some (H.next+1))] 69 false false)).push (.row [.pointer none] 65 false false)=A0 at *
 have Q:∀ i,i≠H.next+1+1+1→(A0.put (H.next+1+1+1) (.row ([Value.pointer none].set 0 (qP (H.next+1+1) 0)) 65 false false)).get i=A0.get i:=fun i hi=>AW (by omega) (Ne.symm hi)
 have a0:∀ i,i<H.next→(A0.put (H.next+1+1+1) (.row ([Value.pointer none].set 0 (qP (H.next+1+1) 0)) 65 false false)).get i=H.get i:=fun i hi=>by rw[Q i (by omega)];exact P0 i hi
 have a1:=(Q H.next (by omega)).trans P1
 have a2:=(Q (H.next+1) (by omega)).trans P2
 have a3:=(Q (H.next+1+1) (by omega)).trans P3
 have a4:(A0.put (H.next+1+1+1) (.row ([Value.pointer none].set 0 (qP (H.next+1+1) 0)) 65 false false)).get (H.next+1+1+1)=.row [qP (H.next+1+1) 0] 65 false false:=B_ rfl (by omega)
 have nB:(A0.put (H.next+1+1+1) (.row ([Value.pointer none].set 0 (qP (H.next+1+1) 0)) 65 false false)).next=H.next+4:=nA
 have fB:(A0.put (H.next+1+1+1) (.row ([Value.pointer none].set 0 (qP (H.next+1+1) 0)) 65 false false)).floor=H.floor:=fA
 generalize A0.put (H.next+1+1+1) (.row ([Value.pointer none].set 0 (qP (H.next+1+1) 0)) 65 false false)=A at *
 clear hst n1 P0 P1 P2 P3 nA fA Q A0
 have hvA:A9 A v l:=hv.mono (by omega) a0
 obtain⟨id,q,e0,hid,l0,l1,l2,l3,l4,lr⟩:=hvA.row hx
 have e0':CQ Tryd.prog 26 v (iv 0)=some (qP id q):=e0
 have hidT:(id<A.next)=True:=by simp[hid]
 have l79:AJ 0 (A.get (H.next+1+1+1))=some (qP (H.next+1+1) 0):=by rw[a4];rfl
 have hvf:A9 (A.fl (max A.floor A.next)) v l:=hvA.mono (Nat.le_refl _) fun _ _=>rfl
 obtain⟨h3,hE,g1,g2,g3,g4⟩:=hclone (A.fl (max A.floor A.next)) hvf
 simp only[GO] at hE g1 g2 g4
 have g4':∀ i,i<A.next→h3.get i=A.get i:=g4
 have hs30:BC Tryd.prog (h3.fl A.floor) 33 (qP (H.next+1+1) 0) (.agg #[.string x.name,qS (A.next+1) l.length AP,Z0,Z0,Z0,Z0,Z0,iv (-1)])=_:=
  Hj (vs:=[.string x.name,qS (A.next+1) l.length AP,Z0,Z0,Z0,Z0,Z0,iv (-1)]) HT (by rw[K8,g4' _ (by omega)];exact a3) (by simp only[List.length_cons,List.length_nil];omega) rfl rfl (by show A.floor≤_;omega)
 have i3:((H.next+1+1+1)<A.next)=True:=by simp;omega
 refine WK.flags (ops:=j8) sX ?_
 refine CJ.begin ?_
 refine AG hsn 0 (some 24) (.load 65 (.tmp 5)) none ?_
 simp only[rG,seval,AC,AF,AE,C0,l79,i3,S0]
 refine AG hsn 1 (some 25) (.move (.tmp 0)) none ?_
 simp only[rG,seval,AC,AF,AE,t0]
 refine AG hsn 2 (some 26) (.indexAddr 26 (.tmp 25) (.const (Value.int IntKind.i64 0))) none ?_
 simp only[rG,seval,AC,AF,AE,e0']
 refine AG hsn 3 (some 27) (.fieldAddr 61 (.tmp 26) 1) none ?_
 simp only[rG,seval,AC,AF,AE,LJ]
 refine AG hsn 4 (some 28) (.load 9 (.tmp 27)) none ?_
 simp only[rG,seval,AC,AF,AE,C0,hidT,GJ,l1]
 refine AG hsn 5 (some 29) (.move (.tmp 0)) none ?_
 simp only[rG,seval,AC,AF,AE,t0]
 refine AG hsn 6 (some 30) (.call { callee:=.value (.func 28),args:=#[.tmp 29],argTypes:=#[26] }) none ?_
 simp only[rG,seval,AC,AF,AE,DW,hE]
 refine AG hsn 7 (some 31) (.build 33 #[(0,.tmp 28),(1,.tmp 30),(7,.const (Value.int IntKind.i64 (-1)))]) none ?_
 simp only[rG,seval,AC,AF,AE,List.map_cons,List.map_nil,Er]
 refine AG hsn 8 (some 32) (.nilCheck (.tmp 24)) none ?_
 simp only[rG,seval,AC,AF,AE]
 refine AG hsn 9 (some 33) (.fieldAddr 69 (.tmp 32) 0) none ?_
 simp only[rG,seval,AC,AF,AE,IK]
 refine AG hsn 10 (none) (.store 33 (.tmp 33) (.tmp 31)) none ?_
 simp only[rG,seval,AC,AF,AE,CR,DD,hs30]
 refine CJ.done (i:=11) (by kernel_rfl) ?_
 have hgo:∀ i,i≠H.next+1+1→((h3.fl A.floor).put (H.next+1+1) (BA.row ([.string x.name,qS (A.next+1) l.length AP,Z0,Z0,Z0,Z0,Z0,iv (-1)]++List.drop 8 [.string ByteArray.empty,Z0,Z0,Z0,Z0,Z0,Z0,iv 0,.map (some H.next),.map (some (H.next+1))]) 69 false false)).get i=h3.get i:=fun i hi=>AW (by show _<h3.next;omega) (Ne.symm hi)
 have b0:∀ i,i<H.next→((h3.fl A.floor).put (H.next+1+1) (BA.row ([.string x.name,qS (A.next+1) l.length AP,Z0,Z0,Z0,Z0,Z0,iv (-1)]++List.drop 8 [.string ByteArray.empty,Z0,Z0,Z0,Z0,Z0,Z0,iv 0,.map (some H.next),.map (some (H.next+1))]) 69 false false)).get i=H.get i:=fun i hi=>by rw[hgo i (by omega),g4' i (by omega),a0 i hi]
 have b1:((h3.fl A.floor).put (H.next+1+1) (BA.row ([.string x.name,qS (A.next+1) l.length AP,Z0,Z0,Z0,Z0,Z0,iv (-1)]++List.drop 8 [.string ByteArray.empty,Z0,Z0,Z0,Z0,Z0,Z0,iv 0,.map (some H.next),.map (some (H.next+1))]) 69 false false)).get H.next=.map []:=by rw[hgo _ (by omega),g4' _ (by omega)];exact a1
 have b2:((h3.fl A.floor).put (H.next+1+1) (BA.row ([.string x.name,qS (A.next+1) l.length AP,Z0,Z0,Z0,Z0,Z0,iv (-1)]++List.drop 8 [.string ByteArray.empty,Z0,Z0,Z0,Z0,Z0,Z0,iv 0,.map (some H.next),.map (some (H.next+1))]) 69 false false)).get (H.next+1)=.map []:=by rw[hgo _ (by omega),g4' _ (by omega)];exact a2
 have b3:((h3.fl A.floor).put (H.next+1+1) (BA.row ([.string x.name,qS (A.next+1) l.length AP,Z0,Z0,Z0,Z0,Z0,iv (-1)]++List.drop 8 [.string ByteArray.empty,Z0,Z0,Z0,Z0,Z0,Z0,iv 0,.map (some H.next),.map (some (H.next+1))]) 69 false false)).get (H.next+1+1)=.row [.string x.name,qS (A.next+1) l.length AP,Z0,Z0,Z0,Z0,Z0,iv (-1),.map (some H.next),.map (some (H.next+1))] 69 false false:=B_ rfl (by show _<h3.next;omega)
 have b4:((h3.fl A.floor).put (H.next+1+1) (BA.row ([.string x.name,qS (A.next+1) l.length AP,Z0,Z0,Z0,Z0,Z0,iv (-1)]++List.drop 8 [.string ByteArray.empty,Z0,Z0,Z0,Z0,Z0,Z0,iv 0,.map (some H.next),.map (some (H.next+1))]) 69 false false)).get (H.next+1+1+1)=.row [qP (H.next+1+1) 0] 65 false false:=by rw[hgo _ (by omega),g4' _ (by omega)];exact a4
 have b5:((h3.fl A.floor).put (H.next+1+1) (BA.row ([.string x.name,qS (A.next+1) l.length AP,Z0,Z0,Z0,Z0,Z0,iv (-1)]++List.drop 8 [.string ByteArray.empty,Z0,Z0,Z0,Z0,Z0,Z0,iv 0,.map (some H.next),.map (some (H.next+1))]) 69 false false)).get (A.next+1)=.row (l.flatMap AX) 61 true false:=by rw[hgo _ (by omega)];exact g1
 have nW:((h3.fl A.floor).put (H.next+1+1) (BA.row ([.string x.name,qS (A.next+1) l.length AP,Z0,Z0,Z0,Z0,Z0,iv (-1)]++List.drop 8 [.string ByteArray.empty,Z0,Z0,Z0,Z0,Z0,Z0,iv 0,.map (some H.next),.map (some (H.next+1))]) 69 false false)).next=H.next+6:=by show h3.next=_;omega
 have fW:((h3.fl A.floor).put (H.next+1+1) (BA.row ([.string x.name,qS (A.next+1) l.length AP,Z0,Z0,Z0,Z0,Z0,iv (-1)]++List.drop 8 [.string ByteArray.empty,Z0,Z0,Z0,Z0,Z0,Z0,iv 0,.map (some H.next),.map (some (H.next+1))]) 69 false false)).floor=H.floor:=fB
 generalize (h3.fl A.floor).put (H.next+1+1) (BA.row ([.string x.name,qS (A.next+1) l.length AP,Z0,Z0,Z0,Z0,Z0,iv (-1)]++List.drop 8 [.string ByteArray.empty,Z0,Z0,Z0,Z0,Z0,Z0,iv 0,.map (some H.next),.map (some (H.next+1))]) 69 false false)=B at *
 have hvB:A9 B v l:=hv.mono (by omega) b0
 obtain⟨h4,hN,k1,k2,k3,k4⟩:=hends B hvB (by omega)
 have z28:(Z0).cells.toList=[Z0]:=rfl
 have f28:flat (Z0)=true:=rfl
 have hst:BC Tryd.prog (h4.push (.row [Z0] 27 false false)) 27 (qP h4.next 0) (qS B.next l.length l.length)=_:=H0 (off:=0) LH rfl rfl BP (by decide) (by show h4.floor≤h4.next;omega)
 have c0:∀ i,i≠h4.next→((h4.push (.row [Z0] 27 false false)).put h4.next (.row ([Z0].set 0 (qS B.next l.length l.length)) 27 false false)).get i=h4.get i:=fun i hi=>by rw[AW (by show h4.next<h4.next+1;omega) (Ne.symm hi),OC hi]
 have c6:((h4.push (.row [Z0] 27 false false)).put h4.next (.row ([Z0].set 0 (qS B.next l.length l.length)) 27 false false)).get h4.next=.row [qS B.next l.length l.length] 27 false false:=B_ rfl (by show h4.next<h4.next+1;omega)
 have nC:((h4.push (.row [Z0] 27 false false)).put h4.next (.row ([Z0].set 0 (qS B.next l.length l.length)) 27 false false)).next=H.next+8:=by show h4.next+1=_;omega
 have fC:((h4.push (.row [Z0] 27 false false)).put h4.next (.row ([Z0].set 0 (qS B.next l.length l.length)) 27 false false)).floor=H.floor:=by show h4.floor=_;omega
 simp only[eE,seval,↓eP,FW,FD,FY,t0,hN,sH,z28,f28,hst]
 generalize (h4.push (.row [Z0] 27 false false)).put h4.next (.row ([Z0].set 0 (qS B.next l.length l.length)) 27 false false)=C at *
 have l5:AJ 0 (C.get (H.next+1+1+1))=some (qP (H.next+1+1) 0):=by rw[c0 _ (by omega),k4 _ (by omega),b4];rfl
 simp only[eE,seval,↓eP,FW,FD,FY,S0,l5,List.map_toArray,xE]
 have D0:∀ (o:BA) i,i<C.next→(C.push o).get i=C.get i:=fun o i hi=>AR hi
 have D6:∀ (o:BA) i,i<B.next→(C.push o).get i=B.get i:=fun o i hi=>by rw[D0 o i (by omega),c0 i (by omega),k4 i hi]
 have n4:h4.next=H.next+7:=by omega
 refine hk _ _ (H.next+1+1) H.next (H.next+1) B.next (A.next+1) (H.next+1+1+1) h4.next C.next ?_ ?_ ?_ ?_ ?_ ?_ ⟨fun i=>if i=H.next+1+1 then 0 else if i=A.next+1 then 1 else if i=H.next then 8 else if i=H.next+1 then 9 else if i=B.next then 10 else 11,Z0,Z0,Z0,Z0,Z0,[],?_,?_,⟨by simp[CP],by simp[CP],by simp[CP],by simp[CP],rfl,fun t ht=>by cases ht⟩,fun i hi=>?_⟩ ⟨?_,?_,BP⟩ (by show H.next≤C.next+1;omega) (by show C.floor=H.floor;exact fC) fun i hi=>?_
 ·simp only[eE,seval,↓eP,rP,t0]
 ·simp only[eE,seval,↓eP,rP]
 ·simp only[eE,seval,↓eP,rP]
 ·simp only[eE,seval,↓eP,rP]
 ·simp only[eE,seval,↓eP,rP]
 ·simp only[eE,seval,↓eP,rP]
 ·exact
   { cell:=by rw[D6 _ _ (by omega),b3,hnm];rfl
     pol:=
      { rows:=by rw[D6 _ _ (by omega)];exact b5
        len:=rfl
        tr:=by rw[if_neg (by omega),if_pos rfl]
        lr:=⟨by omega,by show _<C.next+1;omega⟩
        q:=T9
        v:=T9
        t:=T9
        u:=T9
        o:=T9 }
     known:=by rw[D6 _ _ (by omega)];exact b1
     many:=by rw[D6 _ _ (by omega)];exact b2
     ends:=by rw[D0 _ _ (by omega),c0 _ (by omega)];exact k1
     tm:=if_pos rfl
     tk:=by rw[if_neg (by omega),if_neg (by omega),if_pos rfl]
     tc:=by rw[if_neg (by omega),if_neg (by omega),if_neg (by omega),if_pos rfl]
     te:=by rw[if_neg (by omega),if_neg (by omega),if_neg (by omega),if_neg (by omega),if_pos rfl]
     lm:=⟨by omega,by show _<C.next+1;omega⟩
     lk:=⟨Nat.le_refl _,by show _<C.next+1;omega⟩
     lc:=⟨by omega,by show _<C.next+1;omega⟩
     le:=⟨by omega,by show _<C.next+1;omega⟩
     fl:=by show C.floor≤H.next;omega }
 ·refine⟨fun p hp=>(by cases hp),fun k h1 h4=>?_⟩
  have:BV (CP l) k=0:=by unfold BV;(repeat' split) <;> rfl
  rw[if_pos this]
  rfl
 ·have hii:i=H.next+1+1+1∨i=h4.next∨i=C.next:=by simpa using hi
  refine⟨by show i<C.next+1;omega,?_⟩
  show 11≤(if i=H.next+1+1 then 0 else if i=A.next+1 then 1 else if i=H.next then 8 else if i=H.next+1 then 9 else if i=B.next then 10 else 11)
  rw[if_neg (by omega),if_neg (by omega),if_neg (by omega),if_neg (by omega),if_neg (by omega)]
  exact Nat.le_refl _
 ·rw[D6 _ _ (by omega)];exact b4
 ·rw[D0 _ _ (by omega)];exact c6
 ·rw[D6 _ _ (by omega)];exact b0 i hi
end
noncomputable def m9:Code:=inB (Hu Tryd.f13 1)
theorem HU.mono {a:Nat} {H H':AA} {cs:List Value} {e p:Int} (h:HU a H cs e p) (h0:H'.get a=H.get a) (h1:H'.get (a+1)=H.get (a+1)):HU a H' cs e p:=⟨h0.trans h.1,h1.trans h.2⟩
section
variable {N:Nat} {call:AM}
theorem SI {a:Nat} {H:AA} {cs:List Value} {e p:Int} (h:HU a H cs e p) (hl:cs.length=8) (ha:a+1<H.next) (hf:H.floor≤a) {cs':List Value} (hl':cs'.length=8) (ho':cs'.all one=true) {e' p':Int} :
  ∃ H',BC Tryd.prog H 33 (qP a 0) (.agg cs'.toArray)=some (H.put a (.row cs' 33 false false))∧BC Tryd.prog (H.put a (.row cs' 33 false false)) 36 (qP (a+1) 0) (BR e' p')=some H' ∧
   HU a H' cs' e' p'∧H'.next=H.next∧H'.floor=H.floor∧∀ i,i≠a→i≠a+1→H'.get i=H.get i:=by
 have s1:=JQ (k:=8) HT h.1 hl hl' ho' hf
 have hb:(H.put a (.row cs' 33 false false)).get (a+1)=.row [iv e,iv p] 36 false false:=by rw[AW (by omega) (by omega)];exact h.2
 have s2:=JQ (t:=36) (k:=2) IS (vs:=[iv e',iv p']) hb rfl rfl rfl (by show H.floor≤a+1;omega)
 refine⟨_,s1,s2,⟨?_,B_ rfl (by show a+1<H.next;omega)⟩,rfl,rfl,fun i hi hi'=>?_⟩
 ·rw[AW (by show a+1<H.next;omega) (by omega)]
  exact B_ rfl (by omega)
 ·rw[AW (by show a+1<H.next;omega) (by omega),AW (by omega) (by omega)]
theorem xI {at_ a fl lo m k c e r n:Nat} {nm:ByteArray} {E:List Int} {F:List Nat} {er:Nat→Int} {st:Nat→AL} {T:Tr} {H:AA} {K:CO} {fs:List Value}
  (t2:T.get 2=qP a 0) (t3:T.get 3=qP (a+1) 0) (t7:T.get 7=qS fl 3 3) (t44:T.get 44=iv at_)
  (hN:3<N) (hp:EM H lo m k c e r n nm E F (st 0)) (ha:a+1<lo) (hlo:lo≤H.next) (hout:HU a H CW 0 0) (hfa:H.floor≤a) (hfl:H.get fl=.row fs 73 false false) (hFl:fl∈F)
  (hlook:∀ i,i<3→∀ H1,EM H1 lo m k c e r n nm E F (st i)→FF H H1 lo F→(∀ j,j<i→er j=0)→∃ fid first cap H2,fs[i]?=some (.func (.func fid) first cap)∧call fid (first.toList++[iv at_]++cap.toList) H1=some (iv (er i),H2)∧FF H1 H2 lo F∧(er i=0→EM H2 lo m k c e r n nm E F (st (i+1))))
  (hbad:∀ i,i<3→er i≠0→(∀ j,j<i→er j=0)→∀ T' H',T'.get 2=qP a 0→T'.get 3=qP (a+1) 0→HU a H' CW (er i) at_→H.next≤H'.next→H'.floor=H.floor→(∀ i,i<a→H'.get i=H.get i)→K.ap Tryd.prog call N .ret ⟨T',H'⟩)
  (hgood:(∀ j,j<3→er j=0)→∀ T' H',(∀ t,t≤7∨(42≤t∧t≤44)→T'.get t=T.get t)→EM H' lo m k c e r n nm E F (st 3)→FF H H' lo F→K.ap Tryd.prog call N .normal ⟨T',H'⟩) :
  WK Tryd.prog call N m9 ⟨T,H⟩ K:=by
 show WK _ _ _ (.seq _ (.seq _ (.block 2 (.loop (.seq _ (.seq _ (.seq (.block 3 _) _))))))) _ _
 simp only[eE,↓reduceIte,Nat.reduceEqDiff,reduceCtorEq,↓eP,t7,t44,Dq]
 refine WK.loop (fun i s'=>s'.T.get 47=qS fl 3 3∧s'.T.get 48=iv 3∧s'.T.get 49=iv i∧s'.T.get 8=iv at_∧i≤3∧(∀ t,t≤7∨(42≤t∧t≤44)→s'.T.get t=T.get t)∧EM s'.h lo m k c e r n nm E F (st i)∧FF H s'.h lo F∧∀ j,j<i→er j=0) 3 hN ?_ ?_
 ·refine⟨by simp only[eE,↓reduceIte,Nat.reduceEqDiff,reduceCtorEq,↓eP,rP,Nat.reduceAdd,Nat.reduceLT],by simp only[eE,↓reduceIte,Nat.reduceEqDiff,reduceCtorEq,↓eP,rP,Nat.reduceAdd,Nat.reduceLT];rfl,by simp only[eE,↓reduceIte,Nat.reduceEqDiff,reduceCtorEq,↓eP,rP,Nat.reduceAdd,Nat.reduceLT];rfl,by simp only[eE,↓reduceIte,Nat.reduceEqDiff,reduceCtorEq,↓eP,rP,Nat.reduceAdd,Nat.reduceLT],by omega,fun t ht=>?_,hp,⟨fun _ _=>rfl,Nat.le_refl _,rfl⟩,fun j hj=>by omega⟩
  simp only[Tr.get_put,Option.some.injEq]
  repeat rw[if_neg (by omega)]
 ·rintro i ⟨T1,H1⟩ hi ⟨t47,t48,t49,t8,hi3,hkeep,hp1,haf,hz⟩
  simp only at t47 t48 t49 t8 hkeep hp1 haf
  have t2':T1.get 2=qP a 0:=(hkeep 2 (by omega)).trans t2
  have t3':T1.get 3=qP (a+1) 0:=(hkeep 3 (by omega)).trans t3
  by_cases hlt:i<3
  ·have c1:decide ((i:Int)<3)=true:=by simp;omega
   obtain⟨fid,first,cap,H2,hfi,hcall,haf2,hmk⟩:=hlook i hlt H1 hp1 haf hz
   have hfl1:H1.get fl=.row fs 73 false false:=(haf.1 fl (.inr hFl)).trans hfl
   have lf:AJ i (H1.get fl)=some (.func (.func fid) first cap):=by rw[hfl1];exact hfi
   have hix:=Lq (h:=H1) (id:=fl) (c:=3) hlt
   cases d:(er i != 0) with
   | true=>
    have e0:er i≠0:=by simpa using d
    have n2:H.next≤H2.next:=Nat.le_trans haf.2.1 haf2.2.1
    have f2:H2.floor=H.floor:=haf2.2.2.trans haf.2.2
    have o2:∀ i,i<lo→H2.get i=H.get i:=fun i hi=>(haf2.1 i (.inl hi)).trans (haf.1 i (.inl hi))
    have hout2:HU a H2 CW 0 0:=hout.mono (o2 a (by omega)) (o2 (a+1) ha)
    obtain⟨H',s1,s2,r1,r2,r3,r4⟩:=SI hout2 rfl (by omega) (by omega) (cs':=CW) rfl rfl (e':=er i) (p':=at_)
    simp only[eE,seval,↓eP,t47,t48,t49,t8,t2',t3',c1,hix,mU,lf,hcall,d,ZV,IQ,s1,s2]
    refine hbad i hlt e0 hz _ _ ?_ ?_ r1 (by omega) (r3.trans f2) fun j hj=>(r4 j (by omega) (by omega)).trans (o2 j (by omega))
    ·simp only[eE,seval,↓eP,rP,t2']
    ·simp only[eE,seval,↓eP,rP,t3']
   | false=>
    have e0:er i=0:=by simpa using d
    have w1:=E_ i (by omega)
    simp only[eE,seval,↓eP,t47,t48,t49,t8,c1,hix,mU,lf,hcall,d,w1]
    refine⟨hlt,by omega,fun t ht=>?_,hmk e0,⟨fun i hi=>(haf2.1 i hi).trans (haf.1 i hi),Nat.le_trans haf.2.1 haf2.2.1,haf2.2.2.trans haf.2.2⟩,fun j hj=>?_⟩
    ·repeat rw[if_neg (by omega)]
     exact hkeep t ht
    ·rcases Nat.lt_or_ge j i with h1 | h1
     ·exact hz j h1
     ·have:j=i:=by omega
      subst this
      exact e0
  ·have c1:decide ((i:Int)<3)=false:=by simp;omega
   have:i=3:=by omega
   subst this
   simp only[eE,seval,↓eP,t48,t49]
   refine hgood hz _ _ (fun t ht=>?_) hp1 haf
   simp only[Tr.get_put,Option.some.injEq]
   repeat rw[if_neg (by omega)]
   exact hkeep t ht
end
theorem xL (k:Int) (h:AA) (hk:1≤k∧k≤54):L0 48 [iv k] h=some (iv (BO k),h):=KG rfl rfl rfl rfl (M7 vT hk)
theorem xM (k:Int) (h:AA) (hk:1≤k∧k≤54):L0 50 [iv k] h=some (iv (EE k),h):=KG rfl rfl rfl rfl (M7 Aj hk)
theorem iF (k:Int) (h:AA) (hk:1≤k∧k≤54):L0 51 [iv k] h=some (.bool (HD k),h):=KG rfl rfl rfl rfl (M7 yO hk)
theorem eQ {at_:Nat} {end_:Int} {x:AB} {s:AL} (hx:s.rows[at_]?=some x):∃ n,(BK at_ end_ x s).rows[at_]?=some { x with n:=n }:=by
 rw[V6]
 split
 ·exact⟨x.n,hx⟩
 ·exact⟨_,JY hx⟩
def NK (at_:Nat) (end_:Int) (x x1 x2:AB) (s:AL):Nat→Int
 | 0=>EZ x s
 | 1=>DL at_ x1 (BK at_ end_ x s)
 | _=>E8 x2 (B0 at_ x1 (BK at_ end_ x s))
def SW (at_:Nat) (end_:Int) (x x1 x2:AB) (s:AL):Nat→AL
 | 0=>s
 | 1=>BK at_ end_ x s
 | 2=>B0 at_ x1 (BK at_ end_ x s)
 | _=>D9 at_ x2 (B0 at_ x1 (BK at_ end_ x s))
theorem Lg {E:List Int} {at_:Nat} {end_:Int} {x x1 x2:AB} {s:AL} (hx:s.rows[at_]?=some x) (hE:E[at_]?=some end_) (h1:(BK at_ end_ x s).rows[at_]?=some x1) (h2:DL at_ x1 (BK at_ end_ x s)=0→(B0 at_ x1 (BK at_ end_ x s)).rows[at_]?=some x2) :
  (∀ i,i<3→NK at_ end_ x x1 x2 s i≠0→(∀ j,j<i→NK at_ end_ x x1 x2 s j=0)→E2 E at_ s=(NK at_ end_ x x1 x2 s i,s))∧((∀ j,j<3→NK at_ end_ x x1 x2 s j=0)→E2 E at_ s=(0,SW at_ end_ x x1 x2 s 3)):=by
 have hEx:(E[at_]?).getD 0=end_:=by rw[hE];rfl
 constructor
 ·intro i hi he hz
  unfold E2
  rw[hx]
  simp only[hEx]
  match i,hi,he,hz with
  | 0,_,he,_=>
   have he:EZ x s≠0:=he
   rw[if_pos he]
   rfl
  | 1,_,he,hz=>
   have h0:EZ x s=0:=hz 0 (by omega)
   have he:DL at_ x1 (BK at_ end_ x s)≠0:=he
   rw[if_neg (by simpa using h0),h1]
   simp only
   rw[if_pos he]
   rfl
  | 2,_,he,hz=>
   have h0:EZ x s=0:=hz 0 (by omega)
   have hc:DL at_ x1 (BK at_ end_ x s)=0:=hz 1 (by omega)
   have he:E8 x2 (B0 at_ x1 (BK at_ end_ x s))≠0:=he
   rw[if_neg (by simpa using h0),h1]
   simp only
   rw[if_neg (by simpa using hc),h2 hc]
   simp only
   rw[if_pos he]
   rfl
 ·intro hz
  have h0:EZ x s=0:=hz 0 (by omega)
  have hc:DL at_ x1 (BK at_ end_ x s)=0:=hz 1 (by omega)
  have he:E8 x2 (B0 at_ x1 (BK at_ end_ x s))=0:=hz 2 (by omega)
  unfold E2
  rw[hx]
  simp only[hEx]
  rw[if_neg (by simpa using h0),h1]
  simp only
  rw[if_neg (by simpa using hc),h2 hc]
  simp only
  rw[if_neg (by simpa using he)]
  rfl
section
variable {n lo m k c e r L:Nat} {h:AA} {nm:ByteArray} {E:List Int} {F:List Nat} {s:AL}
theorem wH {at_:Nat} {end_:Int} {x:AB} (hp:EM h lo m k c e r L nm E F s) (hx:s.rows[at_]?=some x) (hkind:1≤x.kind∧x.kind≤54) (hL:L<30000000000000) (he:0≤end_) (hn:0<n) :
  ∃ h',AS n 31 [qP m 0,iv at_,iv end_] h=some (iv (EZ x s),h')∧(FF h h' lo F∧(EZ x s=0→EM h' lo m k c e r L nm E F (BK at_ end_ x s))):=by
 obtain⟨n,rfl⟩:=DF hn
 exact WF (BX ⟨rfl,rfl,rfl⟩) (uD (FL n).2 hp hx hkind hL he (fun k h' hk=>JV (LB (xL k h' hk))) fun k h'=>JV (Cv k h'))
theorem Bc {at_:Nat} {x:AB} (hp:EM h lo m k c e r L nm E F s) (hx:s.rows[at_]?=some x) (hkind:1≤x.kind∧x.kind≤54) (hL:L<30000000000000) (hn:0<n) :
  ∃ h',AS n 32 [qP m 0,iv at_] h=some (iv (DL at_ x s),h')∧(FF h h' lo F∧(DL at_ x s=0→EM h' lo m k c e r L nm E F (B0 at_ x s))):=by
 obtain⟨n,rfl⟩:=DF hn
 exact WF (BX ⟨rfl,rfl,rfl⟩) (Jk (FL n).2 hp hx hkind hL fun k h' hk=>JV (LB (xM k h' hk)))
theorem vW {at_:Nat} {x:AB} (hp:EM h lo m k c e r L nm E F s) (hx:s.rows[at_]?=some x) (hkind:1≤x.kind∧x.kind≤54) (hL:L<30000000000000) (hxn:HD x.kind=true→x.kind≠10→0≤x.n∧x.n<s.on.length) (hn:0<n) :
  ∃ h',AS n 33 [qP m 0,iv at_] h=some (iv (E8 x s),h')∧(FF h h' lo F∧(E8 x s=0→EM h' lo m k c e r L nm E F (D9 at_ x s))):=by
 obtain⟨n,rfl⟩:=DF hn
 exact WF (BX ⟨rfl,rfl,rfl⟩) (Cl (FL n).2 hp hx hkind hL hxn fun k h' hk=>JV (LB (iF k h' hk)))
theorem yU {at_ c5 c6:Nat} {end_:Int} {x:AB} (hp:EM h lo m k c e r L nm E F s) (hx:s.rows[at_]?=some x) (hkind:1≤x.kind∧x.kind≤54) (hL:L<30000000000000) (he:0≤end_) (hE:E[at_]?=some end_) (hlE:L=E.length)
  (h5:h.get c5=.row [qP m 0] 65 false false) (h6:h.get c6=.row [qS e L L] 27 false false) (hn:1<n) :
  ∃ h',AS n 30 [iv at_,qP c5 0,qP c6 0] h=some (iv (EZ x s),h')∧(FF h h' lo F∧(EZ x s=0→EM h' lo m k c e r L nm E F (BK at_ end_ x s))):=by
 obtain⟨n,rfl⟩:∃ j,n=j+1:=⟨n-1,by omega⟩
 obtain⟨tag,vq,vv,vt,vu,vo,es,hp',_⟩:=id hp
 obtain⟨h',hc,ha,hm⟩:=wH (n:=n) (at_:=at_) hp hx hkind hL he (by omega)
 exact WF (BX ⟨rfl,rfl,rfl⟩) (Cx (FL n).2 h5 h6 hp'.ends hE hlE ⟨h',hc,ha.2.2,ha,hm⟩)
theorem Gm {l:List AB} {at_ c5 c6 fl:Nat} {x x1:AB} {H:AA} (ht:CH l) (hL:l.length<2932031007403) (hat:at_<l.length) (hi:HR l at_ s) (hx:s.rows[at_]?=some x) (h1:(BK at_ (AD l at_) x s).rows[at_]?=some x1) (hcl:XC H m e c5 c6 fl l.length (BQ l)) (h5:c5∈F) (h6:c6∈F) (hfl:fl∈F) (hn:3<n) :
  ∃ x2,(DL at_ x1 (BK at_ (AD l at_) x s)=0→(B0 at_ x1 (BK at_ (AD l at_) x s)).rows[at_]?=some x2)∧∀ i,i<3→∀ H1,EM H1 lo m k c e r l.length nm (BQ l) F (SW at_ (AD l at_) x x1 x2 s i)→FF H H1 lo F→(∀ j,j<i→NK at_ (AD l at_) x x1 x2 s j=0) →
   ∃ fid first cap H2,([.func (.func 30) #[] #[qP c5 0,qP c6 0],.func (.func 32) #[qP m 0] #[],.func (.func 33) #[qP m 0] #[]]:List Value)[i]?=some (.func (.func fid) first cap) ∧
    AS n fid (first.toList++[iv at_]++cap.toList) H1=some (iv (NK at_ (AD l at_) x x1 x2 s i),H2)∧FF H1 H2 lo F∧(NK at_ (AD l at_) x x1 x2 s i=0→EM H2 lo m k c e r l.length nm (BQ l) F (SW at_ (AD l at_) x x1 x2 s (i+1))):=by
 have hkind:=aI ht hi x (List.mem_of_getElem? hx)
 obtain⟨n1,hx1⟩:=eQ (end_:=AD l at_) hx
 rw[h1] at hx1
 cases hx1
 obtain⟨x2,hx2⟩:∃ x2,DL at_ { x with n:=n1 } (BK at_ (AD l at_) x s)=0→(B0 at_ { x with n:=n1 } (BK at_ (AD l at_) x s)).rows[at_]?=some x2∧(∃ n,x2={ x with n:=n })∧(x2.kind≠10→HD x2.kind=true→L8 (B0 at_ { x with n:=n1 } (BK at_ (AD l at_) x s))→0≤x2.n∧x2.n<(B0 at_ { x with n:=n1 } (BK at_ (AD l at_) x s)).on.length):=by
  by_cases hc:DL at_ { x with n:=n1 } (BK at_ (AD l at_) x s)=0
  ·obtain⟨n2,a1,a2,a3,a4,a5,a6⟩:=YO h1 hc
   refine⟨_,fun _=>⟨a1,⟨n2,rfl⟩,fun h10 hev hw=>?_⟩⟩
   have hd:=Hk (k:=x.kind) hev h10
   rcases a6 with⟨b1,_⟩ | ⟨t,b1,b2,b3,_⟩
   ·have b1:EE x.kind=0:=b1
    rw[hd.1] at b1
    cases b1
   ·have b2:t.kind=EE x.kind:=b2
    rw[hd.1] at b2
    rw[← a5] at b1
    obtain⟨_,_,q1,q2,_⟩:=hw.th t b1
    rw[b2] at q2
    have q3:t.num<((B0 at_ { x with n:=n1 } (BK at_ (AD l at_) x s)).queues.length:Int):=q2
    rw[← hw.o] at q3
    simp only
    rw[b3]
    exact⟨q1,q3⟩
  ·exact⟨x,fun h=>absurd h hc⟩
 refine⟨x2,fun h=>(hx2 h).1,?_⟩
 intro i hi3 H1 hp haf hz
 have hEat:(BQ l)[at_]?=some (AD l at_:Int):=QE hat
 match i,hi3 with
 | 0,_=>
  have g5:H1.get c5=_:=(haf.1 c5 (.inr h5)).trans hcl.h5
  have g6:H1.get c6=_:=(haf.1 c6 (.inr h6)).trans hcl.h6
  obtain⟨H2,q1,q2,q3⟩:=yU (n:=n) (s:=s) (at_:=at_) hp hx hkind (by omega) (by omega) hEat (by rw[T5]) g5 g6 (by omega)
  exact⟨_,#[],#[qP c5 0,qP c6 0],H2,rfl,q1,q2,q3⟩
 | 1,_=>
  obtain⟨H2,q1,q2,q3⟩:=Bc (n:=n) (s:=BK at_ (AD l at_) x s) (at_:=at_) hp h1 hkind (by omega) (by omega)
  exact⟨_,#[qP m 0],#[],H2,rfl,q1,q2,q3⟩
 | 2,_=>
  have hc:DL at_ { x with n:=n1 } (BK at_ (AD l at_) x s)=0:=hz 1 (by omega)
  obtain⟨r1,⟨n2,r2⟩,r3⟩:=hx2 hc
  have hw:L8 (B0 at_ { x with n:=n1 } (BK at_ (AD l at_) x s)):=by
   obtain⟨_,_,_,_,_,_,_,_,_,hw,_⟩:=id hp
   exact hw
  obtain⟨H2,q1,q2,q3⟩:=vW (n:=n) (s:=B0 at_ { x with n:=n1 } (BK at_ (AD l at_) x s)) (at_:=at_) hp r1 (by rw[r2];exact hkind) (by omega) (fun a b=>r3 b a hw) (by omega)
  exact⟨_,#[qP m 0],#[],H2,rfl,q1,q2,q3⟩
end
theorem Fw {h:AA} {r:Nat} {rows:List AB} {lo hi:Nat} (hg:h.get r=.row (rows.flatMap AX) 61 true false) (hr:r<h.next) (hlh:lo≤hi) (hhi:hi≤rows.length) :
  ∃ v',G0 Tryd.prog h 26 (qS r rows.length AP) (some (iv lo)) (some (iv hi)) none=some v'∧A9 h v' ((rows.drop lo).take (hi-lo)):=by
 have hl:((rows.drop lo).take (hi-lo)).length=hi-lo:=by rw[List.length_take,List.length_drop];omega
 refine⟨.slice (some ⟨r,lo*5,none⟩) (hi-lo) AP,?_,?_⟩
 ·simp only[G0,Tryd.underlying26,GC,FV,if_true]
  rw[if_pos (by omega)]
  simp only[Int.toNat_natCast]
  rw[if_pos (by omega)]
  simp only[Int.toNat_natCast]
  by_cases h0:lo=0
  ·subst h0
   rw[if_pos rfl]
   simp
  ·rw[if_neg h0,hg]
   simp only[GC,if_true,Nat.zero_add]
 ·refine⟨some ⟨r,lo*5,none⟩,AP,by rw[hl],.inr ⟨r,lo*5,_,_,_,_,rfl,hg,hr,fun k x hk=>?_⟩⟩
  have hk1:=(List.getElem?_eq_some_iff.1 hk).1
  rw[List.getElem?_take_of_lt (by omega),List.getElem?_drop] at hk
  rw[show lo*5+k*5=(lo+k)*5 by omega]
  exact PL hk
section
variable {n lo m k c e r L:Nat} {h:AA} {nm:ByteArray} {E:List Int} {F:List Nat} {s:AL}
theorem nR {pb eb sb row:Nat} {rows:List AB} {E rules sums:List Int} (hL:OZ rows E rules) (hc:I9 h pb eb sb rows E sums) (hs:JN sums) (hsl:sums.length=rules.length) (hfl:h.floor≤h.next) (hrow:row<rows.length) (hn:rows.length+8<n) :
  AS n 66 [iv row,qP pb 0,qP eb 0,qP sb 0] h=some (iv (GG rows E sums row),h):=by
 obtain⟨n,rfl⟩:=DF hn
 obtain⟨q,q1,q2,q3,q4⟩:=hL.end hrow
 have hc':GG rows E sums row=IC sums ((rows.drop row).take (q-row)) 0:=by unfold GG;rw[q1];rfl
 rw[hc']
 exact JB (BX ⟨rfl,rfl,rfl⟩) rfl (s_ (FL n).2 hc hs hfl q1 q2 q3 (by have:=hL.len;omega) (by omega)
  (fun x hx h22=>by rw[hsl];exact hL.calls x (List.mem_of_mem_drop (List.mem_of_mem_take hx)) h22) fun a b h' hb ha=>JV (jS h' hb ha))
theorem wK {rows:List AB} {E rules:List Int} (hL:OZ rows E rules) {v0 vr v2 v3 v4 vu v6 v7:Value} {e ce:Nat} {ge:Bool} (hone:[v0,vr,v2,v3,v4,vu,v6,v7].all one=true) (hfl:h.floor≤h.next) (hn:rows.length+rules.length+12<n)
  (hsl:∀ (lo hi:Nat) h',(∀ i,i<h.next→h'.get i=h.get i)→h.next≤h'.next→lo≤hi→hi≤rows.length→∃ v',G0 Tryd.prog h' 26 vr (some (iv lo)) (some (iv hi)) none=some v'∧A9 h' v' ((rows.drop lo).take (hi-lo)))
  {lu:Nat} (hu:AV lu h vu rules) (he:h.get e=.row (ints E) 3 ge false) (hel:e<h.next) :
  ∃ h',AS n 52 [.agg #[v0,vr,v2,v3,v4,vu,v6,v7],qS e E.length ce] h=some (.func (.func 66) #[] #[qP h.next 0,qP (h.next+1) 0,qP (h.next+3) 0],h') ∧
   (I9 h' h.next (h.next+1) (h.next+3) rows E (KJ rows E rules)∧h.next≤h'.next∧h'.floor=h.floor∧∀ i,i<h.next→h'.get i=h.get i):=by
 obtain⟨n,rfl⟩:=DF hn
 refine PZ (BX ⟨rfl,rfl,rfl⟩) rfl (xO (FL n).2 hL hone hfl (by omega) (by omega) hsl (fun h'=>hu.len) ?_ ?_ he hel ?_)
 ·obtain⟨_,a,c,h1,_⟩:=hu
  exact⟨a,c,h1⟩
 ·intro h' hold i ru hi
  obtain⟨id,p,h1,h2,h3⟩:=AV.get hu hi
  exact⟨id,p,h1,by rw[hold id h2];exact h3⟩
 ·intro pb eb sb row sums h' hc hsl' hs hfl' hrow
  exact nR hL hc hs hsl' hfl' hrow (by omega)
theorem Ej {tag:Nat→Nat} {vq vv vt vu vo:Value} {es:List (Value × Value)} {l:List AB} (hp:BN h lo m k c e r l.length nm (BQ l) tag vq vv vt vu vo es s) (ht:CH l) (hlen:l.length<2932031007403) (hi:HR l l.length s) (hfl:h.floor≤h.next) (hn:l.length+100<n) :
  AS n 34 [qP m 0,qS e l.length l.length] h=some (iv (J9 s.rows (BQ l) s.rules),h):=by
 obtain⟨n,rfl⟩:=DF hn
 have hL:=nJ ht (by omega) hi
 have hnu:=hi.wf.u
 have hrl:=hi.len
 have hpl:=hp.pol.len
 refine JB (BX ⟨rfl,rfl,rfl⟩) rfl (Fz (pb:=h.next) (eb:=h.next+1) (sb:=h.next+3) hp hL hfl (by omega) (aI ht hi) (Gw ht hi) ?_ (fun k h' hk=>JV (LB (iF k h' hk))) (fun a b h' hb ha=>JV (jS h' hb ha)) ?_)
 ·have hE:(BQ l).length=l.length:=T5
  have hs:∀ (lo hi:Nat) (h':AA),(∀ i,i<h.next→h'.get i=h.get i)→h.next≤h'.next→lo≤hi→hi≤s.rows.length→∃ v',G0 Tryd.prog h' 26 (qS r l.length AP) (some (iv lo)) (some (iv hi)) none=some v'∧A9 h' v' ((s.rows.drop lo).take (hi-lo)):=fun lo hi h' ho hx a b=>by
   have:=Fw (h:=h') (r:=r) (rows:=s.rows) (by rw[ho r hp.pol.lr.2];exact hp.pol.rows) (by have:=hp.pol.lr.2;omega) a b
   rw[hpl] at this
   exact this
  have:=wK (n:=n) (h:=h) (ce:=l.length) (v0:=.string nm) (v2:=vq) (v3:=vv) (v4:=vt) (v6:=vo) (v7:=iv s.miss) (vr:=qS r l.length AP) hL ?_ hfl (by omega) hs (AV.weak (hp.pol.u.cells (by rw[GK,Nat.mul_one])) (Nat.zero_le _)) hp.ends hp.le.2
  ·rw[hE] at this
   exact this
  ·have q1:=(hp.pol.q.cells (w:=2) (O0 _)).one
   have q2:=(hp.pol.v.cells (w:=1) (by rw[V7,Nat.mul_one])).one
   have q3:=(hp.pol.t.cells (w:=1) (by rw[V7,Nat.mul_one])).one
   have q4:=(hp.pol.u.cells (w:=1) (by rw[GK,Nat.mul_one])).one
   have q5:=(hp.pol.o.cells (w:=1) (by rw[GK,Nat.mul_one])).one
   simp only[List.all_cons,List.all_nil,q1,q2,q3,q4,q5,QU,JW,Bool.and_self]
   rfl
 ·intro row h' hc hfl' hrow
  exact nR hL hc (X_).1 (X_).2 hfl' hrow (by omega)
end
theorem FF.trans {h H H':AA} {lo:Nat} {F:List Nat} (a:FF h H lo F) (b:FF H H' lo F):FF h H' lo F:=⟨fun i hi=>(b.1 i hi).trans (a.1 i hi),Nat.le_trans a.2.1 b.2.1,b.2.2.trans a.2.2⟩
section
variable {n N:Nat}
theorem Ki {l:List AB} {v:Value} {T:Tr} {H:AA} {K:CO} {a fl lo m k c e r c5 c6:Nat} {nm:ByteArray} {F:List Nat} (ht:CH l) (hL:l.length<2932031007403) (hn:3<n) (hN:l.length+3<N)
  (t0:T.get 0=v) (t2:T.get 2=qP a 0) (t3:T.get 3=qP (a+1) 0) (t7:T.get 7=qS fl 3 3) (hv:A9 H v l)
  (hp:EM H lo m k c e r l.length nm (BQ l) F (CP l)) (hcl:XC H m e c5 c6 fl l.length (BQ l)) (h5:c5∈F) (h6:c6∈F) (hfl:fl∈F) (ha:a+1<lo) (hlo:lo≤H.next) (hout:HU a H CW 0 0) (hfa:H.floor≤a)
  (hbad:(DP (BQ l) l.length 0 (CP l)).1≠0→∀ T' H',T'.get 2=qP a 0→T'.get 3=qP (a+1) 0→HU a H' CW (DP (BQ l) l.length 0 (CP l)).1 (DP (BQ l) l.length 0 (CP l)).2.1→H.next≤H'.next→H'.floor=H.floor→(∀ i,i<a→H'.get i=H.get i)→K.ap Tryd.prog (AS n) N .ret ⟨T',H'⟩)
  (hgood:(DP (BQ l) l.length 0 (CP l)).1=0→∀ T' H',(∀ t,t≤7→T'.get t=T.get t)→EM H' lo m k c e r l.length nm (BQ l) F (DP (BQ l) l.length 0 (CP l)).2.2→HR l l.length (DP (BQ l) l.length 0 (CP l)).2.2→FF H H' lo F→WK Tryd.prog (AS n) N VC ⟨T',H'⟩ K) :
  WK Tryd.prog (AS n) N UJ ⟨T,H⟩ K:=by
 show WK _ _ _ (.seq (.seq _ (.block 0 (.loop (.seq _ (.seq _ (.seq (.block 1 m9) _)))))) VC) _ _
 have hlen:=fun h'=>hv.len (h':=h')
 simp only[eE,seval,↓eP,t0,hlen]
 refine WK.loop (fun i s'=>s'.T.get 43=iv l.length∧s'.T.get 44=iv i∧i≤l.length∧(∀ t,t≤7→s'.T.get t=T.get t)∧FF H s'.h lo F∧∃ s,EM s'.h lo m k c e r l.length nm (BQ l) F s∧HR l i s∧DP (BQ l) (l.length-i) i s=DP (BQ l) l.length 0 (CP l)) l.length (by omega) ?_ ?_
 ·refine⟨by simp only[eE,↓reduceIte,Nat.reduceEqDiff,reduceCtorEq,↓eP,rP,Nat.reduceAdd,Nat.reduceLT],by simp only[eE,↓reduceIte,Nat.reduceEqDiff,reduceCtorEq,↓eP,rP,Nat.reduceAdd,Nat.reduceLT];rfl,by omega,fun t ht=>?_,⟨fun _ _=>rfl,Nat.le_refl _,rfl⟩,CP l,hp,XW l,rfl⟩
  simp only[Tr.get_put,Option.some.injEq]
  repeat rw[if_neg (by omega)]
 ·rintro i ⟨T1,H1⟩ hi ⟨t43,t44,hil,hkeep,haf,s,hp1,hin,hgo⟩
  simp only at t43 t44 hkeep haf hp1
  by_cases hlt:i<l.length
  ·have c1:decide ((i:Int)<(l.length:Int))=true:=by simp;omega
   obtain⟨x,hx⟩:∃ x,s.rows[i]?=some x:=⟨_,List.getElem?_eq_getElem (by rw[hin.len];exact hlt)⟩
   obtain⟨n1,h1⟩:=eQ (end_:=AD l i) hx
   have hcl1:XC H1 m e c5 c6 fl l.length (BQ l):=⟨(haf.1 c5 (.inr h5)).trans hcl.h5,(haf.1 c6 (.inr h6)).trans hcl.h6,(haf.1 fl (.inr hfl)).trans hcl.hf⟩
   obtain⟨x2,hx2,hlook⟩:=Gm (n:=n) (lo:=lo) (k:=k) (c:=c) (r:=r) (nm:=nm) (F:=F) ht hL hlt hin hx h1 hcl1 h5 h6 hfl hn
   obtain⟨sb,sg⟩:=Lg (E:=BQ l) hx (QE hlt) h1 hx2
   have hr:l.length-i=(l.length-(i+1))+1:=by omega
   rw[hr] at hgo
   have hout1:HU a H1 CW 0 0:=hout.mono (haf.1 a (.inl (by omega))) (haf.1 (a+1) (.inl ha))
   have hn1:=haf.2.1
   have hf1:=haf.2.2
   have w1:=E_ i (by omega)
   have hkp:∀ t,t≤44→(T1.put (some 45) (Value.bool true)).get t=T1.get t:=fun t ht=>by
    rw[Tr.get_put,if_neg (fun h=>by have h9:(45:Nat)=t:=Option.some.inj h;omega)]
   simp only[eE,seval,↓eP,t43,t44,c1]
   refine xI (a:=a) (fl:=fl) (er:=NK i (AD l i) x { x with n:=n1 } x2 s) (st:=SW i (AD l i) x { x with n:=n1 } x2 s) (E:=BQ l) (F:=F) ((hkp 2 (by omega)).trans ((hkeep 2 (by omega)).trans t2)) ((hkp 3 (by omega)).trans ((hkeep 3 (by omega)).trans t3)) ((hkp 7 (by omega)).trans ((hkeep 7 (by omega)).trans t7)) ((hkp 44 (by omega)).trans t44) (by omega) hp1 ha (by omega) hout1 (by omega) hcl1.hf hfl hlook ?_ ?_
   ·intro j hj he hz T' H' g2 g3 ho hnx hfx hox
    have hst:=sb j hj he hz
    have hg:DP (BQ l) l.length 0 (CP l)=(NK i (AD l i) x { x with n:=n1 } x2 s j,i,s):=by
     rw[← hgo]
     unfold DP
     rw[hst,if_pos he]
    simp only[eE,seval,↓eP]
    refine hbad (by rw[hg];exact he) T' H' g2 g3 (by rw[hg];exact ho) (by omega) (by omega) fun q hq=>(hox q hq).trans (haf.1 q (.inl (by omega)))
   ·intro hz T' H' hk' hp' haf'
    have hst:=sg hz
    have e0:(E2 (BQ l) i s).1=0:=by rw[hst]
    have hin':=VQ ht (WQ i) hlt hin e0
    rw[hst] at hin'
    have hg:DP (BQ l) (l.length-(i+1)) (i+1) (SW i (AD l i) x { x with n:=n1 } x2 s 3)=DP (BQ l) l.length 0 (CP l):=by
     rw[← hgo]
     conv=>rhs;unfold DP
     rw[if_neg (by rw[e0];simp),hst]
    have u43:=(hk' 43 (by omega)).trans ((hkp 43 (by omega)).trans t43)
    have u44:=(hk' 44 (by omega)).trans ((hkp 44 (by omega)).trans t44)
    simp only[eE,seval,↓eP,u43,u44,w1]
    refine⟨hlt,by omega,fun t ht=>?_,haf.trans haf',_,hp',hin',hg⟩
    repeat rw[if_neg (by omega)]
    exact(hk' t (by omega)).trans ((hkp t (by omega)).trans (hkeep t ht))
  ·have c1:decide ((i:Int)<(l.length:Int))=false:=by simp;omega
   have:i=l.length:=by omega
   subst this
   have hg:DP (BQ l) l.length 0 (CP l)=(0,l.length,s):=by
    rw[← hgo,Nat.sub_self]
    rfl
   simp only[eE,seval,↓eP,t43,t44,c1]
   refine hgood (by rw[hg]) _ _ (fun t ht=>?_) (by rw[hg];exact hp1) (by rw[hg];exact hin) haf
   simp only[Tr.get_put,Option.some.injEq]
   repeat rw[if_neg (by omega)]
   exact hkeep t ht
theorem CE.weak {lo lo':Nat} {h:AA} {pv:Value} {nm:ByteArray} {s:AL} (hp:CE lo h pv nm s) (hl:lo'≤lo):CE lo' h pv nm s:=by
 obtain⟨vr,vq,vv,vt,vu,vo,h1,h2,h3,h4,h5,h6,h7⟩:=hp
 exact⟨vr,vq,vv,vt,vu,vo,h1,HF.of (h2.2.weak hl),h3.weak hl,h4.weak hl,h5.weak hl,h6.weak hl,h7.weak hl⟩
def MC (lo:Nat) (h:AA) (pv:Value) (nm:ByteArray) (s:AL):Prop:=
 ∃ tag r vq vv vt vu vo,pv=.agg #[.string nm,qS r s.rows.length AP,vq,vv,vt,vu,vo,iv s.miss]∧KC h lo tag r s.rows.length vq vv vt vu vo s
theorem FC.weak {h:AA} {lo lo':Nat} {tag:Nat→Nat} {j:Nat} {v:Value} {n:Nat} {cs:List Value} {ty:TypeId} (hs:FC h lo tag j v n cs ty) (hl:lo'≤lo):FC h lo' tag j v n cs ty:=by
 rcases hs with h1 | ⟨id,ex,h1,h2,h3,h4,h5⟩
 ·exact .inl h1
 ·exact .inr ⟨id,ex,h1,h2,by omega,h4,h5⟩
theorem KC.weak {h:AA} {lo lo':Nat} {tag:Nat→Nat} {r n:Nat} {vq vv vt vu vo:Value} {s:AL} (hp:KC h lo tag r n vq vv vt vu vo s) (hl:lo'≤lo):KC h lo' tag r n vq vv vt vu vo s:=
 ⟨hp.rows,hp.len,hp.tr,⟨by have:=hp.lr.1;omega,hp.lr.2⟩,hp.q.weak hl,hp.v.weak hl,hp.t.weak hl,hp.u.weak hl,hp.o.weak hl⟩
theorem MC.weak {lo lo':Nat} {h:AA} {pv:Value} {nm:ByteArray} {s:AL} (hp:MC lo h pv nm s) (hl:lo'≤lo):MC lo' h pv nm s:=by
 obtain⟨tag,r,vq,vv,vt,vu,vo,h1,h2⟩:=hp
 exact⟨tag,r,vq,vv,vt,vu,vo,h1,h2.weak hl⟩
theorem MC.mono {lo:Nat} {h h':AA} {pv:Value} {nm:ByteArray} {s:AL} (hp:MC lo h pv nm s) (hn:h.next≤h'.next) (hg:∀ i,lo≤i→i<h.next→h'.get i=h.get i):MC lo h' pv nm s:=by
 obtain⟨tag,r,vq,vv,vt,vu,vo,h1,h2⟩:=hp
 exact⟨tag,r,vq,vv,vt,vu,vo,h1,h2.mono hn (fun _ _=>rfl) fun i a b _ _=>hg i a b⟩
theorem MC.pol {lo:Nat} {h:AA} {pv:Value} {nm:ByteArray} {s:AL} (hp:MC lo h pv nm s):CE lo h pv nm s:=by
 obtain⟨tag,r,vq,vv,vt,vu,vo,h1,h2⟩:=hp
 exact⟨_,vq,vv,vt,vu,vo,h1,HF.of (AO.row (ex:=[]) (by rw[List.append_nil];exact h2.rows) h2.lr (KA _)),h2.q.cells (O0 _),h2.v.cells (by simp[DE]),h2.t.cells (by simp[DE]),h2.u.cells (by rw[GK,Nat.mul_one]),h2.o.cells (by rw[GK,Nat.mul_one])⟩
theorem BN.own {h:AA} {lo m k c e r n:Nat} {nm:ByteArray} {E:List Int} {tag:Nat→Nat} {vq vv vt vu vo:Value} {es:List (Value × Value)} {s:AL} (hp:BN h lo m k c e r n nm E tag vq vv vt vu vo es s) :
  MC lo h (.agg #[.string nm,qS r n AP,vq,vv,vt,vu,vo,iv s.miss]) nm s:=by
 have hl:=hp.pol.len
 subst hl
 exact⟨tag,r,vq,vv,vt,vu,vo,rfl,hp.pol⟩
theorem Ld {l:List AB} {T:Tr} {H:AA} {K:CO} {a lo m k c e r c5 c6:Nat} {nm:ByteArray} {F:List Nat} {s:AL} (ht:CH l) (hL:l.length<2932031007403) (hn:l.length+100<n)
  (t2:T.get 2=qP a 0) (t3:T.get 3=qP (a+1) 0) (t5:T.get 5=qP c5 0) (t6:T.get 6=qP c6 0)
  (hp:EM H lo m k c e r l.length nm (BQ l) F s) (hin:HR l l.length s) (h5:H.get c5=.row [qP m 0] 65 false false) (h6:H.get c6=.row [qS e l.length l.length] 27 false false) (ha:a+1<lo) (hlo:lo≤H.next) (hout:HU a H CW 0 0) (hfa:H.floor≤a)
  (hbad:J9 s.rows (BQ l) s.rules≥0→∀ T' H',T'.get 2=qP a 0→T'.get 3=qP (a+1) 0→HU a H' CW 34 (J9 s.rows (BQ l) s.rules)→H.next≤H'.next→H'.floor=H.floor→(∀ i,i<a→H'.get i=H.get i)→K.ap Tryd.prog (AS n) N .ret ⟨T',H'⟩)
  (hgood:¬ J9 s.rows (BQ l) s.rules≥0→∀ T' H' cs,T'.get 2=qP a 0→T'.get 3=qP (a+1) 0→cs.length=8→HU a H' cs 0 0→MC lo H' (.agg cs.toArray) nm s→H.next≤H'.next→H'.floor=H.floor→(∀ i,i<a→H'.get i=H.get i)→K.ap Tryd.prog (AS n) N .ret ⟨T',H'⟩) :
  WK Tryd.prog (AS n) N VC ⟨T,H⟩ K:=by
 show WK _ _ _ (.seq (.seq _ (.seq _ _)) (.seq _ _)) _ _
 obtain⟨tag,vq,vv,vt,vu,vo,es,hp',_⟩:=id hp
 have hlg:=Ej (n:=n) hp' ht hL hin (by omega) hn
 have l5:AJ 0 (H.get c5)=some (qP m 0):=by rw[h5];rfl
 have l6:AJ 0 (H.get c6)=some (qS e l.length l.length):=by rw[h6];rfl
 cases d:decide (J9 s.rows (BQ l) s.rules≥0) with
 | true=>
  obtain⟨H',s1,s2,r1,r2,r3,r4⟩:=SI hout rfl (by omega) (by omega) (cs':=CW) rfl rfl (e':=34) (p':=J9 s.rows (BQ l) s.rules)
  simp only[eE,seval,↓eP,S0,DB,t2,t3,t5,t6,l5,l6,hlg,d,ZV,IQ,s1,s2]
  refine hbad (by simpa using d) _ _ ?_ ?_ r1 (by omega) r3 fun i hi=>r4 i (by omega) (by omega)
  ·simp only[eE,seval,↓eP,rP,t2]
  ·simp only[eE,seval,↓eP,rP,t3]
 | false=>
  have l8:AY 8 0 (H.get m)=some (.agg #[.string nm,qS r l.length AP,vq,vv,vt,vu,vo,iv s.miss]):=by rw[hp'.cell];rfl
  have hpol:=hp'.own
  have hall:([.string nm,qS r l.length AP,vq,vv,vt,vu,vo,iv s.miss]:List Value).all one=true:=by
   have q1:=(hp'.pol.q.cells (w:=2) (O0 _)).one
   have q2:=(hp'.pol.v.cells (w:=1) (by simp[DE])).one
   have q3:=(hp'.pol.t.cells (w:=1) (by simp[DE])).one
   have q4:=(hp'.pol.u.cells (w:=1) (by rw[GK,Nat.mul_one])).one
   have q5:=(hp'.pol.o.cells (w:=1) (by rw[GK,Nat.mul_one])).one
   simp only[List.all_cons,List.all_nil,q1,q2,q3,q4,q5,QU,JW,Bool.and_self]
   rfl
  obtain⟨H',s1,s2,r1,r2,r3,r4⟩:=SI hout rfl (by omega) (by omega) (cs':=[.string nm,qS r l.length AP,vq,vv,vt,vu,vo,iv s.miss]) rfl hall (e':=0) (p':=0)
  simp only[eE,seval,↓eP,S0,DB,t2,t3,t5,t6,l5,l6,hlg,d,IK,C2,l8,FQ,s1,s2]
  refine hgood (by simpa using d) _ _ _ ?_ ?_ rfl r1 (hpol.mono (by omega) fun i hi _=>r4 i (by omega) (by omega)) (by omega) r3 fun i hi=>r4 i (by omega) (by omega)
  ·simp only[eE,seval,↓eP,rP,t2]
  ·simp only[eE,seval,↓eP,rP,t3]
end
theorem K7 {a:Nat} {H:AA} {cs:List Value} {ty:TypeId} {g ro:Bool} (h:H.get a=.row cs ty g ro) (hl:cs.length=8):AY 8 0 (H.get a)=some (.agg cs.toArray):=by
 rw[h]
 have:cs.take 8=cs:=List.take_of_length_le (by omega)
 simp only[AY,FN,List.drop_zero,this,hl,if_true]
theorem lQ {l:List AB} (h:(CY l).1=0):IH AU l=none:=by
 unfold CY at h
 cases hs:IH AU l with
 | none=>rfl
 | some p=>
  rw[hs] at h
  simp at h
def WY (h:AA) (l:List AB) (v:Value) (h':AA):Prop:=
 ∃ pv,v=.tuple #[pv,BR (BJ l).1.1 (BJ l).1.2]∧CE h.next h' pv (DT l).1 (DT l).2∧h'.floor=h.floor∧h.next≤h'.next∧∀ i,i<h.next→h'.get i=h.get i
theorem AO.flat {lo:Nat} {h:AA} {v:Value} {n w:Nat} {cs:List Value} (hc:AO lo h v n w cs) (hf:BL v=true) (lo':Nat) (h':AA):AO lo' h' v n w cs:=by
 obtain⟨hl,a,c,rfl,⟨h0,rfl⟩ | ⟨id,off,row,ty,g,ro,rfl,g1,g2,g3⟩⟩:=hc
 ·exact⟨hl,_,_,rfl,.inl ⟨h0,rfl⟩⟩
 ·cases hf
def SK (lo:Nat) (h:AA) (pv:Value) (nm:ByteArray) (s:AL):Prop:=(pv=QN∧nm=ByteArray.empty∧s=sZ)∨MC lo h pv nm s
theorem SK.pol {lo:Nat} {h:AA} {pv:Value} {nm:ByteArray} {s:AL} (hp:SK lo h pv nm s):CE lo h pv nm s:=by
 rcases hp with⟨rfl,rfl,rfl⟩ | hp
 ·exact Iv lo h
 ·exact hp.pol
def OK (h:AA) (l:List AB) (v:Value) (h':AA):Prop:=
 ∃ pv,v=.tuple #[pv,BR (BJ l).1.1 (BJ l).1.2]∧SK h.next h' pv (DT l).1 (DT l).2∧h'.floor=h.floor∧h.next≤h'.next∧∀ i,i<h.next→h'.get i=h.get i
theorem OK.told {h h':AA} {l:List AB} {v:Value} (ht:OK h l v h'):WY h l v h':=by
 obtain⟨pv,h1,h2,h3⟩:=ht
 exact⟨pv,h1,h2.pol,h3⟩
theorem vQ {h h1:AA} {l:List AB} {v:Value} (hf:EJ v=true) (ht:OK h l v h1):OK h l v h:=by
 obtain⟨pv,rfl,h2,_⟩:=ht
 refine⟨pv,rfl,?_,rfl,Nat.le_refl _,fun _ _=>rfl⟩
 rcases h2 with h2 | ⟨tag,r,vq,vv,vt,vu,vo,rfl,_⟩
 ·exact .inl h2
 ·have hf':flat (.agg #[.string (DT l).1,qS r (DT l).2.rows.length AP,vq,vv,vt,vu,vo,iv (DT l).2.miss])=true:=by
   simp only[EJ,List.all_toArray,List.all_cons,Bool.and_eq_true] at hf
   exact hf.1
  simp only[flat,List.all_cons,Bool.and_eq_true] at hf'
  exact absurd hf'.2.1 (by simp[BL])
section
variable {n N:Nat}
theorem Fe {l:List AB} {v:Value} {h:AA} (hfl:h.floor≤h.next) (hg:h.get 0=CT) (hn0:0<h.next) (hv:A9 h v l) (hL:l.length<2932031007403) (hn:2*l.length+100<n) (hN:l.length+3<N) :
  ∃ v' h',A7 Tryd.prog (AS n) N 13 [v] h=some (v',h')∧OK h l v' h':=by
 refine TG (R:=OK h l) Tryd.func13 rfl (by simp[Tryd.f13]) ?_
 have hr:Tryd.f13.results.toList=[.cell 2 33,.cell 3 36]:=rfl
 generalize hKK:CO.top (fun e s=>(e=EI.normal∨e=EI.ret)∧∃ vs,FU Tryd.prog s Tryd.f13.results.toList=some vs∧OK h l (HZ vs) s.h)=K
 have fin:∀ (T':Tr) (H':AA) cs e p nm s,T'.get 2=qP h.next 0→T'.get 3=qP (h.next+1) 0→cs.length=8→HU h.next H' cs e p→SK h.next H' (.agg cs.toArray) nm s→(BJ l).1=(e,p)→DT l=(nm,s)→h.next≤H'.next→H'.floor=h.floor→(∀ i,i<h.next→H'.get i=h.get i)→K.ap Tryd.prog (AS n) N .ret ⟨T',H'⟩:=by
  intro T' H' cs e p nm s t2 t3 hl ho hp he hout hnx hf hold
  have l30:=K7 ho.1 hl
  have l33:AY 2 0 (H'.get (h.next+1))=some (BR e p):=by rw[ho.2];rfl
  rw[← hKK]
  simp only[eE,seval,↓eP,hr,t2,t3,C2,CM,l30,l33]
  exact⟨_,by rw[he],by rw[hout];exact hp,hf,hnx,hold⟩
 have hz:∀ H',SK h.next H' QN ByteArray.empty sZ:=fun H'=>.inl ⟨rfl,rfl,rfl⟩
 refine Hb (FL n).2 hfl hv hg hn0 (fun H hv' hg' hn' hfl'=>Cn (by omega) (by omega) hv' hg' hn' hfl') ?_ ?_
 ·intro hc T' H t2 t3 ho hnx hf hold
  refine fin T' H _ _ _ ByteArray.empty sZ t2 t3 rfl ho (hz H) ?_ ?_ (by omega) hf hold
  ·unfold BJ
   rw[if_pos hc]
  ·unfold DT
   have:(BJ l).1.1≠0:=by unfold BJ;rw[if_pos hc];exact hc
   rw[if_pos this]
 ·intro hc T' H t0 t2 t3 ho hnx hf hold
  have ht:=oS (lQ hc)
  have hvH:A9 H v l:=hv.mono (by omega) hold
  have hcw:=fun H' (hv':A9 H' v l)=>PZ (n:=n-1) (BX (f:=28) (args:=[v]) (h:=H') ⟨rfl,rfl,rfl⟩) rfl (fJ (call:=AS (n-1)) (N:=n-1) hv' ht.pos (by omega))
  rw[show n-1+1=n by omega] at hcw
  refine Da (FL n).2 ht hL (by omega) hvH t0 hcw (fun H' hv' hf'=>Gb ht hv' (by omega) (by omega) hf') ?_
  intro T1 H1 m k c e r c5 c6 fl u0 u2 u3 u5 u6 u7 hp hcl hnx1 hf1 hold1
  have ho1:HU h.next H1 CW 0 0:=ho.mono (hold1 _ (by omega)) (hold1 _ (by omega))
  refine Ki (a:=h.next) ht hL (by omega) hN u0 (u2.trans t2) (u3.trans t3) u7 (hvH.mono hnx1 hold1) hp hcl (by simp) (by simp) (by simp) (by omega) (by omega) ho1 (by omega) ?_ ?_
  ·intro hgo T2 H2 w2 w3 ho2 hnx2 hf2 hold2
   refine fin T2 H2 _ _ _ ByteArray.empty sZ w2 w3 rfl ho2 (hz H2) ?_ ?_ (by omega) (by omega) fun i hi=>by rw[hold2 i hi,hold1 i (by omega),hold i hi]
   ·unfold BJ
    rw[if_neg (by rw[hc];simp)]
    simp only
    rw[if_pos hgo]
   ·unfold DT
    have:(BJ l).1.1≠0:=by
     unfold BJ
     rw[if_neg (by rw[hc];simp)]
     simp only
     rw[if_pos hgo]
     exact hgo
    rw[if_pos this]
  ·intro hgo T2 H2 hk2 hp2 hin2 haf
   have g5:=(haf.1 c5 (.inr (by simp))).trans hcl.h5
   have g6:=(haf.1 c6 (.inr (by simp))).trans hcl.h6
   have ho2:HU h.next H2 CW 0 0:=ho1.mono (haf.1 _ (.inl (by omega))) (haf.1 _ (.inl (by omega)))
   have hf2:=haf.2.2
   have hn2:=haf.2.1
   refine Ld (a:=h.next) ht hL (by omega) ((hk2 2 (by omega)).trans (u2.trans t2)) ((hk2 3 (by omega)).trans (u3.trans t3)) ((hk2 5 (by omega)).trans u5) ((hk2 6 (by omega)).trans u6) hp2 hin2 g5 g6 (by omega) (by omega) ho2 (by omega) ?_ ?_
   ·intro hlg T3 H3 x2 x3 ho3 hnx3 hf3 hold3
    have hres:(BJ l).1=(34,J9 (DP (BQ l) l.length 0 (CP l)).2.2.rows (BQ l) (DP (BQ l) l.length 0 (CP l)).2.2.rules):=by
     unfold BJ
     rw[if_neg (by rw[hc];simp)]
     simp only
     rw[if_neg (by rw[hgo];simp),if_pos hlg]
    refine fin T3 H3 _ _ _ ByteArray.empty sZ x2 x3 rfl ho3 (hz H3) hres ?_ (by omega) (by omega) fun i hi=>by rw[hold3 i hi,haf.1 i (.inl (by omega)),hold1 i (by omega),hold i hi]
    unfold DT
    rw[if_pos (by rw[hres];simp)]
   ·intro hlg T3 H3 cs x2 x3 hcs ho3 hpol hnx3 hf3 hold3
    have hres:BJ l=((0,0),(DP (BQ l) l.length 0 (CP l)).2.2):=by
     unfold BJ
     rw[if_neg (by rw[hc];simp)]
     simp only
     rw[if_neg (by rw[hgo];simp),if_neg hlg]
    refine fin T3 H3 cs _ _ (K4 l) (DP (BQ l) l.length 0 (CP l)).2.2 x2 x3 hcs ho3 (.inr (hpol.weak (by omega))) (by rw[hres]) ?_ (by omega) (by omega) fun i hi=>by rw[hold3 i hi,haf.1 i (.inl (by omega)),hold1 i (by omega),hold i hi]
    unfold DT
    rw[hres]
    simp
theorem Hv {l:List AB} {v:Value} {h:AA} (hfl:h.floor≤h.next) (hg:h.get 0=CT) (hn0:0<h.next) (hv:A9 h v l) (hL:l.length<2932031007403) (hn:2*l.length+110<n) :
  ∃ v' h',AS n 13 [v] h=some (v',h')∧OK h l v' h':=by
 obtain⟨n,rfl⟩:=DF hn
 exact PY (BX ⟨rfl,rfl,rfl⟩) (Fe (n:=n) (N:=n) hfl hg hn0 hv hL (by omega) (by omega)) fun v' h1 hf _ ht=>vQ hf ht
theorem cU {l:List AB} {v:Value} {h:AA} (hfl:h.floor≤h.next) (hg:h.get 0=CT) (hn0:0<h.next) (hv:A9 h v l) (hL:l.length<2932031007403) (hn:2*l.length+110<n) :
  ∃ v' h',AS n 13 [v] h=some (v',h')∧WY h l v' h':=by
 obtain⟨v',h',h1,h2⟩:=Hv (n:=n) hfl hg hn0 hv hL hn
 exact⟨v',h',h1,h2.told⟩
end
theorem SE.trans {h H H':AA} {lo:Nat} (a:SE h H lo) (b:SE H H' lo):SE h H' lo:=⟨fun i hi=>(b.1 i hi).trans (a.1 i hi),Nat.le_trans a.2.1 b.2.1,b.2.2.trans a.2.2⟩
theorem SE.refl (h:AA) (lo:Nat):SE h h lo:=⟨fun _ _=>rfl,Nat.le_refl _,rfl⟩
section
variable {n N:Nat}
end
def FM (x:Int):Int:=if x < -1073741824 then -1073741824 else if x>1073741824 then 1073741824 else x
def OY (a b:Int):Int:=if Int.tmod a b≠0∧(decide (Int.tmod a b<0) != decide (b<0))=true then Int.tdiv a b-1 else Int.tdiv a b
def KD (a b:Int):Int:=if b=0 then 0 else FM (OY a b)
def I7 (x:Int):Prop:=-9223372036854775808≤x∧x<9223372036854775808
theorem nY (x:Int):-1073741824≤FM x∧FM x≤1073741824:=by unfold FM;(repeat' split) <;> omega
theorem TI (a b:Int) (hb:b≠0):∃ p,p=b*a.tdiv b∧a=p+a.tmod b∧(0≤a→0≤a.tmod b)∧(a≤0→a.tmod b≤0)∧(a.tmod b).natAbs<b.natAbs∧(a.tdiv b).natAbs≤a.natAbs∧(2≤b.natAbs→2*(a.tdiv b).natAbs≤a.natAbs)∧(b=1→a.tdiv b=a)∧(b=-1→a.tdiv b=-a)∧(a.tmod b).natAbs≤a.natAbs:=by
 refine⟨b*a.tdiv b,rfl,?_,?_,?_,?_,?_,?_,?_,?_,?_⟩
 ·have:=Int.tmod_add_mul_tdiv a b
  omega
 ·exact fun h=>Int.tmod_nonneg b h
 ·intro h
  have h1:=Int.tmod_nonneg (a:=-a) b (by omega)
  rw[Int.neg_tmod] at h1
  omega
 ·rw[Int.natAbs_tmod]
  exact Nat.mod_lt _ (by omega)
 ·rw[Int.natAbs_tdiv]
  exact Nat.div_le_self _ _
 ·intro h
  rw[Int.natAbs_tdiv]
  have h1:a.natAbs/b.natAbs≤a.natAbs/2:=Nat.div_le_div_left h (by omega)
  have h2:Nat.div a.natAbs b.natAbs=a.natAbs/b.natAbs:=rfl
  omega
 ·rintro rfl;exact Int.tdiv_one a
 ·rintro rfl;rw[Int.tdiv_neg,Int.tdiv_one]
 ·rw[Int.natAbs_tmod];exact Nat.mod_le _ _
section
variable {call:AM} {n:Nat} {h:AA}
theorem wE {x:Int}:A7 Tryd.prog call n 9 [.int .i64 x] h=some (.int .i64 (FM x),h):=by
 refine DG Tryd.func9 rfl (by simp[Tryd.f9]) ?_
 have hr:Tryd.f9.results.toList=[.tmp 2]:=rfl
 simp only[eE,seval,hr]
 unfold FM
 (repeat' split) <;> omega
theorem mH {a b:Int} (ha:I7 a) (hb:I7 b) (h0:b≠0) (hx:¬ (b=-1∧a < -1073741824)):I7 (Int.tdiv a b)∧I7 (Int.tmod a b)∧(Int.tmod a b≠0→I7 (Int.tdiv a b-1)):=by
 obtain⟨p,hp,h1,h2,h3,h4,h5,h6,h7,h8,h9⟩:=TI a b h0
 unfold I7 at *
 generalize Int.tdiv a b=q at *
 generalize Int.tmod a b=r at *
 refine⟨?_,?_,?_⟩
 ·by_cases e:b=1
  ·have:=h7 e;omega
  ·by_cases e':b=-1
   ·have:=h8 e';omega
   ·have:=h6 (by omega);omega
 ·omega
 ·intro hr
  have:=h6 (by omega)
  omega
theorem aW {a b:Int}:(Int.tmod a b=0→OY a b=Int.tdiv a b)∧(Int.tmod a b≠0→OY a b=if (decide (Int.tmod a b<0) != decide (b<0))=true then Int.tdiv a b-1 else Int.tdiv a b):=by
 unfold OY
 exact⟨fun h=>by rw[if_neg (fun hh=>hh.1 h)],fun h=>by simp only[h,ne_eq,not_false_eq_true,true_and]⟩
theorem Al (hc:∀ x h,call 9 [.int .i64 x] h=some (.int .i64 (FM x),h)) {a b:Int} (ha:I7 a) (hb:I7 b):A7 Tryd.prog call n 11 [.int .i64 a,.int .i64 b] h=some (.int .i64 (KD a b),h):=by
 refine DG Tryd.func11 rfl (by simp[Tryd.f11]) ?_
 have hr:Tryd.f11.results.toList=[.tmp 4]:=rfl
 by_cases h0:b=0
 ·subst h0
  simp only[eE,seval,↓eP,hr]
  rfl
 have e0:(b==0)=false:=by simpa using h0
 have hD:KD a b=FM (OY a b):=by unfold KD;rw[if_neg h0]
 by_cases hx:b=-1∧a < -1073741824
 ·obtain⟨rfl,hx⟩:=hx
  have ex:decide (a < -1073741824)=true:=by simpa using hx
  simp only[eE,seval,↓eP,hr,e0,ex]
  rw[hD]
  obtain⟨p,hp,h1,h2,h3,h4,h5,h6,h7,h8,h9⟩:=TI a (-1) h0
  have:=h8 rfl
  unfold OY
  rw[if_neg (by omega),this]
  unfold FM
  rw[if_neg (by omega),if_pos (by omega)]
 ·obtain⟨r1,r2,r3⟩:=mH ha hb h0 hx
  obtain⟨f1,f2⟩:=aW (a:=a) (b:=b)
  rw[hD]
  by_cases hm:Int.tmod a b=0
  ·have em:(Int.tmod a b != 0)=false:=by simpa using hm
   rw[f1 hm]
   by_cases e1:b=-1
   ·have ex:decide (a < -1073741824)=false:=by simp;omega
    subst e1
    simp only[eE,seval,↓eP,hr,e0,ex]
    refine WK.quiet (by kernel_rfl) ?_
    simp only[eE,seval,↓eP,PI h0,U0 h0,em,hc]
    rw[C8 r1.1 r1.2]
   ·have ex:(b == -1)=false:=by simpa using e1
    simp only[eE,seval,↓eP,hr,e0,ex]
    refine WK.quiet (by kernel_rfl) ?_
    simp only[eE,seval,↓eP,PI h0,U0 h0,em,hc]
    rw[C8 r1.1 r1.2]
  ·have em:(Int.tmod a b != 0)=true:=by simpa using hm
   rw[f2 hm]
   have r4:=r3 hm
   have e1:b≠-1:=by
    rintro rfl
    obtain⟨p,hp,h1,h2,h3,h4,h5,h6,h7,h8,h9⟩:=TI a (-1) h0
    omega
   have ex:(b == -1)=false:=by simpa using e1
   simp only[eE,seval,↓eP,hr,e0,ex]
   refine WK.quiet (by kernel_rfl) ?_
   cases hs:(decide (Int.tmod a b<0) != decide (b<0)) with
   | true=>
    simp only[eE,seval,↓eP,PI h0,U0 h0,em,hc,TS Tryd.underlying4,hs]
    rw[C8 r1.1 r1.2,C8 r4.1 r4.2]
   | false=>
    simp only[eE,seval,↓eP,PI h0,U0 h0,em,hc,TS Tryd.underlying4,hs]
    rw[C8 r1.1 r1.2]
end
section
variable {n:Nat} {h:AA}
theorem YZ {x:Int} (hn:0<n):AS n 9 [.int .i64 x] h=some (.int .i64 (FM x),h):=by
 obtain⟨n,rfl⟩:=DF hn
 exact EL (BX ⟨rfl,rfl,rfl⟩) rfl wE
theorem Hn {a b:Int} (ha:I7 a) (hb:I7 b) (hn:1<n):AS n 11 [.int .i64 a,.int .i64 b] h=some (.int .i64 (KD a b),h):=by
 obtain⟨n,rfl⟩:=DF hn
 exact EL (BX ⟨rfl,rfl,rfl⟩) rfl (Al (fun _ _=>YZ (by omega)) ha hb)
end
noncomputable def RD:AM:=NS 8 CT
def p7:Option (Value × AA)→Bool
 | some (.bool b,_)=>b
 | _=>false
theorem sO:p7 (FZ Tryd.prog uG 200 8 [] JO)=true:=by kernel_rfl
theorem wG:C3 Tryd.prog RD∧CA RD:=by
 have h:=sO
 unfold p7 at h
 split at h
 ·rename_i b h' hs
  cases h
  have ht:=RG (tG (UH I1 200).1 uP) (Lo (UH I1 200).1 Gy)
  exact kF (NF I1 ht.1 ht.2 200).1 VY (by kernel_rfl) hs
 ·cases h
noncomputable def PG (n:Nat):AM:=GA RD (AS n)
theorem XJ (n:Nat):C3 Tryd.prog (PG n)∧CA (PG n):=RG wG (FL n)
section
variable {n:Nat} {f:FuncId} {args:List Value} {h:AA} {r:Value × AA}
theorem jX (hg:h.get 0=CT):PG n 8 [] h=some (.bool true,h):=by
 refine SM ?_
 unfold RD NS
 rw[if_pos ⟨rfl,rfl,hg⟩]
theorem JE (hf:f≠8) (hb:AS n f args h=some r):PG n f args h=some r:=by
 unfold PG GA
 have:RD f args h=none:=by
  unfold RD NS
  rw[if_neg (fun hc=>hf hc.1)]
 rw[this]
 exact hb
end
end Go.Proofs.YtdejoodfeljmkaaDoor
