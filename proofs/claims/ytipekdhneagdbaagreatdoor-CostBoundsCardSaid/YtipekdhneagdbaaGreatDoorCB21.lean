/- Part 21 of what the claim leans on: 5 texts laid one behind another. -/
import Derived.Test.YtipekdhneagdbaaGreatDoorCB20
namespace Go.Proofs.YtipekdhneagdbaaGreatDoor
open Go Go.Sx
set_option maxRecDepth 100000
set_option linter.unusedSimpArgs false
set_option linter.unusedVariables false
theorem idx0 {P:Program} {t e:TypeId} {w id n c i:Nat} (ht:P.underlying t=some (.slice e)) (he:szOf P e=some w) (hi:i<n):J0R P t (.slice (some ⟨id,0,none⟩) n c) (iv (i:Int))=some (.pointer (some ⟨id,i*w,none⟩)):=by
 simp only[J0R,ht,he,J0q]
 rw[if_pos (by omega)]
 simp
theorem Jot {P:Program} {t:TypeId} {k:Nat} {h:SHeap} {id off:Nat} {cs:List Value} {ty:TypeId} {g:Bool} {v:Value} (ht:szOf P t=some k) (hk:v.cells.size=k) (ho:v.cells.toList.all one=true) (hg:h.get id=.row cs ty g false) (hl:off+k≤cs.length) (hf:h.floor≤id) :
  ∃ cs',J0K P h t (.pointer (some ⟨id,off,none⟩)) v=some (h.put id (.row cs' ty g false))∧cs'.length=cs.length:=by
 refine⟨Go.Sx.lay cs off v.cells.toList,?_,?_⟩
 ·simp only[J0K,ht,J1q,hg]
  rw[if_pos (by rw[hk]),if_pos (by simp only[ho,Array.length_toList,hk,Bool.and_true,Bool.and_eq_true,decide_eq_true_eq];omega)]
 ·simp only[Go.Sx.lay,List.length_append,List.length_take,List.length_drop,Array.length_toList,hk]
  omega
theorem JnT {h:SHeap} {o:Nat} {l L:List RowN} (hL:LentAt h o l L) (ho:o<h.next):J0l h (.slice (some ⟨o,0,none⟩) l.length (l.length+9)) l:=by
 refine⟨_,_,rfl,.inr ⟨o,0,_,_,_,_,rfl,hL.g,ho,fun k r hk=>?_⟩⟩
 have hkl:=(List.getElem?_eq_some_iff.1 hk).1
 rw[Nat.zero_add]
 exact J2Y ((hL.own k hkl).trans hk)
theorem LentC.ld {h:SHeap} {o n w:Nat} {cs mk z:List Value} {e:TypeId} (hl:LentC h o n w cs mk z e) {j:Nat} (hj:j<w):ld1 (n*w+j) (h.get o)=mk[j]?:=by
 rw[hl.g]
 simp only[ld1]
 rw[List.getElem?_append_right (by rw[hl.len];omega),hl.len,Nat.add_sub_cancel_left,List.getElem?_append_left (by rw[hl.mlen];exact hj)]
theorem LentC.size {h:SHeap} {o n w:Nat} {cs mk z:List Value} {e:TypeId} (hl:LentC h o n w cs mk z e):(cs++(mk++J3e z 2)).length=(n+3)*w:=by
 rw[List.length_append,List.length_append,JnJ,hl.len,hl.mlen,hl.zlen]
 simp only[Nat.add_mul]
 omega
section
variable {n N:Nat} {h:SHeap}
set_option maxHeartbeats 4000000 in
theorem Jo8 {l:List Int} {v:Value} {o lo:Nat} (hL:LentC h o l.length 1 (ints l) [iv (-77)] [iv 0] 3) (ho:o<h.next) (hf:h.floor≤o) (hv:J1S lo h v l) (hl:l.length<900000000) (hn:l.length+10<n) (hN:l.length+10<N) :
  ∃ h',J0L Tryz.prog (J0T n) N 29 [.slice (some ⟨o,0,none⟩) l.length (l.length+3),v] h=some (.bool true,h')∧(h'.next=h.next∧h'.floor=h.floor∧∀ i,i≠o→h'.get i=h.get i):=by
 refine J1N (R:=fun h'=>h'.next=h.next∧h'.floor=h.floor∧∀ i,i≠o→h'.get i=h.get i) Tryz.func29 rfl (by simp[Tryz.f29]) ?_
 have hr:Tryz.f29.results.toList=[.tmp 4]:=rfl
 have hM:J1S 0 h (.slice (some ⟨o,0,none⟩) l.length (l.length+3)) l:=hL.cells ⟨Nat.zero_le _,ho⟩
 have hsame:=J78 (n:=n) hM hv (by omega) (by omega)
 rw[decide_eq_true rfl] at hsame
 have hlen:=fun h'=>JfF hv h'
 have hlenM:=fun h'=>JfF hM h'
 have w1:IntKind.i64.wrap ((l.length:Int)+1)=((l.length+1:Nat):Int):=J0s (by omega) (by omega)
 have hsl:=fun (H:SHeap)=>JnH (h:=H) (id:=o) (n:=l.length) (m:=l.length+1) (c:=l.length+3) Tryz.underlying25 sz3 (by omega) (by unfold unk;omega)
 have hix:=idx0 (id:=o) (n:=l.length+1) (c:=l.length+3) (i:=l.length) Tryz.underlying25 sz3 (by omega)
 have hld:ld1 (l.length*1) (h.get o)=some (iv (-77)):=hL.ld (j:=0) (by decide)
 simp only[evC,seval,↓evP,hsame,hlen,w1,hsl,hix,J0m,hld,Int.reduceBEq,BEq.rfl]
 refine WK.loop (fun i s'=>s'.T.get 0=.slice (some ⟨o,0,none⟩) l.length (l.length+3)∧s'.T.get 5=.bool true∧s'.T.get 6=iv i∧i≤l.length∧s'.h.next=h.next∧s'.h.floor=h.floor∧(∀ i,i≠o→s'.h.get i=h.get i)∧∃ CS,s'.h.get o=.row CS 3 false false∧CS.length=(l.length+3)*1) l.length (by omega) ?_ ?_
 ·exact⟨by simp only[evC,↓reduceIte,Nat.reduceEqDiff,reduceCtorEq,↓evP,rpC,Nat.reduceAdd,Nat.reduceLT],by simp only[evC,↓reduceIte,Nat.reduceEqDiff,reduceCtorEq,↓evP,rpC,Nat.reduceAdd,Nat.reduceLT],by simp only[evC,↓reduceIte,Nat.reduceEqDiff,reduceCtorEq,↓evP,rpC,Nat.reduceAdd,Nat.reduceLT];rfl,by omega,rfl,rfl,fun _ _=>rfl,_,hL.g,hL.size⟩
 rintro i ⟨T1,H1⟩ hi ⟨t0,t5,t6,hil,n1,f1,o1,CS,gC,lC⟩
 simp only at t0 t5 t6 n1 f1 o1 gC
 by_cases hlt:i<l.length
 ·have c1:decide ((i:Int)<(l.length:Int))=true:=by simp;omega
  have hix:=idx0 (id:=o) (n:=l.length) (c:=l.length+3) (i:=i) Tryz.underlying25 sz3 hlt
  obtain⟨CS',hst,hl'⟩:=Jot (off:=i*1) (v:=iv (-78)) sz3 rfl rfl gC (by omega) (by omega)
  have w2:IntKind.i64.wrap ((i:Int)+1)=((i+1:Nat):Int):=J0s (by omega) (by omega)
  simp only[evC,seval,↓evP,t0,t5,t6,hlenM,c1,hix,hst,w2]
  exact⟨hlt,by omega,n1,f1,fun j hj=>by rw[J05 (by omega) (Ne.symm hj)];exact o1 j hj,CS',J0b rfl (by omega),by omega⟩
 have c1:decide ((i:Int)<(l.length:Int))=false:=by simp;omega
 simp only[evC,seval,↓evP,hr,t0,t5,t6,hlenM,c1]
 exact⟨n1,f1,o1⟩
theorem Jo0 {l:List Int} {v:Value} {o lo:Nat} (hL:LentC h o l.length 1 (ints l) [iv (-77)] [iv 0] 3) (ho:o<h.next) (hf:h.floor≤o) (hv:J1S lo h v l) (hl:l.length<900000000) (hn:l.length+20<n) :
  ∃ h',J0T n 29 [.slice (some ⟨o,0,none⟩) l.length (l.length+3),v] h=some (.bool true,h')∧(h'.next=h.next∧h'.floor=h.floor∧∀ i,i≠o→h'.get i=h.get i):=by
 obtain⟨n,rfl⟩:∃ j,n=j+1:=⟨n-1,by omega⟩
 exact k_wr (J13 ⟨rfl,rfl,rfl⟩) (Jo8 hL ho hf hv hl (by omega) (by omega))
noncomputable def JnN:Array Oper:=J18 Tryz.f11 2
def JpL:List (Bool × Bool × List Operand):=[(false,false,[]),(false,false,[]),(false,true,[]),(false,true,[]),(false,true,[.tmp 17]),(false,true,[.tmp 17]),(false,true,[.tmp 17]),(false,true,[.tmp 17]),(false,true,[]),(false,true,[.tmp 17,.tmp 19,.tmp 18]),(false,true,[.tmp 17,.tmp 19,.tmp 18]),(false,true,[.tmp 17,.tmp 19,.tmp 18]),(false,false,[]),(false,false,[]),(false,false,[]),(false,false,[]),(false,false,[]),(false,false,[]),(false,true,[]),(false,true,[]),(false,true,[.tmp 33]),(false,true,[.tmp 33]),(false,true,[.tmp 33]),(false,true,[.tmp 33]),(false,true,[]),(false,true,[.tmp 33,.tmp 35,.tmp 34]),(false,true,[.tmp 33,.tmp 35,.tmp 34]),(false,true,[.tmp 33,.tmp 35,.tmp 34]),(false,false,[]),(false,false,[]),(false,false,[]),(false,false,[]),(false,false,[]),(false,true,[]),(false,true,[]),(false,true,[.tmp 48]),(false,true,[.tmp 48]),(false,true,[.tmp 48]),(false,true,[.tmp 48]),(false,true,[]),(false,true,[.tmp 48,.tmp 50,.tmp 49]),(false,true,[.tmp 48,.tmp 50,.tmp 49]),(false,true,[.tmp 48,.tmp 50,.tmp 49]),(false,false,[]),(false,false,[]),(false,false,[]),(false,false,[]),(false,false,[])]
theorem JoR:J1E JnN=JpL:=by kernel_rfl
theorem Jp9:(JnN[1]?).bind (·.dst)=some 16∧(JnN[17]?).bind (·.dst)=some 32∧(JnN[32]?).bind (·.dst)=some 47:=⟨by kernel_rfl,by kernel_rfl,by kernel_rfl⟩
set_option maxHeartbeats 16000000 in
theorem JoF {nm:ByteArray} {s:StN} {pv v:Value} {lo b:Nat} {o:Nat→Nat} {h0:SHeap} (hL:LentPol h b v nm s o) (hp:J3x lo h0 pv nm s) (hb:h0.next≤b) (h0g:∀ i,i<h0.next→h.get i=h0.get i) (hf:h.floor≤b) (hs:JdC s) (hl:s.rows.length<900000000) (hl2:s.rules.length<900000000∧s.on.length<900000000) (hn:Jbg s+60<n) (hN:Jbg s+60<N) :
  ∃ h',J0L Tryz.prog (J0T n) N 11 [v,pv] h=some (.bool true,h')∧(h.next≤h'.next∧h'.floor=h.floor∧∀ i,i<h.next→(∀ j,1≤j→j≤6→i≠o j)→h'.get i=h.get i):=by
 obtain⟨vr,vq,vv,vt,vu,vo,rfl,p1,p2,p3,p4,p5,p6⟩:=id hp
 obtain⟨aq,cq,rfl,_⟩:=id p2.2
 obtain⟨av,cv,rfl,_⟩:=id p3.2
 obtain⟨at_,ct,rfl,_⟩:=id p4.2
 obtain⟨rfl,⟨u1,u2,u3,u4,u5,u6,u7⟩,⟨L,L1⟩,L2,L3,L4,L5,L6⟩:=hL
 have hsn:=(J1z n).2
 refine J1N (R:=fun h'=>h.next≤h'.next∧h'.floor=h.floor∧∀ i,i<h.next→(∀ j,1≤j→j≤6→i≠o j)→h'.get i=h.get i) Tryz.func11 rfl (by simp[Tryz.f11]) ?_
 have hr:Tryz.f11.results.toList=[.tmp 4]:=rfl
 have hs':=hs
 obtain⟨q1,q2,q3,q4,q5,q6⟩:=hs
 have htot:Jbg s=s.rows.length+s.queues.length+s.vars.length+s.tags.length+s.rules.length+s.on.length:=rfl
 have ca:(Value.agg #[.string nm,.slice (some ⟨o 1,0,none⟩) s.rows.length (s.rows.length+9),.slice (some ⟨o 2,0,none⟩) s.queues.length (s.queues.length+3),.slice (some ⟨o 3,0,none⟩) s.vars.length (s.vars.length+3),.slice (some ⟨o 4,0,none⟩) s.tags.length (s.tags.length+3),.slice (some ⟨o 5,0,none⟩) s.rules.length (s.rules.length+3),.slice (some ⟨o 6,0,none⟩) s.on.length (s.on.length+3),iv s.miss]).cells.toList=[.string nm,.slice (some ⟨o 1,0,none⟩) s.rows.length (s.rows.length+9),.slice (some ⟨o 2,0,none⟩) s.queues.length (s.queues.length+3),.slice (some ⟨o 3,0,none⟩) s.vars.length (s.vars.length+3),.slice (some ⟨o 4,0,none⟩) s.tags.length (s.tags.length+3),.slice (some ⟨o 5,0,none⟩) s.rules.length (s.rules.length+3),.slice (some ⟨o 6,0,none⟩) s.on.length (s.on.length+3),iv s.miss]:=rfl
 have oa:[Value.string nm,.slice (some ⟨o 1,0,none⟩) s.rows.length (s.rows.length+9),.slice (some ⟨o 2,0,none⟩) s.queues.length (s.queues.length+3),.slice (some ⟨o 3,0,none⟩) s.vars.length (s.vars.length+3),.slice (some ⟨o 4,0,none⟩) s.tags.length (s.tags.length+3),.slice (some ⟨o 5,0,none⟩) s.rules.length (s.rules.length+3),.slice (some ⟨o 6,0,none⟩) s.on.length (s.on.length+3),iv s.miss].all one=true:=rfl
 have cb:(Value.agg #[.string nm,vr,.slice aq s.queues.length cq,.slice av s.vars.length cv,.slice at_ s.tags.length ct,vu,vo,iv s.miss]).cells.toList=[.string nm,vr,.slice aq s.queues.length cq,.slice av s.vars.length cv,.slice at_ s.tags.length ct,vu,vo,iv s.miss]:=rfl
 have ob:=all8 (nm:=nm) p1 p2 p3 p4 p5 p6
 obtain⟨x0,x1,x2,x3,x4,x5,x6,x7⟩:=Jhw (a:=.string nm) (b:=.slice (some ⟨o 1,0,none⟩) s.rows.length (s.rows.length+9)) (c:=.slice (some ⟨o 2,0,none⟩) s.queues.length (s.queues.length+3)) (d:=.slice (some ⟨o 3,0,none⟩) s.vars.length (s.vars.length+3)) (e:=.slice (some ⟨o 4,0,none⟩) s.tags.length (s.tags.length+3)) (f:=.slice (some ⟨o 5,0,none⟩) s.rules.length (s.rules.length+3)) (g:=.slice (some ⟨o 6,0,none⟩) s.on.length (s.on.length+3)) (i:=iv s.miss) (ty:=27) (x:=false) (y:=false)
 obtain⟨y0,y1,y2,y3,y4,y5,y6,y7⟩:=Jhw (a:=.string nm) (b:=vr) (c:=.slice aq s.queues.length cq) (d:=.slice av s.vars.length cv) (e:=.slice at_ s.tags.length ct) (f:=vu) (g:=vo) (i:=iv s.miss) (ty:=27) (x:=false) (y:=false)
 have len2:=JfC p2
 have len3:=JfT p3
 have len4:=JfT p4
 have lenM2:∀ h':SHeap,lenS Tryz.prog h' 23 (.slice (some ⟨o 2,0,none⟩) s.queues.length (s.queues.length+3))=some (iv (s.queues.length:Int)):=fun h'=>by simp[lenS,Tryz.underlying23]
 have lenM3:∀ h':SHeap,lenS Tryz.prog h' 24 (.slice (some ⟨o 3,0,none⟩) s.vars.length (s.vars.length+3))=some (iv (s.vars.length:Int)):=fun h'=>by simp[lenS,Tryz.underlying24]
 have lenM4:∀ h':SHeap,lenS Tryz.prog h' 24 (.slice (some ⟨o 4,0,none⟩) s.tags.length (s.tags.length+3))=some (iv (s.tags.length:Int)):=fun h'=>by simp[lenS,Tryz.underlying24]
 simp only[evC,seval,↓evP,rpD,J0X,J2t,ca,oa,cb,ob,sz30]
 have gA:((h.push (.row [.string nm,.slice (some ⟨o 1,0,none⟩) s.rows.length (s.rows.length+9),.slice (some ⟨o 2,0,none⟩) s.queues.length (s.queues.length+3),.slice (some ⟨o 3,0,none⟩) s.vars.length (s.vars.length+3),.slice (some ⟨o 4,0,none⟩) s.tags.length (s.tags.length+3),.slice (some ⟨o 5,0,none⟩) s.rules.length (s.rules.length+3),.slice (some ⟨o 6,0,none⟩) s.on.length (s.on.length+3),iv s.miss] 27 false false)).push (.row [.string nm,vr,.slice aq s.queues.length cq,.slice av s.vars.length cv,.slice at_ s.tags.length ct,vu,vo,iv s.miss] 27 false false)).get h.next=.row [.string nm,.slice (some ⟨o 1,0,none⟩) s.rows.length (s.rows.length+9),.slice (some ⟨o 2,0,none⟩) s.queues.length (s.queues.length+3),.slice (some ⟨o 3,0,none⟩) s.vars.length (s.vars.length+3),.slice (some ⟨o 4,0,none⟩) s.tags.length (s.tags.length+3),.slice (some ⟨o 5,0,none⟩) s.rules.length (s.rules.length+3),.slice (some ⟨o 6,0,none⟩) s.on.length (s.on.length+3),iv s.miss] 27 false false:=J4c
 have gB:((h.push (.row [.string nm,.slice (some ⟨o 1,0,none⟩) s.rows.length (s.rows.length+9),.slice (some ⟨o 2,0,none⟩) s.queues.length (s.queues.length+3),.slice (some ⟨o 3,0,none⟩) s.vars.length (s.vars.length+3),.slice (some ⟨o 4,0,none⟩) s.tags.length (s.tags.length+3),.slice (some ⟨o 5,0,none⟩) s.rules.length (s.rules.length+3),.slice (some ⟨o 6,0,none⟩) s.on.length (s.on.length+3),iv s.miss] 27 false false)).push (.row [.string nm,vr,.slice aq s.queues.length cq,.slice av s.vars.length cv,.slice at_ s.tags.length ct,vu,vo,iv s.miss] 27 false false)).get (h.next+1)=.row [.string nm,vr,.slice aq s.queues.length cq,.slice av s.vars.length cv,.slice at_ s.tags.length ct,vu,vo,iv s.miss] 27 false false:=J48
 have gO:∀ i,i<h.next→((h.push (.row [.string nm,.slice (some ⟨o 1,0,none⟩) s.rows.length (s.rows.length+9),.slice (some ⟨o 2,0,none⟩) s.queues.length (s.queues.length+3),.slice (some ⟨o 3,0,none⟩) s.vars.length (s.vars.length+3),.slice (some ⟨o 4,0,none⟩) s.tags.length (s.tags.length+3),.slice (some ⟨o 5,0,none⟩) s.rules.length (s.rules.length+3),.slice (some ⟨o 6,0,none⟩) s.on.length (s.on.length+3),iv s.miss] 27 false false)).push (.row [.string nm,vr,.slice aq s.queues.length cq,.slice av s.vars.length cv,.slice at_ s.tags.length ct,vu,vo,iv s.miss] 27 false false)).get i=h.get i:=fun i hi=>by rw[J06 (by show i<h.next+1;omega),J06 hi]
 have nG:((h.push (.row [.string nm,.slice (some ⟨o 1,0,none⟩) s.rows.length (s.rows.length+9),.slice (some ⟨o 2,0,none⟩) s.queues.length (s.queues.length+3),.slice (some ⟨o 3,0,none⟩) s.vars.length (s.vars.length+3),.slice (some ⟨o 4,0,none⟩) s.tags.length (s.tags.length+3),.slice (some ⟨o 5,0,none⟩) s.rules.length (s.rules.length+3),.slice (some ⟨o 6,0,none⟩) s.on.length (s.on.length+3),iv s.miss] 27 false false)).push (.row [.string nm,vr,.slice aq s.queues.length cq,.slice av s.vars.length cv,.slice at_ s.tags.length ct,vu,vo,iv s.miss] 27 false false)).next=h.next+2:=rfl
 have fG:((h.push (.row [.string nm,.slice (some ⟨o 1,0,none⟩) s.rows.length (s.rows.length+9),.slice (some ⟨o 2,0,none⟩) s.queues.length (s.queues.length+3),.slice (some ⟨o 3,0,none⟩) s.vars.length (s.vars.length+3),.slice (some ⟨o 4,0,none⟩) s.tags.length (s.tags.length+3),.slice (some ⟨o 5,0,none⟩) s.rules.length (s.rules.length+3),.slice (some ⟨o 6,0,none⟩) s.on.length (s.on.length+3),iv s.miss] 27 false false)).push (.row [.string nm,vr,.slice aq s.queues.length cq,.slice av s.vars.length cv,.slice at_ s.tags.length ct,vu,vo,iv s.miss] 27 false false)).floor=h.floor:=rfl
 generalize (h.push (.row [.string nm,.slice (some ⟨o 1,0,none⟩) s.rows.length (s.rows.length+9),.slice (some ⟨o 2,0,none⟩) s.queues.length (s.queues.length+3),.slice (some ⟨o 3,0,none⟩) s.vars.length (s.vars.length+3),.slice (some ⟨o 4,0,none⟩) s.tags.length (s.tags.length+3),.slice (some ⟨o 5,0,none⟩) s.rules.length (s.rules.length+3),.slice (some ⟨o 6,0,none⟩) s.on.length (s.on.length+3),iv s.miss] 27 false false)).push (.row [.string nm,vr,.slice aq s.queues.length cq,.slice av s.vars.length cv,.slice at_ s.tags.length ct,vu,vo,iv s.miss] 27 false false)=G at *
 have L1:LentAt G (o 1) s.rows L:=⟨by rw[gO _ (by omega)];exact L1.g,L1.len,L1.own,L1.marks⟩
 have L2:=L2.mono (gO (o 2) (by omega))
 have L3:=L3.mono (gO (o 3) (by omega))
 have L4:=L4.mono (gO (o 4) (by omega))
 have L5:=L5.mono (gO (o 5) (by omega))
 have L6:=L6.mono (gO (o 6) (by omega))
 have hpG:J3x lo G (.agg #[.string nm,vr,.slice aq s.queues.length cq,.slice av s.vars.length cv,.slice at_ s.tags.length ct,vu,vo,iv s.miss]) nm s:=hp.mono (by omega) fun i _ hi=>by rw[gO i (by omega),h0g i hi]
 have hrM:J3P 0 G (.slice (some ⟨o 1,0,none⟩) s.rows.length (s.rows.length+9)) s.rows:=J0l.cells (JnT L1 (by omega))
 have hpM:J3x 0 G (.agg #[.string nm,.slice (some ⟨o 1,0,none⟩) s.rows.length (s.rows.length+9),.slice (some ⟨o 2,0,none⟩) s.queues.length (s.queues.length+3),.slice (some ⟨o 3,0,none⟩) s.vars.length (s.vars.length+3),.slice (some ⟨o 4,0,none⟩) s.tags.length (s.tags.length+3),.slice (some ⟨o 5,0,none⟩) s.rules.length (s.rules.length+3),.slice (some ⟨o 6,0,none⟩) s.on.length (s.on.length+3),iv s.miss]) nm s:=⟨_,_,_,_,_,_,rfl,hrM,L2.cells ⟨Nat.zero_le _,by omega⟩,L3.cells ⟨Nat.zero_le _,by omega⟩,L4.cells ⟨Nat.zero_le _,by omega⟩,L5.cells ⟨Nat.zero_le _,by omega⟩,L6.cells ⟨Nat.zero_le _,by omega⟩⟩
 obtain⟨bb,hsame,hbb⟩:=JgK (n:=n) hpM hpG hs' (by omega)
 obtain rfl:bb=true:=hbb.2 (J8U _ _)
 have lA:ldN 8 0 (G.get h.next)=some (.agg #[.string nm,.slice (some ⟨o 1,0,none⟩) s.rows.length (s.rows.length+9),.slice (some ⟨o 2,0,none⟩) s.queues.length (s.queues.length+3),.slice (some ⟨o 3,0,none⟩) s.vars.length (s.vars.length+3),.slice (some ⟨o 4,0,none⟩) s.tags.length (s.tags.length+3),.slice (some ⟨o 5,0,none⟩) s.rules.length (s.rules.length+3),.slice (some ⟨o 6,0,none⟩) s.on.length (s.on.length+3),iv s.miss]):=J9E gA rfl
 have lB:ldN 8 0 (G.get (h.next+1))=some (.agg #[.string nm,vr,.slice aq s.queues.length cq,.slice av s.vars.length cv,.slice at_ s.tags.length ct,vu,vo,iv s.miss]):=J9E gB rfl
 simp only[evC,seval,↓evP,J1b,lA,lB,hsame]
 rw[← gA] at x0 x1 x2 x3 x4 x5 x6 x7
 rw[← gB] at y0 y1 y2 y3 y4 y5 y6 y7
 have v2:IntKind.i64.wrap ((s.queues.length:Int)+1)=((s.queues.length+1:Nat):Int):=J0s (by omega) (by omega)
 have v3:IntKind.i64.wrap ((s.vars.length:Int)+1)=((s.vars.length+1:Nat):Int):=J0s (by omega) (by omega)
 have v4:IntKind.i64.wrap ((s.tags.length:Int)+1)=((s.tags.length+1:Nat):Int):=J0s (by omega) (by omega)
 have s2:=fun (H:SHeap)=>JnH (h:=H) (id:=o 2) (n:=s.queues.length) (m:=s.queues.length+1) (c:=s.queues.length+3) Tryz.underlying23 sz57 (by omega) (by unfold unk;omega)
 have s3:=fun (H:SHeap)=>JnH (h:=H) (id:=o 3) (n:=s.vars.length) (m:=s.vars.length+1) (c:=s.vars.length+3) Tryz.underlying24 sz9 (by omega) (by unfold unk;omega)
 have s4:=fun (H:SHeap)=>JnH (h:=H) (id:=o 4) (n:=s.tags.length) (m:=s.tags.length+1) (c:=s.tags.length+3) Tryz.underlying24 sz9 (by omega) (by unfold unk;omega)
 have i2:=idx0 (id:=o 2) (n:=s.queues.length+1) (c:=s.queues.length+3) (i:=s.queues.length) Tryz.underlying23 sz57 (by omega)
 have i3:=idx0 (id:=o 3) (n:=s.vars.length+1) (c:=s.vars.length+3) (i:=s.vars.length) Tryz.underlying24 sz9 (by omega)
 have i4:=idx0 (id:=o 4) (n:=s.tags.length+1) (c:=s.tags.length+3) (i:=s.tags.length) Tryz.underlying24 sz9 (by omega)
 have m2:ld1 (s.queues.length*2) (G.get (o 2))=some (.string JcY):=L2.ld (j:=0) (by decide)
 have m3:ld1 (s.vars.length*1) (G.get (o 3))=some (.string JcY):=L3.ld (j:=0) (by decide)
 have m4:ld1 (s.tags.length*1) (G.get (o 4))=some (.string JcY):=L4.ld (j:=0) (by decide)
 have hbe:((JcY:ByteArray)==JcY)=true:=J34 _
 refine WK.flags (ops:=JnN) JoR ?_
 refine WKF.begin ?_
 have FF:=aQ Jp9.1 (aQ Jp9.2.1 (aQ Jp9.2.2 (aQ @J0B (aQ @J1A (aQ @J1B (aQ @J0S (aQ @J0Y (aQ @J0d (aQ @x2 (aQ @x3 (aQ @x4 (aQ @y2 (aQ @y3 (aQ @y4 (aQ @len2 (aQ @len3 (aQ @len4 (aQ @v2 (aQ @v3 (aQ @v4 (aQ @s2 (aQ @s3 (aQ @s4 (aQ @i2 (aQ @i3 (aQ @i4 (aQ @JiV (aQ @m2 (aQ @m3 (aQ @m4 (aQ @hbe (aQ @J1g (aQ @J0J @JiM)))))))))))))))))))))))))))))))))
 refine wst hsn 0 (some 15) (.move (.tmp 5)) none ?_
 simp only[rgC,seval,J04,J02,WKFC,FF]
 refine wst hsn 1 (some 16) (.move (.tmp 15)) none ?_
 simp only[rgC,seval,J04,J02,WKFC,FF]
 refine wst hsn 2 (some 17) (.fieldAddr 27 (.tmp 2) 2) (some (1,true)) ?_
 simp only[rgC,seval,J04,J02,WKFC,Nat.zero_add,FF]
 refine wst hsn 3 (some 18) (.load 23 (.tmp 17)) (some (1,true)) ?_
 simp only[rgC,seval,J04,J02,WKFC,rgL,FF]
 refine wst hsn 4 (some 19) (.fieldAddr 27 (.tmp 3) 2) (some (1,true)) ?_
 simp only[rgC,seval,J04,J02,WKFC,Nat.zero_add,FF]
 refine wst hsn 5 (some 20) (.load 23 (.tmp 19)) (some (1,true)) ?_
 simp only[rgC,seval,J04,J02,WKFC,rgL,FF]
 refine wst hsn 6 (some 21) (.call { callee:=.builtin .len,args:=#[.tmp 20],argTypes:=#[23] }) (some (1,true)) ?_
 simp only[rgC,seval,J04,J02,WKFC,rgK,FF]
 refine wst hsn 7 (some 22) (.binOp .add 3 (.tmp 21) (.const (Value.int IntKind.i64 1)) 3) (some (1,true)) ?_
 simp only[rgC,seval,J04,J02,WKFC,rgB,FF]
 refine wst hsn 8 (some 23) (.slice 23 (.tmp 18) none (some (.tmp 22)) none) (some (1,true)) ?_
 simp only[rgC,seval,J04,J02,WKFC,rgL,FF]
 refine wst hsn 9 (some 24) (.fieldAddr 27 (.tmp 3) 2) (some (1,true)) ?_
 simp only[rgC,seval,J04,J02,WKFC,Nat.zero_add,FF]
 refine wst hsn 10 (some 25) (.load 23 (.tmp 24)) (some (1,true)) ?_
 simp only[rgC,seval,J04,J02,WKFC,rgL,FF]
 refine wst hsn 11 (some 26) (.call { callee:=.builtin .len,args:=#[.tmp 25],argTypes:=#[23] }) (some (1,true)) ?_
 simp only[rgC,seval,J04,J02,WKFC,rgK,FF]
 refine wst hsn 12 (some 27) (.indexAddr 23 (.tmp 23) (.tmp 26)) (some (1,true)) ?_
 simp only[rgC,seval,J04,J02,WKFC,Nat.zero_add,FF]
 refine wst hsn 13 (some 28) (.fieldAddr 55 (.tmp 27) 0) (some (1,true)) ?_
 simp only[rgC,seval,J04,J02,WKFC,Nat.zero_add,FF]
 refine wst hsn 14 (some 29) (.load 9 (.tmp 28)) (some (1,true)) ?_
 simp only[rgC,seval,J04,J02,WKFC,rgL,FF]
 refine wst hsn 15 (some 30) (.binOp .eql 9 (.tmp 29) (.const (Value.string { data:=#[108,101,110,116] })) 9) (some (1,true)) ?_
 simp only[rgC,seval,J04,J02,WKFC,rgB,FF]
 refine wst hsn 16 (some 31) (.pick (.tmp 16) (.tmp 30) (.const (Value.bool false))) none ?_
 simp only[rgC,seval,J04,J02,WKFC,FF]
 refine wst hsn 17 (some 32) (.move (.tmp 31)) none ?_
 simp only[rgC,seval,J04,J02,WKFC,FF]
 refine wst hsn 18 (some 33) (.fieldAddr 27 (.tmp 2) 3) (some (17,true)) ?_
 simp only[rgC,seval,J04,J02,WKFC,Nat.zero_add,FF]
 refine wst hsn 19 (some 34) (.load 24 (.tmp 33)) (some (17,true)) ?_
 simp only[rgC,seval,J04,J02,WKFC,rgL,FF]
 refine wst hsn 20 (some 35) (.fieldAddr 27 (.tmp 3) 3) (some (17,true)) ?_
 simp only[rgC,seval,J04,J02,WKFC,Nat.zero_add,FF]
 refine wst hsn 21 (some 36) (.load 24 (.tmp 35)) (some (17,true)) ?_
 simp only[rgC,seval,J04,J02,WKFC,rgL,FF]
 refine wst hsn 22 (some 37) (.call { callee:=.builtin .len,args:=#[.tmp 36],argTypes:=#[24] }) (some (17,true)) ?_
 simp only[rgC,seval,J04,J02,WKFC,rgK,FF]
 refine wst hsn 23 (some 38) (.binOp .add 3 (.tmp 37) (.const (Value.int IntKind.i64 1)) 3) (some (17,true)) ?_
 simp only[rgC,seval,J04,J02,WKFC,rgB,FF]
 refine wst hsn 24 (some 39) (.slice 24 (.tmp 34) none (some (.tmp 38)) none) (some (17,true)) ?_
 simp only[rgC,seval,J04,J02,WKFC,rgL,FF]
 refine wst hsn 25 (some 40) (.fieldAddr 27 (.tmp 3) 3) (some (17,true)) ?_
 simp only[rgC,seval,J04,J02,WKFC,Nat.zero_add,FF]
 refine wst hsn 26 (some 41) (.load 24 (.tmp 40)) (some (17,true)) ?_
 simp only[rgC,seval,J04,J02,WKFC,rgL,FF]
 refine wst hsn 27 (some 42) (.call { callee:=.builtin .len,args:=#[.tmp 41],argTypes:=#[24] }) (some (17,true)) ?_
 simp only[rgC,seval,J04,J02,WKFC,rgK,FF]
 refine wst hsn 28 (some 43) (.indexAddr 24 (.tmp 39) (.tmp 42)) (some (17,true)) ?_
 simp only[rgC,seval,J04,J02,WKFC,Nat.zero_add,FF]
 refine wst hsn 29 (some 44) (.load 9 (.tmp 43)) (some (17,true)) ?_
 simp only[rgC,seval,J04,J02,WKFC,rgL,FF]
 refine wst hsn 30 (some 45) (.binOp .eql 9 (.tmp 44) (.const (Value.string { data:=#[108,101,110,116] })) 9) (some (17,true)) ?_
 simp only[rgC,seval,J04,J02,WKFC,rgB,FF]
 refine wst hsn 31 (some 46) (.pick (.tmp 32) (.tmp 45) (.const (Value.bool false))) none ?_
 simp only[rgC,seval,J04,J02,WKFC,FF]
 refine wst hsn 32 (some 47) (.move (.tmp 46)) none ?_
 simp only[rgC,seval,J04,J02,WKFC,FF]
 refine wst hsn 33 (some 48) (.fieldAddr 27 (.tmp 2) 4) (some (32,true)) ?_
 simp only[rgC,seval,J04,J02,WKFC,Nat.zero_add,FF]
 refine wst hsn 34 (some 49) (.load 24 (.tmp 48)) (some (32,true)) ?_
 simp only[rgC,seval,J04,J02,WKFC,rgL,FF]
 refine wst hsn 35 (some 50) (.fieldAddr 27 (.tmp 3) 4) (some (32,true)) ?_
 simp only[rgC,seval,J04,J02,WKFC,Nat.zero_add,FF]
 refine wst hsn 36 (some 51) (.load 24 (.tmp 50)) (some (32,true)) ?_
 simp only[rgC,seval,J04,J02,WKFC,rgL,FF]
 refine wst hsn 37 (some 52) (.call { callee:=.builtin .len,args:=#[.tmp 51],argTypes:=#[24] }) (some (32,true)) ?_
 simp only[rgC,seval,J04,J02,WKFC,rgK,FF]
 refine wst hsn 38 (some 53) (.binOp .add 3 (.tmp 52) (.const (Value.int IntKind.i64 1)) 3) (some (32,true)) ?_
 simp only[rgC,seval,J04,J02,WKFC,rgB,FF]
 refine wst hsn 39 (some 54) (.slice 24 (.tmp 49) none (some (.tmp 53)) none) (some (32,true)) ?_
 simp only[rgC,seval,J04,J02,WKFC,rgL,FF]
 refine wst hsn 40 (some 55) (.fieldAddr 27 (.tmp 3) 4) (some (32,true)) ?_
 simp only[rgC,seval,J04,J02,WKFC,Nat.zero_add,FF]
 refine wst hsn 41 (some 56) (.load 24 (.tmp 55)) (some (32,true)) ?_
 simp only[rgC,seval,J04,J02,WKFC,rgL,FF]
 refine wst hsn 42 (some 57) (.call { callee:=.builtin .len,args:=#[.tmp 56],argTypes:=#[24] }) (some (32,true)) ?_
 simp only[rgC,seval,J04,J02,WKFC,rgK,FF]
 refine wst hsn 43 (some 58) (.indexAddr 24 (.tmp 54) (.tmp 57)) (some (32,true)) ?_
 simp only[rgC,seval,J04,J02,WKFC,Nat.zero_add,FF]
 refine wst hsn 44 (some 59) (.load 9 (.tmp 58)) (some (32,true)) ?_
 simp only[rgC,seval,J04,J02,WKFC,rgL,FF]
 refine wst hsn 45 (some 60) (.binOp .eql 9 (.tmp 59) (.const (Value.string { data:=#[108,101,110,116] })) 9) (some (32,true)) ?_
 simp only[rgC,seval,J04,J02,WKFC,rgB,FF]
 refine wst hsn 46 (some 61) (.pick (.tmp 47) (.tmp 60) (.const (Value.bool false))) none ?_
 simp only[rgC,seval,J04,J02,WKFC,FF]
 refine wst hsn 47 (some 5) (.assign (.tmp 61)) none ?_
 simp only[rgC,seval,J04,J02,WKFC,FF]
 refine WKF.done (i:=48) (by kernel_rfl) ?_
 clear FF
 simp only[evC,seval,↓evP]
 refine WK.loop (fun i s'=>s'.T.get 2=.pointer (some ⟨h.next,0,none⟩)∧s'.T.get 3=.pointer (some ⟨h.next+1,0,none⟩)∧s'.T.get 5=.bool true∧s'.T.get 6=iv i∧i≤s.queues.length∧s'.h.next=G.next∧s'.h.floor=G.floor∧(∀ i,i≠o 2→s'.h.get i=G.get i)∧∃ CS,s'.h.get (o 2)=.row CS 55 false false∧CS.length=(s.queues.length+3)*2) s.queues.length (by omega) ?_ ?_
 ·exact⟨by simp only[evC,↓reduceIte,Nat.reduceEqDiff,reduceCtorEq,↓evP,rpC,Nat.reduceAdd,Nat.reduceLT],by simp only[evC,↓reduceIte,Nat.reduceEqDiff,reduceCtorEq,↓evP,rpC,Nat.reduceAdd,Nat.reduceLT],by simp only[evC,↓reduceIte,Nat.reduceEqDiff,reduceCtorEq,↓evP,rpC,Nat.reduceAdd,Nat.reduceLT],by simp only[evC,↓reduceIte,Nat.reduceEqDiff,reduceCtorEq,↓evP,rpC,Nat.reduceAdd,Nat.reduceLT];rfl,by omega,rfl,rfl,fun _ _=>rfl,_,L2.g,L2.size⟩
 rintro i ⟨T1,G1⟩ hi ⟨t2,t3,t5,t6,hil,n1,f1,o1,CS,gC,lC⟩
 simp only at t2 t3 t5 t6 n1 f1 o1 gC
 have gA1:G1.get h.next=G.get h.next:=o1 _ (by omega)
 by_cases hlt:i<s.queues.length
 ·have c1:decide ((i:Int)<(s.queues.length:Int))=true:=by simp;omega
  have hix:=idx0 (id:=o 2) (n:=s.queues.length) (c:=s.queues.length+3) (i:=i) Tryz.underlying23 sz57 hlt
  obtain⟨CS',hst,hl'⟩:=Jot (off:=i*2) (v:=.agg #[.string J9F,.bool false]) sz57 rfl rfl gC (by omega) (by omega)
  have w2:IntKind.i64.wrap ((i:Int)+1)=((i+1:Nat):Int):=J0s (by omega) (by omega)
  simp only[evC,seval,↓evP,Nat.zero_add,t2,t3,t5,t6,J0B,J0S,gA1,x2,lenM2,c1,Joh,hix,hst,w2]
  exact⟨hlt,by omega,n1,f1,fun j hj=>by rw[J05 (by omega) (Ne.symm hj)];exact o1 j hj,CS',J0b rfl (by omega),by omega⟩
 have c1:decide ((i:Int)<(s.queues.length:Int))=false:=by simp;omega
 simp only[evC,seval,↓evP,Nat.zero_add,t2,t3,t5,t6,J0B,J0S,gA1,x2,lenM2,c1]
 clear hi hil hlt c1 gC lC
 have L3:=L3.mono (o1 (o 3) (by omega))
 rw[← gA1] at x3
 refine WK.loop (fun i s'=>s'.T.get 2=.pointer (some ⟨h.next,0,none⟩)∧s'.T.get 3=.pointer (some ⟨h.next+1,0,none⟩)∧s'.T.get 5=.bool true∧s'.T.get 7=iv i∧i≤s.vars.length∧s'.h.next=G1.next∧s'.h.floor=G1.floor∧(∀ i,i≠o 3→s'.h.get i=G1.get i)∧∃ CS,s'.h.get (o 3)=.row CS 9 false false∧CS.length=(s.vars.length+3)*1) s.vars.length (by omega) ?_ ?_
 ·exact⟨by simp only[evC,↓reduceIte,Nat.reduceEqDiff,reduceCtorEq,↓evP,rpC,Nat.reduceAdd,Nat.reduceLT,t2,t3,t5],by simp only[evC,↓reduceIte,Nat.reduceEqDiff,reduceCtorEq,↓evP,rpC,Nat.reduceAdd,Nat.reduceLT,t2,t3,t5],by simp only[evC,↓reduceIte,Nat.reduceEqDiff,reduceCtorEq,↓evP,rpC,Nat.reduceAdd,Nat.reduceLT,t2,t3,t5],by simp only[evC,↓reduceIte,Nat.reduceEqDiff,reduceCtorEq,↓evP,rpC,Nat.reduceAdd,Nat.reduceLT];rfl,by omega,rfl,rfl,fun _ _=>rfl,_,L3.g,L3.size⟩
 rintro i ⟨T2,G2⟩ hi ⟨t2,t3,t5,t7,hil,n2,f2,o2,CS,gC,lC⟩
 simp only at t2 t3 t5 t7 n2 f2 o2 gC
 have gA2:G2.get h.next=G1.get h.next:=o2 _ (by omega)
 by_cases hlt:i<s.vars.length
 ·have c1:decide ((i:Int)<(s.vars.length:Int))=true:=by simp;omega
  have hix:=idx0 (id:=o 3) (n:=s.vars.length) (c:=s.vars.length+3) (i:=i) Tryz.underlying24 sz9 hlt
  obtain⟨CS',hst,hl'⟩:=Jot (off:=i*1) (v:=.string J9F) sz9 rfl rfl gC (by omega) (by omega)
  have w2:IntKind.i64.wrap ((i:Int)+1)=((i+1:Nat):Int):=J0s (by omega) (by omega)
  simp only[evC,seval,↓evP,Nat.zero_add,t2,t3,t5,t7,J1A,J0Y,gA2,x3,lenM3,c1,hix,hst,w2]
  exact⟨hlt,by omega,n2,f2,fun j hj=>by rw[J05 (by omega) (Ne.symm hj)];exact o2 j hj,CS',J0b rfl (by omega),by omega⟩
 have c1:decide ((i:Int)<(s.vars.length:Int))=false:=by simp;omega
 simp only[evC,seval,↓evP,Nat.zero_add,t2,t3,t5,t7,J1A,J0Y,gA2,x3,lenM3,c1]
 clear hi hil hlt c1 gC lC
 have L4:=L4.mono ((o2 (o 4) (by omega)).trans (o1 (o 4) (by omega)))
 rw[← gA1,← gA2] at x4
 refine WK.loop (fun i s'=>s'.T.get 2=.pointer (some ⟨h.next,0,none⟩)∧s'.T.get 3=.pointer (some ⟨h.next+1,0,none⟩)∧s'.T.get 5=.bool true∧s'.T.get 8=iv i∧i≤s.tags.length∧s'.h.next=G2.next∧s'.h.floor=G2.floor∧(∀ i,i≠o 4→s'.h.get i=G2.get i)∧∃ CS,s'.h.get (o 4)=.row CS 9 false false∧CS.length=(s.tags.length+3)*1) s.tags.length (by omega) ?_ ?_
 ·exact⟨by simp only[evC,↓reduceIte,Nat.reduceEqDiff,reduceCtorEq,↓evP,rpC,Nat.reduceAdd,Nat.reduceLT,t2,t3,t5],by simp only[evC,↓reduceIte,Nat.reduceEqDiff,reduceCtorEq,↓evP,rpC,Nat.reduceAdd,Nat.reduceLT,t2,t3,t5],by simp only[evC,↓reduceIte,Nat.reduceEqDiff,reduceCtorEq,↓evP,rpC,Nat.reduceAdd,Nat.reduceLT,t2,t3,t5],by simp only[evC,↓reduceIte,Nat.reduceEqDiff,reduceCtorEq,↓evP,rpC,Nat.reduceAdd,Nat.reduceLT];rfl,by omega,rfl,rfl,fun _ _=>rfl,_,L4.g,L4.size⟩
 rintro i ⟨T3,G3⟩ hi ⟨t2,t3,t5,t8,hil,n3,f3,o3,CS,gC,lC⟩
 simp only at t2 t3 t5 t8 n3 f3 o3 gC
 have gA3:G3.get h.next=G2.get h.next:=o3 _ (by omega)
 by_cases hlt:i<s.tags.length
 ·have c1:decide ((i:Int)<(s.tags.length:Int))=true:=by simp;omega
  have hix:=idx0 (id:=o 4) (n:=s.tags.length) (c:=s.tags.length+3) (i:=i) Tryz.underlying24 sz9 hlt
  obtain⟨CS',hst,hl'⟩:=Jot (off:=i*1) (v:=.string J9F) sz9 rfl rfl gC (by omega) (by omega)
  have w2:IntKind.i64.wrap ((i:Int)+1)=((i+1:Nat):Int):=J0s (by omega) (by omega)
  simp only[evC,seval,↓evP,Nat.zero_add,t2,t3,t5,t8,J1B,J0Y,gA3,x4,lenM4,c1,hix,hst,w2]
  exact⟨hlt,by omega,n3,f3,fun j hj=>by rw[J05 (by omega) (Ne.symm hj)];exact o3 j hj,CS',J0b rfl (by omega),by omega⟩
 have c1:decide ((i:Int)<(s.tags.length:Int))=false:=by simp;omega
 simp only[evC,seval,↓evP,Nat.zero_add,t2,t3,t5,t8,J1B,J0Y,gA3,x4,lenM4,c1]
 clear hi hil hlt c1 gC lC
 have oz:∀ i,i≠o 2→i≠o 3→i≠o 4→G3.get i=G.get i:=fun i e1 e2 e3=>by rw[o3 i e3,o2 i e2,o1 i e1]
 have z0:∀ i,i<h0.next→G3.get i=h0.get i:=fun i hi=>by rw[oz i (by omega) (by omega) (by omega),gO i (by omega),h0g i hi]
 have gAz:G3.get h.next=G.get h.next:=oz _ (by omega) (by omega) (by omega)
 have gBz:G3.get (h.next+1)=G.get (h.next+1):=oz _ (by omega) (by omega) (by omega)
 have L1z:LentAt G3 (o 1) s.rows L:=⟨by rw[oz _ (by omega) (by omega) (by omega)];exact L1.g,L1.len,L1.own,L1.marks⟩
 have hvz:J0l G3 vr s.rows:=p1.1.mono (by omega) z0
 obtain⟨h4,hk4,n4,f4,o4⟩:=JhR (n:=n) L1z (by omega) (by omega) hvz hl (by omega)
 simp only[evC,seval,↓evP,Nat.zero_add,t2,t3,t5,J0y,J0F,gAz,gBz,x1,y1,hk4]
 have gA4:h4.get h.next=G.get h.next:=(o4 _ (by omega)).trans gAz
 have gB4:h4.get (h.next+1)=G.get (h.next+1):=(o4 _ (by omega)).trans gBz
 have L5z:=L5.mono ((o4 (o 5) (by omega)).trans (oz (o 5) (by omega) (by omega) (by omega)))
 have p5z:J1S lo h4 vu s.rules:=J1S.mono p5 (by omega) fun i _ hi=>(o4 i (by omega)).trans (z0 i hi)
 obtain⟨h5,hk5,n5,f5,o5⟩:=Jo0 (n:=n) L5z (by omega) (by omega) p5z hl2.1 (by omega)
 simp only[evC,seval,↓evP,Nat.zero_add,t2,t3,t5,J36,J0n,gA4,gB4,x5,y5,hk5]
 have gA5:h5.get h.next=G.get h.next:=(o5 _ (by omega)).trans gA4
 have gB5:h5.get (h.next+1)=G.get (h.next+1):=(o5 _ (by omega)).trans gB4
 have L6z:=L6.mono ((o5 (o 6) (by omega)).trans ((o4 (o 6) (by omega)).trans (oz (o 6) (by omega) (by omega) (by omega))))
 have p6z:J1S lo h5 vo s.on:=J1S.mono p6 (by omega) fun i _ hi=>(o5 i (by omega)).trans ((o4 i (by omega)).trans (z0 i hi))
 obtain⟨h6,hk6,n6,f6,o6⟩:=Jo0 (n:=n) L6z (by omega) (by omega) p6z hl2.2 (by omega)
 simp only[evC,seval,↓evP,Nat.zero_add,hr,t2,t3,t5,J1T,J0n,gA5,gB5,x6,y6,hk6]
 exact⟨by omega,by omega,fun i hi hj=>by rw[o6 i (hj 6 (by omega) (by omega)),o5 i (hj 5 (by omega) (by omega)),o4 i (hj 1 (by omega) (by omega)),oz i (hj 2 (by omega) (by omega)) (hj 3 (by omega) (by omega)) (hj 4 (by omega) (by omega)),gO i (by omega)]⟩
theorem Jre {nm:ByteArray} {s:StN} {pv v:Value} {lo b:Nat} {o:Nat→Nat} {h0:SHeap} (hL:LentPol h b v nm s o) (hp:J3x lo h0 pv nm s) (hb:h0.next≤b) (h0g:∀ i,i<h0.next→h.get i=h0.get i) (hf:h.floor≤b) (hs:JdC s) (hl:s.rows.length<900000000) (hl2:s.rules.length<900000000∧s.on.length<900000000) (hn:Jbg s+90<n) :
  ∃ h',J0T n 11 [v,pv] h=some (.bool true,h')∧(h.next≤h'.next∧h'.floor=h.floor∧∀ i,i<h.next→(∀ j,1≤j→j≤6→i≠o j)→h'.get i=h.get i):=by
 obtain⟨n,rfl⟩:∃ j,n=j+1:=⟨n-1,by omega⟩
 exact k_wr (J13 ⟨rfl,rfl,rfl⟩) (JoF hL hp hb h0g hf hs hl hl2 (by omega) (by omega))
end
theorem bs22 {h:SHeap} {x:RowN}:J0Q Tryz.prog h 22 1 [(0,rowV x)]=some (.slice (some ⟨h.next,0,none⟩) 1 1,h.push (.row (J0e x) 51 false false)):=by
 simp[J0Q,Tryz.underlying22,sz46,J40,flat,J1i,J0G,J5k,J3e,Go.Sx.lay]
 rfl
theorem Jp5 {h:SHeap} {lo:Nat} {v:Value} {l:List RowN} {x:RowN} (hs:SlAt h lo (fun _=>1) 1 v l.length (l.flatMap J0e) 51) (hlo:lo≤h.next) (hf:h.floor≤lo) (hb:l.length<10000000) :
  ∃ v' h',J1o Tryz.prog (h.push (.row (J0e x) 51 false false)) 22 v (.slice (some ⟨h.next,0,none⟩) 1 1)=some (v',h')∧SlAt h' lo (fun _=>1) 1 v' (l++[x]).length ((l++[x]).flatMap J0e) 51∧h'.floor=h.floor∧h.next≤h'.next∧∀ i,i<lo→h'.get i=h.get i:=by
 have hs':SlAt (h.push (.row (J0e x) 51 false false)) lo (fun i=>if i=h.next then 0 else 1) 1 v l.length (l.flatMap J0e) 51:=hs.mono (by show h.next≤h.next+1;omega) (fun i hi=>if_neg (by omega)) fun i _ hi _=>J06 hi
 obtain⟨v',h1,a1,a2,a3,a4,a5,a6,a7⟩:=J3B (et:=51) (w:=5) (c:=1) (sc:=1) (xs:=J0e x) Tryz.underlying22 sz46 by46 J40 rfl (by decide) (by decide) hs' (J0N l) (J4y l) rfl rfl (by decide) (by decide) hb (src:=h.next) J0h (by show h.next<h.next+1;omega) hf (by simp)
 have hnx:h1.next=h.next+2:=a4
 refine⟨v',h1,a1,?_,a3,by omega,fun i hi=>?_⟩
 ·rcases a2 with a2 | a2
  ·rcases a2 with⟨h2,_⟩ | ⟨id,ex,b1,b2,b3,b4,b5⟩
   ·omega
   ·refine .inr ⟨id,ex,?_,?_,b3,b4,rfl⟩
    ·rw[b1,List.length_append];rfl
    ·rw[b2,List.flatMap_append,List.flatMap_cons,List.flatMap_nil,List.append_nil]
  ·exact absurd (show lo≤h.next+1 by omega) a2
 ·rw[a7 i (by show i<h.next+1;omega) (by omega),J06 (by omega)]
section
variable {call:J0r} {n N:Nat} {h:SHeap}
set_option maxHeartbeats 8000000 in
theorem JoE {l:List RowN} {v:Value} (hv:J0l h v l) (hl:l.length<9000000) (hfl:h.floor≤h.next) (hN:l.length+5<N) :
  ∃ v' h',J0L Tryz.prog call N 49 [v] h=some (v',h')∧J0p h.next h' v' (Jk8 l).length 5 ((Jk8 l).flatMap J0e)∧h'.floor=h.floor∧h.next≤h'.next∧∀ i,i<h.next→h'.get i=h.get i:=by
 refine J65 (R:=fun v' h'=>J0p h.next h' v' (Jk8 l).length 5 ((Jk8 l).flatMap J0e)∧h'.floor=h.floor∧h.next≤h'.next∧∀ i,i<h.next→h'.get i=h.get i) Tryz.func49 rfl (by simp[Tryz.f49]) ?_
 have hr:Tryz.f49.results.toList=[.tmp 2]:=rfl
 simp only[evC,seval,↓evP]
 refine WK.loop (fun i s'=>s'.T.get 0=v∧s'.T.get 4=iv i∧i≤l.length∧h.next≤s'.h.next∧s'.h.floor=h.floor∧(∀ i,i<h.next→s'.h.get i=h.get i)∧∃ u,s'.T.get 3=u∧SlAt s'.h h.next (fun _=>1) 1 u (Jk8 (l.take i)).length ((Jk8 (l.take i)).flatMap J0e) 51) l.length (by omega) ?_ ?_
 ·exact⟨by simp only[evC,↓reduceIte,Nat.reduceEqDiff,reduceCtorEq,↓evP,rpC,Nat.reduceAdd,Nat.reduceLT],by simp only[evC,↓reduceIte,Nat.reduceEqDiff,reduceCtorEq,↓evP,rpC,Nat.reduceAdd,Nat.reduceLT];rfl,by omega,Nat.le_refl _,rfl,fun _ _=>rfl,_,by simp only[evC,↓reduceIte,Nat.reduceEqDiff,reduceCtorEq,↓evP,rpC,Nat.reduceAdd,Nat.reduceLT],J5j⟩
 rintro i ⟨T1,H1⟩ hi ⟨t0,t4,hil,n1,f1,o1,u,t3,hS⟩
 simp only at t0 t4 n1 f1 o1 t3 hS
 have hv1:J0l H1 v l:=hv.mono n1 o1
 have hlen:=fun h'=>hv1.len (h':=h')
 by_cases hlt:i<l.length
 ·have c1:decide ((i:Int)<(l.length:Int))=true:=by simp;omega
  obtain⟨x,hx⟩:∃ x,l[i]?=some x:=⟨_,List.getElem?_eq_getElem hlt⟩
  obtain⟨rid,p,e0,hid,l0,l1,l2,l3,l4,lr⟩:=hv1.row hx
  have hz:flat (.agg #[.int .i64 0,.string ByteArray.empty,.int .i64 0,.int .i64 0,.int .i64 0])=true:=rfl
  have hzc:(Value.agg #[.int .i64 0,.string ByteArray.empty,.int .i64 0,.int .i64 0,.int .i64 0]).cells.toList=[.int .i64 0,.string ByteArray.empty,.int .i64 0,.int .i64 0,.int .i64 0]:=rfl
  have hst:J0K Tryz.prog (H1.push (.row [.int .i64 0,.string ByteArray.empty,.int .i64 0,.int .i64 0,.int .i64 0] 51 false false)) 51 (.pointer (some ⟨H1.next,0,none⟩)) (.agg #[.int .i64 x.kind,.string x.name,.int .i64 x.ends,.int .i64 x.n,.int .i64 x.kids])=some ((H1.push (.row [.int .i64 0,.string ByteArray.empty,.int .i64 0,.int .i64 0,.int .i64 0] 51 false false)).put H1.next (.row (J0e x) 51 false false)):=Jaf (by omega)
  have gN:((H1.push (.row [.int .i64 0,.string ByteArray.empty,.int .i64 0,.int .i64 0,.int .i64 0] 51 false false)).put H1.next (.row (J0e x) 51 false false)).get H1.next=.row (J0e x) 51 false false:=J0b rfl (by show H1.next<H1.next+1;omega)
  have gO:∀ i,i<H1.next→((H1.push (.row [.int .i64 0,.string ByteArray.empty,.int .i64 0,.int .i64 0,.int .i64 0] 51 false false)).put H1.next (.row (J0e x) 51 false false)).get i=H1.get i:=fun i hi=>by rw[J05 (by show H1.next<H1.next+1;omega) (by omega),J06 hi]
  have nG:((H1.push (.row [.int .i64 0,.string ByteArray.empty,.int .i64 0,.int .i64 0,.int .i64 0] 51 false false)).put H1.next (.row (J0e x) 51 false false)).next=H1.next+1:=rfl
  have fG:((H1.push (.row [.int .i64 0,.string ByteArray.empty,.int .i64 0,.int .i64 0,.int .i64 0] 51 false false)).put H1.next (.row (J0e x) 51 false false)).floor=H1.floor:=rfl
  generalize (H1.push (.row [.int .i64 0,.string ByteArray.empty,.int .i64 0,.int .i64 0,.int .i64 0] 51 false false)).put H1.next (.row (J0e x) 51 false false)=G at *
  have w1:IntKind.i64.wrap ((i:Int)+1)=((i+1:Nat):Int):=J0s (by omega) (by omega)
  have lk:ld1 0 (G.get H1.next)=some (iv x.kind):=by rw[gN];rfl
  have htk:Jk8 (l.take (i+1))=Jk8 (l.take i)++[Jli x]:=by
   rw[List.take_add_one,hx,Jk8,Jk8,List.map_append]
   rfl
  have hlt2:(Jk8 (l.take i)).length<10000000:=by
   rw[Jk8,List.length_map,List.length_take]
   omega
  cases d:(x.kind != 27) with
  | false=>
   have hz1:Jli x=x:=by unfold Jli;rw[if_neg (by simpa using d)]
   have lw:ldN 5 0 (G.get H1.next)=some (rowV x):=by rw[gN];rfl
   have hSG:SlAt G h.next (fun _=>1) 1 u (Jk8 (l.take i)).length ((Jk8 (l.take i)).flatMap J0e) 51:=hS.mono (by omega) (fun _ _=>rfl) fun i _ hi _=>gO i hi
   obtain⟨v',H2,ha,hS2,f2,n2,o2⟩:=Jp5 (x:=x) hSG (by omega) (by omega) hlt2
   simp only[evC,seval,↓evP,t0,t3,t4,hlen,c1,e0,J0u,lr,J40,hz,hzc,hst,J0t,J0m,lk,d,lw,bs22,ha,w1]
   refine⟨hlt,by omega,by omega,by omega,fun i hi=>by rw[o2 i hi,gO i (by omega),o1 i hi],?_⟩
   rw[htk,hz1]
   exact hS2
  | true=>
   have hz1:Jli x={ x with n:=0 }:=by unfold Jli;rw[if_pos (by simpa using d)]
   have hs3:=stc (t:=3) (off:=3) (v:=iv 0) sz3 rfl rfl gN (by show 3<5;omega) (by omega)
   have gN2:(G.put H1.next (.row ((J0e x).set 3 (iv 0)) 51 false false)).get H1.next=.row (J0e { x with n:=0 }) 51 false false:=J0b rfl (by omega)
   have gO2:∀ i,i<H1.next→(G.put H1.next (.row ((J0e x).set 3 (iv 0)) 51 false false)).get i=H1.get i:=fun i hi=>by rw[J05 (by omega) (by omega),gO i hi]
   have nG2:(G.put H1.next (.row ((J0e x).set 3 (iv 0)) 51 false false)).next=H1.next+1:=nG
   have fG2:(G.put H1.next (.row ((J0e x).set 3 (iv 0)) 51 false false)).floor=H1.floor:=fG
   generalize G.put H1.next (.row ((J0e x).set 3 (iv 0)) 51 false false)=G2 at *
   have lw:ldN 5 0 (G2.get H1.next)=some (rowV { x with n:=0 }):=by rw[gN2];rfl
   have hSG:SlAt G2 h.next (fun _=>1) 1 u (Jk8 (l.take i)).length ((Jk8 (l.take i)).flatMap J0e) 51:=hS.mono (by omega) (fun _ _=>rfl) fun i _ hi _=>gO2 i hi
   obtain⟨v',H2,ha,hS2,f2,n2,o2⟩:=Jp5 (x:={ x with n:=0 }) hSG (by omega) (by omega) hlt2
   simp only[evC,seval,↓evP,Nat.zero_add,t0,t3,t4,hlen,c1,e0,J0u,lr,J40,hz,hzc,hst,J0t,J0O,J0m,lk,d,hs3,lw,bs22,ha,w1]
   refine⟨hlt,by omega,by omega,by omega,fun i hi=>by rw[o2 i hi,gO2 i (by omega),o1 i hi],?_⟩
   rw[htk,hz1]
   exact hS2
 have c1:decide ((i:Int)<(l.length:Int))=false:=by simp;omega
 have:i=l.length:=by omega
 subst this
 rw[List.take_length] at hS
 simp only[evC,seval,↓evP,hr,t0,t3,t4,hlen,c1]
 exact⟨hS.cells (J0N _),f1,n1,o1⟩
theorem Jpn {l:List RowN} {v:Value} (hv:J0l h v l) (hl:l.length<9000000) (hfl:h.floor≤h.next) (hn:l.length+10<n) :
  ∃ v' h',J0T n 49 [v] h=some (v',h')∧J0l h' v' (Jk8 l)∧h'.floor=h.floor∧h.next≤h'.next∧∀ i,i<h.next→h'.get i=h.get i:=by
 obtain⟨n,rfl⟩:∃ j,n=j+1:=⟨n-1,by omega⟩
 have hex:=k_ex (n:=n) (R:=fun v' h'=>J0p h.next h' v' (Jk8 l).length 5 ((Jk8 l).flatMap J0e)∧h'.floor=h.floor∧h.next≤h'.next∧∀ i,i<h.next→h'.get i=h.get i) (J13 (f:=49) (args:=[v]) (h:=h) ⟨rfl,rfl,rfl⟩) (JoE (call:=J0T n) (N:=n) hv hl hfl (by omega)) fun v' h1 hf _ ⟨hc,_⟩=>⟨hc.flat ?_ _ _,rfl,Nat.le_refl _,fun _ _=>rfl⟩
 ·obtain⟨v',h',e,hc,a⟩:=hex
  exact⟨v',h',e,(J3P.of hc).1,a⟩
 ·obtain⟨_,a,c,rfl,_⟩:=hc
  exact hf
set_option maxHeartbeats 8000000 in
theorem JoT {nm:ByteArray} {s:StN} {pv:Value} {lo:Nat} (hp:J3x lo h pv nm s) (h64:∀ x∈s.rows,x.kids≤9223372036854775807) (hs:JdC s) (hl:s.rows.length<9000000) (hfl:h.floor≤h.next) (hn:Jbg s+100200<n) :
  ∃ h',J0L Tryz.prog (J0T n) N 23 [pv] h=some (iv (JkA nm s),h')∧∀ i,i<h.next→h'.get i=h.get i:=by
 obtain⟨vr,vq,vv,vt,vu,vo,rfl,p1,p2,p3,p4,p5,p6⟩:=hp
 refine J1N (R:=fun h'=>∀ i,i<h.next→h'.get i=h.get i) Tryz.func23 rfl (by simp[Tryz.f23]) ?_
 have hr:Tryz.f23.results.toList=[.tmp 2]:=rfl
 have htot:Jbg s=s.rows.length+s.queues.length+s.vars.length+s.tags.length+s.rules.length+s.on.length:=rfl
 have ca:(Value.agg #[.string nm,vr,vq,vv,vt,vu,vo,iv s.miss]).cells.toList=[.string nm,vr,vq,vv,vt,vu,vo,iv s.miss]:=rfl
 have oa:=all8 (nm:=nm) p1 p2 p3 p4 p5 p6
 have gA:(h.push (.row [.string nm,vr,vq,vv,vt,vu,vo,iv s.miss] 27 false false)).get h.next=.row [.string nm,vr,vq,vv,vt,vu,vo,iv s.miss] 27 false false:=J0h
 have gO:∀ i,i<h.next→(h.push (.row [.string nm,vr,vq,vv,vt,vu,vo,iv s.miss] 27 false false)).get i=h.get i:=fun i hi=>J06 hi
 have nA:(h.push (.row [.string nm,vr,vq,vv,vt,vu,vo,iv s.miss] 27 false false)).next=h.next+1:=rfl
 have fA:(h.push (.row [.string nm,vr,vq,vv,vt,vu,vo,iv s.miss] 27 false false)).floor=h.floor:=rfl
 show WK _ _ _ (.seq _ (.seq _ (.seq _ _))) _ _
 simp only[evC,seval,↓evP,rpD,J0X,J2t,ca,oa,sz30]
 generalize h.push (.row [.string nm,vr,vq,vv,vt,vu,vo,iv s.miss] 27 false false)=A at *
 have l1:ld1 1 (A.get h.next)=some vr:=by rw[gA];rfl
 have P1:J0l A vr s.rows:=p1.1.mono (by omega) gO
 obtain⟨v',h1,hpl,hvz,f1,n1,o1⟩:=Jpn (n:=n) P1 hl (by omega) (by omega)
 have hzl:(Jk8 s.rows).length=s.rows.length:=by rw[Jk8,List.length_map]
 have hz64:∀ x∈Jk8 s.rows,x.kids≤9223372036854775807:=fun x hx=>by
  obtain⟨y,hy,rfl⟩:=List.mem_map.1 hx
  have:=h64 y hy
  unfold Jli
  split <;> exact this
 obtain⟨v2,h2,hres,pv,rfl,hp',f2,n2,o2⟩:=Jij (n:=n) (h:=h1) (by omega) hvz (by omega) hz64 (by omega)
 obtain⟨vr',vq',vv',vt',vu',vo',rfl,b1,b2,b3,b4,b5,b6⟩:=hp'
 obtain⟨⟨hb,h3⟩,s1,s2,rO,n3,f3,o3⟩:=Jlt (H:=h2) (cs:=[.string (outN (Jk8 s.rows)).1,vr',vq',vv',vt',vu',vo',iv (outN (Jk8 s.rows)).2.miss]) (e:=(resN (Jk8 s.rows)).1.1) (p:=(resN (Jk8 s.rows)).1.2) rfl (all8 b1 b2 b3 b4 b5 b6) (by omega)
 simp only at s1 s2 rO n3 f3 o3
 have zc30:zPol.cells.toList=[.string ByteArray.empty,.slice none 0 0,.slice none 0 0,.slice none 0 0,.slice none 0 0,.slice none 0 0,.slice none 0 0,iv 0]:=rfl
 have zc33:(J2k 0 0).cells.toList=[iv 0,iv 0]:=rfl
 have HO:∀ i,i<h.next→h3.get i=h.get i:=fun i hi=>by rw[o3 i (by omega),o2 i (by omega),o1 i (by omega),gO i hi]
 have HA:h3.get h.next=.row [.string nm,vr,vq,vv,vt,vu,vo,iv s.miss] 27 false false:=by rw[o3 _ (by omega),o2 _ (by omega),o1 _ (by omega)];exact gA
 have LA:ldN 8 0 (h3.get h.next)=some (.agg #[.string nm,vr,vq,vv,vt,vu,vo,iv s.miss]):=by rw[HA];rfl
 have LB:ldN 8 0 (h3.get h2.next)=some (.agg #[.string (outN (Jk8 s.rows)).1,vr',vq',vv',vt',vu',vo',iv (outN (Jk8 s.rows)).2.miss]):=by rw[rO.1];rfl
 have lF:ld1 0 (h3.get (h2.next+1))=some (iv (resN (Jk8 s.rows)).1.1):=by rw[rO.2];rfl
 have NN:h.next≤h3.next:=by omega
 have hpA:J3x lo h3 (.agg #[.string nm,vr,vq,vv,vt,vu,vo,iv s.miss]) nm s:=⟨vr,vq,vv,vt,vu,vo,rfl,p1.mono NN fun i _ hi=>HO i hi,p2.mono NN fun i _ hi=>HO i hi,p3.mono NN fun i _ hi=>HO i hi,p4.mono NN fun i _ hi=>HO i hi,J1S.mono p5 NN fun i _ hi=>HO i hi,J1S.mono p6 NN fun i _ hi=>HO i hi⟩
 have hpB:J3x h1.next h3 (.agg #[.string (outN (Jk8 s.rows)).1,vr',vq',vv',vt',vu',vo',iv (outN (Jk8 s.rows)).2.miss]) (outN (Jk8 s.rows)).1 (outN (Jk8 s.rows)).2:=
  J3x.mono ⟨vr',vq',vv',vt',vu',vo',rfl,b1,b2,b3,b4,b5,b6⟩ (by omega) fun i _ hi=>o3 i hi
 obtain⟨b,hsame,hb'⟩:=JgK (n:=n) (h:=h3) hpA hpB hs (by omega)
 simp only[evC,seval,↓evP,Nat.zero_add,J0y,J0F,l1,hpl,hres,J5F,J3Y,zc30,J3C,J1t,zc33,J1D,s1,s2]
 cases d0:((resN (Jk8 s.rows)).1.1 != 0) with
 | true=>
  rw[show JkA nm s=23 from if_neg fun h9=>absurd h9.1 (by simpa using d0)]
  simp only[evC,seval,↓evP,hr,J6a,J7G,lF,d0]
  exact HO
 | false=>
  cases b with
  | true=>
   rw[show JkA nm s=0 from if_pos ⟨by simpa using d0,hb'.1 rfl⟩]
   simp only[evC,seval,↓evP,hr,J6a,J7G,lF,d0,J1b,LA,LB,hsame]
   exact HO
  | false=>
   rw[show JkA nm s=23 from if_neg fun h9=>by have:=hb'.2 h9.2;cases this]
   simp only[evC,seval,↓evP,hr,J6a,J7G,lF,d0,J1b,LA,LB,hsame]
   exact HO
theorem JpH {nm:ByteArray} {s:StN} {pv:Value} {lo:Nat} (hp:J3x lo h pv nm s) (h64:∀ x∈s.rows,x.kids≤9223372036854775807) (hs:JdC s) (hl:s.rows.length<9000000) (hfl:h.floor≤h.next) (hn:Jbg s+100300<n) :
  J0T n 23 [pv] h=some (iv (JkA nm s),h):=by
 obtain⟨n,rfl⟩:∃ j,n=j+1:=⟨n-1,by omega⟩
 exact J4r (J13 ⟨rfl,rfl,rfl⟩) rfl (JoT (N:=n) hp h64 hs hl hfl (by omega))
end
theorem LentPol.pol {h:SHeap} {b:Nat} {v:Value} {nm:ByteArray} {s:StN} {o:Nat→Nat} (hL:LentPol h b v nm s o):J3x 0 h v nm s:=by
 obtain⟨rfl,⟨u1,u2,u3,u4,u5,u6,u7⟩,⟨L,L1⟩,L2,L3,L4,L5,L6⟩:=hL
 exact⟨_,_,_,_,_,_,rfl,J0l.cells (JnT L1 (by omega)),L2.cells ⟨Nat.zero_le _,by omega⟩,L3.cells ⟨Nat.zero_le _,by omega⟩,L4.cells ⟨Nat.zero_le _,by omega⟩,L5.cells ⟨Nat.zero_le _,by omega⟩,L6.cells ⟨Nat.zero_le _,by omega⟩⟩
theorem LentPol.mono {h h':SHeap} {b:Nat} {v:Value} {nm:ByteArray} {s:StN} {o:Nat→Nat} (hL:LentPol h b v nm s o) (hn:h.next≤h'.next) (hg:∀ i,i<h.next→h'.get i=h.get i):LentPol h' b v nm s o:=by
 obtain⟨hv,⟨u1,u2,u3,u4,u5,u6,u7⟩,⟨L,L1⟩,L2,L3,L4,L5,L6⟩:=hL
 exact⟨hv,⟨u1,u2,u3,u4,u5,u6,by omega⟩,⟨L,by rw[hg _ (by omega)];exact L1.g,L1.len,L1.own,L1.marks⟩,L2.mono (hg _ (by omega)),L3.mono (hg _ (by omega)),L4.mono (hg _ (by omega)),L5.mono (hg _ (by omega)),L6.mono (hg _ (by omega))⟩
theorem LentPol.lies {h:SHeap} {b:Nat} {v:Value} {nm:ByteArray} {s:StN} {o:Nat→Nat} (hL:LentPol h b v nm s o):∀ nm' vr vq vv vt vu vo m,v=.agg #[.string nm',vr,vq,vv,vt,vu,vo,m]→Lies vr s.rows.length:=by
 intro nm' vr vq vv vt vu vo m hv
 rw[hL.v] at hv
 simp only[Value.agg.injEq,Array.mk.injEq,List.cons.injEq] at hv
 obtain⟨_,h1,_⟩:=hv
 subst h1
 exact⟨_,_,_,rfl⟩
section
variable {n N:Nat} {h:SHeap}
set_option maxHeartbeats 8000000 in
theorem JoQ {nm:ByteArray} {s:StN} {pv:Value} {lo:Nat} (hp:J3x lo h pv nm s) (hn:0<n) :
  ∃ v' h',J0L Tryz.prog (J0T n) N 16 [pv] h=some (v',h')∧(∃ b,v'=.bool b∧(b=false→s.rows.length≤65536∧s.queues.length≤100∧s.vars.length≤100∧s.tags.length≤100∧s.rules.length≤100∧s.on.length≤100))∧∀ i,i<h.next→h'.get i=h.get i:=by
 obtain⟨vr,vq,vv,vt,vu,vo,rfl,p1,p2,p3,p4,p5,p6⟩:=hp
 refine J65 (R:=fun v' h'=>(∃ b,v'=.bool b∧(b=false→s.rows.length≤65536∧s.queues.length≤100∧s.vars.length≤100∧s.tags.length≤100∧s.rules.length≤100∧s.on.length≤100))∧∀ i,i<h.next→h'.get i=h.get i) Tryz.func16 rfl (by simp[Tryz.f16]) ?_
 have hr:Tryz.f16.results.toList=[.tmp 2]:=rfl
 have ca:(Value.agg #[.string nm,vr,vq,vv,vt,vu,vo,iv s.miss]).cells.toList=[.string nm,vr,vq,vv,vt,vu,vo,iv s.miss]:=rfl
 have oa:=all8 (nm:=nm) p1 p2 p3 p4 p5 p6
 obtain⟨x0,x1,x2,x3,x4,x5,x6,x7⟩:=Jhw (a:=.string nm) (b:=vr) (c:=vq) (d:=vv) (e:=vt) (f:=vu) (g:=vo) (i:=iv s.miss) (ty:=27) (x:=false) (y:=false)
 have gA:(h.push (.row [.string nm,vr,vq,vv,vt,vu,vo,iv s.miss] 27 false false)).get h.next=.row [.string nm,vr,vq,vv,vt,vu,vo,iv s.miss] 27 false false:=J0h
 have gO:∀ i,i<h.next→(h.push (.row [.string nm,vr,vq,vv,vt,vu,vo,iv s.miss] 27 false false)).get i=h.get i:=fun i hi=>J06 hi
 have nA:(h.push (.row [.string nm,vr,vq,vv,vt,vu,vo,iv s.miss] 27 false false)).next=h.next+1:=rfl
 have len2:=JfC p2
 have len3:=JfT p3
 have len4:=JfT p4
 have len5:=JfF p5
 have len6:=JfF p6
 simp only[evC,seval,↓evP,rpD,J0X,J2t,ca,oa,sz30]
 generalize h.push (.row [.string nm,vr,vq,vv,vt,vu,vo,iv s.miss] 27 false false)=A at *
 rw[← gA] at x0 x1 x2 x3 x4 x5 x6 x7
 have P1:J0l A vr s.rows:=p1.1.mono (by omega) gO
 have hfar:=JiW (n:=n) P1 hn
 cases d0:decide ((s.rows.length:Int)>65536) with
 | true=>
  rw[d0] at hfar
  simp only[evC,seval,↓evP,hr,Nat.zero_add,J0y,J0F,x1,hfar]
  exact⟨⟨true,rfl,fun h=>by cases h⟩,gO⟩
 | false=>
 rw[d0] at hfar
 have e0:=of_decide_eq_false d0
 cases d1:decide ((s.queues.length:Int)>100) with
 | true=>
  simp only[evC,seval,↓evP,hr,Nat.zero_add,J0y,J0B,J0F,J0S,x1,x2,hfar,len2,d1]
  exact⟨⟨true,rfl,fun h=>by cases h⟩,gO⟩
 | false=>
 have e1:=of_decide_eq_false d1
 cases d2:decide ((s.vars.length:Int)>100) with
 | true=>
  simp only[evC,seval,↓evP,hr,Nat.zero_add,J0y,J0B,J1A,J0F,J0S,J0Y,x1,x2,x3,hfar,len2,len3,d1,d2]
  exact⟨⟨true,rfl,fun h=>by cases h⟩,gO⟩
 | false=>
 have e2:=of_decide_eq_false d2
 cases d3:decide ((s.tags.length:Int)>100) with
 | true=>
  simp only[evC,seval,↓evP,hr,Nat.zero_add,J0y,J0B,J1A,J1B,J0F,J0S,J0Y,x1,x2,x3,x4,hfar,len2,len3,len4,d1,d2,d3]
  exact⟨⟨true,rfl,fun h=>by cases h⟩,gO⟩
 | false=>
 have e3:=of_decide_eq_false d3
 cases d4:decide ((s.rules.length:Int)>100) with
 | true=>
  simp only[evC,seval,↓evP,hr,Nat.zero_add,J0y,J0B,J1A,J1B,J36,J0F,J0S,J0Y,J0n,x1,x2,x3,x4,x5,hfar,len2,len3,len4,len5,d1,d2,d3,d4]
  exact⟨⟨true,rfl,fun h=>by cases h⟩,gO⟩
 | false=>
 have e4:=of_decide_eq_false d4
 simp only[evC,seval,↓evP,hr,Nat.zero_add,J0y,J0B,J1A,J1B,J36,J1T,J0F,J0S,J0Y,J0n,x1,x2,x3,x4,x5,x6,hfar,len2,len3,len4,len5,len6,d1,d2,d3,d4]
 exact⟨⟨_,rfl,fun h=>by have:=of_decide_eq_false h;omega⟩,gO⟩
theorem Jpu {nm:ByteArray} {s:StN} {pv:Value} {lo:Nat} (hp:J3x lo h pv nm s) (hn:1<n) :
  ∃ b,J0T n 16 [pv] h=some (.bool b,h)∧(b=false→s.rows.length≤65536∧s.queues.length≤100∧s.vars.length≤100∧s.tags.length≤100∧s.rules.length≤100∧s.on.length≤100):=by
 obtain⟨n,rfl⟩:∃ j,n=j+1:=⟨n-1,by omega⟩
 obtain⟨v',h',e,⟨b,rfl,hb⟩,ho⟩:=JoQ (n:=n) (N:=n) hp (by omega)
 exact⟨b,J4r (J13 ⟨rfl,rfl,rfl⟩) rfl ⟨h',e,ho⟩,hb⟩
end
theorem JqK {l:List RowN}:∀ (a b p q r:Nat),J35 l a p q→J35 l b q r→J35 l (a+b) p r
 | 0,b,p,q,r,h,h2=>by
  have:p=q:=h
  subst this
  rw[Nat.zero_add]
  exact h2
 | a+1,b,p,q,r,⟨p',h1,h3,h4,h5⟩,h2=>by
  rw[show a+1+b=(a+b)+1 by omega]
  exact⟨p',h1,h3,h4,JqK a b p' q r h5 h2⟩
section
variable {call:J0r} {N:Nat} {h:SHeap}
set_option maxHeartbeats 4000000 in
theorem Jsb {Z L:List RowN} {v:Value} {at_ q:Nat} (hsk:Jkk L Z) (hv:J0l h v L) (hs:SubT Z at_ q) (hlen:L.length<1099511627776) (hN:L.length+3<N) :
  J0L Tryz.prog call N 64 [v,iv at_] h=some (iv q,h):=by
 refine J1m Tryz.func64 rfl (by simp[Tryz.f64]) ?_
 have hr:Tryz.f64.results.toList=[.tmp 4]:=rfl
 have hl:=fun h'=>hv.len (h':=h')
 have hq:=hs.lt
 have hZ:=hsk.1
 simp only[evC,seval,↓evP,rpC,hr]
 refine WK.loop (fun i s'=>s'.h=h∧s'.T.get 0=v∧s'.T.get 1=iv ((at_+i:Nat):Int)∧∃ r:Nat,s'.T.get 5=iv r∧J35 Z r (at_+i) q) (q-at_) (by omega) ?_ ?_
 ·exact⟨rfl,by simp only[evC,seval,↓evP,rpC],by simp only[evC,seval,↓evP,rpC,Nat.add_zero],1,by simp only[evC,seval,↓evP,rpC],q,hs,hq.1,hq.2,rfl⟩
 rintro i ⟨T1,H1⟩ hi ⟨rfl,t0,t1,r,t5,hc⟩
 simp only at t0 t1 t5
 cases r with
 | zero=>
  have hpq:at_+i=q:=hc
  have c1:decide (((0:Nat):Int)>0)=false:=rfl
  rw[hpq] at t1
  simp only[evC,seval,↓evP,rpC,hr,t0,t1,t5,c1]
 | succ r=>
  obtain⟨p',h1,h2,h3,h4⟩:=hc
  have hle:=J2o _ _ _ h4
  have c1:decide (((r+1:Nat):Int)>0)=true:=decide_eq_true (by omega)
  have c2:decide (((at_+i:Nat):Int)≥0)=true:=decide_eq_true (by omega)
  have c3:decide (((at_+i:Nat):Int)<(L.length:Int))=true:=by simp;omega
  obtain⟨x,hx,hk0,_,hch⟩:=h1.kids
  obtain⟨y,hy,hyk⟩:=hsk.2 _ x hx
  obtain⟨id,p,e0,hid,l0,l1,l2,l3,l4,lr⟩:=hv.row hy
  rw[hyk] at l4
  have hcl:=J2o _ _ _ hch
  have m1:(if (L.length:Int)<x.kids then (L.length:Int) else x.kids)=x.kids:=if_neg (by omega)
  have m2:(if x.kids>0 then x.kids else 0)=x.kids:=by split <;> omega
  have w1:IntKind.i64.wrap (x.kids-1)=x.kids-1:=J0s (by omega) (by omega)
  have w2:IntKind.i64.wrap (((r+1:Nat):Int)+(x.kids-1))=((x.kids.toNat+r:Nat):Int):=by rw[J0s (by omega) (by omega)];omega
  have w3:IntKind.i64.wrap (((at_+i:Nat):Int)+1)=((at_+(i+1):Nat):Int):=by rw[J0s (by omega) (by omega)];omega
  simp only[evC,seval,↓evP,rpC,t0,t1,t5,c1,c2,hl,c3,e0,l4,m1,m2,w1,w2,w3]
  exact⟨by omega,_,rfl,JqK _ _ _ _ _ hch h4⟩
theorem Jt5 {n:Nat} {Z L:List RowN} {v:Value} {at_ q:Nat} (hsk:Jkk L Z) (hv:J0l h v L) (hs:SubT Z at_ q) (hlen:L.length<1099511627776) (hn:L.length+5<n) :
  J0T n 64 [v,iv at_] h=some (iv q,h):=by
 obtain⟨n,rfl⟩:∃ j,n=j+1:=⟨n-1,by omega⟩
 exact J6r (J13 ⟨rfl,rfl,rfl⟩) rfl (Jsb hsk hv hs hlen (by omega))
def JpU (e:Nat→Nat):Nat→Nat→List Nat
 | 0,_=>[]
 | k+1,p=>p :: JpU e k (e p)
theorem Jqt {e:Nat→Nat}:∀ k p,(JpU e k p).length=k
 | 0,p=>rfl
 | k+1,p=>by show (JpU e k (e p)).length+1=_;rw[Jqt k (e p)]
def IntL (h:SHeap) (lo:Nat) (v:Value) (l:List Int):Prop:=
 (v=.slice none 0 0∧l=[])∨∃ id c,v=.slice (some ⟨id,0,none⟩) l.length c∧lo≤id∧id<h.next∧((c=unk∧h.get id=.row (ints l) 3 true false)∨(c=l.length∧h.get id=.row (ints l) 3 false false))
theorem IntL.ints {lo lo':Nat} {v:Value} {l:List Int} (hl:IntL h lo v l) (hle:lo'≤lo):J1S lo' h v l:=by
 rcases hl with⟨rfl,rfl⟩ | ⟨id,c,rfl,h1,h2,⟨_,h3⟩ | ⟨_,h3⟩⟩
 ·exact J0p.nil lo' h 1
 ·exact J1S.row' h3 ⟨by omega,h2⟩ rfl
 ·exact J1S.row' h3 ⟨by omega,h2⟩ rfl
theorem IntL.mono {h':SHeap} {lo:Nat} {v:Value} {l:List Int} (hl:IntL h lo v l) (hn:h.next≤h'.next) (hg:∀ i,lo≤i→i<h.next→h'.get i=h.get i):IntL h' lo v l:=by
 rcases hl with h1 | ⟨id,c,h1,h2,h3,h4⟩
 ·exact .inl h1
 ·exact .inr ⟨id,c,h1,h2,by omega,by rw[hg id h2 h3];exact h4⟩
theorem Jrq:(Value.int .i64 0).cells.size=1:=rfl
theorem Jqv {lo:Nat} {v:Value} {l:List Int} {x:Int} (hl:IntL h lo v l) (hlo:lo≤h.next) (hf:h.floor≤lo) (hb:l.length<100000000000) :
  ∃ v' h',J1o Tryz.prog (h.push (.row [iv x] 3 false false)) 25 v (.slice (some ⟨h.next,0,none⟩) 1 1)=some (v',h')∧IntL h' lo v' (l++[x])∧h'.floor=h.floor∧h.next≤h'.next∧∀ i,i<lo→h'.get i=h.get i:=by
 have hsrc:J16 (h.push (.row [iv x] 3 false false)) 1 1 (.slice (some ⟨h.next,0,none⟩) 1 1)=some [iv x]:=by
  simp only[J16,J0h]
  rfl
 have hone:([iv x]:List Value).all one=true:=rfl
 have hi1:ints (l++[x])=ints l++[iv x]:=by simp[ints]
 rcases hl with⟨rfl,rfl⟩ | ⟨id,c,rfl,h1,h2,h3⟩
 ·have hnu:(0:Nat)≠unk:=by unfold unk;omega
  refine⟨.slice (some ⟨(h.push (.row [iv x] 3 false false)).next,0,none⟩) 1 unk,(h.push (.row [iv x] 3 false false)).push (.row [iv x] 3 true false),?_,.inr ⟨_,unk,rfl,?_,?_,.inl ⟨rfl,J0h⟩⟩,rfl,by show h.next≤h.next+1+1;omega,fun i hi=>?_⟩
  ·have h0:J16 (h.push (.row [iv x] 3 false false)) 1 0 (.slice none 0 0)=some []:=by simp[J16]
   simp only[J1o,Tryz.underlying25,sz3,by3,J8P,Jrq,hsrc,hone,h0]
   rw[if_pos (by simp),if_pos trivial,if_neg hnu,if_neg (by omega),if_pos (by simp)]
   rfl
  ·show lo≤h.next+1;omega
  ·show h.next+1<h.next+1+1;omega
  ·rw[J06 (by show i<h.next+1;omega),J06 (by omega)]
 ·have hll:(ints l).length=l.length:=J1h l
  rcases h3 with⟨rfl,hg⟩ | ⟨rfl,hg⟩
  ·have hu:l.length≤unk:=by unfold unk;omega
   have hg':(h.push (.row [iv x] 3 false false)).get id=.row (ints l) 3 true false:=by rw[J06 h2];exact hg
   have hcut:cut (ints l) 0 (l.length*1)=some (ints l):=by
    simp only[cut,List.drop_zero]
    rw[List.take_of_length_le (by omega),if_pos (by omega)]
   refine⟨.slice (some ⟨(h.push (.row [iv x] 3 false false)).next,0,none⟩) (l.length+1) unk,((h.push (.row [iv x] 3 false false)).put id .dead).push (.row (ints l++[iv x]) 3 true false),?_,.inr ⟨_,unk,by rw[List.length_append];rfl,?_,?_,.inl ⟨rfl,?_⟩⟩,rfl,by show h.next≤h.next+1+1;omega,fun i hi=>?_⟩
   ·simp only[J1o,Tryz.underlying25,sz3,by3,J8P,Jrq,hsrc,hone,hg',hcut,J5u]
    rw[if_pos (by simp;omega),if_pos trivial,if_pos trivial,if_pos (by rw[J0i,decide_eq_true (show (l.length+1)*8≤140737488355328 by omega),decide_eq_true (show l.length+1≤140737488355328 by omega),decide_eq_true (show h.floor≤id by omega)];rfl),if_neg (by decide),if_pos trivial,if_pos trivial]
   ·show lo≤h.next+1;omega
   ·show h.next+1<h.next+1+1;omega
   ·rw[hi1]
    exact J0h
   ·rw[J06 (by show i<h.next+1;omega),J05 (by show id<h.next+1;omega) (by omega),J06 (by omega)]
  ·have hcut:J16 (h.push (.row [iv x] 3 false false)) 1 l.length (.slice (some ⟨id,0,none⟩) l.length l.length)=some (ints l):=by
    by_cases h0:l.length=0
    ·rw[List.length_eq_zero_iff.1 h0]
     rfl
    ·simp only[J16,J06 h2,hg,cut,List.drop_zero]
     rw[if_neg h0,List.take_of_length_le (by omega),if_pos (by omega)]
   refine⟨.slice (some ⟨(h.push (.row [iv x] 3 false false)).next,0,none⟩) (l.length+1) unk,(h.push (.row [iv x] 3 false false)).push (.row (ints l++[iv x]) 3 true false),?_,.inr ⟨_,unk,by rw[List.length_append];rfl,?_,?_,.inl ⟨rfl,?_⟩⟩,rfl,by show h.next≤h.next+1+1;omega,fun i hi=>?_⟩
   ·simp only[J1o,Tryz.underlying25,sz3,by3,J8P,Jrq,hsrc,hone,hcut]
    rw[if_pos (by simp),if_pos trivial,if_neg (by unfold unk;omega),if_neg (by omega),if_pos (by simp only[Bool.and_eq_true,decide_eq_true_eq];omega)]
   ·show lo≤h.next+1;omega
   ·show h.next+1<h.next+1+1;omega
   ·rw[hi1]
    exact J0h
   ·rw[J06 (by show i<h.next+1;omega),J06 (by omega)]
set_option maxHeartbeats 8000000 in
theorem Jrr {n:Nat} {Z L:List RowN} {v:Value} {at_:Nat} {x:RowN} (ht:J2c Z) (hsk:Jkk L Z) (hv:J0l h v L) (hx:Z[at_]?=some x) (hlen:L.length<100000000) (hn:L.length+10<n) (hN:L.length+3<N) (hfl:h.floor≤h.next) :
  ∃ v' h',J0L Tryz.prog (J0T n) N 48 [v,iv at_] h=some (v',h')∧(IntL h' h.next v' ((JpU (endN Z) x.kids.toNat (at_+1)).map (fun (k:Nat)=>(k:Int)))∧h'.floor=h.floor∧h.next≤h'.next∧∀ i,i<h.next→h'.get i=h.get i):=by
 refine J65 (R:=fun v' h'=>IntL h' h.next v' ((JpU (endN Z) x.kids.toNat (at_+1)).map (fun (k:Nat)=>(k:Int)))∧h'.floor=h.floor∧h.next≤h'.next∧∀ i,i<h.next→h'.get i=h.get i) Tryz.func48 rfl (by simp[Tryz.f48]) ?_
 have hr:Tryz.f48.results.toList=[.tmp 4]:=rfl
 have hl:=fun (h':SHeap)=>hv.len (h':=h')
 have hal:=(List.getElem?_eq_some_iff.1 hx).1
 have hZ:=hsk.1
 have hs:=ht.end hal
 obtain⟨x',hx',hk0,_,hch⟩:=hs.kids
 rw[hx] at hx'
 cases hx'
 have hq:=hs.lt
 have hcl:=J2o _ _ _ hch
 obtain⟨y,hy,hyk⟩:=hsk.2 _ x hx
 obtain⟨id,p,e0,hid,l0,l1,l2,l3,l4,lr⟩:=hv.row hy
 rw[hyk] at l4
 have c1:decide ((at_:Int)<0)=false:=by simp
 have c2:decide ((at_:Int)≥(L.length:Int))=false:=by simp;omega
 have w1:IntKind.i64.wrap ((at_:Int)+1)=((at_+1:Nat):Int):=J0s (by omega) (by omega)
 simp only[evC,seval,↓evP,rpC,hr,c1,hl,c2,w1,e0,l4]
 refine WK.loop (fun i s'=>s'.T.get 0=v∧s'.T.get 21=iv x.kids∧s'.T.get 22=iv i∧i≤x.kids.toNat∧h.next≤s'.h.next∧s'.h.floor=h.floor∧(∀ j,j<h.next→s'.h.get j=h.get j)∧∃ p l w,s'.T.get 6=iv ((p:Nat):Int)∧s'.T.get 5=w∧IntL s'.h h.next w (l.map (fun (k:Nat)=>(k:Int)))∧l.length=i∧l++JpU (endN Z) (x.kids.toNat-i) p=JpU (endN Z) x.kids.toNat (at_+1)∧J35 Z (x.kids.toNat-i) p (endN Z at_)) x.kids.toNat (by omega) ?_ ?_
 ·exact⟨by simp only[evC,seval,↓evP,rpC],by simp only[evC,seval,↓evP,rpC],by simp only[evC,seval,↓evP,rpC],by omega,Nat.le_refl _,rfl,fun _ _=>rfl,at_+1,[],.slice none 0 0,by simp only[evC,seval,↓evP,rpC],by simp only[evC,seval,↓evP,rpC],.inl ⟨rfl,rfl⟩,rfl,rfl,hch⟩
 rintro i ⟨T1,H1⟩ hi ⟨t0,t21,t22,hil,m1,m2,m3,p,l,w,t6,t5,hL,hll,hlk,hc⟩
 simp only at t0 t21 t22 m1 m2 m3 t6 t5 hL
 by_cases hlt:i<x.kids.toNat
 ·have d1:decide ((i:Int)<x.kids)=true:=by simp;omega
  obtain⟨r,hr1⟩:∃ r,x.kids.toNat-i=r+1:=⟨x.kids.toNat-i-1,by omega⟩
  rw[hr1] at hc hlk
  obtain⟨p',s1,s2,s3,s4⟩:=hc
  have hle:=J2o _ _ _ s4
  have d2:decide ((p:Int)≥(L.length:Int))=false:=by simp;omega
  have hep:=J5P s1
  obtain⟨w',H',happ,hL',fH,nH,oH⟩:=Jqv (x:=(p:Int)) hL m1 (by omega) (by rw[List.length_map];omega)
  have hvH:J0l H' v L:=hv.mono (by omega) fun j hj=>(oH j hj).trans (m3 j hj)
  have hend:=Jt5 (n:=n) hsk hvH s1 (by omega) (by omega)
  have w2:IntKind.i64.wrap ((i:Int)+1)=((i+1:Nat):Int):=J0s (by omega) (by omega)
  simp only[evC,seval,↓evP,t0,t21,t22,t5,t6,d1,hl,d2,bs28,happ,hend,w2]
  refine⟨hlt,by omega,by omega,by omega,fun j hj=>(oH j hj).trans (m3 j hj),p',l++[p],w',rfl,rfl,?_,by rw[List.length_append,hll];rfl,?_,?_⟩
  ·rw[List.map_append]
   exact hL'
  ·rw[List.append_assoc,← hlk,show x.kids.toNat-(i+1)=r by omega]
   show l++(p :: JpU (endN Z) r p')=l++(p :: JpU (endN Z) r (endN Z p))
   rw[hep]
  ·rw[show x.kids.toNat-(i+1)=r by omega]
   exact s4
 ·have d1:decide ((i:Int)<x.kids)=false:=by simp;omega
  rw[show x.kids.toNat-i=0 by omega] at hlk
  have hl9:l=JpU (endN Z) x.kids.toNat (at_+1):=by
   rw[← hlk]
   exact(List.append_nil l).symm
  subst hl9
  simp only[evC,seval,↓evP,hr,t0,t21,t22,t5,t6,d1]
  exact⟨hL,m2,m1,m3⟩
theorem IntL.flat {lo:Nat} {v:Value} {l:List Int} (hl:IntL h lo v l) (hf:J3m v=true) (h':SHeap) (lo':Nat):IntL h' lo' v l:=by
 rcases hl with h1 | ⟨id,c,rfl,_⟩
 ·exact .inl h1
 ·cases hf
theorem JsU {n:Nat} {Z L:List RowN} {v:Value} {at_:Nat} {x:RowN} (ht:J2c Z) (hsk:Jkk L Z) (hv:J0l h v L) (hx:Z[at_]?=some x) (hlen:L.length<100000000) (hn:L.length+20<n) (hfl:h.floor≤h.next) :
  ∃ v' h',J0T n 48 [v,iv at_] h=some (v',h')∧(IntL h' h.next v' ((JpU (endN Z) x.kids.toNat (at_+1)).map (fun (k:Nat)=>(k:Int)))∧h'.floor=h.floor∧h.next≤h'.next∧∀ i,i<h.next→h'.get i=h.get i):=by
 obtain⟨n,rfl⟩:∃ j,n=j+1:=⟨n-1,by omega⟩
 exact k_ex (J13 ⟨rfl,rfl,rfl⟩) (Jrr (n:=n) (N:=n) ht hsk hv hx hlen (by omega) (by omega) hfl) fun v' h1 hf _ ht=>⟨ht.1.flat hf _ _,rfl,Nat.le_refl _,fun _ _=>rfl⟩
end
def Jq0:List Int→Int
 | []=>0
 | x :: l=>(if x<0 then 0 else x)+Jq0 l
def JqS (l:List Int):Int:=if Jq0 l>4611686018427387904 then 4611686018427387904 else Jq0 l
theorem Jqk (a b:List Int):Jq0 (a++b)=Jq0 a+Jq0 b:=by
 induction a with
 | nil=>simp[Jq0]
 | cons x a ih=>simp only[List.cons_append,Jq0,ih];omega
theorem Jq6 (a:List Int):0≤Jq0 a:=by
 induction a with
 | nil=>simp[Jq0]
 | cons x a ih=>simp only[Jq0];split <;> omega
theorem Jr5 {l:List Int} {k:Nat} {x:Int} (hk:l[k]?=some x):Jq0 (l.take (k+1))=Jq0 (l.take k)+(if x<0 then 0 else x):=by
 rw[List.take_add_one,hk,Jqk]
 simp[Jq0]
theorem JrP {l:List Int} (k:Nat):Jq0 (l.take k)≤Jq0 l:=by
 have h:=Jqk (l.take k) (l.drop k)
 rw[List.take_append_drop] at h
 have:=Jq6 (l.drop k)
 omega
def In64 (l:List Int):Prop:=∀ x∈l,-9223372036854775808≤x∧x<9223372036854775808
section
variable {call:J0r} {n:Nat} {h:SHeap} {v:Value} {l:List Int}
theorem JrM (hv:Jao h v l) (hl:In64 l) (hlen:l.length<9223372036854775807) (hn:l.length<n):J0L Tryz.prog call n 17 [v] h=some (.int .i64 (JqS l),h):=by
 refine J1m Tryz.func17 rfl (by simp[Tryz.f17]) ?_
 have hr:Tryz.f17.results.toList=[.tmp 2]:=rfl
 simp only[evC,↓reduceIte,Nat.reduceEqDiff,reduceCtorEq,hv.len Tryz.underlying25,hr]
 refine WK.loop (fun k s=>s.h=h∧s.T.get 6=v∧s.T.get 7=.int .i64 l.length∧s.T.get 8=.int .i64 k∧∃ acc,s.T.get 3=.int .i64 acc∧acc=Jq0 (l.take k)∧acc≤4611686018427387904) l.length hn ?_ ?_
 ·simp only[evC,↓reduceIte,Nat.reduceEqDiff,reduceCtorEq]
  exact⟨rfl,by simp[Jq0],by omega⟩
 ·rintro k ⟨T,h1⟩ hk ⟨rfl,h6,h7,h8,acc,h3,ha,hb⟩
  simp only at h6 h7 h8 h3
  have hacc:=Jq6 (l.take k)
  simp only[evC,↓reduceIte,Nat.reduceEqDiff,reduceCtorEq,h6,h7,h8,h3]
  refine⟨fun hlt=>?_,fun hge=>?_⟩
  ·have hlt':k<l.length:=by omega
   have hx:l[k]?=some l[k]:=List.getElem?_eq_getElem hlt'
   have hin:=hl l[k] (List.getElem_mem hlt')
   have htk:=Jr5 hx
   have hle:=JrP (l:=l) (k+1)
   generalize l[k]=x at hx hin htk
   obtain⟨p,hp1,hp2⟩:=hv.idx Tryz.underlying25 sz3 agg3 hx (kd:=.i64)
   simp only[evC,↓reduceIte,Nat.reduceEqDiff,reduceCtorEq,hp1,hp2,h3,h6,h7,h8]
   have hm:(if (0:Int)>x then 0 else x)=(if x<0 then 0 else x):=rfl
   rw[hm]
   have hm0:0≤(if x<0 then (0:Int) else x)∧(if x<0 then (0:Int) else x)<9223372036854775808:=by split <;> omega
   generalize (if x<0 then (0:Int) else x)=m at htk hm0
   rw[J0s (x:=4611686018427387904-acc) (by omega) (by omega)]
   refine⟨fun hgt=>?_,fun hle'=>⟨hlt',?_,?_,?_⟩⟩
   ·unfold JqS
    rw[if_pos (by omega)]
   ·rw[J0s (by omega) (by omega)];rfl
   ·rw[J0s (by omega) (by omega)];omega
   ·rw[J0s (by omega) (by omega)];omega
  ·have:k=l.length:=by omega
   subst this
   rw[List.take_length] at ha
   unfold JqS
   rw[if_neg (by omega),ha]
end
def JrS (a b:Int):Int:=if a>4611686018427387904-b then 4611686018427387904 else a+b
def JsF (a b:Int):Int:=if a>0∧b>4611686018427387904/a then 4611686018427387904 else a*b
section
variable {call:J0r} {n:Nat} {h:SHeap} {v:Value} {l:List Int}
theorem Jrj {a b:Int} (ha:0≤a∧a≤4611686018427387904) (hb:0≤b∧b≤4611686018427387904):J0L Tryz.prog call n 50 [.int .i64 a,.int .i64 b] h=some (.int .i64 (JrS a b),h):=by
 refine J1m Tryz.func50 rfl (by simp[Tryz.f50]) ?_
 have hr:Tryz.f50.results.toList=[.tmp 4]:=rfl
 simp only[evC,↓reduceIte,Nat.reduceEqDiff,reduceCtorEq,hr,JrS]
 rw[J0s (x:=4611686018427387904-b) (by omega) (by omega)]
 refine⟨fun h1=>?_,fun h1=>?_⟩
 ·rw[if_pos h1]
 ·rw[if_neg h1,J0s (by omega) (by omega)]
theorem Js3 {a b:Int} (ha:0≤a∧a≤4611686018427387904) (hb:0≤b∧b≤4611686018427387904):J0L Tryz.prog call n 51 [.int .i64 a,.int .i64 b] h=some (.int .i64 (JsF a b),h):=by
 refine J1m Tryz.func51 rfl (by simp[Tryz.f51]) ?_
 have hr:Tryz.f51.results.toList=[.tmp 4]:=rfl
 by_cases h0:a>0
 ·simp only[evC,↓reduceIte,Nat.reduceEqDiff,reduceCtorEq,hr,JsF,h0,JjO (show a≠0 by omega)]
  have hq:Int.tdiv 4611686018427387904 a=4611686018427387904/a:=Int.tdiv_eq_ediv_of_nonneg (by omega)
  have h1:4611686018427387904/a≤4611686018427387904:=Int.ediv_le_self _ (by omega)
  have h2:0≤4611686018427387904/a:=Int.ediv_nonneg (by omega) (by omega)
  rw[hq,J0s (x:=4611686018427387904/a) (by omega) (by omega)]
  refine⟨fun h3=>?_,fun h3=>?_⟩
  ·rw[if_pos h3]
  ·rw[if_neg h3]
   have h4:a*b≤4611686018427387904:=by
    have:=Int.mul_le_mul_of_nonneg_left (show b≤4611686018427387904/a by omega) (show 0≤a by omega)
    have:=Int.mul_ediv_self_le (x:=4611686018427387904) (k:=a) (by omega)
    omega
   have h5:0≤a*b:=Int.mul_nonneg (by omega) hb.1
   rw[J0s (by omega) (by omega)]
 ·have ha0:a=0:=by omega
  subst ha0
  simp only[evC,↓reduceIte,Nat.reduceEqDiff,reduceCtorEq,hr,JsF,h0]
  rw[if_neg (fun h=>h.1.elim),Int.zero_mul,J0s (by omega) (by omega)]
end
theorem Jry (a:Nat) (ha:a<18446744073709551616):bits .and .u64 (a:Int) 4294967295=((a%4294967296:Nat):Int):=by
 have h:=bits_and_u64_nat a 4294967295 ha (by omega)
 have e:a &&& 4294967295=a%4294967296:=Nat.and_two_pow_sub_one_eq_mod a 32
 rw[e] at h
 exact h
theorem Jsa (a:Nat):(a:Int).fdiv (2 ^ min ((32:Int).toNat) IntKind.u64.bits)=((a/4294967296:Nat):Int):=by
 rw[Int.fdiv_eq_ediv_of_nonneg _ (by decide)]
 rfl
theorem Jqn (a:Nat) (ha:a<18446744073709551616):IntKind.u64.wrap (a:Int)=(a:Int):=JiL (by omega) (by omega)
theorem mulU (a b:Nat):(a:Int)*(b:Int)=((a*b:Nat):Int):=(Int.natCast_mul a b).symm
theorem addU (a b:Nat):(a:Int)+(b:Int)=((a+b:Nat):Int):=(Int.natCast_add a b).symm
section
variable {call:J0r} {n:Nat} {h:SHeap} {v:Value} {l:List Int}
theorem JrG (x y:Nat) (hx:x<18446744073709551616) (hy:y<18446744073709551616) :
  J0L Tryz.prog call n 41 [.int .u64 x,.int .u64 y] h=some (.tuple #[.int .u64 ((x*y/18446744073709551616:Nat):Int),.int .u64 ((x*y%18446744073709551616:Nat):Int)],h):=by
 refine J1m Tryz.func41 rfl (by simp[Tryz.f41]) ?_
 have hr:Tryz.f41.results.toList=[.tmp 4,.tmp 5]:=rfl
 obtain⟨bd,bt,bw,hhi⟩:=Lib.mul64_hi x y hx hy
 have ba:=Lib.half_mul_le (a:=x/4294967296) (b:=y/4294967296) (by omega) (by omega)
 have h32:¬ (32:Int)<0:=by omega
 simp only[evC,↓reduceIte,Nat.reduceEqDiff,reduceCtorEq,hr,Jjz,Jjv h32,Jry x hx,Jry y hy,Jsa,mulU]
 have b1:=Lib.half_mul_le (a:=x/4294967296) (b:=y%4294967296) (by omega) (by omega)
 have b2:=Lib.half_mul_le (a:=x%4294967296) (b:=y/4294967296) (by omega) (by omega)
 have hq:x*y/18446744073709551616<18446744073709551616:=by
  refine Nat.div_lt_of_lt_mul ?_
  exact Nat.lt_of_le_of_lt (Nat.mul_le_mul_right y (Nat.le_of_lt hx)) (Nat.mul_lt_mul_of_pos_left hy (by omega))
 rw[Jqn (x%4294967296*(y%4294967296)) bd,Jsa,Jqn (x/4294967296*(y%4294967296)) (by omega),addU,Jqn _ bt,Jsa,Jry _ bt,Jqn (x%4294967296*(y/4294967296)) (by omega),addU,Jqn _ bw,Jsa,
  Jqn (x/4294967296*(y/4294967296)) (by omega),addU,Jqn _ (by omega),addU,Jqn _ (by omega),hhi,Ji1]
def fold (l:List Int):Int:=l.foldl (fun n x=>if n*x>4611686018427387904 then 4611686018427387904 else n*x) 1
def Jq5 (l:List Int):Bool:=l.all fun x=>decide (0<x)
def Jqf (l:List Int):Int:=if Jq5 l then fold l else 0
theorem JrN {l:List Int} {k:Nat} {x:Int} (hk:l[k]?=some x):fold (l.take (k+1))=if fold (l.take k)*x>4611686018427387904 then 4611686018427387904 else fold (l.take k)*x:=by
 unfold fold
 rw[List.take_add_one,hk,List.foldl_append]
 rfl
theorem Jr2 {l:List Int} {k:Nat} {x:Int} (hk:l[k]?=some x):Jq5 (l.take (k+1))=(Jq5 (l.take k)&&decide (0<x)):=by
 unfold Jq5
 rw[List.take_add_one,hk,List.all_append]
 simp
theorem Jrp {l:List Int} (h:Jq5 l=true):1≤fold l∧fold l≤4611686018427387904:=by
 have key:∀ (l:List Int) (a:Int),Jq5 l=true→1≤a∧a≤4611686018427387904→1≤l.foldl (fun n x=>if n*x>4611686018427387904 then 4611686018427387904 else n*x) a∧l.foldl (fun n x=>if n*x>4611686018427387904 then 4611686018427387904 else n*x) a≤4611686018427387904:=by
  intro l
  induction l with
  | nil=>intro a _ ha;exact ha
  | cons x l ih=>
   intro a hl ha
   simp only[Jq5,List.all_cons,Bool.and_eq_true,decide_eq_true_eq] at hl
   rw[List.foldl_cons]
   refine ih _ hl.2 ?_
   have:0<a*x:=Int.mul_pos (by omega) hl.1
   split <;> omega
 exact key l 1 h (by omega)
theorem JqM {l:List Int} {k:Nat} {x:Int} (hk:l[k]?=some x) (hx:x≤0):Jq5 l=false:=by
 unfold Jq5
 rw[List.all_eq_false]
 exact⟨x,List.mem_of_getElem? hk,by simp;omega⟩
theorem Jr0 (hm:∀ x y h,x<18446744073709551616→y<18446744073709551616→call 41 [.int .u64 (x:Nat),.int .u64 (y:Nat)] h=some (.tuple #[.int .u64 ((x*y/18446744073709551616:Nat):Int),.int .u64 ((x*y%18446744073709551616:Nat):Int)],h))
  (hv:Jao h v l) (hl:In64 l) (hlen:l.length<9223372036854775807) (hn:l.length<n):J0L Tryz.prog call n 18 [v] h=some (.int .i64 (Jqf l),h):=by
 refine J1m Tryz.func18 rfl (by simp[Tryz.f18]) ?_
 have hr:Tryz.f18.results.toList=[.tmp 2]:=rfl
 simp only[evC,↓reduceIte,Nat.reduceEqDiff,reduceCtorEq,hv.len Tryz.underlying25,hr]
 refine WK.loop (fun k s=>s.h=h∧s.T.get 0=v∧s.T.get 10=v∧s.T.get 11=.int .i64 l.length∧s.T.get 12=.int .i64 k∧s.T.get 3=.int .i64 1∧Jq5 (l.take k)=true) l.length hn ?_ ?_
 ·simp only[evC,↓reduceIte,Nat.reduceEqDiff,reduceCtorEq]
  exact⟨rfl,rfl⟩
 ·rintro k ⟨T,h1⟩ hk ⟨rfl,h0,h10,h11,h12,h3,ha⟩
  simp only at h0 h10 h11 h12 h3
  simp only[evC,↓reduceIte,Nat.reduceEqDiff,reduceCtorEq,h0,h10,h11,h12,h3]
  refine⟨fun hlt=>?_,fun hge=>?_⟩
  ·have hlt':k<l.length:=by omega
   have hx:l[k]?=some l[k]:=List.getElem?_eq_getElem hlt'
   have htk:=Jr2 hx
   have hz:=fun h=>JqM hx h
   generalize l[k]=x at hx htk hz
   obtain⟨p,hp1,hp2⟩:=hv.idx Tryz.underlying25 sz3 agg3 hx (kd:=.i64)
   simp only[evC,↓reduceIte,Nat.reduceEqDiff,reduceCtorEq,hp1,hp2,h0,h10,h11,h12,h3]
   refine⟨fun hle=>?_,fun hgt=>⟨hlt',?_,?_⟩⟩
   ·unfold Jqf
    rw[hz hle]
    rfl
   ·rw[J0s (by omega) (by omega)];rfl
   ·rw[htk,ha];simp;omega
  ·have hkl:k=l.length:=by omega
   subst hkl
   rw[List.take_length] at ha
   simp only[evC,↓reduceIte,Nat.reduceEqDiff,reduceCtorEq,h0,h3,hv.len Tryz.underlying25]
   refine WK.loop (fun k s=>s.h=h1∧s.T.get 19=v∧s.T.get 20=.int .i64 l.length∧s.T.get 21=.int .i64 k∧s.T.get 3=.int .i64 (fold (l.take k))) l.length hn ?_ ?_
   ·simp only[evC,↓reduceIte,Nat.reduceEqDiff,reduceCtorEq,h3]
    exact⟨rfl,rfl⟩
   ·rintro k ⟨T2,h2⟩ hk2 ⟨rfl,h19,h20,h21,h3'⟩
    simp only at h19 h20 h21 h3'
    simp only[evC,↓reduceIte,Nat.reduceEqDiff,reduceCtorEq,h19,h20,h21,h3']
    refine⟨fun hlt=>?_,fun hge=>?_⟩
    ·have hlt':k<l.length:=by omega
     have hx:l[k]?=some l[k]:=List.getElem?_eq_getElem hlt'
     have htk:=JrN hx
     have hin:=hl l[k] (List.getElem_mem hlt')
     have hpos:0<l[k]:=by
      have:=List.all_eq_true.1 ha l[k] (List.getElem_mem hlt')
      simpa using this
     have hfr:=Jrp (l:=l.take k) (by
      unfold Jq5 at ha ⊢
      rw[List.all_eq_true] at ha ⊢
      exact fun x hx=>ha x (List.mem_of_mem_take hx))
     generalize l[k]=x at hx htk hin hpos
     generalize fold (l.take k)=a at htk hfr h3'
     obtain⟨p,hp1,hp2⟩:=hv.idx Tryz.underlying25 sz3 agg3 hx (kd:=.i64)
     obtain⟨a,rfl⟩:∃ m:Nat,a=m:=⟨a.toNat,by omega⟩
     obtain⟨x,rfl⟩:∃ m:Nat,x=m:=⟨x.toNat,by omega⟩
     have hma:=hm a x h2 (by omega) (by omega)
     have hcast:(a:Int)*(x:Int)=((a*x:Nat):Int):=mulU a x
     rw[hcast] at htk
     generalize hhi:a*x/18446744073709551616=hi at hma
     generalize hlo:a*x%18446744073709551616=lo at hma
     generalize a*x=ax at hhi hlo htk
     by_cases hc:(hi:Int)>0
     ·simp only[evC,↓reduceIte,Nat.reduceEqDiff,reduceCtorEq,hp1,hp2,h19,h20,h21,h3',JiE Tryz.underlying3 Tryz.underlying80,Jqn a (by omega),Jqn x (by omega),hma,JiE Tryz.underlying80 Tryz.underlying3,hc]
      refine⟨hlt',?_,?_⟩
      ·rw[J0s (by omega) (by omega)];rfl
      ·rw[htk,if_pos (by omega)]
     ·simp only[evC,↓reduceIte,Nat.reduceEqDiff,reduceCtorEq,hp1,hp2,h19,h20,h21,h3',JiE Tryz.underlying3 Tryz.underlying80,Jqn a (by omega),Jqn x (by omega),hma,JiE Tryz.underlying80 Tryz.underlying3,hc]
      refine⟨fun hgt=>⟨hlt',?_,?_⟩,fun hle=>⟨hlt',?_,?_⟩⟩
      ·rw[J0s (by omega) (by omega)];rfl
      ·rw[htk,if_pos (by omega)]
      ·rw[J0s (by omega) (by omega)];rfl
      ·rw[htk,if_neg (by omega),J0s (by omega) (by omega)];omega
    ·have hkl:k=l.length:=by omega
     subst hkl
     rw[List.take_length] at h3'
     unfold Jqf
     rw[ha,List.take_length]
     rfl
end
theorem J1S.at_ {lo:Nat} {h:SHeap} {v:Value} {l:List Int} (hc:J1S lo h v l):Jao h v l:=by
 obtain⟨hl,a,c,rfl,⟨h0,rfl⟩ | ⟨id,off,row,ty,g,ro,rfl,h1,h2,h3,h4⟩⟩:=hc
 ·refine⟨none,c,by rw[h0],fun b hb=>(by cases hb),fun k x hk=>?_⟩
  rw[List.length_eq_zero_iff.1 h0] at hk
  simp at hk
 ·refine⟨_,c,rfl,fun b hb=>(by cases hb;rfl),fun k x hk=>⟨id,off,row,ty,g,ro,rfl,h1,?_⟩⟩
  have hkl:=(List.getElem?_eq_some_iff.1 hk).1
  have:(ints l)[k]?=some (.int .i64 x):=by rw[J6g,hk];rfl
  rw[← h3,List.getElem?_take_of_lt (by omega),List.getElem?_drop] at this
  exact this
def byN (a b:Int):Int:=if a>0∧b>4611686018427387904/a then 4611686018427387904 else a*b
def sumL (l:List Int):Int:=l.foldl J2I 0
theorem JqI:∀ (l:List Int) (a:Int),Sums l→0≤a→a≤4611686018427387904→0≤l.foldl J2I a∧l.foldl J2I a≤4611686018427387904
 | [],a,_,h1,h2=>⟨h1,h2⟩
 | x :: l,a,hs,h1,h2=>by
  have hx:=hs x (by simp)
  have p:=J3O h1 hx.1 hx.2
  exact JqI l _ (fun y hy=>hs y (by simp[hy])) p.1 p.2
theorem Jqr:∀ (l:List Int) (a:Int),Sums l→0≤a→a≤4611686018427387904→l.foldl J2I a=if a+Jq0 l>4611686018427387904 then 4611686018427387904 else a+Jq0 l
 | [],a,_,h1,h2=>by
  show a=if a+0>4611686018427387904 then 4611686018427387904 else a+0
  rw[Int.add_zero,if_neg (by omega)]
 | x :: l,a,hs,h1,h2=>by
  have hx:=hs x (by simp)
  have p:=J3O h1 hx.1 hx.2
  have hp:=Jq6 l
  show l.foldl J2I (J2I a x)=_
  rw[Jqr l _ (fun y hy=>hs y (by simp[hy])) p.1 p.2]
  show _=if a+((if x<0 then 0 else x)+Jq0 l)>4611686018427387904 then 4611686018427387904 else a+((if x<0 then 0 else x)+Jq0 l)
  rw[if_neg (show ¬ x<0 by omega)]
  unfold J2I
  (repeat' split) <;> omega
theorem Js7 {l:List Int} (hs:Sums l):JqS l=sumL l:=by
 unfold sumL JqS
 rw[Jqr l 0 hs (by decide) (by decide),Int.zero_add]
theorem Jrw {a b:Int} (ha:0≤a∧a≤4611686018427387904) (hb:0≤b∧b≤4611686018427387904):0≤byN a b∧byN a b≤4611686018427387904:=by
 unfold byN
 by_cases h:a>0∧b>4611686018427387904/a
 ·rw[if_pos h]
  omega
 ·rw[if_neg h]
  refine⟨Int.mul_nonneg ha.1 hb.1,?_⟩
  by_cases h0:a>0
  ·have h1:=Int.mul_le_mul_of_nonneg_left (show b≤4611686018427387904/a by omega) (show 0≤a by omega)
   have h2:=Int.mul_ediv_self_le (x:=4611686018427387904) (k:=a) (by omega)
   omega
  ·rw[show a=0 by omega,Int.zero_mul]
   decide
theorem JsB {a b:Int} (ha:0≤a∧a≤4611686018427387904) (hb:0≤b∧b≤4611686018427387904):Jqf [a,b]=byN a b:=by
 unfold Jqf byN
 by_cases h1:0<a
 ·by_cases h2:0<b
  ·have e1:Jq5 [a,b]=true:=by simp[Jq5,h1,h2]
   rw[e1,if_pos rfl]
   show (if (if 1*a>4611686018427387904 then 4611686018427387904 else 1*a)*b>4611686018427387904 then 4611686018427387904 else (if 1*a>4611686018427387904 then 4611686018427387904 else 1*a)*b)=_
   rw[Int.one_mul]
   simp only[if_neg (show ¬ a>4611686018427387904 by omega)]
   have hd:b>4611686018427387904/a↔a*b>4611686018427387904:=by
    have:=Int.ediv_lt_iff_lt_mul (a:=4611686018427387904) (b:=b) (c:=a) (by omega)
    rw[Int.mul_comm a b]
    exact this
   by_cases h3:a*b>4611686018427387904
   ·rw[if_pos h3,if_pos ⟨by omega,hd.2 h3⟩]
   ·rw[if_neg h3,if_neg (fun h=>h3 (hd.1 h.2))]
  ·have e1:Jq5 [a,b]=false:=by simp[Jq5];omega
   have h0:0≤4611686018427387904/a:=Int.ediv_nonneg (by omega) (by omega)
   rw[e1,if_neg (by decide),if_neg (fun h=>by omega),show b=0 by omega,Int.mul_zero]
 ·have e1:Jq5 [a,b]=false:=by simp[Jq5];omega
  rw[e1,if_neg (by decide),if_neg (fun h=>by omega),show a=0 by omega,Int.zero_mul]
section
variable {n lo:Nat} {h:SHeap} {v:Value} {l:List Int}
theorem JrH {l:List Int} (hs:Sums l):In64 l:=fun x hx=>by have:=hs x hx;omega
theorem Jsr (hv:J1S lo h v l) (hs:Sums l) (hlen:l.length<1000000000000) (hn:l.length+5<n):J0T n 17 [v] h=some (iv (sumL l),h):=by
 obtain⟨n,rfl⟩:∃ j,n=j+1:=⟨n-1,by omega⟩
 rw[← Js7 hs]
 exact J6r (J13 ⟨rfl,rfl,rfl⟩) rfl (JrM hv.at_ (JrH hs) (by omega) (by omega))
theorem JsC {x y:Nat} (hx:x<18446744073709551616) (hy:y<18446744073709551616) (hn:0<n) :
  J0T n 41 [.int .u64 x,.int .u64 y] h=some (.tuple #[.int .u64 ((x*y/18446744073709551616:Nat):Int),.int .u64 ((x*y%18446744073709551616:Nat):Int)],h):=by
 obtain⟨n,rfl⟩:∃ j,n=j+1:=⟨n-1,by omega⟩
 exact J6r (J13 ⟨rfl,rfl,rfl⟩) (by simp[J3m,flat,J1i]) (JrG x y hx hy)
theorem Jsw (hv:J1S lo h v l) (hs:In64 l) (hlen:l.length<1000000000000) (hn:l.length+5<n):J0T n 18 [v] h=some (iv (Jqf l),h):=by
 obtain⟨n,rfl⟩:∃ j,n=j+1:=⟨n-1,by omega⟩
 exact J6r (J13 ⟨rfl,rfl,rfl⟩) rfl (Jr0 (fun x y h hx hy=>JsC hx hy (by omega)) hv.at_ hs (by omega) (by omega))
theorem Jqe {a b:Int} (ha:0≤a∧a≤4611686018427387904) (hb:0≤b∧b≤4611686018427387904) (hn:0<n):J0T n 50 [iv a,iv b] h=some (iv (J2I a b),h):=by
 obtain⟨n,rfl⟩:∃ j,n=j+1:=⟨n-1,by omega⟩
 exact J6r (J13 ⟨rfl,rfl,rfl⟩) rfl (Jrj ha hb)
theorem JsW {a b:Int} (ha:0≤a∧a≤4611686018427387904) (hb:0≤b∧b≤4611686018427387904) (hn:0<n):J0T n 51 [iv a,iv b] h=some (iv (byN a b),h):=by
 obtain⟨n,rfl⟩:∃ j,n=j+1:=⟨n-1,by omega⟩
 exact J6r (J13 ⟨rfl,rfl,rfl⟩) rfl (Js3 ha hb)
end
end Go.Proofs.YtipekdhneagdbaaGreatDoor
