/- Part 23 of what the claim leans on: 4 texts laid one behind another. -/
import Derived.Test.YtipekdhneagdbaaGreatDoorCT22
namespace Go.Proofs.YtipekdhneagdbaaGreatDoor
open Go Go.Sx
set_option maxRecDepth 100000
set_option linter.unusedSimpArgs false
set_option linter.unusedVariables false
theorem szB:szOf Tryz.prog 62=some 12:=by kernel_rfl
theorem szY:szOf Tryz.prog 30=some 3:=by kernel_rfl
theorem szV:szOf Tryz.prog 28=some 1:=by kernel_rfl
theorem aggV:J2X Tryz.prog 28=some false:=by kernel_rfl
theorem aggY:J2X Tryz.prog 30=some true:=by kernel_rfl
theorem JrY:J1w Tryz.prog 30=some (.agg #[.slice none 0 0,.slice none 0 0,.slice none 0 0]):=by kernel_rfl
section
variable {h:SHeap} {id off:Nat}
theorem Jqh:J2x Tryz.prog h 28 (.pointer (some ⟨id,off,none⟩))=ld1 off (h.get id):=J41 aggV
theorem JqF:J2x Tryz.prog h 30 (.pointer (some ⟨id,off,none⟩))=ldN 3 off (h.get id):=J5S aggY szY
theorem JpY:J08 Tryz.prog 62 (.pointer (some ⟨id,off,none⟩)) 0=some (.pointer (some ⟨id,off,none⟩)):=by simp[J08,Tryz.underlying62,sz30,J0q]
theorem Js2:J08 Tryz.prog 62 (.pointer (some ⟨id,off,none⟩)) 1=some (.pointer (some ⟨id,off+8,none⟩)):=by simp[J08,Tryz.underlying62,szY,J0q]
theorem Jra:J08 Tryz.prog 62 (.pointer (some ⟨id,off,none⟩)) 2=some (.pointer (some ⟨id,off+11,none⟩)):=by simp[J08,Tryz.underlying62,sz28,J0q]
theorem Jq3:J08 Tryz.prog 30 (.pointer (some ⟨id,off,none⟩)) 0=some (.pointer (some ⟨id,off,none⟩)):=by simp[J08,Tryz.underlying30,szV,J0q]
theorem Jqo:J08 Tryz.prog 30 (.pointer (some ⟨id,off,none⟩)) 1=some (.pointer (some ⟨id,off+1,none⟩)):=by simp[J08,Tryz.underlying30,sz28,J0q]
theorem JpX:J08 Tryz.prog 30 (.pointer (some ⟨id,off,none⟩)) 2=some (.pointer (some ⟨id,off+2,none⟩)):=by simp[J08,Tryz.underlying30,sz28,J0q]
theorem bi2 {a b:Int}:J0Q Tryz.prog h 25 2 [(0,iv a),(1,iv b)]=some (.slice (some ⟨h.next,0,none⟩) 2 2,h.push (.row [iv a,iv b] 3 false false)):=by
 have hc:∀ x:Int,(iv x).cells=#[iv x]:=fun _=>rfl
 simp[J0Q,Tryz.underlying25,sz3,J8P,flat,J1i,hc,J5k,J3e,Go.Sx.lay]
theorem bi3 {a b c:Int}:J0Q Tryz.prog h 25 3 [(0,iv a),(1,iv b),(2,iv c)]=some (.slice (some ⟨h.next,0,none⟩) 3 3,h.push (.row [iv a,iv b,iv c] 3 false false)):=by
 have hc:∀ x:Int,(iv x).cells=#[iv x]:=fun _=>rfl
 simp[J0Q,Tryz.underlying25,sz3,J8P,flat,J1i,hc,J5k,J3e,Go.Sx.lay]
theorem int2 {a b:Int} {f:Nat}:J1S 0 ((h.push (.row [iv a,iv b] 3 false false)).fl f) (.slice (some ⟨h.next,0,none⟩) 2 2) [a,b]:=J1S.row' (l:=[a,b]) (h:=(h.push (.row [iv a,iv b] 3 false false)).fl f) (r:=h.next) J0h ⟨Nat.zero_le _,by show h.next<h.next+1;omega⟩ rfl
theorem int3 {a b c:Int} {f:Nat}:J1S 0 ((h.push (.row [iv a,iv b,iv c] 3 false false)).fl f) (.slice (some ⟨h.next,0,none⟩) 3 3) [a,b,c]:=J1S.row' (l:=[a,b,c]) (h:=(h.push (.row [iv a,iv b,iv c] 3 false false)).fl f) (r:=h.next) J0h ⟨Nat.zero_le _,by show h.next<h.next+1;omega⟩ rfl
end
structure BndAt (h:SHeap) (b:Nat) (vr tr vS:Value) (R:List RowN) (rd S:List Int):Prop where
 x1:ld1 1 (h.get b)=some vr
 x10:ld1 10 (h.get b)=some tr
 x11:ld1 11 (h.get b)=some vS
 bl:b<h.next
 rows:J0l h vr R
 rd:J1S 0 h tr rd
 s:J1S 0 h vS S
theorem BndAt.mono {h h':SHeap} {b:Nat} {vr tr vS:Value} {R:List RowN} {rd S:List Int} (hb:BndAt h b vr tr vS R rd S) (hn:h.next≤h'.next) (hg:∀ i,i<h.next→h'.get i=h.get i):BndAt h' b vr tr vS R rd S:=
 ⟨by rw[hg b hb.bl];exact hb.x1,by rw[hg b hb.bl];exact hb.x10,by rw[hg b hb.bl];exact hb.x11,by have:=hb.bl;omega,hb.rows.mono hn hg,J1S.mono hb.rd hn fun i _ hi=>hg i hi,J1S.mono hb.s hn fun i _ hi=>hg i hi⟩
noncomputable def JsT:Array Oper:=J18 Tryz.f22 1
def fsB1:List (Bool × Bool × List Operand):=[(true,true,[]),(true,true,[]),(true,true,[]),(true,true,[]),(true,true,[]),(true,true,[.tmp 14]),(true,true,[]),(true,true,[]),(false,true,[.tmp 14,.tmp 17]),(false,true,[.tmp 14,.tmp 17]),(false,true,[.tmp 14,.tmp 17]),(false,true,[.tmp 14,.tmp 17]),(false,true,[.tmp 14,.tmp 17]),(false,true,[.tmp 14,.tmp 17,.tmp 22]),(false,true,[.tmp 14,.tmp 17]),(true,true,[.tmp 14,.tmp 17,.tmp 22]),(false,false,[]),(false,false,[])]
theorem JsL:J1E JsT=fsB1:=by kernel_rfl
noncomputable def JsK:Array Oper:=J18 Tryz.f22 9
def fsB9:List (Bool × Bool × List Operand):=[(false,true,[]),(false,true,[]),(false,true,[]),(false,true,[]),(false,true,[]),(true,true,[.tmp 42]),(true,true,[.tmp 42]),(true,true,[.tmp 42]),(true,true,[.tmp 42]),(false,false,[]),(true,true,[.tmp 42,.tmp 47]),(false,false,[]),(false,false,[]),(false,false,[]),(false,false,[])]
theorem JrL:J1E JsK=fsB9:=by kernel_rfl
noncomputable def Jsl:Array Oper:=J18 Tryz.f22 11
def Jt2:List (Bool × Bool × List Operand):=[(true,true,[]),(true,true,[]),(true,true,[]),(true,true,[]),(true,true,[]),(true,true,[.tmp 59]),(true,true,[]),(true,true,[]),(false,true,[.tmp 59,.tmp 62]),(false,true,[.tmp 59,.tmp 62]),(false,true,[.tmp 59,.tmp 62]),(false,true,[.tmp 59,.tmp 62]),(false,true,[.tmp 59,.tmp 62]),(true,true,[.tmp 59,.tmp 62,.tmp 66]),(true,true,[.tmp 59,.tmp 62,.tmp 66]),(true,true,[.tmp 59,.tmp 62,.tmp 66]),(true,true,[.tmp 59,.tmp 62,.tmp 66]),(false,true,[.tmp 59,.tmp 62]),(false,true,[.tmp 59,.tmp 62]),(false,true,[.tmp 59,.tmp 62]),(false,false,[]),(false,false,[]),(false,false,[]),(false,false,[]),(false,false,[])]
theorem Js9:J1E Jsl=Jt2:=by kernel_rfl
noncomputable def Jsk:Array Oper:=J18 Tryz.f22 13
def Jt6:List (Bool × Bool × List Operand):=[(false,true,[]),(false,true,[]),(false,true,[]),(false,true,[]),(false,true,[.tmp 84]),(false,true,[.tmp 84]),(false,false,[]),(false,false,[]),(false,false,[]),(false,false,[]),(false,false,[])]
theorem JrZ:J1E Jsk=Jt6:=by kernel_rfl
theorem JqL {Z:List RowN} {i:Nat} {x:RowN} (ht:J2c Z) (hx:Z[i]?=some x):(x.kind=12→x.kids=2∨x.kids=3)∧(x.kind=13→x.kids=3):=by
 have hf:=(ht.row hx).1
 unfold fitN at hf
 simp only[Bool.and_eq_true,Bool.or_eq_true,decide_eq_true_eq] at hf
 obtain⟨⟨_,h1⟩,h2⟩:=hf
 constructor
 ·intro hk
  rw[hk] at h1 h2
  have l12:J1U 12=2:=by decide
  have m12:J1r 12=3:=by decide
  rw[l12] at h1
  rw[m12] at h2
  omega
 ·intro hk
  rw[hk] at h1 h2
  have l12:J1U 13=3:=by decide
  have m12:J1r 13=3:=by decide
  rw[l12] at h1
  rw[m12] at h2
  omega
section
variable {n N:Nat}
set_option maxHeartbeats 16000000 in
theorem Jro {Z R:List RowN} {rd S:List Int} {vr tr vS:Value} {b at_:Nat} {x:RowN} {h:SHeap} (ht:J2c Z) (hsk:Jkk R Z) (hx:Z[at_]?=some x) {y:RowN} (hy:R[at_]?=some y) (hky:y.kind=x.kind) (hrd:Jq9 rd) (hrl:rd.length=R.length) (hS:Sums S)
  (hcall:y.kind=22→0≤y.n∧y.n<S.length) (hlen:R.length<100000000) (hn:R.length+30<n) (hN:R.length+30<N) (hb:BndAt h b vr tr vS R rd S) (hfl:h.floor≤h.next)
  (hrec:∀ k∈JpU (endN Z) x.kids.toNat (at_+1),∀ h',BndAt h' b vr tr vS R rd S→h'.floor≤h'.next→J0T n 22 [.pointer (some ⟨b,0,none⟩),iv k] h'=some (iv (valA R (endN Z) rd S k),h')) :
  ∃ h',J0L Tryz.prog (J0T n) N 22 [.pointer (some ⟨b,0,none⟩),iv at_] h=some (iv (valA R (endN Z) rd S at_),h')∧∀ i,i<h.next→h'.get i=h.get i:=by
 have hsn:=(J1z n).2
 refine J1N (R:=fun h'=>∀ i,i<h.next→h'.get i=h.get i) Tryz.func22 rfl (by simp[Tryz.f22]) ?_
 have hr:Tryz.f22.results.toList=[.tmp 4]:=rfl
 obtain⟨x',hx',hyk⟩:∃ z,R[at_]?=some z∧z.kids=x.kids:=hsk.2 _ x hx
 rw[hy] at hx'
 cases hx'
 have hkl:(JpU (endN Z) x.kids.toNat (at_+1)).length=x.kids.toNat:=Jqt _ _
 have hval:=Jru (rd:=rd) (S:=S) ht hsk hy
 rw[hyk] at hval
 rw[hval]
 obtain⟨fit12,fit13⟩:=JqL ht hx
 rw[← hky] at fit12 fit13
 obtain⟨idr,pr,e0,hid,l0,l1,l2,l3,l4,lr⟩:=hb.rows.row hy
 have hbl:=hb.bl
 have hidT:(idr<h.next)=True:=by simp[hid]
 have hbT:(b<h.next)=True:=by simp[hbl]
 have B1:BndAt (h.fl (max h.floor h.next)) b vr tr vS R rd S:=hb.mono (Nat.le_refl _) fun _ _=>rfl
 obtain⟨kv,K1,hkids,hL,fK,nK,oK⟩:=JsU (n:=n) (h:=h.fl (max h.floor h.next)) ht hsk B1.rows hx hlen (by omega) (by rw[J0J,JiM];omega)
 rw[J0J] at hL nK oK
 have gI:=IntL.ints hL (Nat.zero_le _)
 have hzx:(Value.agg #[iv 0,.string ByteArray.empty,iv 0,iv 0,iv 0]).cells.toList=J0e zRow:=rfl
 have hst:J0K Tryz.prog ((K1.fl h.floor).push (.row (J0e zRow) 51 false false)) 51 (.pointer (some ⟨K1.next,0,none⟩)) (rowV y)=some (((K1.fl h.floor).push (.row (J0e zRow) 51 false false)).put K1.next (.row (J0e y) 51 false false)):=JaU (h:=(K1.fl h.floor).push (.row (J0e zRow) 51 false false)) (i:=0) (off:=0) (L:=[zRow]) rfl (J0h (h:=K1.fl h.floor)) (by decide) (by show h.floor≤K1.next;omega)
 have gA:(((K1.fl h.floor).push (.row (J0e zRow) 51 false false)).put K1.next (.row (J0e y) 51 false false)).get K1.next=.row (J0e y) 51 false false:=J0b rfl (by show K1.next<K1.next+1;omega)
 have oA:∀ i,i<K1.next→(((K1.fl h.floor).push (.row (J0e zRow) 51 false false)).put K1.next (.row (J0e y) 51 false false)).get i=K1.get i:=fun i hi=>by rw[J05 (by show K1.next<K1.next+1;omega) (by omega)];exact J06 (h:=K1.fl h.floor) hi
 have nA:(((K1.fl h.floor).push (.row (J0e zRow) 51 false false)).put K1.next (.row (J0e y) 51 false false)).next=K1.next+1:=rfl
 have fA:(((K1.fl h.floor).push (.row (J0e zRow) 51 false false)).put K1.next (.row (J0e y) 51 false false)).floor=h.floor:=rfl
 have hfs:h.fl h.floor=h:=rfl
 simp only[evC,seval,↓evP,hr]
 refine WK.flags (ops:=JsT) JsL ?_
 refine WKF.begin ?_
 refine wst hsn 0 (some 11) (.move (.tmp 0)) none ?_
 simp only[rgC,seval,J04,J02,WKFC,hfs,Nat.zero_add]
 refine wst hsn 1 (some 12) (.nilCheck (.tmp 11)) none ?_
 simp only[rgC,seval,J04,J02,WKFC,hfs]
 refine wst hsn 2 (some 13) (.fieldAddr 62 (.tmp 12) 0) none ?_
 simp only[rgC,seval,J04,J02,WKFC,hfs,JpY]
 refine wst hsn 3 (some 14) (.fieldAddr 27 (.tmp 13) 1) none ?_
 simp only[rgC,seval,J04,J02,WKFC,Nat.zero_add,hfs,Nat.zero_add,J0y]
 refine wst hsn 4 (some 15) (.load 22 (.tmp 14)) none ?_
 simp only[rgC,seval,J04,J02,WKFC,rgL,hb.x1,hbT,hfs,J0F]
 refine wst hsn 5 (some 16) (.move (.tmp 1)) none ?_
 simp only[rgC,seval,J04,J02,WKFC,hfs]
 refine wst hsn 6 (some 17) (.indexAddr 22 (.tmp 15) (.tmp 16)) none ?_
 simp only[rgC,seval,J04,J02,WKFC,hfs,e0]
 refine wst hsn 7 (some 18) (.load 51 (.tmp 17)) none ?_
 simp only[rgC,seval,J04,J02,WKFC,rgL,hidT,hfs,J0u,lr]
 refine wst hsn 8 (some 19) (.move (.tmp 0)) none ?_
 simp only[rgC,seval,J04,J02,WKFC,hfs]
 refine wst hsn 9 (some 20) (.nilCheck (.tmp 19)) none ?_
 simp only[rgC,seval,J04,J02,WKFC,hfs]
 refine wst hsn 10 (some 21) (.fieldAddr 62 (.tmp 20) 0) none ?_
 simp only[rgC,seval,J04,J02,WKFC,hfs,JpY]
 refine wst hsn 11 (some 22) (.fieldAddr 27 (.tmp 21) 1) none ?_
 simp only[rgC,seval,J04,J02,WKFC,Nat.zero_add,hfs,Nat.zero_add,J0y]
 refine wst hsn 12 (some 23) (.load 22 (.tmp 22)) none ?_
 simp only[rgC,seval,J04,J02,WKFC,rgL,hb.x1,hbT,hfs,J0F]
 refine wst hsn 13 (some 24) (.move (.tmp 1)) none ?_
 simp only[rgC,seval,J04,J02,WKFC,hfs]
 refine wst hsn 14 (some 25) (.call { callee:=.value (.func 48),args:=#[.tmp 23,.tmp 24],argTypes:=#[22,3] }) none ?_
 simp only[rgC,seval,J04,J02,WKFC,rgK,hkids]
 refine wst hsn 15 (some 5) (.alloc 51) none ?_
 simp only[rgC,seval,J04,J02,WKFC,rgA,JiM,J0J,Jk2,J40,hzx,J2t,J51,Jig,Bool.and_self]
 refine wst hsn 16 (none) (.store 51 (.tmp 5) (.tmp 18)) none ?_
 simp only[rgC,seval,J04,J02,WKFC,J17,rgS,JcC,JiM,Jk2,hst]
 refine wst hsn 17 (some 6) (.assign (.tmp 25)) none ?_
 simp only[rgC,seval,J04,J02,WKFC]
 refine WKF.done (i:=18) (by kernel_rfl) ?_
 generalize ((K1.fl h.floor).push (.row (J0e zRow) 51 false false)).put K1.next (.row (J0e y) 51 false false)=A at *
 have y0:ld1 0 (A.get K1.next)=some (iv y.kind):=by rw[gA];rfl
 have y3:ld1 3 (A.get K1.next)=some (iv y.n):=by rw[gA];rfl
 have oAh:∀ i,i<h.next→A.get i=h.get i:=fun i hi=>(oA i (by omega)).trans (oK i hi)
 have BA:BndAt A b vr tr vS R rd S:=hb.mono (by omega) oAh
 have hfA:A.floor≤A.next:=by omega
 have kA:J1S 0 A kv ((JpU (endN Z) x.kids.toNat (at_+1)).map (fun (k:Nat)=>(k:Int))):=J1S.mono gI (by omega) fun i _ hi=>oA i hi
 have vle:=fun k=>JqJ (R:=R) (e:=endN Z) (at_:=k) hrd hS
 have len1:∀ h':SHeap,lenS Tryz.prog h' 25 kv=some (iv (x.kids.toNat:Int)):=fun h'=>by
  have:=JfF (n:=((JpU (endN Z) x.kids.toNat (at_+1)).map (fun (k:Nat)=>(k:Int))).length) kA h'
  rw[List.length_map,hkl] at this
  exact this
 have hff:A.fl A.floor=A:=rfl
 have hAfl:∀ f,(A.fl f).next=A.next:=fun _=>rfl
 have recf:∀ k∈JpU (endN Z) x.kids.toNat (at_+1),J0T n 22 [.pointer (some ⟨b,0,none⟩),iv k] A=some (iv (valA R (endN Z) rd S k),A)∧J0T n 22 [.pointer (some ⟨b,0,none⟩),iv k] (A.fl (max A.floor A.next))=some (iv (valA R (endN Z) rd S k),A.fl (max A.floor A.next)):=fun k hk=>
  ⟨hrec k hk A BA hfA,hrec k hk (A.fl (max A.floor A.next)) (BA.mono (Nat.le_refl _) fun _ _=>rfl) (by rw[JiM,J0J];omega)⟩
 have bAT:(b<A.next)=True:=by simp;omega
 have sum3:∀ (H:SHeap) (a c d:Int),Sums [a,c,d]→J0T n 17 [.slice (some ⟨H.next,0,none⟩) 3 3] (H.push (.row [iv a,iv c,iv d] 3 false false))=some (iv (sumL [a,c,d]),H.push (.row [iv a,iv c,iv d] 3 false false)):=fun H a c d hs=>Jsr (int3 (f:=H.floor)) hs (by show 3<_;omega) (by show 3+5<_;omega)
 have sum2:∀ (H:SHeap) (a c:Int),Sums [a,c]→J0T n 17 [.slice (some ⟨H.next,0,none⟩) 2 2] (H.push (.row [iv a,iv c] 3 false false))=some (iv (sumL [a,c]),H.push (.row [iv a,iv c] 3 false false)):=fun H a c hs=>Jsr (int2 (f:=H.floor)) hs (by show 2<_;omega) (by show 2+5<_;omega)
 have tim2:∀ (H:SHeap) (a c:Int),0≤a∧a≤4611686018427387904→0≤c∧c≤4611686018427387904→J0T n 18 [.slice (some ⟨H.next,0,none⟩) 2 2] (H.push (.row [iv a,iv c] 3 false false))=some (iv (byN a c),H.push (.row [iv a,iv c] 3 false false)):=fun H a c ha hc=>by
  rw[← JsB ha hc]
  exact Jsw (int2 (f:=H.floor)) (JrH fun z hz=>by simp only[List.mem_cons,List.not_mem_nil,or_false] at hz;rcases hz with rfl | rfl <;> assumption) (by show 2<_;omega) (by show 2+5<_;omega)
 have small2:∀ {a c:Int},0≤a∧a≤4611686018427387904→0≤c∧c≤4611686018427387904→Sums [a,c]:=fun ha hc z hz=>by simp only[List.mem_cons,List.not_mem_nil,or_false] at hz;rcases hz with rfl | rfl <;> assumption
 have small3:∀ {a c d:Int},0≤a∧a≤4611686018427387904→0≤c∧c≤4611686018427387904→0≤d∧d≤4611686018427387904→Sums [a,c,d]:=fun ha hc hd z hz=>by simp only[List.mem_cons,List.not_mem_nil,or_false] at hz;rcases hz with rfl | rfl | rfl <;> assumption
 have old1:∀ (o:SObj) (i:Nat),i<h.next→(A.push o).get i=h.get i:=fun o i hi=>(J06 (by omega)).trans (oAh i hi)
 have one1:(0:Int)≤1∧(1:Int)≤4611686018427387904:=by omega
 cases d24:(y.kind==24) with
 | true=>
  have hk:y.kind=24:=by simpa using d24
  have hv:valK y.kind ((JpU (endN Z) x.kids.toNat (at_+1)).map (valA R (endN Z) rd S)) ((rd[at_]?).getD 0) (J5y S y.n)=0:=if_pos hk
  rw[hv]
  simp only[evC,seval,↓evP,J0t,J0m,y0,d24]
  exact oAh
 | false=>
 have k24:y.kind≠24:=by simpa using d24
 cases d12:(y.kind==12) with
 | true=>
  have k12:y.kind=12:=by simpa using d12
  rcases fit12 k12 with hc | hc
  ·have hc2:x.kids.toNat=2:=by omega
   rw[hc2] at recf kA len1
   obtain⟨i0,p0,a0,b0,g0⟩:=J1S.get kA (i:=0) (x:=((at_+1:Nat):Int)) rfl
   obtain⟨i1,p1,a1,b1,g1⟩:=J1S.get kA (i:=1) (x:=((endN Z (at_+1):Nat):Int)) rfl
   obtain⟨r0,r0'⟩:=recf (at_+1) (by simp[JpU])
   obtain⟨r1,r1'⟩:=recf (endN Z (at_+1)) (by simp[JpU])
   have a0':J0R Tryz.prog 25 kv (iv 0)=some (.pointer (some ⟨i0,p0,none⟩)):=a0
   have a1':J0R Tryz.prog 25 kv (iv 1)=some (.pointer (some ⟨i1,p1,none⟩)):=a1
   have len1':∀ h':SHeap,lenS Tryz.prog h' 25 kv=some (iv 2):=len1
   have t0:(i0<A.next)=True:=by simp[b0]
   have t1:(i1<A.next)=True:=by simp[b1]
   have u0:=vle (at_+1)
   have u1:=vle (endN Z (at_+1))
   have mx:(if (0:Int)>valA R (endN Z) rd S (endN Z (at_+1)) then 0 else valA R (endN Z) rd S (endN Z (at_+1)))=valA R (endN Z) rd S (endN Z (at_+1)):=if_neg (by omega)
   have hs3:=sum3 A 1 _ _ (small3 one1 u0 u1)
   have hv:valK y.kind ((JpU (endN Z) x.kids.toNat (at_+1)).map (valA R (endN Z) rd S)) ((rd[at_]?).getD 0) (J5y S y.n)=sumL [1,valA R (endN Z) rd S (at_+1),valA R (endN Z) rd S (endN Z (at_+1))]:=by
    rw[hc2,k12,Jsh u0 u1]
    exact JrD u1.1
   rw[hv]
   simp only[evC,seval,↓evP,J0t,J0m,y0,d24,d12,len1']
   refine WK.flags (ops:=JsK) JrL ?_
   refine WKF.begin ?_
   refine wst hsn 0 (some 40) (.move (.tmp 0)) none ?_
   simp only[rgC,seval,J04,J02,WKFC,hff]
   refine wst hsn 1 (some 41) (.move (.tmp 6)) none ?_
   simp only[rgC,seval,J04,J02,WKFC,hff]
   refine wst hsn 2 (some 42) (.indexAddr 25 (.tmp 41) (.const (Value.int IntKind.i64 0))) none ?_
   simp only[rgC,seval,J04,J02,WKFC,hff,a0']
   refine wst hsn 3 (some 43) (.load 3 (.tmp 42)) none ?_
   simp only[rgC,seval,J04,J02,WKFC,rgL,hff,g0,t0,J0m]
   refine wst hsn 4 (some 44) (.call { callee:=.value (.func 22),args:=#[.tmp 40,.tmp 43],argTypes:=#[60,3] }) none ?_
   simp only[rgC,seval,J04,J02,WKFC,rgK,hff,r0',Jk2]
   refine wst hsn 5 (some 45) (.move (.tmp 0)) none ?_
   simp only[rgC,seval,J04,J02,WKFC,hff]
   refine wst hsn 6 (some 46) (.move (.tmp 6)) none ?_
   simp only[rgC,seval,J04,J02,WKFC,hff]
   refine wst hsn 7 (some 47) (.indexAddr 25 (.tmp 46) (.const (Value.int IntKind.i64 1))) none ?_
   simp only[rgC,seval,J04,J02,WKFC,hff,a1']
   refine wst hsn 8 (some 48) (.load 3 (.tmp 47)) none ?_
   simp only[rgC,seval,J04,J02,WKFC,rgL,hff,g1,t1,J0m]
   refine wst hsn 9 (some 49) (.call { callee:=.value (.func 22),args:=#[.tmp 45,.tmp 48],argTypes:=#[60,3] }) none ?_
   simp only[rgC,seval,J04,J02,WKFC,rgK,hff,r1]
   refine wst hsn 10 (some 50) (.move (.tmp 7)) none ?_
   simp only[rgC,seval,J04,J02,WKFC,hff]
   refine wst hsn 11 (some 51) (.call { callee:=.builtin .max,args:=#[.tmp 49,.tmp 50],argTypes:=#[3,3] }) none ?_
   simp only[rgC,seval,J04,J02,WKFC,rgK,hff,max2,mx]
   refine wst hsn 12 (some 52) (.buildSlice 25 3 #[(0,.const (Value.int IntKind.i64 1)),(1,.tmp 44),(2,.tmp 51)]) none ?_
   simp only[rgC,seval,J04,J02,WKFC,List.map_cons,List.map_nil,hff,bi3,J0a]
   refine wst hsn 13 (some 53) (.call { callee:=.value (.func 17),args:=#[.tmp 52],argTypes:=#[25] }) none ?_
   simp only[rgC,seval,J04,J02,WKFC,rgK,hs3]
   refine wst hsn 14 (some 4) (.assign (.tmp 53)) none ?_
   simp only[rgC,seval,J04,J02,WKFC]
   refine WKF.done (i:=15) (by kernel_rfl) ?_
   simp only[evC,seval,↓evP]
   exact old1 _
  ·have hc3:x.kids.toNat=3:=by omega
   rw[hc3] at recf kA len1
   obtain⟨i0,p0,a0,b0,g0⟩:=J1S.get kA (i:=0) (x:=((at_+1:Nat):Int)) rfl
   obtain⟨i1,p1,a1,b1,g1⟩:=J1S.get kA (i:=1) (x:=((endN Z (at_+1):Nat):Int)) rfl
   obtain⟨i2,p2,a2,b2,g2⟩:=J1S.get kA (i:=2) (x:=((endN Z (endN Z (at_+1)):Nat):Int)) rfl
   obtain⟨r0,r0'⟩:=recf (at_+1) (by simp[JpU])
   obtain⟨r1,r1'⟩:=recf (endN Z (at_+1)) (by simp[JpU])
   obtain⟨r2,r2'⟩:=recf (endN Z (endN Z (at_+1))) (by simp[JpU])
   have a0':J0R Tryz.prog 25 kv (iv 0)=some (.pointer (some ⟨i0,p0,none⟩)):=a0
   have a1':J0R Tryz.prog 25 kv (iv 1)=some (.pointer (some ⟨i1,p1,none⟩)):=a1
   have a2':J0R Tryz.prog 25 kv (iv 2)=some (.pointer (some ⟨i2,p2,none⟩)):=a2
   have len1':∀ h':SHeap,lenS Tryz.prog h' 25 kv=some (iv 3):=len1
   have t0:(i0<A.next)=True:=by simp[b0]
   have t1:(i1<A.next)=True:=by simp[b1]
   have u0:=vle (at_+1)
   have u1:=vle (endN Z (at_+1))
   have u2:=vle (endN Z (endN Z (at_+1)))
   have u3:0≤(if valA R (endN Z) rd S (endN Z (endN Z (at_+1)))>valA R (endN Z) rd S (endN Z (at_+1)) then valA R (endN Z) rd S (endN Z (endN Z (at_+1))) else valA R (endN Z) rd S (endN Z (at_+1)))∧(if valA R (endN Z) rd S (endN Z (endN Z (at_+1)))>valA R (endN Z) rd S (endN Z (at_+1)) then valA R (endN Z) rd S (endN Z (endN Z (at_+1))) else valA R (endN Z) rd S (endN Z (at_+1)))≤4611686018427387904:=by split <;> assumption
   have hv:valK y.kind ((JpU (endN Z) x.kids.toNat (at_+1)).map (valA R (endN Z) rd S)) ((rd[at_]?).getD 0) (J5y S y.n)=sumL [1,valA R (endN Z) rd S (at_+1),if valA R (endN Z) rd S (endN Z (endN Z (at_+1)))>valA R (endN Z) rd S (endN Z (at_+1)) then valA R (endN Z) rd S (endN Z (endN Z (at_+1))) else valA R (endN Z) rd S (endN Z (at_+1))]:=by
    rw[hc3,k12,Jsh u0 u3]
    exact JrB
   rw[hv]
   generalize hmx:(if valA R (endN Z) rd S (endN Z (endN Z (at_+1)))>valA R (endN Z) rd S (endN Z (at_+1)) then valA R (endN Z) rd S (endN Z (endN Z (at_+1))) else valA R (endN Z) rd S (endN Z (at_+1)))=mx at *
   have hs3:=sum3 A 1 _ _ (small3 one1 u0 u3)
   simp only[evC,seval,↓evP,J0t,J0m,y0,d24,d12,len1',a2',g2,r2]
   refine WK.flags (ops:=JsK) JrL ?_
   refine WKF.begin ?_
   refine wst hsn 0 (some 40) (.move (.tmp 0)) none ?_
   simp only[rgC,seval,J04,J02,WKFC,hff]
   refine wst hsn 1 (some 41) (.move (.tmp 6)) none ?_
   simp only[rgC,seval,J04,J02,WKFC,hff]
   refine wst hsn 2 (some 42) (.indexAddr 25 (.tmp 41) (.const (Value.int IntKind.i64 0))) none ?_
   simp only[rgC,seval,J04,J02,WKFC,hff,a0']
   refine wst hsn 3 (some 43) (.load 3 (.tmp 42)) none ?_
   simp only[rgC,seval,J04,J02,WKFC,rgL,hff,g0,t0,J0m]
   refine wst hsn 4 (some 44) (.call { callee:=.value (.func 22),args:=#[.tmp 40,.tmp 43],argTypes:=#[60,3] }) none ?_
   simp only[rgC,seval,J04,J02,WKFC,rgK,hff,r0',Jk2]
   refine wst hsn 5 (some 45) (.move (.tmp 0)) none ?_
   simp only[rgC,seval,J04,J02,WKFC,hff]
   refine wst hsn 6 (some 46) (.move (.tmp 6)) none ?_
   simp only[rgC,seval,J04,J02,WKFC,hff]
   refine wst hsn 7 (some 47) (.indexAddr 25 (.tmp 46) (.const (Value.int IntKind.i64 1))) none ?_
   simp only[rgC,seval,J04,J02,WKFC,hff,a1']
   refine wst hsn 8 (some 48) (.load 3 (.tmp 47)) none ?_
   simp only[rgC,seval,J04,J02,WKFC,rgL,hff,g1,t1,J0m]
   refine wst hsn 9 (some 49) (.call { callee:=.value (.func 22),args:=#[.tmp 45,.tmp 48],argTypes:=#[60,3] }) none ?_
   simp only[rgC,seval,J04,J02,WKFC,rgK,hff,r1]
   refine wst hsn 10 (some 50) (.move (.tmp 7)) none ?_
   simp only[rgC,seval,J04,J02,WKFC,hff]
   refine wst hsn 11 (some 51) (.call { callee:=.builtin .max,args:=#[.tmp 49,.tmp 50],argTypes:=#[3,3] }) none ?_
   simp only[rgC,seval,J04,J02,WKFC,rgK,hff,max2,hmx]
   refine wst hsn 12 (some 52) (.buildSlice 25 3 #[(0,.const (Value.int IntKind.i64 1)),(1,.tmp 44),(2,.tmp 51)]) none ?_
   simp only[rgC,seval,J04,J02,WKFC,List.map_cons,List.map_nil,hff,bi3,J0a]
   refine wst hsn 13 (some 53) (.call { callee:=.value (.func 17),args:=#[.tmp 52],argTypes:=#[25] }) none ?_
   simp only[rgC,seval,J04,J02,WKFC,rgK,hs3]
   refine wst hsn 14 (some 4) (.assign (.tmp 53)) none ?_
   simp only[rgC,seval,J04,J02,WKFC]
   refine WKF.done (i:=15) (by kernel_rfl) ?_
   simp only[evC,seval,↓evP]
   exact old1 _
 | false=>
 have k12:y.kind≠12:=by simpa using d12
 cases d13:(y.kind==13) with
 | true=>
  have k13:y.kind=13:=by simpa using d13
  have hc3:x.kids.toNat=3:=by have:=fit13 k13;omega
  rw[hc3] at recf kA len1
  obtain⟨i1,p1,a1,b1,g1⟩:=J1S.get kA (i:=1) (x:=((endN Z (at_+1):Nat):Int)) rfl
  obtain⟨i2,p2,a2,b2,g2⟩:=J1S.get kA (i:=2) (x:=((endN Z (endN Z (at_+1)):Nat):Int)) rfl
  obtain⟨r1,r1'⟩:=recf (endN Z (at_+1)) (by simp[JpU])
  obtain⟨r2,r2'⟩:=recf (endN Z (endN Z (at_+1))) (by simp[JpU])
  have a1':J0R Tryz.prog 25 kv (iv 1)=some (.pointer (some ⟨i1,p1,none⟩)):=a1
  have a2':J0R Tryz.prog 25 kv (iv 2)=some (.pointer (some ⟨i2,p2,none⟩)):=a2
  have hal:at_<rd.length:=by rw[hrl];exact(List.getElem?_eq_some_iff.1 hy).1
  obtain⟨ro,hro⟩:∃ ro,rd[at_]?=some ro:=⟨_,List.getElem?_eq_getElem hal⟩
  have u0:=Jqw hrd at_
  rw[hro] at u0
  simp only[Option.getD_some] at u0
  obtain⟨i3,p3,a3,b3,g3⟩:=J1S.get BA.rd hro
  have t1:(i1<A.next)=True:=by simp[b1]
  have t2:(i2<A.next)=True:=by simp[b2]
  have t3:(i3<A.next)=True:=by simp[b3]
  have u1:=vle (endN Z (at_+1))
  have u2:=vle (endN Z (endN Z (at_+1)))
  have hs1:=sum2 A _ _ (small2 u1 u2)
  rw[Jrd u1] at hs1
  have hs1':J0T n 17 [.slice (some ⟨A.next,0,none⟩) 2 2] ((A.fl (max A.floor A.next)).push (.row [iv (valA R (endN Z) rd S (endN Z (at_+1))),iv (valA R (endN Z) rd S (endN Z (endN Z (at_+1))))] 3 false false))=some (iv (J2I (valA R (endN Z) rd S (endN Z (at_+1))) (valA R (endN Z) rd S (endN Z (endN Z (at_+1))))),(A.fl (max A.floor A.next)).push (.row [iv (valA R (endN Z) rd S (endN Z (at_+1))),iv (valA R (endN Z) rd S (endN Z (endN Z (at_+1))))] 3 false false)):=by
   rw[← Jrd u1]
   exact sum2 (A.fl (max A.floor A.next)) _ _ (small2 u1 u2)
  have u3:=J3O u1.1 u2.1 u2.2
  have u4:=Jrw u0 u3
  have hv:valK y.kind ((JpU (endN Z) x.kids.toNat (at_+1)).map (valA R (endN Z) rd S)) ((rd[at_]?).getD 0) (J5y S y.n)=sumL [1,byN ro (J2I (valA R (endN Z) rd S (endN Z (at_+1))) (valA R (endN Z) rd S (endN Z (endN Z (at_+1)))))]:=by
   rw[hc3,k13,hro,Jrv u4]
   exact JqQ
  rw[hv]
  have hs2:=fun H=>tim2 H ro _ u0 u3
  have hs3:=fun H=>sum2 H 1 _ (small2 one1 u4)
  simp only[evC,seval,↓evP,J0t,J0m,y0,d24,d12,d13]
  refine WK.flags (ops:=Jsl) Js9 ?_
  refine WKF.begin ?_
  refine wst hsn 0 (some 56) (.move (.tmp 0)) none ?_
  simp only[rgC,seval,J04,J02,WKFC,hff,Nat.zero_add]
  refine wst hsn 1 (some 57) (.nilCheck (.tmp 56)) none ?_
  simp only[rgC,seval,J04,J02,WKFC,hff,Nat.reduceAdd]
  refine wst hsn 2 (some 58) (.fieldAddr 62 (.tmp 57) 1) none ?_
  simp only[rgC,seval,J04,J02,WKFC,Nat.zero_add,hff,Js2,Nat.zero_add,Nat.reduceAdd]
  refine wst hsn 3 (some 59) (.fieldAddr 30 (.tmp 58) 2) none ?_
  simp only[rgC,seval,J04,J02,WKFC,hff,JpX,Nat.reduceAdd]
  refine wst hsn 4 (some 60) (.load 25 (.tmp 59)) none ?_
  simp only[rgC,seval,J04,J02,WKFC,rgL,hff,bAT,BA.x10,J0n,Nat.reduceAdd]
  refine wst hsn 5 (some 61) (.move (.tmp 1)) none ?_
  simp only[rgC,seval,J04,J02,WKFC,hff,Nat.reduceAdd]
  refine wst hsn 6 (some 62) (.indexAddr 25 (.tmp 60) (.tmp 61)) none ?_
  simp only[rgC,seval,J04,J02,WKFC,hff,Nat.reduceAdd,a3]
  refine wst hsn 7 (some 63) (.load 3 (.tmp 62)) none ?_
  simp only[rgC,seval,J04,J02,WKFC,rgL,hff,Nat.reduceAdd,g3,t3,J0m]
  refine wst hsn 8 (some 64) (.move (.tmp 0)) none ?_
  simp only[rgC,seval,J04,J02,WKFC,hff,Nat.reduceAdd]
  refine wst hsn 9 (some 65) (.move (.tmp 6)) none ?_
  simp only[rgC,seval,J04,J02,WKFC,hff,Nat.reduceAdd]
  refine wst hsn 10 (some 66) (.indexAddr 25 (.tmp 65) (.const (Value.int IntKind.i64 1))) none ?_
  simp only[rgC,seval,J04,J02,WKFC,hff,Nat.reduceAdd,a1']
  refine wst hsn 11 (some 67) (.load 3 (.tmp 66)) none ?_
  simp only[rgC,seval,J04,J02,WKFC,rgL,hff,Nat.reduceAdd,g1,t1,J0m]
  refine wst hsn 12 (some 68) (.call { callee:=.value (.func 22),args:=#[.tmp 64,.tmp 67],argTypes:=#[60,3] }) none ?_
  simp only[rgC,seval,J04,J02,WKFC,rgK,hff,Nat.reduceAdd,r1',Jk2]
  refine wst hsn 13 (some 69) (.move (.tmp 0)) none ?_
  simp only[rgC,seval,J04,J02,WKFC,hff,Nat.reduceAdd]
  refine wst hsn 14 (some 70) (.move (.tmp 6)) none ?_
  simp only[rgC,seval,J04,J02,WKFC,hff,Nat.reduceAdd]
  refine wst hsn 15 (some 71) (.indexAddr 25 (.tmp 70) (.const (Value.int IntKind.i64 2))) none ?_
  simp only[rgC,seval,J04,J02,WKFC,hff,Nat.reduceAdd,a2']
  refine wst hsn 16 (some 72) (.load 3 (.tmp 71)) none ?_
  simp only[rgC,seval,J04,J02,WKFC,rgL,hff,Nat.reduceAdd,g2,t2,J0m]
  refine wst hsn 17 (some 73) (.call { callee:=.value (.func 22),args:=#[.tmp 69,.tmp 72],argTypes:=#[60,3] }) none ?_
  simp only[rgC,seval,J04,J02,WKFC,rgK,hff,Nat.reduceAdd,r2',Jk2]
  refine wst hsn 18 (some 74) (.buildSlice 25 2 #[(0,.tmp 68),(1,.tmp 73)]) none ?_
  simp only[rgC,seval,J04,J02,WKFC,List.map_cons,List.map_nil,hff,Nat.reduceAdd,bi2,J0a]
  refine wst hsn 19 (some 75) (.call { callee:=.value (.func 17),args:=#[.tmp 74],argTypes:=#[25] }) none ?_
  simp only[rgC,seval,J04,J02,WKFC,rgK,hff,Nat.reduceAdd,hs1',J0a,J0i,Jk2]
  refine wst hsn 20 (some 76) (.buildSlice 25 2 #[(0,.tmp 63),(1,.tmp 75)]) none ?_
  simp only[rgC,seval,J04,J02,WKFC,List.map_cons,List.map_nil,hff,Nat.reduceAdd,bi2,J0a,J0i]
  refine wst hsn 21 (some 77) (.call { callee:=.value (.func 18),args:=#[.tmp 76],argTypes:=#[25] }) none ?_
  simp only[rgC,seval,J04,J02,WKFC,rgK,hff,Nat.reduceAdd,hs2,J0a,J0i]
  refine wst hsn 22 (some 78) (.buildSlice 25 2 #[(0,.const (Value.int IntKind.i64 1)),(1,.tmp 77)]) none ?_
  simp only[rgC,seval,J04,J02,WKFC,List.map_cons,List.map_nil,hff,Nat.reduceAdd,bi2,J0a,J0i]
  refine wst hsn 23 (some 79) (.call { callee:=.value (.func 17),args:=#[.tmp 78],argTypes:=#[25] }) none ?_
  simp only[rgC,seval,J04,J02,WKFC,rgK,hff,Nat.reduceAdd,hs3,J0a,J0i]
  refine wst hsn 24 (some 4) (.assign (.tmp 79)) none ?_
  simp only[rgC,seval,J04,J02,WKFC,hff,Nat.reduceAdd,J0a,J0i]
  refine WKF.done (i:=25) (by kernel_rfl) ?_
  simp only[evC,seval,↓evP]
  exact fun i hi=>by rw[J06 (by show i<A.next+1+1;omega),J06 (by show i<A.next+1;omega),J06 (by omega)];exact oAh i hi
 | false=>
 have k13:y.kind≠13:=by simpa using d13
 cases d22:(y.kind==22) with
 | true=>
  have k22:y.kind=22:=by simpa using d22
  obtain⟨c0,c1⟩:=hcall k22
  obtain⟨k,hk⟩:∃ k:Nat,y.n=(k:Int):=⟨y.n.toNat,by omega⟩
  rw[hk] at y3 c1
  obtain⟨q,hq⟩:∃ q,S[k]?=some q:=⟨_,List.getElem?_eq_getElem (by omega)⟩
  obtain⟨i3,p3,a3,b3,g3⟩:=J1S.get BA.s hq
  have u1:=hS q (List.mem_of_getElem? hq)
  have t3:(i3<A.next)=True:=by simp[b3]
  have KT:(K1.next<A.next)=True:=by simp;omega
  have hs2:=fun H=>sum2 H 1 q (small2 one1 u1)
  have hsq:J5y S y.n=q:=by unfold J5y;rw[hk,Int.toNat_natCast,hq];rfl
  have hv:valK y.kind ((JpU (endN Z) x.kids.toNat (at_+1)).map (valA R (endN Z) rd S)) ((rd[at_]?).getD 0) (J5y S y.n)=sumL [1,q]:=by
   rw[hsq,k22,Jrv u1]
   exact JqR
  rw[hv]
  simp only[evC,seval,↓evP,J0t,J0m,y0,d24,d12,d13,d22]
  refine WK.flags (ops:=Jsk) JrZ ?_
  refine WKF.begin ?_
  refine wst hsn 0 (some 82) (.move (.tmp 0)) none ?_
  simp only[rgC,seval,J04,J02,WKFC,hff,Nat.zero_add]
  refine wst hsn 1 (some 83) (.nilCheck (.tmp 82)) none ?_
  simp only[rgC,seval,J04,J02,WKFC,hff,Nat.reduceAdd]
  refine wst hsn 2 (some 84) (.fieldAddr 62 (.tmp 83) 2) none ?_
  simp only[rgC,seval,J04,J02,WKFC,Nat.zero_add,hff,Jra,Nat.zero_add,Nat.reduceAdd]
  refine wst hsn 3 (some 85) (.load 25 (.tmp 84)) none ?_
  simp only[rgC,seval,J04,J02,WKFC,rgL,hff,bAT,BA.x11,J0n,Nat.reduceAdd]
  refine wst hsn 4 (some 86) (.fieldAddr 51 (.tmp 5) 3) none ?_
  simp only[rgC,seval,J04,J02,WKFC,Nat.zero_add,hff,J0O,Nat.zero_add,Nat.reduceAdd]
  refine wst hsn 5 (some 87) (.load 3 (.tmp 86)) none ?_
  simp only[rgC,seval,J04,J02,WKFC,rgL,hff,KT,y3,Nat.reduceAdd,J0m]
  refine wst hsn 6 (some 88) (.indexAddr 25 (.tmp 85) (.tmp 87)) none ?_
  simp only[rgC,seval,J04,J02,WKFC,hff,Nat.reduceAdd,a3]
  refine wst hsn 7 (some 89) (.load 3 (.tmp 88)) none ?_
  simp only[rgC,seval,J04,J02,WKFC,rgL,hff,Nat.reduceAdd,g3,t3,J0m]
  refine wst hsn 8 (some 90) (.buildSlice 25 2 #[(0,.const (Value.int IntKind.i64 1)),(1,.tmp 89)]) none ?_
  simp only[rgC,seval,J04,J02,WKFC,List.map_cons,List.map_nil,hff,Nat.reduceAdd,bi2,J0a]
  refine wst hsn 9 (some 91) (.call { callee:=.value (.func 17),args:=#[.tmp 90],argTypes:=#[25] }) none ?_
  simp only[rgC,seval,J04,J02,WKFC,rgK,hff,Nat.reduceAdd,hs2,J0a,J0i]
  refine wst hsn 10 (some 4) (.assign (.tmp 91)) none ?_
  simp only[rgC,seval,J04,J02,WKFC,hff,Nat.reduceAdd,J0a,J0i]
  refine WKF.done (i:=11) (by kernel_rfl) ?_
  simp only[evC,seval,↓evP]
  exact old1 _
 | false=>
 have k22:y.kind≠22:=by simpa using d22
 have hsv:Sums ((JpU (endN Z) x.kids.toNat (at_+1)).map (valA R (endN Z) rd S)):=JqT hrd hS R.length _
 rw[JqO k24 k12 k13 k22,← Jr3 hsv]
 simp only[evC,seval,↓evP,J0t,J0m,y0,d24,d12,d13,d22,bs28,len1]
 have hkb:x.kids.toNat≤R.length:=by
  obtain⟨x',hx',_,_,hch⟩:=(ht.end (List.getElem?_eq_some_iff.1 hx).1).kids
  rw[hx] at hx'
  cases hx'
  have h1:=J2o _ _ _ hch
  have h2:=(ht.end (List.getElem?_eq_some_iff.1 hx).1).lt
  have h3:=hsk.1
  omega
 generalize hks:JpU (endN Z) x.kids.toNat (at_+1)=ks at *
 refine WK.loop (fun i s'=>s'.T.get 0=.pointer (some ⟨b,0,none⟩)∧s'.T.get 93=kv∧s'.T.get 94=iv (x.kids.toNat:Int)∧s'.T.get 95=iv i∧i≤x.kids.toNat∧A.next≤s'.h.next∧s'.h.floor=A.floor∧(∀ j,j<A.next→s'.h.get j=A.get j)∧∃ w,s'.T.get 8=w∧IntL s'.h A.next w (1 :: (ks.take i).map (valA R (endN Z) rd S))) x.kids.toNat (by omega) ?_ ?_
 ·refine⟨by simp only[evC,seval,↓evP,rpC],by simp only[evC,seval,↓evP,rpC],by simp only[evC,seval,↓evP,rpC],by simp only[evC,seval,↓evP,rpC],by omega,by show A.next≤A.next+1;omega,rfl,fun j hj=>J06 hj,.slice (some ⟨A.next,0,none⟩) 1 1,by simp only[evC,seval,↓evP,rpC],.inr ⟨A.next,1,rfl,Nat.le_refl _,by show A.next<A.next+1;omega,.inr ⟨rfl,J0h⟩⟩⟩
 rintro i ⟨T1,H1⟩ hi ⟨t0,t93,t94,t95,hil,m1,m2,m3,w,t8,hL8⟩
 simp only at t0 t93 t94 t95 m1 m2 m3 t8 hL8
 have B1':BndAt H1 b vr tr vS R rd S:=BA.mono m1 m3
 by_cases hlt:i<x.kids.toNat
 ·have c1:decide ((i:Int)<(x.kids.toNat:Int))=true:=by simp;omega
  have w1:IntKind.i64.wrap ((i:Int)+1)=((i+1:Nat):Int):=J0s (by omega) (by omega)
  obtain⟨k,hk⟩:∃ k,ks[i]?=some k:=⟨_,List.getElem?_eq_getElem (by omega)⟩
  obtain⟨i3,p3,a3,b3,g3⟩:=J1S.get (J1S.mono kA m1 fun j _ hj=>m3 j hj) (i:=i) (x:=(k:Int)) (by rw[List.getElem?_map,hk];rfl)
  have hrk:=hrec k (List.mem_of_getElem? hk) H1 B1' (by omega)
  obtain⟨w',H',happ,hL',fH,nH,oH⟩:=Jqv (x:=valA R (endN Z) rd S k) hL8 m1 (by omega) (by rw[List.length_cons,List.length_map,List.length_take];omega)
  simp only[evC,seval,↓evP,t0,t93,t94,t95,t8,c1,a3,J0m,g3,hrk,bs28,happ,w1]
  refine⟨hlt,by omega,by omega,by omega,fun j hj=>(oH j hj).trans (m3 j hj),?_⟩
  rw[List.take_add_one,hk]
  simpa using hL'
 ·have c1:decide ((i:Int)<(x.kids.toNat:Int))=false:=by simp;omega
  have hti:ks.take i=ks:=List.take_of_length_le (by omega)
  rw[hti] at hL8
  have hs1:Sums (1 :: ks.map (valA R (endN Z) rd S)):=fun z hz=>by
   simp only[List.mem_cons] at hz
   rcases hz with rfl | hz
   ·exact one1
   ·exact hsv z hz
  have hsum:=Jsr (n:=n) (IntL.ints hL8 (Nat.zero_le _)) hs1 (by rw[List.length_cons,List.length_map];omega) (by rw[List.length_cons,List.length_map];omega)
  simp only[evC,seval,↓evP,t94,t95,t8,c1,hsum]
  exact fun i hi=>(m3 i (by omega)).trans (oAh i hi)
end
def Jqx (R:List RowN) (S:List Int) (p q:Nat):Prop:=∀ (i:Nat) (x:RowN),p≤i→i<q→R[i]?=some x→x.kind=22→0≤x.n∧x.n<S.length
def Jqj (R Z:List RowN):Prop:=∀ (i:Nat) (x:RowN),Z[i]?=some x→∃ y,R[i]?=some y∧y.kind=x.kind
theorem Jrs {Z R:List RowN} {rd S:List Int} {vr tr vS:Value} {b:Nat} (ht:J2c Z) (hsk:Jkk R Z) (hkk:Jqj R Z) (hrd:Jq9 rd) (hrl:rd.length=R.length) (hS:Sums S) (hlen:R.length<100000000) :
  ∀ (d n at_ q:Nat) (h:SHeap),SubT Z at_ q→q-at_≤d→Jqx R S at_ q→R.length+40+d<n→BndAt h b vr tr vS R rd S→h.floor≤h.next→J0T n 22 [.pointer (some ⟨b,0,none⟩),iv at_] h=some (iv (valA R (endN Z) rd S at_),h):=by
 intro d
 induction d with
 | zero=>intro n at_ q h hs hd;have:=hs.lt;omega
 | succ d ih=>
  intro n at_ q h hs hd hc hn hb hfl
  obtain⟨n,rfl⟩:∃ j,n=j+1:=⟨n-1,by omega⟩
  obtain⟨x,hx,_,_,hch⟩:=hs.kids
  obtain⟨y,hy,hyk⟩:=hkk at_ x hx
  have hl:=hs.lt
  refine J4r (J13 ⟨rfl,rfl,rfl⟩) rfl (Jro (n:=n) (N:=n) ht hsk hx hy hyk hrd hrl hS (fun h22=>hc at_ y (Nat.le_refl _) (by omega) hy h22) hlen (by omega) (by omega) hb hfl fun k hk h' hb' hf'=>?_)
  obtain⟨qk,s1,s2,s3⟩:=Jqq _ _ _ hch k hk
  exact ih n k qk h' s1 (by omega) (fun i z h1 h2=>hc i z (by omega) (by omega)) (by omega) hb' hf'
noncomputable def Jsm:Array Oper:=J18 Tryz.f25 20
def Jt8:List (Bool × Bool × List Operand):=[(true,true,[]),(true,true,[]),(true,true,[]),(true,true,[]),(false,true,[.tmp 97]),(false,true,[.tmp 97]),(false,true,[.tmp 97]),(false,true,[.tmp 97,.tmp 100]),(false,true,[.tmp 97,.tmp 100]),(false,true,[.tmp 97,.tmp 100]),(false,true,[.tmp 97]),(false,false,[]),(false,false,[])]
theorem Js5:J1E Jsm=Jt8:=by kernel_rfl
section
variable {n N:Nat}
set_option maxHeartbeats 16000000 in
theorem JqX {Z:List RowN} {rd S:List Int} {vr vq vv vt vu vo ve vd vS:Value} {nm:ByteArray} {s:StN} {lo row q:Nat} {h:SHeap} (hp:J3x lo h (.agg #[.string nm,vr,vq,vv,vt,vu,vo,iv s.miss]) nm s) (he:J1S 0 h ve (J0o Z)) (hd:J1S 0 h vd rd) (hs:J1S 0 h vS S)
  (ht:J2c Z) (hsk:Jkk s.rows Z) (hkk:Jqj s.rows Z) (hrd:Jq9 rd) (hrl:rd.length=s.rows.length) (hS:Sums S) (hsub:SubT Z row q) (hcall:Jqx s.rows S row q) (hlen:s.rows.length<100000000) (hn:0<n) (hN:s.rows.length+30<N) (hfl:h.floor≤h.next) :
  ∃ h',J0L Tryz.prog (J0T n) N 25 [.agg #[.string nm,vr,vq,vv,vt,vu,vo,iv s.miss],vd,ve,vS,iv row] h=some (iv (valA s.rows (endN Z) rd S row),h')∧∀ i,i<h.next→h'.get i=h.get i:=by
 have hsn:=(J1z n).2
 refine J1N (R:=fun h'=>∀ i,i<h.next→h'.get i=h.get i) Tryz.func25 rfl (by simp[Tryz.f25]) ?_
 have hr:Tryz.f25.results.toList=[.tmp 10]:=rfl
 obtain⟨vr',vq',vv',vt',vu',vo',e9,p1,p2,p3,p4,p5,p6⟩:=id hp
 cases e9
 have hZ:=hsk.1
 have hrq:=hsub.lt
 have ca:(Value.agg #[.string nm,vr,vq,vv,vt,vu,vo,iv s.miss]).cells.toList=[.string nm,vr,vq,vv,vt,vu,vo,iv s.miss]:=rfl
 have oa:=all8 (nm:=nm) p1 p2 p3 p4 p5 p6
 have hE:(J0o Z)[row]?=some (q:Int):=by rw[J2B (by omega),J5P hsub]
 obtain⟨ie,pe,e1,e2,e3⟩:=J1S.get he hE
 have w0:IntKind.i64.wrap ((q:Int)-(row:Int))=((q-row:Nat):Int):=by rw[J0s (by omega) (by omega)];omega
 have w1:IntKind.i64.wrap ((q:Int)-1)=(q:Int)-1:=J0s (by omega) (by omega)
 have gP:(h.push (.row [.string nm,vr,vq,vv,vt,vu,vo,iv s.miss] 27 false false)).get h.next=.row [.string nm,vr,vq,vv,vt,vu,vo,iv s.miss] 27 false false:=J0h
 have gO:∀ i,i<h.next→(h.push (.row [.string nm,vr,vq,vv,vt,vu,vo,iv s.miss] 27 false false)).get i=h.get i:=fun i hi=>J06 hi
 have nP:(h.push (.row [.string nm,vr,vq,vv,vt,vu,vo,iv s.miss] 27 false false)).next=h.next+1:=rfl
 have fP:(h.push (.row [.string nm,vr,vq,vv,vt,vu,vo,iv s.miss] 27 false false)).floor=h.floor:=rfl
 simp only[evC,seval,↓evP,rpD,J0X,J2t,hr,ca,oa,sz30]
 generalize h.push (.row [.string nm,vr,vq,vv,vt,vu,vo,iv s.miss] 27 false false)=P at *
 have e3P:ld1 pe (P.get ie)=some (iv q):=by rw[gO _ e2];exact e3
 have hmk:=J8p (h:=P) (n:=q-row) (by omega)
 rw[nP] at hmk
 have gF:(P.push (.row (ints (List.replicate (q-row) 0)) 3 false false)).get (h.next+1)=.row (ints (List.replicate (q-row) 0)) 3 false false:=by rw[← nP];exact J0h
 have gO2:∀ i,i<h.next+1→(P.push (.row (ints (List.replicate (q-row) 0)) 3 false false)).get i=P.get i:=fun i hi=>J06 (by omega)
 have nF:(P.push (.row (ints (List.replicate (q-row) 0)) 3 false false)).next=h.next+2:=by rw[J1D,nP]
 have fF:(P.push (.row (ints (List.replicate (q-row) 0)) 3 false false)).floor=h.floor:=by rw[J0i,fP]
 have e3F:ld1 pe ((P.push (.row (ints (List.replicate (q-row) 0)) 3 false false)).get ie)=some (iv q):=by rw[gO2 _ (by omega)];exact e3P
 simp only[evC,seval,↓evP,e1,J0m,e3P,w0,hmk,e3F,w1]
 generalize P.push (.row (ints (List.replicate (q-row) 0)) 3 false false)=F0 at *
 refine WK.loop (fun j s'=>s'.T.get 1=vd∧s'.T.get 2=ve∧s'.T.get 3=vS∧s'.T.get 4=iv row∧s'.T.get 5=.pointer (some ⟨h.next,0,none⟩)∧s'.T.get 11=.slice (some ⟨h.next+1,0,none⟩) (q-row) (q-row)∧s'.T.get 12=iv ((q:Int)-1-(j:Int))∧j≤q-row∧h.next+2≤s'.h.next∧s'.h.floor=h.floor∧(∀ i,i<h.next+1→s'.h.get i=P.get i) ∧
  ∃ OF:List Int,OF.length=q-row∧s'.h.get (h.next+1)=.row (ints OF) 3 false false∧∀ i,q-j≤i→i<q→OF[i-row]?=some (valA s.rows (endN Z) rd S i)) (q-row) (by omega) ?_ ?_
 ·exact⟨by simp only[evC,seval,↓evP,rpC],by simp only[evC,seval,↓evP,rpC],by simp only[evC,seval,↓evP,rpC],by simp only[evC,seval,↓evP,rpC],by simp only[evC,seval,↓evP,rpC],by simp only[evC,seval,↓evP,rpC],by simp only[evC,seval,↓evP,rpC];omega,by omega,by show h.next+2≤F0.next;omega,fF,gO2,List.replicate (q-row) 0,List.length_replicate ..,gF,fun i h1 h2=>by omega⟩
 rintro j ⟨T1,H1⟩ hj ⟨t1,t2,t3,t4,t5,t11,t12,hjl,m1,m2,m3,OF,lF,gOF,hOF⟩
 simp only at t1 t2 t3 t4 t5 t11 t12 m1 m2 m3 gOF
 by_cases hlt:j<q-row
 ·obtain⟨at_,hat,hatq⟩:∃ a:Nat,(q:Int)-1-(j:Int)=(a:Int)∧a+1+j=q:=⟨q-1-j,by omega,by omega⟩
  rw[hat] at t12
  have c1:decide ((at_:Int)≥(row:Int))=true:=by simp;omega
  obtain⟨qa,sa,sb⟩:=SubT.cover (q-row) (by omega) hsub at_ (by omega) (by omega)
  have hqa:=J5P sa
  obtain⟨x,hx,hk0,_,hch⟩:=sa.kids
  obtain⟨y,hy,hyk⟩:=hsk.2 _ x hx
  obtain⟨y',hy',hyk'⟩:=hkk _ x hx
  rw[hy] at hy'
  cases hy'
  have sal:=sa.lt
  have hk13:=JqL ht hx
  rw[← hyk'] at hk13
  obtain⟨fit12,fit13⟩:=hk13
  have hval:=Jru (rd:=rd) (S:=S) ht hsk hy
  rw[hyk] at hval
  have hcl:=J2o _ _ _ hch
  rw[← hqa] at hch hcl sal
  have hkl:(JpU (endN Z) x.kids.toNat (at_+1)).length=x.kids.toNat:=Jqt _ _
  have hmem:=Jqq _ _ _ hch
  have hkN:x.kids.toNat<N:=by clear hrl hrd;omega
  generalize hks:JpU (endN Z) x.kids.toNat (at_+1)=ks at *
  have vle:=fun k=>JqJ (R:=s.rows) (e:=endN Z) (at_:=k) hrd hS
  have oH1:∀ i,i<h.next→H1.get i=h.get i:=fun i hi=>(m3 i (by omega)).trans (gO i hi)
  have r1:J0l H1 vr s.rows:=p1.1.mono (by omega) oH1
  have E1:J1S 0 H1 ve (J0o Z):=J1S.mono he (by omega) fun i _ hi=>oH1 i hi
  have D1:J1S 0 H1 vd rd:=J1S.mono hd (by omega) fun i _ hi=>oH1 i hi
  have S1:J1S 0 H1 vS S:=J1S.mono hs (by omega) fun i _ hi=>oH1 i hi
  have lP:ld1 1 (H1.get h.next)=some vr:=by rw[m3 _ (by omega),gP];rfl
  obtain⟨idr,pr,b0,bid,l0,l1,l2,l3,l4,lr⟩:=r1.row hy
  have hEa:(J0o Z)[at_]?=some ((endN Z at_:Nat):Int):=J2B (by omega)
  obtain⟨ia,pa,a1,a2,a3⟩:=J1S.get E1 hEa
  have hzx:(Value.agg #[iv 0,.string ByteArray.empty,iv 0,iv 0,iv 0]).cells.toList=J0e zRow:=rfl
  have hst:J0K Tryz.prog (H1.push (.row (J0e zRow) 51 false false)) 51 (.pointer (some ⟨H1.next,0,none⟩)) (rowV y)=some ((H1.push (.row (J0e zRow) 51 false false)).put H1.next (.row (J0e y) 51 false false)):=JaU (i:=0) (off:=0) (L:=[zRow]) rfl J0h (by decide) (by rw[J0i];omega)
  have gA:((H1.push (.row (J0e zRow) 51 false false)).put H1.next (.row (J0e y) 51 false false)).get H1.next=.row (J0e y) 51 false false:=J0b rfl (by rw[J1D];omega)
  have oA:∀ i,i<H1.next→((H1.push (.row (J0e zRow) 51 false false)).put H1.next (.row (J0e y) 51 false false)).get i=H1.get i:=fun i hi=>by rw[J05 (by rw[J1D];omega) (by omega),J06 hi]
  have nA:((H1.push (.row (J0e zRow) 51 false false)).put H1.next (.row (J0e y) 51 false false)).next=H1.next+1:=rfl
  have fA:((H1.push (.row (J0e zRow) 51 false false)).put H1.next (.row (J0e y) 51 false false)).floor=H1.floor:=rfl
  have w2:IntKind.i64.wrap ((at_:Int)+1)=((at_+1:Nat):Int):=J0s (by omega) (by omega)
  simp only[evC,seval,↓evP,t4,t5,t12,c1,Nat.zero_add,J0y,J0F,lP,b0,J0u,lr,J40,hzx,J2t,J51,Jig,Bool.and_self,hst,w2]
  generalize (H1.push (.row (J0e zRow) 51 false false)).put H1.next (.row (J0e y) 51 false false)=A at *
  refine WK.loop (fun i s'=>s'.T.get 1=vd∧s'.T.get 2=ve∧s'.T.get 3=vS∧s'.T.get 4=iv row∧s'.T.get 5=.pointer (some ⟨h.next,0,none⟩)∧s'.T.get 11=.slice (some ⟨h.next+1,0,none⟩) (q-row) (q-row)∧s'.T.get 12=iv at_∧s'.T.get 13=.pointer (some ⟨H1.next,0,none⟩)∧i≤x.kids.toNat∧A.next≤s'.h.next∧s'.h.floor=A.floor∧(∀ i,i<A.next→s'.h.get i=A.get i)∧s'.T.get 14=iv (sumL ((ks.take i).map (valA s.rows (endN Z) rd S))) ∧
   ∃ p w,s'.T.get 16=iv ((p:Nat):Int)∧s'.T.get 15=w∧IntL s'.h A.next w ((ks.take i).map (valA s.rows (endN Z) rd S))∧J35 Z (x.kids.toNat-i) p (endN Z at_)∧ks.drop i=JpU (endN Z) (x.kids.toNat-i) p) x.kids.toNat hkN ?_ ?_
  ·exact⟨by simp only[evC,seval,↓evP,rpC,t1],by simp only[evC,seval,↓evP,rpC,t2],by simp only[evC,seval,↓evP,rpC,t3],by simp only[evC,seval,↓evP,rpC,t4],by simp only[evC,seval,↓evP,rpC,t5],by simp only[evC,seval,↓evP,rpC,t11],by simp only[evC,seval,↓evP,rpC,t12],by simp only[evC,seval,↓evP,rpC],by omega,Nat.le_refl _,rfl,fun _ _=>rfl,by simp only[evC,seval,↓evP,rpC];rfl,at_+1,.slice none 0 0,by simp only[evC,seval,↓evP,rpC],by simp only[evC,seval,↓evP,rpC],.inl ⟨rfl,rfl⟩,hch,by rw[List.drop_zero,Nat.sub_zero];exact hks.symm⟩
  rintro i ⟨T2,H2⟩ hi ⟨t1,t2,t3,t4,t5,t11,t12,t13,hil,k1,k2,k3,t14,p,w,t16,t15,hL,hcp,hdp⟩
  simp only at t1 t2 t3 t4 t5 t11 t12 t13 k1 k2 k3 t14 t16 t15 hL
  have oH2:∀ i,i<H1.next→H2.get i=H1.get i:=fun i hi=>(k3 i (by omega)).trans (oA i hi)
  have E2:J1S 0 H2 ve (J0o Z):=J1S.mono E1 (by omega) fun i _ hi=>oH2 i hi
  obtain⟨ia,pa,a1,a2,a3⟩:=J1S.get E2 hEa
  have vals:=fun m=>JqT (e:=endN Z) (R:=s.rows) hrd hS s.rows.length m
  by_cases hik:i<x.kids.toNat
  ·obtain⟨r,hr1⟩:∃ r,x.kids.toNat-i=r+1:=⟨x.kids.toNat-i-1,by omega⟩
   rw[hr1] at hcp hdp
   obtain⟨p',s1,s2,s3,s4⟩:=hcp
   have hle:=J2o _ _ _ s4
   have hep:=J5P s1
   have hkp:ks[i]?=some p:=by
    have:=congrArg (fun l:List Nat=>l[0]?) hdp
    simp only[List.getElem?_drop,Nat.add_zero] at this
    rw[this]
    rfl
   obtain⟨qk,n1,n2,n3⟩:=hmem p (List.mem_of_getElem? hkp)
   have c2:decide ((p:Int)<((endN Z at_:Nat):Int))=true:=by simp;omega
   have hEp:(J0o Z)[p]?=some ((p':Nat):Int):=by rw[J2B (by omega),hep]
   have w3:IntKind.i64.wrap ((p:Int)-(row:Int))=((p-row:Nat):Int):=by rw[J0s (by omega) (by omega)];omega
   have ip:=J1F (id:=h.next+1) (n:=q-row) (c:=q-row) (i:=p-row) (by omega)
   have hv:=hOF p (by omega) (by omega)
   have lp2:ld1 (p-row) (H2.get (h.next+1))=some (iv (valA s.rows (endN Z) rd S p)):=by rw[oH2 _ (by omega),gOF];exact J2z hv
   obtain⟨w',H3,happ,hL',f3,n3',o3⟩:=Jqv (x:=valA s.rows (endN Z) rd S p) hL k1 (by omega) (by rw[List.length_map,List.length_take];omega)
   have lp3:ld1 (p-row) (H3.get (h.next+1))=some (iv (valA s.rows (endN Z) rd S p)):=by rw[o3 _ (by omega)];exact lp2
   have hsl:=JqI ((ks.take i).map (valA s.rows (endN Z) rd S)) 0 (vals _) (by decide) (by decide)
   have hpl:=Jqe (n:=n) (h:=H3) (a:=sumL ((ks.take i).map (valA s.rows (endN Z) rd S))) hsl (vle p) hn
   have E3:J1S 0 H3 ve (J0o Z):=J1S.mono E1 (by omega) fun i _ hi=>by rw[o3 i (by omega),oH2 i hi]
   obtain⟨ib,pb,b1,b2,b3⟩:=J1S.get E3 hEp
   simp only[evC,seval,↓evP,t1,t2,t3,t4,t5,t11,t12,t13,t14,t15,t16,a1,J0m,a3,c2,w3,ip,lp2,bs28,happ,lp3,hpl,b1,b3]
   refine⟨hik,by omega,by omega,by omega,fun j hj=>(o3 j (by omega)).trans (k3 j hj),?_,p',w',rfl,rfl,?_,?_,?_⟩
   ·rw[List.take_add_one,hkp,List.map_append]
    unfold sumL
    rw[List.foldl_append]
    rfl
   ·rw[List.take_add_one,hkp,List.map_append]
    exact hL'
   ·rw[show x.kids.toNat-(i+1)=r by omega]
    exact s4
   ·rw[show x.kids.toNat-(i+1)=r by omega,← List.drop_drop,hdp,← hep]
    rfl
  ·obtain rfl:i=x.kids.toNat:=by omega
   rw[Nat.sub_self] at hcp
   obtain rfl:p=endN Z at_:=hcp
   have hti:ks.take x.kids.toNat=ks:=List.take_of_length_le (by omega)
   rw[hti] at t14 hL
   have c2:decide (((endN Z at_:Nat):Int)<((endN Z at_:Nat):Int))=false:=by simp
   have y0:ld1 0 (H2.get H1.next)=some (iv y.kind):=by rw[k3 _ (by omega),gA];rfl
   have y3:ld1 3 (H2.get H1.next)=some (iv y.n):=by rw[k3 _ (by omega),gA];rfl
   have gI:=IntL.ints hL (Nat.zero_le _)
   have D2:J1S 0 H2 vd rd:=J1S.mono D1 (by omega) fun i _ hi=>oH2 i hi
   have S2:J1S 0 H2 vS S:=J1S.mono S1 (by omega) fun i _ hi=>oH2 i hi
   have gOF2:H2.get (h.next+1)=.row (ints OF) 3 false false:=by rw[oH2 _ (by omega)];exact gOF
   have w4:IntKind.i64.wrap ((at_:Int)-(row:Int))=((at_-row:Nat):Int):=by rw[J0s (by omega) (by omega)];omega
   have w5:IntKind.i64.wrap ((at_:Int)-1)=(q:Int)-1-((j+1:Nat):Int):=by rw[J0s (by omega) (by omega)];omega
   have ip:=J1F (id:=h.next+1) (n:=q-row) (c:=q-row) (i:=at_-row) (by omega)
   have hst2:∀ v,J0K Tryz.prog H2 3 (.pointer (some ⟨h.next+1,at_-row,none⟩)) (iv v)=some (H2.put (h.next+1) (.row (ints (OF.set (at_-row) v)) 3 false false)):=fun v=>J59 gOF2 (by omega) (by omega)
   have pl:∀ (H:SHeap) (a:Int),0≤a∧a≤4611686018427387904→J0T n 50 [iv a,iv 1] H=some (iv (J2I a 1),H):=fun H a ha=>Jqe ha (by omega) hn
   have hsl:=JqI (ks.map (valA s.rows (endN Z) rd S)) 0 (vals _) (by decide) (by decide)
   have inj:∀ G:SHeap,(∀ i,i≠h.next+1→G.get i=H2.get i)→(∀ i,i<h.next+1→G.get i=P.get i):=fun G hG i hi=>by rw[hG i (by omega),oH2 i (by omega),m3 i hi]
   have fin:∀ (G:SHeap) (v:Int),v=valA s.rows (endN Z) rd S at_→G.get (h.next+1)=.row (ints (OF.set (at_-row) v)) 3 false false→∃ OF:List Int,OF.length=q-row∧G.get (h.next+1)=.row (ints OF) 3 false false∧∀ i,q-(j+1)≤i→i<q→OF[i-row]?=some (valA s.rows (endN Z) rd S i):=fun G v hv hG=>by
    refine⟨_,by rw[List.length_set];exact lF,hG,fun i h1 h2=>?_⟩
    rw[List.getElem?_set]
    by_cases hia:at_-row=i-row
    ·rw[if_pos hia,if_pos (by omega),hv,show i=at_ by omega]
    ·rw[if_neg hia]
     exact hOF i (by omega) h2
   have gput:∀ v,(H2.put (h.next+1) (.row (ints (OF.set (at_-row) v)) 3 false false)).get (h.next+1)=.row (ints (OF.set (at_-row) v)) 3 false false:=fun v=>J0b rfl (by omega)
   have oput:∀ v i,i≠h.next+1→(H2.put (h.next+1) (.row (ints (OF.set (at_-row) v)) 3 false false)).get i=H2.get i:=fun v i hi=>J05 (by omega) (Ne.symm hi)
   have yput:∀ v,ld1 0 ((H2.put (h.next+1) (.row (ints (OF.set (at_-row) v)) 3 false false)).get H1.next)=some (iv y.kind):=fun v=>by rw[oput v _ (by omega)];exact y0
   have done:∀ v,v=valA s.rows (endN Z) rd S at_→j<q-row∧(j+1≤q-row∧h.next+2≤H2.next∧H2.floor=h.floor∧(∀ i,i<h.next+1→(H2.put (h.next+1) (.row (ints (OF.set (at_-row) v)) 3 false false)).get i=P.get i)∧∃ OF':List Int,OF'.length=q-row∧(H2.put (h.next+1) (.row (ints (OF.set (at_-row) v)) 3 false false)).get (h.next+1)=.row (ints OF') 3 false false∧∀ i,q-(j+1)≤i→i<q→OF'[i-row]?=some (valA s.rows (endN Z) rd S i)):=fun v hv=>
    ⟨hlt,by omega,by omega,by omega,inj _ (oput v),fin _ v hv (gput v)⟩
   have vS':∀ {k:Nat},(0:Int)≤valA s.rows (endN Z) rd S k∧valA s.rows (endN Z) rd S k≤4611686018427387904:=fun {k}=>vle k
   cases d12:(y.kind==12) with
   | true=>
    have k12:y.kind=12:=by simpa using d12
    have d13:(y.kind==13)=false:=by rw[k12];rfl
    have d22:(y.kind==22)=false:=by rw[k12];rfl
    have d24:(y.kind==24)=false:=by rw[k12];rfl
    rw[k12] at hval
    rcases fit12 k12 with hc | hc
    ·obtain⟨A0,A1,hAe⟩:∃ a b,ks=[a,b]:=by
      have:ks.length=2:=by omega
      match ks,this with
      | [a,b],_=>exact⟨a,b,rfl⟩
     subst hAe
     obtain⟨i0,q0,a0,b0,g0⟩:=J1S.get gI (i:=0) rfl
     obtain⟨i1,q1,a1',b1,g1⟩:=J1S.get gI (i:=1) rfl
     have a0':J0R Tryz.prog 25 w (iv 0)=some (.pointer (some ⟨i0,q0,none⟩)):=a0
     have a1'':J0R Tryz.prog 25 w (iv 1)=some (.pointer (some ⟨i1,q1,none⟩)):=a1'
     have lw:∀ h',lenS Tryz.prog h' 25 w=some (iv 2):=fun h'=>JfF gI h'
     have pp:=Jqe (n:=n) (h:=H2) (vle A0) (vle A1) hn
     have pr2:=J3O (vle A0).1 (vle A1).1 (vle A1).2
     have pl1:=pl H2 _ pr2
     have hv:J2I (J2I (valA s.rows (endN Z) rd S A0) (valA s.rows (endN Z) rd S A1)) 1=valA s.rows (endN Z) rd S at_:=by rw[hval];exact(JrD (vle A1).1).symm
     simp only[evC,seval,↓evP,t1,t2,t3,t4,t5,t11,t12,t13,t15,t16,a1,J0m,a3,c2,J0t,y0,d12,a1'',g1,lw,a0',g0,pp,w4,pl1,ip,hst2,yput,d24,w5]
     exact done _ hv
    ·obtain⟨A0,A1,A2,hAe⟩:∃ a b c,ks=[a,b,c]:=by
      have:ks.length=3:=by omega
      match ks,this with
      | [a,b,c],_=>exact⟨a,b,c,rfl⟩
     subst hAe
     obtain⟨i0,q0,a0,b0,g0⟩:=J1S.get gI (i:=0) rfl
     obtain⟨i1,q1,a1',b1,g1⟩:=J1S.get gI (i:=1) rfl
     obtain⟨i2,q2,a2',b2,g2⟩:=J1S.get gI (i:=2) rfl
     have a0':J0R Tryz.prog 25 w (iv 0)=some (.pointer (some ⟨i0,q0,none⟩)):=a0
     have a1'':J0R Tryz.prog 25 w (iv 1)=some (.pointer (some ⟨i1,q1,none⟩)):=a1'
     have a2'':J0R Tryz.prog 25 w (iv 2)=some (.pointer (some ⟨i2,q2,none⟩)):=a2'
     have lw:∀ h',lenS Tryz.prog h' 25 w=some (iv 3):=fun h'=>JfF gI h'
     have hv0:J2I (J2I (valA s.rows (endN Z) rd S A0) (if valA s.rows (endN Z) rd S A2>valA s.rows (endN Z) rd S A1 then valA s.rows (endN Z) rd S A2 else valA s.rows (endN Z) rd S A1)) 1=valA s.rows (endN Z) rd S at_:=by rw[hval];exact JrB.symm
     cases dm:decide (valA s.rows (endN Z) rd S A2>valA s.rows (endN Z) rd S A1) with
     | true=>
      rw[if_pos (of_decide_eq_true dm)] at hv0
      have pp:=Jqe (n:=n) (h:=H2) (vle A0) (vle A2) hn
      have pr2:=J3O (vle A0).1 (vle A2).1 (vle A2).2
      have pl1:=pl H2 _ pr2
      simp only[evC,seval,↓evP,t1,t2,t3,t4,t5,t11,t12,t13,t15,t16,a1,J0m,a3,c2,J0t,y0,d12,a1'',g1,lw,a2'',g2,dm,a0',g0,pp,w4,pl1,ip,hst2,yput,d24,w5]
      exact done _ hv0
     | false=>
      rw[if_neg (of_decide_eq_false dm)] at hv0
      have pp:=Jqe (n:=n) (h:=H2) (vle A0) (vle A1) hn
      have pr2:=J3O (vle A0).1 (vle A1).1 (vle A1).2
      have pl1:=pl H2 _ pr2
      simp only[evC,seval,↓evP,t1,t2,t3,t4,t5,t11,t12,t13,t15,t16,a1,J0m,a3,c2,J0t,y0,d12,a1'',g1,lw,a2'',g2,dm,a0',g0,pp,w4,pl1,ip,hst2,yput,d24,w5]
      exact done _ hv0
   | false=>
   have k12:y.kind≠12:=by simpa using d12
   cases d13:(y.kind==13) with
   | true=>
    have k13:y.kind=13:=by simpa using d13
    have d24:(y.kind==24)=false:=by rw[k13];rfl
    rw[k13] at hval
    obtain⟨A0,A1,A2,hAe⟩:∃ a b c,ks=[a,b,c]:=by
     have:ks.length=3:=by have:=fit13 k13;omega
     match ks,this with
     | [a,b,c],_=>exact⟨a,b,c,rfl⟩
    subst hAe
    obtain⟨i1,q1,a1',b1,g1⟩:=J1S.get gI (i:=1) rfl
    obtain⟨i2,q2,a2',b2,g2⟩:=J1S.get gI (i:=2) rfl
    have a1'':J0R Tryz.prog 25 w (iv 1)=some (.pointer (some ⟨i1,q1,none⟩)):=a1'
    have a2'':J0R Tryz.prog 25 w (iv 2)=some (.pointer (some ⟨i2,q2,none⟩)):=a2'
    obtain⟨ro,hro⟩:∃ ro,rd[at_]?=some ro:=⟨_,List.getElem?_eq_getElem (by omega)⟩
    have u0:=Jqw hrd at_
    rw[hro] at u0 hval
    simp only[Option.getD_some] at u0 hval
    obtain⟨i3,q3,a3',b3,g3⟩:=J1S.get D2 hro
    have t1T:(i1<H2.next)=True:=by simp[b1]
    have t2T:(i2<H2.next)=True:=by simp[b2]
    have t3T:(i3<H2.next)=True:=by simp[b3]
    have u3:=J3O (vle A1).1 (vle A2).1 (vle A2).2
    have u4:=Jrw u0 u3
    have pp:=fun H=>Jqe (n:=n) (h:=H) (vle A1) (vle A2) hn
    have pb:=fun H=>JsW (n:=n) (h:=H) u0 u3 hn
    have pl1:=pl H2 _ u4
    have hff:H2.fl H2.floor=H2:=rfl
    have hv:J2I (byN ro (J2I (valA s.rows (endN Z) rd S A1) (valA s.rows (endN Z) rd S A2))) 1=valA s.rows (endN Z) rd S at_:=by rw[hval];exact JqQ.symm
    simp only[evC,seval,↓evP,t2,t12,t13,t16,a1,J0m,a3,c2,J0t,y0,d12,d13]
    refine WK.flags (ops:=Jsm) Js5 ?_
    refine WKF.begin ?_
    refine wst hsn 0 (some 95) (.move (.tmp 1)) none ?_
    simp only[rgC,seval,J04,J02,WKFC,hff,t1]
    refine wst hsn 1 (some 96) (.move (.tmp 12)) none ?_
    simp only[rgC,seval,J04,J02,WKFC,hff,t12]
    refine wst hsn 2 (some 97) (.indexAddr 25 (.tmp 95) (.tmp 96)) none ?_
    simp only[rgC,seval,J04,J02,WKFC,hff,a3']
    refine wst hsn 3 (some 98) (.load 3 (.tmp 97)) none ?_
    simp only[rgC,seval,J04,J02,WKFC,rgL,hff,g3,t3T,J0m]
    refine wst hsn 4 (some 99) (.move (.tmp 15)) none ?_
    simp only[rgC,seval,J04,J02,WKFC,hff,t15]
    refine wst hsn 5 (some 100) (.indexAddr 25 (.tmp 99) (.const (Value.int IntKind.i64 1))) none ?_
    simp only[rgC,seval,J04,J02,WKFC,hff,a1'']
    refine wst hsn 6 (some 101) (.load 3 (.tmp 100)) none ?_
    simp only[rgC,seval,J04,J02,WKFC,rgL,hff,g1,t1T,J0m]
    refine wst hsn 7 (some 102) (.move (.tmp 15)) none ?_
    simp only[rgC,seval,J04,J02,WKFC,hff,t15]
    refine wst hsn 8 (some 103) (.indexAddr 25 (.tmp 102) (.const (Value.int IntKind.i64 2))) none ?_
    simp only[rgC,seval,J04,J02,WKFC,hff,a2'']
    refine wst hsn 9 (some 104) (.load 3 (.tmp 103)) none ?_
    simp only[rgC,seval,J04,J02,WKFC,rgL,hff,g2,t2T,J0m]
    refine wst hsn 10 (some 105) (.call { callee:=.value (.func 50),args:=#[.tmp 101,.tmp 104],argTypes:=#[3,3] }) none ?_
    simp only[rgC,seval,J04,J02,WKFC,rgK,hff,pp,Jk2]
    refine wst hsn 11 (some 106) (.call { callee:=.value (.func 51),args:=#[.tmp 98,.tmp 105],argTypes:=#[3,3] }) none ?_
    simp only[rgC,seval,J04,J02,WKFC,rgK,hff,pb]
    refine wst hsn 12 (some 14) (.assign (.tmp 106)) none ?_
    simp only[rgC,seval,J04,J02,WKFC,hff]
    refine WKF.done (i:=13) (by kernel_rfl) ?_
    simp only[evC,seval,↓evP,t1,t2,t3,t4,t5,t11,t12,t13,J0t,J0m,w4,pl1,ip,hst2,yput,d24,w5]
    exact done _ hv
   | false=>
   have k13:y.kind≠13:=by simpa using d13
   cases d22:(y.kind==22) with
   | true=>
    have k22:y.kind=22:=by simpa using d22
    have d24:(y.kind==24)=false:=by rw[k22];rfl
    obtain⟨c0,c1'⟩:=hcall at_ y (by omega) (by omega) hy k22
    obtain⟨k,hk⟩:∃ k:Nat,y.n=(k:Int):=⟨y.n.toNat,by omega⟩
    rw[hk] at y3 c1'
    obtain⟨v,hq⟩:∃ v,S[k]?=some v:=⟨_,List.getElem?_eq_getElem (by omega)⟩
    obtain⟨i3,q3,a3',b3,g3⟩:=J1S.get S2 hq
    have u1:=hS v (List.mem_of_getElem? hq)
    have pl1:=pl H2 _ u1
    have hsq:J5y S y.n=v:=by unfold J5y;rw[hk,Int.toNat_natCast,hq];rfl
    have hv:J2I v 1=valA s.rows (endN Z) rd S at_:=by rw[hval,hsq,k22];exact JqR.symm
    simp only[evC,seval,↓evP,t1,t2,t3,t4,t5,t11,t12,t13,t16,a1,J0m,a3,c2,J0t,J0O,y0,y3,d12,d13,d22,a3',g3,w4,pl1,ip,hst2,yput,d24,w5]
    exact done _ hv
   | false=>
   have k22:y.kind≠22:=by simpa using d22
   have pl1:=pl H2 _ hsl
   have pl1':J0T n 50 [iv (sumL (ks.map (valA s.rows (endN Z) rd S))),iv 1] H2=some (iv (J2I (sumL (ks.map (valA s.rows (endN Z) rd S))) 1),H2):=pl1
   cases d24:(y.kind==24) with
   | false=>
    have k24:y.kind≠24:=by simpa using d24
    have hv:J2I (sumL (ks.map (valA s.rows (endN Z) rd S))) 1=valA s.rows (endN Z) rd S at_:=by rw[hval];exact(JqO k24 k12 k13 k22).symm
    simp only[evC,seval,↓evP,t1,t2,t3,t4,t5,t11,t12,t13,t14,t16,a1,J0m,a3,c2,J0t,y0,d12,d13,d22,w4,pl1',ip,hst2,yput,d24,w5]
    exact done _ hv
   | true=>
    have k24:y.kind=24:=by simpa using d24
    have hv:0=valA s.rows (endN Z) rd S at_:=by rw[hval,k24];rfl
    have hst3:∀ v,J0K Tryz.prog (H2.put (h.next+1) (.row (ints (OF.set (at_-row) v)) 3 false false)) 3 (.pointer (some ⟨h.next+1,at_-row,none⟩)) (iv 0)=some ((H2.put (h.next+1) (.row (ints (OF.set (at_-row) v)) 3 false false)).put (h.next+1) (.row (ints ((OF.set (at_-row) v).set (at_-row) 0)) 3 false false)):=fun v=>J59 (gput v) (by rw[List.length_set];omega) (by show H2.floor≤_;omega)
    simp only[evC,seval,↓evP,t1,t2,t3,t4,t5,t11,t12,t13,t14,t16,a1,J0m,a3,c2,J0t,y0,d12,d13,d22,w4,pl1',ip,hst2,hst3,yput,d24,w5]
    refine⟨hlt,by omega,by show h.next+2≤H2.next;omega,by show H2.floor=_;omega,inj _ fun i hi=>?_,fin _ 0 hv ?_⟩
    ·rw[J05 (by show h.next+1<H2.next;omega) (Ne.symm hi)]
     exact oput _ i hi
    ·rw[List.set_set]
     exact J0b rfl (by show h.next+1<H2.next;omega)
 ·have c1:decide ((q:Int)-1-(j:Int)≥(row:Int))=false:=by simp;omega
  obtain rfl:j=q-row:=by omega
  have h0:=hOF row (by omega) (by omega)
  rw[Nat.sub_self] at h0
  have i0:=J1F (id:=h.next+1) (n:=q-row) (c:=q-row) (i:=0) (by omega)
  have i0':J0R Tryz.prog 25 (.slice (some ⟨h.next+1,0,none⟩) (q-row) (q-row)) (iv 0)=some (.pointer (some ⟨h.next+1,0,none⟩)):=i0
  have l0:ld1 0 (H1.get (h.next+1))=some (iv (valA s.rows (endN Z) rd S row)):=by rw[gOF];exact J2z h0
  simp only[evC,seval,↓evP,t4,t11,t12,c1,i0',J0m,l0]
  exact fun i hi=>(m3 i (by omega)).trans (gO i hi)
theorem Jr8 {Z:List RowN} {rd S:List Int} {ve vd vS pv:Value} {nm:ByteArray} {s:StN} {lo row q:Nat} {h:SHeap} (hp:J3x lo h pv nm s) (he:J1S 0 h ve (J0o Z)) (hd:J1S 0 h vd rd) (hs:J1S 0 h vS S)
  (ht:J2c Z) (hsk:Jkk s.rows Z) (hkk:Jqj s.rows Z) (hrd:Jq9 rd) (hrl:rd.length=s.rows.length) (hS:Sums S) (hsub:SubT Z row q) (hcall:Jqx s.rows S row q) (hlen:s.rows.length<100000000) (hn:s.rows.length+40<n) (hfl:h.floor≤h.next) :
  J0T n 25 [pv,vd,ve,vS,iv row] h=some (iv (valA s.rows (endN Z) rd S row),h):=by
 obtain⟨n,rfl⟩:∃ j,n=j+1:=⟨n-1,by omega⟩
 obtain⟨vr,vq,vv,vt,vu,vo,rfl,_⟩:=id hp
 exact J4r (J13 ⟨rfl,rfl,rfl⟩) rfl (JqX (n:=n) (N:=n) hp he hd hs ht hsk hkk hrd hrl hS hsub hcall hlen (by omega) (by omega) hfl)
end
def JkW (s:StN) (k n:Int) (nm:ByteArray):Prop:=
 0≤n∧((k=1∧∃ b,s.queues[n.toNat]?=some (nm,b))∨(k=2∧s.vars[n.toNat]?=some nm)∨(k=3∧s.tags[n.toNat]?=some nm)∨(k=4∧∃ ru:Nat,s.rules[n.toNat]?=some ((ru:Int)+1)∧∃ y:RowN,s.rows[ru]?=some y∧y.name=nm))
structure UpS (s s':StN):Prop where
 q:∀ (i:Nat) x,s.queues[i]?=some x→s'.queues[i]?=some x
 v:∀ (i:Nat) x,s.vars[i]?=some x→s'.vars[i]?=some x
 t:∀ (i:Nat) x,s.tags[i]?=some x→s'.tags[i]?=some x
 u:∀ (i:Nat) x,s.rules[i]?=some x→s'.rules[i]?=some x
 r:∀ (i:Nat) (y:RowN),s.rows[i]?=some y→∃ y':RowN,s'.rows[i]?=some y'∧y'.name=y.name
theorem JkW.up {s s':StN} {k n:Int} {nm:ByteArray} (h:JkW s k n nm) (hu:UpS s s'):JkW s' k n nm:=by
 refine⟨h.1,?_⟩
 rcases h.2 with⟨h1,b,h2⟩ | ⟨h1,h2⟩ | ⟨h1,h2⟩ | ⟨h1,ru,h2,y,h3,h4⟩
 ·exact .inl ⟨h1,b,hu.q _ _ h2⟩
 ·exact .inr (.inl ⟨h1,hu.v _ _ h2⟩)
 ·exact .inr (.inr (.inl ⟨h1,hu.t _ _ h2⟩))
 ·obtain⟨y',h5,h6⟩:=hu.r _ _ h3
  exact .inr (.inr (.inr ⟨h1,ru,hu.u _ _ h2,y',h5,h6.trans h4⟩))
theorem Jl9 {α:Type} {l:List α} {i:Nat} {x y:α} (h:l[i]?=some x):(l++[y])[i]?=some x:=by rw[List.getElem?_append_left (List.getElem?_eq_some_iff.1 h).1];exact h
theorem Jlf {l:List RowN} {k i:Nat} {n:Int} {y:RowN} (h:l[i]?=some y):∃ y':RowN,(setN l k n)[i]?=some y'∧y'.name=y.name:=by
 by_cases hi:i=k
 ·subst hi
  exact⟨_,J4g h,rfl⟩
 ·exact⟨y,(J4M hi).trans h,rfl⟩
theorem JkX {k:Int} (h:J1O k≠0):J0j k=0:=by
 unfold J0j
 unfold J1O at h
 split
 ·rename_i h1
  simp only[List.contains_cons,List.contains_nil,Bool.or_false,Bool.or_eq_true,beq_iff_eq] at h1
  rcases h1 with rfl | rfl <;> exact absurd rfl h
 split
 ·subst k;exact absurd rfl h
 split
 ·subst k;exact absurd rfl h
 split
 ·subst k;exact absurd rfl h
 rfl
def Jkw (k:Int):Int:=J1O k+J0j k
theorem Jll {k:Int} (h:Jkw k=0):J1O k=0∧J0j k=0:=by
 have:=Jcr k
 have:=J3c k
 unfold Jkw at h
 omega
structure ToldM (l:List RowN) (at_:Nat) (s:StN):Prop where
 rows:∀ (i:Nat) (x:RowN),i<at_→s.rows[i]?=some x→(Jkw x.kind=0→l[i]?=some x)∧(Jkw x.kind≠0→JkW s (Jkw x.kind) x.n x.name)
 things:∀ t∈s.things,JkW s t.kind t.num t.name
theorem ToldM.up {l:List RowN} {at_:Nat} {s s':StN} (h:ToldM l at_ s) (hu:UpS s s') (hr:∀ i,i<at_→s'.rows[i]?=s.rows[i]?) (ht:∀ t∈s'.things,t∈s.things∨JkW s' t.kind t.num t.name):ToldM l at_ s' where
 rows:=fun i x hi hx=>by
  rw[hr i hi] at hx
  obtain⟨h1,h2⟩:=h.rows i x hi hx
  exact⟨h1,fun h3=>(h2 h3).up hu⟩
 things:=fun t h1=>by
  rcases ht t h1 with h2 | h2
  ·exact(h.things t h2).up hu
  ·exact h2
theorem JmD {at_:Nat} {end_:Int} {x:RowN} {s:StN}:UpS s (addN at_ end_ x s) where
 q:=fun i y h=>by simp only[addN];split;(first | exact Jl9 h | exact h);exact h
 v:=fun i y h=>by simp only[addN];split;(first | exact Jl9 h | exact h);exact h
 t:=fun i y h=>by simp only[addN];split;(first | exact Jl9 h | exact h);exact h
 u:=fun i y h=>by simp only[addN];split;(first | exact Jl9 h | exact h);exact h
 r:=fun i y h=>Jlf h
theorem JmA (s:StN):UpS s s:=⟨fun _ _ h=>h,fun _ _ h=>h,fun _ _ h=>h,fun _ _ h=>h,fun _ y h=>⟨y,h,rfl⟩⟩
theorem JkM {α:Type} (l:List α) (y:α):(l++[y])[l.length]?=some y:=by simp
theorem Jmq {at_:Nat} {end_:Int} {x:RowN} {s:StN} (hx:s.rows[at_]?=some x) (hd:J0j x.kind≠0):JkW (addN at_ end_ x s) (J0j x.kind) (cntN s (J0j x.kind)) x.name:=by
 have hk:=J3c x.kind
 refine⟨by omega,?_⟩
 rw[Int.toNat_natCast]
 have hc:J0j x.kind=1∨J0j x.kind=2∨J0j x.kind=3∨J0j x.kind=4:=by omega
 rcases hc with e | e | e | e
 ·refine .inl ⟨e,x.kind==3,?_⟩
  simp only[addN,cntN,e]
  exact JkM _ _
 ·refine .inr (.inl ⟨e,?_⟩)
  simp only[addN,cntN,e]
  exact JkM _ _
 ·refine .inr (.inr (.inl ⟨e,?_⟩))
  simp only[addN,cntN,e]
  exact JkM _ _
 ·refine .inr (.inr (.inr ⟨e,at_,?_,_,J4g hx,rfl⟩))
  simp only[addN,cntN,e]
  exact JkM _ _
theorem JlM {l:List RowN} {at_:Nat} {end_:Int} {x:RowN} {s:StN} (h:ToldM l at_ s) (hx:s.rows[at_]?=some x) :
  ToldM l at_ (J0W at_ end_ x s)∧∃ n,(J0W at_ end_ x s).rows[at_]?=some { x with n:=n }∧(J0j x.kind=0→n=x.n)∧(J0j x.kind≠0→JkW (J0W at_ end_ x s) (J0j x.kind) n x.name):=by
 unfold J0W
 by_cases d0:J0j x.kind=0
 ·rw[if_pos d0]
  exact⟨h,x.n,hx,fun _=>rfl,fun h1=>absurd d0 h1⟩
 ·rw[if_neg d0]
  have hs:=Jmq (end_:=end_) hx d0
  refine⟨h.up JmD (fun i hi=>J4M (by omega)) fun t ht=>?_,_,J4g hx,fun h1=>absurd h1 d0,fun _=>hs⟩
  simp only[addN,List.mem_append,List.mem_cons,List.not_mem_nil,or_false] at ht
  rcases ht with h1 | rfl
  ·exact .inl h1
  ·exact .inr hs
theorem Jm1 {l:List RowN} {at_:Nat} {x:RowN} {s:StN} (h:ToldM l at_ s) (hx:s.rows[at_]?=some x) (hc:J1v at_ x s=0) :
  ToldM l at_ (J0D at_ x s)∧UpS s (J0D at_ x s)∧∃ n,(J0D at_ x s).rows[at_]?=some { x with n:=n }∧(J1O x.kind=0→n=x.n)∧(J1O x.kind≠0→JkW (J0D at_ x s) (J1O x.kind) n x.name):=by
 unfold J0D
 unfold J1v at hc
 by_cases d0:J1O x.kind=0
 ·rw[if_pos d0]
  exact⟨h,JmA s,x.n,hx,fun _=>rfl,fun h1=>absurd d0 h1⟩
 ·rw [if_neg d0] at hc ⊢
  cases hf:J30 s.things x.name with
  | none=>simp only[hf] at hc;cases hc
  | some t=>
   simp only[hf] at hc ⊢
   have hk:t.kind=J1O x.kind:=by
    split at hc
    ·cases hc
    ·split at hc
     ·cases hc
     ·rename_i h;simpa using h
   have hnm:t.name=x.name:=by
    have:=List.find?_some hf
    exact(J3o this).symm
   have hu:UpS s { s with rows:=setN s.rows at_ t.num }:=⟨fun _ _ h=>h,fun _ _ h=>h,fun _ _ h=>h,fun _ _ h=>h,fun _ y h=>Jlf h⟩
   have hs:=(h.things t (J8w hf)).up hu
   rw[hk,hnm] at hs
   exact⟨h.up hu (fun i hi=>J4M (by omega)) fun t ht=>.inl ht,hu,_,J4g hx,fun h1=>absurd h1 d0,fun _=>hs⟩
theorem JlW {l:List RowN} {E:List Int} {at_:Nat} {s:StN} (hat:at_<l.length) (hi:InvR l at_ s) (h:ToldM l at_ s) (h0:(J31 E at_ s).1=0):ToldM l (at_+1) (J31 E at_ s).2:=by
 obtain⟨x,hx⟩:∃ x,s.rows[at_]?=some x:=⟨_,List.getElem?_eq_getElem (by rw[hi.len];exact hat)⟩
 have hxl:l[at_]?=some x:=by rw[← hi.later at_ (Nat.le_refl _)];exact hx
 unfold J31 at h0 ⊢
 rw[hx] at h0 ⊢
 simp only at h0 ⊢
 by_cases hd:J25 x s=0
 case neg=>rw[if_pos hd] at h0;exact absurd h0 hd
 rw[if_neg (by simpa using hd)] at h0 ⊢
 obtain⟨t1,k1,r1,a1,b1⟩:=JlM (end_:=(E[at_]?).getD 0) h hx
 generalize J0W at_ ((E[at_]?).getD 0) x s=s1 at *
 rw[r1] at h0 ⊢
 simp only at h0 ⊢
 by_cases hc:J1v at_ { x with n:=k1 } s1=0
 case neg=>rw[if_pos hc] at h0;exact absurd h0 hc
 rw[if_neg (by simpa using hc)] at h0 ⊢
 obtain⟨t2,u2,k2,r2,a2,b2⟩:=Jm1 t1 r1 hc
 simp only at r2 a2 b2
 generalize J0D at_ { x with n:=k1 } s1=s2 at *
 rw[r2] at h0 ⊢
 simp only at h0 ⊢
 by_cases hv:evE { x with n:=k2 } s2=0
 case neg=>rw[if_pos hv] at h0;exact absurd h0 hv
 rw[if_neg (by simpa using hv)] at h0 ⊢
 have hev:(evS at_ { x with n:=k2 } s2).queues=s2.queues∧(evS at_ { x with n:=k2 } s2).vars=s2.vars∧(evS at_ { x with n:=k2 } s2).tags=s2.tags∧(evS at_ { x with n:=k2 } s2).rules=s2.rules∧(evS at_ { x with n:=k2 } s2).rows=s2.rows∧(evS at_ { x with n:=k2 } s2).things=s2.things:=by
  unfold evS
  split
  ·exact⟨rfl,rfl,rfl,rfl,rfl,rfl⟩
  ·split <;> exact⟨rfl,rfl,rfl,rfl,rfl,rfl⟩
 obtain⟨e1,e2,e3,e4,e5,e6⟩:=hev
 generalize evS at_ { x with n:=k2 } s2=s3 at *
 have hu3:UpS s2 s3:=⟨fun i y h=>by rw[e1];exact h,fun i y h=>by rw[e2];exact h,fun i y h=>by rw[e3];exact h,fun i y h=>by rw[e4];exact h,fun i y h=>⟨y,by rw[e5];exact h,rfl⟩⟩
 have t3:ToldM l at_ s3:=t2.up hu3 (fun i _=>by rw[e5]) fun t ht=>.inl (by rw[← e6];exact ht)
 refine⟨fun i y hi' hy=>?_,t3.things⟩
 by_cases hia:i=at_
 ·subst hia
  rw[e5,r2] at hy
  cases hy
  simp only
  refine⟨fun h1=>?_,fun h1=>?_⟩
  ·obtain⟨h2,h3⟩:=Jll h1
   rw[a2 h2,a1 h3]
   exact hxl
  ·by_cases c0:J1O x.kind=0
   ·have d0:J0j x.kind≠0:=fun h2=>h1 (by unfold Jkw;omega)
    rw[show Jkw x.kind=J0j x.kind by unfold Jkw;omega,a2 c0]
    exact((b1 d0).up u2).up hu3
   ·rw[show Jkw x.kind=J1O x.kind by unfold Jkw;rw[JkX c0];omega]
    exact(b2 c0).up hu3
 ·exact t3.rows i y (by omega) hy
theorem JlI {l:List RowN} {E:List Int} (ht:J2c l) (hE:∀ i:Nat,0≤(E[i]?).getD 0):∀ r at_ s,at_+r=l.length→InvR l at_ s→ToldM l at_ s→(goN E r at_ s).1=0→ToldM l l.length (goN E r at_ s).2.2
 | 0,at_,s,hr,hi,h,_=>by
  have:at_=l.length:=by omega
  subst this
  exact h
 | r+1,at_,s,hr,hi,h,h0=>by
  unfold goN at h0 ⊢
  by_cases h9:(J31 E at_ s).1=0
  ·rw[if_neg (by simpa using h9)] at h0 ⊢
   exact JlI ht hE r (at_+1) _ (by omega) (J6b ht (hE at_) (by omega) hi h9) (JlW (by omega) hi h h9) h0
  ·rw[if_pos h9] at h0
   exact absurd h0 h9
theorem Jmh {l:List RowN} (h:(resN l).1.1=0):ToldM l l.length (resN l).2:=by
 obtain⟨ht,_,hg,_,he,_⟩:=JhO h
 rw[he]
 exact JlI ht J3T l.length 0 (s0N l) (by omega) (inv0 l) ⟨fun i x hi=>by omega,fun t ht=>by simp[s0N] at ht⟩ hg
structure CostN where
 on:List Int
 miss:Int
def zC:CostN:=⟨[],0⟩
def JpZ (R:List RowN) (e:Nat→Nat) (rd:List Int):List Int→List Int→List Int
 | [],S=>S
 | ru :: rest,S=>JpZ R e rd rest (S++[valA R e rd S ru.toNat])
def goC (R:List RowN) (V:Nat→Int):Nat→Nat→CostN→(Int × Int) × CostN
 | 0,_,c=>((0,0),c)
 | r+1,at_,c=>match R[at_]? with
  | none=>((0,0),c)
  | some x=>if J0E x.kind=false then goC R V r (at_+1) c
   else if V (at_+1)>72057594037927936 then ((61,(at_:Int)),zC)
   else goC R V r (at_+1) (if x.kind=10 then ⟨c.on,V (at_+1)⟩ else ⟨c.on.set x.n.toNat (V (at_+1)),c.miss⟩)
open Classical in
noncomputable def JpV (nm:ByteArray) (s:StN) (rd:List Int):(Int × Int) × CostN:=
 if JkA nm s≠0 then ((JkA nm s,0),zC)
 else if ¬ (rd.length=s.rows.length∧Jq9 rd) then ((43,0),zC)
 else goC s.rows (valA s.rows (endN (Jk8 s.rows)) rd (JpZ s.rows (endN (Jk8 s.rows)) rd s.rules [])) s.rows.length 0 ⟨List.replicate s.queues.length 0,0⟩
structure GoodP (Z:List RowN) (s:StN):Prop where
 t:J2c Z
 sk:Jkk s.rows Z
 kk:Jqj s.rows Z
 on:s.on.length=s.queues.length
 nq:s.queues.length≤16
 nr:s.rules.length≤64
 kindsG:∀ (i:Nat) (x:RowN),s.rows[i]?=some x→1≤x.kind∧x.kind≤54
 rules:∀ (i:Nat) (ru:Int),s.rules[i]?=some ru→0≤ru∧ru.toNat<Z.length∧∀ S:List Int,S.length=i→Jqx s.rows S ru.toNat (endN Z ru.toNat)
 evs:∀ (i:Nat) (x:RowN),s.rows[i]?=some x→J0E x.kind=true→i+1<Z.length∧(x.kind≠10→0≤x.n∧x.n<s.on.length)
 calls:∀ (S:List Int) (p q:Nat),S.length=s.rules.length→Jqx s.rows S p q
theorem JqC (x:RowN):(Jli x).kind=x.kind∧(Jli x).kids=x.kids:=by unfold Jli;split <;> exact⟨rfl,rfl⟩
theorem JqP {l:List RowN} {i:Nat} {z:RowN} (h:(Jk8 l)[i]?=some z):∃ x,l[i]?=some x∧z=Jli x:=by
 unfold Jk8 at h
 rw[List.getElem?_map] at h
 cases hx:l[i]? with
 | none=>rw[hx] at h;cases h
 | some x=>rw[hx] at h;cases h;exact⟨x,rfl,rfl⟩
theorem JrJ {nm:ByteArray} {s:StN} (h:JkA nm s=0) (hlen:s.rows.length<100000000):GoodP (Jk8 s.rows) s:=by
 have hm:JmE nm s:=by
  unfold JkA at h
  split at h
  ·assumption
  ·cases h
 obtain⟨hok,hsame⟩:=hm
 rw[JeO hok] at hsame
 obtain⟨_,e1,e2,e3,e4,e5,e6,e7⟩:=hsame
 simp only at e1 e2 e3 e4 e5 e6 e7
 obtain⟨ht,_,hgo,_,hres,hi⟩:=JhO hok
 have hzl:(Jk8 s.rows).length=s.rows.length:=by unfold Jk8;rw[List.length_map]
 have hL:InvL (Jk8 s.rows) (Jk8 s.rows).length (resN (Jk8 s.rows)).2:=by
  rw[hres]
  exact JdQ ht (Jk8 s.rows).length 0 (s0N (Jk8 s.rows)) (by omega) (inv0 _) (JjD _) hgo
 have hR:=JgY ht (by omega) hi hL
 have hT:=Jmh hok
 have hw:=hi.wf
 have hq:=hw.q;have hu:=hw.u;have ho:=hw.o
 have hkinds:=J68 ht hi
 have hevs:=Jfw ht hi
 generalize (resN (Jk8 s.rows)).2=s' at *
 have hc0:∀ (i:Nat) (x:RowN),s.rows[i]?=some x→x.kind=22→0≤x.n∧x.n<s.rules.length:=fun i x hx h22=>by
  rw[e2] at hx
  rw[e6]
  exact hi.calls i x (by rw[← hi.len];exact(List.getElem?_eq_some_iff.1 hx).1) hx h22
 refine⟨ht,⟨hzl.symm,fun i z hz=>?_⟩,fun i z hz=>?_,by rw[e7,e3];exact ho,by rw[e3];omega,by rw[e6];omega,fun i x hx=>?_,fun i ru hru=>?_,fun i x hx hev=>?_,fun S p q hS i x _ _ hx h22=>by rw[hS];exact hc0 i x hx h22⟩
 ·obtain⟨x,hx,rfl⟩:=JqP hz
  exact⟨x,hx,(JqC x).2.symm⟩
 ·obtain⟨x,hx,rfl⟩:=JqP hz
  exact⟨x,hx,(JqC x).1.symm⟩
 ·rw[e2] at hx
  exact hkinds x (List.mem_of_getElem? hx)
 ·rw[e6] at hru
  have hb:=hi.rl ru (List.mem_of_getElem? hru)
  refine⟨hb.1,by omega,fun S hS j x h1 h2 hx h22=>⟨(hc0 j x hx h22).1,?_⟩⟩
  rw[hS]
  refine hR.ahead i ru hru x ?_ h22
  unfold blk
  rw[J2B (by omega)]
  simp only[Option.getD_some,Int.toNat_natCast]
  rw[e2] at hx
  have:((s'.rows.drop ru.toNat).take (endN (Jk8 s.rows) ru.toNat-ru.toNat))[j-ru.toNat]?=some x:=by
   rw[List.getElem?_take_of_lt (by omega),List.getElem?_drop,show ru.toNat+(j-ru.toNat)=j by omega]
   exact hx
  exact List.mem_of_getElem? this
 ·rw[e2] at hx
  have h1:=hevs i x hx hev
  refine⟨by rw[← hi.len];exact h1,fun h10=>?_⟩
  have hk:J1O x.kind=1∧J0j x.kind=0:=J6v hev h10
  have hs:Jkw x.kind=1:=by unfold Jkw;omega
  have:=(hT.rows i x (by rw[← hi.len];omega) hx).2 (by rw[hs];decide)
  rw[hs] at this
  obtain⟨h0,h2⟩:=this
  rcases h2 with⟨_,b,h2⟩ | ⟨h3,_⟩ | ⟨h3,_⟩ | ⟨h3,_⟩
  ·have:=(List.getElem?_eq_some_iff.1 h2).1
   rw[e7]
   omega
  ·omega
  ·omega
  ·omega
theorem Jqa {R:List RowN} {e:Nat→Nat} {rd:List Int}:∀ (l S:List Int),(JpZ R e rd l S).length=S.length+l.length
 | [],S=>rfl
 | ru :: l,S=>by
  show (JpZ R e rd l (S++[_])).length=_
  rw[Jqa l,List.length_append,List.length_cons]
  simp only[List.length_cons,List.length_nil]
  omega
theorem Jqi {R:List RowN} {e:Nat→Nat} {rd:List Int} (hr:Jq9 rd):∀ (l S:List Int),Sums S→Sums (JpZ R e rd l S)
 | [],S,hs=>hs
 | ru :: l,S,hs=>Jqi hr l _ fun x hx=>by
  simp only[List.mem_append,List.mem_cons,List.not_mem_nil,or_false] at hx
  rcases hx with hx | rfl
  ·exact hs x hx
  ·exact JqJ hr hs _
theorem Jql {R:List RowN} {e:Nat→Nat} {rd:List Int}:∀ (i:Nat) (l S:List Int) {ru:Int},l[i]?=some ru→JpZ R e rd (l.take (i+1)) S=JpZ R e rd (l.take i) S++[valA R e rd (JpZ R e rd (l.take i) S) ru.toNat]
 | _,[],S,ru,h=>by simp at h
 | 0,r0 :: l,S,ru,h=>by cases h;rfl
 | i+1,r0 :: l,S,ru,h=>Jql i l _ h
theorem JqW {R:List RowN} {V:Nat→Int}:∀ (r at_:Nat) (c:CostN),(goC R V r at_ c).2.on.length=c.on.length∨(goC R V r at_ c).2.on=[]
 | 0,_,c=>.inl rfl
 | r + 1,at_,c=>by
  unfold goC
  split
  ·exact .inl rfl
  ·rename_i x hx
   split
   ·exact JqW r (at_+1) c
   ·split
    ·exact .inr rfl
    ·have:=JqW (R:=R) (V:=V) r (at_+1) (if x.kind=10 then ⟨c.on,V (at_+1)⟩ else ⟨c.on.set x.n.toNat (V (at_+1)),c.miss⟩)
     have e:(if x.kind=10 then (⟨c.on,V (at_+1)⟩:CostN) else ⟨c.on.set x.n.toNat (V (at_+1)),c.miss⟩).on.length=c.on.length:=by split <;> simp
     rw[e] at this
     exact this
end Go.Proofs.YtipekdhneagdbaaGreatDoor
