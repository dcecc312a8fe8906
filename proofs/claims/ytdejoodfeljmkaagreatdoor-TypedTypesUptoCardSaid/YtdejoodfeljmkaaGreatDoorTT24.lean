/- Part 24 of what the claim leans on: 5 texts laid one behind another. -/
import Derived.Test.YtdejoodfeljmkaaGreatDoorTT23
namespace Go.Proofs.YtdejoodfeljmkaaGreatDoor
open Go Go.Sx
set_option maxRecDepth 100000
set_option linter.unusedSimpArgs false
set_option linter.unusedVariables false
structure MkH (h H:SHeap) (M:MkT):Prop where
 a:H.get h.next=.row (ints M.A) 3 false false
 c:H.get (h.next+1)=.row (Jsd M.C) 4 false false
 n:h.next+2≤H.next
 fl:H.floor=h.floor
 o:∀ i,i<h.next→H.get i=h.get i
theorem MkH.mono {h H H':SHeap} {M:MkT} (hT:MkH h H M) (hn:H.next≤H'.next) (hf:H'.floor=H.floor) (hg:∀ i,i<h.next+2→H'.get i=H.get i):MkH h H' M:=
 ⟨by rw[hg _ (by omega)];exact hT.a,by rw[hg _ (by omega)];exact hT.c,by have:=hT.n;omega,hf.trans hT.fl,fun i hi=>by rw[hg i (by omega)];exact hT.o i hi⟩
noncomputable def Jtb:Array Oper:=J18 Tryz.f35 10
def Ju3:List (Bool × Bool × List Operand):=[(true,true,[]),(true,true,[]),(true,true,[]),(true,true,[]),(true,true,[]),(false,true,[.tmp 34]),(false,true,[.tmp 34]),(false,true,[.tmp 34]),(false,true,[.tmp 34]),(false,true,[.tmp 34]),(false,true,[.tmp 34,.tmp 39]),(false,true,[.tmp 34]),(false,false,[]),(false,false,[])]
theorem Jtl:J1E Jtb=Ju3:=by kernel_rfl
noncomputable def Jsp:Array Oper:=J18 Tryz.f35 12
def Ju4:List (Bool × Bool × List Operand):=[(false,true,[]),(false,true,[]),(false,true,[]),(false,true,[]),(false,true,[]),(false,true,[.tmp 52]),(false,true,[.tmp 52]),(false,true,[.tmp 52]),(false,true,[.tmp 52]),(false,true,[.tmp 52]),(false,true,[.tmp 52]),(false,true,[.tmp 52]),(false,true,[.tmp 52]),(false,true,[.tmp 52]),(false,true,[.tmp 52]),(false,true,[.tmp 52]),(false,true,[.tmp 52]),(false,true,[.tmp 52]),(false,true,[.tmp 52]),(false,true,[.tmp 52]),(false,true,[.tmp 52]),(false,true,[.tmp 52]),(false,true,[.tmp 52]),(false,true,[.tmp 52]),(false,true,[.tmp 52]),(false,true,[.tmp 52]),(false,true,[.tmp 52]),(false,true,[.tmp 52]),(false,true,[.tmp 52]),(false,false,[]),(false,false,[])]
theorem Jtp:J1E Jsp=Ju4:=by kernel_rfl
theorem JsN:(Jsp[9]?).bind (·.dst)=some 58∧(Jsp[13]?).bind (·.dst)=some 62∧(Jsp[17]?).bind (·.dst)=some 66∧(Jsp[21]?).bind (·.dst)=some 70∧(Jsp[24]?).bind (·.dst)=some 73:=⟨by kernel_rfl,by kernel_rfl,by kernel_rfl,by kernel_rfl,by kernel_rfl⟩
section
variable {n N:Nat} {h:SHeap}
set_option maxHeartbeats 64000000 in
theorem Jt6 {Z:List RowN} {s:StN} {v:Value} (hG:GoodT Z s) (hv:J0l h v s.rows) (hl:s.rows.length<9000000) (hfl:h.floor≤h.next) (hn:s.rows.length+60<n) (hN:s.rows.length+40<N) :
  ∃ h',J0L Tryz.prog (J0T n) N 35 [v] h=some (.tuple #[.slice (some ⟨h.next,0,none⟩) s.rows.length s.rows.length,.slice (some ⟨h.next+1,0,none⟩) s.rows.length s.rows.length],h')∧MkH h h' (Js7 s.rows (endN Z) s.rows.length):=by
 have hsn:=(J1z n).2
 refine J1N (R:=fun h'=>MkH h h' (Js7 s.rows (endN Z) s.rows.length)) Tryz.func35 rfl (by simp[Tryz.f35]) ?_
 have hr:Tryz.f35.results.toList=[.tmp 2,.tmp 3]:=rfl
 have hsl:=hG.sk.1
 have npos:0<s.rows.length:=by have:=hG.t.pos;omega
 have len1:∀ h':SHeap,lenS Tryz.prog h' 22 v=some (iv (s.rows.length:Int)):=fun h'=>hv.len (h':=h')
 have mkI:∀ H:SHeap,J2l Tryz.prog H 25 (iv (s.rows.length:Int)) (iv (s.rows.length:Int))=some (.slice (some ⟨H.next,0,none⟩) s.rows.length s.rows.length,H.push (.row (ints (List.replicate s.rows.length 0)) 3 false false)):=fun H=>by
  have:=Jrq (P:=Tryz.prog) (h:=H) (t:=25) (e:=3) (z:=.int .i64 0) Tryz.underlying25 sz3 by3 J8P rfl rfl (by decide) (by decide) (n:=s.rows.length) (by omega)
  rw[show J3e (Value.int IntKind.i64 0).cells.toList s.rows.length=ints (List.replicate s.rows.length 0) from J8K _] at this
  exact this
 have mkB:∀ H:SHeap,J2l Tryz.prog H 63 (iv (s.rows.length:Int)) (iv (s.rows.length:Int))=some (.slice (some ⟨H.next,0,none⟩) s.rows.length s.rows.length,H.push (.row (Jsd (List.replicate s.rows.length false)) 4 false false)):=fun H=>by
  have:=Jrq (P:=Tryz.prog) (h:=H) (t:=63) (e:=4) (z:=.bool false) Tryz.underlying63 sz4 by4 JtV rfl rfl (by decide) (by decide) (n:=s.rows.length) (by omega)
  rw[show J3e (Value.bool false).cells.toList s.rows.length=Jsd (List.replicate s.rows.length false) from Jsz _] at this
  exact this
 have g2:∀ (a b:SObj),let A:=(h.push a).push b
   A.get h.next=a∧A.get (h.next+1)=b∧A.next=h.next+2∧A.floor=h.floor∧∀ i,i<h.next→A.get i=h.get i:=fun a b=>
  ⟨J4c,J48,rfl,rfl,fun i hi=>by rw[J06 (by show i<h.next+1;omega),J06 hi]⟩
 have h4:=g2 (.row (ints (List.replicate s.rows.length 0)) 3 false false) (.row (Jsd (List.replicate s.rows.length false)) 4 false false)
 simp only[evC,seval,↓evP,len1,mkI,mkB,J1D]
 obtain⟨ga,gb,n4,f4,o4⟩:=h4
 generalize (h.push (.row (ints (List.replicate s.rows.length 0)) 3 false false)).push (.row (Jsd (List.replicate s.rows.length false)) 4 false false)=B at *
 have hT0:MkH h B (Js7 s.rows (endN Z) 0):=⟨ga,gb,by omega,f4,o4⟩
 refine WK.loop (fun i s'=>s'.T.get 0=v∧s'.T.get 4=.slice (some ⟨h.next,0,none⟩) s.rows.length s.rows.length∧s'.T.get 5=.slice (some ⟨h.next+1,0,none⟩) s.rows.length s.rows.length∧s'.T.get 6=iv (i:Int)∧i≤s.rows.length∧MkH h s'.h (Js7 s.rows (endN Z) i)) s.rows.length (by omega) ?_ ?_
 ·exact⟨by simp only[evC,seval,↓evP,rpC],by simp only[evC,seval,↓evP,rpC],by simp only[evC,seval,↓evP,rpC],by simp only[evC,seval,↓evP,rpC] <;> rfl,by omega,hT0⟩
 rintro i ⟨T,H⟩ hi ⟨t0,t4,t5,t6,hil,hT⟩
 simp only at t0 t4 t5 t6 hT
 by_cases hlt:i<s.rows.length
 rotate_left
 ·have c1:decide ((i:Int)<(s.rows.length:Int))=false:=by simp;omega
  have hin:i=s.rows.length:=by omega
  subst hin
  simp only[evC,seval,↓evP,hr,t0,t4,t5,t6,len1,c1]
  exact hT
 have c1:decide ((i:Int)<(s.rows.length:Int))=true:=by simp;omega
 obtain⟨x,hx⟩:∃ x,s.rows[i]?=some x:=⟨_,List.getElem?_eq_getElem hlt⟩
 have hnx:=hT.n
 have hfl':=hT.fl
 have hvH:J0l H v s.rows:=hv.mono (by omega) hT.o
 obtain⟨zz,hzz,_,hzk⟩:=hG.z hx
 obtain⟨kv,H5,hkids,hkL,f5,n5,o5⟩:=JtR (n:=n) hG.t hG.sk hvH hzz (by omega) (by omega) (by omega)
 rw[← hzk] at hkL
 have hkc:=hkL.ints (Nat.le_refl _)
 have lenK:=fun h'=>JfF hkc h'
 have hkl:((Js9 (endN Z) x.kids.toNat (i+1)).map (fun (k:Nat)=>(k:Int))).length=x.kids.toNat:=by rw[List.length_map,Jsg]
 obtain⟨k0,hch,hel,hei⟩:=hG.kids0 hx
 rw[hkl,show ((x.kids.toNat:Nat):Int)=x.kids by omega] at lenK
 have w1:IntKind.i64.wrap ((i:Int)+1)=((i+1:Nat):Int):=J0s (by omega) (by omega)
 have hT5:MkH h H5 (Js7 s.rows (endN Z) i):=hT.mono (by omega) (by omega) fun j hj=>o5 j (by omega)
 have hkn:x.kids.toNat≤s.rows.length:=by have:=J2o _ _ _ hch;omega
 simp only[evC,seval,↓evP,t0,t4,t5,t6,len1,c1,hkids]
 have eM:Js7 s.rows (endN Z) (i+1)=setL i x (typN (((s.rows[i+1]?).map (·.kind)).getD 0)) 0 (Js9 (endN Z) x.kids.toNat (i+1)) (Js7 s.rows (endN Z) i):=by
  show Jsq s.rows (endN Z) i (Js7 s.rows (endN Z) i)=_
  unfold Jsq
  rw[hx]
 refine WK.loop (fun q s'=>s'.T.get 0=v∧s'.T.get 4=.slice (some ⟨h.next,0,none⟩) s.rows.length s.rows.length∧s'.T.get 5=.slice (some ⟨h.next+1,0,none⟩) s.rows.length s.rows.length∧s'.T.get 6=iv (i:Int)∧s'.T.get 7=kv∧s'.T.get 8=iv (q:Int)∧q≤x.kids.toNat∧H5.next≤s'.h.next∧(∀ j,h.next+2≤j→j<H5.next→s'.h.get j=H5.get j)∧MkH h s'.h (setL i x (typN (((s.rows[i+1]?).map (·.kind)).getD 0)) 0 ((Js9 (endN Z) x.kids.toNat (i+1)).take q) (Js7 s.rows (endN Z) i))) x.kids.toNat (by omega) ?_ ?_
 ·exact⟨by simp only[evC,seval,↓evP,rpC,t0],by simp only[evC,seval,↓evP,rpC,t4],by simp only[evC,seval,↓evP,rpC,t5],by simp only[evC,seval,↓evP,rpC,t6],by simp only[evC,seval,↓evP,rpC],by simp only[evC,seval,↓evP,rpC] <;> rfl,by omega,Nat.le_refl _,fun _ _ _=>rfl,by rw[List.take_zero];exact hT5⟩
 rintro q ⟨T4,H6⟩ hq ⟨u0,u4,u5,u6,u7,u8,hqk,n6,o6,hT6⟩
 simp only at u0 u4 u5 u6 u7 u8 n6 o6 hT6
 by_cases hql:q<x.kids.toNat
 rotate_left
 ·have c3:decide ((q:Int)<x.kids)=false:=by simp;omega
  simp only[evC,seval,↓evP,u0,u4,u5,u6,u7,u8,lenK,c3,w1]
  have hq9:q=x.kids.toNat:=by omega
  subst hq9
  have hTk:(Js9 (endN Z) x.kids.toNat (i+1)).take x.kids.toNat=Js9 (endN Z) x.kids.toNat (i+1):=List.take_of_length_le (by rw[Jsg];omega)
  rw[hTk] at hT6
  exact⟨hlt,by omega,by rw[eM];exact hT6⟩
 have c3:decide ((q:Int)<x.kids)=true:=by simp;omega
 have hi1:=hG.next hx (by omega)
 obtain⟨y,hy⟩:∃ y,s.rows[i+1]?=some y:=⟨_,List.getElem?_eq_getElem hi1⟩
 have ky:=hG.ks _ y hy
 have eY:((s.rows[i+1]?).map (·.kind)).getD 0=y.kind:=by rw[hy];rfl
 rw[eY] at hT6 ⊢
 obtain⟨p,hpk⟩:∃ p,(Js9 (endN Z) x.kids.toNat (i+1))[q]?=some p:=⟨_,List.getElem?_eq_getElem (by rw[Jsg];exact hql)⟩
 obtain⟨hip,hpl⟩:=hG.kid hx hpk
 have hkc6:J1S (h.next+2) H6 kv ((Js9 (endN Z) x.kids.toNat (i+1)).map (fun (k:Nat)=>(k:Int))):=J1S.mono (hkL.ints (by omega)) (by omega) fun j h1 h2=>o6 j h1 h2
 obtain⟨ip,pp,ep,hip2,lp⟩:=J1S.get hkc6 (i:=q) (x:=(p:Int)) (by rw[List.getElem?_map,hpk];rfl)
 obtain⟨r9,hr9⟩:∃ r,x.kids.toNat=r+1:=⟨x.kids.toNat-1,by omega⟩
 obtain⟨if_,pf,ef,hif2,lf⟩:=J1S.get hkc6 (i:=0) (x:=((i+1:Nat):Int)) (by rw[List.getElem?_map,hr9];rfl)
 have ef':J0R Tryz.prog 25 kv (iv 0)=some (.pointer (some ⟨if_,pf,none⟩)):=ef
 have w2:IntKind.i64.wrap ((q:Int)+1)=((q+1:Nat):Int):=J0s (by omega) (by omega)
 have eS:=Jsu (i:=i) (x:=x) (first:=typN y.kind) (Js9 (endN Z) x.kids.toNat (i+1)) 0 q (Js7 s.rows (endN Z) i) p hpk
 rw[Nat.zero_add] at eS
 rw[eS]
 obtain⟨b1,b2,b3⟩:=Jss (i:=i) (x:=x) (first:=typN y.kind) ((Js9 (endN Z) x.kids.toNat (i+1)).take q) 0 (Js7 s.rows (endN Z) i)
 obtain⟨m1,m2,m3⟩:=Jsk (R:=s.rows) (endN Z) i
 generalize setL i x (typN y.kind) 0 ((Js9 (endN Z) x.kids.toNat (i+1)).take q) (Js7 s.rows (endN Z) i)=Mq at *
 obtain⟨c,hcq⟩:∃ cq,Mq.C[i]?=some cq:=⟨_,List.getElem?_eq_getElem (by omega)⟩
 have hnx6:=hT6.n
 have hfl6:=hT6.fl
 have hask:∀ fl:Nat,J0T n 64 [v,iv (i:Int),iv ((i+1:Nat):Int),iv (q:Int)] (H6.fl fl)=some (iv (Js8 x.kind q (typN y.kind)),H6.fl fl):=fun fl=>JtN (h:=H6.fl fl) (J0l.mono hv (by show h.next≤H6.next;omega) fun j hj=>hT6.o j hj) hx hy ky (by omega)
 have jx1:=J1F (id:=h.next) (n:=s.rows.length) (c:=s.rows.length) (i:=p) hpl
 have jx2:=idxB (id:=h.next+1) (n:=s.rows.length) (c:=s.rows.length) (i:=p) hpl
 have ix2:=idxB (id:=h.next+1) (n:=s.rows.length) (c:=s.rows.length) (i:=i) hlt
 have sa:J0K Tryz.prog H6 3 (.pointer (some ⟨h.next,p,none⟩)) (iv (Js8 x.kind q (typN y.kind)))=some (H6.put h.next (.row (ints (Mq.A.set p (Js8 x.kind q (typN y.kind)))) 3 false false)):=J59 hT6.a (by omega) (by omega)
 have na:∀ j,j≠h.next→(H6.put h.next (.row (ints (Mq.A.set p (Js8 x.kind q (typN y.kind)))) 3 false false)).get j=H6.get j:=fun j hj=>J05 (by omega) (Ne.symm hj)
 have ga1:(H6.put h.next (.row (ints (Mq.A.set p (Js8 x.kind q (typN y.kind)))) 3 false false)).get h.next=.row (ints (Mq.A.set p (Js8 x.kind q (typN y.kind)))) 3 false false:=J0b rfl (by omega)
 have nna:(H6.put h.next (.row (ints (Mq.A.set p (Js8 x.kind q (typN y.kind)))) 3 false false)).next=H6.next:=rfl
 have ffa:(H6.put h.next (.row (ints (Mq.A.set p (Js8 x.kind q (typN y.kind)))) 3 false false)).floor=H6.floor:=rfl
 have fla:(H6.put h.next (.row (ints (Mq.A.set p (Js8 x.kind q (typN y.kind)))) 3 false false)).fl H6.floor=H6.put h.next (.row (ints (Mq.A.set p (Js8 x.kind q (typN y.kind)))) 3 false false):=rfl
 simp only[evC,seval,↓evP,u0,u4,u5,u6,u7,u8,lenK,c3]
 have hAp:(ip<H6.next)=True:=eq_true hip2
 generalize hHa:H6.put h.next (.row (ints (Mq.A.set p (Js8 x.kind q (typN y.kind)))) 3 false false)=Ha at *
 refine WK.flags (ops:=Jtb) Jtl ?_
 refine WKF.begin ?_
 have FF:=aQ @JcC (aQ @u0 (aQ @u4 (aQ @u5 (aQ @u6 (aQ @u7 (aQ @u8 (aQ @ep (aQ @lp (aQ @hAp (aQ @ef' (aQ @J0m (aQ @hask (aQ @jx1 (aQ @sa (aQ @fla (aQ @J0V (aQ @J6Q (aQ @J2T (aQ @JiM (aQ @J1g (aQ @J0J (aQ @Jk2 @J6L))))))))))))))))))))))
 refine wst hsn 0 (some 31) (.move (.tmp 4)) none ?_
 simp only[rgC,seval,J04,J02,WKFC,lf,FF]
 refine wst hsn 1 (some 32) (.move (.tmp 7)) none ?_
 simp only[rgC,seval,J04,J02,WKFC,lf,FF]
 refine wst hsn 2 (some 33) (.move (.tmp 8)) none ?_
 simp only[rgC,seval,J04,J02,WKFC,lf,FF]
 refine wst hsn 3 (some 34) (.indexAddr 25 (.tmp 32) (.tmp 33)) none ?_
 simp only[rgC,seval,J04,J02,WKFC,Nat.zero_add,lf,FF]
 refine wst hsn 4 (some 35) (.load 3 (.tmp 34)) none ?_
 simp only[rgC,seval,J04,J02,WKFC,rgL,lf,FF]
 refine wst hsn 5 (some 36) (.move (.tmp 0)) none ?_
 simp only[rgC,seval,J04,J02,WKFC,lf,FF]
 refine wst hsn 6 (some 37) (.move (.tmp 6)) none ?_
 simp only[rgC,seval,J04,J02,WKFC,lf,FF]
 refine wst hsn 7 (some 38) (.move (.tmp 7)) none ?_
 simp only[rgC,seval,J04,J02,WKFC,lf,FF]
 refine wst hsn 8 (some 39) (.indexAddr 25 (.tmp 38) (.const (Value.int IntKind.i64 0))) none ?_
 simp only[rgC,seval,J04,J02,WKFC,Nat.zero_add,lf,FF]
 refine wst hsn 9 (some 40) (.load 3 (.tmp 39)) none ?_
 simp only[rgC,seval,J04,J02,WKFC,rgL,lf,FF]
 refine wst hsn 10 (some 41) (.move (.tmp 8)) none ?_
 simp only[rgC,seval,J04,J02,WKFC,lf,FF]
 refine wst hsn 11 (some 42) (.call { callee:=.value (.func 64),args:=#[.tmp 36,.tmp 37,.tmp 40,.tmp 41],argTypes:=#[22,3,3,3] }) none ?_
 simp only[rgC,seval,J04,J02,WKFC,rgK,lf,FF]
 refine wst hsn 12 (some 43) (.indexAddr 25 (.tmp 31) (.tmp 35)) none ?_
 simp only[rgC,seval,J04,J02,WKFC,Nat.zero_add,lf,FF]
 refine wst hsn 13 (none) (.store 3 (.tmp 43) (.tmp 42)) none ?_
 simp only[rgC,seval,J04,J02,WKFC,J17,rgS,lf,FF]
 refine WKF.done (i:=14) (by kernel_rfl) ?_
 clear FF
 have hvA:J0l Ha v s.rows:=hv.mono (by omega) fun j hj=>by rw[na j (by omega)];exact hT6.o j hj
 obtain⟨ib,pb,eb,hib,lb,_⟩:=hvA.row hx
 have hkcA:J1S (h.next+2) Ha kv ((Js9 (endN Z) x.kids.toNat (i+1)).map (fun (k:Nat)=>(k:Int))):=J1S.mono hkc6 (by omega) fun j h1 h2=>na j (by omega)
 obtain⟨iq,pq,eq_,hiq2,lq⟩:=J1S.get hkcA (i:=q) (x:=(p:Int)) (by rw[List.getElem?_map,hpk];rfl)
 have lc:ld1 i (Ha.get (h.next+1))=some (.bool c):=by rw[na _ (by omega),hT6.c];exact Jst hcq
 have sc:∀ v:Bool,J0K Tryz.prog Ha 4 (.pointer (some ⟨h.next+1,p,none⟩)) (.bool v)=some (Ha.put (h.next+1) (.row (Jsd (Mq.C.set p v)) 4 false false)):=fun v=>Jt0 (by rw[na _ (by omega)];exact hT6.c) (by omega) (by omega)
 have fin:∀ v:Bool,v=(((Mq.C[i]?).getD false)||Jsn x.kind q)→MkH h (Ha.put (h.next+1) (.row (Jsd (Mq.C.set p v)) 4 false false)) (Jsf i x (typN y.kind) Mq q p) ∧
   ∀ j,h.next+2≤j→(Ha.put (h.next+1) (.row (Jsd (Mq.C.set p v)) 4 false false)).get j=H6.get j:=fun v hv=>by
  have g:∀ j,j≠h.next+1→(Ha.put (h.next+1) (.row (Jsd (Mq.C.set p v)) 4 false false)).get j=Ha.get j:=fun j h1=>by rw[J05 (by omega) (Ne.symm h1)]
  refine⟨⟨by rw[g _ (by omega)];exact ga1,?_,by show _≤Ha.next;omega,by show Ha.floor=_;omega,fun j hj=>by rw[g j (by omega),na j (by omega)];exact hT6.o j hj⟩,fun j hj=>by rw[g j (by omega),na j (by omega)]⟩
  rw[J0b rfl (by omega),hv]
  rfl
 simp only[evC,seval,↓evP,u0,u4,u5,u6,u7,u8,eb,Nat.zero_add,J0t,J0m,lb]
 have ef9:=JsZ x.kind q
 generalize e4:(x.kind==4)=b4 at *
 generalize e5:(x.kind==5)=b5 at *
 generalize e6:(x.kind==6)=b6 at *
 generalize e13:(x.kind==13)=b13 at *
 generalize ej:((q:Int)==0)=bj at *
 have six:c=true∨(c=false∧b4=true)∨(c=false∧b4=false∧b5=true)∨(c=false∧b4=false∧b5=false∧b6=true)∨(c=false∧b4=false∧b5=false∧b6=false∧b13=true)∨(c=false∧b4=false∧b5=false∧b6=false∧b13=false):=by
  cases c <;> cases b4 <;> cases b5 <;> cases b6 <;> cases b13 <;> simp
 rcases six with rfl | ⟨rfl,rfl⟩ | ⟨rfl,rfl,rfl⟩ | ⟨rfl,rfl,rfl,rfl⟩ | ⟨rfl,rfl,rfl,rfl,rfl⟩ | ⟨rfl,rfl,rfl,rfl,rfl⟩
 all_goals
  refine WK.flags (ops:=Jsp) Jtp ?_
  refine WKF.begin ?_
  have FF:=aQ @JcC (aQ JsN.1 (aQ JsN.2.1 (aQ JsN.2.2.1 (aQ JsN.2.2.2.1 (aQ JsN.2.2.2.2 (aQ @u0 (aQ @u4 (aQ @u5 (aQ @u6 (aQ @u7 (aQ @u8 (aQ @eq_ (aQ @lq (aQ @J0m (aQ @ix2 (aQ @J1V (aQ @lc (aQ @e4 (aQ @e5 (aQ @e6 (aQ @e13 (aQ @ej (aQ @jx2 (aQ @sc (aQ @J0V (aQ @J6Q (aQ @J2T (aQ @JiM (aQ @J1g (aQ @J0J (aQ @Jk2 @J6L)))))))))))))))))))))))))))))))
  refine wst hsn 0 (some 49) (.move (.tmp 5)) none ?_
  simp only[rgC,seval,J04,J02,WKFC,FF]
  refine wst hsn 1 (some 50) (.move (.tmp 7)) none ?_
  simp only[rgC,seval,J04,J02,WKFC,FF]
  refine wst hsn 2 (some 51) (.move (.tmp 8)) none ?_
  simp only[rgC,seval,J04,J02,WKFC,FF]
  refine wst hsn 3 (some 52) (.indexAddr 25 (.tmp 50) (.tmp 51)) none ?_
  simp only[rgC,seval,J04,J02,WKFC,Nat.zero_add,FF]
  refine wst hsn 4 (some 53) (.load 3 (.tmp 52)) none ?_
  simp only[rgC,seval,J04,J02,WKFC,rgL,FF]
  refine wst hsn 5 (some 54) (.move (.tmp 5)) none ?_
  simp only[rgC,seval,J04,J02,WKFC,FF]
  refine wst hsn 6 (some 55) (.move (.tmp 6)) none ?_
  simp only[rgC,seval,J04,J02,WKFC,FF]
  refine wst hsn 7 (some 56) (.indexAddr 63 (.tmp 54) (.tmp 55)) none ?_
  simp only[rgC,seval,J04,J02,WKFC,Nat.zero_add,FF]
  refine wst hsn 8 (some 57) (.load 4 (.tmp 56)) none ?_
  simp only[rgC,seval,J04,J02,WKFC,rgL,FF]
  refine wst hsn 9 (some 58) (.move (.tmp 57)) none ?_
  simp only[rgC,seval,J04,J02,WKFC,FF]
  refine wst hsn 10 (some 59) (.move (.tmp 9)) (some (9,false)) ?_
  simp only[rgC,seval,J04,J02,WKFC,FF]
  refine wst hsn 11 (some 60) (.binOp .eql 3 (.tmp 59) (.const (Value.int IntKind.i64 4)) 3) (some (9,false)) ?_
  simp only[rgC,seval,J04,J02,WKFC,rgB,FF]
  refine wst hsn 12 (some 61) (.pick (.tmp 58) (.const (Value.bool true)) (.tmp 60)) none ?_
  simp only[rgC,seval,J04,J02,WKFC,FF]
  refine wst hsn 13 (some 62) (.move (.tmp 61)) none ?_
  simp only[rgC,seval,J04,J02,WKFC,FF]
  refine wst hsn 14 (some 63) (.move (.tmp 9)) (some (13,false)) ?_
  simp only[rgC,seval,J04,J02,WKFC,FF]
  refine wst hsn 15 (some 64) (.binOp .eql 3 (.tmp 63) (.const (Value.int IntKind.i64 5)) 3) (some (13,false)) ?_
  simp only[rgC,seval,J04,J02,WKFC,rgB,FF]
  refine wst hsn 16 (some 65) (.pick (.tmp 62) (.const (Value.bool true)) (.tmp 64)) none ?_
  simp only[rgC,seval,J04,J02,WKFC,FF]
  refine wst hsn 17 (some 66) (.move (.tmp 65)) none ?_
  simp only[rgC,seval,J04,J02,WKFC,FF]
  refine wst hsn 18 (some 67) (.move (.tmp 9)) (some (17,false)) ?_
  simp only[rgC,seval,J04,J02,WKFC,FF]
  refine wst hsn 19 (some 68) (.binOp .eql 3 (.tmp 67) (.const (Value.int IntKind.i64 6)) 3) (some (17,false)) ?_
  simp only[rgC,seval,J04,J02,WKFC,rgB,FF]
  refine wst hsn 20 (some 69) (.pick (.tmp 66) (.const (Value.bool true)) (.tmp 68)) none ?_
  simp only[rgC,seval,J04,J02,WKFC,FF]
  refine wst hsn 21 (some 70) (.move (.tmp 69)) none ?_
  simp only[rgC,seval,J04,J02,WKFC,FF]
  refine wst hsn 22 (some 71) (.move (.tmp 9)) (some (21,false)) ?_
  simp only[rgC,seval,J04,J02,WKFC,FF]
  refine wst hsn 23 (some 72) (.binOp .eql 3 (.tmp 71) (.const (Value.int IntKind.i64 13)) 3) (some (21,false)) ?_
  simp only[rgC,seval,J04,J02,WKFC,rgB,FF]
  refine wst hsn 24 (some 73) (.move (.tmp 72)) (some (21,false)) ?_
  simp only[rgC,seval,J04,J02,WKFC,FF]
  refine wst hsn 25 (some 74) (.move (.tmp 8)) (some (24,true)) ?_
  simp only[rgC,seval,J04,J02,WKFC,FF]
  refine wst hsn 26 (some 75) (.binOp .eql 3 (.tmp 74) (.const (Value.int IntKind.i64 0)) 3) (some (24,true)) ?_
  simp only[rgC,seval,J04,J02,WKFC,rgB,FF]
  refine wst hsn 27 (some 76) (.pick (.tmp 73) (.tmp 75) (.const (Value.bool false))) (some (21,false)) ?_
  simp only[rgC,seval,J04,J02,WKFC,FF]
  refine wst hsn 28 (some 77) (.pick (.tmp 70) (.const (Value.bool true)) (.tmp 76)) none ?_
  simp only[rgC,seval,J04,J02,WKFC,FF]
  refine wst hsn 29 (some 78) (.indexAddr 63 (.tmp 49) (.tmp 53)) none ?_
  simp only[rgC,seval,J04,J02,WKFC,Nat.zero_add,FF]
  refine wst hsn 30 (none) (.store 4 (.tmp 78) (.tmp 77)) none ?_
  simp only[rgC,seval,J04,J02,WKFC,J17,rgS,FF]
  refine WKF.done (i:=31) (by kernel_rfl) ?_
  clear FF
  simp only[evC,seval,↓evP,u0,u4,u5,u6,u7,u8,w2]
  have go:∀ v:Bool,v=(((Mq.C[i]?).getD false)||Jsn x.kind q)→(∀ j,h.next+2≤j→j<H5.next→(Ha.put (h.next+1) (.row (Jsd (Mq.C.set p v)) 4 false false)).get j=H5.get j)∧MkH h (Ha.put (h.next+1) (.row (Jsd (Mq.C.set p v)) 4 false false)) (Jsf i x (typN y.kind) Mq q p):=fun v hv=>⟨fun j h1 h2=>by rw[(fin v hv).2 j h1];exact o6 j h1 h2,(fin v hv).1⟩
  first
   | exact⟨hql,by omega,Nat.le_trans n6 (Nat.le_of_eq nna.symm),go true (by simp[hcq,ef9])⟩
   | exact⟨hql,by omega,Nat.le_trans n6 (Nat.le_of_eq nna.symm),go bj (by simp[hcq,ef9])⟩
   | exact⟨hql,by omega,Nat.le_trans n6 (Nat.le_of_eq nna.symm),go false (by simp[hcq,ef9])⟩
end
section
variable {n N:Nat} {h:SHeap}
theorem JtP {Z:List RowN} {s:StN} {v:Value} (hG:GoodT Z s) (hv:J0l h v s.rows) (hl:s.rows.length<9000000) (hfl:h.floor≤h.next) (hn:s.rows.length+100<n) :
  ∃ h',J0T n 35 [v] h=some (.tuple #[.slice (some ⟨h.next,0,none⟩) s.rows.length s.rows.length,.slice (some ⟨h.next+1,0,none⟩) s.rows.length s.rows.length],h')∧MkH h h' (Js7 s.rows (endN Z) s.rows.length):=by
 obtain⟨n,rfl⟩:∃ j,n=j+1:=⟨n-1,by omega⟩
 exact Jc0 (J13 ⟨rfl,rfl,rfl⟩) (by simp[J3m,flat,J1i]) (Jt6 (n:=n) (N:=n) hG hv hl hfl (by omega) (by omega))
set_option maxHeartbeats 32000000 in
theorem Jt9 {nm : ByteArray} {s:StN} {pv:Value} {lo:Nat} (hp:J3x lo h pv nm s) (h64:∀ x∈s.rows,x.kids≤9223372036854775807) (hs:JdC s) (hl:s.rows.length<9000000) (hfl:h.floor≤h.next) (hn:Jbg s+100400<n) (hN:s.rows.length+40<N) :
  ∃ v' h',J0L Tryz.prog (J0T n) N 10 [pv] h=some (v',h')∧JsA h' h.next v' (Jsb nm s)∧h'.floor=h.floor∧h.next≤h'.next∧∀ i,i<h.next→h'.get i=h.get i:=by
 obtain⟨vr,vq,vv,vt,vu,vo,rfl,p1,p2,p3,p4,p5,p6⟩:=id hp
 have htot:Jbg s=s.rows.length+s.queues.length+s.vars.length+s.tags.length+s.rules.length+s.on.length:=rfl
 refine J65 (R:=fun v' h'=>JsA h' h.next v' (Jsb nm s)∧h'.floor=h.floor∧h.next≤h'.next∧∀ i,i<h.next→h'.get i=h.get i) Tryz.func10 rfl (by simp[Tryz.f10]) ?_
 have hr:Tryz.f10.results.toList=[.tmp 2,.cell 3 32]:=rfl
 have ca:(Value.agg #[.string nm,vr,vq,vv,vt,vu,vo,iv s.miss]).cells.toList=[.string nm,vr,vq,vv,vt,vu,vo,iv s.miss]:=rfl
 have oa:=all8 (nm:=nm) p1 p2 p3 p4 p5 p6
 have zc33:(Value.agg #[Value.int IntKind.i64 0,Value.int IntKind.i64 0]).cells.toList=[iv 0,iv 0]:=rfl
 have g0:∀ (a b:SObj),let A:=(h.push a).push b
   A.get h.next=a∧A.get (h.next+1)=b∧A.next=h.next+2∧A.floor=h.floor∧∀ i,i<h.next→A.get i=h.get i:=fun a b=>
  ⟨J4c,J48,rfl,rfl,fun i hi=>by rw[J06 (by show i<h.next+1;omega),J06 hi]⟩
 obtain⟨gA,gF,nG,fG,gO⟩:=g0 (.row [.string nm,vr,vq,vv,vt,vu,vo,iv s.miss] 27 false false) (.row [iv 0,iv 0] 32 false false)
 simp only[evC,seval,↓evP,rpD,J0X,J2t,ca,oa,sz30,J3C,J1t,zc33]
 generalize (h.push (.row [.string nm,vr,vq,vv,vt,vu,vo,iv s.miss] 27 false false)).push (.row [iv 0,iv 0] 32 false false)=Q at *
 have lA:ldN 8 0 (Q.get h.next)=some (.agg #[.string nm,vr,vq,vv,vt,vu,vo,iv s.miss]):=J9E gA rfl
 have x1:ld1 1 (Q.get h.next)=some vr:=by rw[gA];rfl
 have hpQ:J3x lo Q (.agg #[.string nm,vr,vq,vv,vt,vu,vo,iv s.miss]) nm s:=hp.mono (by omega) fun i _ hi=>gO i hi
 have hchk:=JpH (n:=n) hpQ h64 hs (by omega) (by omega) (by omega)
 cases d1:(JkA nm s != 0) with
 | true=>
  obtain⟨H',s1,s2,s3,s4,s5⟩:=Jsm gF (by omega) (by omega) (JkA nm s) 0
  have e:Jsb nm s=((JkA nm s,0),[]):=by unfold Jsb;rw[if_pos (by simpa using d1)]
  rw[e]
  simp only[evC,seval,↓evP,hr,J1b,lA,hchk,d1,J96,s1,J2n,s2]
  exact⟨⟨_,rfl,J0p.nil _ _ _⟩,by omega,by omega,fun i hi=>by rw[s5 i (by omega)];exact gO i hi⟩
 | false=>
 have e1:JkA nm s=0:=by simpa using d1
 have hG:=JtL e1
 have eR:Jsb nm s=Jsa s.rows s.queues (endN (Jk8 s.rows)) s.rows.length 0:=by unfold Jsb;rw[if_neg (by rw[e1];decide)]
 rw[eR]
 generalize hZ:Jk8 s.rows=Z at *
 clear hZ eR
 have hsl:=hG.sk.1
 have npos:0<s.rows.length:=by have:=hG.t.pos;omega
 have len1:=fun h'=>JfA p1.2 h'
 have hvQ:J0l Q vr s.rows:=p1.1.mono (by omega) gO
 obtain⟨B,hmk,hM⟩:=JtP (n:=n) hG hvQ hl (by omega) (by omega)
 have nB:=hM.n
 have fB:=hM.fl
 have oB:=hM.o
 have xB:ld1 1 (B.get h.next)=some vr:=by rw[oB _ (by omega)];exact x1
 simp only[evC,seval,↓evP,J1b,lA,hchk,d1,Nat.zero_add,J0y,J0F,x1,hmk]
 refine WK.loop (fun i s'=>s'.T.get 1=.pointer (some ⟨h.next,0,none⟩)∧s'.T.get 3=.pointer (some ⟨h.next+1,0,none⟩)∧s'.T.get 5=.slice (some ⟨Q.next,0,none⟩) s.rows.length s.rows.length∧s'.T.get 6=.slice (some ⟨Q.next+1,0,none⟩) s.rows.length s.rows.length∧s'.T.get 8=iv (i:Int)∧i≤s.rows.length∧Jsa s.rows s.queues (endN Z) (s.rows.length-i) i=Jsa s.rows s.queues (endN Z) s.rows.length 0∧B.next≤s'.h.next∧s'.h.floor=h.floor∧(∀ j,j<B.next→s'.h.get j=B.get j)∧∃ w,s'.T.get 7=w∧IntL s'.h B.next w ((s.rows.take i).map (typN ·.kind))) s.rows.length (by omega) ?_ ?_
 ·exact⟨by simp only[evC,seval,↓evP,rpC],by simp only[evC,seval,↓evP,rpC],by simp only[evC,seval,↓evP,rpC],by simp only[evC,seval,↓evP,rpC],by simp only[evC,seval,↓evP,rpC] <;> rfl,by omega,rfl,Nat.le_refl _,by show B.floor=_;omega,fun _ _=>rfl,.slice none 0 0,by simp only[evC,seval,↓evP,rpC],.inl ⟨rfl,rfl⟩⟩
 rintro i ⟨T,H⟩ hi ⟨t1,t3,t5,t6,t8,hil,hgo,nH,fH,oH,w,t7,hL⟩
 simp only at t1 t3 t5 t6 t8 nH fH oH t7 hL
 have xH:ld1 1 (H.get h.next)=some vr:=by rw[oH _ (by omega)];exact xB
 have gFH:H.get (h.next+1)=.row [iv 0,iv 0] 32 false false:=by rw[oH _ (by omega),oB _ (by omega)];exact gF
 have oHh:∀ j,j<h.next→H.get j=h.get j:=fun j hj=>by rw[oH j (by omega),oB j (by omega)];exact gO j hj
 by_cases hlt:i<s.rows.length
 rotate_left
 ·have c1:decide ((i:Int)<(s.rows.length:Int))=false:=by simp;omega
  have hin:i=s.rows.length:=by omega
  subst hin
  rw[List.take_of_length_le (Nat.le_refl _)] at hL
  obtain⟨H',s1,s2,s3,s4,s5⟩:=Jsm gFH (by omega) (by omega) 0 0
  have eG:Jsa s.rows s.queues (endN Z) s.rows.length 0=((0,0),s.rows.map (typN ·.kind)):=by rw[← hgo,Nat.sub_self];rfl
  rw[eG]
  simp only[evC,seval,↓evP,hr,t1,t3,t5,t6,t7,t8,Nat.zero_add,J0y,J0F,xH,len1,c1,J5n,s1,J2n,s2]
  exact⟨⟨_,rfl,(hL.mono (h':=H') (by omega) fun j h1 h2=>s5 j (by omega)).ints (by omega)⟩,by omega,by omega,fun j hj=>by rw[s5 j (by omega)];exact oHh j hj⟩
 have c1:decide ((i:Int)<(s.rows.length:Int))=true:=by simp;omega
 obtain⟨x,hx⟩:∃ x,s.rows[i]?=some x:=⟨_,List.getElem?_eq_getElem hlt⟩
 obtain⟨r,hr1⟩:∃ r,s.rows.length-i=r+1:=⟨s.rows.length-i-1,by omega⟩
 rw[hr1] at hgo
 have hri:s.rows.length-(i+1)=r:=by omega
 have hvH:J0l H vr s.rows:=p1.1.mono (by omega) oHh
 obtain⟨ia,pa,ea,hia,la,_⟩:=hvH.row hx
 have kx:=hG.ks i x hx
 have ht1:=JtH (n:=n) (h:=H) kx (by omega)
 have hfr:=Ju5 (n:=n) (h:=H) kx (by omega)
 obtain⟨m1,m2,m3⟩:=Jsk (R:=s.rows) (endN Z) i
 have eZ:=fun j=>Jso (e:=endN Z) hG.kk hG.sk j
 obtain⟨st1,st2,_⟩:=JsC hG.t (i:=i) s.rows.length (by omega)
 rw[← eZ,← eZ] at st1 st2
 obtain⟨a,hA⟩:∃ a,(Js7 s.rows (endN Z) i).A[i]?=some a:=⟨_,List.getElem?_eq_getElem (by omega)⟩
 obtain⟨c,hC⟩:∃ c,(Js7 s.rows (endN Z) i).C[i]?=some c:=⟨_,List.getElem?_eq_getElem (by omega)⟩
 obtain⟨u,hU⟩:∃ u,(Js7 s.rows (endN Z) i).U[i]?=some u:=⟨_,List.getElem?_eq_getElem (by omega)⟩
 have hUb:=JsF (R:=s.rows) (e:=endN Z) rfl npos i (by omega) u (List.mem_of_getElem? hU)
 obtain⟨up,hup⟩:∃ up,s.rows[u.toNat]?=some up:=⟨_,List.getElem?_eq_getElem (by omega)⟩
 have ix1:=J1F (id:=Q.next) (n:=s.rows.length) (c:=s.rows.length) (i:=i) hlt
 have ix2:=idxB (id:=Q.next+1) (n:=s.rows.length) (c:=s.rows.length) (i:=i) hlt
 have l1:ld1 i (H.get Q.next)=some (iv a):=by rw[oH _ (by omega),hM.a];exact J2z (st1.trans hA)
 have l2:ld1 i (H.get (Q.next+1))=some (.bool c):=by rw[oH _ (by omega),hM.c];exact Jst (st2.trans hC)
 have lAH:ldN 8 0 (H.get h.next)=some (.agg #[.string nm,vr,vq,vv,vt,vu,vo,iv s.miss]):=by rw[oH _ (by omega),oB _ (by omega)];exact lA
 have hpH:J3x lo H (.agg #[.string nm,vr,vq,vv,vt,vu,vo,iv s.miss]) nm s:=hp.mono (by omega) fun j _ hj=>oHh j hj
 have hoth:=Jtz (n:=n) (x:=x) (up:=up) hpH (a:=i) hx (fun h24=>by
  obtain⟨h0i,up',hup',hU',_⟩:=hG.place hx h24
  rw[hU] at hU'
  cases hU'
  rw[show ((i-1:Nat):Int).toNat=i-1 by omega] at hup
  exact⟨hup,h0i⟩) (by omega) (fun h9=>hG.qn i x hx (Jsx h9)) (fun h24 h20=>by
  obtain⟨h0i,up',hup',hU',hrange⟩:=hG.place hx h24
  rw[hU] at hU'
  cases hU'
  rw[show ((i-1:Nat):Int).toNat=i-1 by omega,hup'] at hup
  cases hup
  exact hrange h20) (by omega) (by omega)
 have w1:IntKind.i64.wrap ((i:Int)+1)=((i+1:Nat):Int):=J0s (by omega) (by omega)
 obtain⟨w',H',happ,hL',fH',nH',oH'⟩:=JsR (x:=typN x.kind) hL nH (by omega) (by rw[List.length_map,List.length_take];omega)
 have eT:(s.rows.take i).map (typN ·.kind)++[typN x.kind]=(s.rows.take (i+1)).map (typN ·.kind):=by
  rw[List.take_add_one,hx,List.map_append]
  rfl
 rw[eT] at hL'
 have bad:∀ b:Int,∃ H',J0K Tryz.prog H 32 (.pointer (some ⟨h.next+1,0,none⟩)) (J2k b i)=some H'∧ldN 2 0 (H'.get (h.next+1))=some (J2k b i)∧H'.floor=h.floor∧h.next≤H'.next∧∀ j,j<h.next→H'.get j=h.get j:=fun b=>by
  obtain⟨H',s1,s2,s3,s4,s5⟩:=Jsm gFH (by omega) (by omega) b i
  exact⟨H',s1,s2,by omega,by omega,fun j hj=>by rw[s5 j (by omega)];exact oHh j hj⟩
 have ea0:∀ b:Int,badN s.rows s.queues (Js7 s.rows (endN Z) i) i x=b→b≠0→Jsa s.rows s.queues (endN Z) s.rows.length 0=((b,(i:Int)),[]):=fun b hb h0=>by rw[← hgo];exact JtJ hx hb h0
 generalize e1':(a != 0)=ba
 generalize e2':(a != typN x.kind)=bt
 generalize e3':Jsi x.kind=bv at *
 generalize e4':Jse s.queues x up=bo at *
 have hAB:(ba=true∧bt=true)∨ba=false∨(ba=true∧bt=false):=by cases ba <;> cases bt <;> simp
 have hCV:(c=true∧bv=true)∨c=false∨(c=true∧bv=false):=by cases c <;> cases bv <;> simp
 rcases hAB with⟨rfl,rfl⟩ | hAB
 ·obtain⟨H',s1,s2,s3,s4,s5⟩:=bad 41
  rw[ea0 41 (Jto hA (by simpa using e1') (fun h9=>by rw[h9] at e2';simp at e2')) (by decide)]
  simp only[evC,seval,↓evP,hr,t1,t3,t5,t6,t7,t8,Nat.zero_add,J0y,J0F,xH,len1,c1,ea,J0t,J0m,la,ht1,ix1,l1,e1',e2',J4G,s1,J2n,s2]
  exact⟨⟨_,rfl,J0p.nil _ _ _⟩,s3,s4,s5⟩
 have n41 : ¬(a ≠ 0∧typN x.kind≠a):=by
  rintro ⟨h1,h2⟩
  rcases hAB with rfl | ⟨rfl,rfl⟩
  ·exact h1 (by simpa using e1')
  ·exact h2 (by have:a=typN x.kind:=by simpa using e2'
                exact this.symm)
 rcases hCV with⟨rfl,rfl⟩ | hCV
 ·obtain⟨H',s1,s2,s3,s4,s5⟩:=bad 42
  rw[ea0 42 (Jtc hA n41 hC e3') (by decide)]
  rcases hAB with rfl | ⟨rfl,rfl⟩
  all_goals
   simp only[evC,seval,↓evP,hr,t1,t3,t5,t6,t7,t8,Nat.zero_add,J0y,J0F,xH,len1,c1,ea,J0t,J0m,la,ht1,ix1,l1,e1',e2',ix2,J1V,l2,hfr,J4G,s1,J2n,s2]
   exact⟨⟨_,rfl,J0p.nil _ _ _⟩,s3,s4,s5⟩
 have hcv:(c&&Jsi x.kind)=false:=by
  rw[e3']
  rcases hCV with rfl | ⟨rfl,rfl⟩ <;> rfl
 have b46:=Jtj (Q:=s.queues) hA n41 hC hcv hU hup
 rw[e4'] at b46
 cases bo with
 | true=>
  obtain⟨H',s1,s2,s3,s4,s5⟩:=bad 46
  rw[ea0 46 (b46.trans rfl) (by decide)]
  rcases hAB with rfl | ⟨rfl,rfl⟩ <;> rcases hCV with rfl | ⟨rfl,rfl⟩
  all_goals
   simp only[evC,seval,↓evP,hr,t1,t3,t5,t6,t7,t8,Nat.zero_add,J0y,J0F,xH,len1,c1,ea,J0t,J0m,la,ht1,ix1,l1,e1',e2',ix2,J1V,l2,hfr,J1b,lAH,hoth,J4G,s1,J2n,s2]
   exact⟨⟨_,rfl,J0p.nil _ _ _⟩,s3,s4,s5⟩
 | false=>
  have hgo2:Jsa s.rows s.queues (endN Z) (s.rows.length-(i+1)) (i+1)=Jsa s.rows s.queues (endN Z) s.rows.length 0:=by rw[← hgo,hri];exact(JtY hx (b46.trans rfl)).symm
  rcases hAB with rfl | ⟨rfl,rfl⟩ <;> rcases hCV with rfl | ⟨rfl,rfl⟩
  all_goals
   simp only[evC,seval,↓evP,hr,t1,t3,t5,t6,t7,t8,Nat.zero_add,J0y,J0F,xH,len1,c1,ea,J0t,J0m,la,ht1,ix1,l1,e1',e2',ix2,J1V,l2,hfr,J1b,lAH,hoth,bs28,happ,w1]
   exact⟨hlt,by omega,hgo2,by omega,by omega,fun j hj=>(oH' j hj).trans (oH j hj),hL'⟩
theorem Jtv {nm:ByteArray} {s:StN} {pv:Value} {lo:Nat} (hp:J3x lo h pv nm s) (h64:∀ x∈s.rows,x.kids≤9223372036854775807) (hs:JdC s) (hl:s.rows.length<9000000) (hfl:h.floor≤h.next) (hn:Jbg s+100450<n) :
  ∃ v' h',J0T n 10 [pv] h=some (v',h')∧JsA h' h.next v' (Jsb nm s)∧h'.floor=h.floor∧h.next≤h'.next∧∀ i,i<h.next→h'.get i=h.get i:=by
 obtain⟨n,rfl⟩:∃ j,n=j+1:=⟨n-1,by omega⟩
 have htot:Jbg s=s.rows.length+s.queues.length+s.vars.length+s.tags.length+s.rules.length+s.on.length:=rfl
 refine k_ex (J13 ⟨rfl,rfl,rfl⟩) (Jt9 (n:=n) (N:=n) hp h64 hs hl hfl (by omega) (by omega)) fun v' h1 hf _ ht=>?_
 obtain⟨⟨tv,rfl,ht⟩,_⟩:=ht
 exact⟨⟨tv,rfl,Jt1 ht hf h⟩,rfl,Nat.le_refl _,fun _ _=>rfl⟩
end
theorem Lent8.liesT {h:SHeap} {b:Nat} {v:Value} {nm:ByteArray} {s:StN} (hL:Lent8 h b v nm s):∀ nm' vr vq vv vt vu vo m,v=.agg #[.string nm',vr,vq,vv,vt,vu,vo,m]→Lies vr s.rows.length:=by
 intro nm' vr vq vv vt vu vo m hv
 rw[hL.v] at hv
 simp only[Value.agg.injEq,Array.mk.injEq,List.cons.injEq] at hv
 obtain⟨_,h1,_⟩:=hv
 exact⟨_,_,_,h1.symm⟩
theorem Lent8.monoT {h h':SHeap} {b:Nat} {v:Value} {nm:ByteArray} {s:StN} (hL:Lent8 h b v nm s) (hn:h.next≤h'.next) (hg:∀ i,b≤i→i≤b+5→h'.get i=h.get i):Lent8 h' b v nm s:=by
 obtain⟨hv,hlt,⟨L1,g1⟩,gq,gw,gt,⟨L5,g5⟩,⟨L6,g6⟩⟩:=hL
 exact⟨hv,by omega,⟨L1,by rw[hg _ (by omega) (by omega)];exact g1.g,g1.len,g1.own,g1.marks⟩,by rw[hg _ (by omega) (by omega)];exact gq,by rw[hg _ (by omega) (by omega)];exact gw,by rw[hg _ (by omega) (by omega)];exact gt,⟨L5,by rw[hg _ (by omega) (by omega)];exact g5.g,g5.len,g5.own,g5.marks⟩,⟨L6,by rw[hg _ (by omega) (by omega)];exact g6.g,g6.len,g6.own,g6.marks⟩⟩
theorem Jsy {R:List RowN} {Q:List (ByteArray × Bool)} {e:Nat→Nat}:∀ r i,(Jsa R Q e r i).2.length≤R.length
 | 0,i=>by unfold Jsa;rw[List.length_map];omega
 | r+1,i=>by
  unfold Jsa
  split
  ·rw[List.length_map];omega
  ·split
   ·exact Nat.zero_le _
   ·exact Jsy r (i+1)
theorem Jt3 {nm:ByteArray} {s:StN}:(Jsb nm s).2.length≤s.rows.length:=by
 unfold Jsb
 split
 ·exact Nat.zero_le _
 ·exact Jsy _ _
theorem Jtx {e a:Int}:∀ x y,binS Tryz.prog .eql 32 x y (J2k e a) (J2k e a)=some (.bool true):=fun x y=>by
 have:=eq33 (x:=x) (y:=y) (a:=e) (b:=a) (c:=e) (d:=a)
 simpa using this
section
variable {n:Nat} {h:SHeap}
set_option maxHeartbeats 32000000 in
theorem JsW {nm:ByteArray} {s:StN} {pv:Value} (hp:J3x 0 h pv nm s) (h64:∀ x∈s.rows,x.kids≤9223372036854775807) (hb:Jbg s<2000000) (hfl:h.floor≤h.next) (hg:h.get 0=J14) (hn0:0<h.next) (hn:9000000<n) :
  ∃ h',J0L Tryz.prog (JqX n) n 3 [pv] h=some (.bool true,h')∧True:=by
 obtain⟨vr,vq,vv,vt,vu,vo,rfl,p1,p2,p3,p4,p5,p6⟩:=id hp
 have htot:Jbg s=s.rows.length+s.queues.length+s.vars.length+s.tags.length+s.rules.length+s.on.length:=rfl
 have hsm:JdC s:=by unfold JdC;omega
 refine J1N (R:=fun _=>True) Tryz.func3 rfl (by simp[Tryz.f3]) ?_
 have hr:Tryz.f3.results.toList=[.tmp 2]:=rfl
 have ca:(Value.agg #[.string nm,vr,vq,vv,vt,vu,vo,iv s.miss]).cells.toList=[.string nm,vr,vq,vv,vt,vu,vo,iv s.miss]:=rfl
 have oa:=all8 (nm:=nm) p1 p2 p3 p4 p5 p6
 have zc30:zPol.cells.toList=[.string ByteArray.empty,.slice none 0 0,.slice none 0 0,.slice none 0 0,.slice none 0 0,.slice none 0 0,.slice none 0 0,iv 0]:=rfl
 have zc33:(Value.agg #[Value.int IntKind.i64 0,Value.int IntKind.i64 0]).cells.toList=[iv 0,iv 0]:=rfl
 have gA:(h.push (.row [.string nm,vr,vq,vv,vt,vu,vo,iv s.miss] 27 false false)).get h.next=.row [.string nm,vr,vq,vv,vt,vu,vo,iv s.miss] 27 false false:=J0h
 have gO:∀ i,i<h.next→(h.push (.row [.string nm,vr,vq,vv,vt,vu,vo,iv s.miss] 27 false false)).get i=h.get i:=fun i hi=>J06 hi
 have nA:(h.push (.row [.string nm,vr,vq,vv,vt,vu,vo,iv s.miss] 27 false false)).next=h.next+1:=rfl
 have fA:(h.push (.row [.string nm,vr,vq,vv,vt,vu,vo,iv s.miss] 27 false false)).floor=h.floor:=rfl
 simp only[evC,seval,↓evP,rpD,J0X,J2t,ca,oa,sz30]
 generalize h.push (.row [.string nm,vr,vq,vv,vt,vu,vo,iv s.miss] 27 false false)=A at *
 have lA:ldN 8 0 (A.get h.next)=some (.agg #[.string nm,vr,vq,vv,vt,vu,vo,iv s.miss]):=J9E gA rfl
 have hhd:=JrR (n:=n) (h:=A) (by rw[gO 0 hn0];exact hg)
 have hpA:J3x 0 A (.agg #[.string nm,vr,vq,vv,vt,vu,vo,iv s.miss]) nm s:=hp.mono (by omega) fun i _ hi=>gO i hi
 obtain⟨v1,H1,hk1,hL,n1,f1,o1⟩:=JrC (n:=n) hpA hsm (by omega) (by omega) (by omega)
 have hk1':=x_k (n:=n) (by decide) hk1
 have hv1:=hL.v
 obtain⟨B,stB,gB1,nB,fB,oB⟩:=Jsj (t:=27) sz30 (H:=H1) (zs:=[.string ByteArray.empty,.slice none 0 0,.slice none 0 0,.slice none 0 0,.slice none 0 0,.slice none 0 0,.slice none 0 0,iv 0]) (vs:=[.string nm,.slice (some ⟨A.next+3,0,none⟩) s.rows.length (s.rows.length+9),.slice (some ⟨A.next+3+1,0,none⟩) s.queues.length (s.queues.length+3),.slice (some ⟨A.next+3+2,0,none⟩) s.vars.length (s.vars.length+3),.slice (some ⟨A.next+3+3,0,none⟩) s.tags.length (s.tags.length+3),.slice (some ⟨A.next+3+4,0,none⟩) s.rules.length (s.rules.length+5),.slice (some ⟨A.next+3+5,0,none⟩) s.on.length (s.on.length+5),iv s.miss]) rfl rfl rfl (by omega)
 rw[← hv1] at stB
 have oBA:∀ i,i<A.next→B.get i=A.get i:=fun i hi=>by rw[oB i (by omega),o1 i hi]
 have lP:ldN 8 0 (B.get H1.next)=some v1:=by rw[hv1];exact J9E gB1 rfl
 have hLB:Lent8 B (A.next+3) v1 nm s:=hL.monoT (by omega) fun i h1 h2=>oB i (by omega)
 obtain⟨v2,H2,hk2,⟨tv,hv2,hI2⟩,f2,n2,o2⟩:=JtT (n:=n) hLB.pol hLB.liesT hsm (by omega) (by rw[oBA 0 (by omega),gO 0 hn0];exact hg) (by omega) (by omega) (by omega)
 subst hv2
 have hk2':=x_k (n:=n) (by decide) hk2
 obtain⟨D,stD,gD1,nD,fD,oD⟩:=Jsj (t:=32) sz33 (H:=H2) (zs:=[iv 0,iv 0]) (vs:=[iv (Jsb nm s).1.1,iv (Jsb nm s).1.2]) rfl rfl rfl (by omega)
 have stD':J0K Tryz.prog (H2.push (.row [iv 0,iv 0] 32 false false)) 32 (.pointer (some ⟨H2.next,0,none⟩)) (J2k (Jsb nm s).1.1 (Jsb nm s).1.2)=some D:=stD
 have oDA:∀ i,i<A.next→D.get i=A.get i:=fun i hi=>by rw[oD i (by omega),o2 i (by omega),oBA i hi]
 have lAD:ldN 8 0 (D.get h.next)=some (.agg #[.string nm,vr,vq,vv,vt,vu,vo,iv s.miss]):=by rw[oDA _ (by omega)];exact lA
 have hpD:J3x 0 D (.agg #[.string nm,vr,vq,vv,vt,vu,vo,iv s.miss]) nm s:=hp.mono (by omega) fun i _ hi=>by rw[oDA i (by omega),gO i hi]
 obtain⟨v3,H3,hk3,⟨tw,hv3,hI3⟩,f3,n3,o3⟩:=Jtv (n:=n) hpD h64 hsm (by omega) (by omega) (by omega)
 subst hv3
 have hk3':=x_k (n:=n) (by decide) hk3
 obtain⟨E,stE,gE1,nE,fE,oE⟩:=Jsj (t:=32) sz33 (H:=H3) (zs:=[iv 0,iv 0]) (vs:=[iv (Jsb nm s).1.1,iv (Jsb nm s).1.2]) rfl rfl rfl (by omega)
 have stE':J0K Tryz.prog (H3.push (.row [iv 0,iv 0] 32 false false)) 32 (.pointer (some ⟨H3.next,0,none⟩)) (J2k (Jsb nm s).1.1 (Jsb nm s).1.2)=some E:=stE
 have oEA:∀ i,i<A.next→E.get i=A.get i:=fun i hi=>by rw[oE i (by omega),o3 i (by omega),oDA i hi]
 have oEB:∀ i,i<B.next→E.get i=B.get i:=fun i hi=>by rw[oE i (by omega),o3 i (by omega),oD i (by omega),o2 i hi]
 have lPE:ldN 8 0 (E.get H1.next)=some v1:=by rw[oEB _ (by omega)];exact lP
 have lAE:ldN 8 0 (E.get h.next)=some (.agg #[.string nm,vr,vq,vv,vt,vu,vo,iv s.miss]):=by rw[oEA _ (by omega)];exact lA
 have hLE:Lent8 E (A.next+3) v1 nm s:=hLB.monoT (by omega) fun i h1 h2=>oEB i (by omega)
 obtain⟨K,hk4,n4,f4,o4⟩:=JrD (n:=n) hLE hpA (by omega) oEA (by omega) hsm (by omega) (by omega)
 have hk4':=x_k (n:=n) (by decide) hk4
 have lF1:ldN 2 0 (K.get H2.next)=some (J2k (Jsb nm s).1.1 (Jsb nm s).1.2):=by rw[o4 _ (by omega) (.inr (by omega)),oE _ (by omega),o3 _ (by omega),gD1];rfl
 have lF2:ldN 2 0 (K.get H3.next)=some (J2k (Jsb nm s).1.1 (Jsb nm s).1.2):=by rw[o4 _ (by omega) (.inr (by omega)),gE1];rfl
 have hlen:=Jt3 (nm:=nm) (s:=s)
 have hsame:=Jqd (n:=n) (h:=K) (J1S.mono hI2 (by omega) fun i h1 h2=>by rw[o4 i (by omega) (.inr (by omega)),oE i (by omega),o3 i (by omega),oD i (by omega)]) (J1S.mono hI3 (by omega) fun i h1 h2=>by rw[o4 i (by omega) (.inr (by omega)),oE i (by omega)]) (by omega) (by omega)
 have hsame':=x_k (n:=n) (by decide) hsame
 simp only[evC,seval,↓evP,hr,J1b,hhd,lA,hk1',J5F,J3Y,zc30,stB,lP,hk2',J3C,J1t,zc33,stD',lAD,hk3',stE',lPE,lAE,hk4',J2n,lF1,lF2,Jtx,hsame']
end
end Go.Proofs.YtdejoodfeljmkaaGreatDoor
namespace Go.Proofs.YtdejoodfeljmkaaGreatDoor
open Go Go.Sx Go.ChangeShapes Go.WideShapes Go.ChangeAt Go.RowKit
set_option maxRecDepth 100000
set_option linter.unusedSimpArgs false
set_option linter.unusedVariables false
section
variable {α:Type} {cells:α→List Value} {w:Nat} {l:List α}
theorem Jrr (hcl:∀ x,(cells x).length=w):(l.flatMap cells).length=l.length*w:=by
 induction l with
 | nil=>simp
 | cons x l ih=>
  rw[List.flatMap_cons,List.length_append,ih,hcl,List.length_cons,Nat.succ_mul]
  omega
theorem Jr3 (hcl:∀ x,(cells x).length=w):∀ {l:List α} {i j:Nat} {x:α},l[i]?=some x→j<w→(l.flatMap cells)[i*w+j]?=(cells x)[j]?
 | [],i,j,x,h,_=>by simp at h
 | y :: l,0,j,x,h,hj=>by
  cases h
  rw[List.flatMap_cons,Nat.zero_mul,Nat.zero_add,List.getElem?_append_left (by rw[hcl];exact hj)]
 | y :: l,i+1,j,x,h,hj=>by
  have h':l[i]?=some x:=h
  rw[List.flatMap_cons,List.getElem?_append_right (by rw[hcl,Nat.succ_mul];omega),hcl,← Jr3 hcl h' hj]
  congr 1
  rw[Nat.succ_mul]
  omega
end
def Jq0 (W:World) (v:Value) (n w:Nat) (cs:List Value):Prop:=cs.length=n*w∧((n=0∧v=.slice none 0 0) ∨
 ∃ b off cap CS ty fr,v=.slice (some ⟨b,off,none⟩) n cap∧n≤cap∧cap<unk∧W.heap[b]?=some (.cells CS ty fr)∧∀ k,k<n*w→CS[off+k]?=cs[k]?)
section
variable {H:Type} {enc:TypeId × Value→H} {W:World} {base b0:Nat} {sp:Nat→Bool} {hd:Bool}
theorem Jq1 {α:Type} {cells:α→List Value} {Q:α→Prop} {w:Nat} {t e:TypeId} (ht:Tryz.prog.underlying t=some (.slice e)) (hw:Tryz.prog.cellsOf e=w)
  (hopen:∀ n cs y,DataW.trod enc Tryz.prog W base sp hd n e cs=some y→∃ x,cs=cells x∧Q x) (hcl:∀ x,(cells x).length=w) (hw0:0<w)
  {v:Value} {n:Nat} {y:DataW H × List MemPlace} (hval:Cell.okWide Tryz.prog W .any b0 t v) (h:DataW.trod enc Tryz.prog W base sp hd n t [v]=some y):∃ l:List α,(∀ x∈l,Q x)∧Jq0 W v l.length w (l.flatMap cells):=by
 rcases DataW.trod_slice ht h with⟨h1,h2⟩ | ⟨a',len,cap,elems,rest,n',_,h1,_,hb,hl,hm,hlen,hel,_⟩
 ·cases h1
  exact⟨[],fun x hx=>(by cases hx),by simp,.inl ⟨rfl,rfl⟩⟩
 ·cases h1
  simp only[Cell.okWide,ht,Cell.ok] at hval
  obtain⟨_,_,_,hsp,row,cells',hsh,_⟩:=hval
  obtain⟨b,off,spot⟩:=a'
  simp only at hsp
  subst hsp
  have hblk:∃ CS ty fr,W.heap[b]?=some (.cells CS ty fr):=by
   simp only[World.shape?] at hsh
   split at hsh
   ·rename_i CS ty fr hh;exact⟨_,_,_,hh⟩
   ·cases hsh
  obtain⟨CS,ty,fr,hblk⟩:=hblk
  have each:∀ i,i<len→∃ x:α,Q x∧∀ j,j<w→CS[off+(i*w+j)]?=(cells x)[j]?:=fun i hi=>by
   have:=hel i hi
   obtain⟨y,hy⟩:∃ y,elems[i]?=some y:=⟨_,List.getElem?_eq_getElem (by omega)⟩
   rw[hy,J9W,hw,Option.bind_eq_some_iff] at this
   obtain⟨cs,hcs,ht⟩:=this
   obtain⟨x,rfl,hx⟩:=hopen _ _ _ ht
   obtain⟨_,hc⟩:=Jen hcs
   refine⟨x,hx,fun j hj=>?_⟩
   rw[← hc j hj,← Nat.add_assoc]
   simp only[World.cell?,hblk,Option.isSome_none,Bool.false_eq_true,if_false]
  obtain⟨l,hll,hl1⟩:∃ l:List α,l.length=len∧∀ i x,l[i]?=some x→Q x∧∀ j,j<w→CS[off+(i*w+j)]?=(cells x)[j]?:=by
   have : ∀ m,m≤len→∃ l:List α,l.length=m∧∀ i x,l[i]?=some x→Q x∧∀ j,j<w→CS[off+(i*w+j)]?=(cells x)[j]?:=by
    intro m
    induction m with
    | zero=>exact fun _=>⟨[],rfl,fun i x h=>by simp at h⟩
    | succ m ih=>
     intro hm
     obtain⟨l,h1,h2⟩:=ih (by omega)
     obtain⟨x,hx⟩:=each m (by omega)
     refine⟨l++[x],by simp[h1],fun i y hy=>?_⟩
     rcases Nat.lt_or_ge i l.length with h3 | h3
     ·rw[List.getElem?_append_left h3] at hy
      exact h2 i y hy
     ·rw[List.getElem?_append_right h3] at hy
      have:i-l.length=0:=by
       rcases Nat.eq_zero_or_pos (i-l.length) with h4 | h4
       ·exact h4
       ·rw[List.getElem?_eq_none (by simp;omega)] at hy
        cases hy
      rw[this] at hy
      cases hy
      have:i=m:=by omega
      subst this
      exact hx
   exact this len (Nat.le_refl _)
  unfold maxLen at hm
  refine⟨l,fun x hx=>?_,Jrr hcl,.inr ⟨b,off,cap,CS,ty,fr,by rw[hll],by omega,by unfold unk;omega,hblk,fun k hk=>?_⟩⟩
  ·obtain⟨i,hi⟩:=List.getElem?_of_mem hx
   exact(hl1 i x hi).1
  ·have hdm:=Nat.div_add_mod k w
   rw[Nat.mul_comm] at hdm
   have hj:=Nat.mod_lt k hw0
   have hi:k/w<l.length:=(Nat.div_lt_iff_lt_mul hw0).2 hk
   have hx:=List.getElem?_eq_getElem hi
   rw[← hdm,(hl1 _ _ hx).2 _ hj,Jr3 hcl hx hj]
end
structure Piece where
 v:Value
 n:Nat
 w:Nat
 cs:List Value
 ty:TypeId
noncomputable def JpW:SHeap→List Piece→SHeap
 | h,[]=>h
 | h,p :: ps=>JpW (h.push (.row p.cs p.ty false true)) ps
theorem Jq4:∀ (ps:List Piece) (h:SHeap),(JpW h ps).next=h.next+ps.length∧(JpW h ps).floor=h.floor∧∀ i,i<h.next→(JpW h ps).get i=h.get i
 | [],h=>⟨rfl,rfl,fun _ _=>rfl⟩
 | p :: ps,h=>by
  obtain⟨h1,h2,h3⟩:=Jq4 ps (h.push (.row p.cs p.ty false true))
  rw[J1D] at h1 h3
  refine⟨by show (JpW _ ps).next=_;rw[h1,List.length_cons];omega,h2,fun i hi=>?_⟩
  show (JpW _ ps).get i=_
  rw[h3 i (by omega),J06 hi]
theorem Jqa:∀ {ps:List Piece} {h:SHeap} {i:Nat} {p:Piece},ps[i]?=some p→(JpW h ps).get (h.next+i)=.row p.cs p.ty false true
 | [],h,i,p,hp=>by simp at hp
 | q :: ps,h,0,p,hp=>by
  cases hp
  show (JpW _ ps).get h.next=_
  rw[(Jq4 ps _).2.2 _ (by rw[J1D];omega),J0h]
 | q :: ps,h,i+1,p,hp=>by
  have:=Jqa (ps:=ps) (h:=h.push (.row q.cs q.ty false true)) (i:=i) (p:=p) hp
  rw[J1D] at this
  show (JpW _ ps).get (h.next+(i+1))=_
  rw[← this]
  congr 1
  omega
def locP (p:Piece):Go.Sx.Loc:=match p.v with
 | .slice (some a) _ _=>⟨a.block,a.off,0,0⟩
 | _=>⟨0,0,0,0⟩
def mapL (ps:List Piece):Map:=fun i=>if i=0 then some ⟨0,0,0,0⟩ else (ps[i-1]?).map locP
def svP (i:Nat) (p:Piece):Value:=match p.v with
 | .slice (some _) n c=>.slice (some ⟨i,0,none⟩) n c
 | v=>v
theorem Jql {ps:List Piece} {i:Nat} {p:Piece} (h:ps[i]?=some p):mapL ps (i+1)=some (locP p):=by
 unfold mapL
 rw[if_neg (by omega),Nat.add_sub_cancel,h]
 rfl
theorem relL {W : World} (h : laidMetH Tryz.prog [("winnow/lex.words", Rows.laid_winnow_lex_words)] W) {ps : List Piece} (hps : ∀ p ∈ ps, Jq0 W p.v p.n p.w p.cs ∧ ∀ v ∈ p.cs, J1i v = true) :
  Rel Tryz.prog (mapL ps) (JpW Jfv ps) W∧(∀ i,¬ wr ((JpW Jfv ps).get i))∧(JpW Jfv ps).next=ps.length+1∧(JpW Jfv ps).floor=0∧(JpW Jfv ps).get 0=J14 ∧
   ∀ (i:Nat) p,ps[i]?=some p→vrel (mapL ps) (svP (i+1) p) p.v∧J0p 0 (JpW Jfv ps) (svP (i+1) p) p.n p.w p.cs:=by
 obtain⟨hn,hf,ho⟩:=Jq4 ps Jfv
 have h01:Jfv.next=1:=rfl
 rw[h01] at hn ho
 obtain⟨CS0,ty0,fr0,hb0,hcs0⟩:=J5Q (zs:=J2D) (rest:=[]) JfI J7e Tryz.underlying145 Tryz.underlying9 JfP J7w h
 have hget:∀ (i:Nat) p,ps[i]?=some p→(JpW Jfv ps).get (i+1)=.row p.cs p.ty false true:=fun i p hp=>by
  have:=Jqa (h:=Jfv) hp
  rw[h01,Nat.add_comm] at this
  exact this
 have hro:=Jcz (P:=Tryz.prog) (W:=W) (ρ:=mapL ps) (h:=JpW Jfv ps) rfl (fun i hi=>by
   unfold mapL
   rw[if_neg (by omega),List.getElem?_eq_none (by omega)]
   rfl) (fun g hg=>by
   rw[Jg1] at hg
   obtain rfl:g=0:=by omega
   exact⟨_,rfl,rfl,rfl⟩) (fun i hi=>by
   rw[hn] at hi
   cases i with
   | zero=>
    refine⟨J5v,9,false,⟨0,0,0,0⟩,CS0,ty0,fr0,(ho 0 (by omega)).trans rfl,rfl,hb0,fun k v hv=>⟨v,?_,?_⟩⟩
    ·have:CS0.toList[k]?=some v:=by rw[hcs0];exact hv
     simpa using this
    ·have hm:v∈J5v:=List.mem_of_getElem? hv
     obtain⟨z,_,rfl⟩:=List.mem_map.1 hm
     exact .flat rfl
   | succ i=>
    obtain⟨p,hp⟩:∃ p,ps[i]?=some p:=⟨_,List.getElem?_eq_getElem (by omega)⟩
    obtain⟨⟨hl,hor⟩,hfl⟩:=hps p (List.mem_of_getElem? hp)
    rcases hor with⟨h0,hv⟩ | ⟨b,off,cap,CS,ty,fr,hv,h1,h2,h3,h4⟩
    ·refine⟨p.cs,p.ty,false,locP p,CS0,ty0,fr0,hget i p hp,Jql hp,by unfold locP;rw[hv];exact hb0,fun k v hk=>?_⟩
     have:=(List.getElem?_eq_some_iff.1 hk).1
     rw[hl,h0,Nat.zero_mul] at this
     omega
    ·refine⟨p.cs,p.ty,false,locP p,CS,ty,fr,hget i p hp,Jql hp,by unfold locP;rw[hv];exact h3,fun k v hk=>⟨v,?_,.flat (hfl v (List.mem_of_getElem? hk))⟩⟩
     have hkl:=(List.getElem?_eq_some_iff.1 hk).1
     have e:(locP p).d=off:=by unfold locP;rw[hv]
     rw[e,h4 k (by omega)]
     exact hk)
 refine⟨hro.1,hro.2,by omega,hf,(ho 0 (by omega)).trans rfl,fun i p hp=>?_⟩
 obtain⟨⟨hl,hor⟩,hfl⟩:=hps p (List.mem_of_getElem? hp)
 have hil:=(List.getElem?_eq_some_iff.1 hp).1
 rcases hor with⟨h0,hv⟩ | ⟨b,off,cap,CS,ty,fr,hv,h1,h2,h3,h4⟩
 ·have e:svP (i+1) p=.slice none 0 0:=by unfold svP;rw[hv]
  have ecs:p.cs=[]:=List.length_eq_zero_iff.1 (by rw[hl,h0,Nat.zero_mul])
  rw[e,hv,ecs,h0]
  exact⟨.flat rfl,J0p.nil _ _ _⟩
 ·have e:svP (i+1) p=.slice (some ⟨i+1,0,none⟩) p.n cap:=by unfold svP;rw[hv]
  have eL:locP p=⟨b,off,0,0⟩:=by unfold locP;rw[hv]
  rw[e]
  refine⟨?_,J0p.rowR (ex:=[]) (by rw[List.append_nil];exact hget i p hp) ⟨Nat.zero_le _,by omega⟩ hl fun h=>absurd h (Nat.lt_irrefl 0)⟩
  rw[hv]
  exact vrel.slice (L:=⟨b,off,0,0⟩) (by rw[Jql hp,eL]) h2
theorem Jrg:Tryz.prog.cellsOf 27=8:=by kernel_rfl
theorem Jr8:Tryz.prog.cellsOf 75=2:=by kernel_rfl
theorem JrW:Tryz.prog.cellsOf 4=1:=by kernel_rfl
theorem JpY:Tryz.prog.cellsOf 22=1∧Tryz.prog.cellsOf 23=1∧Tryz.prog.cellsOf 24=1∧Tryz.prog.cellsOf 25=1:=⟨by kernel_rfl,by kernel_rfl,by kernel_rfl,by kernel_rfl⟩
theorem JqV:Tryz.prog.cellTypes Tryz.prog.depth 27=some [9,22,23,24,24,25,25,3]:=by kernel_rfl
structure PolW (W:World) (v:Value) (nm:ByteArray) (s:StN):Prop where
 ok:∃ vr vq vv vt vu vo,v=.agg #[.string nm,vr,vq,vv,vt,vu,vo,iv s.miss]∧Jq0 W vr s.rows.length 5 (s.rows.flatMap J0e)∧Jq0 W vq s.queues.length 2 (J3S s.queues)∧Jq0 W vv s.vars.length 1 (strs s.vars)∧Jq0 W vt s.tags.length 1 (strs s.tags)∧Jq0 W vu s.rules.length 1 (ints s.rules)∧Jq0 W vo s.on.length 1 (ints s.on)
 rows:∀ x∈s.rows,Jd7 x
 miss:-9223372036854775808≤s.miss∧s.miss≤9223372036854775807
 rules:∀ x∈s.rules,-9223372036854775808≤x∧x≤9223372036854775807
 on:∀ x∈s.on,-9223372036854775808≤x∧x≤9223372036854775807
theorem Jr9 (l:List ByteArray):l.flatMap (fun x=>[Value.string x])=strs l:=by
 induction l with
 | nil=>rfl
 | cons x l ih=>rw[List.flatMap_cons,ih];rfl
theorem Jqb (l:List Int):l.flatMap (fun x=>[iv x])=ints l:=by
 induction l with
 | nil=>rfl
 | cons x l ih=>rw[List.flatMap_cons,ih];rfl
section
variable {H:Type} {enc:TypeId × Value→H} {W:World} {base b0:Nat} {sp:Nat→Bool} {hd:Bool}
theorem JqP {n:Nat} {cs:List Value} {y:DataW H × List MemPlace} (h:DataW.trod enc Tryz.prog W base sp hd n 75 cs=some y):∃ x:ByteArray × Bool,cs=[.string x.1,.bool x.2]∧True:=by
 obtain⟨xs,m,_,_,hl,hxl,hf⟩:=DataW.trod_struct Tryz.underlying75 h
 rw[Jr8] at hl
 obtain⟨c0,c1,rfl⟩:∃ c0 c1,cs=[c0,c1]:=by
  match cs,hl with
  | [a,b],_=>exact⟨a,b,rfl⟩
 have hxl:xs.length=2:=hxl
 have g:∀ i,i<2→∃ y,xs[i]?=some y:=fun i hi=>⟨_,List.getElem?_eq_getElem (by omega)⟩
 obtain⟨y0,e0⟩:=g 0 (by omega)
 obtain⟨y1,e1⟩:=g 1 (by omega)
 have f0:DataW.trod enc Tryz.prog W base sp hd m 9 (([c0,c1].drop 0).take (Tryz.prog.cellsOf 9))=xs[0]?:=hf 0 _ rfl
 rw[Jhu,e0] at f0
 have f1:DataW.trod enc Tryz.prog W base sp hd m 4 (([c0,c1].drop 1).take (Tryz.prog.cellsOf 4))=xs[1]?:=hf 1 _ rfl
 rw[JrW,e1] at f1
 obtain⟨a,ha,_⟩:=DataW.trod_string Tryz.underlying9 f0
 obtain⟨b,hb,_⟩:=DataW.trod_bool Tryz.underlying4 f1
 cases ha
 cases hb
 exact⟨(a,b),rfl,trivial⟩
theorem Jqm {n:Nat} {cs:List Value} {y:DataW H × List MemPlace} (h:DataW.trod enc Tryz.prog W base sp hd n 9 cs=some y):∃ x:ByteArray,cs=[.string x]∧True:=by
 obtain⟨a,ha,_⟩:=DataW.trod_string Tryz.underlying9 h
 exact⟨a,ha,trivial⟩
theorem Jq6 {n:Nat} {cs:List Value} {y:DataW H × List MemPlace} (h:DataW.trod enc Tryz.prog W base sp hd n 3 cs=some y):∃ x:Int,cs=[iv x]∧(-9223372036854775808≤x∧x≤9223372036854775807):=by
 obtain⟨a,ha,_,wa⟩:=DataW.trod_int Tryz.underlying3 h
 exact⟨a,ha,bounds_i64 wa⟩
theorem JrU {v:Value} {d:DataW H} {p:List MemPlace} (hval:Value.okWide Tryz.prog W .any b0 27 v) (h:DataW.Trod enc Tryz.prog W base sp hd 27 v d p):∃ nm s,PolW W v nm s:=by
 simp only[Value.okWide,Tryz.underlying27] at hval
 obtain⟨CS,rfl,hsz,ts,hts,_,hcell⟩:=hval
 rw[JqV] at hts
 cases hts
 obtain⟨fuel,hf⟩:=h
 have hcs:(Value.agg CS).cells.toList=CS.toList:=rfl
 rw[hcs] at hf
 obtain⟨xs,m,_,_,hl,hxl,hf⟩:=DataW.trod_struct Tryz.underlying27 hf
 rw[Jrg] at hl
 obtain⟨c0,c1,c2,c3,c4,c5,c6,c7,hcs⟩:∃ c0 c1 c2 c3 c4 c5 c6 c7,CS.toList=[c0,c1,c2,c3,c4,c5,c6,c7]:=by
  match CS.toList,hl with
  | [a,b,c,d,e,f,g,i],_=>exact⟨a,b,c,d,e,f,g,i,rfl⟩
 obtain rfl:CS=#[c0,c1,c2,c3,c4,c5,c6,c7]:=by cases CS;simp_all
 have hxl:xs.length=8:=hxl
 have g:∀ i,i<8→∃ y,xs[i]?=some y:=fun i hi=>⟨_,List.getElem?_eq_getElem (by omega)⟩
 obtain⟨y0,e0⟩:=g 0 (by omega)
 obtain⟨y1,e1⟩:=g 1 (by omega)
 obtain⟨y2,e2⟩:=g 2 (by omega)
 obtain⟨y3,e3⟩:=g 3 (by omega)
 obtain⟨y4,e4⟩:=g 4 (by omega)
 obtain⟨y5,e5⟩:=g 5 (by omega)
 obtain⟨y6,e6⟩:=g 6 (by omega)
 obtain⟨y7,e7⟩:=g 7 (by omega)
 have f0:DataW.trod enc Tryz.prog W base sp hd m 9 (([c0,c1,c2,c3,c4,c5,c6,c7].drop 0).take (Tryz.prog.cellsOf 9))=xs[0]?:=hf 0 _ rfl
 rw[Jhu,e0] at f0
 have f1:DataW.trod enc Tryz.prog W base sp hd m 22 (([c0,c1,c2,c3,c4,c5,c6,c7].drop 1).take (Tryz.prog.cellsOf 22))=xs[1]?:=hf 1 _ rfl
 rw[JpY.1,e1] at f1
 have f2:DataW.trod enc Tryz.prog W base sp hd m 23 (([c0,c1,c2,c3,c4,c5,c6,c7].drop 2).take (Tryz.prog.cellsOf 23))=xs[2]?:=hf 2 _ rfl
 rw[JpY.2.1,e2] at f2
 have f3:DataW.trod enc Tryz.prog W base sp hd m 24 (([c0,c1,c2,c3,c4,c5,c6,c7].drop 3).take (Tryz.prog.cellsOf 24))=xs[3]?:=hf 3 _ rfl
 rw[JpY.2.2.1,e3] at f3
 have f4:DataW.trod enc Tryz.prog W base sp hd m 24 (([c0,c1,c2,c3,c4,c5,c6,c7].drop 4).take (Tryz.prog.cellsOf 24))=xs[4]?:=hf 4 _ rfl
 rw[JpY.2.2.1,e4] at f4
 have f5:DataW.trod enc Tryz.prog W base sp hd m 25 (([c0,c1,c2,c3,c4,c5,c6,c7].drop 5).take (Tryz.prog.cellsOf 25))=xs[5]?:=hf 5 _ rfl
 rw[JpY.2.2.2,e5] at f5
 have f6:DataW.trod enc Tryz.prog W base sp hd m 25 (([c0,c1,c2,c3,c4,c5,c6,c7].drop 6).take (Tryz.prog.cellsOf 25))=xs[6]?:=hf 6 _ rfl
 rw[JpY.2.2.2,e6] at f6
 have f7:DataW.trod enc Tryz.prog W base sp hd m 3 (([c0,c1,c2,c3,c4,c5,c6,c7].drop 7).take (Tryz.prog.cellsOf 3))=xs[7]?:=hf 7 _ rfl
 rw[Jag,e7] at f7
 have hc:∀ i v u,(#[c0,c1,c2,c3,c4,c5,c6,c7]:Array Value)[i]?=some v→([9,22,23,24,24,25,25,3]:List Nat)[i%8]?=some u→Cell.okWide Tryz.prog W .any b0 u v:=fun i v u hi hu=>by
  obtain⟨u',h1,h2⟩:=hcell i v hi
  have:u'=u:=Option.some.inj (h1.symm.trans hu)
  subst this
  exact h2
 obtain⟨nm,hnm,_⟩:=Jqm f0
 obtain⟨lr,ir,sr⟩:=Jq1 Tryz.underlying22 J9Y (fun n cs y h=>JcH h) (fun _=>rfl) (by decide) (hc 1 _ _ rfl rfl) f1
 obtain⟨lq,_,sq⟩:=Jq1 (cells:=fun x:ByteArray × Bool=>[.string x.1,.bool x.2]) Tryz.underlying23 Jr8 (fun n cs y h=>JqP h) (fun _=>rfl) (by decide) (hc 2 _ _ rfl rfl) f2
 obtain⟨lv,_,sv⟩:=Jq1 (cells:=fun x:ByteArray=>[.string x]) Tryz.underlying24 Jhu (fun n cs y h=>Jqm h) (fun _=>rfl) (by decide) (hc 3 _ _ rfl rfl) f3
 obtain⟨lt,_,st⟩:=Jq1 (cells:=fun x:ByteArray=>[.string x]) Tryz.underlying24 Jhu (fun n cs y h=>Jqm h) (fun _=>rfl) (by decide) (hc 4 _ _ rfl rfl) f4
 obtain⟨lu,iu,su⟩:=Jq1 (cells:=fun x:Int=>[iv x]) Tryz.underlying25 Jag (fun n cs y h=>Jq6 h) (fun _=>rfl) (by decide) (hc 5 _ _ rfl rfl) f5
 obtain⟨lo,io,so⟩:=Jq1 (cells:=fun x:Int=>[iv x]) Tryz.underlying25 Jag (fun n cs y h=>Jq6 h) (fun _=>rfl) (by decide) (hc 6 _ _ rfl rfl) f6
 obtain⟨ms,hms,bms⟩:=Jq6 f7
 obtain rfl:c0=.string nm:=by simpa using hnm
 obtain rfl:c7=iv ms:=by simpa using hms
 rw[Jr9] at sv st
 rw[Jqb] at su so
 exact⟨nm,⟨lr,lq,lv,lt,lu,lo,ms,[]⟩,⟨c1,c2,c3,c4,c5,c6,rfl,sr,sq,sv,st,su,so⟩,ir,bms,iu,io⟩
end
theorem relP {W : World} (h : laidMetH Tryz.prog [("winnow/lex.words", Rows.laid_winnow_lex_words)] W) {v : Value} {nm : ByteArray} {s : StN} (hv : PolW W v nm s) :
  ∃ hp ρ sv,Rel Tryz.prog ρ hp W∧(∀ i,¬ wr (hp.get i))∧vrel ρ sv v∧J3x 0 hp sv nm s∧hp.floor=0∧hp.get 0=J14∧0<hp.next:=by
 obtain⟨vr,vq,vv,vt,vu,vo,rfl,s1,s2,s3,s4,s5,s6⟩:=hv.ok
 have hR:=relL h (ps:=[⟨vr,_,_,_,60⟩,⟨vq,_,_,_,75⟩,⟨vv,_,_,_,9⟩,⟨vt,_,_,_,9⟩,⟨vu,_,_,_,3⟩,⟨vo,_,_,_,3⟩]) (fun p hp=>by
  simp only[List.mem_cons,List.not_mem_nil,or_false] at hp
  rcases hp with rfl | rfl | rfl | rfl | rfl | rfl
  ·refine⟨s1,fun v hv=>?_⟩
   obtain⟨x,_,hx⟩:=List.mem_flatMap.1 hv
   obtain⟨j,hj⟩:=List.getElem?_of_mem hx
   exact J7Q hj
  ·refine⟨s2,fun v hv=>?_⟩
   obtain⟨x,_,hx⟩:=List.mem_flatMap.1 hv
   simp only[List.mem_cons,List.not_mem_nil,or_false] at hx
   rcases hx with rfl | rfl <;> rfl
  ·refine⟨s3,fun v hv=>?_⟩
   obtain⟨x,_,rfl⟩:=List.mem_map.1 hv
   rfl
  ·refine⟨s4,fun v hv=>?_⟩
   obtain⟨x,_,rfl⟩:=List.mem_map.1 hv
   rfl
  ·refine⟨s5,fun v hv=>?_⟩
   obtain⟨x,_,rfl⟩:=List.mem_map.1 hv
   rfl
  ·refine⟨s6,fun v hv=>?_⟩
   obtain⟨x,_,rfl⟩:=List.mem_map.1 hv
   rfl)
 obtain⟨r1,r2,r3,r4,r5,r6⟩:=hR
 obtain⟨a0,b0⟩:=r6 0 _ rfl
 obtain⟨a1,b1⟩:=r6 1 _ rfl
 obtain⟨a2,b2⟩:=r6 2 _ rfl
 obtain⟨a3,b3⟩:=r6 3 _ rfl
 obtain⟨a4,b4⟩:=r6 4 _ rfl
 obtain⟨a5,b5⟩:=r6 5 _ rfl
 refine⟨_,_,.agg #[.string nm,_,_,_,_,_,_,iv s.miss],r1,r2,.agg (.cons (.flat rfl) (.cons a0 (.cons a1 (.cons a2 (.cons a3 (.cons a4 (.cons a5 (.cons (.flat rfl) .nil)))))))),⟨_,_,_,_,_,_,rfl,J3P.of b0,b1,b2,b3,b4,b5⟩,r4,r5,by omega⟩
section
variable {H:Type} {enc:TypeId × Value→H} {W:World} {base b0:Nat} {sp:Nat→Bool} {hd:Bool} {v:Value} {d:DataW H} {p:List MemPlace}
end
theorem JrH {H:Type} (d:DataW H):1≤Rows.uptoBulk d:=by
 cases d with
 | lit l=>cases l <;> simp[Rows.uptoBulk]
 | nil=>simp[Rows.uptoBulk]
 | ptr d=>simp[Rows.uptoBulk]
 | slice elems spare=>simp[Rows.uptoBulk]
 | agg parts=>simp[Rows.uptoBulk]
 | iface t d=>simp[Rows.uptoBulk]
 | map entries=>simp[Rows.uptoBulk]
 | held h=>simp[Rows.uptoBulk]
theorem JqY {H:Type} (l:List (DataW H)):l.length≤Rows.uptoBulkAll l:=by
 induction l with
 | nil=>simp[Rows.uptoBulkAll]
 | cons x r ih=>have:=JrH x;simp only[Rows.uptoBulkAll,List.length_cons];omega
theorem Jq0.sl {W:World} {v:Value} {n w:Nat} {cs:List Value} (h:Jq0 W v n w cs):∃ a c,v=.slice a n c:=by
 obtain⟨_,⟨rfl,rfl⟩ | ⟨b,off,cap,CS,ty,fr,rfl,_⟩⟩:=h
 ·exact⟨_,_,rfl⟩
 ·exact⟨_,_,rfl⟩
section
variable {H:Type} {enc:TypeId × Value→H} {W:World} {base b0:Nat} {sp:Nat→Bool} {hd:Bool}
theorem JpZ {t e:TypeId} (ht:Tryz.prog.underlying t=some (.slice e)) {n m:Nat} {v:Value} {cs:List Value} {w:Nat} (hv:Jq0 W v m w cs) {y:DataW H × List MemPlace} (h:DataW.trod enc Tryz.prog W base sp hd n t [v]=some y):m≤Rows.uptoBulk y.1:=by
 obtain⟨a,c,rfl⟩:=hv.sl
 rcases DataW.trod_slice ht h with⟨h1,h2⟩ | ⟨a',len,cap,elems,rest,n',_,h1,h2,_,_,_,hlen,_⟩
 ·cases h1
  omega
 ·cases h1
  subst h2
  have h3:=JqY (elems.map (·.1))
  rw[List.length_map] at h3
  simp only[Rows.uptoBulk]
  omega
theorem Jrm {v:Value} {nm:ByteArray} {s:StN} (hp:PolW W v nm s) {d:DataW H} {p:List MemPlace} (h:DataW.Trod enc Tryz.prog W base sp hd 27 v d p):Jbg s≤Rows.uptoBulk d:=by
 obtain⟨c1,c2,c3,c4,c5,c6,rfl,s1,s2,s3,s4,s5,s6⟩:=hp.ok
 obtain⟨fuel,hf⟩:=h
 have hcs:(Value.agg #[.string nm,c1,c2,c3,c4,c5,c6,iv s.miss]).cells.toList=[.string nm,c1,c2,c3,c4,c5,c6,iv s.miss]:=rfl
 rw[hcs] at hf
 obtain⟨xs,m,_,hx,hl,hxl,hf⟩:=DataW.trod_struct Tryz.underlying27 hf
 have hxl:xs.length=8:=hxl
 obtain⟨y0,y1,y2,y3,y4,y5,y6,y7,rfl⟩:∃ y0 y1 y2 y3 y4 y5 y6 y7,xs=[y0,y1,y2,y3,y4,y5,y6,y7]:=by
  match xs,hxl with
  | [a,b,c,d,e,f,g,i],_=>exact⟨a,b,c,d,e,f,g,i,rfl⟩
 have f1:DataW.trod enc Tryz.prog W base sp hd m 22 (([.string nm,c1,c2,c3,c4,c5,c6,iv s.miss].drop 1).take (Tryz.prog.cellsOf 22))=some y1:=hf 1 _ rfl
 rw[JpY.1] at f1
 have f2:DataW.trod enc Tryz.prog W base sp hd m 23 (([.string nm,c1,c2,c3,c4,c5,c6,iv s.miss].drop 2).take (Tryz.prog.cellsOf 23))=some y2:=hf 2 _ rfl
 rw[JpY.2.1] at f2
 have f3:DataW.trod enc Tryz.prog W base sp hd m 24 (([.string nm,c1,c2,c3,c4,c5,c6,iv s.miss].drop 3).take (Tryz.prog.cellsOf 24))=some y3:=hf 3 _ rfl
 rw[JpY.2.2.1] at f3
 have f4:DataW.trod enc Tryz.prog W base sp hd m 24 (([.string nm,c1,c2,c3,c4,c5,c6,iv s.miss].drop 4).take (Tryz.prog.cellsOf 24))=some y4:=hf 4 _ rfl
 rw[JpY.2.2.1] at f4
 have f5:DataW.trod enc Tryz.prog W base sp hd m 25 (([.string nm,c1,c2,c3,c4,c5,c6,iv s.miss].drop 5).take (Tryz.prog.cellsOf 25))=some y5:=hf 5 _ rfl
 rw[JpY.2.2.2] at f5
 have f6:DataW.trod enc Tryz.prog W base sp hd m 25 (([.string nm,c1,c2,c3,c4,c5,c6,iv s.miss].drop 6).take (Tryz.prog.cellsOf 25))=some y6:=hf 6 _ rfl
 rw[JpY.2.2.2] at f6
 have b1:=JpZ Tryz.underlying22 s1 f1
 have b2:=JpZ Tryz.underlying23 s2 f2
 have b3:=JpZ Tryz.underlying24 s3 f3
 have b4:=JpZ Tryz.underlying24 s4 f4
 have b5:=JpZ Tryz.underlying25 s5 f5
 have b6:=JpZ Tryz.underlying25 s6 f6
 have e:d=.agg ([y0,y1,y2,y3,y4,y5,y6,y7].map (·.1)):=congrArg (·.1) hx
 rw[e]
 simp only[Rows.uptoBulk,Rows.uptoBulkAll,List.map_cons,List.map_nil,Jbg]
 omega
end
end Go.Proofs.YtdejoodfeljmkaaGreatDoor
