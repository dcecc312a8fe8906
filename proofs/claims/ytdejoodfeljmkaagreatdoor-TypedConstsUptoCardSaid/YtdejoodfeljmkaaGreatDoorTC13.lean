/- Part 13 of what the claim leans on: 8 texts laid one behind another. -/
import Derived.Test.YtdejoodfeljmkaaGreatDoorTC12
namespace Go.Proofs.YtdejoodfeljmkaaGreatDoor
open Go Go.Sx
set_option maxRecDepth 100000
set_option linter.unusedSimpArgs false
set_option linter.unusedVariables false
set_option maxHeartbeats 64000000
theorem J1a {P:Program}:J0k P Go.program=some P:=rfl
theorem J0C {P:Program} {α:Type} {a:α}:J0k P (pure a:Sem α)=some a:=rfl
theorem eqi {P:Program} {t:TypeId} {k0 k:IntKind} {a b:Int} (h:P.underlying t=some (.int k0)) (d:Nat):J0k P (Op.equalIn (d+1) t (.int k a) (.int k b))=some (a==b):=by
 rw[Op.equalIn,J0c,J1R h]
 simp[J0C]
theorem J62 {a b:Int}:J0k Tryz.prog (part 3 #[.int .i64 a,.int .i64 b] 0)=some (.int .i64 a)∧J0k Tryz.prog (part 3 #[.int .i64 a,.int .i64 b] 1)=some (.int .i64 b)∧J0k Tryz.prog (part 30 #[.int .i64 a,.int .i64 b] 0)=some (.int .i64 a):=⟨rfl,rfl,rfl⟩
theorem Jex:Tryz.prog.stoodInHeld 110=false:=by kernel_rfl
theorem Jgk:Tryz.prog.stoodInHeld 32=false:=by kernel_rfl
abbrev J2R (a b:Int):Value:=.agg #[.int .i64 a,.int .i64 b]
theorem J8W {a b:Int}:flat (J2R a b)=true:=rfl
theorem Jed {a b c d:Int} (n:Nat):J0k Tryz.prog (Op.equalIn (n+2) 110 (J2R a b) (J2R c d))=some (a==c&&b==d):=by
 rw[Op.equalIn,J0c,J1R Tryz.underlying110]
 simp only[Option.bind_some,J0c,J1a,Jex,Bool.false_eq_true,if_false]
 simp only[List.forIn_toArray,List.forIn_cons,List.forIn_nil,ne_eq,String.reduceEq,not_false_eq_true,if_true,J0c,J62.1,Option.bind_some,eqi Tryz.underlying3]
 cases h1:(a==c) <;> cases h2:(b==d) <;> simp[J0c,J0C,J62.2.1,eqi Tryz.underlying3,h2,-beq_iff_eq,-beq_eq_false_iff_ne]
theorem JgG {a b c d:Int} (n:Nat):J0k Tryz.prog (Op.equalIn (n+2) 32 (J2R a b) (J2R c d))=some (a==c&&b==d):=by
 rw[Op.equalIn,J0c,J1R Tryz.underlying32]
 simp only[Option.bind_some,J0c,J1a,Jgk,Bool.false_eq_true,if_false]
 simp only[List.forIn_toArray,List.forIn_cons,List.forIn_nil,ne_eq,String.reduceEq,not_false_eq_true,if_true,J0c,J62.2.2,Option.bind_some,eqi Tryz.underlying3,eqi Tryz.underlying30]
 cases h1:(a==c) <;> cases h2:(b==d) <;> simp[J0c,J0C,J62.2.1,eqi Tryz.underlying3,eqi Tryz.underlying30,h2,-beq_iff_eq,-beq_eq_false_iff_ne]
theorem Jfy {x y:Operand} {a b c d:Int}:binS Tryz.prog .neq 110 x y (J2R a b) (J2R c d)=some (.bool (!(a==c&&b==d))):=by
 have e:J0k Tryz.prog (do eqGuard .neq 110 x y (J2R a b) (J2R c d);binOp .neq 110 (J2R a b) (J2R c d))=some (.bool (!(a==c&&b==d))):=by
  rw[J0c]
  have g:J0k Tryz.prog (eqGuard .neq 110 x y (J2R a b) (J2R c d))=some ():=by
   unfold eqGuard
   simp[J0c,J1a,J0C]
  rw[g]
  show J0k Tryz.prog ((do pure (.bool (!(← Op.equal 110 (J2R a b) (J2R c d))))):Sem Value)=_
  rw[J0c]
  have k:J0k Tryz.prog (Op.equal 110 (J2R a b) (J2R c d))=some (a==c&&b==d):=Jed 9998
  rw[k]
  rfl
 simp only[binS,J8W,Bool.and_self,if_true,e,J2F]
theorem eq33 {x y:Operand} {a b c d:Int}:binS Tryz.prog .eql 32 x y (J2R a b) (J2R c d)=some (.bool (a==c&&b==d)):=by
 have e:J0k Tryz.prog (do eqGuard .eql 32 x y (J2R a b) (J2R c d);binOp .eql 32 (J2R a b) (J2R c d))=some (.bool (a==c&&b==d)):=by
  rw[J0c]
  have g:J0k Tryz.prog (eqGuard .eql 32 x y (J2R a b) (J2R c d))=some ():=by
   unfold eqGuard
   simp[J0c,J1a,J0C]
  rw[g]
  show J0k Tryz.prog ((do pure (.bool (← Op.equal 32 (J2R a b) (J2R c d)))):Sem Value)=_
  rw[J0c]
  have k:J0k Tryz.prog (Op.equal 32 (J2R a b) (J2R c d))=some (a==c&&b==d):=JgG 9998
  rw[k]
  rfl
 simp only[binS,J8W,Bool.and_self,if_true,e,J2F]
noncomputable def C5:Code:=rt (rt (rt (rt (Tryz.f53.body.getD .skip))))
noncomputable def Je2:Array Oper:=J18 Tryz.f53 5
def Jhn:List (Bool × Bool × List Operand):=[fa1,fa1,fa1,fa1,fa3 [.tmp 26],fa3 [.tmp 26],fa3 [.tmp 26],fa3 [.tmp 26],fa0,fa0,fa0,fa0,fa3 [.tmp 26,.tmp 30,.tmp 27],fa0,fa0]
theorem Jdj:J1E Je2=Jhn:=by kernel_rfl
theorem J8y {a b c:Value} {ty:TypeId} {g ro:Bool}:ldN 2 0 (.row [a,b,c] ty g ro)=some (.agg #[a,b]):=rfl
section
variable {call:J0r} {N:Nat} {h:SHeap} {lo m k c e r n:Nat} {nm:ByteArray} {E:List Int} {F:List Nat} {tag:Nat→Nat} {vq vv vt vu vo:Value} {es:List (Value × Value)} {s:StN}
theorem JcZ {s:StN} {l:List RowN} {k:Int}:cntN { s with rows:=l } k=cntN s k:=rfl
theorem JcI (hsn:J1G call) {at_:Nat} {x:RowN} (hp:MkE h lo m k c e r n nm E F s) (hx:s.rows[at_]?=some x) (hkind:1≤x.kind∧x.kind≤54) (hn:n<1099511627776)
  (h81:∀ k h',1≤k∧k≤54→call 74 [iv k] h'=some (iv (J1O k),h')) :
  ∃ h',J0L Tryz.prog call N 53 [qP m 0,iv at_] h=some (iv (J1v at_ x s),h')∧(J2W h h' lo F∧(J1v at_ x s=0→MkE h' lo m k c e r n nm E F (J0D at_ x s))):=by
 obtain⟨tag,vq,vv,vt,vu,vo,es,hp,hm,hw,hF⟩:=hp
 have hlF:∀ i,i<lo∨i∈F→i<lo∨(i<h.next∧11≤tag i):=fun i hi=>hi.imp id fun h=>hF i h
 have hll:∀ i,i<lo∨i∈F→i<h.next:=fun i hi=>by have:=hp.lm;have:=hlF i hi;omega
 refine J1N (R:=fun h'=>J2W h h' lo F∧(J1v at_ x s=0→MkE h' lo m k c e r n nm E F (J0D at_ x s))) Tryz.func53 rfl (by simp[Tryz.f53]) ?_
 have hr:Tryz.f53.results.toList=[.tmp 4]:=rfl
 generalize hKK:Kont.top (fun ex s_1=>(ex=SExit.normal∨ex=SExit.ret)∧∃ vs,resS Tryz.prog s_1 Tryz.f53.results.toList=some vs∧resV vs=iv (J1v at_ x s)∧J2W h s_1.h lo F∧(J1v at_ x s=0→MkE s_1.h lo m k c e r n nm E F (J0D at_ x s)))=K
 have fin:∀ (T':Tr) H v,T'.get 4=iv v→v=J1v at_ x s→J2W h H lo F→(v=0→MkE H lo m k c e r n nm E F (J0D at_ x s))→K.ap Tryz.prog call N .ret ⟨T',H⟩:=fun T' H v h6 hv ha hb=>by
  subst hv
  rw[← hKK]
  simp only[evC,↓reduceIte,Nat.reduceEqDiff,reduceCtorEq,↓evP,rpC,Nat.reduceAdd,Nat.reduceLT,hr,h6]
  exact⟨ha,hb⟩
 show WK _ _ _ (.seq _ (.seq _ (.seq _ (.seq _ C5)))) _ _
 have hm1:=hp.c1
 obtain⟨hlt,l0,l1,l2,l3,l4,lr⟩:=hp.row hx
 have hd81:=fun h'=>h81 x.kind h' hkind
 have hdl:=Jcr x.kind
 by_cases d0:J1O x.kind=0
 ·have dE:J1v at_ x s=0:=by unfold J1v;rw[if_pos d0]
  have dS:J0D at_ x s=s:=by unfold J0D;rw[if_pos d0]
  have b0:(J1O x.kind==0)=true:=by simpa using d0
  simp only[evC,seval,↓evP,rpC,J0g,J0y,J0F,hm1,J4z hlt,l0,hd81,b0]
  exact fin _ _ 0 (by simp only[Tr.get_put,if_true]) dE.symm ⟨fun _ _=>rfl,Nat.le_refl _,rfl⟩ fun _=>by rw[dS];exact⟨tag,vq,vv,vt,vu,vo,es,hp,hm,hw,hF⟩
 ·have b0:(J1O x.kind==0)=false:=by simpa using d0
  simp only[evC,seval,↓evP,rpC,J0g,J0y,J0F,hm1,J4z hlt,l0,hd81,b0]
  have hlh:lo≤h.next:=by have:=hp.lm;omega
  show WK _ _ _ (.seq (.region _ _ true) _) _ _
  rw[J4p]
  have c8:=hp.c8
  have hlook:=J7x (x:=x.name) hp.known
  have hmn:=hp.lm.2
  have hkn:=hp.lk.2
  have hrn:=hp.pol.lr.2
  have hflo:h.floor≤h.next:=by have:=hp.fl;omega
  have n1:(some m != some h.next)=true:=by simp;omega
  have n2:(some r != some h.next)=true:=by simp;omega
  have n3:(some k != some h.next)=true:=by simp;omega
  have hnew:(h.push (.row [iv 0,iv 0,iv 0] 112 false false)).get h.next=.row [iv 0,iv 0,iv 0] 112 false false:=J0h
  have hst:=fun a b d=>Je3 (a:=iv a) (b:=iv b) (c:=iv d) hnew (by exact hflo) rfl
  have hold:∀ o i,i<h.next→((h.push (.row [iv 0,iv 0,iv 0] 112 false false)).put h.next o).get i=h.get i:=fun o i hi=>by rw[J05 (by show h.next<h.next+1;omega) (by omega),J06 hi]
  have hgn:∀ o,((h.push (.row [iv 0,iv 0,iv 0] 112 false false)).put h.next o).get h.next=o:=fun o=>J0b rfl (by show h.next<h.next+1;omega)
  have hfl0:flat (.agg #[iv 0,iv 0,iv 0])=true:=rfl
  have hcl0:(Value.agg #[iv 0,iv 0,iv 0]).cells.toList=[iv 0,iv 0,iv 0]:=rfl
  have i1:idOf (qP m 8)=some m:=rfl
  have i2:idOf (.pointer (some ⟨r,at_*5+1,none⟩))=some r:=rfl
  have i3:idOf (.map (some k))=some k:=rfl
  have i4:idOf (qP h.next 0)=some h.next:=rfl
  refine WK.flags (ops:=Je2) Jdj ?_
  refine WKF.begin ?_
  refine wst hsn 0 (some 24) (.move (.tmp 0)) none ?_
  simp only[rgC,seval,J04,J02,WKFC,Tr.get_set]
  refine wst hsn 1 (some 25) (.nilCheck (.tmp 24)) none ?_
  simp only[rgC,seval,J04,J02,WKFC]
  refine wst hsn 2 (some 26) (.fieldAddr 90 (.tmp 25) 1) none ?_
  simp only[rgC,seval,J04,J02,WKFC,Nat.zero_add,J0Z]
  refine wst hsn 3 (some 27) (.load 87 (.tmp 26)) none ?_
  simp only[rgC,seval,J04,J02,WKFC,rgL,J1k,c8]
  refine wst hsn 4 (some 28) (.move (.tmp 5)) none ?_
  simp only[rgC,seval,J04,J02,WKFC]
  refine wst hsn 5 (some 29) (.nilCheck (.tmp 28)) none ?_
  simp only[rgC,seval,J04,J02,WKFC]
  refine wst hsn 6 (some 30) (.fieldAddr 60 (.tmp 29) 1) none ?_
  simp only[rgC,seval,J04,J02,WKFC,J07]
  refine wst hsn 7 (some 31) (.load 9 (.tmp 30)) none ?_
  simp only[rgC,seval,J04,J02,WKFC,rgL,J0d,l1]
  cases hf:J30 s.things x.name with
  | none=>
   rw[hf] at hlook
   refine wst hsn 8 (some 32) (.lookup 87 (.tmp 27) (.tmp 31) true) none ?_
   simp only[rgC,seval,J04,J02,WKFC,rgL,hlook,i3]
   refine wst hsn 9 (some 23) (.move (.tmp 32)) none ?_
   simp only[rgC,seval,J04,J02,WKFC]
   refine wst hsn 10 (some 33) (.extract (.tmp 23) 0) none ?_
   simp only[rgC,seval,J04,J02,WKFC,List.getElem?_toArray,List.getElem?_cons_zero]
   refine wst hsn 11 (some 34) (.extract (.tmp 23) 1) none ?_
   simp only[rgC,seval,J04,J02,WKFC,List.getElem?_toArray,List.getElem?_cons_succ,List.getElem?_cons_zero]
   refine wst hsn 12 (some 7) (.alloc 112) none ?_
   simp only[rgC,seval,J04,J02,WKFC,rgA,J1j,hfl0,hcl0]
   refine wst hsn 13 (none) (.store 112 (.tmp 7) (.tmp 33)) none ?_
   simp only[rgC,seval,J04,J02,WKFC,J17,rgS,hst,i4,J17,List.all_nil]
   refine wst hsn 14 (some 8) (.assign (.tmp 34)) none ?_
   simp only[rgC,seval,J04,J02,WKFC]
   refine WKF.done (i:=15) (by kernel_rfl) ?_
   have dE:J1v at_ x s=32:=by unfold J1v;rw[if_neg d0,hf]
   simp only[evC,seval,↓evP,rpC]
   exact fin _ _ 32 (by simp only[Tr.get_put,if_true]) dE.symm ⟨fun i hi=>hold _ i (hll i hi),by show h.next≤h.next+1;omega,rfl⟩ fun h=>by cases h
  | some t=>
   rw[hf] at hlook
   refine wst hsn 8 (some 32) (.lookup 87 (.tmp 27) (.tmp 31) true) none ?_
   simp only[rgC,seval,J04,J02,WKFC,rgL,hlook,i3]
   refine wst hsn 9 (some 23) (.move (.tmp 32)) none ?_
   simp only[rgC,seval,J04,J02,WKFC]
   refine wst hsn 10 (some 33) (.extract (.tmp 23) 0) none ?_
   simp only[rgC,seval,J04,J02,WKFC,List.getElem?_toArray,List.getElem?_cons_zero]
   refine wst hsn 11 (some 34) (.extract (.tmp 23) 1) none ?_
   simp only[rgC,seval,J04,J02,WKFC,List.getElem?_toArray,List.getElem?_cons_succ,List.getElem?_cons_zero]
   refine wst hsn 12 (some 7) (.alloc 112) none ?_
   simp only[rgC,seval,J04,J02,WKFC,rgA,J1j,hfl0,hcl0]
   refine wst hsn 13 (none) (.store 112 (.tmp 7) (.tmp 33)) none ?_
   simp only[rgC,seval,J04,J02,WKFC,J17,rgS,hst,i4,J17,List.all_nil]
   refine wst hsn 14 (some 8) (.assign (.tmp 34)) none ?_
   simp only[rgC,seval,J04,J02,WKFC]
   refine WKF.done (i:=15) (by kernel_rfl) ?_
   have hp1:MkP ((h.push (.row [iv 0,iv 0,iv 0] 112 false false)).put h.next (.row [iv t.kind,iv t.num,iv t.known] 112 false false)) lo m k c e r n nm E tag vq vv vt vu vo es s:=hp.putNew
   have hgo:=hold (.row [iv t.kind,iv t.num,iv t.known] 112 false false)
   have hgd:=hgn (.row [iv t.kind,iv t.num,iv t.known] 112 false false)
   have hnx:((h.push (.row [iv 0,iv 0,iv 0] 112 false false)).put h.next (.row [iv t.kind,iv t.num,iv t.known] 112 false false)).next=h.next+1:=rfl
   have hfl:((h.push (.row [iv 0,iv 0,iv 0] 112 false false)).put h.next (.row [iv t.kind,iv t.num,iv t.known] 112 false false)).floor=h.floor:=rfl
   generalize (h.push (.row [iv 0,iv 0,iv 0] 112 false false)).put h.next (.row [iv t.kind,iv t.num,iv t.known] 112 false false)=H1 at *
   generalize hdd:h.next=d at *
   have htm:t∈s.things:=List.mem_of_find?_eq_some hf
   obtain⟨q1,q2,q3,q4,q5⟩:=hw.th t htm
   cases dk:decide (t.known>(at_:Int)) with
   | true=>
    have dE:J1v at_ x s=32:=by unfold J1v;rw[if_neg d0,hf];simp only;rw[if_pos (by simpa using dk)]
    simp only[evC,seval,↓evP,rpC,J7R,hgd,dk]
    exact fin _ _ 32 (by simp only[Tr.get_put,if_true]) dE.symm ⟨fun i hi=>hgo i (hll i hi),by omega,hfl⟩ fun h=>by cases h
   | false=>
    have dk':¬ t.known>(at_:Int):=by simpa using dk
    cases dq:(t.kind==J1O x.kind) with
    | false=>
     have dE:J1v at_ x s=33:=by unfold J1v;rw[if_neg d0,hf];simp only;rw[if_neg dk',if_pos (by simpa using dq)]
     simp only[evC,seval,↓evP,rpC,J7R,Jac,Jaq,Jax,hgd,dk,J8y,J3i,Jfy,dq]
     exact fin _ _ 33 (by simp only[Tr.get_put,if_true]) dE.symm ⟨fun i hi=>hgo i (hll i hi),by omega,hfl⟩ fun h=>by cases h
    | true=>
     have dq':¬ t.kind≠J1O x.kind:=by simpa using dq
     have dE:J1v at_ x s=0:=by unfold J1v;rw[if_neg d0,hf];simp only;rw[if_neg dk',if_neg dq']
     have dS:J0D at_ x s={ s with rows:=setN s.rows at_ t.num }:=by unfold J0D;rw[if_neg d0,hf]
     have hrl:=J0N s.rows
     have hlen:=hp1.pol.len
     have hst3:=stc (off:=at_*5+3) sz3 (v:=iv t.num) rfl rfl hp1.pol.rows (by rw[hrl];omega) (by have:=hp1.fl;have:=hp1.pol.lr.1;omega)
     rw[J3N hx] at hst3
     have hp3:=hp1.putR (l:=setN s.rows at_ t.num) J4N
     simp only[evC,seval,↓evP,rpC,J7R,Jac,Jaq,Jax,hgd,dk,J8y,J3i,Jfy,dq,hst3]
     refine fin _ _ 0 (by simp only[Tr.get_put,if_true]) dE.symm ⟨fun i hi=>?_,by show h.next≤H1.next;omega,hfl⟩ fun _=>?_
     ·rw[J05 hp1.pol.lr.2 (J8l (h:=h) (tag:=tag) hp1.pol.lr.1 (by rw[hp1.pol.tr];decide) (by rw[hdd];exact hlF i hi))]
      exact hgo i (hll i hi)
     ·rw[dS]
      exact⟨tag,vq,vv,vt,vu,vo,es,hp3,hm,⟨hw.q,hw.v,hw.t,hw.u,hw.o,hw.th⟩,fun i hi=>⟨by have h0:=hF i hi;show i<H1.next;omega,(hF i hi).2⟩⟩
end
noncomputable def E4:Code:=rt (rt (rt (Tryz.f54.body.getD .skip)))
def JhU:List (Bool × Bool × List Operand):=[fa1,fa1,fa1,fa1,fa1,fa3 [.tmp 29],fa3 [.tmp 29],fa0,fa0]
section
variable {call:J0r} {N:Nat} {h H:SHeap} {lo m k c e r n:Nat} {nm:ByteArray} {E:List Int} {F:List Nat} {tag:Nat→Nat} {vq vv vt vu vo:Value} {es:List (Value × Value)} {s:StN}
theorem MkP.putMiss (hp:MkP h lo m k c e r n nm E tag vq vv vt vu vo es s) (x:Int):MkP (h.put m (.row [.string nm,qS r n unk,vq,vv,vt,vu,vo,iv x,.map (some k),.map (some c)] 90 false false)) lo m k c e r n nm E tag vq vv vt vu vo es { s with miss:=x }:=by
 have h0:∀ i,tag i≠0→(h.put m (.row [.string nm,qS r n unk,vq,vv,vt,vu,vo,iv x,.map (some k),.map (some c)] 90 false false)).get i=h.get i:=fun i hi=>J05 hp.lm.2 (J1Y (tag:=tag) (by rw[hp.tm];exact fun e=>hi e.symm))
 have hq:=hp.pol.mono (h':=h.put m (.row [.string nm,qS r n unk,vq,vv,vt,vu,vo,iv x,.map (some k),.map (some c)] 90 false false)) (Nat.le_refl _) (fun _ _=>rfl) fun i _ _ h1 _=>h0 i (by omega)
 exact hp.pol' (Nat.le_refl _) rfl (fun _ _=>rfl) (fun i _ _ h1=>h0 i (by omega)) (J0b rfl hp.lm.2) ⟨hq.rows,hq.len,hq.tr,hq.lr,hq.q,hq.v,hq.t,hq.u,hq.o⟩ rfl
theorem MkP.putOn (hp:MkP h lo m k c e r n nm E tag vq vv vt vu vo es s) {i:Nat} (hi:i<s.on.length) (x:Int):∃ id ex,vo=qS id s.on.length unk∧h.get id=.row (ints s.on++ex) 3 true false∧lo≤id∧id<h.next∧tag id=6 ∧
  MkP (h.put id (.row ((ints s.on++ex).set i (iv x)) 3 true false)) lo m k c e r n nm E tag vq vv vt vu vo es { s with on:=s.on.set i x }:=by
 rcases hp.pol.o with⟨h0,_,_⟩ | ⟨id,ex,h1,h2,h3,h4,h5⟩
 ·omega
 ·refine⟨id,ex,h1,h2,h3,h4,h5,?_⟩
  have hset:(ints s.on++ex).set i (iv x)=ints (s.on.set i x)++ex:=by
   rw[List.set_append_left _ _ (by rw[J1h];exact hi),J66]
  rw[hset]
  have h0:∀ j,tag j≠6→(h.put id (.row (ints (s.on.set i x)++ex) 3 true false)).get j=h.get j:=fun j hj=>J05 h4 (J1Y (tag:=tag) (by rw[h5];exact fun e=>hj e.symm))
  have hq:=hp.pol
  refine hp.pol' (Nat.le_refl _) rfl (fun _ _=>rfl) (fun j _ _ h1=>h0 j (by omega)) (by rw[h0 m (by rw[hp.tm];decide)];exact hp.cell) ?_ rfl
  refine⟨by rw[h0 r (by rw[hq.tr];decide)];exact hq.rows,hq.len,hq.tr,hq.lr,hq.q.mono (Nat.le_refl _) (fun _ _=>rfl) fun j _ _ h3=>h0 j (by omega),hq.v.mono (Nat.le_refl _) (fun _ _=>rfl) fun j _ _ h3=>h0 j (by omega),hq.t.mono (Nat.le_refl _) (fun _ _=>rfl) fun j _ _ h3=>h0 j (by omega),hq.u.mono (Nat.le_refl _) (fun _ _=>rfl) fun j _ _ h3=>h0 j (by omega),?_⟩
  refine .inr ⟨id,ex,by rw[h1,List.length_set],J0b rfl h4,h3,h4,h5⟩
theorem J6V {l:List Int} {ex:List Value} {i:Nat} {x:Int} {ty:TypeId} {g ro:Bool} (hx:l[i]?=some x):ld1 i (.row (ints l++ex) ty g ro)=some (iv x):=by
 have hl:=(List.getElem?_eq_some_iff.1 hx).1
 simp only[ld1]
 rw[List.getElem?_append_left (by rw[J1h];exact hl),J6g,hx]
 rfl
theorem Jc9 (hsn:J1G call) {at_:Nat} {x:RowN} (hp:MkE h lo m k c e r n nm E F s) (hx:s.rows[at_]?=some x) (hkind:1≤x.kind∧x.kind≤54) (hn:n<1099511627776) (hxn:J0E x.kind=true→x.kind≠10→0≤x.n∧x.n<s.on.length)
  (h82:∀ k h',1≤k∧k≤54→call 75 [iv k] h'=some (.bool (J0E k),h')) :
  ∃ h',J0L Tryz.prog call N 54 [qP m 0,iv at_] h=some (iv (evE x s),h')∧(J2W h h' lo F∧(evE x s=0→MkE h' lo m k c e r n nm E F (evS at_ x s))):=by
 obtain⟨tag,vq,vv,vt,vu,vo,es,hp,hm,hw,hF⟩:=hp
 have hlF:∀ i,i<lo∨i∈F→i<lo∨(i<h.next∧11≤tag i):=fun i hi=>hi.imp id fun h=>hF i h
 have hll:∀ i,i<lo∨i∈F→i<h.next:=fun i hi=>by have:=hp.lm;have:=hlF i hi;omega
 refine J1N (R:=fun h'=>J2W h h' lo F∧(evE x s=0→MkE h' lo m k c e r n nm E F (evS at_ x s))) Tryz.func54 rfl (by simp[Tryz.f54]) ?_
 have hr:Tryz.f54.results.toList=[.tmp 4]:=rfl
 generalize hKK:Kont.top (fun ex s_1=>(ex=SExit.normal∨ex=SExit.ret)∧∃ vs,resS Tryz.prog s_1 Tryz.f54.results.toList=some vs∧resV vs=iv (evE x s)∧J2W h s_1.h lo F∧(evE x s=0→MkE s_1.h lo m k c e r n nm E F (evS at_ x s)))=K
 have fin:∀ (T':Tr) H v,T'.get 4=iv v→v=evE x s→J2W h H lo F→(v=0→MkE H lo m k c e r n nm E F (evS at_ x s))→K.ap Tryz.prog call N .ret ⟨T',H⟩:=fun T' H v h6 hv ha hb=>by
  subst hv
  rw[← hKK]
  simp only[evC,↓reduceIte,Nat.reduceEqDiff,reduceCtorEq,↓evP,rpC,Nat.reduceAdd,Nat.reduceLT,hr,h6]
  exact⟨ha,hb⟩
 show WK _ _ _ (.seq _ (.seq _ (.seq _ E4))) _ _
 have hm1:=hp.c1
 obtain⟨hlt,l0,l1,l2,l3,l4,lr⟩:=hp.row hx
 have hev:=fun h'=>h82 x.kind h' hkind
 have hflo:h.floor≤h.next:=by have:=hp.fl;have:=hp.lm;omega
 have hflT:(h.floor≤h.next)=True:=by simpa using hflo
 have hlh:lo≤h.next:=by have:=hp.lm;omega
 have hrn:=hp.pol.lr.2
 have hmn:=hp.lm.2
 have hrF:(r=h.next)=False:=by simp;omega
 have hmF:(m=h.next)=False:=by simp;omega
 have hltT:(h.next<h.next+1)=True:=by simp
 have hp1:=fun o o'=>hp.putNew (o:=o) (o':=o')
 have hone:([.int .i64 x.kind,.string x.name,.int .i64 x.ends,.int .i64 x.n,.int .i64 x.kids]:List Value).all one=true:=rfl
 have hz:flat (.agg #[.int .i64 0,.string ByteArray.empty,.int .i64 0,.int .i64 0,.int .i64 0])=true:=rfl
 have hzc:(Value.agg #[.int .i64 0,.string ByteArray.empty,.int .i64 0,.int .i64 0,.int .i64 0]).cells.toList=zRc:=rfl
 have hst:J0K Tryz.prog (h.push (.row zRc 60 false false)) 60 (qP h.next 0) (.agg #[.int .i64 x.kind,.string x.name,.int .i64 x.ends,.int .i64 x.n,.int .i64 x.kids])=some ((h.push (.row zRc 60 false false)).put h.next (.row [.int .i64 x.kind,.string x.name,.int .i64 x.ends,.int .i64 x.n,.int .i64 x.kids] 60 false false)):=by
  rw[J0X,J0h,J7F,if_pos ⟨hflo,hone⟩]
 have hp1:MkP ((h.push (.row zRc 60 false false)).put h.next (.row [.int .i64 x.kind,.string x.name,.int .i64 x.ends,.int .i64 x.n,.int .i64 x.kids] 60 false false)) lo m k c e r n nm E tag vq vv vt vu vo es s:=hp.putNew
 have hgd:((h.push (.row zRc 60 false false)).put h.next (.row [.int .i64 x.kind,.string x.name,.int .i64 x.ends,.int .i64 x.n,.int .i64 x.kids] 60 false false)).get h.next=.row [.int .i64 x.kind,.string x.name,.int .i64 x.ends,.int .i64 x.n,.int .i64 x.kids] 60 false false:=J0b rfl (by show h.next<h.next+1;omega)
 have hgo:∀ i,i<h.next→((h.push (.row zRc 60 false false)).put h.next (.row [.int .i64 x.kind,.string x.name,.int .i64 x.ends,.int .i64 x.n,.int .i64 x.kids] 60 false false)).get i=h.get i:=fun i hi=>by rw[J05 (by show h.next<h.next+1;omega) (by omega),J06 hi]
 have hnx:((h.push (.row zRc 60 false false)).put h.next (.row [.int .i64 x.kind,.string x.name,.int .i64 x.ends,.int .i64 x.n,.int .i64 x.kids] 60 false false)).next=h.next+1:=rfl
 have hfl:((h.push (.row zRc 60 false false)).put h.next (.row [.int .i64 x.kind,.string x.name,.int .i64 x.ends,.int .i64 x.n,.int .i64 x.kids] 60 false false)).floor=h.floor:=rfl
 generalize hH1:(h.push (.row zRc 60 false false)).put h.next (.row [.int .i64 x.kind,.string x.name,.int .i64 x.ends,.int .i64 x.n,.int .i64 x.kids] 60 false false)=H1 at *
 have hw1:IntKind.i64.wrap ((at_:Int)+1)=(at_:Int)+1:=J0s (by omega) (by omega)
 have after1:J2W h H1 lo F:=⟨fun i hi=>hgo i (hll i hi),by omega,hfl⟩
 have hF1:∀ i∈F,i<H1.next∧11≤tag i:=fun i hi=>⟨by have h0:=hF i hi;omega,(hF i hi).2⟩
 have e46:=@J0u
 cases d0:J0E x.kind with
 | false=>
  have dE:evE x s=0:=by unfold evE;rw[if_pos d0]
  have dS:evS at_ x s=s:=by unfold evS;rw[if_pos d0]
  simp only[evC,seval,↓evP,Nat.reduceAdd,Nat.zero_add,J0g,J0y,J0F,J0u,J0m,hm1,J4z hlt,lr,J40,hz,hzc,hst,hgd,J0t,J1d,hev,d0]
  exact fin _ _ 0 (by simp only[Tr.get_put,if_true]) dE.symm after1 fun _=>by rw[dS];exact⟨tag,vq,vv,vt,vu,vo,es,hp1,hm,hw,hF1⟩
 | true=>
  simp only[evC,seval,↓evP,Nat.reduceAdd,Nat.zero_add,J0g,J0y,J0F,J0u,J0m,hm1,J4z hlt,lr,J40,hz,hzc,hst,hgd,J0t,J1d,hev,d0]
  show WK _ _ _ (.seq _ (.seq (.seq _ (.cond _ (.region _ _ _) _)) (.seq (.seq _ (.cond _ _ _)) (.seq _ (.seq _ _))))) _ _
  cases d10:(x.kind==10) with
  | true=>
   have k10:x.kind=10:=by simpa using d10
   have d10':(x.kind != 10)=false:=by rw[bne,d10];rfl
   have c7:=hp1.c7
   have hst7:J0K Tryz.prog H1 3 (qP m 7) (iv ((at_:Int)+1))=_:=stc sz3 rfl rfl hp1.cell (by simp only[List.length_cons,List.length_nil];omega) (by have:=hp1.fl;have:=hp1.lm;omega)
   simp only[List.set_cons_succ,List.set_cons_zero] at hst7
   cases dm:decide (s.miss≥0) with
   | true=>
    have dE:evE x s=31:=by unfold evE;rw[if_neg (by rw[d0];simp),if_pos k10,if_pos (by simpa using dm)]
    simp only[evC,seval,↓evP,Nat.reduceAdd,Nat.zero_add,J0g,J38,J0m,hgd,J0t,J1d,d10',c7,dm]
    exact fin _ _ 31 (by simp only[Tr.get_put,if_true]) dE.symm after1 fun h=>by cases h
   | false=>
    have dE:evE x s=0:=by unfold evE;rw[if_neg (by rw[d0];simp),if_pos k10,if_neg (by simpa using dm)]
    have dS:evS at_ x s={ s with miss:=(at_:Int)+1 }:=by unfold evS;rw[if_neg (by rw[d0];simp),if_pos k10]
    simp only[evC,seval,↓evP,Nat.reduceAdd,Nat.zero_add,J0g,J38,J0m,hgd,J0t,J1d,d10',c7,dm,hw1,hst7]
    refine fin _ _ 0 (by simp only[Tr.get_put,if_true]) dE.symm ⟨fun i hi=>?_,by show h.next≤H1.next;omega,hfl⟩ fun _=>?_
    ·rw[J05 hp1.lm.2 (J8l (h:=h) hp1.lm.1 (by rw[hp1.tm];decide) (hlF i hi))]
     exact hgo i (hll i hi)
    ·rw[dS]
     exact⟨tag,vq,vv,vt,vu,vo,es,hp1.putMiss _,hm,⟨hw.q,hw.v,hw.t,hw.u,hw.o,hw.th⟩,hF1⟩
  | false=>
   have k10:¬ x.kind=10:=by simpa using d10
   have d10':(x.kind != 10)=true:=by rw[bne,d10];rfl
   obtain⟨hn0,hn1⟩:=hxn d0 k10
   obtain⟨i,hi⟩:∃ i:Nat,x.n=(i:Int):=⟨x.n.toNat,by omega⟩
   have hil:i<s.on.length:=by omega
   obtain⟨id,ex,ev,hgi,hli,hni,hti,hp2⟩:=hp1.putOn hil ((at_:Int)+1)
   obtain⟨v,hv⟩:∃ v,s.on[i]?=some v:=⟨_,List.getElem?_eq_getElem hil⟩
   have c6:=hp1.c6
   rw[ev] at c6
   have lv:=J6V (ex:=ex) (ty:=3) (g:=true) (ro:=false) hv
   have hst6:=stc (h:=H1) (off:=i) sz3 (v:=iv ((at_:Int)+1)) rfl rfl hgi (by rw[List.length_append,J1h];omega) (by have:=hp1.fl;omega)
   have hton:x.n.toNat=i:=by omega
   simp only[evC,seval,↓evP,Nat.reduceAdd,Nat.zero_add,J0g,J38,J0m,hgd,J0t,J1d,d10']
   show WK _ _ _ (.region _ _ true) _ _
   refine WK.flags (fs:=JhU) (by kernel_rfl) ?_
   unfold JhU
   iterate 9
    refine wcs hsn ?_
    simp only[rgC,seval,J04,J02,WKFC,rgL,rgK,J17,rgS,rgB,J0g,J1T,J0O,J0n,J0m,c6,hgd,J2b,hi,J1F hil]
   refine JvR ?_
   cases dm:decide (v≥0) with
   | true=>
    have dE:evE x s=31:=by unfold evE;rw[if_neg (by rw[d0];simp),if_neg k10,hton,hv];simp only;rw[if_pos (by simpa using dm)]
    simp only[evC,seval,↓evP,J0m,hgi,lv,dm]
    exact fin _ _ 31 (by simp only[Tr.get_put,if_true]) dE.symm after1 fun h=>by cases h
   | false=>
    have dE:evE x s=0:=by unfold evE;rw[if_neg (by rw[d0];simp),if_neg k10,hton,hv];simp only;rw[if_neg (by simpa using dm)]
    have dS:evS at_ x s={ s with on:=s.on.set i ((at_:Int)+1) }:=by unfold evS;rw[if_neg (by rw[d0];simp),if_neg k10,hton]
    simp only[evC,seval,↓evP,J0m,hgi,lv,dm,hw1,hst6]
    refine fin _ _ 0 (by simp only[Tr.get_put,if_true]) dE.symm ⟨fun j hj=>?_,by show h.next≤H1.next;omega,hfl⟩ fun _=>?_
    ·rw[J05 hni (J8l (h:=h) hli (by rw[hti];decide) (hlF j hj))]
     exact hgo j (hll j hj)
    ·rw[dS]
     exact⟨tag,vq,vv,vt,vu,vo,es,hp2,hm,⟨hw.q,hw.v,hw.t,hw.u,by simp only[List.length_set];exact hw.o,hw.th⟩,hF1⟩
end
def J2I (a b:Int):Int:=if a>4611686018427387904-b then 4611686018427387904 else a+b
theorem J3O {a b:Int} (ha:0≤a) (hb:0≤b) (hb2:b≤4611686018427387904):0≤J2I a b∧J2I a b≤4611686018427387904:=by unfold J2I;split <;> omega
def J5y (sums:List Int) (k:Int):Int:=(sums[k.toNat]?).getD 0
def J2j (sums:List Int):List RowN→Int→Int
 | [],n=>n
 | x :: l,n=>J2j sums l (if x.kind=22 then J2I (J2I n 1) (J5y sums x.n) else J2I n 1)
def Sums (sums:List Int):Prop:=∀ x∈sums,0≤x∧x≤4611686018427387904
theorem Jfo {sums:List Int} (hs:Sums sums) (k:Int):0≤J5y sums k∧J5y sums k≤4611686018427387904:=by
 unfold J5y
 cases h:sums[k.toNat]? with
 | none=>exact⟨by simp,by simp⟩
 | some x=>exact hs x (List.mem_of_getElem? h)
theorem J6G {sums:List Int} (hs:Sums sums):∀ (l:List RowN) (n:Int),0≤n→n≤4611686018427387904→0≤J2j sums l n∧J2j sums l n≤4611686018427387904
 | [],n,h0,h1=>⟨h0,h1⟩
 | x :: l,n,h0,h1=>by
  have h2:=J3O (a:=n) (b:=1) h0 (by omega) (by omega)
  have h3:=Jfo hs x.n
  have h4:=J3O h2.1 h3.1 h3.2
  unfold J2j
  split
  ·exact J6G hs l _ h4.1 h4.2
  ·exact J6G hs l _ h2.1 h2.2
section
variable {call:J0r} {N:Nat} {h:SHeap}
theorem Jda {a b:Int} (hb:0≤b∧b≤4611686018427387904) (ha:0≤a∧a≤4611686018427387904):J0L Tryz.prog call N 77 [iv a,iv b] h=some (iv (J2I a b),h):=by
 refine J1m Tryz.func77 rfl (by simp[Tryz.f77]) ?_
 have hr:Tryz.f77.results.toList=[.tmp 4]:=rfl
 have w1:IntKind.i64.wrap (4611686018427387904-b)=4611686018427387904-b:=J0s (by omega) (by omega)
 unfold J2I
 cases d:decide (a>4611686018427387904-b) with
 | true=>
  rw[if_pos (by simpa using d)]
  simp only[evC,seval,↓evP,rpC,hr,w1,d]
 | false=>
  have d':¬ a>4611686018427387904-b:=by simpa using d
  have w2:IntKind.i64.wrap (a+b)=a+b:=J0s (by omega) (by omega)
  rw[if_neg d']
  simp only[evC,seval,↓evP,rpC,hr,w1,d,w2]
theorem Jdp {a b:Int} (h:SHeap) (hb:0≤b∧b≤4611686018427387904) (ha:0≤a∧a≤4611686018427387904):L1 77 [iv a,iv b] h=some (iv (J2I a b),h):=J0I (J20 rfl rfl) rfl rfl rfl ⟨_,Jda hb ha⟩
def fs88:List (Bool × Bool × List Operand):=[fa1,fa1,fa3 [.tmp 9],fa3 [.tmp 9],fa3 [.tmp 9,.tmp 2],fa3 [.tmp 9],fa3 [.tmp 9],fa0,fa0,fa3 [.tmp 9,.tmp 2,.tmp 14,.tmp 10]]
structure CntAt (h:SHeap) (pb eb sb:Nat) (rows:List RowN) (E sums:List Int):Prop where
 p:∃ v0 vr v2 v3 v4 v5 v6 v7 g,h.get pb=.row [v0,vr,v2,v3,v4,v5,v6,v7] 27 g false∧(∀ (lo hi:Nat) h',(∀ i,i<h.next→h'.get i=h.get i)→h.next≤h'.next→lo≤hi→hi≤rows.length→∃ v',J2M Tryz.prog h' 22 vr (some (iv lo)) (some (iv hi)) none=some v'∧J0l h' v' ((rows.drop lo).take (hi-lo)))
 e:∃ e n c g g',h.get eb=.row [qS e n c] 25 g false∧h.get e=.row (ints E) 3 g' false∧n=E.length∧e<h.next
 s:∃ q n c g g',h.get sb=.row [qS q n c] 25 g false∧h.get q=.row (ints sums) 3 g' false∧n=sums.length∧q<h.next
 lp:pb<h.next
 le:eb<h.next
 ls:sb<h.next
theorem CntAt.mono {h h':SHeap} {pb eb sb:Nat} {rows:List RowN} {E sums:List Int} (hc:CntAt h pb eb sb rows E sums) (hn:h.next≤h'.next) (hg:∀ i,i<h.next→h'.get i=h.get i):CntAt h' pb eb sb rows E sums where
 p:=by
  obtain⟨v0,vr,v2,v3,v4,v5,v6,v7,g,h1,h2⟩:=hc.p
  exact⟨v0,vr,v2,v3,v4,v5,v6,v7,g,by rw[hg pb hc.lp];exact h1,fun lo hi h2' a b=>h2 lo hi h2' (fun i hi'=>by rw[a i (by omega),hg i hi']) (by omega)⟩
 e:=by
  obtain⟨e,n,c,g,g',h1,h2,h3,h4⟩:=hc.e
  exact⟨e,n,c,g,g',by rw[hg eb hc.le];exact h1,by rw[hg e h4];exact h2,h3,by omega⟩
 s:=by
  obtain⟨e,n,c,g,g',h1,h2,h3,h4⟩:=hc.s
  exact⟨e,n,c,g,g',by rw[hg sb hc.ls];exact h1,by rw[hg e h4];exact h2,h3,by omega⟩
 lp:=by have:=hc.lp;omega
 le:=by have:=hc.le;omega
 ls:=by have:=hc.ls;omega
theorem Jbj (hsn:J1G call) {pb eb sb row q:Nat} {rows:List RowN} {E sums:List Int} (hc:CntAt h pb eb sb rows E sums) (hs:Sums sums) (hfl:h.floor≤h.next) (hE:E[row]?=some (q:Int)) (hrq:row≤q) (hq:q≤rows.length) (hlen:rows.length<1099511627776) (hN:rows.length+3<N)
  (hcalls:∀ x∈(rows.drop row).take (q-row),x.kind=22→0≤x.n∧x.n<sums.length) (h83:∀ a b h',0≤b∧b≤4611686018427387904→0≤a∧a≤4611686018427387904→call 77 [iv a,iv b] h'=some (iv (J2I a b),h')) :
  ∃ h',J0L Tryz.prog call N 115 [iv row,qP pb 0,qP eb 0,qP sb 0] h=some (iv (J2j sums ((rows.drop row).take (q-row)) 0),h')∧∀ i,i<h.next→h'.get i=h.get i:=by
 refine J1N (R:=fun h'=>∀ i,i<h.next→h'.get i=h.get i) Tryz.func115 rfl (by simp[Tryz.f115]) ?_
 have hr:Tryz.f115.results.toList=[.tmp 5]:=rfl
 obtain⟨v0,vr,v2,v3,v4,v5,v6,v7,g,hg1,hsl⟩:=hc.p
 obtain⟨e,ne,ce,ge,ge',he1,he2,he3,he4⟩:=hc.e
 obtain⟨sq,ns,cs,gs,gs',hs1,hs2,hs3,hs4⟩:=hc.s
 obtain⟨v',hv1,hv2⟩:=hsl row q h (fun _ _=>rfl) (Nat.le_refl _) hrq hq
 have hrE:row<E.length:=(List.getElem?_eq_some_iff.1 hE).1
 have hll:=fun h'=>hv2.len (h':=h')
 have hseg:((rows.drop row).take (q-row)).length=q-row:=by rw[List.length_take,List.length_drop];omega
 generalize hS:(rows.drop row).take (q-row)=S at *
 have lE:=J2z (ty:=3) (g:=ge') (ro:=false) hE
 obtain⟨va,vc,hve⟩:∃ a c,v'=.slice a S.length c:=by obtain⟨a,c,h1,_⟩:=hv2;exact⟨a,c,h1⟩
 subst hve
 simp only[evC,seval,↓evP,rpC]
 show WK _ _ _ (.region _ _ true) _ _
 refine WK.flags (fs:=fs88) (by kernel_rfl) ?_
 unfold fs88
 iterate 10
  refine wcs hsn ?_
  simp only[rgC,seval,J04,J02,WKFC,rgL,rgK,J17,rgS,rgB,J0y,J0F,hg1,J2a,J0n,he1,J1d,J1F (show row<ne by omega),J0m,he2,lE,hv1,hll,Option.map_none,Option.map_some,J0f,decide_true,false_implies,forall_const]
 refine JvR ?_
 simp only[evC,seval,↓evP,rpC]
 refine WK.loop (fun i s=>s.T.get 3=qP sb 0∧s.T.get 16=.slice va S.length vc∧s.T.get 17=iv (S.length:Int)∧s.T.get 18=iv i∧i≤S.length∧s.h.floor=h.floor∧h.next≤s.h.next∧(∀ i,i<h.next→s.h.get i=h.get i) ∧
  ∃ n:Int,s.T.get 6=iv n∧0≤n∧n≤4611686018427387904∧J2j sums (S.drop i) n=J2j sums S 0) S.length (by omega) ?_ ?_
 ·simp only[evC,↓reduceIte,Nat.reduceEqDiff,reduceCtorEq,↓evP,rpC,Nat.reduceAdd,Nat.reduceLT]
  exact⟨by omega,by omega,fun _ _=>trivial,by omega,by omega,rfl⟩
 ·rintro i ⟨T1,H1⟩ hi ⟨t3,t16,t17,t18,hil,hf1,hn1,ho1,n,t6,hn0,hnB,hcn⟩
  simp only at t3 t16 t17 t18 hf1 hn1 ho1 t6
  by_cases hlt:i<S.length
  ·have c1:decide ((i:Int)<(S.length:Int))=true:=by simp;omega
   obtain⟨x,hx⟩:∃ x,S[i]?=some x:=⟨_,List.getElem?_eq_getElem hlt⟩
   have hv3:J0l H1 (.slice va S.length vc) S:=hv2.mono hn1 ho1
   obtain⟨id,p,e0,hid,l0,l1,l2,l3,l4,lr⟩:=hv3.row hx
   have hflo:H1.floor≤H1.next:=by omega
   have hz:flat (.agg #[.int .i64 0,.string ByteArray.empty,.int .i64 0,.int .i64 0,.int .i64 0])=true:=rfl
   have hzc:(Value.agg #[.int .i64 0,.string ByteArray.empty,.int .i64 0,.int .i64 0,.int .i64 0]).cells.toList=zRc:=rfl
   have hone:([.int .i64 x.kind,.string x.name,.int .i64 x.ends,.int .i64 x.n,.int .i64 x.kids]:List Value).all one=true:=rfl
   have hst:J0K Tryz.prog (H1.push (.row zRc 60 false false)) 60 (qP H1.next 0) (.agg #[.int .i64 x.kind,.string x.name,.int .i64 x.ends,.int .i64 x.n,.int .i64 x.kids])=some ((H1.push (.row zRc 60 false false)).put H1.next (.row [.int .i64 x.kind,.string x.name,.int .i64 x.ends,.int .i64 x.n,.int .i64 x.kids] 60 false false)):=by
    rw[J0X,J0h,J7F,if_pos ⟨hflo,hone⟩]
   have hgd:((H1.push (.row zRc 60 false false)).put H1.next (.row [.int .i64 x.kind,.string x.name,.int .i64 x.ends,.int .i64 x.n,.int .i64 x.kids] 60 false false)).get H1.next=.row [.int .i64 x.kind,.string x.name,.int .i64 x.ends,.int .i64 x.n,.int .i64 x.kids] 60 false false:=J0b rfl (by show H1.next<H1.next+1;omega)
   have hgo:∀ i,i<h.next→((H1.push (.row zRc 60 false false)).put H1.next (.row [.int .i64 x.kind,.string x.name,.int .i64 x.ends,.int .i64 x.n,.int .i64 x.kids] 60 false false)).get i=h.get i:=fun i hi=>by rw[J05 (by show H1.next<H1.next+1;omega) (by omega),J06 (by omega)];exact ho1 i hi
   have hnx:((H1.push (.row zRc 60 false false)).put H1.next (.row [.int .i64 x.kind,.string x.name,.int .i64 x.ends,.int .i64 x.n,.int .i64 x.kids] 60 false false)).next=H1.next+1:=rfl
   have hfl2:((H1.push (.row zRc 60 false false)).put H1.next (.row [.int .i64 x.kind,.string x.name,.int .i64 x.ends,.int .i64 x.n,.int .i64 x.kids] 60 false false)).floor=H1.floor:=rfl
   generalize (H1.push (.row zRc 60 false false)).put H1.next (.row [.int .i64 x.kind,.string x.name,.int .i64 x.ends,.int .i64 x.n,.int .i64 x.kids] 60 false false)=H2 at *
   have p1:=J3O (a:=n) (b:=1) hn0 (by omega) (by omega)
   have h831:=fun hh=>h83 n 1 hh (by omega) ⟨hn0,hnB⟩
   have w1:IntKind.i64.wrap ((i:Int)+1)=((i+1:Nat):Int):=J0s (by omega) (by omega)
   have hdr:S.drop i=x :: S.drop (i+1):=by
    obtain⟨hl,rfl⟩:=List.getElem?_eq_some_iff.1 hx
    exact List.drop_eq_getElem_cons hl
   rw[hdr] at hcn
   change J2j sums (S.drop (i+1)) (if x.kind=22 then J2I (J2I n 1) (J5y sums x.n) else J2I n 1)=_ at hcn
   cases d22:(x.kind==22) with
   | false=>
    rw[if_neg (by simpa using d22)] at hcn
    simp only[evC,seval,↓evP,Nat.reduceAdd,Nat.zero_add,t3,t16,t17,t18,t6,c1,e0,J0u,lr,J40,hz,hzc,hst,h831,J0t,J0m,hgd,J1d,d22,w1]
    exact⟨by omega,by omega,by rw[hfl2];exact hf1,by omega,hgo,p1.1,p1.2,hcn⟩
   | true=>
    have k22:x.kind=22:=by simpa using d22
    rw[if_pos k22] at hcn
    obtain⟨c0,c2⟩:=hcalls x (List.mem_of_getElem? hx) k22
    obtain⟨j,hj⟩:∃ j:Nat,x.n=(j:Int):=⟨x.n.toNat,by omega⟩
    have hjl:j<sums.length:=by omega
    obtain⟨y,hy⟩:∃ y,sums[j]?=some y:=⟨_,List.getElem?_eq_getElem hjl⟩
    have hyy:=hs y (List.mem_of_getElem? hy)
    have hsa:J5y sums x.n=y:=by unfold J5y;rw[show x.n.toNat=j by omega,hy];rfl
    rw[hsa] at hcn
    have hgs:H2.get sb=.row [qS sq ns cs] 25 gs false:=by rw[hgo sb hc.ls];exact hs1
    have hgq:H2.get sq=.row (ints sums) 3 gs' false:=by rw[hgo sq hs4];exact hs2
    have lS:=J2z (ty:=3) (g:=gs') (ro:=false) hy
    have h832:=fun hh=>h83 (J2I n 1) y hh hyy p1
    have ix:J0R Tryz.prog 25 (qS sq ns cs) (iv x.n)=some (qP sq j):=by rw[hj];exact J1F (show j<ns by omega)
    have p2:=J3O p1.1 hyy.1 hyy.2
    simp only[evC,seval,↓evP,Nat.reduceAdd,Nat.zero_add,t3,t16,t17,t18,t6,c1,e0,J0u,lr,J40,hz,hzc,hst,h831,J0t,J0O,J0m,hgd,J1d,J2b,d22,w1,J0n,hgs,ix,hgq,lS,h832]
    exact⟨by omega,by omega,by rw[hfl2];exact hf1,by omega,hgo,p2.1,p2.2,hcn⟩
  ·have c1:decide ((i:Int)<(S.length:Int))=false:=by simp;omega
   have hn:J2j sums S 0=n:=by
    rw[← hcn,List.drop_of_length_le (by omega)]
    rfl
   rw[hn]
   simp only[evC,seval,↓evP,hr,t17,t18,t6,c1]
   exact ho1
end
def cAt (rows:List RowN) (E sums:List Int) (row:Nat):Int:=J2j sums ((rows.drop row).take (((E[row]?).getD 0).toNat-row)) 0
def J8r (rows:List RowN) (E:List Int):List Int→Nat→List Int→List Int
 | [],_,sums=>sums
 | ru :: rest,i,sums=>J8r rows E rest (i+1) (sums.set i (cAt rows E sums ru.toNat))
def J42 (rows:List RowN) (E rules:List Int):List Int:=J8r rows E rules 0 (List.replicate rules.length 0)
structure Laying (rows:List RowN) (E rules:List Int):Prop where
 len:rows.length<1099511627
 e:E.length=rows.length
 ends:∀ i,i<rows.length→∃ q:Nat,E[i]?=some (q:Int)∧i<q∧q≤rows.length
 rl:∀ ru∈rules,0≤ru∧ru<rows.length
 nrules:rules.length<1000000
 calls:∀ x∈rows,x.kind=22→0≤x.n∧x.n<rules.length
theorem J8o (n:Nat):Sums (List.replicate n 0):=fun x hx=>by
 rw[List.mem_replicate] at hx
 rw[hx.2]
 omega
theorem Jah {sums:List Int} (hs:Sums sums) (i:Nat) {x:Int} (hx:0≤x∧x≤4611686018427387904):Sums (sums.set i x):=fun y hy=>by
 rcases List.mem_or_eq_of_mem_set hy with h | h
 ·exact hs y h
 ·rw[h];exact hx
theorem J7q {rows:List RowN} {E sums:List Int} (hs:Sums sums) (row:Nat):0≤cAt rows E sums row∧cAt rows E sums row≤4611686018427387904:=J6G hs _ 0 (by omega) (by omega)
theorem JaX {rows:List RowN} {E:List Int}:∀ (l:List Int) (i:Nat) (sums:List Int),Sums sums→Sums (J8r rows E l i sums)∧(J8r rows E l i sums).length=sums.length
 | [],i,sums,hs=>⟨hs,rfl⟩
 | ru :: rest,i,sums,hs=>by
  have:=JaX (rows:=rows) (E:=E) rest (i+1) (sums.set i (cAt rows E sums ru.toNat)) (Jah hs _ (J7q hs _))
  rw[List.length_set] at this
  exact this
theorem J6d {rows:List RowN} {E rules:List Int}:Sums (J42 rows E rules)∧(J42 rows E rules).length=rules.length:=by
 have:=JaX (rows:=rows) (E:=E) rules 0 _ (J8o rules.length)
 rw[List.length_replicate] at this
 exact this
def fs72:List (Bool × Bool × List Operand):=[(true,false,[]),fa4 [.tmp 5],fa3 [.tmp 5],fa3 [.tmp 5],fa3 [.tmp 5],fa0,fa0]
theorem CntAt.flr {h:SHeap} {pb eb sb:Nat} {rows:List RowN} {E sums:List Int} (hc:CntAt h pb eb sb rows E sums) (f:Nat):CntAt (h.fl f) pb eb sb rows E sums:=hc.mono (Nat.le_refl _) fun _ _=>rfl
section
variable {call:J0r} {N:Nat} {h:SHeap}
theorem Jbn (hsn:J1G call) {rows:List RowN} {E rules:List Int} (hL:Laying rows E rules) {v0 vr v2 v3 v4 vu v6 v7:Value} {e ce:Nat} {ge:Bool} (hone:[v0,vr,v2,v3,v4,vu,v6,v7].all one=true) (hfl:h.floor≤h.next) (hN:rows.length+3<N) (hN2:rules.length+3<N)
  (hsl:∀ (lo hi:Nat) h',(∀ i,i<h.next→h'.get i=h.get i)→h.next≤h'.next→lo≤hi→hi≤rows.length→∃ v',J2M Tryz.prog h' 22 vr (some (iv lo)) (some (iv hi)) none=some v'∧J0l h' v' ((rows.drop lo).take (hi-lo)))
  (hul:∀ h',lenS Tryz.prog h' 25 vu=some (iv (rules.length:Int))) (hus:∃ a c,vu=.slice a rules.length c)
  (hu:∀ h':SHeap,(∀ i,i<h.next→h'.get i=h.get i)→∀ (i:Nat) ru,rules[i]?=some ru→∃ id off,J0R Tryz.prog 25 vu (iv i)=some (qP id off)∧ld1 off (h'.get id)=some (iv ru))
  (he:h.get e=.row (ints E) 3 ge false) (hel:e<h.next)
  (h88:∀ pb eb sb (row:Nat) sums h',CntAt h' pb eb sb rows E sums→sums.length=rules.length→Sums sums→h'.floor≤h'.next→row<rows.length→call 115 [iv row,qP pb 0,qP eb 0,qP sb 0] h'=some (iv (cAt rows E sums row),h')) :
  ∃ h',J0L Tryz.prog call N 76 [.agg #[v0,vr,v2,v3,v4,vu,v6,v7],qS e E.length ce] h=some (.func (.func 115) #[] #[qP h.next 0,qP (h.next+1) 0,qP (h.next+3) 0],h') ∧
   (CntAt h' h.next (h.next+1) (h.next+3) rows E (J42 rows E rules)∧h.next≤h'.next∧h'.floor=h.floor∧∀ i,i<h.next→h'.get i=h.get i):=by
 refine J1N (R:=fun h'=>CntAt h' h.next (h.next+1) (h.next+3) rows E (J42 rows E rules)∧h.next≤h'.next∧h'.floor=h.floor∧∀ i,i<h.next→h'.get i=h.get i) Tryz.func76 rfl (by simp[Tryz.f76]) ?_
 have hr:Tryz.f76.results.toList=[.tmp 4]:=rfl
 have hlen:=hL.len
 have hnr:=hL.nrules
 obtain⟨ua,uc,rfl⟩:=hus
 have hcs:∀ a n c,(Value.slice a n c).cells.toList=[.slice a n c]:=fun _ _ _=>rfl
 have hos:∀ a n c,([.slice a n c]:List Value).all one=true:=fun _ _ _=>rfl
 have hca:(Value.agg #[v0,vr,v2,v3,v4,.slice ua rules.length uc,v6,v7]).cells.toList=[v0,vr,v2,v3,v4,.slice ua rules.length uc,v6,v7]:=rfl
 have z28:J1w Tryz.prog 25=some (Z0):=by kernel_rfl
 have fz:flat (Z0)=true:=rfl
 have hmk:=fun hh=>J8p (h:=hh) (show rules.length<1099511627776 by omega)
 have ld5:∀ {a b c d e' f:Value} {l:List Value} {ty:TypeId} {g ro:Bool},ld1 5 (.row (a :: b :: c :: d :: e' :: f :: l) ty g ro)=some f:=rfl
 have hst:∀ hh:SHeap,hh.get (h.next+3)=.row [Z0] 25 false false→hh.floor≤h.next+3→∀ a n c,J0K Tryz.prog hh 25 (qP (h.next+3) 0) (.slice a n c)=some (hh.put (h.next+3) (.row [.slice a n c] 25 false false)):=fun hh hg hf a n c=>stc sz28 rfl rfl hg (by decide) hf
 generalize hA:SObj.row [v0,vr,v2,v3,v4,.slice ua rules.length uc,v6,v7] 27 false false=A at *
 generalize hB:SObj.row [qS e E.length ce] 25 false false=B at *
 have hst0:=hst ((((h.push A).push B).push (.row (ints (List.replicate rules.length 0)) 3 false false)).push (.row [Z0] 25 false false)) J0h (by show h.floor≤h.next+3;omega) (some ⟨h.next+2,0,none⟩) rules.length rules.length
 have a5:ld1 5 A=some (.slice ua rules.length uc):=by rw[← hA];rfl
 have hX:∀ C D o,let H:=((((h.push A).push B).push C).push D).put (h.next+3) o
   H.get h.next=A∧H.get (h.next+1)=B∧H.get (h.next+2)=C∧H.get (h.next+3)=o∧H.next=h.next+4∧H.floor=h.floor∧∀ i,i<h.next→H.get i=h.get i:=fun C D o=>by
  have q1:(h.push A).next=h.next+1:=rfl
  have q2:((h.push A).push B).next=h.next+2:=rfl
  have q3:(((h.push A).push B).push C).next=h.next+3:=rfl
  have q4:((((h.push A).push B).push C).push D).next=h.next+4:=rfl
  refine⟨?_,?_,?_,J0b rfl (by omega),rfl,rfl,fun i hi=>?_⟩
  ·rw[J05 (by omega) (by omega),J06 (by omega),J06 (by omega),J06 (by omega),J0h]
  ·rw[J05 (by omega) (by omega),J06 (by omega),J06 (by omega)]
   exact J0h (h:=h.push A)
  ·rw[J05 (by omega) (by omega),J06 (by omega)]
   exact J0h (h:=(h.push A).push B)
  ·rw[J05 (by omega) (by omega),J06 (by omega),J06 (by omega),J06 (by omega),J06 hi]
 have gA2:((h.push A).push B).get h.next=A:=by
  rw[J06 (by show h.next<h.next+1;omega),J0h]
 obtain⟨x0,x1,x2,x3,x4,x5,x6⟩:=hX (.row (ints (List.replicate rules.length 0)) 3 false false) (.row [Z0] 25 false false) (.row [qS (h.next+2) rules.length rules.length] 25 false false)
 simp only[evC,seval,↓evP,hca,hone,hcs,hos,sz30,sz28,hA,hB,J1D,Nat.add_assoc,Nat.reduceAdd,Nat.zero_add,J36,J0n,gA2,a5,hul,hmk,z28,fz,hst0,List.map_toArray,List.map_cons,List.map_nil,x0]
 generalize hH:((((h.push A).push B).push (.row (ints (List.replicate rules.length 0)) 3 false false)).push (.row [Z0] 25 false false)).put (h.next+3) (.row [qS (h.next+2) rules.length rules.length] 25 false false)=H at *
 have mkC:∀ (H':SHeap) sums,H'.get h.next=A→H'.get (h.next+1)=B→H'.get (h.next+3)=.row [qS (h.next+2) rules.length rules.length] 25 false false→H'.get (h.next+2)=.row (ints sums) 3 false false→sums.length=rules.length→H'.next=h.next+4→(∀ i,i<h.next→H'.get i=h.get i)→CntAt H' h.next (h.next+1) (h.next+3) rows E sums:=fun H' sums g0 g1 g3 g2 hl hn ho=>
  { p:=⟨_,_,_,_,_,_,_,_,_,g0.trans hA.symm,fun lo hi h2 a b=>hsl lo hi h2 (fun i hi=>by rw[a i (by omega),ho i hi]) (by omega)⟩
    e:=⟨e,E.length,ce,_,_,g1.trans hB.symm,by rw[ho e hel];exact he,rfl,by omega⟩
    s:=⟨h.next+2,rules.length,rules.length,_,_,g3,g2,hl.symm,by omega⟩
    lp:=by omega
    le:=by omega
    ls:=by omega }
 refine WK.loop (fun i s=>s.T.get 5=qP (h.next+3) 0∧s.T.get 6=.func (.func 115) #[] #[qP h.next 0,qP (h.next+1) 0,qP (h.next+3) 0]∧s.T.get 15=.slice ua rules.length uc∧s.T.get 16=iv (rules.length:Int)∧s.T.get 17=iv i∧i≤rules.length ∧
  s.h.get h.next=A∧s.h.get (h.next+1)=B∧s.h.get (h.next+3)=.row [qS (h.next+2) rules.length rules.length] 25 false false∧s.h.next=h.next+4∧s.h.floor=h.floor∧(∀ i,i<h.next→s.h.get i=h.get i) ∧
  ∃ sums,s.h.get (h.next+2)=.row (ints sums) 3 false false∧sums.length=rules.length∧Sums sums∧J8r rows E (rules.drop i) i sums=J42 rows E rules) rules.length (by omega) ?_ ?_
 ·simp only[evC,↓reduceIte,Nat.reduceEqDiff,reduceCtorEq,↓evP,rpC,Nat.reduceAdd,Nat.reduceLT]
  exact⟨rfl,x0,x1,x3,x4,x5,x6,_,x2,by rw[List.length_replicate],J8o _,rfl⟩
 ·rintro i ⟨T1,H1⟩ hi ⟨t5,t6,t15,t16,t17,hil,y0,y1,y3,y4,y5,y6,sums,y2,ysl,yS,yF⟩
  simp only at t5 t6 t15 t16 t17 y0 y1 y2 y3 y4 y5 y6
  have hC:=mkC H1 sums y0 y1 y3 y2 ysl y4 y6
  by_cases hlt:i<rules.length
  ·have c1:decide ((i:Int)<(rules.length:Int))=true:=by simp;omega
   obtain⟨ru,hru⟩:∃ ru,rules[i]?=some ru:=⟨_,List.getElem?_eq_getElem hlt⟩
   obtain⟨id,off,ix,lx⟩:=hu H1 y6 i ru hru
   have hrr:=hL.rl ru (List.mem_of_getElem? hru)
   obtain⟨row,hrow⟩:∃ row:Nat,ru=(row:Int):=⟨ru.toNat,by omega⟩
   subst hrow
   have hcall:=h88 h.next (h.next+1) (h.next+3) row sums (H1.fl (max H1.floor H1.next)) (hC.flr _) ysl yS (by show max H1.floor H1.next≤H1.next;omega) (by omega)
   have hd3:decide (h.next+3<H1.next)=true:=by simp;omega
   have w1:IntKind.i64.wrap ((i:Int)+1)=((i+1:Nat):Int):=J0s (by omega) (by omega)
   have hcA:=J7q (rows:=rows) (E:=E) yS row
   have hst:=J59 (x:=cAt rows E sums row) y2 (by omega:i<sums.length) (by omega)
   simp only[evC,seval,↓evP,Nat.reduceAdd,Nat.zero_add,t5,t6,t15,t16,t17,c1,ix,J0m,lx]
   show WK _ _ _ (.region _ _ true) _ _
   refine WK.flags (fs:=fs72) (by kernel_rfl) ?_
   unfold fs72
   iterate 7
    refine wcs hsn ?_
    simp only[rgC,seval,J04,J02,WKFC,rgL,rgK,J17,rgS,rgB,t5,t6,J0n,y3,J1d,hd3,List.toList_toArray,hcall,J1F hlt,hst]
   refine JvR ?_
   have hn2:h.next+2<H1.next:=by omega
   simp only[evC,seval,↓evP,t5,t6,t15,t16,t17,w1]
   refine⟨hlt,by omega,?_,?_,?_,y4,y5,fun j hj=>?_,_,J0b rfl hn2,by rw[List.length_set];exact ysl,Jah yS _ hcA,?_⟩
   ·rw[J05 hn2 (by omega)];exact y0
   ·rw[J05 hn2 (by omega)];exact y1
   ·rw[J05 hn2 (by omega)];exact y3
   ·rw[J05 hn2 (by omega)];exact y6 j hj
   ·rw[← yF,List.drop_eq_getElem_cons hlt]
    have:rules[i]=(row:Int):=(List.getElem?_eq_some_iff.1 hru).2
    rw[this]
    rfl
  ·have c1:decide ((i:Int)<(rules.length:Int))=false:=by simp;omega
   have hF:sums=J42 rows E rules:=by
    rw[← yF,List.drop_of_length_le (by omega)]
    rfl
   rw[← hF]
   simp only[evC,seval,↓evP,hr,t16,t17,t6,c1]
   exact⟨hC,by omega,y5,y6⟩
end
def J5r (rows:List RowN) (E sums:List Int):List RowN→Nat→Int→Int
 | [],_,_=>-1
 | x :: l,at_,n=>if J0E x.kind=false then J5r rows E sums l (at_+1) n
  else if J2I n (cAt rows E sums (at_+1))>16384 then at_ else J5r rows E sums l (at_+1) (J2I n (cAt rows E sums (at_+1)))
def J2K (rows:List RowN) (E rules:List Int):Int:=J5r rows E (J42 rows E rules) rows 0 0
section
variable {call:J0r} {N:Nat} {h:SHeap} {lo m k c e r n:Nat} {nm:ByteArray} {E:List Int} {tag:Nat→Nat} {vq vv vt vu vo:Value} {es:List (Value × Value)} {s:StN}
theorem JbC (hp:MkP h lo m k c e r n nm E tag vq vv vt vu vo es s) (hL:Laying s.rows E s.rules) (hfl:h.floor≤h.next) (hN:s.rows.length+3<N) {ev_:Value} (hkinds:∀ x∈s.rows,1≤x.kind∧x.kind≤54)
  (hevs:∀ i x,s.rows[i]?=some x→J0E x.kind=true→i+1<s.rows.length) {pb eb sb:Nat}
  (h72:∃ h',call 76 [.agg #[.string nm,qS r n unk,vq,vv,vt,vu,vo,iv s.miss],ev_] h=some (.func (.func 115) #[] #[qP pb 0,qP eb 0,qP sb 0],h') ∧
   (CntAt h' pb eb sb s.rows E (J42 s.rows E s.rules)∧h.next≤h'.next∧h'.floor=h.floor∧∀ i,i<h.next→h'.get i=h.get i))
  (h82:∀ k h',1≤k∧k≤54→call 75 [iv k] h'=some (.bool (J0E k),h')) (h83:∀ a b h',0≤b∧b≤4611686018427387904→0≤a∧a≤4611686018427387904→call 77 [iv a,iv b] h'=some (iv (J2I a b),h'))
  (h88:∀ (row:Nat) h',CntAt h' pb eb sb s.rows E (J42 s.rows E s.rules)→h'.floor≤h'.next→row<s.rows.length→call 115 [iv row,qP pb 0,qP eb 0,qP sb 0] h'=some (iv (cAt s.rows E (J42 s.rows E s.rules) row),h')) :
  ∃ h',J0L Tryz.prog call N 55 [qP m 0,ev_] h=some (iv (J2K s.rows E s.rules),h')∧∀ i,i<h.next→h'.get i=h.get i:=by
 refine J1N (R:=fun h'=>∀ i,i<h.next→h'.get i=h.get i) Tryz.func55 rfl (by simp[Tryz.f55]) ?_
 have hr:Tryz.f55.results.toList=[.tmp 4]:=rfl
 obtain⟨h1,hcl,hC,hn1,hf1,ho1⟩:=h72
 have hlen:=hL.len
 have hsl:=hp.pol.len
 have hmn:=hp.lm.2
 have l8:ldN 8 0 (h.get m)=some (.agg #[.string nm,qS r n unk,vq,vv,vt,vu,vo,iv s.miss]):=by rw[hp.cell];rfl
 have c1:ld1 1 (h1.get m)=some (qS r n unk):=by rw[ho1 m hmn];exact hp.c1
 have hv1:J0l h1 (qS r n unk) s.rows:=hp.pol.at.mono hn1 ho1
 have hll:=fun h'=>hv1.len (h':=h')
 have hS:=(J6d (rows:=s.rows) (E:=E) (rules:=s.rules)).1
 simp only[evC,↓reduceIte,Nat.reduceEqDiff,reduceCtorEq,↓evP,Nat.reduceAdd,Nat.zero_add,J0g,J0y,J1b,l8,hcl,J0F,c1,hll]
 generalize hsum:J42 s.rows E s.rules=sums at *
 refine WK.loop (fun i s'=>s'.T.get 5=.func (.func 115) #[] #[qP pb 0,qP eb 0,qP sb 0]∧s'.T.get 19=qS r n unk∧s'.T.get 20=iv (s.rows.length:Int)∧s'.T.get 21=iv i∧i≤s.rows.length∧s'.h.floor=h1.floor∧h1.next≤s'.h.next∧(∀ i,i<h1.next→s'.h.get i=h1.get i) ∧
  ∃ a:Int,s'.T.get 6=iv a∧0≤a∧a≤4611686018427387904∧J5r s.rows E sums (s.rows.drop i) i a=J2K s.rows E s.rules) s.rows.length (by omega) ?_ ?_
 ·simp only[evC,↓reduceIte,Nat.reduceEqDiff,reduceCtorEq,↓evP,rpC,Nat.reduceAdd,Nat.reduceLT]
  refine⟨by omega,by omega,fun _ _=>trivial,by omega,by omega,?_⟩
  unfold J2K
  rw[hsum]
  rfl
 ·rintro i ⟨T1,H1⟩ hi ⟨t5,t19,t20,t21,hil,hf2,hn2,ho2,a,t6,ha0,haB,hcn⟩
  simp only at t5 t19 t20 t21 hf2 hn2 ho2 t6
  by_cases hlt:i<s.rows.length
  ·have c1:decide ((i:Int)<(s.rows.length:Int))=true:=by simp;omega
   obtain⟨x,hx⟩:∃ x,s.rows[i]?=some x:=⟨_,List.getElem?_eq_getElem hlt⟩
   have hv3:J0l H1 (qS r n unk) s.rows:=hv1.mono hn2 ho2
   obtain⟨id,p,e0,hid,l0,l1,l2,l3,l4,lr⟩:=hv3.row hx
   have hkx:=hkinds x (List.mem_of_getElem? hx)
   have hev:=fun h'=>h82 x.kind h' hkx
   have hflo:H1.floor≤H1.next:=by omega
   have hz:flat (.agg #[.int .i64 0,.string ByteArray.empty,.int .i64 0,.int .i64 0,.int .i64 0])=true:=rfl
   have hzc:(Value.agg #[.int .i64 0,.string ByteArray.empty,.int .i64 0,.int .i64 0,.int .i64 0]).cells.toList=zRc:=rfl
   have hone:([.int .i64 x.kind,.string x.name,.int .i64 x.ends,.int .i64 x.n,.int .i64 x.kids]:List Value).all one=true:=rfl
   have hst:J0K Tryz.prog (H1.push (.row zRc 60 false false)) 60 (qP H1.next 0) (.agg #[.int .i64 x.kind,.string x.name,.int .i64 x.ends,.int .i64 x.n,.int .i64 x.kids])=some ((H1.push (.row zRc 60 false false)).put H1.next (.row [.int .i64 x.kind,.string x.name,.int .i64 x.ends,.int .i64 x.n,.int .i64 x.kids] 60 false false)):=by
    rw[J0X,J0h,J7F,if_pos ⟨hflo,hone⟩]
   have hgd:((H1.push (.row zRc 60 false false)).put H1.next (.row [.int .i64 x.kind,.string x.name,.int .i64 x.ends,.int .i64 x.n,.int .i64 x.kids] 60 false false)).get H1.next=.row [.int .i64 x.kind,.string x.name,.int .i64 x.ends,.int .i64 x.n,.int .i64 x.kids] 60 false false:=J0b rfl (by show H1.next<H1.next+1;omega)
   have hgo:∀ i,i<h1.next→((H1.push (.row zRc 60 false false)).put H1.next (.row [.int .i64 x.kind,.string x.name,.int .i64 x.ends,.int .i64 x.n,.int .i64 x.kids] 60 false false)).get i=h1.get i:=fun i hi=>by rw[J05 (by show H1.next<H1.next+1;omega) (by omega),J06 (by omega)];exact ho2 i hi
   have hnx:((H1.push (.row zRc 60 false false)).put H1.next (.row [.int .i64 x.kind,.string x.name,.int .i64 x.ends,.int .i64 x.n,.int .i64 x.kids] 60 false false)).next=H1.next+1:=rfl
   have hfl2:((H1.push (.row zRc 60 false false)).put H1.next (.row [.int .i64 x.kind,.string x.name,.int .i64 x.ends,.int .i64 x.n,.int .i64 x.kids] 60 false false)).floor=H1.floor:=rfl
   generalize (H1.push (.row zRc 60 false false)).put H1.next (.row [.int .i64 x.kind,.string x.name,.int .i64 x.ends,.int .i64 x.n,.int .i64 x.kids] 60 false false)=H2 at *
   have w1:IntKind.i64.wrap ((i:Int)+1)=((i+1:Nat):Int):=J0s (by omega) (by omega)
   have hdr:s.rows.drop i=x :: s.rows.drop (i+1):=by
    obtain⟨hl,rfl⟩:=List.getElem?_eq_some_iff.1 hx
    exact List.drop_eq_getElem_cons hl
   rw[hdr] at hcn
   change (if J0E x.kind=false then J5r s.rows E sums (s.rows.drop (i+1)) (i+1) a else if J2I a (cAt s.rows E sums (i+1))>16384 then (i:Int) else J5r s.rows E sums (s.rows.drop (i+1)) (i+1) (J2I a (cAt s.rows E sums (i+1))))=_ at hcn
   cases dv:J0E x.kind with
   | false=>
    rw[if_pos dv] at hcn
    simp only[evC,seval,↓evP,Nat.reduceAdd,Nat.zero_add,t5,t6,t19,t20,t21,c1,e0,J0u,lr,J40,hz,hzc,hst,J0t,J0m,hgd,J1d,hev,dv,w1]
    exact⟨by omega,by omega,by rw[hfl2];exact hf2,by omega,hgo,ha0,haB,hcn⟩
   | true=>
    rw[if_neg (by rw[dv];simp)] at hcn
    have hi1:=hevs i x hx dv
    have hC2:CntAt H2 pb eb sb s.rows E sums:=hC.mono (by omega) hgo
    have hcall:=h88 (i+1) H2 hC2 (by omega) hi1
    have hcA:=J7q (rows:=s.rows) (E:=E) hS (i+1)
    have hpl:=h83 a _ H2 hcA ⟨ha0,haB⟩
    have hpn:=J3O ha0 hcA.1 hcA.2
    cases dg:decide (J2I a (cAt s.rows E sums (i+1))>16384) with
    | true=>
     rw[if_pos (by simpa using dg)] at hcn
     rw[← hcn]
     simp only[evC,seval,↓evP,hr,Nat.reduceAdd,Nat.zero_add,t5,t6,t19,t20,t21,c1,e0,J0u,lr,J40,hz,hzc,hst,J0t,J0m,hgd,J1d,hev,dv,w1,List.toList_toArray,hcall,hpl,dg]
     exact fun j hj=>by rw[hgo j (by omega)];exact ho1 j hj
    | false=>
     rw[if_neg (by simpa using dg)] at hcn
     simp only[evC,seval,↓evP,Nat.reduceAdd,Nat.zero_add,t5,t6,t19,t20,t21,c1,e0,J0u,lr,J40,hz,hzc,hst,J0t,J0m,hgd,J1d,hev,dv,w1,List.toList_toArray,hcall,hpl,dg]
     exact⟨by omega,by omega,by rw[hfl2];exact hf2,by omega,hgo,hpn.1,hpn.2,hcn⟩
  ·have c1:decide ((i:Int)<(s.rows.length:Int))=false:=by simp;omega
   have hn:J2K s.rows E s.rules=-1:=by
    rw[← hcn,List.drop_of_length_le (by omega)]
    rfl
   rw[hn]
   simp only[evC,seval,↓evP,hr,t19,t20,t21,t6,c1]
   exact fun j hj=>by rw[ho2 j (by omega)];exact ho1 j hj
end
def s0N (l:List RowN):StN:=⟨l,[],[],[],[],[],-1,[]⟩
def J31 (E:List Int) (at_:Nat) (s:StN):Int × StN:=
 match s.rows[at_]? with
 | none=>(0,s)
 | some x=>
  if J25 x s≠0 then (J25 x s,s) else
  match (J0W at_ ((E[at_]?).getD 0) x s).rows[at_]? with
  | none=>(0,s)
  | some x1=>
   if J1v at_ x1 (J0W at_ ((E[at_]?).getD 0) x s)≠0 then (J1v at_ x1 (J0W at_ ((E[at_]?).getD 0) x s),s) else
   match (J0D at_ x1 (J0W at_ ((E[at_]?).getD 0) x s)).rows[at_]? with
   | none=>(0,s)
   | some x2=>if evE x2 (J0D at_ x1 (J0W at_ ((E[at_]?).getD 0) x s))≠0 then (evE x2 (J0D at_ x1 (J0W at_ ((E[at_]?).getD 0) x s)),s)
    else (0,evS at_ x2 (J0D at_ x1 (J0W at_ ((E[at_]?).getD 0) x s)))
def goN (E:List Int):Nat→Nat→StN→Int × Nat × StN
 | 0,at_,s=>(0,at_,s)
 | r+1,at_,s=>if (J31 E at_ s).1≠0 then ((J31 E at_ s).1,at_,s) else goN E r (at_+1) (J31 E at_ s).2
noncomputable def resN (l:List RowN):(Int × Int) × StN:=
 if (J0v l).1≠0 then (J0v l,s0N l) else
 let g:=goN (J0o l) l.length 0 (s0N l)
 if g.1≠0 then ((g.1,(g.2.1:Int)),s0N l) else
 let b:=J2K g.2.2.rows (J0o l) g.2.2.rules
 if b≥0 then ((34,b),s0N l) else ((0,0),g.2.2)
theorem SubT.fit {l:List RowN} {at_ q:Nat} (h:SubT l at_ q):∃ x,l[at_]?=some x∧fitN J09 x=true:=by
 rcases h with⟨m,what,h⟩ | ⟨rfl,m,h⟩
 ·cases m with
  | zero=>cases h
  | succ m=>
   cases hx:l[at_]? with
   | none=>rw[J6M hx] at h;cases h
   | some x=>
    rw[J5l hx] at h
    split at h
    ·rename_i hc
     simp only[Bool.and_eq_true] at hc
     exact⟨x,rfl,hc.2⟩
    ·cases h
 ·cases hx:l[0]? with
  | none=>rw[J6T hx] at h;cases h
  | some x=>
   rw[J5q hx] at h
   split at h
   ·rename_i hc
    simp only[Bool.and_eq_true] at hc
    exact⟨x,rfl,hc.2⟩
   ·cases h
theorem J2c.row {l:List RowN} (h:J2c l) {i:Nat} {x:RowN} (hx:l[i]?=some x):fitN J09 x=true∧(1≤x.kind∧x.kind≤54)∧J1U x.kind≤x.kids∧i+1+x.kids.toNat≤endN l i∧endN l i≤l.length:=by
 have hi:=(List.getElem?_eq_some_iff.1 hx).1
 have hs:=h.end hi
 obtain⟨y,hy,h1⟩:=hs.fit
 obtain⟨z,hz,h2,h3,h4⟩:=hs.kids
 rw[hx] at hy hz
 cases hy
 cases hz
 refine⟨h1,h3,?_,J2o _ _ _ h4,hs.lt.2⟩
 unfold fitN at h1
 simp only[Bool.and_eq_true,decide_eq_true_eq] at h1
 omega
theorem J6v {k:Int} (h:J0E k=true) (h10:k≠10):J1O k=1∧J0j k=0:=by
 unfold J0E at h
 simp only[Bool.and_eq_true,decide_eq_true_eq] at h
 obtain rfl | rfl:k=8∨k=9:=by omega
 ·exact⟨rfl,rfl⟩
 ·exact⟨rfl,rfl⟩
theorem J4M {l:List RowN} {k i:Nat} {n:Int} (h:i≠k):(setN l k n)[i]?=l[i]?:=by
 unfold setN
 split
 ·rw[List.getElem?_set_ne (Ne.symm h)]
 ·rfl
structure InvR (l:List RowN) (at_:Nat) (s:StN):Prop where
 wf:WfS s
 len:s.rows.length=l.length
 same:∀ (i:Nat) (x:RowN),s.rows[i]?=some x→∃ y:RowN,l[i]?=some y∧x={ y with n:=x.n }
 later:∀ i:Nat,at_≤i→s.rows[i]?=l[i]?
 rl:∀ ru∈s.rules,0≤ru∧ru<l.length
 calls:∀ (i:Nat) (x:RowN),i<at_→s.rows[i]?=some x→x.kind=22→0≤x.n∧x.n<s.rules.length
theorem inv0 (l:List RowN):InvR l 0 (s0N l) where
 wf:=⟨by simp[s0N],by simp[s0N],by simp[s0N],by simp[s0N],rfl,fun t ht=>by simp[s0N] at ht⟩
 len:=rfl
 same:=fun i x hx=>⟨x,hx,rfl⟩
 later:=fun _ _=>rfl
 rl:=fun ru h=>by simp[s0N] at h
 calls:=fun i x h=>by omega
theorem J8O {at_:Nat} {end_:Int} {x:RowN} {s:StN}:(J0W at_ end_ x s).rows=if J0j x.kind=0 then s.rows else setN s.rows at_ (cntN s (J0j x.kind)):=by
 unfold J0W
 split <;> rfl
theorem J8w {l:List ThN} {x:ByteArray} {t:ThN} (h:J30 l x=some t):t∈l:=List.mem_of_find?_eq_some h
theorem JeZ {l:List RowN} {E:List Int} {at_:Nat} {s:StN} {x:RowN} (ht:J2c l) (hE:0≤(E[at_]?).getD 0) (hi:InvR l at_ s) (hx:s.rows[at_]?=some x) (hd:J25 x s=0) :
  WfS (J0W at_ ((E[at_]?).getD 0) x s)∧(J0W at_ ((E[at_]?).getD 0) x s).rows.length=l.length∧(∃ n,(J0W at_ ((E[at_]?).getD 0) x s).rows[at_]?=some { x with n:=n })∧(∀ i,i≠at_→(J0W at_ ((E[at_]?).getD 0) x s).rows[i]?=s.rows[i]?) ∧
  (∀ ru∈(J0W at_ ((E[at_]?).getD 0) x s).rules,0≤ru∧ru<l.length)∧s.rules.length≤(J0W at_ ((E[at_]?).getD 0) x s).rules.length:=by
 have hxl:l[at_]?=some x:=by rw[← hi.later at_ (Nat.le_refl _)];exact hx
 unfold J0W
 unfold J25 at hd
 by_cases d0:J0j x.kind=0
 ·rw[if_pos d0]
  exact⟨hi.wf,hi.len,⟨x.n,hx⟩,fun _ _=>rfl,hi.rl,Nat.le_refl _⟩
 ·rw [if_neg d0] at hd ⊢
  have hne:(cntN s (J0j x.kind):Int)≠J3g (J0j x.kind):=fun h=>by
   split at hd
   ·cases hd
   ·omega
  refine⟨JcU hi.wf d0 hne hE,?_,⟨_,J4g hx⟩,fun i hne=>J4M hne,fun ru hru=>?_,?_⟩
  ·exact J4N.trans hi.len
  ·simp only[addN] at hru
   split at hru
   ·rename_i h4
    simp only[List.mem_append,List.mem_cons,List.not_mem_nil,or_false] at hru
    rcases hru with h | rfl
    ·exact hi.rl ru h
    ·have:=ht.row hxl
     have h7:x.kind=7:=by
      revert h4
      unfold J0j
      (repeat' split) <;> simp_all
     have hl7:J1U x.kind=0∨0<J1U x.kind:=by have:=J4a x.kind;omega
     have h1:J1U x.kind=1:=by rw[h7];rfl
     omega
   ·exact hi.rl ru hru
  ·simp only[addN]
   split
   ·simp
   ·exact Nat.le_refl _
theorem J6b {l:List RowN} {E:List Int} {at_:Nat} {s:StN} (ht:J2c l) (hE:0≤(E[at_]?).getD 0) (hat:at_<l.length) (hi:InvR l at_ s) (h0:(J31 E at_ s).1=0):InvR l (at_+1) (J31 E at_ s).2:=by
 obtain⟨x,hx⟩:∃ x,s.rows[at_]?=some x:=⟨_,List.getElem?_eq_getElem (by rw[hi.len];exact hat)⟩
 have hxl:l[at_]?=some x:=by rw[← hi.later at_ (Nat.le_refl _)];exact hx
 unfold J31 at h0 ⊢
 rw[hx] at h0 ⊢
 simp only at h0 ⊢
 by_cases hd:J25 x s=0
 case neg=>rw[if_pos hd] at h0;exact absurd h0 hd
 rw[if_neg (by simpa using hd)] at h0 ⊢
 obtain⟨w1,n1,⟨k1,r1⟩,o1,u1,c1⟩:=JeZ ht hE hi hx hd
 generalize J0W at_ ((E[at_]?).getD 0) x s=s1 at *
 rw[r1] at h0 ⊢
 simp only at h0 ⊢
 by_cases hc:J1v at_ { x with n:=k1 } s1=0
 case neg=>rw[if_pos hc] at h0;exact absurd h0 hc
 rw[if_neg (by simpa using hc)] at h0 ⊢
 have hcall:WfS (J0D at_ { x with n:=k1 } s1)∧(J0D at_ { x with n:=k1 } s1).rows.length=l.length∧(∃ n,(J0D at_ { x with n:=k1 } s1).rows[at_]?=some { x with n:=n }∧(x.kind=22→0≤n∧n<s1.rules.length)∧(J1O x.kind=1→0≤n∧n<s1.on.length)) ∧
   (∀ i,i≠at_→(J0D at_ { x with n:=k1 } s1).rows[i]?=s1.rows[i]?)∧(J0D at_ { x with n:=k1 } s1).rules=s1.rules∧(J0D at_ { x with n:=k1 } s1).on=s1.on:=by
  unfold J0D
  unfold J1v at hc
  by_cases d0:J1O x.kind=0
  ·rw[if_pos d0]
   refine⟨w1,n1,⟨k1,r1,fun h=>?_,fun h=>by omega⟩,fun _ _=>rfl,rfl,rfl⟩
   rw[h] at d0
   cases d0
  ·rw [if_neg d0] at hc ⊢
   cases hf:J30 s1.things x.name with
   | none=>simp only[hf] at hc;cases hc
   | some t=>
    simp only[hf] at hc ⊢
    have htm:=w1.th t (J8w hf)
    have hk:t.kind=J1O x.kind:=by
     split at hc
     ·cases hc
     ·split at hc
      ·cases hc
      ·rename_i h;simpa using h
    refine⟨⟨w1.q,w1.v,w1.t,w1.u,w1.o,w1.th⟩,J4N.trans n1,⟨t.num,(J4g r1).trans rfl,fun h=>?_,fun h=>?_⟩,fun i hne=>J4M hne,trivial,trivial⟩
    ·have h4:t.kind=4:=by rw[hk,h];rfl
     rw[h4] at htm
     exact⟨htm.2.2.1,htm.2.2.2.1⟩
    ·rw[hk,h] at htm
     rw[w1.o]
     exact⟨htm.2.2.1,htm.2.2.2.1⟩
 obtain⟨w2,n2,⟨k2,r2,q2,e2⟩,o2,u2,v2⟩:=hcall
 generalize J0D at_ { x with n:=k1 } s1=s2 at *
 rw[r2] at h0 ⊢
 simp only at h0 ⊢
 by_cases hv:evE { x with n:=k2 } s2=0
 case neg=>rw[if_pos hv] at h0;exact absurd h0 hv
 rw[if_neg (by simpa using hv)] at h0 ⊢
 have hev:WfS (evS at_ { x with n:=k2 } s2)∧(evS at_ { x with n:=k2 } s2).rows=s2.rows∧(evS at_ { x with n:=k2 } s2).rules=s2.rules:=by
  unfold evS
  split
  ·exact⟨w2,rfl,rfl⟩
  ·split
   ·exact⟨⟨w2.q,w2.v,w2.t,w2.u,w2.o,w2.th⟩,rfl,rfl⟩
   ·exact⟨⟨w2.q,w2.v,w2.t,w2.u,by simp only[List.length_set];exact w2.o,w2.th⟩,rfl,rfl⟩
 obtain⟨w3,r3,u3⟩:=hev
 refine⟨w3,by rw[r3];exact n2,fun i y hy=>?_,fun i hi'=>?_,by rw[u3,u2];exact u1,fun i y hi' hy h22=>?_⟩
 ·rw[r3] at hy
  by_cases hia:i=at_
  ·subst hia
   rw[r2] at hy
   cases hy
   exact⟨x,hxl,rfl⟩
  ·rw[o2 i hia,o1 i hia] at hy
   exact hi.same i y hy
 ·rw[r3,o2 i (by omega),o1 i (by omega)]
  exact hi.later i (by omega)
 ·rw[r3] at hy
  rw[u3,u2]
  by_cases hia:i=at_
  ·subst hia
   rw[r2] at hy
   cases hy
   exact q2 h22
  ·rw[o2 i hia,o1 i hia] at hy
   have:=hi.calls i y (by omega) hy h22
   omega
theorem JfJ {l:List RowN} {E:List Int} (ht:J2c l) (hE:∀ i:Nat,0≤(E[i]?).getD 0):∀ r at_ s,at_+r=l.length→InvR l at_ s→(goN E r at_ s).1=0→InvR l l.length (goN E r at_ s).2.2
 | 0,at_,s,hr,hi,_=>by
  have:at_=l.length:=by omega
  subst this
  exact hi
 | r+1,at_,s,hr,hi,h0=>by
  unfold goN at h0 ⊢
  by_cases h:(J31 E at_ s).1=0
  ·rw[if_neg (by simpa using h)] at h0 ⊢
   exact JfJ ht hE r (at_+1) _ (by omega) (J6b ht (hE at_) (by omega) hi h) h0
  ·rw[if_pos h] at h0
   exact absurd h0 h
theorem J3T {l:List RowN} (i:Nat):0≤((J0o l)[i]?).getD 0:=by
 by_cases hi:i<l.length
 ·rw[J2B hi]
  simp
 ·rw[List.getElem?_eq_none (by rw[J39];omega)]
  simp
theorem J8n {l:List RowN} {s:StN} (ht:J2c l) (hlen:l.length<1099511627) (hi:InvR l l.length s):Laying s.rows (J0o l) s.rules where
 len:=by rw[hi.len];exact hlen
 e:=by rw[J39,hi.len]
 ends:=fun i h=>by
  rw[hi.len] at h
  have:=(ht.end h).lt
  exact⟨endN l i,J2B h,by omega,by rw[hi.len];omega⟩
 rl:=fun ru h=>by rw[hi.len];exact hi.rl ru h
 nrules:=by have:=hi.wf.u;omega
 calls:=fun x hx h22=>by
  obtain⟨i,hil,rfl⟩:=List.getElem_of_mem hx
  exact hi.calls i _ (by rw[← hi.len];exact hil) (List.getElem?_eq_getElem hil) h22
theorem J68 {l:List RowN} {at_:Nat} {s:StN} (ht:J2c l) (hi:InvR l at_ s):∀ x∈s.rows,1≤x.kind∧x.kind≤54:=fun x hx=>by
 obtain⟨i,hil,rfl⟩:=List.getElem_of_mem hx
 obtain⟨y,hy,he⟩:=hi.same i _ (List.getElem?_eq_getElem hil)
 rw[he]
 exact(ht.row hy).2.1
theorem Jfw {l:List RowN} {at_:Nat} {s:StN} (ht:J2c l) (hi:InvR l at_ s):∀ i x,s.rows[i]?=some x→J0E x.kind=true→i+1<s.rows.length:=fun i x hx hev=>by
 obtain⟨y,hy,he⟩:=hi.same i _ hx
 have h1:=ht.row hy
 rw[he] at hev
 have hk:J1U y.kind=1:=by
  unfold J0E at hev
  simp only[Bool.and_eq_true,decide_eq_true_eq] at hev
  obtain h | h | h:y.kind=8∨y.kind=9∨y.kind=10:=by omega
  all_goals (rw[h];rfl)
 rw[hi.len]
 omega
theorem J4y (l:List RowN):(l.flatMap J0e).all one=true:=by
 rw[List.all_eq_true]
 intro v hv
 rw[List.mem_flatMap] at hv
 obtain⟨r,_,hv⟩:=hv
 simp only[J0e,List.mem_cons,List.not_mem_nil,or_false] at hv
 rcases hv with rfl | rfl | rfl | rfl | rfl <;> rfl
theorem J7J {α:Type} (l:List α) (a b:Nat):l.take (a+b)=l.take a++(l.drop a).take b:=List.take_add
theorem J5N:∀ (l:List RowN) (cs:List Value) (off:Nat),(∀ k r,l[k]?=some r→(cs.drop (off+k*5)).take 5=J0e r)→(cs.drop off).take (l.length*5)=l.flatMap J0e
 | [],cs,off,_=>by simp
 | r :: l,cs,off,h=>by
  have h0:=h 0 r rfl
  rw[Nat.zero_mul,Nat.add_zero] at h0
  have ih:=J5N l cs (off+5) fun k r' hk=>by
   have:=h (k+1) r' hk
   rw[← this]
   congr 2
   omega
  rw[List.length_cons,show (l.length+1)*5=5+l.length*5 by omega,J7J,h0,List.drop_drop,ih,List.flatMap_cons]
theorem J0l.src {h:SHeap} {v:Value} {l:List RowN} (hv:J0l h v l):J16 h 5 l.length v=some (l.flatMap J0e):=by
 obtain⟨a,c,rfl,⟨rfl,rfl⟩ | ⟨id,off,cs,ty,g,ro,rfl,hg,hid,hc⟩⟩:=hv
 ·rfl
 ·have:=J5N l cs off hc
  have hl:=J0N l
  simp only[J16,hg,cut,this,hl,if_true]
  by_cases h0:l.length=0
  ·rw[if_pos h0,List.length_eq_zero_iff.1 h0]
   rfl
  ·rw[if_neg h0]
section
variable {call:J0r} {N:Nat} {h:SHeap}
theorem Jby {l:List RowN} {v:Value} (hv:J0l h v l) (hne:0<l.length) (hlen:l.length<1099511627):∃ h',J0L Tryz.prog call N 49 [v] h=some (qS (h.next+1) l.length unk,h')∧(h'.get (h.next+1)=.row (l.flatMap J0e) 60 true false∧h'.next=h.next+2∧h'.floor=h.floor∧∀ i,i<h.next→h'.get i=h.get i):=by
 refine J1N (R:=fun h'=>h'.get (h.next+1)=.row (l.flatMap J0e) 60 true false∧h'.next=h.next+2∧h'.floor=h.floor∧∀ i,i<h.next→h'.get i=h.get i) Tryz.func49 rfl (by simp[Tryz.f49]) ?_
 have hr:Tryz.f49.results.toList=[.tmp 2]:=rfl
 have hsrc:=(hv.mono (h':=h.push (.row [] 60 false false)) (by show h.next≤h.next+1;omega) fun i hi=>J06 hi).src
 obtain⟨a,c,rfl,h1⟩:=hv
 obtain⟨id,off,rfl⟩:∃ id off,a=some ⟨id,off,none⟩:=by
  rcases h1 with⟨h1,_⟩ | ⟨id,off,_,_,_,_,h2,_⟩
  ·rw[h1] at hne;exact absurd hne (by simp)
  ·exact⟨id,off,h2⟩
 have hb:binS Tryz.prog .eql 22 (.tmp 3) (.const (Z0)) (.slice (some ⟨id,off,none⟩) l.length c) (Z0)=some (.bool false):=by
  have hf:flat (.slice (some ⟨id,off,none⟩) l.length c)=false:=rfl
  simp only[binS,hf,Bool.false_and,Bool.false_eq_true,if_false,Tryz.underlying22]
 have hbs:J0Q Tryz.prog h 22 0 []=some (qS h.next 0 0,h.push (.row [] 60 false false)):=by
  simp[J0Q,Tryz.underlying22,sz46,J40,flat,J1i,J0G,J5k,J3e]
 have hzs:(Value.agg #[.int .i64 0,.string ByteArray.empty,.int .i64 0,.int .i64 0,.int .i64 0]).cells.size=5:=rfl
 have hap:J1o Tryz.prog (h.push (.row [] 60 false false)) 22 (qS h.next 0 0) (.slice (some ⟨id,off,none⟩) l.length c)=some (qS (h.next+1) l.length unk,(h.push (.row [] 60 false false)).push (.row (l.flatMap J0e) 60 true false)):=by
  have hu:(0:Nat)≠unk:=by unfold unk;omega
  have e1:¬ (l.length≤0):=by omega
  have e2:l.length*48≤140737488355328:=by omega
  have e3:l.length≤140737488355328:=by omega
  have h0:J16 (h.push (.row [] 60 false false)) 5 0 (qS h.next 0 0)=some []:=by simp[J16]
  simp only[J1o,Tryz.underlying22,sz46,by46,J40,hzs,hsrc,J4y,hu,h0,e1,e2,e3,decide_true,beq_self_eq_true,Bool.and_self,if_true,if_false,Nat.le_refl,Nat.zero_add,Nat.zero_mul,Nat.zero_le,List.nil_append,show (0<5)=True by simp,J1D]
 simp only[evC,seval,↓evP,hr,hb,hbs,hap]
 refine⟨?_,rfl,rfl,fun i hi=>?_⟩
 ·exact J0h (h:=h.push (.row [] 60 false false))
 ·rw[J06 (by show i<h.next+1;omega),J06 hi]
def fs50:List (Bool × Bool × List Operand):=[fa1,fa3 [.tmp 1],fa3 [.tmp 1],fa3 [.tmp 1,.tmp 2],fa3 [.tmp 1],fa3 [.tmp 1],fa0,fa0]
theorem JbK (hsn:J1G call) {at_ m e c5 c6 n ce:Nat} {E:List Int} {y v:Int} {g5 g6 ge:Bool} {R:SHeap→Prop} (h5:h.get c5=.row [qP m 0] 86 g5 false) (h6:h.get c6=.row [qS e n ce] 25 g6 false) (he:h.get e=.row (ints E) 3 ge false) (hy:E[at_]?=some y) (hn:n=E.length)
  (hc:∃ h',call 52 [qP m 0,iv at_,iv y] h=some (iv v,h')∧(h'.floor=h.floor∧R h')):∃ h',J0L Tryz.prog call N 51 [iv at_,qP c5 0,qP c6 0] h=some (iv v,h')∧R h':=by
 refine J1N (R:=R) Tryz.func51 rfl (by simp[Tryz.f51]) ?_
 have hr:Tryz.f51.results.toList=[.tmp 4]:=rfl
 obtain⟨h',hc,hf,hR⟩:=hc
 have hat:at_<n:=by rw[hn];exact(List.getElem?_eq_some_iff.1 hy).1
 have hfx:h'.fl h.floor=h':=by rw[← hf];exact J6L h'
 have lE:=J2z (ty:=3) (g:=ge) (ro:=false) hy
 simp only[evC,seval,↓evP]
 show WK _ _ _ (.region _ _ true) _ _
 refine WK.flags (fs:=fs50) (by kernel_rfl) ?_
 unfold fs50
 iterate 8
  refine wcs hsn ?_
  simp only[rgC,seval,J04,J02,WKFC,rgL,rgK,J17,rgS,rgB,J1W,J0n,J0m,h5,h6,J1d,J1F hat,he,lE,hc,hfx]
 refine JvR ?_
 simp only[evC,seval,↓evP,hr]
 exact hR
end
theorem sz93:szOf Tryz.prog 120=some 15:=by kernel_rfl
theorem sz91:szOf Tryz.prog 118=some 5:=by kernel_rfl
theorem sz90:szOf Tryz.prog 117=some 1:=by kernel_rfl
theorem Jh7:szOf Tryz.prog 135=some 4:=by kernel_rfl
theorem JjN:J2X Tryz.prog 117=some false:=by kernel_rfl
theorem JjH:byOf Tryz.prog 135=some 40:=by kernel_rfl
theorem J9G:J1w Tryz.prog 135=some (.agg #[.string ByteArray.empty,iv 0,iv 0,iv 0]):=by kernel_rfl
theorem JcE:J2Q Tryz.prog (match Tryz.prog.underlying 135 with | some (.struct fs)=>fs.toList | _=>[])=some [(0,1),(1,1),(2,1),(3,1)]:=by kernel_rfl
abbrev JfR (nm:ByteArray) (a b c:Int):Value:=.agg #[.string nm,iv a,iv b,iv c]
theorem Jem {nm:ByteArray} {a b c:Int}:J1P Tryz.prog 135 [(0,.string nm),(1,iv a),(2,iv b),(3,iv c)]=some (JfR nm a b c):=by
 have h:=JcE
 rw[Tryz.underlying135] at h
 simp only at h
 have hf:flat (.agg #[.string ByteArray.empty,iv 0,iv 0,iv 0])=true:=rfl
 simp only[J1P,J9G,hf,if_true,Tryz.underlying135,h]
 rfl
section
variable {h:SHeap} {id off:Nat}
theorem bs90 {nm:ByteArray} {a b c:Int}:J0Q Tryz.prog h 117 1 [(0,JfR nm a b c)]=some (qS h.next 1 1,h.push (.row [.string nm,iv a,iv b,iv c] 135 false false)):=by
 simp[J0Q,Tryz.underlying117,Jh7,J9G,flat,J1i,J0G,J5k,J3e,Go.Sx.lay]
theorem J4B:J2x Tryz.prog h 117 (qP id off)=ld1 off (h.get id):=J41 JjN
theorem J0z:J08 Tryz.prog 120 (qP id off) 0=some (qP id off):=by simp[J08,Tryz.underlying120,sz28,sz30,sz90,sz91,J0q]
theorem J19:J08 Tryz.prog 120 (qP id off) 1=some (qP id (off+8)):=by simp[J08,Tryz.underlying120,sz28,sz30,sz90,sz91,J0q]
theorem J3K:J08 Tryz.prog 120 (qP id off) 2=some (qP id (off+9)):=by simp[J08,Tryz.underlying120,sz28,sz30,sz90,sz91,J0q]
theorem Jae:J08 Tryz.prog 120 (qP id off) 3=some (qP id (off+10)):=by simp[J08,Tryz.underlying120,sz28,sz30,sz90,sz91,J0q]
theorem JaK:J08 Tryz.prog 135 (qP id off) 0=some (qP id off):=by simp[J08,Tryz.underlying135,sz3,sz9,J0q]
theorem JaE:J08 Tryz.prog 135 (qP id off) 1=some (qP id (off+1)):=by simp[J08,Tryz.underlying135,sz3,sz9,J0q]
theorem JeE:J08 Tryz.prog 135 (qP id off) 2=some (qP id (off+2)):=by simp[J08,Tryz.underlying135,sz3,sz9,J0q]
theorem J7Z:J08 Tryz.prog 135 (qP id off) 3=some (qP id (off+3)):=by simp[J08,Tryz.underlying135,sz3,sz9,J0q]
theorem JjP {i:Nat} (hi:i<5):J0R Tryz.prog 118 (qP id off) (iv (i:Int))=some (qP id (off+i)):=by
 simp only[J0R,Tryz.underlying118,sz3,J0q]
 rw[if_pos (by omega)]
 simp
theorem Jd8 {n c i:Nat} (hi:i<n):J0R Tryz.prog 117 (qS id n c) (iv (i:Int))=some (.pointer (some ⟨id,i*4,none⟩)):=by
 simp only[J0R,Tryz.underlying117,Jh7,J0q]
 rw[if_pos (by omega)]
 simp
theorem JeT {a:Option Addr} {n c:Nat}:lenS Tryz.prog h 117 (.slice a n c)=some (iv (n:Int)):=by simp[lenS,Tryz.underlying117]
end
def thC (t:ThN):List Value:=[.string t.name,iv t.kind,iv t.num,iv t.known]
def J4t (l:List ThN):List Value:=l.flatMap thC
theorem J7t:∀ l,(J4t l).length=l.length*4
 | []=>rfl
 | t :: l=>by
  have:=J7t l
  simp only[J4t,thC,List.flatMap_cons,List.length_append,List.length_cons,List.length_nil] at *
  omega
theorem J7a:∀ l,(J4t l).all one=true
 | []=>rfl
 | t :: l=>by
  have:=J7a l
  simp only[J4t,List.flatMap_cons,List.all_append] at *
  rw[this]
  rfl
theorem J4I:∀ {l:List ThN} {k:Nat} {t:ThN} (ex:List Value),l[k]?=some t→∀ j,j<4→(J4t l++ex)[k*4+j]?=(thC t)[j]?
 | [],k,t,ex,h,j,hj=>by simp at h
 | a :: l,0,t,ex,h,j,hj=>by
  simp only[List.getElem?_cons_zero,Option.some.injEq] at h
  subst h
  rw[J4t,List.flatMap_cons,List.append_assoc,Nat.zero_mul,Nat.zero_add,List.getElem?_append_left (by simp only[thC,List.length_cons,List.length_nil];omega)]
 | a :: l,k+1,t,ex,h,j,hj=>by
  have ih:=J4I (l:=l) (k:=k) (t:=t) ex (by simpa using h) j hj
  rw[J4t,List.flatMap_cons,List.append_assoc,List.getElem?_append_right (by simp only[thC,List.length_cons,List.length_nil];omega),← ih]
  congr 1
  simp only[thC,List.length_cons,List.length_nil]
  omega
def slN (s:StN):Nat→Nat
 | 2=>s.queues.length
 | 3=>s.vars.length
 | 4=>s.tags.length
 | 5=>s.rules.length
 | 6=>s.on.length
 | 8=>s.things.length
 | _=>0
def slC (s:StN):Nat→List Value
 | 2=>J3S s.queues
 | 3=>strs s.vars
 | 4=>strs s.tags
 | 5=>ints s.rules
 | 6=>ints s.on
 | 8=>J4t s.things
 | _=>[]
def slT:Nat→TypeId
 | 2=>75
 | 3=>9
 | 4=>9
 | 5=>3
 | 6=>3
 | 8=>135
 | _=>3
def upd (V:Nat→Value) (j:Nat) (v:Value):Nat→Value:=fun i=>if i=j then v else V i
def J1p (nm:ByteArray) (r n:Nat) (V:Nat→Value) (miss:Int) (e ne:Nat) (C:List Int):List Value:=
 [.string nm,qS r n unk,V 2,V 3,V 4,V 5,V 6,iv miss,qS e ne ne,V 8]++ints C
structure MkR (h:SHeap) (lo m e r n:Nat) (nm:ByteArray) (E:List Int) (tag:Nat→Nat) (V:Nat→Value) (C:List Int) (s:StN):Prop where
 cell:h.get m=.row (J1p nm r n V s.miss e E.length C) 120 false false
 rows:h.get r=.row (s.rows.flatMap J0e) 60 true false
 len:s.rows.length=n
 sl:∀ j,2≤j→j≤8→SlAt h lo tag j (V j) (slN s j) (slC s j) (slT j)
 ends:h.get e=.row (ints E) 3 false false
 tm:tag m=0
 tr:tag r=1
 te:tag e=10
 lm:lo≤m∧m<h.next
 lr:lo≤r∧r<h.next
 le:lo≤e∧e<h.next
 fl:h.floor≤lo
section
variable {h h':SHeap} {lo m e r n:Nat} {nm:ByteArray} {E:List Int} {tag tag':Nat→Nat} {V:Nat→Value} {C:List Int} {s s':StN}
theorem MkR.mono (hp:MkR h lo m e r n nm E tag V C s) (hn:h.next≤h'.next) (hf:h'.floor=h.floor) (hg:∀ i,lo≤i→i<h.next→h'.get i=h.get i):MkR h' lo m e r n nm E tag V C s where
 cell:=by rw[hg m hp.lm.1 hp.lm.2];exact hp.cell
 rows:=by rw[hg r hp.lr.1 hp.lr.2];exact hp.rows
 len:=hp.len
 sl:=fun j h1 h2=>(hp.sl j h1 h2).mono hn (fun _ _=>rfl) fun i h3 h4 _=>hg i h3 h4
 ends:=by rw[hg e hp.le.1 hp.le.2];exact hp.ends
 tm:=hp.tm
 tr:=hp.tr
 te:=hp.te
 lm:=⟨hp.lm.1,by have:=hp.lm.2;omega⟩
 lr:=⟨hp.lr.1,by have:=hp.lr.2;omega⟩
 le:=⟨hp.le.1,by have:=hp.le.2;omega⟩
 fl:=by rw[hf];exact hp.fl
theorem MkR.retag (hp:MkR h lo m e r n nm E tag V C s) (ht:∀ i,i<h.next→tag' i=tag i):MkR h lo m e r n nm E tag' V C s:=
 ⟨hp.cell,hp.rows,hp.len,fun j h1 h2=>(hp.sl j h1 h2).mono (Nat.le_refl _) ht fun _ _ _ _=>rfl,hp.ends,(ht m hp.lm.2).trans hp.tm,(ht r hp.lr.2).trans hp.tr,(ht e hp.le.2).trans hp.te,hp.lm,hp.lr,hp.le,hp.fl⟩
theorem MkR.push (hp:MkR h lo m e r n nm E tag V C s) (o:SObj):MkR (h.push o) lo m e r n nm E tag V C s:=hp.mono (by show h.next≤h.next+1;omega) rfl fun i _ hi=>J06 hi
theorem MkR.putNew (hp:MkR h lo m e r n nm E tag V C s) {o o':SObj}:MkR ((h.push o').put h.next o) lo m e r n nm E tag V C s:=
 hp.mono (by show h.next≤h.next+1;omega) rfl fun i _ hi=>by rw[J05 (by show h.next<h.next+1;omega) (by omega),J06 hi]
theorem MkR.cellW (hp:MkR h lo m e r n nm E tag V C s) {C':List Int} {miss':Int}:MkR (h.put m (.row (J1p nm r n V miss' e E.length C') 120 false false)) lo m e r n nm E tag V C' { s with miss:=miss' } where
 cell:=J0b rfl hp.lm.2
 rows:=by rw[J05 hp.lm.2 (J1Y (tag:=tag) (by rw[hp.tm,hp.tr];decide))];exact hp.rows
 len:=hp.len
 sl:=fun j h1 h2=>(hp.sl j h1 h2).mono (Nat.le_refl _) (fun _ _=>rfl) fun i _ _ h3=>J05 hp.lm.2 (J1Y (tag:=tag) (by rw[hp.tm];omega))
 ends:=by rw[J05 hp.lm.2 (J1Y (tag:=tag) (by rw[hp.tm,hp.te];decide))];exact hp.ends
 tm:=hp.tm
 tr:=hp.tr
 te:=hp.te
 lm:=hp.lm
 lr:=hp.lr
 le:=hp.le
 fl:=hp.fl
theorem MkR.rowsW (hp:MkR h lo m e r n nm E tag V C s) {l:List RowN} (hl:l.length=s.rows.length):MkR (h.put r (.row (l.flatMap J0e) 60 true false)) lo m e r n nm E tag V C { s with rows:=l } where
 cell:=by rw[J05 hp.lr.2 (J1Y (tag:=tag) (by rw[hp.tm,hp.tr];decide))];exact hp.cell
 rows:=J0b rfl hp.lr.2
 len:=hl.trans hp.len
 sl:=fun j h1 h2=>(hp.sl j h1 h2).mono (Nat.le_refl _) (fun _ _=>rfl) fun i _ _ h3=>J05 hp.lr.2 (J1Y (tag:=tag) (by rw[hp.tr];omega))
 ends:=by rw[J05 hp.lr.2 (J1Y (tag:=tag) (by rw[hp.tr,hp.te];decide))];exact hp.ends
 tm:=hp.tm
 tr:=hp.tr
 te:=hp.te
 lm:=hp.lm
 lr:=hp.lr
 le:=hp.le
 fl:=hp.fl
theorem MkR.row (hp:MkR h lo m e r n nm E tag V C s) {at_:Nat} {x:RowN} (hx:s.rows[at_]?=some x):at_<n∧ld1 (at_*5) (h.get r)=some (iv x.kind)∧ld1 (at_*5+1) (h.get r)=some (.string x.name)∧ld1 (at_*5+3) (h.get r)=some (iv x.n) ∧
  ldN 5 (at_*5) (h.get r)=some (.agg #[iv x.kind,.string x.name,iv x.ends,iv x.n,iv x.kids]):=by
 have hl:at_<n:=by rw[← hp.len];exact(List.getElem?_eq_some_iff.1 hx).1
 have hat:=J6F (c:=unk) hp.rows hp.lr.2
 rw[hp.len] at hat
 obtain⟨id,q,e0,hid,l0,l1,l2,l3,l4,lr⟩:=hat.row hx
 rw[J4z hl] at e0
 simp only[Option.some.injEq,Value.pointer.injEq,Addr.mk.injEq,and_true] at e0
 obtain⟨rfl,rfl⟩:=e0
 exact⟨hl,l0,l1,l3,lr⟩
theorem MkR.grow (hp:MkR h lo m e r n nm E tag V C s) {j:Nat} (h2:2≤j) (h8:j≤8) {t:TypeId} {w bb:Nat} {z:Value} (hu:Tryz.prog.underlying t=some (.slice (slT j))) (hsz:szOf Tryz.prog (slT j)=some w) (hby:byOf Tryz.prog (slT j)=some bb) (hzo:J1w Tryz.prog (slT j)=some z) (hz:z.cells.size=w) (hw:0<w) (hbb:bb≤1024)
  {xs:List Value} (hcl:(slC s j).length=slN s j*w) (hco:(slC s j).all one=true) (hxl:xs.length=w) (hxo:xs.all one=true) (hnb:slN s j<10000000) :
  ∃ v' h1,J1o Tryz.prog (h.push (.row xs (slT j) false false)) t (V j) (qS h.next 1 1)=some (v',h1)∧one v'=true∧v'.cells=#[v']∧h1.get m=h.get m∧h1.floor=h.floor∧h1.next=h.next+2∧(∀ i,i<h.next→i<lo∨tag i=11→h1.get i=h.get i) ∧
   ∀ s',s'.rows=s.rows→s'.miss=s.miss→slN s' j=slN s j+1→slC s' j=slC s j++xs→(∀ i,i≠j→slN s' i=slN s i∧slC s' i=slC s i) →
    MkR (h1.put m (.row (J1p nm r n (upd V j v') s.miss e E.length C) 120 false false)) lo m e r n nm E (fun i=>if i=h.next+1 then j else tag i) (upd V j v') C s':=by
 have hpp:SlAt (h.push (.row xs (slT j) false false)) lo (fun i=>if i=h.next then 11 else tag i) j (V j) (slN s j) (slC s j) (slT j):=(hp.sl j h2 h8).mono (by show h.next≤h.next+1;omega) (fun i hi=>if_neg (by omega)) fun i _ hi _=>J06 hi
 have hlm:=hp.lm
 obtain⟨v',h1,a1,a2,a3,a4,a5,a6,a7⟩:=J3B (et:=slT j) (w:=w) (c:=1) (sc:=1) (xs:=xs) hu hsz hby hzo hz hw hbb hpp hcl hco (by rw[Nat.one_mul];exact hxl) hxo (by decide) (by decide) hnb (src:=h.next) J0h (by show h.next<h.next+1;omega) hp.fl (by simp;omega)
 have hnx:h1.next=h.next+2:=a4
 have hold:∀ i,i<h.next→¬ (lo≤i∧tag i=j)→h1.get i=h.get i:=fun i hi hne=>by
  rw[a7 i (by show i<h.next+1;omega) (by rw[if_neg (by omega)];exact hne),J06 hi]
 have hm1:m<h1.next:=by omega
 have hgm:h1.get m=h.get m:=hold m hlm.2 (by rw[hp.tm];omega)
 have hSl:SlAt h1 lo (fun i=>if i=h.next+1 then j else tag i) j v' (slN s j+1) (slC s j++xs) (slT j):=by
  rcases a2 with a2 | a2
  ·refine a2.mono' fun i hi=>?_
   show (if i=h.next+1 then j else tag i)=(if i=h.next+1 then j else if i=h.next then 11 else tag i)∨(if i=h.next+1 then j else if i=h.next then 11 else tag i)≠j
   by_cases e1:i=h.next+1
   ·left;rw[if_pos e1,if_pos e1]
   ·rw[if_neg e1,if_neg e1]
    by_cases e2:i=h.next
    ·right;rw[if_pos e2];omega
    ·left;rw[if_neg e2]
  ·exact absurd (show lo≤h.next+1 by omega) a2
 refine⟨v',h1,a1,a5,a6,hgm,a3,hnx,fun i hi hlo=>hold i hi (by omega),fun s' q1 q2 q3 q4 q5=>?_⟩
 have hpn:∀ i,i≠m→(h1.put m (.row (J1p nm r n (upd V j v') s.miss e E.length C) 120 false false)).get i=h1.get i:=fun i hi=>J05 hm1 (Ne.symm hi)
 have tne:∀ i,tag i≠0→i≠m:=fun i hi hh=>hi (by rw[hh];exact hp.tm)
 exact
  { cell:=by rw[q2];exact J0b rfl hm1
    rows:=by rw[hpn r (tne r (by rw[hp.tr];decide)),hold r hp.lr.2 (by rw[hp.tr];omega),q1];exact hp.rows
    len:=by rw[q1];exact hp.len
    sl:=fun i i2 i8=>by
     by_cases hij:i=j
     ·subst hij
      rw[q3,q4,show upd V i v' i=v' from if_pos rfl]
      refine hSl.mono (Nat.le_refl _) (fun _ _=>rfl) fun k k1 k2 k3=>hpn k ?_
      intro hk
      rw[hk] at k3
      rw[if_neg (by omega),hp.tm] at k3
      omega
     ·obtain⟨q6,q7⟩:=q5 i hij
      rw[q6,q7,show upd V j v' i=V i from if_neg hij]
      refine(hp.sl i i2 i8).mono (by show h.next≤h1.next;omega) (fun k hk=>if_neg (by omega)) fun k k1 k2 k3=>?_
      rw[hpn k (tne k (by omega)),hold k k2 (by omega)]
    ends:=by rw[hpn e (tne e (by rw[hp.te];decide)),hold e hp.le.2 (by rw[hp.te];omega)];exact hp.ends
    tm:=(if_neg (by omega)).trans hp.tm
    tr:=(if_neg (by have:=hp.lr;omega)).trans hp.tr
    te:=(if_neg (by have:=hp.le;omega)).trans hp.te
    lm:=⟨hlm.1,hm1⟩
    lr:=⟨hp.lr.1,by have:=hp.lr.2;show r<h1.next;omega⟩
    le:=⟨hp.le.1,by have:=hp.le.2;show e<h1.next;omega⟩
    fl:=by show h1.floor≤lo;have:h1.floor=h.floor:=a3;have:=hp.fl;omega }
theorem MkR.slotW (hp:MkR h lo m e r n nm E tag V C s) {j:Nat} (h2:2≤j) (h8:j≤8) {id:Nat} {ex:List Value} (hV:V j=qS id (slN s j) unk) (ht:tag id=j) (hl:lo≤id∧id<h.next) (q1:s'.rows=s.rows) (q2:s'.miss=s.miss) (q3:slN s' j=slN s j)
  (q5:∀ i,i≠j→slN s' i=slN s i∧slC s' i=slC s i):MkR (h.put id (.row (slC s' j++ex) (slT j) true false)) lo m e r n nm E tag V C s' where
 cell:=by rw[J05 hl.2 (fun hh=>by subst hh;have:=hp.tm;omega),q2];exact hp.cell
 rows:=by rw[J05 hl.2 (fun hh=>by subst hh;have:=hp.tr;omega),q1];exact hp.rows
 len:=by rw[q1];exact hp.len
 sl:=fun i i2 i8=>by
  by_cases hij:i=j
  ·subst hij
   rw[q3]
   exact .inr ⟨id,ex,hV,J0b rfl hl.2,hl.1,hl.2,ht⟩
  ·obtain⟨q6,q7⟩:=q5 i hij
   rw[q6,q7]
   exact(hp.sl i i2 i8).mono (Nat.le_refl _) (fun _ _=>rfl) fun k _ _ k3=>J05 hl.2 (fun hh=>by subst hh;omega)
 ends:=by rw[J05 hl.2 (fun hh=>by subst hh;have:=hp.te;omega)];exact hp.ends
 tm:=hp.tm
 tr:=hp.tr
 te:=hp.te
 lm:=hp.lm
 lr:=hp.lr
 le:=hp.le
 fl:=hp.fl
theorem MkR.c0 (hp:MkR h lo m e r n nm E tag V C s):ld1 0 (h.get m)=some (.string nm):=by rw[hp.cell];rfl
theorem MkR.c1 (hp:MkR h lo m e r n nm E tag V C s):ld1 1 (h.get m)=some (qS r n unk):=by rw[hp.cell];rfl
theorem MkR.c2 (hp:MkR h lo m e r n nm E tag V C s):ld1 2 (h.get m)=some (V 2):=by rw[hp.cell];rfl
theorem MkR.c3 (hp:MkR h lo m e r n nm E tag V C s):ld1 3 (h.get m)=some (V 3):=by rw[hp.cell];rfl
theorem MkR.c4 (hp:MkR h lo m e r n nm E tag V C s):ld1 4 (h.get m)=some (V 4):=by rw[hp.cell];rfl
theorem MkR.c5 (hp:MkR h lo m e r n nm E tag V C s):ld1 5 (h.get m)=some (V 5):=by rw[hp.cell];rfl
theorem MkR.c6 (hp:MkR h lo m e r n nm E tag V C s):ld1 6 (h.get m)=some (V 6):=by rw[hp.cell];rfl
theorem MkR.c7 (hp:MkR h lo m e r n nm E tag V C s):ld1 7 (h.get m)=some (iv s.miss):=by rw[hp.cell];rfl
theorem MkR.c8 (hp:MkR h lo m e r n nm E tag V C s):ld1 8 (h.get m)=some (qS e E.length E.length):=by rw[hp.cell];rfl
theorem MkR.c9 (hp:MkR h lo m e r n nm E tag V C s):ld1 9 (h.get m)=some (V 8):=by rw[hp.cell];rfl
theorem MkR.cC (hp:MkR h lo m e r n nm E tag V C s) {i:Nat} {x:Int} (hi:C[i]?=some x):ld1 (10+i) (h.get m)=some (iv x):=by
 rw[hp.cell]
 have:∀ (a:List Value),a.length=10→(a++ints C)[10+i]?=some (iv x):=fun a ha=>by
  rw[List.getElem?_append_right (by omega),ha,show 10+i-10=i by omega,J6g,hi]
  rfl
 exact this _ rfl
theorem MkR.stV (hp:MkR h lo m e r n nm E tag V C s) {h1:SHeap} (hg:h1.get m=h.get m) (hf:h1.floor=h.floor) {t:TypeId} (ht:szOf Tryz.prog t=some 1) {j p:Nat} (hj:(j=p∧2≤p∧p≤6)∨(j=8∧p=9)) {v:Value} (hv:v.cells=#[v]) (ho:one v=true) :
  J0K Tryz.prog h1 t (qP m p) v=some (h1.put m (.row (J1p nm r n (upd V j v) s.miss e E.length C) 120 false false)):=by
 have hl:(J1p nm r n V s.miss e E.length C).length=10+C.length:=by simp[J1p,ints];omega
 have h0:=stc (off:=p) ht hv ho (hg.trans hp.cell) (by rw[hl];omega) (by have:=hp.fl;have:=hp.lm.1;omega)
 rw[h0]
 have key:(J1p nm r n V s.miss e E.length C).set p v=J1p nm r n (upd V j v) s.miss e E.length C:=by
  rcases hj with⟨rfl,h2,h6⟩ | ⟨rfl,rfl⟩
  ·have:j=2∨j=3∨j=4∨j=5∨j=6:=by omega
   rcases this with rfl | rfl | rfl | rfl | rfl <;> rfl
  ·rfl
 rw[key]
theorem MkR.stC (hp:MkR h lo m e r n nm E tag V C s) {i:Nat} (hi:i<C.length) {x:Int}:J0K Tryz.prog h 3 (qP m (10+i)) (iv x)=some (h.put m (.row (J1p nm r n V s.miss e E.length (C.set i x)) 120 false false)):=by
 have hl:(J1p nm r n V s.miss e E.length C).length=10+C.length:=by simp[J1p,ints];omega
 have h0:=stc (off:=10+i) sz3 (v:=iv x) rfl rfl hp.cell (by rw[hl];omega) (by have:=hp.fl;have:=hp.lm.1;omega)
 rw[h0]
 have key:∀ a:List Value,a.length=10→(a++ints C).set (10+i) (iv x)=a++ints (C.set i x):=fun a ha=>by
  rw[List.set_append_right _ _ (by omega),ha,show 10+i-10=i by omega,J66]
 rw[J1p,key _ rfl]
 rfl
theorem MkR.stM (hp:MkR h lo m e r n nm E tag V C s) {x:Int}:J0K Tryz.prog h 3 (qP m 7) (iv x)=some (h.put m (.row (J1p nm r n V x e E.length C) 120 false false)):=
 stc (off:=7) sz3 (v:=iv x) rfl rfl hp.cell (by simp[J1p,ints]) (by have:=hp.fl;have:=hp.lm.1;omega)
end
end Go.Proofs.YtdejoodfeljmkaaGreatDoor
