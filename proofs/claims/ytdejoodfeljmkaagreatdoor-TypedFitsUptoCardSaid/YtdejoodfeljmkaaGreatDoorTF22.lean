/- Part 22 of what the claim leans on: 3 texts laid one behind another. -/
import Derived.Test.YtdejoodfeljmkaaGreatDoorTF21
namespace Go.Proofs.YtdejoodfeljmkaaGreatDoor
open Go Go.Sx
set_option maxRecDepth 100000
set_option linter.unusedSimpArgs false
set_option linter.unusedVariables false
noncomputable def JrX:Array Oper:=J18 Tryz.f4 6
def fsLF:List (Bool × Bool × List Operand):=[(false,true,[]),(false,true,[.tmp 5]),(false,false,[]),(false,false,[]),(false,true,[]),(false,true,[]),(false,true,[.tmp 21]),(false,true,[.tmp 21]),(false,false,[]),(false,false,[]),(false,false,[]),(true,true,[]),(false,true,[.tmp 7]),(false,true,[.tmp 7,.tmp 2]),(false,true,[.tmp 7]),(false,false,[]),(false,false,[]),(false,false,[])]
theorem JrE:J1E JrX=fsLF:=by kernel_rfl
theorem Jqj {t:TypeId} {k:Nat} (ht:szOf Tryz.prog t=some k) {H:SHeap} {vs zs:List Value} (hz:zs.length=k) (hl:vs.length=k) (ho:vs.all one=true) (hf:H.floor≤H.next) :
  ∃ H',J0K Tryz.prog (H.push (.row zs t false false)) t (.pointer (some ⟨H.next,0,none⟩)) (.agg vs.toArray)=some H'∧H'.get H.next=.row vs t false false∧H'.next=H.next+1∧H'.floor=H.floor∧∀ i,i<H.next→H'.get i=H.get i:=
 ⟨_,stW ht (J0h (h:=H)) hz hl ho hf,J0b rfl (by show H.next<H.next+1;omega),rfl,rfl,fun i hi=>by rw[J05 (by show H.next<H.next+1;omega) (by omega),J06 hi]⟩
section
variable {n:Nat} {h:SHeap}
set_option maxHeartbeats 32000000 in
theorem JqJ {nm:ByteArray} {s:StN} {pv cv:Value} {size:Int} {C:List Int} (hp:J3x 0 h pv nm s) (hc:JpX 0 h cv size C) (h64:∀ x∈s.rows,x.kids≤9223372036854775807) (hb:Jbg s<2000000) (hC:C.length<2000000) (hfl:h.floor≤h.next) (hg:h.get 0=J14) (hn0:0<h.next) (hn:9000000<n) :
  ∃ h',J0L Tryz.prog (JqX n) n 4 [pv,cv] h=some (.bool true,h')∧True:=by
 obtain⟨vr,vq,vv,vt,vu,vo,rfl,p1,p2,p3,p4,p5,p6⟩:=id hp
 obtain⟨vc,rfl,pc⟩:=id hc
 have hsn:=(Jqk n).2
 have htot:Jbg s=s.rows.length+s.queues.length+s.vars.length+s.tags.length+s.rules.length+s.on.length:=rfl
 have hsm:JdC s:=by unfold JdC;omega
 refine J1N (R:=fun _=>True) Tryz.func4 rfl (by simp[Tryz.f4]) ?_
 have hr:Tryz.f4.results.toList=[.tmp 4]:=rfl
 have ca:(Value.agg #[.string nm,vr,vq,vv,vt,vu,vo,iv s.miss]).cells.toList=[.string nm,vr,vq,vv,vt,vu,vo,iv s.miss]:=rfl
 have oa:=all8 (nm:=nm) p1 p2 p3 p4 p5 p6
 have cb:(Value.agg #[iv size,vc]).cells.toList=[iv size,vc]:=rfl
 have ob:[iv size,vc].all one=true:=by simp only[List.all_cons,List.all_nil,J0p.one pc,J5K,Bool.and_self]
 have zc30:zPol.cells.toList=[.string ByteArray.empty,.slice none 0 0,.slice none 0 0,.slice none 0 0,.slice none 0 0,.slice none 0 0,.slice none 0 0,iv 0]:=rfl
 have zcC:(Value.agg #[iv 0,.slice none 0 0]).cells.toList=[iv 0,.slice none 0 0]:=rfl
 have zc33:(Value.agg #[Value.int IntKind.i64 0,Value.int IntKind.i64 0]).cells.toList=[iv 0,iv 0]:=rfl
 have g0:∀ (a b:SObj),let A:=(h.push a).push b
   A.get h.next=a∧A.get (h.next+1)=b∧A.next=h.next+2∧A.floor=h.floor∧∀ i,i<h.next→A.get i=h.get i:=fun a b=>
  ⟨J4c,J48,rfl,rfl,fun i hi=>by rw[J06 (by show i<h.next+1;omega),J06 hi]⟩
 obtain⟨gA,gB,nA,fA,gO⟩:=g0 (.row [.string nm,vr,vq,vv,vt,vu,vo,iv s.miss] 27 false false) (.row [iv size,vc] 39 false false)
 simp only[evC,seval,↓evP,rpD,J0X,J2t,ca,oa,cb,ob,sz30,szCp]
 generalize (h.push (.row [.string nm,vr,vq,vv,vt,vu,vo,iv s.miss] 27 false false)).push (.row [iv size,vc] 39 false false)=A at *
 have lA:ldN 8 0 (A.get h.next)=some (.agg #[.string nm,vr,vq,vv,vt,vu,vo,iv s.miss]):=J9E gA rfl
 have lC:ldN 2 0 (A.get (h.next+1))=some (.agg #[iv size,vc]):=by rw[gB];rfl
 have x1:ld1 1 (A.get (h.next+1))=some vc:=by rw[gB];rfl
 have hhd:=JrR (n:=n) (h:=A) (by rw[gO 0 hn0];exact hg)
 have hpA:J3x 0 A (.agg #[.string nm,vr,vq,vv,vt,vu,vo,iv s.miss]) nm s:=hp.mono (by omega) fun i _ hi=>gO i hi
 obtain⟨v1,H1,hk1,hL,n1,f1,o1⟩:=JrC (n:=n) hpA hsm (by omega) (by omega) (by omega)
 have hk1':=x_k (n:=n) (by decide) hk1
 have hv1:=hL.v
 obtain⟨B,stB,gB1,nB,fB,oB⟩:=Jqj (t:=27) sz30 (H:=H1) (zs:=[.string ByteArray.empty,.slice none 0 0,.slice none 0 0,.slice none 0 0,.slice none 0 0,.slice none 0 0,.slice none 0 0,iv 0]) (vs:=[.string nm,.slice (some ⟨A.next+3,0,none⟩) s.rows.length (s.rows.length+9),.slice (some ⟨A.next+3+1,0,none⟩) s.queues.length (s.queues.length+3),.slice (some ⟨A.next+3+2,0,none⟩) s.vars.length (s.vars.length+3),.slice (some ⟨A.next+3+3,0,none⟩) s.tags.length (s.tags.length+3),.slice (some ⟨A.next+3+4,0,none⟩) s.rules.length (s.rules.length+5),.slice (some ⟨A.next+3+5,0,none⟩) s.on.length (s.on.length+5),iv s.miss]) rfl rfl rfl (by omega)
 rw[← hv1] at stB
 have oBA:∀ i,i<A.next→B.get i=A.get i:=fun i hi=>by rw[oB i (by omega),o1 i hi]
 have lCB:ldN 2 0 (B.get (h.next+1))=some (.agg #[iv size,vc]):=by rw[oBA _ (by omega)];exact lC
 have hcB:JpX 0 B (.agg #[iv size,vc]) size C:=hc.mono (by omega) fun i _ hi=>by rw[oBA i (by omega),gO i hi]
 obtain⟨v2,H2,hk2,hM,n2,f2,o2⟩:=JrJ (n:=n) hcB (by omega) (by omega) (by omega)
 have hk2':=x_k (n:=n) (by decide) hk2
 have hv2:=hM.v
 obtain⟨D,stD,gD1,nD,fD,oD⟩:=Jqj (t:=39) szCp (H:=H2) (zs:=[iv 0,.slice none 0 0]) (vs:=[iv size,.slice (some ⟨B.next+2,0,none⟩) C.length (C.length+5)]) rfl rfl rfl (by omega)
 rw[← hv2] at stD
 have oDB:∀ i,i<B.next→D.get i=B.get i:=fun i hi=>by rw[oD i (by omega),o2 i hi]
 have lP:ldN 8 0 (D.get H1.next)=some v1:=by rw[oDB _ (by omega),hv1];exact J9E gB1 rfl
 have lM:ldN 2 0 (D.get H2.next)=some v2:=by rw[hv2,gD1];rfl
 have hLD:Lent8 D (A.next+3) v1 nm s:=hL.mono (by omega) fun i h1 h2=>by rw[oDB i (by omega),oB i (by omega)]
 have hMD:LentCp D (B.next+2) v2 size C:=hM.mono (by omega) (oD _ (by omega))
 have hfit:=JrB (n:=n) hLD.pol hMD.caps hLD.lies (by omega) (by rw[oDB 0 (by omega),oBA 0 (by omega),gO 0 hn0];exact hg) (by omega) hsm (by omega) (by omega) (by omega)
 have hfit':=x_k (n:=n) (by decide) hfit
 obtain⟨E,stE,gE1,nE,fE,oE⟩:=Jqj (t:=32) sz33 (H:=D) (zs:=[iv 0,iv 0]) (vs:=[iv (fitE nm s size C),iv 0]) rfl rfl rfl (by omega)
 have stE':J0K Tryz.prog (D.push (.row [iv 0,iv 0] 32 false false)) 32 (.pointer (some ⟨D.next,0,none⟩)) (J2k (fitE nm s size C) 0)=some E:=stE
 simp only[evC,seval,↓evP,J1b,Jq3,hhd,lA,hk1',J5F,J3Y,zc30,stB,lCB,hk2',Jrd,Jr0,zcC,stD,lP,lM,hfit',J3C,J1t,zc33,stE']
 have oEA:∀ i,i<A.next→E.get i=A.get i:=fun i hi=>by rw[oE i (by omega),oDB i (by omega),oBA i hi]
 have hLE:Lent8 E (A.next+3) v1 nm s:=hLD.mono (by omega) fun i h1 h2=>oE i (by omega)
 have hME:LentCp E (B.next+2) v2 size C:=hMD.mono (by omega) (oE _ (by omega))
 have lPE:ldN 8 0 (E.get H1.next)=some v1:=by rw[oE _ (by omega)];exact lP
 have lAE:ldN 8 0 (E.get h.next)=some (.agg #[.string nm,vr,vq,vv,vt,vu,vo,iv s.miss]):=by rw[oEA _ (by omega)];exact lA
 obtain⟨K1,hk3,n3,f3,o3⟩:=JrD (n:=n) hLE hpA (by omega) oEA (by omega) hsm (by omega) (by omega)
 have hk3':=x_k (n:=n) (by decide) hk3
 have m1:ld1 1 (K1.get H2.next)=some (.slice (some ⟨B.next+2,0,none⟩) C.length (C.length+5)):=by rw[o3 _ (by omega) (.inr (by omega)),oE _ (by omega),gD1];rfl
 have m2:ld1 1 (K1.get (h.next+1))=some vc:=by rw[o3 _ (by omega) (.inl (by omega)),oEA _ (by omega)];exact x1
 obtain⟨L,hLC⟩:=hME.l
 obtain⟨K2,hk4,n4,f4,o4⟩:=JqA (n:=n) (h:=K1) (o:=B.next+2) (L:=L) (v:=vc) (lo:=0) ⟨by rw[o3 _ (by omega) (.inr (by omega))];exact hLC.g,hLC.len,hLC.own,hLC.marks⟩ (by omega) (by omega) (J1S.mono pc (by omega) fun i _ hi=>by rw[o3 i (by omega) (.inl (by omega)),oEA i (by omega),gO i hi]) (by omega) (by omega)
 have hk4':=x_k (n:=n) (by decide) hk4
 have oK:∀ i,i<A.next→K2.get i=A.get i:=fun i hi=>by rw[o4 i (by omega),o3 i (by omega) (.inl (by omega)),oEA i hi]
 have lF:ldN 2 0 (K2.get D.next)=some (J2k (fitE nm s size C) 0):=by rw[o4 _ (by omega),o3 _ (by omega) (.inr (by omega)),gE1];rfl
 have lAK:ldN 8 0 (K2.get h.next)=some (.agg #[.string nm,vr,vq,vv,vt,vu,vo,iv s.miss]):=by rw[oK _ (by omega)];exact lA
 have lCK:ldN 2 0 (K2.get (h.next+1))=some (.agg #[iv size,vc]):=by rw[oK _ (by omega)];exact lC
 have hA0:(D.next<E.next)=True:=by simp;omega
 have hk5:=fun (F:SHeap) (e1:F.next=K2.next) (e2:F.floor≤F.next) (e3:∀ i,F.get i=K2.get i)=>x_k (n:=n) (by decide) (JrO (n:=n) (h:=F) (hpA.mono (by omega) fun i _ hi=>by rw[e3,oK i hi]) (hc.mono (by omega) fun i _ hi=>by rw[e3,oK i (by omega),gO i hi]) h64 (by omega) hsm (by omega) e2 (by omega))
 have hk5':=hk5 (K2.fl (max K2.floor E.next)) (J0J) (by rw[J0J,JiM];omega) (fun i=>rfl)
 have hff:(K2.fl (max K2.floor E.next)).fl K2.floor=K2:=by rw[Jk2];exact J6L K2
 have heq:∀ x y,binS Tryz.prog .eql 32 x y (J2k (fitE nm s size C) 0) (J2k (fitE nm s size C) 0)=some (.bool true):=fun x y=>by
  have:=eq33 (x:=x) (y:=y) (a:=fitE nm s size C) (b:=0) (c:=fitE nm s size C) (d:=0)
  simpa using this
 have k1f:K1.fl E.floor=K1:=by rw[← f3];exact J6L K1
 have k2f:K2.fl K1.floor=K2:=by rw[← f4];exact J6L K2
 refine WK.flags (ops:=JrX) JrE ?_
 refine WKF.begin ?_
 have FF:=aQ @JcC (aQ @JpV (aQ @J1b (aQ @Jq3 (aQ @J0n (aQ @J2n (aQ @lPE (aQ @lAE (aQ @hk3' (aQ @k1f (aQ @m1 (aQ @m2 (aQ @hk4' (aQ @k2f (aQ @hA0 (aQ @lF (aQ @lAK (aQ @lCK (aQ @hk5' (aQ @hff (aQ @heq (aQ @JiM (aQ @J1g (aQ @J0J (aQ @Jk2 @J6L))))))))))))))))))))))))
 refine wst hsn 0 (some 17) (.load 27 (.tmp 5)) none ?_
 simp only[rgC,seval,J04,J02,WKFC,rgL,FF]
 refine wst hsn 1 (some 18) (.load 27 (.tmp 2)) none ?_
 simp only[rgC,seval,J04,J02,WKFC,rgL,FF]
 refine wst hsn 2 (some 19) (.call { callee:=.value (.func 11),args:=#[.tmp 17,.tmp 18],argTypes:=#[27,27] }) none ?_
 simp only[rgC,seval,J04,J02,WKFC,rgK,FF]
 refine wst hsn 3 (some 20) (.move (.tmp 19)) none ?_
 simp only[rgC,seval,J04,J02,WKFC,FF]
 refine wst hsn 4 (some 21) (.fieldAddr 39 (.tmp 6) 1) (some (3,true)) ?_
 simp only[rgC,seval,J04,J02,WKFC,Nat.zero_add,FF]
 refine wst hsn 5 (some 22) (.load 25 (.tmp 21)) (some (3,true)) ?_
 simp only[rgC,seval,J04,J02,WKFC,rgL,FF]
 refine wst hsn 6 (some 23) (.fieldAddr 39 (.tmp 3) 1) (some (3,true)) ?_
 simp only[rgC,seval,J04,J02,WKFC,Nat.zero_add,FF]
 refine wst hsn 7 (some 24) (.load 25 (.tmp 23)) (some (3,true)) ?_
 simp only[rgC,seval,J04,J02,WKFC,rgL,FF]
 refine wst hsn 8 (some 25) (.call { callee:=.value (.func 15),args:=#[.tmp 22,.tmp 24],argTypes:=#[25,25] }) (some (3,true)) ?_
 simp only[rgC,seval,J04,J02,WKFC,rgK,FF]
 refine wst hsn 9 (some 26) (.pick (.tmp 20) (.tmp 25) (.const (Value.bool false))) none ?_
 simp only[rgC,seval,J04,J02,WKFC,FF]
 refine wst hsn 10 (some 27) (.move (.tmp 26)) none ?_
 simp only[rgC,seval,J04,J02,WKFC,FF]
 refine wst hsn 11 (some 28) (.load 32 (.tmp 7)) (some (10,true)) ?_
 simp only[rgC,seval,J04,J02,WKFC,rgL,FF]
 refine wst hsn 12 (some 29) (.load 27 (.tmp 2)) (some (10,true)) ?_
 simp only[rgC,seval,J04,J02,WKFC,rgL,FF]
 refine wst hsn 13 (some 30) (.load 39 (.tmp 3)) (some (10,true)) ?_
 simp only[rgC,seval,J04,J02,WKFC,rgL,FF]
 refine wst hsn 14 (some 31) (.call { callee:=.value (.func 16),args:=#[.tmp 29,.tmp 30],argTypes:=#[27,39] }) (some (10,true)) ?_
 simp only[rgC,seval,J04,J02,WKFC,rgK,FF]
 refine wst hsn 15 (some 32) (.binOp .eql 32 (.tmp 28) (.tmp 31) 32) (some (10,true)) ?_
 simp only[rgC,seval,J04,J02,WKFC,rgB,FF]
 refine wst hsn 16 (some 33) (.pick (.tmp 27) (.tmp 32) (.const (Value.bool false))) none ?_
 simp only[rgC,seval,J04,J02,WKFC,FF]
 refine wst hsn 17 (some 4) (.assign (.tmp 33)) none ?_
 simp only[rgC,seval,J04,J02,WKFC,FF]
 refine WKF.done (i:=18) (by kernel_rfl) ?_
 clear FF
 simp only[evC,seval,↓evP,hr]
end
end Go.Proofs.YtdejoodfeljmkaaGreatDoor
namespace Go.Proofs.YtdejoodfeljmkaaGreatDoor
open Go Go.Sx Go.ChangeShapes Go.WideShapes Go.ChangeAt Go.RowKit
set_option maxRecDepth 100000
set_option linter.unusedSimpArgs false
set_option linter.unusedVariables false
section
variable {α:Type} {cells:α→List Value} {w:Nat} {l:List α}
theorem Jrr (hcl:∀ x,(cells x).length=w):(l.flatMap cells).length=l.length*w:=by
 induction l with
 | nil=>simp
 | cons x l ih=>
  rw[List.flatMap_cons,List.length_append,ih,hcl,List.length_cons,Nat.succ_mul]
  omega
theorem Jr3 (hcl:∀ x,(cells x).length=w):∀ {l:List α} {i j:Nat} {x:α},l[i]?=some x→j<w→(l.flatMap cells)[i*w+j]?=(cells x)[j]?
 | [],i,j,x,h,_=>by simp at h
 | y :: l,0,j,x,h,hj=>by
  cases h
  rw[List.flatMap_cons,Nat.zero_mul,Nat.zero_add,List.getElem?_append_left (by rw[hcl];exact hj)]
 | y :: l,i+1,j,x,h,hj=>by
  have h':l[i]?=some x:=h
  rw[List.flatMap_cons,List.getElem?_append_right (by rw[hcl,Nat.succ_mul];omega),hcl,← Jr3 hcl h' hj]
  congr 1
  rw[Nat.succ_mul]
  omega
end
def Jq0 (W:World) (v:Value) (n w:Nat) (cs:List Value):Prop:=cs.length=n*w∧((n=0∧v=.slice none 0 0) ∨
 ∃ b off cap CS ty fr,v=.slice (some ⟨b,off,none⟩) n cap∧n≤cap∧cap<unk∧W.heap[b]?=some (.cells CS ty fr)∧∀ k,k<n*w→CS[off+k]?=cs[k]?)
section
variable {H:Type} {enc:TypeId × Value→H} {W:World} {base b0:Nat} {sp:Nat→Bool} {hd:Bool}
theorem Jq1 {α:Type} {cells:α→List Value} {Q:α→Prop} {w:Nat} {t e:TypeId} (ht:Tryz.prog.underlying t=some (.slice e)) (hw:Tryz.prog.cellsOf e=w)
  (hopen:∀ n cs y,DataW.trod enc Tryz.prog W base sp hd n e cs=some y→∃ x,cs=cells x∧Q x) (hcl:∀ x,(cells x).length=w) (hw0:0<w)
  {v:Value} {n:Nat} {y:DataW H × List MemPlace} (hval:Cell.okWide Tryz.prog W .any b0 t v) (h:DataW.trod enc Tryz.prog W base sp hd n t [v]=some y):∃ l:List α,(∀ x∈l,Q x)∧Jq0 W v l.length w (l.flatMap cells):=by
 rcases DataW.trod_slice ht h with⟨h1,h2⟩ | ⟨a',len,cap,elems,rest,n',_,h1,_,hb,hl,hm,hlen,hel,_⟩
 ·cases h1
  exact⟨[],fun x hx=>(by cases hx),by simp,.inl ⟨rfl,rfl⟩⟩
 ·cases h1
  simp only[Cell.okWide,ht,Cell.ok] at hval
  obtain⟨_,_,_,hsp,row,cells',hsh,_⟩:=hval
  obtain⟨b,off,spot⟩:=a'
  simp only at hsp
  subst hsp
  have hblk:∃ CS ty fr,W.heap[b]?=some (.cells CS ty fr):=by
   simp only[World.shape?] at hsh
   split at hsh
   ·rename_i CS ty fr hh;exact⟨_,_,_,hh⟩
   ·cases hsh
  obtain⟨CS,ty,fr,hblk⟩:=hblk
  have each:∀ i,i<len→∃ x:α,Q x∧∀ j,j<w→CS[off+(i*w+j)]?=(cells x)[j]?:=fun i hi=>by
   have:=hel i hi
   obtain⟨y,hy⟩:∃ y,elems[i]?=some y:=⟨_,List.getElem?_eq_getElem (by omega)⟩
   rw[hy,J9W,hw,Option.bind_eq_some_iff] at this
   obtain⟨cs,hcs,ht⟩:=this
   obtain⟨x,rfl,hx⟩:=hopen _ _ _ ht
   obtain⟨_,hc⟩:=Jen hcs
   refine⟨x,hx,fun j hj=>?_⟩
   rw[← hc j hj,← Nat.add_assoc]
   simp only[World.cell?,hblk,Option.isSome_none,Bool.false_eq_true,if_false]
  obtain⟨l,hll,hl1⟩:∃ l:List α,l.length=len∧∀ i x,l[i]?=some x→Q x∧∀ j,j<w→CS[off+(i*w+j)]?=(cells x)[j]?:=by
   have : ∀ m,m≤len→∃ l:List α,l.length=m∧∀ i x,l[i]?=some x→Q x∧∀ j,j<w→CS[off+(i*w+j)]?=(cells x)[j]?:=by
    intro m
    induction m with
    | zero=>exact fun _=>⟨[],rfl,fun i x h=>by simp at h⟩
    | succ m ih=>
     intro hm
     obtain⟨l,h1,h2⟩:=ih (by omega)
     obtain⟨x,hx⟩:=each m (by omega)
     refine⟨l++[x],by simp[h1],fun i y hy=>?_⟩
     rcases Nat.lt_or_ge i l.length with h3 | h3
     ·rw[List.getElem?_append_left h3] at hy
      exact h2 i y hy
     ·rw[List.getElem?_append_right h3] at hy
      have:i-l.length=0:=by
       rcases Nat.eq_zero_or_pos (i-l.length) with h4 | h4
       ·exact h4
       ·rw[List.getElem?_eq_none (by simp;omega)] at hy
        cases hy
      rw[this] at hy
      cases hy
      have:i=m:=by omega
      subst this
      exact hx
   exact this len (Nat.le_refl _)
  unfold maxLen at hm
  refine⟨l,fun x hx=>?_,Jrr hcl,.inr ⟨b,off,cap,CS,ty,fr,by rw[hll],by omega,by unfold unk;omega,hblk,fun k hk=>?_⟩⟩
  ·obtain⟨i,hi⟩:=List.getElem?_of_mem hx
   exact(hl1 i x hi).1
  ·have hdm:=Nat.div_add_mod k w
   rw[Nat.mul_comm] at hdm
   have hj:=Nat.mod_lt k hw0
   have hi:k/w<l.length:=(Nat.div_lt_iff_lt_mul hw0).2 hk
   have hx:=List.getElem?_eq_getElem hi
   rw[← hdm,(hl1 _ _ hx).2 _ hj,Jr3 hcl hx hj]
end
structure Piece where
 v:Value
 n:Nat
 w:Nat
 cs:List Value
 ty:TypeId
noncomputable def JpW:SHeap→List Piece→SHeap
 | h,[]=>h
 | h,p :: ps=>JpW (h.push (.row p.cs p.ty false true)) ps
theorem Jq4:∀ (ps:List Piece) (h:SHeap),(JpW h ps).next=h.next+ps.length∧(JpW h ps).floor=h.floor∧∀ i,i<h.next→(JpW h ps).get i=h.get i
 | [],h=>⟨rfl,rfl,fun _ _=>rfl⟩
 | p :: ps,h=>by
  obtain⟨h1,h2,h3⟩:=Jq4 ps (h.push (.row p.cs p.ty false true))
  rw[J1D] at h1 h3
  refine⟨by show (JpW _ ps).next=_;rw[h1,List.length_cons];omega,h2,fun i hi=>?_⟩
  show (JpW _ ps).get i=_
  rw[h3 i (by omega),J06 hi]
theorem Jqa:∀ {ps:List Piece} {h:SHeap} {i:Nat} {p:Piece},ps[i]?=some p→(JpW h ps).get (h.next+i)=.row p.cs p.ty false true
 | [],h,i,p,hp=>by simp at hp
 | q :: ps,h,0,p,hp=>by
  cases hp
  show (JpW _ ps).get h.next=_
  rw[(Jq4 ps _).2.2 _ (by rw[J1D];omega),J0h]
 | q :: ps,h,i+1,p,hp=>by
  have:=Jqa (ps:=ps) (h:=h.push (.row q.cs q.ty false true)) (i:=i) (p:=p) hp
  rw[J1D] at this
  show (JpW _ ps).get (h.next+(i+1))=_
  rw[← this]
  congr 1
  omega
def locP (p:Piece):Go.Sx.Loc:=match p.v with
 | .slice (some a) _ _=>⟨a.block,a.off,0,0⟩
 | _=>⟨0,0,0,0⟩
def mapL (ps:List Piece):Map:=fun i=>if i=0 then some ⟨0,0,0,0⟩ else (ps[i-1]?).map locP
def svP (i:Nat) (p:Piece):Value:=match p.v with
 | .slice (some _) n c=>.slice (some ⟨i,0,none⟩) n c
 | v=>v
theorem Jql {ps:List Piece} {i:Nat} {p:Piece} (h:ps[i]?=some p):mapL ps (i+1)=some (locP p):=by
 unfold mapL
 rw[if_neg (by omega),Nat.add_sub_cancel,h]
 rfl
theorem relL {W : World} (h : laidMetH Tryz.prog [("winnow/lex.words", Rows.laid_winnow_lex_words)] W) {ps : List Piece} (hps : ∀ p ∈ ps, Jq0 W p.v p.n p.w p.cs ∧ ∀ v ∈ p.cs, J1i v = true) :
  Rel Tryz.prog (mapL ps) (JpW Jfv ps) W∧(∀ i,¬ wr ((JpW Jfv ps).get i))∧(JpW Jfv ps).next=ps.length+1∧(JpW Jfv ps).floor=0∧(JpW Jfv ps).get 0=J14 ∧
   ∀ (i:Nat) p,ps[i]?=some p→vrel (mapL ps) (svP (i+1) p) p.v∧J0p 0 (JpW Jfv ps) (svP (i+1) p) p.n p.w p.cs:=by
 obtain⟨hn,hf,ho⟩:=Jq4 ps Jfv
 have h01:Jfv.next=1:=rfl
 rw[h01] at hn ho
 obtain⟨CS0,ty0,fr0,hb0,hcs0⟩:=J5Q (zs:=J2D) (rest:=[]) JfI J7e Tryz.underlying145 Tryz.underlying9 JfP J7w h
 have hget:∀ (i:Nat) p,ps[i]?=some p→(JpW Jfv ps).get (i+1)=.row p.cs p.ty false true:=fun i p hp=>by
  have:=Jqa (h:=Jfv) hp
  rw[h01,Nat.add_comm] at this
  exact this
 have hro:=Jcz (P:=Tryz.prog) (W:=W) (ρ:=mapL ps) (h:=JpW Jfv ps) rfl (fun i hi=>by
   unfold mapL
   rw[if_neg (by omega),List.getElem?_eq_none (by omega)]
   rfl) (fun g hg=>by
   rw[Jg1] at hg
   obtain rfl:g=0:=by omega
   exact⟨_,rfl,rfl,rfl⟩) (fun i hi=>by
   rw[hn] at hi
   cases i with
   | zero=>
    refine⟨J5v,9,false,⟨0,0,0,0⟩,CS0,ty0,fr0,(ho 0 (by omega)).trans rfl,rfl,hb0,fun k v hv=>⟨v,?_,?_⟩⟩
    ·have:CS0.toList[k]?=some v:=by rw[hcs0];exact hv
     simpa using this
    ·have hm:v∈J5v:=List.mem_of_getElem? hv
     obtain⟨z,_,rfl⟩:=List.mem_map.1 hm
     exact .flat rfl
   | succ i=>
    obtain⟨p,hp⟩:∃ p,ps[i]?=some p:=⟨_,List.getElem?_eq_getElem (by omega)⟩
    obtain⟨⟨hl,hor⟩,hfl⟩:=hps p (List.mem_of_getElem? hp)
    rcases hor with⟨h0,hv⟩ | ⟨b,off,cap,CS,ty,fr,hv,h1,h2,h3,h4⟩
    ·refine⟨p.cs,p.ty,false,locP p,CS0,ty0,fr0,hget i p hp,Jql hp,by unfold locP;rw[hv];exact hb0,fun k v hk=>?_⟩
     have:=(List.getElem?_eq_some_iff.1 hk).1
     rw[hl,h0,Nat.zero_mul] at this
     omega
    ·refine⟨p.cs,p.ty,false,locP p,CS,ty,fr,hget i p hp,Jql hp,by unfold locP;rw[hv];exact h3,fun k v hk=>⟨v,?_,.flat (hfl v (List.mem_of_getElem? hk))⟩⟩
     have hkl:=(List.getElem?_eq_some_iff.1 hk).1
     have e:(locP p).d=off:=by unfold locP;rw[hv]
     rw[e,h4 k (by omega)]
     exact hk)
 refine⟨hro.1,hro.2,by omega,hf,(ho 0 (by omega)).trans rfl,fun i p hp=>?_⟩
 obtain⟨⟨hl,hor⟩,hfl⟩:=hps p (List.mem_of_getElem? hp)
 have hil:=(List.getElem?_eq_some_iff.1 hp).1
 rcases hor with⟨h0,hv⟩ | ⟨b,off,cap,CS,ty,fr,hv,h1,h2,h3,h4⟩
 ·have e:svP (i+1) p=.slice none 0 0:=by unfold svP;rw[hv]
  have ecs:p.cs=[]:=List.length_eq_zero_iff.1 (by rw[hl,h0,Nat.zero_mul])
  rw[e,hv,ecs,h0]
  exact⟨.flat rfl,J0p.nil _ _ _⟩
 ·have e:svP (i+1) p=.slice (some ⟨i+1,0,none⟩) p.n cap:=by unfold svP;rw[hv]
  have eL:locP p=⟨b,off,0,0⟩:=by unfold locP;rw[hv]
  rw[e]
  refine⟨?_,J0p.rowR (ex:=[]) (by rw[List.append_nil];exact hget i p hp) ⟨Nat.zero_le _,by omega⟩ hl fun h=>absurd h (Nat.lt_irrefl 0)⟩
  rw[hv]
  exact vrel.slice (L:=⟨b,off,0,0⟩) (by rw[Jql hp,eL]) h2
theorem Jrg:Tryz.prog.cellsOf 27=8:=by kernel_rfl
theorem Jr8:Tryz.prog.cellsOf 75=2:=by kernel_rfl
theorem JrW:Tryz.prog.cellsOf 4=1:=by kernel_rfl
theorem JpY:Tryz.prog.cellsOf 22=1∧Tryz.prog.cellsOf 23=1∧Tryz.prog.cellsOf 24=1∧Tryz.prog.cellsOf 25=1:=⟨by kernel_rfl,by kernel_rfl,by kernel_rfl,by kernel_rfl⟩
theorem JqV:Tryz.prog.cellTypes Tryz.prog.depth 27=some [9,22,23,24,24,25,25,3]:=by kernel_rfl
structure PolW (W:World) (v:Value) (nm:ByteArray) (s:StN):Prop where
 ok:∃ vr vq vv vt vu vo,v=.agg #[.string nm,vr,vq,vv,vt,vu,vo,iv s.miss]∧Jq0 W vr s.rows.length 5 (s.rows.flatMap J0e)∧Jq0 W vq s.queues.length 2 (J3S s.queues)∧Jq0 W vv s.vars.length 1 (strs s.vars)∧Jq0 W vt s.tags.length 1 (strs s.tags)∧Jq0 W vu s.rules.length 1 (ints s.rules)∧Jq0 W vo s.on.length 1 (ints s.on)
 rows:∀ x∈s.rows,Jd7 x
 miss:-9223372036854775808≤s.miss∧s.miss≤9223372036854775807
 rules:∀ x∈s.rules,-9223372036854775808≤x∧x≤9223372036854775807
 on:∀ x∈s.on,-9223372036854775808≤x∧x≤9223372036854775807
theorem Jr9 (l:List ByteArray):l.flatMap (fun x=>[Value.string x])=strs l:=by
 induction l with
 | nil=>rfl
 | cons x l ih=>rw[List.flatMap_cons,ih];rfl
theorem Jqb (l:List Int):l.flatMap (fun x=>[iv x])=ints l:=by
 induction l with
 | nil=>rfl
 | cons x l ih=>rw[List.flatMap_cons,ih];rfl
section
variable {H:Type} {enc:TypeId × Value→H} {W:World} {base b0:Nat} {sp:Nat→Bool} {hd:Bool}
theorem JqP {n:Nat} {cs:List Value} {y:DataW H × List MemPlace} (h:DataW.trod enc Tryz.prog W base sp hd n 75 cs=some y):∃ x:ByteArray × Bool,cs=[.string x.1,.bool x.2]∧True:=by
 obtain⟨xs,m,_,_,hl,hxl,hf⟩:=DataW.trod_struct Tryz.underlying75 h
 rw[Jr8] at hl
 obtain⟨c0,c1,rfl⟩:∃ c0 c1,cs=[c0,c1]:=by
  match cs,hl with
  | [a,b],_=>exact⟨a,b,rfl⟩
 have hxl:xs.length=2:=hxl
 have g:∀ i,i<2→∃ y,xs[i]?=some y:=fun i hi=>⟨_,List.getElem?_eq_getElem (by omega)⟩
 obtain⟨y0,e0⟩:=g 0 (by omega)
 obtain⟨y1,e1⟩:=g 1 (by omega)
 have f0:DataW.trod enc Tryz.prog W base sp hd m 9 (([c0,c1].drop 0).take (Tryz.prog.cellsOf 9))=xs[0]?:=hf 0 _ rfl
 rw[Jhu,e0] at f0
 have f1:DataW.trod enc Tryz.prog W base sp hd m 4 (([c0,c1].drop 1).take (Tryz.prog.cellsOf 4))=xs[1]?:=hf 1 _ rfl
 rw[JrW,e1] at f1
 obtain⟨a,ha,_⟩:=DataW.trod_string Tryz.underlying9 f0
 obtain⟨b,hb,_⟩:=DataW.trod_bool Tryz.underlying4 f1
 cases ha
 cases hb
 exact⟨(a,b),rfl,trivial⟩
theorem Jqm {n:Nat} {cs:List Value} {y:DataW H × List MemPlace} (h:DataW.trod enc Tryz.prog W base sp hd n 9 cs=some y):∃ x:ByteArray,cs=[.string x]∧True:=by
 obtain⟨a,ha,_⟩:=DataW.trod_string Tryz.underlying9 h
 exact⟨a,ha,trivial⟩
theorem Jq6 {n:Nat} {cs:List Value} {y:DataW H × List MemPlace} (h:DataW.trod enc Tryz.prog W base sp hd n 3 cs=some y):∃ x:Int,cs=[iv x]∧(-9223372036854775808≤x∧x≤9223372036854775807):=by
 obtain⟨a,ha,_,wa⟩:=DataW.trod_int Tryz.underlying3 h
 exact⟨a,ha,bounds_i64 wa⟩
theorem JrU {v:Value} {d:DataW H} {p:List MemPlace} (hval:Value.okWide Tryz.prog W .any b0 27 v) (h:DataW.Trod enc Tryz.prog W base sp hd 27 v d p):∃ nm s,PolW W v nm s:=by
 simp only[Value.okWide,Tryz.underlying27] at hval
 obtain⟨CS,rfl,hsz,ts,hts,_,hcell⟩:=hval
 rw[JqV] at hts
 cases hts
 obtain⟨fuel,hf⟩:=h
 have hcs:(Value.agg CS).cells.toList=CS.toList:=rfl
 rw[hcs] at hf
 obtain⟨xs,m,_,_,hl,hxl,hf⟩:=DataW.trod_struct Tryz.underlying27 hf
 rw[Jrg] at hl
 obtain⟨c0,c1,c2,c3,c4,c5,c6,c7,hcs⟩:∃ c0 c1 c2 c3 c4 c5 c6 c7,CS.toList=[c0,c1,c2,c3,c4,c5,c6,c7]:=by
  match CS.toList,hl with
  | [a,b,c,d,e,f,g,i],_=>exact⟨a,b,c,d,e,f,g,i,rfl⟩
 obtain rfl:CS=#[c0,c1,c2,c3,c4,c5,c6,c7]:=by cases CS;simp_all
 have hxl:xs.length=8:=hxl
 have g:∀ i,i<8→∃ y,xs[i]?=some y:=fun i hi=>⟨_,List.getElem?_eq_getElem (by omega)⟩
 obtain⟨y0,e0⟩:=g 0 (by omega)
 obtain⟨y1,e1⟩:=g 1 (by omega)
 obtain⟨y2,e2⟩:=g 2 (by omega)
 obtain⟨y3,e3⟩:=g 3 (by omega)
 obtain⟨y4,e4⟩:=g 4 (by omega)
 obtain⟨y5,e5⟩:=g 5 (by omega)
 obtain⟨y6,e6⟩:=g 6 (by omega)
 obtain⟨y7,e7⟩:=g 7 (by omega)
 have f0:DataW.trod enc Tryz.prog W base sp hd m 9 (([c0,c1,c2,c3,c4,c5,c6,c7].drop 0).take (Tryz.prog.cellsOf 9))=xs[0]?:=hf 0 _ rfl
 rw[Jhu,e0] at f0
 have f1:DataW.trod enc Tryz.prog W base sp hd m 22 (([c0,c1,c2,c3,c4,c5,c6,c7].drop 1).take (Tryz.prog.cellsOf 22))=xs[1]?:=hf 1 _ rfl
 rw[JpY.1,e1] at f1
 have f2:DataW.trod enc Tryz.prog W base sp hd m 23 (([c0,c1,c2,c3,c4,c5,c6,c7].drop 2).take (Tryz.prog.cellsOf 23))=xs[2]?:=hf 2 _ rfl
 rw[JpY.2.1,e2] at f2
 have f3:DataW.trod enc Tryz.prog W base sp hd m 24 (([c0,c1,c2,c3,c4,c5,c6,c7].drop 3).take (Tryz.prog.cellsOf 24))=xs[3]?:=hf 3 _ rfl
 rw[JpY.2.2.1,e3] at f3
 have f4:DataW.trod enc Tryz.prog W base sp hd m 24 (([c0,c1,c2,c3,c4,c5,c6,c7].drop 4).take (Tryz.prog.cellsOf 24))=xs[4]?:=hf 4 _ rfl
 rw[JpY.2.2.1,e4] at f4
 have f5:DataW.trod enc Tryz.prog W base sp hd m 25 (([c0,c1,c2,c3,c4,c5,c6,c7].drop 5).take (Tryz.prog.cellsOf 25))=xs[5]?:=hf 5 _ rfl
 rw[JpY.2.2.2,e5] at f5
 have f6:DataW.trod enc Tryz.prog W base sp hd m 25 (([c0,c1,c2,c3,c4,c5,c6,c7].drop 6).take (Tryz.prog.cellsOf 25))=xs[6]?:=hf 6 _ rfl
 rw[JpY.2.2.2,e6] at f6
 have f7:DataW.trod enc Tryz.prog W base sp hd m 3 (([c0,c1,c2,c3,c4,c5,c6,c7].drop 7).take (Tryz.prog.cellsOf 3))=xs[7]?:=hf 7 _ rfl
 rw[Jag,e7] at f7
 have hc:∀ i v u,(#[c0,c1,c2,c3,c4,c5,c6,c7]:Array Value)[i]?=some v→([9,22,23,24,24,25,25,3]:List Nat)[i%8]?=some u→Cell.okWide Tryz.prog W .any b0 u v:=fun i v u hi hu=>by
  obtain⟨u',h1,h2⟩:=hcell i v hi
  have:u'=u:=Option.some.inj (h1.symm.trans hu)
  subst this
  exact h2
 obtain⟨nm,hnm,_⟩:=Jqm f0
 obtain⟨lr,ir,sr⟩:=Jq1 Tryz.underlying22 J9Y (fun n cs y h=>JcH h) (fun _=>rfl) (by decide) (hc 1 _ _ rfl rfl) f1
 obtain⟨lq,_,sq⟩:=Jq1 (cells:=fun x:ByteArray × Bool=>[.string x.1,.bool x.2]) Tryz.underlying23 Jr8 (fun n cs y h=>JqP h) (fun _=>rfl) (by decide) (hc 2 _ _ rfl rfl) f2
 obtain⟨lv,_,sv⟩:=Jq1 (cells:=fun x:ByteArray=>[.string x]) Tryz.underlying24 Jhu (fun n cs y h=>Jqm h) (fun _=>rfl) (by decide) (hc 3 _ _ rfl rfl) f3
 obtain⟨lt,_,st⟩:=Jq1 (cells:=fun x:ByteArray=>[.string x]) Tryz.underlying24 Jhu (fun n cs y h=>Jqm h) (fun _=>rfl) (by decide) (hc 4 _ _ rfl rfl) f4
 obtain⟨lu,iu,su⟩:=Jq1 (cells:=fun x:Int=>[iv x]) Tryz.underlying25 Jag (fun n cs y h=>Jq6 h) (fun _=>rfl) (by decide) (hc 5 _ _ rfl rfl) f5
 obtain⟨lo,io,so⟩:=Jq1 (cells:=fun x:Int=>[iv x]) Tryz.underlying25 Jag (fun n cs y h=>Jq6 h) (fun _=>rfl) (by decide) (hc 6 _ _ rfl rfl) f6
 obtain⟨ms,hms,bms⟩:=Jq6 f7
 obtain rfl:c0=.string nm:=by simpa using hnm
 obtain rfl:c7=iv ms:=by simpa using hms
 rw[Jr9] at sv st
 rw[Jqb] at su so
 exact⟨nm,⟨lr,lq,lv,lt,lu,lo,ms,[]⟩,⟨c1,c2,c3,c4,c5,c6,rfl,sr,sq,sv,st,su,so⟩,ir,bms,iu,io⟩
end
section
variable {H:Type} {enc:TypeId × Value→H} {W:World} {base b0:Nat} {sp:Nat→Bool} {hd:Bool} {v:Value} {d:DataW H} {p:List MemPlace}
end
theorem JrH {H:Type} (d:DataW H):1≤Rows.uptoBulk d:=by
 cases d with
 | lit l=>cases l <;> simp[Rows.uptoBulk]
 | nil=>simp[Rows.uptoBulk]
 | ptr d=>simp[Rows.uptoBulk]
 | slice elems spare=>simp[Rows.uptoBulk]
 | agg parts=>simp[Rows.uptoBulk]
 | iface t d=>simp[Rows.uptoBulk]
 | map entries=>simp[Rows.uptoBulk]
 | held h=>simp[Rows.uptoBulk]
theorem JqY {H:Type} (l:List (DataW H)):l.length≤Rows.uptoBulkAll l:=by
 induction l with
 | nil=>simp[Rows.uptoBulkAll]
 | cons x r ih=>have:=JrH x;simp only[Rows.uptoBulkAll,List.length_cons];omega
theorem Jq0.sl {W:World} {v:Value} {n w:Nat} {cs:List Value} (h:Jq0 W v n w cs):∃ a c,v=.slice a n c:=by
 obtain⟨_,⟨rfl,rfl⟩ | ⟨b,off,cap,CS,ty,fr,rfl,_⟩⟩:=h
 ·exact⟨_,_,rfl⟩
 ·exact⟨_,_,rfl⟩
theorem JrM:Tryz.prog.cellsOf 39=2:=by kernel_rfl
theorem JqM:Tryz.prog.cellTypes Tryz.prog.depth 39=some [3,25]:=by kernel_rfl
def JrT (W:World) (v:Value) (size:Int) (C:List Int):Prop:=∃ vc,v=.agg #[iv size,vc]∧Jq0 W vc C.length 1 (ints C)∧(-9223372036854775808≤size∧size≤9223372036854775807)∧∀ x∈C,-9223372036854775808≤x∧x≤9223372036854775807
section
variable {H:Type} {enc:TypeId × Value→H} {W:World} {base b0:Nat} {sp:Nat→Bool} {hd:Bool}
theorem JpZ {t e:TypeId} (ht:Tryz.prog.underlying t=some (.slice e)) {n m:Nat} {v:Value} {cs:List Value} {w:Nat} (hv:Jq0 W v m w cs) {y:DataW H × List MemPlace} (h:DataW.trod enc Tryz.prog W base sp hd n t [v]=some y):m≤Rows.uptoBulk y.1:=by
 obtain⟨a,c,rfl⟩:=hv.sl
 rcases DataW.trod_slice ht h with⟨h1,h2⟩ | ⟨a',len,cap,elems,rest,n',_,h1,h2,_,_,_,hlen,_⟩
 ·cases h1
  omega
 ·cases h1
  subst h2
  have h3:=JqY (elems.map (·.1))
  rw[List.length_map] at h3
  simp only[Rows.uptoBulk]
  omega
theorem Jrm {v:Value} {nm:ByteArray} {s:StN} (hp:PolW W v nm s) {d:DataW H} {p:List MemPlace} (h:DataW.Trod enc Tryz.prog W base sp hd 27 v d p):Jbg s≤Rows.uptoBulk d:=by
 obtain⟨c1,c2,c3,c4,c5,c6,rfl,s1,s2,s3,s4,s5,s6⟩:=hp.ok
 obtain⟨fuel,hf⟩:=h
 have hcs:(Value.agg #[.string nm,c1,c2,c3,c4,c5,c6,iv s.miss]).cells.toList=[.string nm,c1,c2,c3,c4,c5,c6,iv s.miss]:=rfl
 rw[hcs] at hf
 obtain⟨xs,m,_,hx,hl,hxl,hf⟩:=DataW.trod_struct Tryz.underlying27 hf
 have hxl:xs.length=8:=hxl
 obtain⟨y0,y1,y2,y3,y4,y5,y6,y7,rfl⟩:∃ y0 y1 y2 y3 y4 y5 y6 y7,xs=[y0,y1,y2,y3,y4,y5,y6,y7]:=by
  match xs,hxl with
  | [a,b,c,d,e,f,g,i],_=>exact⟨a,b,c,d,e,f,g,i,rfl⟩
 have f1:DataW.trod enc Tryz.prog W base sp hd m 22 (([.string nm,c1,c2,c3,c4,c5,c6,iv s.miss].drop 1).take (Tryz.prog.cellsOf 22))=some y1:=hf 1 _ rfl
 rw[JpY.1] at f1
 have f2:DataW.trod enc Tryz.prog W base sp hd m 23 (([.string nm,c1,c2,c3,c4,c5,c6,iv s.miss].drop 2).take (Tryz.prog.cellsOf 23))=some y2:=hf 2 _ rfl
 rw[JpY.2.1] at f2
 have f3:DataW.trod enc Tryz.prog W base sp hd m 24 (([.string nm,c1,c2,c3,c4,c5,c6,iv s.miss].drop 3).take (Tryz.prog.cellsOf 24))=some y3:=hf 3 _ rfl
 rw[JpY.2.2.1] at f3
 have f4:DataW.trod enc Tryz.prog W base sp hd m 24 (([.string nm,c1,c2,c3,c4,c5,c6,iv s.miss].drop 4).take (Tryz.prog.cellsOf 24))=some y4:=hf 4 _ rfl
 rw[JpY.2.2.1] at f4
 have f5:DataW.trod enc Tryz.prog W base sp hd m 25 (([.string nm,c1,c2,c3,c4,c5,c6,iv s.miss].drop 5).take (Tryz.prog.cellsOf 25))=some y5:=hf 5 _ rfl
 rw[JpY.2.2.2] at f5
 have f6:DataW.trod enc Tryz.prog W base sp hd m 25 (([.string nm,c1,c2,c3,c4,c5,c6,iv s.miss].drop 6).take (Tryz.prog.cellsOf 25))=some y6:=hf 6 _ rfl
 rw[JpY.2.2.2] at f6
 have b1:=JpZ Tryz.underlying22 s1 f1
 have b2:=JpZ Tryz.underlying23 s2 f2
 have b3:=JpZ Tryz.underlying24 s3 f3
 have b4:=JpZ Tryz.underlying24 s4 f4
 have b5:=JpZ Tryz.underlying25 s5 f5
 have b6:=JpZ Tryz.underlying25 s6 f6
 have e:d=.agg ([y0,y1,y2,y3,y4,y5,y6,y7].map (·.1)):=congrArg (·.1) hx
 rw[e]
 simp only[Rows.uptoBulk,Rows.uptoBulkAll,List.map_cons,List.map_nil,Jbg]
 omega
theorem JrG {v:Value} {d:DataW H} {p:List MemPlace} (hval:Value.okWide Tryz.prog W .any b0 39 v) (h:DataW.Trod enc Tryz.prog W base sp hd 39 v d p):∃ size C,JrT W v size C∧C.length≤Rows.uptoBulk d:=by
 simp only[Value.okWide,Tryz.underlying39] at hval
 obtain⟨CS,rfl,hsz,ts,hts,_,hcell⟩:=hval
 rw[JqM] at hts
 cases hts
 obtain⟨fuel,hf⟩:=h
 have hcs:(Value.agg CS).cells.toList=CS.toList:=rfl
 rw[hcs] at hf
 obtain⟨xs,m,_,hx,hl,hxl,hf⟩:=DataW.trod_struct Tryz.underlying39 hf
 rw[JrM] at hl
 obtain⟨c0,c1,hcs⟩:∃ c0 c1,CS.toList=[c0,c1]:=by
  match CS.toList,hl with
  | [a,b],_=>exact⟨a,b,rfl⟩
 obtain rfl:CS=#[c0,c1]:=by cases CS;simp_all
 have hxl:xs.length=2:=hxl
 obtain⟨y0,y1,rfl⟩:∃ y0 y1,xs=[y0,y1]:=by
  match xs,hxl with
  | [a,b],_=>exact⟨a,b,rfl⟩
 have f0:DataW.trod enc Tryz.prog W base sp hd m 3 (([c0,c1].drop 0).take (Tryz.prog.cellsOf 3))=some y0:=hf 0 _ rfl
 rw[Jag] at f0
 have f1:DataW.trod enc Tryz.prog W base sp hd m 25 (([c0,c1].drop 1).take (Tryz.prog.cellsOf 25))=some y1:=hf 1 _ rfl
 rw[JpY.2.2.2] at f1
 have hc:Cell.okWide Tryz.prog W .any b0 25 c1:=by
  obtain⟨u',h1,h2⟩:=hcell 1 c1 rfl
  have:u'=25:=Option.some.inj (h1.symm.trans rfl)
  subst this
  exact h2
 obtain⟨a,ha,wa⟩:=Jq6 f0
 obtain rfl:c0=iv a:=by simpa using ha
 obtain⟨l,hQ,sl⟩:=Jq1 (cells:=fun x:Int=>[iv x]) Tryz.underlying25 Jag (fun n cs y h=>Jq6 h) (fun _=>rfl) (by decide) hc f1
 rw[Jqb] at sl
 refine⟨a,l,⟨c1,rfl,sl,wa,hQ⟩,?_⟩
 have b1:=JpZ Tryz.underlying25 sl f1
 have e:d=.agg ([y0,y1].map (·.1)):=congrArg (·.1) hx
 rw[e]
 simp only[Rows.uptoBulk,Rows.uptoBulkAll,List.map_cons,List.map_nil]
 omega
end
theorem Js4 {W : World} (h : laidMetH Tryz.prog [("winnow/lex.words", Rows.laid_winnow_lex_words)] W) {v w : Value} {nm : ByteArray} {s : StN} {size : Int} {C : List Int} (hv : PolW W v nm s) (hw : JrT W w size C) :
  ∃ hp ρ sv sw,Rel Tryz.prog ρ hp W∧(∀ i,¬ wr (hp.get i))∧vrel ρ sv v∧vrel ρ sw w∧J3x 0 hp sv nm s∧JpX 0 hp sw size C∧hp.floor=0∧hp.get 0=J14∧0<hp.next:=by
 obtain⟨vr,vq,vv,vt,vu,vo,rfl,s1,s2,s3,s4,s5,s6⟩:=hv.ok
 obtain⟨vc,rfl,t1,_⟩:=hw
 have hR:=relL h (ps:=[⟨vr,_,_,_,60⟩,⟨vq,_,_,_,75⟩,⟨vv,_,_,_,9⟩,⟨vt,_,_,_,9⟩,⟨vu,_,_,_,3⟩,⟨vo,_,_,_,3⟩,⟨vc,_,_,_,3⟩]) (fun p hp=>by
  simp only[List.mem_cons,List.not_mem_nil,or_false] at hp
  have hi:∀ {l:List Int},∀ v∈ints l,J1i v=true:=fun v hv=>by
   obtain⟨x,_,rfl⟩:=List.mem_map.1 hv
   rfl
  have hs:∀ {l:List ByteArray},∀ v∈strs l,J1i v=true:=fun v hv=>by
   obtain⟨x,_,rfl⟩:=List.mem_map.1 hv
   rfl
  rcases hp with rfl | rfl | rfl | rfl | rfl | rfl | rfl
  ·refine⟨s1,fun v hv=>?_⟩
   obtain⟨x,_,hx⟩:=List.mem_flatMap.1 hv
   obtain⟨j,hj⟩:=List.getElem?_of_mem hx
   exact J7Q hj
  ·refine⟨s2,fun v hv=>?_⟩
   obtain⟨x,_,hx⟩:=List.mem_flatMap.1 hv
   simp only[List.mem_cons,List.not_mem_nil,or_false] at hx
   rcases hx with rfl | rfl <;> rfl
  ·exact⟨s3,hs⟩
  ·exact⟨s4,hs⟩
  ·exact⟨s5,hi⟩
  ·exact⟨s6,hi⟩
  ·exact⟨t1,hi⟩)
 obtain⟨r1,r2,r3,r4,r5,r6⟩:=hR
 obtain⟨a0,b0⟩:=r6 0 _ rfl
 obtain⟨a1,b1⟩:=r6 1 _ rfl
 obtain⟨a2,b2⟩:=r6 2 _ rfl
 obtain⟨a3,b3⟩:=r6 3 _ rfl
 obtain⟨a4,b4⟩:=r6 4 _ rfl
 obtain⟨a5,b5⟩:=r6 5 _ rfl
 obtain⟨a6,b6⟩:=r6 6 _ rfl
 refine⟨_,_,.agg #[.string nm,_,_,_,_,_,_,iv s.miss],.agg #[iv size,_],r1,r2,.agg (.cons (.flat rfl) (.cons a0 (.cons a1 (.cons a2 (.cons a3 (.cons a4 (.cons a5 (.cons (.flat rfl) .nil)))))))),.agg (.cons (.flat rfl) (.cons a6 .nil)),⟨_,_,_,_,_,_,rfl,J3P.of b0,b1,b2,b3,b4,b5⟩,⟨_,rfl,b6⟩,r4,r5,by omega⟩
end Go.Proofs.YtdejoodfeljmkaaGreatDoor
