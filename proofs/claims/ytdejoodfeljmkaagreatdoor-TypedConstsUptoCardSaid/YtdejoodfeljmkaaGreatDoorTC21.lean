/- Part 21 of what the claim leans on: 6 texts laid one behind another. -/
import Derived.Test.YtdejoodfeljmkaaGreatDoorTC20
namespace Go.Proofs.YtdejoodfeljmkaaGreatDoor
open Go Go.Sx
set_option maxRecDepth 100000
set_option linter.unusedSimpArgs false
set_option linter.unusedVariables false
set_option maxHeartbeats 64000000
theorem szCp:szOf Tryz.prog 39=some 2:=by kernel_rfl
theorem Js2:J2X Tryz.prog 39=some true:=by kernel_rfl
theorem Jrd:J1w Tryz.prog 39=some (.agg #[iv 0,Z0]):=by kernel_rfl
theorem Jre:J2Q Tryz.prog (match Tryz.prog.underlying 39 with | some (.struct fs)=>fs.toList | _=>[])=some [(0,1),(1,1)]:=by kernel_rfl
theorem Jr0:flat (.agg #[iv 0,Z0])=true:=rfl
theorem JrN {n:Int} {a:Option Addr} {m c:Nat}:J1P Tryz.prog 39 [(0,iv n),(1,.slice a m c)]=some (.agg #[iv n,.slice a m c]):=by
 have h:=Jre
 rw[Tryz.underlying39] at h
 simp only at h
 simp only[J1P,Jrd,Jr0,if_true,Tryz.underlying39,h]
 rfl
section
variable {h:SHeap} {id off:Nat}
theorem Jq3:J2x Tryz.prog h 39 (qP id off)=ldN 2 off (h.get id):=J5S Js2 szCp
theorem JpU:J08 Tryz.prog 39 (qP id off) 0=some (qP id off):=by simp[J08,Tryz.underlying39,sz3,sz28,J0q]
theorem JpV:J08 Tryz.prog 39 (qP id off) 1=some (qP id (off+1)):=by simp[J08,Tryz.underlying39,sz3,sz28,J0q]
end
def JpX (lo:Nat) (h:SHeap) (v:Value) (size:Int) (C:List Int):Prop:=∃ vc,v=.agg #[iv size,vc]∧J1S lo h vc C
theorem JpX.mono {lo:Nat} {h h':SHeap} {v:Value} {size:Int} {C:List Int} (hc:JpX lo h v size C) (hn:h.next≤h'.next) (hg:∀ i,lo≤i→i<h.next→h'.get i=h.get i):JpX lo h' v size C:=by
 obtain⟨vc,h1,h2⟩:=hc
 exact⟨vc,h1,J1S.mono h2 hn hg⟩
structure LentCp (h:SHeap) (b:Nat) (v:Value) (size:Int) (C:List Int):Prop where
 v:v=.agg #[iv size,qS b C.length (C.length+5)]
 lt:b<h.next
 l:∃ L,LentI h b C L
theorem LentCp.caps {h:SHeap} {b:Nat} {v:Value} {size:Int} {C:List Int} (hl:LentCp h b v size C):JpX b h v size C:=by
 obtain⟨hv,hlt,⟨L,hL⟩⟩:=hl
 exact⟨_,hv,hL.cells ⟨Nat.le_refl _,hlt⟩⟩
theorem LentCp.mono {h h':SHeap} {b:Nat} {v:Value} {size:Int} {C:List Int} (hl:LentCp h b v size C) (hn:h.next≤h'.next) (hg:h'.get b=h.get b):LentCp h' b v size C:=by
 obtain⟨hv,hlt,⟨L,hL⟩⟩:=hl
 exact⟨hv,by omega,L,by rw[hg];exact hL.g,hL.len,hL.own,hL.marks⟩
def fsLC:List (Bool × Bool × List Operand):=[fa2,fa2,fa3 [.tmp 3],fa3 [.tmp 3],fa3 [.tmp 3],fa0,fa0]
section
variable {n N:Nat} {h:SHeap}
theorem JqI {size:Int} {C:List Int} {cv:Value} {lo:Nat} (hc:JpX lo h cv size C) (hC:C.length<900000000) (hfl:h.floor≤h.next) (hn:20<n) :
  ∃ v' h',J0L Tryz.prog (J0T n) N 13 [cv] h=some (v',h')∧LentCp h' (h.next+2) v' size C∧h'.next=h.next+3∧h'.floor=h.floor∧∀ i,i<h.next→h'.get i=h.get i:=by
 obtain⟨vc,rfl,p⟩:=hc
 have hsn:=(J1z n).2
 refine J65 (R:=fun v' h'=>LentCp h' (h.next+2) v' size C∧h'.next=h.next+3∧h'.floor=h.floor∧∀ i,i<h.next→h'.get i=h.get i) Tryz.func13 rfl (by simp[Tryz.f13]) ?_
 have hr:Tryz.f13.results.toList=[.cell 2 39]:=rfl
 have ca:(Value.agg #[iv size,vc]).cells.toList=[iv size,vc]:=rfl
 have oa:[iv size,vc].all one=true:=by simp only[List.all_cons,List.all_nil,J0p.one p,J5K,Bool.and_self]
 have zc:(Value.agg #[iv 0,Z0]).cells.toList=[iv 0,Z0]:=rfl
 have g0:∀ (a b:SObj),let A:=(h.push a).push b
   A.get h.next=a∧A.get (h.next+1)=b∧A.next=h.next+2∧A.floor=h.floor∧∀ i,i<h.next→A.get i=h.get i:=fun a b=>
  ⟨J4c,J48,rfl,rfl,fun i hi=>by rw[J06 (by show i<h.next+1;omega),J06 hi]⟩
 obtain⟨gA,gZ,n0,f0,gO⟩:=g0 (.row [iv size,vc] 39 false false) (.row [iv 0,Z0] 39 false false)
 simp only[evC,seval,↓evP,rpD,J0X,J2t,ca,oa,szCp,Jrd,Jr0,zc]
 generalize (h.push (.row [iv size,vc] 39 false false)).push (.row [iv 0,Z0] 39 false false)=H0 at *
 have hA0:(h.next<H0.next)=True:=by rw[n0];simp
 have x0:ld1 0 (H0.get h.next)=some (iv size):=by rw[gA];rfl
 have x1:ld1 1 (H0.get h.next)=some vc:=by rw[gA];rfl
 have p':J1S lo (H0.fl (max H0.floor H0.next)) vc C:=J1S.mono p (by rw[J0J];omega) fun i _ hi=>gO i hi
 obtain⟨h1,hk1,⟨L,l1⟩,n1,f1,o1⟩:=Jr7 (n:=n) p' hC (by rw[J0J,JiM];omega) hn
 rw[J0J] at hk1 l1 n1 o1
 rw[JiM] at f1
 have y0:ld1 0 (h1.get h.next)=some (iv size):=by rw[o1 _ (by omega)];exact x0
 have gZ1:(h1.fl H0.floor).get (h.next+1)=.row [iv 0,Z0] 39 false false:=by rw[J1g,o1 _ (by omega)];exact gZ
 have hst:J0K Tryz.prog (h1.fl H0.floor) 39 (qP (h.next+1) 0) (.agg #[iv size,qS H0.next C.length (C.length+5)])=_:=stW szCp (vs:=[iv size,qS H0.next C.length (C.length+5)]) gZ1 rfl rfl rfl (by rw[JiM];omega)
 refine WK.flags (fs:=fsLC) (by kernel_rfl) ?_
 unfold fsLC
 iterate 7
  refine wcs hsn ?_
  simp only[rgC,seval,J04,J02,WKFC,rgL,rgK,J17,rgS,rgB,JpU,JpV,J0m,J0n,x0,x1,y0,hA0,hk1,JrN,hst,List.toList_toArray,JiM,J1g,J0J,Jk2,List.map_cons,List.map_nil]
 refine JvR ?_
 have gF:((h1.fl H0.floor).put (h.next+1) (.row [iv size,qS H0.next C.length (C.length+5)] 39 false false)).get (h.next+1)=.row [iv size,qS H0.next C.length (C.length+5)] 39 false false:=J0b rfl (by rw[J0J];omega)
 have lF:ldN 2 0 (((h1.fl H0.floor).put (h.next+1) (.row [iv size,qS H0.next C.length (C.length+5)] 39 false false)).get (h.next+1))=some (.agg #[iv size,qS H0.next C.length (C.length+5)]):=by rw[gF];rfl
 have oF:∀ i,i≠h.next+1→((h1.fl H0.floor).put (h.next+1) (.row [iv size,qS H0.next C.length (C.length+5)] 39 false false)).get i=h1.get i:=fun i hi=>by rw[J05 (by rw[J0J];omega) (Ne.symm hi)];rfl
 have nF:((h1.fl H0.floor).put (h.next+1) (.row [iv size,qS H0.next C.length (C.length+5)] 39 false false)).next=h1.next:=rfl
 have fF:((h1.fl H0.floor).put (h.next+1) (.row [iv size,qS H0.next C.length (C.length+5)] 39 false false)).floor=H0.floor:=rfl
 simp only[evC,seval,↓evP,hr,Jq3,lF]
 generalize (h1.fl H0.floor).put (h.next+1) (.row [iv size,qS H0.next C.length (C.length+5)] 39 false false)=F at *
 rw[n0] at l1
 exact⟨⟨by rw[n0],by omega,L,by rw[oF _ (by omega)];exact l1.g,l1.len,l1.own,l1.marks⟩,by omega,by omega,fun i hi=>by rw[oF i (by omega),o1 i (by omega)];exact gO i hi⟩
theorem JrJ {size:Int} {C:List Int} {cv:Value} {lo:Nat} (hc:JpX lo h cv size C) (hC:C.length<900000000) (hfl:h.floor≤h.next) (hn:30<n) :
  ∃ v' h',J0T n 13 [cv] h=some (v',h')∧LentCp h' (h.next+2) v' size C∧h'.next=h.next+3∧h'.floor=h.floor∧∀ i,i<h.next→h'.get i=h.get i:=by
 obtain⟨n,rfl⟩:∃ j,n=j+1:=⟨n-1,by omega⟩
 refine k_ex (J13 ⟨rfl,rfl,rfl⟩) (JqI (n:=n) (N:=n) hc hC hfl (by omega)) fun v' h1 hf _ ht=>?_
 rw[ht.1.v] at hf
 cases hf
end
def mk8 (i:Nat):RowN:=⟨-9,ByteArray.empty,0,i,0⟩
theorem Jqv {i:Int}:J1P Tryz.prog 60 [(0,iv (-9)),(3,iv i)]=some (rowV ⟨-9,ByteArray.empty,0,i,0⟩):=by
 have h:=J9X
 rw[Tryz.underlying60] at h
 simp only at h
 have hf:flat (.agg #[.int .i64 0,.string ByteArray.empty,.int .i64 0,.int .i64 0,.int .i64 0])=true:=rfl
 simp only[J1P,J40,hf,if_true,Tryz.underlying60,h]
 rfl
theorem Jra {nm:ByteArray} {m:Int}:J1P Tryz.prog 27 [(0,.string nm),(7,iv m)]=some (.agg #[.string nm,Z0,Z0,Z0,Z0,Z0,Z0,iv m]):=by
 have h:=J82
 rw[Tryz.underlying27] at h
 simp only at h
 simp only[J1P,J5F,J3Y,if_true,Tryz.underlying27,h]
 rfl
structure LentR (h:SHeap) (o:Nat) (l L:List RowN):Prop where
 g:h.get o=.row (L.flatMap J0e) 60 false false
 len:L.length=l.length+9
 own:∀ j,j<l.length→L[j]?=l[j]?
 marks:∀ q,q<9→L[l.length+q]?=some (mk8 (l.length+q))
structure Lent8 (h:SHeap) (b:Nat) (v:Value) (nm:ByteArray) (s:StN):Prop where
 v:v=.agg #[.string nm,qS b s.rows.length (s.rows.length+9),qS (b+1) s.queues.length (s.queues.length+3),qS (b+2) s.vars.length (s.vars.length+3),qS (b+3) s.tags.length (s.tags.length+3),qS (b+4) s.rules.length (s.rules.length+5),qS (b+5) s.on.length (s.on.length+5),iv s.miss]
 lt:b+5<h.next
 r:∃ L,LentR h b s.rows L
 q:h.get (b+1)=.row (J3S s.queues++J3e [.string ByteArray.empty,.bool false] 3) 75 false false
 w:h.get (b+2)=.row (strs s.vars++J3e [.string ByteArray.empty] 3) 9 false false
 t:h.get (b+3)=.row (strs s.tags++J3e [.string ByteArray.empty] 3) 9 false false
 u:∃ L,LentI h (b+4) s.rules L
 o:∃ L,LentI h (b+5) s.on L
theorem LentR.cells {h:SHeap} {o:Nat} {l L:List RowN} (hl:LentR h o l L) {lo c:Nat} (ho:lo≤o∧o<h.next):J3P lo h (qS o l.length c) l:=by
 have e:L=l++L.drop l.length:=by
  apply List.ext_getElem?
  intro j
  rcases Nat.lt_or_ge j l.length with h1 | h1
  ·rw[List.getElem?_append_left h1,hl.own j h1]
  ·rw[List.getElem?_append_right h1,List.getElem?_drop]
   congr 1
   omega
 have g:=hl.g
 rw[e] at g
 have g':h.get o=.row (l.flatMap J0e++(L.drop l.length).flatMap J0e) 60 false false:=by rw[g,List.flatMap_append]
 exact J3P.of (J0p.row g' ho (J0N l))
theorem Lent8.pol {h:SHeap} {b:Nat} {v:Value} {nm:ByteArray} {s:StN} (hl:Lent8 h b v nm s):J3x b h v nm s:=by
 obtain⟨hv,hlt,⟨L1,r⟩,q,w,t,⟨L2,u⟩,⟨L3,o⟩⟩:=hl
 have qn:∀ l:List (ByteArray × Bool),(J3S l).length=l.length*2:=fun l=>by
  unfold J3S
  induction l with
  | nil=>rfl
  | cons x l ih=>rw[List.flatMap_cons,List.length_append,ih,List.length_cons];simp only[List.length_cons,List.length_nil];omega
 have ql:=qn s.queues
 exact⟨_,_,_,_,_,_,hv,r.cells ⟨by omega,by omega⟩,J0p.row q ⟨by omega,by omega⟩ ql,J0p.row w ⟨by omega,by omega⟩ (by simp[strs]),J0p.row t ⟨by omega,by omega⟩ (by simp[strs]),u.cells ⟨by omega,by omega⟩,o.cells ⟨by omega,by omega⟩⟩
section
variable {t e:TypeId} {w b:Nat} {z:Value} {H:SHeap}
theorem JrP (ht:Tryz.prog.underlying t=some (.slice e)) (he:szOf Tryz.prog e=some w) (hb:byOf Tryz.prog e=some b) (hz:J1w Tryz.prog e=some z) (hzc:z.cells.size=w) (hzf:flat z=true) (hw:0<w) (hbb:b≤64) (hst:szOf Tryz.prog t=some 1)
  {lo n k D slot:Nat} {v:Value} {c cs:List Value} {ty:TypeId} (hv:J0p lo H v n w c) (hone:c.all one=true) (hn:n+k<1099511627776) (hfl:H.floor≤D) (hD:D<H.next) (hg:H.get D=.row cs ty false false) (hs:slot<cs.length) :
  ∃ Hc H',J2l Tryz.prog H t (iv ((n+k:Nat):Int)) (iv ((n+k:Nat):Int))=some (qS H.next (n+k) (n+k),H.push (.row (J3e z.cells.toList (n+k)) e false false)) ∧
   J8N Tryz.prog (H.push (.row (J3e z.cells.toList (n+k)) e false false)) t (qS H.next (n+k) (n+k)) v=some (iv (n:Int),Hc)∧Hc.get D=.row cs ty false false∧Hc.get H.next=.row (c++J3e z.cells.toList k) e false false∧Hc.next=H.next+1∧Hc.floor=H.floor∧(∀ i,i<H.next→Hc.get i=H.get i) ∧
   J2M Tryz.prog Hc t (qS H.next (n+k) (n+k)) none (some (iv (n:Int))) none=some (qS H.next n (n+k)) ∧
   J0K Tryz.prog Hc t (qP D slot) (qS H.next n (n+k))=some H'∧H'.get D=.row (cs.set slot (qS H.next n (n+k))) ty false false∧H'.next=H.next+1∧H'.floor=H.floor∧∀ i,i≠D→H'.get i=Hc.get i:=by
 obtain⟨Hc,m1,m2,m3,m4,m5,m6⟩:=JqZ (k:=k) ht he hb hz hzc hzf hw hbb hv hone hn (by omega)
 have gD:Hc.get D=.row cs ty false false:=by rw[m6 D hD];exact hg
 have hst1:=stc (v:=qS H.next n (n+k)) hst rfl rfl gD hs (by omega)
 exact⟨Hc,_,m1,m2,gD,m3,m4,m5,m6,JnH ht he (by omega) (by unfold unk;omega),hst1,J0b rfl (by omega),m4,m5,fun i hi=>J05 (by omega) (Ne.symm hi)⟩
theorem Jrx {H:SHeap} {n:Nat} {lo D slot:Nat} {v:Value} {l:List Int} {cs:List Value} {ty:TypeId} (hv:J1S lo H v l) (hl:l.length<900000000) (hfl:H.floor≤D) (hD:D<H.next) (hg:H.get D=.row cs ty false false) (hs:slot<cs.length) (hn:20<n) :
  ∃ Hc H' L,J0T n 26 [v] H=some (qS H.next l.length (l.length+5),Hc)∧LentI H' H.next l L∧(∀ i,i<H.next→Hc.get i=H.get i) ∧
   J0K Tryz.prog Hc 25 (qP D slot) (qS H.next l.length (l.length+5))=some H'∧H'.get D=.row (cs.set slot (qS H.next l.length (l.length+5))) ty false false∧H'.next=H.next+1∧H'.floor=H.floor∧∀ i,i≠D→i<H.next→H'.get i=H.get i:=by
 obtain⟨Hc,m,⟨L,hL⟩,n',f',o'⟩:=Jr7 (n:=n) hv hl (by omega) hn
 have gE:Hc.get D=.row cs ty false false:=(o' D hD).trans hg
 have hst:=stc (v:=qS H.next l.length (l.length+5)) (off:=slot) sz28 rfl rfl gE hs (by omega)
 exact⟨Hc,_,L,m,⟨by rw[J05 (by omega) (by omega)];exact hL.g,hL.len,hL.own,hL.marks⟩,o',hst,J0b rfl (by omega),n',f',fun i hi h2=>by rw[J05 (by omega) (Ne.symm hi)];exact o' i h2⟩
end
section
variable {n N:Nat} {h:SHeap}
theorem JqR {nm:ByteArray} {s:StN} {pv:Value} {lo:Nat} (hp:J3x lo h pv nm s) (hs:JdC s) (hl:Jbg s<900000000) (hfl:h.floor≤h.next) (hN:20<N) (hn:30<n) :
  ∃ v' h',J0L Tryz.prog (J0T n) N 8 [pv] h=some (v',h')∧Lent8 h' (h.next+3) v' nm s∧h'.next=h.next+9∧h'.floor=h.floor∧∀ i,i<h.next→h'.get i=h.get i:=by
 refine J65 (R:=fun v' h'=>Lent8 h' (h.next+3) v' nm s∧h'.next=h.next+9∧h'.floor=h.floor∧∀ i,i<h.next→h'.get i=h.get i) Tryz.func8 rfl (by simp[Tryz.f8]) ?_
 have hr:Tryz.f8.results.toList=[.cell 2 27]:=rfl
 obtain⟨vr,vq,vv,vt,vu,vo,rfl,p1,p2,p3,p4,p5,p6⟩:=id hp
 have ca:(Value.agg #[.string nm,vr,vq,vv,vt,vu,vo,iv s.miss]).cells.toList=[.string nm,vr,vq,vv,vt,vu,vo,iv s.miss]:=rfl
 have oa:=all8 (nm:=nm) p1 p2 p3 p4 p5 p6
 have zc30:zPol.cells.toList=zPc:=rfl
 have g0:∀ (a b:SObj),let A:=(h.push a).push b
   A.get h.next=a∧A.get (h.next+1)=b∧A.next=h.next+2∧A.floor=h.floor∧∀ i,i<h.next→A.get i=h.get i:=fun a b=>
  ⟨J4c,J48,rfl,rfl,fun i hi=>by rw[J06 (by show i<h.next+1;omega),J06 hi]⟩
 obtain⟨gA,gZ,nA,fA,gO⟩:=g0 (.row [.string nm,vr,vq,vv,vt,vu,vo,iv s.miss] 27 false false) (.row zPc 27 false false)
 simp only[evC,seval,↓evP,rpD,J0X,J2t,ca,oa,sz30,J5F,J3Y,zc30]
 generalize (h.push (.row [.string nm,vr,vq,vv,vt,vu,vo,iv s.miss] 27 false false)).push (.row zPc 27 false false)=A at *
 have q0:ld1 0 (A.get h.next)=some (.string nm):=by rw[gA];rfl
 have q1:ld1 1 (A.get h.next)=some vr:=by rw[gA];rfl
 have q7:ld1 7 (A.get h.next)=some (iv s.miss):=by rw[gA];rfl
 have hst3:=stW (t:=27) sz30 (h:=A.push (.row zPc 27 false false)) (id:=A.next) (vs:=[.string nm,Z0,Z0,Z0,Z0,Z0,Z0,iv s.miss]) (J0h (h:=A)) rfl rfl rfl (by rw[J0i];omega)
 have hst3':J0K Tryz.prog (A.push (.row zPc 27 false false)) 27 (qP A.next 0) (.agg #[.string nm,Z0,Z0,Z0,Z0,Z0,Z0,iv s.miss])=some ((A.push (.row zPc 27 false false)).put A.next (.row [.string nm,Z0,Z0,Z0,Z0,Z0,Z0,iv s.miss] 27 false false)):=hst3
 simp only[evC,seval,↓evP,Nat.zero_add,J5g,J38,J0d,J0m,q0,q7,Jra,J5F,J3Y,zc30,hst3']
 have gB:((A.push (.row zPc 27 false false)).put A.next (.row [.string nm,Z0,Z0,Z0,Z0,Z0,Z0,iv s.miss] 27 false false)).get A.next=.row [.string nm,Z0,Z0,Z0,Z0,Z0,Z0,iv s.miss] 27 false false:=J0b rfl (by show A.next<A.next+1;omega)
 have oB:∀ i,i<A.next→((A.push (.row zPc 27 false false)).put A.next (.row [.string nm,Z0,Z0,Z0,Z0,Z0,Z0,iv s.miss] 27 false false)).get i=A.get i:=fun i hi=>by rw[J05 (by show A.next<A.next+1;omega) (by omega),J06 hi]
 have nB:((A.push (.row zPc 27 false false)).put A.next (.row [.string nm,Z0,Z0,Z0,Z0,Z0,Z0,iv s.miss] 27 false false)).next=A.next+1:=rfl
 have fB:((A.push (.row zPc 27 false false)).put A.next (.row [.string nm,Z0,Z0,Z0,Z0,Z0,Z0,iv s.miss] 27 false false)).floor=A.floor:=rfl
 generalize (A.push (.row zPc 27 false false)).put A.next (.row [.string nm,Z0,Z0,Z0,Z0,Z0,Z0,iv s.miss] 27 false false)=B at *
 generalize hcs:[.string nm,Z0,Z0,Z0,Z0,Z0,Z0,iv s.miss]=cs0 at *
 have l0:cs0.length=8:=by rw[← hcs];rfl
 have P1:J0p lo B vr s.rows.length 5 (s.rows.flatMap J0e):=p1.2.mono (by omega) fun i _ hi=>by rw[oB i (by omega),gO i hi]
 obtain⟨H1,mk1,cp1,g1,n1,f1,o1⟩:=JqZ (P:=Tryz.prog) (t:=22) (e:=60) (k:=9) (z:=rowV zRow) Tryz.underlying22 sz46 by46 J40 rfl rfl (by decide) (by decide) P1 (J4y s.rows) (by have:=hs.1;omega) (by omega)
 have len1:=fun h'=>JfA p1.2 h'
 have hl1:=hs.1
 have qB1:ld1 1 (B.get h.next)=some vr:=by rw[oB _ (by omega)];exact q1
 have w9:IntKind.i64.wrap ((s.rows.length:Int)+9)=((s.rows.length+9:Nat):Int):=J0s (by omega) (by omega)
 have len9:∀ h':SHeap,lenS Tryz.prog h' 22 (qS B.next (s.rows.length+9) (s.rows.length+9))=some (iv ((s.rows.length+9:Nat):Int)):=fun h'=>JeK
 have qp:∀ r,ld1 1 ((B.push r).get h.next)=some vr:=fun r=>by rw[J06 (by omega)];exact qB1
 have q11:ld1 1 (H1.get h.next)=some vr:=by rw[o1 _ (by omega)];exact qB1
 have zr:(rowV zRow).cells.toList=J0e zRow:=rfl
 simp only[evC,seval,↓evP,Nat.zero_add,J0y,J0F,qB1,len1,w9,mk1,qp,cp1,q11]
 refine WK.loop (fun k s'=>s'.T.get 1=qP h.next 0∧s'.T.get 2=qP (h.next+1) 0∧s'.T.get 3=qP A.next 0∧s'.T.get 4=qS B.next (s.rows.length+9) (s.rows.length+9)∧s'.T.get 5=iv ((s.rows.length+k:Nat):Int)∧k≤9∧s'.h.next=B.next+1∧s'.h.floor=h.floor∧(∀ i,i<B.next→s'.h.get i=B.get i) ∧
  ∃ L:List RowN,s'.h.get B.next=.row (L.flatMap J0e) 60 false false∧L.length=s.rows.length+9∧(∀ j,j<s.rows.length→L[j]?=s.rows[j]?)∧∀ q,q<k→L[s.rows.length+q]?=some (mk8 (s.rows.length+q))) 9 (by omega) ?_ ?_
 ·refine⟨by simp only[evC,seval,↓evP,rpC],by simp only[evC,seval,↓evP,rpC],by simp only[evC,seval,↓evP,rpC],by simp only[evC,seval,↓evP,rpC],by simp only[evC,seval,↓evP,rpC];rfl,by omega,n1,f1.trans (by omega),o1,s.rows++List.replicate 9 zRow,?_,by simp,fun j hj=>by rw[List.getElem?_append_left hj],fun q hq=>by omega⟩
  show H1.get B.next=_
  have zz:J3e (rowV zRow).cells.toList 9=(List.replicate 9 zRow).flatMap J0e:=J7r 9
  rw[g1,zz,List.flatMap_append]
 rintro k ⟨T1,H2⟩ hk ⟨t1,t2,t3,t4,t5,hk9,n2,f2,o2,L,gL,lL,own,marks⟩
 simp only at t1 t2 t3 t4 t5 n2 f2 o2 gL
 by_cases hlt:k<9
 ·have c1:decide (((s.rows.length+k:Nat):Int)<((s.rows.length+9:Nat):Int))=true:=by simp;omega
  have hix:=JaW (id:=B.next) (n:=s.rows.length+9) (c:=s.rows.length+9) (i:=s.rows.length+k) (by omega)
  have hst:=JaU (h:=H2) (i:=s.rows.length+k) (x:=⟨-9,ByteArray.empty,0,((s.rows.length+k:Nat):Int),0⟩) rfl gL (by omega) (by omega)
  have w1:IntKind.i64.wrap (((s.rows.length+k:Nat):Int)+1)=((s.rows.length+(k+1):Nat):Int):=J0s (by omega) (by omega)
  simp only[evC,seval,↓evP,t1,t2,t3,t4,t5,len9,c1,Jqv,hix,hst,w1]
  refine⟨hlt,by omega,n2,f2,fun i hi=>by rw[J05 (by omega) (by omega)];exact o2 i hi,_,J0b rfl (by omega),by rw[List.length_set];exact lL,fun j hj=>?_,fun q hq=>?_⟩
  ·rw[List.getElem?_set_ne (by omega)]
   exact own j hj
  ·rcases Nat.lt_or_ge q k with h1 | h1
   ·rw[List.getElem?_set_ne (by omega)]
    exact marks q h1
   ·have:q=k:=by omega
    subst this
    rw[List.getElem?_set_self (by omega)]
    rfl
 have c1:decide (((s.rows.length+k:Nat):Int)<((s.rows.length+9:Nat):Int))=false:=by simp;omega
 have:k=9:=by omega
 subst this
 have hs0:=hs
 unfold Jbg at hl
 obtain⟨r1,r2,r3,r4,r5,r6⟩:=hs
 have q21:ld1 1 (H2.get h.next)=some vr:=by rw[o2 _ (by omega)];exact qB1
 have gD2:H2.get A.next=.row cs0 27 false false:=by rw[o2 _ (by omega)];exact gB
 have hsl1:=fun (H:SHeap)=>JnH (P:=Tryz.prog) (h:=H) (t:=22) (e:=60) (id:=B.next) (n:=s.rows.length+9) (m:=s.rows.length) (c:=s.rows.length+9) Tryz.underlying22 sz46 (by omega) (by unfold unk;omega)
 have hst1:=stc (v:=qS B.next s.rows.length (s.rows.length+9)) (off:=1) sz22 rfl rfl gD2 (by omega) (by omega)
 simp only[evC,seval,↓evP,Nat.zero_add,t1,t2,t3,t4,t5,len9,c1,J0y,J0F,q21,len1,hsl1,hst1]
 have gD3:(H2.put A.next (.row (cs0.set 1 (qS B.next s.rows.length (s.rows.length+9))) 27 false false)).get A.next=.row (cs0.set 1 (qS B.next s.rows.length (s.rows.length+9))) 27 false false:=J0b rfl (by omega)
 have n3:(H2.put A.next (.row (cs0.set 1 (qS B.next s.rows.length (s.rows.length+9))) 27 false false)).next=H2.next:=rfl
 have f3:(H2.put A.next (.row (cs0.set 1 (qS B.next s.rows.length (s.rows.length+9))) 27 false false)).floor=H2.floor:=rfl
 have o3:∀ i,i≠A.next→(H2.put A.next (.row (cs0.set 1 (qS B.next s.rows.length (s.rows.length+9))) 27 false false)).get i=H2.get i:=fun i hi=>J05 (by omega) (Ne.symm hi)
 generalize H2.put A.next (.row (cs0.set 1 (qS B.next s.rows.length (s.rows.length+9))) 27 false false)=H3 at *
 have z3:∀ i,i<A.next→H3.get i=A.get i:=fun i hi=>by rw[o3 i (by omega),o2 i (by omega),oB i hi]
 have w3:∀ m:Nat,m<900000000→IntKind.i64.wrap ((m:Int)+3)=((m+3:Nat):Int):=fun m hm=>J0s (by omega) (by omega)
 have len2:=fun h'=>JfC p2 h'
 have a2:ld1 2 (A.get h.next)=some vq:=by rw[gA];rfl
 have P2:J0p lo H3 vq s.queues.length 2 (J3S s.queues):=p2.mono (by omega) fun i _ hi=>by rw[z3 i (by omega),gO i hi]
 obtain⟨G2,H4,m21,m22,m23,m24,m25,m26,m27,m28,m29,g4,n4,f4,o4⟩:=JrP (k:=3) (slot:=2) (D:=A.next) (t:=23) (e:=75) (z:=.agg #[.string ByteArray.empty,.bool false]) Tryz.underlying23 sz57 by57 J9V rfl rfl (by decide) (by decide) sz26 P2 (J5A s.queues) (by omega) (by omega) (by omega) gD3 (by simp only[List.length_set];omega)
 have b2:ld1 2 (H3.get h.next)=some vq:=by rw[z3 _ (by omega)];exact a2
 have d2:∀ r,ld1 2 ((H3.push r).get h.next)=some vq:=fun r=>by rw[J06 (by omega)];exact b2
 have e2:ld1 2 (G2.get h.next)=some vq:=by rw[m27 _ (by omega)];exact b2
 simp only[evC,seval,↓evP,Nat.zero_add,t1,t2,t3,J0B,J0S,b2,len2,w3 s.queues.length (by omega),m21,d2,m22,e2,m28,m29]
 have z4:∀ i,i<A.next→H4.get i=A.get i:=fun i hi=>by rw[o4 i (by omega),m27 i (by omega),z3 i hi]
 have gD4:=g4
 have len3:=fun h'=>JfT p3 h'
 have a3:ld1 3 (A.get h.next)=some vv:=by rw[gA];rfl
 have P3:J0p lo H4 vv s.vars.length 1 (strs s.vars):=p3.mono (by omega) fun i _ hi=>by rw[z4 i (by omega),gO i hi]
 obtain⟨G3,H5,m31,m32,m33,m34,m35,m36,m37,m38,m39,g5,n5,f5,o5⟩:=JrP (k:=3) (slot:=3) (D:=A.next) (t:=24) (e:=9) (z:=.string ByteArray.empty) Tryz.underlying24 sz9 by9 Jdg rfl rfl (by decide) (by decide) sz27 P3 (J6e s.vars) (by omega) (by omega) (by omega) gD4 (by simp only[List.length_set];omega)
 have b3:ld1 3 (H4.get h.next)=some vv:=by rw[z4 _ (by omega)];exact a3
 have d3:∀ r,ld1 3 ((H4.push r).get h.next)=some vv:=fun r=>by rw[J06 (by omega)];exact b3
 have e3:ld1 3 (G3.get h.next)=some vv:=by rw[m37 _ (by omega)];exact b3
 simp only[evC,seval,↓evP,Nat.zero_add,t1,t2,t3,J1A,J0Y,b3,len3,w3 s.vars.length (by omega),m31,d3,m32,e3,m38,m39]
 have z5:∀ i,i<A.next→H5.get i=A.get i:=fun i hi=>by rw[o5 i (by omega),m37 i (by omega),z4 i hi]
 have gD5:=g5
 have len4:=fun h'=>JfT p4 h'
 have a4:ld1 4 (A.get h.next)=some vt:=by rw[gA];rfl
 have P4:J0p lo H5 vt s.tags.length 1 (strs s.tags):=p4.mono (by omega) fun i _ hi=>by rw[z5 i (by omega),gO i hi]
 obtain⟨G4,H6,m41,m42,m43,m44,m45,m46,m47,m48,m49,g6,n6,f6,o6⟩:=JrP (k:=3) (slot:=4) (D:=A.next) (t:=24) (e:=9) (z:=.string ByteArray.empty) Tryz.underlying24 sz9 by9 Jdg rfl rfl (by decide) (by decide) sz27 P4 (J6e s.tags) (by omega) (by omega) (by omega) gD5 (by simp only[List.length_set];omega)
 have b4:ld1 4 (H5.get h.next)=some vt:=by rw[z5 _ (by omega)];exact a4
 have d4:∀ r,ld1 4 ((H5.push r).get h.next)=some vt:=fun r=>by rw[J06 (by omega)];exact b4
 have e4:ld1 4 (G4.get h.next)=some vt:=by rw[m47 _ (by omega)];exact b4
 simp only[evC,seval,↓evP,Nat.zero_add,t1,t2,t3,J1B,J0Y,b4,len4,w3 s.tags.length (by omega),m41,d4,m42,e4,m48,m49]
 have z6:∀ i,i<A.next→H6.get i=A.get i:=fun i hi=>by rw[o6 i (by omega),m47 i (by omega),z5 i hi]
 have gD6:=g6
 have a5:ld1 5 (A.get h.next)=some vu:=by rw[gA];rfl
 have P5:J1S lo H6 vu s.rules:=J1S.mono p5 (by omega) fun i _ hi=>by rw[z6 i (by omega),gO i hi]
 obtain⟨G5,H7,L5,m5,l5,_,m58,gD7,n7,f7,o7⟩:=Jrx (n:=n) (slot:=5) P5 (by omega) (by omega) (by omega) gD6 (by simp only[List.length_set];omega) (by omega)
 have b5:ld1 5 (H6.get h.next)=some vu:=by rw[z6 _ (by omega)];exact a5
 simp only[evC,seval,↓evP,Nat.zero_add,t1,t2,t3,J36,J0n,b5,m5,m58]
 have z7:∀ i,i<A.next→H7.get i=A.get i:=fun i hi=>by rw[o7 i (by omega) (by omega),z6 i hi]
 have a6:ld1 6 (A.get h.next)=some vo:=by rw[gA];rfl
 have P6:J1S lo H7 vo s.on:=J1S.mono p6 (by omega) fun i _ hi=>by rw[z7 i (by omega),gO i hi]
 obtain⟨G6,H8,L6,m6,l6,_,m68,gD8,n8,f8,o8⟩:=Jrx (n:=n) (slot:=6) P6 (by omega) (by omega) (by omega) gD7 (by simp only[List.length_set];omega) (by omega)
 have b6:ld1 6 (H7.get h.next)=some vo:=by rw[z7 _ (by omega)];exact a6
 simp only[evC,seval,↓evP,Nat.zero_add,t1,t2,t3,J1T,J0n,b6,m6,m68]
 have z8:∀ i,i<A.next→H8.get i=A.get i:=fun i hi=>by rw[o8 i (by omega) (by omega),z7 i hi]
 have lC:ldN 8 0 (H8.get A.next)=some (.agg #[.string nm,qS B.next s.rows.length (s.rows.length+9),qS H3.next s.queues.length (s.queues.length+3),qS H4.next s.vars.length (s.vars.length+3),qS H5.next s.tags.length (s.tags.length+3),qS H6.next s.rules.length (s.rules.length+5),qS H7.next s.on.length (s.on.length+5),iv s.miss]):=by
  rw[J9E gD8 (by simp only[List.length_set];omega),← hcs]
  rfl
 have gZ8:H8.get (h.next+1)=.row zPc 27 false false:=by rw[z8 _ (by omega)];exact gZ
 have hstW:=stW (t:=27) sz30 (h:=H8) (vs:=[.string nm,qS B.next s.rows.length (s.rows.length+9),qS H3.next s.queues.length (s.queues.length+3),qS H4.next s.vars.length (s.vars.length+3),qS H5.next s.tags.length (s.tags.length+3),qS H6.next s.rules.length (s.rules.length+5),qS H7.next s.on.length (s.on.length+5),iv s.miss]) gZ8 rfl rfl rfl (by omega)
 have hstW':J0K Tryz.prog H8 27 (qP (h.next+1) 0) (.agg #[.string nm,qS B.next s.rows.length (s.rows.length+9),qS H3.next s.queues.length (s.queues.length+3),qS H4.next s.vars.length (s.vars.length+3),qS H5.next s.tags.length (s.tags.length+3),qS H6.next s.rules.length (s.rules.length+5),qS H7.next s.on.length (s.on.length+5),iv s.miss])=_:=hstW
 have gF:(H8.put (h.next+1) (.row [.string nm,qS B.next s.rows.length (s.rows.length+9),qS H3.next s.queues.length (s.queues.length+3),qS H4.next s.vars.length (s.vars.length+3),qS H5.next s.tags.length (s.tags.length+3),qS H6.next s.rules.length (s.rules.length+5),qS H7.next s.on.length (s.on.length+5),iv s.miss] 27 false false)).get (h.next+1)=_:=J0b rfl (by omega)
 have oF:∀ i,i≠h.next+1→(H8.put (h.next+1) (.row [.string nm,qS B.next s.rows.length (s.rows.length+9),qS H3.next s.queues.length (s.queues.length+3),qS H4.next s.vars.length (s.vars.length+3),qS H5.next s.tags.length (s.tags.length+3),qS H6.next s.rules.length (s.rules.length+5),qS H7.next s.on.length (s.on.length+5),iv s.miss] 27 false false)).get i=H8.get i:=fun i hi=>J05 (by omega) (Ne.symm hi)
 have lF:=J9E gF rfl
 have nF:(H8.put (h.next+1) (.row [.string nm,qS B.next s.rows.length (s.rows.length+9),qS H3.next s.queues.length (s.queues.length+3),qS H4.next s.vars.length (s.vars.length+3),qS H5.next s.tags.length (s.tags.length+3),qS H6.next s.rules.length (s.rules.length+5),qS H7.next s.on.length (s.on.length+5),iv s.miss] 27 false false)).next=H8.next:=rfl
 have fF:(H8.put (h.next+1) (.row [.string nm,qS B.next s.rows.length (s.rows.length+9),qS H3.next s.queues.length (s.queues.length+3),qS H4.next s.vars.length (s.vars.length+3),qS H5.next s.tags.length (s.tags.length+3),qS H6.next s.rules.length (s.rules.length+5),qS H7.next s.on.length (s.on.length+5),iv s.miss] 27 false false)).floor=H8.floor:=rfl
 simp only[evC,seval,↓evP,hr,t1,t2,t3,J1b,lC,hstW',lF]
 generalize H8.put (h.next+1) _=F at *
 have e3:H3.next=h.next+4:=by omega
 have e4:H4.next=h.next+5:=by omega
 have e5:H5.next=h.next+6:=by omega
 have e6:H6.next=h.next+7:=by omega
 have e7:H7.next=h.next+8:=by omega
 have e2:B.next=h.next+3:=by omega
 refine⟨⟨by rw[e2,e3,e4,e5,e6,e7],by omega,⟨L,?_,lL,own,marks⟩,?_,?_,?_,⟨L5,?_,l5.len,l5.own,l5.marks⟩,⟨L6,?_,l6.len,l6.own,l6.marks⟩⟩,by omega,by omega,fun i hi=>by rw[oF i (by omega),z8 i (by omega),gO i hi]⟩
 ·rw[← e2,oF _ (by omega),o8 _ (by omega) (by omega),o7 _ (by omega) (by omega),o6 _ (by omega),m47 _ (by omega),o5 _ (by omega),m37 _ (by omega),o4 _ (by omega),m27 _ (by omega),o3 _ (by omega)]
  exact gL
 ·have:h.next+3+1=H3.next:=by omega
  rw[this,oF _ (by omega),o8 _ (by omega) (by omega),o7 _ (by omega) (by omega),o6 _ (by omega),m47 _ (by omega),o5 _ (by omega),m37 _ (by omega),o4 _ (by omega)]
  exact m24
 ·have:h.next+3+2=H4.next:=by omega
  rw[this,oF _ (by omega),o8 _ (by omega) (by omega),o7 _ (by omega) (by omega),o6 _ (by omega),m47 _ (by omega),o5 _ (by omega)]
  exact m34
 ·have:h.next+3+3=H5.next:=by omega
  rw[this,oF _ (by omega),o8 _ (by omega) (by omega),o7 _ (by omega) (by omega),o6 _ (by omega)]
  exact m44
 ·have:h.next+3+4=H6.next:=by omega
  rw[this,oF _ (by omega),o8 _ (by omega) (by omega)]
  exact l5.g
 ·have:h.next+3+5=H7.next:=by omega
  rw[this,oF _ (by omega)]
  exact l6.g
theorem JrC {nm:ByteArray} {s:StN} {pv:Value} {lo:Nat} (hp:J3x lo h pv nm s) (hs:JdC s) (hl:Jbg s<900000000) (hfl:h.floor≤h.next) (hn:40<n) :
  ∃ v' h',J0T n 8 [pv] h=some (v',h')∧Lent8 h' (h.next+3) v' nm s∧h'.next=h.next+9∧h'.floor=h.floor∧∀ i,i<h.next→h'.get i=h.get i:=by
 obtain⟨n,rfl⟩:∃ j,n=j+1:=⟨n-1,by omega⟩
 refine k_ex (J13 ⟨rfl,rfl,rfl⟩) (JqR (n:=n) (N:=n) hp hs hl hfl (by omega) (by omega)) fun v' h1 hf _ ht=>?_
 rw[ht.1.v] at hf
 cases hf
end
theorem idxA {P:Program} {t e:TypeId} {w id n c i:Nat} (ht:P.underlying t=some (.slice e)) (he:szOf P e=some w) (hi:i<n):J0R P t (qS id n c) (iv (i:Int))=some (.pointer (some ⟨id,i*w,none⟩)):=by
 simp only[J0R,ht,he,J0q]
 rw[if_pos (by omega)]
 simp
theorem box8 {H:SHeap} {id:Nat} {a b c d e f g i:Value} {ty:TypeId} {x y:Bool} (hg:H.get id=.row [a,b,c,d,e,f,g,i] ty x y):ld1 0 (H.get id)=some a∧ld1 1 (H.get id)=some b∧ld1 2 (H.get id)=some c∧ld1 3 (H.get id)=some d∧ld1 4 (H.get id)=some e∧ld1 5 (H.get id)=some f∧ld1 6 (H.get id)=some g∧ld1 7 (H.get id)=some i:=by
 rw[hg]
 exact Jhw
section
variable {n N:Nat} {h:SHeap}
theorem JqT {nm:ByteArray} {s:StN} {va vb:Value} {la lb:Nat} (ha:J3x la h va nm s) (hb:J3x lb h vb nm s) (hs:JdC s) (hn:Jbg s+10<n) :
  ∃ h',J0L Tryz.prog (J0T n) N 39 [va,vb] h=some (.bool true,h')∧∀ i,i<h.next→h'.get i=h.get i:=by
 obtain⟨ar,aq,av,at_,au,ao,rfl,a1,a2,a3,a4,a5,a6⟩:=id ha
 obtain⟨br,bq,bv,bt,bu,bo,rfl,b1,b2,b3,b4,b5,b6⟩:=id hb
 refine J1N (R:=fun h'=>∀ i,i<h.next→h'.get i=h.get i) Tryz.func39 rfl (by simp[Tryz.f39]) ?_
 have hr:Tryz.f39.results.toList=[.tmp 4]:=rfl
 have ca:(Value.agg #[.string nm,ar,aq,av,at_,au,ao,iv s.miss]).cells.toList=[.string nm,ar,aq,av,at_,au,ao,iv s.miss]:=rfl
 have cb:(Value.agg #[.string nm,br,bq,bv,bt,bu,bo,iv s.miss]).cells.toList=[.string nm,br,bq,bv,bt,bu,bo,iv s.miss]:=rfl
 have oa:=all8 (nm:=nm) a1 a2 a3 a4 a5 a6
 have ob:=all8 (nm:=nm) b1 b2 b3 b4 b5 b6
 have g0:∀ (a b:SObj),let A:=(h.push a).push b
   A.get h.next=a∧A.get (h.next+1)=b∧A.next=h.next+2∧A.floor=h.floor∧∀ i,i<h.next→A.get i=h.get i:=fun a b=>
  ⟨J4c,J48,rfl,rfl,fun i hi=>by rw[J06 (by show i<h.next+1;omega),J06 hi]⟩
 obtain⟨gA,gB,nG,fG,gO⟩:=g0 (.row [.string nm,ar,aq,av,at_,au,ao,iv s.miss] 27 false false) (.row [.string nm,br,bq,bv,bt,bu,bo,iv s.miss] 27 false false)
 simp only[evC,seval,↓evP,rpD,J0X,J2t,ca,oa,cb,ob,sz30]
 generalize (h.push (.row [.string nm,ar,aq,av,at_,au,ao,iv s.miss] 27 false false)).push (.row [.string nm,br,bq,bv,bt,bu,bo,iv s.miss] 27 false false)=Q at *
 obtain⟨x0,x1,x2,x3,x4,x5,x6,x7⟩:=box8 gA
 obtain⟨y0,y1,y2,y3,y4,y5,y6,y7⟩:=box8 gB
 obtain⟨r1,r2,r3,r4,r5,r6⟩:=hs
 unfold Jbg at hn
 have s1:=Jru (n:=n) (a1.1.mono (by omega) gO) (b1.1.mono (by omega) gO) r1 (by omega)
 have s2:=Jrt (n:=n) (a2.mono (by omega) fun i _ hi=>gO i hi) (b2.mono (by omega) fun i _ hi=>gO i hi) r2 (by omega)
 have s3:=Jqi (n:=n) (a3.mono (by omega) fun i _ hi=>gO i hi) (b3.mono (by omega) fun i _ hi=>gO i hi) r3 (by omega)
 have s4:=Jqi (n:=n) (a4.mono (by omega) fun i _ hi=>gO i hi) (b4.mono (by omega) fun i _ hi=>gO i hi) r4 (by omega)
 have s5:=Jqd (n:=n) (J1S.mono a5 (by omega) fun i _ hi=>gO i hi) (J1S.mono b5 (by omega) fun i _ hi=>gO i hi) r5 (by omega)
 have s6:=Jqd (n:=n) (J1S.mono a6 (by omega) fun i _ hi=>gO i hi) (J1S.mono b6 (by omega) fun i _ hi=>gO i hi) r6 (by omega)
 have hnm:=J34 nm
 simp only[evC,seval,↓evP,hr,Nat.zero_add,J5g,J0y,J0B,J1A,J1B,J36,J1T,J38,J0d,J0F,J0S,J0Y,J0n,J0m,x0,x1,x2,x3,x4,x5,x6,x7,y0,y1,y2,y3,y4,y5,y6,y7,J1y,hnm,s1,s2,s3,s4,s5,s6,BEq.rfl]
 exact gO
theorem JrL {nm:ByteArray} {s:StN} {va vb:Value} {la lb:Nat} (ha:J3x la h va nm s) (hb:J3x lb h vb nm s) (hs:JdC s) (hn:Jbg s+20<n):J0T n 39 [va,vb] h=some (.bool true,h):=by
 obtain⟨n,rfl⟩:∃ j,n=j+1:=⟨n-1,by omega⟩
 exact J4r (J13 ⟨rfl,rfl,rfl⟩) rfl (JqT (n:=n) (N:=n) ha hb hs (by omega))
theorem JrQ {l:List ByteArray} {i:Nat} {x:ByteArray} {ty:TypeId} {a b:Bool} (hx:l[i]?=some x):ld1 i (.row (strs l) ty a b)=some (.string x):=by
 simp[ld1,strs,hx]
theorem Jrl {l:List ByteArray} {i:Nat} {x:ByteArray}:(strs l).set i (.string x)=strs (l.set i x):=by simp[strs,List.map_set]
theorem JqO {l:List ByteArray} {v:Value} {o lo:Nat} (hg:h.get o=.row (strs l++J3e [.string ByteArray.empty] 3) 9 false false) (ho:o<h.next) (hf:h.floor≤o) (hv:J0p lo h v l.length 1 (strs l)) (hl:l.length<900000000) (hn:l.length+10<n) (hN:l.length+10<N) :
  ∃ h',J0L Tryz.prog (J0T n) N 40 [qS o l.length (l.length+3),v] h=some (.bool true,h')∧(h'.next=h.next∧h'.floor=h.floor∧∀ i,i≠o→h'.get i=h.get i):=by
 refine J1N (R:=fun h'=>h'.next=h.next∧h'.floor=h.floor∧∀ i,i≠o→h'.get i=h.get i) Tryz.func40 rfl (by simp[Tryz.f40]) ?_
 have hr:Tryz.f40.results.toList=[.tmp 4]:=rfl
 have hM:J0p 0 h (qS o l.length (l.length+3)) l.length 1 (strs l):=J0p.row hg ⟨Nat.zero_le _,ho⟩ (by simp[strs])
 have hs:=Jqi (n:=n) hM hv (by omega) (by omega)
 have hz:strs l++J3e [.string ByteArray.empty] 3=strs (l++List.replicate 3 ByteArray.empty):=by simp[strs,J3e]
 rw[hz] at hg
 have lenV:=fun h'=>JfT hv h'
 have lenM:=fun h'=>JfT hM h'
 have lenA:∀ h':SHeap,lenS Tryz.prog h' 24 (qS o (l.length+3) (l.length+3))=some (iv ((l.length+3:Nat):Int)):=fun h'=>by simp[lenS,Tryz.underlying24]
 have w3:IntKind.i64.wrap ((l.length:Int)+3)=((l.length+3:Nat):Int):=J0s (by omega) (by omega)
 have hsl:=fun (H:SHeap)=>JnH (P:=Tryz.prog) (h:=H) (t:=24) (e:=9) (id:=o) (n:=l.length) (m:=l.length+3) (c:=l.length+3) Tryz.underlying24 sz9 (by omega) (by unfold unk;omega)
 simp only[evC,seval,↓evP,hs,lenM,w3,hsl]
 refine WK.loop (fun k s'=>s'.T.get 1=v∧s'.T.get 5=.bool true∧s'.T.get 6=qS o (l.length+3) (l.length+3)∧s'.T.get 7=iv (k:Int)∧k≤l.length+3∧s'.h.next=h.next∧s'.h.floor=h.floor∧(∀ i,i≠o→s'.h.get i=h.get i)∧∃ W,s'.h.get o=.row (strs W) 9 false false∧W.length=l.length+3∧∀ j,k≤j→W[j]?=(l++List.replicate 3 ByteArray.empty)[j]?) (l.length+3) (by omega) ?_ ?_
 ·exact⟨by simp only[evC,seval,↓evP,rpC],by simp only[evC,seval,↓evP,rpC],by simp only[evC,seval,↓evP,rpC],by simp only[evC,seval,↓evP,rpC] <;> rfl,by omega,rfl,rfl,fun _ _=>rfl,_,hg,by simp,fun _ _=>rfl⟩
 rintro k ⟨T1,H1⟩ hk ⟨t1,t5,t6,t7,hk3,n1,f1,o1,W,gW,lW,eW⟩
 simp only at t1 t5 t6 t7 n1 f1 o1 gW
 by_cases hlt:k<l.length+3
 ·have c1:decide ((k:Int)<((l.length+3:Nat):Int))=true:=by simp;omega
  have hix:J0R Tryz.prog 24 (qS o (l.length+3) (l.length+3)) (iv (k:Int))=some (qP o k):=by
   have:=idxA (id:=o) (n:=l.length+3) (c:=l.length+3) (i:=k) Tryz.underlying24 sz9 hlt
   rwa [Nat.mul_one] at this
  have hst:=stc (v:=.string J9F) (off:=k) sz9 rfl rfl gW (by rw[show (strs W).length=W.length by simp[strs]];omega) (by omega)
  rw[Jrl] at hst
  have w1:IntKind.i64.wrap ((k:Int)+1)=((k+1:Nat):Int):=J0s (by omega) (by omega)
  by_cases h2:k<l.length
  ·have c2:decide ((k:Int)<(l.length:Int))=true:=by simp;omega
   simp only[evC,seval,↓evP,t1,t5,t6,t7,lenA,lenV,c1,c2,hix,hst,w1]
   exact⟨hlt,by omega,n1,f1,fun i hi=>by rw[J05 (by omega) (Ne.symm hi)];exact o1 i hi,_,J0b rfl (by omega),by rw[List.length_set];exact lW,fun j hj=>by rw[List.getElem?_set_ne (by omega)];exact eW j (by omega)⟩
  ·have c2:decide ((k:Int)<(l.length:Int))=false:=by simp;omega
   have hx:W[k]?=some ByteArray.empty:=by
    rw[eW k (Nat.le_refl _),List.getElem?_append_right (by omega),List.getElem?_replicate,if_pos (by omega)]
   have hld:ld1 k (H1.get o)=some (.string ByteArray.empty):=by rw[gW];exact JrQ hx
   have hbe:((ByteArray.empty:ByteArray) == { data:=#[] })=true:=J34 _
   simp only[evC,seval,↓evP,t1,t5,t6,t7,lenA,lenV,c1,c2,hix,J0d,hld,J1y,hbe,hst,w1]
   exact⟨hlt,by omega,n1,f1,fun i hi=>by rw[J05 (by omega) (Ne.symm hi)];exact o1 i hi,_,J0b rfl (by omega),by rw[List.length_set];exact lW,fun j hj=>by rw[List.getElem?_set_ne (by omega)];exact eW j (by omega)⟩
 have c1:decide ((k:Int)<((l.length+3:Nat):Int))=false:=by simp;omega
 simp only[evC,seval,↓evP,hr,t1,t5,t6,t7,lenA,c1]
 exact⟨n1,f1,o1⟩
theorem Jr5 {l:List ByteArray} {v:Value} {o lo:Nat} (hg:h.get o=.row (strs l++J3e [.string ByteArray.empty] 3) 9 false false) (ho:o<h.next) (hf:h.floor≤o) (hv:J0p lo h v l.length 1 (strs l)) (hl:l.length<900000000) (hn:l.length+20<n) :
  ∃ h',J0T n 40 [qS o l.length (l.length+3),v] h=some (.bool true,h')∧(h'.next=h.next∧h'.floor=h.floor∧∀ i,i≠o→h'.get i=h.get i):=by
 obtain⟨n,rfl⟩:∃ j,n=j+1:=⟨n-1,by omega⟩
 exact k_wr (J13 ⟨rfl,rfl,rfl⟩) (JqO hg ho hf hv hl (by omega) (by omega))
end
def fnK (k:Int):FuncId:=if k=39 then 91 else if k=40 then 92 else if k=41 then 93 else if k=43 then 94 else if k=44 then 24 else if k=45 then 95 else if k=46 then 96 else if k=47 then 97 else if k=48 then 98 else if k=49 then 99 else if k=50 then 100 else if k=51 then 101 else if k=52 then 102 else if k=42 then 103 else if k=53 then 104 else 105
abbrev fnV (k:Int):Value:=.func (.func (fnK k)) #[] #[]
def Jub (size:Int) (C:List Int) (x:RowN):Value:=match Jue size C x with
 | some v=>.iface 103 (iv v)
 | none=>if Jug x.kind=true then .iface 123 (fnV x.kind) else if Jui x.kind=true then .iface 124 (fnV x.kind) else .nilIface
section
variable {n N:Nat} {h:SHeap}
theorem JuS {x:RowN} {cv:Value} {size:Int} {C:List Int} {lc:Nat} (hc:JpX lc h cv size C) (h32:x.kind=32→0≤x.n∧x.n<C.length) :
  ∃ h',J0L Tryz.prog (J0T n) N 68 [rowV x,cv] h=some (Jub size C x,h')∧h'.next=h.next+2∧h'.floor=h.floor∧∀ i,i<h.next→h'.get i=h.get i:=by
 obtain⟨vc,rfl,pc⟩:=id hc
 refine J1N (R:=fun h'=>h'.next=h.next+2∧h'.floor=h.floor∧∀ i,i<h.next→h'.get i=h.get i) Tryz.func68 rfl (by simp[Tryz.f68]) ?_
 have hr:Tryz.f68.results.toList=[.tmp 4]:=rfl
 have cx:(rowV x).cells.toList=J0e x:=rfl
 have ox:(J0e x).all one=true:=rfl
 have cb:(Value.agg #[iv size,vc]).cells.toList=[iv size,vc]:=rfl
 have ob:[iv size,vc].all one=true:=by simp only[List.all_cons,List.all_nil,J0p.one pc,J5K,Bool.and_self]
 have g0:∀ (a b:SObj),let A:=(h.push a).push b
   A.get h.next=a∧A.get (h.next+1)=b∧A.next=h.next+2∧A.floor=h.floor∧∀ i,i<h.next→A.get i=h.get i:=fun a b=>
  ⟨J4c,J48,rfl,rfl,fun i hi=>by rw[J06 (by show i<h.next+1;omega),J06 hi]⟩
 obtain⟨gA,gB,nG,fG,gO⟩:=g0 (.row (J0e x) 60 false false) (.row [iv size,vc] 39 false false)
 simp only[evC,seval,↓evP,rpD,J0X,J2t,cx,ox,cb,ob,sz46,szCp]
 generalize (h.push (.row (J0e x) 60 false false)).push (.row [iv size,vc] 39 false false)=Q at *
 have x0:ld1 0 (Q.get h.next)=some (iv x.kind):=by rw[gA];rfl
 have x3:ld1 3 (Q.get h.next)=some (iv x.n):=by rw[gA];rfl
 have y0:ld1 0 (Q.get (h.next+1))=some (iv size):=by rw[gB];rfl
 have y1:ld1 1 (Q.get (h.next+1))=some vc:=by rw[gB];rfl
 have pC:J1S lc Q vc C:=J1S.mono pc (by omega) fun i _ hi=>gO i hi
 cases c27:(x.kind==27) with
 | true=>
  have k:=beq_iff_eq.1 c27
  rw[show Jub size C x=.iface 103 (iv x.n) by unfold Jub Jue;rw[k];rfl]
  simp only[evC,seval,↓evP,hr,Nat.zero_add,J0t,J0O,JpU,JpV,J0m,J0n,x0,x3,y0,y1,Tryz.underlying103,Tryz.underlying123,Tryz.underlying124,c27]
  exact⟨nG,fG,gO⟩
 | false=>
 cases c33:(x.kind==33) with
 | true=>
  have k:=beq_iff_eq.1 c33
  rw[show Jub size C x=.iface 103 (iv size) by unfold Jub Jue;rw[k];rfl]
  simp only[evC,seval,↓evP,hr,Nat.zero_add,J0t,J0O,JpU,JpV,J0m,J0n,x0,x3,y0,y1,Tryz.underlying103,Tryz.underlying123,Tryz.underlying124,c27,c33]
  exact⟨nG,fG,gO⟩
 | false=>
 cases c32:(x.kind==32) with
 | true=>
  have k:=beq_iff_eq.1 c32
  obtain⟨r0,r1⟩:=h32 k
  obtain⟨c0,hc0⟩:∃ c,C[x.n.toNat]?=some c:=⟨_,List.getElem?_eq_getElem (by omega)⟩
  obtain⟨ia,pa,ea,_,la⟩:=J1S.get pC hc0
  rw[show ((x.n.toNat:Nat):Int)=x.n by omega] at ea
  rw[show Jub size C x=.iface 103 (iv c0) by unfold Jub Jue;rw[k,hc0];rfl]
  simp only[evC,seval,↓evP,hr,Nat.zero_add,J0t,J0O,JpU,JpV,J0m,J0n,x0,x3,y0,y1,Tryz.underlying103,Tryz.underlying123,Tryz.underlying124,c27,c33,c32,ea,la]
  exact⟨nG,fG,gO⟩
 | false=>
 cases c29:(x.kind==29) with
 | true=>
  have k:=beq_iff_eq.1 c29
  rw[show Jub size C x=.iface 103 (iv 1) by unfold Jub Jue;rw[k];rfl]
  simp only[evC,seval,↓evP,hr,Nat.zero_add,J0t,J0O,JpU,JpV,J0m,J0n,x0,x3,y0,y1,Tryz.underlying103,Tryz.underlying123,Tryz.underlying124,c27,c33,c32,c29]
  exact⟨nG,fG,gO⟩
 | false=>
 cases c30:(x.kind==30) with
 | true=>
  have k:=beq_iff_eq.1 c30
  rw[show Jub size C x=.iface 103 (iv 0) by unfold Jub Jue;rw[k];rfl]
  simp only[evC,seval,↓evP,hr,Nat.zero_add,J0t,J0O,JpU,JpV,J0m,J0n,x0,x3,y0,y1,Tryz.underlying103,Tryz.underlying123,Tryz.underlying124,c27,c33,c32,c29,c30]
  exact⟨nG,fG,gO⟩
 | false=>
 cases c39:(x.kind==39) with
 | true=>
  have k:=beq_iff_eq.1 c39
  rw[show Jub size C x=.iface 123 (.func (.func 91) #[] #[]) by unfold Jub Jue fnV fnK;rw[k];rfl]
  simp only[evC,seval,↓evP,hr,Nat.zero_add,J0t,J0O,JpU,JpV,J0m,J0n,x0,x3,y0,y1,Tryz.underlying103,Tryz.underlying123,Tryz.underlying124,c27,c33,c32,c29,c30,c39]
  exact⟨nG,fG,gO⟩
 | false=>
 cases c40:(x.kind==40) with
 | true=>
  have k:=beq_iff_eq.1 c40
  rw[show Jub size C x=.iface 123 (.func (.func 92) #[] #[]) by unfold Jub Jue fnV fnK;rw[k];rfl]
  simp only[evC,seval,↓evP,hr,Nat.zero_add,J0t,J0O,JpU,JpV,J0m,J0n,x0,x3,y0,y1,Tryz.underlying103,Tryz.underlying123,Tryz.underlying124,c27,c33,c32,c29,c30,c39,c40]
  exact⟨nG,fG,gO⟩
 | false=>
 cases c41:(x.kind==41) with
 | true=>
  have k:=beq_iff_eq.1 c41
  rw[show Jub size C x=.iface 123 (.func (.func 93) #[] #[]) by unfold Jub Jue fnV fnK;rw[k];rfl]
  simp only[evC,seval,↓evP,hr,Nat.zero_add,J0t,J0O,JpU,JpV,J0m,J0n,x0,x3,y0,y1,Tryz.underlying103,Tryz.underlying123,Tryz.underlying124,c27,c33,c32,c29,c30,c39,c40,c41]
  exact⟨nG,fG,gO⟩
 | false=>
 cases c43:(x.kind==43) with
 | true=>
  have k:=beq_iff_eq.1 c43
  rw[show Jub size C x=.iface 123 (.func (.func 94) #[] #[]) by unfold Jub Jue fnV fnK;rw[k];rfl]
  simp only[evC,seval,↓evP,hr,Nat.zero_add,J0t,J0O,JpU,JpV,J0m,J0n,x0,x3,y0,y1,Tryz.underlying103,Tryz.underlying123,Tryz.underlying124,c27,c33,c32,c29,c30,c39,c40,c41,c43]
  exact⟨nG,fG,gO⟩
 | false=>
 cases c44:(x.kind==44) with
 | true=>
  have k:=beq_iff_eq.1 c44
  rw[show Jub size C x=.iface 123 (.func (.func 24) #[] #[]) by unfold Jub Jue fnV fnK;rw[k];rfl]
  simp only[evC,seval,↓evP,hr,Nat.zero_add,J0t,J0O,JpU,JpV,J0m,J0n,x0,x3,y0,y1,Tryz.underlying103,Tryz.underlying123,Tryz.underlying124,c27,c33,c32,c29,c30,c39,c40,c41,c43,c44]
  exact⟨nG,fG,gO⟩
 | false=>
 cases c45:(x.kind==45) with
 | true=>
  have k:=beq_iff_eq.1 c45
  rw[show Jub size C x=.iface 123 (.func (.func 95) #[] #[]) by unfold Jub Jue fnV fnK;rw[k];rfl]
  simp only[evC,seval,↓evP,hr,Nat.zero_add,J0t,J0O,JpU,JpV,J0m,J0n,x0,x3,y0,y1,Tryz.underlying103,Tryz.underlying123,Tryz.underlying124,c27,c33,c32,c29,c30,c39,c40,c41,c43,c44,c45]
  exact⟨nG,fG,gO⟩
 | false=>
 cases c46:(x.kind==46) with
 | true=>
  have k:=beq_iff_eq.1 c46
  rw[show Jub size C x=.iface 123 (.func (.func 96) #[] #[]) by unfold Jub Jue fnV fnK;rw[k];rfl]
  simp only[evC,seval,↓evP,hr,Nat.zero_add,J0t,J0O,JpU,JpV,J0m,J0n,x0,x3,y0,y1,Tryz.underlying103,Tryz.underlying123,Tryz.underlying124,c27,c33,c32,c29,c30,c39,c40,c41,c43,c44,c45,c46]
  exact⟨nG,fG,gO⟩
 | false=>
 cases c47:(x.kind==47) with
 | true=>
  have k:=beq_iff_eq.1 c47
  rw[show Jub size C x=.iface 124 (.func (.func 97) #[] #[]) by unfold Jub Jue fnV fnK;rw[k];rfl]
  simp only[evC,seval,↓evP,hr,Nat.zero_add,J0t,J0O,JpU,JpV,J0m,J0n,x0,x3,y0,y1,Tryz.underlying103,Tryz.underlying123,Tryz.underlying124,c27,c33,c32,c29,c30,c39,c40,c41,c43,c44,c45,c46,c47]
  exact⟨nG,fG,gO⟩
 | false=>
 cases c48:(x.kind==48) with
 | true=>
  have k:=beq_iff_eq.1 c48
  rw[show Jub size C x=.iface 124 (.func (.func 98) #[] #[]) by unfold Jub Jue fnV fnK;rw[k];rfl]
  simp only[evC,seval,↓evP,hr,Nat.zero_add,J0t,J0O,JpU,JpV,J0m,J0n,x0,x3,y0,y1,Tryz.underlying103,Tryz.underlying123,Tryz.underlying124,c27,c33,c32,c29,c30,c39,c40,c41,c43,c44,c45,c46,c47,c48]
  exact⟨nG,fG,gO⟩
 | false=>
 cases c49:(x.kind==49) with
 | true=>
  have k:=beq_iff_eq.1 c49
  rw[show Jub size C x=.iface 124 (.func (.func 99) #[] #[]) by unfold Jub Jue fnV fnK;rw[k];rfl]
  simp only[evC,seval,↓evP,hr,Nat.zero_add,J0t,J0O,JpU,JpV,J0m,J0n,x0,x3,y0,y1,Tryz.underlying103,Tryz.underlying123,Tryz.underlying124,c27,c33,c32,c29,c30,c39,c40,c41,c43,c44,c45,c46,c47,c48,c49]
  exact⟨nG,fG,gO⟩
 | false=>
 cases c50:(x.kind==50) with
 | true=>
  have k:=beq_iff_eq.1 c50
  rw[show Jub size C x=.iface 124 (.func (.func 100) #[] #[]) by unfold Jub Jue fnV fnK;rw[k];rfl]
  simp only[evC,seval,↓evP,hr,Nat.zero_add,J0t,J0O,JpU,JpV,J0m,J0n,x0,x3,y0,y1,Tryz.underlying103,Tryz.underlying123,Tryz.underlying124,c27,c33,c32,c29,c30,c39,c40,c41,c43,c44,c45,c46,c47,c48,c49,c50]
  exact⟨nG,fG,gO⟩
 | false=>
 cases c51:(x.kind==51) with
 | true=>
  have k:=beq_iff_eq.1 c51
  rw[show Jub size C x=.iface 124 (.func (.func 101) #[] #[]) by unfold Jub Jue fnV fnK;rw[k];rfl]
  simp only[evC,seval,↓evP,hr,Nat.zero_add,J0t,J0O,JpU,JpV,J0m,J0n,x0,x3,y0,y1,Tryz.underlying103,Tryz.underlying123,Tryz.underlying124,c27,c33,c32,c29,c30,c39,c40,c41,c43,c44,c45,c46,c47,c48,c49,c50,c51]
  exact⟨nG,fG,gO⟩
 | false=>
 cases c52:(x.kind==52) with
 | true=>
  have k:=beq_iff_eq.1 c52
  rw[show Jub size C x=.iface 124 (.func (.func 102) #[] #[]) by unfold Jub Jue fnV fnK;rw[k];rfl]
  simp only[evC,seval,↓evP,hr,Nat.zero_add,J0t,J0O,JpU,JpV,J0m,J0n,x0,x3,y0,y1,Tryz.underlying103,Tryz.underlying123,Tryz.underlying124,c27,c33,c32,c29,c30,c39,c40,c41,c43,c44,c45,c46,c47,c48,c49,c50,c51,c52]
  exact⟨nG,fG,gO⟩
 | false=>
 cases c42:(x.kind==42) with
 | true=>
  have k:=beq_iff_eq.1 c42
  rw[show Jub size C x=.iface 124 (.func (.func 103) #[] #[]) by unfold Jub Jue fnV fnK;rw[k];rfl]
  simp only[evC,seval,↓evP,hr,Nat.zero_add,J0t,J0O,JpU,JpV,J0m,J0n,x0,x3,y0,y1,Tryz.underlying103,Tryz.underlying123,Tryz.underlying124,c27,c33,c32,c29,c30,c39,c40,c41,c43,c44,c45,c46,c47,c48,c49,c50,c51,c52,c42]
  exact⟨nG,fG,gO⟩
 | false=>
 cases c53:(x.kind==53) with
 | true=>
  have k:=beq_iff_eq.1 c53
  rw[show Jub size C x=.iface 124 (.func (.func 104) #[] #[]) by unfold Jub Jue fnV fnK;rw[k];rfl]
  simp only[evC,seval,↓evP,hr,Nat.zero_add,J0t,J0O,JpU,JpV,J0m,J0n,x0,x3,y0,y1,Tryz.underlying103,Tryz.underlying123,Tryz.underlying124,c27,c33,c32,c29,c30,c39,c40,c41,c43,c44,c45,c46,c47,c48,c49,c50,c51,c52,c42,c53]
  exact⟨nG,fG,gO⟩
 | false=>
 cases c54:(x.kind==54) with
 | true=>
  have k:=beq_iff_eq.1 c54
  rw[show Jub size C x=.iface 124 (.func (.func 105) #[] #[]) by unfold Jub Jue fnV fnK;rw[k];rfl]
  simp only[evC,seval,↓evP,hr,Nat.zero_add,J0t,J0O,JpU,JpV,J0m,J0n,x0,x3,y0,y1,Tryz.underlying103,Tryz.underlying123,Tryz.underlying124,c27,c33,c32,c29,c30,c39,c40,c41,c43,c44,c45,c46,c47,c48,c49,c50,c51,c52,c42,c53,c54]
  exact⟨nG,fG,gO⟩
 | false=>
 have e:Jub size C x=.nilIface:=by
  simp only[beq_eq_false_iff_ne] at c27 c33 c32 c29 c30 c39 c40 c41 c43 c44 c45 c46 c47 c48 c49 c50 c51 c52 c42 c53 c54
  unfold Jub Jue
  rw[if_neg c27,if_neg c33,if_neg c32,if_neg c29,if_neg c30]
  simp[Jug,Jui,c27,c33,c32,c29,c30,c39,c40,c41,c43,c44,c45,c46,c47,c48,c49,c50,c51,c52,c42,c53,c54]
 rw[e]
 simp only[evC,seval,↓evP,hr,Nat.zero_add,J0t,J0O,JpU,JpV,J0m,J0n,x0,x3,y0,y1,Tryz.underlying103,Tryz.underlying123,Tryz.underlying124,c27,c33,c32,c29,c30,c39,c40,c41,c43,c44,c45,c46,c47,c48,c49,c50,c51,c52,c42,c53,c54]
 exact⟨nG,fG,gO⟩
theorem Jvq {x:RowN} {cv:Value} {size:Int} {C:List Int} {lc:Nat} (hc:JpX lc h cv size C) (h32:x.kind=32→0≤x.n∧x.n<C.length) (hn:0<n) :
  ∃ h',J0T n 68 [rowV x,cv] h=some (Jub size C x,h')∧h.next≤h'.next∧h'.floor=h.floor∧∀ i,i<h.next→h'.get i=h.get i:=by
 obtain⟨n,rfl⟩:∃ j,n=j+1:=⟨n-1,by omega⟩
 obtain⟨v,h',h1,h2,h3,h4,h5⟩:=k_ex (R:=fun v h'=>v=Jub size C x∧h.next≤h'.next∧h'.floor=h.floor∧∀ i,i<h.next→h'.get i=h.get i) (n:=n) (f:=68) (args:=[rowV x,cv]) (h:=h) (J13 ⟨rfl,rfl,rfl⟩) (by
  obtain⟨h',h1,h2,h3,h4⟩:=JuS (n:=n) (N:=n) hc h32
  exact⟨_,h',h1,rfl,by omega,h3,h4⟩) fun v h1 _ _ ht=>⟨ht.1,Nat.le_refl _,rfl,fun _ _=>rfl⟩
 subst h2
 exact⟨h',h1,h3,h4,h5⟩
theorem Jut {a b:Int} (ha:-1073741824≤a∧a≤1073741824) (hb:-1073741824≤b∧b≤1073741824):-1152921504606846976≤a*b∧a*b≤1152921504606846976:=by
 have h1:(a*b).natAbs≤1073741824*1073741824:=by
  rw[Int.natAbs_mul]
  exact Nat.mul_le_mul (by omega) (by omega)
 omega
theorem Jvz {k a b:Int} (hk:Jug k=true) (ha:-1073741824≤a∧a≤1073741824) (hb:-1073741824≤b∧b≤1073741824) (hn:3<n):J0T n (fnK k) [iv a,iv b] h=some (iv (rawN k a b),h):=by
 have hk':k=39∨k=40∨k=41∨k=43∨k=44∨k=45∨k=46:=by
  unfold Jug at hk
  simpa using hk
 have hm:=Jut ha hb
 obtain⟨n,rfl⟩:∃ j,n=j+1:=⟨n-1,by omega⟩
 rcases hk' with rfl | rfl | rfl | rfl | rfl | rfl | rfl
 ·show J0T (n+1) 91 [iv a,iv b] h=some (iv (if b<a then b else a),h)
  refine J6r (J13 ⟨rfl,rfl,rfl⟩) rfl ?_
  refine J1m Tryz.func91 rfl (by simp[Tryz.f91]) ?_
  have hr:Tryz.f91.results.toList=[.tmp 4]:=rfl
  simp only[evC,seval,↓evP,hr]
 ·show J0T (n+1) 92 [iv a,iv b] h=some (iv (if b>a then b else a),h)
  refine J6r (J13 ⟨rfl,rfl,rfl⟩) rfl ?_
  refine J1m Tryz.func92 rfl (by simp[Tryz.f92]) ?_
  have hr:Tryz.f92.results.toList=[.tmp 4]:=rfl
  simp only[evC,seval,↓evP,hr]
 ·show J0T (n+1) 93 [iv a,iv b] h=some (iv (-a),h)
  refine J6r (J13 ⟨rfl,rfl,rfl⟩) rfl ?_
  refine J1m Tryz.func93 rfl (by simp[Tryz.f93]) ?_
  have hr:Tryz.f93.results.toList=[.tmp 4]:=rfl
  have w:IntKind.i64.wrap (0-a)=-a:=by rw[J0s (by omega) (by omega)];omega
  simp only[evC,seval,↓evP,hr,w]
 ·show J0T (n+1) 94 [iv a,iv b] h=some (iv (a*b),h)
  refine J6r (J13 ⟨rfl,rfl,rfl⟩) rfl ?_
  refine J1m Tryz.func94 rfl (by simp[Tryz.f94]) ?_
  have hr:Tryz.f94.results.toList=[.tmp 4]:=rfl
  have w:IntKind.i64.wrap (a*b)=(a*b):=J0s (by omega) (by omega)
  simp only[evC,seval,↓evP,hr,w]
 ·show J0T (n+1) 24 [iv a,iv b] h=some (iv (divN a b),h)
  exact JvH ⟨by omega,by omega⟩ ⟨by omega,by omega⟩ (by omega)
 ·show J0T (n+1) 95 [iv a,iv b] h=some (iv (a+b),h)
  refine J6r (J13 ⟨rfl,rfl,rfl⟩) rfl ?_
  refine J1m Tryz.func95 rfl (by simp[Tryz.f95]) ?_
  have hr:Tryz.f95.results.toList=[.tmp 4]:=rfl
  have w:IntKind.i64.wrap (a+b)=(a+b):=J0s (by omega) (by omega)
  simp only[evC,seval,↓evP,hr,w]
 ·show J0T (n+1) 96 [iv a,iv b] h=some (iv (a-b),h)
  refine J6r (J13 ⟨rfl,rfl,rfl⟩) rfl ?_
  refine J1m Tryz.func96 rfl (by simp[Tryz.f96]) ?_
  have hr:Tryz.f96.results.toList=[.tmp 4]:=rfl
  have w:IntKind.i64.wrap (a-b)=(a-b):=J0s (by omega) (by omega)
  simp only[evC,seval,↓evP,hr,w]
theorem Jvl {k a b:Int} (hk:Jui k=true) (hn:0<n):J0T n (fnK k) [iv a,iv b] h=some (.bool (Jul k a b),h):=by
 have hk':k=42∨k=47∨k=48∨k=49∨k=50∨k=51∨k=52∨k=53∨k=54:=by
  unfold Jui at hk
  simpa using hk
 obtain⟨n,rfl⟩:∃ j,n=j+1:=⟨n-1,by omega⟩
 rcases hk' with rfl | rfl | rfl | rfl | rfl | rfl | rfl | rfl | rfl
 ·show J0T (n+1) 103 [iv a,iv b] h=some (.bool (a==0),h)
  refine J6r (J13 ⟨rfl,rfl,rfl⟩) rfl ?_
  refine J1m Tryz.func103 rfl (by simp[Tryz.f103]) ?_
  have hr:Tryz.f103.results.toList=[.tmp 4]:=rfl
  simp only[evC,seval,↓evP,hr]
 ·show J0T (n+1) 97 [iv a,iv b] h=some (.bool (a==b),h)
  refine J6r (J13 ⟨rfl,rfl,rfl⟩) rfl ?_
  refine J1m Tryz.func97 rfl (by simp[Tryz.f97]) ?_
  have hr:Tryz.f97.results.toList=[.tmp 4]:=rfl
  simp only[evC,seval,↓evP,hr]
 ·show J0T (n+1) 98 [iv a,iv b] h=some (.bool (a != b),h)
  refine J6r (J13 ⟨rfl,rfl,rfl⟩) rfl ?_
  refine J1m Tryz.func98 rfl (by simp[Tryz.f98]) ?_
  have hr:Tryz.f98.results.toList=[.tmp 4]:=rfl
  simp only[evC,seval,↓evP,hr]
 ·show J0T (n+1) 99 [iv a,iv b] h=some (.bool (decide (a<b)),h)
  refine J6r (J13 ⟨rfl,rfl,rfl⟩) rfl ?_
  refine J1m Tryz.func99 rfl (by simp[Tryz.f99]) ?_
  have hr:Tryz.f99.results.toList=[.tmp 4]:=rfl
  simp only[evC,seval,↓evP,hr]
 ·show J0T (n+1) 100 [iv a,iv b] h=some (.bool (decide (a≤b)),h)
  refine J6r (J13 ⟨rfl,rfl,rfl⟩) rfl ?_
  refine J1m Tryz.func100 rfl (by simp[Tryz.f100]) ?_
  have hr:Tryz.f100.results.toList=[.tmp 4]:=rfl
  simp only[evC,seval,↓evP,hr]
 ·show J0T (n+1) 101 [iv a,iv b] h=some (.bool (decide (a>b)),h)
  refine J6r (J13 ⟨rfl,rfl,rfl⟩) rfl ?_
  refine J1m Tryz.func101 rfl (by simp[Tryz.f101]) ?_
  have hr:Tryz.f101.results.toList=[.tmp 4]:=rfl
  simp only[evC,seval,↓evP,hr]
 ·show J0T (n+1) 102 [iv a,iv b] h=some (.bool (decide (a≥b)),h)
  refine J6r (J13 ⟨rfl,rfl,rfl⟩) rfl ?_
  refine J1m Tryz.func102 rfl (by simp[Tryz.f102]) ?_
  have hr:Tryz.f102.results.toList=[.tmp 4]:=rfl
  simp only[evC,seval,↓evP,hr]
 ·show J0T (n+1) 104 [iv a,iv b] h=some (.bool (a != 0&&b != 0),h)
  refine J6r (J13 ⟨rfl,rfl,rfl⟩) rfl ?_
  refine J1m Tryz.func104 rfl (by simp[Tryz.f104]) ?_
  have hr:Tryz.f104.results.toList=[.tmp 4]:=rfl
  cases d:(a != 0) with
  | true=>simp only[evC,seval,↓evP,hr,d,Bool.true_and,Bool.true_or]
  | false=>simp only[evC,seval,↓evP,hr,d,Bool.false_and,Bool.false_or]
 ·show J0T (n+1) 105 [iv a,iv b] h=some (.bool (a != 0||b != 0),h)
  refine J6r (J13 ⟨rfl,rfl,rfl⟩) rfl ?_
  refine J1m Tryz.func105 rfl (by simp[Tryz.f105]) ?_
  have hr:Tryz.f105.results.toList=[.tmp 4]:=rfl
  cases d:(a != 0) with
  | true=>simp only[evC,seval,↓evP,hr,d,Bool.true_and,Bool.true_or]
  | false=>simp only[evC,seval,↓evP,hr,d,Bool.false_and,Bool.false_or]
def Jvc:List (Bool × Bool × List Operand):=[fa1,fa1,fa1,fa1,fa3 [.tmp 7],fa3 [.tmp 7],fa3 [.tmp 7],fa3 [.tmp 7],fa3 [.tmp 7],fa3 [.tmp 7],fa0,fa0,fa0]
theorem JuB {k a b:Int} {l:List Int} {lv:Value} {lo:Nat} (hk:Jug k=true) (hl:J1S lo h lv l) (h0:l[0]?=some a) (h1:l[l.length-1]?=some b) (ha:-1073741824≤a∧a≤1073741824) (hb:-1073741824≤b∧b≤1073741824) (hll:l.length<1000) (hn:4<n) :
  J0L Tryz.prog (J0T n) N 164 [fnV k,lv] h=some (iv (Jud (rawN k a b)),h):=by
 obtain⟨_,al,cl,rfl,_⟩:=id hl
 have hsn:=(J1z n).2
 have hpos:=(List.getElem?_eq_some_iff.1 h0).1
 refine J1m Tryz.func164 rfl (by simp[Tryz.f164]) ?_
 have hr:Tryz.f164.results.toList=[.tmp 4]:=rfl
 obtain⟨ia,pa,ea,hia,la⟩:=J1S.get hl h0
 obtain⟨ib,pb,eb,hib,lb⟩:=J1S.get hl h1
 have ea':J0R Tryz.prog 25 (.slice al l.length cl) (iv 0)=some (qP ia pa):=ea
 have lenL:=fun h'=>JfF hl h'
 have w1:IntKind.i64.wrap ((l.length:Int)-1)=((l.length-1:Nat):Int):=by rw[J0s (by omega) (by omega)];omega
 have hA0:(ia<h.next)=True:=eq_true hia
 have hB0:(ib<h.next)=True:=eq_true hib
 have hc1:∀ fl:Nat,J0T n (fnK k) [iv a,iv b] (h.fl fl)=some (iv (rawN k a b),h.fl fl):=fun fl=>Jvz hk ha hb (by omega)
 have hc2:∀ fl:Nat,J0T n 25 [iv (rawN k a b)] (h.fl fl)=some (iv (Jud (rawN k a b)),h.fl fl):=fun fl=>JuG (by omega)
 have hc1':=Jvz (n:=n) (h:=h) hk ha hb (by omega)
 have hc2':=JuG (n:=n) (h:=h) (x:=rawN k a b) (by omega)
 simp only[evC,seval,↓evP]
 refine WK.flags (fs:=Jvc) (by kernel_rfl) ?_
 unfold Jvc
 iterate 13
  refine wcs hsn ?_
  simp only[rgC,seval,J04,J02,WKFC,rgL,rgK,J17,rgS,rgB,JcC,ea',eb,la,lb,J0m,lenL,w1,hA0,hB0,hc1,hc2,hc1',hc2',JiM,J1g,J0J,Jk2,J6L]
 refine JvR ?_
 simp only[evC,seval,↓evP,hr]
def Jv5:List (Bool × Bool × List Operand):=[fa1,fa1,fa1,fa1,fa3 [.tmp 7],fa3 [.tmp 7],fa3 [.tmp 7],fa3 [.tmp 7],fa3 [.tmp 7],fa3 [.tmp 7],fa0]
theorem JuJ {k a b:Int} {l:List Int} {lv:Value} {lo:Nat} (hk:Jui k=true) (hl:J1S lo h lv l) (h0:l[0]?=some a) (h1:l[l.length-1]?=some b) (ha:-1073741824≤a∧a≤1073741824) (hb:-1073741824≤b∧b≤1073741824) (hll:l.length<1000) (hn:4<n) :
  J0L Tryz.prog (J0T n) N 165 [fnV k,lv] h=some (iv (if Jul k a b=true then 1 else 0),h):=by
 obtain⟨_,al,cl,rfl,_⟩:=id hl
 have hsn:=(J1z n).2
 have hpos:=(List.getElem?_eq_some_iff.1 h0).1
 refine J1m Tryz.func165 rfl (by simp[Tryz.f165]) ?_
 have hr:Tryz.f165.results.toList=[.tmp 4]:=rfl
 obtain⟨ia,pa,ea,hia,la⟩:=J1S.get hl h0
 obtain⟨ib,pb,eb,hib,lb⟩:=J1S.get hl h1
 have ea':J0R Tryz.prog 25 (.slice al l.length cl) (iv 0)=some (qP ia pa):=ea
 have lenL:=fun h'=>JfF hl h'
 have w1:IntKind.i64.wrap ((l.length:Int)-1)=((l.length-1:Nat):Int):=by rw[J0s (by omega) (by omega)];omega
 have hA0:(ia<h.next)=True:=eq_true hia
 have hB0:(ib<h.next)=True:=eq_true hib
 have hc1:∀ fl:Nat,J0T n (fnK k) [iv a,iv b] (h.fl fl)=some (.bool (Jul k a b),h.fl fl):=fun fl=>Jvl hk (by omega)
 have hc1':=Jvl (n:=n) (h:=h) (k:=k) (a:=a) (b:=b) hk (by omega)
 simp only[evC,seval,↓evP]
 refine WK.flags (fs:=Jv5) (by kernel_rfl) ?_
 unfold Jv5
 iterate 11
  refine wcs hsn ?_
  simp only[rgC,seval,J04,J02,WKFC,rgL,rgK,J17,rgS,rgB,JcC,ea',eb,la,lb,J0m,lenL,w1,hA0,hB0,hc1,hc1',JiM,J1g,J0J,Jk2,J6L]
 refine JvR ?_
 cases Jul k a b with
 | true=>simp only[evC,seval,↓evP,hr]
 | false=>simp only[evC,seval,↓evP,hr]
theorem JuT {v:Int} {lv:Value}:J0L Tryz.prog (J0T n) N 163 [iv v,lv] h=some (iv v,h):=by
 refine J1m Tryz.func163 rfl (by simp[Tryz.f163]) ?_
 have hr:Tryz.f163.results.toList=[.tmp 4]:=rfl
 simp only[evC,seval,↓evP,hr]
end
theorem JsY {α:Type} {F G:Int→α} (h:JbX.map F=JbX.map G) {k:Int} (hk:1≤k∧k≤54):F k=G k:=(List.map_inj_left.1 h) k (JcT hk)
def JtB:List Int:=JbX.filter fun k=>!([12,13,15,47,48].contains k)
theorem JtS {α:Type} {F G:Int→α} (h:JtB.map F=JtB.map G) {k:Int} (hk:1≤k∧k≤54) (hr:[12,13,15,47,48].contains k=false):F k=G k:=
 (List.map_inj_left.1 h) k (List.mem_filter.2 ⟨JcT hk,by rw[hr];rfl⟩)
section
variable (call:J0r) (N:Nat) (h:SHeap)
theorem JtM:(JbX.map fun k=>J0L Tryz.prog call N 28 [iv k] h)=JbX.map fun k=>some (iv (typN k),h):=by kernel_rfl
theorem Jtw:(JbX.map fun k=>J0L Tryz.prog call N 36 [iv k] h)=JbX.map fun k=>some (iv (typN k),h):=by kernel_rfl
theorem Jt5:(JbX.map fun k=>J0L Tryz.prog call N 29 [iv k] h)=JbX.map fun k=>some (.bool (Jsi k),h):=by kernel_rfl
theorem Jtt:(JbX.map fun k=>J0L Tryz.prog call N 37 [iv k] h)=JbX.map fun k=>some (.bool (Jsi k),h):=by kernel_rfl
theorem JtE (j:Nat) (first:Int):(JtB.map fun k=>J0L Tryz.prog call N 32 [iv k,iv j,iv first] h)=JtB.map fun k=>some (iv (Js8 k j first),h):=by kernel_rfl
end
section
variable {n:Nat} {h:SHeap} {k:Int}
theorem Ju0 (hk:1≤k∧k≤54) (hn:0<n):J0T n 28 [iv k] h=some (iv (typN k),h):=by
 obtain⟨n,rfl⟩:∃ j,n=j+1:=⟨n-1,by omega⟩
 exact J6r (J13 ⟨rfl,rfl,rfl⟩) rfl (JsY (JtM (J0T n) n h) hk)
theorem JtH (hk:1≤k∧k≤54) (hn:0<n):J0T n 36 [iv k] h=some (iv (typN k),h):=by
 obtain⟨n,rfl⟩:∃ j,n=j+1:=⟨n-1,by omega⟩
 exact J6r (J13 ⟨rfl,rfl,rfl⟩) rfl (JsY (Jtw (J0T n) n h) hk)
theorem JtD (hk:1≤k∧k≤54) (hn:0<n):J0T n 29 [iv k] h=some (.bool (Jsi k),h):=by
 obtain⟨n,rfl⟩:∃ j,n=j+1:=⟨n-1,by omega⟩
 exact J6r (J13 ⟨rfl,rfl,rfl⟩) rfl (JsY (Jt5 (J0T n) n h) hk)
theorem Ju5 (hk:1≤k∧k≤54) (hn:0<n):J0T n 37 [iv k] h=some (.bool (Jsi k),h):=by
 obtain⟨n,rfl⟩:∃ j,n=j+1:=⟨n-1,by omega⟩
 exact J6r (J13 ⟨rfl,rfl,rfl⟩) rfl (JsY (Jtt (J0T n) n h) hk)
theorem JsZ (a:Int) (j:Nat):Jsn a j=(a==4||(a==5||(a==6||(a==13&&(j:Int)==0)))):=by
 have hj:((j:Int)==0)=(j==0):=by
  rw[Bool.eq_iff_iff]
  simp
 unfold Jsn
 rw[hj]
 simp only[List.contains_cons,List.contains_nil,Bool.or_false,Bool.or_assoc]
theorem JtQ {a:Int} {j:Nat} (hn:0<n):J0T n 33 [iv a,iv (j:Int)] h=some (.bool (Jsn a j),h):=by
 obtain⟨n,rfl⟩:∃ j,n=j+1:=⟨n-1,by omega⟩
 refine J6r (J13 ⟨rfl,rfl,rfl⟩) rfl ?_
 refine J1m Tryz.func33 rfl (by simp[Tryz.f33]) ?_
 have hr:Tryz.f33.results.toList=[.tmp 4]:=rfl
 rw[JsZ]
 cases c4:(a==4) with
 | true=>simp only[evC,seval,↓evP,hr,c4,Bool.true_or]
 | false=>
 cases c5:(a==5) with
 | true=>simp only[evC,seval,↓evP,hr,c4,c5,Bool.true_or,Bool.or_true]
 | false=>
 cases c6:(a==6) with
 | true=>simp only[evC,seval,↓evP,hr,c4,c5,c6,Bool.true_or,Bool.or_true]
 | false=>
 cases c13:(a==13) with
 | false=>simp only[evC,seval,↓evP,hr,c4,c5,c6,c13,Bool.or_false,Bool.false_and]
 | true=>
 cases cj:((j:Int)==0) with
 | false=>simp only[evC,seval,↓evP,hr,c4,c5,c6,c13,cj,Bool.or_false,Bool.and_false]
 | true=>simp only[evC,seval,↓evP,hr,c4,c5,c6,c13,cj,Bool.or_true,Bool.and_true,Bool.or_false]
theorem bsI2 {a b:Int}:J0Q Tryz.prog h 25 2 [(0,iv a),(1,iv b)]=some (qS h.next 2 2,h.push (.row [iv a,iv b] 3 false false)):=by
 have hc:∀ x:Int,(iv x).cells=#[iv x]:=fun _=>rfl
 simp[J0Q,Tryz.underlying25,sz3,J8P,flat,J1i,hc,J5k,J3e,Go.Sx.lay]
theorem bsI3 {a b c:Int}:J0Q Tryz.prog h 25 3 [(0,iv a),(1,iv b),(2,iv c)]=some (qS h.next 3 3,h.push (.row [iv a,iv b,iv c] 3 false false)):=by
 have hc:∀ x:Int,(iv x).cells=#[iv x]:=fun _=>rfl
 simp[J0Q,Tryz.underlying25,sz3,J8P,flat,J1i,hc,J5k,J3e,Go.Sx.lay]
theorem Jsh {o:SObj}:∀ i,i<h.next→(h.push o).get i=h.get i:=fun i hi=>J06 hi
theorem Jtd {call:J0r} {N:Nat} {j:Nat} {first:Int} (hk:1≤k∧k≤54) (hj:[12,13].contains k=true→j<3) (hj2:[15,47,48].contains k=true→j<2):∃ h1,J0L Tryz.prog call N 32 [iv k,iv (j:Int),iv first] h=some (iv (Js8 k j first),h1)∧∀ i,i<h.next→h1.get i=h.get i:=by
 by_cases hr:[12,13,15,47,48].contains k=false
 ·exact⟨h,JtS (JtE call N h j first) hk hr,fun _ _=>rfl⟩
 have hr':k=12∨k=13∨k=15∨k=47∨k=48:=by
  simp only[Bool.not_eq_false,List.contains_cons,List.contains_nil,Bool.or_false,Bool.or_eq_true,beq_iff_eq] at hr
  omega
 have hR:Tryz.f32.results.toList=[.tmp 6]:=rfl
 rcases hr' with rfl | rfl | rfl | rfl | rfl
 ·have h3:j=0∨j=1∨j=2:=by have:=hj rfl;omega
  rcases h3 with rfl | rfl | rfl
  ·have hix:J0R Tryz.prog 25 (qS h.next 3 3) (iv 0)=some (qP h.next 0):=J1F (id:=h.next) (n:=3) (c:=3) (i:=0) (by decide)
   change ∃ h1,J0L Tryz.prog call N 32 [iv 12,iv 0,iv first] h=some (iv (Js8 12 0 first),h1)∧_
   refine J1N (R:=fun h1=>∀ i,i<h.next→h1.get i=h.get i) Tryz.func32 rfl (by simp[Tryz.f32]) ?_
   simp only[evC,seval,↓evP,Int.reduceBEq,hR,bsI3,hix,J0m,J0h,ld1]
   exact⟨rfl,Jsh⟩
  ·have hix:J0R Tryz.prog 25 (qS h.next 3 3) (iv 1)=some (qP h.next 1):=J1F (id:=h.next) (n:=3) (c:=3) (i:=1) (by decide)
   change ∃ h1,J0L Tryz.prog call N 32 [iv 12,iv 1,iv first] h=some (iv (Js8 12 1 first),h1)∧_
   refine J1N (R:=fun h1=>∀ i,i<h.next→h1.get i=h.get i) Tryz.func32 rfl (by simp[Tryz.f32]) ?_
   simp only[evC,seval,↓evP,Int.reduceBEq,hR,bsI3,hix,J0m,J0h,ld1]
   exact⟨rfl,Jsh⟩
  ·have hix:J0R Tryz.prog 25 (qS h.next 3 3) (iv 2)=some (qP h.next 2):=J1F (id:=h.next) (n:=3) (c:=3) (i:=2) (by decide)
   change ∃ h1,J0L Tryz.prog call N 32 [iv 12,iv 2,iv first] h=some (iv (Js8 12 2 first),h1)∧_
   refine J1N (R:=fun h1=>∀ i,i<h.next→h1.get i=h.get i) Tryz.func32 rfl (by simp[Tryz.f32]) ?_
   simp only[evC,seval,↓evP,Int.reduceBEq,hR,bsI3,hix,J0m,J0h,ld1]
   exact⟨rfl,Jsh⟩
 ·have h3:j=0∨j=1∨j=2:=by have:=hj rfl;omega
  rcases h3 with rfl | rfl | rfl
  ·have hix:J0R Tryz.prog 25 (qS h.next 3 3) (iv 0)=some (qP h.next 0):=J1F (id:=h.next) (n:=3) (c:=3) (i:=0) (by decide)
   change ∃ h1,J0L Tryz.prog call N 32 [iv 13,iv 0,iv first] h=some (iv (Js8 13 0 first),h1)∧_
   refine J1N (R:=fun h1=>∀ i,i<h.next→h1.get i=h.get i) Tryz.func32 rfl (by simp[Tryz.f32]) ?_
   simp only[evC,seval,↓evP,Int.reduceBEq,hR,bsI3,hix,J0m,J0h,ld1]
   exact⟨rfl,Jsh⟩
  ·have hix:J0R Tryz.prog 25 (qS h.next 3 3) (iv 1)=some (qP h.next 1):=J1F (id:=h.next) (n:=3) (c:=3) (i:=1) (by decide)
   change ∃ h1,J0L Tryz.prog call N 32 [iv 13,iv 1,iv first] h=some (iv (Js8 13 1 first),h1)∧_
   refine J1N (R:=fun h1=>∀ i,i<h.next→h1.get i=h.get i) Tryz.func32 rfl (by simp[Tryz.f32]) ?_
   simp only[evC,seval,↓evP,Int.reduceBEq,hR,bsI3,hix,J0m,J0h,ld1]
   exact⟨rfl,Jsh⟩
  ·have hix:J0R Tryz.prog 25 (qS h.next 3 3) (iv 2)=some (qP h.next 2):=J1F (id:=h.next) (n:=3) (c:=3) (i:=2) (by decide)
   change ∃ h1,J0L Tryz.prog call N 32 [iv 13,iv 2,iv first] h=some (iv (Js8 13 2 first),h1)∧_
   refine J1N (R:=fun h1=>∀ i,i<h.next→h1.get i=h.get i) Tryz.func32 rfl (by simp[Tryz.f32]) ?_
   simp only[evC,seval,↓evP,Int.reduceBEq,hR,bsI3,hix,J0m,J0h,ld1]
   exact⟨rfl,Jsh⟩
 ·have h3:j=0∨j=1:=by have:=hj2 rfl;omega
  rcases h3 with rfl | rfl
  ·have hix:J0R Tryz.prog 25 (qS h.next 2 2) (iv 0)=some (qP h.next 0):=J1F (id:=h.next) (n:=2) (c:=2) (i:=0) (by decide)
   change ∃ h1,J0L Tryz.prog call N 32 [iv 15,iv 0,iv first] h=some (iv (Js8 15 0 first),h1)∧_
   refine J1N (R:=fun h1=>∀ i,i<h.next→h1.get i=h.get i) Tryz.func32 rfl (by simp[Tryz.f32]) ?_
   simp only[evC,seval,↓evP,Int.reduceBEq,hR,bsI2,hix,J0m,J0h,ld1]
   exact⟨rfl,Jsh⟩
  ·have hix:J0R Tryz.prog 25 (qS h.next 2 2) (iv 1)=some (qP h.next 1):=J1F (id:=h.next) (n:=2) (c:=2) (i:=1) (by decide)
   change ∃ h1,J0L Tryz.prog call N 32 [iv 15,iv 1,iv first] h=some (iv (Js8 15 1 first),h1)∧_
   refine J1N (R:=fun h1=>∀ i,i<h.next→h1.get i=h.get i) Tryz.func32 rfl (by simp[Tryz.f32]) ?_
   simp only[evC,seval,↓evP,Int.reduceBEq,hR,bsI2,hix,J0m,J0h,ld1]
   exact⟨rfl,Jsh⟩
 ·have h3:j=0∨j=1:=by have:=hj2 rfl;omega
  rcases h3 with rfl | rfl
  ·exact⟨h,by kernel_rfl,fun _ _=>rfl⟩
  ·exact⟨h,by kernel_rfl,fun _ _=>rfl⟩
 ·have h3:j=0∨j=1:=by have:=hj2 rfl;omega
  rcases h3 with rfl | rfl
  ·exact⟨h,by kernel_rfl,fun _ _=>rfl⟩
  ·exact⟨h,by kernel_rfl,fun _ _=>rfl⟩
theorem Ju2 {j:Nat} {first:Int} (hk:1≤k∧k≤54) (hj:[12,13].contains k=true→j<3) (hj2:[15,47,48].contains k=true→j<2) (hn:0<n):J0T n 32 [iv k,iv (j:Int),iv first] h=some (iv (Js8 k j first),h):=by
 obtain⟨n,rfl⟩:∃ j,n=j+1:=⟨n-1,by omega⟩
 exact J4r (J13 ⟨rfl,rfl,rfl⟩) rfl (Jtd hk hj hj2)
end
theorem Jqg:∀ {l:List (ByteArray × Bool)} {k:Nat} {x:ByteArray × Bool},l[k]?=some x→(J3S l)[k*2]?=some (.string x.1)∧(J3S l)[k*2+1]?=some (.bool x.2)
 | [],k,x,h=>by simp at h
 | y :: l,0,x,h=>by
  cases h
  exact⟨rfl,rfl⟩
 | y :: l,k+1,x,h=>by
  have h':l[k]?=some x:=by simpa using h
  have e:J3S (y :: l)=.string y.1 :: .bool y.2 :: J3S l:=rfl
  obtain⟨a,b⟩:=Jqg h'
  rw[e]
  refine⟨?_,?_⟩
  ·rw[show (k+1)*2=k*2+1+1 by omega]
   exact a
  ·rw[show (k+1)*2+1=k*2+1+1+1 by omega]
   exact b
theorem Jqc {l:List (ByteArray × Bool)} {i:Nat} {x:ByteArray × Bool} (hx:l[i]?=some x) {lo:Nat} {h:SHeap} {v:Value} (hc:J0p lo h v l.length 2 (J3S l)):∃ id p,J0R Tryz.prog 23 v (iv (i:Int))=some (qP id p)∧id<h.next∧ld1 (p+1) (h.get id)=some (.bool x.2):=by
 obtain⟨id,p,h1,h2,h3⟩:=J0p.idx hc Tryz.underlying23 sz57 (List.getElem?_eq_some_iff.1 hx).1
 refine⟨id,p,h1,h2,?_⟩
 rw[h3 1 (by decide)]
 exact(Jqg hx).2
theorem Jq8 {size:Int} {C:List Int} {Q:List (ByteArray × Bool)} (h:size<1∨size>1048576∨C.length≠Q.length):Jq9 size C Q=false:=by
 unfold Jq9
 rw[if_pos h]
theorem Jq2 {size:Int} {C:List Int} {Q:List (ByteArray × Bool)} (h:Jq5 size (zipQ C Q) 0 0=none):Jq9 size C Q=false:=by
 unfold Jq9
 split
 ·rfl
 ·rw[h]
theorem Jqs {size r o:Int} {C:List Int} {Q:List (ByteArray × Bool)} (h1:1≤size) (h2:size≤1048576) (h3:C.length=Q.length) (h:Jq5 size (zipQ C Q) 0 0=some (r,o)):Jq9 size C Q=decide (min size r+o≤4194304):=by
 unfold Jq9
 rw[if_neg (by omega),h]
theorem Jrz (a b:Int):(if b<a then b else a)=min a b:=by
 by_cases h:b<a
 ·rw[if_pos h];omega
 ·rw[if_neg h];omega
section
variable {n N:Nat} {h:SHeap}
theorem JqL {nm:ByteArray} {s:StN} {pv cv:Value} {lo lc:Nat} {size:Int} {C:List Int} (hp:J3x lo h pv nm s) (hc:JpX lc h cv size C) (hC:C.length<9000000) (hN:C.length+10<N) :
  ∃ h',J0L Tryz.prog (J0T n) N 41 [pv,cv] h=some (.bool (Jq9 size C s.queues),h')∧∀ i,i<h.next→h'.get i=h.get i:=by
 obtain⟨vr,vq,vv,vt,vu,vo,rfl,p1,p2,p3,p4,p5,p6⟩:=id hp
 obtain⟨vc,rfl,pc⟩:=id hc
 refine J1N (R:=fun h'=>∀ i,i<h.next→h'.get i=h.get i) Tryz.func41 rfl (by simp[Tryz.f41]) ?_
 have hr:Tryz.f41.results.toList=[.tmp 4]:=rfl
 have ca:(Value.agg #[.string nm,vr,vq,vv,vt,vu,vo,iv s.miss]).cells.toList=[.string nm,vr,vq,vv,vt,vu,vo,iv s.miss]:=rfl
 have oa:=all8 (nm:=nm) p1 p2 p3 p4 p5 p6
 have cb:(Value.agg #[iv size,vc]).cells.toList=[iv size,vc]:=rfl
 have ob:[iv size,vc].all one=true:=by simp only[List.all_cons,List.all_nil,J0p.one pc,J5K,Bool.and_self]
 have g0:∀ (a b:SObj),let A:=(h.push a).push b
   A.get h.next=a∧A.get (h.next+1)=b∧A.next=h.next+2∧A.floor=h.floor∧∀ i,i<h.next→A.get i=h.get i:=fun a b=>
  ⟨J4c,J48,rfl,rfl,fun i hi=>by rw[J06 (by show i<h.next+1;omega),J06 hi]⟩
 obtain⟨gA,gB,nG,fG,gO⟩:=g0 (.row [.string nm,vr,vq,vv,vt,vu,vo,iv s.miss] 27 false false) (.row [iv size,vc] 39 false false)
 simp only[evC,seval,↓evP,rpD,J0X,J2t,ca,oa,cb,ob,sz30,szCp]
 generalize (h.push (.row [.string nm,vr,vq,vv,vt,vu,vo,iv s.miss] 27 false false)).push (.row [iv size,vc] 39 false false)=Q at *
 obtain⟨x0,x1,x2,x3,x4,x5,x6,x7⟩:=box8 gA
 have y0:ld1 0 (Q.get (h.next+1))=some (iv size):=by rw[gB];rfl
 have y1:ld1 1 (Q.get (h.next+1))=some vc:=by rw[gB];rfl
 have lenC:=fun h'=>JfF pc h'
 have lenQ:=fun h'=>JfC p2 h'
 have pq:J0p lo Q vq s.queues.length 2 (J3S s.queues):=p2.mono (by omega) fun i _ hi=>gO i hi
 have pC:J1S lc Q vc C:=J1S.mono pc (by omega) fun i _ hi=>gO i hi
 cases d1:decide (size<1) with
 | true=>
  rw[Jq8 (.inl (by simpa using d1))]
  simp only[evC,seval,↓evP,hr,Nat.zero_add,JpU,J0m,y0,d1]
  exact gO
 | false=>
 have e1:1≤size:=by simp only[decide_eq_false_iff_not] at d1;omega
 cases d2:decide (size>1048576) with
 | true=>
  rw[Jq8 (.inr (.inl (by simpa using d2)))]
  simp only[evC,seval,↓evP,hr,Nat.zero_add,JpU,J0m,y0,d1,d2]
  exact gO
 | false=>
 have e2:size≤1048576:=by simp only[decide_eq_false_iff_not] at d2;omega
 cases d3:((C.length:Int) != (s.queues.length:Int)) with
 | true=>
  rw[Jq8 (.inr (.inr (fun h9=>by rw[h9] at d3;simp at d3)))]
  simp only[evC,seval,↓evP,hr,Nat.zero_add,JpU,JpV,J0B,J0m,J0n,J0S,y0,y1,x2,lenC,lenQ,d1,d2,d3]
  exact gO
 | false=>
 have e3:C.length=s.queues.length:=by
  have h9:(C.length:Int)=(s.queues.length:Int):=by simpa using d3
  omega
 simp only[evC,seval,↓evP,Nat.zero_add,JpU,JpV,J0B,J0m,J0n,J0S,y0,y1,x2,lenC,lenQ,d1,d2,d3]
 refine WK.loop (fun i s'=>s'.T.get 2=qP h.next 0∧s'.T.get 3=qP (h.next+1) 0∧s'.T.get 27=vc∧s'.T.get 28=iv (C.length:Int)∧s'.T.get 29=iv (i:Int)∧s'.h=Q∧i≤C.length∧∃ r o:Int,s'.T.get 5=iv r∧s'.T.get 6=iv o∧0≤r∧r≤1048576*(i:Int)∧0≤o∧o≤1048576*(i:Int)∧Jq5 size ((zipQ C s.queues).drop i) r o=Jq5 size (zipQ C s.queues) 0 0) C.length (by omega) ?_ ?_
 ·exact⟨by simp only[evC,seval,↓evP,rpC],by simp only[evC,seval,↓evP,rpC],by simp only[evC,seval,↓evP,rpC],by simp only[evC,seval,↓evP,rpC],by simp only[evC,seval,↓evP,rpC] <;> rfl,rfl,by omega,0,0,by simp only[evC,seval,↓evP,rpC] <;> rfl,by simp only[evC,seval,↓evP,rpC] <;> rfl,by omega,by omega,by omega,by omega,by rw[List.drop_zero]⟩
 rintro i ⟨T1,H1⟩ hi ⟨t2,t3,t27,t28,t29,hh,hil,r,o,t5,t6,r0,r1,o0,o1,hgo⟩
 simp only at t2 t3 t27 t28 t29 t5 t6 hh
 subst hh
 have hbd:1048576*(i:Int)≤1048576*9000000:=by omega
 by_cases hlt:i<C.length
 ·have c1:decide ((i:Int)<(C.length:Int))=true:=by simp;omega
  obtain⟨m,hm⟩:∃ m,C[i]?=some m:=⟨_,List.getElem?_eq_getElem hlt⟩
  obtain⟨q,hq⟩:∃ q,s.queues[i]?=some q:=⟨_,List.getElem?_eq_getElem (by omega)⟩
  obtain⟨ida,pa,ea,_,xa⟩:=J1S.get pC hm
  obtain⟨idb,pb,eb,_,xb⟩:=Jqc hq pq
  have w1:IntKind.i64.wrap ((i:Int)+1)=((i+1:Nat):Int):=J0s (by omega) (by omega)
  cases d4:decide (m<1) with
  | true=>
   rw[Jq2 (by rw[← hgo];exact Jq7 hm hq (.inl (by simpa using d4)))]
   simp only[evC,seval,↓evP,hr,Nat.zero_add,t2,t3,t27,t28,t29,t5,t6,lenC,c1,JpU,JpV,J0B,JiN,J0m,J0n,J0S,J1V,y0,y1,x2,ea,xa,eb,d4]
   exact gO
  | false=>
  have e4:1≤m:=by simp only[decide_eq_false_iff_not] at d4;omega
  cases d5:decide (m>1048576) with
  | true=>
   rw[Jq2 (by rw[← hgo];exact Jq7 hm hq (.inr (.inl (by simpa using d5))))]
   simp only[evC,seval,↓evP,hr,Nat.zero_add,t2,t3,t27,t28,t29,t5,t6,lenC,c1,JpU,JpV,J0B,JiN,J0m,J0n,J0S,J1V,y0,y1,x2,ea,xa,eb,d4,d5]
   exact gO
  | false=>
  have e5:m≤1048576:=by simp only[decide_eq_false_iff_not] at d5;omega
  have wo:IntKind.i64.wrap (o+m)=o+m:=J0s (by omega) (by omega)
  have wr:IntKind.i64.wrap (r+m)=r+m:=J0s (by omega) (by omega)
  cases d6:q.2 with
  | true=>
   have xb':ld1 (pb+1) (H1.get idb)=some (.bool true):=by rw[← d6];exact xb
   simp only[evC,seval,↓evP,hr,Nat.zero_add,t2,t3,t27,t28,t29,t5,t6,lenC,c1,JpU,JpV,J0B,JiN,J0m,J0n,J0S,J1V,y0,y1,x2,ea,xa,eb,d4,d5,xb',wo,w1]
   exact⟨hlt,by omega,r,o+m,rfl,rfl,by omega,by omega,by omega,by omega,by rw[← hgo,Jqq hm hq ⟨e4,e5⟩ d6]⟩
  | false=>
  have xb':ld1 (pb+1) (H1.get idb)=some (.bool false):=by rw[← d6];exact xb
  cases d7:decide (m>size) with
  | true=>
   rw[Jq2 (by rw[← hgo];exact Jq7 hm hq (.inr (.inr ⟨d6,by simpa using d7⟩)))]
   simp only[evC,seval,↓evP,hr,Nat.zero_add,t2,t3,t27,t28,t29,t5,t6,lenC,c1,JpU,JpV,J0B,JiN,J0m,J0n,J0S,J1V,y0,y1,x2,ea,xa,eb,d4,d5,xb',d7]
   exact gO
  | false=>
  have e7:m≤size:=by simp only[decide_eq_false_iff_not] at d7;omega
  simp only[evC,seval,↓evP,hr,Nat.zero_add,t2,t3,t27,t28,t29,t5,t6,lenC,c1,JpU,JpV,J0B,JiN,J0m,J0n,J0S,J1V,y0,y1,x2,ea,xa,eb,d4,d5,xb',d7,wr,w1]
  exact⟨hlt,by omega,r+m,o,rfl,rfl,by omega,by omega,by omega,by omega,by rw[← hgo,JqG hm hq ⟨e4,e5⟩ d6 e7]⟩
 have c1:decide ((i:Int)<(C.length:Int))=false:=by simp;omega
 rw[Jqs (r:=r) (o:=o) e1 e2 e3 (by rw[← hgo];exact Jrb e3 (by omega))]
 have wz:IntKind.i64.wrap ((if r<size then r else size)+o)=(if r<size then r else size)+o:=J0s (by split <;> omega) (by split <;> omega)
 simp only[evC,seval,↓evP,hr,Nat.zero_add,t2,t3,t27,t28,t29,t5,t6,lenC,c1,JpU,JpV,J0B,J0m,J0n,J0S,y0,y1,x2,wz]
 rw[Jrz]
 exact⟨rfl,gO⟩
theorem JrA {nm:ByteArray} {s:StN} {pv cv:Value} {lo lc:Nat} {size:Int} {C:List Int} (hp:J3x lo h pv nm s) (hc:JpX lc h cv size C) (hC:C.length<9000000) (hn:C.length+20<n):J0T n 41 [pv,cv] h=some (.bool (Jq9 size C s.queues),h):=by
 obtain⟨n,rfl⟩:∃ j,n=j+1:=⟨n-1,by omega⟩
 exact J4r (J13 ⟨rfl,rfl,rfl⟩) rfl (JqL (n:=n) (N:=n) hp hc hC (by omega))
theorem JqQ {nm:ByteArray} {s:StN} {pv cv:Value} {lo lc:Nat} {size:Int} {C:List Int} (hp:J3x lo h pv nm s) (hc:JpX lc h cv size C) (hC:C.length<9000000) (hN:C.length+10<N) :
  ∃ h',J0L Tryz.prog (J0T n) N 42 [pv,cv] h=some (.bool (Jq9 size C s.queues),h')∧∀ i,i<h.next→h'.get i=h.get i:=by
 obtain⟨vr,vq,vv,vt,vu,vo,rfl,p1,p2,p3,p4,p5,p6⟩:=id hp
 obtain⟨vc,rfl,pc⟩:=id hc
 refine J1N (R:=fun h'=>∀ i,i<h.next→h'.get i=h.get i) Tryz.func42 rfl (by simp[Tryz.f42]) ?_
 have hr:Tryz.f42.results.toList=[.tmp 4]:=rfl
 have ca:(Value.agg #[.string nm,vr,vq,vv,vt,vu,vo,iv s.miss]).cells.toList=[.string nm,vr,vq,vv,vt,vu,vo,iv s.miss]:=rfl
 have oa:=all8 (nm:=nm) p1 p2 p3 p4 p5 p6
 have cb:(Value.agg #[iv size,vc]).cells.toList=[iv size,vc]:=rfl
 have ob:[iv size,vc].all one=true:=by simp only[List.all_cons,List.all_nil,J0p.one pc,J5K,Bool.and_self]
 have g0:∀ (a b:SObj),let A:=(h.push a).push b
   A.get h.next=a∧A.get (h.next+1)=b∧A.next=h.next+2∧A.floor=h.floor∧∀ i,i<h.next→A.get i=h.get i:=fun a b=>
  ⟨J4c,J48,rfl,rfl,fun i hi=>by rw[J06 (by show i<h.next+1;omega),J06 hi]⟩
 obtain⟨gA,gB,nG,fG,gO⟩:=g0 (.row [.string nm,vr,vq,vv,vt,vu,vo,iv s.miss] 27 false false) (.row [iv size,vc] 39 false false)
 simp only[evC,seval,↓evP,rpD,J0X,J2t,ca,oa,cb,ob,sz30,szCp]
 generalize (h.push (.row [.string nm,vr,vq,vv,vt,vu,vo,iv s.miss] 27 false false)).push (.row [iv size,vc] 39 false false)=Q at *
 obtain⟨x0,x1,x2,x3,x4,x5,x6,x7⟩:=box8 gA
 have y0:ld1 0 (Q.get (h.next+1))=some (iv size):=by rw[gB];rfl
 have y1:ld1 1 (Q.get (h.next+1))=some vc:=by rw[gB];rfl
 have lenC:=fun h'=>JfF pc h'
 have lenQ:=fun h'=>JfC p2 h'
 have pq:J0p lo Q vq s.queues.length 2 (J3S s.queues):=p2.mono (by omega) fun i _ hi=>gO i hi
 have pC:J1S lc Q vc C:=J1S.mono pc (by omega) fun i _ hi=>gO i hi
 cases d1:decide (size<1) with
 | true=>
  rw[Jq8 (.inl (by simpa using d1))]
  simp only[evC,seval,↓evP,hr,Nat.zero_add,JpU,J0m,y0,d1]
  exact gO
 | false=>
 have e1:1≤size:=by simp only[decide_eq_false_iff_not] at d1;omega
 cases d2:decide (size>1048576) with
 | true=>
  rw[Jq8 (.inr (.inl (by simpa using d2)))]
  simp only[evC,seval,↓evP,hr,Nat.zero_add,JpU,J0m,y0,d1,d2]
  exact gO
 | false=>
 have e2:size≤1048576:=by simp only[decide_eq_false_iff_not] at d2;omega
 cases d3:((C.length:Int) != (s.queues.length:Int)) with
 | true=>
  rw[Jq8 (.inr (.inr (fun h9=>by rw[h9] at d3;simp at d3)))]
  simp only[evC,seval,↓evP,hr,Nat.zero_add,JpU,JpV,J0B,J0m,J0n,J0S,y0,y1,x2,lenC,lenQ,d1,d2,d3]
  exact gO
 | false=>
 have e3:C.length=s.queues.length:=by
  have h9:(C.length:Int)=(s.queues.length:Int):=by simpa using d3
  omega
 simp only[evC,seval,↓evP,Nat.zero_add,JpU,JpV,J0B,J0m,J0n,J0S,y0,y1,x2,lenC,lenQ,d1,d2,d3]
 refine WK.loop (fun i s'=>s'.T.get 2=qP h.next 0∧s'.T.get 3=qP (h.next+1) 0∧s'.T.get 7=iv (i:Int)∧s'.h=Q∧i≤C.length∧∃ r o:Int,s'.T.get 5=iv r∧s'.T.get 6=iv o∧0≤r∧r≤1048576*(i:Int)∧0≤o∧o≤1048576*(i:Int)∧Jq5 size ((zipQ C s.queues).drop i) r o=Jq5 size (zipQ C s.queues) 0 0) C.length (by omega) ?_ ?_
 ·exact⟨by simp only[evC,seval,↓evP,rpC],by simp only[evC,seval,↓evP,rpC],by simp only[evC,seval,↓evP,rpC] <;> rfl,rfl,by omega,0,0,by simp only[evC,seval,↓evP,rpC] <;> rfl,by simp only[evC,seval,↓evP,rpC] <;> rfl,by omega,by omega,by omega,by omega,by rw[List.drop_zero]⟩
 rintro i ⟨T1,H1⟩ hi ⟨t2,t3,t7,hh,hil,r,o,t5,t6,r0,r1,o0,o1,hgo⟩
 simp only at t2 t3 t7 t5 t6 hh
 subst hh
 have hbd:1048576*(i:Int)≤1048576*9000000:=by omega
 by_cases hlt:i<C.length
 ·have c1:decide ((i:Int)<(C.length:Int))=true:=by simp;omega
  obtain⟨m,hm⟩:∃ m,C[i]?=some m:=⟨_,List.getElem?_eq_getElem hlt⟩
  obtain⟨q,hq⟩:∃ q,s.queues[i]?=some q:=⟨_,List.getElem?_eq_getElem (by omega)⟩
  obtain⟨ida,pa,ea,_,xa⟩:=J1S.get pC hm
  obtain⟨idb,pb,eb,_,xb⟩:=Jqc hq pq
  have w1:IntKind.i64.wrap ((i:Int)+1)=((i+1:Nat):Int):=J0s (by omega) (by omega)
  cases d4:decide (m<1) with
  | true=>
   rw[Jq2 (by rw[← hgo];exact Jq7 hm hq (.inl (by simpa using d4)))]
   simp only[evC,seval,↓evP,hr,Nat.zero_add,t2,t3,t7,t5,t6,lenC,c1,JpU,JpV,J0B,JiN,J0m,J0n,J0S,J1V,y0,y1,x2,ea,xa,eb,d4]
   exact gO
  | false=>
  have e4:1≤m:=by simp only[decide_eq_false_iff_not] at d4;omega
  cases d5:decide (m>1048576) with
  | true=>
   rw[Jq2 (by rw[← hgo];exact Jq7 hm hq (.inr (.inl (by simpa using d5))))]
   simp only[evC,seval,↓evP,hr,Nat.zero_add,t2,t3,t7,t5,t6,lenC,c1,JpU,JpV,J0B,JiN,J0m,J0n,J0S,J1V,y0,y1,x2,ea,xa,eb,d4,d5]
   exact gO
  | false=>
  have e5:m≤1048576:=by simp only[decide_eq_false_iff_not] at d5;omega
  have wo:IntKind.i64.wrap (o+m)=o+m:=J0s (by omega) (by omega)
  have wr:IntKind.i64.wrap (r+m)=r+m:=J0s (by omega) (by omega)
  cases d6:q.2 with
  | true=>
   have xb':ld1 (pb+1) (H1.get idb)=some (.bool true):=by rw[← d6];exact xb
   simp only[evC,seval,↓evP,hr,Nat.zero_add,t2,t3,t7,t5,t6,lenC,c1,JpU,JpV,J0B,JiN,J0m,J0n,J0S,J1V,y0,y1,x2,ea,xa,eb,d4,d5,xb',wo,w1]
   exact⟨hlt,by omega,r,o+m,rfl,rfl,by omega,by omega,by omega,by omega,by rw[← hgo,Jqq hm hq ⟨e4,e5⟩ d6]⟩
  | false=>
  have xb':ld1 (pb+1) (H1.get idb)=some (.bool false):=by rw[← d6];exact xb
  cases d7:decide (m>size) with
  | true=>
   rw[Jq2 (by rw[← hgo];exact Jq7 hm hq (.inr (.inr ⟨d6,by simpa using d7⟩)))]
   simp only[evC,seval,↓evP,hr,Nat.zero_add,t2,t3,t7,t5,t6,lenC,c1,JpU,JpV,J0B,JiN,J0m,J0n,J0S,J1V,y0,y1,x2,ea,xa,eb,d4,d5,xb',d7]
   exact gO
  | false=>
  have e7:m≤size:=by simp only[decide_eq_false_iff_not] at d7;omega
  simp only[evC,seval,↓evP,hr,Nat.zero_add,t2,t3,t7,t5,t6,lenC,c1,JpU,JpV,J0B,JiN,J0m,J0n,J0S,J1V,y0,y1,x2,ea,xa,eb,d4,d5,xb',d7,wr,w1]
  exact⟨hlt,by omega,r+m,o,rfl,rfl,by omega,by omega,by omega,by omega,by rw[← hgo,JqG hm hq ⟨e4,e5⟩ d6 e7]⟩
 have c1:decide ((i:Int)<(C.length:Int))=false:=by simp;omega
 rw[Jqs (r:=r) (o:=o) e1 e2 e3 (by rw[← hgo];exact Jrb e3 (by omega))]
 have wz:IntKind.i64.wrap ((if size<r then size else r)+o)=(if size<r then size else r)+o:=J0s (by split <;> omega) (by split <;> omega)
 simp only[evC,seval,↓evP,hr,Nat.zero_add,t2,t3,t7,t5,t6,lenC,c1,JpU,JpV,J0B,J0m,J0n,J0S,y0,y1,x2,wz]
 rw[Jrz,Int.min_comm]
 exact⟨rfl,gO⟩
theorem JrK {nm:ByteArray} {s:StN} {pv cv:Value} {lo lc:Nat} {size:Int} {C:List Int} (hp:J3x lo h pv nm s) (hc:JpX lc h cv size C) (hC:C.length<9000000) (hn:C.length+20<n):J0T n 42 [pv,cv] h=some (.bool (Jq9 size C s.queues),h):=by
 obtain⟨n,rfl⟩:∃ j,n=j+1:=⟨n-1,by omega⟩
 exact J4r (J13 ⟨rfl,rfl,rfl⟩) rfl (JqQ (n:=n) (N:=n) hp hc hC (by omega))
end
end Go.Proofs.YtdejoodfeljmkaaGreatDoor
