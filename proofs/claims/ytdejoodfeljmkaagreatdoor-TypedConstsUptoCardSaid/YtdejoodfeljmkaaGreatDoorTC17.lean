/- Part 17 of what the claim leans on: 3 texts laid one behind another. -/
import Derived.Test.YtdejoodfeljmkaaGreatDoorTC16
namespace Go.Proofs.YtdejoodfeljmkaaGreatDoor
open Go Go.Sx
set_option maxRecDepth 100000
set_option linter.unusedSimpArgs false
set_option linter.unusedVariables false
set_option maxHeartbeats 64000000
def Jh2:List (Bool × Bool × List Operand):=[fa1,fa1,fa1,fa1,fa3 [.tmp 83],fa3 [.tmp 83],fa3 [.tmp 83],fa3 [.tmp 83],fa0,fa0]
def Jh0:List (Bool × Bool × List Operand):=[fa2,fa1,fa1,fa1,fa1,fa3 [.tmp 105],fa3 [.tmp 105],fa3 [.tmp 105],fa3 [.tmp 105],fa3 [.tmp 105,.tmp 109],fa3 [.tmp 105,.tmp 109],fa3 [.tmp 105,.tmp 109],fa0,fa0,fa0]
theorem J1n {T:Tr} {d t:Nat} {v:Value} (h:t<d):(T.put (some d) v).get t=T.get t:=by
 rw[Tr.get_put,if_neg (fun h9=>by have h8:d=t:=Option.some.inj h9;omega)]
section
variable {n N:Nat}
theorem Jbm {l:List RowN} {v:Value} {T:Tr} {H:SHeap} {K:Kont} {a lo m e r:Nat} {nm:ByteArray} (ht:J2c l) (hL:l.length<900000000) (hn:100020<n) (hN:l.length+3<N)
  (t0:T.get 0=v) (t2:T.get 2=qP a 0) (t3:T.get 3=qP (a+1) 0) (t5:T.get 5=qP m 0) (hv:J0l H v l) (hvl:∀ H',(∀ i,i<lo→H'.get i=H.get i)→H.next≤H'.next→J0l H' v l)
  (hp:MkRE H lo m e r l.length nm (J0o l) (s0N l)) (ha:a+1<lo) (hlo:lo≤H.next) (hout:Out2 a H zPc 0 0) (hfa:H.floor≤a)
  (hbad:(goN (J0o l) l.length 0 (s0N l)).1≠0→∀ T' H',T'.get 2=qP a 0→T'.get 3=qP (a+1) 0→Out2 a H' zPc (goN (J0o l) l.length 0 (s0N l)).1 (goN (J0o l) l.length 0 (s0N l)).2.1→H.next≤H'.next→H'.floor=H.floor→(∀ i,i<a→H'.get i=H.get i)→K.ap Tryz.prog (J0T n) N .ret ⟨T',H'⟩)
  (hgood:(goN (J0o l) l.length 0 (s0N l)).1=0→∀ T' H',(∀ t,t≤5→T'.get t=T.get t)→MkRE H' lo m e r l.length nm (J0o l) (goN (J0o l) l.length 0 (s0N l)).2.2→InvR l l.length (goN (J0o l) l.length 0 (s0N l)).2.2→AftR H H' lo→WK Tryz.prog (J0T n) N RR19 ⟨T',H'⟩ K) :
  WK Tryz.prog (J0T n) N RR6 ⟨T,H⟩ K:=by
 show WK _ _ _ (.seq (.seq _ (.block 0 (.loop (.seq _ (.seq (.block 1 XB17) _))))) RR19) _ _
 simp only[evC,seval,↓evP]
 refine WK.loop (fun i s'=>s'.T.get 6=iv i∧i≤l.length∧(∀ t,t≤5→s'.T.get t=T.get t)∧AftR H s'.h lo∧∃ s,MkRE s'.h lo m e r l.length nm (J0o l) s∧InvR l i s∧InvT s∧goN (J0o l) (l.length-i) i s=goN (J0o l) l.length 0 (s0N l)) l.length (by omega) ?_ ?_
 ·refine⟨by simp only[evC,↓reduceIte,Nat.reduceEqDiff,reduceCtorEq,↓evP,rpC,Nat.reduceAdd,Nat.reduceLT];rfl,by omega,fun t ht=>?_,AftR.refl _ _,s0N l,hp,inv0 l,Jj2 l,rfl⟩
  simp only[Tr.get_put,Option.some.injEq]
  repeat rw[if_neg (by omega)]
 ·rintro i ⟨T1,H1⟩ hi ⟨t6,hil,hkeep,haf,s,hp1,hin,hT,hgo⟩
  simp only at t6 hkeep haf hp1
  have u0:=(hkeep 0 (by omega)).trans t0
  have hv1:=hvl H1 haf.1 haf.2.1
  have hlen:=fun h'=>hv1.len (h':=h')
  by_cases hlt:i<l.length
  ·have c1:decide ((i:Int)<(l.length:Int))=true:=by simp;omega
   obtain⟨x,hx⟩:∃ x,s.rows[i]?=some x:=⟨_,List.getElem?_eq_getElem (by rw[hin.len];exact hlt)⟩
   have hr:l.length-i=(l.length-(i+1))+1:=by omega
   rw[hr] at hgo
   have hout1:Out2 a H1 zPc 0 0:=hout.mono (haf.1 a (by omega)) (haf.1 (a+1) ha)
   have hn1:=haf.2.1
   have hf1:=haf.2.2
   have w1:IntKind.i64.wrap ((i:Int)+1)=((i+1:Nat):Int):=J0s (by omega) (by omega)
   have hkp:∀ t:Nat,t≤6→((((T1.put (some 39) (iv i)).put (some 40) v).put (some 41) (iv l.length)).put (some 42) (Value.bool true)).get t=T1.get t:=fun t ht=>by
    rw[J1n (by omega),J1n (by omega),J1n (by omega),J1n (by omega)]
   simp only[evC,seval,↓evP,u0,t6,hlen,c1]
   refine Jde (a:=a) (at_:=i) (s:=s) (x:=x) ht hL hn hlt ((hkp 0 (by omega)).trans u0) ((hkp 2 (by omega)).trans ((hkeep 2 (by omega)).trans t2)) ((hkp 3 (by omega)).trans ((hkeep 3 (by omega)).trans t3)) ((hkp 5 (by omega)).trans ((hkeep 5 (by omega)).trans t5)) ((hkp 6 (by omega)).trans t6) hv1 hp1 hin hT hx ha (by omega) hout1 (by omega) ?_ ?_
   ·intro he T' H' g2 g3 ho hnx hfx hox
    have hg:goN (J0o l) l.length 0 (s0N l)=((J31 (J0o l) i s).1,i,s):=by
     rw[← hgo]
     unfold goN
     rw[if_pos he]
    simp only[evC,seval,↓evP]
    refine hbad (by rw[hg];exact he) T' H' g2 g3 (by rw[hg];exact ho) (by omega) (by omega) fun q hq=>(hox q hq).trans (haf.1 q (by omega))
   ·intro he T' H' hk' hp' haf'
    have hin':=J6b ht (J3T i) hlt hin he
    have hg:goN (J0o l) (l.length-(i+1)) (i+1) (J31 (J0o l) i s).2=goN (J0o l) l.length 0 (s0N l):=by
     rw[← hgo]
     conv=>rhs;unfold goN
     rw[if_neg (by rw[he];simp)]
    have u6:=(hk' 6 (by omega)).trans ((hkp 6 (by omega)).trans t6)
    simp only[evC,seval,↓evP,u6,w1]
    refine⟨hlt,by omega,fun t ht=>?_,haf.trans haf',_,hp',hin',Jio hT,hg⟩
    repeat rw[if_neg (by omega)]
    exact(hk' t (by omega)).trans ((hkp t (by omega)).trans (hkeep t ht))
  ·have c1:decide ((i:Int)<(l.length:Int))=false:=by simp;omega
   have:i=l.length:=by omega
   subst this
   have hg:goN (J0o l) l.length 0 (s0N l)=(0,l.length,s):=by
    rw[← hgo,Nat.sub_self]
    rfl
   simp only[evC,seval,↓evP,u0,t6,hlen,c1]
   refine hgood (by rw[hg]) _ _ (fun t ht=>?_) (by rw[hg];exact hp1) (by rw[hg];exact hin) haf
   simp only[Tr.get_put,Option.some.injEq]
   repeat rw[if_neg (by omega)]
   exact hkeep t ht
theorem MkR.polAt {h:SHeap} {lo m e r n:Nat} {nm:ByteArray} {E:List Int} {tag:Nat→Nat} {V:Nat→Value} {C:List Int} {s:StN} (hp:MkR h lo m e r n nm E tag V C s) :
  J3x lo h (.agg #[.string nm,qS r n unk,V 2,V 3,V 4,V 5,V 6,iv s.miss]) nm s:=by
 have hs:=fun j h2 h8=>hp.sl j h2 h8
 refine⟨_,V 2,V 3,V 4,V 5,V 6,rfl,J3P.of ?_,(hs 2 (by omega) (by omega)).cells (J2J _),(hs 3 (by omega) (by omega)).cells (by simp[slC,slN,strs]),(hs 4 (by omega) (by omega)).cells (by simp[slC,slN,strs]),(hs 5 (by omega) (by omega)).cells (by simp[slC,slN,J1h]),(hs 6 (by omega) (by omega)).cells (by simp[slC,slN,J1h])⟩
 have hl:=hp.len
 subst hl
 exact J0p.row (ex:=[]) (by rw[List.append_nil];exact hp.rows) hp.lr (J0N _)
theorem Jc7 (hsn:J1G (J0T n)) {l:List RowN} {v:Value} {T:Tr} {H:SHeap} {K:Kont} {a lo m e r:Nat} {nm:ByteArray} {s:StN} (ht:J2c l) (hL:l.length<900000000) (hn:l.length+200<n) (hN:l.length+3<N)
  (t0:T.get 0=v) (t2:T.get 2=qP a 0) (t3:T.get 3=qP (a+1) 0) (t5:T.get 5=qP m 0) (hv:J0l H v l)
  (hp:MkRE H lo m e r l.length nm (J0o l) s) (hin:InvR l l.length s) (hLR:LayR s.rows (J0o l) s.rules) (ha:a+1<lo) (hlo:lo≤H.next) (hout:Out2 a H zPc 0 0) (hfa:H.floor≤a)
  (hbad:J2K s.rows (J0o l) s.rules≥0→∀ T' H',T'.get 2=qP a 0→T'.get 3=qP (a+1) 0→Out2 a H' zPc 34 (J2K s.rows (J0o l) s.rules)→H.next≤H'.next→H'.floor=H.floor→(∀ i,i<a→H'.get i=H.get i)→K.ap Tryz.prog (J0T n) N .ret ⟨T',H'⟩)
  (hgood:¬ J2K s.rows (J0o l) s.rules≥0→∀ T' H' cs,T'.get 2=qP a 0→T'.get 3=qP (a+1) 0→cs.length=8→Out2 a H' cs 0 0→J3x lo H' (.agg cs.toArray) nm s→H.next≤H'.next→H'.floor=H.floor→(∀ i,i<a→H'.get i=H.get i)→K.ap Tryz.prog (J0T n) N .ret ⟨T',H'⟩) :
  WK Tryz.prog (J0T n) N RR19 ⟨T,H⟩ K:=by
 show WK _ _ _ (.seq (.region _ _ true) (.seq _ (.seq (.seq _ (.block 2 (.loop (.seq _ (.seq (.block 3 (.seq _ (.cond _ (.seq (.region _ _ true) _) _))) _))))) (.seq _ _)))) _ _
 obtain⟨tag,V,hp',hw⟩:=id hp
 have hLy:=hLR.lay
 have hsl:s.rows.length=l.length:=hin.len
 have hu:=hin.wf.u
 have hml:=hp'.lm
 have l8:ldN 8 0 (H.get m)=some (.agg #[.string nm,qS r l.length unk,V 2,V 3,V 4,V 5,V 6,iv s.miss]):=by rw[hp'.cell];rfl
 have c8:=hp'.c8
 have hpol:=hp'.polAt
 have cR:=fun j h2 h8=>hp'.sl j h2 h8
 have q2:=((cR 2 (by omega) (by omega)).cells (w:=2) (J2J _)).one
 have q3:=((cR 3 (by omega) (by omega)).cells (w:=1) (by simp[slC,slN,strs])).one
 have q4:=((cR 4 (by omega) (by omega)).cells (w:=1) (by simp[slC,slN,strs])).one
 have C5:J1S lo H (V 5) s.rules:=(cR 5 (by omega) (by omega)).cells (w:=1) (by simp[slC,slN,J1h])
 have q5:=J0p.one C5
 have q6:=((cR 6 (by omega) (by omega)).cells (w:=1) (by simp[slC,slN,J1h])).one
 have hE:(J0o l).length=l.length:=J39
 have hCE:J1S lo H (qS e (J0o l).length (J0o l).length) (J0o l):=J1S.row' hp'.ends hp'.le rfl
 have hrv:J0l H (qS r l.length unk) s.rows:=by rw[← hsl];exact J6F hp'.rows hp'.lr.2
 have hfx:∀ (f i:Nat),(H.fl f).get i=H.get i:=fun _ _=>rfl
 obtain⟨vS,H2,hS,hI,f2,n2,o2⟩:=JgX (n:=n) (h:=H) (v0:=.string nm) (vr:=qS r l.length unk) (vq:=V 2) (vv:=V 3) (vt:=V 4) (vu:=V 5) (vo:=V 6) (v7:=iv s.miss) (rows:=s.rows) (rules:=s.rules) ⟨rfl,q2,q3,q4,q6,rfl⟩ hrv hCE C5 hLR (by omega) (by omega)
 rw[JgL hLR] at hI
 have hmT:(m<H.next)=True:=by simp;omega
 rw[J4p]
 refine WK.flags (fs:=Jh2) (by kernel_rfl) ?_
 unfold Jh2
 iterate 10
  refine wcs hsn ?_
  simp only[rgC,seval,J04,J02,WKFC,rgL,rgK,J17,rgS,rgB,t5,hmT,J0z,J19,J1b,J0n,l8,c8,hS]
 refine JvR ?_
 have oA:∀ i,i<H.next→(H2.fl H.floor).get i=H.get i:=o2
 have nA:H.next≤(H2.fl H.floor).next:=n2
 have fA:(H2.fl H.floor).floor=H.floor:=rfl
 have hIA:J1S H.next (H2.fl H.floor) vS (J42 s.rows (J0o l) s.rules):=hI.mono (Nat.le_refl _) fun _ _ _=>rfl
 generalize H2.fl H.floor=A at *
 have l8A:ldN 8 0 (A.get m)=some (.agg #[.string nm,qS r l.length unk,V 2,V 3,V 4,V 5,V 6,iv s.miss]):=by rw[oA m hml.2];exact l8
 have c8A:ld1 8 (A.get m)=some (qS e (J0o l).length (J0o l).length):=by rw[oA m hml.2];exact c8
 have hvA:J0l A v l:=hv.mono nA oA
 have hrvA:J0l A (qS r l.length unk) s.rows:=hrv.mono nA oA
 have hCEA:J1S lo A (qS e (J0o l).length (J0o l).length) (J0o l):=hCE.mono nA fun i _ hi=>oA i hi
 have houtA:Out2 a A zPc 0 0:=hout.mono (oA a (by omega)) (oA (a+1) (by omega))
 have hmA:(m<A.next)=True:=by simp;omega
 have hSum:=(J6d (rows:=s.rows) (E:=J0o l) (rules:=s.rules))
 have hlenA:=fun h'=>hvA.len (h':=h')
 simp only[evC,seval,↓evP]
 refine WK.loop (fun i s'=>s'.T.get 9=vS∧s'.T.get 11=iv i∧i≤l.length∧(∀ t:Nat,t≤5→s'.T.get t=T.get t)∧s'.h=A∧∃ a0:Int,s'.T.get 10=iv a0∧0≤a0∧a0≤4611686018427387904∧J5r s.rows (J0o l) (J42 s.rows (J0o l) s.rules) (s.rows.drop i) i a0=J2K s.rows (J0o l) s.rules) l.length (by omega) ?_ ?_
 ·refine⟨by simp only[evC,↓reduceIte,Nat.reduceEqDiff,reduceCtorEq,↓evP,rpC,Nat.reduceAdd,Nat.reduceLT],by simp only[evC,↓reduceIte,Nat.reduceEqDiff,reduceCtorEq,↓evP,rpC,Nat.reduceAdd,Nat.reduceLT];rfl,by omega,fun t ht=>?_,rfl,0,by simp only[evC,↓reduceIte,Nat.reduceEqDiff,reduceCtorEq,↓evP,rpC,Nat.reduceAdd,Nat.reduceLT],by omega,by omega,rfl⟩
  rw[J1n (by omega),J1n (by omega),J1n (by omega),J1n (by omega),J1n (by omega),J1n (by omega),J1n (by omega),J1n (by omega),J1n (by omega),J1n (by omega),J1n (by omega),J1n (by omega)]
 ·rintro i ⟨T1,H1⟩ hi ⟨t9,t11,hil,hkeep,hh,a0,t10,ha0,haB,hcn⟩
  simp only at t9 t11 hkeep hh t10
  subst hh
  have u0:=(hkeep 0 (by omega)).trans t0
  have u2:=(hkeep 2 (by omega)).trans t2
  have u3:=(hkeep 3 (by omega)).trans t3
  have u5:=(hkeep 5 (by omega)).trans t5
  by_cases hlt:i<l.length
  ·have c1:decide ((i:Int)<(l.length:Int))=true:=by simp;omega
   obtain⟨y,hy⟩:∃ y,l[i]?=some y:=⟨_,List.getElem?_eq_getElem hlt⟩
   obtain⟨x,hx⟩:∃ x,s.rows[i]?=some x:=⟨_,List.getElem?_eq_getElem (by omega)⟩
   have hxy:x.kind=y.kind:=by
    obtain⟨y',hy',he⟩:=hin.same i x hx
    rw[hy] at hy'
    cases hy'
    rw[he]
   obtain⟨rid,p,e0,hid,l0,l1,l2,l3,l4,lr⟩:=hvA.row hy
   have hkx:=J68 ht hin x (List.mem_of_getElem? hx)
   rw[hxy] at hkx
   have hV:=J2Z (n:=n) (J1M (k:=12) (Jgw y.kind H1 hkx))
   have w1:IntKind.i64.wrap ((i:Int)+1)=((i+1:Nat):Int):=J0s (by omega) (by omega)
   have hdr:s.rows.drop i=x :: s.rows.drop (i+1):=by
    obtain⟨hl,rfl⟩:=List.getElem?_eq_some_iff.1 hx
    exact List.drop_eq_getElem_cons hl
   rw[hdr] at hcn
   change (if J0E x.kind=false then J5r s.rows (J0o l) (J42 s.rows (J0o l) s.rules) (s.rows.drop (i+1)) (i+1) a0 else if J2I a0 (cAt s.rows (J0o l) (J42 s.rows (J0o l) s.rules) (i+1))>16384 then (i:Int) else J5r s.rows (J0o l) (J42 s.rows (J0o l) s.rules) (s.rows.drop (i+1)) (i+1) (J2I a0 (cAt s.rows (J0o l) (J42 s.rows (J0o l) s.rules) (i+1))))=_ at hcn
   cases dv:J0E y.kind with
   | false=>
    rw[dv] at hV
    rw[if_pos (by rw[hxy];exact dv)] at hcn
    simp only[evC,seval,↓evP,Nat.reduceAdd,Nat.zero_add,u0,t9,t10,t11,hlenA,c1,e0,J0t,J0m,l0,hV,w1]
    refine⟨by omega,by omega,fun t ht=>?_,ha0,haB,hcn⟩
    repeat rw[if_neg (by omega)]
    exact hkeep t ht
   | true=>
    rw[dv] at hV
    rw[if_neg (by rw[hxy,dv];simp)] at hcn
    have hi1:=Jfw ht hin i x hx (by rw[hxy];exact dv)
    have hlaid:=JdU (n:=n) (h:=H1) (v0:=.string nm) (vr:=qS r l.length unk) (vq:=V 2) (vv:=V 3) (vt:=V 4) (vu:=V 5) (vo:=V 6) (v7:=iv s.miss) (row:=i+1) ⟨rfl,q2,q3,q4,q5,q6,rfl⟩ hrvA hCEA hIA hSum.1 hLy hi1 (by omega) (fun z hz h22=>by
     rw[hSum.2]
     exact hLy.calls z (List.mem_of_mem_drop (List.mem_of_mem_take hz)) h22)
    have hcA:=J7q (rows:=s.rows) (E:=J0o l) hSum.1 (i+1)
    have hpl:=J2Z (n:=n) (JaD H1 hcA ⟨ha0,haB⟩)
    have hpn:=J3O ha0 hcA.1 hcA.2
    simp only[evC,seval,↓evP,Nat.reduceAdd,Nat.zero_add,u0,t9,t10,t11,hlenA,c1,e0,J0t,J0m,l0,hV]
    refine WK.flags (fs:=Jh0) (by kernel_rfl) ?_
    unfold Jh0
    iterate 15
     refine wcs hsn ?_
     simp only[rgC,seval,J04,J02,WKFC,rgL,rgK,J17,rgS,rgB,u5,t9,t10,t11,hmA,J0z,J19,J1b,J0n,l8A,c8A,w1,hlaid,hpl]
    refine JvR ?_
    cases dg:decide (J2I a0 (cAt s.rows (J0o l) (J42 s.rows (J0o l) s.rules) (i+1))>16384) with
    | true=>
     rw[if_pos (by simpa using dg)] at hcn
     obtain⟨H',s1,s2,r1,r2,r3,r4⟩:=J4J houtA rfl (by omega) (by omega) (cs':=zPc) rfl rfl (e':=34) (p':=(i:Int))
     simp only[evC,seval,↓evP,u2,u3,t11,dg,J28,J4G,s1,s2]
     refine hbad (by rw[← hcn];omega) _ _ ?_ ?_ (by rw[← hcn];exact r1) (by omega) (by omega) fun i hi=>by rw[r4 i (by omega) (by omega),oA i (by omega)]
     ·simp only[evC,seval,↓evP,rpC,u2]
     ·simp only[evC,seval,↓evP,rpC,u3]
    | false=>
     rw[if_neg (by simpa using dg)] at hcn
     simp only[evC,seval,↓evP,t9,t11,dg,w1]
     refine⟨by omega,by omega,fun t ht=>?_,hpn.1,hpn.2,hcn⟩
     have hne:∀ d:Nat,5<d→¬ (d=t):=fun d hd=>by omega
     repeat rw[if_neg (hne _ (by decide))]
     exact hkeep t ht
  ·have c1:decide ((i:Int)<(l.length:Int))=false:=by simp;omega
   have hneg:¬ J2K s.rows (J0o l) s.rules≥0:=by
    rw[← hcn,List.drop_of_length_le (by omega)]
    show ¬ ((-1:Int)≥0)
    omega
   obtain⟨H',s1,s2,r1,r2,r3,r4⟩:=J4J houtA rfl (by omega) (by omega) (cs':=[.string nm,qS r l.length unk,V 2,V 3,V 4,V 5,V 6,iv s.miss]) rfl (by
    simp only[List.all_cons,List.all_nil,q2,q3,q4,q5,q6,J5J,J5K,Bool.and_self]
    rfl) (e':=0) (p':=0)
   simp only[evC,seval,↓evP,u0,u2,u3,u5,t11,hlenA,c1,J0z,J1b,l8A,J5n,s1,s2]
   refine hgood hneg _ _ _ ?_ ?_ rfl r1 (hpol.mono (by omega) fun i h1 h2=>by rw[r4 i (by omega) (by omega),oA i h2]) (by omega) (by omega) fun i hi=>by rw[r4 i (by omega) (by omega),oA i (by omega)]
   ·simp only[evC,seval,↓evP,rpC,u2]
   ·simp only[evC,seval,↓evP,rpC,u3]
end
section
variable {n N:Nat}
theorem Je8 {l:List RowN} {v:Value} {h:SHeap} (hfl:h.floor≤h.next) (hv:J0l h v l) (hL:l.length<900000000) (h64:∀ x∈l,x.kids≤9223372036854775807) (hn:l.length+100100<n) (hN:l.length+3<N) :
  ∃ v' h',J0L Tryz.prog (J0T n) N 61 [v] h=some (v',h')∧Told h l v' h':=by
 refine J65 (R:=Told h l) Tryz.func61 rfl (by simp[Tryz.f61]) ?_
 have hr:Tryz.f61.results.toList=[.cell 2 27,.cell 3 32]:=rfl
 generalize hKK:Kont.top (fun e s=>(e=SExit.normal∨e=SExit.ret)∧∃ vs,resS Tryz.prog s Tryz.f61.results.toList=some vs∧Told h l (resV vs) s.h)=K
 have fin:∀ (T':Tr) (H':SHeap) cs e p nm s,T'.get 2=qP h.next 0→T'.get 3=qP (h.next+1) 0→cs.length=8→Out2 h.next H' cs e p→J3x h.next H' (.agg cs.toArray) nm s→(resN l).1=(e,p)→outN l=(nm,s)→h.next≤H'.next→H'.floor=h.floor→(∀ i,i<h.next→H'.get i=h.get i)→K.ap Tryz.prog (J0T n) N .ret ⟨T',H'⟩:=by
  intro T' H' cs e p nm s t2 t3 hl ho hp he hout hnx hf hold
  have l30:=J9E ho.1 hl
  have l33:ldN 2 0 (H'.get (h.next+1))=some (J2k e p):=by rw[ho.2];rfl
  rw[← hKK]
  simp only[evC,seval,↓evP,hr,t2,t3,J1b,J2n,l30,l33]
  exact⟨_,by rw[he],by rw[hout];exact hp,hf,hnx,hold⟩
 have hz:∀ H',J3x h.next H' zPol ByteArray.empty sZ:=fun H'=>JcV h.next H'
 refine Jf3 (J1z n).2 hfl hv (fun H hv' hfl'=>Jfa (by omega) hL h64 hv' hfl') ?_ ?_
 ·intro hc T' H t2 t3 ho hnx hf hold
  refine fin T' H _ _ _ ByteArray.empty sZ t2 t3 rfl ho (hz H) ?_ ?_ (by omega) hf hold
  ·unfold resN
   rw[if_pos hc]
  ·unfold outN
   have:(resN l).1.1≠0:=by unfold resN;rw[if_pos hc];exact hc
   rw[if_pos this]
 ·intro hc T' H t0 t2 t3 ho hnx hf hold
  have ht:=J8d (J5d hc)
  have hvH:J0l H v l:=hv.mono (by omega) hold
  refine JeX (J1z n).2 ht hL (by omega) hvH t0 (fun H' hv' hf'=>JcD ht hv' (by omega) (by omega) hf') ?_
  intro T1 H1 m e r u0 u2 u3 u5 hp hnx1 hf1 hold1
  have ho1:Out2 h.next H1 zPc 0 0:=ho.mono (hold1 _ (by omega)) (hold1 _ (by omega))
  have hv1:=hvH.mono hnx1 hold1
  refine Jbm (a:=h.next) ht hL (by omega) hN u0 (u2.trans t2) (u3.trans t3) u5 hv1 (fun H' a b=>hvH.mono (by omega) fun i hi=>(a i hi).trans (hold1 i hi)) hp (by omega) (by omega) ho1 (by omega) ?_ ?_
  ·intro hgo T2 H2 w2 w3 ho2 hnx2 hf2 hold2
   refine fin T2 H2 _ _ _ ByteArray.empty sZ w2 w3 rfl ho2 (hz H2) ?_ ?_ (by omega) (by omega) fun i hi=>by rw[hold2 i hi,hold1 i (by omega),hold i hi]
   ·unfold resN
    rw[if_neg (by rw[hc];simp)]
    simp only
    rw[if_pos hgo]
   ·unfold outN
    have:(resN l).1.1≠0:=by
     unfold resN
     rw[if_neg (by rw[hc];simp)]
     simp only
     rw[if_pos hgo]
     exact hgo
    rw[if_pos this]
  ·intro hgo T2 H2 hk2 hp2 hin2 haf
   have ho2:Out2 h.next H2 zPc 0 0:=ho1.mono (haf.1 _ (by omega)) (haf.1 _ (by omega))
   have hf2:=haf.2.2
   have hn2:=haf.2.1
   have hLR:=JgY ht (by omega) hin2 (JdQ ht l.length 0 (s0N l) (by omega) (inv0 l) (JjD l) hgo)
   refine Jc7 (a:=h.next) (J1z n).2 ht hL (by omega) hN ((hk2 0 (by omega)).trans u0) ((hk2 2 (by omega)).trans (u2.trans t2)) ((hk2 3 (by omega)).trans (u3.trans t3)) ((hk2 5 (by omega)).trans u5) (hvH.mono (by omega) fun i hi=>(haf.1 i hi).trans (hold1 i hi)) hp2 hin2 hLR (by omega) (by omega) ho2 (by omega) ?_ ?_
   ·intro hlg T3 H3 x2 x3 ho3 hnx3 hf3 hold3
    have hres:(resN l).1=(34,J2K (goN (J0o l) l.length 0 (s0N l)).2.2.rows (J0o l) (goN (J0o l) l.length 0 (s0N l)).2.2.rules):=by
     unfold resN
     rw[if_neg (by rw[hc];simp)]
     simp only
     rw[if_neg (by rw[hgo];simp),if_pos hlg]
    refine fin T3 H3 _ _ _ ByteArray.empty sZ x2 x3 rfl ho3 (hz H3) hres ?_ (by omega) (by omega) fun i hi=>by rw[hold3 i hi,haf.1 i (by omega),hold1 i (by omega),hold i hi]
    unfold outN
    rw[if_pos (by rw[hres];simp)]
   ·intro hlg T3 H3 cs x2 x3 hcs ho3 hpol hnx3 hf3 hold3
    have hres:resN l=((0,0),(goN (J0o l) l.length 0 (s0N l)).2.2):=by
     unfold resN
     rw[if_neg (by rw[hc];simp)]
     simp only
     rw[if_neg (by rw[hgo];simp),if_neg hlg]
    refine fin T3 H3 cs _ _ (J52 l) (goN (J0o l) l.length 0 (s0N l)).2.2 x2 x3 hcs ho3 (hpol.weak (by omega)) (by rw[hres]) ?_ (by omega) (by omega) fun i hi=>by rw[hold3 i hi,haf.1 i (by omega),hold1 i (by omega),hold i hi]
    unfold outN
    rw[hres]
    simp
theorem Jij {l:List RowN} {v:Value} {h:SHeap} (hfl:h.floor≤h.next) (hv:J0l h v l) (hL:l.length<900000000) (h64:∀ x∈l,x.kids≤9223372036854775807) (hn:l.length+100110<n) :
  ∃ v' h',J0T n 61 [v] h=some (v',h')∧Told h l v' h':=by
 obtain⟨n,rfl⟩:∃ j,n=j+1:=⟨n-1,by omega⟩
 exact k_ex (J13 ⟨rfl,rfl,rfl⟩) (Je8 (n:=n) (N:=n) hfl hv hL h64 (by omega) (by omega)) fun v' h1 hf _ ht=>J92 hf ht
end
def Jud (x:Int):Int:=if x < -1073741824 then -1073741824 else if x>1073741824 then 1073741824 else x
def flN (a b:Int):Int:=if Int.tmod a b≠0∧(decide (Int.tmod a b<0) != decide (b<0))=true then Int.tdiv a b-1 else Int.tdiv a b
def divN (a b:Int):Int:=if b=0 then 0 else Jud (flN a b)
def I64 (x:Int):Prop:=-9223372036854775808≤x∧x<9223372036854775808
theorem Juo (x:Int):-1073741824≤Jud x∧Jud x≤1073741824:=by unfold Jud;(repeat' split) <;> omega
theorem Juh {x:Int} (h:-1073741824≤x∧x≤1073741824):Jud x=x:=by unfold Jud;(repeat' split) <;> omega
theorem Juj (a b:Int) (hb:b≠0):∃ p,p=b*a.tdiv b∧a=p+a.tmod b∧(0≤a→0≤a.tmod b)∧(a≤0→a.tmod b≤0)∧(a.tmod b).natAbs<b.natAbs∧(a.tdiv b).natAbs≤a.natAbs∧(2≤b.natAbs→2*(a.tdiv b).natAbs≤a.natAbs)∧(b=1→a.tdiv b=a)∧(b=-1→a.tdiv b=-a)∧(a.tmod b).natAbs≤a.natAbs:=by
 refine⟨b*a.tdiv b,rfl,?_,?_,?_,?_,?_,?_,?_,?_,?_⟩
 ·have:=Int.tmod_add_mul_tdiv a b
  omega
 ·exact fun h=>Int.tmod_nonneg b h
 ·intro h
  have h1:=Int.tmod_nonneg (a:=-a) b (by omega)
  rw[Int.neg_tmod] at h1
  omega
 ·rw[Int.natAbs_tmod]
  exact Nat.mod_lt _ (by omega)
 ·rw[Int.natAbs_tdiv]
  exact Nat.div_le_self _ _
 ·intro h
  rw[Int.natAbs_tdiv]
  have h1:a.natAbs/b.natAbs≤a.natAbs/2:=Nat.div_le_div_left h (by omega)
  have h2:Nat.div a.natAbs b.natAbs=a.natAbs/b.natAbs:=rfl
  omega
 ·rintro rfl;exact Int.tdiv_one a
 ·rintro rfl;rw[Int.tdiv_neg,Int.tdiv_one]
 ·rw[Int.natAbs_tmod];exact Nat.mod_le _ _
section
variable {call:J0r} {n:Nat} {h:SHeap}
theorem JuP {x:Int}:J0L Tryz.prog call n 25 [.int .i64 x] h=some (.int .i64 (Jud x),h):=by
 refine J1m Tryz.func25 rfl (by simp[Tryz.f25]) ?_
 have hr:Tryz.f25.results.toList=[.tmp 2]:=rfl
 simp only[evC,seval,hr]
 unfold Jud
 (repeat' split) <;> omega
theorem JuD {x:Int}:J0L Tryz.prog call n 106 [.int .i64 x] h=some (.int .i64 (Jud x),h):=by
 refine J1m Tryz.func106 rfl (by simp[Tryz.f106]) ?_
 have hr:Tryz.f106.results.toList=[.tmp 2]:=rfl
 simp only[evC,seval,hr]
 unfold Jud
 (repeat' split) <;> omega
theorem Juz {a b:Int} (ha:I64 a) (hb:I64 b) (h0:b≠0) (hx:¬ (b=-1∧a < -1073741824)):I64 (Int.tdiv a b)∧I64 (Int.tmod a b)∧(Int.tmod a b≠0→I64 (Int.tdiv a b-1)):=by
 obtain⟨p,hp,h1,h2,h3,h4,h5,h6,h7,h8,h9⟩:=Juj a b h0
 unfold I64 at *
 generalize Int.tdiv a b=q at *
 generalize Int.tmod a b=r at *
 refine⟨?_,?_,?_⟩
 ·by_cases e:b=1
  ·have:=h7 e;omega
  ·by_cases e':b=-1
   ·have:=h8 e';omega
   ·have:=h6 (by omega);omega
 ·omega
 ·intro hr
  have:=h6 (by omega)
  omega
theorem Jv3 {a b:Int}:(Int.tmod a b=0→flN a b=Int.tdiv a b)∧(Int.tmod a b≠0→flN a b=if (decide (Int.tmod a b<0) != decide (b<0))=true then Int.tdiv a b-1 else Int.tdiv a b):=by
 unfold flN
 exact⟨fun h=>by rw[if_neg (fun hh=>hh.1 h)],fun h=>by simp only[h,ne_eq,not_false_eq_true,true_and]⟩
theorem Jva (hc:∀ x h,call 25 [.int .i64 x] h=some (.int .i64 (Jud x),h)) {a b:Int} (ha:I64 a) (hb:I64 b):J0L Tryz.prog call n 24 [.int .i64 a,.int .i64 b] h=some (.int .i64 (divN a b),h):=by
 refine J1m Tryz.func24 rfl (by simp[Tryz.f24]) ?_
 have hr:Tryz.f24.results.toList=[.tmp 4]:=rfl
 by_cases h0:b=0
 ·subst h0
  simp only[evC,seval,↓evP,hr]
  rfl
 have e0:(b==0)=false:=by simpa using h0
 have hD:divN a b=Jud (flN a b):=by unfold divN;rw[if_neg h0]
 by_cases hx:b=-1∧a < -1073741824
 ·obtain⟨rfl,hx⟩:=hx
  have ex:decide (a < -1073741824)=true:=by simpa using hx
  simp only[evC,seval,↓evP,hr,e0,ex]
  rw[hD]
  obtain⟨p,hp,h1,h2,h3,h4,h5,h6,h7,h8,h9⟩:=Juj a (-1) h0
  have:=h8 rfl
  unfold flN
  rw[if_neg (by omega),this]
  unfold Jud
  rw[if_neg (by omega),if_pos (by omega)]
 ·obtain⟨r1,r2,r3⟩:=Juz ha hb h0 hx
  obtain⟨f1,f2⟩:=Jv3 (a:=a) (b:=b)
  rw[hD]
  by_cases hm:Int.tmod a b=0
  ·have em:(Int.tmod a b != 0)=false:=by simpa using hm
   rw[f1 hm]
   by_cases e1:b=-1
   ·have ex:decide (a < -1073741824)=false:=by simp;omega
    subst e1
    simp only[evC,seval,↓evP,hr,e0,ex]
    refine WK.quiet (by kernel_rfl) ?_
    simp only[evC,seval,↓evP,hr,JjO h0,Jjy h0,em,hc]
    rw[J0s r1.1 r1.2]
   ·have ex:(b == -1)=false:=by simpa using e1
    simp only[evC,seval,↓evP,hr,e0,ex]
    refine WK.quiet (by kernel_rfl) ?_
    simp only[evC,seval,↓evP,hr,JjO h0,Jjy h0,em,hc]
    rw[J0s r1.1 r1.2]
  ·have em:(Int.tmod a b != 0)=true:=by simpa using hm
   rw[f2 hm]
   have r4:=r3 hm
   have e1:b≠-1:=by
    rintro rfl
    obtain⟨p,hp,h1,h2,h3,h4,h5,h6,h7,h8,h9⟩:=Juj a (-1) h0
    omega
   have ex:(b == -1)=false:=by simpa using e1
   simp only[evC,seval,↓evP,hr,e0,ex]
   refine WK.quiet (by kernel_rfl) ?_
   cases hs:(decide (Int.tmod a b<0) != decide (b<0)) with
   | true=>
    simp only[evC,seval,↓evP,hr,JjO h0,Jjy h0,em,hc,Jf7 Tryz.underlying4,hs]
    rw[J0s r1.1 r1.2,J0s r4.1 r4.2]
   | false=>
    simp only[evC,seval,↓evP,hr,JjO h0,Jjy h0,em,hc,Jf7 Tryz.underlying4,hs]
    rw[J0s r1.1 r1.2]
theorem JuV (hc:∀ x h,call 106 [.int .i64 x] h=some (.int .i64 (Jud x),h)) {a b:Int} (ha:I64 a) (hb:I64 b):J0L Tryz.prog call n 107 [.int .i64 a,.int .i64 b] h=some (.int .i64 (divN a b),h):=by
 refine J1m Tryz.func107 rfl (by simp[Tryz.f107]) ?_
 have hr:Tryz.f107.results.toList=[.tmp 4]:=rfl
 by_cases h0:b=0
 ·subst h0
  simp only[evC,seval,↓evP,hr]
  rfl
 have e0:(b==0)=false:=by simpa using h0
 have hD:divN a b=Jud (flN a b):=by unfold divN;rw[if_neg h0]
 rw[hD]
 by_cases e1:b=-1
 ·subst e1
  obtain⟨p,hp,h1,h2,h3,h4,h5,h6,h7,h8,h9⟩:=Juj a (-1) h0
  have hq:=h8 rfl
  have hf:flN a (-1)=-a:=by rw[Jv3.1 (by omega),hq]
  rw[hf]
  by_cases hx:a=-9223372036854775808
  ·subst hx
   simp only[evC,seval,↓evP,hr,e0]
   rfl
  ·have ex:(a == -9223372036854775808)=false:=by simpa using hx
   simp only[evC,seval,↓evP,hr,e0,ex,hc]
   unfold I64 at ha
   rw[J0s (by omega) (by omega),Int.zero_sub]
 ·have ex:(b == -1)=false:=by simpa using e1
  obtain⟨r1,r2,r3⟩:=Juz ha hb h0 (fun h=>e1 h.1)
  obtain⟨p,hp,h1,h2,h3,h4,h5,h6,h7,h8,h9⟩:=Juj a b h0
  obtain⟨f1,f2⟩:=Jv3 (a:=a) (b:=b)
  have hqb:IntKind.i64.wrap (Int.tdiv a b)=Int.tdiv a b:=J0s r1.1 r1.2
  have hp2:Int.tdiv a b*b=p:=by rw[hp,Int.mul_comm]
  have hpw:IntKind.i64.wrap p=p:=by
   unfold I64 at ha
   exact J0s (by omega) (by omega)
  have hrw:IntKind.i64.wrap (a-p)=Int.tmod a b:=by
   have e:a-p=Int.tmod a b:=by omega
   rw[e,J0s r2.1 r2.2]
  by_cases hm:Int.tmod a b=0
  ·have em:(Int.tmod a b != 0)=false:=by simpa using hm
   rw[f1 hm]
   simp only[evC,seval,↓evP,hr,JjO h0,e0,ex,hc,hqb,hp2,hpw,hrw,em]
  ·have em:(Int.tmod a b != 0)=true:=by simpa using hm
   rw[f2 hm]
   have r4:=r3 hm
   cases hs:(decide (Int.tmod a b<0) != decide (b<0)) with
   | true=>
    simp only[evC,seval,↓evP,hr,JjO h0,e0,ex,hc,hqb,hp2,hpw,hrw,em,Jf7 Tryz.underlying4,hs]
    rw[J0s r4.1 r4.2]
   | false=>
    simp only[evC,seval,↓evP,hr,JjO h0,e0,ex,hc,hqb,hp2,hpw,hrw,em,Jf7 Tryz.underlying4,hs]
end
section
variable {n:Nat} {h:SHeap}
theorem JuG {x:Int} (hn:0<n):J0T n 25 [.int .i64 x] h=some (.int .i64 (Jud x),h):=by
 obtain⟨n,rfl⟩:∃ j,n=j+1:=⟨n-1,by omega⟩
 exact J6r (J13 ⟨rfl,rfl,rfl⟩) rfl JuP
theorem JuL {x:Int} (hn:0<n):J0T n 106 [.int .i64 x] h=some (.int .i64 (Jud x),h):=by
 obtain⟨n,rfl⟩:∃ j,n=j+1:=⟨n-1,by omega⟩
 exact J6r (J13 ⟨rfl,rfl,rfl⟩) rfl JuD
theorem JvH {a b:Int} (ha:I64 a) (hb:I64 b) (hn:1<n):J0T n 24 [.int .i64 a,.int .i64 b] h=some (.int .i64 (divN a b),h):=by
 obtain⟨n,rfl⟩:∃ j,n=j+1:=⟨n-1,by omega⟩
 exact J6r (J13 ⟨rfl,rfl,rfl⟩) rfl (Jva (fun _ _=>JuG (by omega)) ha hb)
theorem JvB {a b:Int} (ha:I64 a) (hb:I64 b) (hn:1<n):J0T n 107 [.int .i64 a,.int .i64 b] h=some (.int .i64 (divN a b),h):=by
 obtain⟨n,rfl⟩:∃ j,n=j+1:=⟨n-1,by omega⟩
 exact J6r (J13 ⟨rfl,rfl,rfl⟩) rfl (JuV (fun _ _=>JuL (by omega)) ha hb)
end
end Go.Proofs.YtdejoodfeljmkaaGreatDoor
