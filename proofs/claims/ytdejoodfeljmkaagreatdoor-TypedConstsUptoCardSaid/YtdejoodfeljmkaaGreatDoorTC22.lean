/- Part 22 of what the claim leans on: 3 texts laid one behind another. -/
import Derived.Test.YtdejoodfeljmkaaGreatDoorTC21
namespace Go.Proofs.YtdejoodfeljmkaaGreatDoor
open Go Go.Sx
set_option maxRecDepth 100000
set_option linter.unusedSimpArgs false
set_option linter.unusedVariables false
set_option maxHeartbeats 64000000
theorem Jsc {Q:List (ByteArray × Bool)} {lo:Nat} {h:SHeap} {v:Value} (hc:J0p lo h v Q.length 2 (J3S Q)) {m:Int} (h0:0≤m) (h1:m<Q.length):∃ id p,J0R Tryz.prog 23 v (iv m)=some (qP id p)∧id<h.next∧ld1 (p+1) (h.get id)=some (.bool (Jsl Q m)):=by
 obtain⟨q,hq⟩:∃ q,Q[m.toNat]?=some q:=⟨_,List.getElem?_eq_getElem (by omega)⟩
 obtain⟨id,p,a,b,c⟩:=Jqc hq hc
 rw[show ((m.toNat:Nat):Int)=m by omega] at a
 refine⟨id,p,a,b,?_⟩
 rw[c]
 unfold Jsl
 rw[hq]
 rfl
section
variable {Q:List (ByteArray × Bool)} {x up:RowN}
theorem Jt8 (h:x.kind=8∨x.kind=17∨x.kind=20):Jse Q x up=Jsl Q x.n:=by
 unfold Jse
 rw[if_pos (by rcases h with h | h | h <;> rw[h] <;> rfl)]
theorem Jty (h:x.kind=9∨x.kind=21):Jse Q x up = !(Jsl Q x.n):=by
 unfold Jse
 rw[if_neg (by rcases h with h | h <;> rw[h] <;> decide),if_pos (by rcases h with h | h <;> rw[h] <;> rfl)]
theorem JtU (h:x.kind=24) (h2:up.kind=20):Jse Q x up = !(Jsl Q x.n):=by
 unfold Jse
 rw[if_neg (by rw[h];decide),if_neg (by rw[h];decide),if_pos h,if_pos h2]
theorem JtZ (h:x.kind=24) (h2:up.kind≠20):Jse Q x up=(Jsl Q x.n != Jsl Q up.n):=by
 unfold Jse
 rw[if_neg (by rw[h];decide),if_neg (by rw[h];decide),if_pos h,if_neg h2]
theorem Ju8 (h:x.kind≠8∧x.kind≠17∧x.kind≠20∧x.kind≠9∧x.kind≠21∧x.kind≠24):Jse Q x up=false:=by
 obtain⟨h1,h2,h3,h4,h5,h6⟩:=h
 unfold Jse
 rw[if_neg (by simp[h1,h2,h3]),if_neg (by simp[h4,h5]),if_neg h6]
end
theorem Jsj {t:TypeId} {k:Nat} (ht:szOf Tryz.prog t=some k) {H:SHeap} {vs zs:List Value} (hz:zs.length=k) (hl:vs.length=k) (ho:vs.all one=true) (hf:H.floor≤H.next) :
  ∃ H',J0K Tryz.prog (H.push (.row zs t false false)) t (qP H.next 0) (.agg vs.toArray)=some H'∧H'.get H.next=.row vs t false false∧H'.next=H.next+1∧H'.floor=H.floor∧∀ i,i<H.next→H'.get i=H.get i:=
 ⟨_,stW ht (J0h (h:=H)) hz hl ho hf,J0b rfl (by show H.next<H.next+1;omega),rfl,rfl,fun i hi=>by rw[J05 (by show H.next<H.next+1;omega) (by omega),J06 hi]⟩
def Jtq:List (Bool × Bool × List Operand):=[fa1,fa1,fa3 [.tmp 44],fa3 [.tmp 44],fa1,fa1,fa1,fa3 [.tmp 44,.tmp 46,.tmp 49],fa3 [.tmp 44,.tmp 46,.tmp 49],fa3 [.tmp 44,.tmp 46,.tmp 49,.tmp 51],fa3 [.tmp 44,.tmp 46,.tmp 49,.tmp 51],fa3 [.tmp 44,.tmp 46,.tmp 49],fa3 [.tmp 44,.tmp 46,.tmp 49],fa3 [.tmp 44,.tmp 46,.tmp 49],fa0,fa0]
section
variable {n N:Nat} {h:SHeap}
theorem JsS {nm:ByteArray} {s:StN} {pv:Value} {lo:Nat} {x up:RowN} (hp:J3x lo h pv nm s) (hx:[8,17,20,9,21,24].contains x.kind=true→0≤x.n∧x.n<s.queues.length) (hu:x.kind=24→up.kind≠20→0≤up.n∧up.n<s.queues.length) :
  ∃ h',J0L Tryz.prog (J0T n) N 30 [pv,rowV x,rowV up] h=some (.bool (Jse s.queues x up),h')∧∀ i,i<h.next→h'.get i=h.get i:=by
 obtain⟨vr,vq,vv,vt,vu,vo,rfl,p1,p2,p3,p4,p5,p6⟩:=id hp
 have hsn:=(J1z n).2
 refine J1N (R:=fun h'=>∀ i,i<h.next→h'.get i=h.get i) Tryz.func30 rfl (by simp[Tryz.f30]) ?_
 have hr:Tryz.f30.results.toList=[.tmp 6]:=rfl
 have ca:(Value.agg #[.string nm,vr,vq,vv,vt,vu,vo,iv s.miss]).cells.toList=[.string nm,vr,vq,vv,vt,vu,vo,iv s.miss]:=rfl
 have oa:=all8 (nm:=nm) p1 p2 p3 p4 p5 p6
 have cx:(rowV x).cells.toList=J0e x:=rfl
 have ox:(J0e x).all one=true:=rfl
 have cu:(rowV up).cells.toList=J0e up:=rfl
 have ou:(J0e up).all one=true:=rfl
 have g0:∀ (a b c:SObj),let A:=((h.push a).push b).push c
   A.get h.next=a∧A.get (h.next+1)=b∧A.get (h.next+2)=c∧A.next=h.next+3∧A.floor=h.floor∧∀ i,i<h.next→A.get i=h.get i:=fun a b c=>
  ⟨by rw[J06 (by show h.next<h.next+2;omega)];exact J4c,by rw[J06 (by show h.next+1<h.next+2;omega)];exact J48,J0h (h:=(h.push a).push b),rfl,rfl,fun i hi=>by rw[J06 (by show i<h.next+2;omega),J06 (by show i<h.next+1;omega),J06 hi]⟩
 obtain⟨gA,gX,gU,nG,fG,gO⟩:=g0 (.row [.string nm,vr,vq,vv,vt,vu,vo,iv s.miss] 27 false false) (.row (J0e x) 60 false false) (.row (J0e up) 60 false false)
 simp only[evC,seval,↓evP,rpD,J0X,J2t,ca,oa,cx,ox,cu,ou,sz30,sz46]
 generalize ((h.push (.row [.string nm,vr,vq,vv,vt,vu,vo,iv s.miss] 27 false false)).push (.row (J0e x) 60 false false)).push (.row (J0e up) 60 false false)=G at *
 have nn:h.next+1+1=h.next+2:=rfl
 obtain⟨a0,a1,a2,a3,a4,a5,a6,a7⟩:=box8 gA
 have x0:ld1 0 (G.get (h.next+1))=some (iv x.kind):=by rw[gX];rfl
 have x3:ld1 3 (G.get (h.next+1))=some (iv x.n):=by rw[gX];rfl
 have u0:ld1 0 (G.get (h.next+2))=some (iv up.kind):=by rw[gU];rfl
 have u3:ld1 3 (G.get (h.next+2))=some (iv up.n):=by rw[gU];rfl
 have pq:J0p lo G vq s.queues.length 2 (J3S s.queues):=p2.mono (by omega) fun i _ hi=>gO i hi
 cases c8:(x.kind==8) with
 | true=>
  have k:=beq_iff_eq.1 c8
  obtain⟨h1,h2⟩:=hx (by rw[k];rfl)
  obtain⟨id,p,e1,e2,e3⟩:=Jsc pq h1 h2
  rw[Jt8 (.inl k)]
  simp only[evC,seval,↓evP,hr,nn,Nat.zero_add,J0t,J0O,J0m,J0B,J0S,JiN,J1V,a2,x0,x3,u0,u3,c8,e1,e3]
  exact gO
 | false=>
 cases c17:(x.kind==17) with
 | true=>
  have k:=beq_iff_eq.1 c17
  obtain⟨h1,h2⟩:=hx (by rw[k];rfl)
  obtain⟨id,p,e1,e2,e3⟩:=Jsc pq h1 h2
  rw[Jt8 (.inr (.inl k))]
  simp only[evC,seval,↓evP,hr,nn,Nat.zero_add,J0t,J0O,J0m,J0B,J0S,JiN,J1V,a2,x0,x3,u0,u3,c8,c17,e1,e3]
  exact gO
 | false=>
 cases c20:(x.kind==20) with
 | true=>
  have k:=beq_iff_eq.1 c20
  obtain⟨h1,h2⟩:=hx (by rw[k];rfl)
  obtain⟨id,p,e1,e2,e3⟩:=Jsc pq h1 h2
  rw[Jt8 (.inr (.inr k))]
  simp only[evC,seval,↓evP,hr,nn,Nat.zero_add,J0t,J0O,J0m,J0B,J0S,JiN,J1V,a2,x0,x3,u0,u3,c8,c17,c20,e1,e3]
  exact gO
 | false=>
 cases c9:(x.kind==9) with
 | true=>
  have k:=beq_iff_eq.1 c9
  obtain⟨h1,h2⟩:=hx (by rw[k];rfl)
  obtain⟨id,p,e1,e2,e3⟩:=Jsc pq h1 h2
  rw[Jty (.inl k)]
  simp only[evC,seval,↓evP,hr,nn,Nat.zero_add,J0t,J0O,J0m,J0B,J0S,JiN,J1V,a2,x0,x3,u0,u3,c8,c17,c20,c9,e1,e3]
  exact gO
 | false=>
 cases c21:(x.kind==21) with
 | true=>
  have k:=beq_iff_eq.1 c21
  obtain⟨h1,h2⟩:=hx (by rw[k];rfl)
  obtain⟨id,p,e1,e2,e3⟩:=Jsc pq h1 h2
  rw[Jty (.inr k)]
  simp only[evC,seval,↓evP,hr,nn,Nat.zero_add,J0t,J0O,J0m,J0B,J0S,JiN,J1V,a2,x0,x3,u0,u3,c8,c17,c20,c9,c21,e1,e3]
  exact gO
 | false=>
 cases c24:(x.kind==24) with
 | false=>
  simp only[beq_eq_false_iff_ne] at c8 c17 c20 c9 c21 c24
  rw[Ju8 ⟨c8,c17,c20,c9,c21,c24⟩]
  rw[← beq_eq_false_iff_ne] at c8 c17 c20 c9 c21 c24
  simp only[evC,seval,↓evP,hr,nn,Nat.zero_add,J0t,J0O,J0m,J0B,J0S,JiN,J1V,a2,x0,x3,u0,u3,c8,c17,c20,c9,c21,c24]
  exact gO
 | true=>
 have k:=beq_iff_eq.1 c24
 obtain⟨h1,h2⟩:=hx (by rw[k];rfl)
 obtain⟨id,p,e1,e2,e3⟩:=Jsc pq h1 h2
 cases cu20:(up.kind==20) with
 | true=>
  rw[JtU k (beq_iff_eq.1 cu20)]
  simp only[evC,seval,↓evP,hr,nn,Nat.zero_add,J0t,J0O,J0m,J0B,J0S,JiN,J1V,a2,x0,x3,u0,u3,c8,c17,c20,c9,c21,c24,cu20,e1,e3]
  exact gO
 | false=>
 have ku:up.kind≠20:=by simpa using cu20
 obtain⟨h3,h4⟩:=hu k ku
 obtain⟨id2,p2',e4,e5,e6⟩:=Jsc pq h3 h4
 rw[JtZ k ku]
 simp only[evC,seval,↓evP,nn,Nat.zero_add,J0t,J0O,J0m,J0B,J0S,JiN,J1V,a2,x0,x3,u0,u3,c8,c17,c20,c9,c21,c24,cu20]
 refine WK.flags (fs:=Jtq) (by kernel_rfl) ?_
 unfold Jtq
 iterate 16
  refine wcs hsn ?_
  simp only[rgC,seval,J04,J02,WKFC,rgL,rgK,J17,rgS,rgB,JcC,J0B,J0S,a2,J0O,J0m,x3,u3,e1,e3,e4,e6,JiN,J1V,Ji4,JiM,J1g,J0J,Jk2,J6L]
 refine JvR ?_
 simp only[evC,seval,↓evP,hr]
 exact gO
theorem JtC {nm:ByteArray} {s:StN} {pv:Value} {lo:Nat} {x up:RowN} (hp:J3x lo h pv nm s) (hx:[8,17,20,9,21,24].contains x.kind=true→0≤x.n∧x.n<s.queues.length) (hu:x.kind=24→up.kind≠20→0≤up.n∧up.n<s.queues.length) (hn:0<n):J0T n 30 [pv,rowV x,rowV up] h=some (.bool (Jse s.queues x up),h):=by
 obtain⟨n,rfl⟩:∃ j,n=j+1:=⟨n-1,by omega⟩
 exact J4r (J13 ⟨rfl,rfl,rfl⟩) rfl (JsS (n:=n) (N:=n) hp hx hu)
end
def Jtu:List (Bool × Bool × List Operand):=[fa1,fa1,fa3 [.tmp 55],fa3 [.tmp 55],fa1,fa1,fa1,fa3 [.tmp 55,.tmp 57,.tmp 60],fa3 [.tmp 55,.tmp 57,.tmp 60],fa3 [.tmp 55,.tmp 57,.tmp 60,.tmp 62],fa3 [.tmp 55,.tmp 57,.tmp 60,.tmp 62],fa3 [.tmp 55,.tmp 57,.tmp 60],fa3 [.tmp 55,.tmp 57,.tmp 60],fa3 [.tmp 55,.tmp 57,.tmp 60],fa0,fa0]
section
variable {n N:Nat} {h:SHeap}
theorem JsV {nm:ByteArray} {s:StN} {pv:Value} {lo:Nat} {x up:RowN} (hp:J3x lo h pv nm s) {a:Nat} (hxa:s.rows[a]?=some x) (hua:x.kind=24→s.rows[a-1]?=some up∧0<a) (hla:s.rows.length<900000000) (hx:[8,17,20,9,21,24].contains x.kind=true→0≤x.n∧x.n<s.queues.length) (hu:x.kind=24→up.kind≠20→0≤up.n∧up.n<s.queues.length) (hfl:h.floor≤h.next) :
  ∃ h',J0L Tryz.prog (J0T n) N 38 [pv,iv (a:Int)] h=some (.bool (Jse s.queues x up),h')∧∀ i,i<h.next→h'.get i=h.get i:=by
 obtain⟨vr,vq,vv,vt,vu,vo,rfl,p1,p2,p3,p4,p5,p6⟩:=id hp
 have hsn:=(J1z n).2
 refine J1N (R:=fun h'=>∀ i,i<h.next→h'.get i=h.get i) Tryz.func38 rfl (by simp[Tryz.f38]) ?_
 have hr:Tryz.f38.results.toList=[.tmp 4]:=rfl
 have ca:(Value.agg #[.string nm,vr,vq,vv,vt,vu,vo,iv s.miss]).cells.toList=[.string nm,vr,vq,vv,vt,vu,vo,iv s.miss]:=rfl
 have oa:=all8 (nm:=nm) p1 p2 p3 p4 p5 p6
 have g0:∀ (a:SObj),(h.push a).get h.next=a∧(h.push a).next=h.next+1∧(h.push a).floor=h.floor∧∀ i,i<h.next→(h.push a).get i=h.get i:=fun a=>⟨J0h,rfl,rfl,fun i hi=>J06 hi⟩
 obtain⟨gA0,nG0,fG0,gO0⟩:=g0 (.row [.string nm,vr,vq,vv,vt,vu,vo,iv s.miss] 27 false false)
 simp only[evC,seval,↓evP,rpD,J0X,J2t,ca,oa,sz30]
 generalize h.push (.row [.string nm,vr,vq,vv,vt,vu,vo,iv s.miss] 27 false false)=B at *
 have hvB:J0l B vr s.rows:=p1.1.mono (by omega) gO0
 obtain⟨ia,pa,ea,ha,_,_,_,_,_,la⟩:=hvB.row hxa
 obtain⟨G,stG,gX,nG,fG,oG⟩:=Jsj (t:=60) sz46 (H:=B) (zs:=J0e zRow) (vs:=J0e x) rfl rfl rfl (by omega)
 have stG':J0K Tryz.prog (B.push (.row (J0e zRow) 60 false false)) 60 (qP B.next 0) (rowV x)=some G:=stG
 obtain⟨b0,b1,b2,b3,b4,b5,b6,b7⟩:=box8 gA0
 have gA:G.get h.next=.row [.string nm,vr,vq,vv,vt,vu,vo,iv s.miss] 27 false false:=by rw[oG _ (by omega)];exact gA0
 obtain⟨a0,a1,a2,a3,a4,a5,a6,a7⟩:=box8 gA
 have x0:ld1 0 (G.get B.next)=some (iv x.kind):=by rw[gX];rfl
 have x3:ld1 3 (G.get B.next)=some (iv x.n):=by rw[gX];rfl
 have gO:∀ i,i<h.next→G.get i=h.get i:=fun i hi=>by rw[oG i (by omega)];exact gO0 i hi
 have pq:J0p lo G vq s.queues.length 2 (J3S s.queues):=p2.mono (by omega) fun i _ hi=>gO i hi
 have zr:(rowV zRow).cells.toList=J0e zRow:=rfl
 have fz:flat (rowV zRow)=true:=rfl
 simp only[evC,seval,↓evP,Nat.zero_add,J0y,J0F,b1,ea,J0u,la,J40,fz,zr,stG']
 cases c8:(x.kind==8) with
 | true=>
  have k:=beq_iff_eq.1 c8
  obtain⟨h1,h2⟩:=hx (by rw[k];rfl)
  obtain⟨id,p,e1,e2,e3⟩:=Jsc pq h1 h2
  rw[Jt8 (.inl k)]
  simp only[evC,seval,↓evP,hr,Nat.zero_add,J0t,J0O,J0m,J0B,J0S,JiN,J1V,a2,x0,x3,c8,e1,e3]
  exact gO
 | false=>
 cases c17:(x.kind==17) with
 | true=>
  have k:=beq_iff_eq.1 c17
  obtain⟨h1,h2⟩:=hx (by rw[k];rfl)
  obtain⟨id,p,e1,e2,e3⟩:=Jsc pq h1 h2
  rw[Jt8 (.inr (.inl k))]
  simp only[evC,seval,↓evP,hr,Nat.zero_add,J0t,J0O,J0m,J0B,J0S,JiN,J1V,a2,x0,x3,c8,c17,e1,e3]
  exact gO
 | false=>
 cases c20:(x.kind==20) with
 | true=>
  have k:=beq_iff_eq.1 c20
  obtain⟨h1,h2⟩:=hx (by rw[k];rfl)
  obtain⟨id,p,e1,e2,e3⟩:=Jsc pq h1 h2
  rw[Jt8 (.inr (.inr k))]
  simp only[evC,seval,↓evP,hr,Nat.zero_add,J0t,J0O,J0m,J0B,J0S,JiN,J1V,a2,x0,x3,c8,c17,c20,e1,e3]
  exact gO
 | false=>
 cases c9:(x.kind==9) with
 | true=>
  have k:=beq_iff_eq.1 c9
  obtain⟨h1,h2⟩:=hx (by rw[k];rfl)
  obtain⟨id,p,e1,e2,e3⟩:=Jsc pq h1 h2
  rw[Jty (.inl k)]
  simp only[evC,seval,↓evP,hr,Nat.zero_add,J0t,J0O,J0m,J0B,J0S,JiN,J1V,a2,x0,x3,c8,c17,c20,c9,e1,e3]
  exact gO
 | false=>
 cases c21:(x.kind==21) with
 | true=>
  have k:=beq_iff_eq.1 c21
  obtain⟨h1,h2⟩:=hx (by rw[k];rfl)
  obtain⟨id,p,e1,e2,e3⟩:=Jsc pq h1 h2
  rw[Jty (.inr k)]
  simp only[evC,seval,↓evP,hr,Nat.zero_add,J0t,J0O,J0m,J0B,J0S,JiN,J1V,a2,x0,x3,c8,c17,c20,c9,c21,e1,e3]
  exact gO
 | false=>
 cases c24:(x.kind==24) with
 | false=>
  simp only[beq_eq_false_iff_ne] at c8 c17 c20 c9 c21 c24
  rw[Ju8 ⟨c8,c17,c20,c9,c21,c24⟩]
  rw[← beq_eq_false_iff_ne] at c8 c17 c20 c9 c21 c24
  simp only[evC,seval,↓evP,hr,Nat.zero_add,J0t,J0O,J0m,J0B,J0S,JiN,J1V,a2,x0,x3,c8,c17,c20,c9,c21,c24]
  exact gO
 | true=>
 have k:=beq_iff_eq.1 c24
 obtain⟨h1,h2⟩:=hx (by rw[k];rfl)
 obtain⟨hua1,hua2⟩:=hua k
 have al:=(List.getElem?_eq_some_iff.1 hua1).1
 have hvG:J0l G vr s.rows:=p1.1.mono (by omega) gO
 obtain⟨iu,pu,eu,_,_,_,_,_,_,lu⟩:=hvG.row hua1
 have wa:IntKind.i64.wrap ((a:Int)-1)=((a-1:Nat):Int):=(J0s (by omega) (by omega)).trans (by omega)
 obtain⟨K,stK,gU,nK,fK,oK⟩:=Jsj (t:=60) sz46 (H:=G) (zs:=J0e zRow) (vs:=J0e up) rfl rfl rfl (by omega)
 have stK':J0K Tryz.prog (G.push (.row (J0e zRow) 60 false false)) 60 (qP G.next 0) (rowV up)=some K:=stK
 have u0:ld1 0 (K.get G.next)=some (iv up.kind):=by rw[gU];rfl
 have u3:ld1 3 (K.get G.next)=some (iv up.n):=by rw[gU];rfl
 have kO:∀ i,i<h.next→K.get i=h.get i:=fun i hi=>by rw[oK i (by omega)];exact gO i hi
 have kx3:ld1 3 (K.get B.next)=some (iv x.n):=by rw[oK _ (by omega)];exact x3
 have ka2:ld1 2 (K.get h.next)=some vq:=by rw[oK _ (by omega)];exact a2
 have pqK:J0p lo K vq s.queues.length 2 (J3S s.queues):=p2.mono (by omega) fun i _ hi=>kO i hi
 obtain⟨id,p,e1,e2,e3⟩:=Jsc pqK h1 h2
 cases cu20:(up.kind==20) with
 | true=>
  rw[JtU k (beq_iff_eq.1 cu20)]
  simp only[evC,seval,↓evP,hr,Nat.zero_add,J0t,J0O,J0m,J0B,J0S,JiN,J1V,a2,x0,x3,c8,c17,c20,c9,c21,c24,J0y,J0F,a1,wa,eu,J0u,lu,J40,fz,zr,stK',u0,cu20,ka2,kx3,e1,e3]
  exact kO
 | false=>
 have ku:up.kind≠20:=by simpa using cu20
 obtain⟨h3,h4⟩:=hu k ku
 obtain⟨id2,p2',e4,e5,e6⟩:=Jsc pqK h3 h4
 rw[JtZ k ku]
 simp only[evC,seval,↓evP,Nat.zero_add,J0t,J0O,J0m,J0B,J0S,JiN,J1V,a2,x0,x3,c8,c17,c20,c9,c21,c24,J0y,J0F,a1,wa,eu,J0u,lu,J40,fz,zr,stK',u0,cu20]
 refine WK.flags (fs:=Jtu) (by kernel_rfl) ?_
 unfold Jtu
 iterate 16
  refine wcs hsn ?_
  simp only[rgC,seval,J04,J02,WKFC,rgL,rgK,J17,rgS,rgB,JcC,J0B,J0S,ka2,J0O,J0m,kx3,u3,e1,e3,e4,e6,JiN,J1V,Ji4,JiM,J1g,J0J,Jk2,J6L]
 refine JvR ?_
 simp only[evC,seval,↓evP,hr]
 exact kO
theorem Jtz {nm:ByteArray} {s:StN} {pv:Value} {lo:Nat} {x up:RowN} (hp:J3x lo h pv nm s) {a:Nat} (hxa:s.rows[a]?=some x) (hua:x.kind=24→s.rows[a-1]?=some up∧0<a) (hla:s.rows.length<900000000) (hx:[8,17,20,9,21,24].contains x.kind=true→0≤x.n∧x.n<s.queues.length) (hu:x.kind=24→up.kind≠20→0≤up.n∧up.n<s.queues.length) (hfl:h.floor≤h.next) (hn:0<n):J0T n 38 [pv,iv (a:Int)] h=some (.bool (Jse s.queues x up),h):=by
 obtain⟨n,rfl⟩:∃ j,n=j+1:=⟨n-1,by omega⟩
 exact J4r (J13 ⟨rfl,rfl,rfl⟩) rfl (JsV (n:=n) (N:=n) hp hxa hua hla hx hu hfl)
end
theorem JtK {P:Program} {call:J0r} {n:Nat} {c:Code} {s:St} {k:Kont} (Q:SExit→St→Prop) (h1:WK P call n c s (.top Q)) (h2:∀ e s',Q e s'→k.ap P call n e s'):WK P call n c s k:=WS.mono h1 h2
def Jsd (l:List Bool):List Value:=l.map (.bool ·)
theorem Jtk (l:List Bool):(Jsd l).length=l.length:=by simp[Jsd]
theorem by4:byOf Tryz.prog 4=some 1:=by kernel_rfl
theorem JtV:J1w Tryz.prog 4=some (.bool false):=by kernel_rfl
theorem Jsz (n:Nat):J3e [Value.bool false] n=Jsd (List.replicate n false):=by
 induction n with
 | zero=>rfl
 | succ n ih=>
  rw[List.replicate_succ]
  show [Value.bool false]++J3e [Value.bool false] n=_
  rw[ih]
  rfl
theorem Jst {l:List Bool} {i:Nat} {x:Bool} {ty:TypeId} {g ro:Bool} (hx:l[i]?=some x):ld1 i (.row (Jsd l) ty g ro)=some (.bool x):=by simp[ld1,Jsd,hx]
theorem Jt0 {h:SHeap} {id i:Nat} {l:List Bool} {x:Bool} {ty:TypeId} {g:Bool} (hg:h.get id=.row (Jsd l) ty g false) (hi:i<l.length) (hf:h.floor≤id):J0K Tryz.prog h 4 (qP id i) (.bool x)=some (h.put id (.row (Jsd (l.set i x)) ty g false)):=by
 have:=stc (v:=.bool x) (off:=i) sz4 rfl rfl hg (by rw[Jtk];exact hi) hf
 rw[this]
 simp[Jsd,List.map_set]
theorem idxB {id n c i:Nat} (hi:i<n):J0R Tryz.prog 63 (qS id n c) (iv (i:Int))=some (qP id i):=by
 have:=idxA (id:=id) (n:=n) (c:=c) (i:=i) Tryz.underlying63 sz4 hi
 rwa [Nat.mul_one] at this
structure TyH (h H:SHeap) (P:List Value) (TP:List Int) (M:MkT):Prop where
 p:H.get h.next=.row P 27 false false
 f:H.get (h.next+1)=.row [iv 0,iv 0] 32 false false
 t:H.get (h.next+2)=.row (ints TP) 3 false false
 a:H.get (h.next+3)=.row (ints M.A) 3 false false
 c:H.get (h.next+4)=.row (Jsd M.C) 4 false false
 u:H.get (h.next+5)=.row (ints M.U) 3 false false
 n:h.next+6≤H.next
 fl:H.floor=h.floor
 o:∀ i,i<h.next→H.get i=h.get i
theorem TyH.mono {h H H':SHeap} {P:List Value} {TP:List Int} {M:MkT} (hT:TyH h H P TP M) (hn:H.next≤H'.next) (hf:H'.floor=H.floor) (hg:∀ i,i<h.next+6→H'.get i=H.get i):TyH h H' P TP M:=
 ⟨by rw[hg _ (by omega)];exact hT.p,by rw[hg _ (by omega)];exact hT.f,by rw[hg _ (by omega)];exact hT.t,by rw[hg _ (by omega)];exact hT.a,by rw[hg _ (by omega)];exact hT.c,by rw[hg _ (by omega)];exact hT.u,by have:=hT.n;omega,hf.trans hT.fl,fun i hi=>by rw[hg i (by omega)];exact hT.o i hi⟩
theorem Jsm {H:SHeap} {id:Nat} (hg:H.get id=.row [iv 0,iv 0] 32 false false) (hid:id<H.next) (hf:H.floor≤id) (e a:Int) :
  ∃ H',J0K Tryz.prog H 32 (qP id 0) (J2k e a)=some H'∧ldN 2 0 (H'.get id)=some (J2k e a)∧H'.next=H.next∧H'.floor=H.floor∧∀ i,i≠id→H'.get i=H.get i:=
 ⟨_,stW sz33 (vs:=[iv e,iv a]) hg rfl rfl rfl hf,by rw[J0b rfl hid];rfl,rfl,rfl,fun i hi=>J05 hid (Ne.symm hi)⟩
def Ju6:List (Bool × Bool × List Operand):=[fa0,fa0,fa0,fa0,fa0,fa0,fa1,fa1,fa1,fa1,fa3 [.tmp 59],fa3 [.tmp 59],fa3 [.tmp 59],fa3 [.tmp 59],fa0,fa0,fa0]
def JtW:List (Bool × Bool × List Operand):=[fa1,fa3 [.tmp 1],fa3 [.tmp 1,.tmp 10],fa3 [.tmp 1,.tmp 10],fa3 [.tmp 1,.tmp 10,.tmp 84],fa3 [.tmp 1,.tmp 10,.tmp 84],fa3 [.tmp 1,.tmp 10,.tmp 84],fa3 [.tmp 1,.tmp 10,.tmp 84],fa3 [.tmp 1,.tmp 10],fa3 [.tmp 1,.tmp 10],fa0,fa0]
def JtX:List (Bool × Bool × List Operand):=[fa2,fa2,fa2,fa2,fa2,fa2,fa1,fa1,fa3 [.tmp 122],fa3 [.tmp 122],fa1,fa4 [.tmp 122],fa4 [.tmp 122],fa4 [.tmp 122],fa4 [.tmp 122],fa0,fa0,fa0,fa3 [.tmp 132],fa0,fa0,fa4 [.tmp 122,.tmp 129,.tmp 132],fa0,fa0,fa0,fa0,fa0,fa0]
def Ju9 (h H2:SHeap) (D m i:Nat) (vr:Value) (B:Int) (e:SExit) (s':St):Prop:=
 (e=.normal∧s'.h=H2∧s'.T.get 1=qP h.next 0∧s'.T.get 3=qP (h.next+1) 0∧s'.T.get 5=qS (h.next+2) m m∧s'.T.get 6=qS (h.next+3) m m∧s'.T.get 7=qS (h.next+4) m m∧s'.T.get 8=qS (h.next+5) m m∧s'.T.get 37=vr∧s'.T.get 38=iv (m:Int)∧s'.T.get 39=iv (i:Int)∧s'.T.get 9=iv (i:Int)∧s'.T.get 10=qP D 0∧B=0) ∨
  (e=.ret∧s'.T.get 2=Z0∧s'.T.get 3=qP (h.next+1) 0∧B≠0∧ldN 2 0 (s'.h.get (h.next+1))=some (J2k B i)∧s'.h.floor=h.floor∧h.next≤s'.h.next∧∀ j,j<h.next→s'.h.get j=h.get j)
theorem Jt1 {h1:SHeap} {lo:Nat} {tv:Value} {l:List Int} {e a:Int} (ht:J1S lo h1 tv l) (hf:J3m (.tuple #[tv,J2k e a])=true) (h:SHeap):J1S lo h tv l:=by
 obtain⟨hl,a',c,rfl,⟨h0,h1⟩ | ⟨id,off,row,ty,g,ro,rfl,_⟩⟩:=ht
 ·exact⟨hl,a',c,rfl,.inl ⟨h0,h1⟩⟩
 ·simp[J3m,flat,J1i] at hf
section
variable {n N:Nat} {h:SHeap}
theorem Jtm {nm : ByteArray} {s:StN} {pv:Value} {lo:Nat} (hp:J3x lo h pv nm s) (hlies:∀ nm' vr vq vv vt vu vo m,pv=.agg #[.string nm',vr,vq,vv,vt,vu,vo,m]→Lies vr s.rows.length) (hs:JdC s) (hl:s.rows.length<9000000) (hg:h.get 0=J14) (hn0:0<h.next) (hfl:h.floor≤h.next) (hn:2*Jbg s+400<n) (hN:s.rows.length+40<N) :
  ∃ v' h',J0L Tryz.prog (J0T n) N 9 [pv] h=some (v',h')∧JsA h' h.next v' (Jsb nm s)∧h'.floor=h.floor∧h.next≤h'.next∧∀ i,i<h.next→h'.get i=h.get i:=by
 obtain⟨vr,vq,vv,vt,vu,vo,rfl,p1,p2,p3,p4,p5,p6⟩:=id hp
 have hsn:=(J1z n).2
 have htot:Jbg s=s.rows.length+s.queues.length+s.vars.length+s.tags.length+s.rules.length+s.on.length:=rfl
 refine J65 (R:=fun v' h'=>JsA h' h.next v' (Jsb nm s)∧h'.floor=h.floor∧h.next≤h'.next∧∀ i,i<h.next→h'.get i=h.get i) Tryz.func9 rfl (by simp[Tryz.f9]) ?_
 have hr:Tryz.f9.results.toList=[.tmp 2,.cell 3 32]:=rfl
 have ca:(Value.agg #[.string nm,vr,vq,vv,vt,vu,vo,iv s.miss]).cells.toList=[.string nm,vr,vq,vv,vt,vu,vo,iv s.miss]:=rfl
 have oa:=all8 (nm:=nm) p1 p2 p3 p4 p5 p6
 have zc33:(Value.agg #[Value.int IntKind.i64 0,Value.int IntKind.i64 0]).cells.toList=[iv 0,iv 0]:=rfl
 have g0:∀ (a b:SObj),let A:=(h.push a).push b
   A.get h.next=a∧A.get (h.next+1)=b∧A.next=h.next+2∧A.floor=h.floor∧∀ i,i<h.next→A.get i=h.get i:=fun a b=>
  ⟨J4c,J48,rfl,rfl,fun i hi=>by rw[J06 (by show i<h.next+1;omega),J06 hi]⟩
 obtain⟨gA,gF,nG,fG,gO⟩:=g0 (.row [.string nm,vr,vq,vv,vt,vu,vo,iv s.miss] 27 false false) (.row [iv 0,iv 0] 32 false false)
 simp only[evC,seval,↓evP,rpD,J0X,J2t,ca,oa,sz30,J3C,J1t,zc33]
 generalize (h.push (.row [.string nm,vr,vq,vv,vt,vu,vo,iv s.miss] 27 false false)).push (.row [iv 0,iv 0] 32 false false)=Q at *
 have lA:ldN 8 0 (Q.get h.next)=some (.agg #[.string nm,vr,vq,vv,vt,vu,vo,iv s.miss]):=J9E gA rfl
 have x1:ld1 1 (Q.get h.next)=some vr:=by rw[gA];rfl
 have hpQ:J3x lo Q (.agg #[.string nm,vr,vq,vv,vt,vu,vo,iv s.miss]) nm s:=hp.mono (by omega) fun i _ hi=>gO i hi
 have hchk:=JnE (n:=n) hpQ hlies hs (by omega) (by omega) (by rw[gO 0 hn0];exact hg) (by omega) (by omega)
 cases d1:(JkA nm s != 0) with
 | true=>
  obtain⟨H',s1,s2,s3,s4,s5⟩:=Jsm gF (by omega) (by omega) (JkA nm s) 0
  have e:Jsb nm s=((JkA nm s,0),[]):=by unfold Jsb;rw[if_pos (by simpa using d1)]
  rw[e]
  simp only[evC,seval,↓evP,hr,J1b,lA,hchk,d1,J96,s1,J2n,s2]
  exact⟨⟨_,rfl,J0p.nil _ _ _⟩,by omega,by omega,fun i hi=>by rw[s5 i (by omega)];exact gO i hi⟩
 | false=>
 have e1:JkA nm s=0:=by simpa using d1
 have hG:=JtL e1
 have eR:Jsb nm s=Jsa s.rows s.queues (endN (Jk8 s.rows)) s.rows.length 0:=by unfold Jsb;rw[if_neg (by rw[e1];decide)]
 rw[eR]
 generalize hZ:Jk8 s.rows=Z at *
 clear hZ eR
 have hsl:=hG.sk.1
 have npos:0<s.rows.length:=by have:=hG.t.pos;omega
 have len1:=fun h'=>JfA p1.2 h'
 have mkI:∀ H:SHeap,J2l Tryz.prog H 25 (iv (s.rows.length:Int)) (iv (s.rows.length:Int))=some (qS H.next s.rows.length s.rows.length,H.push (.row (ints (List.replicate s.rows.length 0)) 3 false false)):=fun H=>by
  have:=Jrq (P:=Tryz.prog) (h:=H) (t:=25) (e:=3) (z:=.int .i64 0) Tryz.underlying25 sz3 by3 J8P rfl rfl (by decide) (by decide) (n:=s.rows.length) (by omega)
  rw[show J3e (Value.int IntKind.i64 0).cells.toList s.rows.length=ints (List.replicate s.rows.length 0) from J8K _] at this
  exact this
 have mkB:∀ H:SHeap,J2l Tryz.prog H 63 (iv (s.rows.length:Int)) (iv (s.rows.length:Int))=some (qS H.next s.rows.length s.rows.length,H.push (.row (Jsd (List.replicate s.rows.length false)) 4 false false)):=fun H=>by
  have:=Jrq (P:=Tryz.prog) (h:=H) (t:=63) (e:=4) (z:=.bool false) Tryz.underlying63 sz4 by4 JtV rfl rfl (by decide) (by decide) (n:=s.rows.length) (by omega)
  rw[show J3e (Value.bool false).cells.toList s.rows.length=Jsd (List.replicate s.rows.length false) from Jsz _] at this
  exact this
 have q1:∀ a,ld1 1 ((Q.push a).get h.next)=some vr:=fun a=>by rw[J06 (by omega)];exact x1
 have q2:∀ a b,ld1 1 (((Q.push a).push b).get h.next)=some vr:=fun a b=>by rw[J06 (by show h.next<Q.next+1;omega)];exact q1 a
 have q3:∀ a b c,ld1 1 ((((Q.push a).push b).push c).get h.next)=some vr:=fun a b c=>by rw[J06 (by show h.next<Q.next+2;omega)];exact q2 a b
 have q4:∀ a b c d,ld1 1 (((((Q.push a).push b).push c).push d).get h.next)=some vr:=fun a b c d=>by rw[J06 (by show h.next<Q.next+3;omega)];exact q3 a b c
 have g4:∀ (a b c d:SObj),let A:=(((Q.push a).push b).push c).push d
   A.get Q.next=a∧A.get (Q.next+1)=b∧A.get (Q.next+2)=c∧A.get (Q.next+3)=d∧A.next=Q.next+4∧A.floor=Q.floor∧∀ i,i<Q.next→A.get i=Q.get i:=fun a b c d=>
  ⟨by rw[J06 (by show Q.next<Q.next+3;omega),J06 (by show Q.next<Q.next+2;omega)];exact J4c,
   by rw[J06 (by show Q.next+1<Q.next+3;omega),J06 (by show Q.next+1<Q.next+2;omega)];exact J48,
   by rw[J06 (by show Q.next+2<Q.next+3;omega)];exact J0h (h:=(Q.push a).push b),J0h (h:=((Q.push a).push b).push c),rfl,rfl,
   fun i hi=>by rw[J06 (by show i<Q.next+3;omega),J06 (by show i<Q.next+2;omega),J06 (by show i<Q.next+1;omega),J06 hi]⟩
 have h4:=g4 (.row (ints (List.replicate s.rows.length 0)) 3 false false) (.row (ints (List.replicate s.rows.length 0)) 3 false false) (.row (Jsd (List.replicate s.rows.length false)) 4 false false) (.row (ints (List.replicate s.rows.length 0)) 3 false false)
 simp only[evC,seval,↓evP,J1b,lA,hchk,d1,Nat.zero_add,J0y,J0F,x1,q1,q2,q3,q4,len1,mkI,mkB]
 obtain⟨ga,gb,gc,gd,n4,f4,o4⟩:=h4
 generalize (((Q.push (.row (ints (List.replicate s.rows.length 0)) 3 false false)).push (.row (ints (List.replicate s.rows.length 0)) 3 false false)).push (.row (Jsd (List.replicate s.rows.length false)) 4 false false)).push (.row (ints (List.replicate s.rows.length 0)) 3 false false)=B at *
 have hT0:TyH h B [.string nm,vr,vq,vv,vt,vu,vo,iv s.miss] (List.replicate s.rows.length 0) (Js7 s.rows (endN Z) 0):=by
  rw[nG] at ga gb gc gd
  exact⟨by rw[o4 _ (by omega)];exact gA,by rw[o4 _ (by omega)];exact gF,ga,gb,gc,gd,by omega,by omega,fun i hi=>by rw[o4 i (by omega)];exact gO i hi⟩
 refine WK.loop (fun i s'=>s'.T.get 1=qP h.next 0∧s'.T.get 3=qP (h.next+1) 0∧s'.T.get 5=qS (h.next+2) s.rows.length s.rows.length∧s'.T.get 6=qS (h.next+3) s.rows.length s.rows.length∧s'.T.get 7=qS (h.next+4) s.rows.length s.rows.length∧s'.T.get 8=qS (h.next+5) s.rows.length s.rows.length∧s'.T.get 37=vr∧s'.T.get 38=iv (s.rows.length:Int)∧s'.T.get 39=iv (i:Int)∧i≤s.rows.length∧Jsa s.rows s.queues (endN Z) (s.rows.length-i) i=Jsa s.rows s.queues (endN Z) s.rows.length 0∧∃ TP:List Int,TP.length=s.rows.length∧(∀ j,j<i→TP[j]?=(s.rows.map (typN ·.kind))[j]?)∧TyH h s'.h [.string nm,vr,vq,vv,vt,vu,vo,iv s.miss] TP (Js7 s.rows (endN Z) i)) s.rows.length (by omega) ?_ ?_
 ·exact⟨by simp only[evC,seval,↓evP,rpC],by simp only[evC,seval,↓evP,rpC],by simp only[evC,seval,↓evP,rpC,nG],by simp only[evC,seval,↓evP,rpC,J1D,nG],by simp only[evC,seval,↓evP,rpC,J1D,nG],by simp only[evC,seval,↓evP,rpC,J1D,nG],by simp only[evC,seval,↓evP,rpC],by simp only[evC,seval,↓evP,rpC],by simp only[evC,seval,↓evP,rpC] <;> rfl,by omega,rfl,_,by simp,fun j hj=>by omega,hT0⟩
 rintro i ⟨T,H⟩ hi ⟨t1,t3,t5,t6,t7,t8,t37,t38,t39,hil,hgo,TP,hTl,hTP,hT⟩
 simp only at t1 t3 t5 t6 t7 t8 t37 t38 t39 hT
 by_cases hlt:i<s.rows.length
 rotate_left
 ·have c1:decide ((i:Int)<(s.rows.length:Int))=false:=by simp;omega
  have hin:i=s.rows.length:=by omega
  subst hin
  have hTe:TP=s.rows.map (typN ·.kind):=by
   apply List.ext_getElem?
   intro j
   rcases Nat.lt_or_ge j s.rows.length with h1 | h1
   ·exact hTP j h1
   ·rw[List.getElem?_eq_none (by omega),List.getElem?_eq_none (by rw[List.length_map];omega)]
  have hnx:=hT.n
  have hfl':=hT.fl
  obtain⟨H',s1,s2,s3,s4,s5⟩:=Jsm hT.f (by omega) (by omega) 0 0
  have eG:Jsa s.rows s.queues (endN Z) s.rows.length 0=((0,0),s.rows.map (typN ·.kind)):=by rw[← hgo,Nat.sub_self];rfl
  rw[eG]
  simp only[evC,seval,↓evP,hr,t1,t3,t5,t6,t7,t8,t37,t38,t39,c1,J5n,s1,J2n,s2]
  exact⟨⟨_,rfl,by rw[← hTe];exact J1S.row' (by rw[s5 _ (by omega)];exact hT.t) ⟨by omega,by omega⟩ hTl.symm⟩,by omega,by omega,fun j hj=>by rw[s5 j (by omega)];exact hT.o j hj⟩
 have c1:decide ((i:Int)<(s.rows.length:Int))=true:=by simp;omega
 obtain⟨x,hx⟩:∃ x,s.rows[i]?=some x:=⟨_,List.getElem?_eq_getElem hlt⟩
 obtain⟨r,hr1⟩:∃ r,s.rows.length-i=r+1:=⟨s.rows.length-i-1,by omega⟩
 rw[hr1] at hgo
 have hri:s.rows.length-(i+1)=r:=by omega
 have hnx:=hT.n
 have hfl':=hT.fl
 have hvH:J0l H vr s.rows:=p1.1.mono (by omega) hT.o
 obtain⟨ia,pa,ea,hia,_,_,_,_,_,la⟩:=hvH.row hx
 have zr:(rowV zRow).cells.toList=J0e zRow:=rfl
 have fz:flat (rowV zRow)=true:=rfl
 obtain⟨H1,stX,gX,n1,f1,o1⟩:=Jsj (t:=60) sz46 (H:=H) (zs:=J0e zRow) (vs:=J0e x) rfl rfl rfl (by omega)
 have stX':J0K Tryz.prog (H.push (.row (J0e zRow) 60 false false)) 60 (qP H.next 0) (rowV x)=some H1:=stX
 have hT1:TyH h H1 [.string nm,vr,vq,vv,vt,vu,vo,iv s.miss] TP (Js7 s.rows (endN Z) i):=hT.mono (by omega) f1 fun j hj=>o1 j (by omega)
 have kx:=hG.ks i x hx
 have ht1:=Ju0 (n:=n) (h:=H1) kx (by omega)
 have y0:ld1 0 (H1.get H.next)=some (iv x.kind):=by rw[gX];rfl
 have ix0:=J1F (id:=h.next+2) (n:=s.rows.length) (c:=s.rows.length) (i:=i) hlt
 have st0:J0K Tryz.prog H1 3 (qP (h.next+2) i) (iv (typN x.kind))=some (H1.put (h.next+2) (.row (ints (TP.set i (typN x.kind))) 3 false false)):=J59 hT1.t (by omega) (by omega)
 have hT2:TyH h (H1.put (h.next+2) (.row (ints (TP.set i (typN x.kind))) 3 false false)) [.string nm,vr,vq,vv,vt,vu,vo,iv s.miss] (TP.set i (typN x.kind)) (Js7 s.rows (endN Z) i):=by
  have g:∀ j,j≠h.next+2→(H1.put (h.next+2) (.row (ints (TP.set i (typN x.kind))) 3 false false)).get j=H1.get j:=fun j hj=>J05 (by omega) (Ne.symm hj)
  exact⟨by rw[g _ (by omega)];exact hT1.p,by rw[g _ (by omega)];exact hT1.f,J0b rfl (by omega),by rw[g _ (by omega)];exact hT1.a,by rw[g _ (by omega)];exact hT1.c,by rw[g _ (by omega)];exact hT1.u,hT1.n,hT1.fl,fun j hj=>by rw[g j (by omega)];exact hT1.o j hj⟩
 have gX2:(H1.put (h.next+2) (.row (ints (TP.set i (typN x.kind))) 3 false false)).get H.next=.row (J0e x) 60 false false:=by rw[J05 (by omega) (by omega)];exact gX
 have n2:(H1.put (h.next+2) (.row (ints (TP.set i (typN x.kind))) 3 false false)).next=H.next+1:=n1
 simp only[evB,seval,↓evP,t1,t3,t5,t6,t7,t8,t37,t38,t39,c1,ea,J0u,la,J40,fz,zr,stX',Nat.zero_add,J0t,J0m,y0,ht1,ix0,st0]
 rw[Jaj]
 simp only[evB,seval,↓evP,t1,t3,t5,t6,t7,t8,t37,t38,t39,c1,ea,J0u,la,J40,fz,zr,stX',Nat.zero_add,J0t,J0m,y0,ht1,ix0,st0]
 have hTl2:(TP.set i (typN x.kind)).length=s.rows.length:=by rw[List.length_set];exact hTl
 have hTP2:∀ j,j<i+1→(TP.set i (typN x.kind))[j]?=(s.rows.map (typN ·.kind))[j]?:=fun j hj=>by
  rcases Nat.lt_or_ge j i with h1 | h1
  ·rw[List.getElem?_set_ne (by omega)]
   exact hTP j h1
  ·have:j=i:=by omega
   subst this
   rw[List.getElem?_set_self (by omega),List.getElem?_map,hx]
   rfl
 generalize H1.put (h.next+2) (.row (ints (TP.set i (typN x.kind))) 3 false false)=H2 at *
 generalize TP.set i (typN x.kind)=TP2 at *
 generalize hD:H.next=D at *
 clear st0 stX stX' y0 ht1 hT1 hT hTP
 obtain⟨m1,m2,m3⟩:=Jsk (R:=s.rows) (endN Z) i
 obtain⟨a,hA⟩:∃ a,(Js7 s.rows (endN Z) i).A[i]?=some a:=⟨_,List.getElem?_eq_getElem (by omega)⟩
 obtain⟨c,hC⟩:∃ c,(Js7 s.rows (endN Z) i).C[i]?=some c:=⟨_,List.getElem?_eq_getElem (by omega)⟩
 obtain⟨u,hU⟩:∃ u,(Js7 s.rows (endN Z) i).U[i]?=some u:=⟨_,List.getElem?_eq_getElem (by omega)⟩
 have hUb:=JsF (R:=s.rows) (e:=endN Z) rfl npos i (by omega) u (List.mem_of_getElem? hU)
 obtain⟨up,hup⟩:∃ up,s.rows[u.toNat]?=some up:=⟨_,List.getElem?_eq_getElem (by omega)⟩
 have hnx2:=hT2.n
 have hfl2:=hT2.fl
 have lA':ldN 8 0 (H2.get h.next)=some (.agg #[.string nm,vr,vq,vv,vt,vu,vo,iv s.miss]):=J9E hT2.p rfl
 have xa1:ld1 1 (H2.get h.next)=some vr:=by rw[hT2.p];rfl
 have y0:ld1 0 (H2.get D)=some (iv x.kind):=by rw[gX2];rfl
 have y4:ld1 4 (H2.get D)=some (iv x.kids):=by rw[gX2];rfl
 have yN:ldN 5 0 (H2.get D)=some (rowV x):=by rw[gX2];rfl
 have ix1:=J1F (id:=h.next+3) (n:=s.rows.length) (c:=s.rows.length) (i:=i) hlt
 have ix2:=idxB (id:=h.next+4) (n:=s.rows.length) (c:=s.rows.length) (i:=i) hlt
 have ix3:=J1F (id:=h.next+5) (n:=s.rows.length) (c:=s.rows.length) (i:=i) hlt
 have l0:ld1 i (H2.get (h.next+2))=some (iv (typN x.kind)):=by
  rw[hT2.t]
  refine J2z ?_
  rw[hTP2 i (by omega),List.getElem?_map,hx]
  rfl
 have l1:ld1 i (H2.get (h.next+3))=some (iv a):=by rw[hT2.a];exact J2z hA
 have l2:ld1 i (H2.get (h.next+4))=some (.bool c):=by rw[hT2.c];exact Jst hC
 have l3:ld1 i (H2.get (h.next+5))=some (iv u):=by rw[hT2.u];exact J2z hU
 have hv2:J0l H2 vr s.rows:=p1.1.mono (by omega) hT2.o
 obtain⟨iu,pu,eu,hiu,_,_,_,_,_,lu⟩:=hv2.row hup
 rw[show ((u.toNat:Nat):Int)=u by omega] at eu
 have hvar:=JtD (n:=n) (h:=H2) kx (by omega)
 have hp2:J3x lo H2 (.agg #[.string nm,vr,vq,vv,vt,vu,vo,iv s.miss]) nm s:=hp.mono (by omega) fun j _ hj=>hT2.o j hj
 have hoth:=JtC (n:=n) (x:=x) (up:=up) hp2 (fun h9=>hG.qn i x hx (Jsx h9)) (fun h24 h20=>by
  obtain⟨h0i,up',hup',hU',hrange⟩:=hG.place hx h24
  rw[hU] at hU'
  cases hU'
  rw[show ((i-1:Nat):Int).toNat=i-1 by omega,hup'] at hup
  cases hup
  exact hrange h20) (by omega)
 refine JtK (Ju9 h H2 D s.rows.length i vr (badN s.rows s.queues (Js7 s.rows (endN Z) i) i x)) ?_ ?_
 ·have bad:∀ b:Int,∃ H',J0K Tryz.prog H2 32 (qP (h.next+1) 0) (J2k b i)=some H'∧ldN 2 0 (H'.get (h.next+1))=some (J2k b i)∧H'.floor=h.floor∧h.next≤H'.next∧∀ j,j<h.next→H'.get j=h.get j:=fun b=>by
   obtain⟨H',s1,s2,s3,s4,s5⟩:=Jsm hT2.f (by omega) (by omega) b i
   exact⟨H',s1,s2,by omega,by omega,fun j hj=>by rw[s5 j (by omega)];exact hT2.o j hj⟩
  rw[Jaj]
  simp only[evC,seval,↓evP,t1,t3,t5,t6,t7,t8,t37,t38,t39]
  refine JtK (fun e s'=>e=.normal∧s'.h=H2∧s'.T.get 1=qP h.next 0∧s'.T.get 3=qP (h.next+1) 0∧s'.T.get 5=qS (h.next+2) s.rows.length s.rows.length∧s'.T.get 6=qS (h.next+3) s.rows.length s.rows.length∧s'.T.get 7=qS (h.next+4) s.rows.length s.rows.length∧s'.T.get 8=qS (h.next+5) s.rows.length s.rows.length∧s'.T.get 37=vr∧s'.T.get 38=iv (s.rows.length:Int)∧s'.T.get 39=iv (i:Int)∧s'.T.get 9=iv (i:Int)∧s'.T.get 10=qP D 0∧s'.T.get 50=.bool (a != 0&&typN x.kind != a)) ?_ ?_
  ·cases da:(a != 0) with
   | false=>
    refine WK.flags (fs:=Ju6) (by kernel_rfl) ?_
    unfold Ju6
    iterate 17
     refine wcs hsn ?_
     simp only[rgC,seval,J04,J02,WKFC,rgL,rgK,J17,rgS,rgB,Option.bind_some,JcC,t1,t3,t5,t6,t7,t8,t37,t38,t39,ix1,l1,J0m,da,JiM,J1g,J0J,Jk2,J6L]
    refine JvR ?_
    exact⟨rfl,rfl,by simp only[evC,seval,↓evP,rpC,t1],by simp only[evC,seval,↓evP,rpC,t3],by simp only[evC,seval,↓evP,rpC,t5],by simp only[evC,seval,↓evP,rpC,t6],by simp only[evC,seval,↓evP,rpC,t7],by simp only[evC,seval,↓evP,rpC,t8],by simp only[evC,seval,↓evP,rpC,t37],by simp only[evC,seval,↓evP,rpC,t38],by simp only[evC,seval,↓evP,rpC,t39],by simp only[evC,seval,↓evP,rpC],by simp only[evC,seval,↓evP,rpC],by simp only[evC,seval,↓evP,rpC,Bool.false_and]⟩
   | true=>
    refine WK.flags (fs:=Ju6) (by kernel_rfl) ?_
    unfold Ju6
    iterate 17
     refine wcs hsn ?_
     simp only[rgC,seval,J04,J02,WKFC,rgL,rgK,J17,rgS,rgB,Option.bind_some,JcC,t1,t3,t5,t6,t7,t8,t37,t38,t39,ix1,l1,ix0,l0,J0m,da,JiM,J1g,J0J,Jk2,J6L]
    refine JvR ?_
    exact⟨rfl,rfl,by simp only[evC,seval,↓evP,rpC,t1],by simp only[evC,seval,↓evP,rpC,t3],by simp only[evC,seval,↓evP,rpC,t5],by simp only[evC,seval,↓evP,rpC,t6],by simp only[evC,seval,↓evP,rpC,t7],by simp only[evC,seval,↓evP,rpC,t8],by simp only[evC,seval,↓evP,rpC,t37],by simp only[evC,seval,↓evP,rpC,t38],by simp only[evC,seval,↓evP,rpC,t39],by simp only[evC,seval,↓evP,rpC],by simp only[evC,seval,↓evP,rpC],by simp only[evC,seval,↓evP,rpC,Bool.true_and]⟩
  rintro e ⟨T2,HH⟩ ⟨rfl,hh,u1,u3,u5,u6,u7,u8,u37,u38,u39,u9,u10,u50⟩
  simp only at hh u1 u3 u5 u6 u7 u8 u37 u38 u39 u9 u10 u50
  subst hh
  cases d50:(a != 0&&typN x.kind != a) with
  | true=>
   obtain⟨H',s1,s2,s3,s4,s5⟩:=bad 41
   simp only[evC,seval,↓evP,u1,u3,u5,u6,u7,u8,u37,u38,u39,u9,u10,u50,d50,J4G,s1]
   simp only[Bool.and_eq_true,bne_iff_ne] at d50
   exact .inr ⟨rfl,by simp only[evC,seval,↓evP,rpC],by simp only[evC,seval,↓evP,rpC,u3],by rw[Jto hA d50.1 d50.2];decide,by rw[Jto hA d50.1 d50.2];exact s2,s3,s4,s5⟩
  | false=>
  have n41:¬(a≠0∧typN x.kind≠a):=by
   intro hc
   rw[show (a != 0&&typN x.kind != a)=true by simp[hc.1,hc.2]] at d50
   cases d50
  cases c with
  | false=>
   have b46:=Jtj (Q:=s.queues) hA n41 hC (x:=x) (by rw[Bool.false_and]) hU hup
   simp only[evC,seval,↓evP,u1,u3,u5,u6,u7,u8,u37,u38,u39,u9,u10,u50,d50,ix2,J1V,l2,Nat.zero_add,J0t,J0m,y0,hvar]
   refine WK.flags (fs:=JtW) (by kernel_rfl) ?_
   unfold JtW
   iterate 12
    refine wcs hsn ?_
    simp only[rgC,seval,J04,J02,WKFC,rgL,rgK,J17,rgS,rgB,Option.bind_some,JcC,u1,u3,u5,u6,u7,u8,u37,u38,u39,u9,u10,J1b,lA',J0u,yN,J0y,J0F,xa1,ix3,J0m,l3,eu,lu,hoth,JiM,J1g,J0J,Jk2,J6L]
   refine JvR ?_
   cases do_:Jse s.queues x up with
   | true=>
    obtain⟨H',s1,s2,s3,s4,s5⟩:=bad 46
    simp only[evC,seval,↓evP,u1,u3,u5,u6,u7,u8,u37,u38,u39,u9,u10,do_,J4G,s1]
    exact .inr ⟨rfl,by simp only[evC,seval,↓evP,rpC],by simp only[evC,seval,↓evP,rpC,u3],by rw[b46,do_];decide,by rw[b46,do_];exact s2,s3,s4,s5⟩
   | false=>
    simp only[evC,seval,↓evP,u1,u3,u5,u6,u7,u8,u37,u38,u39,u9,u10,do_]
    exact .inl ⟨rfl,rfl,by simp only[evC,seval,↓evP,rpC,u1],by simp only[evC,seval,↓evP,rpC,u3],by simp only[evC,seval,↓evP,rpC,u5],by simp only[evC,seval,↓evP,rpC,u6],by simp only[evC,seval,↓evP,rpC,u7],by simp only[evC,seval,↓evP,rpC,u8],by simp only[evC,seval,↓evP,rpC,u37],by simp only[evC,seval,↓evP,rpC,u38],by simp only[evC,seval,↓evP,rpC,u39],by simp only[evC,seval,↓evP,rpC,u9],by simp only[evC,seval,↓evP,rpC,u10],by rw[b46,do_];rfl⟩
  | true=>
   cases dv:Jsi x.kind with
   | true=>
    rw[dv] at hvar
    obtain⟨H',s1,s2,s3,s4,s5⟩:=bad 42
    simp only[evC,seval,↓evP,u1,u3,u5,u6,u7,u8,u37,u38,u39,u9,u10,u50,d50,ix2,J1V,l2,Nat.zero_add,J0t,J0m,y0,hvar,J4G,s1]
    exact .inr ⟨rfl,by simp only[evC,seval,↓evP,rpC],by simp only[evC,seval,↓evP,rpC,u3],by rw[Jtc hA n41 hC dv];decide,by rw[Jtc hA n41 hC dv];exact s2,s3,s4,s5⟩
   | false=>
    rw[dv] at hvar
    have b46:=Jtj (Q:=s.queues) hA n41 hC (x:=x) (by rw[dv,Bool.and_false]) hU hup
    simp only[evC,seval,↓evP,u1,u3,u5,u6,u7,u8,u37,u38,u39,u9,u10,u50,d50,ix2,J1V,l2,Nat.zero_add,J0t,J0m,y0,hvar]
    refine WK.flags (fs:=JtW) (by kernel_rfl) ?_
    unfold JtW
    iterate 12
     refine wcs hsn ?_
     simp only[rgC,seval,J04,J02,WKFC,rgL,rgK,J17,rgS,rgB,Option.bind_some,JcC,u1,u3,u5,u6,u7,u8,u37,u38,u39,u9,u10,J1b,lA',J0u,yN,J0y,J0F,xa1,ix3,J0m,l3,eu,lu,hoth,JiM,J1g,J0J,Jk2,J6L]
    refine JvR ?_
    cases do_:Jse s.queues x up with
    | true=>
     obtain⟨H',s1,s2,s3,s4,s5⟩:=bad 46
     simp only[evC,seval,↓evP,u1,u3,u5,u6,u7,u8,u37,u38,u39,u9,u10,do_,J4G,s1]
     exact .inr ⟨rfl,by simp only[evC,seval,↓evP,rpC],by simp only[evC,seval,↓evP,rpC,u3],by rw[b46,do_];decide,by rw[b46,do_];exact s2,s3,s4,s5⟩
    | false=>
     simp only[evC,seval,↓evP,u1,u3,u5,u6,u7,u8,u37,u38,u39,u9,u10,do_]
     exact .inl ⟨rfl,rfl,by simp only[evC,seval,↓evP,rpC,u1],by simp only[evC,seval,↓evP,rpC,u3],by simp only[evC,seval,↓evP,rpC,u5],by simp only[evC,seval,↓evP,rpC,u6],by simp only[evC,seval,↓evP,rpC,u7],by simp only[evC,seval,↓evP,rpC,u8],by simp only[evC,seval,↓evP,rpC,u37],by simp only[evC,seval,↓evP,rpC,u38],by simp only[evC,seval,↓evP,rpC,u39],by simp only[evC,seval,↓evP,rpC,u9],by simp only[evC,seval,↓evP,rpC,u10],by rw[b46,do_];rfl⟩
 rintro e ⟨T3,HH⟩ (⟨rfl,hh,u1,u3,u5,u6,u7,u8,u37,u38,u39,u9,u10,b0⟩ | ⟨rfl,u2,u3,hb0,lF,fF,nF,oF⟩)
 rotate_left
 ·simp only at u2 u3 lF fF nF oF
  have eG:Jsa s.rows s.queues (endN Z) s.rows.length 0=((badN s.rows s.queues (Js7 s.rows (endN Z) i) i x,(i:Int)),[]):=by rw[← hgo];exact JtJ hx rfl hb0
  rw[eG]
  simp only[evC,seval,↓evP,hr,u2,u3,J2n,lF]
  exact⟨⟨_,rfl,J0p.nil _ _ _⟩,fF,nF,oF⟩
 simp only at hh u1 u3 u5 u6 u7 u8 u37 u38 u39 u9 u10
 subst hh
 have hgo2:Jsa s.rows s.queues (endN Z) (s.rows.length-(i+1)) (i+1)=Jsa s.rows s.queues (endN Z) s.rows.length 0:=by rw[← hgo,hri];exact(JtY hx b0).symm
 have w1:IntKind.i64.wrap ((i:Int)+1)=((i+1:Nat):Int):=J0s (by omega) (by omega)
 obtain⟨k0,hch,hel,hei⟩:=hG.kids0 hx
 have eM:Js7 s.rows (endN Z) (i+1)=setL i x (typN (((s.rows[i+1]?).map (·.kind)).getD 0)) 0 (Js9 (endN Z) x.kids.toNat (i+1)) (Js7 s.rows (endN Z) i):=by
  show Jsq s.rows (endN Z) i (Js7 s.rows (endN Z) i)=_
  unfold Jsq
  rw[hx]
 cases dk:(x.kids==0) with
 | true=>
  have hk0:x.kids.toNat=0:=by have:=beq_iff_eq.1 dk;omega
  have eM0:Js7 s.rows (endN Z) (i+1)=Js7 s.rows (endN Z) i:=by rw[eM,hk0];rfl
  simp only[evC,seval,↓evP,u1,u3,u5,u6,u7,u8,u37,u38,u39,u9,u10,Nat.zero_add,Jhp,J0m,y4,dk,w1]
  exact⟨hlt,by omega,hgo2,TP2,hTl2,hTP2,by rw[eM0];exact hT2⟩
 | false=>
 have hk1 : 0 < x.kids := by have:x.kids≠0:=by simpa using dk
                             omega
 have hi1:=hG.next hx hk1
 obtain⟨y,hy⟩:∃ y,s.rows[i+1]?=some y:=⟨_,List.getElem?_eq_getElem hi1⟩
 have ky:=hG.ks _ y hy
 obtain⟨ib,pb,eb,hib,lb,_⟩:=hv2.row hy
 have hty:=Ju0 (n:=n) (h:=HH) ky (by omega)
 obtain⟨zz,hzz,_,hzk⟩:=hG.z hx
 obtain⟨kv,H5,hkids,hkL,f5,n5,o5⟩:=Ju7 (n:=n) hG.t hG.sk hv2 hzz (by omega) (by omega) (by omega)
 rw[← hzk] at hkL
 have hkc:=hkL.ints (Nat.le_refl _)
 have lenK:=fun h'=>JfF hkc h'
 have hkl:((Js9 (endN Z) x.kids.toNat (i+1)).map (fun (k:Nat)=>(k:Int))).length=x.kids.toNat:=by rw[List.length_map,Jsg]
 rw[hkl,show ((x.kids.toNat:Nat):Int)=x.kids by omega] at lenK
 simp only[evC,seval,↓evP,u1,u3,u5,u6,u7,u8,u37,u38,u39,u9,u10,Nat.zero_add,Jhp,J0t,J0m,y4,dk,J0y,J0F,xa1,w1,eb,lb,hty,hkids,lenK]
 have eY:((s.rows[i+1]?).map (·.kind)).getD 0=y.kind:=by rw[hy];rfl
 rw[eY] at eM
 have hT5:TyH h H5 [.string nm,vr,vq,vv,vt,vu,vo,iv s.miss] TP2 (Js7 s.rows (endN Z) i):=hT2.mono (by omega) (by omega) fun j hj=>o5 j (by omega)
 obtain⟨mo1,mo2⟩:=hG.most hx
 have hkn:x.kids.toNat≤s.rows.length:=by have:=J2o _ _ _ hch;omega
 refine WK.loop (fun q s'=>s'.T.get 1=qP h.next 0∧s'.T.get 3=qP (h.next+1) 0∧s'.T.get 5=qS (h.next+2) s.rows.length s.rows.length∧s'.T.get 6=qS (h.next+3) s.rows.length s.rows.length∧s'.T.get 7=qS (h.next+4) s.rows.length s.rows.length∧s'.T.get 8=qS (h.next+5) s.rows.length s.rows.length∧s'.T.get 37=vr∧s'.T.get 38=iv (s.rows.length:Int)∧s'.T.get 39=iv (i:Int)∧s'.T.get 9=iv (i:Int)∧s'.T.get 10=qP D 0∧s'.T.get 11=iv (typN y.kind)∧s'.T.get 109=kv∧s'.T.get 110=iv x.kids∧s'.T.get 111=iv (q:Int)∧q≤x.kids.toNat∧H5.next≤s'.h.next∧(∀ j,h.next+6≤j→j<H5.next→s'.h.get j=H5.get j)∧TyH h s'.h [.string nm,vr,vq,vv,vt,vu,vo,iv s.miss] TP2 (setL i x (typN y.kind) 0 ((Js9 (endN Z) x.kids.toNat (i+1)).take q) (Js7 s.rows (endN Z) i))) x.kids.toNat (by omega) ?_ ?_
 ·exact⟨by simp only[evC,seval,↓evP,rpC,u1],by simp only[evC,seval,↓evP,rpC,u3],by simp only[evC,seval,↓evP,rpC,u5],by simp only[evC,seval,↓evP,rpC,u6],by simp only[evC,seval,↓evP,rpC,u7],by simp only[evC,seval,↓evP,rpC,u8],by simp only[evC,seval,↓evP,rpC,u37],by simp only[evC,seval,↓evP,rpC,u38],by simp only[evC,seval,↓evP,rpC,u39],by simp only[evC,seval,↓evP,rpC,u9],by simp only[evC,seval,↓evP,rpC,u10],by simp only[evC,seval,↓evP,rpC],by simp only[evC,seval,↓evP,rpC],by simp only[evC,seval,↓evP,rpC],by simp only[evC,seval,↓evP,rpC] <;> rfl,by omega,Nat.le_refl _,fun _ _ _=>rfl,by rw[List.take_zero];exact hT5⟩
 rintro q ⟨T4,H6⟩ hq ⟨wt1,wt3,wt5,wt6,wt7,wt8,wt37,wt38,w39,w9,w10,w11,w109,w110,w111,hqk,n6,o6,hT6⟩
 simp only at wt1 wt3 wt5 wt6 wt7 wt8 wt37 wt38 w39 w9 w10 w11 w109 w110 w111 n6 o6 hT6
 by_cases hql:q<x.kids.toNat
 rotate_left
 ·have c3:decide ((q:Int)<x.kids)=false:=by simp;omega
  simp only[evC,seval,↓evP,wt1,wt3,wt5,wt6,wt7,wt8,wt37,wt38,w39,w9,w10,w11,w109,w110,w111,c3,w1]
  have hq9:q=x.kids.toNat:=by omega
  subst hq9
  have hTk:(Js9 (endN Z) x.kids.toNat (i+1)).take x.kids.toNat=Js9 (endN Z) x.kids.toNat (i+1):=List.take_of_length_le (by rw[Jsg];omega)
  rw[hTk] at hT6
  exact⟨hlt,by omega,hgo2,TP2,hTl2,hTP2,by rw[eM];exact hT6⟩
 have c3:decide ((q:Int)<x.kids)=true:=by simp;omega
 obtain⟨p,hpk⟩:∃ p,(Js9 (endN Z) x.kids.toNat (i+1))[q]?=some p:=⟨_,List.getElem?_eq_getElem (by rw[Jsg];exact hql)⟩
 obtain⟨hip,hpl⟩:=hG.kid hx hpk
 have hkc6:J1S (h.next+6) H6 kv ((Js9 (endN Z) x.kids.toNat (i+1)).map (fun (k:Nat)=>(k:Int))):=J1S.mono (hkL.ints (by omega)) (by omega) fun j h1 h2=>o6 j h1 h2
 obtain⟨ip,pp,ep,hip2,lp⟩:=J1S.get hkc6 (i:=q) (x:=(p:Int)) (by rw[List.getElem?_map,hpk];rfl)
 have w2:IntKind.i64.wrap ((q:Int)+1)=((q+1:Nat):Int):=J0s (by omega) (by omega)
 have eS:=Jsu (i:=i) (x:=x) (first:=typN y.kind) (Js9 (endN Z) x.kids.toNat (i+1)) 0 q (Js7 s.rows (endN Z) i) p hpk
 rw[Nat.zero_add] at eS
 obtain⟨b1,b2,b3⟩:=Jss (i:=i) (x:=x) (first:=typN y.kind) ((Js9 (endN Z) x.kids.toNat (i+1)).take q) 0 (Js7 s.rows (endN Z) i)
 generalize setL i x (typN y.kind) 0 ((Js9 (endN Z) x.kids.toNat (i+1)).take q) (Js7 s.rows (endN Z) i)=Mq at *
 obtain⟨cq,hcq⟩:∃ cq,Mq.C[i]?=some cq:=⟨_,List.getElem?_eq_getElem (by omega)⟩
 have hnx6:=hT6.n
 have hfl6:=hT6.fl
 have z0:ld1 0 (H6.get D)=some (iv x.kind):=by rw[o6 D (by omega) (by omega),o5 D (by omega)];exact y0
 have hask:∀ G:SHeap,J0T n 32 [iv x.kind,iv (q:Int),iv (typN y.kind)] G=some (iv (Js8 x.kind q (typN y.kind)),G):=fun G=>Ju2 kx (fun h9=>by have:=mo1 h9;omega) (fun h9=>by have:=mo2 h9;omega) (by omega)
 have hfix:∀ G:SHeap,J0T n 33 [iv x.kind,iv (q:Int)] G=some (.bool (Jsn x.kind q),G):=fun G=>JtQ (by omega)
 have jx1:=J1F (id:=h.next+3) (n:=s.rows.length) (c:=s.rows.length) (i:=p) hpl
 have jx2:=idxB (id:=h.next+4) (n:=s.rows.length) (c:=s.rows.length) (i:=p) hpl
 have jx3:=J1F (id:=h.next+5) (n:=s.rows.length) (c:=s.rows.length) (i:=p) hpl
 have lc:ld1 i (H6.get (h.next+4))=some (.bool cq):=by rw[hT6.c];exact Jst hcq
 have hA0:(h.next+4<H6.next)=True:=by simp;omega
 have sa:J0K Tryz.prog H6 3 (qP (h.next+3) p) (iv (Js8 x.kind q (typN y.kind)))=some (H6.put (h.next+3) (.row (ints (Mq.A.set p (Js8 x.kind q (typN y.kind)))) 3 false false)):=J59 hT6.a (by omega) (by omega)
 have na:∀ j,j≠h.next+3→(H6.put (h.next+3) (.row (ints (Mq.A.set p (Js8 x.kind q (typN y.kind)))) 3 false false)).get j=H6.get j:=fun j hj=>J05 (by omega) (Ne.symm hj)
 have ga1:(H6.put (h.next+3) (.row (ints (Mq.A.set p (Js8 x.kind q (typN y.kind)))) 3 false false)).get (h.next+3)=.row (ints (Mq.A.set p (Js8 x.kind q (typN y.kind)))) 3 false false:=J0b rfl (by omega)
 have nna:(H6.put (h.next+3) (.row (ints (Mq.A.set p (Js8 x.kind q (typN y.kind)))) 3 false false)).next=H6.next:=rfl
 have ffa:(H6.put (h.next+3) (.row (ints (Mq.A.set p (Js8 x.kind q (typN y.kind)))) 3 false false)).floor=H6.floor:=rfl
 have fla:(H6.put (h.next+3) (.row (ints (Mq.A.set p (Js8 x.kind q (typN y.kind)))) 3 false false)).fl H6.floor=H6.put (h.next+3) (.row (ints (Mq.A.set p (Js8 x.kind q (typN y.kind)))) 3 false false):=rfl
 generalize H6.put (h.next+3) (.row (ints (Mq.A.set p (Js8 x.kind q (typN y.kind)))) 3 false false)=Ha at *
 have sc:∀ v:Bool,J0K Tryz.prog Ha 4 (qP (h.next+4) p) (.bool v)=some (Ha.put (h.next+4) (.row (Jsd (Mq.C.set p v)) 4 false false)):=fun v=>Jt0 (by rw[na _ (by omega)];exact hT6.c) (by omega) (by omega)
 have su:∀ v:Bool,J0K Tryz.prog (Ha.put (h.next+4) (.row (Jsd (Mq.C.set p v)) 4 false false)) 3 (qP (h.next+5) p) (iv (i:Int))=some ((Ha.put (h.next+4) (.row (Jsd (Mq.C.set p v)) 4 false false)).put (h.next+5) (.row (ints (Mq.U.set p (i:Int))) 3 false false)):=fun v=>J59 (by rw[J05 (by omega) (by omega),na _ (by omega)];exact hT6.u) (by omega) (by show Ha.floor≤_;omega)
 have fin:∀ v:Bool,v=(((Mq.C[i]?).getD false)||Jsn x.kind q)→TyH h ((Ha.put (h.next+4) (.row (Jsd (Mq.C.set p v)) 4 false false)).put (h.next+5) (.row (ints (Mq.U.set p (i:Int))) 3 false false)) [.string nm,vr,vq,vv,vt,vu,vo,iv s.miss] TP2 (Jsf i x (typN y.kind) Mq q p) ∧
   ∀ j,h.next+6≤j→((Ha.put (h.next+4) (.row (Jsd (Mq.C.set p v)) 4 false false)).put (h.next+5) (.row (ints (Mq.U.set p (i:Int))) 3 false false)).get j=H6.get j:=fun v hv=>by
  have g:∀ j,j≠h.next+4→j≠h.next+5→((Ha.put (h.next+4) (.row (Jsd (Mq.C.set p v)) 4 false false)).put (h.next+5) (.row (ints (Mq.U.set p (i:Int))) 3 false false)).get j=Ha.get j:=fun j h1 h2=>by rw[J05 (by show _<Ha.next;omega) (Ne.symm h2),J05 (by omega) (Ne.symm h1)]
  refine⟨⟨by rw[g _ (by omega) (by omega),na _ (by omega)];exact hT6.p,by rw[g _ (by omega) (by omega),na _ (by omega)];exact hT6.f,by rw[g _ (by omega) (by omega),na _ (by omega)];exact hT6.t,by rw[g _ (by omega) (by omega)];exact ga1,?_,J0b rfl (by show _<Ha.next;omega),by show _≤Ha.next;omega,by show Ha.floor=_;omega,fun j hj=>by rw[g j (by omega) (by omega),na j (by omega)];exact hT6.o j hj⟩,fun j hj=>by rw[g j (by omega) (by omega),na j (by omega)]⟩
  rw[J05 (by show _<Ha.next;omega) (by omega),J0b rfl (by omega)]
  show SObj.row (Jsd (Mq.C.set p v)) 4 false false=.row (Jsd (Mq.C.set p (((Mq.C[i]?).getD false)||Jsn x.kind q))) 4 false false
  rw[hv]
 simp only[evC,seval,↓evP,wt1,wt3,wt5,wt6,wt7,wt8,wt37,wt38,w39,w9,w10,w11,w109,w110,w111,c3,ep,J0m,lp]
 cases cq with
 | true=>
  refine WK.flags (fs:=JtX) (by kernel_rfl) ?_
  unfold JtX
  iterate 28
   refine wcs hsn ?_
   simp only[rgC,seval,J04,J02,WKFC,rgL,rgK,J17,rgS,rgB,Option.bind_some,JcC,wt1,wt3,wt5,wt6,wt7,wt8,wt37,wt38,w39,w9,w10,w11,w109,w110,w111,J0t,J0m,z0,hask,ix2,J1V,lc,hA0,hfix,jx1,jx2,jx3,sa,sc,su,fla,J0V,J6Q,J2T,ffa,nna,JiM,J1g,J0J,Jk2,J6L]
  refine JvR ?_
  obtain⟨hT7,o7⟩:=fin (true) (by rw[hcq];rfl)
  simp only[evC,seval,↓evP,wt1,wt3,wt5,wt6,wt7,wt8,wt37,wt38,w39,w9,w10,w11,w109,w110,w111,w2]
  exact⟨hql,by omega,Nat.le_trans n6 (Nat.le_of_eq nna.symm),fun j h1 h2=>by rw[o7 j h1];exact o6 j h1 h2,by rw[eS];exact hT7⟩
 | false=>
  refine WK.flags (fs:=JtX) (by kernel_rfl) ?_
  unfold JtX
  iterate 28
   refine wcs hsn ?_
   simp only[rgC,seval,J04,J02,WKFC,rgL,rgK,J17,rgS,rgB,Option.bind_some,JcC,wt1,wt3,wt5,wt6,wt7,wt8,wt37,wt38,w39,w9,w10,w11,w109,w110,w111,J0t,J0m,z0,hask,ix2,J1V,lc,hA0,hfix,jx1,jx2,jx3,sa,sc,su,fla,J0V,J6Q,J2T,ffa,nna,JiM,J1g,J0J,Jk2,J6L]
  refine JvR ?_
  obtain⟨hT7,o7⟩:=fin (Jsn x.kind q) (by rw[hcq];rfl)
  simp only[evC,seval,↓evP,wt1,wt3,wt5,wt6,wt7,wt8,wt37,wt38,w39,w9,w10,w11,w109,w110,w111,w2]
  exact⟨hql,by omega,Nat.le_trans n6 (Nat.le_of_eq nna.symm),fun j h1 h2=>by rw[o7 j h1];exact o6 j h1 h2,by rw[eS];exact hT7⟩
theorem JtT {nm:ByteArray} {s:StN} {pv:Value} {lo:Nat} (hp:J3x lo h pv nm s) (hlies:∀ nm' vr vq vv vt vu vo m,pv=.agg #[.string nm',vr,vq,vv,vt,vu,vo,m]→Lies vr s.rows.length) (hs:JdC s) (hl:s.rows.length<9000000) (hg:h.get 0=J14) (hn0:0<h.next) (hfl:h.floor≤h.next) (hn:2*Jbg s+450<n) :
  ∃ v' h',J0T n 9 [pv] h=some (v',h')∧JsA h' h.next v' (Jsb nm s)∧h'.floor=h.floor∧h.next≤h'.next∧∀ i,i<h.next→h'.get i=h.get i:=by
 obtain⟨n,rfl⟩:∃ j,n=j+1:=⟨n-1,by omega⟩
 have htot:Jbg s=s.rows.length+s.queues.length+s.vars.length+s.tags.length+s.rules.length+s.on.length:=rfl
 refine k_ex (J13 ⟨rfl,rfl,rfl⟩) (Jtm (n:=n) (N:=n) hp hlies hs hl hg hn0 hfl (by omega) (by omega)) fun v' h1 hf _ ht=>?_
 obtain⟨⟨tv,rfl,ht⟩,_⟩:=ht
 exact⟨⟨tv,rfl,Jt1 ht hf h⟩,rfl,Nat.le_refl _,fun _ _=>rfl⟩
end
theorem Jvy (v : Value) : J9j Tryz.prog 103 v "winnow/typed.of" = some (163, v) := by kernel_rfl
theorem JvF (v : Value) : J9j Tryz.prog 123 v "winnow/typed.of" = some (164, v) := by kernel_rfl
theorem Jvx (v : Value) : J9j Tryz.prog 124 v "winnow/typed.of" = some (165, v) := by kernel_rfl
theorem as_n (v:Value):J9C Tryz.prog (.iface 103 v) 103 true=some (.tuple #[v,.bool true]):=by kernel_rfl
theorem as_r (v:Value):J9C Tryz.prog (.iface 123 v) 103 true=some (.tuple #[iv 0,.bool false]):=by kernel_rfl
theorem as_h (v:Value):J9C Tryz.prog (.iface 124 v) 103 true=some (.tuple #[iv 0,.bool false]):=by kernel_rfl
theorem JvE:binS Tryz.prog .eql 101 (.tmp 38) (.const .nilIface) .nilIface .nilIface=some (.bool true):=by kernel_rfl
theorem Jvt (t:TypeId) (v:Value):binS Tryz.prog .eql 101 (.tmp 38) (.const .nilIface) (.iface t v) .nilIface=some (.bool false):=by kernel_rfl
section
variable {n:Nat} {h:SHeap}
theorem JvK {v:Int} {lv:Value} (hn:0<n):J0T n 163 [iv v,lv] h=some (iv v,h):=by
 obtain⟨n,rfl⟩:∃ j,n=j+1:=⟨n-1,by omega⟩
 exact J6r (J13 ⟨rfl,rfl,rfl⟩) rfl JuT
theorem JvJ {k a b:Int} {l:List Int} {lv:Value} {lo:Nat} (hk:Jug k=true) (hl:J1S lo h lv l) (h0:l[0]?=some a) (h1:l[l.length-1]?=some b) (ha:-1073741824≤a∧a≤1073741824) (hb:-1073741824≤b∧b≤1073741824) (hll:l.length<1000) (hn:6<n):J0T n 164 [fnV k,lv] h=some (iv (opN k a b),h):=by
 obtain⟨n,rfl⟩:∃ j,n=j+1:=⟨n-1,by omega⟩
 have e:opN k a b=Jud (rawN k a b):=by unfold opN;rw[if_pos hk]
 rw[e]
 exact J6r (J13 ⟨rfl,rfl,rfl⟩) rfl (JuB hk hl h0 h1 ha hb hll (by omega))
theorem JvP {k a b:Int} {l:List Int} {lv:Value} {lo:Nat} (hr:Jug k=false) (hk:Jui k=true) (hl:J1S lo h lv l) (h0:l[0]?=some a) (h1:l[l.length-1]?=some b) (ha:-1073741824≤a∧a≤1073741824) (hb:-1073741824≤b∧b≤1073741824) (hll:l.length<1000) (hn:6<n):J0T n 165 [fnV k,lv] h=some (iv (opN k a b),h):=by
 obtain⟨n,rfl⟩:∃ j,n=j+1:=⟨n-1,by omega⟩
 have e:opN k a b=if Jul k a b=true then 1 else 0:=by unfold opN;rw[if_neg (by rw[hr];decide)]
 rw[e]
 exact J6r (J13 ⟨rfl,rfl,rfl⟩) rfl (JuJ hk hl h0 h1 ha hb hll (by omega))
end
theorem Jvr {size:Int} {C:List Int} {x:RowN} {v:Int} (h:Jue size C x=some v):unK x.kind=false∧binK x.kind=false:=by
 unfold Jue at h
 split at h
 ·rename_i hk;rw[hk];exact⟨rfl,rfl⟩
 split at h
 ·rename_i hk;rw[hk];exact⟨rfl,rfl⟩
 split at h
 ·rename_i hk;rw[hk];exact⟨rfl,rfl⟩
 split at h
 ·rename_i hk;rw[hk];exact⟨rfl,rfl⟩
 split at h
 ·rename_i hk;rw[hk];exact⟨rfl,rfl⟩
 ·cases h
structure KoH (h H:SHeap) (P Cp:List Value) (V:List Int) (I:List Bool):Prop where
 p:H.get h.next=.row P 27 false false
 c:H.get (h.next+1)=.row Cp 39 false false
 v:H.get (h.next+2)=.row (ints V) 3 false false
 b:H.get (h.next+3)=.row (Jsd I) 4 false false
 n:h.next+4≤H.next
 fl:H.floor=h.floor
 o:∀ i,i<h.next→H.get i=h.get i
theorem KoH.mono {h H H':SHeap} {P Cp:List Value} {V:List Int} {I:List Bool} (hT:KoH h H P Cp V I) (hn:H.next≤H'.next) (hf:H'.floor=H.floor) (hg:∀ i,i<h.next+4→H'.get i=H.get i):KoH h H' P Cp V I:=
 ⟨by rw[hg _ (by omega)];exact hT.p,by rw[hg _ (by omega)];exact hT.c,by rw[hg _ (by omega)];exact hT.v,by rw[hg _ (by omega)];exact hT.b,by have:=hT.n;omega,hf.trans hT.fl,fun i hi=>by rw[hg i (by omega)];exact hT.o i hi⟩
theorem KoH.setV {h H:SHeap} {P Cp:List Value} {V:List Int} {I:List Bool} (hT:KoH h H P Cp V I) (V':List Int):KoH h (H.put (h.next+2) (.row (ints V') 3 false false)) P Cp V' I:=by
 have hn:=hT.n
 have g:∀ j,j≠h.next+2→(H.put (h.next+2) (.row (ints V') 3 false false)).get j=H.get j:=fun j hj=>J05 (by omega) (Ne.symm hj)
 exact⟨by rw[g _ (by omega)];exact hT.p,by rw[g _ (by omega)];exact hT.c,J0b rfl (by omega),by rw[g _ (by omega)];exact hT.b,hn,hT.fl,fun j hj=>by rw[g j (by omega)];exact hT.o j hj⟩
theorem KoH.setB {h H:SHeap} {P Cp:List Value} {V:List Int} {I:List Bool} (hT:KoH h H P Cp V I) (I':List Bool):KoH h (H.put (h.next+3) (.row (Jsd I') 4 false false)) P Cp V I':=by
 have hn:=hT.n
 have g:∀ j,j≠h.next+3→(H.put (h.next+3) (.row (Jsd I') 4 false false)).get j=H.get j:=fun j hj=>J05 (by omega) (Ne.symm hj)
 exact⟨by rw[g _ (by omega)];exact hT.p,by rw[g _ (by omega)];exact hT.c,by rw[g _ (by omega)];exact hT.v,J0b rfl (by omega),hn,hT.fl,fun j hj=>by rw[g j (by omega)];exact hT.o j hj⟩
theorem Jvg {Z:List RowN} {s:StN} {size:Int} {C:List Int} (hG:GoodT Z s) (hF:FitC s size C) {m:Nat} {x:RowN} (hx:s.rows[m]?=some x) (hop:unK x.kind=true∨binK x.kind=true) :
  ((Js9 (endN Z) x.kids.toNat (m+1)).all (fun p=>(conN s.rows (endN Z) size C p).isSome)=true→∃ a b,((Js9 (endN Z) x.kids.toNat (m+1)).map (fun p=>(conN s.rows (endN Z) size C p).getD 0))[0]?=some a∧((Js9 (endN Z) x.kids.toNat (m+1)).map (fun p=>(conN s.rows (endN Z) size C p).getD 0))[((Js9 (endN Z) x.kids.toNat (m+1)).map (fun p=>(conN s.rows (endN Z) size C p).getD 0)).length-1]?=some b∧(-1073741824≤a∧a≤1073741824)∧(-1073741824≤b∧b≤1073741824)∧conN s.rows (endN Z) size C m=some (opN x.kind a b)) ∧
  ((Js9 (endN Z) x.kids.toNat (m+1)).all (fun p=>(conN s.rows (endN Z) size C p).isSome)=false→conN s.rows (endN Z) size C m=none)∧x.kids.toNat≤2:=by
 have hcq:=Juq (size:=size) (C:=C) hG hx
 cases hu:unK x.kind with
 | true=>
  have hk:=hG.un hx hu
  have k0:=hG.kid0 hx (by omega)
  rw[if_pos hu] at hcq
  have e:Js9 (endN Z) x.kids.toNat (m+1)=[m+1]:=by rw[hk];rfl
  rw[e,hcq]
  cases hc:conN s.rows (endN Z) size C (m+1) with
  | none=>exact⟨fun h=>by simp[hc] at h,fun _=>rfl,by omega⟩
  | some a=>
   have hr:=Juk hG hF k0.2 hc
   exact⟨fun _=>⟨a,a,by simp[hc],by simp[hc],hr,hr,rfl⟩,fun h=>by simp[hc] at h,by omega⟩
 | false=>
  have hb:binK x.kind=true:=by
   rcases hop with h | h
   ·rw[hu] at h;cases h
   ·exact h
  have hk:=hG.bin hx hb
  have k0:=hG.kid0 hx (by omega)
  have k1:=hG.kid1 hx hk
  rw[if_neg (by rw[hu];decide),if_pos hb] at hcq
  have e:Js9 (endN Z) x.kids.toNat (m+1)=[m+1,endN Z (m+1)]:=by rw[hk];rfl
  rw[e,hcq]
  cases hc:conN s.rows (endN Z) size C (m+1) with
  | none=>exact⟨fun h=>by simp[hc] at h,fun _=>rfl,by omega⟩
  | some a=>
   cases hd:conN s.rows (endN Z) size C (endN Z (m+1)) with
   | none=>exact⟨fun h=>by simp[hc,hd] at h,fun _=>rfl,by omega⟩
   | some b=>
    exact⟨fun _=>⟨a,b,by simp[hc],by simp[hc,hd],Juk hG hF k0.2 hc,Juk hG hF k1.2 hd,rfl⟩,fun h=>by simp[hc,hd] at h,by omega⟩
def KoV (R:List RowN) (con:Nat→Option Int) (i:Nat) (V:List Int) (I:List Bool):Prop:=V.length=R.length∧I.length=R.length∧∀ j,j<R.length→(i≤j→V[j]?=some ((con j).getD 0)∧I[j]?=some (con j).isSome)∧(j<i→V[j]?=some 0∧I[j]?=some false)
theorem KoV.step {R:List RowN} {con:Nat→Option Int} {m:Nat} {V:List Int} {I:List Bool} (hK:KoV R con (m+1) V I) (hm:m<R.length) {V':List Int} {I':List Bool} (h1:V'.length=V.length) (h2:I'.length=I.length) (h3:V'[m]?=some ((con m).getD 0)) (h4:I'[m]?=some (con m).isSome) (h5:∀ j,j≠m→V'[j]?=V[j]?∧I'[j]?=I[j]?):KoV R con m V' I':=by
 obtain⟨a,b,c⟩:=hK
 refine⟨by omega,by omega,fun j hj=>⟨fun h=>?_,fun h=>?_⟩⟩
 ·rcases Nat.eq_or_lt_of_le h with e | e
  ·subst e
   exact⟨h3,h4⟩
  ·rw[(h5 j (by omega)).1,(h5 j (by omega)).2]
   exact(c j hj).1 (by omega)
 ·rw[(h5 j (by omega)).1,(h5 j (by omega)).2]
  exact(c j hj).2 (by omega)
def JvI:List (Bool × Bool × List Operand):=[fa1,fa1,fa1,fa1,fa4 [.tmp 15],fa4 [.tmp 15],fa4 [.tmp 15],fa4 [.tmp 15],fa4 [.tmp 19],fa0]
def JvN:List (Bool × Bool × List Operand):=[fa1,fa1,fa3 [.tmp 31],fa1,fa1,fa3 [.tmp 31,.tmp 34],fa0,fa0]
section
variable {n N:Nat} {h:SHeap}
theorem Jv9 {nm:ByteArray} {s:StN} {Z:List RowN} {pv cv:Value} {lo lc:Nat} {size:Int} {C:List Int} (hG:GoodT Z s) (hF:FitC s size C) (hp:J3x lo h pv nm s) (hc:JpX lc h cv size C) (hl:s.rows.length<9000000) (hfl:h.floor≤h.next) (hn:s.rows.length+60<n) (hN:s.rows.length+40<N) :
  ∃ h',J0L Tryz.prog (J0T n) N 43 [pv,cv] h=some (.tuple #[qS (h.next+2) s.rows.length s.rows.length,qS (h.next+3) s.rows.length s.rows.length],h')∧∃ P Cp V I,KoH h h' P Cp V I∧KoV s.rows (conN s.rows (endN Z) size C) 0 V I:=by
 obtain⟨vr,vq,vv,vt,vu,vo,rfl,p1,p2,p3,p4,p5,p6⟩:=id hp
 obtain⟨vc,rfl,pc⟩:=id hc
 obtain⟨_,ar,cr,rfl,_⟩:=id p1.2
 have hsn:=(J1z n).2
 have htot:Jbg s=s.rows.length+s.queues.length+s.vars.length+s.tags.length+s.rules.length+s.on.length:=rfl
 refine J1N (R:=fun h'=>∃ P Cp V I,KoH h h' P Cp V I∧KoV s.rows (conN s.rows (endN Z) size C) 0 V I) Tryz.func43 rfl (by simp[Tryz.f43]) ?_
 have hr:Tryz.f43.results.toList=[.tmp 4,.tmp 5]:=rfl
 have ca:(Value.agg #[.string nm,.slice ar s.rows.length cr,vq,vv,vt,vu,vo,iv s.miss]).cells.toList=[.string nm,.slice ar s.rows.length cr,vq,vv,vt,vu,vo,iv s.miss]:=rfl
 have oa:=all8 (nm:=nm) p1 p2 p3 p4 p5 p6
 have cb:(Value.agg #[iv size,vc]).cells.toList=[iv size,vc]:=rfl
 have ob:[iv size,vc].all one=true:=by simp only[List.all_cons,List.all_nil,J0p.one pc,J5K,Bool.and_self]
 have g0:∀ (a b:SObj),let A:=(h.push a).push b
   A.get h.next=a∧A.get (h.next+1)=b∧A.next=h.next+2∧A.floor=h.floor∧∀ i,i<h.next→A.get i=h.get i:=fun a b=>
  ⟨J4c,J48,rfl,rfl,fun i hi=>by rw[J06 (by show i<h.next+1;omega),J06 hi]⟩
 obtain⟨gA,gB,nG,fG,gO⟩:=g0 (.row [.string nm,.slice ar s.rows.length cr,vq,vv,vt,vu,vo,iv s.miss] 27 false false) (.row [iv size,vc] 39 false false)
 simp only[evC,seval,↓evP,rpD,J0X,J2t,ca,oa,cb,ob,sz30,szCp]
 generalize (h.push (.row [.string nm,.slice ar s.rows.length cr,vq,vv,vt,vu,vo,iv s.miss] 27 false false)).push (.row [iv size,vc] 39 false false)=Q at *
 have hsl:=hG.sk.1
 have npos:0<s.rows.length:=by have:=hG.t.pos;omega
 have len1:=fun h'=>JfA p1.2 h'
 have x1:ld1 1 (Q.get h.next)=some (.slice ar s.rows.length cr):=by rw[gA];rfl
 have mkI:∀ H:SHeap,J2l Tryz.prog H 25 (iv (s.rows.length:Int)) (iv (s.rows.length:Int))=some (qS H.next s.rows.length s.rows.length,H.push (.row (ints (List.replicate s.rows.length 0)) 3 false false)):=fun H=>by
  have:=Jrq (P:=Tryz.prog) (h:=H) (t:=25) (e:=3) (z:=.int .i64 0) Tryz.underlying25 sz3 by3 J8P rfl rfl (by decide) (by decide) (n:=s.rows.length) (by omega)
  rw[show J3e (Value.int IntKind.i64 0).cells.toList s.rows.length=ints (List.replicate s.rows.length 0) from J8K _] at this
  exact this
 have mkB:∀ H:SHeap,J2l Tryz.prog H 63 (iv (s.rows.length:Int)) (iv (s.rows.length:Int))=some (qS H.next s.rows.length s.rows.length,H.push (.row (Jsd (List.replicate s.rows.length false)) 4 false false)):=fun H=>by
  have:=Jrq (P:=Tryz.prog) (h:=H) (t:=63) (e:=4) (z:=.bool false) Tryz.underlying63 sz4 by4 JtV rfl rfl (by decide) (by decide) (n:=s.rows.length) (by omega)
  rw[show J3e (Value.bool false).cells.toList s.rows.length=Jsd (List.replicate s.rows.length false) from Jsz _] at this
  exact this
 have q1:∀ a,ld1 1 ((Q.push a).get h.next)=some (.slice ar s.rows.length cr):=fun a=>by rw[J06 (by omega)];exact x1
 have q2:∀ a b,ld1 1 (((Q.push a).push b).get h.next)=some (.slice ar s.rows.length cr):=fun a b=>by rw[J06 (by show h.next<Q.next+1;omega)];exact q1 a
 have g2:∀ (a b:SObj),let A:=(Q.push a).push b
   A.get Q.next=a∧A.get (Q.next+1)=b∧A.next=Q.next+2∧A.floor=Q.floor∧∀ i,i<Q.next→A.get i=Q.get i:=fun a b=>
  ⟨J4c,J48,rfl,rfl,fun i hi=>by rw[J06 (by show i<Q.next+1;omega),J06 hi]⟩
 have h4:=g2 (.row (ints (List.replicate s.rows.length 0)) 3 false false) (.row (Jsd (List.replicate s.rows.length false)) 4 false false)
 have hA0:(h.next<Q.next)=True:=by simp;omega
 have qf:∀ a,(Q.push a).fl Q.floor=Q.push a:=fun a=>rfl
 have qf2:∀ a b,((Q.push a).push b).fl Q.floor=(Q.push a).push b:=fun a b=>rfl
 refine WK.flags (fs:=JvI) (by kernel_rfl) ?_
 unfold JvI
 iterate 10
  refine wcs hsn ?_
  simp only[rgC,seval,J04,J02,WKFC,rgL,rgK,J17,rgS,rgB,Option.bind_some,JcC,J0y,J0F,x1,q1,q2,len1,mkI,mkB,hA0,qf,qf2,J0a,J0i,J1D,JiM,J1g,J0J,Jk2,J6L]
 refine JvR ?_
 obtain⟨ga,gb,n4,f4,o4⟩:=h4
 have xB:ld1 1 (((Q.push (.row (ints (List.replicate s.rows.length 0)) 3 false false)).push (.row (Jsd (List.replicate s.rows.length false)) 4 false false)).get h.next)=some (.slice ar s.rows.length cr):=q2 _ _
 have w9:IntKind.i64.wrap ((s.rows.length:Int)-1)=(s.rows.length:Int)-1:=J0s (by omega) (by omega)
 simp only[evC,seval,↓evP,Nat.zero_add,J0y,J0F,xB,len1,w9]
 generalize (Q.push (.row (ints (List.replicate s.rows.length 0)) 3 false false)).push (.row (Jsd (List.replicate s.rows.length false)) 4 false false)=B at *
 rw[nG] at ga gb
 have hT0:KoH h B [.string nm,.slice ar s.rows.length cr,vq,vv,vt,vu,vo,iv s.miss] [iv size,vc] (List.replicate s.rows.length 0) (List.replicate s.rows.length false):=⟨by rw[o4 _ (by omega)];exact gA,by rw[o4 _ (by omega)];exact gB,ga,gb,by omega,by omega,fun i hi=>by rw[o4 i (by omega)];exact gO i hi⟩
 have hK0:KoV s.rows (conN s.rows (endN Z) size C) s.rows.length (List.replicate s.rows.length 0) (List.replicate s.rows.length false):=⟨by simp,by simp,fun j hj=>⟨fun h9=>by omega,fun _=>⟨by rw[List.getElem?_replicate,if_pos hj],by rw[List.getElem?_replicate,if_pos hj]⟩⟩⟩
 refine WK.loop (fun k s'=>s'.T.get 2=qP h.next 0∧s'.T.get 3=qP (h.next+1) 0∧s'.T.get 6=qS (h.next+2) s.rows.length s.rows.length∧s'.T.get 7=qS (h.next+3) s.rows.length s.rows.length∧s'.T.get 8=iv ((s.rows.length:Int)-1-(k:Int))∧k≤s.rows.length∧∃ V I,KoH h s'.h [.string nm,.slice ar s.rows.length cr,vq,vv,vt,vu,vo,iv s.miss] [iv size,vc] V I∧KoV s.rows (conN s.rows (endN Z) size C) (s.rows.length-k) V I) s.rows.length (by omega) ?_ ?_
 ·exact⟨by simp only[evC,seval,↓evP,rpC],by simp only[evC,seval,↓evP,rpC],by simp only[evC,seval,↓evP,rpC,nG],by simp only[evC,seval,↓evP,rpC,J1D,nG],by simp only[evC,seval,↓evP,rpC] <;> omega,by omega,_,_,hT0,hK0⟩
 rintro k ⟨T,H⟩ hk ⟨t2,t3,t6,t7,t8,hkl,V,I,hT,hK⟩
 simp only at t2 t3 t6 t7 t8 hT
 by_cases hlt:k<s.rows.length
 rotate_left
 ·have c1:decide ((s.rows.length:Int)-1-(k:Int)≥0)=false:=by simp;omega
  have hkn:k=s.rows.length:=by omega
  subst hkn
  rw[Nat.sub_self] at hK
  simp only[evC,seval,↓evP,hr,t2,t3,t6,t7,t8,c1]
  exact⟨_,_,_,_,hT,hK⟩
 obtain⟨m,hm⟩:∃ m,s.rows.length=k+1+m:=⟨s.rows.length-(k+1),by omega⟩
 have hml:m<s.rows.length:=by omega
 have em:(s.rows.length:Int)-1-(k:Int)=(m:Int):=by omega
 rw[em] at t8
 rw[show s.rows.length-k=m+1 by omega] at hK
 have c1:decide ((m:Int)≥0)=true:=by simp
 obtain⟨x,hx⟩:∃ x,s.rows[m]?=some x:=⟨_,List.getElem?_eq_getElem hml⟩
 have hnx:=hT.n
 have hfl':=hT.fl
 obtain⟨hVl,hIl,hKj⟩:=id hK
 have hvH:J0l H (.slice ar s.rows.length cr) s.rows:=p1.1.mono (by omega) hT.o
 obtain⟨ia,pa,ea,hia,_,_,_,_,_,la⟩:=hvH.row hx
 have xa1:ld1 1 (H.get h.next)=some (.slice ar s.rows.length cr):=by rw[hT.p];rfl
 have lC:ldN 2 0 (H.get (h.next+1))=some (.agg #[iv size,vc]):=by rw[hT.c];rfl
 have hcH:JpX lc H (.agg #[iv size,vc]) size C:=hc.mono (by omega) fun j _ hj=>hT.o j hj
 obtain⟨H1,hmean,n1,f1,o1⟩:=Jvq (n:=n) (x:=x) hcH (fun h9=>by have:=hG.qn m x hx (by rw[h9];rfl);have:=hF.len;omega) (by omega)
 have hT1:KoH h H1 [.string nm,.slice ar s.rows.length cr,vq,vv,vt,vu,vo,iv s.miss] [iv size,vc] V I:=hT.mono n1 f1 fun j hj=>o1 j (by omega)
 have w1:IntKind.i64.wrap ((m:Int)-1)=(s.rows.length:Int)-1-((k+1:Nat):Int):=by rw[J0s (by omega) (by omega)];omega
 have ek:s.rows.length-(k+1)=m:=by omega
 simp only[evC,seval,↓evP,t2,t3,t6,t7,t8,c1]
 refine WK.flags (fs:=JvN) (by kernel_rfl) ?_
 unfold JvN
 iterate 8
  refine wcs hsn ?_
  simp only[rgC,seval,J04,J02,WKFC,rgL,rgK,J17,rgS,rgB,Option.bind_some,JcC,t2,t3,t6,t7,t8,J0y,J0F,xa1,ea,J0u,la,Jq3,lC,hmean,JiM,J1g,J0J,Jk2,J6L]
 refine JvR ?_
 have hcq:=Juq (size:=size) (C:=C) hG hx
 obtain⟨hV0,hI0⟩:=(hKj m hml).2 (by omega)
 have ixv:=J1F (id:=h.next+2) (n:=s.rows.length) (c:=s.rows.length) (i:=m) hml
 have ixb:=idxB (id:=h.next+3) (n:=s.rows.length) (c:=s.rows.length) (i:=m) hml
 have fH1:H1.fl H.floor=H1:=by rw[← f1];exact J6L H1
 have hnx1:=hT1.n
 have hfl1:=hT1.fl
 have hcast:IntKind.i64.wrap ((m:Int)-1)=IntKind.i64.wrap ((m:Int)-1):=rfl
 have split3:Jue size C x≠none∨(Jue size C x=none∧(unK x.kind=true∨binK x.kind=true))∨(Jue size C x=none∧unK x.kind=false∧binK x.kind=false):=by
  cases Jue size C x <;> cases unK x.kind <;> cases binK x.kind <;> simp
 rcases split3 with hlf | ⟨hlf,hop⟩ | ⟨hlf,hun,hbn⟩
 ·obtain⟨v,hv⟩:∃ v,Jue size C x=some v:=Option.ne_none_iff_exists'.1 hlf
  have hnu:unK x.kind=false∧binK x.kind=false:=Jvr hv
  have hc0:conN s.rows (endN Z) size C m=some v:=by rw[hcq,if_neg (by rw[hnu.1];decide),if_neg (by rw[hnu.2];decide)];exact hv
  have e:Jub size C x=.iface 103 (iv v):=by unfold Jub;rw[hv]
  rw[e]
  have sb:J0K Tryz.prog H1 4 (qP (h.next+3) m) (.bool true)=some (H1.put (h.next+3) (.row (Jsd (I.set m true)) 4 false false)):=Jt0 hT1.b (by omega) (by omega)
  have hT2:=hT1.setB (I.set m true)
  have n2:(H1.put (h.next+3) (.row (Jsd (I.set m true)) 4 false false)).next=H1.next:=rfl
  have f2:(H1.put (h.next+3) (.row (Jsd (I.set m true)) 4 false false)).floor=H1.floor:=rfl
  generalize H1.put (h.next+3) (.row (Jsd (I.set m true)) 4 false false)=H2 at *
  have lb:ld1 m (H2.get (h.next+3))=some (.bool true):=by rw[hT2.b];exact Jst (List.getElem?_set_self (by omega))
  have hof:=JvK (n:=n) (h:=H2) (v:=v) (lv:=Z0) (by omega)
  have sv:J0K Tryz.prog H2 3 (qP (h.next+2) m) (iv v)=some (H2.put (h.next+2) (.row (ints (V.set m v)) 3 false false)):=J59 hT2.v (by omega) (by omega)
  simp only[evC,seval,↓evP,t2,t3,t6,t7,t8,Jvt,fH1,ixb,sb,as_n,J1V,lb,Jvy,hof,ixv,sv,w1]
  exact⟨hlt,by omega,_,_,hT2.setV _,by rw[ek];exact hK.step hml (by rw[List.length_set]) (by rw[List.length_set]) (by rw[hc0,List.getElem?_set_self (by omega)];rfl) (by rw[hc0,List.getElem?_set_self (by omega)];rfl) fun j hj=>⟨List.getElem?_set_ne (Ne.symm hj),List.getElem?_set_ne (Ne.symm hj)⟩⟩
 ·obtain⟨mv,hmv⟩:∃ mv,mv=Jub size C x:=⟨_,rfl⟩
  rw[← hmv]
  have hrh:=Jum.1 hop
  have emv:(Jug x.kind=true∧mv=.iface 123 (fnV x.kind))∨(Jug x.kind=false∧Jui x.kind=true∧mv=.iface 124 (fnV x.kind)):=by
   cases h9:Jug x.kind with
   | true=>exact .inl ⟨rfl,by rw[hmv];unfold Jub;rw[hlf];simp[h9]⟩
   | false=>
    have h8:Jui x.kind=true:=by
     rcases hrh with h7 | h7
     ·rw[h9] at h7;cases h7
     ·exact h7
    exact .inr ⟨rfl,h8,by rw[hmv];unfold Jub;rw[hlf];simp[h9,h8]⟩
  have hAs:J9C Tryz.prog mv 103 true=some (.tuple #[iv 0,.bool false]):=by
   rcases emv with⟨_,e⟩ | ⟨_,_,e⟩
   ·rw[e];exact as_r _
   ·rw[e];exact as_h _
  have hIf:binS Tryz.prog .eql 101 (.tmp 38) (.const .nilIface) mv .nilIface=some (.bool false):=by
   rcases emv with⟨_,e⟩ | ⟨_,_,e⟩
   ·rw[e];exact Jvt _ _
   ·rw[e];exact Jvt _ _
  have sb:J0K Tryz.prog H1 4 (qP (h.next+3) m) (.bool true)=some (H1.put (h.next+3) (.row (Jsd (I.set m true)) 4 false false)):=Jt0 hT1.b (by omega) (by omega)
  have hT2:=hT1.setB (I.set m true)
  have n2:(H1.put (h.next+3) (.row (Jsd (I.set m true)) 4 false false)).next=H1.next:=rfl
  have f2:(H1.put (h.next+3) (.row (Jsd (I.set m true)) 4 false false)).floor=H1.floor:=rfl
  have xa2:ld1 1 ((H1.put (h.next+3) (.row (Jsd (I.set m true)) 4 false false)).get h.next)=some (.slice ar s.rows.length cr):=by rw[hT2.p];rfl
  have hv2:J0l (H1.put (h.next+3) (.row (Jsd (I.set m true)) 4 false false)) (.slice ar s.rows.length cr) s.rows:=p1.1.mono (by omega) hT2.o
  obtain⟨zz,hzz,_,hzk⟩:=hG.z hx
  obtain⟨kv,H5,hkids,hkL,f5,n5,o5⟩:=Ju7 (n:=n) hG.t hG.sk hv2 hzz (by omega) (by omega) (by omega)
  rw[← hzk] at hkL
  have hkc:=hkL.ints (Nat.le_refl _)
  have lenK:=fun h'=>JfF hkc h'
  have hkl:((Js9 (endN Z) x.kids.toNat (m+1)).map (fun (k:Nat)=>(k:Int))).length=x.kids.toNat:=by rw[List.length_map,Jsg]
  obtain⟨k0,hch,hel,hei⟩:=hG.kids0 hx
  rw[hkl,show ((x.kids.toNat:Nat):Int)=x.kids by omega] at lenK
  have hT5:KoH h H5 [.string nm,.slice ar s.rows.length cr,vq,vv,vt,vu,vo,iv s.miss] [iv size,vc] V (I.set m true):=hT2.mono (by omega) (by omega) fun j hj=>o5 j (by omega)
  obtain⟨hyes,hno,hk2⟩:=Jvg (size:=size) (C:=C) hG hF hx hop
  simp only[evC,seval,↓evP,t2,t3,t6,t7,t8,hIf,fH1,ixb,sb,hAs,Nat.zero_add,J0y,J0F,xa2,hkids,lenK]
  generalize H1.put (h.next+3) (.row (Jsd (I.set m true)) 4 false false)=H2 at *
  generalize hks:Js9 (endN Z) x.kids.toNat (m+1)=ks at *
  have hksl:ks.length=x.kids.toNat:=by rw[← hks,Jsg]
  refine WK.loop (fun q s'=>s'.T.get 2=qP h.next 0∧s'.T.get 3=qP (h.next+1) 0∧s'.T.get 6=qS (h.next+2) s.rows.length s.rows.length∧s'.T.get 7=qS (h.next+3) s.rows.length s.rows.length∧s'.T.get 8=iv (m:Int)∧s'.T.get 9=mv∧s'.T.get 53=kv∧s'.T.get 54=iv x.kids∧s'.T.get 55=iv (q:Int)∧q≤x.kids.toNat∧H5.next≤s'.h.next∧(∀ j,h.next+4≤j→j<H5.next→s'.h.get j=H5.get j)∧∃ w,s'.T.get 10=w∧IntL s'.h H5.next w ((ks.take q).map (fun p=>(conN s.rows (endN Z) size C p).getD 0))∧KoH h s'.h [.string nm,.slice ar s.rows.length cr,vq,vv,vt,vu,vo,iv s.miss] [iv size,vc] V (I.set m ((ks.take q).all (fun p=>(conN s.rows (endN Z) size C p).isSome)))) x.kids.toNat (by omega) ?_ ?_
  ·exact⟨by simp only[evC,seval,↓evP,rpC,t2],by simp only[evC,seval,↓evP,rpC,t3],by simp only[evC,seval,↓evP,rpC,t6],by simp only[evC,seval,↓evP,rpC,t7],by simp only[evC,seval,↓evP,rpC,t8],by simp only[evC,seval,↓evP,rpC],by simp only[evC,seval,↓evP,rpC],by simp only[evC,seval,↓evP,rpC],by simp only[evC,seval,↓evP,rpC] <;> rfl,by omega,Nat.le_refl _,fun _ _ _=>rfl,Z0,by simp only[evC,seval,↓evP,rpC],.inl ⟨rfl,rfl⟩,hT5⟩
  rintro q ⟨T4,H6⟩ hq ⟨u2,u3,u6,u7,u8,u9,u53,u54,u55,hqk,n6,o6,w,u10,hL,hT6⟩
  simp only at u2 u3 u6 u7 u8 u9 u53 u54 u55 n6 o6 u10 hL hT6
  by_cases hql:q<x.kids.toNat
  rotate_left
  ·have c3:decide ((q:Int)<x.kids)=false:=by simp;omega
   have hq9:q=x.kids.toNat:=by omega
   subst hq9
   rw[List.take_of_length_le (by omega)] at hL hT6
   have hnx6:=hT6.n
   have hfl6:=hT6.fl
   have lb:ld1 m (H6.get (h.next+3))=some (.bool (ks.all (fun p=>(conN s.rows (endN Z) size C p).isSome))):=by rw[hT6.b];exact Jst (List.getElem?_set_self (by omega))
   cases hall:ks.all (fun p=>(conN s.rows (endN Z) size C p).isSome) with
   | false=>
    rw[hall] at lb hT6
    have hc0:=hno hall
    simp only[evC,seval,↓evP,u2,u3,u6,u7,u8,u9,u53,u54,u55,u10,c3,ixb,J1V,lb,w1]
    exact⟨hlt,by omega,_,_,hT6,by rw[ek];exact hK.step hml rfl (by rw[List.length_set]) (by rw[hc0];exact hV0) (by rw[hc0,List.getElem?_set_self (by omega)];rfl) fun j hj=>⟨rfl,List.getElem?_set_ne (Ne.symm hj)⟩⟩
   | true=>
    rw[hall] at lb hT6
    obtain⟨a,b,ha0,hb0,har,hbr,hc0⟩:=hyes hall
    have hLi:=hL.ints (Nat.le_refl _)
    have sv:J0K Tryz.prog H6 3 (qP (h.next+2) m) (iv (opN x.kind a b))=some (H6.put (h.next+2) (.row (ints (V.set m (opN x.kind a b))) 3 false false)):=J59 hT6.v (by omega) (by omega)
    have fin:KoV s.rows (conN s.rows (endN Z) size C) m (V.set m (opN x.kind a b)) (I.set m true):=hK.step hml (by rw[List.length_set]) (by rw[List.length_set]) (by rw[hc0,List.getElem?_set_self (by omega)];rfl) (by rw[hc0,List.getElem?_set_self (by omega)];rfl) fun j hj=>⟨List.getElem?_set_ne (Ne.symm hj),List.getElem?_set_ne (Ne.symm hj)⟩
    have hl1000:(ks.map (fun p=>(conN s.rows (endN Z) size C p).getD 0)).length<1000:=by rw[List.length_map];omega
    rcases emv with⟨hr1,e⟩ | ⟨hr1,hh1,e⟩
    ·have hof:=JvJ (n:=n) hr1 hLi ha0 hb0 har hbr hl1000 (by omega)
     rw[e] at u9
     simp only[evC,seval,↓evP,u2,u3,u6,u7,u8,u9,u53,u54,u55,u10,c3,ixb,J1V,lb,JvF,hof,ixv,sv,w1]
     exact⟨hlt,by omega,_,_,hT6.setV _,by rw[ek];exact fin⟩
    ·have hof:=JvP (n:=n) hr1 hh1 hLi ha0 hb0 har hbr hl1000 (by omega)
     rw[e] at u9
     simp only[evC,seval,↓evP,u2,u3,u6,u7,u8,u9,u53,u54,u55,u10,c3,ixb,J1V,lb,Jvx,hof,ixv,sv,w1]
     exact⟨hlt,by omega,_,_,hT6.setV _,by rw[ek];exact fin⟩
  have c3:decide ((q:Int)<x.kids)=true:=by simp;omega
  obtain⟨p,hpk⟩:∃ p,ks[q]?=some p:=⟨_,List.getElem?_eq_getElem (by omega)⟩
  obtain⟨hip,hpl⟩:=hG.kid (k:=q) hx (by rw[hks];exact hpk)
  have hnx6:=hT6.n
  have hfl6:=hT6.fl
  have hnx5:=hT5.n
  have hkc6:J1S (h.next+4) H6 kv (ks.map (fun (k:Nat)=>(k:Int))):=J1S.mono (hkL.ints (by omega)) (by omega) fun j h1 h2=>o6 j h1 h2
  obtain⟨ip,pp,ep,hip2,lp⟩:=J1S.get hkc6 (i:=q) (x:=(p:Int)) (by rw[List.getElem?_map,hpk];rfl)
  have wq:IntKind.i64.wrap ((q:Int)+1)=((q+1:Nat):Int):=J0s (by omega) (by omega)
  obtain⟨hVp,hIp⟩:=(hKj p hpl).1 (by omega)
  have jxv:=J1F (id:=h.next+2) (n:=s.rows.length) (c:=s.rows.length) (i:=p) hpl
  have jxb:=idxB (id:=h.next+3) (n:=s.rows.length) (c:=s.rows.length) (i:=p) hpl
  have lv:ld1 p (H6.get (h.next+2))=some (iv ((conN s.rows (endN Z) size C p).getD 0)):=by rw[hT6.v];exact J2z hVp
  obtain⟨w',H7,happ,hL',f7,n7,o7⟩:=JsR (x:=(conN s.rows (endN Z) size C p).getD 0) hL (by omega) (by omega) (by rw[List.length_map,List.length_take];omega)
  have hT7:=hT6.mono (H':=H7) (by omega) f7 fun j hj=>o7 j (by omega)
  have etk:ks.take (q+1)=ks.take q++[p]:=by rw[List.take_add_one,hpk];rfl
  have eall:(ks.take (q+1)).all (fun p=>(conN s.rows (endN Z) size C p).isSome)=((ks.take q).all (fun p=>(conN s.rows (endN Z) size C p).isSome)&&(conN s.rows (endN Z) size C p).isSome):=by rw[etk,List.all_append];simp
  have emap:(ks.take q).map (fun p=>(conN s.rows (endN Z) size C p).getD 0)++[(conN s.rows (endN Z) size C p).getD 0]=(ks.take (q+1)).map (fun p=>(conN s.rows (endN Z) size C p).getD 0):=by rw[etk,List.map_append];rfl
  rw[emap] at hL'
  have lm7:ld1 m (H7.get (h.next+3))=some (.bool ((ks.take q).all (fun p=>(conN s.rows (endN Z) size C p).isSome))):=by rw[hT7.b];exact Jst (List.getElem?_set_self (by omega))
  have lp7:ld1 p (H7.get (h.next+3))=some (.bool (conN s.rows (endN Z) size C p).isSome):=by rw[hT7.b];exact Jst (by rw[List.getElem?_set_ne (by omega)];exact hIp)
  have sb7:∀ v:Bool,J0K Tryz.prog H7 4 (qP (h.next+3) m) (.bool v)=some (H7.put (h.next+3) (.row (Jsd (I.set m v)) 4 false false)):=fun v=>by
   have:=Jt0 (x:=v) (i:=m) hT7.b (by rw[List.length_set];omega) (by omega)
   rw[List.set_set] at this
   exact this
  have hnx7:=hT7.n
  have fin:∀ v:Bool,v=(ks.take (q+1)).all (fun p=>(conN s.rows (endN Z) size C p).isSome)→IntL (H7.put (h.next+3) (.row (Jsd (I.set m v)) 4 false false)) H5.next w' ((ks.take (q+1)).map (fun p=>(conN s.rows (endN Z) size C p).getD 0))∧KoH h (H7.put (h.next+3) (.row (Jsd (I.set m v)) 4 false false)) [.string nm,.slice ar s.rows.length cr,vq,vv,vt,vu,vo,iv s.miss] [iv size,vc] V (I.set m ((ks.take (q+1)).all (fun p=>(conN s.rows (endN Z) size C p).isSome)))∧∀ j,h.next+4≤j→j<H5.next→(H7.put (h.next+3) (.row (Jsd (I.set m v)) 4 false false)).get j=H5.get j:=fun v hv=>by
   refine⟨hL'.mono (Nat.le_refl _) fun j h1 h2=>J05 (by omega) (by omega),by rw[← hv];exact hT7.setB _,fun j h1 h2=>by rw[J05 (by omega) (by omega),o7 j h2];exact o6 j h1 h2⟩
  have nn7:∀ v:Bool,H5.next≤(H7.put (h.next+3) (.row (Jsd (I.set m v)) 4 false false)).next:=fun v=>by show H5.next≤H7.next;omega
  cases hb:(ks.take q).all (fun p=>(conN s.rows (endN Z) size C p).isSome) with
  | false=>
   rw[hb] at lm7 eall
   simp only[evC,seval,↓evP,u2,u3,u6,u7,u8,u9,u53,u54,u55,u10,c3,ep,J0m,lp,jxv,lv,bs28,happ,ixb,J1V,lm7,sb7,wq]
   obtain⟨a1,a2,a3⟩:=fin false (by simp[eall])
   exact⟨hql,by omega,nn7 _,a3,a1,a2⟩
  | true=>
   rw[hb] at lm7 eall
   simp only[evC,seval,↓evP,u2,u3,u6,u7,u8,u9,u53,u54,u55,u10,c3,ep,J0m,lp,jxv,lv,bs28,happ,ixb,J1V,lm7,jxb,lp7,sb7,wq]
   obtain⟨a1,a2,a3⟩:=fin (conN s.rows (endN Z) size C p).isSome (by rw[eall,Bool.true_and])
   exact⟨hql,by omega,nn7 _,a3,a1,a2⟩
 ·have hr0:Jug x.kind=false:=by
   cases h9:Jug x.kind with
   | false=>rfl
   | true=>rcases Jum.2 (.inl h9) with h8 | h8 <;> simp_all
  have hh0:Jui x.kind=false:=by
   cases h9:Jui x.kind with
   | false=>rfl
   | true=>rcases Jum.2 (.inr h9) with h8 | h8 <;> simp_all
  have e:Jub size C x=.nilIface:=by unfold Jub;rw[hlf];simp[hr0,hh0]
  have hc0:conN s.rows (endN Z) size C m=none:=by rw[hcq,if_neg (by rw[hun];decide),if_neg (by rw[hbn];decide)];exact hlf
  rw[e]
  simp only[evC,seval,↓evP,t2,t3,t6,t7,t8,JvE,fH1,w1]
  exact⟨hlt,by omega,V,I,hT1,by rw[ek];exact hK.step hml rfl rfl (by rw[hc0];exact hV0) (by rw[hc0];exact hI0) fun _ _=>⟨rfl,rfl⟩⟩
end
end Go.Proofs.YtdejoodfeljmkaaGreatDoor
