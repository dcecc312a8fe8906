/- Part 15 of what the claim leans on: 7 texts laid one behind another. -/
import Derived.Test.YtdejoodfeljmkaaGreatDoorTT14
namespace Go.Proofs.YtdejoodfeljmkaaGreatDoor
open Go Go.Sx
set_option maxRecDepth 100000
set_option linter.unusedSimpArgs false
set_option linter.unusedVariables false
def J0p (lo:Nat) (h:SHeap) (v:Value) (n w:Nat) (cs:List Value):Prop:=
 cs.length=n*w∧∃ a c,v=.slice a n c∧((n=0∧a=none)∨∃ id off row ty g ro,a=some ⟨id,off,none⟩∧h.get id=.row row ty g ro∧(lo≤id∧id<h.next)∧(row.drop off).take (n*w)=cs∧(0<lo→ro=false))
section
variable {lo:Nat} {h h':SHeap} {v:Value} {n w:Nat} {cs:List Value}
theorem J0p.mono (hc:J0p lo h v n w cs) (hn:h.next≤h'.next) (hg:∀ i,lo≤i→i<h.next→h'.get i=h.get i):J0p lo h' v n w cs:=by
 obtain⟨hl,a,c,rfl,h1 | ⟨id,off,row,ty,g,ro,rfl,h1,h2,h3⟩⟩:=hc
 ·exact⟨hl,_,_,rfl,.inl h1⟩
 ·exact⟨hl,_,_,rfl,.inr ⟨id,off,row,ty,g,ro,rfl,by rw[hg id h2.1 h2.2];exact h1,by omega,h3⟩⟩
theorem J0p.weak (hc:J0p lo h v n w cs) {lo':Nat} (hl:lo'≤lo):J0p lo' h v n w cs:=by
 obtain⟨hl',a,c,rfl,h1 | ⟨id,off,row,ty,g,ro,rfl,h1,h2,h3⟩⟩:=hc
 ·exact⟨hl',_,_,rfl,.inl h1⟩
 ·exact⟨hl',_,_,rfl,.inr ⟨id,off,row,ty,g,ro,rfl,h1,by omega,h3.1,fun h=>h3.2 (by omega)⟩⟩
theorem J0p.len (hc:J0p lo h v n w cs) {t e:TypeId} (ht:Tryz.prog.underlying t=some (.slice e)) {h':SHeap}:lenS Tryz.prog h' t v=some (iv (n:Int)):=by
 obtain⟨_,a,c,rfl,_⟩:=hc
 simp[lenS,ht]
theorem J0p.idx (hc:J0p lo h v n w cs) {t e:TypeId} (ht:Tryz.prog.underlying t=some (.slice e)) (he:szOf Tryz.prog e=some w) {i:Nat} (hi:i<n) :
  ∃ id p,J0R Tryz.prog t v (iv (i:Int))=some (.pointer (some ⟨id,p,none⟩))∧id<h.next∧∀ j,j<w→ld1 (p+j) (h.get id)=cs[i*w+j]?:=by
 obtain⟨hl,a,c,rfl,⟨h0,_⟩ | ⟨id,off,row,ty,g,ro,rfl,h1,h2,h3⟩⟩:=hc
 ·omega
 ·refine⟨id,off+i*w,?_,h2.2,fun j hj=>?_⟩
  ·simp only[J0R,ht,he,J0q]
   rw[if_pos (by omega)]
   simp
  ·have hlt:i*w+j<n*w:=by
    have:(i+1)*w≤n*w:=Nat.mul_le_mul_right w hi
    rw[Nat.add_mul] at this
    omega
   rw[h1,← h3.1,List.getElem?_take_of_lt hlt,List.getElem?_drop]
   simp only[ld1]
   congr 1
   omega
theorem J0p.whole (hc:J0p lo h v n w cs) {t e:TypeId} (ht:Tryz.prog.underlying t=some (.slice e)) (he:szOf Tryz.prog e=some w) {i:Nat} (hi:i<n) :
  ∃ id p,J0R Tryz.prog t v (iv (i:Int))=some (.pointer (some ⟨id,p,none⟩))∧id<h.next∧ldN w p (h.get id)=some (.agg ((cs.drop (i*w)).take w).toArray):=by
 obtain⟨hl,a,c,rfl,⟨h0,_⟩ | ⟨id,off,row,ty,g,ro,rfl,h1,h2,h3⟩⟩:=hc
 ·omega
 ·have hle:i*w+w≤n*w:=by
   have:(i+1)*w≤n*w:=Nat.mul_le_mul_right w hi
   rw[Nat.add_mul] at this
   omega
  have e1:(cs.drop (i*w)).take w=(row.drop (off+i*w)).take w:=by
   rw[← h3.1,List.drop_take,List.drop_drop,List.take_take]
   congr 1
   omega
  have e2:((cs.drop (i*w)).take w).length=w:=by
   rw[List.length_take,List.length_drop,hl]
   omega
  refine⟨id,off+i*w,?_,h2.2,?_⟩
  ·simp only[J0R,ht,he,J0q]
   rw[if_pos (by omega)]
   simp
  ·rw[h1]
   simp only[ldN,cut,← e1,e2,if_true]
theorem J0p.src (hc:J0p lo h v n w cs):J16 h w n v=some cs:=by
 obtain⟨hl,a,c,rfl,⟨h0,rfl⟩ | ⟨id,off,row,ty,g,ro,rfl,h1,h2,h3⟩⟩:=hc
 ·subst h0
  rw[Nat.zero_mul] at hl
  rw[List.length_eq_zero_iff.1 hl]
  rfl
 ·by_cases h0:n=0
  ·subst h0
   rw[Nat.zero_mul] at hl
   rw[List.length_eq_zero_iff.1 hl]
   simp[J16]
  ·simp only[J16,h0,if_false,h1,cut,h3.1,hl,if_true]
theorem J0p.nil (lo:Nat) (h:SHeap) (w:Nat):J0p lo h (.slice none 0 0) 0 w []:=⟨by simp,none,0,rfl,.inl ⟨rfl,rfl⟩⟩
theorem J0p.rowR {r:Nat} {ty:TypeId} {g ro:Bool} {ex:List Value} {c:Nat} (hg:h.get r=.row (cs++ex) ty g ro) (hr:lo≤r∧r<h.next) (hl:cs.length=n*w) (hro:0<lo→ro=false):J0p lo h (.slice (some ⟨r,0,none⟩) n c) n w cs:=
 ⟨hl,_,_,rfl,.inr ⟨r,0,_,_,_,_,rfl,hg,hr,by rw[List.drop_zero,List.take_append_of_le_length (by omega),List.take_of_length_le (by omega)],hro⟩⟩
theorem J0p.row {r:Nat} {ty:TypeId} {g:Bool} {ex:List Value} {c:Nat} (hg:h.get r=.row (cs++ex) ty g false) (hr:lo≤r∧r<h.next) (hl:cs.length=n*w):J0p lo h (.slice (some ⟨r,0,none⟩) n c) n w cs:=J0p.rowR hg hr hl fun _=>rfl
theorem J0p.one (hc:J0p lo h v n w cs):one v=true:=by
 obtain⟨_,a,c,rfl,_⟩:=hc
 rfl
theorem SlAt.cells {tag:Nat→Nat} {j:Nat} {ty:TypeId} (hs:SlAt h lo tag j v n cs ty) (hl:cs.length=n*w):J0p lo h v n w cs:=by
 rcases hs with⟨rfl,rfl,rfl⟩ | ⟨id,ex,rfl,h2,h3,h4,h5⟩
 ·exact J0p.nil lo h w
 ·exact J0p.row h2 ⟨h3,h4⟩ hl
end
def J1S (lo:Nat) (h:SHeap) (v:Value) (l:List Int):Prop:=J0p lo h v l.length 1 (ints l)
section
variable {lo:Nat} {h h':SHeap} {v:Value} {l:List Int}
theorem J1S.mono (hc:J1S lo h v l) (hn:h.next≤h'.next) (hg:∀ i,lo≤i→i<h.next→h'.get i=h.get i):J1S lo h' v l:=J0p.mono hc hn hg
theorem J1S.weak (hc:J1S lo h v l) {lo':Nat} (hl:lo'≤lo):J1S lo' h v l:=J0p.weak hc hl
theorem J1S.len (hc:J1S lo h v l) {h':SHeap}:lenS Tryz.prog h' 25 v=some (iv (l.length:Int)):=J0p.len hc Tryz.underlying25
theorem J1S.get (hc:J1S lo h v l) {i:Nat} {x:Int} (hx:l[i]?=some x):∃ id p,J0R Tryz.prog 25 v (iv (i:Int))=some (.pointer (some ⟨id,p,none⟩))∧id<h.next∧ld1 p (h.get id)=some (iv x):=by
 obtain⟨id,p,h1,h2,h3⟩:=J0p.idx hc Tryz.underlying25 sz3 (List.getElem?_eq_some_iff.1 hx).1
 refine⟨id,p,h1,h2,?_⟩
 have:=h3 0 (by decide)
 rw[Nat.add_zero] at this
 rw[this,Nat.mul_one,Nat.add_zero,J6g,hx]
 rfl
theorem J1S.row {r:Nat} {ty:TypeId} {g:Bool} {ex:List Value} {c n:Nat} (hg:h.get r=.row (ints l++ex) ty g false) (hr:lo≤r∧r<h.next) (hn:n=l.length):J1S lo h (.slice (some ⟨r,0,none⟩) n c) l:=by
 subst hn
 exact J0p.row hg hr (by rw[J1h,Nat.mul_one])
theorem J1S.row' {r:Nat} {ty:TypeId} {g:Bool} {c n:Nat} (hg:h.get r=.row (ints l) ty g false) (hr:lo≤r∧r<h.next) (hn:n=l.length):J1S lo h (.slice (some ⟨r,0,none⟩) n c) l:=J1S.row (ex:=[]) (by rw[List.append_nil];exact hg) hr hn
end
def J3P (lo:Nat) (h:SHeap) (v:Value) (l:List RowN):Prop:=J0l h v l∧J0p lo h v l.length 5 (l.flatMap J0e)
theorem J3P.of {lo:Nat} {h:SHeap} {v:Value} {l:List RowN} (hc:J0p lo h v l.length 5 (l.flatMap J0e)):J3P lo h v l:=by
 refine⟨?_,hc⟩
 obtain⟨hl,a,c,rfl,⟨h0,rfl⟩ | ⟨id,off,row,ty,g,ro,rfl,h1,h2,h3⟩⟩:=hc
 ·exact⟨_,_,rfl,.inl ⟨List.length_eq_zero_iff.1 h0,rfl⟩⟩
 ·refine⟨_,_,rfl,.inr ⟨id,off,row,ty,g,ro,rfl,h1,h2.2,fun k r hk=>?_⟩⟩
  have hlt:=(List.getElem?_eq_some_iff.1 hk).1
  rw[← J2Y hk,← h3.1,List.drop_take,List.drop_drop,List.take_take]
  congr 1
  have:k*5+5≤l.length*5:=by omega
  omega
theorem J3P.mono {lo:Nat} {h h':SHeap} {v:Value} {l:List RowN} (hc:J3P lo h v l) (hn:h.next≤h'.next) (hg:∀ i,lo≤i→i<h.next→h'.get i=h.get i):J3P lo h' v l:=J3P.of (hc.2.mono hn hg)
theorem J0l.cells {h:SHeap} {v:Value} {l:List RowN} (hv:J0l h v l):J3P 0 h v l:=by
 have hs:=J0N l
 refine J3P.of ⟨hs,?_⟩
 obtain⟨a,c,rfl,⟨rfl,rfl⟩ | ⟨id,off,cs,ty,g,ro,rfl,hg,hid,hc⟩⟩:=hv
 ·exact⟨_,_,rfl,.inl ⟨rfl,rfl⟩⟩
 ·exact⟨_,_,rfl,.inr ⟨id,off,cs,ty,g,ro,rfl,hg,⟨Nat.zero_le _,hid⟩,J5N l cs off hc,fun h=>absurd h (Nat.lt_irrefl 0)⟩⟩
def J3x (lo:Nat) (h:SHeap) (pv:Value) (nm:ByteArray) (s:StN):Prop:=
 ∃ vr vq vv vt vu vo,pv=.agg #[.string nm,vr,vq,vv,vt,vu,vo,iv s.miss]∧J3P lo h vr s.rows∧J0p lo h vq s.queues.length 2 (J3S s.queues)∧J0p lo h vv s.vars.length 1 (strs s.vars)∧J0p lo h vt s.tags.length 1 (strs s.tags)∧J1S lo h vu s.rules∧J1S lo h vo s.on
theorem J3x.mono {lo:Nat} {h h':SHeap} {pv:Value} {nm:ByteArray} {s:StN} (hp:J3x lo h pv nm s) (hn:h.next≤h'.next) (hg:∀ i,lo≤i→i<h.next→h'.get i=h.get i):J3x lo h' pv nm s:=by
 obtain⟨vr,vq,vv,vt,vu,vo,h1,h2,h3,h4,h5,h6,h7⟩:=hp
 exact⟨vr,vq,vv,vt,vu,vo,h1,h2.mono hn hg,h3.mono hn hg,h4.mono hn hg,h5.mono hn hg,h6.mono hn hg,h7.mono hn hg⟩
theorem J0l.one {h:SHeap} {v:Value} {l:List RowN} (hv:J0l h v l):one v=true:=by
 obtain⟨a,c,rfl,_⟩:=hv
 rfl
theorem JfE {a b c d e f g i:Value}:(Value.agg #[a,b,c,d,e,f,g,i]).cells.toList=[a,b,c,d,e,f,g,i]:=rfl
section
variable {call:J0r} {N:Nat} {h:SHeap}
theorem JbP {a b:Int} (hb:0≤b∧b≤4611686018427387904) (ha:0≤a∧a≤4611686018427387904):J0L Tryz.prog call N 87 [iv a,iv b] h=some (iv (J2I a b),h):=by
 refine J1m Tryz.func87 rfl (by simp[Tryz.f87]) ?_
 have hr:Tryz.f87.results.toList=[.tmp 4]:=rfl
 have w1:IntKind.i64.wrap (4611686018427387904-b)=4611686018427387904-b:=J0s (by omega) (by omega)
 unfold J2I
 cases d:decide (a>4611686018427387904-b) with
 | true=>
  rw[if_pos (by simpa using d)]
  simp only[evC,seval,↓evP,rpC,hr,w1,d]
 | false=>
  have d':¬ a>4611686018427387904-b:=by simpa using d
  have w2:IntKind.i64.wrap (a+b)=a+b:=J0s (by omega) (by omega)
  rw[if_neg d']
  simp only[evC,seval,↓evP,rpC,hr,w1,d,w2]
theorem JaD {a b:Int} (h:SHeap) (hb:0≤b∧b≤4611686018427387904) (ha:0≤a∧a≤4611686018427387904):L1 87 [iv a,iv b] h=some (iv (J2I a b),h):=J0I (J20 rfl rfl) rfl rfl rfl ⟨_,JbP hb ha⟩
set_option maxHeartbeats 4000000 in
theorem JbQ {vr v0 vq vv vt vu vo v7 ve vs:Value} {rows:List RowN} {E S:List Int} {row q:Nat} (hone:one v0=true∧one vq=true∧one vv=true∧one vt=true∧one vu=true∧one vo=true∧one v7=true) (hv:J0l h vr rows) {le ls:Nat} (he:J1S le h ve E) (hS:J1S ls h vs S) (hs:Sums S) (hE:E[row]?=some (q:Int)) (hrq:row≤q) (hq:q≤rows.length) (hlen:rows.length<1099511627776) (hN:rows.length+3<N)
  (hcalls:∀ x∈(rows.drop row).take (q-row),x.kind=22→0≤x.n∧x.n<S.length) (h83:∀ a b h',0≤b∧b≤4611686018427387904→0≤a∧a≤4611686018427387904→call 87 [iv a,iv b] h'=some (iv (J2I a b),h')) :
  ∃ h',J0L Tryz.prog call N 88 [.agg #[v0,vr,vq,vv,vt,vu,vo,v7],ve,vs,iv row] h=some (iv (J2j S ((rows.drop row).take (q-row)) 0),h')∧∀ i,i<h.next→h'.get i=h.get i:=by
 refine J1N (R:=fun h'=>∀ i,i<h.next→h'.get i=h.get i) Tryz.func88 rfl (by simp[Tryz.f88]) ?_
 have hr:Tryz.f88.results.toList=[.tmp 8]:=rfl
 have hall:[v0,vr,vq,vv,vt,vu,vo,v7].all one=true:=by
  obtain⟨a,b,c,d,e,f,g⟩:=hone
  simp[a,b,c,d,e,f,g,hv.one]
 have hold:∀ i,i<h.next→(h.push (.row [v0,vr,vq,vv,vt,vu,vo,v7] 27 false false)).get i=h.get i:=fun i hi=>J06 hi
 have hnew:(h.push (.row [v0,vr,vq,vv,vt,vu,vo,v7] 27 false false)).get h.next=.row [v0,vr,vq,vv,vt,vu,vo,v7] 27 false false:=J0h
 have hnx:(h.push (.row [v0,vr,vq,vv,vt,vu,vo,v7] 27 false false)).next=h.next+1:=rfl
 simp only[evC,seval,↓evP,rpD,J0X,J2t,hr,JfE,hall,sz30]
 generalize h.push (.row [v0,vr,vq,vv,vt,vu,vo,v7] 27 false false)=H at *
 have hvH:=hv.mono (h':=H) (by omega) hold
 have heH:=he.mono (h':=H) (by omega) fun i _ hi=>hold i hi
 have hSH:=hS.mono (h':=H) (by omega) fun i _ hi=>hold i hi
 obtain⟨ie,pe,e1,e2,e3⟩:=heH.get hE
 have hl1:ld1 1 (H.get h.next)=some vr:=by rw[hnew];rfl
 have hseg:((rows.drop row).take (q-row)).length=q-row:=by rw[List.length_take,List.length_drop];omega
 refine WK.loop (fun i s=>s.h=H∧s.T.get 1=ve∧s.T.get 2=vs∧s.T.get 3=iv row∧s.T.get 4=.pointer (some ⟨h.next,0,none⟩)∧s.T.get 10=iv ((row+i:Nat):Int)∧i≤q-row∧∃ n:Int,s.T.get 9=iv n∧0≤n∧n≤4611686018427387904∧J2j S (((rows.drop row).take (q-row)).drop i) n=J2j S ((rows.drop row).take (q-row)) 0) (q-row) (by omega) ?_ ?_
 ·simp only[evC,↓reduceIte,Nat.reduceEqDiff,reduceCtorEq,↓evP,rpC,Nat.reduceAdd,Nat.reduceLT]
  exact⟨rfl,by omega,by omega,rfl⟩
 ·rintro i ⟨T1,H1⟩ hi ⟨rfl,t1,t2,t3,t4,t10,hil,n,t9,hn0,hnB,hcn⟩
  simp only at t1 t2 t3 t4 t10 t9
  by_cases hlt:i<q-row
  ·have c1:decide (((row+i:Nat):Int)<(q:Int))=true:=by simp only[decide_eq_true_eq];omega
   have w1:IntKind.i64.wrap (((row+i:Nat):Int)+1)=((row+(i+1):Nat):Int):=by rw[J0s (by omega) (by omega)];omega
   obtain⟨x,hx⟩:∃ x,rows[row+i]?=some x:=⟨_,List.getElem?_eq_getElem (by omega)⟩
   obtain⟨id,p,e0,hid,l0,l1,l2,l3,l4,lr⟩:=hvH.row hx
   have hsx:((rows.drop row).take (q-row))[i]?=some x:=by rw[List.getElem?_take_of_lt hlt,List.getElem?_drop];exact hx
   have p1:=J3O (a:=n) (b:=1) hn0 (by omega) (by omega)
   have h831:=fun hh=>h83 n 1 hh (by omega) ⟨hn0,hnB⟩
   have hdr:((rows.drop row).take (q-row)).drop i=x :: ((rows.drop row).take (q-row)).drop (i+1):=by
    obtain⟨hl,he⟩:=List.getElem?_eq_some_iff.1 hsx
    rw[List.drop_eq_getElem_cons hl,he]
   rw[hdr] at hcn
   change J2j S (((rows.drop row).take (q-row)).drop (i+1)) (if x.kind=22 then J2I (J2I n 1) (J5y S x.n) else J2I n 1)=_ at hcn
   cases d22:(x.kind==22) with
   | false=>
    rw[if_neg (by simpa using d22)] at hcn
    simp only[evC,seval,↓evP,rpC,t1,t2,t3,t4,t9,t10,e1,e3,c1,h831,J0y,J0F,hl1,e0,l0,J0t,d22,w1]
    exact⟨hlt,by omega,p1.1,p1.2,hcn⟩
   | true=>
    have h22:x.kind=22:=by simpa using d22
    rw[if_pos h22] at hcn
    obtain⟨n0,n1⟩:=hcalls x (List.mem_of_getElem? hsx) h22
    obtain⟨y,hy⟩:∃ y,S[x.n.toNat]?=some y:=⟨_,List.getElem?_eq_getElem (by omega)⟩
    obtain⟨is,ps,f1,f2,f3⟩:=hSH.get hy
    rw[Int.toNat_of_nonneg n0] at f1
    have hys:J5y S x.n=y:=by unfold J5y;rw[hy];rfl
    rw[hys] at hcn
    have hyb:0≤y∧y≤4611686018427387904:=hs y (List.mem_of_getElem? hy)
    have p2:=J3O p1.1 hyb.1 hyb.2
    have h832:=fun hh=>h83 (J2I n 1) y hh hyb p1
    simp only[evC,seval,↓evP,rpC,t1,t2,t3,t4,t9,t10,e1,e3,c1,h831,h832,J0y,J0F,hl1,e0,l0,l3,J0t,J0O,d22,w1,f1,f3]
    exact⟨hlt,by omega,p2.1,p2.2,hcn⟩
  ·have c1:decide (((row+i:Nat):Int)<(q:Int))=false:=by simp only[decide_eq_false_iff_not];omega
   have hnn:n=J2j S ((rows.drop row).take (q-row)) 0:=by
    rw[← hcn,List.drop_of_length_le (by omega)]
    rfl
   subst hnn
   simp only[evC,seval,↓evP,rpC,hr,t1,t2,t3,t4,t9,t10,e1,e3,c1]
   exact hold
end
theorem J65 {P:Program} {call:J0r} {n:Nat} {f:FuncId} {args:List Value} {h:SHeap} {fn:Func} {c:Code} {R:Value→SHeap→Prop} (hf:P.funcs[f]?=some fn) (hb:fn.body=some c) (hl:args.length≤fn.ntmps)
  (hw:WK P call n c ⟨J00 0 args .leaf,h⟩ (.top fun e s=>(e=.normal∨e=.ret)∧∃ vs,resS P s fn.results.toList=some vs∧R (resV vs) s.h)):∃ v h',J0L P call n f args h=some (v,h')∧R v h':=J6D hf hb hl hw
theorem Jbp {h:SHeap} {lo:Nat} {v:Value} {l:List Int} {x:Int} (hs:SlAt h lo (fun _=>1) 1 v l.length (ints l) 3) (hlo:lo≤h.next) (hf:h.floor≤lo) (hb:l.length<10000000) :
  ∃ v' h',J1o Tryz.prog (h.push (.row [iv x] 3 false false)) 25 v (.slice (some ⟨h.next,0,none⟩) 1 1)=some (v',h')∧SlAt h' lo (fun _=>1) 1 v' (l++[x]).length (ints (l++[x])) 3∧h'.floor=h.floor∧h.next≤h'.next∧∀ i,i<lo→h'.get i=h.get i:=by
 have hs':SlAt (h.push (.row [iv x] 3 false false)) lo (fun i=>if i=h.next then 0 else 1) 1 v l.length (ints l) 3:=hs.mono (by show h.next≤h.next+1;omega) (fun i hi=>if_neg (by omega)) fun i _ hi _=>J06 hi
 obtain⟨v',h1,a1,a2,a3,a4,a5,a6,a7⟩:=J3B (et:=3) (w:=1) (c:=1) (sc:=1) (xs:=[iv x]) Tryz.underlying25 sz3 by3 J8P rfl (by decide) (by decide) hs' ((J1h _).trans (Nat.mul_one _).symm) (J5u _) rfl rfl (by decide) (by decide) hb (src:=h.next) J0h (by show h.next<h.next+1;omega) hf (by simp)
 have hnx:h1.next=h.next+2:=a4
 refine⟨v',h1,a1,?_,a3,by omega,fun i hi=>?_⟩
 ·rcases a2 with a2 | a2
  ·rcases a2 with⟨h2,_⟩ | ⟨id,ex,b1,b2,b3,b4,b5⟩
   ·omega
   ·refine .inr ⟨id,ex,?_,?_,b3,b4,rfl⟩
    ·rw[b1,List.length_append];rfl
    ·rw[b2];simp[ints]
  ·exact absurd (show lo≤h.next+1 by omega) a2
 ·rw[a7 i (by show i<h.next+1;omega) (by omega),J06 (by omega)]
def J4Y (rows:List RowN) (E:List Int):List Int→List Int→List Int
 | [],S=>S
 | ru :: rest,S=>J4Y rows E rest (S++[cAt rows E S ru.toNat])
def blk (rows:List RowN) (E:List Int) (row:Nat):List RowN:=(rows.drop row).take (((E[row]?).getD 0).toNat-row)
structure LayR (rows:List RowN) (E rules:List Int):Prop where
 lay:Laying rows E rules
 ahead:∀ (i:Nat) (ru:Int),rules[i]?=some ru→∀ x∈blk rows E ru.toNat,x.kind=22→x.n<i
theorem Laying.end {rows:List RowN} {E rules:List Int} (hL:Laying rows E rules) {i:Nat} (hi:i<rows.length):∃ q:Nat,E[i]?=some (q:Int)∧i≤q∧q≤rows.length∧blk rows E i=(rows.drop i).take (q-i):=by
 obtain⟨q,h1,h2,h3⟩:=hL.ends i hi
 exact⟨q,h1,by omega,h3,by unfold blk;rw[h1];rfl⟩
section
variable {call:J0r} {N:Nat} {h:SHeap}
set_option maxHeartbeats 4000000 in
theorem Jbz {vr v0 vq vv vt vu vo v7 ve:Value} {rows:List RowN} {E rules:List Int} (hone:one v0=true∧one vq=true∧one vv=true∧one vt=true∧one vo=true∧one v7=true) (hv:J0l h vr rows) {le lu:Nat} (he:J1S le h ve E) (hu:J1S lu h vu rules) (hL:LayR rows E rules) (hfl:h.floor≤h.next) (hN:rules.length+3<N)
  (h63:∀ vs S row H,(∀ i,i<h.next→H.get i=h.get i)→h.next≤H.next→J1S (h.next+1) H vs S→Sums S→row<rows.length→(∀ x∈blk rows E row,x.kind=22→0≤x.n∧x.n<S.length)→call 88 [.agg #[v0,vr,vq,vv,vt,vu,vo,v7],ve,vs,iv (row:Int)] H=some (iv (cAt rows E S row),H)) :
  ∃ v h',J0L Tryz.prog call N 86 [.agg #[v0,vr,vq,vv,vt,vu,vo,v7],ve] h=some (v,h')∧(J1S h.next h' v (J4Y rows E rules [])∧h'.floor=h.floor∧h.next≤h'.next∧∀ i,i<h.next→h'.get i=h.get i):=by
 refine J65 (R:=fun v h'=>J1S h.next h' v (J4Y rows E rules [])∧h'.floor=h.floor∧h.next≤h'.next∧∀ i,i<h.next→h'.get i=h.get i) Tryz.func86 rfl (by simp[Tryz.f86]) ?_
 have hr:Tryz.f86.results.toList=[.tmp 4]:=rfl
 have hall:[v0,vr,vq,vv,vt,vu,vo,v7].all one=true:=by
  obtain⟨a,b,c,d,e,f⟩:=hone
  simp[a,b,c,d,e,f,hv.one,J0p.one hu]
 have hold:∀ i,i<h.next→(h.push (.row [v0,vr,vq,vv,vt,vu,vo,v7] 27 false false)).get i=h.get i:=fun i hi=>J06 hi
 have hnew:(h.push (.row [v0,vr,vq,vv,vt,vu,vo,v7] 27 false false)).get h.next=.row [v0,vr,vq,vv,vt,vu,vo,v7] 27 false false:=J0h
 have hnx:(h.push (.row [v0,vr,vq,vv,vt,vu,vo,v7] 27 false false)).next=h.next+1:=rfl
 have hfx:(h.push (.row [v0,vr,vq,vv,vt,vu,vo,v7] 27 false false)).floor=h.floor:=rfl
 simp only[evC,seval,↓evP,rpD,J0X,J2t,hr,JfE,hall,sz30]
 generalize h.push (.row [v0,vr,vq,vv,vt,vu,vo,v7] 27 false false)=H at *
 refine WK.loop (fun i s=>s.T.get 1=ve∧s.T.get 2=.pointer (some ⟨h.next,0,none⟩)∧s.T.get 6=iv i∧i≤rules.length∧s.h.floor=h.floor∧h.next+1≤s.h.next∧(∀ i,i<h.next+1→s.h.get i=H.get i)∧∃ S:List Int,SlAt s.h (h.next+1) (fun _=>1) 1 (s.T.get 5) S.length (ints S) 3∧Sums S∧S.length=i∧J4Y rows E (rules.drop i) S=J4Y rows E rules []) rules.length (by omega) ?_ ?_
 ·simp only[evC,↓reduceIte,Nat.reduceEqDiff,reduceCtorEq,↓evP,rpC,Nat.reduceAdd,Nat.reduceLT]
  exact⟨rfl,hfx,by omega,fun _ _=>trivial,[],.inl ⟨rfl,rfl,rfl⟩,(fun x hx=>by cases hx),rfl,rfl⟩
 ·rintro i ⟨T1,H1⟩ hi ⟨t1,t2,t6,hil,hf1,hn1,ho1,S,hsl,hSS,hSl,hcn⟩
  simp only at t1 t2 t6 hf1 hn1 ho1 hsl
  have ho2:∀ i,i<h.next→H1.get i=h.get i:=fun i hi=>(ho1 i (by omega)).trans (hold i hi)
  have hg:H1.get h.next=.row [v0,vr,vq,vv,vt,vu,vo,v7] 27 false false:=(ho1 _ (by omega)).trans hnew
  have hSI:J1S (h.next+1) H1 (T1.get 5) S:=SlAt.cells hsl ((J1h _).trans (Nat.mul_one _).symm)
  have hu1:=hu.mono (h':=H1) (by omega) fun i _ hi=>ho2 i hi
  have hulen:=fun h'=>hu.len (h':=h')
  have hl5:ld1 5 (H1.get h.next)=some vu:=by rw[hg];rfl
  have hl8:ldN 8 0 (H1.get h.next)=some (.agg #[v0,vr,vq,vv,vt,vu,vo,v7]):=by rw[hg];rfl
  by_cases hlt:i<rules.length
  ·have c1:decide ((i:Int)<(rules.length:Int))=true:=by simp only[decide_eq_true_eq];omega
   have w1:IntKind.i64.wrap ((i:Int)+1)=((i+1:Nat):Int):=J0s (by have:=hL.lay.nrules;omega) (by have:=hL.lay.nrules;omega)
   obtain⟨ru,hru⟩:∃ ru,rules[i]?=some ru:=⟨_,List.getElem?_eq_getElem hlt⟩
   obtain⟨r0,r1⟩:=hL.lay.rl ru (List.mem_of_getElem? hru)
   obtain⟨iu,pu,f1,f2,f3⟩:=hu1.get hru
   have hc:=h63 (T1.get 5) S ru.toNat H1 ho2 (by omega) hSI hSS (by omega) (fun x hx h22=>by
    have h1:=hL.ahead i ru hru x hx h22
    refine⟨?_,by omega⟩
    have:x∈rows:=List.mem_of_mem_drop (List.mem_of_mem_take hx)
    exact(hL.lay.calls x this h22).1)
   rw[Int.toNat_of_nonneg r0] at hc
   have hdr:rules.drop i=ru :: rules.drop (i+1):=by
    obtain⟨hl,he⟩:=List.getElem?_eq_some_iff.1 hru
    rw[List.drop_eq_getElem_cons hl,he]
   rw[hdr,J4Y] at hcn
   obtain⟨v',H2,a1,a2,a3,a4,a5⟩:=Jbp (x:=cAt rows E S ru.toNat) hsl hn1 (by omega) (by have:=hL.lay.nrules;omega)
   have hle:=J7q (rows:=rows) (E:=E) hSS ru.toNat
   simp only[evC,seval,↓evP,rpC,t1,t2,t6,J36,J0n,hl5,hulen,c1]
   refine WK.quiet (by kernel_rfl) ?_
   simp only[evC,seval,↓evP,rpC,t1,t2,t6,J36,J0n,J1b,hl5,hl8,f1,f3,hc,bs28,a1,w1]
   refine⟨hlt,by omega,by omega,by omega,fun j hj=>by rw[a5 j hj];exact ho1 j hj,S++[cAt rows E S ru.toNat],a2,?_,by simp;omega,hcn⟩
   intro x hx
   rcases List.mem_append.1 hx with hx | hx
   ·exact hSS x hx
   ·rw[List.mem_singleton.1 hx];exact hle
  ·have c1:decide ((i:Int)<(rules.length:Int))=false:=by simp only[decide_eq_false_iff_not];omega
   rw[List.drop_of_length_le (by omega)] at hcn
   have hSe:S=J4Y rows E rules []:=hcn
   rw[hSe] at hSI
   simp only[evC,seval,↓evP,rpC,hr,t1,t2,t6,J36,J0n,hl5,hulen,c1]
   exact⟨hSI.weak (by omega),hf1,by omega,ho2⟩
end
def inL:Code→Code
 | .loop c=>c
 | .block _ c=>c
 | c=>c
noncomputable def b84:Code:=Tryz.f116.body.getD .skip
noncomputable def LB84:Code:=inL (inL (rt (lf (rt (rt (rt b84))))))
noncomputable def BB84:Code:=inL (lf (rt LB84))
noncomputable def X1:Code:=rt BB84
noncomputable def X2:Code:=rt X1
noncomputable def X3:Code:=rt X2
noncomputable def X4:Code:=rt X3
noncomputable def X5:Code:=rt X4
noncomputable def X6:Code:=rt X5
def Jgi (i:Nat) (f:Frame):Prop:=(1≤f.kind∧f.kind≤54)∧0<f.left∧(f.kind=1∨f.kind=11∨(f.next:Int)+f.left≤J1r f.kind)∧f.left≤9223372036854775807∧f.next≤i
theorem J6I {k:Int} {j:Nat}:J3q (J0A k j)=J0A k j∧J4C (J0A k j):=by
 unfold J0A
 (repeat' split) <;> exact⟨rfl,by unfold J4C;omega⟩
theorem JeM {f:Frame} {s:List Frame}:kidR f.kind f.next=J3q (J60 (f :: s)):=by
 show _=J3q (if f.kind=1 then 9 else J0A f.kind f.next)
 unfold kidR
 split
 ·rfl
 ·exact J6I.1.symm
theorem JaY {s:List Frame}:J4C (J60 s):=by
 cases s with
 | nil=>exact .inl rfl
 | cons f s=>
  show J4C (if f.kind=1 then 9 else J0A f.kind f.next)
  split
  ·exact .inr (.inl rfl)
  ·exact J6I.2
theorem JdW {w:Int} (h:J4C w):(J3q w==1)=decide (w=9):=by
 rcases h with rfl | rfl | rfl | rfl | rfl | rfl | rfl | rfl <;> rfl
section
variable {call:J0r} {n:Nat}
def B84 (h:SHeap) (v:Value) (i:Nat) (T:Tr) (H:SHeap) (s:List Frame) (ev:Bool):Prop:=
 T.get 0=v∧T.get 5=iv i∧T.get 4=.bool ev∧J2U h.next H (T.get 3) s∧H.floor=h.floor∧h.next≤H.next∧∀ j,j<h.next→H.get j=h.get j
structure Calls84 (call:J0r):Prop where
 kid:∀ (κ:Int) (j:Nat) h,1≤κ∧κ≤54→(κ=1∨κ=11∨(j:Int)<J1r κ)→call 125 [iv κ,iv j] h=some (iv (kidR κ j),h)
 right:∀ w (x:RowN) h,J4C w→call 126 [rowV x,iv (J3q w)] h=some (.bool (J1c w x.kind&&fitN J09 x),h)
 decl:∀ k h,call 127 [iv k] h=some (.bool (J1l 0 k),h)
 event:∀ k h,call 128 [iv k] h=some (.bool (J1l 1 k),h)
set_option maxHeartbeats 16000000 in
theorem JaS {h:SHeap} {v:Value} {i:Nat} {T:Tr} {H:SHeap} {s:List Frame} {ev:Bool} {k:Kont} (hc:Calls84 call) (hB:B84 h v i T H s ev) (hfl:h.floor≤h.next) (hs:s.length<1000000000) (hi:i<1000000000) (hok:∀ f s',s=f :: s'→Jgi i f)
  (hk:∀ T' H',B84 h v i T' H' (decF s) ev→T'.get 6=iv (J3q (J60 s))→WK Tryz.prog call n X2 ⟨T',H'⟩ k):WK Tryz.prog call n BB84 ⟨T,H⟩ k:=by
 obtain⟨t0,t5,t4,hst,hf,hn,hold⟩:=hB
 show WK _ _ _ (.seq _ (.seq _ X2)) _ _
 have hlen:=fun h'=>hst.len (h':=h')
 cases s with
 | nil=>
  have c0:decide (((([]:List Frame).length:Nat):Int)>0)=false:=rfl
  simp only[evC,seval,↓evP,rpC,t0,t5,t4,hlen,c0]
  refine hk _ _ ⟨?_,?_,?_,?_,hf,hn,hold⟩ ?_
  ·simp only[evC,seval,↓evP,rpC,t0]
  ·simp only[evC,seval,↓evP,rpC,t5]
  ·simp only[evC,seval,↓evP,rpC,t4]
  ·simp only[evC,seval,↓evP,rpC];exact hst
  ·simp only[evC,seval,↓evP,rpC];rfl
 | cons f s0=>
  obtain⟨id,ex,hvs,hg,hid,hidn⟩:=hst.top
  have c0:decide (((s0.length+1:Nat):Int)>0)=true:=by simp
  have w1:IntKind.i64.wrap (((s0.length+1:Nat):Int)-1)=(s0.length:Int):=by rw[J0s (by simp only[List.length_cons] at *;omega) (by simp only[List.length_cons] at *;omega)];simp
  have ix:∀ {n c},s0.length<n→J0R Tryz.prog 138 (.slice (some ⟨id,0,none⟩) n c) (iv (s0.length:Int))=some (.pointer (some ⟨id,s0.length*3,none⟩)):=fun h=>idxO h
  have ix':=ix (n:=s0.length+1) (c:=unk) (by omega)
  obtain⟨c1,c2,c3,c4⟩:=J8f (s:=s0) (f:=f) (ex:=ex) (ty:=140) (g:=true) (ro:=false)
  have okf:=hok f s0 rfl
  have hkid:=fun hh=>hc.kid f.kind f.next hh okf.1 (by
   rcases okf.2.2.1 with h | h | h
   ·exact .inl h
   ·exact .inr (.inl h)
   ·exact .inr (.inr (by have:=okf.2.1;omega)))
  have hflT:(H.floor≤H.next)=True:=by simp;omega
  have hltT:(H.next<H.next+1)=True:=by simp
  simp only[evC,seval,↓evP,rpC,t0,t5,t4,hvs,lenO,c0,w1,ix',hg,c1,c2,c3,c4,JhB,Je7,J97,J79,Ji8,Jfd,hflT,hltT,Jaa,J6c,J9Z]
  have hgH:((H.push (.row [iv 0,iv 0,iv 0] 140 false false)).put H.next (.row [iv f.kind,iv (f.left:Int),iv (f.next:Int)] 140 false false)).get id=.row (J1L s0++(fr3 f++ex)) 140 true false:=by
   rw[J05 (by show H.next<H.next+1;omega) (by omega),J06 hidn];exact hg
  have hnH:((H.push (.row [iv 0,iv 0,iv 0] 140 false false)).put H.next (.row [iv f.kind,iv (f.left:Int),iv (f.next:Int)] 140 false false)).next=H.next+1:=rfl
  have hfH:((H.push (.row [iv 0,iv 0,iv 0] 140 false false)).put H.next (.row [iv f.kind,iv (f.left:Int),iv (f.next:Int)] 140 false false)).floor=h.floor:=hf
  have hoH:∀ j,j<h.next→((H.push (.row [iv 0,iv 0,iv 0] 140 false false)).put H.next (.row [iv f.kind,iv (f.left:Int),iv (f.next:Int)] 140 false false)).get j=h.get j:=fun j hj=>by
   rw[J05 (by show H.next<H.next+1;omega) (by omega),J06 (by omega)];exact hold j hj
  generalize (H.push (.row [iv 0,iv 0,iv 0] 140 false false)).put H.next (.row [iv f.kind,iv (f.left:Int),iv (f.next:Int)] 140 false false)=H1 at *
  have okl:=okf.2.2.2
  have ok0:=okf.2.1
  have hll:=J3t s0
  have w2:IntKind.i64.wrap ((f.next:Int)+1)=((f.next+1:Nat):Int):=J0s (by omega) (by omega)
  have w3:IntKind.i64.wrap ((f.left:Int)-1)=((f.left-1:Nat):Int):=by rw[J0s (by omega) (by omega)];omega
  have sa:=st1 (x:=((f.next+1:Nat):Int)) (off:=s0.length*3+2) hgH (by simp[fr3];omega) (by omega)
  rw[Jeg] at sa
  have hgH2:(H1.put id (.row (J1L s0++(fr3 ⟨f.kind,f.left,f.next+1⟩++ex)) 140 true false)).get id=.row (J1L s0++(fr3 ⟨f.kind,f.left,f.next+1⟩++ex)) 140 true false:=J0b rfl (by omega)
  obtain⟨_,d2,_,_⟩:=J8f (s:=s0) (f:=⟨f.kind,f.left,f.next+1⟩) (ex:=ex) (ty:=140) (g:=true) (ro:=false)
  have sb:=st1 (h:=H1.put id (.row (J1L s0++(fr3 ⟨f.kind,f.left,f.next+1⟩++ex)) 140 true false)) (x:=((f.left-1:Nat):Int)) (off:=s0.length*3+1) hgH2 (by simp[fr3];omega) (by show H1.floor≤id;omega)
  rw[Jfg] at sb
  simp only[evC,seval,↓evP,rpD,J0G,J29,J0X,J2t,hkid,t0,t5,t4,hvs,lenO,w1,w2,w3,ix',hgH,hgH2,c1,c2,c3,d2,Jaa,J6c,J9Z,sa,sb]
  have hnp:((H1.put id (.row (J1L s0++(fr3 ⟨f.kind,f.left,f.next+1⟩++ex)) 140 true false)).put id (.row (J1L s0++(fr3 ⟨f.kind,f.left-1,f.next+1⟩++ex)) 140 true false)).next=H1.next:=rfl
  refine hk _ _ ⟨?_,?_,?_,?_,hfH,?_,fun j hj=>?_⟩ ?_
  ·simp only[evC,seval,↓evP,rpC,t0]
  ·simp only[evC,seval,↓evP,rpC,t5]
  ·simp only[evC,seval,↓evP,rpC,t4]
  ·simp only[evC,seval,↓evP,rpC,hvs]
   refine .inr ⟨id,ex,by rw[decF];rfl,?_,hid,by rw[hnp];omega⟩
   rw[J0b rfl (by show id<H1.next;omega),decF,J1L,List.append_assoc]
  ·rw[hnp];omega
  ·rw[J05 (by show id<H1.next;omega) (by omega),J05 (by omega) (by omega)];exact hoH j hj
  ·simp only[evC,seval,↓evP,rpC];rw[← JeM]
theorem Jab {h:SHeap} {v:Value} {i:Nat} {T:Tr} {H:SHeap} {s:List Frame} {ev:Bool} {k:Kont} {l:List RowN} {w:Int} (hc:Calls84 call) (hv:J0l h v l) (hB:B84 h v i T H s ev) (hw:J4C w) (h6:T.get 6=iv (J3q w))
  (hbad:(l[i]?=none∨∃ x,l[i]?=some x∧(J1c w x.kind&&fitN J09 x)=false)→∀ T':Tr,T'.get 2=iv i→k.ap Tryz.prog call n .ret ⟨T',H⟩)
  (hgood:∀ x,l[i]?=some x→(J1c w x.kind&&fitN J09 x)=true→∀ T':Tr,B84 h v i T' H s ev→T'.get 6=iv (J3q w)→WK Tryz.prog call n X3 ⟨T',H⟩ k):WK Tryz.prog call n X2 ⟨T,H⟩ k:=by
 have hB':=hB
 obtain⟨t0,t5,t4,hst,hf,hn,hold⟩:=hB
 have hvH:J0l H v l:=hv.mono hn hold
 have hl22:∀ h',lenS Tryz.prog h' 22 v=some (.int .i64 l.length):=fun h'=>hv.len
 show WK _ _ _ (.seq _ X3) _ _
 by_cases hi:i<l.length
 ·obtain⟨x,hx⟩:∃ x,l[i]?=some x:=⟨_,List.getElem?_eq_getElem hi⟩
  have c1:decide ((i:Int)≥(l.length:Int))=false:=by simp;omega
  obtain⟨id,q,e0,hid,l0,l1,l2,l3,l4,lr⟩:=hvH.row hx
  have hr:=fun hh=>hc.right w x hh hw
  cases d:(J1c w x.kind&&fitN J09 x) with
  | false=>
   rw[d] at hr
   simp only[evC,seval,↓evP,rpC,t0,t5,h6,hl22,c1,e0,lr,hr]
   exact hbad (.inr ⟨x,hx,d⟩) _ (by simp only[evC,seval,↓evP,rpC])
  | true=>
   rw[d] at hr
   simp only[evC,seval,↓evP,rpC,t0,t5,h6,hl22,c1,e0,lr,hr]
   refine hgood x hx d _ ⟨?_,?_,?_,?_,hf,hn,hold⟩ ?_
   ·simp only[evC,seval,↓evP,rpC,t0]
   ·simp only[evC,seval,↓evP,rpC,t5]
   ·simp only[evC,seval,↓evP,rpC,t4]
   ·simp only[evC,seval,↓evP,rpC];exact hst
   ·simp only[evC,seval,↓evP,rpC,h6]
 ·have c1:decide ((i:Int)≥(l.length:Int))=true:=by simp;omega
  simp only[evC,seval,↓evP,rpC,t0,t5,h6,hl22,c1]
  exact hbad (.inl (List.getElem?_eq_none (by omega))) _ (by simp only[evC,seval,↓evP,rpC])
theorem JaC {h:SHeap} {v:Value} {i:Nat} {T:Tr} {H:SHeap} {s:List Frame} {ev:Bool} {k:Kont} {l:List RowN} {w:Int} {x:RowN} (hc:Calls84 call) (hv:J0l h v l) (hB:B84 h v i T H s ev) (hw:J4C w) (h6:T.get 6=iv (J3q w)) (hx:l[i]?=some x)
  (hbad:w=9∧ev=true∧J1l 0 x.kind=true→∀ T':Tr,T'.get 2=iv i→k.ap Tryz.prog call n .ret ⟨T',H⟩)
  (hgood:¬ (w=9∧ev=true∧J1l 0 x.kind=true)→∀ T':Tr,B84 h v i T' H s (if w=9 then ev||J1l 1 x.kind else ev)→WK Tryz.prog call n X4 ⟨T',H⟩ k):WK Tryz.prog call n X3 ⟨T,H⟩ k:=by
 obtain⟨t0,t5,t4,hst,hf,hn,hold⟩:=hB
 have hvH:J0l H v l:=hv.mono hn hold
 obtain⟨id,q,e0,hid,l0,l1,l2,l3,l4,lr⟩:=hvH.row hx
 have hd:=hc.decl x.kind
 have he:=hc.event x.kind
 have hw1:=JdW hw
 show WK _ _ _ (.seq _ X4) _ _
 by_cases h9:w=9
 ·subst h9
  have c9:(J3q 9==1)=true:=rfl
  have done:∀ ev':Bool,(ev||J1l 1 x.kind)=ev'→¬ ((9:Int)=9∧ev=true∧J1l 0 x.kind=true)→∀ T':Tr,T'.get 0=v→T'.get 5=iv i→T'.get 4=.bool ev'→T'.get 3=T.get 3→WK Tryz.prog call n X4 ⟨T',H⟩ k:=fun ev' e1 e2 T' u0 u5 u4 u3=>hgood e2 T' ⟨u0,u5,by rw[if_pos rfl,e1];exact u4,by rw[u3];exact hst,hf,hn,hold⟩
  cases ev with
  | true=>
   cases d0:J1l 0 x.kind with
   | true=>
    rw[d0] at hd
    simp only[evC,seval,↓evP,rpC,t0,t5,t4,h6,c9,e0,l0,hd]
    exact hbad ⟨rfl,rfl,d0⟩ _ (by simp only[evC,seval,↓evP,rpC])
   | false=>
    rw[d0] at hd done
    simp only[evC,seval,↓evP,rpC,t0,t5,t4,h6,c9,e0,l0,hd,he]
    refine done true rfl (by simp) _ ?_ ?_ ?_ ?_ <;> simp only[evC,seval,↓evP,rpC,t0,t5,t4]
  | false=>
   simp only[evC,seval,↓evP,rpC,t0,t5,t4,h6,c9,e0,l0,hd,he]
   refine done (J1l 1 x.kind) (Bool.false_or _) (by simp) _ ?_ ?_ ?_ ?_ <;> simp only[evC,seval,↓evP,rpC,t0,t5,t4]
 ·have c9:(J3q w==1)=false:=by rw[hw1,decide_eq_false h9]
  simp only[evC,seval,↓evP,rpC,t0,t5,t4,h6,c9]
  refine hgood (fun h=>h9 h.1) _ ⟨?_,?_,?_,?_,hf,hn,hold⟩
  ·simp only[evC,seval,↓evP,rpC,t0]
  ·simp only[evC,seval,↓evP,rpC,t5]
  ·simp only[evC,seval,↓evP,rpC,t4,h9]
  ·simp only[evC,seval,↓evP,rpC];exact hst
end
section
variable {call:J0r} {n:Nat}
set_option maxHeartbeats 16000000 in
theorem Ji2 {h:SHeap} {v:Value} {i:Nat} {T:Tr} {H:SHeap} {s:List Frame} {ev:Bool} {k:Kont} {l:List RowN} {x:RowN} (hv:J0l h v l) (hB:B84 h v i T H s ev) (hx:l[i]?=some x) (hkid:0≤x.kids) (hfl:h.floor≤h.next) (hs:s.length<1000000000)
  (hk:∀ T' H',B84 h v i T' H' (⟨x.kind,x.kids.toNat,0⟩ :: s) ev→WK Tryz.prog call n X5 ⟨T',H'⟩ k):WK Tryz.prog call n X4 ⟨T,H⟩ k:=by
 obtain⟨t0,t5,t4,hst,hf,hn,hold⟩:=hB
 have hvH:J0l H v l:=hv.mono hn hold
 obtain⟨id,q,e0,hid,l0,l1,l2,l3,l4,lr⟩:=hvH.row hx
 obtain⟨v',H',ha,hst',hf',hn',hold'⟩:=J8Z (a:=x.kind) (b:=x.kids) (c:=0) (f:=⟨x.kind,x.kids.toNat,0⟩) (by simp only[fr3,Int.toNat_of_nonneg hkid];rfl) hst (by omega) hn hs
 show WK _ _ _ (.seq (.region _ _ true) X5) _ _
 rw[J4p]
 refine WK.quiet (by kernel_rfl) ?_
 simp only[evC,seval,↓evP,rpC,t0,t5,t4,e0,l0,l4,Jif,bsO,ha]
 refine hk _ _ ⟨?_,?_,?_,?_,by omega,by omega,fun j hj=>by rw[hold' j hj];exact hold j hj⟩
 ·simp only[evC,seval,↓evP,rpC,t0]
 ·simp only[evC,seval,↓evP,rpC,t5]
 ·simp only[evC,seval,↓evP,rpC,t4]
 ·simp only[evC,seval,↓evP,rpC];exact hst'
theorem Jaw:∀ s:List Frame,(popF s).length≤s.length
 | []=>Nat.le_refl _
 | f :: s=>by
  by_cases h0:f.left=0
  ·rw[J43 h0];have:=Jaw s;simp only[List.length_cons];omega
  ·rw[J4X h0];exact Nat.le_refl _
theorem J2U.tail {m:Nat} {h:SHeap} {f:Frame} {s:List Frame} {v:Value} (hs:J2U m h v (f :: s)):∃ id,v=.slice (some ⟨id,0,none⟩) (s.length+1) unk∧J2U m h (.slice (some ⟨id,0,none⟩) s.length unk) s:=by
 obtain⟨id,ex,h1,h2,h3,h4⟩:=hs.top
 exact⟨id,h1,.inr ⟨id,fr3 f++ex,rfl,h2,h3,h4⟩⟩
set_option maxHeartbeats 16000000 in
theorem JhD {h:SHeap} {v:Value} {i:Nat} {T:Tr} {H:SHeap} {s:List Frame} {ev:Bool} {k:Kont} (hB:B84 h v i T H s ev) (hs:s.length<1000000000) (hn0:s.length<n)
  (hk:∀ T',B84 h v i T' H (popF s) ev→WK Tryz.prog call n X6 ⟨T',H⟩ k):WK Tryz.prog call n X5 ⟨T,H⟩ k:=by
 obtain⟨t0,t5,t4,hst,hf,hn,hold⟩:=hB
 show WK _ _ _ (.seq (.block _ (.loop _)) X6) _ _
 rw[J4p,Jaj]
 refine WK.loop (fun j st=>st.h=H∧st.T.get 0=v∧st.T.get 5=iv i∧st.T.get 4=.bool ev∧∃ s',J2U h.next H (st.T.get 3) s'∧popF s'=popF s∧s'.length+j≤s.length) s.length hn0 ⟨rfl,t0,t5,t4,s,hst,rfl,by omega⟩ ?_
 rintro j ⟨T1,H1⟩ hj ⟨rfl,u0,u5,u4,s',hst',hp,hl⟩
 simp only at u0 u5 u4 hst'
 have fin:popF s'=s'→∀ T':Tr,T'.get 0=v→T'.get 5=iv i→T'.get 4=.bool ev→T'.get 3=T1.get 3→WK Tryz.prog call n X6 ⟨T',H1⟩ k:=fun e T' w0 w5 w4 w3=>hk T' ⟨w0,w5,w4,by rw[w3,← hp,e];exact hst',hf,hn,hold⟩
 cases s' with
 | nil=>
  have hlen:=fun h'=>hst'.len (h':=h')
  have c0:decide (((([]:List Frame).length:Nat):Int)>0)=false:=rfl
  simp only[evC,seval,↓evP,rpC,u0,u5,u4,hlen,c0]
  refine fin rfl _ ?_ ?_ ?_ ?_ <;> simp only[evC,seval,↓evP,rpC,u0,u5,u4]
 | cons f s0=>
  obtain⟨id,ex,hvs,hg,hid,hidn⟩:=hst'.top
  obtain⟨id',hvs',htl⟩:=hst'.tail
  have:id'=id:=by
   rw[hvs] at hvs'
   simp only[Value.slice.injEq,Option.some.injEq,Addr.mk.injEq,and_true] at hvs'
   exact hvs'.symm
  subst this
  simp only[List.length_cons] at hl
  have c0:decide (((s0.length+1:Nat):Int)>0)=true:=by simp
  have w1:IntKind.i64.wrap (((s0.length+1:Nat):Int)-1)=(s0.length:Int):=by rw[J0s (by omega) (by omega)];omega
  have ix':J0R Tryz.prog 138 (.slice (some ⟨id',0,none⟩) (s0.length+1) unk) (iv (s0.length:Int))=some (.pointer (some ⟨id',s0.length*3,none⟩)):=idxO (by omega)
  obtain⟨c1,c2,c3,c4⟩:=J8f (s:=s0) (f:=f) (ex:=ex) (ty:=140) (g:=true) (ro:=false)
  by_cases h0:f.left=0
  ·have c5:((f.left:Int)==0)=true:=by rw[h0];rfl
   have hsl:=Jhj (id:=id') (h:=H1) (n:=s0.length+1) (k:=s0.length) (by omega)
   simp only[evC,seval,↓evP,rpC,u0,u5,u4,hvs,lenO,c0,w1,ix',hg,c2,J6c,c5,hsl]
   exact⟨by omega,s0,htl,by rw[← hp,J43 h0],by omega⟩
  ·have c5:((f.left:Int)==0)=false:=by rw[beq_eq_false_iff_ne];omega
   simp only[evC,seval,↓evP,rpC,u0,u5,u4,hvs,lenO,c0,w1,ix',hg,c2,J6c,c5]
   refine fin (J4X h0) _ ?_ ?_ ?_ ?_ <;> simp only[evC,seval,↓evP,rpC,u0,u5,u4,hvs]
theorem Ji9 {h:SHeap} {v:Value} {i:Nat} {T:Tr} {H:SHeap} {s:List Frame} {ev:Bool} {k:Kont} {l:List RowN} (hv:J0l h v l) (hB:B84 h v i T H s ev) (hi:i<1000000000)
  (hbad:s=[]→i+1<l.length→∀ T':Tr,T'.get 2=iv ((i+1:Nat):Int)→k.ap Tryz.prog call n .ret ⟨T',H⟩)
  (hgood:¬ (s=[]∧i+1<l.length)→∀ T':Tr,B84 h v i T' H s ev→k.ap Tryz.prog call n .normal ⟨T',H⟩):WK Tryz.prog call n X6 ⟨T,H⟩ k:=by
 obtain⟨t0,t5,t4,hst,hf,hn,hold⟩:=hB
 have hl22:∀ h',lenS Tryz.prog h' 22 v=some (.int .i64 l.length):=fun h'=>hv.len
 have hlen:=fun h'=>hst.len (h':=h')
 have w1:IntKind.i64.wrap ((i:Int)+1)=((i+1:Nat):Int):=J0s (by omega) (by omega)
 show WK _ _ _ (.seq _ _) _ _
 have fin:¬ (s=[]∧i+1<l.length)→∀ T':Tr,T'.get 0=v→T'.get 5=iv i→T'.get 4=.bool ev→T'.get 3=T.get 3→k.ap Tryz.prog call n .normal ⟨T',H⟩:=fun e T' w0 w5 w4 w3=>hgood e T' ⟨w0,w5,w4,by rw[w3];exact hst,hf,hn,hold⟩
 by_cases h0:s=[]
 ·have c0:((s.length:Int)==0)=true:=by rw[h0];rfl
  by_cases h1:i+1<l.length
  ·have c1:decide (((i+1:Nat):Int)<(l.length:Int))=true:=by simp only[decide_eq_true_eq];omega
   simp only[evC,seval,↓evP,rpC,t0,t5,t4,hlen,hl22,c0,w1,c1]
   exact hbad h0 h1 _ (by simp only[evC,seval,↓evP,rpC])
  ·have c1:decide (((i+1:Nat):Int)<(l.length:Int))=false:=by simp only[decide_eq_false_iff_not];omega
   simp only[evC,seval,↓evP,rpC,t0,t5,t4,hlen,hl22,c0,w1,c1]
   refine fin (fun h=>h1 h.2) _ ?_ ?_ ?_ ?_ <;> simp only[evC,seval,↓evP,rpC,t0,t5,t4]
 ·have c0:((s.length:Int)==0)=false:=by
   rw[beq_eq_false_iff_ne]
   have:s.length≠0:=fun h=>h0 (List.length_eq_zero_iff.1 h)
   omega
  simp only[evC,seval,↓evP,rpC,t0,t5,t4,hlen,hl22,c0,w1]
  refine fin (fun h=>h0 h.1) _ ?_ ?_ ?_ ?_ <;> simp only[evC,seval,↓evP,rpC,t0,t5,t4]
def FrOK (i:Nat) (f:Frame):Prop:=(1≤f.kind∧f.kind≤54)∧(f.kind=1∨f.kind=11∨(f.next:Int)+f.left≤J1r f.kind)∧f.left≤9223372036854775807∧f.next≤i
theorem JaI:∀ {s:List Frame} {f:Frame},f∈popF s→f∈s
 | [],f,h=>h
 | g :: s,f,h=>by
  by_cases h0:g.left=0
  ·rw[J43 h0] at h
   exact List.mem_cons_of_mem _ (JaI h)
  ·rw[J4X h0] at h
   exact h
theorem Ja2:∀ {s:List Frame} {f:Frame} {s':List Frame},popF s=f :: s'→f.left≠0
 | [],f,s',h=>by cases h
 | g :: s,f,s',h=>by
  by_cases h0:g.left=0
  ·rw[J43 h0] at h
   exact Ja2 h
  ·rw[J4X h0] at h
   cases h
   exact h0
theorem Jgy {i:Nat} {s:List Frame} (hs:∀ f∈s,FrOK i f) (ht:∀ f s',s=f :: s'→f.left≠0):∀ f∈decF s,FrOK (i+1) f:=by
 cases s with
 | nil=>intro f hf;cases hf
 | cons g s=>
  intro f hf
  rcases List.mem_cons.1 hf with rfl | hf
  ·obtain⟨h1,h2,h3,h4⟩:=hs g (by simp)
   have:=ht g s rfl
   refine⟨h1,?_,by simp only;omega,by simp only;omega⟩
   rcases h2 with h2 | h2 | h2
   ·exact .inl h2
   ·exact .inr (.inl h2)
   ·exact .inr (.inr (by simp only;omega))
  ·obtain⟨h1,h2,h3,h4⟩:=hs f (List.mem_cons_of_mem _ hf)
   exact⟨h1,h2,h3,by omega⟩
theorem J64 (s:List Frame):(decF s).length=s.length:=by cases s <;> rfl
theorem JeP {x:RowN} (h:fitN J09 x=true):0≤x.kids∧(x.kind=1∨x.kind=11∨x.kids≤J1r x.kind):=by
 unfold fitN at h
 simp only[Bool.and_eq_true,Bool.or_eq_true,decide_eq_true_eq] at h
 have:=J4a x.kind
 refine⟨by omega,?_⟩
 by_cases h1:x.kind=1
 ·exact .inl h1
 ·by_cases h2:x.kind=11
  ·exact .inr (.inl h2)
  ·have hm:0≤J1r x.kind:=by
    unfold J1r
    have e:([1,11]:List Int).contains x.kind=false:=by simp[h1,h2]
    rw[e]
    simp only[Bool.false_eq_true,if_false]
    (repeat' split) <;> omega
   omega
theorem J9r {w k:Int} (h:J1c w k=true):1≤k∧k≤54:=J5Z h
set_option maxHeartbeats 16000000 in
theorem JbO {l:List RowN} {v:Value} {h:SHeap} (hc:Calls84 call) (hv:J0l h v l) (hlen:l.length<900000000) (hn:l.length+3<n) (hfl:h.floor≤h.next) (h64:∀ x∈l,x.kids≤9223372036854775807) :
  ∃ h',J0L Tryz.prog call n 116 [v] h=some (iv (match J2L J09 l with | some p=>(p:Int) | none=>-1),h')∧∀ i,i<h.next→h'.get i=h.get i:=by
 refine J1N (R:=fun h'=>∀ i,i<h.next→h'.get i=h.get i) Tryz.func116 rfl (by simp[Tryz.f116]) ?_
 have hr:Tryz.f116.results.toList=[.tmp 2]:=rfl
 have hl22:∀ h',lenS Tryz.prog h' 22 v=some (.int .i64 l.length):=fun h'=>hv.len
 have hsim:=Jdd (isName:=J09) (l:=l) (M:=l.length+1) (by omega)
 generalize J2L J09 l=R at *
 simp only[evC,seval,↓evP,rpC,hr]
 refine WK.loop (fun j st=>∃ s ev,B84 h v j st.T st.h s ev∧s.length≤j∧(∀ f∈s,FrOK j f)∧(∀ f s',s=f :: s'→f.left≠0)∧(((s≠[]∨j=0)∧runM (isName:=J09) l (l.length+1-j) j s ev=R)∨(s=[]∧0<j∧R=none))) l.length (by omega) ?_ ?_
 ·refine⟨[],false,⟨?_,?_,?_,?_,rfl,Nat.le_refl _,fun _ _=>rfl⟩,Nat.le_refl _,(fun f hf=>by cases hf),(fun f s' hf=>by cases hf),.inl ⟨.inr rfl,hsim⟩⟩
  ·simp only[evC,seval,↓evP,rpC]
  ·simp only[evC,↓reduceIte,Nat.reduceEqDiff,reduceCtorEq,↓evP,rpC,Nat.reduceAdd,Nat.reduceLT];rfl
  ·simp only[evC,seval,↓evP,rpC]
  ·simp only[evC,seval,↓evP,rpC];exact .inl ⟨rfl,rfl⟩
 ·rintro j ⟨T1,H1⟩ hj ⟨s,ev,hB,hsl,hok,htop,hrun⟩
  have hB':=hB
  obtain⟨t0,t5,t4,hst,hf,hnx,hold⟩:=hB
  simp only at t0 t5 t4 hst hf hnx hold
  have hlenS:=fun h'=>hst.len (h':=h')
  have w1:IntKind.i64.wrap ((j:Int)+1)=((j+1:Nat):Int):=J0s (by omega) (by omega)
  -- the end: no row is open
  by_cases hend:s=[]∧0<j
  ·obtain⟨rfl,hj0⟩:=hend
   have hRn:R=none:=by
    rcases hrun with⟨h1 | h1,_⟩ | ⟨_,_,h1⟩
    ·exact absurd rfl h1
    ·omega
    ·exact h1
   subst hRn
   have c0:((j:Int)==0)=false:=by rw[beq_eq_false_iff_ne];omega
   have c1:decide (((([]:List Frame).length:Nat):Int)>0)=false:=rfl
   simp only[evC,seval,↓evP,rpC,hr,t0,t5,t4,hlenS,c0,c1]
   exact hold
  ·have hrun':runM (isName:=J09) l (l.length+1-j) j s ev=R:=by
    rcases hrun with⟨_,h1⟩ | ⟨h1,h2,_⟩
    ·exact h1
    ·exact absurd ⟨h1,h2⟩ hend
   obtain⟨m,hm⟩:∃ m,l.length+1-j=m+1:=⟨l.length-j,by omega⟩
   rw[hm,runM] at hrun'
   have head:∀ (c:Code) (k:Kont),(∀ T':Tr,B84 h v j T' H1 s ev→WK Tryz.prog call n (.block 1 BB84) ⟨T',H1⟩ (.seq c k))→WK Tryz.prog call n (lf LB84) ⟨T1,H1⟩ (.seq (.seq (.block 1 BB84) c) k):=fun c k hk=>by
    show WK _ _ _ (.seq _ (.cond _ _ _)) _ _
    by_cases hj0:j=0
    ·have c0:((j:Int)==0)=true:=by rw[hj0];rfl
     simp only[evB,seval,↓evP,rpC,t0,t5,t4,hlenS,c0]
     refine hk _ ⟨?_,?_,?_,?_,hf,hnx,hold⟩
     ·simp only[evC,seval,↓evP,rpC,t0]
     ·simp only[evC,seval,↓evP,rpC,t5]
     ·simp only[evC,seval,↓evP,rpC,t4]
     ·simp only[evC,seval,↓evP,rpC];exact hst
    ·have c0:((j:Int)==0)=false:=by rw[beq_eq_false_iff_ne];omega
     have hs0:s.length≠0:=fun e=>hend ⟨List.length_eq_zero_iff.1 e,by omega⟩
     have c1:decide (((s.length:Nat):Int)>0)=true:=by simp only[decide_eq_true_eq];omega
     simp only[evB,seval,↓evP,rpC,t0,t5,t4,hlenS,c0,c1]
     refine hk _ ⟨?_,?_,?_,?_,hf,hnx,hold⟩
     ·simp only[evC,seval,↓evP,rpC,t0]
     ·simp only[evC,seval,↓evP,rpC,t5]
     ·simp only[evC,seval,↓evP,rpC,t4]
     ·simp only[evC,seval,↓evP,rpC];exact hst
   show WK _ _ _ (.seq (lf LB84) (.seq (.block 1 BB84) _)) _ _
   rw[J4p]
   refine head _ _ fun T2 hB2=>?_
   rw[Jaj]
   refine JaS hc hB2 hfl (by omega) (by omega) (fun f s' he=>?_) fun T3 H3 hB3 h6=>?_
   ·have h1:=hok f (by rw[he];simp)
    have h2:=htop f s' he
    exact⟨h1.1,by omega,h1.2.1,h1.2.2.1,h1.2.2.2⟩
   have old3:=hB3.2.2.2.2.2.2
   refine Jab hc hv hB3 JaY h6 (fun hb T4 u2=>?_) fun x hx hgood T4 hB4 h6'=>?_
   ·have hR:R=some j:=by
     rw[← hrun']
     rcases hb with hb | ⟨x,hx,hb⟩
     ·simp only[J5e,hb]
     ·simp only[J5e,hx,hb,Bool.false_eq_true,if_false]
    subst hR
    simp only[evC,seval,↓evP,rpC,hr,u2]
    exact old3
   refine JaC hc hv hB4 JaY h6' hx (fun hb T5 u2=>?_) fun hb T5 hB5=>?_
   ·have hR:R=some j:=by
     rw[← hrun']
     simp only[J5e,hx,hgood,if_true]
     rw[if_pos hb]
    subst hR
    simp only[evC,seval,↓evP,rpC,hr,u2]
    exact old3
   have hjl:j<l.length:=(List.getElem?_eq_some_iff.1 hx).1
   have hg:=Bool.and_eq_true_iff.1 hgood
   obtain⟨hk0,hk1⟩:=JeP hg.2
   have hkk:=J9r hg.1
   have hx64:=h64 x (List.mem_of_getElem? hx)
   refine Ji2 hv hB5 hx hk0 hfl (by rw[J64];omega) fun T6 H6 hB6=>?_
   refine JhD hB6 (by simp only[List.length_cons,J64];omega) (by simp only[List.length_cons,J64];omega) fun T7 hB7=>?_
   have old7:=hB7.2.2.2.2.2.2
   simp only[J5e,hx,hgood,if_true] at hrun'
   rw[if_neg hb] at hrun'
   have hplen:=Jaw (⟨x.kind,x.kids.toNat,0⟩ :: decF s)
   simp only[List.length_cons,J64] at hplen
   have hdec:=Jgy hok htop
   have hall:∀ f∈popF (⟨x.kind,x.kids.toNat,0⟩ :: decF s),FrOK (j+1) f:=fun f hf=>by
    rcases List.mem_cons.1 (JaI hf) with rfl | hf
    ·refine⟨hkk,?_,by simp only;omega,by simp only;omega⟩
     rcases hk1 with h | h | h
     ·exact .inl h
     ·exact .inr (.inl h)
     ·exact .inr (.inr (by simp only;omega))
    ·exact hdec f hf
   have htop':∀ f s',popF (⟨x.kind,x.kids.toNat,0⟩ :: decF s)=f :: s'→f.left≠0:=fun f s' he=>Ja2 he
   generalize popF (⟨x.kind,x.kids.toNat,0⟩ :: decF s)=s2 at *
   generalize (if J60 s=9 then ev||J1l 1 x.kind else ev)=ev2 at *
   simp only at hrun'
   refine Ji9 hv hB7 (by omega) (fun e1 e2 T8 u2=>?_) fun e1 T8 hB8=>?_
   ·rw[if_pos e1,if_pos e2] at hrun'
    subst hrun'
    simp only[evC,seval,↓evP,rpC,hr,u2]
    exact old7
   ·obtain⟨y0,y5,y4,yst,yf,yn,yold⟩:=hB8
    simp only[evC,↓reduceIte,Nat.reduceEqDiff,reduceCtorEq,↓evP,rpC,Nat.reduceAdd,Nat.reduceLT,y5,w1]
    refine⟨hjl,s2,ev2,⟨?_,?_,?_,?_,yf,yn,yold⟩,by omega,hall,htop',?_⟩
    ·simp only[evC,↓reduceIte,Nat.reduceEqDiff,reduceCtorEq,↓evP,rpC,Nat.reduceAdd,Nat.reduceLT,y0]
    ·simp only[evC,↓reduceIte,Nat.reduceEqDiff,reduceCtorEq,↓evP,rpC,Nat.reduceAdd,Nat.reduceLT]
    ·simp only[evC,↓reduceIte,Nat.reduceEqDiff,reduceCtorEq,↓evP,rpC,Nat.reduceAdd,Nat.reduceLT,y4]
    ·simp only[evC,↓reduceIte,Nat.reduceEqDiff,reduceCtorEq,↓evP,rpC,Nat.reduceAdd,Nat.reduceLT];exact yst
    ·by_cases h0:s2=[]
     ·refine .inr ⟨h0,by omega,?_⟩
      rw[if_pos h0,if_neg (fun h=>e1 ⟨h0,h⟩)] at hrun'
      exact hrun'.symm
     ·rw[if_neg h0] at hrun'
      refine .inl ⟨.inl h0,?_⟩
      rw[show l.length+1-(j+1)=m by omega]
      exact hrun'
end
theorem J8M (k:Int) (h:SHeap):L0 127 [iv k] h=some (.bool (decide (k≥2)&&decide (k≤7)),h):=J0I rfl rfl rfl rfl ⟨_,J9H⟩
theorem J6Y (k:Int) (h:SHeap):L0 128 [iv k] h=some (.bool (J0E k),h):=J0I rfl rfl rfl rfl ⟨_,J83⟩
theorem JcS {w k:Int} (h:SHeap) (hw:J4C w):L1 133 [iv k,iv (J3q w)] h=some (.bool (J1c w k),h):=by
 refine J0I (J20 rfl rfl) rfl rfl rfl ⟨_,J9k hw (J55 (J8M k _)) (J55 (J6Y k _)) ?_ ?_⟩
 ·exact(J4u (n:=11) (base:=L0) (J20 rfl rfl)).trans J8F
 ·exact(J4u (n:=11) (base:=L0) (J20 rfl rfl)).trans J9e
theorem Jf9 (k:Int) (h:SHeap) (hk:1≤k∧k≤54):L0 134 [iv k] h=some (.bool (endK k),h):=J0I rfl rfl rfl rfl (J1I JdN hk)
theorem Jep (k:Int) (h:SHeap) (hk:1≤k∧k≤54):L0 135 [iv k] h=some (.bool (J3l k),h):=J0I rfl rfl rfl rfl (J1I Jct hk)
theorem Jh6 (k:Int) (h:SHeap) (hk:1≤k∧k≤54):L0 137 [iv k] h=some (.tuple #[iv (J1U k),iv (J1r k)],h):=J0I rfl rfl rfl (J93 rfl rfl) (J1I JeV hk)
theorem Jf6 {w:Int} {x:RowN} (h:SHeap) (hw:J4C w):L3 126 [rowV x,iv (J3q w)] h=some (.bool (J1c w x.kind&&fitN J09 x),h):=by
 refine J0I (J8X (J20 (J20 rfl rfl) rfl) rfl) rfl ?_ rfl (ofEx (Jbb (fun h=>J55 (J6k (JcS h hw))) (fun h hk=>J55 (J6k (J1M (Jf9 _ h hk)))) (fun h hk=>J55 (J6k (J1M (Jep _ h hk)))) (fun h=>J55 (JbH h _)) (fun h hk=>J55 (J6k (J1M (Jh6 _ h hk))))))
 simp[J3Q,flat,J1i]
section
variable {call:J0r} {n:Nat}
theorem Jgh {j:Nat} {h:SHeap}:J0L Tryz.prog call n 125 [iv 1,iv j] h=some (iv 1,h):=by
 refine J1m Tryz.func125 rfl (by simp[Tryz.f125]) ?_
 have hr:Tryz.f125.results.toList=[.tmp 4]:=rfl
 simp only[evC,seval,↓evP,rpC,hr,Int.reduceBEq]
theorem JdH {j:Nat} {h:SHeap}:J0L Tryz.prog call n 125 [iv 11,iv j] h=some (iv 3,h):=by
 refine J1m Tryz.func125 rfl (by simp[Tryz.f125]) ?_
 have hr:Tryz.f125.results.toList=[.tmp 4]:=rfl
 simp only[evC,seval,↓evP,rpC,hr,Int.reduceBEq]
end
theorem Jcd (k:Int):J1r k≤3:=by unfold J1r;(repeat' split) <;> omega
theorem JhJ (k:Int) (j:Nat) (h:SHeap) (hk:1≤k∧k≤54) (hj:k=1∨k=11∨(j:Int)<J1r k):L0 125 [iv k,iv j] h=some (iv (kidR k j),h):=by
 rcases hj with rfl | rfl | hj
 ·exact J0I rfl rfl rfl rfl ⟨_,Jgh⟩
 ·exact J0I rfl rfl rfl rfl ⟨_,JdH⟩
 ·have:=Jcd k
  obtain rfl | rfl | rfl:j=0∨j=1∨j=2:=by omega
  ·exact J0I rfl rfl rfl rfl (J1I JeS hk)
  ·exact J0I rfl rfl rfl rfl (J1I Jeu hk)
  ·exact J0I rfl rfl rfl rfl (J1I Jf0 hk)
theorem Jgl (n:Nat):Calls84 (J0T n) where
 kid:=fun κ j h hκ hj=>J2Z (J1M (JhJ κ j h hκ hj))
 right:=fun w x h hw=>Jip (Jf6 h hw)
 decl:=fun k h=>J2Z (J1M (J8M k h))
 event:=fun k h=>J2Z (J1M (J6Y k h))
section
variable {call:J0r} {n:Nat}
theorem J9O {l:List RowN} {v:Value} {h:SHeap} (hv:J0l h v l) (hfl:h.floor≤h.next)
  (h84:∀ h',J0l h' v l→h'.floor≤h'.next→call 116 [v] h'=some (iv (match J2L J09 l with | some p=>(p:Int) | none=>-1),h'))
  (h85:J2L J09 l=none→∀ h',J0l h' v l→h'.floor≤h'.next→call 117 [v] h'=some (iv (levN l (l.length+1) 0).1,h')) :
  ∃ h1,J0L Tryz.prog call n 78 [v] h=some (J2k (J0v l).1 (J0v l).2,h1)∧∀ i,i<h.next→h1.get i=h.get i:=by
 refine J1N (R:=fun h1=>∀ i,i<h.next→h1.get i=h.get i) Tryz.func78 rfl (by simp[Tryz.f78]) ?_
 have hr:Tryz.f78.results.toList=[.cell 2 32]:=rfl
 have hold:∀ o:SObj,∀ i,i<h.next→(h.push o).get i=h.get i:=fun o i hi=>J06 hi
 have hvp:=hv.mono (h':=h.push (.row [.int .i64 0,.int .i64 0] 32 false false)) (by show h.next≤h.next+1;omega) (hold _)
 have h84':=h84 _ hvp (by show h.floor≤h.next+1;omega)
 have hflT:(h.floor≤h.next)=True:=by simpa using hfl
 have hltT:(h.next<h.next+1)=True:=by simp
 unfold J0v
 cases hs:J2L J09 l with
 | some p=>
  rw[hs] at h84'
  have c1:decide ((p:Int)≥0)=true:=by simp
  simp only[evC,seval,↓evP,rpC,hr,J51,J3C,J1t,h84',c1,J4G,J5a,J4k,J2n,J4j,hflT,hltT]
  intro i hi
  rw[if_neg (by omega),if_neg (by omega)]
 | none=>
  have h85':=h85 hs _ hvp (by show h.floor≤h.next+1;omega)
  rw[hs] at h84'
  have c1:decide ((-1:Int)≥0)=false:=rfl
  cases c2:decide ((levN l (l.length+1) 0).1>64) with
  | true=>
   rw[if_pos (by simpa using c2)]
   simp only[evC,seval,↓evP,rpC,hr,c1,c2,J51,J3C,J1t,h84',h85',J96,J5a,J4k,J2n,J4j,hflT,hltT]
   intro i hi
   rw[if_neg (by omega),if_neg (by omega)]
  | false=>
   rw[if_neg (by simpa using c2)]
   simp only[evC,seval,↓evP,rpC,hr,c1,c2,J51,J3C,J1t,h84',h85',J5n,J5a,J4k,J2n,J4j,hflT,hltT]
   intro i hi
   rw[if_neg (by omega),if_neg (by omega)]
end
theorem Jfa {n:Nat} {l:List RowN} {v:Value} (hn:l.length+12<n) (hlen:l.length<900000000) (h64:∀ x∈l,x.kids≤9223372036854775807) {h:SHeap} (hv:J0l h v l) (hfl:h.floor≤h.next) :
  J0T n 78 [v] h=some (J2k (J0v l).1 (J0v l).2,h):=by
 obtain⟨n,rfl⟩:∃ k,n=k+4:=⟨n-4,by omega⟩
 refine J4r (J13 ⟨rfl,rfl,rfl⟩) rfl (J9O hv hfl (fun h' hv' hfl'=>?_) fun hs h' hv' hfl'=>?_)
 ·exact J4r (J13 ⟨rfl,rfl,rfl⟩) rfl (JbO (Jgl _) hv' hlen (by omega) hfl' h64)
 ·have ht:=J8d hs
  refine J4r (J13 ⟨rfl,rfl,rfl⟩) rfl (J90 ht hv' (by omega) (by omega) hfl' ?_ fun P K k h hP hK=>J2Z (JcA P K k h hP hK))
  refine Jc0 (J13 ⟨rfl,rfl,rfl⟩) ?_ (J8I ht hv' (by omega) (by omega) hfl' fun H hvH hflH=>JcD ht hvH (by omega) (by omega) hflH)
  simp[J3m,flat,J1i]
theorem excl {k:Int} (h:J0j k≠0):J1O k=0∧J0E k=false:=by
 have:k=2∨k=3∨k=4∨k=5∨k=7:=by
  unfold J0j at h
  split at h
  ·rename_i h1
   simp only[List.contains_cons,List.contains_nil,Bool.or_false,Bool.or_eq_true,beq_iff_eq] at h1
   omega
  ·split at h
   ·omega
   ·split at h
    ·omega
    ·split at h
     ·omega
     ·exact absurd rfl h
 obtain rfl | rfl | rfl | rfl | rfl:=this <;> exact⟨rfl,rfl⟩
theorem J8t {E:List Int} {at_:Nat} {s:StN} {x:RowN} (hx:s.rows[at_]?=some x) (hd:J0j x.kind≠0) :
  J31 E at_ s=if J25 x s≠0 then (J25 x s,s) else (0,J0W at_ ((E[at_]?).getD 0) x s):=by
 obtain⟨hc,he⟩:=excl hd
 unfold J31
 rw[hx]
 simp only
 split
 ·rfl
 ·have hr:(J0W at_ ((E[at_]?).getD 0) x s).rows[at_]?=some { x with n:=(cntN s (J0j x.kind):Int) }:=by
   rw[J8O,if_neg hd]
   exact J4g hx
  rw[hr]
  simp only
  have h1:J1v at_ { x with n:=(cntN s (J0j x.kind):Int) } (J0W at_ ((E[at_]?).getD 0) x s)=0:=by unfold J1v;rw[if_pos hc]
  have h2:J0D at_ { x with n:=(cntN s (J0j x.kind):Int) } (J0W at_ ((E[at_]?).getD 0) x s)=J0W at_ ((E[at_]?).getD 0) x s:=by unfold J0D;rw[if_pos hc]
  rw[h1,h2,hr,if_neg (by simp)]
  simp only
  have h3:evE { x with n:=(cntN s (J0j x.kind):Int) } (J0W at_ ((E[at_]?).getD 0) x s)=0:=by unfold evE;rw[if_pos he]
  have h4:evS at_ { x with n:=(cntN s (J0j x.kind):Int) } (J0W at_ ((E[at_]?).getD 0) x s)=J0W at_ ((E[at_]?).getD 0) x s:=by unfold evS;rw[if_pos he]
  rw[h3,h4,if_neg (by simp)]
theorem J8B {E:List Int} {at_:Nat} {s:StN} {x:RowN} (hx:s.rows[at_]?=some x) (hd:J0j x.kind=0) :
  J31 E at_ s=if J1v at_ x s≠0 then (J1v at_ x s,s) else match (J0D at_ x s).rows[at_]? with
   | none=>(0,s)
   | some x2=>if evE x2 (J0D at_ x s)≠0 then (evE x2 (J0D at_ x s),s) else (0,evS at_ x2 (J0D at_ x s)):=by
 have h1:J25 x s=0:=by unfold J25;rw[if_pos hd]
 have h2:J0W at_ ((E[at_]?).getD 0) x s=s:=by unfold J0W;rw[if_pos hd]
 unfold J31
 rw[hx]
 simp only
 rw[h1,h2,hx,if_neg (by simp)]
 rfl
theorem J6j {at_:Nat} {s:StN} {x:RowN} (hx:s.rows[at_]?=some x) (hc:J1v at_ x s=0) :
  ∃ n,(J0D at_ x s).rows[at_]?=some { x with n:=n }∧(∀ i,i≠at_→(J0D at_ x s).rows[i]?=s.rows[i]?)∧(J0D at_ x s).rules=s.rules∧(J0D at_ x s).on=s.on∧(J0D at_ x s).things=s.things ∧
   ((J1O x.kind=0∧n=x.n)∨∃ t∈s.things,t.kind=J1O x.kind∧n=t.num∧t.known≤at_∧J30 s.things x.name=some t):=by
 unfold J1v at hc
 unfold J0D
 by_cases h0:J1O x.kind=0
 ·rw[if_pos h0]
  exact⟨x.n,hx,fun _ _=>rfl,rfl,rfl,rfl,.inl ⟨h0,rfl⟩⟩
 ·rw [if_neg h0] at hc ⊢
  cases hf:J30 s.things x.name with
  | none=>rw[hf] at hc;cases hc
  | some t=>
   rw[hf] at hc
   simp only at hc ⊢
   refine⟨t.num,J4g hx,fun i hi=>J4M hi,trivial,trivial,trivial,.inr ⟨t,J8w hf,?_,rfl,?_,rfl⟩⟩
   ·split at hc
    ·cases hc
    ·split at hc
     ·cases hc
     ·rename_i h;simpa using h
   ·split at hc
    ·cases hc
    ·omega
def Jew (l:List RowN) (i:Nat):Prop:=∃ x,l[i]?=some x∧11≤x.kind
theorem JdM {w k:Int} (hw:2≤w∧w≤7) (h:J1l w k=true):11≤k:=by
 unfold J1l at h
 rw[if_neg (by omega),if_neg (by omega),if_neg (by omega)] at h
 (repeat' split at h) <;> simp only[beq_iff_eq,Bool.and_eq_true,Bool.or_eq_true,decide_eq_true_eq] at h <;> omega
theorem J7g (k:Int) (j:Nat):2≤J0A k j∧J0A k j≤7:=by unfold J0A;(repeat' split) <;> omega
theorem Jft {l:List RowN}:∀ m at_ what,(2≤what∧what≤7)→(rowN J09 l m at_ what).2=true→∀ i,at_≤i→i<(rowN J09 l m at_ what).1→Jew l i:=by
 intro m
 induction m with
 | zero=>intro at_ what _ h;cases h
 | succ m ih=>
  intro at_ what hw
  unfold rowN
  cases hx:l[at_]? with
  | none=>intro h;cases h
  | some x=>
   simp only
   split
   ·rename_i hc
    intro h i h1 h2
    rcases Nat.lt_or_ge at_ i with h3 | h3
    ·exact J5C (V:=Jew l) (fun k p hk i h1 h2=>ih p (J0A x.kind k) (J7g _ _) hk i h1 h2) x.kids.toNat 0 (at_+1) h i h3 h2
    ·have:i=at_:=by omega
     subst this
     exact⟨x,hx,JdM hw (Bool.and_eq_true_iff.1 hc).1⟩
   ·intro h;cases h
theorem JeQ {l:List RowN} {r q:Nat} {x:RowN} (h:SubT l r q) (hx:l[r]?=some x) (h1:x.kind≠1):∀ i,r<i→i<q→Jew l i:=by
 intro i hi hq
 rcases h with⟨m,what,h⟩ | ⟨rfl,m,h⟩
 ·cases m with
  | zero=>cases h
  | succ m=>
   rw[J5l hx] at h
   split at h
   ·have e1:(J2r (fun k next=>rowN J09 l m next (J0A x.kind k)) x.kids.toNat 0 (r+1)).2=true:=by rw[h]
    have e2:(J2r (fun k next=>rowN J09 l m next (J0A x.kind k)) x.kids.toNat 0 (r+1)).1=q:=by rw[h]
    exact J5C (V:=Jew l) (fun k p hk i h1 h2=>Jft m p (J0A x.kind k) (J7g _ _) hk i h1 h2) x.kids.toNat 0 (r+1) e1 i hi (by rw[e2];exact hq)
   ·cases h
 ·rw[J5q hx] at h
  split at h
  ·rename_i hc
   have:=(Bool.and_eq_true_iff.1 hc).1
   exact absurd (by simpa [J1l] using this) h1
  ·cases h
structure InvL (l:List RowN) (at_:Nat) (s:StN):Prop where
 rul:∀ (j:Nat) (ru:Int),s.rules[j]?=some ru→∃ r:Nat,ru=(r:Int)+1∧r<at_∧∃ x,l[r]?=some x∧x.kind=7
 inc:∀ (j j':Nat) (ru ru':Int),j<j'→s.rules[j]?=some ru→s.rules[j']?=some ru'→ru<ru'
 th:∀ t∈s.things,t.kind=4→0≤t.num∧∃ r:Nat,s.rules[t.num.toNat]?=some ((r:Int)+1)∧t.known=(endN l r:Int)
 call:∀ (i:Nat) (x:RowN),i<at_→s.rows[i]?=some x→x.kind=22→∃ r:Nat,s.rules[x.n.toNat]?=some ((r:Int)+1)∧endN l r≤i
theorem JjD (l:List RowN):InvL l 0 (s0N l) where
 rul:=fun j ru h=>by simp[s0N] at h
 inc:=fun j j' ru ru' _ h=>by simp[s0N] at h
 th:=fun t h=>by simp[s0N] at h
 call:=fun i x h=>by omega
theorem Jjh {k:Int} (h:J0j k=4):k=7:=by
 unfold J0j at h
 (repeat' split at h) <;> simp_all
theorem Jci {l:List RowN} {at_:Nat} {s:StN} (ht:J2c l) (hat:at_<l.length) (hi:InvR l at_ s) (hL:InvL l at_ s) (h0:(J31 (J0o l) at_ s).1=0):InvL l (at_+1) (J31 (J0o l) at_ s).2:=by
 obtain⟨x,hx⟩:∃ x,s.rows[at_]?=some x:=⟨_,List.getElem?_eq_getElem (by rw[hi.len];exact hat)⟩
 have hxl:l[at_]?=some x:=by rw[← hi.later at_ (Nat.le_refl _)];exact hx
 have hE:((J0o l)[at_]?).getD 0=(endN l at_:Int):=by rw[J2B hat];rfl
 by_cases hd:J0j x.kind=0
 ·rw [J8B hx hd] at h0 ⊢
  by_cases hc:J1v at_ x s=0
  case neg=>rw[if_pos hc] at h0;exact absurd h0 hc
  rw[if_neg (by simpa using hc)] at h0 ⊢
  obtain⟨n,c1,c2,c3,c4,c5,c6⟩:=J6j hx hc
  rw[c1] at h0 ⊢
  simp only at h0 ⊢
  by_cases hv:evE { x with n:=n } (J0D at_ x s)=0
  case neg=>rw[if_pos hv] at h0;exact absurd h0 hv
  rw[if_neg (by simpa using hv)]
  have e1:(evS at_ { x with n:=n } (J0D at_ x s)).rows=(J0D at_ x s).rows∧(evS at_ { x with n:=n } (J0D at_ x s)).rules=s.rules∧(evS at_ { x with n:=n } (J0D at_ x s)).things=s.things:=by
   unfold evS
   split
   ·exact⟨rfl,c3,c5⟩
   ·split
    ·exact⟨rfl,c3,c5⟩
    ·exact⟨rfl,c3,c5⟩
  obtain⟨e1,e2,e3⟩:=e1
  simp only
  refine⟨fun j ru h=>?_,fun j j' ru ru' h1 h2 h3=>?_,fun t h1 h2=>?_,fun i y h1 h2 h3=>?_⟩
  ·rw[e2] at h
   obtain⟨r,r1,r2,r3⟩:=hL.rul j ru h
   exact⟨r,r1,by omega,r3⟩
  ·rw[e2] at h2 h3
   exact hL.inc j j' ru ru' h1 h2 h3
  ·rw[e3] at h1
   rw[e2]
   exact hL.th t h1 h2
  ·rw[e1] at h2
   rw[e2]
   by_cases hia:i=at_
   ·subst hia
    rw[c1] at h2
    cases h2
    rcases c6 with⟨h4,_⟩ | ⟨t,t1,t2,t3,t4,_⟩
    ·have h3':x.kind=22:=h3
     rw[h3'] at h4
     cases h4
    ·have h3':x.kind=22:=h3
     rw[h3'] at t2
     obtain⟨k1,r,k2,k3⟩:=hL.th t t1 t2
     simp only
     rw[t3]
     exact⟨r,k2,by omega⟩
   ·rw[c2 i hia] at h2
    exact hL.call i y (by omega) h2 h3
 ·rw [J8t hx hd] at h0 ⊢
  by_cases hc:J25 x s=0
  case neg=>rw[if_pos hc] at h0;exact absurd h0 hc
  rw[if_neg (by simpa using hc)]
  simp only
  have hS:J0W at_ (((J0o l)[at_]?).getD 0) x s=addN at_ (endN l at_) x s:=by unfold J0W;rw[if_neg hd,hE]
  rw[hS]
  have hrul:(addN at_ (endN l at_) x s).rules=if J0j x.kind=4 then s.rules++[(at_:Int)+1] else s.rules:=rfl
  have hth:(addN at_ (endN l at_) x s).things=s.things++[⟨x.name,J0j x.kind,cntN s (J0j x.kind),endN l at_⟩]:=rfl
  have hrows:(addN at_ (endN l at_) x s).rows=setN s.rows at_ (cntN s (J0j x.kind)):=rfl
  have old:∀ (j:Nat) (ru:Int),s.rules[j]?=some ru→(addN at_ (endN l at_) x s).rules[j]?=some ru:=fun j ru h=>by
   rw[hrul]
   split
   ·rw[List.getElem?_append_left (List.getElem?_eq_some_iff.1 h).1];exact h
   ·exact h
  have new:∀ (j:Nat) (ru:Int),(addN at_ (endN l at_) x s).rules[j]?=some ru→s.rules[j]?=some ru∨(J0j x.kind=4∧j=s.rules.length∧ru=(at_:Int)+1):=fun j ru h=>by
   rw[hrul] at h
   split at h
   ·rename_i h4
    rcases Nat.lt_or_ge j s.rules.length with h5 | h5
    ·rw[List.getElem?_append_left h5] at h
     exact .inl h
    ·rw[List.getElem?_append_right h5] at h
     have:j-s.rules.length=0:=by
      rcases Nat.eq_zero_or_pos (j-s.rules.length) with h6 | h6
      ·exact h6
      ·rw[List.getElem?_eq_none (by simp;omega)] at h;cases h
     rw[this] at h
     cases h
     exact .inr ⟨h4,by omega,rfl⟩
   ·exact .inl h
  refine⟨fun j ru h=>?_,fun j j' ru ru' h1 h2 h3=>?_,fun t h1 h2=>?_,fun i y h1 h2 h3=>?_⟩
  ·rcases new j ru h with h | ⟨h4,_,rfl⟩
   ·obtain⟨r,r1,r2,r3⟩:=hL.rul j ru h
    exact⟨r,r1,by omega,r3⟩
   ·exact⟨at_,rfl,by omega,x,hxl,Jjh h4⟩
  ·rcases new j ru h2 with h2 | ⟨h4,g2,rfl⟩
   ·rcases new j' ru' h3 with h3 | ⟨_,_,rfl⟩
    ·exact hL.inc j j' ru ru' h1 h2 h3
    ·obtain⟨r,r1,r2,_⟩:=hL.rul j ru h2
     omega
   ·rcases new j' ru' h3 with h3 | ⟨_,g3,_⟩
    ·have:=(List.getElem?_eq_some_iff.1 h3).1
     omega
    ·omega
  ·rw[hth] at h1
   rcases List.mem_append.1 h1 with h1 | h1
   ·obtain⟨a,r,b,c⟩:=hL.th t h1 h2
    exact⟨a,r,old _ _ b,c⟩
   ·rw[List.mem_singleton.1 h1] at h2 ⊢
    simp only at h2 ⊢
    refine⟨by omega,at_,?_,rfl⟩
    rw[h2]
    have:cntN s 4=s.rules.length:=rfl
    rw[this,hrul,if_pos h2,Int.toNat_natCast,List.getElem?_append_right (Nat.le_refl _),Nat.sub_self]
    rfl
  ·rw[hrows] at h2
   by_cases hia:i=at_
   ·subst hia
    rw[J4g hx] at h2
    cases h2
    have h3':x.kind=22:=h3
    rw[h3'] at hd
    exact absurd rfl hd
   ·rw[J4M hia] at h2
    obtain⟨r,r1,r2⟩:=hL.call i y (by omega) h2 h3
    exact⟨r,old _ _ r1,r2⟩
theorem JdQ {l:List RowN} (ht:J2c l):∀ r at_ s,at_+r=l.length→InvR l at_ s→InvL l at_ s→(goN (J0o l) r at_ s).1=0→InvL l l.length (goN (J0o l) r at_ s).2.2
 | 0,at_,s,hr,_,hi,_=>by
  have:at_=l.length:=by omega
  subst this
  exact hi
 | r+1,at_,s,hr,hiR,hi,h0=>by
  unfold goN at h0 ⊢
  by_cases h:(J31 (J0o l) at_ s).1=0
  ·rw[if_neg (by simpa using h)] at h0 ⊢
   exact JdQ ht r (at_+1) _ (by omega) (J6b ht (J3T at_) (by omega) hiR h) (Jci ht (by omega) hiR hi h) h0
  ·rw[if_pos h] at h0
   exact absurd h0 h
theorem JgY {l:List RowN} {s:StN} (ht:J2c l) (hlen:l.length<1099511627) (hi:InvR l l.length s) (hL:InvL l l.length s):LayR s.rows (J0o l) s.rules where
 lay:=J8n ht hlen hi
 ahead:=fun i ru hru x hx h22=>by
  obtain⟨r,rfl,hr,y,hy,hy7⟩:=hL.rul i ru hru
  have hs:=ht.end hr
  obtain⟨z,hz,_,_,hch⟩:=hs.kids
  rw[hy] at hz
  cases hz
  have hfit:=ht.row hy
  have hk1:1≤y.kids:=by
   have h1:=hfit.2.2.1
   rw[hy7] at h1
   exact h1
  have hle:=J2o _ _ _ hch
  have hlt:=hs.lt
  have hr1:r+1<l.length:=by omega
  obtain⟨qi,s1,s2⟩:=SubT.cover (endN l r-r) (by omega) hs (r+1) (by omega) (by omega)
  have hq1:=J5P s1
  have e1:((r:Int)+1).toNat=r+1:=by omega
  rw[e1] at hx
  unfold blk at hx
  rw[J2B hr1] at hx
  simp only[Option.getD_some,Int.toNat_natCast] at hx
  rw[hq1] at hx
  obtain⟨d,hd,hxd⟩:=List.getElem_of_mem hx
  rw[List.length_take,List.length_drop] at hd
  have hxa:s.rows[r+1+d]?=some x:=by
   rw[← hxd,← List.getElem?_eq_getElem,List.getElem?_take_of_lt (by omega),List.getElem?_drop]
  obtain⟨rj,c1,c2⟩:=hL.call (r+1+d) x (by rw[← hi.len];exact(List.getElem?_eq_some_iff.1 hxa).1) hxa h22
  have hn0:=(hi.calls _ _ (by rw[← hi.len];exact(List.getElem?_eq_some_iff.1 hxa).1) hxa h22).1
  have hj:¬ i≤x.n.toNat:=by
   intro hij
   obtain⟨rj',h1,hrj,w,hw,hw7⟩:=hL.rul _ _ c1
   have:rj'=rj:=by omega
   subst this
   have hse:=(ht.end hrj).lt
   rcases Nat.eq_or_lt_of_le hij with h2 | h2
   ·rw[← h2,hru] at c1
    have:r=rj':=by
     simp only[Option.some.injEq] at c1
     omega
    subst this
    omega
   ·have h3:=hL.inc i x.n.toNat _ _ h2 hru c1
    rcases Nat.lt_or_ge rj' (endN l r) with h4 | h4
    ·obtain⟨w',hw',h5⟩:=JeQ hs hy (by omega) rj' (by omega) h4
     rw[hw] at hw'
     cases hw'
     omega
    ·omega
  omega
section
variable {call:J0r} {N:Nat} {h:SHeap}
theorem Jbq {k:Int}:J0L Tryz.prog call N 119 [iv k] h=some (iv (J3g k),h):=by
 refine J1m Tryz.func119 rfl (by simp[Tryz.f119]) ?_
 have hr:Tryz.f119.results.toList=[.tmp 2]:=rfl
 unfold J3g
 by_cases h1:k=1
 ·have c1:(k==1)=true:=by simpa using h1
  rw[if_pos h1]
  simp only[evC,seval,↓evP,rpC,hr,c1]
 have c1:(k==1)=false:=by simpa using h1
 rw[if_neg h1]
 by_cases h2:k=2
 ·have c2:(k==2)=true:=by simpa using h2
  rw[if_pos h2]
  simp only[evC,seval,↓evP,rpC,hr,c1,c2]
 have c2:(k==2)=false:=by simpa using h2
 rw[if_neg h2]
 by_cases h3:k=3
 ·have c3:(k==3)=true:=by simpa using h3
  rw[if_pos h3]
  simp only[evC,seval,↓evP,rpC,hr,c1,c2,c3]
 have c3:(k==3)=false:=by simpa using h3
 rw[if_neg h3]
 simp only[evC,seval,↓evP,rpC,hr,c1,c2,c3]
theorem Jc6 {k:Int}:J0L Tryz.prog call N 73 [iv k] h=some (iv (J3g k),h):=by
 refine J1m Tryz.func73 rfl (by simp[Tryz.f73]) ?_
 have hr:Tryz.f73.results.toList=[.tmp 2]:=rfl
 unfold J3g
 by_cases h1:k=1
 ·have c1:(k==1)=true:=by simpa using h1
  rw[if_pos h1]
  simp only[evC,seval,↓evP,rpC,hr,c1]
 have c1:(k==1)=false:=by simpa using h1
 rw[if_neg h1]
 by_cases h2:k=2
 ·have c2:(k==2)=true:=by simpa using h2
  rw[if_pos h2]
  simp only[evC,seval,↓evP,rpC,hr,c1,c2]
 have c2:(k==2)=false:=by simpa using h2
 rw[if_neg h2]
 by_cases h3:k=3
 ·have c3:(k==3)=true:=by simpa using h3
  rw[if_pos h3]
  simp only[evC,seval,↓evP,rpC,hr,c1,c2,c3]
 have c3:(k==3)=false:=by simpa using h3
 rw[if_neg h3]
 simp only[evC,seval,↓evP,rpC,hr,c1,c2,c3]
end
theorem Jfh (k:Int) (h:SHeap):L1 119 [iv k] h=some (iv (J3g k),h):=J0I (J20 rfl rfl) rfl rfl rfl ⟨_,Jbq⟩
theorem Jf8 (k:Int) (h:SHeap):L1 73 [iv k] h=some (iv (J3g k),h):=J0I (J20 rfl rfl) rfl rfl rfl ⟨_,Jc6⟩
theorem Jgc (k:Int) (h:SHeap) (hk:1≤k∧k≤54):L0 80 [iv k] h=some (iv (J0j k),h):=J0I rfl rfl rfl rfl (J1I J8g hk)
theorem Jfb (k:Int) (h:SHeap) (hk:1≤k∧k≤54):L0 82 [iv k] h=some (iv (J1O k),h):=J0I rfl rfl rfl rfl (J1I JbA hk)
theorem Jgw (k:Int) (h:SHeap) (hk:1≤k∧k≤54):L0 84 [iv k] h=some (.bool (J0E k),h):=J0I rfl rfl rfl rfl (J1I J8q hk)
section
variable {n lo m e r k:Nat} {h:SHeap} {nm:ByteArray} {E:List Int} {s:StN}
theorem JfN {y:ByteArray} {tag:Nat→Nat} {V:Nat→Value} {C:List Int} (hp:MkR h lo m e r k nm E tag V C s) (hth:s.things.length<100000) (hn:100005<n):J0T n 118 [.pointer (some ⟨m,0,none⟩),.string y] h=some (iv (J3M s.things y 0),h):=by
 obtain⟨n,rfl⟩:∃ j,n=j+1:=⟨n-1,by omega⟩
 exact J6r (J13 ⟨rfl,rfl,rfl⟩) rfl (JbE hp (by omega) (by omega))
theorem JgC {at_:Nat} {end_:Int} {x:RowN} (hp:MkRE h lo m e r k nm E s) (hx:s.rows[at_]?=some x) (hd:J0j x.kind≠0) (hat:at_<1099511627776) (hE:E[at_]?=some end_) (he:0≤end_) (hth:s.things.length<100000) (hn:100010<n) :
  ∃ h',J0T n 81 [.pointer (some ⟨m,0,none⟩),iv at_,iv (J0j x.kind)] h=some (iv (J25 x s),h')∧(AftR h h' lo∧(J25 x s=0→MkRE h' lo m e r k nm E (J0W at_ end_ x s))):=by
 obtain⟨n,rfl⟩:∃ j,n=j+1:=⟨n-1,by omega⟩
 exact k_wr (J13 ⟨rfl,rfl,rfl⟩) (JbZ hp hx hd hat hE he hth (by omega) (fun y H tag V C hp'=>JfN hp' hth (by omega)) fun k h'=>J2Z (Jfh k h'))
theorem Jez {at_:Nat} {x:RowN} (hp:MkRE h lo m e r k nm E s) (hx:s.rows[at_]?=some x) (hd:J1O x.kind≠0) (hat:at_<1099511627776) (hth:s.things.length<100000) (hn:100010<n) :
  ∃ h',J0T n 83 [.pointer (some ⟨m,0,none⟩),iv at_,iv (J1O x.kind)] h=some (iv (J1v at_ x s),h')∧(AftR h h' lo∧(J1v at_ x s=0→MkRE h' lo m e r k nm E (J0D at_ x s))):=by
 obtain⟨n,rfl⟩:∃ j,n=j+1:=⟨n-1,by omega⟩
 exact k_wr (J13 ⟨rfl,rfl,rfl⟩) (J9A hp hx hd hat fun y H tag V C hp'=>JfN hp' hth (by omega))
theorem Jf5 {at_:Nat} {x:RowN} (hp:MkRE h lo m e r k nm E s) (hx:s.rows[at_]?=some x) (hev:J0E x.kind=true) (hat:at_<1099511627776) (hxn:x.kind≠10→0≤x.n∧x.n<s.on.length) (hn:0<n) :
  ∃ h',J0T n 85 [.pointer (some ⟨m,0,none⟩),iv at_] h=some (iv (evE x s),h')∧(AftR h h' lo∧(evE x s=0→MkRE h' lo m e r k nm E (evS at_ x s))):=by
 obtain⟨n,rfl⟩:∃ j,n=j+1:=⟨n-1,by omega⟩
 exact k_wr (J13 ⟨rfl,rfl,rfl⟩) (J9Q hp hx hev hat hxn)
end
section
variable {n:Nat} {h:SHeap} {rows:List RowN} {E rules:List Int} {vr v0 vq vv vt vu vo v7 ve:Value}
theorem JdU {S:List Int} {row le ls:Nat} {vs:Value} (hone:one v0=true∧one vq=true∧one vv=true∧one vt=true∧one vu=true∧one vo=true∧one v7=true) (hv:J0l h vr rows) (he:J1S le h ve E) (hS:J1S ls h vs S) (hs:Sums S) (hL:Laying rows E rules) (hrow:row<rows.length) (hn:rows.length+8<n)
  (hcalls:∀ x∈blk rows E row,x.kind=22→0≤x.n∧x.n<S.length):J0T n 88 [.agg #[v0,vr,vq,vv,vt,vu,vo,v7],ve,vs,iv (row:Int)] h=some (iv (cAt rows E S row),h):=by
 obtain⟨n,rfl⟩:∃ j,n=j+1:=⟨n-1,by omega⟩
 obtain⟨q,q1,q2,q3,q4⟩:=hL.end hrow
 have hc:cAt rows E S row=J2j S ((rows.drop row).take (q-row)) 0:=by unfold cAt;rw[q1];rfl
 rw[hc]
 rw[q4] at hcalls
 exact J4r (J13 ⟨rfl,rfl,rfl⟩) rfl (JbQ hone hv he hS hs q1 q2 q3 (by have:=hL.len;omega) (by omega) hcalls fun a b h' hb ha=>J2Z (JaD h' hb ha))
theorem JgX {le lu:Nat} (hone:one v0=true∧one vq=true∧one vv=true∧one vt=true∧one vo=true∧one v7=true) (hv:J0l h vr rows) (he:J1S le h ve E) (hu:J1S lu h vu rules) (hL:LayR rows E rules) (hfl:h.floor≤h.next) (hn:rows.length+rules.length+12<n) :
  ∃ v h',J0T n 86 [.agg #[v0,vr,vq,vv,vt,vu,vo,v7],ve] h=some (v,h')∧(J1S h.next h' v (J4Y rows E rules [])∧h'.floor=h.floor∧h.next≤h'.next∧∀ i,i<h.next→h'.get i=h.get i):=by
 obtain⟨n,rfl⟩:∃ j,n=j+1:=⟨n-1,by omega⟩
 refine k_ex (J13 ⟨rfl,rfl,rfl⟩) (Jbz hone hv he hu hL hfl (by omega) fun vs S row H ho hnx hS hSS hrow hc=>?_) fun v h1 hf ho ⟨h2,_,_,_⟩=>⟨?_,rfl,Nat.le_refl _,fun _ _=>rfl⟩
 ·obtain⟨a,b,c,d,e,f⟩:=hone
  exact JdU ⟨a,b,c,d,J0p.one hu,e,f⟩ (hv.mono hnx ho) (he.mono hnx fun i _ hi=>ho i hi) hS hSS hL.lay hrow (by omega) hc
 ·obtain⟨hl,a,c,rfl,⟨h0,rfl⟩ | ⟨id,off,row,ty,g,ro,rfl,g1,g2,g3⟩⟩:=h2
  ·exact⟨hl,_,_,rfl,.inl ⟨h0,rfl⟩⟩
  ·have:J3m (.slice (some ⟨id,off,none⟩) (J4Y rows E rules []).length c)=false:=rfl
   rw[this] at hf
   cases hf
end
end Go.Proofs.YtdejoodfeljmkaaGreatDoor
