/- Part 12 of what the claim leans on: 5 texts laid one behind another. -/
import Derived.Test.YtdejoodfeljmkaaGreatDoorTC11
namespace Go.Proofs.YtdejoodfeljmkaaGreatDoor
open Go Go.Sx
set_option maxRecDepth 100000
set_option linter.unusedSimpArgs false
set_option linter.unusedVariables false
set_option maxHeartbeats 64000000
structure ThN where
 name:ByteArray
 kind:Int
 num:Int
 known:Int
structure StN where
 rows:List RowN
 queues:List (ByteArray × Bool)
 vars:List ByteArray
 tags:List ByteArray
 rules:List Int
 on:List Int
 miss:Int
 things:List ThN
def J30 (l:List ThN) (x:ByteArray):Option ThN:=l.find? fun t=>x==t.name
def cntN (s:StN) (k:Int):Nat:=if k=1 then s.queues.length else if k=2 then s.vars.length else if k=3 then s.tags.length else s.rules.length
def J3g (k:Int):Int:=if k=1 then 16 else if k=2 then 16 else if k=3 then 4 else 64
def setN (l:List RowN) (at_:Nat) (n:Int):List RowN:=match l[at_]? with
 | some x=>l.set at_ { x with n:=n }
 | none=>l
def addN (at_:Nat) (end_:Int) (x:RowN) (s:StN):StN:=
 let k:=J0j x.kind
 { rows:=setN s.rows at_ (cntN s k)
   queues:=if k=1 then s.queues++[(x.name,x.kind==3)] else s.queues
   vars:=if k=2 then s.vars++[x.name] else s.vars
   tags:=if k=3 then s.tags++[x.name] else s.tags
   rules:=if k=4 then s.rules++[(at_:Int)+1] else s.rules
   on:=if k=1 then s.on++[-1] else s.on
   miss:=s.miss
   things:=s.things++[⟨x.name,k,cntN s k,end_⟩] }
def J25 (x:RowN) (s:StN):Int:=
 if J0j x.kind=0 then 0 else if (J30 s.things x.name).isSome=true then 31 else if (cntN s (J0j x.kind):Int)=J3g (J0j x.kind) then 3 else 0
def J0W (at_:Nat) (end_:Int) (x:RowN) (s:StN):StN:=if J0j x.kind=0 then s else addN at_ end_ x s
def J1v (at_:Nat) (x:RowN) (s:StN):Int:=
 if J1O x.kind=0 then 0 else match J30 s.things x.name with
  | none=>32
  | some t=>if t.known>at_ then 32 else if t.kind≠J1O x.kind then 33 else 0
def J0D (at_:Nat) (x:RowN) (s:StN):StN:=
 if J1O x.kind=0 then s else match J30 s.things x.name with
  | none=>s
  | some t=>{ s with rows:=setN s.rows at_ t.num }
def evE (x:RowN) (s:StN):Int:=
 if J0E x.kind=false then 0 else if x.kind=10 then (if s.miss≥0 then 31 else 0) else match s.on[x.n.toNat]? with
  | some v=>if v≥0 then 31 else 0
  | none=>0
def evS (at_:Nat) (x:RowN) (s:StN):StN:=
 if J0E x.kind=false then s else if x.kind=10 then { s with miss:=(at_:Int)+1 } else { s with on:=s.on.set x.n.toNat ((at_:Int)+1) }
def J3S (l:List (ByteArray × Bool)):List Value:=l.flatMap fun q=>[.string q.1,.bool q.2]
def strs (l:List ByteArray):List Value:=l.map (.string ·)
def entT (t:ThN):Value × Value:=(.string t.name,.agg #[iv t.kind,iv t.num,iv t.known])
theorem J2J:∀ l,(J3S l).length=l.length*2
 | []=>rfl
 | q :: l=>by
  have:=J2J l
  simp only[J3S,List.flatMap_cons,List.length_append,List.length_cons,List.length_nil] at *
  omega
theorem J5A:∀ l,(J3S l).all one=true
 | []=>rfl
 | q :: l=>by
  have:=J5A l
  simp only[J3S,List.flatMap_cons,List.all_append] at *
  rw[this]
  rfl
theorem J6e (l:List ByteArray):(strs l).all one=true:=by simp[strs,one]
theorem J4W (l:List ByteArray):(strs l).length=l.length:=by simp[strs]
theorem J0N:∀ l:List RowN,(l.flatMap J0e).length=l.length*5
 | []=>rfl
 | r :: l=>by
  have:=J0N l
  rw[List.flatMap_cons,List.length_append,this]
  simp only[J0e,List.length_cons,List.length_nil]
  omega
theorem J3k:∀ (l:List RowN) (k:Nat),(l.flatMap J0e).drop (k*5)=(l.drop k).flatMap J0e
 | l,0=>by simp
 | [],k+1=>by simp
 | r :: l,k+1=>by
  rw[List.flatMap_cons,List.drop_succ_cons,← J3k l k,show (k+1)*5=5+k*5 by omega,← List.drop_drop]
  rfl
theorem J2Y {l:List RowN} {k:Nat} {r:RowN} (h:l[k]?=some r):((l.flatMap J0e).drop (k*5)).take 5=J0e r:=by
 obtain⟨hl,rfl⟩:=List.getElem?_eq_some_iff.1 h
 rw[J3k,List.drop_eq_getElem_cons hl,List.flatMap_cons]
 rfl
theorem J6F {h:SHeap} {r:Nat} {l:List RowN} {c:Nat} (hg:h.get r=.row (l.flatMap J0e) 60 true false) (hr:r<h.next):J0l h (qS r l.length c) l:=
 ⟨_,_,rfl,.inr ⟨r,0,_,_,_,_,rfl,hg,hr,fun k x hx=>by rw[Nat.zero_add];exact J2Y hx⟩⟩
theorem J3N {l:List RowN} {k:Nat} {x:RowN} {n:Int} (hx:l[k]?=some x):(l.flatMap J0e).set (k*5+3) (iv n)=(setN l k n).flatMap J0e:=by
 unfold setN
 rw[hx]
 obtain⟨hl,rfl⟩:=List.getElem?_eq_some_iff.1 hx
 simp only
 clear hx
 induction l generalizing k with
 | nil=>simp at hl
 | cons a l ih=>
  cases k with
  | zero=>rfl
  | succ k=>
   simp only[List.length_cons,Nat.add_lt_add_iff_right] at hl
   have:=ih hl
   rw[List.flatMap_cons,List.set_cons_succ,List.flatMap_cons,List.getElem_cons_succ,← this]
   rw[List.set_append_right _ _ (by simp[J0e];omega)]
   congr 2
   simp only[J0e,List.length_cons,List.length_nil]
   omega
theorem J4N {l:List RowN} {k:Nat} {n:Int}:(setN l k n).length=l.length:=by
 unfold setN
 split
 ·simp
 ·rfl
def SlAt (h:SHeap) (lo:Nat) (tag:Nat→Nat) (j:Nat) (v:Value) (n:Nat) (cs:List Value) (ty:TypeId):Prop:=
 (n=0∧cs=[]∧v=Z0)∨∃ id ex,v=qS id n unk∧h.get id=.row (cs++ex) ty true false∧lo≤id∧id<h.next∧tag id=j
theorem SlAt.mono {h h':SHeap} {lo:Nat} {tag tag':Nat→Nat} {j:Nat} {v:Value} {n:Nat} {cs:List Value} {ty:TypeId} (hs:SlAt h lo tag j v n cs ty) (hn:h.next≤h'.next) (ht:∀ i,i<h.next→tag' i=tag i)
  (hg:∀ i,lo≤i→i<h.next→tag i=j→h'.get i=h.get i):SlAt h' lo tag' j v n cs ty:=by
 rcases hs with h1 | ⟨id,ex,h1,h2,h3,h4,h5⟩
 ·exact .inl h1
 ·exact .inr ⟨id,ex,h1,by rw[hg id h3 h4 h5];exact h2,h3,by omega,by rw[ht id h4];exact h5⟩
theorem SlAt.mono' {h:SHeap} {lo:Nat} {tag tag':Nat→Nat} {j:Nat} {v:Value} {n:Nat} {cs:List Value} {ty:TypeId} (hs:SlAt h lo tag j v n cs ty) (ht:∀ i,i<h.next→tag' i=tag i∨tag i≠j):SlAt h lo tag' j v n cs ty:=by
 rcases hs with h1 | ⟨id,ex,h1,h2,h3,h4,h5⟩
 ·exact .inl h1
 ·refine .inr ⟨id,ex,h1,h2,h3,h4,?_⟩
  rcases ht id h4 with h | h
  ·rw[h];exact h5
  ·exact absurd h5 h
theorem J5j {h:SHeap} {lo:Nat} {tag:Nat→Nat} {j:Nat} {ty:TypeId}:SlAt h lo tag j (Z0) 0 [] ty:=.inl ⟨rfl,rfl,rfl⟩
theorem J3B {t et:TypeId} {w bb:Nat} {z:Value} (hu:Tryz.prog.underlying t=some (.slice et)) (hsz:szOf Tryz.prog et=some w) (hby:byOf Tryz.prog et=some bb) (hzo:J1w Tryz.prog et=some z) (hz:z.cells.size=w) (hw:0<w) (hbb:bb≤1024)
  {lo:Nat} {h:SHeap} {tag:Nat→Nat} {j:Nat} {v:Value} {n:Nat} {cs xs:List Value} {c:Nat} (hs:SlAt h lo tag j v n cs et) (hcl:cs.length=n*w) (hco:cs.all one=true) (hxl:xs.length=c*w) (hxo:xs.all one=true) (hc:0<c) (hcb:c<10000000) (hnb:n<10000000)
  {src:Nat} {g ro:Bool} {sc:Nat} (hsrc:h.get src=.row xs et g ro) (hsl:src<h.next) (hfl:h.floor≤lo) (hts:¬ (lo≤src∧tag src=j)) :
  ∃ v' h',J1o Tryz.prog h t v (qS src c sc)=some (v',h')∧(SlAt h' lo (fun i=>if i=h.next then j else tag i) j v' (n+c) (cs++xs) et∨¬ lo≤h.next)∧h'.floor=h.floor∧h'.next=h.next+1∧one v'=true∧v'.cells=#[v']∧∀ i,i<h.next→¬ (lo≤i∧tag i=j)→h'.get i=h.get i:=by
 have hsc:J16 h w c (qS src c sc)=some xs:=by
  have hc0:c≠0:=by omega
  simp[J16,hsrc,cut,hc0,hxl]
  rw[List.take_of_length_le (by omega)]
 have hbz:∀ m,m<20000000→m*bb≤140737488355328:=fun m hm=>by
  have h1:m*bb≤m*1024:=Nat.mul_le_mul_left m hbb
  omega
 rcases hs with⟨rfl,rfl,rfl⟩ | ⟨id,ex,rfl,hg,hid,hidn,htid⟩
 ·refine⟨qS h.next c unk,h.push (.row xs et true false),?_,?_,rfl,rfl,rfl,rfl,fun i hi _=>J06 hi⟩
  ·have hunk:(0:Nat)≠unk:=by unfold unk;omega
   have h0:J16 h w 0 (Z0)=some []:=by simp[J16]
   have e1:¬ (c≤0):=by omega
   have e2:c*bb≤140737488355328:=hbz c (by omega)
   have e3:c≤140737488355328:=by omega
   simp only[J1o,hu,hsz,hby,hzo,hz,hsc,hxo,hunk,h0,hw,e1,e2,e3,decide_true,beq_self_eq_true,Bool.and_self,if_true,if_false,Nat.le_refl,Nat.zero_add,Nat.zero_mul,Nat.zero_le,List.nil_append]
  ·by_cases hl:lo≤h.next
   ·refine .inl (.inr ⟨h.next,[],by rw[Nat.zero_add],?_,hl,by show h.next<h.next+1;omega,by simp⟩)
    rw[J0h,List.append_nil,List.nil_append]
   ·exact .inr hl
 ·have e1:(n+c)*bb≤140737488355328:=hbz _ (by omega)
  have e2:n+c≤140737488355328:=by omega
  have e3:h.floor≤id:=by omega
  have e4:n≤unk:=by unfold unk;omega
  have e5:c≠0:=by omega
  have hcut:cut (cs++ex) 0 (n*w)=some cs:=by
   simp only[cut,List.drop_zero]
   rw[List.take_append_of_le_length (by omega),List.take_of_length_le (by omega),if_pos hcl]
  refine⟨qS h.next (n+c) unk,(h.put id .dead).push (.row (cs++xs) et true false),?_,.inl (.inr ⟨h.next,[],rfl,?_,by omega,by show h.next<h.next+1;omega,by simp⟩),rfl,rfl,rfl,rfl,fun i hi hne=>?_⟩
  ·simp only[J1o,hu,hsz,hby,hzo,hz,hsc,hxo,e1,e2,e3,e4,hg,hcut,hco,decide_true,Bool.and_self,beq_self_eq_true,hw,if_true,e5,if_false]
  ·rw[List.append_nil]
   exact J0h
  ·rw[J06 (by exact hi),J05 (by omega) (fun e=>hne (by subst e;exact⟨hid,htid⟩))]
structure PolS (h:SHeap) (lo:Nat) (tag:Nat→Nat) (r n:Nat) (vq vv vt vu vo:Value) (s:StN):Prop where
 rows:h.get r=.row (s.rows.flatMap J0e) 60 true false
 len:s.rows.length=n
 tr:tag r=1
 lr:lo≤r∧r<h.next
 q:SlAt h lo tag 2 vq s.queues.length (J3S s.queues) 75
 v:SlAt h lo tag 3 vv s.vars.length (strs s.vars) 9
 t:SlAt h lo tag 4 vt s.tags.length (strs s.tags) 9
 u:SlAt h lo tag 5 vu s.rules.length (ints s.rules) 3
 o:SlAt h lo tag 6 vo s.on.length (ints s.on) 3
theorem PolS.mono {h h':SHeap} {lo:Nat} {tag tag':Nat→Nat} {r n:Nat} {vq vv vt vu vo:Value} {s:StN} (hp:PolS h lo tag r n vq vv vt vu vo s) (hn:h.next≤h'.next) (ht:∀ i,i<h.next→tag' i=tag i)
  (hg:∀ i,lo≤i→i<h.next→1≤tag i→tag i≤6→h'.get i=h.get i):PolS h' lo tag' r n vq vv vt vu vo s where
 rows:=by rw[hg r hp.lr.1 hp.lr.2 (by rw[hp.tr];omega) (by rw[hp.tr];omega)];exact hp.rows
 len:=hp.len
 tr:=by rw[ht r hp.lr.2];exact hp.tr
 lr:=⟨hp.lr.1,by have:=hp.lr.2;omega⟩
 q:=hp.q.mono hn ht fun i h1 h2 h3=>hg i h1 h2 (by omega) (by omega)
 v:=hp.v.mono hn ht fun i h1 h2 h3=>hg i h1 h2 (by omega) (by omega)
 t:=hp.t.mono hn ht fun i h1 h2 h3=>hg i h1 h2 (by omega) (by omega)
 u:=hp.u.mono hn ht fun i h1 h2 h3=>hg i h1 h2 (by omega) (by omega)
 o:=hp.o.mono hn ht fun i h1 h2 h3=>hg i h1 h2 (by omega) (by omega)
theorem PolS.at {h:SHeap} {lo:Nat} {tag:Nat→Nat} {r n:Nat} {vq vv vt vu vo:Value} {s:StN} (hp:PolS h lo tag r n vq vv vt vu vo s):J0l h (qS r n unk) s.rows:=by
 have:=J6F (c:=unk) hp.rows hp.lr.2
 rw[hp.len] at this
 exact this
theorem J5O:∀ (l:List ThN) (x:ByteArray),J2y (.string x) (l.map entT)=some ((J30 l x).map fun t=>.agg #[iv t.kind,iv t.num,iv t.known])
 | [],x=>rfl
 | t :: l,x=>by
  simp only[List.map_cons,J2y,entT,J4s,J30,List.find?_cons]
  cases hb:(x==t.name) with
  | true=>rfl
  | false=>exact J5O l x
theorem J8k:∀ (l:List ThN) (x:ByteArray) (v:Value),J30 l x=none→J2h (.string x) v (l.map entT)=l.map entT++[(.string x,v)]
 | [],x,v,_=>rfl
 | t :: l,x,v,hf=>by
  simp only[J30,List.find?_cons] at hf
  cases hb:(x==t.name) with
  | true=>rw[hb] at hf;cases hf
  | false=>
   rw[hb] at hf
   have:=J8k l x v hf
   simp only[List.map_cons,entT,J2h,J4s,hb,Option.some.injEq,Bool.false_eq_true,if_false,List.cons_append]
   rw[← this]
def J8i (es:List (Value × Value)):Prop:=∀ p∈es,∃ j:Int,p.1=iv j
theorem J5T:∀ (es:List (Value × Value)) (k k':Int) (v:Value),J8i es→J2y (iv k) (J2h (iv k') v es)=if k=k' then some (some v) else J2y (iv k) es
 | [],k,k',v,_=>by
  simp only[J2h,J2y,J4s,if_true]
  by_cases hk:k=k'
  ·subst hk;simp
  ·have:(k==k')=false:=by simpa using hk
   rw[this,if_neg hk]
 | (x,u) :: es,k,k',v,hi=>by
  obtain⟨j,hj⟩:=hi (x,u) (by simp)
  simp only at hj
  subst hj
  have ih:=J5T es k k' v fun p hp=>hi p (by simp[hp])
  simp only[J2h,J4s,if_true,Option.some.injEq,beq_iff_eq]
  by_cases hkj:k'=j
  ·subst hkj
   rw[if_pos rfl]
   simp only[J2y,J4s,if_true]
   by_cases hk:k=k'
   ·subst hk;simp
   ·have:(k==k')=false:=by simpa using hk
    rw[this,if_neg hk]
  ·rw[if_neg hkj]
   simp only[J2y,J4s,if_true]
   cases hb:(k==j) with
   | true=>
    have:k=j:=by simpa using hb
    subst this
    rw[if_neg (fun e=>hkj e.symm)]
   | false=>exact ih
theorem Jb0:∀ (es:List (Value × Value)) (k:Int) (v:Value),J8i es→J8i (J2h (iv k) v es)
 | [],k,v,_=>by intro p hp;simp[J2h] at hp;exact⟨k,by rw[hp]⟩
 | (x,u) :: es,k,v,hi=>by
  have ih:=Jb0 es k v fun p hp=>hi p (by simp[hp])
  intro p hp
  simp only[J2h] at hp
  split at hp
  ·simp only[List.mem_cons] at hp
   rcases hp with rfl | hp
   ·exact⟨k,rfl⟩
   ·exact hi p (by simp[hp])
  ·simp only[List.mem_cons] at hp
   rcases hp with rfl | hp
   ·exact hi _ (by simp)
   ·exact ih p hp
def Many (es:List (Value × Value)) (s:StN):Prop:=J8i es∧∀ k:Int,1≤k→k≤4→J2y (iv k) es=some (if cntN s k=0 then none else some (iv (cntN s k:Int)))
theorem sz22:szOf Tryz.prog 22=some 1:=by kernel_rfl
theorem sz26:szOf Tryz.prog 23=some 1:=by kernel_rfl
theorem sz27:szOf Tryz.prog 24=some 1:=by kernel_rfl
theorem sz28:szOf Tryz.prog 25=some 1:=by kernel_rfl
theorem sz30:szOf Tryz.prog 27=some 8:=by kernel_rfl
theorem sz57:szOf Tryz.prog 75=some 2:=by kernel_rfl
theorem sz79:szOf Tryz.prog 86=some 1:=by kernel_rfl
theorem sz80:szOf Tryz.prog 87=some 1:=by kernel_rfl
theorem sz81:szOf Tryz.prog 88=some 1:=by kernel_rfl
theorem sz83:szOf Tryz.prog 90=some 10:=by kernel_rfl
theorem J4m:szOf Tryz.prog 110=some 2:=by kernel_rfl
theorem Jhm:szOf Tryz.prog 112=some 3:=by kernel_rfl
theorem Jjk:J2X Tryz.prog 22=some false:=by kernel_rfl
theorem JjI:J2X Tryz.prog 23=some false:=by kernel_rfl
theorem Jjd:J2X Tryz.prog 24=some false:=by kernel_rfl
theorem Jjs:J2X Tryz.prog 25=some false:=by kernel_rfl
theorem JjA:J2X Tryz.prog 27=some true:=by kernel_rfl
theorem Jjc:J2X Tryz.prog 86=some false:=by kernel_rfl
theorem Jjn:J2X Tryz.prog 87=some false:=by kernel_rfl
theorem Jjf:J2X Tryz.prog 88=some false:=by kernel_rfl
theorem Jhs:J2X Tryz.prog 110=some true:=by kernel_rfl
theorem by9:byOf Tryz.prog 9=some 16:=by kernel_rfl
theorem by46:byOf Tryz.prog 60=some 48:=by kernel_rfl
theorem by57:byOf Tryz.prog 75=some 24:=by kernel_rfl
theorem Jdg:J1w Tryz.prog 9=some (.string ByteArray.empty):=by kernel_rfl
theorem J9V:J1w Tryz.prog 75=some (.agg #[.string ByteArray.empty,.bool false]):=by kernel_rfl
theorem J1j:J1w Tryz.prog 112=some (.agg #[iv 0,iv 0,iv 0]):=by kernel_rfl
theorem Jgr:J1w Tryz.prog 110=some (.agg #[iv 0,iv 0]):=by kernel_rfl
theorem Jir:J1w Tryz.prog 27=some (.agg #[.string ByteArray.empty,Z0,Z0,Z0,Z0,Z0,Z0,iv 0]):=by kernel_rfl
section
variable {h:SHeap} {id off:Nat}
theorem J0F:J2x Tryz.prog h 22 (qP id off)=ld1 off (h.get id):=J41 Jjk
theorem J0S:J2x Tryz.prog h 23 (qP id off)=ld1 off (h.get id):=J41 JjI
theorem J0Y:J2x Tryz.prog h 24 (qP id off)=ld1 off (h.get id):=J41 Jjd
theorem J0n:J2x Tryz.prog h 25 (qP id off)=ld1 off (h.get id):=J41 Jjs
theorem J1W:J2x Tryz.prog h 86 (qP id off)=ld1 off (h.get id):=J41 Jjc
theorem J1k:J2x Tryz.prog h 87 (qP id off)=ld1 off (h.get id):=J41 Jjn
theorem Jdh:J2x Tryz.prog h 88 (qP id off)=ld1 off (h.get id):=J41 Jjf
theorem J1b:J2x Tryz.prog h 27 (qP id off)=ldN 8 off (h.get id):=J5S JjA sz30
theorem Jax:J2x Tryz.prog h 110 (qP id off)=ldN 2 off (h.get id):=J5S Jhs J4m
theorem J0g:J08 Tryz.prog 90 (qP id off) 0=some (qP id off):=by simp[J08,Tryz.underlying90,sz3,sz4,sz9,sz22,sz26,sz27,sz28,sz30,sz80,sz81,J4m,J0q]
theorem J0Z:J08 Tryz.prog 90 (qP id off) 1=some (qP id (off+8)):=by simp[J08,Tryz.underlying90,sz3,sz4,sz9,sz22,sz26,sz27,sz28,sz30,sz80,sz81,J4m,J0q]
theorem JaQ:J08 Tryz.prog 90 (qP id off) 2=some (qP id (off+9)):=by simp[J08,Tryz.underlying90,sz3,sz4,sz9,sz22,sz26,sz27,sz28,sz30,sz80,sz81,J4m,J0q]
theorem J5g:J08 Tryz.prog 27 (qP id off) 0=some (qP id off):=by simp[J08,Tryz.underlying27,sz3,sz4,sz9,sz22,sz26,sz27,sz28,sz30,sz80,sz81,J4m,J0q]
theorem J0y:J08 Tryz.prog 27 (qP id off) 1=some (qP id (off+1)):=by simp[J08,Tryz.underlying27,sz3,sz4,sz9,sz22,sz26,sz27,sz28,sz30,sz80,sz81,J4m,J0q]
theorem J0B:J08 Tryz.prog 27 (qP id off) 2=some (qP id (off+2)):=by simp[J08,Tryz.underlying27,sz3,sz4,sz9,sz22,sz26,sz27,sz28,sz30,sz80,sz81,J4m,J0q]
theorem J1A:J08 Tryz.prog 27 (qP id off) 3=some (qP id (off+3)):=by simp[J08,Tryz.underlying27,sz3,sz4,sz9,sz22,sz26,sz27,sz28,sz30,sz80,sz81,J4m,J0q]
theorem J1B:J08 Tryz.prog 27 (qP id off) 4=some (qP id (off+4)):=by simp[J08,Tryz.underlying27,sz3,sz4,sz9,sz22,sz26,sz27,sz28,sz30,sz80,sz81,J4m,J0q]
theorem J36:J08 Tryz.prog 27 (qP id off) 5=some (qP id (off+5)):=by simp[J08,Tryz.underlying27,sz3,sz4,sz9,sz22,sz26,sz27,sz28,sz30,sz80,sz81,J4m,J0q]
theorem J1T:J08 Tryz.prog 27 (qP id off) 6=some (qP id (off+6)):=by simp[J08,Tryz.underlying27,sz3,sz4,sz9,sz22,sz26,sz27,sz28,sz30,sz80,sz81,J4m,J0q]
theorem J38:J08 Tryz.prog 27 (qP id off) 7=some (qP id (off+7)):=by simp[J08,Tryz.underlying27,sz3,sz4,sz9,sz22,sz26,sz27,sz28,sz30,sz80,sz81,J4m,J0q]
theorem Jac:J08 Tryz.prog 112 (qP id off) 0=some (qP id off):=by simp[J08,Tryz.underlying112,sz3,sz4,sz9,sz22,sz26,sz27,sz28,sz30,sz80,sz81,J4m,J0q]
theorem J7R:J08 Tryz.prog 112 (qP id off) 1=some (qP id (off+2)):=by simp[J08,Tryz.underlying112,sz3,sz4,sz9,sz22,sz26,sz27,sz28,sz30,sz80,sz81,J4m,J0q]
theorem Jaq:J08 Tryz.prog 110 (qP id off) 1=some (qP id (off+1)):=by simp[J08,Tryz.underlying110,sz3,sz4,sz9,sz22,sz26,sz27,sz28,sz30,sz80,sz81,J4m,J0q]
theorem JiN:J08 Tryz.prog 75 (qP id off) 1=some (qP id (off+1)):=by simp[J08,Tryz.underlying75,sz3,sz4,sz9,sz22,sz26,sz27,sz28,sz30,sz80,sz81,J4m,J0q]
theorem J4z {n c i:Nat} (hi:i<n):J0R Tryz.prog 22 (qS id n c) (iv (i:Int))=some (.pointer (some ⟨id,i*5,none⟩)):=by
 simp only[J0R,Tryz.underlying22,sz46,J0q]
 rw[if_pos (by omega)]
 simp
theorem stc {t:TypeId} {v:Value} {cs:List Value} {ty:TypeId} {g:Bool} (ht:szOf Tryz.prog t=some 1) (hv:v.cells=#[v]) (ho:one v=true) (hg:h.get id=.row cs ty g false) (hi:off<cs.length) (hf:h.floor≤id):J0K Tryz.prog h t (qP id off) v=some (h.put id (.row (cs.set off v) ty g false)):=by
 have hsz:(some 1:Option Nat)=some (#[v]:Array Value).size:=rfl
 simp only[J0K,hv,ht,J1q,hg]
 rw[if_pos hsz,if_pos (by simp[ho];omega),J9J hi]
end
theorem Jgp:J2Q Tryz.prog (match Tryz.prog.underlying 75 with | some (.struct fs)=>fs.toList | _=>[])=some [(0,1),(1,1)]:=by kernel_rfl
theorem JfX:J2Q Tryz.prog (match Tryz.prog.underlying 110 with | some (.struct fs)=>fs.toList | _=>[])=some [(0,1),(1,1)]:=by kernel_rfl
theorem JgE:J2Q Tryz.prog (match Tryz.prog.underlying 112 with | some (.struct fs)=>fs.toList | _=>[])=some [(0,2),(2,1)]:=by kernel_rfl
theorem Ji6 {a b:Value}:flat (.agg #[a,b])=(J1i a&&(J1i b&&true)):=by simp[flat]
theorem Jii {a b c:Value}:flat (.agg #[a,b,c])=(J1i a&&(J1i b&&(J1i c&&true))):=by simp[flat,Bool.and_assoc]
theorem J2q {nm:ByteArray} {g:Bool}:J1P Tryz.prog 75 [(0,.string nm),(1,.bool g)]=some (.agg #[.string nm,.bool g]):=by
 have h:=Jgp
 rw[Tryz.underlying75] at h
 simp only at h
 simp only[J1P,J9V,Ji6,Jig,Jh8,Bool.and_self,if_true,Tryz.underlying75,h]
 rfl
theorem J3i {a b:Int}:J1P Tryz.prog 110 [(0,iv a),(1,iv b)]=some (.agg #[iv a,iv b]):=by
 have h:=JfX
 rw[Tryz.underlying110] at h
 simp only at h
 simp only[J1P,Jgr,Ji6,J51,Bool.and_self,if_true,Tryz.underlying110,h]
 rfl
theorem J3R {a b c:Int}:J1P Tryz.prog 112 [(0,.agg #[iv a,iv b]),(1,iv c)]=some (.agg #[iv a,iv b,iv c]):=by
 have h:=JgE
 rw[Tryz.underlying112] at h
 simp only at h
 simp only[J1P,J1j,Jii,J51,Bool.and_self,if_true,Tryz.underlying112,h]
 rfl
section
variable {h:SHeap}
theorem bs26 {nm:ByteArray} {g:Bool}:J0Q Tryz.prog h 23 1 [(0,.agg #[.string nm,.bool g])]=some (qS h.next 1 1,h.push (.row [.string nm,.bool g] 75 false false)):=by
 simp[J0Q,Tryz.underlying23,sz57,J9V,flat,J1i,J0G,J5k,J3e,Go.Sx.lay]
theorem bs27 {nm:ByteArray}:J0Q Tryz.prog h 24 1 [(0,.string nm)]=some (qS h.next 1 1,h.push (.row [.string nm] 9 false false)):=by
 have hc:∀ x,(Value.string x).cells=#[.string x]:=fun _=>rfl
 simp[J0Q,Tryz.underlying24,sz9,Jdg,flat,J1i,hc,J5k,J3e,Go.Sx.lay]
theorem bs28 {x:Int}:J0Q Tryz.prog h 25 1 [(0,iv x)]=some (qS h.next 1 1,h.push (.row [iv x] 3 false false)):=by
 have hc:∀ x:Int,(iv x).cells=#[iv x]:=fun _=>rfl
 simp[J0Q,Tryz.underlying25,sz3,J8P,flat,J1i,hc,J5k,J3e,Go.Sx.lay]
theorem J7x {k:Nat} {l:List ThN} {x:ByteArray} (hg:h.get k=.map (l.map entT)):J4D Tryz.prog h 87 (.map (some k)) (.string x) true=some (match J30 l x with
  | some t=>.tuple #[.agg #[iv t.kind,iv t.num,iv t.known],.bool true]
  | none=>.tuple #[.agg #[iv 0,iv 0,iv 0],.bool false]):=by
 have hk:J61 Tryz.prog 9 (.string x)=true:=by simp[J61,Tryz.underlying9]
 simp only[J4D,Tryz.underlying87,hk,hg,J5O,if_true]
 cases J30 l x with
 | some t=>rfl
 | none=>
  simp only[Option.map_none,J1j,Jii,J51,Bool.and_self,if_true]
theorem Jdy {k:Nat} {l:List ThN} {x:ByteArray} {a b c:Int} (hg:h.get k=.map (l.map entT)) (hf:J30 l x=none) (hfl:h.floor≤k):J3h Tryz.prog h 87 (.map (some k)) (.string x) (.agg #[iv a,iv b,iv c])=some (h.put k (.map ((l++[(⟨x,a,b,c⟩:ThN)]).map entT))):=by
 have hk:J61 Tryz.prog 9 (.string x)=true:=by simp[J61,Tryz.underlying9]
 simp only[J3h,Tryz.underlying87,hk,hg,J5O,decide_eq_true hfl,Bool.and_self,if_true,J8k _ _ _ hf,List.map_append,List.map_cons,List.map_nil,entT]
theorem JdK {c:Nat} {es:List (Value × Value)} {s:StN} {k:Int} (hg:h.get c=.map es) (hm:Many es s) (h1:1≤k) (h4:k≤4):J4D Tryz.prog h 88 (.map (some c)) (iv k) false=some (iv (cntN s k:Int)):=by
 have hk:J61 Tryz.prog 3 (iv k)=true:=by simp[J61,Tryz.underlying3]
 simp only[J4D,Tryz.underlying88,hk,hg,hm.2 k h1 h4,if_true]
 by_cases h0:cntN s k=0
 ·rw[if_pos h0,h0]
  simp only[J8P,Jad,if_true,Bool.false_eq_true,if_false]
  rfl
 ·rw[if_neg h0]
  simp only[Bool.false_eq_true,if_false]
theorem Jfr {c:Nat} {es:List (Value × Value)} {s:StN} {k:Int} {v:Value} (hg:h.get c=.map es) (hm:Many es s) (h1:1≤k) (h4:k≤4) (hfl:h.floor≤c):J3h Tryz.prog h 88 (.map (some c)) (iv k) v=some (h.put c (.map (J2h (iv k) v es))):=by
 have hk:J61 Tryz.prog 3 (iv k)=true:=by simp[J61,Tryz.underlying3]
 simp only[J3h,Tryz.underlying88,hk,hg,hm.2 k h1 h4,decide_eq_true hfl,Bool.and_self,if_true]
end
structure MkP (h:SHeap) (lo m k c e r n:Nat) (nm:ByteArray) (E:List Int) (tag:Nat→Nat) (vq vv vt vu vo:Value) (es:List (Value × Value)) (s:StN):Prop where
 cell:h.get m=.row [.string nm,qS r n unk,vq,vv,vt,vu,vo,iv s.miss,.map (some k),.map (some c)] 90 false false
 pol:PolS h lo tag r n vq vv vt vu vo s
 known:h.get k=.map (s.things.map entT)
 many:h.get c=.map es
 ends:h.get e=.row (ints E) 3 false false
 tm:tag m=0
 tk:tag k=8
 tc:tag c=9
 te:tag e=10
 lm:lo≤m∧m<h.next
 lk:lo≤k∧k<h.next
 lc:lo≤c∧c<h.next
 le:lo≤e∧e<h.next
 fl:h.floor≤lo
section
variable {h h':SHeap} {lo m k c e r n:Nat} {nm:ByteArray} {E:List Int} {tag tag':Nat→Nat} {vq vv vt vu vo:Value} {es:List (Value × Value)} {s s':StN}
theorem J8l {a i:Nat} (hl:lo≤a) (ht:tag a≤10) (hi:i<lo∨(i<h.next∧11≤tag i)):a≠i:=by
 rintro rfl
 omega
theorem J1Y {a b:Nat} (h:tag a≠tag b):a≠b:=fun e=>h (by rw[e])
theorem MkP.mono (hp:MkP h lo m k c e r n nm E tag vq vv vt vu vo es s) (hn:h.next≤h'.next) (hf:h'.floor=h.floor) (ht:∀ i,i<h.next→tag' i=tag i)
  (hg:∀ i,lo≤i→i<h.next→h'.get i=h.get i):MkP h' lo m k c e r n nm E tag' vq vv vt vu vo es s where
 cell:=by rw[hg m hp.lm.1 hp.lm.2];exact hp.cell
 pol:=hp.pol.mono hn ht fun i h1 h2 _ _=>hg i h1 h2
 known:=by rw[hg k hp.lk.1 hp.lk.2];exact hp.known
 many:=by rw[hg c hp.lc.1 hp.lc.2];exact hp.many
 ends:=by rw[hg e hp.le.1 hp.le.2];exact hp.ends
 tm:=by rw[ht m hp.lm.2];exact hp.tm
 tk:=by rw[ht k hp.lk.2];exact hp.tk
 tc:=by rw[ht c hp.lc.2];exact hp.tc
 te:=by rw[ht e hp.le.2];exact hp.te
 lm:=⟨hp.lm.1,by have:=hp.lm.2;omega⟩
 lk:=⟨hp.lk.1,by have:=hp.lk.2;omega⟩
 lc:=⟨hp.lc.1,by have:=hp.lc.2;omega⟩
 le:=⟨hp.le.1,by have:=hp.le.2;omega⟩
 fl:=by rw[hf];exact hp.fl
theorem MkP.push (hp:MkP h lo m k c e r n nm E tag vq vv vt vu vo es s) (o:SObj):MkP (h.push o) lo m k c e r n nm E tag vq vv vt vu vo es s:=
 hp.mono (by show h.next≤h.next+1;omega) rfl (fun _ _=>rfl) fun i _ hi=>J06 hi
theorem MkP.putNew (hp:MkP h lo m k c e r n nm E tag vq vv vt vu vo es s) {o o':SObj}:MkP ((h.push o').put h.next o) lo m k c e r n nm E tag vq vv vt vu vo es s:=
 hp.mono (by show h.next≤h.next+1;omega) rfl (fun _ _=>rfl) fun i _ hi=>by rw[J05 (by show h.next<h.next+1;omega) (by omega),J06 hi]
theorem MkP.putC (hp:MkP h lo m k c e r n nm E tag vq vv vt vu vo es s) (es':List (Value × Value)):MkP (h.put c (.map es')) lo m k c e r n nm E tag vq vv vt vu vo es' s where
 cell:=by rw[J05 hp.lc.2 (J1Y (tag:=tag) (by rw[hp.tm,hp.tc];decide))];exact hp.cell
 pol:=hp.pol.mono (Nat.le_refl _) (fun _ _=>rfl) fun i _ _ h1 h2=>J05 hp.lc.2 (J1Y (tag:=tag) (by rw[hp.tc];omega))
 known:=by rw[J05 hp.lc.2 (J1Y (tag:=tag) (by rw[hp.tk,hp.tc];decide))];exact hp.known
 many:=J0b rfl hp.lc.2
 ends:=by rw[J05 hp.lc.2 (J1Y (tag:=tag) (by rw[hp.te,hp.tc];decide))];exact hp.ends
 tm:=hp.tm
 tk:=hp.tk
 tc:=hp.tc
 te:=hp.te
 lm:=hp.lm
 lk:=hp.lk
 lc:=hp.lc
 le:=hp.le
 fl:=hp.fl
theorem MkP.putK (hp:MkP h lo m k c e r n nm E tag vq vv vt vu vo es s) (l:List ThN):MkP (h.put k (.map (l.map entT))) lo m k c e r n nm E tag vq vv vt vu vo es { s with things:=l } where
 cell:=by rw[J05 hp.lk.2 (J1Y (tag:=tag) (by rw[hp.tm,hp.tk];decide))];exact hp.cell
 pol:=by
  have:=hp.pol.mono (h':=h.put k (.map (l.map entT))) (Nat.le_refl _) (fun _ _=>rfl) fun i _ _ h1 h2=>J05 hp.lk.2 (J1Y (tag:=tag) (by rw[hp.tk];omega))
  exact⟨this.rows,this.len,this.tr,this.lr,this.q,this.v,this.t,this.u,this.o⟩
 known:=J0b rfl hp.lk.2
 many:=by rw[J05 hp.lk.2 (J1Y (tag:=tag) (by rw[hp.tc,hp.tk];decide))];exact hp.many
 ends:=by rw[J05 hp.lk.2 (J1Y (tag:=tag) (by rw[hp.te,hp.tk];decide))];exact hp.ends
 tm:=hp.tm
 tk:=hp.tk
 tc:=hp.tc
 te:=hp.te
 lm:=hp.lm
 lk:=hp.lk
 lc:=hp.lc
 le:=hp.le
 fl:=hp.fl
theorem MkP.pol' (hp:MkP h lo m k c e r n nm E tag vq vv vt vu vo es s) {vq' vv' vt' vu' vo':Value} (hn:h.next≤h'.next) (hf:h'.floor=h.floor) (ht:∀ i,i<h.next→tag' i=tag i)
  (hg:∀ i,lo≤i→i<h.next→8≤tag i→h'.get i=h.get i) (hc:h'.get m=.row [.string nm,qS r n unk,vq',vv',vt',vu',vo',iv s'.miss,.map (some k),.map (some c)] 90 false false)
  (hp':PolS h' lo tag' r n vq' vv' vt' vu' vo' s') (hth:s'.things=s.things):MkP h' lo m k c e r n nm E tag' vq' vv' vt' vu' vo' es s' where
 cell:=hc
 pol:=hp'
 known:=by rw[hg k hp.lk.1 hp.lk.2 (by rw[hp.tk];omega),hth];exact hp.known
 many:=by rw[hg c hp.lc.1 hp.lc.2 (by rw[hp.tc];omega)];exact hp.many
 ends:=by rw[hg e hp.le.1 hp.le.2 (by rw[hp.te];omega)];exact hp.ends
 tm:=by rw[ht m hp.lm.2];exact hp.tm
 tk:=by rw[ht k hp.lk.2];exact hp.tk
 tc:=by rw[ht c hp.lc.2];exact hp.tc
 te:=by rw[ht e hp.le.2];exact hp.te
 lm:=⟨hp.lm.1,by have:=hp.lm.2;omega⟩
 lk:=⟨hp.lk.1,by have:=hp.lk.2;omega⟩
 lc:=⟨hp.lc.1,by have:=hp.lc.2;omega⟩
 le:=⟨hp.le.1,by have:=hp.le.2;omega⟩
 fl:=by rw[hf];exact hp.fl
theorem PolS.putR (hp:PolS h lo tag r n vq vv vt vu vo s) {l:List RowN} (hl:l.length=s.rows.length):PolS (h.put r (.row (l.flatMap J0e) 60 true false)) lo tag r n vq vv vt vu vo { s with rows:=l }:=
 have hg:∀ i j,2≤j→tag i=j→(h.put r (.row (l.flatMap J0e) 60 true false)).get i=h.get i:=fun i j hj hi=>J05 hp.lr.2 (J1Y (tag:=tag) (by rw[hp.tr];omega))
 ⟨J0b rfl hp.lr.2,hl.trans hp.len,hp.tr,hp.lr,hp.q.mono (Nat.le_refl _) (fun _ _=>rfl) fun i _ _ h3=>hg i 2 (by omega) h3,hp.v.mono (Nat.le_refl _) (fun _ _=>rfl) fun i _ _ h3=>hg i 3 (by omega) h3,hp.t.mono (Nat.le_refl _) (fun _ _=>rfl) fun i _ _ h3=>hg i 4 (by omega) h3,hp.u.mono (Nat.le_refl _) (fun _ _=>rfl) fun i _ _ h3=>hg i 5 (by omega) h3,hp.o.mono (Nat.le_refl _) (fun _ _=>rfl) fun i _ _ h3=>hg i 6 (by omega) h3⟩
theorem MkP.putR (hp:MkP h lo m k c e r n nm E tag vq vv vt vu vo es s) {l:List RowN} (hl:l.length=s.rows.length):MkP (h.put r (.row (l.flatMap J0e) 60 true false)) lo m k c e r n nm E tag vq vv vt vu vo es { s with rows:=l }:=
 hp.pol' (Nat.le_refl _) rfl (fun _ _=>rfl) (fun i _ _ h1=>J05 hp.pol.lr.2 (J1Y (tag:=tag) (by rw[hp.pol.tr];omega))) (by rw[J05 hp.pol.lr.2 (J1Y (tag:=tag) (by rw[hp.pol.tr,hp.tm];decide))];exact hp.cell) (hp.pol.putR hl) rfl
theorem MkP.c1 (hp:MkP h lo m k c e r n nm E tag vq vv vt vu vo es s):ld1 1 (h.get m)=some (qS r n unk):=by rw[hp.cell];rfl
theorem MkP.c2 (hp:MkP h lo m k c e r n nm E tag vq vv vt vu vo es s):ld1 2 (h.get m)=some vq:=by rw[hp.cell];rfl
theorem MkP.c3 (hp:MkP h lo m k c e r n nm E tag vq vv vt vu vo es s):ld1 3 (h.get m)=some vv:=by rw[hp.cell];rfl
theorem MkP.c4 (hp:MkP h lo m k c e r n nm E tag vq vv vt vu vo es s):ld1 4 (h.get m)=some vt:=by rw[hp.cell];rfl
theorem MkP.c5 (hp:MkP h lo m k c e r n nm E tag vq vv vt vu vo es s):ld1 5 (h.get m)=some vu:=by rw[hp.cell];rfl
theorem MkP.c6 (hp:MkP h lo m k c e r n nm E tag vq vv vt vu vo es s):ld1 6 (h.get m)=some vo:=by rw[hp.cell];rfl
theorem MkP.c7 (hp:MkP h lo m k c e r n nm E tag vq vv vt vu vo es s):ld1 7 (h.get m)=some (iv s.miss):=by rw[hp.cell];rfl
theorem MkP.c8 (hp:MkP h lo m k c e r n nm E tag vq vv vt vu vo es s):ld1 8 (h.get m)=some (.map (some k)):=by rw[hp.cell];rfl
theorem MkP.c9 (hp:MkP h lo m k c e r n nm E tag vq vv vt vu vo es s):ld1 9 (h.get m)=some (.map (some c)):=by rw[hp.cell];rfl
theorem MkP.row (hp:MkP h lo m k c e r n nm E tag vq vv vt vu vo es s) {at_:Nat} {x:RowN} (hx:s.rows[at_]?=some x):at_<n∧ld1 (at_*5) (h.get r)=some (iv x.kind)∧ld1 (at_*5+1) (h.get r)=some (.string x.name)∧ld1 (at_*5+2) (h.get r)=some (iv x.ends)∧ld1 (at_*5+3) (h.get r)=some (iv x.n)∧ld1 (at_*5+4) (h.get r)=some (iv x.kids) ∧
  ldN 5 (at_*5) (h.get r)=some (.agg #[iv x.kind,.string x.name,iv x.ends,iv x.n,iv x.kids]):=by
 have hl:at_<n:=by rw[← hp.pol.len];exact(List.getElem?_eq_some_iff.1 hx).1
 obtain⟨id,q,e0,hid,l0,l1,l2,l3,l4,lr⟩:=hp.pol.at.row hx
 rw[J4z hl] at e0
 simp only[Option.some.injEq,Value.pointer.injEq,Addr.mk.injEq,and_true] at e0
 obtain⟨rfl,rfl⟩:=e0
 exact⟨hl,l0,l1,l2,l3,l4,lr⟩
end
section
variable {h:SHeap} {lo m k c e r n:Nat} {nm:ByteArray} {E:List Int} {tag:Nat→Nat} {vq vv vt vu vo:Value} {es:List (Value × Value)} {s:StN}
theorem JbV {l:List (ByteArray × Bool)} {x:ByteArray × Bool}:J3S l++[.string x.1,.bool x.2]=J3S (l++[x]):=by simp[J3S]
theorem Jau {l:List ByteArray} {x:ByteArray}:strs l++[.string x]=strs (l++[x]):=by simp[strs]
theorem Jat {l:List Int} {x:Int}:ints l++[iv x]=ints (l++[x]):=by simp[ints]
theorem MkP.appQ (hp:MkP h lo m k c e r n nm E tag vq vv vt vu vo es s) (x:(ByteArray × Bool)) (hb:s.queues.length<10000000):∃ v' h1,J1o Tryz.prog (h.push (.row [.string x.1,.bool x.2] 75 false false)) 23 vq (qS h.next 1 1)=some (v',h1)∧h1.get m=h.get m∧one v'=true∧v'.cells=#[v']∧h1.floor=h.floor∧h1.next=h.next+2∧(∀ i,i<h.next→i<lo∨11≤tag i→h1.get i=h.get i) ∧
  MkP (h1.put m (.row [.string nm,qS r n unk,v',vv,vt,vu,vo,iv s.miss,.map (some k),.map (some c)] 90 false false)) lo m k c e r n nm E (fun i=>if i=h.next+1 then 2 else tag i) v' vv vt vu vo es { s with queues:=s.queues++[x] }:=by
 have hlm:=hp.lm
 have hpp:=hp.mono (h':=h.push (.row [.string x.1,.bool x.2] 75 false false)) (tag':=fun i=>if i=h.next then 11 else tag i) (by show h.next≤h.next+1;omega) rfl (fun i hi=>if_neg (by omega)) fun i _ hi=>J06 hi
 obtain⟨v',h1,a1,a2,a3,a4,a5,a6,a7⟩:=J3B (et:=75) (w:=2) (c:=1) (sc:=1) (xs:=[.string x.1,.bool x.2]) Tryz.underlying23 sz57 by57 J9V rfl (by decide) (by decide) hpp.pol.q (J2J _) (J5A _) rfl rfl (by decide) (by decide) hb (src:=h.next) J0h (by show h.next<h.next+1;omega) hp.fl (by simp)
 have hnx:h1.next=h.next+2:=a4
 have hold:∀ i,i<h.next→¬ (lo≤i∧tag i=2)→h1.get i=h.get i:=fun i hi hne=>by
  rw[a7 i (by show i<h.next+1;omega) (by rw[if_neg (by omega)];exact hne),J06 hi]
 have hm1:m<h1.next:=by omega
 have hgm:h1.get m=h.get m:=hold m hlm.2 (by rw[hp.tm];omega)
 have hSl:SlAt h1 lo (fun i=>if i=h.next+1 then 2 else tag i) 2 v' (s.queues.length+1) (J3S s.queues++[.string x.1,.bool x.2]) 75:=by
  rcases a2 with a2 | a2
  ·refine a2.mono' fun i hi=>?_
   show (if i=h.next+1 then 2 else tag i)=(if i=h.next+1 then 2 else if i=h.next then 11 else tag i)∨(if i=h.next+1 then 2 else if i=h.next then 11 else tag i)≠2
   by_cases e1:i=h.next+1
   ·left;rw[if_pos e1,if_pos e1]
   ·rw[if_neg e1,if_neg e1]
    by_cases e2:i=h.next
    ·right;rw[if_pos e2];decide
    ·left;rw[if_neg e2]
  ·exact absurd (show lo≤h.next+1 by omega) a2
 refine⟨v',h1,a1,hgm,a5,a6,a3,hnx,fun i hi hlo=>hold i hi (by omega),?_⟩
 have hn2:h.next≤(h1.put m (.row [.string nm,qS r n unk,v',vv,vt,vu,vo,iv s.miss,.map (some k),.map (some c)] 90 false false)).next:=by show h.next≤h1.next;omega
 have ht2:∀ i,i<h.next→(fun i=>if i=h.next+1 then 2 else tag i) i=tag i:=fun i hi=>if_neg (by omega)
 have hg2:∀ i,lo≤i→i<h.next→tag i≠0→tag i≠2→(h1.put m (.row [.string nm,qS r n unk,v',vv,vt,vu,vo,iv s.miss,.map (some k),.map (some c)] 90 false false)).get i=h.get i:=fun i h1' h2 h3 h4=>by
  rw[J05 hm1 (J1Y (tag:=tag) (by rw[hp.tm];exact h3.symm)),hold i h2 (fun e=>h4 e.2)]
 have hgj:∀ jj,jj≠0→jj≠2→(jj≠2)→∀ i,lo≤i→i<h.next→tag i=jj→(h1.put m (.row [.string nm,qS r n unk,v',vv,vt,vu,vo,iv s.miss,.map (some k),.map (some c)] 90 false false)).get i=h.get i:=fun jj z1 z2 _ i h1' h2 h3=>hg2 i h1' h2 (by omega) (by omega)
 refine hp.pol' hn2 a3 ht2 (fun i h1' h2 h3=>hg2 i h1' h2 (by omega) (by omega)) (J0b rfl hm1) ?_ rfl
 exact
  { rows:=by rw[hg2 r hp.pol.lr.1 hp.pol.lr.2 (by rw[hp.pol.tr];decide) (by rw[hp.pol.tr];decide)];exact hp.pol.rows
    len:=hp.pol.len
    tr:=(ht2 r hp.pol.lr.2).trans hp.pol.tr
    lr:=⟨hp.pol.lr.1,by have:=hp.pol.lr.2;omega⟩
    q:=by
     have h9:=hSl.mono (h':=(h1.put m (.row [.string nm,qS r n unk,v',vv,vt,vu,vo,iv s.miss,.map (some k),.map (some c)] 90 false false))) (Nat.le_refl _) (fun _ _=>rfl) fun i _ _ h3=>J05 hm1 (J1Y (tag:=fun i=>if i=h.next+1 then 2 else tag i) (by rw[h3];show (if m=h.next+1 then _ else tag m)≠_;rw[if_neg (by omega),hp.tm];decide))
     rw[JbV] at h9
     simp only[List.length_append,List.length_cons,List.length_nil]
     exact h9
    v:=hp.pol.v.mono hn2 ht2 (hgj 3 (by decide) (by decide) (by decide))
    t:=hp.pol.t.mono hn2 ht2 (hgj 4 (by decide) (by decide) (by decide))
    u:=hp.pol.u.mono hn2 ht2 (hgj 5 (by decide) (by decide) (by decide))
    o:=hp.pol.o.mono hn2 ht2 (hgj 6 (by decide) (by decide) (by decide)) }
theorem MkP.appV (hp:MkP h lo m k c e r n nm E tag vq vv vt vu vo es s) (x:ByteArray) (hb:s.vars.length<10000000):∃ v' h1,J1o Tryz.prog (h.push (.row [.string x] 9 false false)) 24 vv (qS h.next 1 1)=some (v',h1)∧h1.get m=h.get m∧one v'=true∧v'.cells=#[v']∧h1.floor=h.floor∧h1.next=h.next+2∧(∀ i,i<h.next→i<lo∨11≤tag i→h1.get i=h.get i) ∧
  MkP (h1.put m (.row [.string nm,qS r n unk,vq,v',vt,vu,vo,iv s.miss,.map (some k),.map (some c)] 90 false false)) lo m k c e r n nm E (fun i=>if i=h.next+1 then 3 else tag i) vq v' vt vu vo es { s with vars:=s.vars++[x] }:=by
 have hlm:=hp.lm
 have hpp:=hp.mono (h':=h.push (.row [.string x] 9 false false)) (tag':=fun i=>if i=h.next then 11 else tag i) (by show h.next≤h.next+1;omega) rfl (fun i hi=>if_neg (by omega)) fun i _ hi=>J06 hi
 obtain⟨v',h1,a1,a2,a3,a4,a5,a6,a7⟩:=J3B (et:=9) (w:=1) (c:=1) (sc:=1) (xs:=[.string x]) Tryz.underlying24 sz9 by9 Jdg rfl (by decide) (by decide) hpp.pol.v (by rw[Nat.mul_one];exact J4W _) (J6e _) rfl rfl (by decide) (by decide) hb (src:=h.next) J0h (by show h.next<h.next+1;omega) hp.fl (by simp)
 have hnx:h1.next=h.next+2:=a4
 have hold:∀ i,i<h.next→¬ (lo≤i∧tag i=3)→h1.get i=h.get i:=fun i hi hne=>by
  rw[a7 i (by show i<h.next+1;omega) (by rw[if_neg (by omega)];exact hne),J06 hi]
 have hm1:m<h1.next:=by omega
 have hgm:h1.get m=h.get m:=hold m hlm.2 (by rw[hp.tm];omega)
 have hSl:SlAt h1 lo (fun i=>if i=h.next+1 then 3 else tag i) 3 v' (s.vars.length+1) (strs s.vars++[.string x]) 9:=by
  rcases a2 with a2 | a2
  ·refine a2.mono' fun i hi=>?_
   show (if i=h.next+1 then 3 else tag i)=(if i=h.next+1 then 3 else if i=h.next then 11 else tag i)∨(if i=h.next+1 then 3 else if i=h.next then 11 else tag i)≠3
   by_cases e1:i=h.next+1
   ·left;rw[if_pos e1,if_pos e1]
   ·rw[if_neg e1,if_neg e1]
    by_cases e2:i=h.next
    ·right;rw[if_pos e2];decide
    ·left;rw[if_neg e2]
  ·exact absurd (show lo≤h.next+1 by omega) a2
 refine⟨v',h1,a1,hgm,a5,a6,a3,hnx,fun i hi hlo=>hold i hi (by omega),?_⟩
 have hn2:h.next≤(h1.put m (.row [.string nm,qS r n unk,vq,v',vt,vu,vo,iv s.miss,.map (some k),.map (some c)] 90 false false)).next:=by show h.next≤h1.next;omega
 have ht2:∀ i,i<h.next→(fun i=>if i=h.next+1 then 3 else tag i) i=tag i:=fun i hi=>if_neg (by omega)
 have hg2:∀ i,lo≤i→i<h.next→tag i≠0→tag i≠3→(h1.put m (.row [.string nm,qS r n unk,vq,v',vt,vu,vo,iv s.miss,.map (some k),.map (some c)] 90 false false)).get i=h.get i:=fun i h1' h2 h3 h4=>by
  rw[J05 hm1 (J1Y (tag:=tag) (by rw[hp.tm];exact h3.symm)),hold i h2 (fun e=>h4 e.2)]
 have hgj:∀ jj,jj≠0→jj≠3→(jj≠3)→∀ i,lo≤i→i<h.next→tag i=jj→(h1.put m (.row [.string nm,qS r n unk,vq,v',vt,vu,vo,iv s.miss,.map (some k),.map (some c)] 90 false false)).get i=h.get i:=fun jj z1 z2 _ i h1' h2 h3=>hg2 i h1' h2 (by omega) (by omega)
 refine hp.pol' hn2 a3 ht2 (fun i h1' h2 h3=>hg2 i h1' h2 (by omega) (by omega)) (J0b rfl hm1) ?_ rfl
 exact
  { rows:=by rw[hg2 r hp.pol.lr.1 hp.pol.lr.2 (by rw[hp.pol.tr];decide) (by rw[hp.pol.tr];decide)];exact hp.pol.rows
    len:=hp.pol.len
    tr:=(ht2 r hp.pol.lr.2).trans hp.pol.tr
    lr:=⟨hp.pol.lr.1,by have:=hp.pol.lr.2;omega⟩
    q:=hp.pol.q.mono hn2 ht2 (hgj 2 (by decide) (by decide) (by decide))
    v:=by
     have h9:=hSl.mono (h':=(h1.put m (.row [.string nm,qS r n unk,vq,v',vt,vu,vo,iv s.miss,.map (some k),.map (some c)] 90 false false))) (Nat.le_refl _) (fun _ _=>rfl) fun i _ _ h3=>J05 hm1 (J1Y (tag:=fun i=>if i=h.next+1 then 3 else tag i) (by rw[h3];show (if m=h.next+1 then _ else tag m)≠_;rw[if_neg (by omega),hp.tm];decide))
     rw[Jau] at h9
     simp only[List.length_append,List.length_cons,List.length_nil]
     exact h9
    t:=hp.pol.t.mono hn2 ht2 (hgj 4 (by decide) (by decide) (by decide))
    u:=hp.pol.u.mono hn2 ht2 (hgj 5 (by decide) (by decide) (by decide))
    o:=hp.pol.o.mono hn2 ht2 (hgj 6 (by decide) (by decide) (by decide)) }
theorem MkP.appT (hp:MkP h lo m k c e r n nm E tag vq vv vt vu vo es s) (x:ByteArray) (hb:s.tags.length<10000000):∃ v' h1,J1o Tryz.prog (h.push (.row [.string x] 9 false false)) 24 vt (qS h.next 1 1)=some (v',h1)∧h1.get m=h.get m∧one v'=true∧v'.cells=#[v']∧h1.floor=h.floor∧h1.next=h.next+2∧(∀ i,i<h.next→i<lo∨11≤tag i→h1.get i=h.get i) ∧
  MkP (h1.put m (.row [.string nm,qS r n unk,vq,vv,v',vu,vo,iv s.miss,.map (some k),.map (some c)] 90 false false)) lo m k c e r n nm E (fun i=>if i=h.next+1 then 4 else tag i) vq vv v' vu vo es { s with tags:=s.tags++[x] }:=by
 have hlm:=hp.lm
 have hpp:=hp.mono (h':=h.push (.row [.string x] 9 false false)) (tag':=fun i=>if i=h.next then 11 else tag i) (by show h.next≤h.next+1;omega) rfl (fun i hi=>if_neg (by omega)) fun i _ hi=>J06 hi
 obtain⟨v',h1,a1,a2,a3,a4,a5,a6,a7⟩:=J3B (et:=9) (w:=1) (c:=1) (sc:=1) (xs:=[.string x]) Tryz.underlying24 sz9 by9 Jdg rfl (by decide) (by decide) hpp.pol.t (by rw[Nat.mul_one];exact J4W _) (J6e _) rfl rfl (by decide) (by decide) hb (src:=h.next) J0h (by show h.next<h.next+1;omega) hp.fl (by simp)
 have hnx:h1.next=h.next+2:=a4
 have hold:∀ i,i<h.next→¬ (lo≤i∧tag i=4)→h1.get i=h.get i:=fun i hi hne=>by
  rw[a7 i (by show i<h.next+1;omega) (by rw[if_neg (by omega)];exact hne),J06 hi]
 have hm1:m<h1.next:=by omega
 have hgm:h1.get m=h.get m:=hold m hlm.2 (by rw[hp.tm];omega)
 have hSl:SlAt h1 lo (fun i=>if i=h.next+1 then 4 else tag i) 4 v' (s.tags.length+1) (strs s.tags++[.string x]) 9:=by
  rcases a2 with a2 | a2
  ·refine a2.mono' fun i hi=>?_
   show (if i=h.next+1 then 4 else tag i)=(if i=h.next+1 then 4 else if i=h.next then 11 else tag i)∨(if i=h.next+1 then 4 else if i=h.next then 11 else tag i)≠4
   by_cases e1:i=h.next+1
   ·left;rw[if_pos e1,if_pos e1]
   ·rw[if_neg e1,if_neg e1]
    by_cases e2:i=h.next
    ·right;rw[if_pos e2];decide
    ·left;rw[if_neg e2]
  ·exact absurd (show lo≤h.next+1 by omega) a2
 refine⟨v',h1,a1,hgm,a5,a6,a3,hnx,fun i hi hlo=>hold i hi (by omega),?_⟩
 have hn2:h.next≤(h1.put m (.row [.string nm,qS r n unk,vq,vv,v',vu,vo,iv s.miss,.map (some k),.map (some c)] 90 false false)).next:=by show h.next≤h1.next;omega
 have ht2:∀ i,i<h.next→(fun i=>if i=h.next+1 then 4 else tag i) i=tag i:=fun i hi=>if_neg (by omega)
 have hg2:∀ i,lo≤i→i<h.next→tag i≠0→tag i≠4→(h1.put m (.row [.string nm,qS r n unk,vq,vv,v',vu,vo,iv s.miss,.map (some k),.map (some c)] 90 false false)).get i=h.get i:=fun i h1' h2 h3 h4=>by
  rw[J05 hm1 (J1Y (tag:=tag) (by rw[hp.tm];exact h3.symm)),hold i h2 (fun e=>h4 e.2)]
 have hgj:∀ jj,jj≠0→jj≠4→(jj≠4)→∀ i,lo≤i→i<h.next→tag i=jj→(h1.put m (.row [.string nm,qS r n unk,vq,vv,v',vu,vo,iv s.miss,.map (some k),.map (some c)] 90 false false)).get i=h.get i:=fun jj z1 z2 _ i h1' h2 h3=>hg2 i h1' h2 (by omega) (by omega)
 refine hp.pol' hn2 a3 ht2 (fun i h1' h2 h3=>hg2 i h1' h2 (by omega) (by omega)) (J0b rfl hm1) ?_ rfl
 exact
  { rows:=by rw[hg2 r hp.pol.lr.1 hp.pol.lr.2 (by rw[hp.pol.tr];decide) (by rw[hp.pol.tr];decide)];exact hp.pol.rows
    len:=hp.pol.len
    tr:=(ht2 r hp.pol.lr.2).trans hp.pol.tr
    lr:=⟨hp.pol.lr.1,by have:=hp.pol.lr.2;omega⟩
    q:=hp.pol.q.mono hn2 ht2 (hgj 2 (by decide) (by decide) (by decide))
    v:=hp.pol.v.mono hn2 ht2 (hgj 3 (by decide) (by decide) (by decide))
    t:=by
     have h9:=hSl.mono (h':=(h1.put m (.row [.string nm,qS r n unk,vq,vv,v',vu,vo,iv s.miss,.map (some k),.map (some c)] 90 false false))) (Nat.le_refl _) (fun _ _=>rfl) fun i _ _ h3=>J05 hm1 (J1Y (tag:=fun i=>if i=h.next+1 then 4 else tag i) (by rw[h3];show (if m=h.next+1 then _ else tag m)≠_;rw[if_neg (by omega),hp.tm];decide))
     rw[Jau] at h9
     simp only[List.length_append,List.length_cons,List.length_nil]
     exact h9
    u:=hp.pol.u.mono hn2 ht2 (hgj 5 (by decide) (by decide) (by decide))
    o:=hp.pol.o.mono hn2 ht2 (hgj 6 (by decide) (by decide) (by decide)) }
theorem MkP.appU (hp:MkP h lo m k c e r n nm E tag vq vv vt vu vo es s) (x:Int) (hb:s.rules.length<10000000):∃ v' h1,J1o Tryz.prog (h.push (.row [iv x] 3 false false)) 25 vu (qS h.next 1 1)=some (v',h1)∧h1.get m=h.get m∧one v'=true∧v'.cells=#[v']∧h1.floor=h.floor∧h1.next=h.next+2∧(∀ i,i<h.next→i<lo∨11≤tag i→h1.get i=h.get i) ∧
  MkP (h1.put m (.row [.string nm,qS r n unk,vq,vv,vt,v',vo,iv s.miss,.map (some k),.map (some c)] 90 false false)) lo m k c e r n nm E (fun i=>if i=h.next+1 then 5 else tag i) vq vv vt v' vo es { s with rules:=s.rules++[x] }:=by
 have hlm:=hp.lm
 have hpp:=hp.mono (h':=h.push (.row [iv x] 3 false false)) (tag':=fun i=>if i=h.next then 11 else tag i) (by show h.next≤h.next+1;omega) rfl (fun i hi=>if_neg (by omega)) fun i _ hi=>J06 hi
 obtain⟨v',h1,a1,a2,a3,a4,a5,a6,a7⟩:=J3B (et:=3) (w:=1) (c:=1) (sc:=1) (xs:=[iv x]) Tryz.underlying25 sz3 by3 J8P rfl (by decide) (by decide) hpp.pol.u (by rw[Nat.mul_one];exact J1h _) (J5u _) rfl rfl (by decide) (by decide) hb (src:=h.next) J0h (by show h.next<h.next+1;omega) hp.fl (by simp)
 have hnx:h1.next=h.next+2:=a4
 have hold:∀ i,i<h.next→¬ (lo≤i∧tag i=5)→h1.get i=h.get i:=fun i hi hne=>by
  rw[a7 i (by show i<h.next+1;omega) (by rw[if_neg (by omega)];exact hne),J06 hi]
 have hm1:m<h1.next:=by omega
 have hgm:h1.get m=h.get m:=hold m hlm.2 (by rw[hp.tm];omega)
 have hSl:SlAt h1 lo (fun i=>if i=h.next+1 then 5 else tag i) 5 v' (s.rules.length+1) (ints s.rules++[iv x]) 3:=by
  rcases a2 with a2 | a2
  ·refine a2.mono' fun i hi=>?_
   show (if i=h.next+1 then 5 else tag i)=(if i=h.next+1 then 5 else if i=h.next then 11 else tag i)∨(if i=h.next+1 then 5 else if i=h.next then 11 else tag i)≠5
   by_cases e1:i=h.next+1
   ·left;rw[if_pos e1,if_pos e1]
   ·rw[if_neg e1,if_neg e1]
    by_cases e2:i=h.next
    ·right;rw[if_pos e2];decide
    ·left;rw[if_neg e2]
  ·exact absurd (show lo≤h.next+1 by omega) a2
 refine⟨v',h1,a1,hgm,a5,a6,a3,hnx,fun i hi hlo=>hold i hi (by omega),?_⟩
 have hn2:h.next≤(h1.put m (.row [.string nm,qS r n unk,vq,vv,vt,v',vo,iv s.miss,.map (some k),.map (some c)] 90 false false)).next:=by show h.next≤h1.next;omega
 have ht2:∀ i,i<h.next→(fun i=>if i=h.next+1 then 5 else tag i) i=tag i:=fun i hi=>if_neg (by omega)
 have hg2:∀ i,lo≤i→i<h.next→tag i≠0→tag i≠5→(h1.put m (.row [.string nm,qS r n unk,vq,vv,vt,v',vo,iv s.miss,.map (some k),.map (some c)] 90 false false)).get i=h.get i:=fun i h1' h2 h3 h4=>by
  rw[J05 hm1 (J1Y (tag:=tag) (by rw[hp.tm];exact h3.symm)),hold i h2 (fun e=>h4 e.2)]
 have hgj:∀ jj,jj≠0→jj≠5→(jj≠5)→∀ i,lo≤i→i<h.next→tag i=jj→(h1.put m (.row [.string nm,qS r n unk,vq,vv,vt,v',vo,iv s.miss,.map (some k),.map (some c)] 90 false false)).get i=h.get i:=fun jj z1 z2 _ i h1' h2 h3=>hg2 i h1' h2 (by omega) (by omega)
 refine hp.pol' hn2 a3 ht2 (fun i h1' h2 h3=>hg2 i h1' h2 (by omega) (by omega)) (J0b rfl hm1) ?_ rfl
 exact
  { rows:=by rw[hg2 r hp.pol.lr.1 hp.pol.lr.2 (by rw[hp.pol.tr];decide) (by rw[hp.pol.tr];decide)];exact hp.pol.rows
    len:=hp.pol.len
    tr:=(ht2 r hp.pol.lr.2).trans hp.pol.tr
    lr:=⟨hp.pol.lr.1,by have:=hp.pol.lr.2;omega⟩
    q:=hp.pol.q.mono hn2 ht2 (hgj 2 (by decide) (by decide) (by decide))
    v:=hp.pol.v.mono hn2 ht2 (hgj 3 (by decide) (by decide) (by decide))
    t:=hp.pol.t.mono hn2 ht2 (hgj 4 (by decide) (by decide) (by decide))
    u:=by
     have h9:=hSl.mono (h':=(h1.put m (.row [.string nm,qS r n unk,vq,vv,vt,v',vo,iv s.miss,.map (some k),.map (some c)] 90 false false))) (Nat.le_refl _) (fun _ _=>rfl) fun i _ _ h3=>J05 hm1 (J1Y (tag:=fun i=>if i=h.next+1 then 5 else tag i) (by rw[h3];show (if m=h.next+1 then _ else tag m)≠_;rw[if_neg (by omega),hp.tm];decide))
     rw[Jat] at h9
     simp only[List.length_append,List.length_cons,List.length_nil]
     exact h9
    o:=hp.pol.o.mono hn2 ht2 (hgj 6 (by decide) (by decide) (by decide)) }
theorem MkP.appO (hp:MkP h lo m k c e r n nm E tag vq vv vt vu vo es s) (x:Int) (hb:s.on.length<10000000):∃ v' h1,J1o Tryz.prog (h.push (.row [iv x] 3 false false)) 25 vo (qS h.next 1 1)=some (v',h1)∧h1.get m=h.get m∧one v'=true∧v'.cells=#[v']∧h1.floor=h.floor∧h1.next=h.next+2∧(∀ i,i<h.next→i<lo∨11≤tag i→h1.get i=h.get i) ∧
  MkP (h1.put m (.row [.string nm,qS r n unk,vq,vv,vt,vu,v',iv s.miss,.map (some k),.map (some c)] 90 false false)) lo m k c e r n nm E (fun i=>if i=h.next+1 then 6 else tag i) vq vv vt vu v' es { s with on:=s.on++[x] }:=by
 have hlm:=hp.lm
 have hpp:=hp.mono (h':=h.push (.row [iv x] 3 false false)) (tag':=fun i=>if i=h.next then 11 else tag i) (by show h.next≤h.next+1;omega) rfl (fun i hi=>if_neg (by omega)) fun i _ hi=>J06 hi
 obtain⟨v',h1,a1,a2,a3,a4,a5,a6,a7⟩:=J3B (et:=3) (w:=1) (c:=1) (sc:=1) (xs:=[iv x]) Tryz.underlying25 sz3 by3 J8P rfl (by decide) (by decide) hpp.pol.o (by rw[Nat.mul_one];exact J1h _) (J5u _) rfl rfl (by decide) (by decide) hb (src:=h.next) J0h (by show h.next<h.next+1;omega) hp.fl (by simp)
 have hnx:h1.next=h.next+2:=a4
 have hold:∀ i,i<h.next→¬ (lo≤i∧tag i=6)→h1.get i=h.get i:=fun i hi hne=>by
  rw[a7 i (by show i<h.next+1;omega) (by rw[if_neg (by omega)];exact hne),J06 hi]
 have hm1:m<h1.next:=by omega
 have hgm:h1.get m=h.get m:=hold m hlm.2 (by rw[hp.tm];omega)
 have hSl:SlAt h1 lo (fun i=>if i=h.next+1 then 6 else tag i) 6 v' (s.on.length+1) (ints s.on++[iv x]) 3:=by
  rcases a2 with a2 | a2
  ·refine a2.mono' fun i hi=>?_
   show (if i=h.next+1 then 6 else tag i)=(if i=h.next+1 then 6 else if i=h.next then 11 else tag i)∨(if i=h.next+1 then 6 else if i=h.next then 11 else tag i)≠6
   by_cases e1:i=h.next+1
   ·left;rw[if_pos e1,if_pos e1]
   ·rw[if_neg e1,if_neg e1]
    by_cases e2:i=h.next
    ·right;rw[if_pos e2];decide
    ·left;rw[if_neg e2]
  ·exact absurd (show lo≤h.next+1 by omega) a2
 refine⟨v',h1,a1,hgm,a5,a6,a3,hnx,fun i hi hlo=>hold i hi (by omega),?_⟩
 have hn2:h.next≤(h1.put m (.row [.string nm,qS r n unk,vq,vv,vt,vu,v',iv s.miss,.map (some k),.map (some c)] 90 false false)).next:=by show h.next≤h1.next;omega
 have ht2:∀ i,i<h.next→(fun i=>if i=h.next+1 then 6 else tag i) i=tag i:=fun i hi=>if_neg (by omega)
 have hg2:∀ i,lo≤i→i<h.next→tag i≠0→tag i≠6→(h1.put m (.row [.string nm,qS r n unk,vq,vv,vt,vu,v',iv s.miss,.map (some k),.map (some c)] 90 false false)).get i=h.get i:=fun i h1' h2 h3 h4=>by
  rw[J05 hm1 (J1Y (tag:=tag) (by rw[hp.tm];exact h3.symm)),hold i h2 (fun e=>h4 e.2)]
 have hgj:∀ jj,jj≠0→jj≠6→(jj≠6)→∀ i,lo≤i→i<h.next→tag i=jj→(h1.put m (.row [.string nm,qS r n unk,vq,vv,vt,vu,v',iv s.miss,.map (some k),.map (some c)] 90 false false)).get i=h.get i:=fun jj z1 z2 _ i h1' h2 h3=>hg2 i h1' h2 (by omega) (by omega)
 refine hp.pol' hn2 a3 ht2 (fun i h1' h2 h3=>hg2 i h1' h2 (by omega) (by omega)) (J0b rfl hm1) ?_ rfl
 exact
  { rows:=by rw[hg2 r hp.pol.lr.1 hp.pol.lr.2 (by rw[hp.pol.tr];decide) (by rw[hp.pol.tr];decide)];exact hp.pol.rows
    len:=hp.pol.len
    tr:=(ht2 r hp.pol.lr.2).trans hp.pol.tr
    lr:=⟨hp.pol.lr.1,by have:=hp.pol.lr.2;omega⟩
    q:=hp.pol.q.mono hn2 ht2 (hgj 2 (by decide) (by decide) (by decide))
    v:=hp.pol.v.mono hn2 ht2 (hgj 3 (by decide) (by decide) (by decide))
    t:=hp.pol.t.mono hn2 ht2 (hgj 4 (by decide) (by decide) (by decide))
    u:=hp.pol.u.mono hn2 ht2 (hgj 5 (by decide) (by decide) (by decide))
    o:=by
     have h9:=hSl.mono (h':=(h1.put m (.row [.string nm,qS r n unk,vq,vv,vt,vu,v',iv s.miss,.map (some k),.map (some c)] 90 false false))) (Nat.le_refl _) (fun _ _=>rfl) fun i _ _ h3=>J05 hm1 (J1Y (tag:=fun i=>if i=h.next+1 then 6 else tag i) (by rw[h3];show (if m=h.next+1 then _ else tag m)≠_;rw[if_neg (by omega),hp.tm];decide))
     rw[Jat] at h9
     simp only[List.length_append,List.length_cons,List.length_nil]
     exact h9 }
end
noncomputable def D5:Code:=rt (rt (rt (rt (Tryz.f52.body.getD .skip))))
noncomputable def D8:Code:=rt D5
noncomputable def D12:Code:=rt (rt (rt D8))
noncomputable def D13:Code:=rt D12
noncomputable def JdY:Array Oper:=J18 Tryz.f52 5
def Jid:List (Bool × Bool × List Operand):=[fa1,fa1,fa1,fa1,fa3 [.tmp 29],fa3 [.tmp 29],fa3 [.tmp 29],fa3 [.tmp 29],fa0,fa0,fa0,fa0,fa3 [.tmp 29,.tmp 33,.tmp 30],fa0,fa0]
theorem Jd3:J1E JdY=Jid:=by kernel_rfl
def Jgd:List (Bool × Bool × List Operand):=[fa1,fa1,fa1,fa1,fa3 [.tmp 58],fa3 [.tmp 58],fa3 [.tmp 58],fa3 [.tmp 58],fa3 [.tmp 58,.tmp 62],fa3 [.tmp 58,.tmp 62],fa3 [.tmp 58,.tmp 62],fa3 [.tmp 58,.tmp 62],fa3 [.tmp 58,.tmp 62],fa0]
def JgD:List (Bool × Bool × List Operand):=[fa2,fa1,fa1,fa1,fa1,fa1,fa3 [.tmp 80],fa3 [.tmp 80],fa3 [.tmp 80],fa3 [.tmp 80],fa3 [.tmp 80,.tmp 84],fa3 [.tmp 80,.tmp 84],fa3 [.tmp 80,.tmp 84],fa3 [.tmp 80,.tmp 84],fa3 [.tmp 80,.tmp 84],fa3 [.tmp 80],fa3 [.tmp 80],fa0,fa0,fa0,fa0,fa0]
def JgB:List (Bool × Bool × List Operand):=[fa2,fa1,fa1,fa1,fa1,fa1,fa3 [.tmp 114],fa3 [.tmp 114],fa3 [.tmp 114],fa3 [.tmp 114],fa3 [.tmp 114],fa0,fa0,fa0,fa0,fa0]
def Jgs:List (Bool × Bool × List Operand):=[fa2,fa1,fa1,fa1,fa1,fa1,fa3 [.tmp 131],fa3 [.tmp 131],fa3 [.tmp 131],fa3 [.tmp 131],fa3 [.tmp 131],fa0,fa0,fa0,fa0,fa0]
theorem Je3 {h:SHeap} {id:Nat} {a b c x y z:Value} {ty:TypeId} {g:Bool} (hg:h.get id=.row [x,y,z] ty g false) (hf:h.floor≤id) (ho:[a,b,c].all one=true):J0K Tryz.prog h 112 (qP id 0) (.agg #[a,b,c])=some (h.put id (.row [a,b,c] ty g false)):=by
 have hl:Go.Sx.lay [x,y,z] 0 [a,b,c]=[a,b,c]:=rfl
 have hc:(Value.agg #[a,b,c]).cells=#[a,b,c]:=rfl
 have hsz:(some 3:Option Nat)=some (#[a,b,c]:Array Value).size:=rfl
 simp only[J0K,hc,Jhm,J1q,hg]
 rw[if_pos hsz,if_pos (by simp only[List.length_cons,List.length_nil,ho];simp[hf])]
 rfl
theorem JfL {b t:Nat} (ht:t≤b) {T:Tr} {d:Nat} {v:Value} (hd:b<d):(T.put (some d) v).get t=T.get t:=J03 (b:=b+1) hd (by omega)
theorem JcC {T:Tr} {v:Value}:T.put none v=T:=rfl
section
variable {call:J0r} {N:Nat} {h:SHeap} {lo m k c e r n:Nat} {nm:ByteArray} {E:List Int} {tag:Nat→Nat} {vq vv vt vu vo:Value} {es:List (Value × Value)} {s:StN}
theorem Ji7 (hsn:J1G call) {T:Tr} {at_:Nat} {x:RowN} {K:Kont} (hp:MkP h lo m k c e r n nm E tag vq vv vt vu vo es s) (hx:s.rows[at_]?=some x)
  (t0:T.get 0=qP m 0) (t7:T.get 7=.pointer (some ⟨r,at_*5,none⟩))
  (hk1:∀ T' H,(J30 s.things x.name).isSome=true→T'.get 6=iv 31→(∀ i,i<h.next→H.get i=h.get i)→h.next≤H.next→H.floor=h.floor→K.ap Tryz.prog call N .ret ⟨T',H⟩)
  (hk2:∀ T' H,J30 s.things x.name=none→(∀ t,t≤8→T'.get t=T.get t)→(∀ i,i<h.next→H.get i=h.get i)→h.next≤H.next→H.floor=h.floor→WK Tryz.prog call N D8 ⟨T',H⟩ K):WK Tryz.prog call N D5 ⟨T,h⟩ K:=by
 show WK _ _ _ (.seq (.seq (.region _ _ true) _) D8) _ _
 rw[J4p,J4p]
 have c8:=hp.c8
 obtain⟨hlt,l0,l1,l2,l3,l4,lr⟩:=hp.row hx
 have hlook:=J7x (x:=x.name) hp.known
 have hm:=hp.lm.2
 have hkn:=hp.lk.2
 have hr:=hp.pol.lr.2
 have hflo:h.floor≤h.next:=by have:=hp.fl;have:=hp.lm.1;omega
 have n1:(some m != some h.next)=true:=by simp;omega
 have n2:(some r != some h.next)=true:=by simp;omega
 have n3:(some k != some h.next)=true:=by simp;omega
 have hnew:(h.push (.row [iv 0,iv 0,iv 0] 112 false false)).get h.next=.row [iv 0,iv 0,iv 0] 112 false false:=J0h
 have hst:=fun a b d=>Je3 (a:=iv a) (b:=iv b) (c:=iv d) hnew (by exact hflo) rfl
 have hold:∀ o i,i<h.next→((h.push (.row [iv 0,iv 0,iv 0] 112 false false)).put h.next o).get i=h.get i:=fun o i hi=>by rw[J05 (by show h.next<h.next+1;omega) (by omega),J06 hi]
 have hfl0:flat (.agg #[iv 0,iv 0,iv 0])=true:=rfl
 have hcl0:(Value.agg #[iv 0,iv 0,iv 0]).cells.toList=[iv 0,iv 0,iv 0]:=rfl
 have i1:idOf (qP m 8)=some m:=rfl
 have i2:idOf (.pointer (some ⟨r,at_*5+1,none⟩))=some r:=rfl
 have i3:idOf (.map (some k))=some k:=rfl
 have i4:idOf (qP h.next 0)=some h.next:=rfl
 refine WK.flags (ops:=JdY) Jd3 ?_
 refine WKF.begin ?_
 refine wst hsn 0 (some 27) (.move (.tmp 0)) none ?_
 simp only[rgC,seval,J04,J02,WKFC,t0]
 refine wst hsn 1 (some 28) (.nilCheck (.tmp 27)) none ?_
 simp only[rgC,seval,J04,J02,WKFC]
 refine wst hsn 2 (some 29) (.fieldAddr 90 (.tmp 28) 1) none ?_
 simp only[rgC,seval,J04,J02,WKFC,Nat.zero_add,J0Z]
 refine wst hsn 3 (some 30) (.load 87 (.tmp 29)) none ?_
 simp only[rgC,seval,J04,J02,WKFC,rgL,J1k,c8]
 refine wst hsn 4 (some 31) (.move (.tmp 7)) none ?_
 simp only[rgC,seval,J04,J02,WKFC,t7]
 refine wst hsn 5 (some 32) (.nilCheck (.tmp 31)) none ?_
 simp only[rgC,seval,J04,J02,WKFC]
 refine wst hsn 6 (some 33) (.fieldAddr 60 (.tmp 32) 1) none ?_
 simp only[rgC,seval,J04,J02,WKFC,J07]
 refine wst hsn 7 (some 34) (.load 9 (.tmp 33)) none ?_
 simp only[rgC,seval,J04,J02,WKFC,rgL,J0d,l1]
 cases hf:J30 s.things x.name with
 | some t=>
  rw[hf] at hlook
  refine wst hsn 8 (some 35) (.lookup 87 (.tmp 30) (.tmp 34) true) none ?_
  simp only[rgC,seval,J04,J02,WKFC,rgL,hlook,i3]
  refine wst hsn 9 (some 26) (.move (.tmp 35)) none ?_
  simp only[rgC,seval,J04,J02,WKFC]
  refine wst hsn 10 (some 36) (.extract (.tmp 26) 0) none ?_
  simp only[rgC,seval,J04,J02,WKFC,List.getElem?_toArray,List.getElem?_cons_zero]
  refine wst hsn 11 (some 37) (.extract (.tmp 26) 1) none ?_
  simp only[rgC,seval,J04,J02,WKFC,List.getElem?_toArray,List.getElem?_cons_succ,List.getElem?_cons_zero]
  refine wst hsn 12 (some 9) (.alloc 112) none ?_
  simp only[rgC,seval,J04,J02,WKFC,rgA,J1j,hfl0,hcl0]
  refine wst hsn 13 (none) (.store 112 (.tmp 9) (.tmp 36)) none ?_
  simp only[rgC,seval,J04,J02,WKFC,J17,rgS,hst,i4,J17,List.all_nil]
  refine wst hsn 14 (some 10) (.assign (.tmp 37)) none ?_
  simp only[rgC,seval,J04,J02,WKFC]
  refine WKF.done (i:=15) (by kernel_rfl) ?_
  simp only[evC,seval,↓evP,rpC]
  exact hk1 _ _ (by rw[hf];rfl) (by simp only[Tr.get_put,if_true]) (hold _) (by show h.next≤h.next+1;omega) rfl
 | none=>
  rw[hf] at hlook
  refine wst hsn 8 (some 35) (.lookup 87 (.tmp 30) (.tmp 34) true) none ?_
  simp only[rgC,seval,J04,J02,WKFC,rgL,hlook,i3]
  refine wst hsn 9 (some 26) (.move (.tmp 35)) none ?_
  simp only[rgC,seval,J04,J02,WKFC]
  refine wst hsn 10 (some 36) (.extract (.tmp 26) 0) none ?_
  simp only[rgC,seval,J04,J02,WKFC,List.getElem?_toArray,List.getElem?_cons_zero]
  refine wst hsn 11 (some 37) (.extract (.tmp 26) 1) none ?_
  simp only[rgC,seval,J04,J02,WKFC,List.getElem?_toArray,List.getElem?_cons_succ,List.getElem?_cons_zero]
  refine wst hsn 12 (some 9) (.alloc 112) none ?_
  simp only[rgC,seval,J04,J02,WKFC,rgA,J1j,hfl0,hcl0]
  refine wst hsn 13 (none) (.store 112 (.tmp 9) (.tmp 36)) none ?_
  simp only[rgC,seval,J04,J02,WKFC,J17,rgS,hst,i4,J17,List.all_nil]
  refine wst hsn 14 (some 10) (.assign (.tmp 37)) none ?_
  simp only[rgC,seval,J04,J02,WKFC]
  refine WKF.done (i:=15) (by kernel_rfl) ?_
  simp only[evC,seval,↓evP,rpC]
  refine hk2 _ _ hf (fun t ht=>?_) (hold _) (by show h.next≤h.next+1;omega) rfl
  simp only[JfL ht,JcC,Nat.reduceLT]
noncomputable def D14:Code:=rt D13
theorem JhW (hsn:J1G call) {T:Tr} {at_:Nat} {x:RowN} {K:Kont} {kd end_:Int} (hp:MkP h lo m k c e r n nm E tag vq vv vt vu vo es s) (hx:s.rows[at_]?=some x) (hm:Many es s) (h1:1≤kd) (h4:kd≤4) (hcn:cntN s kd<1000)
  (h80:∀ h',call 73 [iv kd] h'=some (iv (J3g kd),h')) (hf:J30 s.things x.name=none)
  (t0:T.get 0=qP m 0) (t2:T.get 2=iv end_) (t7:T.get 7=.pointer (some ⟨r,at_*5,none⟩)) (t8:T.get 8=iv kd)
  (hk1:∀ T',(cntN s kd:Int)=J3g kd→T'.get 6=iv 3→K.ap Tryz.prog call N .ret ⟨T',h⟩)
  (hk2:∀ T' H,(cntN s kd:Int)≠J3g kd→(∀ t,t≤8→T'.get t=T.get t)→MkP H lo m k c e r n nm E tag vq vv vt vu vo (J2h (iv kd) (iv ((cntN s kd:Int)+1)) es) { s with rows:=setN s.rows at_ (cntN s kd),things:=s.things++[⟨x.name,kd,(cntN s kd:Int),end_⟩] } →
   (∀ i,i<lo∨(i<h.next∧11≤tag i)→H.get i=h.get i)→H.next=h.next→H.floor=h.floor→WK Tryz.prog call N D14 ⟨T',H⟩ K):WK Tryz.prog call N D8 ⟨T,h⟩ K:=by
 show WK _ _ _ (.seq _ (.seq _ (.seq _ D12))) _ _
 have c9:=hp.c9
 have hlook:=JdK hp.many hm h1 h4
 have w1:IntKind.i64.wrap ((cntN s kd:Int)+1)=(cntN s kd:Int)+1:=J0s (by omega) (by omega)
 have hput:=Jfr (v:=iv ((cntN s kd:Int)+1)) hp.many hm h1 h4 (by have:=hp.fl;have:=hp.lc.1;omega)
 cases d1:((cntN s kd:Int)==J3g kd) with
 | true=>
  simp only[evC,seval,↓evP,rpC,t0,t8,JaQ,Jdh,c9,hlook,h80,d1]
  exact hk1 _ (by simpa using d1) (by simp only[Tr.get_put,if_true])
 | false=>
  simp only[evC,seval,↓evP,rpC,t0,t8,JaQ,Jdh,c9,hlook,h80,d1,w1,hput]
  have hp1:=hp.putC (J2h (iv kd) (iv ((cntN s kd:Int)+1)) es)
  have hlo1:∀ i,i<lo∨(i<h.next∧11≤tag i)→(h.put c (.map (J2h (iv kd) (iv ((cntN s kd:Int)+1)) es))).get i=h.get i:=fun i hi=>J05 hp.lc.2 (J8l hp.lc.1 (by rw[hp.tc];decide) hi)
  have hnx1:(h.put c (.map (J2h (iv kd) (iv ((cntN s kd:Int)+1)) es))).next=h.next:=rfl
  have hfl1:(h.put c (.map (J2h (iv kd) (iv ((cntN s kd:Int)+1)) es))).floor=h.floor:=rfl
  generalize h.put c (.map (J2h (iv kd) (iv ((cntN s kd:Int)+1)) es))=H1 at *
  show WK _ _ _ (.seq (.region _ _ true) (.seq _ D14)) _ _
  rw[J4p]
  have b8:=hp1.c8
  obtain⟨hlt,l0,l1,l2,l3,l4,lr⟩:=hp1.row hx
  have hpk:=Jdy (a:=kd) (b:=(cntN s kd:Int)) (c:=end_) hp1.known hf (by have:=hp1.fl;have:=hp1.lk.1;omega)
  refine WK.flags (fs:=Jgd) (by kernel_rfl) ?_
  unfold Jgd
  iterate 14
   refine wcs hsn ?_
   simp only[rgC,seval,J04,J02,WKFC,rgL,rgK,J17,rgS,rgB,t0,J0Z,J1k,b8,t7,J07,J0d,l1,t8,List.map_cons,List.map_nil,J3i,t2,J3R,hpk]
  refine JvR ?_
  have hp2:=hp1.putK (s.things++[⟨x.name,kd,(cntN s kd:Int),end_⟩])
  have hlo2:∀ i,i<lo∨(i<h.next∧11≤tag i)→(H1.put k (.map ((s.things++[(⟨x.name,kd,(cntN s kd:Int),end_⟩:ThN)]).map entT))).get i=h.get i:=fun i hi=>by rw[J05 hp1.lk.2 (J8l hp1.lk.1 (by rw[hp1.tk];decide) hi)];exact hlo1 i hi
  have hnx2:(H1.put k (.map ((s.things++[(⟨x.name,kd,(cntN s kd:Int),end_⟩:ThN)]).map entT))).next=h.next:=hnx1
  have hfl2:(H1.put k (.map ((s.things++[(⟨x.name,kd,(cntN s kd:Int),end_⟩:ThN)]).map entT))).floor=h.floor:=hfl1
  generalize H1.put k (.map ((s.things++[(⟨x.name,kd,(cntN s kd:Int),end_⟩:ThN)]).map entT))=H2 at *
  have hrl:=J0N s.rows
  have hlen:=hp.pol.len
  have hst:=stc (off:=at_*5+3) sz3 (v:=iv (cntN s kd:Int)) rfl rfl hp2.pol.rows (by rw[hrl];omega) (by have:=hp2.fl;have:=hp2.pol.lr.1;omega)
  rw[J3N hx] at hst
  have hp3:=hp2.putR (l:=setN s.rows at_ (cntN s kd:Int)) J4N
  simp only[evC,seval,↓evP,rpC,t7,hst]
  refine hk2 _ _ (by simpa using d1) (fun t ht=>?_) hp3 (fun i hi=>?_) hnx2 hfl2
  ·simp only[JfL ht,JcC,Nat.reduceLT]
  ·rw[J05 hp2.pol.lr.2 (J8l hp2.pol.lr.1 (by rw[hp2.pol.tr];decide) hi)]
   exact hlo2 i hi
def appS (kd:Int) (at_:Nat) (x:RowN) (s:StN):StN:=
 { s with
   queues:=if kd=1 then s.queues++[(x.name,x.kind==3)] else s.queues
   vars:=if kd=2 then s.vars++[x.name] else s.vars
   tags:=if kd=3 then s.tags++[x.name] else s.tags
   rules:=if kd=4 then s.rules++[(at_:Int)+1] else s.rules
   on:=if kd=1 then s.on++[-1] else s.on }
theorem Jfe (hsn:J1G call) {T:Tr} {at_:Nat} {x:RowN} {K:Kont} {kd:Int} (hp:MkP h lo m k c e r n nm E tag vq vv vt vu vo es s) (hx:s.rows[at_]?=some x) (h1:1≤kd) (h4:kd≤4)
  (hb:s.queues.length<1000∧s.vars.length<1000∧s.tags.length<1000∧s.rules.length<1000∧s.on.length<1000) (hn:n<1099511627776)
  (t0:T.get 0=qP m 0) (t1:T.get 1=iv at_) (t7:T.get 7=.pointer (some ⟨r,at_*5,none⟩)) (t8:T.get 8=iv kd)
  (hk:∀ T' H tag' vq' vv' vt' vu' vo',T'.get 6=iv 0→MkP H lo m k c e r n nm E tag' vq' vv' vt' vu' vo' es (appS kd at_ x s)→(∀ i,i<h.next→tag' i=tag i)→(∀ i,i<lo∨(i<h.next∧11≤tag i)→H.get i=h.get i)→h.next≤H.next→H.floor=h.floor→K.ap Tryz.prog call N .ret ⟨T',H⟩):WK Tryz.prog call N D14 ⟨T,h⟩ K:=by
 show WK _ _ _ (.seq (.seq _ (.block _ _)) (.seq _ _)) _ _
 have hm:=hp.lm.2
 have hlm:=hp.lm.1
 have hflm:h.floor≤m:=by have:=hp.fl;omega
 obtain⟨hlt,l0,l1,l2,l3,l4,lr⟩:=hp.row hx
 have hk4:kd=1∨kd=2∨kd=3∨kd=4:=by omega
 have nl:∀ (o o':SObj) i,i<lo∨(i<h.next∧11≤tag i)→∀ hh:SHeap,(∀ i,i<h.next→i<lo∨11≤tag i→hh.get i=h.get i)→hh.next=h.next+2→(hh.put m o).get i=h.get i:=fun o o' i hi hh h1 h2=>by rw[J05 (by omega) (J8l hlm (by rw[hp.tm];decide) hi),h1 i (by omega) (by omega)]
 have tg:∀ j i,i<h.next→(fun i=>if i=h.next+1 then j else tag i) i=tag i:=fun j i hi=>if_neg (by omega)
 rcases hk4 with rfl | rfl | rfl | rfl
 ·obtain⟨v',h1',a1,a2,a3,a4,a5,a6,a7,hp2⟩:=hp.appQ (x.name,x.kind==3) (by omega)
  have c2:=hp.c2
  have hfx:h1'.fl h.floor=h1':=by rw[← a5];exact J6L h1'
  have hst:J0K Tryz.prog h1' 23 (qP m 2) v'=_:=stc sz26 a4 a3 (a2.trans hp.cell) (by simp only[List.length_cons,List.length_nil];omega) (by rw[a5];exact hflm)
  have lo2:=nl (.row [.string nm,qS r n unk,v',vv,vt,vu,vo,iv s.miss,.map (some k),.map (some c)] 90 false false) .dead
  simp only[List.set_cons_succ,List.set_cons_zero] at hst
  simp only[evC,seval,↓evP,rpC,t8]
  show WK _ _ _ (.region _ _ true) _ _
  refine WK.flags (fs:=JgD) (by kernel_rfl) ?_
  unfold JgD
  iterate 22
   refine wcs hsn ?_
   simp only[rgC,seval,J04,J02,WKFC,rgL,rgK,J17,rgS,rgB,t0,J0g,J0B,J0S,c2,t7,J07,J0d,l1,J0t,J0m,l0,List.map_cons,List.map_nil,J2q,bs26,J0a,a1,hfx,J0i,hst]
  refine JvR ?_
  have lo3:=fun i hi=>lo2 i hi h1' a7 a6
  have hfl3:(h1'.put m (.row [.string nm,qS r n unk,v',vv,vt,vu,vo,iv s.miss,.map (some k),.map (some c)] 90 false false)).floor=h.floor:=a5
  have hnx3:(h1'.put m (.row [.string nm,qS r n unk,v',vv,vt,vu,vo,iv s.miss,.map (some k),.map (some c)] 90 false false)).next=h.next+2:=a6
  generalize h1'.put m (.row [.string nm,qS r n unk,v',vv,vt,vu,vo,iv s.miss,.map (some k),.map (some c)] 90 false false)=H2 at *
  obtain⟨v2,h2',b1,b2,b3,b4,b5,b6,b7,hp3⟩:=hp2.appO (-1) (by simp only;omega)
  have d6:=hp2.c6
  have hst2:J0K Tryz.prog h2' 25 (qP m 6) v2=_:=stc sz28 b4 b3 (b2.trans hp2.cell) (by simp only[List.length_cons,List.length_nil];omega) (by rw[b5,hfl3];exact hflm)
  simp only[List.set_cons_succ,List.set_cons_zero] at hst2
  simp only[evC,seval,↓evP,rpC,t0,J0g,J1T,J0n,d6,bs28,b1,hst2]
  refine hk _ _ _ _ _ _ _ _ (by simp only[Tr.get_put,if_true]) hp3 (fun i hi=>?_) (fun i hi=>?_) ?_ (b5.trans hfl3)
  ·show (if i=H2.next+1 then 6 else if i=h.next+1 then 2 else tag i)=tag i
   rw[if_neg (by omega),if_neg (by omega)]
  ·rw[J05 (by omega) (J8l hlm (by rw[hp.tm];decide) hi),b7 i (by omega) (by show i<lo∨11≤(if i=h.next+1 then 2 else tag i);rw[if_neg (by omega)];omega),lo3 i hi]
  ·show h.next≤h2'.next;omega
 ·obtain⟨v',h1',a1,a2,a3,a4,a5,a6,a7,hp2⟩:=hp.appV x.name (by omega)
  have c3:=hp.c3
  have hfx:h1'.fl h.floor=h1':=by rw[← a5];exact J6L h1'
  have hst:J0K Tryz.prog h1' 24 (qP m 3) v'=_:=stc sz27 a4 a3 (a2.trans hp.cell) (by simp only[List.length_cons,List.length_nil];omega) (by rw[a5];exact hflm)
  simp only[List.set_cons_succ,List.set_cons_zero] at hst
  simp only[evC,seval,↓evP,rpC,t8,Int.reduceBEq]
  show WK _ _ _ (.region _ _ true) _ _
  refine WK.flags (fs:=JgB) (by kernel_rfl) ?_
  unfold JgB
  iterate 16
   refine wcs hsn ?_
   simp only[rgC,seval,J04,J02,WKFC,rgL,rgK,J17,rgS,rgB,t0,J0g,J1A,J0Y,c3,t7,J07,J0d,l1,List.map_cons,List.map_nil,bs27,J0a,a1,hfx,J0i,hst]
  refine JvR ?_
  simp only[evC,seval,↓evP,rpC]
  refine hk _ _ _ _ _ _ _ _ (by simp only[Tr.get_put,if_true]) hp2 (tg _) (fun i hi=>nl _ .dead i hi h1' a7 a6) ?_ a5
  show h.next≤h1'.next;omega
 ·obtain⟨v',h1',a1,a2,a3,a4,a5,a6,a7,hp2⟩:=hp.appT x.name (by omega)
  have c4:=hp.c4
  have hfx:h1'.fl h.floor=h1':=by rw[← a5];exact J6L h1'
  have hst:J0K Tryz.prog h1' 24 (qP m 4) v'=_:=stc sz27 a4 a3 (a2.trans hp.cell) (by simp only[List.length_cons,List.length_nil];omega) (by rw[a5];exact hflm)
  simp only[List.set_cons_succ,List.set_cons_zero] at hst
  simp only[evC,seval,↓evP,rpC,t8,Int.reduceBEq]
  show WK _ _ _ (.region _ _ true) _ _
  refine WK.flags (fs:=Jgs) (by kernel_rfl) ?_
  unfold Jgs
  iterate 16
   refine wcs hsn ?_
   simp only[rgC,seval,J04,J02,WKFC,rgL,rgK,J17,rgS,rgB,t0,J0g,J1B,J0Y,c4,t7,J07,J0d,l1,List.map_cons,List.map_nil,bs27,J0a,a1,hfx,J0i,hst]
  refine JvR ?_
  simp only[evC,seval,↓evP,rpC]
  refine hk _ _ _ _ _ _ _ _ (by simp only[Tr.get_put,if_true]) hp2 (tg _) (fun i hi=>nl _ .dead i hi h1' a7 a6) ?_ a5
  show h.next≤h1'.next;omega
 ·obtain⟨v',h1',a1,a2,a3,a4,a5,a6,a7,hp2⟩:=hp.appU ((at_:Int)+1) (by omega)
  have c5:=hp.c5
  have w1:IntKind.i64.wrap ((at_:Int)+1)=(at_:Int)+1:=J0s (by omega) (by omega)
  have hst:J0K Tryz.prog h1' 25 (qP m 5) v'=_:=stc sz28 a4 a3 (a2.trans hp.cell) (by simp only[List.length_cons,List.length_nil];omega) (by rw[a5];exact hflm)
  simp only[List.set_cons_succ,List.set_cons_zero] at hst
  simp only[evC,seval,↓evP,rpC,t0,t1,t8,Int.reduceBEq,J0g,J36,J0n,c5,w1,bs28,a1,hst]
  refine hk _ _ _ _ _ _ _ _ (by simp only[Tr.get_put,if_true]) hp2 (tg _) (fun i hi=>nl _ .dead i hi h1' a7 a6) ?_ a5
  show h.next≤h1'.next;omega
end
structure WfS (s:StN):Prop where
 q:s.queues.length≤16
 v:s.vars.length≤16
 t:s.tags.length≤4
 u:s.rules.length≤64
 o:s.on.length=s.queues.length
 th:∀ t∈s.things,1≤t.kind∧t.kind≤4∧0≤t.num∧t.num<cntN s t.kind∧0≤t.known
theorem J3c (k:Int):0≤J0j k∧J0j k≤4:=by unfold J0j;(repeat' split) <;> omega
theorem Jcr (k:Int):0≤J1O k∧J1O k≤4:=by unfold J1O;(repeat' split) <;> omega
theorem J4g {l:List RowN} {k:Nat} {n:Int} {x:RowN} (hx:l[k]?=some x):(setN l k n)[k]?=some { x with n:=n }:=by
 unfold setN
 rw[hx]
 simp[(List.getElem?_eq_some_iff.1 hx).1]
theorem JdD {s:StN} (hw:WfS s) (k:Int):cntN s k≤64:=by
 have:=hw.q;have:=hw.v;have:=hw.t;have:=hw.u
 unfold cntN
 (repeat' split) <;> omega
section
variable {call:J0r} {N:Nat} {h:SHeap} {lo m k c e r n:Nat} {nm:ByteArray} {E:List Int} {F:List Nat} {tag:Nat→Nat} {vq vv vt vu vo:Value} {es:List (Value × Value)} {s:StN}
def MkE (h:SHeap) (lo m k c e r n:Nat) (nm:ByteArray) (E:List Int) (F:List Nat) (s:StN):Prop:=∃ tag vq vv vt vu vo es,MkP h lo m k c e r n nm E tag vq vv vt vu vo es s∧Many es s∧WfS s∧∀ i∈F,i<h.next∧11≤tag i
def J2W (h H:SHeap) (lo:Nat) (F:List Nat):Prop:=(∀ i,i<lo∨i∈F→H.get i=h.get i)∧h.next≤H.next∧H.floor=h.floor
theorem Jfl {s s':StN} {kd:Int} {es:List (Value × Value)} (hm:Many es s) (h1:cntN s' kd=cntN s kd+1) (h2:∀ k,1≤k→k≤4→k≠kd→cntN s' k=cntN s k):Many (J2h (iv kd) (iv ((cntN s kd:Int)+1)) es) s':=by
 refine⟨Jb0 _ _ _ hm.1,fun k k1 k4=>?_⟩
 rw[J5T _ _ _ _ hm.1]
 by_cases hk:k=kd
 ·subst hk
  rw[if_pos rfl,h1,if_neg (by omega)]
  rfl
 ·rw[if_neg hk,h2 k k1 k4 hk]
  exact hm.2 k k1 k4
theorem J9z {s:StN} {at_:Nat} {end_:Int} {x:RowN} {k:Int} (hk:1≤k∧k≤4):cntN (addN at_ end_ x s) k=cntN s k+(if k=J0j x.kind then 1 else 0):=by
 have hd:=J3c x.kind
 generalize hkd:J0j x.kind=kd at *
 unfold cntN addN
 rw[hkd]
 obtain rfl | rfl | rfl | rfl:k=1∨k=2∨k=3∨k=4:=by omega
 all_goals
  by_cases e:kd=1
  ·subst e;simp
  by_cases e2:kd=2
  ·subst e2;simp
  by_cases e3:kd=3
  ·subst e3;simp
  by_cases e4:kd=4
  ·subst e4;simp
  simp[e,e2,e3,e4,Ne.symm e,Ne.symm e2,Ne.symm e3,Ne.symm e4]
  try omega
theorem JcU {s:StN} {at_:Nat} {end_:Int} {x:RowN} (hw:WfS s) (hkd:J0j x.kind≠0) (hne:(cntN s (J0j x.kind):Int)≠J3g (J0j x.kind)) (he:0≤end_):WfS (addN at_ end_ x s):=by
 have hd:=J3c x.kind
 have hq:=hw.q;have hv:=hw.v;have ht:=hw.t;have hu:=hw.u;have ho:=hw.o
 have hth:=hw.th
 have hcnt:=fun k (hk:1≤k∧k≤4)=>J9z (s:=s) (at_:=at_) (end_:=end_) (x:=x) hk
 have key:∀ t∈(addN at_ end_ x s).things,1≤t.kind∧t.kind≤4∧0≤t.num∧t.num<cntN (addN at_ end_ x s) t.kind∧0≤t.known:=by
  intro t htm
  simp only[addN,List.mem_append,List.mem_cons,List.not_mem_nil,or_false] at htm
  rcases htm with htm | rfl
  ·obtain⟨a1,a2,a3,a4,a5⟩:=hth t htm
   rw[hcnt _ ⟨a1,a2⟩]
   exact⟨a1,a2,a3,by split <;> omega,a5⟩
  ·have hk1:1≤J0j x.kind:=by omega
   refine⟨hk1,hd.2,Int.natCast_nonneg _,?_,he⟩
   rw[hcnt _ ⟨hk1,hd.2⟩,if_pos rfl]
   simp only
   omega
 generalize hkd2:J0j x.kind=kd at *
 have e:∀ k,k=kd→1≤k→cntN s k≠(J3g k).toNat:=by
  intro k hk h1 h
  subst hk
  apply hne
  rw[h]
  unfold J3g
  (repeat' split) <;> rfl
 constructor
 ·simp only[addN,hkd2]
  split
  ·rename_i h1
   have:=e 1 h1.symm (by omega)
   simp[cntN,J3g] at this
   simp
   omega
  ·exact hq
 ·simp only[addN,hkd2]
  split
  ·rename_i h1
   have:=e 2 h1.symm (by omega)
   simp[cntN,J3g] at this
   simp
   omega
  ·exact hv
 ·simp only[addN,hkd2]
  split
  ·rename_i h1
   have:=e 3 h1.symm (by omega)
   simp[cntN,J3g] at this
   simp
   omega
  ·exact ht
 ·simp only[addN,hkd2]
  split
  ·rename_i h1
   have:=e 4 h1.symm (by omega)
   simp[cntN,J3g] at this
   simp
   omega
  ·exact hu
 ·simp only[addN,hkd2]
  split
  ·simp[ho]
  ·exact ho
 ·exact key
theorem Jcy (hsn:J1G call) {at_:Nat} {end_:Int} {x:RowN} (hp:MkE h lo m k c e r n nm E F s) (hx:s.rows[at_]?=some x) (hkind:1≤x.kind∧x.kind≤54) (hn:n<1099511627776) (he:0≤end_)
  (h79:∀ k h',1≤k∧k≤54→call 72 [iv k] h'=some (iv (J0j k),h')) (h80:∀ k h',call 73 [iv k] h'=some (iv (J3g k),h')) :
  ∃ h',J0L Tryz.prog call N 52 [qP m 0,iv at_,iv end_] h=some (iv (J25 x s),h')∧(J2W h h' lo F∧(J25 x s=0→MkE h' lo m k c e r n nm E F (J0W at_ end_ x s))):=by
 obtain⟨tag,vq,vv,vt,vu,vo,es,hp,hm,hw,hF⟩:=hp
 have hlF:∀ i,i<lo∨i∈F→i<lo∨(i<h.next∧11≤tag i):=fun i hi=>hi.imp id fun h=>hF i h
 have hll:∀ i,i<lo∨i∈F→i<h.next:=fun i hi=>by have:=hp.lm;have:=hlF i hi;omega
 refine J1N (R:=fun h'=>J2W h h' lo F∧(J25 x s=0→MkE h' lo m k c e r n nm E F (J0W at_ end_ x s))) Tryz.func52 rfl (by simp[Tryz.f52]) ?_
 have hr:Tryz.f52.results.toList=[.tmp 6]:=rfl
 generalize hKK:Kont.top (fun ex s_1=>(ex=SExit.normal∨ex=SExit.ret)∧∃ vs,resS Tryz.prog s_1 Tryz.f52.results.toList=some vs∧resV vs=iv (J25 x s)∧J2W h s_1.h lo F∧(J25 x s=0→MkE s_1.h lo m k c e r n nm E F (J0W at_ end_ x s)))=K
 have fin:∀ (T':Tr) H v,T'.get 6=iv v→v=J25 x s→J2W h H lo F→(v=0→MkE H lo m k c e r n nm E F (J0W at_ end_ x s))→K.ap Tryz.prog call N .ret ⟨T',H⟩:=fun T' H v h6 hv ha hb=>by
  subst hv
  rw[← hKK]
  simp only[evC,↓reduceIte,Nat.reduceEqDiff,reduceCtorEq,↓evP,rpC,Nat.reduceAdd,Nat.reduceLT,hr,h6]
  exact⟨ha,hb⟩
 show WK _ _ _ (.seq _ (.seq _ (.seq _ (.seq _ D5)))) _ _
 have hm1:=hp.c1
 obtain⟨hlt,l0,l1,l2,l3,l4,lr⟩:=hp.row hx
 have hd79:=fun h'=>h79 x.kind h' hkind
 have hdl:=J3c x.kind
 by_cases d0:J0j x.kind=0
 ·have dE:J25 x s=0:=by unfold J25;rw[if_pos d0]
  have dS:J0W at_ end_ x s=s:=by unfold J0W;rw[if_pos d0]
  have b0:(J0j x.kind==0)=true:=by simpa using d0
  simp only[evC,seval,↓evP,rpC,J0g,J0y,J0F,hm1,J4z hlt,J0t,l0,hd79,b0]
  exact fin _ _ 0 (by simp only[Tr.get_put,if_true]) dE.symm ⟨fun _ _=>rfl,Nat.le_refl _,rfl⟩ fun _=>by rw[dS];exact⟨tag,vq,vv,vt,vu,vo,es,hp,hm,hw,hF⟩
 ·have b0:(J0j x.kind==0)=false:=by simpa using d0
  simp only[evC,seval,↓evP,rpC,J0g,J0y,J0F,hm1,J4z hlt,J0t,l0,hd79,b0]
  have hlh:lo≤h.next:=by have:=hp.lm;omega
  refine Ji7 hsn hp hx (by simp only[evC,seval,↓evP,rpC]) (by simp only[evC,seval,↓evP,rpC]) (fun T' H hf h6 ho hn hf2=>?_) fun T' H hf hT ho hn1 hf2=>?_
  ·exact fin _ _ 31 h6 (by unfold J25;rw[if_neg d0,if_pos hf]) ⟨fun i hi=>ho i (hll i hi),hn,hf2⟩ fun h=>by cases h
  ·have hp1:MkP H lo m k c e r n nm E tag vq vv vt vu vo es s:=hp.mono hn1 hf2 (fun _ _=>rfl) fun i _ hi=>ho i hi
   have hE1:¬ (J30 s.things x.name).isSome=true:=by rw[hf];simp
   have cle:=JdD hw (J0j x.kind)
   refine JhW (end_:=end_) hsn hp1 hx hm (by omega) hdl.2 (by omega) (fun h'=>h80 _ h') hf (by rw[hT 0 (by decide)];simp only[evC,seval,↓evP,rpC]) (by rw[hT 2 (by decide)];simp only[evC,seval,↓evP,rpC]) (by rw[hT 7 (by decide)];simp only[evC,seval,↓evP,rpC]) (by rw[hT 8 (by decide)];simp only[evC,seval,↓evP,rpC]) (fun T2 hc h6=>?_) fun T2 H2 hc hT2 hp2 ho2 hn2 hf3=>?_
   ·exact fin _ _ 3 h6 (by unfold J25;rw[if_neg d0,if_neg hE1,if_pos hc]) ⟨fun i hi=>ho i (hll i hi),hn1,hf2⟩ fun h=>by cases h
   ·have hq:=hw.q;have hv:=hw.v;have ht:=hw.t;have hu:=hw.u;have ho':=hw.o
    refine Jfe hsn hp2 (at_:=at_) (x:={ x with n:=(cntN s (J0j x.kind):Int) }) (J4g hx) (by omega) hdl.2 ⟨by show s.queues.length<1000;omega,by show s.vars.length<1000;omega,by show s.tags.length<1000;omega,by show s.rules.length<1000;omega,by show s.on.length<1000;omega⟩ hn
     (by rw[hT2 0 (by decide),hT 0 (by decide)];simp only[evC,seval,↓evP,rpC]) (by rw[hT2 1 (by decide),hT 1 (by decide)];simp only[evC,seval,↓evP,rpC]) (by rw[hT2 7 (by decide),hT 7 (by decide)];simp only[evC,seval,↓evP,rpC]) (by rw[hT2 8 (by decide),hT 8 (by decide)];simp only[evC,seval,↓evP,rpC]) fun T3 H3 tag' vq' vv' vt' vu' vo' h6 hp3 htg ho3 hn3 hf4=>?_
    have hS:J0W at_ end_ x s=addN at_ end_ x s:=by unfold J0W;rw[if_neg d0]
    refine fin _ _ 0 h6 (by unfold J25;rw[if_neg d0,if_neg hE1,if_neg hc]) ⟨fun i hi=>by
     have h0:=hlF i hi
     rw[ho3 i (by omega),ho2 i (by omega),ho i (hll i hi)],by omega,by rw[hf4,hf3,hf2]⟩ fun _=>?_
    rw[hS]
    refine⟨tag',vq',vv',vt',vu',vo',_,hp3,Jfl hm ?_ ?_,JcU hw d0 hc he,fun i hi=>?_⟩
    ·exact(J9z ⟨by omega,hdl.2⟩).trans (by rw[if_pos rfl])
    ·intro k k1 k4 hk
     exact(J9z ⟨k1,k4⟩).trans (by rw[if_neg hk,Nat.add_zero])
    ·have h0:=hF i hi
     rw[htg i (by omega)]
     exact⟨by omega,h0.2⟩
end
end Go.Proofs.YtdejoodfeljmkaaGreatDoor
