/- Part 9 of what the claim leans on: 18 texts laid one behind another. -/
import Derived.Test.YtipekdhneagdbaaDoorNO8
namespace Go.Proofs.YtipekdhneagdbaaDoor
open Go Go.Sx
set_option maxRecDepth 100000
set_option linter.unusedSimpArgs false
set_option linter.unusedVariables false
set_option maxHeartbeats 64000000
theorem N8:BP Tryd.prog 135=some 3:=by kernel_rfl
theorem wF:FK Tryd.prog 135=some true:=by kernel_rfl
theorem pB:G_ Tryd.prog 135=some 24:=by kernel_rfl
theorem S_:DI Tryd.prog 135=some (.agg #[iv 0,iv 0,iv 0]):=by kernel_rfl
theorem wE:G6 Tryd.prog (match Tryd.prog.underlying 135 with | some (.struct fs)=>fs.toList | _=>[])=some [(0,1),(1,1),(2,1)]:=by kernel_rfl
abbrev PL (a b c:Int):Value:=.agg #[iv a,iv b,iv c]
theorem pJ {a b c:Int}:flat (PL a b c)=true:=rfl
theorem Bi {a b c:Int}:(PL a b c).cells=#[iv a,iv b,iv c]:=rfl
theorem Fu {a b:Int}:DR Tryd.prog 135 [(0,iv a),(1,iv b)]=some (PL a b 0):=by
 have h:=wE
 rw[Tryd.underlying135] at h
 simp only at h
 simp only[DR,S_,pJ,if_true,Tryd.underlying135,h]
 rfl
section
variable {id off:Nat} {h:AA}
theorem k_:BH Tryd.prog 135 (qP id off) 0=some (qP id off):=by simp[BH,Tryd.underlying135,CT,CI]
theorem UF:BH Tryd.prog 135 (qP id off) 1=some (qP id (off+1)):=by simp[BH,Tryd.underlying135,CT,CI]
theorem oU:BH Tryd.prog 135 (qP id off) 2=some (qP id (off+2)):=by simp[BH,Tryd.underlying135,CT,CI]
theorem Ja:EO Tryd.prog h 135 (qP id off)=CD 3 off (h.get id):=OC wF N8
theorem pC {n c i:Nat} (hi:i<n):CY Tryd.prog 133 (qS id n c) (iv (i:Int))=some (.pointer (some ⟨id,i*3,none⟩)):=by
 simp only[CY,Tryd.underlying133,N8,CI]
 rw[if_pos (by omega)]
 simp
theorem LH {a:Option Addr} {n c:Nat}:B_ Tryd.prog h 133 (.slice a n c)=some (iv (n:Int)):=by simp[B_,Tryd.underlying133]
theorem Hp {a b c:Int}:EA Tryd.prog h 133 1 [(0,PL a b c)]=some (qS h.next 1 1,h.push (.row [iv a,iv b,iv c] 135 false false)):=by
 simp[EA,Tryd.underlying133,N8,S_,flat,BO,EH,GU,ER,Go.Sx.lay]
theorem zF {n k:Nat} (hk:k≤n):G7 Tryd.prog h 133 (qS id n AG) none (some (iv (k:Int))) none=some (qS id k AG):=by
 simp only[G7,Tryd.underlying133,N8,if_true,F3]
 rw[if_pos (by omega)]
 simp
theorem WY {cs:List Value} {x:Int} {ty:TypeId} {g:Bool} (hg:h.get id=.row cs ty g false) (hi:off<cs.length) (hf:h.floor≤id):BW Tryd.prog h 3 (qP id off) (iv x)=some (h.put id (.row (cs.set off (iv x)) ty g false)):=by
 have hc:(iv x).cells=#[iv x]:=rfl
 have hsz:(some 1:Option Nat)=some (#[iv x]:Array Value).size:=rfl
 simp only[BW,hc,CT,GL,hg]
 rw[if_pos hsz,if_pos (by simp[one];omega),ZL hi]
noncomputable def Z3 (h:AA) (id:Nat) (a b c:Int):BB→Option AA
 | .row [_,_,_] ty g false=>if h.floor≤id then some (h.put id (.row [iv a,iv b,iv c] ty g false)) else none
 | _=>BW Tryd.prog h 135 (qP id 0) (PL a b c)
theorem Hy {a b c:Int}:BW Tryd.prog h 135 (qP id 0) (PL a b c)=Z3 h id a b c (h.get id):=by
 unfold Z3
 split
 ·rename_i x y z ty g hg
  split
  ·rename_i hf
   simp[BW,N8,GL,hg,hf,Go.Sx.lay,Value.cells,one]
  ·rename_i hf
   simp[BW,N8,GL,hg,hf,Value.cells,one]
 ·rfl
theorem t_ {a b c:Int} {x y z:Value} {ty:TypeId} {g:Bool}:Z3 h id a b c (.row [x,y,z] ty g false)=if h.floor≤id then some (h.put id (.row [iv a,iv b,iv c] ty g false)) else none:=rfl
end
def GN (f:CF):List Value:=[iv f.kind,iv (f.left:Int),iv (f.next:Int)]
def EL:List CF→List Value
 | []=>[]
 | f :: s=>EL s++GN f
theorem QJ:∀ s,(EL s).length=s.length*3
 | []=>rfl
 | f :: s=>by simp[EL,QJ s,GN];omega
theorem gS:∀ s,(EL s).all one=true
 | []=>rfl
 | f :: s=>by rw[EL,List.all_append,gS s];rfl
def JY (m:Nat) (h:AA) (v:Value) (s:List CF):Prop:=
 (s=[]∧v=Z0)∨∃ id ex,v=qS id s.length AG∧h.get id=.row (EL s++ex) 135 true false∧m≤id∧id<h.next
theorem JY.len {m:Nat} {h h':AA} {v:Value} {s:List CF} (hs:JY m h v s):B_ Tryd.prog h' 133 v=some (iv (s.length:Int)):=by
 rcases hs with⟨rfl,rfl⟩ | ⟨id,ex,rfl,_⟩
 ·exact LH
 ·exact LH
theorem JY.mono {m:Nat} {h h':AA} {v:Value} {s:List CF} (hs:JY m h v s) (hn:h.next≤h'.next) (hg:∀ i,m≤i→i<h.next→h'.get i=h.get i):JY m h' v s:=by
 rcases hs with h1 | ⟨id,ex,h1,h2,h3,h4⟩
 ·exact .inl h1
 ·exact .inr ⟨id,ex,h1,by rw[hg id h3 h4];exact h2,h3,by omega⟩
theorem JY.top {m:Nat} {h:AA} {v:Value} {f:CF} {s:List CF} (hs:JY m h v (f :: s)) :
  ∃ id ex,v=qS id (s.length+1) AG∧h.get id=.row (EL s++(GN f++ex)) 135 true false∧m≤id∧id<h.next:=by
 rcases hs with⟨h1,_⟩ | ⟨id,ex,h1,h2,h3,h4⟩
 ·cases h1
 ·exact⟨id,ex,h1,by rw[h2,EL,List.append_assoc],h3,h4⟩
theorem ZR {s:List CF} {f:CF} {ex:List Value} {ty:TypeId} {g ro:Bool}:AO (s.length*3) (.row (EL s++(GN f++ex)) ty g ro)=some (iv f.kind)∧AO (s.length*3+1) (.row (EL s++(GN f++ex)) ty g ro)=some (iv (f.left:Int)) ∧
  AO (s.length*3+2) (.row (EL s++(GN f++ex)) ty g ro)=some (iv (f.next:Int))∧CD 3 (s.length*3) (.row (EL s++(GN f++ex)) ty g ro)=some (PL f.kind f.left f.next):=by
 have hl:=QJ s
 refine⟨?_,?_,?_,?_⟩
 ·simp only[AO]
  rw[List.getElem?_append_right (by omega),show s.length*3-(EL s).length=0 by omega]
  rfl
 ·simp only[AO]
  rw[List.getElem?_append_right (by omega),show s.length*3+1-(EL s).length=1 by omega]
  rfl
 ·simp only[AO]
  rw[List.getElem?_append_right (by omega),show s.length*3+2-(EL s).length=2 by omega]
  rfl
 ·simp only[CD,D1]
  rw[List.drop_append_of_le_length (by omega),List.drop_of_length_le (by omega),List.nil_append]
  simp[GN]
theorem xG {s:List CF} {f:CF} {ex:List Value} {x:Nat}:(EL s++(GN f++ex)).set (s.length*3+2) (iv (x:Int))=EL s++(GN ⟨f.kind,f.left,x⟩++ex):=by
 have hl:=QJ s
 rw[List.set_append_right _ _ (by omega),show s.length*3+2-(EL s).length=2 by omega]
 rfl
theorem tV {s:List CF} {f:CF} {ex:List Value} {x:Nat}:(EL s++(GN f++ex)).set (s.length*3+1) (iv (x:Int))=EL s++(GN ⟨f.kind,x,f.next⟩++ex):=by
 have hl:=QJ s
 rw[List.set_append_right _ _ (by omega),show s.length*3+1-(EL s).length=1 by omega]
 rfl
theorem Jb {m:Nat} {h:AA} {v:Value} {s:List CF} {a b c:Int} {f:CF} (hf1:GN f=[iv a,iv b,iv c]) (hs:JY m h v s) (hf:h.floor≤m) (hm:m≤h.next) (hl:s.length<2932031007403) :
  ∃ v' h',C4 Tryd.prog (h.push (.row [iv a,iv b,iv c] 135 false false)) 133 v (qS h.next 1 1)=some (v',h')∧JY m h' v' (f :: s)∧h'.floor=h.floor∧h.next≤h'.next∧∀ i,i<m→h'.get i=h.get i:=by
 have hnew:(h.push (.row [iv a,iv b,iv c] 135 false false)).get h.next=.row [iv a,iv b,iv c] 135 false false:=BL
 have hold:∀ i,i<h.next→(h.push (.row [iv a,iv b,iv c] 135 false false)).get i=h.get i:=fun i hi=>AM hi
 have hfl1:(h.push (.row [iv a,iv b,iv c] 135 false false)).floor=h.floor:=rfl
 have hnx1:(h.push (.row [iv a,iv b,iv c] 135 false false)).next=h.next+1:=rfl
 generalize h.push (.row [iv a,iv b,iv c] 135 false false)=h1 at *
 have hsrc:CL h1 3 1 (qS h.next 1 1)=some [iv a,iv b,iv c]:=by simp[CL,hnew,D1]
 have hz:(Value.agg #[iv 0,iv 0,iv 0]).cells.size=3:=rfl
 have hone:([iv a,iv b,iv c]:List Value).all one=true:=rfl
 have hlen:=QJ s
 rcases hs with⟨rfl,rfl⟩ | ⟨id,ex,rfl,hg,hid,hidn⟩
 ·refine⟨qS h1.next 1 AG,h1.push (.row [iv a,iv b,iv c] 135 true false),?_,.inr ⟨h1.next,[],rfl,?_,by omega,by show h1.next<h1.next+1;omega⟩,hfl1,by show h.next≤h1.next+1;omega,fun i hi=>by rw[AM (by omega),hold i (by omega)]⟩
  ·have hu:(0:Nat)≠AG:=by unfold AG;omega
   have h0:CL h1 3 0 (Z0)=some []:=rfl
   simp only[C4,Tryd.underlying133,N8,pB,S_,hz,hsrc,hone,hu,h0,show (0<3)=True by simp,decide_true,beq_self_eq_true,Bool.and_self,if_true,if_false,Nat.le_refl,Nat.zero_add,Nat.zero_mul,show (1≤0)=False by simp,Nat.zero_le,List.nil_append,Nat.one_mul,show (24≤140737488355328)=True by simp,show (1≤140737488355328)=True by simp]
  ·rw[BL,List.append_nil,EL,hf1]
   rfl
 ·have e1:(s.length+1)*24≤140737488355328:=by omega
  have e2:s.length+1≤140737488355328:=by omega
  have e3:h1.floor≤id:=by omega
  have e4:s.length≤AG:=by unfold AG;omega
  have hg1:h1.get id=.row (EL s++ex) 135 true false:=by rw[hold id hidn];exact hg
  have hcut:D1 (EL s++ex) 0 (s.length*3)=some (EL s):=by
   simp only[D1,List.drop_zero]
   rw[List.take_append_of_le_length (by omega),List.take_of_length_le (by omega),if_pos hlen]
  refine⟨qS h1.next (s.length+1) AG,(h1.put id .dead).push (.row (EL s++[iv a,iv b,iv c]) 135 true false),?_,.inr ⟨h1.next,[],rfl,?_,by omega,by show h1.next<h1.next+1;omega⟩,hfl1,by show h.next≤h1.next+1;omega,fun i hi=>?_⟩
  ·simp only[C4,Tryd.underlying133,N8,pB,S_,hz,hsrc,hone,e1,e2,e3,e4,hg1,hcut,gS,decide_true,Bool.and_self,beq_self_eq_true,show (0<3)=True by simp,if_true,Nat.one_ne_zero,if_false]
  ·rw[List.append_nil,EL,hf1]
   exact BL
  ·rw[AM (by show i<h1.next;omega),AQ (by omega) (by omega),hold i (by omega)]
structure FF where
 name:ByteArray
 kind:Int
 num:Int
 known:Int
structure AN where
 rows:List AB
 queues:List (ByteArray × Bool)
 vars:List ByteArray
 tags:List ByteArray
 rules:List Int
 on:List Int
 miss:Int
 things:List FF
def EM (l:List FF) (x:ByteArray):Option FF:=l.find? fun t=>x==t.name
def BA (s:AN) (k:Int):Nat:=if k=1 then s.queues.length else if k=2 then s.vars.length else if k=3 then s.tags.length else s.rules.length
def GA (k:Int):Int:=if k=1 then 16 else if k=2 then 16 else if k=3 then 4 else 64
def E9 (l:List AB) (at_:Nat) (n:Int):List AB:=match l[at_]? with
 | some x=>l.set at_ { x with n:=n }
 | none=>l
def DJ (at_:Nat) (end_:Int) (x:AB) (s:AN):AN:=
 let k:=BJ x.kind
 { rows:=E9 s.rows at_ (BA s k)
   queues:=if k=1 then s.queues++[(x.name,x.kind==3)] else s.queues
   vars:=if k=2 then s.vars++[x.name] else s.vars
   tags:=if k=3 then s.tags++[x.name] else s.tags
   rules:=if k=4 then s.rules++[(at_:Int)+1] else s.rules
   on:=if k=1 then s.on++[-1] else s.on
   miss:=s.miss
   things:=s.things++[⟨x.name,k,BA s k,end_⟩] }
def C1 (x:AB) (s:AN):Int:=
 if BJ x.kind=0 then 0 else if (EM s.things x.name).isSome=true then 31 else if (BA s (BJ x.kind):Int)=GA (BJ x.kind) then 3 else 0
def BD (at_:Nat) (end_:Int) (x:AB) (s:AN):AN:=if BJ x.kind=0 then s else DJ at_ end_ x s
def CA (at_:Nat) (x:AB) (s:AN):Int:=
 if C8 x.kind=0 then 0 else match EM s.things x.name with
  | none=>32
  | some t=>if t.known>at_ then 32 else if t.kind≠C8 x.kind then 33 else 0
def BM (at_:Nat) (x:AB) (s:AN):AN:=
 if C8 x.kind=0 then s else match EM s.things x.name with
  | none=>s
  | some t=>{ s with rows:=E9 s.rows at_ t.num }
def CH (x:AB) (s:AN):Int:=
 if DU x.kind=false then 0 else if x.kind=10 then (if s.miss≥0 then 31 else 0) else match s.on[x.n.toNat]? with
  | some v=>if v≥0 then 31 else 0
  | none=>0
def CQ (at_:Nat) (x:AB) (s:AN):AN:=
 if DU x.kind=false then s else if x.kind=10 then { s with miss:=(at_:Int)+1 } else { s with on:=s.on.set x.n.toNat ((at_:Int)+1) }
def GP (l:List (ByteArray × Bool)):List Value:=l.flatMap fun q=>[.string q.1,.bool q.2]
def CZ (l:List ByteArray):List Value:=l.map (.string ·)
def I1 (t:FF):Value × Value:=(.string t.name,.agg #[iv t.kind,iv t.num,iv t.known])
theorem NA:∀ l,(GP l).length=l.length*2
 | []=>rfl
 | q :: l=>by
  have:=NA l
  simp only[GP,List.flatMap_cons,List.length_append,List.length_cons,List.length_nil] at *
  omega
theorem b_:∀ l,(GP l).all one=true
 | []=>rfl
 | q :: l=>by
  have:=b_ l
  simp only[GP,List.flatMap_cons,List.all_append] at *
  rw[this]
  rfl
theorem WV (l:List ByteArray):(CZ l).all one=true:=by simp[CZ,one]
theorem QH (l:List ByteArray):(CZ l).length=l.length:=by simp[CZ]
theorem H9:∀ l:List AB,(l.flatMap AP).length=l.length*5
 | []=>rfl
 | r :: l=>by
  have:=H9 l
  rw[List.flatMap_cons,List.length_append,this]
  simp only[AP,List.length_cons,List.length_nil]
  omega
theorem TK:∀ (l:List AB) (k:Nat),(l.flatMap AP).drop (k*5)=(l.drop k).flatMap AP
 | l,0=>by simp
 | [],k+1=>by simp
 | r :: l,k+1=>by
  rw[List.flatMap_cons,List.drop_succ_cons,← TK l k,show (k+1)*5=5+k*5 by omega,← List.drop_drop]
  rfl
theorem MT {l:List AB} {k:Nat} {r:AB} (h:l[k]?=some r):((l.flatMap AP).drop (k*5)).take 5=AP r:=by
 obtain⟨hl,rfl⟩:=List.getElem?_eq_some_iff.1 h
 rw[TK,List.drop_eq_getElem_cons hl,List.flatMap_cons]
 rfl
theorem XI {h:AA} {r:Nat} {l:List AB} {c:Nat} (hg:h.get r=.row (l.flatMap AP) 46 true false) (hr:r<h.next):AL h (qS r l.length c) l:=
 ⟨_,_,rfl,.inr ⟨r,0,_,_,_,_,rfl,hg,hr,fun k x hx=>by rw[Nat.zero_add];exact MT hx⟩⟩
theorem RR {l:List AB} {k:Nat} {x:AB} {n:Int} (hx:l[k]?=some x):(l.flatMap AP).set (k*5+3) (iv n)=(E9 l k n).flatMap AP:=by
 unfold E9
 rw[hx]
 obtain⟨hl,rfl⟩:=List.getElem?_eq_some_iff.1 hx
 simp only
 clear hx
 induction l generalizing k with
 | nil=>simp at hl
 | cons a l ih=>
  cases k with
  | zero=>rfl
  | succ k=>
   simp only[List.length_cons,Nat.add_lt_add_iff_right] at hl
   have:=ih hl
   rw[List.flatMap_cons,List.set_cons_succ,List.flatMap_cons,List.getElem_cons_succ,← this]
   rw[List.set_append_right _ _ (by simp[AP];omega)]
   congr 2
   simp only[AP,List.length_cons,List.length_nil]
   omega
theorem QX {l:List AB} {k:Nat} {n:Int}:(E9 l k n).length=l.length:=by
 unfold E9
 split
 ·simp
 ·rfl
def DQ (h:AA) (lo:Nat) (tag:Nat→Nat) (j:Nat) (v:Value) (n:Nat) (cs:List Value) (ty:TypeId):Prop:=
 (n=0∧cs=[]∧v=Z0)∨∃ id ex,v=qS id n AG∧h.get id=.row (cs++ex) ty true false∧lo≤id∧id<h.next∧tag id=j
theorem DQ.mono {h h':AA} {lo:Nat} {tag tag':Nat→Nat} {j:Nat} {v:Value} {n:Nat} {cs:List Value} {ty:TypeId} (hs:DQ h lo tag j v n cs ty) (hn:h.next≤h'.next) (ht:∀ i,i<h.next→tag' i=tag i)
  (hg:∀ i,lo≤i→i<h.next→tag i=j→h'.get i=h.get i):DQ h' lo tag' j v n cs ty:=by
 rcases hs with h1 | ⟨id,ex,h1,h2,h3,h4,h5⟩
 ·exact .inl h1
 ·exact .inr ⟨id,ex,h1,by rw[hg id h3 h4 h5];exact h2,h3,by omega,by rw[ht id h4];exact h5⟩
theorem DQ.mono' {h:AA} {lo:Nat} {tag tag':Nat→Nat} {j:Nat} {v:Value} {n:Nat} {cs:List Value} {ty:TypeId} (hs:DQ h lo tag j v n cs ty) (ht:∀ i,i<h.next→tag' i=tag i∨tag i≠j):DQ h lo tag' j v n cs ty:=by
 rcases hs with h1 | ⟨id,ex,h1,h2,h3,h4,h5⟩
 ·exact .inl h1
 ·refine .inr ⟨id,ex,h1,h2,h3,h4,?_⟩
  rcases ht id h4 with h | h
  ·rw[h];exact h5
  ·exact absurd h5 h
theorem QR {h:AA} {lo:Nat} {tag:Nat→Nat} {j:Nat} {ty:TypeId}:DQ h lo tag j (Z0) 0 [] ty:=.inl ⟨rfl,rfl,rfl⟩
theorem OH {t et:TypeId} {w bb:Nat} {z:Value} (hu:Tryd.prog.underlying t=some (.slice et)) (hsz:BP Tryd.prog et=some w) (hby:G_ Tryd.prog et=some bb) (hzo:DI Tryd.prog et=some z) (hz:z.cells.size=w) (hw:0<w) (hbb:bb≤48)
  {lo:Nat} {h:AA} {tag:Nat→Nat} {j:Nat} {v:Value} {n:Nat} {cs xs:List Value} {c:Nat} (hs:DQ h lo tag j v n cs et) (hcl:cs.length=n*w) (hco:cs.all one=true) (hxl:xs.length=c*w) (hxo:xs.all one=true) (hc:0<c) (hcb:c<2) (hnb:n<2932031007402)
  {src:Nat} {g ro:Bool} {sc:Nat} (hsrc:h.get src=.row xs et g ro) (hsl:src<h.next) (hfl:h.floor≤lo) (hts:¬ (lo≤src∧tag src=j)) :
  ∃ v' h',C4 Tryd.prog h t v (qS src c sc)=some (v',h')∧(DQ h' lo (fun i=>if i=h.next then j else tag i) j v' (n+c) (cs++xs) et∨¬ lo≤h.next)∧h'.floor=h.floor∧h'.next=h.next+1∧one v'=true∧v'.cells=#[v']∧∀ i,i<h.next→¬ (lo≤i∧tag i=j)→h'.get i=h.get i:=by
 have hsc:CL h w c (qS src c sc)=some xs:=by
  have hc0:c≠0:=by omega
  simp[CL,hsrc,D1,hc0,hxl]
  rw[List.take_of_length_le (by omega)]
 have hbz:∀ m,m<2932031007403→m*bb≤140737488355328:=fun m hm=>by
  have h1:m*bb≤m*48:=Nat.mul_le_mul_left m hbb
  omega
 rcases hs with⟨rfl,rfl,rfl⟩ | ⟨id,ex,rfl,hg,hid,hidn,htid⟩
 ·refine⟨qS h.next c AG,h.push (.row xs et true false),?_,?_,rfl,rfl,rfl,rfl,fun i hi _=>AM hi⟩
  ·have hunk:(0:Nat)≠AG:=by unfold AG;omega
   have h0:CL h w 0 (Z0)=some []:=by simp[CL]
   have e1:¬ (c≤0):=by omega
   have e2:c*bb≤140737488355328:=hbz c (by omega)
   have e3:c≤140737488355328:=by omega
   simp only[C4,hu,hsz,hby,hzo,hz,hsc,hxo,hunk,h0,hw,e1,e2,e3,decide_true,beq_self_eq_true,Bool.and_self,if_true,if_false,Nat.le_refl,Nat.zero_add,Nat.zero_mul,Nat.zero_le,List.nil_append]
  ·by_cases hl:lo≤h.next
   ·refine .inl (.inr ⟨h.next,[],by rw[Nat.zero_add],?_,hl,by show h.next<h.next+1;omega,by simp⟩)
    rw[BL,List.append_nil,List.nil_append]
   ·exact .inr hl
 ·have e1:(n+c)*bb≤140737488355328:=hbz _ (by omega)
  have e2:n+c≤140737488355328:=by omega
  have e3:h.floor≤id:=by omega
  have e4:n≤AG:=by unfold AG;omega
  have e5:c≠0:=by omega
  have hcut:D1 (cs++ex) 0 (n*w)=some cs:=by
   simp only[D1,List.drop_zero]
   rw[List.take_append_of_le_length (by omega),List.take_of_length_le (by omega),if_pos hcl]
  refine⟨qS h.next (n+c) AG,(h.put id .dead).push (.row (cs++xs) et true false),?_,.inl (.inr ⟨h.next,[],rfl,?_,by omega,by show h.next<h.next+1;omega,by simp⟩),rfl,rfl,rfl,rfl,fun i hi hne=>?_⟩
  ·simp only[C4,hu,hsz,hby,hzo,hz,hsc,hxo,e1,e2,e3,e4,hg,hcut,hco,decide_true,Bool.and_self,beq_self_eq_true,hw,if_true,e5,if_false]
  ·rw[List.append_nil]
   exact BL
  ·rw[AM (by exact hi),AQ (by omega) (fun e=>hne (by subst e;exact⟨hid,htid⟩))]
structure JL (h:AA) (lo:Nat) (tag:Nat→Nat) (r n:Nat) (vq vv vt vu vo:Value) (s:AN):Prop where
 rows:h.get r=.row (s.rows.flatMap AP) 46 true false
 len:s.rows.length=n
 tr:tag r=1
 lr:lo≤r∧r<h.next
 q:DQ h lo tag 2 vq s.queues.length (GP s.queues) 57
 v:DQ h lo tag 3 vv s.vars.length (CZ s.vars) 9
 t:DQ h lo tag 4 vt s.tags.length (CZ s.tags) 9
 u:DQ h lo tag 5 vu s.rules.length (ints s.rules) 3
 o:DQ h lo tag 6 vo s.on.length (ints s.on) 3
theorem JL.mono {h h':AA} {lo:Nat} {tag tag':Nat→Nat} {r n:Nat} {vq vv vt vu vo:Value} {s:AN} (hp:JL h lo tag r n vq vv vt vu vo s) (hn:h.next≤h'.next) (ht:∀ i,i<h.next→tag' i=tag i)
  (hg:∀ i,lo≤i→i<h.next→1≤tag i→tag i≤6→h'.get i=h.get i):JL h' lo tag' r n vq vv vt vu vo s where
 rows:=by rw[hg r hp.lr.1 hp.lr.2 (by rw[hp.tr];omega) (by rw[hp.tr];omega)];exact hp.rows
 len:=hp.len
 tr:=by rw[ht r hp.lr.2];exact hp.tr
 lr:=⟨hp.lr.1,by have:=hp.lr.2;omega⟩
 q:=hp.q.mono hn ht fun i h1 h2 h3=>hg i h1 h2 (by omega) (by omega)
 v:=hp.v.mono hn ht fun i h1 h2 h3=>hg i h1 h2 (by omega) (by omega)
 t:=hp.t.mono hn ht fun i h1 h2 h3=>hg i h1 h2 (by omega) (by omega)
 u:=hp.u.mono hn ht fun i h1 h2 h3=>hg i h1 h2 (by omega) (by omega)
 o:=hp.o.mono hn ht fun i h1 h2 h3=>hg i h1 h2 (by omega) (by omega)
theorem JL.at {h:AA} {lo:Nat} {tag:Nat→Nat} {r n:Nat} {vq vv vt vu vo:Value} {s:AN} (hp:JL h lo tag r n vq vv vt vu vo s):AL h (qS r n AG) s.rows:=by
 have:=XI (c:=AG) hp.rows hp.lr.2
 rw[hp.len] at this
 exact this
theorem Z4:∀ (l:List FF) (x:ByteArray),I5 (.string x) (l.map I1)=some ((EM l x).map fun t=>.agg #[iv t.kind,iv t.num,iv t.known])
 | [],x=>rfl
 | t :: l,x=>by
  simp only[List.map_cons,I5,I1,IM,EM,List.find?_cons]
  cases hb:(x==t.name) with
  | true=>rfl
  | false=>exact Z4 l x
theorem mZ:∀ (l:List FF) (x:ByteArray) (v:Value),EM l x=none→F5 (.string x) v (l.map I1)=l.map I1++[(.string x,v)]
 | [],x,v,_=>rfl
 | t :: l,x,v,hf=>by
  simp only[EM,List.find?_cons] at hf
  cases hb:(x==t.name) with
  | true=>rw[hb] at hf;cases hf
  | false=>
   rw[hb] at hf
   have:=mZ l x v hf
   simp only[List.map_cons,I1,F5,IM,hb,Option.some.injEq,Bool.false_eq_true,if_false,List.cons_append]
   rw[← this]
def UZ (es:List (Value × Value)):Prop:=∀ p∈es,∃ j:Int,p.1=iv j
theorem kH:∀ (es:List (Value × Value)) (k k':Int) (v:Value),UZ es→I5 (iv k) (F5 (iv k') v es)=if k=k' then some (some v) else I5 (iv k) es
 | [],k,k',v,_=>by
  simp only[F5,I5,IM,if_true]
  by_cases hk:k=k'
  ·subst hk;simp
  ·have:(k==k')=false:=by simpa using hk
   rw[this,if_neg hk]
 | (x,u) :: es,k,k',v,hi=>by
  obtain⟨j,hj⟩:=hi (x,u) (by simp)
  simp only at hj
  subst hj
  have ih:=kH es k k' v fun p hp=>hi p (by simp[hp])
  simp only[F5,IM,if_true,Option.some.injEq,beq_iff_eq]
  by_cases hkj:k'=j
  ·subst hkj
   rw[if_pos rfl]
   simp only[I5,IM,if_true]
   by_cases hk:k=k'
   ·subst hk;simp
   ·have:(k==k')=false:=by simpa using hk
    rw[this,if_neg hk]
  ·rw[if_neg hkj]
   simp only[I5,IM,if_true]
   cases hb:(k==j) with
   | true=>
    have:k=j:=by simpa using hb
    subst this
    rw[if_neg (fun e=>hkj e.symm)]
   | false=>exact ih
theorem oP:∀ (es:List (Value × Value)) (k:Int) (v:Value),UZ es→UZ (F5 (iv k) v es)
 | [],k,v,_=>by intro p hp;simp[F5] at hp;exact⟨k,by rw[hp]⟩
 | (x,u) :: es,k,v,hi=>by
  have ih:=oP es k v fun p hp=>hi p (by simp[hp])
  intro p hp
  simp only[F5] at hp
  split at hp
  ·simp only[List.mem_cons] at hp
   rcases hp with rfl | hp
   ·exact⟨k,rfl⟩
   ·exact hi p (by simp[hp])
  ·simp only[List.mem_cons] at hp
   rcases hp with rfl | hp
   ·exact hi _ (by simp)
   ·exact ih p hp
def QT (es:List (Value × Value)) (s:AN):Prop:=UZ es∧∀ k:Int,1≤k→k≤4→I5 (iv k) es=some (if BA s k=0 then none else some (iv (BA s k:Int)))
theorem m6:BP Tryd.prog 22=some 1:=by kernel_rfl
theorem YU:BP Tryd.prog 26=some 1:=by kernel_rfl
theorem Q_:BP Tryd.prog 27=some 1:=by kernel_rfl
theorem MB:BP Tryd.prog 28=some 1:=by kernel_rfl
theorem HR:BP Tryd.prog 30=some 8:=by kernel_rfl
theorem L4:BP Tryd.prog 57=some 2:=by kernel_rfl
theorem sN:BP Tryd.prog 79=some 1:=by kernel_rfl
theorem Ic:BP Tryd.prog 80=some 1:=by kernel_rfl
theorem pZ:BP Tryd.prog 81=some 1:=by kernel_rfl
theorem Ed:BP Tryd.prog 83=some 10:=by kernel_rfl
theorem jV:BP Tryd.prog 114=some 2:=by kernel_rfl
theorem eB:BP Tryd.prog 116=some 3:=by kernel_rfl
theorem qC:FK Tryd.prog 22=some false:=by kernel_rfl
theorem zZ:FK Tryd.prog 26=some false:=by kernel_rfl
theorem vK:FK Tryd.prog 27=some false:=by kernel_rfl
theorem xT:FK Tryd.prog 28=some false:=by kernel_rfl
theorem vN:FK Tryd.prog 30=some true:=by kernel_rfl
theorem uZ:FK Tryd.prog 79=some false:=by kernel_rfl
theorem r_:FK Tryd.prog 80=some false:=by kernel_rfl
theorem Dv:FK Tryd.prog 81=some false:=by kernel_rfl
theorem xR:FK Tryd.prog 114=some true:=by kernel_rfl
theorem NS:G_ Tryd.prog 9=some 16:=by kernel_rfl
theorem QC:G_ Tryd.prog 46=some 48:=by kernel_rfl
theorem VV:G_ Tryd.prog 57=some 24:=by kernel_rfl
theorem MA:DI Tryd.prog 9=some (.string ByteArray.empty):=by kernel_rfl
theorem NP:DI Tryd.prog 57=some (.agg #[.string ByteArray.empty,.bool false]):=by kernel_rfl
theorem RO:DI Tryd.prog 116=some (.agg #[iv 0,iv 0,iv 0]):=by kernel_rfl
theorem Bc:DI Tryd.prog 114=some (.agg #[iv 0,iv 0]):=by kernel_rfl
theorem xK:DI Tryd.prog 30=some (.agg #[.string ByteArray.empty,Z0,Z0,Z0,Z0,Z0,Z0,iv 0]):=by kernel_rfl
section
variable {h:AA} {id off:Nat}
theorem C0:EO Tryd.prog h 22 (qP id off)=AO off (h.get id):=KJ qC
theorem FP:EO Tryd.prog h 26 (qP id off)=AO off (h.get id):=KJ zZ
theorem EJ:EO Tryd.prog h 27 (qP id off)=AO off (h.get id):=KJ vK
theorem C3:EO Tryd.prog h 28 (qP id off)=AO off (h.get id):=KJ xT
theorem RZ:EO Tryd.prog h 79 (qP id off)=AO off (h.get id):=KJ uZ
theorem YZ:EO Tryd.prog h 80 (qP id off)=AO off (h.get id):=KJ r_
theorem gT:EO Tryd.prog h 81 (qP id off)=AO off (h.get id):=KJ Dv
theorem IW:EO Tryd.prog h 30 (qP id off)=CD 8 off (h.get id):=OC vN HR
theorem mC:EO Tryd.prog h 114 (qP id off)=CD 2 off (h.get id):=OC xR jV
theorem H8:BH Tryd.prog 83 (qP id off) 0=some (qP id off):=by simp[BH,Tryd.underlying83,HR,CI]
theorem cF:BH Tryd.prog 83 (qP id off) 1=some (qP id (off+8)):=by simp[BH,Tryd.underlying83,Ic,CI]
theorem lN:BH Tryd.prog 83 (qP id off) 2=some (qP id (off+9)):=by simp[BH,Tryd.underlying83,pZ,CI]
theorem JH:BH Tryd.prog 30 (qP id off) 0=some (qP id off):=by simp[BH,Tryd.underlying30,HC,CI]
theorem DA:BH Tryd.prog 30 (qP id off) 1=some (qP id (off+1)):=by simp[BH,Tryd.underlying30,m6,CI]
theorem FL:BH Tryd.prog 30 (qP id off) 2=some (qP id (off+2)):=by simp[BH,Tryd.underlying30,YU,CI]
theorem GF:BH Tryd.prog 30 (qP id off) 3=some (qP id (off+3)):=by simp[BH,Tryd.underlying30,Q_,CI]
theorem GG:BH Tryd.prog 30 (qP id off) 4=some (qP id (off+4)):=by simp[BH,Tryd.underlying30,Q_,CI]
theorem F0:BH Tryd.prog 30 (qP id off) 5=some (qP id (off+5)):=by simp[BH,Tryd.underlying30,MB,CI]
theorem FZ:BH Tryd.prog 30 (qP id off) 6=some (qP id (off+6)):=by simp[BH,Tryd.underlying30,MB,CI]
theorem HK:BH Tryd.prog 30 (qP id off) 7=some (qP id (off+7)):=by simp[BH,Tryd.underlying30,CT,CI]
theorem fE:BH Tryd.prog 116 (qP id off) 0=some (qP id off):=by simp[BH,Tryd.underlying116,jV,CI]
theorem aA:BH Tryd.prog 116 (qP id off) 1=some (qP id (off+2)):=by simp[BH,Tryd.underlying116,CT,CI]
theorem jZ:BH Tryd.prog 114 (qP id off) 1=some (qP id (off+1)):=by simp[BH,Tryd.underlying114,CT,CI]
theorem Em:BH Tryd.prog 57 (qP id off) 0=some (qP id off):=by simp[BH,Tryd.underlying57,HC,CI]
theorem HB {n c i:Nat} (hi:i<n):CY Tryd.prog 22 (qS id n c) (iv (i:Int))=some (.pointer (some ⟨id,i*5,none⟩)):=by
 simp only[CY,Tryd.underlying22,FX,CI]
 rw[if_pos (by omega)]
 simp
theorem Hh {a:Option Addr} {n c:Nat}:B_ Tryd.prog h 26 (.slice a n c)=some (iv (n:Int)):=by simp[B_,Tryd.underlying26]
theorem Jm {a:Option Addr} {n c:Nat}:B_ Tryd.prog h 27 (.slice a n c)=some (iv (n:Int)):=by simp[B_,Tryd.underlying27]
theorem rH {a:Option Addr} {n c:Nat}:B_ Tryd.prog h 28 (.slice a n c)=some (iv (n:Int)):=by simp[B_,Tryd.underlying28]
theorem G1 {t:TypeId} {v:Value} {cs:List Value} {ty:TypeId} {g:Bool} (ht:BP Tryd.prog t=some 1) (hv:v.cells=#[v]) (ho:one v=true) (hg:h.get id=.row cs ty g false) (hi:off<cs.length) (hf:h.floor≤id):BW Tryd.prog h t (qP id off) v=some (h.put id (.row (cs.set off v) ty g false)):=by
 have hsz:(some 1:Option Nat)=some (#[v]:Array Value).size:=rfl
 simp only[BW,hv,ht,GL,hg]
 rw[if_pos hsz,if_pos (by simp[ho];omega),ZL hi]
end
theorem kG:G6 Tryd.prog (match Tryd.prog.underlying 57 with | some (.struct fs)=>fs.toList | _=>[])=some [(0,1),(1,1)]:=by kernel_rfl
theorem Hf:G6 Tryd.prog (match Tryd.prog.underlying 114 with | some (.struct fs)=>fs.toList | _=>[])=some [(0,1),(1,1)]:=by kernel_rfl
theorem tT:G6 Tryd.prog (match Tryd.prog.underlying 116 with | some (.struct fs)=>fs.toList | _=>[])=some [(0,2),(2,1)]:=by kernel_rfl
theorem ZX {a b:Value}:flat (.agg #[a,b])=(BO a&&(BO b&&true)):=by simp[flat]
theorem jF {a b c:Value}:flat (.agg #[a,b,c])=(BO a&&(BO b&&(BO c&&true))):=by simp[flat]
theorem bN {nm:ByteArray} {g:Bool}:DR Tryd.prog 57 [(0,.string nm),(1,.bool g)]=some (.agg #[.string nm,.bool g]):=by
 have h:=kG
 rw[Tryd.underlying57] at h
 simp only at h
 simp only[DR,NP,ZX,cW,mW,Bool.and_self,if_true,Tryd.underlying57,h]
 rfl
theorem aG {a b:Int}:DR Tryd.prog 114 [(0,iv a),(1,iv b)]=some (.agg #[iv a,iv b]):=by
 have h:=Hf
 rw[Tryd.underlying114] at h
 simp only at h
 simp only[DR,Bc,ZX,PJ,Bool.and_self,if_true,Tryd.underlying114,h]
 rfl
theorem Ek {a b c:Int}:DR Tryd.prog 116 [(0,.agg #[iv a,iv b]),(1,iv c)]=some (.agg #[iv a,iv b,iv c]):=by
 have h:=tT
 rw[Tryd.underlying116] at h
 simp only at h
 simp only[DR,RO,jF,PJ,Bool.and_self,if_true,Tryd.underlying116,h]
 rfl
section
variable {h:AA}
theorem o7 {nm:ByteArray} {g:Bool}:EA Tryd.prog h 26 1 [(0,.agg #[.string nm,.bool g])]=some (qS h.next 1 1,h.push (.row [.string nm,.bool g] 57 false false)):=by
 simp[EA,Tryd.underlying26,L4,NP,flat,BO,EH,GU,ER,Go.Sx.lay]
theorem UV {nm:ByteArray}:EA Tryd.prog h 27 1 [(0,.string nm)]=some (qS h.next 1 1,h.push (.row [.string nm] 9 false false)):=by
 have hc:∀ x,(Value.string x).cells=#[.string x]:=fun _=>rfl
 simp[EA,Tryd.underlying27,HC,MA,flat,BO,hc,GU,ER,Go.Sx.lay]
theorem RF {x:Int}:EA Tryd.prog h 28 1 [(0,iv x)]=some (qS h.next 1 1,h.push (.row [iv x] 3 false false)):=by
 have hc:∀ x:Int,(iv x).cells=#[iv x]:=fun _=>rfl
 simp[EA,Tryd.underlying28,CT,I3,flat,BO,hc,GU,ER,Go.Sx.lay]
theorem eA {k:Nat} {l:List FF} {x:ByteArray} (hg:h.get k=.map (l.map I1)):NV Tryd.prog h 80 (.map (some k)) (.string x) true=some (match EM l x with
  | some t=>.tuple #[.agg #[iv t.kind,iv t.num,iv t.known],.bool true]
  | none=>.tuple #[.agg #[iv 0,iv 0,iv 0],.bool false]):=by
 have hk:KS Tryd.prog 9 (.string x)=true:=by simp[KS,Tryd.underlying9]
 simp only[NV,Tryd.underlying80,hk,hg,Z4,if_true]
 cases EM l x with
 | some t=>rfl
 | none=>
  simp only[Option.map_none,RO,jF,PJ,Bool.and_self,if_true]
theorem vG {k:Nat} {l:List FF} {x:ByteArray} {a b c:Int} (hg:h.get k=.map (l.map I1)) (hf:EM l x=none) (hfl:h.floor≤k):KY Tryd.prog h 80 (.map (some k)) (.string x) (.agg #[iv a,iv b,iv c])=some (h.put k (.map ((l++[(⟨x,a,b,c⟩:FF)]).map I1))):=by
 have hk:KS Tryd.prog 9 (.string x)=true:=by simp[KS,Tryd.underlying9]
 simp only[KY,Tryd.underlying80,hk,hg,Z4,decide_eq_true hfl,Bool.and_self,if_true,mZ _ _ _ hf,List.map_append,List.map_cons,List.map_nil,I1]
theorem Ip {c:Nat} {es:List (Value × Value)} {s:AN} {k:Int} (hg:h.get c=.map es) (hm:QT es s) (h1:1≤k) (h4:k≤4):NV Tryd.prog h 81 (.map (some c)) (iv k) false=some (iv (BA s k:Int)):=by
 have hk:KS Tryd.prog 3 (iv k)=true:=by simp[KS,Tryd.underlying3]
 simp only[NV,Tryd.underlying81,hk,hg,hm.2 k h1 h4,if_true]
 by_cases h0:BA s k=0
 ·rw[if_pos h0,h0]
  simp only[I3,U5,if_true,Bool.false_eq_true,if_false]
  rfl
 ·rw[if_neg h0]
  simp only[Bool.false_eq_true,if_false]
theorem qT {c:Nat} {es:List (Value × Value)} {s:AN} {k:Int} {v:Value} (hg:h.get c=.map es) (hm:QT es s) (h1:1≤k) (h4:k≤4) (hfl:h.floor≤c):KY Tryd.prog h 81 (.map (some c)) (iv k) v=some (h.put c (.map (F5 (iv k) v es))):=by
 have hk:KS Tryd.prog 3 (iv k)=true:=by simp[KS,Tryd.underlying3]
 simp only[KY,Tryd.underlying81,hk,hg,hm.2 k h1 h4,decide_eq_true hfl,Bool.and_self,if_true]
end
structure BN (h:AA) (lo m k c e r n:Nat) (nm:ByteArray) (E:List Int) (tag:Nat→Nat) (vq vv vt vu vo:Value) (es:List (Value × Value)) (s:AN):Prop where
 cell:h.get m=.row [.string nm,qS r n AG,vq,vv,vt,vu,vo,iv s.miss,.map (some k),.map (some c)] 83 false false
 pol:JL h lo tag r n vq vv vt vu vo s
 known:h.get k=.map (s.things.map I1)
 many:h.get c=.map es
 ends:h.get e=.row (ints E) 3 false false
 tm:tag m=0
 tk:tag k=8
 tc:tag c=9
 te:tag e=10
 lm:lo≤m∧m<h.next
 lk:lo≤k∧k<h.next
 lc:lo≤c∧c<h.next
 le:lo≤e∧e<h.next
 fl:h.floor≤lo
section
variable {h h':AA} {lo m k c e r n:Nat} {nm:ByteArray} {E:List Int} {tag tag':Nat→Nat} {vq vv vt vu vo:Value} {es:List (Value × Value)} {s s':AN}
theorem N1 {a i:Nat} (hl:lo≤a) (ht:tag a≤10) (hi:i<lo∨(i<h.next∧11≤tag i)):a≠i:=by
 rintro rfl
 omega
theorem FE {a b:Nat} (h:tag a≠tag b):a≠b:=fun e=>h (by rw[e])
theorem BN.mono (hp:BN h lo m k c e r n nm E tag vq vv vt vu vo es s) (hn:h.next≤h'.next) (hf:h'.floor=h.floor) (ht:∀ i,i<h.next→tag' i=tag i)
  (hg:∀ i,lo≤i→i<h.next→h'.get i=h.get i):BN h' lo m k c e r n nm E tag' vq vv vt vu vo es s where
 cell:=by rw[hg m hp.lm.1 hp.lm.2];exact hp.cell
 pol:=hp.pol.mono hn ht fun i h1 h2 _ _=>hg i h1 h2
 known:=by rw[hg k hp.lk.1 hp.lk.2];exact hp.known
 many:=by rw[hg c hp.lc.1 hp.lc.2];exact hp.many
 ends:=by rw[hg e hp.le.1 hp.le.2];exact hp.ends
 tm:=by rw[ht m hp.lm.2];exact hp.tm
 tk:=by rw[ht k hp.lk.2];exact hp.tk
 tc:=by rw[ht c hp.lc.2];exact hp.tc
 te:=by rw[ht e hp.le.2];exact hp.te
 lm:=⟨hp.lm.1,by have:=hp.lm.2;omega⟩
 lk:=⟨hp.lk.1,by have:=hp.lk.2;omega⟩
 lc:=⟨hp.lc.1,by have:=hp.lc.2;omega⟩
 le:=⟨hp.le.1,by have:=hp.le.2;omega⟩
 fl:=by rw[hf];exact hp.fl
theorem BN.push (hp:BN h lo m k c e r n nm E tag vq vv vt vu vo es s) (o:BB):BN (h.push o) lo m k c e r n nm E tag vq vv vt vu vo es s:=
 hp.mono (by show h.next≤h.next+1;omega) rfl (fun _ _=>rfl) fun i _ hi=>AM hi
theorem BN.putNew (hp:BN h lo m k c e r n nm E tag vq vv vt vu vo es s) {o o':BB}:BN ((h.push o').put h.next o) lo m k c e r n nm E tag vq vv vt vu vo es s:=
 hp.mono (by show h.next≤h.next+1;omega) rfl (fun _ _=>rfl) fun i _ hi=>by rw[AQ (by show h.next<h.next+1;omega) (by omega),AM hi]
theorem BN.putC (hp:BN h lo m k c e r n nm E tag vq vv vt vu vo es s) (es':List (Value × Value)):BN (h.put c (.map es')) lo m k c e r n nm E tag vq vv vt vu vo es' s where
 cell:=by rw[AQ hp.lc.2 (FE (tag:=tag) (by rw[hp.tm,hp.tc];decide))];exact hp.cell
 pol:=hp.pol.mono (Nat.le_refl _) (fun _ _=>rfl) fun i _ _ h1 h2=>AQ hp.lc.2 (FE (tag:=tag) (by rw[hp.tc];omega))
 known:=by rw[AQ hp.lc.2 (FE (tag:=tag) (by rw[hp.tk,hp.tc];decide))];exact hp.known
 many:=CE rfl hp.lc.2
 ends:=by rw[AQ hp.lc.2 (FE (tag:=tag) (by rw[hp.te,hp.tc];decide))];exact hp.ends
 tm:=hp.tm
 tk:=hp.tk
 tc:=hp.tc
 te:=hp.te
 lm:=hp.lm
 lk:=hp.lk
 lc:=hp.lc
 le:=hp.le
 fl:=hp.fl
theorem BN.putK (hp:BN h lo m k c e r n nm E tag vq vv vt vu vo es s) (l:List FF):BN (h.put k (.map (l.map I1))) lo m k c e r n nm E tag vq vv vt vu vo es { s with things:=l } where
 cell:=by rw[AQ hp.lk.2 (FE (tag:=tag) (by rw[hp.tm,hp.tk];decide))];exact hp.cell
 pol:=by
  have:=hp.pol.mono (h':=h.put k (.map (l.map I1))) (Nat.le_refl _) (fun _ _=>rfl) fun i _ _ h1 h2=>AQ hp.lk.2 (FE (tag:=tag) (by rw[hp.tk];omega))
  exact⟨this.rows,this.len,this.tr,this.lr,this.q,this.v,this.t,this.u,this.o⟩
 known:=CE rfl hp.lk.2
 many:=by rw[AQ hp.lk.2 (FE (tag:=tag) (by rw[hp.tc,hp.tk];decide))];exact hp.many
 ends:=by rw[AQ hp.lk.2 (FE (tag:=tag) (by rw[hp.te,hp.tk];decide))];exact hp.ends
 tm:=hp.tm
 tk:=hp.tk
 tc:=hp.tc
 te:=hp.te
 lm:=hp.lm
 lk:=hp.lk
 lc:=hp.lc
 le:=hp.le
 fl:=hp.fl
theorem BN.pol' (hp:BN h lo m k c e r n nm E tag vq vv vt vu vo es s) {vq' vv' vt' vu' vo':Value} (hn:h.next≤h'.next) (hf:h'.floor=h.floor) (ht:∀ i,i<h.next→tag' i=tag i)
  (hg:∀ i,lo≤i→i<h.next→8≤tag i→h'.get i=h.get i) (hc:h'.get m=.row [.string nm,qS r n AG,vq',vv',vt',vu',vo',iv s'.miss,.map (some k),.map (some c)] 83 false false)
  (hp':JL h' lo tag' r n vq' vv' vt' vu' vo' s') (hth:s'.things=s.things):BN h' lo m k c e r n nm E tag' vq' vv' vt' vu' vo' es s' where
 cell:=hc
 pol:=hp'
 known:=by rw[hg k hp.lk.1 hp.lk.2 (by rw[hp.tk];omega),hth];exact hp.known
 many:=by rw[hg c hp.lc.1 hp.lc.2 (by rw[hp.tc];omega)];exact hp.many
 ends:=by rw[hg e hp.le.1 hp.le.2 (by rw[hp.te];omega)];exact hp.ends
 tm:=by rw[ht m hp.lm.2];exact hp.tm
 tk:=by rw[ht k hp.lk.2];exact hp.tk
 tc:=by rw[ht c hp.lc.2];exact hp.tc
 te:=by rw[ht e hp.le.2];exact hp.te
 lm:=⟨hp.lm.1,by have:=hp.lm.2;omega⟩
 lk:=⟨hp.lk.1,by have:=hp.lk.2;omega⟩
 lc:=⟨hp.lc.1,by have:=hp.lc.2;omega⟩
 le:=⟨hp.le.1,by have:=hp.le.2;omega⟩
 fl:=by rw[hf];exact hp.fl
theorem JL.putR (hp:JL h lo tag r n vq vv vt vu vo s) {l:List AB} (hl:l.length=s.rows.length):JL (h.put r (.row (l.flatMap AP) 46 true false)) lo tag r n vq vv vt vu vo { s with rows:=l }:=
 have hg:∀ i j,2≤j→tag i=j→(h.put r (.row (l.flatMap AP) 46 true false)).get i=h.get i:=fun i j hj hi=>AQ hp.lr.2 (FE (tag:=tag) (by rw[hp.tr];omega))
 ⟨CE rfl hp.lr.2,hl.trans hp.len,hp.tr,hp.lr,hp.q.mono (Nat.le_refl _) (fun _ _=>rfl) fun i _ _ h3=>hg i 2 (by omega) h3,hp.v.mono (Nat.le_refl _) (fun _ _=>rfl) fun i _ _ h3=>hg i 3 (by omega) h3,hp.t.mono (Nat.le_refl _) (fun _ _=>rfl) fun i _ _ h3=>hg i 4 (by omega) h3,hp.u.mono (Nat.le_refl _) (fun _ _=>rfl) fun i _ _ h3=>hg i 5 (by omega) h3,hp.o.mono (Nat.le_refl _) (fun _ _=>rfl) fun i _ _ h3=>hg i 6 (by omega) h3⟩
theorem BN.putR (hp:BN h lo m k c e r n nm E tag vq vv vt vu vo es s) {l:List AB} (hl:l.length=s.rows.length):BN (h.put r (.row (l.flatMap AP) 46 true false)) lo m k c e r n nm E tag vq vv vt vu vo es { s with rows:=l }:=
 hp.pol' (Nat.le_refl _) rfl (fun _ _=>rfl) (fun i _ _ h1=>AQ hp.pol.lr.2 (FE (tag:=tag) (by rw[hp.pol.tr];omega))) (by rw[AQ hp.pol.lr.2 (FE (tag:=tag) (by rw[hp.pol.tr,hp.tm];decide))];exact hp.cell) (hp.pol.putR hl) rfl
theorem BN.c1 (hp:BN h lo m k c e r n nm E tag vq vv vt vu vo es s):AO 1 (h.get m)=some (qS r n AG):=by rw[hp.cell];rfl
theorem BN.c2 (hp:BN h lo m k c e r n nm E tag vq vv vt vu vo es s):AO 2 (h.get m)=some vq:=by rw[hp.cell];rfl
theorem BN.c3 (hp:BN h lo m k c e r n nm E tag vq vv vt vu vo es s):AO 3 (h.get m)=some vv:=by rw[hp.cell];rfl
theorem BN.c4 (hp:BN h lo m k c e r n nm E tag vq vv vt vu vo es s):AO 4 (h.get m)=some vt:=by rw[hp.cell];rfl
theorem BN.c5 (hp:BN h lo m k c e r n nm E tag vq vv vt vu vo es s):AO 5 (h.get m)=some vu:=by rw[hp.cell];rfl
theorem BN.c6 (hp:BN h lo m k c e r n nm E tag vq vv vt vu vo es s):AO 6 (h.get m)=some vo:=by rw[hp.cell];rfl
theorem BN.c7 (hp:BN h lo m k c e r n nm E tag vq vv vt vu vo es s):AO 7 (h.get m)=some (iv s.miss):=by rw[hp.cell];rfl
theorem BN.c8 (hp:BN h lo m k c e r n nm E tag vq vv vt vu vo es s):AO 8 (h.get m)=some (.map (some k)):=by rw[hp.cell];rfl
theorem BN.c9 (hp:BN h lo m k c e r n nm E tag vq vv vt vu vo es s):AO 9 (h.get m)=some (.map (some c)):=by rw[hp.cell];rfl
theorem BN.row (hp:BN h lo m k c e r n nm E tag vq vv vt vu vo es s) {at_:Nat} {x:AB} (hx:s.rows[at_]?=some x):at_<n∧AO (at_*5) (h.get r)=some (iv x.kind)∧AO (at_*5+1) (h.get r)=some (.string x.name)∧AO (at_*5+2) (h.get r)=some (iv x.ends)∧AO (at_*5+3) (h.get r)=some (iv x.n)∧AO (at_*5+4) (h.get r)=some (iv x.kids) ∧
  CD 5 (at_*5) (h.get r)=some (.agg #[iv x.kind,.string x.name,iv x.ends,iv x.n,iv x.kids]):=by
 have hl:at_<n:=by rw[← hp.pol.len];exact(List.getElem?_eq_some_iff.1 hx).1
 obtain⟨id,q,e0,hid,l0,l1,l2,l3,l4,lr⟩:=hp.pol.at.row hx
 rw[HB hl] at e0
 simp only[Option.some.injEq,Value.pointer.injEq,Addr.mk.injEq,and_true] at e0
 obtain⟨rfl,rfl⟩:=e0
 exact⟨hl,l0,l1,l2,l3,l4,lr⟩
end
section
variable {h:AA} {lo m k c e r n:Nat} {nm:ByteArray} {E:List Int} {tag:Nat→Nat} {vq vv vt vu vo:Value} {es:List (Value × Value)} {s:AN}
theorem Du {l:List (ByteArray × Bool)} {x:ByteArray × Bool}:GP l++[.string x.1,.bool x.2]=GP (l++[x]):=by simp[GP]
theorem oS {l:List ByteArray} {x:ByteArray}:CZ l++[.string x]=CZ (l++[x]):=by simp[CZ]
theorem eK {l:List Int} {x:Int}:ints l++[iv x]=ints (l++[x]):=by simp[ints]
theorem BN.appQ (hp:BN h lo m k c e r n nm E tag vq vv vt vu vo es s) (x:(ByteArray × Bool)) (hb:s.queues.length<10000000):∃ v' h1,C4 Tryd.prog (h.push (.row [.string x.1,.bool x.2] 57 false false)) 26 vq (qS h.next 1 1)=some (v',h1)∧h1.get m=h.get m∧one v'=true∧v'.cells=#[v']∧h1.floor=h.floor∧h1.next=h.next+2∧(∀ i,i<h.next→i<lo∨11≤tag i→h1.get i=h.get i) ∧
  BN (h1.put m (.row [.string nm,qS r n AG,v',vv,vt,vu,vo,iv s.miss,.map (some k),.map (some c)] 83 false false)) lo m k c e r n nm E (fun i=>if i=h.next+1 then 2 else tag i) v' vv vt vu vo es { s with queues:=s.queues++[x] }:=by
 have hlm:=hp.lm
 have hpp:=hp.mono (h':=h.push (.row [.string x.1,.bool x.2] 57 false false)) (tag':=fun i=>if i=h.next then 11 else tag i) (by show h.next≤h.next+1;omega) rfl (fun i hi=>if_neg (by omega)) fun i _ hi=>AM hi
 obtain⟨v',h1,a1,a2,a3,a4,a5,a6,a7⟩:=OH (et:=57) (w:=2) (c:=1) (sc:=1) (xs:=[.string x.1,.bool x.2]) Tryd.underlying26 L4 VV NP rfl (by decide) (by decide) hpp.pol.q (NA _) (b_ _) rfl rfl (by decide) (by decide) (by omega) (src:=h.next) BL (by show h.next<h.next+1;omega) hp.fl (by simp)
 have hnx:h1.next=h.next+2:=a4
 have hold:∀ i,i<h.next→¬ (lo≤i∧tag i=2)→h1.get i=h.get i:=fun i hi hne=>by
  rw[a7 i (by show i<h.next+1;omega) (by rw[if_neg (by omega)];exact hne),AM hi]
 have hm1:m<h1.next:=by omega
 have hgm:h1.get m=h.get m:=hold m hlm.2 (by rw[hp.tm];omega)
 have hSl:DQ h1 lo (fun i=>if i=h.next+1 then 2 else tag i) 2 v' (s.queues.length+1) (GP s.queues++[.string x.1,.bool x.2]) 57:=by
  rcases a2 with a2 | a2
  ·refine a2.mono' fun i hi=>?_
   show (if i=h.next+1 then 2 else tag i)=(if i=h.next+1 then 2 else if i=h.next then 11 else tag i)∨(if i=h.next+1 then 2 else if i=h.next then 11 else tag i)≠2
   by_cases e1:i=h.next+1
   ·left;rw[if_pos e1,if_pos e1]
   ·rw[if_neg e1,if_neg e1]
    by_cases e2:i=h.next
    ·right;rw[if_pos e2];decide
    ·left;rw[if_neg e2]
  ·exact absurd (show lo≤h.next+1 by omega) a2
 refine⟨v',h1,a1,hgm,a5,a6,a3,hnx,fun i hi hlo=>hold i hi (by omega),?_⟩
 have hn2:h.next≤(h1.put m (.row [.string nm,qS r n AG,v',vv,vt,vu,vo,iv s.miss,.map (some k),.map (some c)] 83 false false)).next:=by show h.next≤h1.next;omega
 have ht2:∀ i,i<h.next→(fun i=>if i=h.next+1 then 2 else tag i) i=tag i:=fun i hi=>if_neg (by omega)
 have hg2:∀ i,lo≤i→i<h.next→tag i≠0→tag i≠2→(h1.put m (.row [.string nm,qS r n AG,v',vv,vt,vu,vo,iv s.miss,.map (some k),.map (some c)] 83 false false)).get i=h.get i:=fun i h1' h2 h3 h4=>by
  rw[AQ hm1 (FE (tag:=tag) (by rw[hp.tm];exact h3.symm)),hold i h2 (fun e=>h4 e.2)]
 have hgj:∀ jj,jj≠0→jj≠2→(jj≠2)→∀ i,lo≤i→i<h.next→tag i=jj→(h1.put m (.row [.string nm,qS r n AG,v',vv,vt,vu,vo,iv s.miss,.map (some k),.map (some c)] 83 false false)).get i=h.get i:=fun jj z1 z2 _ i h1' h2 h3=>hg2 i h1' h2 (by omega) (by omega)
 refine hp.pol' hn2 a3 ht2 (fun i h1' h2 h3=>hg2 i h1' h2 (by omega) (by omega)) (CE rfl hm1) ?_ rfl
 exact
  { rows:=by rw[hg2 r hp.pol.lr.1 hp.pol.lr.2 (by rw[hp.pol.tr];decide) (by rw[hp.pol.tr];decide)];exact hp.pol.rows
    len:=hp.pol.len
    tr:=(ht2 r hp.pol.lr.2).trans hp.pol.tr
    lr:=⟨hp.pol.lr.1,by have:=hp.pol.lr.2;omega⟩
    q:=by
     have h9:=hSl.mono (h':=(h1.put m (.row [.string nm,qS r n AG,v',vv,vt,vu,vo,iv s.miss,.map (some k),.map (some c)] 83 false false))) (Nat.le_refl _) (fun _ _=>rfl) fun i _ _ h3=>AQ hm1 (FE (tag:=fun i=>if i=h.next+1 then 2 else tag i) (by rw[h3];show (if m=h.next+1 then _ else tag m)≠_;rw[if_neg (by omega),hp.tm];decide))
     rw[Du] at h9
     simp only[List.length_append,List.length_cons,List.length_nil]
     exact h9
    v:=hp.pol.v.mono hn2 ht2 (hgj 3 (by decide) (by decide) (by decide))
    t:=hp.pol.t.mono hn2 ht2 (hgj 4 (by decide) (by decide) (by decide))
    u:=hp.pol.u.mono hn2 ht2 (hgj 5 (by decide) (by decide) (by decide))
    o:=hp.pol.o.mono hn2 ht2 (hgj 6 (by decide) (by decide) (by decide)) }
theorem BN.appV (hp:BN h lo m k c e r n nm E tag vq vv vt vu vo es s) (x:ByteArray) (hb:s.vars.length<10000000):∃ v' h1,C4 Tryd.prog (h.push (.row [.string x] 9 false false)) 27 vv (qS h.next 1 1)=some (v',h1)∧h1.get m=h.get m∧one v'=true∧v'.cells=#[v']∧h1.floor=h.floor∧h1.next=h.next+2∧(∀ i,i<h.next→i<lo∨11≤tag i→h1.get i=h.get i) ∧
  BN (h1.put m (.row [.string nm,qS r n AG,vq,v',vt,vu,vo,iv s.miss,.map (some k),.map (some c)] 83 false false)) lo m k c e r n nm E (fun i=>if i=h.next+1 then 3 else tag i) vq v' vt vu vo es { s with vars:=s.vars++[x] }:=by
 have hlm:=hp.lm
 have hpp:=hp.mono (h':=h.push (.row [.string x] 9 false false)) (tag':=fun i=>if i=h.next then 11 else tag i) (by show h.next≤h.next+1;omega) rfl (fun i hi=>if_neg (by omega)) fun i _ hi=>AM hi
 obtain⟨v',h1,a1,a2,a3,a4,a5,a6,a7⟩:=OH (et:=9) (w:=1) (c:=1) (sc:=1) (xs:=[.string x]) Tryd.underlying27 HC NS MA rfl (by decide) (by decide) hpp.pol.v (by rw[Nat.mul_one];exact QH _) (WV _) rfl rfl (by decide) (by decide) (by omega) (src:=h.next) BL (by show h.next<h.next+1;omega) hp.fl (by simp)
 have hnx:h1.next=h.next+2:=a4
 have hold:∀ i,i<h.next→¬ (lo≤i∧tag i=3)→h1.get i=h.get i:=fun i hi hne=>by
  rw[a7 i (by show i<h.next+1;omega) (by rw[if_neg (by omega)];exact hne),AM hi]
 have hm1:m<h1.next:=by omega
 have hgm:h1.get m=h.get m:=hold m hlm.2 (by rw[hp.tm];omega)
 have hSl:DQ h1 lo (fun i=>if i=h.next+1 then 3 else tag i) 3 v' (s.vars.length+1) (CZ s.vars++[.string x]) 9:=by
  rcases a2 with a2 | a2
  ·refine a2.mono' fun i hi=>?_
   show (if i=h.next+1 then 3 else tag i)=(if i=h.next+1 then 3 else if i=h.next then 11 else tag i)∨(if i=h.next+1 then 3 else if i=h.next then 11 else tag i)≠3
   by_cases e1:i=h.next+1
   ·left;rw[if_pos e1,if_pos e1]
   ·rw[if_neg e1,if_neg e1]
    by_cases e2:i=h.next
    ·right;rw[if_pos e2];decide
    ·left;rw[if_neg e2]
  ·exact absurd (show lo≤h.next+1 by omega) a2
 refine⟨v',h1,a1,hgm,a5,a6,a3,hnx,fun i hi hlo=>hold i hi (by omega),?_⟩
 have hn2:h.next≤(h1.put m (.row [.string nm,qS r n AG,vq,v',vt,vu,vo,iv s.miss,.map (some k),.map (some c)] 83 false false)).next:=by show h.next≤h1.next;omega
 have ht2:∀ i,i<h.next→(fun i=>if i=h.next+1 then 3 else tag i) i=tag i:=fun i hi=>if_neg (by omega)
 have hg2:∀ i,lo≤i→i<h.next→tag i≠0→tag i≠3→(h1.put m (.row [.string nm,qS r n AG,vq,v',vt,vu,vo,iv s.miss,.map (some k),.map (some c)] 83 false false)).get i=h.get i:=fun i h1' h2 h3 h4=>by
  rw[AQ hm1 (FE (tag:=tag) (by rw[hp.tm];exact h3.symm)),hold i h2 (fun e=>h4 e.2)]
 have hgj:∀ jj,jj≠0→jj≠3→(jj≠3)→∀ i,lo≤i→i<h.next→tag i=jj→(h1.put m (.row [.string nm,qS r n AG,vq,v',vt,vu,vo,iv s.miss,.map (some k),.map (some c)] 83 false false)).get i=h.get i:=fun jj z1 z2 _ i h1' h2 h3=>hg2 i h1' h2 (by omega) (by omega)
 refine hp.pol' hn2 a3 ht2 (fun i h1' h2 h3=>hg2 i h1' h2 (by omega) (by omega)) (CE rfl hm1) ?_ rfl
 exact
  { rows:=by rw[hg2 r hp.pol.lr.1 hp.pol.lr.2 (by rw[hp.pol.tr];decide) (by rw[hp.pol.tr];decide)];exact hp.pol.rows
    len:=hp.pol.len
    tr:=(ht2 r hp.pol.lr.2).trans hp.pol.tr
    lr:=⟨hp.pol.lr.1,by have:=hp.pol.lr.2;omega⟩
    q:=hp.pol.q.mono hn2 ht2 (hgj 2 (by decide) (by decide) (by decide))
    v:=by
     have h9:=hSl.mono (h':=(h1.put m (.row [.string nm,qS r n AG,vq,v',vt,vu,vo,iv s.miss,.map (some k),.map (some c)] 83 false false))) (Nat.le_refl _) (fun _ _=>rfl) fun i _ _ h3=>AQ hm1 (FE (tag:=fun i=>if i=h.next+1 then 3 else tag i) (by rw[h3];show (if m=h.next+1 then _ else tag m)≠_;rw[if_neg (by omega),hp.tm];decide))
     rw[oS] at h9
     simp only[List.length_append,List.length_cons,List.length_nil]
     exact h9
    t:=hp.pol.t.mono hn2 ht2 (hgj 4 (by decide) (by decide) (by decide))
    u:=hp.pol.u.mono hn2 ht2 (hgj 5 (by decide) (by decide) (by decide))
    o:=hp.pol.o.mono hn2 ht2 (hgj 6 (by decide) (by decide) (by decide)) }
theorem BN.appT (hp:BN h lo m k c e r n nm E tag vq vv vt vu vo es s) (x:ByteArray) (hb:s.tags.length<10000000):∃ v' h1,C4 Tryd.prog (h.push (.row [.string x] 9 false false)) 27 vt (qS h.next 1 1)=some (v',h1)∧h1.get m=h.get m∧one v'=true∧v'.cells=#[v']∧h1.floor=h.floor∧h1.next=h.next+2∧(∀ i,i<h.next→i<lo∨11≤tag i→h1.get i=h.get i) ∧
  BN (h1.put m (.row [.string nm,qS r n AG,vq,vv,v',vu,vo,iv s.miss,.map (some k),.map (some c)] 83 false false)) lo m k c e r n nm E (fun i=>if i=h.next+1 then 4 else tag i) vq vv v' vu vo es { s with tags:=s.tags++[x] }:=by
 have hlm:=hp.lm
 have hpp:=hp.mono (h':=h.push (.row [.string x] 9 false false)) (tag':=fun i=>if i=h.next then 11 else tag i) (by show h.next≤h.next+1;omega) rfl (fun i hi=>if_neg (by omega)) fun i _ hi=>AM hi
 obtain⟨v',h1,a1,a2,a3,a4,a5,a6,a7⟩:=OH (et:=9) (w:=1) (c:=1) (sc:=1) (xs:=[.string x]) Tryd.underlying27 HC NS MA rfl (by decide) (by decide) hpp.pol.t (by rw[Nat.mul_one];exact QH _) (WV _) rfl rfl (by decide) (by decide) (by omega) (src:=h.next) BL (by show h.next<h.next+1;omega) hp.fl (by simp)
 have hnx:h1.next=h.next+2:=a4
 have hold:∀ i,i<h.next→¬ (lo≤i∧tag i=4)→h1.get i=h.get i:=fun i hi hne=>by
  rw[a7 i (by show i<h.next+1;omega) (by rw[if_neg (by omega)];exact hne),AM hi]
 have hm1:m<h1.next:=by omega
 have hgm:h1.get m=h.get m:=hold m hlm.2 (by rw[hp.tm];omega)
 have hSl:DQ h1 lo (fun i=>if i=h.next+1 then 4 else tag i) 4 v' (s.tags.length+1) (CZ s.tags++[.string x]) 9:=by
  rcases a2 with a2 | a2
  ·refine a2.mono' fun i hi=>?_
   show (if i=h.next+1 then 4 else tag i)=(if i=h.next+1 then 4 else if i=h.next then 11 else tag i)∨(if i=h.next+1 then 4 else if i=h.next then 11 else tag i)≠4
   by_cases e1:i=h.next+1
   ·left;rw[if_pos e1,if_pos e1]
   ·rw[if_neg e1,if_neg e1]
    by_cases e2:i=h.next
    ·right;rw[if_pos e2];decide
    ·left;rw[if_neg e2]
  ·exact absurd (show lo≤h.next+1 by omega) a2
 refine⟨v',h1,a1,hgm,a5,a6,a3,hnx,fun i hi hlo=>hold i hi (by omega),?_⟩
 have hn2:h.next≤(h1.put m (.row [.string nm,qS r n AG,vq,vv,v',vu,vo,iv s.miss,.map (some k),.map (some c)] 83 false false)).next:=by show h.next≤h1.next;omega
 have ht2:∀ i,i<h.next→(fun i=>if i=h.next+1 then 4 else tag i) i=tag i:=fun i hi=>if_neg (by omega)
 have hg2:∀ i,lo≤i→i<h.next→tag i≠0→tag i≠4→(h1.put m (.row [.string nm,qS r n AG,vq,vv,v',vu,vo,iv s.miss,.map (some k),.map (some c)] 83 false false)).get i=h.get i:=fun i h1' h2 h3 h4=>by
  rw[AQ hm1 (FE (tag:=tag) (by rw[hp.tm];exact h3.symm)),hold i h2 (fun e=>h4 e.2)]
 have hgj:∀ jj,jj≠0→jj≠4→(jj≠4)→∀ i,lo≤i→i<h.next→tag i=jj→(h1.put m (.row [.string nm,qS r n AG,vq,vv,v',vu,vo,iv s.miss,.map (some k),.map (some c)] 83 false false)).get i=h.get i:=fun jj z1 z2 _ i h1' h2 h3=>hg2 i h1' h2 (by omega) (by omega)
 refine hp.pol' hn2 a3 ht2 (fun i h1' h2 h3=>hg2 i h1' h2 (by omega) (by omega)) (CE rfl hm1) ?_ rfl
 exact
  { rows:=by rw[hg2 r hp.pol.lr.1 hp.pol.lr.2 (by rw[hp.pol.tr];decide) (by rw[hp.pol.tr];decide)];exact hp.pol.rows
    len:=hp.pol.len
    tr:=(ht2 r hp.pol.lr.2).trans hp.pol.tr
    lr:=⟨hp.pol.lr.1,by have:=hp.pol.lr.2;omega⟩
    q:=hp.pol.q.mono hn2 ht2 (hgj 2 (by decide) (by decide) (by decide))
    v:=hp.pol.v.mono hn2 ht2 (hgj 3 (by decide) (by decide) (by decide))
    t:=by
     have h9:=hSl.mono (h':=(h1.put m (.row [.string nm,qS r n AG,vq,vv,v',vu,vo,iv s.miss,.map (some k),.map (some c)] 83 false false))) (Nat.le_refl _) (fun _ _=>rfl) fun i _ _ h3=>AQ hm1 (FE (tag:=fun i=>if i=h.next+1 then 4 else tag i) (by rw[h3];show (if m=h.next+1 then _ else tag m)≠_;rw[if_neg (by omega),hp.tm];decide))
     rw[oS] at h9
     simp only[List.length_append,List.length_cons,List.length_nil]
     exact h9
    u:=hp.pol.u.mono hn2 ht2 (hgj 5 (by decide) (by decide) (by decide))
    o:=hp.pol.o.mono hn2 ht2 (hgj 6 (by decide) (by decide) (by decide)) }
theorem BN.appU (hp:BN h lo m k c e r n nm E tag vq vv vt vu vo es s) (x:Int) (hb:s.rules.length<10000000):∃ v' h1,C4 Tryd.prog (h.push (.row [iv x] 3 false false)) 28 vu (qS h.next 1 1)=some (v',h1)∧h1.get m=h.get m∧one v'=true∧v'.cells=#[v']∧h1.floor=h.floor∧h1.next=h.next+2∧(∀ i,i<h.next→i<lo∨11≤tag i→h1.get i=h.get i) ∧
  BN (h1.put m (.row [.string nm,qS r n AG,vq,vv,vt,v',vo,iv s.miss,.map (some k),.map (some c)] 83 false false)) lo m k c e r n nm E (fun i=>if i=h.next+1 then 5 else tag i) vq vv vt v' vo es { s with rules:=s.rules++[x] }:=by
 have hlm:=hp.lm
 have hpp:=hp.mono (h':=h.push (.row [iv x] 3 false false)) (tag':=fun i=>if i=h.next then 11 else tag i) (by show h.next≤h.next+1;omega) rfl (fun i hi=>if_neg (by omega)) fun i _ hi=>AM hi
 obtain⟨v',h1,a1,a2,a3,a4,a5,a6,a7⟩:=OH (et:=3) (w:=1) (c:=1) (sc:=1) (xs:=[iv x]) Tryd.underlying28 CT KH I3 rfl (by decide) (by decide) hpp.pol.u (by rw[Nat.mul_one];exact FH _) (RI _) rfl rfl (by decide) (by decide) (by omega) (src:=h.next) BL (by show h.next<h.next+1;omega) hp.fl (by simp)
 have hnx:h1.next=h.next+2:=a4
 have hold:∀ i,i<h.next→¬ (lo≤i∧tag i=5)→h1.get i=h.get i:=fun i hi hne=>by
  rw[a7 i (by show i<h.next+1;omega) (by rw[if_neg (by omega)];exact hne),AM hi]
 have hm1:m<h1.next:=by omega
 have hgm:h1.get m=h.get m:=hold m hlm.2 (by rw[hp.tm];omega)
 have hSl:DQ h1 lo (fun i=>if i=h.next+1 then 5 else tag i) 5 v' (s.rules.length+1) (ints s.rules++[iv x]) 3:=by
  rcases a2 with a2 | a2
  ·refine a2.mono' fun i hi=>?_
   show (if i=h.next+1 then 5 else tag i)=(if i=h.next+1 then 5 else if i=h.next then 11 else tag i)∨(if i=h.next+1 then 5 else if i=h.next then 11 else tag i)≠5
   by_cases e1:i=h.next+1
   ·left;rw[if_pos e1,if_pos e1]
   ·rw[if_neg e1,if_neg e1]
    by_cases e2:i=h.next
    ·right;rw[if_pos e2];decide
    ·left;rw[if_neg e2]
  ·exact absurd (show lo≤h.next+1 by omega) a2
 refine⟨v',h1,a1,hgm,a5,a6,a3,hnx,fun i hi hlo=>hold i hi (by omega),?_⟩
 have hn2:h.next≤(h1.put m (.row [.string nm,qS r n AG,vq,vv,vt,v',vo,iv s.miss,.map (some k),.map (some c)] 83 false false)).next:=by show h.next≤h1.next;omega
 have ht2:∀ i,i<h.next→(fun i=>if i=h.next+1 then 5 else tag i) i=tag i:=fun i hi=>if_neg (by omega)
 have hg2:∀ i,lo≤i→i<h.next→tag i≠0→tag i≠5→(h1.put m (.row [.string nm,qS r n AG,vq,vv,vt,v',vo,iv s.miss,.map (some k),.map (some c)] 83 false false)).get i=h.get i:=fun i h1' h2 h3 h4=>by
  rw[AQ hm1 (FE (tag:=tag) (by rw[hp.tm];exact h3.symm)),hold i h2 (fun e=>h4 e.2)]
 have hgj:∀ jj,jj≠0→jj≠5→(jj≠5)→∀ i,lo≤i→i<h.next→tag i=jj→(h1.put m (.row [.string nm,qS r n AG,vq,vv,vt,v',vo,iv s.miss,.map (some k),.map (some c)] 83 false false)).get i=h.get i:=fun jj z1 z2 _ i h1' h2 h3=>hg2 i h1' h2 (by omega) (by omega)
 refine hp.pol' hn2 a3 ht2 (fun i h1' h2 h3=>hg2 i h1' h2 (by omega) (by omega)) (CE rfl hm1) ?_ rfl
 exact
  { rows:=by rw[hg2 r hp.pol.lr.1 hp.pol.lr.2 (by rw[hp.pol.tr];decide) (by rw[hp.pol.tr];decide)];exact hp.pol.rows
    len:=hp.pol.len
    tr:=(ht2 r hp.pol.lr.2).trans hp.pol.tr
    lr:=⟨hp.pol.lr.1,by have:=hp.pol.lr.2;omega⟩
    q:=hp.pol.q.mono hn2 ht2 (hgj 2 (by decide) (by decide) (by decide))
    v:=hp.pol.v.mono hn2 ht2 (hgj 3 (by decide) (by decide) (by decide))
    t:=hp.pol.t.mono hn2 ht2 (hgj 4 (by decide) (by decide) (by decide))
    u:=by
     have h9:=hSl.mono (h':=(h1.put m (.row [.string nm,qS r n AG,vq,vv,vt,v',vo,iv s.miss,.map (some k),.map (some c)] 83 false false))) (Nat.le_refl _) (fun _ _=>rfl) fun i _ _ h3=>AQ hm1 (FE (tag:=fun i=>if i=h.next+1 then 5 else tag i) (by rw[h3];show (if m=h.next+1 then _ else tag m)≠_;rw[if_neg (by omega),hp.tm];decide))
     rw[eK] at h9
     simp only[List.length_append,List.length_cons,List.length_nil]
     exact h9
    o:=hp.pol.o.mono hn2 ht2 (hgj 6 (by decide) (by decide) (by decide)) }
theorem BN.appO (hp:BN h lo m k c e r n nm E tag vq vv vt vu vo es s) (x:Int) (hb:s.on.length<10000000):∃ v' h1,C4 Tryd.prog (h.push (.row [iv x] 3 false false)) 28 vo (qS h.next 1 1)=some (v',h1)∧h1.get m=h.get m∧one v'=true∧v'.cells=#[v']∧h1.floor=h.floor∧h1.next=h.next+2∧(∀ i,i<h.next→i<lo∨11≤tag i→h1.get i=h.get i) ∧
  BN (h1.put m (.row [.string nm,qS r n AG,vq,vv,vt,vu,v',iv s.miss,.map (some k),.map (some c)] 83 false false)) lo m k c e r n nm E (fun i=>if i=h.next+1 then 6 else tag i) vq vv vt vu v' es { s with on:=s.on++[x] }:=by
 have hlm:=hp.lm
 have hpp:=hp.mono (h':=h.push (.row [iv x] 3 false false)) (tag':=fun i=>if i=h.next then 11 else tag i) (by show h.next≤h.next+1;omega) rfl (fun i hi=>if_neg (by omega)) fun i _ hi=>AM hi
 obtain⟨v',h1,a1,a2,a3,a4,a5,a6,a7⟩:=OH (et:=3) (w:=1) (c:=1) (sc:=1) (xs:=[iv x]) Tryd.underlying28 CT KH I3 rfl (by decide) (by decide) hpp.pol.o (by rw[Nat.mul_one];exact FH _) (RI _) rfl rfl (by decide) (by decide) (by omega) (src:=h.next) BL (by show h.next<h.next+1;omega) hp.fl (by simp)
 have hnx:h1.next=h.next+2:=a4
 have hold:∀ i,i<h.next→¬ (lo≤i∧tag i=6)→h1.get i=h.get i:=fun i hi hne=>by
  rw[a7 i (by show i<h.next+1;omega) (by rw[if_neg (by omega)];exact hne),AM hi]
 have hm1:m<h1.next:=by omega
 have hgm:h1.get m=h.get m:=hold m hlm.2 (by rw[hp.tm];omega)
 have hSl:DQ h1 lo (fun i=>if i=h.next+1 then 6 else tag i) 6 v' (s.on.length+1) (ints s.on++[iv x]) 3:=by
  rcases a2 with a2 | a2
  ·refine a2.mono' fun i hi=>?_
   show (if i=h.next+1 then 6 else tag i)=(if i=h.next+1 then 6 else if i=h.next then 11 else tag i)∨(if i=h.next+1 then 6 else if i=h.next then 11 else tag i)≠6
   by_cases e1:i=h.next+1
   ·left;rw[if_pos e1,if_pos e1]
   ·rw[if_neg e1,if_neg e1]
    by_cases e2:i=h.next
    ·right;rw[if_pos e2];decide
    ·left;rw[if_neg e2]
  ·exact absurd (show lo≤h.next+1 by omega) a2
 refine⟨v',h1,a1,hgm,a5,a6,a3,hnx,fun i hi hlo=>hold i hi (by omega),?_⟩
 have hn2:h.next≤(h1.put m (.row [.string nm,qS r n AG,vq,vv,vt,vu,v',iv s.miss,.map (some k),.map (some c)] 83 false false)).next:=by show h.next≤h1.next;omega
 have ht2:∀ i,i<h.next→(fun i=>if i=h.next+1 then 6 else tag i) i=tag i:=fun i hi=>if_neg (by omega)
 have hg2:∀ i,lo≤i→i<h.next→tag i≠0→tag i≠6→(h1.put m (.row [.string nm,qS r n AG,vq,vv,vt,vu,v',iv s.miss,.map (some k),.map (some c)] 83 false false)).get i=h.get i:=fun i h1' h2 h3 h4=>by
  rw[AQ hm1 (FE (tag:=tag) (by rw[hp.tm];exact h3.symm)),hold i h2 (fun e=>h4 e.2)]
 have hgj:∀ jj,jj≠0→jj≠6→(jj≠6)→∀ i,lo≤i→i<h.next→tag i=jj→(h1.put m (.row [.string nm,qS r n AG,vq,vv,vt,vu,v',iv s.miss,.map (some k),.map (some c)] 83 false false)).get i=h.get i:=fun jj z1 z2 _ i h1' h2 h3=>hg2 i h1' h2 (by omega) (by omega)
 refine hp.pol' hn2 a3 ht2 (fun i h1' h2 h3=>hg2 i h1' h2 (by omega) (by omega)) (CE rfl hm1) ?_ rfl
 exact
  { rows:=by rw[hg2 r hp.pol.lr.1 hp.pol.lr.2 (by rw[hp.pol.tr];decide) (by rw[hp.pol.tr];decide)];exact hp.pol.rows
    len:=hp.pol.len
    tr:=(ht2 r hp.pol.lr.2).trans hp.pol.tr
    lr:=⟨hp.pol.lr.1,by have:=hp.pol.lr.2;omega⟩
    q:=hp.pol.q.mono hn2 ht2 (hgj 2 (by decide) (by decide) (by decide))
    v:=hp.pol.v.mono hn2 ht2 (hgj 3 (by decide) (by decide) (by decide))
    t:=hp.pol.t.mono hn2 ht2 (hgj 4 (by decide) (by decide) (by decide))
    u:=hp.pol.u.mono hn2 ht2 (hgj 5 (by decide) (by decide) (by decide))
    o:=by
     have h9:=hSl.mono (h':=(h1.put m (.row [.string nm,qS r n AG,vq,vv,vt,vu,v',iv s.miss,.map (some k),.map (some c)] 83 false false))) (Nat.le_refl _) (fun _ _=>rfl) fun i _ _ h3=>AQ hm1 (FE (tag:=fun i=>if i=h.next+1 then 6 else tag i) (by rw[h3];show (if m=h.next+1 then _ else tag m)≠_;rw[if_neg (by omega),hp.tm];decide))
     rw[eK] at h9
     simp only[List.length_append,List.length_cons,List.length_nil]
     exact h9 }
end
noncomputable def D5:Code:=rt (rt (rt (rt (Tryd.f51.body.getD .skip))))
noncomputable def D8:Code:=rt D5
noncomputable def mF:Code:=rt (rt (rt D8))
noncomputable def Fd:Code:=rt mF
noncomputable def k6:Array Oper:=DY Tryd.f51 5
def uF:List (Bool × Bool × List Operand):=[BI,BI,BI,BI,AS [.tmp 29],AS [.tmp 29],AS [.tmp 29],AS [.tmp 29],AT,AT,AT,AT,AS [.tmp 29,.tmp 33,.tmp 30],AT,AT]
theorem Ac:D9 k6=uF:=by kernel_rfl
def ZO:List (Bool × Bool × List Operand):=[BI,BI,BI,BI,AS [.tmp 58],AS [.tmp 58],AS [.tmp 58],AS [.tmp 58],AS [.tmp 58,.tmp 62],AS [.tmp 58,.tmp 62],AS [.tmp 58,.tmp 62],AS [.tmp 58,.tmp 62],AS [.tmp 58,.tmp 62],AT]
def ZQ:List (Bool × Bool × List Operand):=[MU,BI,BI,BI,BI,BI,AS [.tmp 80],AS [.tmp 80],AS [.tmp 80],AS [.tmp 80],AS [.tmp 80,.tmp 84],AS [.tmp 80,.tmp 84],AS [.tmp 80,.tmp 84],AS [.tmp 80,.tmp 84],AS [.tmp 80,.tmp 84],AS [.tmp 80],AS [.tmp 80],AT,AT,AT,AT,AT]
def Z6:List (Bool × Bool × List Operand):=[MU,BI,BI,BI,BI,BI,AS [.tmp 114],AS [.tmp 114],AS [.tmp 114],AS [.tmp 114],AS [.tmp 114],AT,AT,AT,AT,AT]
def Y7:List (Bool × Bool × List Operand):=[MU,BI,BI,BI,BI,BI,AS [.tmp 131],AS [.tmp 131],AS [.tmp 131],AS [.tmp 131],AS [.tmp 131],AT,AT,AT,AT,AT]
theorem dY {h:AA} {id:Nat} {a b c x y z:Value} {ty:TypeId} {g:Bool} (hg:h.get id=.row [x,y,z] ty g false) (hf:h.floor≤id) (ho:[a,b,c].all one=true):BW Tryd.prog h 116 (qP id 0) (.agg #[a,b,c])=some (h.put id (.row [a,b,c] ty g false)):=by
 have hl:Go.Sx.lay [x,y,z] 0 [a,b,c]=[a,b,c]:=rfl
 have hc:(Value.agg #[a,b,c]).cells=#[a,b,c]:=rfl
 have hsz:(some 3:Option Nat)=some (#[a,b,c]:Array Value).size:=rfl
 simp only[BW,hc,eB,GL,hg]
 rw[if_pos hsz,if_pos (by simp only[List.length_cons,List.length_nil,ho];simp[hf])]
 rfl
theorem iY {b t:Nat} (ht:t≤b) {T:Tr} {d:Nat} {v:Value} (hd:b<d):(T.put (some d) v).get t=T.get t:=Hd (b:=b+1) hd (by omega)
theorem NL {T:Tr} {v:Value}:T.put none v=T:=rfl
section
variable {call:AK} {N:Nat} {h:AA} {lo m k c e r n:Nat} {nm:ByteArray} {E:List Int} {tag:Nat→Nat} {vq vv vt vu vo:Value} {es:List (Value × Value)} {s:AN}
theorem Js (hsn:BZ call) {T:Tr} {at_:Nat} {x:AB} {K:BS} (hp:BN h lo m k c e r n nm E tag vq vv vt vu vo es s) (hx:s.rows[at_]?=some x)
  (t0:T.get 0=qP m 0) (t7:T.get 7=.pointer (some ⟨r,at_*5,none⟩))
  (hk1:∀ T' H,(EM s.things x.name).isSome=true→T'.get 6=iv 31→(∀ i,i<h.next→H.get i=h.get i)→h.next≤H.next→H.floor=h.floor→K.ap Tryd.prog call N .ret ⟨T',H⟩)
  (hk2:∀ T' H,EM s.things x.name=none→(∀ t,t≤8→T'.get t=T.get t)→(∀ i,i<h.next→H.get i=h.get i)→h.next≤H.next→H.floor=h.floor→WK Tryd.prog call N D8 ⟨T',H⟩ K):WK Tryd.prog call N D5 ⟨T,h⟩ K:=by
 show WK _ _ _ (.seq (.seq (.region _ _ true) _) D8) _ _
 rw[KG,KG]
 have c8:=hp.c8
 obtain⟨hlt,l0,l1,l2,l3,l4,lr⟩:=hp.row hx
 have hlook:=eA (x:=x.name) hp.known
 have hm:=hp.lm.2
 have hkn:=hp.lk.2
 have hr:=hp.pol.lr.2
 have hflo:h.floor≤h.next:=by have:=hp.fl;have:=hp.lm.1;omega
 have n1:(some m != some h.next)=true:=by simp;omega
 have n2:(some r != some h.next)=true:=by simp;omega
 have n3:(some k != some h.next)=true:=by simp;omega
 have hnew:(h.push (.row [iv 0,iv 0,iv 0] 116 false false)).get h.next=.row [iv 0,iv 0,iv 0] 116 false false:=BL
 have hst:=fun a b d=>dY (a:=iv a) (b:=iv b) (c:=iv d) hnew (by exact hflo) rfl
 have hold:∀ o i,i<h.next→((h.push (.row [iv 0,iv 0,iv 0] 116 false false)).put h.next o).get i=h.get i:=fun o i hi=>by rw[AQ (by show h.next<h.next+1;omega) (by omega),AM hi]
 have hfl0:flat (.agg #[iv 0,iv 0,iv 0])=true:=rfl
 have hcl0:=I9 [iv 0,iv 0,iv 0]
 have i1:C7 (qP m 8)=some m:=rfl
 have i2:C7 (.pointer (some ⟨r,at_*5+1,none⟩))=some r:=rfl
 have i3:C7 (.map (some k))=some k:=rfl
 have i4:C7 (qP h.next 0)=some h.next:=rfl
 refine WK.flags (ops:=k6) Ac ?_
 refine CN.begin ?_
 refine AF hsn 0 (some 27) (.move (.tmp 0)) none ?_
 simp only[rG,seval,AC,AE,AD,t0]
 refine AF hsn 1 (some 28) (.nilCheck (.tmp 27)) none ?_
 simp only[rG,seval,AC,AE,AD]
 refine AF hsn 2 (some 29) (.fieldAddr 83 (.tmp 28) 1) none ?_
 simp only[rG,seval,AC,AE,AD,Nat.zero_add,cF]
 refine AF hsn 3 (some 30) (.load 80 (.tmp 29)) none ?_
 simp only[rG,seval,AC,AE,AD,DS,YZ,c8]
 refine AF hsn 4 (some 31) (.move (.tmp 7)) none ?_
 simp only[rG,seval,AC,AE,AD,t7]
 refine AF hsn 5 (some 32) (.nilCheck (.tmp 31)) none ?_
 simp only[rG,seval,AC,AE,AD]
 refine AF hsn 6 (some 33) (.fieldAddr 46 (.tmp 32) 1) none ?_
 simp only[rG,seval,AC,AE,AD,IH]
 refine AF hsn 7 (some 34) (.load 9 (.tmp 33)) none ?_
 simp only[rG,seval,AC,AE,AD,DS,EC,l1]
 cases hf:EM s.things x.name with
 | some t=>
  rw[hf] at hlook
  refine AF hsn 8 (some 35) (.lookup 80 (.tmp 30) (.tmp 34) true) none ?_
  simp only[rG,seval,AC,AE,AD,DS,hlook,i3]
  refine AF hsn 9 (some 26) (.move (.tmp 35)) none ?_
  simp only[rG,seval,AC,AE,AD]
  refine AF hsn 10 (some 36) (.extract (.tmp 26) 0) none ?_
  simp only[rG,seval,AC,AE,AD,List.getElem?_toArray,List.getElem?_cons_zero]
  refine AF hsn 11 (some 37) (.extract (.tmp 26) 1) none ?_
  simp only[rG,seval,AC,AE,AD,List.getElem?_toArray,List.getElem?_cons_succ,List.getElem?_cons_zero]
  refine AF hsn 12 (some 9) (.alloc 116) none ?_
  simp only[rG,seval,AC,AE,AD,XD,RO,hfl0,hcl0]
  refine AF hsn 13 (none) (.store 116 (.tmp 9) (.tmp 36)) none ?_
  simp only[rG,seval,AC,AE,AD,DL,EI,hst,i4,DL,List.all_nil]
  refine AF hsn 14 (some 10) (.assign (.tmp 37)) none ?_
  simp only[rG,seval,AC,AE,AD]
  refine CN.done (i:=15) (by kernel_rfl) ?_
  simp only[eE,seval,↓eP,rP]
  exact hk1 _ _ (by rw[hf];rfl) (by simp only[Tr.get_put,if_true]) (hold _) (by show h.next≤h.next+1;omega) rfl
 | none=>
  rw[hf] at hlook
  refine AF hsn 8 (some 35) (.lookup 80 (.tmp 30) (.tmp 34) true) none ?_
  simp only[rG,seval,AC,AE,AD,DS,hlook,i3]
  refine AF hsn 9 (some 26) (.move (.tmp 35)) none ?_
  simp only[rG,seval,AC,AE,AD]
  refine AF hsn 10 (some 36) (.extract (.tmp 26) 0) none ?_
  simp only[rG,seval,AC,AE,AD,List.getElem?_toArray,List.getElem?_cons_zero]
  refine AF hsn 11 (some 37) (.extract (.tmp 26) 1) none ?_
  simp only[rG,seval,AC,AE,AD,List.getElem?_toArray,List.getElem?_cons_succ,List.getElem?_cons_zero]
  refine AF hsn 12 (some 9) (.alloc 116) none ?_
  simp only[rG,seval,AC,AE,AD,XD,RO,hfl0,hcl0]
  refine AF hsn 13 (none) (.store 116 (.tmp 9) (.tmp 36)) none ?_
  simp only[rG,seval,AC,AE,AD,DL,EI,hst,i4,DL,List.all_nil]
  refine AF hsn 14 (some 10) (.assign (.tmp 37)) none ?_
  simp only[rG,seval,AC,AE,AD]
  refine CN.done (i:=15) (by kernel_rfl) ?_
  simp only[eE,seval,↓eP,rP]
  refine hk2 _ _ hf (fun t ht=>?_) (hold _) (by show h.next≤h.next+1;omega) rfl
  simp only[iY ht,NL,Nat.reduceLT]
noncomputable def aE:Code:=rt Fd
theorem pV (hsn:BZ call) {T:Tr} {at_:Nat} {x:AB} {K:BS} {kd end_:Int} (hp:BN h lo m k c e r n nm E tag vq vv vt vu vo es s) (hx:s.rows[at_]?=some x) (hm:QT es s) (h1:1≤kd) (h4:kd≤4) (hcn:BA s kd<1000)
  (h80:∀ h',call 80 [iv kd] h'=some (iv (GA kd),h')) (hf:EM s.things x.name=none)
  (t0:T.get 0=qP m 0) (t2:T.get 2=iv end_) (t7:T.get 7=.pointer (some ⟨r,at_*5,none⟩)) (t8:T.get 8=iv kd)
  (hk1:∀ T',(BA s kd:Int)=GA kd→T'.get 6=iv 3→K.ap Tryd.prog call N .ret ⟨T',h⟩)
  (hk2:∀ T' H,(BA s kd:Int)≠GA kd→(∀ t,t≤8→T'.get t=T.get t)→BN H lo m k c e r n nm E tag vq vv vt vu vo (F5 (iv kd) (iv ((BA s kd:Int)+1)) es) { s with rows:=E9 s.rows at_ (BA s kd),things:=s.things++[⟨x.name,kd,(BA s kd:Int),end_⟩] } →
   (∀ i,i<lo∨(i<h.next∧11≤tag i)→H.get i=h.get i)→H.next=h.next→H.floor=h.floor→WK Tryd.prog call N aE ⟨T',H⟩ K):WK Tryd.prog call N D8 ⟨T,h⟩ K:=by
 show WK _ _ _ (.seq _ (.seq _ (.seq _ mF))) _ _
 have c9:=hp.c9
 have hlook:=Ip hp.many hm h1 h4
 have w1:IntKind.i64.wrap ((BA s kd:Int)+1)=(BA s kd:Int)+1:=CG (by omega) (by omega)
 have hput:=qT (v:=iv ((BA s kd:Int)+1)) hp.many hm h1 h4 (by have:=hp.fl;have:=hp.lc.1;omega)
 cases d1:((BA s kd:Int)==GA kd) with
 | true=>
  simp only[eE,seval,↓eP,rP,t0,t8,lN,gT,c9,hlook,h80,d1]
  exact hk1 _ (by simpa using d1) (by simp only[Tr.get_put,if_true])
 | false=>
  simp only[eE,seval,↓eP,rP,t0,t8,lN,gT,c9,hlook,h80,d1,w1,hput]
  have hp1:=hp.putC (F5 (iv kd) (iv ((BA s kd:Int)+1)) es)
  have hlo1:∀ i,i<lo∨(i<h.next∧11≤tag i)→(h.put c (.map (F5 (iv kd) (iv ((BA s kd:Int)+1)) es))).get i=h.get i:=fun i hi=>AQ hp.lc.2 (N1 hp.lc.1 (by rw[hp.tc];decide) hi)
  have hnx1:(h.put c (.map (F5 (iv kd) (iv ((BA s kd:Int)+1)) es))).next=h.next:=rfl
  have hfl1:(h.put c (.map (F5 (iv kd) (iv ((BA s kd:Int)+1)) es))).floor=h.floor:=rfl
  generalize h.put c (.map (F5 (iv kd) (iv ((BA s kd:Int)+1)) es))=H1 at *
  show WK _ _ _ (.seq (.region _ _ true) (.seq _ aE)) _ _
  rw[KG]
  have b8:=hp1.c8
  obtain⟨hlt,l0,l1,l2,l3,l4,lr⟩:=hp1.row hx
  have hpk:=vG (a:=kd) (b:=(BA s kd:Int)) (c:=end_) hp1.known hf (by have:=hp1.fl;have:=hp1.lk.1;omega)
  refine WK.flags (fs:=ZO) (by kernel_rfl) ?_
  unfold ZO
  iterate 14
   refine FO hsn ?_
   simp only[rG,seval,AC,AE,AD,DS,FA,DL,EI,FR,t0,cF,YZ,b8,t7,IH,EC,l1,t8,List.map_cons,List.map_nil,aG,t2,Ek,hpk]
  refine FT ?_
  have hp2:=hp1.putK (s.things++[⟨x.name,kd,(BA s kd:Int),end_⟩])
  have hlo2:∀ i,i<lo∨(i<h.next∧11≤tag i)→(H1.put k (.map ((s.things++[(⟨x.name,kd,(BA s kd:Int),end_⟩:FF)]).map I1))).get i=h.get i:=fun i hi=>by rw[AQ hp1.lk.2 (N1 hp1.lk.1 (by rw[hp1.tk];decide) hi)];exact hlo1 i hi
  have hnx2:(H1.put k (.map ((s.things++[(⟨x.name,kd,(BA s kd:Int),end_⟩:FF)]).map I1))).next=h.next:=hnx1
  have hfl2:(H1.put k (.map ((s.things++[(⟨x.name,kd,(BA s kd:Int),end_⟩:FF)]).map I1))).floor=h.floor:=hfl1
  generalize H1.put k (.map ((s.things++[(⟨x.name,kd,(BA s kd:Int),end_⟩:FF)]).map I1))=H2 at *
  have hrl:=H9 s.rows
  have hlen:=hp.pol.len
  have hst:=G1 (off:=at_*5+3) CT (v:=iv (BA s kd:Int)) rfl rfl hp2.pol.rows (by rw[hrl];omega) (by have:=hp2.fl;have:=hp2.pol.lr.1;omega)
  rw[RR hx] at hst
  have hp3:=hp2.putR (l:=E9 s.rows at_ (BA s kd:Int)) QX
  simp only[eE,seval,↓eP,rP,t7,hst]
  refine hk2 _ _ (by simpa using d1) (fun t ht=>?_) hp3 (fun i hi=>?_) hnx2 hfl2
  ·simp only[iY ht,NL,Nat.reduceLT]
  ·rw[AQ hp2.pol.lr.2 (N1 hp2.pol.lr.1 (by rw[hp2.pol.tr];decide) hi)]
   exact hlo2 i hi
def RU (kd:Int) (at_:Nat) (x:AB) (s:AN):AN:=
 { s with
   queues:=if kd=1 then s.queues++[(x.name,x.kind==3)] else s.queues
   vars:=if kd=2 then s.vars++[x.name] else s.vars
   tags:=if kd=3 then s.tags++[x.name] else s.tags
   rules:=if kd=4 then s.rules++[(at_:Int)+1] else s.rules
   on:=if kd=1 then s.on++[-1] else s.on }
theorem Hg (hsn:BZ call) {T:Tr} {at_:Nat} {x:AB} {K:BS} {kd:Int} (hp:BN h lo m k c e r n nm E tag vq vv vt vu vo es s) (hx:s.rows[at_]?=some x) (h1:1≤kd) (h4:kd≤4)
  (hb:s.queues.length<1000∧s.vars.length<1000∧s.tags.length<1000∧s.rules.length<1000∧s.on.length<1000) (hn:n<30000000000000)
  (t0:T.get 0=qP m 0) (t1:T.get 1=iv at_) (t7:T.get 7=.pointer (some ⟨r,at_*5,none⟩)) (t8:T.get 8=iv kd)
  (hk:∀ T' H tag' vq' vv' vt' vu' vo',T'.get 6=iv 0→BN H lo m k c e r n nm E tag' vq' vv' vt' vu' vo' es (RU kd at_ x s)→(∀ i,i<h.next→tag' i=tag i)→(∀ i,i<lo∨(i<h.next∧11≤tag i)→H.get i=h.get i)→h.next≤H.next→H.floor=h.floor→K.ap Tryd.prog call N .ret ⟨T',H⟩):WK Tryd.prog call N aE ⟨T,h⟩ K:=by
 show WK _ _ _ (.seq (.seq _ (.block _ _)) (.seq _ _)) _ _
 have hm:=hp.lm.2
 have hlm:=hp.lm.1
 have hflm:h.floor≤m:=by have:=hp.fl;omega
 obtain⟨hlt,l0,l1,l2,l3,l4,lr⟩:=hp.row hx
 have hk4:kd=1∨kd=2∨kd=3∨kd=4:=by omega
 have nl:∀ (o o':BB) i,i<lo∨(i<h.next∧11≤tag i)→∀ hh:AA,(∀ i,i<h.next→i<lo∨11≤tag i→hh.get i=h.get i)→hh.next=h.next+2→(hh.put m o).get i=h.get i:=fun o o' i hi hh h1 h2=>by rw[AQ (by omega) (N1 hlm (by rw[hp.tm];decide) hi),h1 i (by omega) (by omega)]
 have tg:∀ j i,i<h.next→(fun i=>if i=h.next+1 then j else tag i) i=tag i:=fun j i hi=>if_neg (by omega)
 rcases hk4 with rfl | rfl | rfl | rfl
 ·obtain⟨v',h1',a1,a2,a3,a4,a5,a6,a7,hp2⟩:=hp.appQ (x.name,x.kind==3) (by omega)
  have c2:=hp.c2
  have hfx:h1'.fl h.floor=h1':=by rw[← a5];exact K0 h1'
  have hst:BW Tryd.prog h1' 26 (qP m 2) v'=_:=G1 YU a4 a3 (a2.trans hp.cell) (by simp only[List.length_cons,List.length_nil];omega) (by rw[a5];exact hflm)
  have lo2:=nl (.row [.string nm,qS r n AG,v',vv,vt,vu,vo,iv s.miss,.map (some k),.map (some c)] 83 false false) .dead
  simp only[List.set_cons_succ,List.set_cons_zero] at hst
  simp only[eE,seval,↓eP,rP,t8]
  show WK _ _ _ (.region _ _ true) _ _
  refine WK.flags (fs:=ZQ) (by kernel_rfl) ?_
  unfold ZQ
  iterate 22
   refine FO hsn ?_
   simp only[rG,seval,AC,AE,AD,DS,FA,DL,EI,FR,t0,H8,FL,FP,c2,t7,IH,EC,l1,F6,CO,l0,List.map_cons,List.map_nil,bN,o7,MZ,a1,hfx,IL,hst]
  refine FT ?_
  have lo3:=fun i hi=>lo2 i hi h1' a7 a6
  have hfl3:(h1'.put m (.row [.string nm,qS r n AG,v',vv,vt,vu,vo,iv s.miss,.map (some k),.map (some c)] 83 false false)).floor=h.floor:=a5
  have hnx3:(h1'.put m (.row [.string nm,qS r n AG,v',vv,vt,vu,vo,iv s.miss,.map (some k),.map (some c)] 83 false false)).next=h.next+2:=a6
  generalize h1'.put m (.row [.string nm,qS r n AG,v',vv,vt,vu,vo,iv s.miss,.map (some k),.map (some c)] 83 false false)=H2 at *
  obtain⟨v2,h2',b1,b2,b3,b4,b5,b6,b7,hp3⟩:=hp2.appO (-1) (by simp only;omega)
  have d6:=hp2.c6
  have hst2:BW Tryd.prog h2' 28 (qP m 6) v2=_:=G1 MB b4 b3 (b2.trans hp2.cell) (by simp only[List.length_cons,List.length_nil];omega) (by rw[b5,hfl3];exact hflm)
  simp only[List.set_cons_succ,List.set_cons_zero] at hst2
  simp only[eE,seval,↓eP,rP,t0,H8,FZ,C3,d6,RF,b1,hst2]
  refine hk _ _ _ _ _ _ _ _ (by simp only[Tr.get_put,if_true]) hp3 (fun i hi=>?_) (fun i hi=>?_) ?_ (b5.trans hfl3)
  ·show (if i=H2.next+1 then 6 else if i=h.next+1 then 2 else tag i)=tag i
   rw[if_neg (by omega),if_neg (by omega)]
  ·rw[AQ (by omega) (N1 hlm (by rw[hp.tm];decide) hi),b7 i (by omega) (by show i<lo∨11≤(if i=h.next+1 then 2 else tag i);rw[if_neg (by omega)];omega),lo3 i hi]
  ·show h.next≤h2'.next;omega
 ·obtain⟨v',h1',a1,a2,a3,a4,a5,a6,a7,hp2⟩:=hp.appV x.name (by omega)
  have c3:=hp.c3
  have hfx:h1'.fl h.floor=h1':=by rw[← a5];exact K0 h1'
  have hst:BW Tryd.prog h1' 27 (qP m 3) v'=_:=G1 Q_ a4 a3 (a2.trans hp.cell) (by simp only[List.length_cons,List.length_nil];omega) (by rw[a5];exact hflm)
  simp only[List.set_cons_succ,List.set_cons_zero] at hst
  simp only[eE,seval,↓eP,rP,t8,Int.reduceBEq]
  show WK _ _ _ (.region _ _ true) _ _
  refine WK.flags (fs:=Z6) (by kernel_rfl) ?_
  unfold Z6
  iterate 16
   refine FO hsn ?_
   simp only[rG,seval,AC,AE,AD,DS,FA,DL,EI,FR,t0,H8,GF,EJ,c3,t7,IH,EC,l1,List.map_cons,List.map_nil,UV,MZ,a1,hfx,IL,hst]
  refine FT ?_
  simp only[eE,seval,↓eP,rP]
  refine hk _ _ _ _ _ _ _ _ (by simp only[Tr.get_put,if_true]) hp2 (tg _) (fun i hi=>nl _ .dead i hi h1' a7 a6) ?_ a5
  show h.next≤h1'.next;omega
 ·obtain⟨v',h1',a1,a2,a3,a4,a5,a6,a7,hp2⟩:=hp.appT x.name (by omega)
  have c4:=hp.c4
  have hfx:h1'.fl h.floor=h1':=by rw[← a5];exact K0 h1'
  have hst:BW Tryd.prog h1' 27 (qP m 4) v'=_:=G1 Q_ a4 a3 (a2.trans hp.cell) (by simp only[List.length_cons,List.length_nil];omega) (by rw[a5];exact hflm)
  simp only[List.set_cons_succ,List.set_cons_zero] at hst
  simp only[eE,seval,↓eP,rP,t8,Int.reduceBEq]
  show WK _ _ _ (.region _ _ true) _ _
  refine WK.flags (fs:=Y7) (by kernel_rfl) ?_
  unfold Y7
  iterate 16
   refine FO hsn ?_
   simp only[rG,seval,AC,AE,AD,DS,FA,DL,EI,FR,t0,H8,GG,EJ,c4,t7,IH,EC,l1,List.map_cons,List.map_nil,UV,MZ,a1,hfx,IL,hst]
  refine FT ?_
  simp only[eE,seval,↓eP,rP]
  refine hk _ _ _ _ _ _ _ _ (by simp only[Tr.get_put,if_true]) hp2 (tg _) (fun i hi=>nl _ .dead i hi h1' a7 a6) ?_ a5
  show h.next≤h1'.next;omega
 ·obtain⟨v',h1',a1,a2,a3,a4,a5,a6,a7,hp2⟩:=hp.appU ((at_:Int)+1) (by omega)
  have c5:=hp.c5
  have w1:IntKind.i64.wrap ((at_:Int)+1)=(at_:Int)+1:=CG (by omega) (by omega)
  have hst:BW Tryd.prog h1' 28 (qP m 5) v'=_:=G1 MB a4 a3 (a2.trans hp.cell) (by simp only[List.length_cons,List.length_nil];omega) (by rw[a5];exact hflm)
  simp only[List.set_cons_succ,List.set_cons_zero] at hst
  simp only[eE,seval,↓eP,rP,t0,t1,t8,Int.reduceBEq,H8,F0,C3,c5,w1,RF,a1,hst]
  refine hk _ _ _ _ _ _ _ _ (by simp only[Tr.get_put,if_true]) hp2 (tg _) (fun i hi=>nl _ .dead i hi h1' a7 a6) ?_ a5
  show h.next≤h1'.next;omega
end
structure I7 (s:AN):Prop where
 q:s.queues.length≤16
 v:s.vars.length≤16
 t:s.tags.length≤4
 u:s.rules.length≤64
 o:s.on.length=s.queues.length
 th:∀ t∈s.things,1≤t.kind∧t.kind≤4∧0≤t.num∧t.num<BA s t.kind∧0≤t.known
theorem PS (k:Int):0≤BJ k∧BJ k≤4:=by unfold BJ;(repeat' split) <;> omega
theorem kF (k:Int):0≤C8 k∧C8 k≤4:=by unfold C8;(repeat' split) <;> omega
theorem IG {l:List AB} {k:Nat} {n:Int} {x:AB} (hx:l[k]?=some x):(E9 l k n)[k]?=some { x with n:=n }:=by
 unfold E9
 rw[hx]
 simp[(List.getElem?_eq_some_iff.1 hx).1]
theorem Z_ {s:AN} (hw:I7 s) (k:Int):BA s k≤64:=by
 have:=hw.q;have:=hw.v;have:=hw.t;have:=hw.u
 unfold BA
 (repeat' split) <;> omega
section
variable {call:AK} {N:Nat} {h:AA} {lo m k c e r n:Nat} {nm:ByteArray} {E:List Int} {F:List Nat} {tag:Nat→Nat} {vq vv vt vu vo:Value} {es:List (Value × Value)} {s:AN}
def EE (h:AA) (lo m k c e r n:Nat) (nm:ByteArray) (E:List Int) (F:List Nat) (s:AN):Prop:=∃ tag vq vv vt vu vo es,BN h lo m k c e r n nm E tag vq vv vt vu vo es s∧QT es s∧I7 s∧∀ i∈F,i<h.next∧11≤tag i
def FG (h H:AA) (lo:Nat) (F:List Nat):Prop:=(∀ i,i<lo∨i∈F→H.get i=h.get i)∧h.next≤H.next∧H.floor=h.floor
theorem Cp {s s':AN} {kd:Int} {es:List (Value × Value)} (hm:QT es s) (h1:BA s' kd=BA s kd+1) (h2:∀ k,1≤k→k≤4→k≠kd→BA s' k=BA s k):QT (F5 (iv kd) (iv ((BA s kd:Int)+1)) es) s':=by
 refine⟨oP _ _ _ hm.1,fun k k1 k4=>?_⟩
 rw[kH _ _ _ _ hm.1]
 by_cases hk:k=kd
 ·subst hk
  rw[if_pos rfl,h1,if_neg (by omega)]
  rfl
 ·rw[if_neg hk,h2 k k1 k4 hk]
  exact hm.2 k k1 k4
theorem Z5 {s:AN} {at_:Nat} {end_:Int} {x:AB} {k:Int} (hk:1≤k∧k≤4):BA (DJ at_ end_ x s) k=BA s k+(if k=BJ x.kind then 1 else 0):=by
 have hd:=PS x.kind
 generalize hkd:BJ x.kind=kd at *
 unfold BA DJ
 rw[hkd]
 obtain rfl | rfl | rfl | rfl:k=1∨k=2∨k=3∨k=4:=by omega
 all_goals
  by_cases e:kd=1
  ·subst e;simp
  by_cases e2:kd=2
  ·subst e2;simp
  by_cases e3:kd=3
  ·subst e3;simp
  by_cases e4:kd=4
  ·subst e4;simp
  simp[e,e2,e3,e4,Ne.symm e,Ne.symm e2,Ne.symm e3,Ne.symm e4]
  try omega
theorem YJ {s:AN} {at_:Nat} {end_:Int} {x:AB} (hw:I7 s) (hkd:BJ x.kind≠0) (hne:(BA s (BJ x.kind):Int)≠GA (BJ x.kind)) (he:0≤end_):I7 (DJ at_ end_ x s):=by
 have hd:=PS x.kind
 have hq:=hw.q;have hv:=hw.v;have ht:=hw.t;have hu:=hw.u;have ho:=hw.o
 have hth:=hw.th
 have hcnt:=fun k (hk:1≤k∧k≤4)=>Z5 (s:=s) (at_:=at_) (end_:=end_) (x:=x) hk
 have key:∀ t∈(DJ at_ end_ x s).things,1≤t.kind∧t.kind≤4∧0≤t.num∧t.num<BA (DJ at_ end_ x s) t.kind∧0≤t.known:=by
  intro t htm
  simp only[DJ,List.mem_append,List.mem_cons,List.not_mem_nil,or_false] at htm
  rcases htm with htm | rfl
  ·obtain⟨a1,a2,a3,a4,a5⟩:=hth t htm
   rw[hcnt _ ⟨a1,a2⟩]
   exact⟨a1,a2,a3,by split <;> omega,a5⟩
  ·have hk1:1≤BJ x.kind:=by omega
   refine⟨hk1,hd.2,Int.natCast_nonneg _,?_,he⟩
   rw[hcnt _ ⟨hk1,hd.2⟩,if_pos rfl]
   simp only
   omega
 generalize hkd2:BJ x.kind=kd at *
 have e:∀ k,k=kd→1≤k→BA s k≠(GA k).toNat:=by
  intro k hk h1 h
  subst hk
  apply hne
  rw[h]
  unfold GA
  (repeat' split) <;> rfl
 constructor
 ·simp only[DJ,hkd2]
  split
  ·rename_i h1
   have:=e 1 h1.symm (by omega)
   simp[BA,GA] at this
   simp
   omega
  ·exact hq
 ·simp only[DJ,hkd2]
  split
  ·rename_i h1
   have:=e 2 h1.symm (by omega)
   simp[BA,GA] at this
   simp
   omega
  ·exact hv
 ·simp only[DJ,hkd2]
  split
  ·rename_i h1
   have:=e 3 h1.symm (by omega)
   simp[BA,GA] at this
   simp
   omega
  ·exact ht
 ·simp only[DJ,hkd2]
  split
  ·rename_i h1
   have:=e 4 h1.symm (by omega)
   simp[BA,GA] at this
   simp
   omega
  ·exact hu
 ·simp only[DJ,hkd2]
  split
  ·simp[ho]
  ·exact ho
 ·exact key
theorem Ih (hsn:BZ call) {at_:Nat} {end_:Int} {x:AB} (hp:EE h lo m k c e r n nm E F s) (hx:s.rows[at_]?=some x) (hkind:1≤x.kind∧x.kind≤54) (hn:n<30000000000000) (he:0≤end_)
  (h79:∀ k h',1≤k∧k≤54→call 79 [iv k] h'=some (iv (BJ k),h')) (h80:∀ k h',call 80 [iv k] h'=some (iv (GA k),h')) :
  ∃ h',AW Tryd.prog call N 51 [qP m 0,iv at_,iv end_] h=some (iv (C1 x s),h')∧(FG h h' lo F∧(C1 x s=0→EE h' lo m k c e r n nm E F (BD at_ end_ x s))):=by
 obtain⟨tag,vq,vv,vt,vu,vo,es,hp,hm,hw,hF⟩:=hp
 have hlF:∀ i,i<lo∨i∈F→i<lo∨(i<h.next∧11≤tag i):=fun i hi=>hi.imp id fun h=>hF i h
 have hll:∀ i,i<lo∨i∈F→i<h.next:=fun i hi=>by have:=hp.lm;have:=hlF i hi;omega
 refine E0 (R:=fun h'=>FG h h' lo F∧(C1 x s=0→EE h' lo m k c e r n nm E F (BD at_ end_ x s))) Tryd.func51 rfl (by simp[Tryd.f51]) ?_
 have hr:Tryd.f51.results.toList=[.tmp 6]:=rfl
 generalize hKK:BS.top (fun ex s_1=>(ex=DB.normal∨ex=DB.ret)∧∃ vs,EV Tryd.prog s_1 Tryd.f51.results.toList=some vs∧F7 vs=iv (C1 x s)∧FG h s_1.h lo F∧(C1 x s=0→EE s_1.h lo m k c e r n nm E F (BD at_ end_ x s)))=K
 have fin:∀ (T':Tr) H v,T'.get 6=iv v→v=C1 x s→FG h H lo F→(v=0→EE H lo m k c e r n nm E F (BD at_ end_ x s))→K.ap Tryd.prog call N .ret ⟨T',H⟩:=fun T' H v h6 hv ha hb=>by
  subst hv
  rw[← hKK]
  simp only[eE,↓reduceIte,Nat.reduceEqDiff,reduceCtorEq,↓eP,rP,Nat.reduceAdd,Nat.reduceLT,hr,h6]
  exact⟨ha,hb⟩
 show WK _ _ _ (.seq _ (.seq _ (.seq _ (.seq _ D5)))) _ _
 have hm1:=hp.c1
 obtain⟨hlt,l0,l1,l2,l3,l4,lr⟩:=hp.row hx
 have hd79:=fun h'=>h79 x.kind h' hkind
 have hdl:=PS x.kind
 by_cases d0:BJ x.kind=0
 ·have dE:C1 x s=0:=by unfold C1;rw[if_pos d0]
  have dS:BD at_ end_ x s=s:=by unfold BD;rw[if_pos d0]
  have b0:(BJ x.kind==0)=true:=by simpa using d0
  simp only[eE,seval,↓eP,rP,H8,DA,C0,hm1,HB hlt,l0,hd79,b0]
  exact fin _ _ 0 (by simp only[Tr.get_put,if_true]) dE.symm ⟨fun _ _=>rfl,Nat.le_refl _,rfl⟩ fun _=>by rw[dS];exact⟨tag,vq,vv,vt,vu,vo,es,hp,hm,hw,hF⟩
 ·have b0:(BJ x.kind==0)=false:=by simpa using d0
  simp only[eE,seval,↓eP,rP,H8,DA,C0,hm1,HB hlt,l0,hd79,b0]
  have hlh:lo≤h.next:=by have:=hp.lm;omega
  refine Js hsn hp hx (by simp only[eE,seval,↓eP,rP]) (by simp only[eE,seval,↓eP,rP]) (fun T' H hf h6 ho hn hf2=>?_) fun T' H hf hT ho hn1 hf2=>?_
  ·exact fin _ _ 31 h6 (by unfold C1;rw[if_neg d0,if_pos hf]) ⟨fun i hi=>ho i (hll i hi),hn,hf2⟩ fun h=>by cases h
  ·have hp1:BN H lo m k c e r n nm E tag vq vv vt vu vo es s:=hp.mono hn1 hf2 (fun _ _=>rfl) fun i _ hi=>ho i hi
   have hE1:¬ (EM s.things x.name).isSome=true:=by rw[hf];simp
   have cle:=Z_ hw (BJ x.kind)
   refine pV (end_:=end_) hsn hp1 hx hm (by omega) hdl.2 (by omega) (fun h'=>h80 _ h') hf (by rw[hT 0 (by decide)];simp only[eE,seval,↓eP,rP]) (by rw[hT 2 (by decide)];simp only[eE,seval,↓eP,rP]) (by rw[hT 7 (by decide)];simp only[eE,seval,↓eP,rP]) (by rw[hT 8 (by decide)];simp only[eE,seval,↓eP,rP]) (fun T2 hc h6=>?_) fun T2 H2 hc hT2 hp2 ho2 hn2 hf3=>?_
   ·exact fin _ _ 3 h6 (by unfold C1;rw[if_neg d0,if_neg hE1,if_pos hc]) ⟨fun i hi=>ho i (hll i hi),hn1,hf2⟩ fun h=>by cases h
   ·have hq:=hw.q;have hv:=hw.v;have ht:=hw.t;have hu:=hw.u;have ho':=hw.o
    refine Hg hsn hp2 (at_:=at_) (x:={ x with n:=(BA s (BJ x.kind):Int) }) (IG hx) (by omega) hdl.2 ⟨by show s.queues.length<1000;omega,by show s.vars.length<1000;omega,by show s.tags.length<1000;omega,by show s.rules.length<1000;omega,by show s.on.length<1000;omega⟩ hn
     (by rw[hT2 0 (by decide),hT 0 (by decide)];simp only[eE,seval,↓eP,rP]) (by rw[hT2 1 (by decide),hT 1 (by decide)];simp only[eE,seval,↓eP,rP]) (by rw[hT2 7 (by decide),hT 7 (by decide)];simp only[eE,seval,↓eP,rP]) (by rw[hT2 8 (by decide),hT 8 (by decide)];simp only[eE,seval,↓eP,rP]) fun T3 H3 tag' vq' vv' vt' vu' vo' h6 hp3 htg ho3 hn3 hf4=>?_
    have hS:BD at_ end_ x s=DJ at_ end_ x s:=by unfold BD;rw[if_neg d0]
    refine fin _ _ 0 h6 (by unfold C1;rw[if_neg d0,if_neg hE1,if_neg hc]) ⟨fun i hi=>by
     have h0:=hlF i hi
     rw[ho3 i (by omega),ho2 i (by omega),ho i (hll i hi)],by omega,by rw[hf4,hf3,hf2]⟩ fun _=>?_
    rw[hS]
    refine⟨tag',vq',vv',vt',vu',vo',_,hp3,Cp hm ?_ ?_,YJ hw d0 hc he,fun i hi=>?_⟩
    ·exact(Z5 ⟨by omega,hdl.2⟩).trans (by rw[if_pos rfl])
    ·intro k k1 k4 hk
     exact(Z5 ⟨k1,k4⟩).trans (by rw[if_neg hk,Nat.add_zero])
    ·have h0:=hF i hi
     rw[htg i (by omega)]
     exact⟨by omega,h0.2⟩
end
theorem LY {P:Program}:BC P Go.program=some P:=rfl
theorem HS {P:Program} {α:Type} {a:α}:BC P (pure a:Sem α)=some a:=rfl
theorem K_ {P:Program} {t:TypeId} {k0 k:IntKind} {a b:Int} (h:P.underlying t=some (.int k0)) (d:Nat):BC P (Op.equalIn (d+1) t (.int k a) (.int k b))=some (a==b):=by
 rw[Op.equalIn,CW,M4 h]
 simp[HS]
theorem WX {a b:Int}:BC Tryd.prog (part 3 #[.int .i64 a,.int .i64 b] 0)=some (.int .i64 a)∧BC Tryd.prog (part 3 #[.int .i64 a,.int .i64 b] 1)=some (.int .i64 b)∧BC Tryd.prog (part 31 #[.int .i64 a,.int .i64 b] 0)=some (.int .i64 a):=⟨rfl,rfl,rfl⟩
theorem x_:Tryd.prog.stoodInHeld 114=false:=by kernel_rfl
theorem Gd:Tryd.prog.eqGuardType Tryd.prog.depth 33=false:=by kernel_rfl
theorem Dd:Tryd.prog.stoodInHeld 33=false:=by kernel_rfl
abbrev DM (a b:Int):Value:=.agg #[.int .i64 a,.int .i64 b]
theorem bI {a b:Int}:flat (DM a b)=true:=rfl
theorem yA {a b c d:Int} (n:Nat):BC Tryd.prog (Op.equalIn (n+2) 114 (DM a b) (DM c d))=some (a==c&&b==d):=by
 rw[Op.equalIn,CW,M4 Tryd.underlying114]
 simp only[Option.bind_some,CW,LY,x_,Bool.false_eq_true,if_false]
 simp only[List.forIn_toArray,List.forIn_cons,List.forIn_nil,ne_eq,String.reduceEq,not_false_eq_true,if_true,CW,WX.1,Option.bind_some,K_ Tryd.underlying3]
 cases h1:(a==c) <;> cases h2:(b==d) <;> simp[CW,HS,WX.2.1,K_ Tryd.underlying3,h2,-beq_iff_eq,-beq_eq_false_iff_ne]
theorem mA {a b c d:Int} (n:Nat):BC Tryd.prog (Op.equalIn (n+2) 33 (DM a b) (DM c d))=some (a==c&&b==d):=by
 rw[Op.equalIn,CW,M4 Tryd.underlying33]
 simp only[Option.bind_some,CW,LY,Dd,Bool.false_eq_true,if_false]
 simp only[List.forIn_toArray,List.forIn_cons,List.forIn_nil,ne_eq,String.reduceEq,not_false_eq_true,if_true,CW,WX.2.2,Option.bind_some,K_ Tryd.underlying3,K_ Tryd.underlying31]
 cases h1:(a==c) <;> cases h2:(b==d) <;> simp[CW,HS,WX.2.1,K_ Tryd.underlying3,K_ Tryd.underlying31,h2,-beq_iff_eq,-beq_eq_false_iff_ne]
theorem eH {x y:Operand} {a b c d:Int}:B0 Tryd.prog .neq 114 x y (DM a b) (DM c d)=some (.bool (!(a==c&&b==d))):=by
 have e:BC Tryd.prog (do eqGuard .neq 114 x y (DM a b) (DM c d);binOp .neq 114 (DM a b) (DM c d))=some (.bool (!(a==c&&b==d))):=by
  rw[CW]
  have g:BC Tryd.prog (eqGuard .neq 114 x y (DM a b) (DM c d))=some ():=by
   unfold eqGuard
   simp[CW,LY,HS]
  rw[g]
  show BC Tryd.prog ((do pure (.bool (!(← Op.equal 114 (DM a b) (DM c d))))):Sem Value)=_
  rw[CW]
  have k:BC Tryd.prog (Op.equal 114 (DM a b) (DM c d))=some (a==c&&b==d):=yA 9998
  rw[k]
  rfl
 simp only[B0,bI,Bool.and_self,if_true,e,KF]
noncomputable def C5:Code:=rt (rt (rt (rt (Tryd.f52.body.getD .skip))))
noncomputable def fJ:Array Oper:=DY Tryd.f52 5
def qD:List (Bool × Bool × List Operand):=[BI,BI,BI,BI,AS [.tmp 26],AS [.tmp 26],AS [.tmp 26],AS [.tmp 26],AT,AT,AT,AT,AS [.tmp 26,.tmp 30,.tmp 27],AT,AT]
theorem xB:D9 fJ=qD:=by kernel_rfl
theorem dI {a b c:Value} {ty:TypeId} {g ro:Bool}:CD 2 0 (.row [a,b,c] ty g ro)=some (.agg #[a,b]):=rfl
section
variable {call:AK} {N:Nat} {h:AA} {lo m k c e r n:Nat} {nm:ByteArray} {E:List Int} {F:List Nat} {tag:Nat→Nat} {vq vv vt vu vo:Value} {es:List (Value × Value)} {s:AN}
theorem eU {s:AN} {l:List AB} {k:Int}:BA { s with rows:=l } k=BA s k:=rfl
theorem qO (hsn:BZ call) {at_:Nat} {x:AB} (hp:EE h lo m k c e r n nm E F s) (hx:s.rows[at_]?=some x) (hkind:1≤x.kind∧x.kind≤54) (hn:n<30000000000000)
  (h81:∀ k h',1≤k∧k≤54→call 81 [iv k] h'=some (iv (C8 k),h')) :
  ∃ h',AW Tryd.prog call N 52 [qP m 0,iv at_] h=some (iv (CA at_ x s),h')∧(FG h h' lo F∧(CA at_ x s=0→EE h' lo m k c e r n nm E F (BM at_ x s))):=by
 obtain⟨tag,vq,vv,vt,vu,vo,es,hp,hm,hw,hF⟩:=hp
 have hlF:∀ i,i<lo∨i∈F→i<lo∨(i<h.next∧11≤tag i):=fun i hi=>hi.imp id fun h=>hF i h
 have hll:∀ i,i<lo∨i∈F→i<h.next:=fun i hi=>by have:=hp.lm;have:=hlF i hi;omega
 refine E0 (R:=fun h'=>FG h h' lo F∧(CA at_ x s=0→EE h' lo m k c e r n nm E F (BM at_ x s))) Tryd.func52 rfl (by simp[Tryd.f52]) ?_
 have hr:Tryd.f52.results.toList=[.tmp 4]:=rfl
 generalize hKK:BS.top (fun ex s_1=>(ex=DB.normal∨ex=DB.ret)∧∃ vs,EV Tryd.prog s_1 Tryd.f52.results.toList=some vs∧F7 vs=iv (CA at_ x s)∧FG h s_1.h lo F∧(CA at_ x s=0→EE s_1.h lo m k c e r n nm E F (BM at_ x s)))=K
 have fin:∀ (T':Tr) H v,T'.get 4=iv v→v=CA at_ x s→FG h H lo F→(v=0→EE H lo m k c e r n nm E F (BM at_ x s))→K.ap Tryd.prog call N .ret ⟨T',H⟩:=fun T' H v h6 hv ha hb=>by
  subst hv
  rw[← hKK]
  simp only[eE,↓reduceIte,Nat.reduceEqDiff,reduceCtorEq,↓eP,rP,Nat.reduceAdd,Nat.reduceLT,hr,h6]
  exact⟨ha,hb⟩
 show WK _ _ _ (.seq _ (.seq _ (.seq _ (.seq _ C5)))) _ _
 have hm1:=hp.c1
 obtain⟨hlt,l0,l1,l2,l3,l4,lr⟩:=hp.row hx
 have hd81:=fun h'=>h81 x.kind h' hkind
 have hdl:=kF x.kind
 by_cases d0:C8 x.kind=0
 ·have dE:CA at_ x s=0:=by unfold CA;rw[if_pos d0]
  have dS:BM at_ x s=s:=by unfold BM;rw[if_pos d0]
  have b0:(C8 x.kind==0)=true:=by simpa using d0
  simp only[eE,seval,↓eP,rP,H8,DA,C0,hm1,HB hlt,l0,hd81,b0]
  exact fin _ _ 0 (by simp only[Tr.get_put,if_true]) dE.symm ⟨fun _ _=>rfl,Nat.le_refl _,rfl⟩ fun _=>by rw[dS];exact⟨tag,vq,vv,vt,vu,vo,es,hp,hm,hw,hF⟩
 ·have b0:(C8 x.kind==0)=false:=by simpa using d0
  simp only[eE,seval,↓eP,rP,H8,DA,C0,hm1,HB hlt,l0,hd81,b0]
  have hlh:lo≤h.next:=by have:=hp.lm;omega
  show WK _ _ _ (.seq (.region _ _ true) _) _ _
  rw[KG]
  have c8:=hp.c8
  have hlook:=eA (x:=x.name) hp.known
  have hmn:=hp.lm.2
  have hkn:=hp.lk.2
  have hrn:=hp.pol.lr.2
  have hflo:h.floor≤h.next:=by have:=hp.fl;omega
  have n1:(some m != some h.next)=true:=by simp;omega
  have n2:(some r != some h.next)=true:=by simp;omega
  have n3:(some k != some h.next)=true:=by simp;omega
  have hnew:(h.push (.row [iv 0,iv 0,iv 0] 116 false false)).get h.next=.row [iv 0,iv 0,iv 0] 116 false false:=BL
  have hst:=fun a b d=>dY (a:=iv a) (b:=iv b) (c:=iv d) hnew (by exact hflo) rfl
  have hold:∀ o i,i<h.next→((h.push (.row [iv 0,iv 0,iv 0] 116 false false)).put h.next o).get i=h.get i:=fun o i hi=>by rw[AQ (by show h.next<h.next+1;omega) (by omega),AM hi]
  have hgn:∀ o,((h.push (.row [iv 0,iv 0,iv 0] 116 false false)).put h.next o).get h.next=o:=fun o=>CE rfl (by show h.next<h.next+1;omega)
  have hfl0:flat (.agg #[iv 0,iv 0,iv 0])=true:=rfl
  have hcl0:=I9 [iv 0,iv 0,iv 0]
  have i1:C7 (qP m 8)=some m:=rfl
  have i2:C7 (.pointer (some ⟨r,at_*5+1,none⟩))=some r:=rfl
  have i3:C7 (.map (some k))=some k:=rfl
  have i4:C7 (qP h.next 0)=some h.next:=rfl
  refine WK.flags (ops:=fJ) xB ?_
  refine CN.begin ?_
  refine AF hsn 0 (some 24) (.move (.tmp 0)) none ?_
  simp only[rG,seval,AC,AE,AD,Tr.get_set]
  refine AF hsn 1 (some 25) (.nilCheck (.tmp 24)) none ?_
  simp only[rG,seval,AC,AE,AD]
  refine AF hsn 2 (some 26) (.fieldAddr 83 (.tmp 25) 1) none ?_
  simp only[rG,seval,AC,AE,AD,Nat.zero_add,cF]
  refine AF hsn 3 (some 27) (.load 80 (.tmp 26)) none ?_
  simp only[rG,seval,AC,AE,AD,DS,YZ,c8]
  refine AF hsn 4 (some 28) (.move (.tmp 5)) none ?_
  simp only[rG,seval,AC,AE,AD]
  refine AF hsn 5 (some 29) (.nilCheck (.tmp 28)) none ?_
  simp only[rG,seval,AC,AE,AD]
  refine AF hsn 6 (some 30) (.fieldAddr 46 (.tmp 29) 1) none ?_
  simp only[rG,seval,AC,AE,AD,IH]
  refine AF hsn 7 (some 31) (.load 9 (.tmp 30)) none ?_
  simp only[rG,seval,AC,AE,AD,DS,EC,l1]
  cases hf:EM s.things x.name with
  | none=>
   rw[hf] at hlook
   refine AF hsn 8 (some 32) (.lookup 80 (.tmp 27) (.tmp 31) true) none ?_
   simp only[rG,seval,AC,AE,AD,DS,hlook,i3]
   refine AF hsn 9 (some 23) (.move (.tmp 32)) none ?_
   simp only[rG,seval,AC,AE,AD]
   refine AF hsn 10 (some 33) (.extract (.tmp 23) 0) none ?_
   simp only[rG,seval,AC,AE,AD,List.getElem?_toArray,List.getElem?_cons_zero]
   refine AF hsn 11 (some 34) (.extract (.tmp 23) 1) none ?_
   simp only[rG,seval,AC,AE,AD,List.getElem?_toArray,List.getElem?_cons_succ,List.getElem?_cons_zero]
   refine AF hsn 12 (some 7) (.alloc 116) none ?_
   simp only[rG,seval,AC,AE,AD,XD,RO,hfl0,hcl0]
   refine AF hsn 13 (none) (.store 116 (.tmp 7) (.tmp 33)) none ?_
   simp only[rG,seval,AC,AE,AD,DL,EI,hst,i4,DL,List.all_nil]
   refine AF hsn 14 (some 8) (.assign (.tmp 34)) none ?_
   simp only[rG,seval,AC,AE,AD]
   refine CN.done (i:=15) (by kernel_rfl) ?_
   have dE:CA at_ x s=32:=by unfold CA;rw[if_neg d0,hf]
   simp only[eE,seval,↓eP,rP]
   exact fin _ _ 32 (by simp only[Tr.get_put,if_true]) dE.symm ⟨fun i hi=>hold _ i (hll i hi),by show h.next≤h.next+1;omega,rfl⟩ fun h=>by cases h
  | some t=>
   rw[hf] at hlook
   refine AF hsn 8 (some 32) (.lookup 80 (.tmp 27) (.tmp 31) true) none ?_
   simp only[rG,seval,AC,AE,AD,DS,hlook,i3]
   refine AF hsn 9 (some 23) (.move (.tmp 32)) none ?_
   simp only[rG,seval,AC,AE,AD]
   refine AF hsn 10 (some 33) (.extract (.tmp 23) 0) none ?_
   simp only[rG,seval,AC,AE,AD,List.getElem?_toArray,List.getElem?_cons_zero]
   refine AF hsn 11 (some 34) (.extract (.tmp 23) 1) none ?_
   simp only[rG,seval,AC,AE,AD,List.getElem?_toArray,List.getElem?_cons_succ,List.getElem?_cons_zero]
   refine AF hsn 12 (some 7) (.alloc 116) none ?_
   simp only[rG,seval,AC,AE,AD,XD,RO,hfl0,hcl0]
   refine AF hsn 13 (none) (.store 116 (.tmp 7) (.tmp 33)) none ?_
   simp only[rG,seval,AC,AE,AD,DL,EI,hst,i4,DL,List.all_nil]
   refine AF hsn 14 (some 8) (.assign (.tmp 34)) none ?_
   simp only[rG,seval,AC,AE,AD]
   refine CN.done (i:=15) (by kernel_rfl) ?_
   have hp1:BN ((h.push (.row [iv 0,iv 0,iv 0] 116 false false)).put h.next (.row [iv t.kind,iv t.num,iv t.known] 116 false false)) lo m k c e r n nm E tag vq vv vt vu vo es s:=hp.putNew
   have hgo:=hold (.row [iv t.kind,iv t.num,iv t.known] 116 false false)
   have hgd:=hgn (.row [iv t.kind,iv t.num,iv t.known] 116 false false)
   have hnx:((h.push (.row [iv 0,iv 0,iv 0] 116 false false)).put h.next (.row [iv t.kind,iv t.num,iv t.known] 116 false false)).next=h.next+1:=rfl
   have hfl:((h.push (.row [iv 0,iv 0,iv 0] 116 false false)).put h.next (.row [iv t.kind,iv t.num,iv t.known] 116 false false)).floor=h.floor:=rfl
   generalize (h.push (.row [iv 0,iv 0,iv 0] 116 false false)).put h.next (.row [iv t.kind,iv t.num,iv t.known] 116 false false)=H1 at *
   generalize hdd:h.next=d at *
   have htm:t∈s.things:=List.mem_of_find?_eq_some hf
   obtain⟨q1,q2,q3,q4,q5⟩:=hw.th t htm
   cases dk:decide (t.known>(at_:Int)) with
   | true=>
    have dE:CA at_ x s=32:=by unfold CA;rw[if_neg d0,hf];simp only;rw[if_pos (by simpa using dk)]
    simp only[eE,seval,↓eP,rP,aA,hgd,dk]
    exact fin _ _ 32 (by simp only[Tr.get_put,if_true]) dE.symm ⟨fun i hi=>hgo i (hll i hi),by omega,hfl⟩ fun h=>by cases h
   | false=>
    have dk':¬ t.known>(at_:Int):=by simpa using dk
    cases dq:(t.kind==C8 x.kind) with
    | false=>
     have dE:CA at_ x s=33:=by unfold CA;rw[if_neg d0,hf];simp only;rw[if_neg dk',if_pos (by simpa using dq)]
     simp only[eE,seval,↓eP,rP,aA,fE,jZ,mC,hgd,dk,dI,aG,eH,dq]
     exact fin _ _ 33 (by simp only[Tr.get_put,if_true]) dE.symm ⟨fun i hi=>hgo i (hll i hi),by omega,hfl⟩ fun h=>by cases h
    | true=>
     have dq':¬ t.kind≠C8 x.kind:=by simpa using dq
     have dE:CA at_ x s=0:=by unfold CA;rw[if_neg d0,hf];simp only;rw[if_neg dk',if_neg dq']
     have dS:BM at_ x s={ s with rows:=E9 s.rows at_ t.num }:=by unfold BM;rw[if_neg d0,hf]
     have hrl:=H9 s.rows
     have hlen:=hp1.pol.len
     have hst3:=G1 (off:=at_*5+3) CT (v:=iv t.num) rfl rfl hp1.pol.rows (by rw[hrl];omega) (by have:=hp1.fl;have:=hp1.pol.lr.1;omega)
     rw[RR hx] at hst3
     have hp3:=hp1.putR (l:=E9 s.rows at_ t.num) QX
     simp only[eE,seval,↓eP,rP,aA,fE,jZ,mC,hgd,dk,dI,aG,eH,dq,hst3]
     refine fin _ _ 0 (by simp only[Tr.get_put,if_true]) dE.symm ⟨fun i hi=>?_,by show h.next≤H1.next;omega,hfl⟩ fun _=>?_
     ·rw[AQ hp1.pol.lr.2 (N1 (h:=h) (tag:=tag) hp1.pol.lr.1 (by rw[hp1.pol.tr];decide) (by rw[hdd];exact hlF i hi))]
      exact hgo i (hll i hi)
     ·rw[dS]
      exact⟨tag,vq,vv,vt,vu,vo,es,hp3,hm,⟨hw.q,hw.v,hw.t,hw.u,hw.o,hw.th⟩,fun i hi=>⟨by have h0:=hF i hi;show i<H1.next;omega,(hF i hi).2⟩⟩
end
noncomputable def E4:Code:=rt (rt (rt (Tryd.f53.body.getD .skip)))
def XR:List (Bool × Bool × List Operand):=[BI,BI,BI,BI,BI,AS [.tmp 29],AS [.tmp 29],AT,AT]
section
variable {call:AK} {N:Nat} {h H:AA} {lo m k c e r n:Nat} {nm:ByteArray} {E:List Int} {F:List Nat} {tag:Nat→Nat} {vq vv vt vu vo:Value} {es:List (Value × Value)} {s:AN}
theorem BN.putMiss (hp:BN h lo m k c e r n nm E tag vq vv vt vu vo es s) (x:Int):BN (h.put m (.row [.string nm,qS r n AG,vq,vv,vt,vu,vo,iv x,.map (some k),.map (some c)] 83 false false)) lo m k c e r n nm E tag vq vv vt vu vo es { s with miss:=x }:=by
 have h0:∀ i,tag i≠0→(h.put m (.row [.string nm,qS r n AG,vq,vv,vt,vu,vo,iv x,.map (some k),.map (some c)] 83 false false)).get i=h.get i:=fun i hi=>AQ hp.lm.2 (FE (tag:=tag) (by rw[hp.tm];exact fun e=>hi e.symm))
 have hq:=hp.pol.mono (h':=h.put m (.row [.string nm,qS r n AG,vq,vv,vt,vu,vo,iv x,.map (some k),.map (some c)] 83 false false)) (Nat.le_refl _) (fun _ _=>rfl) fun i _ _ h1 _=>h0 i (by omega)
 exact hp.pol' (Nat.le_refl _) rfl (fun _ _=>rfl) (fun i _ _ h1=>h0 i (by omega)) (CE rfl hp.lm.2) ⟨hq.rows,hq.len,hq.tr,hq.lr,hq.q,hq.v,hq.t,hq.u,hq.o⟩ rfl
theorem BN.putOn (hp:BN h lo m k c e r n nm E tag vq vv vt vu vo es s) {i:Nat} (hi:i<s.on.length) (x:Int):∃ id ex,vo=qS id s.on.length AG∧h.get id=.row (ints s.on++ex) 3 true false∧lo≤id∧id<h.next∧tag id=6 ∧
  BN (h.put id (.row ((ints s.on++ex).set i (iv x)) 3 true false)) lo m k c e r n nm E tag vq vv vt vu vo es { s with on:=s.on.set i x }:=by
 rcases hp.pol.o with⟨h0,_,_⟩ | ⟨id,ex,h1,h2,h3,h4,h5⟩
 ·omega
 ·refine⟨id,ex,h1,h2,h3,h4,h5,?_⟩
  have hset:(ints s.on++ex).set i (iv x)=ints (s.on.set i x)++ex:=by
   rw[List.set_append_left _ _ (by rw[FH];exact hi),TH]
  rw[hset]
  have h0:∀ j,tag j≠6→(h.put id (.row (ints (s.on.set i x)++ex) 3 true false)).get j=h.get j:=fun j hj=>AQ h4 (FE (tag:=tag) (by rw[h5];exact fun e=>hj e.symm))
  have hq:=hp.pol
  refine hp.pol' (Nat.le_refl _) rfl (fun _ _=>rfl) (fun j _ _ h1=>h0 j (by omega)) (by rw[h0 m (by rw[hp.tm];decide)];exact hp.cell) ?_ rfl
  refine⟨by rw[h0 r (by rw[hq.tr];decide)];exact hq.rows,hq.len,hq.tr,hq.lr,hq.q.mono (Nat.le_refl _) (fun _ _=>rfl) fun j _ _ h3=>h0 j (by omega),hq.v.mono (Nat.le_refl _) (fun _ _=>rfl) fun j _ _ h3=>h0 j (by omega),hq.t.mono (Nat.le_refl _) (fun _ _=>rfl) fun j _ _ h3=>h0 j (by omega),hq.u.mono (Nat.le_refl _) (fun _ _=>rfl) fun j _ _ h3=>h0 j (by omega),?_⟩
  refine .inr ⟨id,ex,by rw[h1,List.length_set],CE rfl h4,h3,h4,h5⟩
theorem eJ {l:List Int} {ex:List Value} {i:Nat} {x:Int} {ty:TypeId} {g ro:Bool} (hx:l[i]?=some x):AO i (.row (ints l++ex) ty g ro)=some (iv x):=by
 have hl:=(List.getElem?_eq_some_iff.1 hx).1
 simp only[AO]
 rw[List.getElem?_append_left (by rw[FH];exact hl),S4,hx]
 rfl
theorem Bj (hsn:BZ call) {at_:Nat} {x:AB} (hp:EE h lo m k c e r n nm E F s) (hx:s.rows[at_]?=some x) (hkind:1≤x.kind∧x.kind≤54) (hn:n<30000000000000) (hxn:DU x.kind=true→x.kind≠10→0≤x.n∧x.n<s.on.length)
  (h82:∀ k h',1≤k∧k≤54→call 82 [iv k] h'=some (.bool (DU k),h')) :
  ∃ h',AW Tryd.prog call N 53 [qP m 0,iv at_] h=some (iv (CH x s),h')∧(FG h h' lo F∧(CH x s=0→EE h' lo m k c e r n nm E F (CQ at_ x s))):=by
 obtain⟨tag,vq,vv,vt,vu,vo,es,hp,hm,hw,hF⟩:=hp
 have hlF:∀ i,i<lo∨i∈F→i<lo∨(i<h.next∧11≤tag i):=fun i hi=>hi.imp id fun h=>hF i h
 have hll:∀ i,i<lo∨i∈F→i<h.next:=fun i hi=>by have:=hp.lm;have:=hlF i hi;omega
 refine E0 (R:=fun h'=>FG h h' lo F∧(CH x s=0→EE h' lo m k c e r n nm E F (CQ at_ x s))) Tryd.func53 rfl (by simp[Tryd.f53]) ?_
 have hr:Tryd.f53.results.toList=[.tmp 4]:=rfl
 generalize hKK:BS.top (fun ex s_1=>(ex=DB.normal∨ex=DB.ret)∧∃ vs,EV Tryd.prog s_1 Tryd.f53.results.toList=some vs∧F7 vs=iv (CH x s)∧FG h s_1.h lo F∧(CH x s=0→EE s_1.h lo m k c e r n nm E F (CQ at_ x s)))=K
 have fin:∀ (T':Tr) H v,T'.get 4=iv v→v=CH x s→FG h H lo F→(v=0→EE H lo m k c e r n nm E F (CQ at_ x s))→K.ap Tryd.prog call N .ret ⟨T',H⟩:=fun T' H v h6 hv ha hb=>by
  subst hv
  rw[← hKK]
  simp only[eE,↓reduceIte,Nat.reduceEqDiff,reduceCtorEq,↓eP,rP,Nat.reduceAdd,Nat.reduceLT,hr,h6]
  exact⟨ha,hb⟩
 show WK _ _ _ (.seq _ (.seq _ (.seq _ E4))) _ _
 have hm1:=hp.c1
 obtain⟨hlt,l0,l1,l2,l3,l4,lr⟩:=hp.row hx
 have hev:=fun h'=>h82 x.kind h' hkind
 have hflo:h.floor≤h.next:=by have:=hp.fl;have:=hp.lm;omega
 have hflT:(h.floor≤h.next)=True:=by simpa using hflo
 have hlh:lo≤h.next:=by have:=hp.lm;omega
 have hrn:=hp.pol.lr.2
 have hmn:=hp.lm.2
 have hrF:(r=h.next)=False:=by simp;omega
 have hmF:(m=h.next)=False:=by simp;omega
 have hltT:(h.next<h.next+1)=True:=by simp
 have hp1:=fun o o'=>hp.putNew (o:=o) (o':=o')
 have hone:([.int .i64 x.kind,.string x.name,.int .i64 x.ends,.int .i64 x.n,.int .i64 x.kids]:List Value).all one=true:=rfl
 have hz:flat (.agg #[.int .i64 0,.string ByteArray.empty,.int .i64 0,.int .i64 0,.int .i64 0])=true:=rfl
 have hzc:=I9 CP
 have hst:BW Tryd.prog (h.push (.row CP 46 false false)) 46 (qP h.next 0) (.agg #[.int .i64 x.kind,.string x.name,.int .i64 x.ends,.int .i64 x.n,.int .i64 x.kids])=some ((h.push (.row CP 46 false false)).put h.next (.row [.int .i64 x.kind,.string x.name,.int .i64 x.ends,.int .i64 x.n,.int .i64 x.kids] 46 false false)):=by
  rw[DC,BL,PU,if_pos ⟨hflo,hone⟩]
 have hp1:BN ((h.push (.row CP 46 false false)).put h.next (.row [.int .i64 x.kind,.string x.name,.int .i64 x.ends,.int .i64 x.n,.int .i64 x.kids] 46 false false)) lo m k c e r n nm E tag vq vv vt vu vo es s:=hp.putNew
 have hgd:((h.push (.row CP 46 false false)).put h.next (.row [.int .i64 x.kind,.string x.name,.int .i64 x.ends,.int .i64 x.n,.int .i64 x.kids] 46 false false)).get h.next=.row [.int .i64 x.kind,.string x.name,.int .i64 x.ends,.int .i64 x.n,.int .i64 x.kids] 46 false false:=CE rfl (by show h.next<h.next+1;omega)
 have hgo:∀ i,i<h.next→((h.push (.row CP 46 false false)).put h.next (.row [.int .i64 x.kind,.string x.name,.int .i64 x.ends,.int .i64 x.n,.int .i64 x.kids] 46 false false)).get i=h.get i:=fun i hi=>by rw[AQ (by show h.next<h.next+1;omega) (by omega),AM hi]
 have hnx:((h.push (.row CP 46 false false)).put h.next (.row [.int .i64 x.kind,.string x.name,.int .i64 x.ends,.int .i64 x.n,.int .i64 x.kids] 46 false false)).next=h.next+1:=rfl
 have hfl:((h.push (.row CP 46 false false)).put h.next (.row [.int .i64 x.kind,.string x.name,.int .i64 x.ends,.int .i64 x.n,.int .i64 x.kids] 46 false false)).floor=h.floor:=rfl
 generalize hH1:(h.push (.row CP 46 false false)).put h.next (.row [.int .i64 x.kind,.string x.name,.int .i64 x.ends,.int .i64 x.n,.int .i64 x.kids] 46 false false)=H1 at *
 have hw1:IntKind.i64.wrap ((at_:Int)+1)=(at_:Int)+1:=CG (by omega) (by omega)
 have after1:FG h H1 lo F:=⟨fun i hi=>hgo i (hll i hi),by omega,hfl⟩
 have hF1:∀ i∈F,i<H1.next∧11≤tag i:=fun i hi=>⟨by have h0:=hF i hi;omega,(hF i hi).2⟩
 have e46:=@IU
 cases d0:DU x.kind with
 | false=>
  have dE:CH x s=0:=by unfold CH;rw[if_pos d0]
  have dS:CQ at_ x s=s:=by unfold CQ;rw[if_pos d0]
  simp only[eE,seval,↓eP,Nat.reduceAdd,Nat.zero_add,H8,DA,C0,IU,CO,hm1,HB hlt,lr,F8,hz,hzc,hst,hgd,F6,IC,hev,d0]
  exact fin _ _ 0 (by simp only[Tr.get_put,if_true]) dE.symm after1 fun _=>by rw[dS];exact⟨tag,vq,vv,vt,vu,vo,es,hp1,hm,hw,hF1⟩
 | true=>
  simp only[eE,seval,↓eP,Nat.reduceAdd,Nat.zero_add,H8,DA,C0,IU,CO,hm1,HB hlt,lr,F8,hz,hzc,hst,hgd,F6,IC,hev,d0]
  show WK _ _ _ (.seq _ (.seq (.seq _ (.cond _ (.region _ _ _) _)) (.seq (.seq _ (.cond _ _ _)) (.seq _ (.seq _ _))))) _ _
  cases d10:(x.kind==10) with
  | true=>
   have k10:x.kind=10:=by simpa using d10
   have d10':(x.kind != 10)=false:=by rw[bne,d10];rfl
   have c7:=hp1.c7
   have hst7:BW Tryd.prog H1 3 (qP m 7) (iv ((at_:Int)+1))=_:=G1 CT rfl rfl hp1.cell (by simp only[List.length_cons,List.length_nil];omega) (by have:=hp1.fl;have:=hp1.lm;omega)
   simp only[List.set_cons_succ,List.set_cons_zero] at hst7
   cases dm:decide (s.miss≥0) with
   | true=>
    have dE:CH x s=31:=by unfold CH;rw[if_neg (by rw[d0];simp),if_pos k10,if_pos (by simpa using dm)]
    simp only[eE,seval,↓eP,Nat.zero_add,H8,HK,CO,hgd,F6,IC,d10',c7,dm]
    exact fin _ _ 31 (by simp only[Tr.get_put,if_true]) dE.symm after1 fun h=>by cases h
   | false=>
    have dE:CH x s=0:=by unfold CH;rw[if_neg (by rw[d0];simp),if_pos k10,if_neg (by simpa using dm)]
    have dS:CQ at_ x s={ s with miss:=(at_:Int)+1 }:=by unfold CQ;rw[if_neg (by rw[d0];simp),if_pos k10]
    simp only[eE,seval,↓eP,Nat.zero_add,H8,HK,CO,hgd,F6,IC,d10',c7,dm,hw1,hst7]
    refine fin _ _ 0 (by simp only[Tr.get_put,if_true]) dE.symm ⟨fun i hi=>?_,by show h.next≤H1.next;omega,hfl⟩ fun _=>?_
    ·rw[AQ hp1.lm.2 (N1 (h:=h) hp1.lm.1 (by rw[hp1.tm];decide) (hlF i hi))]
     exact hgo i (hll i hi)
    ·rw[dS]
     exact⟨tag,vq,vv,vt,vu,vo,es,hp1.putMiss _,hm,⟨hw.q,hw.v,hw.t,hw.u,hw.o,hw.th⟩,hF1⟩
  | false=>
   have k10:¬ x.kind=10:=by simpa using d10
   have d10':(x.kind != 10)=true:=by rw[bne,d10];rfl
   obtain⟨hn0,hn1⟩:=hxn d0 k10
   obtain⟨i,hi⟩:∃ i:Nat,x.n=(i:Int):=⟨x.n.toNat,by omega⟩
   have hil:i<s.on.length:=by omega
   obtain⟨id,ex,ev,hgi,hli,hni,hti,hp2⟩:=hp1.putOn hil ((at_:Int)+1)
   obtain⟨v,hv⟩:∃ v,s.on[i]?=some v:=⟨_,List.getElem?_eq_getElem hil⟩
   have c6:=hp1.c6
   rw[ev] at c6
   have lv:=eJ (ex:=ex) (ty:=3) (g:=true) (ro:=false) hv
   have hst6:=G1 (h:=H1) (off:=i) CT (v:=iv ((at_:Int)+1)) rfl rfl hgi (by rw[List.length_append,FH];omega) (by have:=hp1.fl;omega)
   have hton:x.n.toNat=i:=by omega
   simp only[eE,seval,↓eP,Nat.zero_add,H8,HK,CO,hgd,F6,IC,d10']
   show WK _ _ _ (.region _ _ true) _ _
   refine WK.flags (fs:=XR) (by kernel_rfl) ?_
   unfold XR
   iterate 9
    refine FO hsn ?_
    simp only[rG,seval,AC,AE,AD,DS,FA,DL,EI,FR,hi,H8,FZ,C3,c6,IX,CO,hgd,OX,GJ hil]
   refine FT ?_
   cases dm:decide (v≥0) with
   | true=>
    have dE:CH x s=31:=by unfold CH;rw[if_neg (by rw[d0];simp),if_neg k10,hton,hv];simp only;rw[if_pos (by simpa using dm)]
    simp only[eE,seval,↓eP,CO,hgi,lv,dm]
    exact fin _ _ 31 (by simp only[Tr.get_put,if_true]) dE.symm after1 fun h=>by cases h
   | false=>
    have dE:CH x s=0:=by unfold CH;rw[if_neg (by rw[d0];simp),if_neg k10,hton,hv];simp only;rw[if_neg (by simpa using dm)]
    have dS:CQ at_ x s={ s with on:=s.on.set i ((at_:Int)+1) }:=by unfold CQ;rw[if_neg (by rw[d0];simp),if_neg k10,hton]
    simp only[eE,seval,↓eP,CO,hgi,lv,dm,hw1,hst6]
    refine fin _ _ 0 (by simp only[Tr.get_put,if_true]) dE.symm ⟨fun j hj=>?_,by show h.next≤H1.next;omega,hfl⟩ fun _=>?_
    ·rw[AQ hni (N1 (h:=h) hli (by rw[hti];decide) (hlF j hj))]
     exact hgo j (hll j hj)
    ·rw[dS]
     exact⟨tag,vq,vv,vt,vu,vo,es,hp2,hm,⟨hw.q,hw.v,hw.t,hw.u,by simp only[List.length_set];exact hw.o,hw.th⟩,hF1⟩
end
def EQ (a b:Int):Int:=if a>4611686018427387904-b then 4611686018427387904 else a+b
theorem N3 {a b:Int} (ha:0≤a) (hb:0≤b) (hb2:b≤4611686018427387904):0≤EQ a b∧EQ a b≤4611686018427387904:=by unfold EQ;split <;> omega
def KA (sums:List Int) (k:Int):Int:=(sums[k.toNat]?).getD 0
def FY (sums:List Int):List AB→Int→Int
 | [],n=>n
 | x :: l,n=>FY sums l (if x.kind=22 then EQ (EQ n 1) (KA sums x.n) else EQ n 1)
def HV (sums:List Int):Prop:=∀ x∈sums,0≤x∧x≤4611686018427387904
theorem Gv {sums:List Int} (hs:HV sums) (k:Int):0≤KA sums k∧KA sums k≤4611686018427387904:=by
 unfold KA
 cases h:sums[k.toNat]? with
 | none=>exact⟨by simp,by simp⟩
 | some x=>exact hs x (List.mem_of_getElem? h)
theorem YH {sums:List Int} (hs:HV sums):∀ (l:List AB) (n:Int),0≤n→n≤4611686018427387904→0≤FY sums l n∧FY sums l n≤4611686018427387904
 | [],n,h0,h1=>⟨h0,h1⟩
 | x :: l,n,h0,h1=>by
  have h2:=N3 (a:=n) (b:=1) h0 (by omega) (by omega)
  have h3:=Gv hs x.n
  have h4:=N3 h2.1 h3.1 h3.2
  unfold FY
  split
  ·exact YH hs l _ h4.1 h4.2
  ·exact YH hs l _ h2.1 h2.2
section
variable {call:AK} {N:Nat} {h:AA}
theorem Ab {a b:Int} (hb:0≤b∧b≤4611686018427387904) (ha:0≤a∧a≤4611686018427387904):AW Tryd.prog call N 83 [iv a,iv b] h=some (iv (EQ a b),h):=by
 refine DW Tryd.func83 rfl (by simp[Tryd.f83]) ?_
 have hr:Tryd.f83.results.toList=[.tmp 4]:=rfl
 have w1:IntKind.i64.wrap (4611686018427387904-b)=4611686018427387904-b:=CG (by omega) (by omega)
 unfold EQ
 cases d:decide (a>4611686018427387904-b) with
 | true=>
  rw[if_pos (by simpa using d)]
  simp only[eE,seval,↓eP,rP,hr,w1,d]
 | false=>
  have d':¬ a>4611686018427387904-b:=by simpa using d
  have w2:IntKind.i64.wrap (a+b)=a+b:=CG (by omega) (by omega)
  rw[if_neg d']
  simp only[eE,seval,↓eP,rP,hr,w1,d,w2]
theorem pH {a b:Int} (h:AA) (hb:0≤b∧b≤4611686018427387904) (ha:0≤a∧a≤4611686018427387904):L1 83 [iv a,iv b] h=some (iv (EQ a b),h):=EG (F1 rfl rfl) rfl rfl rfl ⟨_,Ab hb ha⟩
def aN:List (Bool × Bool × List Operand):=[BI,BI,AS [.tmp 9],AS [.tmp 9],AS [.tmp 9,.tmp 2],AS [.tmp 9],AS [.tmp 9],AT,AT,AS [.tmp 9,.tmp 2,.tmp 14,.tmp 10]]
structure IP (h:AA) (pb eb sb:Nat) (rows:List AB) (E sums:List Int):Prop where
 p:∃ v0 vr v2 v3 v4 v5 v6 v7 g,h.get pb=.row [v0,vr,v2,v3,v4,v5,v6,v7] 30 g false∧(∀ (lo hi:Nat) h',(∀ i,i<h.next→h'.get i=h.get i)→h.next≤h'.next→lo≤hi→hi≤rows.length→∃ v',G7 Tryd.prog h' 22 vr (some (iv lo)) (some (iv hi)) none=some v'∧AL h' v' ((rows.drop lo).take (hi-lo)))
 e:∃ e n c g g',h.get eb=.row [qS e n c] 28 g false∧h.get e=.row (ints E) 3 g' false∧n=E.length∧e<h.next
 s:∃ q n c g g',h.get sb=.row [qS q n c] 28 g false∧h.get q=.row (ints sums) 3 g' false∧n=sums.length∧q<h.next
 lp:pb<h.next
 le:eb<h.next
 ls:sb<h.next
theorem IP.mono {h h':AA} {pb eb sb:Nat} {rows:List AB} {E sums:List Int} (hc:IP h pb eb sb rows E sums) (hn:h.next≤h'.next) (hg:∀ i,i<h.next→h'.get i=h.get i):IP h' pb eb sb rows E sums where
 p:=by
  obtain⟨v0,vr,v2,v3,v4,v5,v6,v7,g,h1,h2⟩:=hc.p
  exact⟨v0,vr,v2,v3,v4,v5,v6,v7,g,by rw[hg pb hc.lp];exact h1,fun lo hi h2' a b=>h2 lo hi h2' (fun i hi'=>by rw[a i (by omega),hg i hi']) (by omega)⟩
 e:=by
  obtain⟨e,n,c,g,g',h1,h2,h3,h4⟩:=hc.e
  exact⟨e,n,c,g,g',by rw[hg eb hc.le];exact h1,by rw[hg e h4];exact h2,h3,by omega⟩
 s:=by
  obtain⟨e,n,c,g,g',h1,h2,h3,h4⟩:=hc.s
  exact⟨e,n,c,g,g',by rw[hg sb hc.ls];exact h1,by rw[hg e h4];exact h2,h3,by omega⟩
 lp:=by have:=hc.lp;omega
 le:=by have:=hc.le;omega
 ls:=by have:=hc.ls;omega
theorem qM (hsn:BZ call) {pb eb sb row q:Nat} {rows:List AB} {E sums:List Int} (hc:IP h pb eb sb rows E sums) (hs:HV sums) (hfl:h.floor≤h.next) (hE:E[row]?=some (q:Int)) (hrq:row≤q) (hq:q≤rows.length) (hlen:rows.length<30000000000000) (hN:rows.length+3<N)
  (hcalls:∀ x∈(rows.drop row).take (q-row),x.kind=22→0≤x.n∧x.n<sums.length) (h83:∀ a b h',0≤b∧b≤4611686018427387904→0≤a∧a≤4611686018427387904→call 83 [iv a,iv b] h'=some (iv (EQ a b),h')) :
  ∃ h',AW Tryd.prog call N 88 [iv row,qP pb 0,qP eb 0,qP sb 0] h=some (iv (FY sums ((rows.drop row).take (q-row)) 0),h')∧∀ i,i<h.next→h'.get i=h.get i:=by
 refine E0 (R:=fun h'=>∀ i,i<h.next→h'.get i=h.get i) Tryd.func88 rfl (by simp[Tryd.f88]) ?_
 have hr:Tryd.f88.results.toList=[.tmp 5]:=rfl
 obtain⟨v0,vr,v2,v3,v4,v5,v6,v7,g,hg1,hsl⟩:=hc.p
 obtain⟨e,ne,ce,ge,ge',he1,he2,he3,he4⟩:=hc.e
 obtain⟨sq,ns,cs,gs,gs',hs1,hs2,hs3,hs4⟩:=hc.s
 obtain⟨v',hv1,hv2⟩:=hsl row q h (fun _ _=>rfl) (Nat.le_refl _) hrq hq
 have hrE:row<E.length:=(List.getElem?_eq_some_iff.1 hE).1
 have hll:=fun h'=>hv2.len (h':=h')
 have hseg:((rows.drop row).take (q-row)).length=q-row:=by rw[List.length_take,List.length_drop];omega
 generalize hS:(rows.drop row).take (q-row)=S at *
 have lE:=JV (ty:=3) (g:=ge') (ro:=false) hE
 obtain⟨va,vc,hve⟩:∃ a c,v'=.slice a S.length c:=by obtain⟨a,c,h1,_⟩:=hv2;exact⟨a,c,h1⟩
 subst hve
 simp only[eE,seval,↓eP,rP]
 show WK _ _ _ (.region _ _ true) _ _
 refine WK.flags (fs:=aN) (by kernel_rfl) ?_
 unfold aN
 iterate 10
  refine FO hsn ?_
  simp only[rG,seval,AC,AE,AD,DS,FA,DL,EI,FR,DA,Option.map_some,IQ,false_implies,C0,hg1,QU,C3,he1,IC,GJ (show row<ne by omega),CO,he2,lE,Option.map_none,hv1,hll]
 refine FT ?_
 simp only[eE,seval,↓eP,rP]
 refine WK.loop (fun i s=>s.T.get 3=qP sb 0∧s.T.get 16=.slice va S.length vc∧s.T.get 17=iv (S.length:Int)∧s.T.get 18=iv i∧i≤S.length∧s.h.floor=h.floor∧h.next≤s.h.next∧(∀ i,i<h.next→s.h.get i=h.get i) ∧
  ∃ n:Int,s.T.get 6=iv n∧0≤n∧n≤4611686018427387904∧FY sums (S.drop i) n=FY sums S 0) S.length (by omega) ?_ ?_
 ·simp only[eE,↓reduceIte,Nat.reduceEqDiff,reduceCtorEq,↓eP,rP,Nat.reduceAdd,Nat.reduceLT]
  exact⟨by omega,by omega,fun _ _=>trivial,by omega,by omega,rfl⟩
 ·rintro i ⟨T1,H1⟩ hi ⟨t3,t16,t17,t18,hil,hf1,hn1,ho1,n,t6,hn0,hnB,hcn⟩
  simp only at t3 t16 t17 t18 hf1 hn1 ho1 t6
  by_cases hlt:i<S.length
  ·have c1:decide ((i:Int)<(S.length:Int))=true:=by simp;omega
   obtain⟨x,hx⟩:∃ x,S[i]?=some x:=⟨_,List.getElem?_eq_getElem hlt⟩
   have hv3:AL H1 (.slice va S.length vc) S:=hv2.mono hn1 ho1
   obtain⟨id,p,e0,hid,l0,l1,l2,l3,l4,lr⟩:=hv3.row hx
   have hflo:H1.floor≤H1.next:=by omega
   have hz:flat (.agg #[.int .i64 0,.string ByteArray.empty,.int .i64 0,.int .i64 0,.int .i64 0])=true:=rfl
   have hzc:=I9 CP
   have hone:([.int .i64 x.kind,.string x.name,.int .i64 x.ends,.int .i64 x.n,.int .i64 x.kids]:List Value).all one=true:=rfl
   have hst:BW Tryd.prog (H1.push (.row CP 46 false false)) 46 (qP H1.next 0) (.agg #[.int .i64 x.kind,.string x.name,.int .i64 x.ends,.int .i64 x.n,.int .i64 x.kids])=some ((H1.push (.row CP 46 false false)).put H1.next (.row [.int .i64 x.kind,.string x.name,.int .i64 x.ends,.int .i64 x.n,.int .i64 x.kids] 46 false false)):=by
    rw[DC,BL,PU,if_pos ⟨hflo,hone⟩]
   have hgd:((H1.push (.row CP 46 false false)).put H1.next (.row [.int .i64 x.kind,.string x.name,.int .i64 x.ends,.int .i64 x.n,.int .i64 x.kids] 46 false false)).get H1.next=.row [.int .i64 x.kind,.string x.name,.int .i64 x.ends,.int .i64 x.n,.int .i64 x.kids] 46 false false:=CE rfl (by show H1.next<H1.next+1;omega)
   have hgo:∀ i,i<h.next→((H1.push (.row CP 46 false false)).put H1.next (.row [.int .i64 x.kind,.string x.name,.int .i64 x.ends,.int .i64 x.n,.int .i64 x.kids] 46 false false)).get i=h.get i:=fun i hi=>by rw[AQ (by show H1.next<H1.next+1;omega) (by omega),AM (by omega)];exact ho1 i hi
   have hnx:((H1.push (.row CP 46 false false)).put H1.next (.row [.int .i64 x.kind,.string x.name,.int .i64 x.ends,.int .i64 x.n,.int .i64 x.kids] 46 false false)).next=H1.next+1:=rfl
   have hfl2:((H1.push (.row CP 46 false false)).put H1.next (.row [.int .i64 x.kind,.string x.name,.int .i64 x.ends,.int .i64 x.n,.int .i64 x.kids] 46 false false)).floor=H1.floor:=rfl
   generalize (H1.push (.row CP 46 false false)).put H1.next (.row [.int .i64 x.kind,.string x.name,.int .i64 x.ends,.int .i64 x.n,.int .i64 x.kids] 46 false false)=H2 at *
   have p1:=N3 (a:=n) (b:=1) hn0 (by omega) (by omega)
   have h831:=fun hh=>h83 n 1 hh (by omega) ⟨hn0,hnB⟩
   have w1:=CK i (by omega)
   have hdr:S.drop i=x :: S.drop (i+1):=by
    obtain⟨hl,rfl⟩:=List.getElem?_eq_some_iff.1 hx
    exact List.drop_eq_getElem_cons hl
   rw[hdr] at hcn
   change FY sums (S.drop (i+1)) (if x.kind=22 then EQ (EQ n 1) (KA sums x.n) else EQ n 1)=_ at hcn
   cases d22:(x.kind==22) with
   | false=>
    rw[if_neg (by simpa using d22)] at hcn
    simp only[eE,seval,↓eP,t3,t16,t17,t18,t6,c1,e0,IU,lr,F8,hz,hzc,hst,h831,F6,CO,hgd,IC,d22,w1]
    exact⟨by omega,by omega,by rw[hfl2];exact hf1,by omega,hgo,p1.1,p1.2,hcn⟩
   | true=>
    have k22:x.kind=22:=by simpa using d22
    rw[if_pos k22] at hcn
    obtain⟨c0,c2⟩:=hcalls x (List.mem_of_getElem? hx) k22
    obtain⟨j,hj⟩:∃ j:Nat,x.n=(j:Int):=⟨x.n.toNat,by omega⟩
    have hjl:j<sums.length:=by omega
    obtain⟨y,hy⟩:∃ y,sums[j]?=some y:=⟨_,List.getElem?_eq_getElem hjl⟩
    have hyy:=hs y (List.mem_of_getElem? hy)
    have hsa:KA sums x.n=y:=by unfold KA;rw[show x.n.toNat=j by omega,hy];rfl
    rw[hsa] at hcn
    have hgs:H2.get sb=.row [qS sq ns cs] 28 gs false:=by rw[hgo sb hc.ls];exact hs1
    have hgq:H2.get sq=.row (ints sums) 3 gs' false:=by rw[hgo sq hs4];exact hs2
    have lS:=JV (ty:=3) (g:=gs') (ro:=false) hy
    have h832:=fun hh=>h83 (EQ n 1) y hh hyy p1
    have ix:CY Tryd.prog 28 (qS sq ns cs) (iv x.n)=some (qP sq j):=by rw[hj];exact GJ (show j<ns by omega)
    have p2:=N3 p1.1 hyy.1 hyy.2
    simp only[eE,seval,↓eP,Nat.zero_add,t3,t16,t17,t18,t6,c1,e0,IU,lr,F8,hz,hzc,hst,h831,F6,IX,CO,hgd,IC,OX,d22,w1,C3,hgs,ix,hgq,lS,h832]
    exact⟨by omega,by omega,by rw[hfl2];exact hf1,by omega,hgo,p2.1,p2.2,hcn⟩
  ·have c1:decide ((i:Int)<(S.length:Int))=false:=by simp;omega
   have hn:FY sums S 0=n:=by
    rw[← hcn,List.drop_of_length_le (by omega)]
    rfl
   rw[hn]
   simp only[eE,seval,↓eP,hr,t17,t18,t6,c1]
   exact ho1
end
def D4 (rows:List AB) (E sums:List Int) (row:Nat):Int:=FY sums ((rows.drop row).take (((E[row]?).getD 0).toNat-row)) 0
def LX (rows:List AB) (E:List Int):List Int→Nat→List Int→List Int
 | [],_,sums=>sums
 | ru :: rest,i,sums=>LX rows E rest (i+1) (sums.set i (D4 rows E sums ru.toNat))
def G5 (rows:List AB) (E rules:List Int):List Int:=LX rows E rules 0 (List.replicate rules.length 0)
structure NF (rows:List AB) (E rules:List Int):Prop where
 len:rows.length<2932031007403
 e:E.length=rows.length
 ends:∀ i,i<rows.length→∃ q:Nat,E[i]?=some (q:Int)∧i<q∧q≤rows.length
 rl:∀ ru∈rules,0≤ru∧ru<rows.length
 nrules:rules.length<1000000
 calls:∀ x∈rows,x.kind=22→0≤x.n∧x.n<rules.length
theorem gV (n:Nat):HV (List.replicate n 0):=fun x hx=>by
 rw[List.mem_replicate] at hx
 rw[hx.2]
 omega
theorem iL {sums:List Int} (hs:HV sums) (i:Nat) {x:Int} (hx:0≤x∧x≤4611686018427387904):HV (sums.set i x):=fun y hy=>by
 rcases List.mem_or_eq_of_mem_set hy with h | h
 ·exact hs y h
 ·rw[h];exact hx
theorem P8 {rows:List AB} {E sums:List Int} (hs:HV sums) (row:Nat):0≤D4 rows E sums row∧D4 rows E sums row≤4611686018427387904:=YH hs _ 0 (by omega) (by omega)
theorem oV {rows:List AB} {E:List Int}:∀ (l:List Int) (i:Nat) (sums:List Int),HV sums→HV (LX rows E l i sums)∧(LX rows E l i sums).length=sums.length
 | [],i,sums,hs=>⟨hs,rfl⟩
 | ru :: rest,i,sums,hs=>by
  have:=oV (rows:=rows) (E:=E) rest (i+1) (sums.set i (D4 rows E sums ru.toNat)) (iL hs _ (P8 hs _))
  rw[List.length_set] at this
  exact this
theorem VN {rows:List AB} {E rules:List Int}:HV (G5 rows E rules)∧(G5 rows E rules).length=rules.length:=by
 have:=oV (rows:=rows) (E:=E) rules 0 _ (gV rules.length)
 rw[List.length_replicate] at this
 exact this
def ZE:List (Bool × Bool × List Operand):=[(true,false,[]),IA [.tmp 5],AS [.tmp 5],AS [.tmp 5],AS [.tmp 5],AT,AT]
theorem IP.flr {h:AA} {pb eb sb:Nat} {rows:List AB} {E sums:List Int} (hc:IP h pb eb sb rows E sums) (f:Nat):IP (h.fl f) pb eb sb rows E sums:=hc.mono (Nat.le_refl _) fun _ _=>rfl
section
variable {call:AK} {N:Nat} {h:AA}
theorem He (hsn:BZ call) {rows:List AB} {E rules:List Int} (hL:NF rows E rules) {v0 vr v2 v3 v4 vu v6 v7:Value} {e ce:Nat} {ge:Bool} (hone:[v0,vr,v2,v3,v4,vu,v6,v7].all one=true) (hfl:h.floor≤h.next) (hN:rows.length+3<N) (hN2:rules.length+3<N)
  (hsl:∀ (lo hi:Nat) h',(∀ i,i<h.next→h'.get i=h.get i)→h.next≤h'.next→lo≤hi→hi≤rows.length→∃ v',G7 Tryd.prog h' 22 vr (some (iv lo)) (some (iv hi)) none=some v'∧AL h' v' ((rows.drop lo).take (hi-lo)))
  (hul:∀ h',B_ Tryd.prog h' 28 vu=some (iv (rules.length:Int))) (hus:∃ a c,vu=.slice a rules.length c)
  (hu:∀ h':AA,(∀ i,i<h.next→h'.get i=h.get i)→∀ (i:Nat) ru,rules[i]?=some ru→∃ id off,CY Tryd.prog 28 vu (iv i)=some (qP id off)∧AO off (h'.get id)=some (iv ru))
  (he:h.get e=.row (ints E) 3 ge false) (hel:e<h.next)
  (h88:∀ pb eb sb (row:Nat) sums h',IP h' pb eb sb rows E sums→sums.length=rules.length→HV sums→h'.floor≤h'.next→row<rows.length→call 88 [iv row,qP pb 0,qP eb 0,qP sb 0] h'=some (iv (D4 rows E sums row),h')) :
  ∃ h',AW Tryd.prog call N 72 [.agg #[v0,vr,v2,v3,v4,vu,v6,v7],qS e E.length ce] h=some (.func (.func 88) #[] #[qP h.next 0,qP (h.next+1) 0,qP (h.next+3) 0],h') ∧
   (IP h' h.next (h.next+1) (h.next+3) rows E (G5 rows E rules)∧h.next≤h'.next∧h'.floor=h.floor∧∀ i,i<h.next→h'.get i=h.get i):=by
 refine E0 (R:=fun h'=>IP h' h.next (h.next+1) (h.next+3) rows E (G5 rows E rules)∧h.next≤h'.next∧h'.floor=h.floor∧∀ i,i<h.next→h'.get i=h.get i) Tryd.func72 rfl (by simp[Tryd.f72]) ?_
 have hr:Tryd.f72.results.toList=[.tmp 4]:=rfl
 have hlen:=hL.len
 have hnr:=hL.nrules
 obtain⟨ua,uc,rfl⟩:=hus
 have hcs:∀ a n c,(Value.slice a n c).cells.toList=[.slice a n c]:=fun _ _ _=>rfl
 have hos:∀ a n c,([.slice a n c]:List Value).all one=true:=fun _ _ _=>rfl
 have hca:=I9 [v0,vr,v2,v3,v4,.slice ua rules.length uc,v6,v7]
 have z28:DI Tryd.prog 28=some (Z0):=by kernel_rfl
 have fz:flat (Z0)=true:=rfl
 have hmk:=fun hh=>SA (h:=hh) (show rules.length<30000000000000 by omega)
 have ld5:∀ {a b c d e' f:Value} {l:List Value} {ty:TypeId} {g ro:Bool},AO 5 (.row (a :: b :: c :: d :: e' :: f :: l) ty g ro)=some f:=rfl
 have hst:∀ hh:AA,hh.get (h.next+3)=.row [Z0] 28 false false→hh.floor≤h.next+3→∀ a n c,BW Tryd.prog hh 28 (qP (h.next+3) 0) (.slice a n c)=some (hh.put (h.next+3) (.row [.slice a n c] 28 false false)):=fun hh hg hf a n c=>G1 MB rfl rfl hg (by decide) hf
 generalize hA:BB.row [v0,vr,v2,v3,v4,.slice ua rules.length uc,v6,v7] 30 false false=A at *
 generalize hB:BB.row [qS e E.length ce] 28 false false=B at *
 have hst0:=hst ((((h.push A).push B).push (.row (ints (List.replicate rules.length 0)) 3 false false)).push (.row [Z0] 28 false false)) BL (by show h.floor≤h.next+3;omega) (some ⟨h.next+2,0,none⟩) rules.length rules.length
 have a5:AO 5 A=some (.slice ua rules.length uc):=by rw[← hA];rfl
 have hX:∀ C D o,let H:=((((h.push A).push B).push C).push D).put (h.next+3) o
   H.get h.next=A∧H.get (h.next+1)=B∧H.get (h.next+2)=C∧H.get (h.next+3)=o∧H.next=h.next+4∧H.floor=h.floor∧∀ i,i<h.next→H.get i=h.get i:=fun C D o=>by
  have q1:(h.push A).next=h.next+1:=rfl
  have q2:((h.push A).push B).next=h.next+2:=rfl
  have q3:(((h.push A).push B).push C).next=h.next+3:=rfl
  have q4:((((h.push A).push B).push C).push D).next=h.next+4:=rfl
  refine⟨?_,?_,?_,CE rfl (by omega),rfl,rfl,fun i hi=>?_⟩
  ·rw[AQ (by omega) (by omega),AM (by omega),AM (by omega),AM (by omega),BL]
  ·rw[AQ (by omega) (by omega),AM (by omega),AM (by omega)]
   exact BL (h:=h.push A)
  ·rw[AQ (by omega) (by omega),AM (by omega)]
   exact BL (h:=(h.push A).push B)
  ·rw[AQ (by omega) (by omega),AM (by omega),AM (by omega),AM (by omega),AM hi]
 have gA2:((h.push A).push B).get h.next=A:=by
  rw[AM (by show h.next<h.next+1;omega),BL]
 obtain⟨x0,x1,x2,x3,x4,x5,x6⟩:=hX (.row (ints (List.replicate rules.length 0)) 3 false false) (.row [Z0] 28 false false) (.row [qS (h.next+2) rules.length rules.length] 28 false false)
 simp only[eE,seval,↓eP,hca,hone,hcs,hos,HR,MB,hA,hB,C6,Nat.add_assoc,Nat.reduceAdd,Nat.zero_add,F0,C3,gA2,a5,hul,hmk,z28,fz,hst0,List.map_toArray,x0]
 generalize hH:((((h.push A).push B).push (.row (ints (List.replicate rules.length 0)) 3 false false)).push (.row [Z0] 28 false false)).put (h.next+3) (.row [qS (h.next+2) rules.length rules.length] 28 false false)=H at *
 have mkC:∀ (H':AA) sums,H'.get h.next=A→H'.get (h.next+1)=B→H'.get (h.next+3)=.row [qS (h.next+2) rules.length rules.length] 28 false false→H'.get (h.next+2)=.row (ints sums) 3 false false→sums.length=rules.length→H'.next=h.next+4→(∀ i,i<h.next→H'.get i=h.get i)→IP H' h.next (h.next+1) (h.next+3) rows E sums:=fun H' sums g0 g1 g3 g2 hl hn ho=>
  { p:=⟨_,_,_,_,_,_,_,_,_,g0.trans hA.symm,fun lo hi h2 a b=>hsl lo hi h2 (fun i hi=>by rw[a i (by omega),ho i hi]) (by omega)⟩
    e:=⟨e,E.length,ce,_,_,g1.trans hB.symm,by rw[ho e hel];exact he,rfl,by omega⟩
    s:=⟨h.next+2,rules.length,rules.length,_,_,g3,g2,hl.symm,by omega⟩
    lp:=by omega
    le:=by omega
    ls:=by omega }
 refine WK.loop (fun i s=>s.T.get 5=qP (h.next+3) 0∧s.T.get 6=.func (.func 88) #[] #[qP h.next 0,qP (h.next+1) 0,qP (h.next+3) 0]∧s.T.get 15=.slice ua rules.length uc∧s.T.get 16=iv (rules.length:Int)∧s.T.get 17=iv i∧i≤rules.length ∧
  s.h.get h.next=A∧s.h.get (h.next+1)=B∧s.h.get (h.next+3)=.row [qS (h.next+2) rules.length rules.length] 28 false false∧s.h.next=h.next+4∧s.h.floor=h.floor∧(∀ i,i<h.next→s.h.get i=h.get i) ∧
  ∃ sums,s.h.get (h.next+2)=.row (ints sums) 3 false false∧sums.length=rules.length∧HV sums∧LX rows E (rules.drop i) i sums=G5 rows E rules) rules.length (by omega) ?_ ?_
 ·simp only[eE,↓reduceIte,Nat.reduceEqDiff,reduceCtorEq,↓eP,rP,Nat.reduceAdd,Nat.reduceLT]
  exact⟨rfl,x0,x1,x3,x4,x5,x6,_,x2,by rw[List.length_replicate],gV _,rfl⟩
 ·rintro i ⟨T1,H1⟩ hi ⟨t5,t6,t15,t16,t17,hil,y0,y1,y3,y4,y5,y6,sums,y2,ysl,yS,yF⟩
  simp only at t5 t6 t15 t16 t17 y0 y1 y2 y3 y4 y5 y6
  have hC:=mkC H1 sums y0 y1 y3 y2 ysl y4 y6
  by_cases hlt:i<rules.length
  ·have c1:decide ((i:Int)<(rules.length:Int))=true:=by simp;omega
   obtain⟨ru,hru⟩:∃ ru,rules[i]?=some ru:=⟨_,List.getElem?_eq_getElem hlt⟩
   obtain⟨id,off,ix,lx⟩:=hu H1 y6 i ru hru
   have hrr:=hL.rl ru (List.mem_of_getElem? hru)
   obtain⟨row,hrow⟩:∃ row:Nat,ru=(row:Int):=⟨ru.toNat,by omega⟩
   subst hrow
   have hcall:=h88 h.next (h.next+1) (h.next+3) row sums (H1.fl (max H1.floor H1.next)) (hC.flr _) ysl yS (by show max H1.floor H1.next≤H1.next;omega) (by omega)
   have hd3:decide (h.next+3<H1.next)=true:=by simp;omega
   have w1:=CK i (by omega)
   have hcA:=P8 (rows:=rows) (E:=E) yS row
   have hst:=PP (x:=D4 rows E sums row) y2 (by omega:i<sums.length) (by omega)
   simp only[eE,seval,↓eP,t15,t16,t17,c1,ix,CO,lx]
   show WK _ _ _ (.region _ _ true) _ _
   refine WK.flags (fs:=ZE) (by kernel_rfl) ?_
   unfold ZE
   iterate 7
    refine FO hsn ?_
    simp only[rG,seval,AC,AE,AD,DS,FA,DL,EI,FR,t5,C3,y3,IC,hd3,t6,hcall,GJ hlt,hst]
   refine FT ?_
   have hn2:h.next+2<H1.next:=by omega
   simp only[eE,seval,↓eP,t5,t6,t15,t16,t17,w1]
   refine⟨hlt,by omega,?_,?_,?_,y4,y5,fun j hj=>?_,_,CE rfl hn2,by rw[List.length_set];exact ysl,iL yS _ hcA,?_⟩
   ·rw[AQ hn2 (by omega)];exact y0
   ·rw[AQ hn2 (by omega)];exact y1
   ·rw[AQ hn2 (by omega)];exact y3
   ·rw[AQ hn2 (by omega)];exact y6 j hj
   ·rw[← yF,List.drop_eq_getElem_cons hlt]
    have:rules[i]=(row:Int):=(List.getElem?_eq_some_iff.1 hru).2
    rw[this]
    rfl
  ·have c1:decide ((i:Int)<(rules.length:Int))=false:=by simp;omega
   have hF:sums=G5 rows E rules:=by
    rw[← yF,List.drop_of_length_le (by omega)]
    rfl
   rw[← hF]
   simp only[eE,seval,↓eP,hr,t16,t17,t6,c1]
   exact⟨hC,by omega,y5,y6⟩
end
def J5 (rows:List AB) (E sums:List Int):List AB→Nat→Int→Int
 | [],_,_=>-1
 | x :: l,at_,n=>if DU x.kind=false then J5 rows E sums l (at_+1) n
  else if EQ n (D4 rows E sums (at_+1))>16384 then at_ else J5 rows E sums l (at_+1) (EQ n (D4 rows E sums (at_+1)))
def FB (rows:List AB) (E rules:List Int):Int:=J5 rows E (G5 rows E rules) rows 0 0
section
variable {call:AK} {N:Nat} {h:AA} {lo m k c e r n:Nat} {nm:ByteArray} {E:List Int} {tag:Nat→Nat} {vq vv vt vu vo:Value} {es:List (Value × Value)} {s:AN}
theorem vI (hp:BN h lo m k c e r n nm E tag vq vv vt vu vo es s) (hL:NF s.rows E s.rules) (hfl:h.floor≤h.next) (hN:s.rows.length+3<N) {ev_:Value} (hkinds:∀ x∈s.rows,1≤x.kind∧x.kind≤54)
  (hevs:∀ i x,s.rows[i]?=some x→DU x.kind=true→i+1<s.rows.length) {pb eb sb:Nat}
  (h72:∃ h',call 72 [.agg #[.string nm,qS r n AG,vq,vv,vt,vu,vo,iv s.miss],ev_] h=some (.func (.func 88) #[] #[qP pb 0,qP eb 0,qP sb 0],h') ∧
   (IP h' pb eb sb s.rows E (G5 s.rows E s.rules)∧h.next≤h'.next∧h'.floor=h.floor∧∀ i,i<h.next→h'.get i=h.get i))
  (h82:∀ k h',1≤k∧k≤54→call 82 [iv k] h'=some (.bool (DU k),h')) (h83:∀ a b h',0≤b∧b≤4611686018427387904→0≤a∧a≤4611686018427387904→call 83 [iv a,iv b] h'=some (iv (EQ a b),h'))
  (h88:∀ (row:Nat) h',IP h' pb eb sb s.rows E (G5 s.rows E s.rules)→h'.floor≤h'.next→row<s.rows.length→call 88 [iv row,qP pb 0,qP eb 0,qP sb 0] h'=some (iv (D4 s.rows E (G5 s.rows E s.rules) row),h')) :
  ∃ h',AW Tryd.prog call N 54 [qP m 0,ev_] h=some (iv (FB s.rows E s.rules),h')∧∀ i,i<h.next→h'.get i=h.get i:=by
 refine E0 (R:=fun h'=>∀ i,i<h.next→h'.get i=h.get i) Tryd.func54 rfl (by simp[Tryd.f54]) ?_
 have hr:Tryd.f54.results.toList=[.tmp 4]:=rfl
 obtain⟨h1,hcl,hC,hn1,hf1,ho1⟩:=h72
 have hlen:=hL.len
 have hsl:=hp.pol.len
 have hmn:=hp.lm.2
 have l8:CD 8 0 (h.get m)=some (.agg #[.string nm,qS r n AG,vq,vv,vt,vu,vo,iv s.miss]):=by rw[hp.cell];rfl
 have c1:AO 1 (h1.get m)=some (qS r n AG):=by rw[ho1 m hmn];exact hp.c1
 have hv1:AL h1 (qS r n AG) s.rows:=hp.pol.at.mono hn1 ho1
 have hll:=fun h'=>hv1.len (h':=h')
 have hS:=(VN (rows:=s.rows) (E:=E) (rules:=s.rules)).1
 simp only[eE,↓reduceIte,Nat.reduceEqDiff,reduceCtorEq,↓eP,Nat.reduceAdd,Nat.zero_add,H8,DA,IW,l8,hcl,C0,c1,hll]
 generalize hsum:G5 s.rows E s.rules=sums at *
 refine WK.loop (fun i s'=>s'.T.get 5=.func (.func 88) #[] #[qP pb 0,qP eb 0,qP sb 0]∧s'.T.get 19=qS r n AG∧s'.T.get 20=iv (s.rows.length:Int)∧s'.T.get 21=iv i∧i≤s.rows.length∧s'.h.floor=h1.floor∧h1.next≤s'.h.next∧(∀ i,i<h1.next→s'.h.get i=h1.get i) ∧
  ∃ a:Int,s'.T.get 6=iv a∧0≤a∧a≤4611686018427387904∧J5 s.rows E sums (s.rows.drop i) i a=FB s.rows E s.rules) s.rows.length (by omega) ?_ ?_
 ·simp only[eE,↓reduceIte,Nat.reduceEqDiff,reduceCtorEq,↓eP,rP,Nat.reduceAdd,Nat.reduceLT]
  refine⟨by omega,by omega,fun _ _=>trivial,by omega,by omega,?_⟩
  unfold FB
  rw[hsum]
  rfl
 ·rintro i ⟨T1,H1⟩ hi ⟨t5,t19,t20,t21,hil,hf2,hn2,ho2,a,t6,ha0,haB,hcn⟩
  simp only at t5 t19 t20 t21 hf2 hn2 ho2 t6
  by_cases hlt:i<s.rows.length
  ·have c1:decide ((i:Int)<(s.rows.length:Int))=true:=by simp;omega
   obtain⟨x,hx⟩:∃ x,s.rows[i]?=some x:=⟨_,List.getElem?_eq_getElem hlt⟩
   have hv3:AL H1 (qS r n AG) s.rows:=hv1.mono hn2 ho2
   obtain⟨id,p,e0,hid,l0,l1,l2,l3,l4,lr⟩:=hv3.row hx
   have hkx:=hkinds x (List.mem_of_getElem? hx)
   have hev:=fun h'=>h82 x.kind h' hkx
   have hflo:H1.floor≤H1.next:=by omega
   have hz:flat (.agg #[.int .i64 0,.string ByteArray.empty,.int .i64 0,.int .i64 0,.int .i64 0])=true:=rfl
   have hzc:=I9 CP
   have hone:([.int .i64 x.kind,.string x.name,.int .i64 x.ends,.int .i64 x.n,.int .i64 x.kids]:List Value).all one=true:=rfl
   have hst:BW Tryd.prog (H1.push (.row CP 46 false false)) 46 (qP H1.next 0) (.agg #[.int .i64 x.kind,.string x.name,.int .i64 x.ends,.int .i64 x.n,.int .i64 x.kids])=some ((H1.push (.row CP 46 false false)).put H1.next (.row [.int .i64 x.kind,.string x.name,.int .i64 x.ends,.int .i64 x.n,.int .i64 x.kids] 46 false false)):=by
    rw[DC,BL,PU,if_pos ⟨hflo,hone⟩]
   have hgd:((H1.push (.row CP 46 false false)).put H1.next (.row [.int .i64 x.kind,.string x.name,.int .i64 x.ends,.int .i64 x.n,.int .i64 x.kids] 46 false false)).get H1.next=.row [.int .i64 x.kind,.string x.name,.int .i64 x.ends,.int .i64 x.n,.int .i64 x.kids] 46 false false:=CE rfl (by show H1.next<H1.next+1;omega)
   have hgo:∀ i,i<h1.next→((H1.push (.row CP 46 false false)).put H1.next (.row [.int .i64 x.kind,.string x.name,.int .i64 x.ends,.int .i64 x.n,.int .i64 x.kids] 46 false false)).get i=h1.get i:=fun i hi=>by rw[AQ (by show H1.next<H1.next+1;omega) (by omega),AM (by omega)];exact ho2 i hi
   have hnx:((H1.push (.row CP 46 false false)).put H1.next (.row [.int .i64 x.kind,.string x.name,.int .i64 x.ends,.int .i64 x.n,.int .i64 x.kids] 46 false false)).next=H1.next+1:=rfl
   have hfl2:((H1.push (.row CP 46 false false)).put H1.next (.row [.int .i64 x.kind,.string x.name,.int .i64 x.ends,.int .i64 x.n,.int .i64 x.kids] 46 false false)).floor=H1.floor:=rfl
   generalize (H1.push (.row CP 46 false false)).put H1.next (.row [.int .i64 x.kind,.string x.name,.int .i64 x.ends,.int .i64 x.n,.int .i64 x.kids] 46 false false)=H2 at *
   have w1:=CK i (by omega)
   have hdr:s.rows.drop i=x :: s.rows.drop (i+1):=by
    obtain⟨hl,rfl⟩:=List.getElem?_eq_some_iff.1 hx
    exact List.drop_eq_getElem_cons hl
   rw[hdr] at hcn
   change (if DU x.kind=false then J5 s.rows E sums (s.rows.drop (i+1)) (i+1) a else if EQ a (D4 s.rows E sums (i+1))>16384 then (i:Int) else J5 s.rows E sums (s.rows.drop (i+1)) (i+1) (EQ a (D4 s.rows E sums (i+1))))=_ at hcn
   cases dv:DU x.kind with
   | false=>
    rw[if_pos dv] at hcn
    simp only[eE,seval,↓eP,t5,t6,t19,t20,t21,c1,e0,IU,lr,F8,hz,hzc,hst,F6,CO,hgd,IC,hev,dv,w1]
    exact⟨by omega,by omega,by rw[hfl2];exact hf2,by omega,hgo,ha0,haB,hcn⟩
   | true=>
    rw[if_neg (by rw[dv];simp)] at hcn
    have hi1:=hevs i x hx dv
    have hC2:IP H2 pb eb sb s.rows E sums:=hC.mono (by omega) hgo
    have hcall:=h88 (i+1) H2 hC2 (by omega) hi1
    have hcA:=P8 (rows:=s.rows) (E:=E) hS (i+1)
    have hpl:=h83 a _ H2 hcA ⟨ha0,haB⟩
    have hpn:=N3 ha0 hcA.1 hcA.2
    cases dg:decide (EQ a (D4 s.rows E sums (i+1))>16384) with
    | true=>
     rw[if_pos (by simpa using dg)] at hcn
     rw[← hcn]
     simp only[eE,seval,↓eP,hr,t5,t6,t19,t20,t21,c1,e0,IU,lr,F8,hz,hzc,hst,F6,CO,hgd,IC,hev,dv,w1,hcall,hpl,dg]
     exact fun j hj=>by rw[hgo j (by omega)];exact ho1 j hj
    | false=>
     rw[if_neg (by simpa using dg)] at hcn
     simp only[eE,seval,↓eP,t5,t6,t19,t20,t21,c1,e0,IU,lr,F8,hz,hzc,hst,F6,CO,hgd,IC,hev,dv,w1,hcall,hpl,dg]
     exact⟨by omega,by omega,by rw[hfl2];exact hf2,by omega,hgo,hpn.1,hpn.2,hcn⟩
  ·have c1:decide ((i:Int)<(s.rows.length:Int))=false:=by simp;omega
   have hn:FB s.rows E s.rules=-1:=by
    rw[← hcn,List.drop_of_length_le (by omega)]
    rfl
   rw[hn]
   simp only[eE,seval,↓eP,hr,t20,t21,c1]
   exact fun j hj=>by rw[ho2 j (by omega)];exact ho1 j hj
end
def A_ (l:List AB):AN:=⟨l,[],[],[],[],[],-1,[]⟩
def DX (E:List Int) (at_:Nat) (s:AN):Int × AN:=
 match s.rows[at_]? with
 | none=>(0,s)
 | some x=>
  if C1 x s≠0 then (C1 x s,s) else
  match (BD at_ ((E[at_]?).getD 0) x s).rows[at_]? with
  | none=>(0,s)
  | some x1=>
   if CA at_ x1 (BD at_ ((E[at_]?).getD 0) x s)≠0 then (CA at_ x1 (BD at_ ((E[at_]?).getD 0) x s),s) else
   match (BM at_ x1 (BD at_ ((E[at_]?).getD 0) x s)).rows[at_]? with
   | none=>(0,s)
   | some x2=>if CH x2 (BM at_ x1 (BD at_ ((E[at_]?).getD 0) x s))≠0 then (CH x2 (BM at_ x1 (BD at_ ((E[at_]?).getD 0) x s)),s)
    else (0,CQ at_ x2 (BM at_ x1 (BD at_ ((E[at_]?).getD 0) x s)))
def BG (E:List Int):Nat→Nat→AN→Int × Nat × AN
 | 0,at_,s=>(0,at_,s)
 | r+1,at_,s=>if (DX E at_ s).1≠0 then ((DX E at_ s).1,at_,s) else BG E r (at_+1) (DX E at_ s).2
noncomputable def AZ (l:List AB):(Int × Int) × AN:=
 if (BF l).1≠0 then (BF l,A_ l) else
 let g:=BG (AI l) l.length 0 (A_ l)
 if g.1≠0 then ((g.1,(g.2.1:Int)),A_ l) else
 let b:=FB g.2.2.rows (AI l) g.2.2.rules
 if b≥0 then ((34,b),A_ l) else ((0,0),g.2.2)
theorem D_.fit {l:List AB} {at_ q:Nat} (h:D_ l at_ q):∃ x,l[at_]?=some x∧DE AR x=true:=by
 rcases h with⟨m,what,h⟩ | ⟨rfl,m,h⟩
 ·cases m with
  | zero=>cases h
  | succ m=>
   cases hx:l[at_]? with
   | none=>rw[YO hx] at h;cases h
   | some x=>
    rw[WT hx] at h
    split at h
    ·rename_i hc
     simp only[Bool.and_eq_true] at hc
     exact⟨x,rfl,hc.2⟩
    ·cases h
 ·cases hx:l[0]? with
  | none=>rw[ZS hx] at h;cases h
  | some x=>
   rw[TQ hx] at h
   split at h
   ·rename_i hc
    simp only[Bool.and_eq_true] at hc
    exact⟨x,rfl,hc.2⟩
   ·cases h
theorem CU.row {l:List AB} (h:CU l) {i:Nat} {x:AB} (hx:l[i]?=some x):DE AR x=true∧(1≤x.kind∧x.kind≤54)∧E1 x.kind≤x.kids∧i+1+x.kids.toNat≤BV l i∧BV l i≤l.length:=by
 have hi:=(List.getElem?_eq_some_iff.1 hx).1
 have hs:=h.end hi
 obtain⟨y,hy,h1⟩:=hs.fit
 obtain⟨z,hz,h2,h3,h4⟩:=hs.kids
 rw[hx] at hy hz
 cases hy
 cases hz
 refine⟨h1,h3,?_,H5 _ _ _ h4,hs.lt.2⟩
 unfold DE at h1
 simp only[Bool.and_eq_true,decide_eq_true_eq] at h1
 omega
theorem kE {k:Int} (h:DU k=true) (h10:k≠10):C8 k=1∧BJ k=0:=by
 unfold DU at h
 simp only[Bool.and_eq_true,decide_eq_true_eq] at h
 obtain rfl | rfl:k=8∨k=9:=by omega
 ·exact⟨rfl,rfl⟩
 ·exact⟨rfl,rfl⟩
theorem MN {l:List AB} {k i:Nat} {n:Int} (h:i≠k):(E9 l k n)[i]?=l[i]?:=by
 unfold E9
 split
 ·rw[List.getElem?_set_ne (Ne.symm h)]
 ·rfl
structure FQ (l:List AB) (at_:Nat) (s:AN):Prop where
 wf:I7 s
 len:s.rows.length=l.length
 same:∀ (i:Nat) (x:AB),s.rows[i]?=some x→∃ y:AB,l[i]?=some y∧x={ y with n:=x.n }
 later:∀ i:Nat,at_≤i→s.rows[i]?=l[i]?
 rl:∀ ru∈s.rules,0≤ru∧ru<l.length
 calls:∀ (i:Nat) (x:AB),i<at_→s.rows[i]?=some x→x.kind=22→0≤x.n∧x.n<s.rules.length
theorem PF (l:List AB):FQ l 0 (A_ l) where
 wf:=⟨by simp[A_],by simp[A_],by simp[A_],by simp[A_],rfl,fun t ht=>by simp[A_] at ht⟩
 len:=rfl
 same:=fun i x hx=>⟨x,hx,rfl⟩
 later:=fun _ _=>rfl
 rl:=fun ru h=>by simp[A_] at h
 calls:=fun i x h=>by omega
theorem WJ {at_:Nat} {end_:Int} {x:AB} {s:AN}:(BD at_ end_ x s).rows=if BJ x.kind=0 then s.rows else E9 s.rows at_ (BA s (BJ x.kind)):=by
 unfold BD
 split <;> rfl
theorem XV {l:List FF} {x:ByteArray} {t:FF} (h:EM l x=some t):t∈l:=List.mem_of_find?_eq_some h
theorem Ex {l:List AB} {E:List Int} {at_:Nat} {s:AN} {x:AB} (ht:CU l) (hE:0≤(E[at_]?).getD 0) (hi:FQ l at_ s) (hx:s.rows[at_]?=some x) (hd:C1 x s=0) :
  I7 (BD at_ ((E[at_]?).getD 0) x s)∧(BD at_ ((E[at_]?).getD 0) x s).rows.length=l.length∧(∃ n,(BD at_ ((E[at_]?).getD 0) x s).rows[at_]?=some { x with n:=n })∧(∀ i,i≠at_→(BD at_ ((E[at_]?).getD 0) x s).rows[i]?=s.rows[i]?) ∧
  (∀ ru∈(BD at_ ((E[at_]?).getD 0) x s).rules,0≤ru∧ru<l.length)∧s.rules.length≤(BD at_ ((E[at_]?).getD 0) x s).rules.length:=by
 have hxl:l[at_]?=some x:=by rw[← hi.later at_ (Nat.le_refl _)];exact hx
 unfold BD
 unfold C1 at hd
 by_cases d0:BJ x.kind=0
 ·rw[if_pos d0]
  exact⟨hi.wf,hi.len,⟨x.n,hx⟩,fun _ _=>rfl,hi.rl,Nat.le_refl _⟩
 ·rw [if_neg d0] at hd ⊢
  have hne:(BA s (BJ x.kind):Int)≠GA (BJ x.kind):=fun h=>by
   split at hd
   ·cases hd
   ·omega
  refine⟨YJ hi.wf d0 hne hE,?_,⟨_,IG hx⟩,fun i hne=>MN hne,fun ru hru=>?_,?_⟩
  ·exact QX.trans hi.len
  ·simp only[DJ] at hru
   split at hru
   ·rename_i h4
    simp only[List.mem_append,List.mem_cons,List.not_mem_nil,or_false] at hru
    rcases hru with h | rfl
    ·exact hi.rl ru h
    ·have:=ht.row hxl
     have h7:x.kind=7:=by
      revert h4
      unfold BJ
      (repeat' split) <;> simp_all
     have hl7:E1 x.kind=0∨0<E1 x.kind:=by have:=O4 x.kind;omega
     have h1:E1 x.kind=1:=by rw[h7];rfl
     omega
   ·exact hi.rl ru hru
  ·simp only[DJ]
   split
   ·simp
   ·exact Nat.le_refl _
theorem O5 {l:List AB} {E:List Int} {at_:Nat} {s:AN} (ht:CU l) (hE:0≤(E[at_]?).getD 0) (hat:at_<l.length) (hi:FQ l at_ s) (h0:(DX E at_ s).1=0):FQ l (at_+1) (DX E at_ s).2:=by
 obtain⟨x,hx⟩:∃ x,s.rows[at_]?=some x:=⟨_,List.getElem?_eq_getElem (by rw[hi.len];exact hat)⟩
 have hxl:l[at_]?=some x:=by rw[← hi.later at_ (Nat.le_refl _)];exact hx
 unfold DX at h0 ⊢
 rw[hx] at h0 ⊢
 simp only at h0 ⊢
 by_cases hd:C1 x s=0
 case neg=>rw[if_pos hd] at h0;exact absurd h0 hd
 rw[if_neg (by simpa using hd)] at h0 ⊢
 obtain⟨w1,n1,⟨k1,r1⟩,o1,u1,c1⟩:=Ex ht hE hi hx hd
 generalize BD at_ ((E[at_]?).getD 0) x s=s1 at *
 rw[r1] at h0 ⊢
 simp only at h0 ⊢
 by_cases hc:CA at_ { x with n:=k1 } s1=0
 case neg=>rw[if_pos hc] at h0;exact absurd h0 hc
 rw[if_neg (by simpa using hc)] at h0 ⊢
 have hcall:I7 (BM at_ { x with n:=k1 } s1)∧(BM at_ { x with n:=k1 } s1).rows.length=l.length∧(∃ n,(BM at_ { x with n:=k1 } s1).rows[at_]?=some { x with n:=n }∧(x.kind=22→0≤n∧n<s1.rules.length)∧(C8 x.kind=1→0≤n∧n<s1.on.length)) ∧
   (∀ i,i≠at_→(BM at_ { x with n:=k1 } s1).rows[i]?=s1.rows[i]?)∧(BM at_ { x with n:=k1 } s1).rules=s1.rules∧(BM at_ { x with n:=k1 } s1).on=s1.on:=by
  unfold BM
  unfold CA at hc
  by_cases d0:C8 x.kind=0
  ·rw[if_pos d0]
   refine⟨w1,n1,⟨k1,r1,fun h=>?_,fun h=>by omega⟩,fun _ _=>rfl,rfl,rfl⟩
   rw[h] at d0
   cases d0
  ·rw [if_neg d0] at hc ⊢
   cases hf:EM s1.things x.name with
   | none=>simp only[hf] at hc;cases hc
   | some t=>
    simp only[hf] at hc ⊢
    have htm:=w1.th t (XV hf)
    have hk:t.kind=C8 x.kind:=by
     split at hc
     ·cases hc
     ·split at hc
      ·cases hc
      ·rename_i h;simpa using h
    refine⟨⟨w1.q,w1.v,w1.t,w1.u,w1.o,w1.th⟩,QX.trans n1,⟨t.num,(IG r1).trans rfl,fun h=>?_,fun h=>?_⟩,fun i hne=>MN hne,trivial,trivial⟩
    ·have h4:t.kind=4:=by rw[hk,h];rfl
     rw[h4] at htm
     exact⟨htm.2.2.1,htm.2.2.2.1⟩
    ·rw[hk,h] at htm
     rw[w1.o]
     exact⟨htm.2.2.1,htm.2.2.2.1⟩
 obtain⟨w2,n2,⟨k2,r2,q2,e2⟩,o2,u2,v2⟩:=hcall
 generalize BM at_ { x with n:=k1 } s1=s2 at *
 rw[r2] at h0 ⊢
 simp only at h0 ⊢
 by_cases hv:CH { x with n:=k2 } s2=0
 case neg=>rw[if_pos hv] at h0;exact absurd h0 hv
 rw[if_neg (by simpa using hv)] at h0 ⊢
 have hev:I7 (CQ at_ { x with n:=k2 } s2)∧(CQ at_ { x with n:=k2 } s2).rows=s2.rows∧(CQ at_ { x with n:=k2 } s2).rules=s2.rules:=by
  unfold CQ
  split
  ·exact⟨w2,rfl,rfl⟩
  ·split
   ·exact⟨⟨w2.q,w2.v,w2.t,w2.u,w2.o,w2.th⟩,rfl,rfl⟩
   ·exact⟨⟨w2.q,w2.v,w2.t,w2.u,by simp only[List.length_set];exact w2.o,w2.th⟩,rfl,rfl⟩
 obtain⟨w3,r3,u3⟩:=hev
 refine⟨w3,by rw[r3];exact n2,fun i y hy=>?_,fun i hi'=>?_,by rw[u3,u2];exact u1,fun i y hi' hy h22=>?_⟩
 ·rw[r3] at hy
  by_cases hia:i=at_
  ·subst hia
   rw[r2] at hy
   cases hy
   exact⟨x,hxl,rfl⟩
  ·rw[o2 i hia,o1 i hia] at hy
   exact hi.same i y hy
 ·rw[r3,o2 i (by omega),o1 i (by omega)]
  exact hi.later i (by omega)
 ·rw[r3] at hy
  rw[u3,u2]
  by_cases hia:i=at_
  ·subst hia
   rw[r2] at hy
   cases hy
   exact q2 h22
  ·rw[o2 i hia,o1 i hia] at hy
   have:=hi.calls i y (by omega) hy h22
   omega
theorem eG {l:List AB} {E:List Int} (ht:CU l) (hE:∀ i:Nat,0≤(E[i]?).getD 0):∀ r at_ s,at_+r=l.length→FQ l at_ s→(BG E r at_ s).1=0→FQ l l.length (BG E r at_ s).2.2
 | 0,at_,s,hr,hi,_=>by
  have:at_=l.length:=by omega
  subst this
  exact hi
 | r+1,at_,s,hr,hi,h0=>by
  unfold BG at h0 ⊢
  by_cases h:(DX E at_ s).1=0
  ·rw[if_neg (by simpa using h)] at h0 ⊢
   exact eG ht hE r (at_+1) _ (by omega) (O5 ht (hE at_) (by omega) hi h) h0
  ·rw[if_pos h] at h0
   exact absurd h0 h
theorem RL {l:List AB} (i:Nat):0≤((AI l)[i]?).getD 0:=by
 by_cases hi:i<l.length
 ·rw[MF hi]
  simp
 ·rw[List.getElem?_eq_none (by rw[OM];omega)]
  simp
theorem lI {l:List AB} {s:AN} (ht:CU l) (hlen:l.length<2932031007403) (hi:FQ l l.length s):NF s.rows (AI l) s.rules where
 len:=by rw[hi.len];exact hlen
 e:=by rw[OM,hi.len]
 ends:=fun i h=>by
  rw[hi.len] at h
  have:=(ht.end h).lt
  exact⟨BV l i,MF h,by omega,by rw[hi.len];omega⟩
 rl:=fun ru h=>by rw[hi.len];exact hi.rl ru h
 nrules:=by have:=hi.wf.u;omega
 calls:=fun x hx h22=>by
  obtain⟨i,hil,rfl⟩:=List.getElem_of_mem hx
  exact hi.calls i _ (by rw[← hi.len];exact hil) (List.getElem?_eq_getElem hil) h22
theorem TD {l:List AB} {at_:Nat} {s:AN} (ht:CU l) (hi:FQ l at_ s):∀ x∈s.rows,1≤x.kind∧x.kind≤54:=fun x hx=>by
 obtain⟨i,hil,rfl⟩:=List.getElem_of_mem hx
 obtain⟨y,hy,he⟩:=hi.same i _ (List.getElem?_eq_getElem hil)
 rw[he]
 exact(ht.row hy).2.1
theorem fV {l:List AB} {at_:Nat} {s:AN} (ht:CU l) (hi:FQ l at_ s):∀ i x,s.rows[i]?=some x→DU x.kind=true→i+1<s.rows.length:=fun i x hx hev=>by
 obtain⟨y,hy,he⟩:=hi.same i _ hx
 have h1:=ht.row hy
 rw[he] at hev
 have hk:E1 y.kind=1:=by
  unfold DU at hev
  simp only[Bool.and_eq_true,decide_eq_true_eq] at hev
  obtain h | h | h:y.kind=8∨y.kind=9∨y.kind=10:=by omega
  all_goals (rw[h];rfl)
 rw[hi.len]
 omega
theorem XG (l:List AB):(l.flatMap AP).all one=true:=by
 rw[List.all_eq_true]
 intro v hv
 rw[List.mem_flatMap] at hv
 obtain⟨r,_,hv⟩:=hv
 simp only[AP,List.mem_cons,List.not_mem_nil,or_false] at hv
 rcases hv with rfl | rfl | rfl | rfl | rfl <;> rfl
theorem Hk {α:Type} (l:List α) (a b:Nat):l.take (a+b)=l.take a++(l.drop a).take b:=List.take_add
theorem Y2:∀ (l:List AB) (cs:List Value) (off:Nat),(∀ k r,l[k]?=some r→(cs.drop (off+k*5)).take 5=AP r)→(cs.drop off).take (l.length*5)=l.flatMap AP
 | [],cs,off,_=>by simp
 | r :: l,cs,off,h=>by
  have h0:=h 0 r rfl
  rw[Nat.zero_mul,Nat.add_zero] at h0
  have ih:=Y2 l cs (off+5) fun k r' hk=>by
   have:=h (k+1) r' hk
   rw[← this]
   congr 2
   omega
  rw[List.length_cons,show (l.length+1)*5=5+l.length*5 by omega,Hk,h0,List.drop_drop,ih,List.flatMap_cons]
theorem AL.src {h:AA} {v:Value} {l:List AB} (hv:AL h v l):CL h 5 l.length v=some (l.flatMap AP):=by
 obtain⟨a,c,rfl,⟨rfl,rfl⟩ | ⟨id,off,cs,ty,g,ro,rfl,hg,hid,hc⟩⟩:=hv
 ·rfl
 ·have:=Y2 l cs off hc
  have hl:=H9 l
  simp only[CL,hg,D1,this,hl,if_true]
  by_cases h0:l.length=0
  ·rw[if_pos h0,List.length_eq_zero_iff.1 h0]
   rfl
  ·rw[if_neg h0]
section
variable {call:AK} {N:Nat} {h:AA}
theorem cZ {l:List AB} {v:Value} (hv:AL h v l) (hne:0<l.length) (hlen:l.length<2932031007403):∃ h',AW Tryd.prog call N 48 [v] h=some (qS (h.next+1) l.length AG,h')∧(h'.get (h.next+1)=.row (l.flatMap AP) 46 true false∧h'.next=h.next+2∧h'.floor=h.floor∧∀ i,i<h.next→h'.get i=h.get i):=by
 refine E0 (R:=fun h'=>h'.get (h.next+1)=.row (l.flatMap AP) 46 true false∧h'.next=h.next+2∧h'.floor=h.floor∧∀ i,i<h.next→h'.get i=h.get i) Tryd.func48 rfl (by simp[Tryd.f48]) ?_
 have hr:Tryd.f48.results.toList=[.tmp 2]:=rfl
 have hsrc:=(hv.mono (h':=h.push (.row [] 46 false false)) (by show h.next≤h.next+1;omega) fun i hi=>AM hi).src
 obtain⟨a,c,rfl,h1⟩:=hv
 obtain⟨id,off,rfl⟩:∃ id off,a=some ⟨id,off,none⟩:=by
  rcases h1 with⟨h1,_⟩ | ⟨id,off,_,_,_,_,h2,_⟩
  ·rw[h1] at hne;exact absurd hne (by simp)
  ·exact⟨id,off,h2⟩
 have hb:B0 Tryd.prog .eql 22 (.tmp 3) (.const (Z0)) (.slice (some ⟨id,off,none⟩) l.length c) (Z0)=some (.bool false):=by
  have hf:flat (.slice (some ⟨id,off,none⟩) l.length c)=false:=rfl
  simp only[B0,hf,Bool.false_and,Bool.false_eq_true,if_false,Tryd.underlying22]
 have hbs:EA Tryd.prog h 22 0 []=some (qS h.next 0 0,h.push (.row [] 46 false false)):=by
  simp[EA,Tryd.underlying22,FX,F8,flat,BO,EH,GU,ER]
 have hzs:(Value.agg #[.int .i64 0,.string ByteArray.empty,.int .i64 0,.int .i64 0,.int .i64 0]).cells.size=5:=rfl
 have hap:C4 Tryd.prog (h.push (.row [] 46 false false)) 22 (qS h.next 0 0) (.slice (some ⟨id,off,none⟩) l.length c)=some (qS (h.next+1) l.length AG,(h.push (.row [] 46 false false)).push (.row (l.flatMap AP) 46 true false)):=by
  have hu:(0:Nat)≠AG:=by unfold AG;omega
  have e1:¬ (l.length≤0):=by omega
  have e2:l.length*48≤140737488355328:=by omega
  have e3:l.length≤140737488355328:=by omega
  have h0:CL (h.push (.row [] 46 false false)) 5 0 (qS h.next 0 0)=some []:=by simp[CL]
  simp only[C4,Tryd.underlying22,FX,QC,F8,hzs,hsrc,XG,hu,h0,e1,e2,e3,decide_true,beq_self_eq_true,Bool.and_self,if_true,if_false,Nat.le_refl,Nat.zero_add,Nat.zero_mul,Nat.zero_le,List.nil_append,show (0<5)=True by simp,C6]
 simp only[eE,seval,↓eP,hr,hb,hbs,hap]
 refine⟨?_,rfl,rfl,fun i hi=>?_⟩
 ·exact BL (h:=h.push (.row [] 46 false false))
 ·rw[AM (by show i<h.next+1;omega),AM hi]
def YG:List (Bool × Bool × List Operand):=[BI,AS [.tmp 1],AS [.tmp 1],AS [.tmp 1,.tmp 2],AS [.tmp 1],AS [.tmp 1],AT,AT]
theorem qN (hsn:BZ call) {at_ m e c5 c6 n ce:Nat} {E:List Int} {y v:Int} {g5 g6 ge:Bool} {R:AA→Prop} (h5:h.get c5=.row [qP m 0] 79 g5 false) (h6:h.get c6=.row [qS e n ce] 28 g6 false) (he:h.get e=.row (ints E) 3 ge false) (hy:E[at_]?=some y) (hn:n=E.length)
  (hc:∃ h',call 51 [qP m 0,iv at_,iv y] h=some (iv v,h')∧(h'.floor=h.floor∧R h')):∃ h',AW Tryd.prog call N 50 [iv at_,qP c5 0,qP c6 0] h=some (iv v,h')∧R h':=by
 refine E0 (R:=R) Tryd.func50 rfl (by simp[Tryd.f50]) ?_
 have hr:Tryd.f50.results.toList=[.tmp 4]:=rfl
 obtain⟨h',hc,hf,hR⟩:=hc
 have hat:at_<n:=by rw[hn];exact(List.getElem?_eq_some_iff.1 hy).1
 have hfx:h'.fl h.floor=h':=by rw[← hf];exact K0 h'
 have lE:=JV (ty:=3) (g:=ge) (ro:=false) hy
 simp only[eE,seval,↓eP]
 show WK _ _ _ (.region _ _ true) _ _
 refine WK.flags (fs:=YG) (by kernel_rfl) ?_
 unfold YG
 iterate 8
  refine FO hsn ?_
  simp only[rG,seval,AC,AE,AD,DS,FA,DL,EI,FR,RZ,h5,IC,C3,h6,GJ hat,CO,he,lE,hc,hfx]
 refine FT ?_
 simp only[eE,seval,↓eP,hr]
 exact hR
end
theorem SX {l:List AB}:∀ k a b c,EU l k a b→D_ l b c→EU l (k+1) a c
 | 0,a,b,c,h,hs=>by
  have:a=b:=h
  subst this
  exact⟨c,hs,hs.lt.1,hs.lt.2,rfl⟩
 | k+1,a,b,c,⟨p,h1,h2,h3,h4⟩,hs=>⟨p,h1,h2,h3,SX k p b c h4 hs⟩
theorem RX {l:List AB}:∀ k r a q,EU l (k+r) a q→∃ b,EU l k a b∧EU l r b q
 | 0,r,a,q,h=>⟨a,rfl,by rwa [Nat.zero_add] at h⟩
 | k+1,r,a,q,h=>by
  rw[show k+1+r=(k+r)+1 by omega] at h
  obtain⟨p,h1,h2,h3,h4⟩:=h
  obtain⟨b,h5,h6⟩:=RX k r p q h4
  exact⟨b,⟨p,h1,h2,h3,h5⟩,h6⟩
theorem N4 {l:List AB}:∀ k a b c,EU l k a b→EU l k a c→b=c
 | 0,a,b,c,h,h'=>(show a=b from h).symm.trans (show a=c from h')
 | k+1,a,b,c,⟨p,h1,_,_,h4⟩,⟨p',g1,_,_,g4⟩=>by
  have:p=p':=D_.unique l.length a (by omega) h1 g1
  subst this
  exact N4 k p b c h4 g4
theorem UA {l:List AB} {a b c:Nat}:∀ k j,k<j→EU l k a b→EU l j a c→b<c:=fun k j hkj h h'=>by
 obtain⟨b',h1,h2⟩:=RX k (j-k) a c (by rw[show k+(j-k)=j by omega];exact h')
 have:=N4 k a b b' h h1
 subst this
 have:=H5 _ _ _ h2
 omega
def GY (l:List AB) (p k i:Nat):Prop:=∃ x,l[p]?=some x∧k<x.kids.toNat∧EU l k (p+1) i
theorem GY.lt {l:List AB} {p k i:Nat} (h:GY l p k i):p<i:=by
 obtain⟨x,_,_,h3⟩:=h
 have:=H5 _ _ _ h3
 omega
theorem GY.sub {l:List AB} (ht:CU l) {p k i:Nat} (h:GY l p k i):∃ q,D_ l i q∧q≤BV l p∧i<l.length:=by
 obtain⟨x,hx,hk,hc⟩:=h
 have hs:=ht.end (List.getElem?_eq_some_iff.1 hx).1
 obtain⟨y,hy,_,_,hch⟩:=hs.kids
 rw[hx] at hy
 cases hy
 obtain⟨r,hr⟩:∃ r,x.kids.toNat=k+(r+1):=⟨x.kids.toNat-k-1,by omega⟩
 rw[hr] at hch
 obtain⟨b,h1,q,h2,h3,h4,h5⟩:=RX _ _ _ _ hch
 have:=N4 _ _ _ _ hc h1
 subst this
 have:=H5 _ _ _ h5
 exact⟨q,h2,by omega,by omega⟩
theorem YF {l:List AB}:∀ (r a q j:Nat),EU l r a q→a≤j→j<q→∃ k b c,k<r∧EU l k a b∧D_ l b c∧b≤j∧j<c
 | 0,a,q,j,h,h1,h2=>by have:a=q:=h;omega
 | r+1,a,q,j,⟨p,s,h3,h4,h5⟩,h1,h2=>by
  rcases Nat.lt_or_ge j p with h6 | h6
  ·exact⟨0,a,p,by omega,rfl,s,h1,h6⟩
  ·obtain⟨k,b,c,k1,k2,k3,k4,k5⟩:=YF r p q j h5 h6 h2
   exact⟨k+1,b,c,by omega,⟨p,s,h3,h4,k2⟩,k3,k4,k5⟩
theorem GY.unique {l:List AB} (ht:CU l) {p k i p' k':Nat} (h:GY l p k i) (h':GY l p' k' i):p=p'∧k=k':=by
 have key:∀ {p k i p' k':Nat},GY l p k i→GY l p' k' i→¬ p<p':=by
  intro p k i p' k' h h' hlt
  have hi:=h'.lt
  obtain⟨qi,si,hqi,_⟩:=h'.sub ht
  have hsi:=si.lt
  obtain⟨x,hx,hk,hc⟩:=h
  have hs:=ht.end (List.getElem?_eq_some_iff.1 hx).1
  obtain⟨y,hy,_,_,hch⟩:=hs.kids
  rw[hx] at hy
  cases hy
  have hp':p'<l.length:=by
   obtain⟨x',hx',_⟩:=h'
   exact(List.getElem?_eq_some_iff.1 hx').1
  have he':=(ht.end hp').lt
  obtain⟨r,hr⟩:∃ r,x.kids.toNat=k+(r+1):=⟨x.kids.toNat-k-1,by omega⟩
  have hkc:=hch
  rw[hr] at hkc
  obtain⟨b0,g1,g2⟩:=RX _ _ _ _ hkc
  have:=N4 _ _ _ _ hc g1
  subst this
  have hle:=H5 _ _ _ g2
  obtain⟨j,b,c,j1,j2,j3,j4,j5⟩:=YF _ _ _ p' hch hlt (by omega)
  obtain⟨q',s1,s2⟩:=D_.cover (c-b) (by have:=j3.lt;omega) j3 p' j4 j5
  have hee:=OW s1
  -- i lies in (b, c), and is the start of the k-th kid
  rcases Nat.lt_trichotomy k j with hkj | hkj | hkj
  ·have:=UA k j hkj hc j2
   omega
  ·subst hkj
   have:=N4 _ _ _ _ hc j2
   omega
  ·have hj1:=SX j _ _ _ j2 j3
   rcases Nat.lt_or_ge (j+1) k with h9 | h9
   ·have:=UA (j+1) k h9 hj1 hc
    omega
   ·have:j+1=k:=by omega
    subst this
    have:=N4 _ _ _ _ hj1 hc
    omega
 have hpp:p=p':=by
  have h1:=key h h'
  have h2:=key h' h
  omega
 subst hpp
 refine⟨rfl,?_⟩
 obtain⟨_,_,_,hc⟩:=h
 obtain⟨_,_,_,hc'⟩:=h'
 rcases Nat.lt_trichotomy k k' with h1 | h1 | h1
 ·have:=UA _ _ h1 hc hc';omega
 ·exact h1
 ·have:=UA _ _ h1 hc' hc;omega
theorem D_.parent {l:List AB}:∀ (n:Nat) {a q:Nat},q≤a+n→D_ l a q→∀ i,a<i→i<q→∃ p k,GY l p k i∧a≤p
 | 0,a,q,hn,h,i,h1,h2=>by have:=h.lt;omega
 | n+1,a,q,hn,h,i,h1,h2=>by
  obtain⟨x,hx,_,_,hc⟩:=h.kids
  obtain⟨k,b,c,k1,k2,k3,k4,k5⟩:=YF _ _ _ i hc h1 h2
  rcases Nat.eq_or_lt_of_le k4 with rfl | h6
  ·exact⟨a,k,⟨x,hx,k1,k2⟩,Nat.le_refl _⟩
  ·have hb:=H5 _ _ _ k2
   obtain⟨r,hr⟩:∃ r,x.kids.toNat=(k+1)+r:=⟨x.kids.toNat-(k+1),by omega⟩
   rw[hr] at hc
   obtain⟨c',g1,g2⟩:=RX _ _ _ _ hc
   have:=N4 _ _ _ _ (SX _ _ _ _ k2 k3) g1
   subst this
   have:=H5 _ _ _ g2
   obtain⟨p,k',h7,h8⟩:=D_.parent n (by omega) k3 i h6 k5
   exact⟨p,k',h7,by omega⟩
theorem CU.parent {l:List AB} (ht:CU l) {i:Nat} (h0:0<i) (h1:i<l.length):∃ p k,GY l p k i:=by
 obtain⟨p,k,h,_⟩:=D_.parent l.length (by omega) ht i h0 h1
 exact⟨p,k,h⟩
structure cV (l:List AB) (O:List Int):Prop where
 top:∀ x,l[0]?=some x→O[0]?=some (DZ x.kind)
 kid:∀ p k i x y o,GY l p k i→l[p]?=some x→l[i]?=some y→O[p]?=some o→O[i]?=some (o+GD (CB x.kind) (CB y.kind) k+DZ y.kind)
def LN (O:List Int) (a b:Nat) (M:Int):Prop:=(∀ i x,a≤i→i<b→O[i]?=some x→x≤M)∧∃ i,a≤i∧i<b∧O[i]?=some M
theorem LN.join {O:List Int} {a b c:Nat} {M M':Int} (h:LN O a b M) (h':LN O b c M') (hab:a≤b) (hbc:b≤c):LN O a c (if M'>M then M' else M):=by
 obtain⟨h1,i,h2,h3,h4⟩:=h
 obtain⟨g1,j,g2,g3,g4⟩:=h'
 refine⟨fun t x t1 t2 t3=>?_,?_⟩
 ·rcases Nat.lt_or_ge t b with hb | hb
  ·have:=h1 t x t1 hb t3
   split <;> omega
  ·have:=g1 t x hb t2 t3
   split <;> omega
 ·split
  ·exact⟨j,by omega,g3,g4⟩
  ·exact⟨i,h2,by omega,h4⟩
theorem LN.unique {O:List Int} {a b:Nat} {M M':Int} (h:LN O a b M) (h':LN O a b M'):M=M':=by
 obtain⟨h1,i,h2,h3,h4⟩:=h
 obtain⟨g1,j,g2,g3,g4⟩:=h'
 have:=h1 j _ g2 g3 g4
 have:=g1 i _ h2 h3 h4
 omega
theorem qY {l:List AB} {O:List Int} (hO:cV l O):∀ (m at_ q:Nat) (x:AB) (o:Int),D_ l at_ q→l.length<at_+m→l[at_]?=some x→O[at_]?=some o →
  LN O at_ q (o-DZ x.kind+(CX l m at_).1)∧(CX l m at_).2=q:=by
 intro m
 induction m with
 | zero=>intro at_ q x o hs hm hx;have:=hs.lt;omega
 | succ m ih=>
  intro at_ q x o hs hm hx ho
  obtain⟨y,hy,_,_,hc⟩:=hs.kids
  rw[hx] at hy
  cases hy
  have key:∀ r k most next,k+r=x.kids.toNat→EU l k (at_+1) next→EU l r next q→LN O at_ next (o+most)→LN O at_ q (o+(HX (CX l m) l x.kind r k most next).1)∧(HX (CX l m) l x.kind r k most next).2=q:=by
   intro r
   induction r with
   | zero=>
    intro k most next hk h1 h2 h3
    have:next=q:=h2
    subst this
    exact⟨h3,rfl⟩
   | succ r ihr=>
    intro k most next hk h1 ⟨p',s1,s2,s3,s4⟩ h3
    have hn1:=H5 _ _ _ h1
    obtain⟨z,hz,_,_,_⟩:=s1.kids
    have hz':=hO.kid at_ k next x z o ⟨x,hx,by omega,h1⟩ hx hz ho
    obtain⟨a1,a2⟩:=ih next p' z _ s1 (by omega) hz hz'
    unfold HX
    rw[hz]
    simp only
    rw[a2]
    refine ihr (k+1) _ p' (by omega) (SX _ _ _ _ h1 s1) s4 ?_
    have h4:=h3.join a1 (by omega) (by omega)
    have e1:o+GD (CB x.kind) (CB z.kind) k+DZ z.kind-DZ z.kind+(CX l m next).1=o+((CX l m next).1+GD (CB x.kind) (CB z.kind) k):=by omega
    rw[e1] at h4
    refine cast ?_ h4
    congr 1
    split <;> split <;> omega
  have h0:=key x.kids.toNat 0 0 (at_+1) (by omega) rfl hc ⟨fun i v h1 h2 h3=>by
    have:i=at_:=by omega
    subst this
    rw[ho] at h3
    cases h3
    omega,at_,Nat.le_refl _,by omega,by rw[ho];congr 1;omega⟩
  unfold CX
  rw[hx]
  refine⟨?_,h0.2⟩
  refine cast ?_ h0.1
  congr 1
  simp only
  omega
def SR:List FuncId:=[51,52,53,50,57,58,60,18,23,70,37,36,999999,999999,999999,999999,999999]
open Classical in
noncomputable def L8 (call:AK):AK:=fun f args h=>match call f args h with
 | some (v,h1)=>if SR.contains f=false∧E_ v=true∧∀ i,i<h.next→h1.get i=h.get i then some (v,h) else some (v,h1)
 | none=>none
theorem fP {call:AK} {f:FuncId} {args:List Value} {h h':AA} {v:Value} (hs:L8 call f args h=some (v,h')):M0 call f args h=some (v,h')∨call f args h=some (v,h'):=by
 unfold L8 at hs
 split at hs
 ·rename_i v' h1 he
  split at hs
  ·rename_i hc
   cases hs
   exact .inl (YN he hc.2.1 hc.2.2)
  ·cases hs
   exact .inr he
 ·cases hs
theorem Kb {P:Program} {call:AK} (hc:CR P call∧BZ call):CR P (L8 call)∧BZ (L8 call):=by
 have hk:=bU hc.1
 refine⟨fun f args h v h' hs=>?_,fun f args h v h' hs=>?_⟩
 ·rcases fP hs with h1 | h1
  ·exact hk.1 _ _ _ _ _ h1
  ·exact hc.1 _ _ _ _ _ h1
 ·rcases fP hs with h1 | h1
  ·exact hk.2 _ _ _ _ _ h1
  ·exact hc.2 _ _ _ _ _ h1
section
variable {call:AK} {n:Nat} {h:AA}
theorem xP {P K:Int} {k:Nat} {a b:Int} (hP:a≤7) (hb7:0≤b∧b≤7) (ha0:0≤a) (ha:call 116 [iv P] h=some (iv a,h)) (hb:call 116 [iv K] h=some (iv b,h)):AW Tryd.prog call n 104 [iv P,iv k,iv K] h=some (.bool (K6 a b k),h):=by
 refine DW Tryd.func104 rfl (by simp[Tryd.f104]) ?_
 have hr:Tryd.f104.results.toList=[.tmp 6]:=rfl
 unfold K6
 by_cases a0:a=0
 ·subst a0
  have e:(if b=0 then false else if 1≤(0:Int)∧(0:Int)≤5 then (decide (b<0)||(b==0&&((k:Int)==1||(0:Int)==3))) else if (0:Int)=6 then decide (b<6) else false)=false:=by
   split
   ·rfl
   ·rw[if_neg (by omega),if_neg (by omega)]
  rw[e]
  simp only[eE,seval,↓eP,rP,hr,ha,hb]
 have c0:(a==0)=false:=by simpa using a0
 by_cases b0:b=0
 ·subst b0
  simp only[eE,seval,↓eP,rP,hr,ha,hb,c0]
 have c1:(b==0)=false:=by simpa using b0
 rw[if_neg b0]
 by_cases a7:a=7
 ·subst a7
  rw[if_neg (by omega),if_neg (by omega)]
  simp only[eE,seval,↓eP,rP,hr,ha,hb,c1,show ((7:Int)==0)=false from rfl]
 have c2:(a==7)=false:=by simpa using a7
 by_cases a6:a=6
 ·subst a6
  rw[if_neg (by omega),if_pos rfl]
  simp only[eE,seval,↓eP,rP,hr,ha,hb,c1,show ((6:Int)==0)=false from rfl,show ((6:Int)==7)=false from rfl]
 have c3:(a==6)=false:=by simpa using a6
 rw[if_pos (by omega)]
 cases d1:decide (b<a) with
 | true=>simp only[eE,seval,↓eP,rP,hr,ha,hb,c0,c1,c2,c3,d1,Bool.true_or]
 | false=>
  cases d2:(b==a) with
  | false=>simp only[eE,seval,↓eP,rP,hr,ha,hb,c0,c1,c2,c3,d1,d2,Bool.false_or,Bool.false_and]
  | true=>
   cases d3:((k:Int)==1) with
   | true=>simp only[eE,seval,↓eP,rP,hr,ha,hb,c0,c1,c2,c3,d1,d2,d3,Bool.false_or,Bool.true_or]
   | false=>simp only[eE,seval,↓eP,rP,hr,ha,hb,c0,c1,c2,c3,d1,d2,d3,Bool.false_or]
theorem aC (k:Int):0≤CB k∧CB k≤7:=by unfold CB;(repeat' split) <;> omega
theorem mJ (k:Int) (h:AA) (hk:1≤k∧k≤54):L0 116 [iv k] h=some (iv (CB k),h):=EG rfl rfl rfl rfl (HJ Ee hk)
theorem rA (P Q:Int) (k:Nat) (h:AA) (hP:1≤P∧P≤54) (hQ:1≤Q∧Q≤54):L1 104 [iv P,iv k,iv Q] h=some (.bool (K6 (CB P) (CB Q) k),h):=
 EG (F1 rfl rfl) rfl rfl rfl ⟨_,xP (aC P).2 (aC Q) (aC P).1 (EY (mJ P _ hP)) (EY (mJ Q _ hQ))⟩
noncomputable def L3:AK:=MI [100] L2 12
theorem k7:CR Tryd.prog L3∧BZ L3:=bL nD
end
noncomputable def AU:Nat→AK
 | 0=>L3
 | n+1=>FV L3 (L8 (AW Tryd.prog (AU n) n))
theorem Fsx:∀ n,CR Tryd.prog (AU n)∧BZ (AU n)
 | 0=>k7
 | n+1=>O_ k7 (Kb (PV JG (Fsx n).1 (Fsx n).2 n))
section
variable {n:Nat} {f:FuncId} {args:List Value} {h h1:AA} {v:Value} {r:Value × AA}
theorem mV (hb:L3 f args h=some r):AU n f args h=some r:=by
 cases n with
 | zero=>exact hb
 | succ n=>exact Q5 hb
theorem bA (hb:L2 f args h=some r):AU n f args h=some r:=mV (F4 hb)
theorem FW (hb:L1 f args h=some r):AU n f args h=some r:=bA (KE hb)
theorem CV (hf:([90,118,109,79,81,82,31,32,59,
 116,113,112,101,102,115,99,93,105,107,
 124,125,89]:List Nat).contains f=false∧([108,104,111,80,87,83,62]:List Nat).contains f=false∧([91,114,100]:List Nat).contains f=false):L3 f args h=none:=by
 have h3:=hf.2.2
 simp only[List.contains_cons,List.contains_nil,Bool.or_false,Bool.or_eq_false_iff] at h3
 refine F1 (MO (F1 (F1 rfl hf.1) hf.2.1) ?_) ?_
 ·simp only[List.contains_cons,List.contains_nil,Bool.or_false,Bool.or_eq_false_iff];exact⟨h3.1,h3.2.1⟩
 ·simp only[List.contains_cons,List.contains_nil,Bool.or_false];exact h3.2.2
theorem JA (hb:L3 f args h=none) (hv:E_ v=true) (hw:∃ h1,AW Tryd.prog (AU n) n f args h=some (v,h1)∧∀ i,i<h.next→h1.get i=h.get i) (hf:SR.contains f=false:=by rfl):AU (n+1) f args h=some (v,h):=by
 obtain⟨h1,he,hk⟩:=hw
 unfold AU FV L8
 rw[hb,he]
 simp only
 rw[if_pos ⟨hf,hv,hk⟩]
theorem J0 (hb:L3 f args h=none) (hv:E_ v=true) (hw:AW Tryd.prog (AU n) n f args h=some (v,h)) (hf:SR.contains f=false:=by rfl):AU (n+1) f args h=some (v,h):=JA hb hv ⟨h,hw,fun _ _=>rfl⟩ hf
theorem OE {R:AA→Prop} (hb:L3 f args h=none) (hv:E_ v=false) (hw:∃ h1,AW Tryd.prog (AU n) n f args h=some (v,h1)∧R h1):∃ h1,AU (n+1) f args h=some (v,h1)∧R h1:=by
 obtain⟨h1,he,hk⟩:=hw
 refine⟨h1,?_,hk⟩
 unfold AU FV L8
 rw[hb,he]
 simp only
 rw[if_neg (fun hc=>by rw[hv] at hc;cases hc.2.1)]
theorem O6 {R:Value→AA→Prop} (hb:L3 f args h=none) (hw:∃ v h1,AW Tryd.prog (AU n) n f args h=some (v,h1)∧R v h1) (hf:∀ v h1,E_ v=true→(∀ i,i<h.next→h1.get i=h.get i)→R v h1→R v h):∃ v h1,AU (n+1) f args h=some (v,h1)∧R v h1:=by
 obtain⟨v,h1,he,hk⟩:=hw
 by_cases hc:SR.contains f=false∧E_ v=true∧∀ i,i<h.next→h1.get i=h.get i
 ·refine⟨v,h,?_,hf v h1 hc.2.1 hc.2.2 hk⟩
  unfold AU FV L8
  rw[hb,he]
  simp only
  rw[if_pos hc]
 ·refine⟨v,h1,?_,hk⟩
  unfold AU FV L8
  rw[hb,he]
  simp only
  rw[if_neg hc]
theorem OJ {R:AA→Prop} (hb:L3 f args h=none) (hw:∃ h1,AW Tryd.prog (AU n) n f args h=some (v,h1)∧R h1) (hf:SR.contains f=true:=by rfl):∃ h1,AU (n+1) f args h=some (v,h1)∧R h1:=by
 obtain⟨h1,he,hk⟩:=hw
 refine⟨h1,?_,hk⟩
 unfold AU FV L8
 rw[hb,he]
 simp only
 rw[if_neg (fun hc=>by rw[hf] at hc;cases hc.1)]
end
theorem Fy {l:List AB} {v:Value} (hlen:l.length<30000000000000):∀ m n (at_:Nat) (what:Int) h,at_≤l.length→l.length<at_+m→what≠8→AL h v l→h.get 0=DK→0<h.next→h.floor≤h.next→l.length+4+m<n →
  AU n 73 [v,iv at_,iv what] h=some (.tuple #[iv ((BQ AR l m at_ what).1:Int),.bool (BQ AR l m at_ what).2],h):=by
 intro m
 induction m with
 | zero=>intro n at_ what h hat hm;omega
 | succ m ih=>
  intro n at_ what h hat hm hw hv hg hn0 hfl hn
  obtain⟨n,rfl⟩:∃ k,n=k+1:=⟨n-1,by omega⟩
  refine JA (CV ⟨rfl,rfl,rfl⟩) (NU rfl rfl) ?_
  exact eQ (Fsx n).2 ⟨fun k j h hk hj=>FW (iI k j h hk hj),fun p w h hp hpl hw hv hg hn0 hfl=>ih n p w h hpl (by omega) hw hv hg hn0 hfl (by omega)⟩
   (by omega) hlen hat hw (fun w k h=>FW (RM w k h)) (fun k h hk=>FW (TC k h hk)) (fun s h' hg=>bA (VK hg s)) hv hg hn0 hfl
theorem wK {l:List AB} {v:Value} (hlen:l.length<30000000000000) {n m:Nat} (hm:l.length<1+m) (hn:l.length+7+m<n) {h:AA} (hv:AL h v l) (hg:h.get 0=DK) (hn0:0<h.next) (hfl:h.floor≤h.next) :
  AU n 73 [v,iv 0,iv 8] h=some (.tuple #[iv ((GO AR l m).1:Int),.bool (GO AR l m).2],h):=by
 obtain⟨n,rfl⟩:∃ k,n=k+2:=⟨n-2,by omega⟩
 refine JA (CV ⟨rfl,rfl,rfl⟩) (NU rfl rfl) ?_
 refine jH (Fsx (n+1)).2 ?_ (by omega) hlen (fun w k h=>FW (RM w k h)) (fun k h hk=>FW (TC k h hk)) (fun s h' hg=>bA (VK hg s)) hv hg hn0 hfl
 intro x h' hx hf hk1 hv' hg' hn0' hfl'
 have hk0:0≤x.kids:=by
  unfold DE at hf
  simp only[Bool.and_eq_true,decide_eq_true_eq] at hf
  have:=O4 x.kind
  omega
 refine J0 (CV ⟨rfl,rfl,rfl⟩) (NU rfl rfl) ?_
 refine kN hx hk0 (by omega) hlen hv' (fun w k h=>FW (RM w k h)) fun p w hp hpl hw=>?_
 exact Fy hlen m n p w h' hpl (by omega) hw hv' hg' hn0' hfl' (by omega)
theorem wY {l:List AB} {v:Value} (hlen:l.length<30000000000000) (hval:∀ (i:Nat) x,l[i]?=some x→1≤x.kind∧x.kind≤54) {h:AA} (hv:AL h v l):∀ m n (at_:Nat),m<30000000000000→at_<l.length→l.length<at_+m→l.length+4+m<n →
  AU n 94 [v,iv at_] h=some (.tuple #[iv (CX l m at_).1,iv ((CX l m at_).2:Int)],h):=by
 intro m
 induction m with
 | zero=>intro n at_ _ hat hm;omega
 | succ m ih=>
  intro n at_ hmm hat hm hn
  obtain⟨n,rfl⟩:∃ k,n=k+1:=⟨n-1,by omega⟩
  refine J0 (CV ⟨rfl,rfl,rfl⟩) (NU rfl rfl) ?_
  refine eR (Fsx n).2 (by omega) hlen (by omega) hat (by omega) hv hval (fun P Q k h hP hQ=>FW (kA P Q k h hP hQ)) (fun k h hk=>FW (pE k h hk)) fun p hp hpl=>?_
  exact ih n p (by omega) hpl (by omega) (by omega)
theorem uN {n:Nat} {l:List AB} {v:Value} (hn:2*l.length+12<n) (hlen:l.length<2932031007403) {h:AA} (hv:AL h v l) (hg:h.get 0=DK) (hn0:0<h.next) (hfl:h.floor≤h.next) :
  AU n 30 [v] h=some (FI (BF l).1 (BF l).2,h):=by
 obtain⟨n,rfl⟩:∃ k,n=k+2:=⟨n-2,by omega⟩
 refine JA (CV ⟨rfl,rfl,rfl⟩) rfl ?_
 refine lC hv hg hn0 hfl (fun h' hv' hg' hn' hfl'=>wK (by omega) (by omega) (by omega) hv' hg' hn' hfl') fun hs h' hv'=>?_
 refine J0 (CV ⟨rfl,rfl,rfl⟩) rfl ?_
 exact cU (m:=l.length+1) hv' (XH hs) (wY (by omega) (lX hs) hv' (l.length+1) n 0 (by omega) (XH hs) (by omega) (by omega))
theorem Bv {l:List AB} {v:Value} {h:AA} {n:Nat} (ht:CU l) (hv:AL h v l) (hlen:l.length<30000000000000) (hn:l.length+4<n) (hfl:h.floor≤h.next) :
  ∃ h',AU n 49 [v] h=some (qS h.next l.length l.length,h')∧(h'.get h.next=.row (ints (AI l)) 3 false false∧h'.next=h.next+1∧h'.floor=h.floor∧∀ i,i<h.next→h'.get i=h.get i):=by
 obtain⟨n,rfl⟩:∃ k,n=k+1:=⟨n-1,by omega⟩
 exact OE (CV ⟨rfl,rfl,rfl⟩) rfl (gX ht hv hlen (by omega) hfl)
theorem kU {l:List AB} {v:Value} {h:AA} {n:Nat} (ht:CU l) (hv:AL h v l) (hlen:l.length<30000000000000) (hn:l.length+4<n) (hfl:h.floor≤h.next) :
  ∃ h',AU n 56 [v] h=some (qS h.next l.length l.length,h')∧(h'.get h.next=.row (ints (AI l)) 3 false false∧h'.next=h.next+1∧h'.floor=h.floor∧∀ i,i<h.next→h'.get i=h.get i):=by
 obtain⟨n,rfl⟩:∃ k,n=k+1:=⟨n-1,by omega⟩
 exact OE (CV ⟨rfl,rfl,rfl⟩) rfl (Hz ht hv hlen (by omega) hfl)
theorem tP:BP Tryd.prog 93=some 15:=by kernel_rfl
theorem zI:BP Tryd.prog 91=some 5:=by kernel_rfl
theorem pF:BP Tryd.prog 90=some 1:=by kernel_rfl
theorem ZH:BP Tryd.prog 121=some 4:=by kernel_rfl
theorem Bh:FK Tryd.prog 90=some false:=by kernel_rfl
theorem Dj:G_ Tryd.prog 121=some 40:=by kernel_rfl
theorem bH:DI Tryd.prog 121=some (.agg #[.string ByteArray.empty,iv 0,iv 0,iv 0]):=by kernel_rfl
theorem pL:G6 Tryd.prog (match Tryd.prog.underlying 121 with | some (.struct fs)=>fs.toList | _=>[])=some [(0,1),(1,1),(2,1),(3,1)]:=by kernel_rfl
abbrev lQ (nm:ByteArray) (a b c:Int):Value:=.agg #[.string nm,iv a,iv b,iv c]
theorem pS {nm:ByteArray} {a b c:Int}:DR Tryd.prog 121 [(0,.string nm),(1,iv a),(2,iv b),(3,iv c)]=some (lQ nm a b c):=by
 have h:=pL
 rw[Tryd.underlying121] at h
 simp only at h
 have hf:flat (.agg #[.string ByteArray.empty,iv 0,iv 0,iv 0])=true:=rfl
 simp only[DR,bH,hf,if_true,Tryd.underlying121,h]
 rfl
section
variable {h:AA} {id off:Nat}
theorem Hq {nm:ByteArray} {a b c:Int}:EA Tryd.prog h 90 1 [(0,lQ nm a b c)]=some (qS h.next 1 1,h.push (.row [.string nm,iv a,iv b,iv c] 121 false false)):=by
 simp[EA,Tryd.underlying90,ZH,bH,flat,BO,EH,GU,ER,Go.Sx.lay]
theorem NQ:EO Tryd.prog h 90 (qP id off)=AO off (h.get id):=KJ Bh
theorem GV:BH Tryd.prog 93 (qP id off) 0=some (qP id off):=by simp[BH,Tryd.underlying93,HR,CI]
theorem XN:BH Tryd.prog 93 (qP id off) 1=some (qP id (off+8)):=by simp[BH,Tryd.underlying93,MB,CI]
theorem OD:BH Tryd.prog 93 (qP id off) 2=some (qP id (off+9)):=by simp[BH,Tryd.underlying93,pF,CI]
theorem iB:BH Tryd.prog 93 (qP id off) 3=some (qP id (off+10)):=by simp[BH,Tryd.underlying93,zI,CI]
theorem g_:BH Tryd.prog 121 (qP id off) 0=some (qP id off):=by simp[BH,Tryd.underlying121,HC,CI]
theorem pD:BH Tryd.prog 121 (qP id off) 1=some (qP id (off+1)):=by simp[BH,Tryd.underlying121,CT,CI]
theorem Jd:BH Tryd.prog 121 (qP id off) 2=some (qP id (off+2)):=by simp[BH,Tryd.underlying121,CT,CI]
theorem cJ:BH Tryd.prog 121 (qP id off) 3=some (qP id (off+3)):=by simp[BH,Tryd.underlying121,CT,CI]
theorem tJ {i:Nat} (hi:i<5):CY Tryd.prog 91 (qP id off) (iv (i:Int))=some (qP id (off+i)):=by
 simp only[CY,Tryd.underlying91,CT,CI]
 rw[if_pos (by omega)]
 simp
theorem R4 {n c i:Nat} (hi:i<n):CY Tryd.prog 90 (qS id n c) (iv (i:Int))=some (.pointer (some ⟨id,i*4,none⟩)):=by
 simp only[CY,Tryd.underlying90,ZH,CI]
 rw[if_pos (by omega)]
 simp
theorem TF {a:Option Addr} {n c:Nat}:B_ Tryd.prog h 90 (.slice a n c)=some (iv (n:Int)):=by simp[B_,Tryd.underlying90]
end
def PC (t:FF):List Value:=[.string t.name,iv t.kind,iv t.num,iv t.known]
def K7 (l:List FF):List Value:=l.flatMap PC
theorem lH:∀ l,(K7 l).length=l.length*4
 | []=>rfl
 | t :: l=>by
  have:=lH l
  simp only[K7,PC,List.flatMap_cons,List.length_append,List.length_cons,List.length_nil] at *
  omega
theorem lY:∀ l,(K7 l).all one=true
 | []=>rfl
 | t :: l=>by
  have:=lY l
  simp only[K7,List.flatMap_cons,List.all_append] at *
  rw[this]
  rfl
theorem SJ:∀ {l:List FF} {k:Nat} {t:FF} (ex:List Value),l[k]?=some t→∀ j,j<4→(K7 l++ex)[k*4+j]?=(PC t)[j]?
 | [],k,t,ex,h,j,hj=>by simp at h
 | a :: l,0,t,ex,h,j,hj=>by
  simp only[List.getElem?_cons_zero,Option.some.injEq] at h
  subst h
  rw[K7,List.flatMap_cons,List.append_assoc,Nat.zero_mul,Nat.zero_add,List.getElem?_append_left (by simp only[PC,List.length_cons,List.length_nil];omega)]
 | a :: l,k+1,t,ex,h,j,hj=>by
  have ih:=SJ (l:=l) (k:=k) (t:=t) ex (by simpa using h) j hj
  rw[K7,List.flatMap_cons,List.append_assoc,List.getElem?_append_right (by simp only[PC,List.length_cons,List.length_nil];omega),← ih]
  congr 1
  simp only[PC,List.length_cons,List.length_nil]
  omega
def ED (s:AN):Nat→Nat
 | 2=>s.queues.length
 | 3=>s.vars.length
 | 4=>s.tags.length
 | 5=>s.rules.length
 | 6=>s.on.length
 | 8=>s.things.length
 | _=>0
def EP (s:AN):Nat→List Value
 | 2=>GP s.queues
 | 3=>CZ s.vars
 | 4=>CZ s.tags
 | 5=>ints s.rules
 | 6=>ints s.on
 | 8=>K7 s.things
 | _=>[]
def LM:Nat→TypeId
 | 2=>57
 | 3=>9
 | 4=>9
 | 5=>3
 | 6=>3
 | 8=>121
 | _=>3
def C9 (V:Nat→Value) (j:Nat) (v:Value):Nat→Value:=fun i=>if i=j then v else V i
def FN (nm:ByteArray) (r n:Nat) (V:Nat→Value) (miss:Int) (e ne:Nat) (C:List Int):List Value:=
 [.string nm,qS r n AG,V 2,V 3,V 4,V 5,V 6,iv miss,qS e ne ne,V 8]++ints C
structure B7 (h:AA) (lo m e r n:Nat) (nm:ByteArray) (E:List Int) (tag:Nat→Nat) (V:Nat→Value) (C:List Int) (s:AN):Prop where
 cell:h.get m=.row (FN nm r n V s.miss e E.length C) 93 false false
 rows:h.get r=.row (s.rows.flatMap AP) 46 true false
 len:s.rows.length=n
 sl:∀ j,2≤j→j≤8→DQ h lo tag j (V j) (ED s j) (EP s j) (LM j)
 ends:h.get e=.row (ints E) 3 false false
 tm:tag m=0
 tr:tag r=1
 te:tag e=10
 lm:lo≤m∧m<h.next
 lr:lo≤r∧r<h.next
 le:lo≤e∧e<h.next
 fl:h.floor≤lo
section
variable {h h':AA} {lo m e r n:Nat} {nm:ByteArray} {E:List Int} {tag tag':Nat→Nat} {V:Nat→Value} {C:List Int} {s s':AN}
theorem B7.mono (hp:B7 h lo m e r n nm E tag V C s) (hn:h.next≤h'.next) (hf:h'.floor=h.floor) (hg:∀ i,lo≤i→i<h.next→h'.get i=h.get i):B7 h' lo m e r n nm E tag V C s where
 cell:=by rw[hg m hp.lm.1 hp.lm.2];exact hp.cell
 rows:=by rw[hg r hp.lr.1 hp.lr.2];exact hp.rows
 len:=hp.len
 sl:=fun j h1 h2=>(hp.sl j h1 h2).mono hn (fun _ _=>rfl) fun i h3 h4 _=>hg i h3 h4
 ends:=by rw[hg e hp.le.1 hp.le.2];exact hp.ends
 tm:=hp.tm
 tr:=hp.tr
 te:=hp.te
 lm:=⟨hp.lm.1,by have:=hp.lm.2;omega⟩
 lr:=⟨hp.lr.1,by have:=hp.lr.2;omega⟩
 le:=⟨hp.le.1,by have:=hp.le.2;omega⟩
 fl:=by rw[hf];exact hp.fl
theorem B7.retag (hp:B7 h lo m e r n nm E tag V C s) (ht:∀ i,i<h.next→tag' i=tag i):B7 h lo m e r n nm E tag' V C s:=
 ⟨hp.cell,hp.rows,hp.len,fun j h1 h2=>(hp.sl j h1 h2).mono (Nat.le_refl _) ht fun _ _ _ _=>rfl,hp.ends,(ht m hp.lm.2).trans hp.tm,(ht r hp.lr.2).trans hp.tr,(ht e hp.le.2).trans hp.te,hp.lm,hp.lr,hp.le,hp.fl⟩
theorem B7.push (hp:B7 h lo m e r n nm E tag V C s) (o:BB):B7 (h.push o) lo m e r n nm E tag V C s:=hp.mono (by show h.next≤h.next+1;omega) rfl fun i _ hi=>AM hi
theorem B7.putNew (hp:B7 h lo m e r n nm E tag V C s) {o o':BB}:B7 ((h.push o').put h.next o) lo m e r n nm E tag V C s:=
 hp.mono (by show h.next≤h.next+1;omega) rfl fun i _ hi=>by rw[AQ (by show h.next<h.next+1;omega) (by omega),AM hi]
theorem B7.cellW (hp:B7 h lo m e r n nm E tag V C s) {C':List Int} {miss':Int}:B7 (h.put m (.row (FN nm r n V miss' e E.length C') 93 false false)) lo m e r n nm E tag V C' { s with miss:=miss' } where
 cell:=CE rfl hp.lm.2
 rows:=by rw[AQ hp.lm.2 (FE (tag:=tag) (by rw[hp.tm,hp.tr];decide))];exact hp.rows
 len:=hp.len
 sl:=fun j h1 h2=>(hp.sl j h1 h2).mono (Nat.le_refl _) (fun _ _=>rfl) fun i _ _ h3=>AQ hp.lm.2 (FE (tag:=tag) (by rw[hp.tm];omega))
 ends:=by rw[AQ hp.lm.2 (FE (tag:=tag) (by rw[hp.tm,hp.te];decide))];exact hp.ends
 tm:=hp.tm
 tr:=hp.tr
 te:=hp.te
 lm:=hp.lm
 lr:=hp.lr
 le:=hp.le
 fl:=hp.fl
theorem B7.rowsW (hp:B7 h lo m e r n nm E tag V C s) {l:List AB} (hl:l.length=s.rows.length):B7 (h.put r (.row (l.flatMap AP) 46 true false)) lo m e r n nm E tag V C { s with rows:=l } where
 cell:=by rw[AQ hp.lr.2 (FE (tag:=tag) (by rw[hp.tm,hp.tr];decide))];exact hp.cell
 rows:=CE rfl hp.lr.2
 len:=hl.trans hp.len
 sl:=fun j h1 h2=>(hp.sl j h1 h2).mono (Nat.le_refl _) (fun _ _=>rfl) fun i _ _ h3=>AQ hp.lr.2 (FE (tag:=tag) (by rw[hp.tr];omega))
 ends:=by rw[AQ hp.lr.2 (FE (tag:=tag) (by rw[hp.tr,hp.te];decide))];exact hp.ends
 tm:=hp.tm
 tr:=hp.tr
 te:=hp.te
 lm:=hp.lm
 lr:=hp.lr
 le:=hp.le
 fl:=hp.fl
theorem B7.row (hp:B7 h lo m e r n nm E tag V C s) {at_:Nat} {x:AB} (hx:s.rows[at_]?=some x):at_<n∧AO (at_*5) (h.get r)=some (iv x.kind)∧AO (at_*5+1) (h.get r)=some (.string x.name)∧AO (at_*5+3) (h.get r)=some (iv x.n) ∧
  CD 5 (at_*5) (h.get r)=some (.agg #[iv x.kind,.string x.name,iv x.ends,iv x.n,iv x.kids]):=by
 have hl:at_<n:=by rw[← hp.len];exact(List.getElem?_eq_some_iff.1 hx).1
 have hat:=XI (c:=AG) hp.rows hp.lr.2
 rw[hp.len] at hat
 obtain⟨id,q,e0,hid,l0,l1,l2,l3,l4,lr⟩:=hat.row hx
 rw[HB hl] at e0
 simp only[Option.some.injEq,Value.pointer.injEq,Addr.mk.injEq,and_true] at e0
 obtain⟨rfl,rfl⟩:=e0
 exact⟨hl,l0,l1,l3,lr⟩
theorem B7.grow (hp:B7 h lo m e r n nm E tag V C s) {j:Nat} (h2:2≤j) (h8:j≤8) {t:TypeId} {w bb:Nat} {z:Value} (hu:Tryd.prog.underlying t=some (.slice (LM j))) (hsz:BP Tryd.prog (LM j)=some w) (hby:G_ Tryd.prog (LM j)=some bb) (hzo:DI Tryd.prog (LM j)=some z) (hz:z.cells.size=w) (hw:0<w) (hbb:bb≤48)
  {xs:List Value} (hcl:(EP s j).length=ED s j*w) (hco:(EP s j).all one=true) (hxl:xs.length=w) (hxo:xs.all one=true) (hnb:ED s j<10000000) :
  ∃ v' h1,C4 Tryd.prog (h.push (.row xs (LM j) false false)) t (V j) (qS h.next 1 1)=some (v',h1)∧one v'=true∧v'.cells=#[v']∧h1.get m=h.get m∧h1.floor=h.floor∧h1.next=h.next+2∧(∀ i,i<h.next→i<lo∨tag i=11→h1.get i=h.get i) ∧
   ∀ s',s'.rows=s.rows→s'.miss=s.miss→ED s' j=ED s j+1→EP s' j=EP s j++xs→(∀ i,i≠j→ED s' i=ED s i∧EP s' i=EP s i) →
    B7 (h1.put m (.row (FN nm r n (C9 V j v') s.miss e E.length C) 93 false false)) lo m e r n nm E (fun i=>if i=h.next+1 then j else tag i) (C9 V j v') C s':=by
 have hpp:DQ (h.push (.row xs (LM j) false false)) lo (fun i=>if i=h.next then 11 else tag i) j (V j) (ED s j) (EP s j) (LM j):=(hp.sl j h2 h8).mono (by show h.next≤h.next+1;omega) (fun i hi=>if_neg (by omega)) fun i _ hi _=>AM hi
 have hlm:=hp.lm
 obtain⟨v',h1,a1,a2,a3,a4,a5,a6,a7⟩:=OH (et:=LM j) (w:=w) (c:=1) (sc:=1) (xs:=xs) hu hsz hby hzo hz hw hbb hpp hcl hco (by rw[Nat.one_mul];exact hxl) hxo (by decide) (by decide) (by omega) (src:=h.next) BL (by show h.next<h.next+1;omega) hp.fl (by simp;omega)
 have hnx:h1.next=h.next+2:=a4
 have hold:∀ i,i<h.next→¬ (lo≤i∧tag i=j)→h1.get i=h.get i:=fun i hi hne=>by
  rw[a7 i (by show i<h.next+1;omega) (by rw[if_neg (by omega)];exact hne),AM hi]
 have hm1:m<h1.next:=by omega
 have hgm:h1.get m=h.get m:=hold m hlm.2 (by rw[hp.tm];omega)
 have hSl:DQ h1 lo (fun i=>if i=h.next+1 then j else tag i) j v' (ED s j+1) (EP s j++xs) (LM j):=by
  rcases a2 with a2 | a2
  ·refine a2.mono' fun i hi=>?_
   show (if i=h.next+1 then j else tag i)=(if i=h.next+1 then j else if i=h.next then 11 else tag i)∨(if i=h.next+1 then j else if i=h.next then 11 else tag i)≠j
   by_cases e1:i=h.next+1
   ·left;rw[if_pos e1,if_pos e1]
   ·rw[if_neg e1,if_neg e1]
    by_cases e2:i=h.next
    ·right;rw[if_pos e2];omega
    ·left;rw[if_neg e2]
  ·exact absurd (show lo≤h.next+1 by omega) a2
 refine⟨v',h1,a1,a5,a6,hgm,a3,hnx,fun i hi hlo=>hold i hi (by omega),fun s' q1 q2 q3 q4 q5=>?_⟩
 have hpn:∀ i,i≠m→(h1.put m (.row (FN nm r n (C9 V j v') s.miss e E.length C) 93 false false)).get i=h1.get i:=fun i hi=>AQ hm1 (Ne.symm hi)
 have tne:∀ i,tag i≠0→i≠m:=fun i hi hh=>hi (by rw[hh];exact hp.tm)
 exact
  { cell:=by rw[q2];exact CE rfl hm1
    rows:=by rw[hpn r (tne r (by rw[hp.tr];decide)),hold r hp.lr.2 (by rw[hp.tr];omega),q1];exact hp.rows
    len:=by rw[q1];exact hp.len
    sl:=fun i i2 i8=>by
     by_cases hij:i=j
     ·subst hij
      rw[q3,q4,show C9 V i v' i=v' from if_pos rfl]
      refine hSl.mono (Nat.le_refl _) (fun _ _=>rfl) fun k k1 k2 k3=>hpn k ?_
      intro hk
      rw[hk] at k3
      rw[if_neg (by omega),hp.tm] at k3
      omega
     ·obtain⟨q6,q7⟩:=q5 i hij
      rw[q6,q7,show C9 V j v' i=V i from if_neg hij]
      refine(hp.sl i i2 i8).mono (by show h.next≤h1.next;omega) (fun k hk=>if_neg (by omega)) fun k k1 k2 k3=>?_
      rw[hpn k (tne k (by omega)),hold k k2 (by omega)]
    ends:=by rw[hpn e (tne e (by rw[hp.te];decide)),hold e hp.le.2 (by rw[hp.te];omega)];exact hp.ends
    tm:=(if_neg (by omega)).trans hp.tm
    tr:=(if_neg (by have:=hp.lr;omega)).trans hp.tr
    te:=(if_neg (by have:=hp.le;omega)).trans hp.te
    lm:=⟨hlm.1,hm1⟩
    lr:=⟨hp.lr.1,by have:=hp.lr.2;show r<h1.next;omega⟩
    le:=⟨hp.le.1,by have:=hp.le.2;show e<h1.next;omega⟩
    fl:=by show h1.floor≤lo;have:h1.floor=h.floor:=a3;have:=hp.fl;omega }
theorem B7.slotW (hp:B7 h lo m e r n nm E tag V C s) {j:Nat} (h2:2≤j) (h8:j≤8) {id:Nat} {ex:List Value} (hV:V j=qS id (ED s j) AG) (ht:tag id=j) (hl:lo≤id∧id<h.next) (q1:s'.rows=s.rows) (q2:s'.miss=s.miss) (q3:ED s' j=ED s j)
  (q5:∀ i,i≠j→ED s' i=ED s i∧EP s' i=EP s i):B7 (h.put id (.row (EP s' j++ex) (LM j) true false)) lo m e r n nm E tag V C s' where
 cell:=by rw[AQ hl.2 (fun hh=>by subst hh;have:=hp.tm;omega),q2];exact hp.cell
 rows:=by rw[AQ hl.2 (fun hh=>by subst hh;have:=hp.tr;omega),q1];exact hp.rows
 len:=by rw[q1];exact hp.len
 sl:=fun i i2 i8=>by
  by_cases hij:i=j
  ·subst hij
   rw[q3]
   exact .inr ⟨id,ex,hV,CE rfl hl.2,hl.1,hl.2,ht⟩
  ·obtain⟨q6,q7⟩:=q5 i hij
   rw[q6,q7]
   exact(hp.sl i i2 i8).mono (Nat.le_refl _) (fun _ _=>rfl) fun k _ _ k3=>AQ hl.2 (fun hh=>by subst hh;omega)
 ends:=by rw[AQ hl.2 (fun hh=>by subst hh;have:=hp.te;omega)];exact hp.ends
 tm:=hp.tm
 tr:=hp.tr
 te:=hp.te
 lm:=hp.lm
 lr:=hp.lr
 le:=hp.le
 fl:=hp.fl
theorem B7.c0 (hp:B7 h lo m e r n nm E tag V C s):AO 0 (h.get m)=some (.string nm):=by rw[hp.cell];rfl
theorem B7.c1 (hp:B7 h lo m e r n nm E tag V C s):AO 1 (h.get m)=some (qS r n AG):=by rw[hp.cell];rfl
theorem B7.c2 (hp:B7 h lo m e r n nm E tag V C s):AO 2 (h.get m)=some (V 2):=by rw[hp.cell];rfl
theorem B7.c3 (hp:B7 h lo m e r n nm E tag V C s):AO 3 (h.get m)=some (V 3):=by rw[hp.cell];rfl
theorem B7.c4 (hp:B7 h lo m e r n nm E tag V C s):AO 4 (h.get m)=some (V 4):=by rw[hp.cell];rfl
theorem B7.c5 (hp:B7 h lo m e r n nm E tag V C s):AO 5 (h.get m)=some (V 5):=by rw[hp.cell];rfl
theorem B7.c6 (hp:B7 h lo m e r n nm E tag V C s):AO 6 (h.get m)=some (V 6):=by rw[hp.cell];rfl
theorem B7.c7 (hp:B7 h lo m e r n nm E tag V C s):AO 7 (h.get m)=some (iv s.miss):=by rw[hp.cell];rfl
theorem B7.c8 (hp:B7 h lo m e r n nm E tag V C s):AO 8 (h.get m)=some (qS e E.length E.length):=by rw[hp.cell];rfl
theorem B7.c9 (hp:B7 h lo m e r n nm E tag V C s):AO 9 (h.get m)=some (V 8):=by rw[hp.cell];rfl
theorem B7.cC (hp:B7 h lo m e r n nm E tag V C s) {i:Nat} {x:Int} (hi:C[i]?=some x):AO (10+i) (h.get m)=some (iv x):=by
 rw[hp.cell]
 have:∀ (a:List Value),a.length=10→(a++ints C)[10+i]?=some (iv x):=fun a ha=>by
  rw[List.getElem?_append_right (by omega),ha,show 10+i-10=i by omega,S4,hi]
  rfl
 exact this _ rfl
theorem B7.stV (hp:B7 h lo m e r n nm E tag V C s) {h1:AA} (hg:h1.get m=h.get m) (hf:h1.floor=h.floor) {t:TypeId} (ht:BP Tryd.prog t=some 1) {j p:Nat} (hj:(j=p∧2≤p∧p≤6)∨(j=8∧p=9)) {v:Value} (hv:v.cells=#[v]) (ho:one v=true) :
  BW Tryd.prog h1 t (qP m p) v=some (h1.put m (.row (FN nm r n (C9 V j v) s.miss e E.length C) 93 false false)):=by
 have hl:(FN nm r n V s.miss e E.length C).length=10+C.length:=by simp[FN,ints];omega
 have h0:=G1 (off:=p) ht hv ho (hg.trans hp.cell) (by rw[hl];omega) (by have:=hp.fl;have:=hp.lm.1;omega)
 rw[h0]
 have key:(FN nm r n V s.miss e E.length C).set p v=FN nm r n (C9 V j v) s.miss e E.length C:=by
  rcases hj with⟨rfl,h2,h6⟩ | ⟨rfl,rfl⟩
  ·have:j=2∨j=3∨j=4∨j=5∨j=6:=by omega
   rcases this with rfl | rfl | rfl | rfl | rfl <;> rfl
  ·rfl
 rw[key]
theorem B7.stC (hp:B7 h lo m e r n nm E tag V C s) {i:Nat} (hi:i<C.length) {x:Int}:BW Tryd.prog h 3 (qP m (10+i)) (iv x)=some (h.put m (.row (FN nm r n V s.miss e E.length (C.set i x)) 93 false false)):=by
 have hl:(FN nm r n V s.miss e E.length C).length=10+C.length:=by simp[FN,ints];omega
 have h0:=G1 (off:=10+i) CT (v:=iv x) rfl rfl hp.cell (by rw[hl];omega) (by have:=hp.fl;have:=hp.lm.1;omega)
 rw[h0]
 have key:∀ a:List Value,a.length=10→(a++ints C).set (10+i) (iv x)=a++ints (C.set i x):=fun a ha=>by
  rw[List.set_append_right _ _ (by omega),ha,show 10+i-10=i by omega,TH]
 rw[FN,key _ rfl]
 rfl
theorem B7.stM (hp:B7 h lo m e r n nm E tag V C s) {x:Int}:BW Tryd.prog h 3 (qP m 7) (iv x)=some (h.put m (.row (FN nm r n V x e E.length C) 93 false false)):=
 G1 (off:=7) CT (v:=iv x) rfl rfl hp.cell (by simp[FN,ints]) (by have:=hp.fl;have:=hp.lm.1;omega)
end
def JM:List FF→ByteArray→Nat→Int
 | [],_,_=>-1
 | t :: l,x,i=>if x==t.name then (i:Int) else JM l x (i+1)
theorem iM (a b:ByteArray):(a==b)=(b==a):=by
 cases h:(a==b) with
 | true=>have:=JK h;subst this;exact(J1 a).symm
 | false=>
  cases h2:(b==a) with
  | true=>have:=JK h2;subst this;rw[J1] at h;cases h
  | false=>rfl
theorem Y_:∀ (l:List FF) (x:ByteArray) (i:Nat),match EM l x with
  | none=>JM l x i=-1
  | some t=>∃ k:Nat,JM l x i=((i+k:Nat):Int)∧l[k]?=some t
 | [],x,i=>rfl
 | t :: l,x,i=>by
  have ih:=Y_ l x (i+1)
  simp only[EM,List.find?_cons,JM] at ih ⊢
  cases hb:(x==t.name) with
  | true=>exact⟨0,rfl,rfl⟩
  | false=>
   simp only[Bool.false_eq_true,if_false]
   revert ih
   cases l.find? (fun t=>x==t.name) with
   | none=>exact id
   | some u=>
    rintro ⟨k,h1,h2⟩
    exact⟨k+1,by rw[h1];congr 1;omega,h2⟩
section
variable {call:AK} {N:Nat} {h:AA} {lo m e r n:Nat} {nm:ByteArray} {E:List Int} {tag:Nat→Nat} {V:Nat→Value} {C:List Int} {s:AN}
theorem zT {x:ByteArray} (hp:B7 h lo m e r n nm E tag V C s) (hN:s.things.length+3<N) (hb:s.things.length<1000000):AW Tryd.prog call N 86 [qP m 0,.string x] h=some (iv (JM s.things x 0),h):=by
 refine DW Tryd.func86 rfl (by simp[Tryd.f86]) ?_
 have hr:Tryd.f86.results.toList=[.tmp 4]:=rfl
 have c9:=hp.c9
 have hsl:=hp.sl 8 (by decide) (by decide)
 have hlen:∀ h',B_ Tryd.prog h' 90 (V 8)=some (iv (s.things.length:Int)):=fun h'=>by
  rcases hsl with⟨h1,h2,h3⟩ | ⟨id,ex,h1,_⟩
  ·rw[h3]
   have:s.things.length=0:=h1
   rw[this]
   exact TF
  ·rw[h1];exact TF
 simp only[eE,↓reduceIte,Nat.reduceEqDiff,reduceCtorEq,↓eP,rP,Nat.reduceAdd,Nat.reduceLT,hr]
 refine WK.loop (fun i st=>st.h=h∧st.T.get 0=qP m 0∧st.T.get 1=.string x∧st.T.get 5=iv i∧i≤s.things.length∧JM (s.things.drop i) x i=JM s.things x 0) s.things.length (by omega) ?_ ?_
 ·simp only[eE,↓reduceIte,Nat.reduceEqDiff,reduceCtorEq,↓eP,rP,Nat.reduceAdd,Nat.reduceLT]
  exact⟨rfl,rfl⟩
 ·rintro i ⟨T1,h1⟩ hi ⟨rfl,t0,t1,t5,hil,hfx⟩
  simp only at t0 t1 t5
  by_cases hlt:i<s.things.length
  ·have c1:decide ((i:Int)<(s.things.length:Int))=true:=by simp only[decide_eq_true_eq];omega
   have w1:=CK i (by omega)
   obtain⟨t,ht⟩:∃ t,s.things[i]?=some t:=⟨_,List.getElem?_eq_getElem hlt⟩
   have hd:s.things.drop i=t :: s.things.drop (i+1):=by
    obtain⟨h1,h2⟩:=List.getElem?_eq_some_iff.1 ht
    rw[List.drop_eq_getElem_cons h1,h2]
   rw[hd,JM] at hfx
   rcases hsl with⟨h1,_⟩ | ⟨id,ex,hv8,hg,_,_,_⟩
   ·have:s.things.length=0:=h1
    omega
   ·have hg':h1.get id=.row (K7 s.things++ex) 121 true false:=hg
    have hix:=R4 (id:=id) (c:=AG) hlt
    have hv8':V 8=qS id s.things.length AG:=hv8
    have l0:AO (i*4) (h1.get id)=some (.string t.name):=by rw[hg'];exact SJ (j:=0) ex ht (by decide)
    cases hb:(x==t.name) with
    | true=>
     have hb':(t.name==x)=true:=by rw[iM];exact hb
     rw[hb,if_pos rfl] at hfx
     simp only[eE,seval,↓eP,rP,t0,t1,t5,OD,NQ,c9,hv8',TF,c1,hix,g_,l0,hb',← hfx]
    | false=>
     have hb':(t.name==x)=false:=by rw[iM];exact hb
     rw[hb] at hfx
     simp only[eE,seval,↓eP,rP,t0,t1,t5,OD,NQ,c9,hv8',TF,c1,hix,g_,l0,hb',w1]
     exact⟨by omega,by omega,hfx⟩
  ·have c1:decide ((i:Int)<(s.things.length:Int))=false:=by simp only[decide_eq_false_iff_not];omega
   rw[List.drop_of_length_le (by omega)] at hfx
   have hfx':JM s.things x 0=-1:=hfx.symm
   simp only[eE,seval,↓eP,rP,t0,t5,OD,NQ,c9,hlen,c1,hfx']
def H_ (s:AN):List Int:=[0,s.queues.length,s.vars.length,s.tags.length,s.rules.length]
theorem wL {s:AN} {k:Int} (h1:1≤k) (h4:k≤4):(H_ s)[k.toNat]?=some (BA s k:Int):=by
 obtain rfl | rfl | rfl | rfl:k=1∨k=2∨k=3∨k=4:=by omega
 all_goals rfl
def E2 (h:AA) (lo m e r n:Nat) (nm:ByteArray) (E:List Int) (s:AN):Prop:=∃ tag V,B7 h lo m e r n nm E tag V (H_ s) s∧I7 s
def E6 (h H:AA) (lo:Nat):Prop:=(∀ i,i<lo→H.get i=h.get i)∧h.next≤H.next∧H.floor=h.floor
noncomputable def Q4:Code:=rt (rt (rt (Tryd.f57.body.getD .skip)))
noncomputable def Q7:Code:=rt (rt Q4)
noncomputable def Q8:Code:=rt Q7
noncomputable def Q9:Code:=rt Q8
noncomputable def XY:Code:=rt Q9
theorem sI {T:Tr} {H0:AA} {at_:Nat} {x:AB} {K:BS} {kd end_:Int} {b:Nat} (hp:B7 H0 lo m e r n nm E tag V (H_ s) s) (hx:s.rows[at_]?=some x) (h1:1≤kd) (h4:kd≤4) (hw:I7 s) (hth:s.things.length<100000) (hE:E[at_]?=some end_)
  (h87:∀ h',call 87 [iv kd] h'=some (iv (GA kd),h'))
  (t0:T.get 0=qP m 0) (t1:T.get 1=iv at_) (t2:T.get 2=iv kd) (t7:T.get 7=qP b 0) (hbx:H0.get b=.row (AP x) 46 false false) (hbl:b<H0.next) (hbt:tag b=11)
  (hk1:∀ T',(BA s kd:Int)=GA kd→T'.get 6=iv 3→K.ap Tryd.prog call N .ret ⟨T',H0⟩)
  (hk2:∀ T' H tag' V',(BA s kd:Int)≠GA kd→(∀ t,t≤8→t≠6→t≠8→T'.get t=T.get t)→B7 H lo m e r n nm E tag' V' ((H_ s).set kd.toNat ((BA s kd:Int)+1)) { s with rows:=E9 s.rows at_ (BA s kd),things:=s.things++[⟨x.name,kd,(BA s kd:Int),end_⟩] } →
   (∀ i,i<H0.next→tag' i=tag i)→(∀ i,i<H0.next→i<lo∨tag i=11→H.get i=H0.get i)→H0.next≤H.next→H.floor=H0.floor→WK Tryd.prog call N XY ⟨T',H⟩ K):WK Tryd.prog call N Q4 ⟨T,H0⟩ K:=by
 show WK _ _ _ (.seq _ (.seq _ (.seq _ (.seq (.region _ _ true) (.seq _ XY))))) _ _
 have cle:=Z_ hw kd
 obtain⟨kn,hkn,hkn1,hkn4⟩:∃ kn:Nat,kd=(kn:Int)∧1≤kn∧kn≤4:=⟨kd.toNat,by omega,by omega,by omega⟩
 have hcg:=wL (s:=s) h1 h4
 have hkt:kd.toNat=kn:=by omega
 rw[hkt] at hcg hk2
 have cc:=hp.cC hcg
 have i91:CY Tryd.prog 91 (qP m 10) (iv kd)=some (qP m (10+kn)):=by rw[hkn];exact tJ (by omega)
 have w1:IntKind.i64.wrap ((BA s kd:Int)+1)=(BA s kd:Int)+1:=CG (by omega) (by omega)
 have z10:0+10=10:=rfl
 cases d1:((BA s kd:Int)==GA kd) with
 | true=>
  simp only[eE,seval,↓eP,rP,t0,t2,iB,z10,i91,cc,h87,d1]
  exact hk1 _ (by simpa using d1) (by simp only[Tr.get_put,if_true])
 | false=>
  have sC:=hp.stC (i:=kn) (by simp only[H_,List.length_cons,List.length_nil];omega) (x:=(BA s kd:Int)+1)
  simp only[eE,seval,↓eP,DH,EH,DC,DN,t0,t2,iB,z10,i91,cc,h87,d1,w1,sC]
  have keep1:∀ i,i<H0.next→i<lo∨tag i=11→(H0.put m (.row (FN nm r n V s.miss e E.length ((H_ s).set kn ((BA s kd:Int)+1))) 93 false false)).get i=H0.get i:=fun i _ hi=>by
   have:=hp.lm
   exact AQ hp.lm.2 (fun hh=>by subst hh;have:=hp.tm;omega)
  have hp1:=hp.cellW (C':=(H_ s).set kn ((BA s kd:Int)+1)) (miss':=s.miss)
  have hn1:(H0.put m (.row (FN nm r n V s.miss e E.length ((H_ s).set kn ((BA s kd:Int)+1))) 93 false false)).next=H0.next:=rfl
  have hf1:(H0.put m (.row (FN nm r n V s.miss e E.length ((H_ s).set kn ((BA s kd:Int)+1))) 93 false false)).floor=H0.floor:=rfl
  generalize H0.put m (.row (FN nm r n V s.miss e E.length ((H_ s).set kn ((BA s kd:Int)+1))) 93 false false)=H1 at *
  have gb:H1.get b=.row (AP x) 46 false false:=by rw[keep1 b hbl (.inr hbt)];exact hbx
  have c8:=hp1.c8
  have c9:=hp1.c9
  have hEl:at_<E.length:=(List.getElem?_eq_some_iff.1 hE).1
  have lE:AO at_ (H1.get e)=some (iv end_):=by rw[hp1.ends];exact JV hE
  have lb1:AO 1 (H1.get b)=some (.string x.name):=by rw[gb];rfl
  obtain⟨v',H2,a1,a2,a3,a4,a5,a6,a7,a8⟩:=hp1.grow (j:=8) (by decide) (by decide) (t:=90) (w:=4) (bb:=40) Tryd.underlying90 ZH Dj bH rfl (by decide) (by decide) (xs:=[.string x.name,iv kd,iv (BA s kd:Int),iv end_]) (lH _) (lY _) rfl rfl (by show s.things.length<10000000;omega)
  have hp2:=a8 { s with things:=s.things++[⟨x.name,kd,(BA s kd:Int),end_⟩] } rfl rfl (by simp[ED]) (by simp[EP,K7,PC]) (fun i hi=>by
   unfold ED EP
   split <;> simp_all)
  have a1':C4 Tryd.prog (H1.push (.row [.string x.name,iv kd,iv (BA s kd:Int),iv end_] 121 false false)) 90 (V 8) (qS H1.next 1 1)=some (v',H2):=a1
  have sV:=hp1.stV a4 a5 pF (j:=8) (p:=9) (.inr ⟨rfl,rfl⟩) a3 a2
  refine WK.quiet (by kernel_rfl) ?_
  simp only[eE,seval,↓eP,DH,EH,DC,DN,t0,t1,t2,t7,XN,OD,NQ,C3,c8,c9,lb1,GJ hEl,lE,pS,Hq,a1',sV]
  have hm2:m<H2.next:=by have:=hp.lm;omega
  have keep2:∀ i,i<H0.next→i<lo∨tag i=11→(H2.put m (.row (FN nm r n (C9 V 8 v') s.miss e E.length ((H_ s).set kn ((BA s kd:Int)+1))) 93 false false)).get i=H0.get i:=fun i h1 hi=>by
   have:=hp.lm
   rw[AQ hm2 (fun hh=>by subst hh;have:=hp.tm;omega),a7 i (by omega) hi,keep1 i h1 hi]
  have hn2:(H2.put m (.row (FN nm r n (C9 V 8 v') s.miss e E.length ((H_ s).set kn ((BA s kd:Int)+1))) 93 false false)).next=H0.next+2:=by show H2.next=_;omega
  have hf2:(H2.put m (.row (FN nm r n (C9 V 8 v') s.miss e E.length ((H_ s).set kn ((BA s kd:Int)+1))) 93 false false)).floor=H0.floor:=by show H2.floor=_;omega
  have e0:({ s with miss:=s.miss }:AN)=s:=rfl
  generalize H2.put m (.row (FN nm r n (C9 V 8 v') s.miss e E.length ((H_ s).set kn ((BA s kd:Int)+1))) 93 false false)=H3 at *
  have b1:=hp2.c1
  have hlt:at_<n:=(hp.row hx).1
  have hst:=G1 (off:=at_*5+3) CT (v:=iv (BA s kd:Int)) rfl rfl hp2.rows (by rw[H9];have:=hp.len;show at_*5+3<s.rows.length*5;omega) (by have:=hp2.fl;have:=hp2.lr.1;omega)
  have hx':({ s with things:=s.things++[⟨x.name,kd,(BA s kd:Int),end_⟩] }:AN).rows[at_]?=some x:=hx
  rw[RR hx'] at hst
  have hp3:=hp2.rowsW (l:=E9 s.rows at_ (BA s kd:Int)) QX
  simp only[eE,seval,↓eP,DH,EH,DC,DN,t1,GV,DA,C0,b1,HB hlt,hst]
  refine hk2 _ _ _ _ (by simpa using d1) (fun t h8 h6 h9=>?_) hp3 (fun i hi=>if_neg (by omega)) (fun i h1 hi=>?_) (by show H0.next≤H3.next;omega) hf2
  ·simp only[Tr.get_put,Option.some.injEq,reduceCtorEq,if_false]
   (repeat rw[if_neg (by omega)])
  ·have:=hp.lr
   rw[AQ (by omega) (fun hh=>by subst hh;have:=hp.tr;omega)]
   exact keep2 i h1 hi
theorem Hx {s:AN} {at_:Nat} {x:AB} {kd:Int} (h1:1≤kd) (h4:kd≤4):(H_ s).set kd.toNat ((BA s kd:Int)+1)=H_ (RU kd at_ x s):=by
 obtain rfl | rfl | rfl | rfl:kd=1∨kd=2∨kd=3∨kd=4:=by omega
 all_goals simp[H_,RU,BA]
theorem Fa {T:Tr} {H0:AA} {at_:Nat} {x:AB} {K:BS} {kd:Int} {b:Nat} (hp:B7 H0 lo m e r n nm E tag V C s) (h1:1≤kd) (h4:kd≤4) (hn:at_<30000000000000)
  (hb:s.queues.length<1000∧s.vars.length<1000∧s.tags.length<1000∧s.rules.length<1000∧s.on.length<1000)
  (t0:T.get 0=qP m 0) (t1:T.get 1=iv at_) (t2:T.get 2=iv kd) (t7:T.get 7=qP b 0) (hbx:H0.get b=.row (AP x) 46 false false) (hbl:b<H0.next) (hbt:tag b=11)
  (hk:∀ T' H tag' V',T'.get 6=iv 0→B7 H lo m e r n nm E tag' V' C (RU kd at_ x s)→(∀ i,i<H0.next→i<lo→H.get i=H0.get i)→H0.next≤H.next→H.floor=H0.floor→K.ap Tryd.prog call N .ret ⟨T',H⟩):WK Tryd.prog call N XY ⟨T,H0⟩ K:=by
 show WK _ _ _ (.seq (.seq _ (.block _ _)) (.seq _ _)) _ _
 have lb1:AO 1 (H0.get b)=some (.string x.name):=by rw[hbx];rfl
 have lb0:AO 0 (H0.get b)=some (iv x.kind):=by rw[hbx];rfl
 have hm:=hp.lm
 have w1:IntKind.i64.wrap ((at_:Int)+1)=(at_:Int)+1:=CG (by omega) (by omega)
 have q1:((2:Int)==1)=false:=rfl
 have q2:((3:Int)==1)=false:=rfl
 have q3:((3:Int)==2)=false:=rfl
 have q4:((4:Int)==1)=false:=rfl
 have q5:((4:Int)==2)=false:=rfl
 have q6:((4:Int)==3)=false:=rfl
 have fin:∀ (T':Tr) (h1:AA) tag' V' s',T'.get 6=iv 0→B7 h1 lo m e r n nm E tag' V' C s'→s'=RU kd at_ x s→(∀ i,i<H0.next→i<lo→h1.get i=H0.get i)→H0.next≤h1.next→h1.floor=H0.floor→K.ap Tryd.prog call N .ret ⟨T',h1⟩:=fun T' h1 tag' V' s' a b c d e f=>hk T' h1 tag' V' a (by rw[← c];exact b) d e f
 obtain rfl | rfl | rfl | rfl:kd=1∨kd=2∨kd=3∨kd=4:=by omega
 ·have cj:=hp.c2
  obtain⟨v',H2,a1,a2,a3,a4,a5,a6,a7,a8⟩:=hp.grow (j:=2) (by decide) (by decide) (t:=26) (w:=2) (bb:=24) Tryd.underlying26 L4 VV NP rfl (by decide) (by decide) (xs:=[.string x.name,.bool (x.kind==3)]) (NA _) (b_ _) rfl rfl (by show s.queues.length<10000000;omega)
  have hp2:=a8 { s with queues:=s.queues++[(x.name,x.kind==3)] } rfl rfl (by simp[ED]) (by simp[EP,GP]) (fun i hi=>by
   unfold ED EP
   split <;> simp_all)
  have a1':C4 Tryd.prog (H0.push (.row [.string x.name,.bool (x.kind==3)] 57 false false)) 26 (V 2) (qS H0.next 1 1)=some (v',H2):=a1
  have sV:=hp.stV a4 a5 YU (j:=2) (p:=2) (.inl ⟨rfl,by decide,by decide⟩) a3 a2
  simp only[eE,seval,↓eP,rP,t2]
  refine WK.quiet (by kernel_rfl) ?_
  simp only[eE,seval,↓eP,DH,EH,DC,DN,t0,t7,GV,FL,FP,cj,lb0,lb1,bN,o7,a1',sV]
  have o2:∀ i,i<H0.next→i<lo→(H2.put m (.row (FN nm r n (C9 V 2 v') s.miss e E.length C) 93 false false)).get i=H0.get i:=fun i hi h1=>by rw[AQ (by omega) (by omega),a7 i hi (.inl h1)]
  have n2:(H2.put m (.row (FN nm r n (C9 V 2 v') s.miss e E.length C) 93 false false)).next=H0.next+2:=a6
  have f2:(H2.put m (.row (FN nm r n (C9 V 2 v') s.miss e E.length C) 93 false false)).floor=H0.floor:=a5
  generalize H2.put m (.row (FN nm r n (C9 V 2 v') s.miss e E.length C) 93 false false)=H3 at *
  have ck:=hp2.c6
  obtain⟨v2,H4,b1,b2,b3,b4,b5,b6,b7,b8⟩:=hp2.grow (j:=6) (by decide) (by decide) (t:=28) (w:=1) (bb:=8) Tryd.underlying28 CT KH I3 rfl (by decide) (by decide) (xs:=[iv (-1)]) ((FH _).trans (Nat.mul_one _).symm) (RI _) rfl rfl (by show s.on.length<10000000;omega)
  have hp4:=b8 { s with queues:=s.queues++[(x.name,x.kind==3)],on:=s.on++[-1] } rfl rfl (by simp[ED]) (by simp[EP,ints]) (fun i hi=>by
   unfold ED EP
   split <;> simp_all)
  have b1':C4 Tryd.prog (H3.push (.row [iv (-1)] 3 false false)) 28 (C9 V 2 v' 6) (qS H3.next 1 1)=some (v2,H4):=b1
  have sW:=hp2.stV b4 b5 MB (j:=6) (p:=6) (.inl ⟨rfl,by decide,by decide⟩) b3 b2
  simp only[eE,seval,↓eP,DH,EH,DC,DN,GV,FZ,C3,ck,RF,b1',sW]
  refine fin _ _ _ _ _ (by simp only[Tr.get_put,if_true]) hp4 rfl (fun i hi h1=>?_) (by show H0.next≤H4.next;omega) (by show H4.floor=_;omega)
  rw[AQ (by omega) (by omega),b7 i (by omega) (.inl h1),o2 i hi h1]
 ·have cj:=hp.c3
  obtain⟨v',H2,a1,a2,a3,a4,a5,a6,a7,a8⟩:=hp.grow (j:=3) (by decide) (by decide) (t:=27) (w:=1) (bb:=16) Tryd.underlying27 HC NS MA rfl (by decide) (by decide) (xs:=[.string x.name]) ((QH _).trans (Nat.mul_one _).symm) (WV _) rfl rfl (by show s.vars.length<10000000;omega)
  have hp2:=a8 { s with vars:=s.vars++[x.name] } rfl rfl (by simp[ED]) (by simp[EP,CZ]) (fun i hi=>by
   unfold ED EP
   split <;> simp_all)
  have a1':C4 Tryd.prog (H0.push (.row [.string x.name] 9 false false)) 27 (V 3) (qS H0.next 1 1)=some (v',H2):=a1
  have sV:=hp.stV a4 a5 Q_ (j:=3) (p:=3) (.inl ⟨rfl,by decide,by decide⟩) a3 a2
  simp only[eE,seval,↓eP,rP,t2,q1]
  refine WK.quiet (by kernel_rfl) ?_
  simp only[eE,seval,↓eP,DH,EH,DC,DN,t0,t7,GV,GF,EJ,cj,lb1,UV,a1',sV]
  refine fin _ _ _ _ _ (by simp only[Tr.get_put,if_true]) hp2 rfl (fun i hi h1=>?_) (by show H0.next≤H2.next;omega) a5
  rw[AQ (by omega) (by omega),a7 i hi (.inl h1)]
 ·have cj:=hp.c4
  obtain⟨v',H2,a1,a2,a3,a4,a5,a6,a7,a8⟩:=hp.grow (j:=4) (by decide) (by decide) (t:=27) (w:=1) (bb:=16) Tryd.underlying27 HC NS MA rfl (by decide) (by decide) (xs:=[.string x.name]) ((QH _).trans (Nat.mul_one _).symm) (WV _) rfl rfl (by show s.tags.length<10000000;omega)
  have hp2:=a8 { s with tags:=s.tags++[x.name] } rfl rfl (by simp[ED]) (by simp[EP,CZ]) (fun i hi=>by
   unfold ED EP
   split <;> simp_all)
  have a1':C4 Tryd.prog (H0.push (.row [.string x.name] 9 false false)) 27 (V 4) (qS H0.next 1 1)=some (v',H2):=a1
  have sV:=hp.stV a4 a5 Q_ (j:=4) (p:=4) (.inl ⟨rfl,by decide,by decide⟩) a3 a2
  simp only[eE,seval,↓eP,rP,t2,q2,q3]
  refine WK.quiet (by kernel_rfl) ?_
  simp only[eE,seval,↓eP,DH,EH,DC,DN,t0,t7,GV,GG,EJ,cj,lb1,UV,a1',sV]
  refine fin _ _ _ _ _ (by simp only[Tr.get_put,if_true]) hp2 rfl (fun i hi h1=>?_) (by show H0.next≤H2.next;omega) a5
  rw[AQ (by omega) (by omega),a7 i hi (.inl h1)]
 ·have cj:=hp.c5
  obtain⟨v',H2,a1,a2,a3,a4,a5,a6,a7,a8⟩:=hp.grow (j:=5) (by decide) (by decide) (t:=28) (w:=1) (bb:=8) Tryd.underlying28 CT KH I3 rfl (by decide) (by decide) (xs:=[iv ((at_:Int)+1)]) ((FH _).trans (Nat.mul_one _).symm) (RI _) rfl rfl (by show s.rules.length<10000000;omega)
  have hp2:=a8 { s with rules:=s.rules++[(at_:Int)+1] } rfl rfl (by simp[ED]) (by simp[EP,ints]) (fun i hi=>by
   unfold ED EP
   split <;> simp_all)
  have a1':C4 Tryd.prog (H0.push (.row [iv ((at_:Int)+1)] 3 false false)) 28 (V 5) (qS H0.next 1 1)=some (v',H2):=a1
  have sV:=hp.stV a4 a5 MB (j:=5) (p:=5) (.inl ⟨rfl,by decide,by decide⟩) a3 a2
  simp only[eE,seval,↓eP,DH,EH,DC,DN,t0,t1,t2,q4,q5,q6,w1,GV,F0,C3,cj,RF,a1',sV]
  refine fin _ _ _ _ _ (by simp only[Tr.get_put,if_true]) hp2 rfl (fun i hi h1=>?_) (by show H0.next≤H2.next;omega) a5
  rw[AQ (by omega) (by omega),a7 i hi (.inl h1)]
end
theorem O2 {h:AA} {o o':BB}:((h.push o).push o').get h.next=o:=by rw[AM (by show h.next<h.next+1;omega)];exact BL
theorem OQ {h:AA} {o o':BB}:((h.push o).push o').get (h.next+1)=o':=BL (h:=h.push o)
structure bW (l:List AB) (U W:List Int):Prop where
 lu:U.length=l.length
 lw:W.length=l.length
 top:U[0]?=some (-1)
 kid:∀ p k i,GY l p k i→U[i]?=some (p:Int)∧W[i]?=some (k:Int)
section
variable {call:AK} {n:Nat}
theorem Iq {l:List AB} {v:Value} {h:AA} (ht:CU l) (hv:AL h v l) (hlen:l.length<30000000000000) (hn:l.length+3<n) (hfl:h.floor≤h.next)
  (hE:∀ H,AL H v l→H.floor≤H.next→∃ h',call 56 [v] H=some (qS H.next l.length l.length,h')∧(h'.get H.next=.row (ints (AI l)) 3 false false∧h'.next=H.next+1∧h'.floor=H.floor∧∀ i,i<H.next→h'.get i=H.get i)) :
  ∃ h',AW Tryd.prog call n 103 [v] h=some (.tuple #[qS h.next l.length l.length,qS (h.next+1) l.length l.length],h') ∧
   (∃ U W,bW l U W∧h'.get h.next=.row (ints U) 3 false false∧h'.get (h.next+1)=.row (ints W) 3 false false∧h'.next=h.next+3∧h'.floor=h.floor∧∀ i,i<h.next→h'.get i=h.get i):=by
 refine E0 (R:=fun h'=>∃ U W,bW l U W∧h'.get h.next=.row (ints U) 3 false false∧h'.get (h.next+1)=.row (ints W) 3 false false∧h'.next=h.next+3∧h'.floor=h.floor∧∀ i,i<h.next→h'.get i=h.get i) Tryd.func103 rfl (by simp[Tryd.f103]) ?_
 have hr:Tryd.f103.results.toList=[.tmp 2,.tmp 3]:=rfl
 have hl22:∀ h',B_ Tryd.prog h' 22 v=some (.int .i64 l.length):=fun h'=>hv.len
 have hpos:=ht.pos
 have hold2:∀ i,i<h.next→((h.push (.row (ints (List.replicate l.length 0)) 3 false false)).push (.row (ints (List.replicate l.length 0)) 3 false false)).get i=h.get i:=fun i hi=>by rw[AM (by show i<h.next+1;omega),AM hi]
 obtain⟨h3,hE,g1,g2,g3,g4⟩:=hE ((h.push (.row (ints (List.replicate l.length 0)) 3 false false)).push (.row (ints (List.replicate l.length 0)) 3 false false)) (hv.mono (by show h.next≤h.next+1+1;omega) hold2) (by show h.floor≤h.next+1+1;omega)
 have ga:=(g4 h.next (by show h.next<h.next+1+1;omega)).trans O2
 have gb:=(g4 (h.next+1) (by show h.next+1<h.next+1+1;omega)).trans OQ
 simp only[C6,IL] at hE g1 g2 g3
 have hold3:∀ i,i<h.next→h3.get i=h.get i:=fun i hi=>(g4 i (by show i<h.next+1+1;omega)).trans (hold2 i hi)
 clear g4
 have i0:CY Tryd.prog 28 (qS h.next l.length l.length) (iv 0)=some (qP h.next 0):=GJ (i:=0) hpos
 have s0:=PP (x:=-1) ga (i:=0) (by rw[List.length_replicate];exact hpos) (by rw[g3];exact hfl)
 have c0:decide ((l.length:Int)>0)=true:=by simp only[decide_eq_true_eq];omega
 simp only[eE,seval,↓eP,rP,hr,hl22,SA hlen,hE,i0,s0,c0]
 have z1:(h3.put h.next (.row (ints ((List.replicate l.length 0).set 0 (-1))) 3 false false)).get h.next=.row (ints ((List.replicate l.length 0).set 0 (-1))) 3 false false:=CE rfl (by omega)
 have z2:=(AQ (h:=h3) (i:=h.next) (j:=h.next+1) (o:=.row (ints ((List.replicate l.length 0).set 0 (-1))) 3 false false) (by omega) (by omega)).trans gb
 have z3:=(AQ (h:=h3) (i:=h.next) (j:=h.next+1+1) (o:=.row (ints ((List.replicate l.length 0).set 0 (-1))) 3 false false) (by omega) (by omega)).trans g1
 have z4:∀ i,i<h.next→(h3.put h.next (.row (ints ((List.replicate l.length 0).set 0 (-1))) 3 false false)).get i=h.get i:=fun i hi=>by rw[AQ (by omega) (by omega)];exact hold3 i hi
 have z5:(h3.put h.next (.row (ints ((List.replicate l.length 0).set 0 (-1))) 3 false false)).next=h.next+3:=by show h3.next=_;omega
 have z6:(h3.put h.next (.row (ints ((List.replicate l.length 0).set 0 (-1))) 3 false false)).floor=h.floor:=g3
 generalize h3.put h.next (.row (ints ((List.replicate l.length 0).set 0 (-1))) 3 false false)=h4 at *
 refine WK.loop (fun j s=>s.T.get 0=v∧s.T.get 4=qS h.next l.length l.length∧s.T.get 5=qS (h.next+1) l.length l.length∧s.T.get 6=qS (h.next+1+1) l.length l.length∧s.T.get 7=iv j∧s.h.next=h.next+3∧s.h.floor=h.floor∧(∀ i,i<h.next→s.h.get i=h.get i) ∧
  s.h.get (h.next+1+1)=.row (ints (AI l)) 3 false false∧∃ U W:List Int,U.length=l.length∧W.length=l.length∧s.h.get h.next=.row (ints U) 3 false false∧s.h.get (h.next+1)=.row (ints W) 3 false false∧U[0]?=some (-1)∧∀ p k i,p<j→GY l p k i→U[i]?=some (p:Int)∧W[i]?=some (k:Int)) l.length (by omega) ?_ ?_
 ·simp only[eE,↓reduceIte,Nat.reduceEqDiff,reduceCtorEq,↓eP,rP,Nat.reduceAdd,Nat.reduceLT]
  refine⟨rfl,z5,z6,z4,z3,_,_,?_,?_,z1,z2,?_,fun p k i hp=>by omega⟩
  ·simp
  ·simp
  ·rw[List.getElem?_set_self (by simpa using hpos)]
 ·rintro j ⟨T1,h1⟩ hj ⟨t0,t4,t5,t6,t7,hnx,hf1,hold,gE,U,W,hU,hW,gU,gW,u0,huw⟩
  simp only at t0 t4 t5 t6 t7 hnx hf1 hold gE gU gW
  by_cases hlt:j<l.length
  ·have c1:decide ((j:Int)<(l.length:Int))=true:=by simp only[decide_eq_true_eq];omega
   have w1:=CK j (by omega)
   have hsub:=ht.end hlt
   obtain⟨x,hx,hk0,hkk,hchain⟩:=hsub.kids
   have hv1:AL h1 v l:=hv.mono (by omega) hold
   have hcl:=H5 _ _ _ hchain
   have hel:=hsub.lt
   simp only[eE,seval,↓eP,rP,t0,t7,hl22,c1,w1]
   refine WK.loop (fun k s=>s.T.get 0=v∧s.T.get 4=qS h.next l.length l.length∧s.T.get 5=qS (h.next+1) l.length l.length∧s.T.get 6=qS (h.next+1+1) l.length l.length∧s.T.get 7=iv j∧s.T.get 9=iv k∧s.h.next=h.next+3∧s.h.floor=h.floor∧(∀ i,i<h.next→s.h.get i=h.get i) ∧
    s.h.get (h.next+1+1)=.row (ints (AI l)) 3 false false∧k≤x.kids.toNat∧(∃ p:Nat,s.T.get 8=iv p∧j<p∧EU l k (j+1) p∧EU l (x.kids.toNat-k) p (BV l j))∧∃ U W:List Int,U.length=l.length∧W.length=l.length∧s.h.get h.next=.row (ints U) 3 false false∧s.h.get (h.next+1)=.row (ints W) 3 false false∧U[0]?=some (-1) ∧
    ∀ p k' i,p<j∨(p=j∧k'<k)→GY l p k' i→U[i]?=some (p:Int)∧W[i]?=some (k':Int)) x.kids.toNat (by omega) ?_ ?_
   ·simp only[eE,↓reduceIte,Nat.reduceEqDiff,reduceCtorEq,↓eP,rP,Nat.reduceAdd,Nat.reduceLT,t0,t4,t5,t6,t7]
    refine⟨rfl,hnx,hf1,hold,gE,⟨j+1,rfl,by omega,rfl,by rw[Nat.sub_zero];exact hchain⟩,U,W,hU,hW,gU,gW,u0,fun p k' i h1 h2=>huw p k' i (by omega) h2⟩
   ·rintro k ⟨T2,h2⟩ hk ⟨v0,v4,v5,v6,v7,v9,hnx2,hf2,hold2,gE2,hkk2,⟨p,v8,hp,hc1,hch⟩,U2,W2,hU2,hW2,gU2,gW2,u02,huw2⟩
    simp only at v0 v4 v5 v6 v7 v8 v9 hnx2 hf2 hold2 gE2 gU2 gW2
    have hv2:AL h2 v l:=hv.mono (by omega) hold2
    obtain⟨id,q,e0,hid,l0,l1,l2,l3,l4,lr⟩:=hv2.row hx
    by_cases hlt2:k<x.kids.toNat
    ·have c2:decide ((k:Int)<x.kids)=true:=by simp only[decide_eq_true_eq];omega
     obtain⟨r,hr1⟩:∃ r,x.kids.toNat-k=r+1:=⟨x.kids.toNat-k-1,by omega⟩
     rw[hr1] at hch
     obtain⟨p',s1,s2,s3,s4⟩:=hch
     have w5:=CK k (by omega)
     have hpl:p<l.length:=by omega
     have kid:GY l j k p:=⟨x,hx,hlt2,hc1⟩
     have WY:=PP (x:=(j:Int)) gU2 (i:=p) (by omega) (by omega)
     have gW3:=(AQ (h:=h2) (i:=h.next) (j:=h.next+1) (o:=.row (ints (U2.set p (j:Int))) 3 false false) (by omega) (by omega)).trans gW2
     have st2:=PP (h:=h2.put h.next (.row (ints (U2.set p (j:Int))) 3 false false)) (x:=(k:Int)) gW3 (i:=p) (by omega) (by show h2.floor≤_;omega)
     have gE3:((h2.put h.next (.row (ints (U2.set p (j:Int))) 3 false false)).put (h.next+1) (.row (ints (W2.set p (k:Int))) 3 false false)).get (h.next+1+1)=.row (ints (AI l)) 3 false false:=by
      rw[AQ (by show h.next+1<h2.next;omega) (by omega),AQ (by omega) (by omega)];exact gE2
     have gU4:((h2.put h.next (.row (ints (U2.set p (j:Int))) 3 false false)).put (h.next+1) (.row (ints (W2.set p (k:Int))) 3 false false)).get h.next=.row (ints (U2.set p (j:Int))) 3 false false:=by
      rw[AQ (by show h.next+1<h2.next;omega) (by omega)];exact CE rfl (by omega)
     have gW4:((h2.put h.next (.row (ints (U2.set p (j:Int))) 3 false false)).put (h.next+1) (.row (ints (W2.set p (k:Int))) 3 false false)).get (h.next+1)=.row (ints (W2.set p (k:Int))) 3 false false:=CE rfl (by show h.next+1<h2.next;omega)
     have hold4:∀ i,i<h.next→((h2.put h.next (.row (ints (U2.set p (j:Int))) 3 false false)).put (h.next+1) (.row (ints (W2.set p (k:Int))) 3 false false)).get i=h.get i:=fun i hi=>by
      rw[AQ (by show h.next+1<h2.next;omega) (by omega),AQ (by omega) (by omega)];exact hold2 i hi
     have nx4:((h2.put h.next (.row (ints (U2.set p (j:Int))) 3 false false)).put (h.next+1) (.row (ints (W2.set p (k:Int))) 3 false false)).next=h.next+3:=hnx2
     have f4:((h2.put h.next (.row (ints (U2.set p (j:Int))) 3 false false)).put (h.next+1) (.row (ints (W2.set p (k:Int))) 3 false false)).floor=h.floor:=hf2
     have hEp:AO p (((h2.put h.next (.row (ints (U2.set p (j:Int))) 3 false false)).put (h.next+1) (.row (ints (W2.set p (k:Int))) 3 false false)).get (h.next+1+1))=some (iv (p':Int)):=by
      rw[gE3]
      refine JV ?_
      rw[MF hpl,OW s1]
     simp only[eE,seval,↓eP,DH,EH,DC,DN,v0,v4,v5,v6,v7,v8,v9,e0,l4,c2,GJ hpl,WY,st2,w5,hEp]
     refine⟨hlt2,nx4,f4,hold4,gE3,by omega,⟨p',rfl,by omega,SX _ _ _ _ hc1 s1,by rw[show x.kids.toNat-(k+1)=r by omega];exact s4⟩,U2.set p (j:Int),W2.set p (k:Int),by simpa using hU2,by simpa using hW2,gU4,gW4,?_,fun p9 k9 i9 h9 q9=>?_⟩
     ·rw[List.getElem?_set_ne (by omega)];exact u02
     ·by_cases hi:p=i9
      ·subst hi
       obtain⟨rfl,rfl⟩:=GY.unique ht q9 kid
       rw[List.getElem?_set_self (by omega),List.getElem?_set_self (by omega)]
       exact⟨rfl,rfl⟩
      ·rw[List.getElem?_set_ne hi,List.getElem?_set_ne hi]
       refine huw2 p9 k9 i9 ?_ q9
       rcases h9 with h9 | ⟨h9,h9'⟩
       ·exact .inl h9
       ·refine .inr ⟨h9,?_⟩
        rcases Nat.lt_or_ge k9 k with h | h
        ·exact h
        ·exfalso
         obtain rfl:k9=k:=by omega
         subst h9
         obtain⟨_,_,_,q⟩:=q9
         exact hi (N4 _ _ _ _ hc1 q)
    ·have c2:decide ((k:Int)<x.kids)=false:=by simp only[decide_eq_false_iff_not];omega
     simp only[eE,seval,↓eP,rP,v0,v4,v5,v6,v7,v9,e0,l4,c2,w1]
     refine⟨hlt,hnx2,hf2,hold2,gE2,U2,W2,hU2,hW2,gU2,gW2,u02,fun p9 k9 i9 h9 q9=>huw2 p9 k9 i9 ?_ q9⟩
     rcases Nat.lt_or_ge p9 j with h | h
     ·exact .inl h
     ·refine .inr ⟨by omega,?_⟩
      obtain⟨y,hy,h5,_⟩:=q9
      obtain rfl:p9=j:=by omega
      rw[hx] at hy
      cases hy
      omega
  ·have c1:decide ((j:Int)<(l.length:Int))=false:=by simp only[decide_eq_false_iff_not];omega
   simp only[eE,seval,↓eP,rP,t0,t4,t5,t7,hl22,c1]
   refine⟨U,W,⟨hU,hW,u0,fun p k i hk'=>?_⟩,gU,gW,hnx,hf1,hold⟩
   have hk:=hk'
   obtain⟨y,hy,_⟩:=hk
   exact huw p k i (by have:=(List.getElem?_eq_some_iff.1 hy).1;omega) hk'
end
end Go.Proofs.YtipekdhneagdbaaDoor
