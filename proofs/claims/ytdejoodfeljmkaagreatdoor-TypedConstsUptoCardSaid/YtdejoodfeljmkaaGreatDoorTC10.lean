/- Part 10 of what the claim leans on: 5 texts laid one behind another. -/
import Derived.Test.YtdejoodfeljmkaaGreatDoorTC9
namespace Go.Proofs.YtdejoodfeljmkaaGreatDoor
open Go Go.Sx
set_option maxRecDepth 100000
set_option linter.unusedSimpArgs false
set_option linter.unusedVariables false
set_option maxHeartbeats 64000000
def J4Z:List UInt8:=32 :: J2D.flatMap fun w=>w++[32]
def JgU:ByteArray:=⟨J4Z.toArray⟩
theorem J3y:JgU.data.toList=J4Z:=rfl
def seg (i:Nat):List UInt8:=(J4Z.drop (i+1)).takeWhile (· != 32)
theorem Jho:((List.range J4Z.length).all fun i=>!(J4Z[i]? == some 32)||decide (i+1=J4Z.length)||J2D.contains (seg i))=true:=by decide +kernel
theorem JhT:(J2D.all fun w=>(List.range J4Z.length).any fun i=>(J4Z[i]? == some 32)&&((J4Z[i+w.length+1]? == some 32)&&((J4Z.drop (i+1)).take w.length==w)))=true:=by decide +kernel
theorem J3L {a b:ByteArray}:(a==b)=true↔a.data.toList=b.data.toList:=by
 constructor
 ·intro h;rw[J3o h]
 ·intro h
  have:a=b:=by
   cases a;cases b
   simp only[ByteArray.mk.injEq]
   exact Array.toList_inj.1 h
  subst this
  exact J34 a
theorem JbD {s:ByteArray}:J3d s=true↔s.data.toList∈J2D:=by
 unfold J3d
 rw[decide_eq_true_eq]
 have h41:(41:Nat)=J2D.length:=J3X.symm
 rw[h41,List.findIdx_lt_length]
 constructor
 ·rintro ⟨w,hw,h⟩
  rw[J3L] at h
  rw[h]
  exact hw
 ·intro h
  exact⟨_,h,by rw[J3L];rfl⟩
theorem J5W {K:ByteArray} {lo n:Nat}:(K.extract lo (lo+n)).data.toList=(K.data.toList.drop lo).take n:=by
 rw[ByteArray.data_extract]
 simp[List.extract_eq_take_drop]
theorem J7V {l m:List UInt8} {x:List UInt8} (h1:(m.take l.length)=l) (h2:m[l.length]?=some 32) (h3:∀ b∈l,b≠32):m.takeWhile (· != 32)=l:=by
 have hm:m=l++32 :: m.drop (l.length+1):=by
  have hlt:l.length<m.length:=(List.getElem?_eq_some_iff.1 h2).1
  have e1:m=m.take l.length++m.drop l.length:=(List.take_append_drop _ _).symm
  rw[h1,List.drop_eq_getElem_cons hlt] at e1
  have e2:m[l.length]=32:=by
   have:=List.getElem?_eq_getElem hlt
   rw[h2] at this
   exact(Option.some.inj this).symm
  rw[e2] at e1
  exact e1
 rw[hm,List.takeWhile_append_of_pos (fun b hb=>by simpa using h3 b hb)]
 simp
theorem Jch {p:Nat→Bool} {M:Nat}:(List.range M).findIdx p<M↔∃ i,i<M∧p i=true:=by
 have:=List.findIdx_lt_length (xs:=List.range M) (p:=p)
 rw[List.length_range] at this
 rw[this]
 simp[List.mem_range]
theorem J8T {s:ByteArray} (hne:s.data.toList≠[]) (hb:∀ b∈s.data.toList,b≠32):Jay JgU s=J3d s:=by
 apply Bool.eq_iff_iff.2
 rw[JbD]
 unfold Jay
 rw[decide_eq_true_eq,J3y]
 generalize hl:s.data.toList=l at *
 rw[Jch]
 constructor
 ·rintro ⟨i,hi,hh⟩
  unfold hitB at hh
  rw[hl,J3y] at hh
  simp only[Bool.and_eq_true] at hh
  obtain⟨h1,h2,h3⟩:=hh
  rw[J3L,hl,show i+l.length+1=(i+1)+l.length by omega,J5W,J3y] at h3
  have hseg:seg i=l:=by
   unfold seg
   refine J7V (x:=[]) h3 ?_ hb
   rw[List.getElem?_drop]
   have:i+1+l.length=i+l.length+1:=by omega
   rw[this]
   simpa using h2
  have hlt:i<J4Z.length:=by omega
  have:=List.all_eq_true.1 Jho i (List.mem_range.2 hlt)
  rw[hseg] at this
  simp only[Bool.or_eq_true,Bool.not_eq_true',decide_eq_true_eq] at this
  rcases this with(h | h) | h
  ·rw[h] at h1;cases h1
  ·have:i+l.length+1<J4Z.length:=by
    have:=(List.getElem?_eq_some_iff.1 (show J4Z[i+l.length+1]?=some 32 by simpa using h2)).1
    exact this
   omega
  ·simpa using h
 ·intro h
  have:=List.all_eq_true.1 JhT l h
  obtain⟨i,hi,hh⟩:=List.any_eq_true.1 this
  simp only[Bool.and_eq_true] at hh
  obtain⟨h1,h2,h3⟩:=hh
  have hlt:i+l.length+1<J4Z.length:=(List.getElem?_eq_some_iff.1 (show J4Z[i+l.length+1]?=some 32 by simpa using h2)).1
  refine⟨i,by omega,?_⟩
  unfold hitB
  rw[hl,J3y,h1,h2]
  simp only[Bool.true_and]
  rw[J3L,hl,show i+l.length+1=(i+1)+l.length by omega,J5W,J3y]
  simpa using h3
theorem JeI:J4Z.length<900:=by decide
theorem J9d {s:ByteArray} (h:J4i s.data.toList=true):s.data.toList≠[]∧∀ b∈s.data.toList,b≠32:=by
 cases hl:s.data.toList with
 | nil=>rw[hl] at h;cases h
 | cons c r=>
  rw[hl] at h
  refine⟨by simp,fun b hb e=>?_⟩
  have h2:=(Bool.and_eq_true_iff.1 (show (J15 c.toNat&&(c :: r).all fun c=>J15 c.toNat||J2d c.toNat)=true from h)).2
  have:=List.all_eq_true.1 h2 b hb
  rw[e] at this
  revert this
  decide
theorem J72 {s:ByteArray}:J09 s=(decide (s.data.toList.length≤64)&&(J4i s.data.toList && !J3d s)):=by
 unfold J09 J4i
 cases hl:s.data.toList with
 | nil=>simp
 | cons c r=>
  simp only
  cases J15 c.toNat <;> cases J3d s <;> cases (c :: r).all (fun c=>J15 c.toNat||J2d c.toNat) <;> simp
noncomputable def argK:Value:=match (J18 Tryz.f143 1)[1]? with
 | some o=>match o.op with
  | .call c=>match (c.args.toList.head? : Option Operand) with
   | some (Operand.const v)=>v
   | _=>undef
  | _=>undef
 | none=>undef
theorem JgO:argK=.string JgU:=by kernel_rfl
section
variable {call:J0r} {n:Nat} {h:SHeap} {s:ByteArray}
theorem JeY (h126:call 146 [argK,.string s] h=some (.bool (J3d s),h)):J0L Tryz.prog call n 143 [.string s] h=some (.bool (J3d s),h):=by
 refine J1m Tryz.func143 rfl (by simp[Tryz.f143]) ?_
 have hr:Tryz.f143.results.toList=[.tmp 2]:=rfl
 simp only[evC,seval,↓evP,rpC,hr]
 refine WKR.of (v:=.bool (J3d s)) (h':=h) h126 ?_
 simp only[evC,seval,↓evP,rpC,hr]
theorem J8x (h121:s.data.toList.length≤64→call 142 [.string s] h=some (.bool (J4i s.data.toList),h)) (h122:s.data.toList.length≤64→J4i s.data.toList=true→call 143 [.string s] h=some (.bool (J3d s),h)) :
  J0L Tryz.prog call n 136 [.string s] h=some (.bool (J09 s),h):=by
 refine J1m Tryz.func136 rfl (by simp[Tryz.f136]) ?_
 have hr:Tryz.f136.results.toList=[.tmp 2]:=rfl
 rw[J72]
 by_cases hlen:s.data.toList.length≤64
 ·have c1:decide ((s.data.toList.length:Int)≤64)=true:=by simp only[decide_eq_true_eq];omega
  have h121':=h121 hlen
  rw[decide_eq_true hlen]
  cases hs:J4i s.data.toList with
  | false=>rw[hs] at h121';simp only[evC,seval,↓evP,rpC,hr,len9,c1,h121',Bool.false_and]
  | true=>
   have h122':=h122 hlen hs
   rw[hs] at h121'
   simp only[evC,seval,↓evP,rpC,hr,len9,c1,h121',h122']
 ·have c1:decide ((s.data.toList.length:Int)≤64)=false:=by simp only[decide_eq_false_iff_not];omega
  rw[decide_eq_false hlen]
  simp only[evC,seval,↓evP,rpC,hr,len9,c1,Bool.false_and]
end
noncomputable def L0:J0r:=layD [110,132,124,72,74,75,80,82,84,
 138,135,134,127,128,137,125,113,120,122,
 144,145,109] noS 12
noncomputable def L1:J0r:=layD [123,130,133,73,119,77,87] L0 12
noncomputable def L2:J0r:=layK [111,136] L1 2000
theorem Jjp:J1x Tryz.prog L0∧J1G L0:=J9p Jhq
theorem JjM:J1x Tryz.prog L1∧J1G L1:=J9p Jjp
theorem Jjr:J1x Tryz.prog L2∧J1G L2:=Jh4 JjM
theorem Jcv (b:UInt8) (h:SHeap):L1 120 [.int .u8 (b.toNat:Int)] h=some (.bool (J15 b.toNat),h):=J1M (J0I rfl rfl rfl rfl (J4Q Jbr b))
theorem Jf2 (b:UInt8) (h:SHeap):L1 122 [.int .u8 (b.toNat:Int)] h=some (.bool (J2d b.toNat),h):=J1M (J0I rfl rfl rfl rfl (J4Q JdJ b))
theorem Jb6 (b:UInt8) (h:SHeap):L1 144 [.int .u8 (b.toNat:Int)] h=some (.bool (J15 b.toNat),h):=J1M (J0I rfl rfl rfl rfl (J4Q J9N b))
theorem Jds (b:UInt8) (h:SHeap):L1 145 [.int .u8 (b.toNat:Int)] h=some (.bool (J2d b.toNat),h):=J1M (J0I rfl rfl rfl rfl (J4Q Jcb b))
theorem J9I (what kind:Int) (h:SHeap):L1 109 [iv what,iv kind] h=some (.bool (J1l what kind),h):=J1M (J0I rfl rfl rfl rfl ⟨_,Jdb⟩)
theorem J94 {h:SHeap} (hg:h.get 0=J14) (s:ByteArray):L2 111 [.string s] h=some (.bool (J09 s),h):=by
 refine Jap rfl rfl rfl ⟨h,J9w (fun b h=>J55 (Jcv b h)) (fun b h=>J55 (Jf2 b h)) ?_ (by decide),fun _ _=>rfl⟩
 rw[J4u (n:=1999) rfl]
 refine JgS ?_
 rw[J4u (n:=1998) rfl]
 refine J7A ?_
 rw[J4u (n:=1997) rfl]
 exact Jbh hg (by decide)
theorem JbH (h:SHeap) (s:ByteArray):L2 136 [.string s] h=some (.bool (J09 s),h):=by
 refine Jap rfl rfl rfl ⟨h,J8x (fun hl=>?_) (fun hl hs=>?_),fun _ _=>rfl⟩
 ·rw[J4u (n:=1999) rfl]
  exact J9i (fun b h=>J55 (Jb6 b h)) (fun b h=>J55 (Jds b h)) (by omega) (by omega)
 ·obtain⟨n1,n2⟩:=J9d hs
  rw[J4u (n:=1999) rfl]
  refine JeY ?_
  rw[JgO,J4u (n:=1998) rfl,← J8T n1 n2]
  have:=JeI
  exact Jb9 (by rw[J3y];exact this) (by rw[J3y];omega) (by omega) n1 n2
noncomputable def J9n:Array Oper:=J18 Tryz.f70 3
noncomputable def J0M:Array Oper:=J18 Tryz.f70 4
def Jhv:List (Bool × Bool × List Operand):=[fa2,fa2,fa2,fa2,fa3 [.tmp 31],fa3 [.tmp 31],fa3 [.tmp 31],fa3 [.tmp 31],fa3 [.tmp 31],fa3 [.tmp 31],fa4 [.tmp 31,.tmp 36],fa4 [.tmp 31,.tmp 36],fa0,fa0]
def J6P:List (Bool × Bool × List Operand):=[fa1,fa1,fa1,fa4 [.tmp 39],fa4 [.tmp 39],fa0,fa0,fa0,fa0,fa0,fa0,fa0,fa0,fa0,fa0,fa0,fa0,fa0,fa0,fa0,fa0,fa0,fa0,fa0,fa0,fa0,fa0,fa0,fa0,fa0,fa0,fa0,fa0,fa0,fa0,fa0,fa0,fa0,fa0,fa0,fa0,fa0,fa0,fa0,fa0,fa0,fa0,fa0,fa0]
theorem J8D:J1E J9n=Jhv:=by kernel_rfl
theorem J8v:J1E J0M=J6P:=by kernel_rfl
theorem J03 {T:Tr} {d t b:Nat} {v:Value} (hd:b≤d) (ht:t<b):(T.put (some d) v).get t=T.get t:=by
 rw[Tr.get_put,if_neg]
 intro e
 have:d=t:=Option.some.inj e
 omega
section
variable {call:J0r} {n start a b:Nat} {T:Tr} {h:SHeap} {k:Kont} {x:RowN} {nm en nu:Bool} {le mo:Int} {ga0 gb0:Bool}
 (hsn:J1G call) (t8:T.get 8=qP a 0) (t9:T.get 9=qP b 0) (ga:h.get a=.row [.int .i64 x.kind,.string x.name,.int .i64 x.ends,.int .i64 x.n,.int .i64 x.kids] 60 ga0 false)
 (gb:h.get b=.row [.bool nm,.bool en,.bool nu,.int .i64 le,.int .i64 mo] 127 gb0 false) (hb:(b<start)=True)
include hsn t8 t9 ga gb hb
theorem ph1 (h91:∀ h',h'.get 0=h.get 0→call 111 [.string x.name] h'=some (.bool (J09 x.name),h'))
  (hk:∀ T',T'.get 54=.bool ((J09 x.name==nm)&&(nm||x.name==⟨#[]⟩))→(∀ t:Nat,t<39→T'.get t=T.get t)→WKF Tryz.prog call n J0M start (J6P.drop 16) (J0M.toList.drop 16) ⟨T',h⟩ k):WKF Tryz.prog call n J0M start (J6P.drop 0) (J0M.toList.drop 0) ⟨T,h⟩ k:=by
 have gd6:(J0M[6]?).bind (·.dst)=some 45:=by kernel_rfl
 have gd9:(J0M[9]?).bind (·.dst)=some 48:=by kernel_rfl
 have gd15:(J0M[15]?).bind (·.dst)=some 54:=by kernel_rfl
 have gd19:(J0M[19]?).bind (·.dst)=some 58:=by kernel_rfl
 have gd22:(J0M[22]?).bind (·.dst)=some 61:=by kernel_rfl
 have gd29:(J0M[29]?).bind (·.dst)=some 68:=by kernel_rfl
 have gd33:(J0M[33]?).bind (·.dst)=some 72:=by kernel_rfl
 have gd36:(J0M[36]?).bind (·.dst)=some 75:=by kernel_rfl
 have gd41:(J0M[41]?).bind (·.dst)=some 80:=by kernel_rfl
 have h91':=fun f=>h91 (h.fl f) rfl
 refine wst hsn 0 (some 39) (.fieldAddr 60 (.tmp 8) 1) none ?_
 simp only[rgC,seval,J04,J02,WKFC,J07,t8]
 refine wst hsn 1 (some 40) (.load 9 (.tmp 39)) none ?_
 simp only[rgC,seval,J04,J02,WKFC,J0d,J2a,J0f,false_implies,ga]
 refine wst hsn 2 (some 41) (.call { callee:=.value (.func 111),args:=#[.tmp 40],argTypes:=#[9] }) none ?_
 simp only[rgC,seval,J04,J02,WKFC,rgK,h91']
 refine wst hsn 3 (some 42) (.fieldAddr 127 (.tmp 9) 0) none ?_
 simp only[rgC,seval,J04,J02,WKFC,J5B,t9]
 refine wst hsn 4 (some 43) (.load 4 (.tmp 42)) none ?_
 simp only[rgC,seval,J04,J02,WKFC,J1V,J1d,J0f,decide_true,forall_const,gb,hb]
 refine wst hsn 5 (some 44) (.binOp .eql 4 (.tmp 41) (.tmp 43) 4) none ?_
 simp only[rgC,seval,J04,J02,WKFC,J1C]
 cases q1:(J09 x.name==nm)
 ·skip
  refine wst hsn 6 (some 45) (.move (.tmp 44)) none ?_
  simp only[rgC,seval,J04,J02,WKFC]
  refine wst hsn 7 (some 46) (.fieldAddr 127 (.tmp 9) 0) (some (6,true)) ?_
  simp only[rgC,seval,J04,J02,WKFC,gd6]
  refine wst hsn 8 (some 47) (.load 4 (.tmp 46)) (some (6,true)) ?_
  simp only[rgC,seval,J04,J02,WKFC,gd6]
  refine wst hsn 9 (some 48) (.move (.tmp 47)) (some (6,true)) ?_
  simp only[rgC,seval,J04,J02,WKFC,gd6]
  refine wst hsn 10 (some 49) (.fieldAddr 60 (.tmp 8) 1) (some (9,false)) ?_
  simp only[rgC,seval,J04,J02,WKFC,J07,gd9,t8]
  refine wst hsn 11 (some 50) (.load 9 (.tmp 49)) (some (9,false)) ?_
  simp only[rgC,seval,J04,J02,WKFC,false_implies,gd9]
  refine wst hsn 12 (some 51) (.binOp .eql 9 (.tmp 50) (.const (Value.string { data:=#[] })) 9) (some (9,false)) ?_
  simp only[rgC,seval,J04,J02,WKFC,gd9]
  refine wst hsn 13 (some 52) (.pick (.tmp 48) (.const (Value.bool true)) (.tmp 51)) (some (6,true)) ?_
  simp only[rgC,seval,J04,J02,WKFC,gd6]
  refine wst hsn 14 (some 53) (.pick (.tmp 45) (.tmp 52) (.const (Value.bool false))) none ?_
  simp only[rgC,seval,J04,J02,WKFC]
  refine wst hsn 15 (some 54) (.move (.tmp 53)) none ?_
  simp only[rgC,seval,J04,J02,WKFC]
  refine hk _ ?_ ?_
  ·simp only[Tr.get_put,if_true];first | rfl | simp[*]
  ·intro t ht
   rw[J03 (d:=54) (b:=39) (by decide) ht,J03 (d:=53) (b:=39) (by decide) ht,J03 (d:=52) (b:=39) (by decide) ht,J03 (d:=51) (b:=39) (by decide) ht,J03 (d:=50) (b:=39) (by decide) ht,J03 (d:=49) (b:=39) (by decide) ht,J03 (d:=48) (b:=39) (by decide) ht,J03 (d:=47) (b:=39) (by decide) ht,J03 (d:=46) (b:=39) (by decide) ht,J03 (d:=45) (b:=39) (by decide) ht,J03 (d:=44) (b:=39) (by decide) ht,J03 (d:=43) (b:=39) (by decide) ht,J03 (d:=42) (b:=39) (by decide) ht,J03 (d:=41) (b:=39) (by decide) ht,J03 (d:=40) (b:=39) (by decide) ht,J03 (d:=39) (b:=39) (by decide) ht]
 ·skip
  refine wst hsn 6 (some 45) (.move (.tmp 44)) none ?_
  simp only[rgC,seval,J04,J02,WKFC]
  refine wst hsn 7 (some 46) (.fieldAddr 127 (.tmp 9) 0) (some (6,true)) ?_
  simp only[rgC,seval,J04,J02,WKFC,J5B,gd6,t9]
  refine wst hsn 8 (some 47) (.load 4 (.tmp 46)) (some (6,true)) ?_
  simp only[rgC,seval,J04,J02,WKFC,J1V,J1d,J0f,decide_true,false_implies,gd6,gb,hb]
  refine wst hsn 9 (some 48) (.move (.tmp 47)) (some (6,true)) ?_
  simp only[rgC,seval,J04,J02,WKFC,gd6]
  cases nm
  ·skip
   refine wst hsn 10 (some 49) (.fieldAddr 60 (.tmp 8) 1) (some (9,false)) ?_
   simp only[rgC,seval,J04,J02,WKFC,J07,gd9,t8]
   refine wst hsn 11 (some 50) (.load 9 (.tmp 49)) (some (9,false)) ?_
   simp only[rgC,seval,J04,J02,WKFC,J0d,J2a,J0f,false_implies,gd9,ga]
   refine wst hsn 12 (some 51) (.binOp .eql 9 (.tmp 50) (.const (Value.string { data:=#[] })) 9) (some (9,false)) ?_
   simp only[rgC,seval,J04,J02,WKFC,J1y,gd9]
   cases q3:(x.name==⟨#[]⟩)
   ·skip
    refine wst hsn 13 (some 52) (.pick (.tmp 48) (.const (Value.bool true)) (.tmp 51)) (some (6,true)) ?_
    simp only[rgC,seval,J04,J02,WKFC,gd6]
    refine wst hsn 14 (some 53) (.pick (.tmp 45) (.tmp 52) (.const (Value.bool false))) none ?_
    simp only[rgC,seval,J04,J02,WKFC]
    refine wst hsn 15 (some 54) (.move (.tmp 53)) none ?_
    simp only[rgC,seval,J04,J02,WKFC]
    refine hk _ ?_ ?_
    ·simp only[Tr.get_put,if_true];first | rfl | simp[*]
    ·intro t ht
     rw[J03 (d:=54) (b:=39) (by decide) ht,J03 (d:=53) (b:=39) (by decide) ht,J03 (d:=52) (b:=39) (by decide) ht,J03 (d:=51) (b:=39) (by decide) ht,J03 (d:=50) (b:=39) (by decide) ht,J03 (d:=49) (b:=39) (by decide) ht,J03 (d:=48) (b:=39) (by decide) ht,J03 (d:=47) (b:=39) (by decide) ht,J03 (d:=46) (b:=39) (by decide) ht,J03 (d:=45) (b:=39) (by decide) ht,J03 (d:=44) (b:=39) (by decide) ht,J03 (d:=43) (b:=39) (by decide) ht,J03 (d:=42) (b:=39) (by decide) ht,J03 (d:=41) (b:=39) (by decide) ht,J03 (d:=40) (b:=39) (by decide) ht,J03 (d:=39) (b:=39) (by decide) ht]
   ·skip
    refine wst hsn 13 (some 52) (.pick (.tmp 48) (.const (Value.bool true)) (.tmp 51)) (some (6,true)) ?_
    simp only[rgC,seval,J04,J02,WKFC,gd6]
    refine wst hsn 14 (some 53) (.pick (.tmp 45) (.tmp 52) (.const (Value.bool false))) none ?_
    simp only[rgC,seval,J04,J02,WKFC]
    refine wst hsn 15 (some 54) (.move (.tmp 53)) none ?_
    simp only[rgC,seval,J04,J02,WKFC]
    refine hk _ ?_ ?_
    ·simp only[Tr.get_put,if_true];first | rfl | simp[*]
    ·intro t ht
     rw[J03 (d:=54) (b:=39) (by decide) ht,J03 (d:=53) (b:=39) (by decide) ht,J03 (d:=52) (b:=39) (by decide) ht,J03 (d:=51) (b:=39) (by decide) ht,J03 (d:=50) (b:=39) (by decide) ht,J03 (d:=49) (b:=39) (by decide) ht,J03 (d:=48) (b:=39) (by decide) ht,J03 (d:=47) (b:=39) (by decide) ht,J03 (d:=46) (b:=39) (by decide) ht,J03 (d:=45) (b:=39) (by decide) ht,J03 (d:=44) (b:=39) (by decide) ht,J03 (d:=43) (b:=39) (by decide) ht,J03 (d:=42) (b:=39) (by decide) ht,J03 (d:=41) (b:=39) (by decide) ht,J03 (d:=40) (b:=39) (by decide) ht,J03 (d:=39) (b:=39) (by decide) ht]
  ·skip
   refine wst hsn 10 (some 49) (.fieldAddr 60 (.tmp 8) 1) (some (9,false)) ?_
   simp only[rgC,seval,J04,J02,WKFC,gd9]
   refine wst hsn 11 (some 50) (.load 9 (.tmp 49)) (some (9,false)) ?_
   simp only[rgC,seval,J04,J02,WKFC,gd9]
   refine wst hsn 12 (some 51) (.binOp .eql 9 (.tmp 50) (.const (Value.string { data:=#[] })) 9) (some (9,false)) ?_
   simp only[rgC,seval,J04,J02,WKFC,gd9]
   refine wst hsn 13 (some 52) (.pick (.tmp 48) (.const (Value.bool true)) (.tmp 51)) (some (6,true)) ?_
   simp only[rgC,seval,J04,J02,WKFC,gd6]
   refine wst hsn 14 (some 53) (.pick (.tmp 45) (.tmp 52) (.const (Value.bool false))) none ?_
   simp only[rgC,seval,J04,J02,WKFC]
   refine wst hsn 15 (some 54) (.move (.tmp 53)) none ?_
   simp only[rgC,seval,J04,J02,WKFC]
   refine hk _ ?_ ?_
   ·simp only[Tr.get_put,if_true];first | rfl | simp[*]
   ·intro t ht
    rw[J03 (d:=54) (b:=39) (by decide) ht,J03 (d:=53) (b:=39) (by decide) ht,J03 (d:=52) (b:=39) (by decide) ht,J03 (d:=51) (b:=39) (by decide) ht,J03 (d:=50) (b:=39) (by decide) ht,J03 (d:=49) (b:=39) (by decide) ht,J03 (d:=48) (b:=39) (by decide) ht,J03 (d:=47) (b:=39) (by decide) ht,J03 (d:=46) (b:=39) (by decide) ht,J03 (d:=45) (b:=39) (by decide) ht,J03 (d:=44) (b:=39) (by decide) ht,J03 (d:=43) (b:=39) (by decide) ht,J03 (d:=42) (b:=39) (by decide) ht,J03 (d:=41) (b:=39) (by decide) ht,J03 (d:=40) (b:=39) (by decide) ht,J03 (d:=39) (b:=39) (by decide) ht]
theorem ph2 {c:Bool} (t54:T.get 54=.bool c)
  (hk:∀ T',T'.get 68=.bool (c&&(x.ends==0||en&&x.ends==1))→(∀ t:Nat,t<55→T'.get t=T.get t)→WKF Tryz.prog call n J0M start (J6P.drop 30) (J0M.toList.drop 30) ⟨T',h⟩ k):WKF Tryz.prog call n J0M start (J6P.drop 16) (J0M.toList.drop 16) ⟨T,h⟩ k:=by
 have gd6:(J0M[6]?).bind (·.dst)=some 45:=by kernel_rfl
 have gd9:(J0M[9]?).bind (·.dst)=some 48:=by kernel_rfl
 have gd15:(J0M[15]?).bind (·.dst)=some 54:=by kernel_rfl
 have gd19:(J0M[19]?).bind (·.dst)=some 58:=by kernel_rfl
 have gd22:(J0M[22]?).bind (·.dst)=some 61:=by kernel_rfl
 have gd29:(J0M[29]?).bind (·.dst)=some 68:=by kernel_rfl
 have gd33:(J0M[33]?).bind (·.dst)=some 72:=by kernel_rfl
 have gd36:(J0M[36]?).bind (·.dst)=some 75:=by kernel_rfl
 have gd41:(J0M[41]?).bind (·.dst)=some 80:=by kernel_rfl
 cases c
 ·skip
  refine wst hsn 16 (some 55) (.fieldAddr 60 (.tmp 8) 2) (some (15,true)) ?_
  simp only[rgC,seval,J04,J02,WKFC,gd15,t54]
  refine wst hsn 17 (some 56) (.load 3 (.tmp 55)) (some (15,true)) ?_
  simp only[rgC,seval,J04,J02,WKFC,gd15,t54]
  refine wst hsn 18 (some 57) (.binOp .eql 3 (.tmp 56) (.const (Value.int IntKind.i64 0)) 3) (some (15,true)) ?_
  simp only[rgC,seval,J04,J02,WKFC,gd15,t54]
  refine wst hsn 19 (some 58) (.move (.tmp 57)) (some (15,true)) ?_
  simp only[rgC,seval,J04,J02,WKFC,gd15,t54]
  refine wst hsn 20 (some 59) (.fieldAddr 127 (.tmp 9) 1) (some (19,false)) ?_
  simp only[rgC,seval,J04,J02,WKFC,J5I,gd19,t9]
  refine wst hsn 21 (some 60) (.load 4 (.tmp 59)) (some (19,false)) ?_
  simp only[rgC,seval,J04,J02,WKFC,false_implies,gd19]
  refine wst hsn 22 (some 61) (.move (.tmp 60)) (some (19,false)) ?_
  simp only[rgC,seval,J04,J02,WKFC,gd19]
  refine wst hsn 23 (some 62) (.fieldAddr 60 (.tmp 8) 2) (some (22,true)) ?_
  simp only[rgC,seval,J04,J02,WKFC,J46,gd22,t8]
  refine wst hsn 24 (some 63) (.load 3 (.tmp 62)) (some (22,true)) ?_
  simp only[rgC,seval,J04,J02,WKFC,false_implies,gd22]
  refine wst hsn 25 (some 64) (.binOp .eql 3 (.tmp 63) (.const (Value.int IntKind.i64 1)) 3) (some (22,true)) ?_
  simp only[rgC,seval,J04,J02,WKFC,gd22]
  refine wst hsn 26 (some 65) (.pick (.tmp 61) (.tmp 64) (.const (Value.bool false))) (some (19,false)) ?_
  simp only[rgC,seval,J04,J02,WKFC,gd19]
  refine wst hsn 27 (some 66) (.pick (.tmp 58) (.const (Value.bool true)) (.tmp 65)) (some (15,true)) ?_
  simp only[rgC,seval,J04,J02,WKFC,gd15,t54]
  refine wst hsn 28 (some 67) (.pick (.tmp 54) (.tmp 66) (.const (Value.bool false))) none ?_
  simp only[rgC,seval,J04,J02,WKFC,t54]
  refine wst hsn 29 (some 68) (.move (.tmp 67)) none ?_
  simp only[rgC,seval,J04,J02,WKFC]
  refine hk _ ?_ ?_
  ·simp only[Tr.get_put,if_true];first | rfl | simp[*]
  ·intro t ht
   rw[J03 (d:=68) (b:=55) (by decide) ht,J03 (d:=67) (b:=55) (by decide) ht,J03 (d:=66) (b:=55) (by decide) ht,J03 (d:=65) (b:=55) (by decide) ht,J03 (d:=64) (b:=55) (by decide) ht,J03 (d:=63) (b:=55) (by decide) ht,J03 (d:=62) (b:=55) (by decide) ht,J03 (d:=61) (b:=55) (by decide) ht,J03 (d:=60) (b:=55) (by decide) ht,J03 (d:=59) (b:=55) (by decide) ht,J03 (d:=58) (b:=55) (by decide) ht,J03 (d:=57) (b:=55) (by decide) ht,J03 (d:=56) (b:=55) (by decide) ht,J03 (d:=55) (b:=55) (by decide) ht]
 ·skip
  refine wst hsn 16 (some 55) (.fieldAddr 60 (.tmp 8) 2) (some (15,true)) ?_
  simp only[rgC,seval,J04,J02,WKFC,J46,gd15,t8,t54]
  refine wst hsn 17 (some 56) (.load 3 (.tmp 55)) (some (15,true)) ?_
  simp only[rgC,seval,J04,J02,WKFC,J0m,J2O,J0f,false_implies,gd15,ga,t54]
  refine wst hsn 18 (some 57) (.binOp .eql 3 (.tmp 56) (.const (Value.int IntKind.i64 0)) 3) (some (15,true)) ?_
  simp only[rgC,seval,J04,J02,WKFC,J24,gd15,t54]
  cases q1:(x.ends==0)
  ·skip
   refine wst hsn 19 (some 58) (.move (.tmp 57)) (some (15,true)) ?_
   simp only[rgC,seval,J04,J02,WKFC,gd15,t54]
   refine wst hsn 20 (some 59) (.fieldAddr 127 (.tmp 9) 1) (some (19,false)) ?_
   simp only[rgC,seval,J04,J02,WKFC,J5I,gd19,t9]
   refine wst hsn 21 (some 60) (.load 4 (.tmp 59)) (some (19,false)) ?_
   simp only[rgC,seval,J04,J02,WKFC,J1V,J2a,J0f,decide_true,false_implies,gd19,gb,hb]
   refine wst hsn 22 (some 61) (.move (.tmp 60)) (some (19,false)) ?_
   simp only[rgC,seval,J04,J02,WKFC,gd19]
   cases en
   ·skip
    refine wst hsn 23 (some 62) (.fieldAddr 60 (.tmp 8) 2) (some (22,true)) ?_
    simp only[rgC,seval,J04,J02,WKFC,gd22]
    refine wst hsn 24 (some 63) (.load 3 (.tmp 62)) (some (22,true)) ?_
    simp only[rgC,seval,J04,J02,WKFC,gd22]
    refine wst hsn 25 (some 64) (.binOp .eql 3 (.tmp 63) (.const (Value.int IntKind.i64 1)) 3) (some (22,true)) ?_
    simp only[rgC,seval,J04,J02,WKFC,gd22]
    refine wst hsn 26 (some 65) (.pick (.tmp 61) (.tmp 64) (.const (Value.bool false))) (some (19,false)) ?_
    simp only[rgC,seval,J04,J02,WKFC,gd19]
    refine wst hsn 27 (some 66) (.pick (.tmp 58) (.const (Value.bool true)) (.tmp 65)) (some (15,true)) ?_
    simp only[rgC,seval,J04,J02,WKFC,gd15,t54]
    refine wst hsn 28 (some 67) (.pick (.tmp 54) (.tmp 66) (.const (Value.bool false))) none ?_
    simp only[rgC,seval,J04,J02,WKFC,t54]
    refine wst hsn 29 (some 68) (.move (.tmp 67)) none ?_
    simp only[rgC,seval,J04,J02,WKFC]
    refine hk _ ?_ ?_
    ·simp only[Tr.get_put,if_true];first | rfl | simp[*]
    ·intro t ht
     rw[J03 (d:=68) (b:=55) (by decide) ht,J03 (d:=67) (b:=55) (by decide) ht,J03 (d:=66) (b:=55) (by decide) ht,J03 (d:=65) (b:=55) (by decide) ht,J03 (d:=64) (b:=55) (by decide) ht,J03 (d:=63) (b:=55) (by decide) ht,J03 (d:=62) (b:=55) (by decide) ht,J03 (d:=61) (b:=55) (by decide) ht,J03 (d:=60) (b:=55) (by decide) ht,J03 (d:=59) (b:=55) (by decide) ht,J03 (d:=58) (b:=55) (by decide) ht,J03 (d:=57) (b:=55) (by decide) ht,J03 (d:=56) (b:=55) (by decide) ht,J03 (d:=55) (b:=55) (by decide) ht]
   ·skip
    refine wst hsn 23 (some 62) (.fieldAddr 60 (.tmp 8) 2) (some (22,true)) ?_
    simp only[rgC,seval,J04,J02,WKFC,J46,gd22,t8]
    refine wst hsn 24 (some 63) (.load 3 (.tmp 62)) (some (22,true)) ?_
    simp only[rgC,seval,J04,J02,WKFC,J0m,J2O,J0f,false_implies,gd22,ga]
    refine wst hsn 25 (some 64) (.binOp .eql 3 (.tmp 63) (.const (Value.int IntKind.i64 1)) 3) (some (22,true)) ?_
    simp only[rgC,seval,J04,J02,WKFC,J24,gd22]
    cases q3:(x.ends==1)
    ·skip
     refine wst hsn 26 (some 65) (.pick (.tmp 61) (.tmp 64) (.const (Value.bool false))) (some (19,false)) ?_
     simp only[rgC,seval,J04,J02,WKFC,gd19]
     refine wst hsn 27 (some 66) (.pick (.tmp 58) (.const (Value.bool true)) (.tmp 65)) (some (15,true)) ?_
     simp only[rgC,seval,J04,J02,WKFC,gd15,t54]
     refine wst hsn 28 (some 67) (.pick (.tmp 54) (.tmp 66) (.const (Value.bool false))) none ?_
     simp only[rgC,seval,J04,J02,WKFC,t54]
     refine wst hsn 29 (some 68) (.move (.tmp 67)) none ?_
     simp only[rgC,seval,J04,J02,WKFC]
     refine hk _ ?_ ?_
     ·simp only[Tr.get_put,if_true];first | rfl | simp[*]
     ·intro t ht
      rw[J03 (d:=68) (b:=55) (by decide) ht,J03 (d:=67) (b:=55) (by decide) ht,J03 (d:=66) (b:=55) (by decide) ht,J03 (d:=65) (b:=55) (by decide) ht,J03 (d:=64) (b:=55) (by decide) ht,J03 (d:=63) (b:=55) (by decide) ht,J03 (d:=62) (b:=55) (by decide) ht,J03 (d:=61) (b:=55) (by decide) ht,J03 (d:=60) (b:=55) (by decide) ht,J03 (d:=59) (b:=55) (by decide) ht,J03 (d:=58) (b:=55) (by decide) ht,J03 (d:=57) (b:=55) (by decide) ht,J03 (d:=56) (b:=55) (by decide) ht,J03 (d:=55) (b:=55) (by decide) ht]
    ·skip
     refine wst hsn 26 (some 65) (.pick (.tmp 61) (.tmp 64) (.const (Value.bool false))) (some (19,false)) ?_
     simp only[rgC,seval,J04,J02,WKFC,gd19]
     refine wst hsn 27 (some 66) (.pick (.tmp 58) (.const (Value.bool true)) (.tmp 65)) (some (15,true)) ?_
     simp only[rgC,seval,J04,J02,WKFC,gd15,t54]
     refine wst hsn 28 (some 67) (.pick (.tmp 54) (.tmp 66) (.const (Value.bool false))) none ?_
     simp only[rgC,seval,J04,J02,WKFC,t54]
     refine wst hsn 29 (some 68) (.move (.tmp 67)) none ?_
     simp only[rgC,seval,J04,J02,WKFC]
     refine hk _ ?_ ?_
     ·simp only[Tr.get_put,if_true];first | rfl | simp[*]
     ·intro t ht
      rw[J03 (d:=68) (b:=55) (by decide) ht,J03 (d:=67) (b:=55) (by decide) ht,J03 (d:=66) (b:=55) (by decide) ht,J03 (d:=65) (b:=55) (by decide) ht,J03 (d:=64) (b:=55) (by decide) ht,J03 (d:=63) (b:=55) (by decide) ht,J03 (d:=62) (b:=55) (by decide) ht,J03 (d:=61) (b:=55) (by decide) ht,J03 (d:=60) (b:=55) (by decide) ht,J03 (d:=59) (b:=55) (by decide) ht,J03 (d:=58) (b:=55) (by decide) ht,J03 (d:=57) (b:=55) (by decide) ht,J03 (d:=56) (b:=55) (by decide) ht,J03 (d:=55) (b:=55) (by decide) ht]
  ·skip
   refine wst hsn 19 (some 58) (.move (.tmp 57)) (some (15,true)) ?_
   simp only[rgC,seval,J04,J02,WKFC,gd15,t54]
   refine wst hsn 20 (some 59) (.fieldAddr 127 (.tmp 9) 1) (some (19,false)) ?_
   simp only[rgC,seval,J04,J02,WKFC,gd19]
   refine wst hsn 21 (some 60) (.load 4 (.tmp 59)) (some (19,false)) ?_
   simp only[rgC,seval,J04,J02,WKFC,gd19]
   refine wst hsn 22 (some 61) (.move (.tmp 60)) (some (19,false)) ?_
   simp only[rgC,seval,J04,J02,WKFC,gd19]
   refine wst hsn 23 (some 62) (.fieldAddr 60 (.tmp 8) 2) (some (22,true)) ?_
   simp only[rgC,seval,J04,J02,WKFC,J46,gd22,t8]
   refine wst hsn 24 (some 63) (.load 3 (.tmp 62)) (some (22,true)) ?_
   simp only[rgC,seval,J04,J02,WKFC,false_implies,gd22]
   refine wst hsn 25 (some 64) (.binOp .eql 3 (.tmp 63) (.const (Value.int IntKind.i64 1)) 3) (some (22,true)) ?_
   simp only[rgC,seval,J04,J02,WKFC,gd22]
   refine wst hsn 26 (some 65) (.pick (.tmp 61) (.tmp 64) (.const (Value.bool false))) (some (19,false)) ?_
   simp only[rgC,seval,J04,J02,WKFC,gd19]
   refine wst hsn 27 (some 66) (.pick (.tmp 58) (.const (Value.bool true)) (.tmp 65)) (some (15,true)) ?_
   simp only[rgC,seval,J04,J02,WKFC,gd15,t54]
   refine wst hsn 28 (some 67) (.pick (.tmp 54) (.tmp 66) (.const (Value.bool false))) none ?_
   simp only[rgC,seval,J04,J02,WKFC,t54]
   refine wst hsn 29 (some 68) (.move (.tmp 67)) none ?_
   simp only[rgC,seval,J04,J02,WKFC]
   refine hk _ ?_ ?_
   ·simp only[Tr.get_put,if_true];first | rfl | simp[*]
   ·intro t ht
    rw[J03 (d:=68) (b:=55) (by decide) ht,J03 (d:=67) (b:=55) (by decide) ht,J03 (d:=66) (b:=55) (by decide) ht,J03 (d:=65) (b:=55) (by decide) ht,J03 (d:=64) (b:=55) (by decide) ht,J03 (d:=63) (b:=55) (by decide) ht,J03 (d:=62) (b:=55) (by decide) ht,J03 (d:=61) (b:=55) (by decide) ht,J03 (d:=60) (b:=55) (by decide) ht,J03 (d:=59) (b:=55) (by decide) ht,J03 (d:=58) (b:=55) (by decide) ht,J03 (d:=57) (b:=55) (by decide) ht,J03 (d:=56) (b:=55) (by decide) ht,J03 (d:=55) (b:=55) (by decide) ht]
theorem ph3 {c:Bool} (t68:T.get 68=.bool c)
  (hk:∀ T',T'.get 10=.bool (c&&(x.n==0||nu&&decide (x.n>0)&&decide (x.n≤1073741824)))→(∀ t:Nat,t<10→T'.get t=T.get t)→WKF Tryz.prog call n J0M start (J6P.drop 49) (J0M.toList.drop 49) ⟨T',h⟩ k):WKF Tryz.prog call n J0M start (J6P.drop 30) (J0M.toList.drop 30) ⟨T,h⟩ k:=by
 have gd6:(J0M[6]?).bind (·.dst)=some 45:=by kernel_rfl
 have gd9:(J0M[9]?).bind (·.dst)=some 48:=by kernel_rfl
 have gd15:(J0M[15]?).bind (·.dst)=some 54:=by kernel_rfl
 have gd19:(J0M[19]?).bind (·.dst)=some 58:=by kernel_rfl
 have gd22:(J0M[22]?).bind (·.dst)=some 61:=by kernel_rfl
 have gd29:(J0M[29]?).bind (·.dst)=some 68:=by kernel_rfl
 have gd33:(J0M[33]?).bind (·.dst)=some 72:=by kernel_rfl
 have gd36:(J0M[36]?).bind (·.dst)=some 75:=by kernel_rfl
 have gd41:(J0M[41]?).bind (·.dst)=some 80:=by kernel_rfl
 cases c
 ·skip
  refine wst hsn 30 (some 69) (.fieldAddr 60 (.tmp 8) 3) (some (29,true)) ?_
  simp only[rgC,seval,J04,J02,WKFC,gd29,t68]
  refine wst hsn 31 (some 70) (.load 3 (.tmp 69)) (some (29,true)) ?_
  simp only[rgC,seval,J04,J02,WKFC,gd29,t68]
  refine wst hsn 32 (some 71) (.binOp .eql 3 (.tmp 70) (.const (Value.int IntKind.i64 0)) 3) (some (29,true)) ?_
  simp only[rgC,seval,J04,J02,WKFC,gd29,t68]
  refine wst hsn 33 (some 72) (.move (.tmp 71)) (some (29,true)) ?_
  simp only[rgC,seval,J04,J02,WKFC,gd29,t68]
  refine wst hsn 34 (some 73) (.fieldAddr 127 (.tmp 9) 2) (some (33,false)) ?_
  simp only[rgC,seval,J04,J02,WKFC,J5G,gd33,t9]
  refine wst hsn 35 (some 74) (.load 4 (.tmp 73)) (some (33,false)) ?_
  simp only[rgC,seval,J04,J02,WKFC,false_implies,gd33]
  refine wst hsn 36 (some 75) (.move (.tmp 74)) (some (33,false)) ?_
  simp only[rgC,seval,J04,J02,WKFC,gd33]
  refine wst hsn 37 (some 76) (.fieldAddr 60 (.tmp 8) 3) (some (36,true)) ?_
  simp only[rgC,seval,J04,J02,WKFC,J0O,gd36,t8]
  refine wst hsn 38 (some 77) (.load 3 (.tmp 76)) (some (36,true)) ?_
  simp only[rgC,seval,J04,J02,WKFC,false_implies,gd36]
  refine wst hsn 39 (some 78) (.binOp .gtr 3 (.tmp 77) (.const (Value.int IntKind.i64 0)) 3) (some (36,true)) ?_
  simp only[rgC,seval,J04,J02,WKFC,gd36]
  refine wst hsn 40 (some 79) (.pick (.tmp 75) (.tmp 78) (.const (Value.bool false))) (some (33,false)) ?_
  simp only[rgC,seval,J04,J02,WKFC,gd33]
  refine wst hsn 41 (some 80) (.move (.tmp 79)) (some (33,false)) ?_
  simp only[rgC,seval,J04,J02,WKFC,gd33]
  refine wst hsn 42 (some 81) (.fieldAddr 60 (.tmp 8) 3) (some (41,true)) ?_
  simp only[rgC,seval,J04,J02,WKFC,J0O,gd41,t8]
  refine wst hsn 43 (some 82) (.load 3 (.tmp 81)) (some (41,true)) ?_
  simp only[rgC,seval,J04,J02,WKFC,false_implies,gd41]
  refine wst hsn 44 (some 83) (.binOp .leq 3 (.tmp 82) (.const (Value.int IntKind.i64 1073741824)) 3) (some (41,true)) ?_
  simp only[rgC,seval,J04,J02,WKFC,gd41]
  refine wst hsn 45 (some 84) (.pick (.tmp 80) (.tmp 83) (.const (Value.bool false))) (some (33,false)) ?_
  simp only[rgC,seval,J04,J02,WKFC,gd33]
  refine wst hsn 46 (some 85) (.pick (.tmp 72) (.const (Value.bool true)) (.tmp 84)) (some (29,true)) ?_
  simp only[rgC,seval,J04,J02,WKFC,gd29,t68]
  refine wst hsn 47 (some 86) (.pick (.tmp 68) (.tmp 85) (.const (Value.bool false))) none ?_
  simp only[rgC,seval,J04,J02,WKFC,t68]
  refine wst hsn 48 (some 10) (.assign (.tmp 86)) none ?_
  simp only[rgC,seval,J04,J02,WKFC]
  refine hk _ ?_ ?_
  ·simp only[Tr.get_put,if_true];first | rfl | simp[*]
  ·intro t ht
   rw[J03 (d:=10) (b:=10) (by decide) ht,J03 (d:=86) (b:=10) (by decide) ht,J03 (d:=85) (b:=10) (by decide) ht,J03 (d:=84) (b:=10) (by decide) ht,J03 (d:=83) (b:=10) (by decide) ht,J03 (d:=82) (b:=10) (by decide) ht,J03 (d:=81) (b:=10) (by decide) ht,J03 (d:=80) (b:=10) (by decide) ht,J03 (d:=79) (b:=10) (by decide) ht,J03 (d:=78) (b:=10) (by decide) ht,J03 (d:=77) (b:=10) (by decide) ht,J03 (d:=76) (b:=10) (by decide) ht,J03 (d:=75) (b:=10) (by decide) ht,J03 (d:=74) (b:=10) (by decide) ht,J03 (d:=73) (b:=10) (by decide) ht,J03 (d:=72) (b:=10) (by decide) ht,J03 (d:=71) (b:=10) (by decide) ht,J03 (d:=70) (b:=10) (by decide) ht,J03 (d:=69) (b:=10) (by decide) ht]
 ·skip
  refine wst hsn 30 (some 69) (.fieldAddr 60 (.tmp 8) 3) (some (29,true)) ?_
  simp only[rgC,seval,J04,J02,WKFC,J0O,gd29,t8,t68]
  refine wst hsn 31 (some 70) (.load 3 (.tmp 69)) (some (29,true)) ?_
  simp only[rgC,seval,J04,J02,WKFC,J0m,J2b,J0f,false_implies,gd29,ga,t68]
  refine wst hsn 32 (some 71) (.binOp .eql 3 (.tmp 70) (.const (Value.int IntKind.i64 0)) 3) (some (29,true)) ?_
  simp only[rgC,seval,J04,J02,WKFC,J24,gd29,t68]
  cases q1:(x.n==0)
  ·skip
   refine wst hsn 33 (some 72) (.move (.tmp 71)) (some (29,true)) ?_
   simp only[rgC,seval,J04,J02,WKFC,gd29,t68]
   refine wst hsn 34 (some 73) (.fieldAddr 127 (.tmp 9) 2) (some (33,false)) ?_
   simp only[rgC,seval,J04,J02,WKFC,J5G,gd33,t9]
   refine wst hsn 35 (some 74) (.load 4 (.tmp 73)) (some (33,false)) ?_
   simp only[rgC,seval,J04,J02,WKFC,J1V,J2O,J0f,decide_true,false_implies,gd33,gb,hb]
   refine wst hsn 36 (some 75) (.move (.tmp 74)) (some (33,false)) ?_
   simp only[rgC,seval,J04,J02,WKFC,gd33]
   cases nu
   ·skip
    refine wst hsn 37 (some 76) (.fieldAddr 60 (.tmp 8) 3) (some (36,true)) ?_
    simp only[rgC,seval,J04,J02,WKFC,gd36]
    refine wst hsn 38 (some 77) (.load 3 (.tmp 76)) (some (36,true)) ?_
    simp only[rgC,seval,J04,J02,WKFC,gd36]
    refine wst hsn 39 (some 78) (.binOp .gtr 3 (.tmp 77) (.const (Value.int IntKind.i64 0)) 3) (some (36,true)) ?_
    simp only[rgC,seval,J04,J02,WKFC,gd36]
    refine wst hsn 40 (some 79) (.pick (.tmp 75) (.tmp 78) (.const (Value.bool false))) (some (33,false)) ?_
    simp only[rgC,seval,J04,J02,WKFC,gd33]
    refine wst hsn 41 (some 80) (.move (.tmp 79)) (some (33,false)) ?_
    simp only[rgC,seval,J04,J02,WKFC,gd33]
    refine wst hsn 42 (some 81) (.fieldAddr 60 (.tmp 8) 3) (some (41,true)) ?_
    simp only[rgC,seval,J04,J02,WKFC,gd41]
    refine wst hsn 43 (some 82) (.load 3 (.tmp 81)) (some (41,true)) ?_
    simp only[rgC,seval,J04,J02,WKFC,gd41]
    refine wst hsn 44 (some 83) (.binOp .leq 3 (.tmp 82) (.const (Value.int IntKind.i64 1073741824)) 3) (some (41,true)) ?_
    simp only[rgC,seval,J04,J02,WKFC,gd41]
    refine wst hsn 45 (some 84) (.pick (.tmp 80) (.tmp 83) (.const (Value.bool false))) (some (33,false)) ?_
    simp only[rgC,seval,J04,J02,WKFC,gd33]
    refine wst hsn 46 (some 85) (.pick (.tmp 72) (.const (Value.bool true)) (.tmp 84)) (some (29,true)) ?_
    simp only[rgC,seval,J04,J02,WKFC,gd29,t68]
    refine wst hsn 47 (some 86) (.pick (.tmp 68) (.tmp 85) (.const (Value.bool false))) none ?_
    simp only[rgC,seval,J04,J02,WKFC,t68]
    refine wst hsn 48 (some 10) (.assign (.tmp 86)) none ?_
    simp only[rgC,seval,J04,J02,WKFC]
    refine hk _ ?_ ?_
    ·simp only[Tr.get_put,if_true];first | rfl | simp[*]
    ·intro t ht
     rw[J03 (d:=10) (b:=10) (by decide) ht,J03 (d:=86) (b:=10) (by decide) ht,J03 (d:=85) (b:=10) (by decide) ht,J03 (d:=84) (b:=10) (by decide) ht,J03 (d:=83) (b:=10) (by decide) ht,J03 (d:=82) (b:=10) (by decide) ht,J03 (d:=81) (b:=10) (by decide) ht,J03 (d:=80) (b:=10) (by decide) ht,J03 (d:=79) (b:=10) (by decide) ht,J03 (d:=78) (b:=10) (by decide) ht,J03 (d:=77) (b:=10) (by decide) ht,J03 (d:=76) (b:=10) (by decide) ht,J03 (d:=75) (b:=10) (by decide) ht,J03 (d:=74) (b:=10) (by decide) ht,J03 (d:=73) (b:=10) (by decide) ht,J03 (d:=72) (b:=10) (by decide) ht,J03 (d:=71) (b:=10) (by decide) ht,J03 (d:=70) (b:=10) (by decide) ht,J03 (d:=69) (b:=10) (by decide) ht]
   ·skip
    refine wst hsn 37 (some 76) (.fieldAddr 60 (.tmp 8) 3) (some (36,true)) ?_
    simp only[rgC,seval,J04,J02,WKFC,J0O,gd36,t8]
    refine wst hsn 38 (some 77) (.load 3 (.tmp 76)) (some (36,true)) ?_
    simp only[rgC,seval,J04,J02,WKFC,J0m,J2b,J0f,false_implies,gd36,ga]
    refine wst hsn 39 (some 78) (.binOp .gtr 3 (.tmp 77) (.const (Value.int IntKind.i64 0)) 3) (some (36,true)) ?_
    simp only[rgC,seval,J04,J02,WKFC,J23,gd36]
    cases q3:decide (x.n>0)
    ·skip
     refine wst hsn 40 (some 79) (.pick (.tmp 75) (.tmp 78) (.const (Value.bool false))) (some (33,false)) ?_
     simp only[rgC,seval,J04,J02,WKFC,gd33]
     refine wst hsn 41 (some 80) (.move (.tmp 79)) (some (33,false)) ?_
     simp only[rgC,seval,J04,J02,WKFC,gd33]
     refine wst hsn 42 (some 81) (.fieldAddr 60 (.tmp 8) 3) (some (41,true)) ?_
     simp only[rgC,seval,J04,J02,WKFC,gd41]
     refine wst hsn 43 (some 82) (.load 3 (.tmp 81)) (some (41,true)) ?_
     simp only[rgC,seval,J04,J02,WKFC,gd41]
     refine wst hsn 44 (some 83) (.binOp .leq 3 (.tmp 82) (.const (Value.int IntKind.i64 1073741824)) 3) (some (41,true)) ?_
     simp only[rgC,seval,J04,J02,WKFC,gd41]
     refine wst hsn 45 (some 84) (.pick (.tmp 80) (.tmp 83) (.const (Value.bool false))) (some (33,false)) ?_
     simp only[rgC,seval,J04,J02,WKFC,gd33]
     refine wst hsn 46 (some 85) (.pick (.tmp 72) (.const (Value.bool true)) (.tmp 84)) (some (29,true)) ?_
     simp only[rgC,seval,J04,J02,WKFC,gd29,t68]
     refine wst hsn 47 (some 86) (.pick (.tmp 68) (.tmp 85) (.const (Value.bool false))) none ?_
     simp only[rgC,seval,J04,J02,WKFC,t68]
     refine wst hsn 48 (some 10) (.assign (.tmp 86)) none ?_
     simp only[rgC,seval,J04,J02,WKFC]
     refine hk _ ?_ ?_
     ·simp only[Tr.get_put,if_true];first | rfl | simp[*]
     ·intro t ht
      rw[J03 (d:=10) (b:=10) (by decide) ht,J03 (d:=86) (b:=10) (by decide) ht,J03 (d:=85) (b:=10) (by decide) ht,J03 (d:=84) (b:=10) (by decide) ht,J03 (d:=83) (b:=10) (by decide) ht,J03 (d:=82) (b:=10) (by decide) ht,J03 (d:=81) (b:=10) (by decide) ht,J03 (d:=80) (b:=10) (by decide) ht,J03 (d:=79) (b:=10) (by decide) ht,J03 (d:=78) (b:=10) (by decide) ht,J03 (d:=77) (b:=10) (by decide) ht,J03 (d:=76) (b:=10) (by decide) ht,J03 (d:=75) (b:=10) (by decide) ht,J03 (d:=74) (b:=10) (by decide) ht,J03 (d:=73) (b:=10) (by decide) ht,J03 (d:=72) (b:=10) (by decide) ht,J03 (d:=71) (b:=10) (by decide) ht,J03 (d:=70) (b:=10) (by decide) ht,J03 (d:=69) (b:=10) (by decide) ht]
    ·skip
     refine wst hsn 40 (some 79) (.pick (.tmp 75) (.tmp 78) (.const (Value.bool false))) (some (33,false)) ?_
     simp only[rgC,seval,J04,J02,WKFC,gd33]
     refine wst hsn 41 (some 80) (.move (.tmp 79)) (some (33,false)) ?_
     simp only[rgC,seval,J04,J02,WKFC,gd33]
     refine wst hsn 42 (some 81) (.fieldAddr 60 (.tmp 8) 3) (some (41,true)) ?_
     simp only[rgC,seval,J04,J02,WKFC,J0O,gd41,t8]
     refine wst hsn 43 (some 82) (.load 3 (.tmp 81)) (some (41,true)) ?_
     simp only[rgC,seval,J04,J02,WKFC,J0m,J2b,J0f,false_implies,gd41,ga]
     refine wst hsn 44 (some 83) (.binOp .leq 3 (.tmp 82) (.const (Value.int IntKind.i64 1073741824)) 3) (some (41,true)) ?_
     simp only[rgC,seval,J04,J02,WKFC,J21,gd41]
     cases q4:decide (x.n≤1073741824)
     ·skip
      refine wst hsn 45 (some 84) (.pick (.tmp 80) (.tmp 83) (.const (Value.bool false))) (some (33,false)) ?_
      simp only[rgC,seval,J04,J02,WKFC,gd33]
      refine wst hsn 46 (some 85) (.pick (.tmp 72) (.const (Value.bool true)) (.tmp 84)) (some (29,true)) ?_
      simp only[rgC,seval,J04,J02,WKFC,gd29,t68]
      refine wst hsn 47 (some 86) (.pick (.tmp 68) (.tmp 85) (.const (Value.bool false))) none ?_
      simp only[rgC,seval,J04,J02,WKFC,t68]
      refine wst hsn 48 (some 10) (.assign (.tmp 86)) none ?_
      simp only[rgC,seval,J04,J02,WKFC]
      refine hk _ ?_ ?_
      ·simp only[Tr.get_put,if_true];first | rfl | simp[*]
      ·intro t ht
       rw[J03 (d:=10) (b:=10) (by decide) ht,J03 (d:=86) (b:=10) (by decide) ht,J03 (d:=85) (b:=10) (by decide) ht,J03 (d:=84) (b:=10) (by decide) ht,J03 (d:=83) (b:=10) (by decide) ht,J03 (d:=82) (b:=10) (by decide) ht,J03 (d:=81) (b:=10) (by decide) ht,J03 (d:=80) (b:=10) (by decide) ht,J03 (d:=79) (b:=10) (by decide) ht,J03 (d:=78) (b:=10) (by decide) ht,J03 (d:=77) (b:=10) (by decide) ht,J03 (d:=76) (b:=10) (by decide) ht,J03 (d:=75) (b:=10) (by decide) ht,J03 (d:=74) (b:=10) (by decide) ht,J03 (d:=73) (b:=10) (by decide) ht,J03 (d:=72) (b:=10) (by decide) ht,J03 (d:=71) (b:=10) (by decide) ht,J03 (d:=70) (b:=10) (by decide) ht,J03 (d:=69) (b:=10) (by decide) ht]
     ·skip
      refine wst hsn 45 (some 84) (.pick (.tmp 80) (.tmp 83) (.const (Value.bool false))) (some (33,false)) ?_
      simp only[rgC,seval,J04,J02,WKFC,gd33]
      refine wst hsn 46 (some 85) (.pick (.tmp 72) (.const (Value.bool true)) (.tmp 84)) (some (29,true)) ?_
      simp only[rgC,seval,J04,J02,WKFC,gd29,t68]
      refine wst hsn 47 (some 86) (.pick (.tmp 68) (.tmp 85) (.const (Value.bool false))) none ?_
      simp only[rgC,seval,J04,J02,WKFC,t68]
      refine wst hsn 48 (some 10) (.assign (.tmp 86)) none ?_
      simp only[rgC,seval,J04,J02,WKFC]
      refine hk _ ?_ ?_
      ·simp only[Tr.get_put,if_true];first | rfl | simp[*]
      ·intro t ht
       rw[J03 (d:=10) (b:=10) (by decide) ht,J03 (d:=86) (b:=10) (by decide) ht,J03 (d:=85) (b:=10) (by decide) ht,J03 (d:=84) (b:=10) (by decide) ht,J03 (d:=83) (b:=10) (by decide) ht,J03 (d:=82) (b:=10) (by decide) ht,J03 (d:=81) (b:=10) (by decide) ht,J03 (d:=80) (b:=10) (by decide) ht,J03 (d:=79) (b:=10) (by decide) ht,J03 (d:=78) (b:=10) (by decide) ht,J03 (d:=77) (b:=10) (by decide) ht,J03 (d:=76) (b:=10) (by decide) ht,J03 (d:=75) (b:=10) (by decide) ht,J03 (d:=74) (b:=10) (by decide) ht,J03 (d:=73) (b:=10) (by decide) ht,J03 (d:=72) (b:=10) (by decide) ht,J03 (d:=71) (b:=10) (by decide) ht,J03 (d:=70) (b:=10) (by decide) ht,J03 (d:=69) (b:=10) (by decide) ht]
  ·skip
   refine wst hsn 33 (some 72) (.move (.tmp 71)) (some (29,true)) ?_
   simp only[rgC,seval,J04,J02,WKFC,gd29,t68]
   refine wst hsn 34 (some 73) (.fieldAddr 127 (.tmp 9) 2) (some (33,false)) ?_
   simp only[rgC,seval,J04,J02,WKFC,gd33]
   refine wst hsn 35 (some 74) (.load 4 (.tmp 73)) (some (33,false)) ?_
   simp only[rgC,seval,J04,J02,WKFC,gd33]
   refine wst hsn 36 (some 75) (.move (.tmp 74)) (some (33,false)) ?_
   simp only[rgC,seval,J04,J02,WKFC,gd33]
   refine wst hsn 37 (some 76) (.fieldAddr 60 (.tmp 8) 3) (some (36,true)) ?_
   simp only[rgC,seval,J04,J02,WKFC,J0O,gd36,t8]
   refine wst hsn 38 (some 77) (.load 3 (.tmp 76)) (some (36,true)) ?_
   simp only[rgC,seval,J04,J02,WKFC,false_implies,gd36]
   refine wst hsn 39 (some 78) (.binOp .gtr 3 (.tmp 77) (.const (Value.int IntKind.i64 0)) 3) (some (36,true)) ?_
   simp only[rgC,seval,J04,J02,WKFC,gd36]
   refine wst hsn 40 (some 79) (.pick (.tmp 75) (.tmp 78) (.const (Value.bool false))) (some (33,false)) ?_
   simp only[rgC,seval,J04,J02,WKFC,gd33]
   refine wst hsn 41 (some 80) (.move (.tmp 79)) (some (33,false)) ?_
   simp only[rgC,seval,J04,J02,WKFC,gd33]
   refine wst hsn 42 (some 81) (.fieldAddr 60 (.tmp 8) 3) (some (41,true)) ?_
   simp only[rgC,seval,J04,J02,WKFC,J0O,gd41,t8]
   refine wst hsn 43 (some 82) (.load 3 (.tmp 81)) (some (41,true)) ?_
   simp only[rgC,seval,J04,J02,WKFC,false_implies,gd41]
   refine wst hsn 44 (some 83) (.binOp .leq 3 (.tmp 82) (.const (Value.int IntKind.i64 1073741824)) 3) (some (41,true)) ?_
   simp only[rgC,seval,J04,J02,WKFC,gd41]
   refine wst hsn 45 (some 84) (.pick (.tmp 80) (.tmp 83) (.const (Value.bool false))) (some (33,false)) ?_
   simp only[rgC,seval,J04,J02,WKFC,gd33]
   refine wst hsn 46 (some 85) (.pick (.tmp 72) (.const (Value.bool true)) (.tmp 84)) (some (29,true)) ?_
   simp only[rgC,seval,J04,J02,WKFC,gd29,t68]
   refine wst hsn 47 (some 86) (.pick (.tmp 68) (.tmp 85) (.const (Value.bool false))) none ?_
   simp only[rgC,seval,J04,J02,WKFC,t68]
   refine wst hsn 48 (some 10) (.assign (.tmp 86)) none ?_
   simp only[rgC,seval,J04,J02,WKFC]
   refine hk _ ?_ ?_
   ·simp only[Tr.get_put,if_true];first | rfl | simp[*]
   ·intro t ht
    rw[J03 (d:=10) (b:=10) (by decide) ht,J03 (d:=86) (b:=10) (by decide) ht,J03 (d:=85) (b:=10) (by decide) ht,J03 (d:=84) (b:=10) (by decide) ht,J03 (d:=83) (b:=10) (by decide) ht,J03 (d:=82) (b:=10) (by decide) ht,J03 (d:=81) (b:=10) (by decide) ht,J03 (d:=80) (b:=10) (by decide) ht,J03 (d:=79) (b:=10) (by decide) ht,J03 (d:=78) (b:=10) (by decide) ht,J03 (d:=77) (b:=10) (by decide) ht,J03 (d:=76) (b:=10) (by decide) ht,J03 (d:=75) (b:=10) (by decide) ht,J03 (d:=74) (b:=10) (by decide) ht,J03 (d:=73) (b:=10) (by decide) ht,J03 (d:=72) (b:=10) (by decide) ht,J03 (d:=71) (b:=10) (by decide) ht,J03 (d:=70) (b:=10) (by decide) ht,J03 (d:=69) (b:=10) (by decide) ht]
end
def rt:Code→Code
 | .seq _ b=>b
 | c=>c
def lf:Code→Code
 | .seq a _=>a
 | c=>c
noncomputable def J77:Code:=rt (rt (rt (Tryz.f70.body.getD .skip)))
theorem Jba {what k:Int} (hw:what≠8) (h:J1l what k=true):k≠1:=by
 intro e
 subst e
 unfold J1l at h
 rw[if_neg hw] at h
 (repeat' split at h) <;> simp at h
theorem Jbu {k:Int} {j:Nat}:J0A k j≠8:=J5w.2
theorem J4a (k:Int):0≤J1U k:=by unfold J1U;(repeat' split) <;> omega
section
variable {call:J0r} {n:Nat}
structure Calls73 (call:J0r) (l:List RowN) (v:Value) (m at_:Nat):Prop where
 asked:∀ (k:Int) (j:Nat) h,1≤k∧k≤54→(k=11∨(j:Int)<J1r k)→call 113 [iv k,iv j] h=some (iv (J0A k j),h)
 row:∀ (p:Nat) (w:Int) h,at_<p→p≤l.length→w≠8→J0l h v l→h.get 0=J14→0<h.next→h.floor≤h.next→call 70 [v,iv p,iv w] h=some (.tuple #[iv ((rowN J09 l m p w).1:Int),.bool (rowN J09 l m p w).2],h)
theorem Jfc (hsn:J1G call) {l:List RowN} {v:Value} {m at_ a b:Nat} {x:RowN} {T:Tr} {h:SHeap} {k:Kont} {ga0 gb0:Bool} (hc:Calls73 call l v m at_) (hn:l.length+3<n) (hlen:l.length<1099511627776) (hat:at_<l.length)
  (h91:∀ h',h'.get 0=J14→call 111 [.string x.name] h'=some (.bool (J09 x.name),h'))
  (hv:J0l h v l) (hg:h.get 0=J14) (hn0:0<h.next) (hfl:h.floor≤h.next) (hkind:1≤x.kind∧x.kind≤54) (hk1:x.kind≠1)
  (t0:T.get 0=v) (t1:T.get 1=iv at_) (t8:T.get 8=qP a 0) (t9:T.get 9=qP b 0)
  (ga:h.get a=.row [.int .i64 x.kind,.string x.name,.int .i64 x.ends,.int .i64 x.n,.int .i64 x.kids] 60 ga0 false)
  (gb:h.get b=.row [.bool (J3l x.kind),.bool (endK x.kind),.bool (x.kind==27),.int .i64 (J1U x.kind),.int .i64 (J1r x.kind)] 127 gb0 false) (hb:b<h.next)
  (hk:∀ T' (p:Nat) ok,(p,ok)=(if fitN J09 x=true then J2r (fun k next=>rowN J09 l m next (J0A x.kind k)) x.kids.toNat 0 (at_+1) else (at_,false))→T'.get 6=iv p→T'.get 7=.bool ok→k.ap Tryz.prog call n .ret ⟨T',h⟩) :
  WK Tryz.prog call n J77 ⟨T,h⟩ k:=by
 show WK _ _ _ (.seq (.region _ _ true) _) _ _
 rw[J4p]
 refine WK.flags (ops:=J0M) J8v ?_
 refine WKF.begin ?_
 refine ph1 hsn t8 t9 ga gb (by simpa using hb) (fun h' e=>h91 h' (by rw[e];exact hg)) fun T1 e1 k1=>?_
 refine ph2 hsn (by rw[k1 8 (by decide)];exact t8) (by rw[k1 9 (by decide)];exact t9) ga gb (by simpa using hb) e1 fun T2 e2 k2=>?_
 refine ph3 hsn (by rw[k2 8 (by decide),k1 8 (by decide)];exact t8) (by rw[k2 9 (by decide),k1 9 (by decide)];exact t9) ga gb (by simpa using hb) e2 fun T3 e3 k3=>?_
 refine WKF.done (i:=49) (by kernel_rfl) ?_
 rw[J7O]
 have kp:∀ t:Nat,t<10→T3.get t=T.get t:=fun t ht=>by rw[k3 t ht,k2 t (by omega),k1 t (by omega)]
 have u0:=(kp 0 (by decide)).trans t0
 have u1:=(kp 1 (by decide)).trans t1
 have u8:=(kp 8 (by decide)).trans t8
 have u9:=(kp 9 (by decide)).trans t9
 clear k1 k2 k3 kp e1 e2
 generalize hcc:(((J09 x.name==J3l x.kind)&&(J3l x.kind||x.name==⟨#[]⟩))&&(x.ends==0||endK x.kind&&x.ends==1)&&(x.n==0||(x.kind==27)&&decide (x.n>0)&&decide (x.n≤1073741824)))=cc at e3
 have hfit:fitN J09 x=(cc&&decide (x.kids≥J1U x.kind)&&(decide (J1r x.kind<0)||decide (x.kids≤J1r x.kind))):=by
  rw[← hcc]
  rfl
 have bad:fitN J09 x=false→∀ T',T'.get 6=iv at_→T'.get 7=.bool false→k.ap Tryz.prog call n .ret ⟨T',h⟩:=fun hf T' h6 h7=>hk T' at_ false (by rw[hf];rfl) h6 h7
 have e1:(x.kind==1)=false:=by simpa using hk1
 have hkids:fitN J09 x=true→0≤x.kids∧(decide (J1r x.kind<0)||decide (x.kids≤J1r x.kind))=true:=fun hf=>by
  rw[hfit] at hf
  simp only[Bool.and_eq_true,decide_eq_true_eq] at hf
  have:=J4a x.kind
  exact⟨by omega,hf.2⟩
 have main:fitN J09 x=true→∀ T',T'.get 0=v→T'.get 1=iv at_→T'.get 8=qP a 0→WK Tryz.prog call n (rt (rt J77)) ⟨T',h⟩ k:=by
  intro hf T' w0 w1 w8
  obtain⟨hk0,hkm⟩:=hkids hf
  have hkN:((x.kids.toNat:Nat):Int)=x.kids:=by omega
  have wat:IntKind.i64.wrap ((at_:Int)+1)=((at_+1:Nat):Int):=J0s (by omega) (by omega)
  show WK _ _ _ (.seq _ _) _ _
  simp only[evC,seval,↓evP,rpC,w0,w1,w8,ga,e1]
  have res:∀ (p:Nat) ok,J2r (fun k next=>rowN J09 l m next (J0A x.kind k)) x.kids.toNat 0 (at_+1)=(p,ok)→∀ T',T'.get 6=iv p→T'.get 7=.bool ok→k.ap Tryz.prog call n .ret ⟨T',h⟩:=fun p ok e T' h6 h7=>hk T' p ok (by rw[if_pos hf,e]) h6 h7
  generalize hg0:J2r (fun k next=>rowN J09 l m next (J0A x.kind k)) x.kids.toNat 0 (at_+1)=R at res
  refine WK.loop (fun i s=>s.h=h∧s.T.get 0=v∧s.T.get 8=qP a 0∧s.T.get 13=iv i∧∃ p:Nat,∃ ok:Bool,s.T.get 11=iv p∧s.T.get 12=.bool ok∧p≤l.length∧i≤l.length+1 ∧
   ((ok=true∧i≤x.kids.toNat∧at_+1+i≤p∧J2r (fun k next=>rowN J09 l m next (J0A x.kind k)) (x.kids.toNat-i) i p=R)∨(ok=false∧R=(p,false)))) (l.length+2) (by omega) ?_ ?_
  ·simp only[evC,↓reduceIte,Nat.reduceEqDiff,reduceCtorEq,↓evP,rpC,Nat.reduceAdd,Nat.reduceLT,w0,w8]
   exact⟨rfl,at_+1,true,wat,rfl,by omega,.inl ⟨rfl,by omega,by rw[Nat.sub_zero];exact hg0⟩⟩
  ·rintro i ⟨T1,h1⟩ hi ⟨rfl,y0,y8,y13,p,ok,y11,y12,hp,hil,hcase⟩
   simp only at y0 y8 y13 y11 y12
   rcases hcase with⟨rfl,hik,hpi,hR⟩ | ⟨rfl,hR⟩
   ·by_cases hlt:i<x.kids.toNat
    ·have c1:decide ((i:Int)<x.kids)=true:=by simp only[decide_eq_true_eq];omega
     have hask:=fun hh=>hc.asked x.kind i hh hkind (by
      simp only[Bool.or_eq_true,decide_eq_true_eq] at hkm
      rcases hkm with h | h
      ·left
       unfold J1r at h
       (repeat' split at h) <;> simp_all
      ·right;omega)
     have hrow:=fun hv' hg'=>hc.row p (J0A x.kind i) h1 (by omega) hp Jbu hv' hg' hn0 hfl
     have hrow':=hrow hv hg
     have w5:IntKind.i64.wrap ((i:Int)+1)=((i+1:Nat):Int):=J0s (by omega) (by omega)
     generalize hq:rowN J09 l m p (J0A x.kind i)=q at hrow'
     have hstep:J2r (fun k next=>rowN J09 l m next (J0A x.kind k)) (x.kids.toNat-i) i p=if q.2=true then J2r (fun k next=>rowN J09 l m next (J0A x.kind k)) (x.kids.toNat-(i+1)) (i+1) q.1 else (q.1,false):=by
      obtain⟨r,hr⟩:∃ r,x.kids.toNat-i=r+1:=⟨x.kids.toNat-i-1,by omega⟩
      rw[hr,show x.kids.toNat-(i+1)=r by omega]
      simp only[J2r,hq]
     have hq1:q.1≤l.length:=by rw[← hq];exact J6h m p _ hp
     have hq2:q.2=true→p<q.1:=fun h=>by
      have:=J5D (isName:=J09) (l:=l) m p (J0A x.kind i)
      rw[hq] at this
      exact(this h).1
     simp only[evC,seval,↓evP,rpC,y0,y8,y13,y11,y12,ga,c1,hask,hrow']
     refine⟨by omega,w5,q.1,q.2,rfl,rfl,hq1,by omega,?_⟩
     cases hb2:q.2 with
     | true=>
      left
      have:=hq2 hb2
      rw[hb2,if_pos rfl] at hstep
      exact⟨rfl,by omega,by omega,by rw[← hstep];exact hR⟩
     | false=>
      right
      rw[hb2,if_neg (by simp)] at hstep
      exact⟨rfl,by rw[← hR,hstep]⟩
    ·have c1:decide ((i:Int)<x.kids)=false:=by simp only[decide_eq_false_iff_not];omega
     have hie:x.kids.toNat-i=0:=by omega
     rw[hie] at hR
     simp only[evC,seval,↓evP,rpC,y0,y8,y13,y11,y12,ga,c1]
     refine res p true (by rw[← hR];rfl) _ ?_ ?_
     ·simp only[evC,seval,↓evP,rpC,y11]
     ·simp only[evC,seval,↓evP,rpC,y12]
   ·cases c1:decide ((i:Int)<x.kids) with
    | true=>
     simp only[evC,seval,↓evP,rpC,y0,y8,y13,y11,y12,ga,c1]
     refine res p false hR _ ?_ ?_
     ·simp only[evC,seval,↓evP,rpC,y11]
     ·simp only[evC,seval,↓evP,rpC,y12]
    | false=>
     simp only[evC,seval,↓evP,rpC,y0,y8,y13,y11,y12,ga,c1]
     refine res p false hR _ ?_ ?_
     ·simp only[evC,seval,↓evP,rpC,y11]
     ·simp only[evC,seval,↓evP,rpC,y12]
 show WK _ _ _ (.seq _ (rt (rt J77))) _ _
 cases cc with
 | false=>
  simp only[evC,seval,↓evP,rpC,e3,u0,u1,u8,u9,ga,gb]
  refine bad (by rw[hfit];rfl) _ ?_ ?_
  ·simp only[evC,seval,↓evP,rpC]
  ·simp only[evC,seval,↓evP,rpC]
 | true=>
  cases d1:decide (x.kids<J1U x.kind) with
  | true=>
   simp only[evC,seval,↓evP,rpC,e3,u0,u1,u8,u9,ga,gb,d1]
   refine bad (by rw[hfit,decide_eq_false (by simp only[decide_eq_true_eq] at d1;omega)];rfl) _ ?_ ?_
   ·simp only[evC,seval,↓evP,rpC]
   ·simp only[evC,seval,↓evP,rpC]
  | false=>
   have hl:decide (x.kids≥J1U x.kind)=true:=by simp only[decide_eq_false_iff_not] at d1;simp only[decide_eq_true_eq];omega
   cases d2:decide (J1r x.kind≥0) with
   | false=>
    have hm:decide (J1r x.kind<0)=true:=by simp only[decide_eq_false_iff_not] at d2;simp only[decide_eq_true_eq];omega
    simp only[evC,seval,↓evP,rpC,e3,u0,u1,u8,u9,ga,gb,d1,d2]
    refine main (by rw[hfit,hl,hm];rfl) _ ?_ ?_ ?_
    ·simp only[evC,seval,↓evP,rpC,u0]
    ·simp only[evC,seval,↓evP,rpC,u1]
    ·simp only[evC,seval,↓evP,rpC,u8]
   | true=>
    cases d3:decide (x.kids>J1r x.kind) with
    | true=>
     have hm:decide (J1r x.kind<0)=false:=by simp only[decide_eq_true_eq] at d2;simp only[decide_eq_false_iff_not];omega
     have hm2:decide (x.kids≤J1r x.kind)=false:=by simp only[decide_eq_true_eq] at d3;simp only[decide_eq_false_iff_not];omega
     simp only[evC,seval,↓evP,rpC,e3,u0,u1,u8,u9,ga,gb,d1,d2,d3]
     refine bad (by rw[hfit,hl,hm,hm2];rfl) _ ?_ ?_
     ·simp only[evC,seval,↓evP,rpC]
     ·simp only[evC,seval,↓evP,rpC]
    | false=>
     have hm2:decide (x.kids≤J1r x.kind)=true:=by simp only[decide_eq_false_iff_not] at d3;simp only[decide_eq_true_eq];omega
     simp only[evC,seval,↓evP,rpC,e3,u0,u1,u8,u9,ga,gb,d1,d2,d3]
     refine main (by rw[hfit,hl,hm2,Bool.or_true];rfl) _ ?_ ?_ ?_
     ·simp only[evC,seval,↓evP,rpC,u0]
     ·simp only[evC,seval,↓evP,rpC,u1]
     ·simp only[evC,seval,↓evP,rpC,u8]
end
theorem J93 {a b:Value} (ha:flat a=true) (hb:flat b=true):J3m (.tuple #[a,b])=true:=by simp[J3m,ha,hb]
theorem J5l {l:List RowN} {m at_:Nat} {what:Int} {x:RowN} (hx:l[at_]?=some x):rowN J09 l (m+1) at_ what=if (J1l what x.kind&&fitN J09 x)=true then J2r (fun k next=>rowN J09 l m next (J0A x.kind k)) x.kids.toNat 0 (at_+1) else (at_,false):=by
 rw[rowN,hx]
theorem J6M {l:List RowN} {m at_:Nat} {what:Int} (hx:l[at_]?=none):rowN J09 l (m+1) at_ what=(at_,false):=by
 rw[rowN,hx]
section
variable {call:J0r} {n:Nat}
theorem Jfm (hsn:J1G call) {l:List RowN} {v:Value} {m at_:Nat} {what:Int} {h:SHeap} (hc:Calls73 call l v m at_) (hn:l.length+3<n) (hlen:l.length<1099511627776) (hat:at_≤l.length) (hw:what≠8)
  (h89:∀ w k h,call 109 [iv w,iv k] h=some (.bool (J1l w k),h))
  (h90':∀ k h,1≤k∧k≤54→call 110 [iv k] h=some (.agg #[.bool (J3l k),.bool (endK k),.bool (k==27),iv (J1U k),iv (J1r k)],h))
  (h91:∀ s h',h'.get 0=J14→call 111 [.string s] h'=some (.bool (J09 s),h'))
  (hv:J0l h v l) (hg:h.get 0=J14) (hn0:0<h.next) (hfl:h.floor≤h.next) :
  ∃ h1,J0L Tryz.prog call n 70 [v,iv at_,iv what] h=some (.tuple #[iv ((rowN J09 l (m+1) at_ what).1:Int),.bool (rowN J09 l (m+1) at_ what).2],h1)∧∀ i,i<h.next→h1.get i=h.get i:=by
 refine J1N (R:=fun h1=>∀ i,i<h.next→h1.get i=h.get i) Tryz.func70 rfl (by simp[Tryz.f70]) ?_
 have hr:Tryz.f70.results.toList=[.tmp 6,.tmp 7]:=rfl
 have hl22:∀ h',lenS Tryz.prog h' 22 v=some (.int .i64 l.length):=fun h'=>hv.len
 cases hx:l[at_]? with
 | none=>
  rw[J6M hx]
  have hge:l.length≤at_:=List.getElem?_eq_none_iff.1 hx
  have c1:decide ((at_:Int)≥(l.length:Int))=true:=by simp only[decide_eq_true_eq];omega
  simp only[evC,seval,↓evP,rpC,hr,hl22,c1]
  exact fun i hi=>trivial
 | some x=>
  have hlt:at_<l.length:=(List.getElem?_eq_some_iff.1 hx).1
  have c1:decide ((at_:Int)≥(l.length:Int))=false:=by simp only[decide_eq_false_iff_not];omega
  obtain⟨id,p,e0,hid,l0,l1,l2,l3,l4,lr⟩:=hv.row hx
  rw[J5l hx]
  cases hs:J1l what x.kind with
  | false=>
   simp only[evC,seval,↓evP,rpC,hr,hl22,c1,e0,l0,h89,hs,Bool.false_and]
   exact fun i hi=>trivial
  | true=>
  have hkind:=J2H hs
  have h90:=fun h=>h90' x.kind h hkind
  have hidT:(id<h.next)=True:=by simpa using hid
  have hne1:(h.next=h.next+1)=False:=by simp
  have hne2:(h.next+1=h.next)=False:=by simp
  have hfl1:(h.floor≤h.next)=True:=by simpa using hfl
  have hfl2:(h.floor≤h.next+1)=True:=by simp;omega
  have hlt1:(h.next<h.next+1+1)=True:=by simp;omega
  have hlt2:(h.next+1<h.next+1+1)=True:=by simp
  simp only[Bool.true_and]
  simp only[evC,seval,↓evP,rpC,hr,hl22,c1,e0,l0,h89,hs]
  refine WK.flags (ops:=J9n) J8D ?_
  refine WKF.begin ?_
  refine wst hsn 0 (some 29) (.move (.tmp 0)) none ?_
  simp only[evC,seval,↓evP,rpC,WKFC,J04,J02,J0w,J0P,J0f,J0a,J0V,J0U,J0J,J1g,hr,e0,l0,lr,hidT,h90,hne1,hne2,hfl1,hfl2,hlt1,hlt2]
  refine wst hsn 1 (some 30) (.move (.tmp 1)) none ?_
  simp only[evC,seval,↓evP,rpC,WKFC,J04,J02,J0w,J0P,J0f,J0a,J0V,J0U,J0J,J1g,hr,e0,l0,lr,hidT,h90,hne1,hne2,hfl1,hfl2,hlt1,hlt2]
  refine wst hsn 2 (some 31) (.indexAddr 22 (.tmp 29) (.tmp 30)) none ?_
  simp only[evC,seval,↓evP,rpC,WKFC,J04,J02,J0w,J0P,J0f,J0a,J0V,J0U,J0J,J1g,hr,e0,l0,lr,hidT,h90,hne1,hne2,hfl1,hfl2,hlt1,hlt2]
  refine wst hsn 3 (some 32) (.load 60 (.tmp 31)) none ?_
  simp only[evC,seval,↓evP,rpC,WKFC,J04,J02,J0w,J0P,J0f,J0a,J0V,J0U,J0J,J1g,hr,e0,l0,lr,hidT,h90,hne1,hne2,hfl1,hfl2,hlt1,hlt2]
  refine wst hsn 4 (some 33) (.move (.tmp 0)) none ?_
  simp only[evC,seval,↓evP,rpC,WKFC,J04,J02,J0w,J0P,J0f,J0a,J0V,J0U,J0J,J1g,hr,e0,l0,lr,hidT,h90,hne1,hne2,hfl1,hfl2,hlt1,hlt2]
  refine wst hsn 5 (some 34) (.move (.tmp 1)) none ?_
  simp only[evC,seval,↓evP,rpC,WKFC,J04,J02,J0w,J0P,J0f,J0a,J0V,J0U,J0J,J1g,hr,e0,l0,lr,hidT,h90,hne1,hne2,hfl1,hfl2,hlt1,hlt2]
  refine wst hsn 6 (some 35) (.indexAddr 22 (.tmp 33) (.tmp 34)) none ?_
  simp only[evC,seval,↓evP,rpC,WKFC,J04,J02,J0w,J0P,J0f,J0a,J0V,J0U,J0J,J1g,hr,e0,l0,lr,hidT,h90,hne1,hne2,hfl1,hfl2,hlt1,hlt2]
  refine wst hsn 7 (some 36) (.fieldAddr 60 (.tmp 35) 0) none ?_
  simp only[evC,seval,↓evP,rpC,WKFC,J04,J02,J0w,J0P,J0f,J0a,J0V,J0U,J0J,J1g,hr,e0,l0,lr,hidT,h90,hne1,hne2,hfl1,hfl2,hlt1,hlt2]
  refine wst hsn 8 (some 37) (.load 3 (.tmp 36)) none ?_
  simp only[evC,seval,↓evP,rpC,WKFC,J04,J02,J0w,J0P,J0f,J0a,J0V,J0U,J0J,J1g,hr,e0,l0,lr,hidT,h90,hne1,hne2,hfl1,hfl2,hlt1,hlt2]
  refine wst hsn 9 (some 38) (.call { callee:=.value (.func 110),args:=#[.tmp 37],argTypes:=#[3] }) none ?_
  simp only[evC,seval,↓evP,rpC,WKFC,J04,J02,J0w,J0P,J0f,J0a,J0V,J0U,J0J,J1g,hr,e0,l0,lr,hidT,h90,hne1,hne2,hfl1,hfl2,hlt1,hlt2]
  refine wst hsn 10 (some 8) (.alloc 60) none ?_
  simp only[evC,seval,↓evP,rpC,WKFC,J04,J02,J0w,J0P,J0f,J0a,J0V,J0U,J0J,J1g,hr,e0,l0,lr,hidT,h90,hne1,hne2,hfl1,hfl2,hlt1,hlt2]
  refine wst hsn 11 (some 9) (.alloc 127) none ?_
  simp only[evC,seval,↓evP,rpC,WKFC,J04,J02,J0w,J0P,J0f,J0a,J0V,J0U,J0J,J1g,hr,e0,l0,lr,hidT,h90,hne1,hne2,hfl1,hfl2,hlt1,hlt2]
  refine wst hsn 12 (none) (.store 60 (.tmp 8) (.tmp 32)) none ?_
  simp only[evC,seval,↓evP,rpC,WKFC,J04,J02,J0w,J0P,J0f,J0a,J0V,J0U,J0J,J1g,hr,e0,l0,lr,hidT,h90,hne1,hne2,hfl1,hfl2,hlt1,hlt2]
  refine wst hsn 13 (none) (.store 127 (.tmp 9) (.tmp 38)) none ?_
  simp only[evC,seval,↓evP,rpC,WKFC,J04,J02,J0w,J0P,J0f,J0a,J0V,J0U,J0J,J1g,hr,e0,l0,lr,hidT,h90,hne1,hne2,hfl1,hfl2,hlt1,hlt2]
  refine WKF.done (i:=14) (by kernel_rfl) ?_
  rw[J7O]
  have hold:∀ i,i<h.next→((((h.push (.row zRc 60 false false)).push (.row [.bool false,.bool false,.bool false,.int .i64 0,.int .i64 0] 127 false false)).put h.next (.row [.int .i64 x.kind,.string x.name,.int .i64 x.ends,.int .i64 x.n,.int .i64 x.kids] 60 false false)).put (h.next+1)
    (.row [.bool (J3l x.kind),.bool (endK x.kind),.bool (x.kind==27),iv (J1U x.kind),iv (J1r x.kind)] 127 false false)).get i=h.get i:=fun i hi=>by
   rw[J6i,if_neg (by omega),J6i,if_neg (by omega),J29,if_neg (by rw[J1D];omega),J29,if_neg (by omega)]
  refine Jfc hsn hc hn hlen hlt (h91 x.name) (hv.mono (by simp only[J2T,J1D];omega) hold) (by rw[hold 0 hn0];exact hg) (by simp only[J2T,J1D];omega) (by simp only[J2T,J1D,J6Q,J0i];omega) hkind (Jba hw hs) (a:=h.next) (b:=h.next+1) (ga0:=false) (gb0:=false) ?_ ?_ ?_ ?_ ?_ ?_ (by simp only[J2T,J1D];omega) ?_
  ·simp only[evC,seval,↓evP,rpC]
  ·simp only[evC,seval,↓evP,rpC]
  ·simp only[evC,seval,↓evP,rpC]
  ·simp only[evC,seval,↓evP,rpC]
  ·simp only[evC,seval,↓evP,rpC,hne1,hlt1]
  ·simp only[evC,seval,↓evP,rpC,hlt2]
  ·intro T' q ok hq h6 h7
   simp only[evC,seval,↓evP,rpC,hr,h6,h7,← hq]
   intro i hi
   rw[if_neg (by omega),if_neg (by omega),if_neg (by omega),if_neg (by omega)]
end
theorem J7b (k:Int) (h:SHeap) (hk:1≤k∧k≤54):L1 110 [iv k] h=some (.agg #[.bool (J3l k),.bool (endK k),.bool (k==27),iv (J1U k),iv (J1r k)],h):=
 J1M (J0I rfl rfl rfl rfl (J1I J9K hk))
theorem Jf1 (k:Int):J1r k≤3:=by unfold J1r;(repeat' split) <;> omega
theorem Jg0 {call:J0r} {n:Nat} {h:SHeap} {j:Nat}:J0L Tryz.prog call n 113 [iv 11,iv j] h=some (iv (J0A 11 j),h):=by
 refine J1m Tryz.func113 rfl (by simp[Tryz.f113]) ?_
 have hr:Tryz.f113.results.toList=[.tmp 4]:=rfl
 simp only[evC,seval,↓evP,rpC,hr]
 rfl
theorem Jfj (k:Int) (j:Nat) (h:SHeap) (hk:1≤k∧k≤54) (hj:k=11∨(j:Int)<J1r k):L1 113 [iv k,iv j] h=some (iv (J0A k j),h):=by
 refine J1M (J0I rfl rfl rfl rfl ?_)
 rcases hj with rfl | hj
 ·exact⟨_,Jg0⟩
 ·have:=Jf1 k
  have h3:j=0∨j=1∨j=2:=by omega
  rcases h3 with rfl | rfl | rfl
  ·exact J1I Jbt hk
  ·exact J1I JbN hk
  ·have h15:k≠15:=by
    rintro rfl
    revert hj
    decide
   have:=J1I JbJ hk
   simp only[if_neg h15] at this
   exact this
theorem J5q {l:List RowN} {m:Nat} {x:RowN} (hx:l[0]?=some x):topN J09 l m=if (J1l 8 x.kind&&fitN J09 x)=true then polN J09 l m x.kids.toNat false 1 else (0,false):=by
 rw[topN,hx]
theorem J6T {l:List RowN} {m:Nat} (hx:l[0]?=none):topN J09 l m=(0,false):=by
 rw[topN,hx]
section
variable {call:J0r} {n:Nat}
theorem Je4 (hsn:J1G call) {l:List RowN} {v:Value} {m at_ a b:Nat} {x:RowN} {T:Tr} {h:SHeap} {k:Kont} {ga0 gb0:Bool} (h92:fitN J09 x=true→call 112 [v,iv at_] h=some (.tuple #[iv ((polN J09 l m x.kids.toNat false (at_+1)).1:Int),.bool (polN J09 l m x.kids.toNat false (at_+1)).2],h)) (hn:l.length+3<n) (hlen:l.length<1099511627776) (hat:at_<l.length)
  (h91:∀ h',h'.get 0=J14→call 111 [.string x.name] h'=some (.bool (J09 x.name),h'))
  (hv:J0l h v l) (hg:h.get 0=J14) (hn0:0<h.next) (hfl:h.floor≤h.next) (hkind:1≤x.kind∧x.kind≤54) (hk1:x.kind=1)
  (t0:T.get 0=v) (t1:T.get 1=iv at_) (t8:T.get 8=qP a 0) (t9:T.get 9=qP b 0)
  (ga:h.get a=.row [.int .i64 x.kind,.string x.name,.int .i64 x.ends,.int .i64 x.n,.int .i64 x.kids] 60 ga0 false)
  (gb:h.get b=.row [.bool (J3l x.kind),.bool (endK x.kind),.bool (x.kind==27),.int .i64 (J1U x.kind),.int .i64 (J1r x.kind)] 127 gb0 false) (hb:b<h.next)
  (hk:∀ T' (p:Nat) ok,(p,ok)=(if fitN J09 x=true then polN J09 l m x.kids.toNat false (at_+1) else (at_,false))→T'.get 6=iv p→T'.get 7=.bool ok→k.ap Tryz.prog call n .ret ⟨T',h⟩) :
  WK Tryz.prog call n J77 ⟨T,h⟩ k:=by
 show WK _ _ _ (.seq (.region _ _ true) _) _ _
 rw[J4p]
 refine WK.flags (ops:=J0M) J8v ?_
 refine WKF.begin ?_
 refine ph1 hsn t8 t9 ga gb (by simpa using hb) (fun h' e=>h91 h' (by rw[e];exact hg)) fun T1 e1 k1=>?_
 refine ph2 hsn (by rw[k1 8 (by decide)];exact t8) (by rw[k1 9 (by decide)];exact t9) ga gb (by simpa using hb) e1 fun T2 e2 k2=>?_
 refine ph3 hsn (by rw[k2 8 (by decide),k1 8 (by decide)];exact t8) (by rw[k2 9 (by decide),k1 9 (by decide)];exact t9) ga gb (by simpa using hb) e2 fun T3 e3 k3=>?_
 refine WKF.done (i:=49) (by kernel_rfl) ?_
 rw[J7O]
 have kp:∀ t:Nat,t<10→T3.get t=T.get t:=fun t ht=>by rw[k3 t ht,k2 t (by omega),k1 t (by omega)]
 have u0:=(kp 0 (by decide)).trans t0
 have u1:=(kp 1 (by decide)).trans t1
 have u8:=(kp 8 (by decide)).trans t8
 have u9:=(kp 9 (by decide)).trans t9
 clear k1 k2 k3 kp e1 e2
 generalize hcc:(((J09 x.name==J3l x.kind)&&(J3l x.kind||x.name==⟨#[]⟩))&&(x.ends==0||endK x.kind&&x.ends==1)&&(x.n==0||(x.kind==27)&&decide (x.n>0)&&decide (x.n≤1073741824)))=cc at e3
 have hfit:fitN J09 x=(cc&&decide (x.kids≥J1U x.kind)&&(decide (J1r x.kind<0)||decide (x.kids≤J1r x.kind))):=by
  rw[← hcc]
  rfl
 have bad:fitN J09 x=false→∀ T',T'.get 6=iv at_→T'.get 7=.bool false→k.ap Tryz.prog call n .ret ⟨T',h⟩:=fun hf T' h6 h7=>hk T' at_ false (by rw[hf];rfl) h6 h7
 have e1:(x.kind==1)=true:=by simpa using hk1
 have hkids:fitN J09 x=true→0≤x.kids∧(decide (J1r x.kind<0)||decide (x.kids≤J1r x.kind))=true:=fun hf=>by
  rw[hfit] at hf
  simp only[Bool.and_eq_true,decide_eq_true_eq] at hf
  have:=J4a x.kind
  exact⟨by omega,hf.2⟩
 have main:fitN J09 x=true→∀ T',T'.get 0=v→T'.get 1=iv at_→T'.get 8=qP a 0→WK Tryz.prog call n (rt (rt J77)) ⟨T',h⟩ k:=by
  intro hf T' w0 w1 w8
  have h92':=h92 hf
  show WK _ _ _ (.seq _ _) _ _
  simp only[evC,seval,↓evP,rpC,w0,w1,w8,ga,e1,h92']
  refine hk _ _ _ (by rw[if_pos hf]) ?_ ?_
  ·simp only[evC,seval,↓evP,rpC]
  ·simp only[evC,seval,↓evP,rpC]
 show WK _ _ _ (.seq _ (rt (rt J77))) _ _
 cases cc with
 | false=>
  simp only[evC,seval,↓evP,rpC,e3,u0,u1,u8,u9,ga,gb]
  refine bad (by rw[hfit];rfl) _ ?_ ?_
  ·simp only[evC,seval,↓evP,rpC]
  ·simp only[evC,seval,↓evP,rpC]
 | true=>
  cases d1:decide (x.kids<J1U x.kind) with
  | true=>
   simp only[evC,seval,↓evP,rpC,e3,u0,u1,u8,u9,ga,gb,d1]
   refine bad (by rw[hfit,decide_eq_false (by simp only[decide_eq_true_eq] at d1;omega)];rfl) _ ?_ ?_
   ·simp only[evC,seval,↓evP,rpC]
   ·simp only[evC,seval,↓evP,rpC]
  | false=>
   have hl:decide (x.kids≥J1U x.kind)=true:=by simp only[decide_eq_false_iff_not] at d1;simp only[decide_eq_true_eq];omega
   cases d2:decide (J1r x.kind≥0) with
   | false=>
    have hm:decide (J1r x.kind<0)=true:=by simp only[decide_eq_false_iff_not] at d2;simp only[decide_eq_true_eq];omega
    simp only[evC,seval,↓evP,rpC,e3,u0,u1,u8,u9,ga,gb,d1,d2]
    refine main (by rw[hfit,hl,hm];rfl) _ ?_ ?_ ?_
    ·simp only[evC,seval,↓evP,rpC,u0]
    ·simp only[evC,seval,↓evP,rpC,u1]
    ·simp only[evC,seval,↓evP,rpC,u8]
   | true=>
    cases d3:decide (x.kids>J1r x.kind) with
    | true=>
     have hm:decide (J1r x.kind<0)=false:=by simp only[decide_eq_true_eq] at d2;simp only[decide_eq_false_iff_not];omega
     have hm2:decide (x.kids≤J1r x.kind)=false:=by simp only[decide_eq_true_eq] at d3;simp only[decide_eq_false_iff_not];omega
     simp only[evC,seval,↓evP,rpC,e3,u0,u1,u8,u9,ga,gb,d1,d2,d3]
     refine bad (by rw[hfit,hl,hm,hm2];rfl) _ ?_ ?_
     ·simp only[evC,seval,↓evP,rpC]
     ·simp only[evC,seval,↓evP,rpC]
    | false=>
     have hm2:decide (x.kids≤J1r x.kind)=true:=by simp only[decide_eq_false_iff_not] at d3;simp only[decide_eq_true_eq];omega
     simp only[evC,seval,↓evP,rpC,e3,u0,u1,u8,u9,ga,gb,d1,d2,d3]
     refine main (by rw[hfit,hl,hm2,Bool.or_true];rfl) _ ?_ ?_ ?_
     ·simp only[evC,seval,↓evP,rpC,u0]
     ·simp only[evC,seval,↓evP,rpC,u1]
     ·simp only[evC,seval,↓evP,rpC,u8]
theorem Jcw (hsn:J1G call) {l:List RowN} {v:Value} {m:Nat} {h:SHeap} (h92:∀ x h,l[0]?=some x→fitN J09 x=true→x.kind=1→J0l h v l→h.get 0=J14→0<h.next→h.floor≤h.next→call 112 [v,iv 0] h=some (.tuple #[iv ((polN J09 l m x.kids.toNat false 1).1:Int),.bool (polN J09 l m x.kids.toNat false 1).2],h)) (hn:l.length+3<n) (hlen:l.length<1099511627776)
  (h89:∀ w k h,call 109 [iv w,iv k] h=some (.bool (J1l w k),h))
  (h90':∀ k h,1≤k∧k≤54→call 110 [iv k] h=some (.agg #[.bool (J3l k),.bool (endK k),.bool (k==27),iv (J1U k),iv (J1r k)],h))
  (h91:∀ s h',h'.get 0=J14→call 111 [.string s] h'=some (.bool (J09 s),h'))
  (hv:J0l h v l) (hg:h.get 0=J14) (hn0:0<h.next) (hfl:h.floor≤h.next) :
  ∃ h1,J0L Tryz.prog call n 70 [v,iv 0,iv 8] h=some (.tuple #[iv ((topN J09 l m).1:Int),.bool (topN J09 l m).2],h1)∧∀ i,i<h.next→h1.get i=h.get i:=by
 refine J1N (R:=fun h1=>∀ i,i<h.next→h1.get i=h.get i) Tryz.func70 rfl (by simp[Tryz.f70]) ?_
 have hr:Tryz.f70.results.toList=[.tmp 6,.tmp 7]:=rfl
 have hl22:∀ h',lenS Tryz.prog h' 22 v=some (.int .i64 l.length):=fun h'=>hv.len
 have e00:((0:Nat):Int)=0:=rfl
 cases hx:l[0]? with
 | none=>
  rw[J6T hx]
  have hge:l.length≤0:=List.getElem?_eq_none_iff.1 hx
  have c1:decide ((0:Int)≥(l.length:Int))=true:=by simp only[decide_eq_true_eq];omega
  simp only[evC,↓reduceIte,Nat.reduceEqDiff,reduceCtorEq,↓evP,rpC,Nat.reduceAdd,Nat.reduceLT,hr,hl22,c1]
  exact⟨rfl,fun i hi=>trivial⟩
 | some x=>
  have hlt:0<l.length:=(List.getElem?_eq_some_iff.1 hx).1
  have c1:decide ((0:Int)≥(l.length:Int))=false:=by simp only[decide_eq_false_iff_not];omega
  obtain⟨id,p,e0,hid,l0,l1,l2,l3,l4,lr⟩:=hv.row hx
  rw[J5q hx]
  rw[e00] at e0
  cases hs:J1l 8 x.kind with
  | false=>
   simp only[evC,↓reduceIte,Nat.reduceEqDiff,reduceCtorEq,↓evP,rpC,Nat.reduceAdd,Nat.reduceLT,hr,hl22,c1,e0,l0,h89,hs,Bool.false_and]
   exact⟨rfl,fun i hi=>trivial⟩
  | true=>
  have hkind:=J2H hs
  have hk1:x.kind=1:=by simpa [J1l] using hs
  have h90:=fun h=>h90' x.kind h hkind
  have hidT:(id<h.next)=True:=by simpa using hid
  have hne1:(h.next=h.next+1)=False:=by simp
  have hne2:(h.next+1=h.next)=False:=by simp
  have hfl1:(h.floor≤h.next)=True:=by simpa using hfl
  have hfl2:(h.floor≤h.next+1)=True:=by simp;omega
  have hlt1:(h.next<h.next+1+1)=True:=by simp;omega
  have hlt2:(h.next+1<h.next+1+1)=True:=by simp
  simp only[Bool.true_and]
  simp only[evC,seval,↓evP,rpC,hr,hl22,c1,e0,l0,h89,hs]
  refine WK.flags (ops:=J9n) J8D ?_
  refine WKF.begin ?_
  refine wst hsn 0 (some 29) (.move (.tmp 0)) none ?_
  simp only[evC,seval,↓evP,rpC,WKFC,J04,J02,J0w,J0P,J0f,J0a,J0V,J0U,J0J,J1g,hr,e0,l0,lr,hidT,h90,hne1,hne2,hfl1,hfl2,hlt1,hlt2]
  refine wst hsn 1 (some 30) (.move (.tmp 1)) none ?_
  simp only[evC,seval,↓evP,rpC,WKFC,J04,J02,J0w,J0P,J0f,J0a,J0V,J0U,J0J,J1g,hr,e0,l0,lr,hidT,h90,hne1,hne2,hfl1,hfl2,hlt1,hlt2]
  refine wst hsn 2 (some 31) (.indexAddr 22 (.tmp 29) (.tmp 30)) none ?_
  simp only[evC,seval,↓evP,rpC,WKFC,J04,J02,J0w,J0P,J0f,J0a,J0V,J0U,J0J,J1g,hr,e0,l0,lr,hidT,h90,hne1,hne2,hfl1,hfl2,hlt1,hlt2]
  refine wst hsn 3 (some 32) (.load 60 (.tmp 31)) none ?_
  simp only[evC,seval,↓evP,rpC,WKFC,J04,J02,J0w,J0P,J0f,J0a,J0V,J0U,J0J,J1g,hr,e0,l0,lr,hidT,h90,hne1,hne2,hfl1,hfl2,hlt1,hlt2]
  refine wst hsn 4 (some 33) (.move (.tmp 0)) none ?_
  simp only[evC,seval,↓evP,rpC,WKFC,J04,J02,J0w,J0P,J0f,J0a,J0V,J0U,J0J,J1g,hr,e0,l0,lr,hidT,h90,hne1,hne2,hfl1,hfl2,hlt1,hlt2]
  refine wst hsn 5 (some 34) (.move (.tmp 1)) none ?_
  simp only[evC,seval,↓evP,rpC,WKFC,J04,J02,J0w,J0P,J0f,J0a,J0V,J0U,J0J,J1g,hr,e0,l0,lr,hidT,h90,hne1,hne2,hfl1,hfl2,hlt1,hlt2]
  refine wst hsn 6 (some 35) (.indexAddr 22 (.tmp 33) (.tmp 34)) none ?_
  simp only[evC,seval,↓evP,rpC,WKFC,J04,J02,J0w,J0P,J0f,J0a,J0V,J0U,J0J,J1g,hr,e0,l0,lr,hidT,h90,hne1,hne2,hfl1,hfl2,hlt1,hlt2]
  refine wst hsn 7 (some 36) (.fieldAddr 60 (.tmp 35) 0) none ?_
  simp only[evC,seval,↓evP,rpC,WKFC,J04,J02,J0w,J0P,J0f,J0a,J0V,J0U,J0J,J1g,hr,e0,l0,lr,hidT,h90,hne1,hne2,hfl1,hfl2,hlt1,hlt2]
  refine wst hsn 8 (some 37) (.load 3 (.tmp 36)) none ?_
  simp only[evC,seval,↓evP,rpC,WKFC,J04,J02,J0w,J0P,J0f,J0a,J0V,J0U,J0J,J1g,hr,e0,l0,lr,hidT,h90,hne1,hne2,hfl1,hfl2,hlt1,hlt2]
  refine wst hsn 9 (some 38) (.call { callee:=.value (.func 110),args:=#[.tmp 37],argTypes:=#[3] }) none ?_
  simp only[evC,seval,↓evP,rpC,WKFC,J04,J02,J0w,J0P,J0f,J0a,J0V,J0U,J0J,J1g,hr,e0,l0,lr,hidT,h90,hne1,hne2,hfl1,hfl2,hlt1,hlt2]
  refine wst hsn 10 (some 8) (.alloc 60) none ?_
  simp only[evC,seval,↓evP,rpC,WKFC,J04,J02,J0w,J0P,J0f,J0a,J0V,J0U,J0J,J1g,hr,e0,l0,lr,hidT,h90,hne1,hne2,hfl1,hfl2,hlt1,hlt2]
  refine wst hsn 11 (some 9) (.alloc 127) none ?_
  simp only[evC,seval,↓evP,rpC,WKFC,J04,J02,J0w,J0P,J0f,J0a,J0V,J0U,J0J,J1g,hr,e0,l0,lr,hidT,h90,hne1,hne2,hfl1,hfl2,hlt1,hlt2]
  refine wst hsn 12 (none) (.store 60 (.tmp 8) (.tmp 32)) none ?_
  simp only[evC,seval,↓evP,rpC,WKFC,J04,J02,J0w,J0P,J0f,J0a,J0V,J0U,J0J,J1g,hr,e0,l0,lr,hidT,h90,hne1,hne2,hfl1,hfl2,hlt1,hlt2]
  refine wst hsn 13 (none) (.store 127 (.tmp 9) (.tmp 38)) none ?_
  simp only[evC,seval,↓evP,rpC,WKFC,J04,J02,J0w,J0P,J0f,J0a,J0V,J0U,J0J,J1g,hr,e0,l0,lr,hidT,h90,hne1,hne2,hfl1,hfl2,hlt1,hlt2]
  refine WKF.done (i:=14) (by kernel_rfl) ?_
  rw[J7O]
  have hold:∀ i,i<h.next→((((h.push (.row zRc 60 false false)).push (.row [.bool false,.bool false,.bool false,.int .i64 0,.int .i64 0] 127 false false)).put h.next (.row [.int .i64 x.kind,.string x.name,.int .i64 x.ends,.int .i64 x.n,.int .i64 x.kids] 60 false false)).put (h.next+1)
    (.row [.bool (J3l x.kind),.bool (endK x.kind),.bool (x.kind==27),iv (J1U x.kind),iv (J1r x.kind)] 127 false false)).get i=h.get i:=fun i hi=>by
   rw[J6i,if_neg (by omega),J6i,if_neg (by omega),J29,if_neg (by rw[J1D];omega),J29,if_neg (by omega)]
  refine Je4 hsn (m:=m) (at_:=0) (l:=l) (v:=v) (fun hf=>h92 x _ hx hf hk1 (hv.mono (by simp only[J2T,J1D];omega) hold) (by rw[hold 0 hn0];exact hg) (by simp only[J2T,J1D];omega) (by simp only[J2T,J1D,J6Q,J0i];omega)) hn hlen hlt (h91 x.name) (hv.mono (by simp only[J2T,J1D];omega) hold) (by rw[hold 0 hn0];exact hg) (by simp only[J2T,J1D];omega) (by simp only[J2T,J1D,J6Q,J0i];omega) hkind hk1 (a:=h.next) (b:=h.next+1) (ga0:=false) (gb0:=false) ?_ ?_ ?_ ?_ ?_ ?_ (by simp only[J2T,J1D];omega) ?_
  ·simp only[evC,seval,↓evP,rpC]
  ·simp only[evC,↓reduceIte,Nat.reduceEqDiff,reduceCtorEq,↓evP,rpC,Nat.reduceAdd,Nat.reduceLT]
   rfl
  ·simp only[evC,seval,↓evP,rpC]
  ·simp only[evC,seval,↓evP,rpC]
  ·simp only[evC,seval,↓evP,rpC,hne1,hlt1]
  ·simp only[evC,seval,↓evP,rpC,hlt2]
  ·intro T' q ok hq h6 h7
   simp only[evC,seval,↓evP,rpC,hr,h6,h7,← hq]
   intro i hi
   rw[if_neg (by omega),if_neg (by omega),if_neg (by omega),if_neg (by omega)]
def evI (ev:Bool):Int:=if ev=true then 1 else 0
theorem JeN {l:List RowN} {v:Value} {m:Nat} {x:RowN} {h:SHeap} (hx:l[0]?=some x) (hk0:0≤x.kids) (hn:l.length+3<n) (hlen:l.length<1099511627776) (hv:J0l h v l)
  (h89:∀ w k h,call 109 [iv w,iv k] h=some (.bool (J1l w k),h))
  (h73:∀ (p:Nat) (w:Int),0<p→p≤l.length→w≠8→call 70 [v,iv p,iv w] h=some (.tuple #[iv ((rowN J09 l m p w).1:Int),.bool (rowN J09 l m p w).2],h)) :
  J0L Tryz.prog call n 112 [v,iv 0] h=some (.tuple #[iv ((polN J09 l m x.kids.toNat false 1).1:Int),.bool (polN J09 l m x.kids.toNat false 1).2],h):=by
 refine J1m Tryz.func112 rfl (by simp[Tryz.f112]) ?_
 have hr:Tryz.f112.results.toList=[.tmp 4,.tmp 5]:=rfl
 have hl22:∀ h',lenS Tryz.prog h' 22 v=some (.int .i64 l.length):=fun h'=>hv.len
 have hlt0:0<l.length:=(List.getElem?_eq_some_iff.1 hx).1
 obtain⟨id,q,e0',hid,l0,l1,l2,l3,l4,lr⟩:=hv.row hx
 have e0:J0R Tryz.prog 22 v (.int .i64 0)=some (qP id q):=e0'
 have w1:IntKind.i64.wrap (0+1)=((1:Nat):Int):=rfl
 simp only[evC,↓reduceIte,Nat.reduceEqDiff,reduceCtorEq,↓evP,rpC,Nat.reduceAdd,Nat.reduceLT,hr,w1]
 generalize hg0:polN J09 l m x.kids.toNat false 1=R
 refine WK.loop (fun i s=>s.h=h∧s.T.get 0=v∧s.T.get 1=iv 0∧s.T.get 9=iv i∧∃ p:Nat,∃ ok ev:Bool,s.T.get 6=iv p∧s.T.get 7=.bool ok∧s.T.get 8=iv (evI ev)∧p≤l.length∧0<p∧i≤l.length+1 ∧
  ((ok=true∧i≤x.kids.toNat∧1+i≤p∧polN J09 l m (x.kids.toNat-i) ev p=R)∨(ok=false∧R=(p,false)))) (l.length+2) (by omega) ?_ ?_
 ·simp only[evC,↓reduceIte,Nat.reduceEqDiff,reduceCtorEq,↓evP,rpC,Nat.reduceAdd,Nat.reduceLT]
  exact⟨rfl,1,true,false,rfl,rfl,rfl,by omega,by omega,.inl ⟨rfl,by omega,by rw[Nat.sub_zero];exact hg0⟩⟩
 ·rintro i ⟨T1,h1⟩ hi ⟨rfl,y0,y1,y9,p,ok,ev,y6,y7,y8,hp,hp0,hil,hcase⟩
  simp only at y0 y1 y9 y6 y7 y8
  rcases hcase with⟨rfl,hik,hpi,hR⟩ | ⟨rfl,hR⟩
  ·by_cases hlt:i<x.kids.toNat
   ·have c1:decide ((i:Int)<x.kids)=true:=by simp only[decide_eq_true_eq];omega
    have w5:IntKind.i64.wrap ((i:Int)+1)=((i+1:Nat):Int):=J0s (by omega) (by omega)
    have hstep:polN J09 l m (x.kids.toNat-i) ev p=if (rowN J09 l m p (J3J ev l[p]?)).2=true then polN J09 l m (x.kids.toNat-(i+1)) (ev||isEv l[p]?) (rowN J09 l m p (J3J ev l[p]?)).1 else ((rowN J09 l m p (J3J ev l[p]?)).1,false):=by
     obtain⟨r,hr⟩:∃ r,x.kids.toNat-i=r+1:=⟨x.kids.toNat-i-1,by omega⟩
     rw[hr,show x.kids.toNat-(i+1)=r by omega]
     rfl
    have hdw:J3J ev l[p]?≠8:=by unfold J3J;split <;> decide
    have hrow:=h73 p (J3J ev l[p]?) hp0 hp hdw
    have hev':J3J ev l[p]?=evI (ev||isEv l[p]?):=by unfold J3J evI;cases ev <;> cases isEv l[p]? <;> rfl
    have fin:i<l.length+2∧∃ p1:Nat,∃ ok ev1:Bool,(((rowN J09 l m p (J3J ev l[p]?)).1:Nat):Int)=(p1:Int)∧Value.bool (rowN J09 l m p (J3J ev l[p]?)).2=.bool ok∧evI (ev||isEv l[p]?)=evI ev1∧p1≤l.length∧0<p1∧i+1≤l.length+1 ∧
       ((ok=true∧i+1≤x.kids.toNat∧1+(i+1)≤p1∧polN J09 l m (x.kids.toNat-(i+1)) ev1 p1=R)∨(ok=false∧R=(p1,false))):=by
     generalize hq:rowN J09 l m p (J3J ev l[p]?)=Q at *
     have hq1:Q.1≤l.length:=by rw[← hq];exact J6h m p _ hp
     have hq0:p≤Q.1:=by rw[← hq];exact J57 m p _
     have hq2:Q.2=true→p<Q.1:=fun h=>by
      have:=J5D (isName:=J09) (l:=l) m p (J3J ev l[p]?)
      rw[hq] at this
      exact(this h).1
     refine⟨by omega,Q.1,Q.2,(ev||isEv l[p]?),rfl,rfl,rfl,hq1,by omega,by omega,?_⟩
     cases hb2:Q.2 with
     | true=>
      left
      have:=hq2 hb2
      rw[hb2,if_pos rfl] at hstep
      exact⟨rfl,by omega,by omega,by rw[← hstep];exact hR⟩
     | false=>
      right
      rw[hb2,if_neg (by simp)] at hstep
      exact⟨rfl,by rw[← hR,hstep]⟩
    cases hxp:l[p]? with
    | none=>
     have hge:l.length≤p:=List.getElem?_eq_none_iff.1 hxp
     have c2:decide ((p:Int)<(l.length:Int))=false:=by simp only[decide_eq_false_iff_not];omega
     have hie:isEv (none:Option RowN)=false:=rfl
     rw[hxp] at hrow fin hev'
     rw[hie,Bool.or_false] at hev' fin
     rw[hev'] at hrow fin
     simp only[evC,↓reduceIte,Nat.reduceEqDiff,reduceCtorEq,↓evP,rpC,Nat.reduceAdd,Nat.reduceLT,y0,y1,y9,y6,y7,y8,e0,l4,c1,hl22,c2,hrow,w5]
     exact fin
    | some y=>
     have hlt2:p<l.length:=(List.getElem?_eq_some_iff.1 hxp).1
     have c2:decide ((p:Int)<(l.length:Int))=true:=by simp only[decide_eq_true_eq];omega
     obtain⟨id2,q2,f0,hid2,m0,m1,m2,m3,m4,mr⟩:=hv.row hxp
     have hie:isEv (some y)=J1l 1 y.kind:=rfl
     rw[hxp] at hrow fin hev'
     rw[hie] at hev' fin
     rw[hev'] at hrow fin
     cases hs:J1l 1 y.kind with
     | false=>
      rw[hs,Bool.or_false] at hrow fin
      simp only[evC,↓reduceIte,Nat.reduceEqDiff,reduceCtorEq,↓evP,rpC,Nat.reduceAdd,Nat.reduceLT,y0,y1,y9,y6,y7,y8,e0,l4,c1,hl22,c2,f0,m0,h89,hs,hrow,w5]
      exact fin
     | true=>
      have he1:evI true=1:=rfl
      rw[hs,Bool.or_true,he1] at hrow fin
      simp only[evC,↓reduceIte,Nat.reduceEqDiff,reduceCtorEq,↓evP,rpC,Nat.reduceAdd,Nat.reduceLT,y0,y1,y9,y6,y7,y8,e0,l4,c1,hl22,c2,f0,m0,h89,hs,hrow,w5]
      exact fin
   ·have c1:decide ((i:Int)<x.kids)=false:=by simp only[decide_eq_false_iff_not];omega
    have hie:x.kids.toNat-i=0:=by omega
    rw[hie] at hR
    have hR':R=(p,true):=by rw[← hR];rfl
    simp only[evC,seval,↓evP,rpC,hr,y0,y1,y9,y6,y7,y8,e0,l4,c1,hR']
  ·cases c1:decide ((i:Int)<x.kids) <;> simp only[evC,seval,↓evP,rpC,hr,y0,y1,y9,y6,y7,y8,e0,l4,c1,hR]
end
end Go.Proofs.YtdejoodfeljmkaaGreatDoor
