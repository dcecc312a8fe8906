/- Part 9 of what the claim leans on: 7 texts laid one behind another. -/
import Derived.Test.YtdejoodfeljmkaaGreatDoorTC8
import Derived.Laws.Bits64b
import Derived.Lib.Mul64
import Derived.Test.YtdejoodfeljmkaaGreatDoorProg
namespace Go.Sx
open Go
set_option linter.unusedSimpArgs false
set_option linter.unusedVariables false
set_option maxHeartbeats 64000000
inductive Kont where
 | top (Q:SExit→St→Prop)
 | seq (b:Code) (k:Kont)
 | block (id:Nat) (k:Kont)
 | inv (J:St→Prop) (k:Kont)
def Kont.ap (P:Program) (call:J0r) (n:Nat):Kont→SExit→St→Prop
 | .top Q,e,s=>Q e s
 | .seq b k,.normal,s=>WS P call n b s (k.ap P call n)
 | .seq _ k,e,s=>k.ap P call n e s
 | .block id k,.exit i,s=>if i=id then k.ap P call n .normal s else k.ap P call n (.exit i) s
 | .block _ k,e,s=>k.ap P call n e s
 | .inv J _,.normal,s=>J s
 | .inv _ k,e,s=>k.ap P call n e s
def WK (P:Program) (call:J0r) (n:Nat) (c:Code) (s:St) (k:Kont):Prop:=WS P call n c s (k.ap P call n)
def WKL (P:Program) (call:J0r) (n:Nat) (ops:Array Oper) (l:List Oper) (s:St) (k:Kont):Prop:=WL P call ops l s (k.ap P call n .normal)
def WKR (P:Program) (call:J0r) (n:Nat) (ops:Array Oper) (l:List Oper) (dst:Option Tmp) (T:Tr) (k:Kont):Option (Value × SHeap)→Prop
 | some (v,h)=>WKL P call n ops l ⟨T.put dst v,h⟩ k
 | none=>False
def WKO (P:Program) (call:J0r) (n:Nat) (ops:Array Oper) (l:List Oper) (dst:Option Tmp) (T:Tr) (h:SHeap) (k:Kont):Option Value→Prop
 | some v=>WKL P call n ops l ⟨T.put dst v,h⟩ k
 | none=>False
def WKC (P:Program) (call:J0r) (n:Nat) (a b:Code) (s:St) (k:Kont):Value→Prop
 | .bool t=>(t=true→WK P call n a s k)∧(t=false→WK P call n b s k)
 | _=>False
section
variable {P:Program} {call:J0r} {n:Nat} {s:St} {k:Kont} {Q:SExit→St→Prop}
theorem JjU {e:SExit}:(Kont.top Q).ap P call n e s=Q e s:=rfl
theorem J7O {b:Code}:(Kont.seq b k).ap P call n .normal s=WK P call n b s k:=rfl
theorem JjF {b:Code} {i:Nat}:(Kont.seq b k).ap P call n (.exit i) s=k.ap P call n (.exit i) s:=rfl
theorem JjR {b:Code}:(Kont.seq b k).ap P call n .ret s=k.ap P call n .ret s:=rfl
theorem JjJ {id:Nat}:(Kont.block id k).ap P call n .normal s=k.ap P call n .normal s:=rfl
theorem Jj4 {id i:Nat}:(Kont.block id k).ap P call n (.exit i) s=if i=id then k.ap P call n .normal s else k.ap P call n (.exit i) s:=rfl
theorem Jjb {id:Nat}:(Kont.block id k).ap P call n .ret s=k.ap P call n .ret s:=rfl
theorem Jjm {J:St→Prop}:(Kont.inv J k).ap P call n .normal s=J s:=rfl
theorem Jjw {J:St→Prop} {i:Nat}:(Kont.inv J k).ap P call n (.exit i) s=k.ap P call n (.exit i) s:=rfl
theorem JjG {J:St→Prop}:(Kont.inv J k).ap P call n .ret s=k.ap P call n .ret s:=rfl
theorem JjQ:WK P call n .skip s k=k.ap P call n .normal s:=by
 apply propext;simp only[WK,WS,J1e,Option.some.injEq,Prod.mk.injEq]
 exact⟨fun ⟨_,_,⟨rfl,rfl⟩,h⟩=>h,fun h=>⟨_,_,⟨rfl,rfl⟩,h⟩⟩
theorem JiY {id:Nat}:WK P call n (.exit id) s k=k.ap P call n (.exit id) s:=by
 apply propext;simp only[WK,WS,J1e,Option.some.injEq,Prod.mk.injEq]
 exact⟨fun ⟨_,_,⟨rfl,rfl⟩,h⟩=>h,fun h=>⟨_,_,⟨rfl,rfl⟩,h⟩⟩
theorem JjV:WK P call n .ret s k=k.ap P call n .ret s:=by
 apply propext;simp only[WK,WS,J1e,Option.some.injEq,Prod.mk.injEq]
 exact⟨fun ⟨_,_,⟨rfl,rfl⟩,h⟩=>h,fun h=>⟨_,_,⟨rfl,rfl⟩,h⟩⟩
theorem J4p {a b:Code}:WK P call n (.seq a b) s k=WK P call n a s (.seq b k):=by
 apply propext
 constructor
 ·rintro ⟨e,s',h1,h2⟩
  simp only[J1e] at h1
  split at h1
  ·rename_i s1 h3
   exact⟨_,_,h3,_,_,h1,h2⟩
  ·rename_i hne
   refine⟨_,_,h1,?_⟩
   cases e with
   | normal=>exact absurd h1 (hne _)
   | exit id=>exact h2
   | ret=>exact h2
 ·rintro ⟨e,s',h1,h2⟩
  cases e with
  | normal=>
   obtain⟨e2,s2,h3,h4⟩:=h2
   exact⟨e2,s2,by simp only[J1e,h1,h3],h4⟩
  | exit id=>exact⟨_,_,by simp only[J1e,h1],h2⟩
  | ret=>exact⟨_,_,by simp only[J1e,h1],h2⟩
theorem Jaj {id:Nat} {c:Code}:WK P call n (.block id c) s k=WK P call n c s (.block id k):=by
 apply propext
 constructor
 ·rintro ⟨e,s',h1,h2⟩
  simp only[J1e] at h1
  split at h1
  ·rename_i i s1 h3
   refine⟨_,_,h3,?_⟩
   unfold Kont.ap
   split at h1 <;> (cases h1;simp_all)
  ·rename_i hne
   refine⟨_,_,h1,?_⟩
   cases e with
   | normal=>exact h2
   | exit id=>exact absurd h1 (hne _ _)
   | ret=>exact h2
 ·rintro ⟨e,s',h1,h2⟩
  cases e with
  | normal=>exact⟨_,_,by simp only[J1e,h1],h2⟩
  | exit i=>
   by_cases hi:i=id
   ·subst hi
    exact⟨.normal,s',by simp only[J1e,h1,if_true],by simpa [Kont.ap] using h2⟩
   ·exact⟨.exit i,s',by simp only[J1e,h1,hi,if_false],by simpa [Kont.ap,hi] using h2⟩
  | ret=>exact⟨_,_,by simp only[J1e,h1],h2⟩
theorem JiZ {c:Operand} {a b:Code}:WK P call n (.cond c a b) s k=WKC P call n a b s k (ev s.T c):=by
 apply propext
 constructor
 ·rintro ⟨e,s',h1,h2⟩
  simp only[J1e] at h1
  split at h1
  ·rename_i he;rw[he];exact⟨fun _=>⟨_,_,h1,h2⟩,fun h=>(by cases h)⟩
  ·rename_i he;rw[he];exact⟨fun h=>(by cases h),fun _=>⟨_,_,h1,h2⟩⟩
  ·cases h1
 ·intro h
  cases he:ev s.T c with
  | bool t=>rw[he] at h;exact .cond he h.1 h.2
  | _=>rw[he] at h;exact h.elim
theorem JiQ {a b:Code} {t:Bool}:WKC P call n a b s k (.bool t)=((t=true→WK P call n a s k)∧(t=false→WK P call n b s k)):=rfl
theorem JhM {id:Nat} {ops:Array Oper}:WK P call n (.region id ops false) s k=WKL P call n ops ops.toList s k:=by
 apply propext
 refine⟨fun ⟨e,s',h1,h2⟩=>?_,.region⟩
 simp only[J1e,Bool.false_eq_true,if_false] at h1
 cases hs:seqS P call ops ops.toList s with
 | none=>rw[hs] at h1;cases h1
 | some s1=>rw[hs] at h1;cases h1;exact⟨_,hs,h2⟩
theorem Jj8 {ops:Array Oper}:WKL P call n ops [] s k=k.ap P call n .normal s:=by
 simp[WKL,WL,seqS]
theorem JiI {ops:Array Oper} {o:Oper} {l:List Oper}:WKL P call n ops (o :: l) s k=if J27 ops s.T o then WKR P call n ops l o.dst s.T k (sop P call s.T s.h o.op) else WKL P call n ops l ⟨s.T.put o.dst undef,s.h⟩ k:=by
 apply propext
 constructor
 ·rintro ⟨s',h1,h2⟩
  simp only[seqS,J2P] at h1
  by_cases hw:J27 ops s.T o=true
  ·rw[if_pos hw] at h1 ⊢
   cases hs:sop P call s.T s.h o.op with
   | none=>rw[hs] at h1;cases h1
   | some r=>
    obtain⟨v,h'⟩:=r
    rw[hs] at h1
    exact⟨s',h1,h2⟩
  ·rw[if_neg hw] at h1 ⊢
   exact⟨s',h1,h2⟩
 ·intro h
  by_cases hw:J27 ops s.T o=true
  ·rw[if_pos hw] at h
   cases hs:sop P call s.T s.h o.op with
   | none=>rw[hs] at h;exact h.elim
   | some r=>
    obtain⟨v,h'⟩:=r
    rw[hs] at h
    exact .step hw hs h
  ·rw[if_neg hw] at h
   exact .pass (by simpa using hw) h
section
variable {ops:Array Oper} {l:List Oper} {dst:Option Tmp} {T:Tr} {h:SHeap} {v:Value}
theorem JiA:WKR P call n ops l dst T k (some (v,h))=WKL P call n ops l ⟨T.put dst v,h⟩ k:=rfl
theorem JjC {r:Option Value}:WKR P call n ops l dst T k (r.map (·,h))=WKO P call n ops l dst T h k r:=by cases r <;> rfl
theorem JiJ:WKO P call n ops l dst T h k (some v)=WKL P call n ops l ⟨T.put dst v,h⟩ k:=rfl
theorem WKR.of {r:Option (Value × SHeap)} {h':SHeap} (hr:r=some (v,h')) (hk:WKL P call n ops l ⟨T.put dst v,h'⟩ k):WKR P call n ops l dst T k r:=by rw[hr];exact hk
theorem WKO.of {r:Option Value} (hr:r=some v) (hk:WKL P call n ops l ⟨T.put dst v,h⟩ k):WKO P call n ops l dst T h k r:=by rw[hr];exact hk
end
theorem WK.loop {c:Code} (I:Nat→St→Prop) (N:Nat) (hN:N<n) (h0:I 0 s)
  (hr:∀ i s,i≤N→I i s→WK P call n c s (.inv (fun s'=>i<N∧I (i+1) s') k)):WK P call n (.loop c) s k:=
 WS.loop I N hN h0 fun i s hi hI=>(hr i s hi hI).mono fun e s' he=>by cases e <;> exact he
theorem J0H (t:Nat):Tr.leaf.get t=undef:=rfl
theorem Ji3 {ops:Array Oper} {T:Tr} {o:Oper} (h:o.guard=none):J27 ops T o=true:=by simp[J27,h]
theorem JjT {T:Tr} {t:Nat}:ev T (.tmp t)=T.get t:=rfl
theorem JiD {T:Tr} {v:Value}:ev T (.const v)=v:=rfl
theorem JdT {T:Tr} {g:Nat}:ev T (.global g)=.pointer (some ⟨g,0,none⟩):=rfl
theorem JjK {T:Tr} {f:Nat}:ev T (.func f)=.func (.func f) #[] #[]:=rfl
end
theorem max2 {k:IntKind} {x y:Int}:maxS [.int k x,.int k y]=some (.int k (if y>x then y else x)):=rfl
theorem min2 {k:IntKind} {x y:Int}:minS [.int k x,.int k y]=some (.int k (if y<x then y else x)):=rfl
def J8u:Value→Bool→Bool
 | .bool b,w=>b==w
 | _,_=>false
noncomputable def JfV:Option Tmp→Tr→Bool→Bool
 | some d,T,w=>J8u (T.get d) w
 | none,_,_=>false
theorem JhS {ops:Array Oper} {T:Tr} {dst:Option Tmp} {op:Op} {type:TypeId} {pos:String} {after:Array Edge} {j:Nat} {w:Bool}:J27 ops T ⟨dst,op,type,pos,after,some (j,w)⟩=JfV ((ops[j]?).bind (·.dst)) T w:=by
 simp only[J27]
 cases (ops[j]?).bind (·.dst) with
 | none=>rfl
 | some d=>simp only[JfV];cases T.get d <;> rfl
theorem Jhd {d:Tmp} {T:Tr} {w:Bool}:JfV (some d) T w=J8u (T.get d) w:=rfl
theorem Jg5 {w:Bool}:J8u undef w=false:=by cases w <;> rfl
theorem Jhh {b:Bool}:J8u (.bool b) true=b:=by simp[J8u]
theorem Jgg {b:Bool}:J8u (.bool b) false = !b:=by simp[J8u]
theorem J1m {P:Program} {call:J0r} {n:Nat} {f:FuncId} {args:List Value} {h h':SHeap} {fn:Func} {c:Code} {V:Value} (hf:P.funcs[f]?=some fn) (hb:fn.body=some c) (hl:args.length≤fn.ntmps)
  (hw:WK P call n c ⟨J00 0 args .leaf,h⟩ (.top fun e s=>(e=.normal∨e=.ret)∧∃ vs,resS P s fn.results.toList=some vs∧resV vs=V∧s.h=h')):J0L P call n f args h=some (V,h'):=by
 obtain⟨v,h1,h2,rfl,rfl⟩:=J6D (R:=fun u h''=>u=V∧h''=h') hf hb hl hw
 exact h2
theorem J1N {P:Program} {call:J0r} {n:Nat} {f:FuncId} {args:List Value} {h:SHeap} {fn:Func} {c:Code} {V:Value} {R:SHeap→Prop} (hf:P.funcs[f]?=some fn) (hb:fn.body=some c) (hl:args.length≤fn.ntmps)
  (hw:WK P call n c ⟨J00 0 args .leaf,h⟩ (.top fun e s=>(e=.normal∨e=.ret)∧∃ vs,resS P s fn.results.toList=some vs∧resV vs=V∧R s.h)):∃ h',J0L P call n f args h=some (V,h')∧R h':=by
 obtain⟨v,h1,h2,rfl,h3⟩:=J6D (R:=fun u h''=>u=V∧R h'') hf hb hl hw
 exact⟨h1,h2,h3⟩
def JfO (P:Program) (ops:Array Oper):Bool:=(List.range ops.size).all fun k=>match ops[k]? with
 | none=>true
 | some o=>match J04 o.op with
  | .read _=>!J2p ops k
  | .act=>!J2S ops k
  | .store=>(J1H ops k).isEmpty
  | .new=>true
  | .pure=>match o.op with
   | .call c=>(match c.argTypes.toList with | [t]=>(match P.underlying t with | some (.map _ _)=>false | some (.array _ _)=>false | _=>true) | _=>true)
   | _=>true
theorem Jc3 {P:Program} {call:J0r} {ops:Array Oper} (hq:JfO P ops=true) {start i:Nat} {o:Oper} (ho:ops[i]?=some o) {s s':St} (h:J2P P call ops o s=some s'):J7X P call ops start i o s=some s':=by
 have hlt:i<ops.size:=(Array.getElem?_eq_some_iff.1 ho).1
 have hk:=List.all_eq_true.1 hq i (List.mem_range.2 hlt)
 simp only[ho] at hk
 unfold J7X
 by_cases hw:J27 ops s.T o=true
 ·rw [if_pos hw]
  cases hc:J04 o.op with
  | read a=>
   rw[hc] at hk
   simp only[Bool.not_eq_true'] at hk
   simp[hk,h]
  | act=>
   rw[hc] at hk
   simp only[Bool.not_eq_true'] at hk
   simp[hk,h]
  | new=>exact h
  | store=>
   rw[hc] at hk
   simp only[List.isEmpty_iff] at hk
   simp only[hk,List.all_nil,if_true]
   split
   ·exact h
   ·exact h
   ·exact h
   ·rename_i h1 h1' h2
    cases hop:o.op with
    | store t a x=>exact absurd hop (h1 t a x)
    | mapUpdate t a k x=>exact absurd hop (h2 t a k x)
    | insert t a k x=>exact absurd hop (h1' t a k x)
    | call c=>
     rw[hop] at hc
     simp only[J04] at hc
     split at hc <;> cases hc
    | _=>rw[hop] at hc;simp[J04] at hc
  | pure=>
   rw[hc] at hk
   simp only at hk ⊢
   cases hop:o.op with
   | call c=>
    simp only[hop] at hk ⊢
    split
    ·rename_i r hargs
     exfalso
     obtain⟨v,h',hs,_⟩:=J2m hw h
     rw[hop] at hs hc
     simp only[J04] at hc
     simp only[sop,J01,evs,hargs] at hs
     split at hs
     ·split at hs
      ·rename_i t x h1 h2
       cases h2
       simp only[h1] at hk
       simp only[lenS] at hs
       split at hk
       ·cases hk
       ·cases hk
       ·rename_i hne1 hne2
        cases hu:P.underlying t with
        | none=>simp[hu] at hs
        | some d=>cases d <;> (first | (simp[hu] at hs;done) | (exact hne1 _ _ hu) | (exact hne2 _ _ hu))
      ·cases hs
     all_goals first | (simp[maxS,minS] at hs;done) | (simp_all;done)
    ·exact h
   | _=>exact h
 ·rw[if_neg hw]
  unfold J2P at h
  rw[if_neg hw] at h
  exact h
theorem WK.quiet {P:Program} {call:J0r} {n id:Nat} {ops:Array Oper} {s:St} {k:Kont} (hq:JfO P ops=true) (h:WKL P call n ops ops.toList s k):WK P call n (.region id ops true) s k:=by
 obtain⟨s',h1,h2⟩:=h
 have key:∀ (l:List Oper) (i:Nat) (s:St),(∀ k,l[k]?=ops[i+k]?)→seqS P call ops l s=some s'→∀ start,seqD P call ops start i l s=some s':=by
  intro l
  induction l with
  | nil=>intro i s _ h start;exact h
  | cons o l ih=>
   intro i s hl h start
   simp only[seqS] at h
   split at h
   ·rename_i s1 h3
    have ho:ops[i]?=some o:=by simpa using (hl 0).symm
    simp only[seqD,Jc3 hq ho h3]
    exact ih (i+1) s1 (fun k=>by have:=hl (k+1);simpa [Nat.add_assoc,Nat.add_comm 1 k] using this) h start
   ·cases h
 exact .draw ⟨s',key _ 0 s (by simp) h1 _,h2⟩
theorem J0s {x:Int} (h1:-9223372036854775808≤x) (h2:x<9223372036854775808):IntKind.i64.wrap x=x:=by
 simp[IntKind.wrap,IntKind.bits,IntKind.signed]
 omega
theorem Jk4 {p q:Prop}:((true=true→p)∧(true=false→q))=p:=by
 apply propext;exact⟨fun h=>h.1 rfl,fun h=>⟨fun _=>h,fun h=>(by cases h)⟩⟩
theorem Jk3 {p q:Prop}:((false=true→p)∧(false=false→q))=q:=by
 apply propext;exact⟨fun h=>h.2 rfl,fun h=>⟨fun h=>(by cases h),fun _=>h⟩⟩
theorem J2F {b:Bool}:flat (.bool b)=true:=rfl
theorem Jad {k:IntKind} {x:Int}:flat (.int k x)=true:=rfl
theorem JiR {P:Program} {b:Bool}:J0k P (Op.unary .not (.bool b))=some (.bool !b):=rfl
theorem JiH {P:Program} {k:IntKind} {x:Int}:J0k P (Op.unary .neg (.int k x))=some (.int k (k.wrap (0-x))):=rfl
theorem J0c {P:Program} {α β:Type} (m:Sem α) (f:α→Sem β):J0k P (m >>= f)=(J0k P m).bind fun a=>J0k P (f a):=by
 induction m with
 | pure a=>rfl
 | program k ih=>exact ih P
 | mark x k ih=>exact ih
 | _=>rfl
theorem J1R {P:Program} {t:TypeId} {d:TypeDesc} (h:P.underlying t=some d):J0k P (underlying t)=some d:=by
 show J0k P (Sem.bind program _)=_
 simp[program,Sem.bind,J0k,h,Pure.pure]
theorem JaV {P:Program} {t:TypeId} {a b:Bool} (h:P.underlying t=some .bool):J0k P (Op.equal t (.bool a) (.bool b))=some (a==b):=by
 have key:∀ d,J0k P (Op.equalIn (d+1) t (.bool a) (.bool b))=some (a==b):=by
  intro d
  rw[Op.equalIn,J0c,J1R h]
  rfl
 exact key 9999
theorem Jga {P:Program} {t:TypeId} {x y:Operand} {a b:Bool} (h:P.underlying t=some .bool):binS P .eql t x y (.bool a) (.bool b)=some (.bool (a==b)):=by
 have e:J0k P (do eqGuard .eql t x y (.bool a) (.bool b);binOp .eql t (.bool a) (.bool b))=some (.bool (a==b)):=by
  show J0k P ((do pure (.bool (← Op.equal t (.bool a) (.bool b)))):Sem Value)=_
  rw[J0c,JaV h]
  rfl
 simp only[binS,J2F,Bool.and_self,if_true,e]
theorem Jf7 {P:Program} {t:TypeId} {x y:Operand} {a b:Bool} (h:P.underlying t=some .bool):binS P .neq t x y (.bool a) (.bool b)=some (.bool (a != b)):=by
 have e:J0k P (do eqGuard .neq t x y (.bool a) (.bool b);binOp .neq t (.bool a) (.bool b))=some (.bool (a != b)):=by
  show J0k P ((do pure (.bool (!(← Op.equal t (.bool a) (.bool b))))):Sem Value)=_
  rw[J0c,JaV h]
  rfl
 simp only[binS,J2F,Bool.and_self,if_true,e]
def Jao (h:SHeap) (v:Value) (l:List Int):Prop:=∃ a c,v=.slice a l.length c∧(∀ b,a=some b→b.spot=none)∧∀ k x,l[k]?=some x→∃ id off cs ty g ro,a=some ⟨id,off,none⟩∧h.get id=.row cs ty g ro∧cs[off+k]?=some (.int .i64 x)
section
variable {P:Program} {h:SHeap} {v:Value} {l:List Int} {t e:TypeId}
theorem Jao.len (hv:Jao h v l) (ht:P.underlying t=some (.slice e)):lenS P h t v=some (.int .i64 l.length):=by
 obtain⟨a,c,rfl,_,_⟩:=hv
 simp[lenS,ht]
theorem Jao.idx (hv:Jao h v l) (ht:P.underlying t=some (.slice e)) (he:szOf P e=some 1) (ha:J2X P e=some false) {k:Nat} {x:Int} (hk:l[k]?=some x) {kd:IntKind} :
  ∃ p,J0R P t v (.int kd k)=some p∧J2x P h e p=some (.int .i64 x):=by
 obtain⟨a,c,rfl,_,hall⟩:=hv
 obtain⟨id,off,cs,ty,g,ro,rfl,hg,hc⟩:=hall k x hk
 have hlt:k<l.length:=(List.getElem?_eq_some_iff.1 hk).1
 refine⟨.pointer (some ⟨id,off+k,none⟩),?_,?_⟩
 ·simp[J0R,ht,he,hlt,Addr.add]
 ·simp[J2x,hg,ha,hc]
end
def J1E (ops:Array Oper):List (Bool × Bool × List Operand):=(List.range ops.size).map fun k=>(J2p ops k,J2S ops k,J1H ops k)
noncomputable def J02 (op:Op) (T:Tr):Bool:=match op with
 | .call c=>(match c.args.toList.map (ev T) with | [.map _]=>false | _=>true)
 | _=>true
def J17:Op→Operand
 | .store _ a _=>a
 | .mapUpdate _ m _ _=>m
 | .insert _ m _ _=>m
 | _=>.const undef
section
variable (P:Program) (call:J0r) (n:Nat) (ops:Array Oper) (start:Nat)
noncomputable def J6A (f:Bool × Bool × List Operand) (o:Oper) (s:St):Option St:=
 if J27 ops s.T o then match J04 o.op with
  | .read a=>if f.1 && !ahead start (idOf (ev s.T a)) then none else J2P P call ops o s
  | .act=>if f.2.1 then match J2P P call ops o ⟨s.T,s.h.fl (max s.h.floor start)⟩ with
    | some s'=>some ⟨s'.T,s'.h.fl s.h.floor⟩
    | none=>none
   else J2P P call ops o s
  | .store=>if f.2.2.all (fun x=>idOf (ev s.T x) != idOf (ev s.T (J17 o.op))) then J2P P call ops o s else none
  | .pure=>if J02 o.op s.T then J2P P call ops o s else none
  | .new=>J2P P call ops o s
 else some ⟨s.T.put o.dst undef,s.h⟩
theorem Jg4 {i:Nat} {o:Oper} {s s':St} (h:J6A P call ops start (J2p ops i,J2S ops i,J1H ops i) o s=some s'):J7X P call ops start i o s=some s':=by
 unfold J6A at h
 unfold J7X
 by_cases hw:J27 ops s.T o=true
 ·rw [if_pos hw] at h ⊢
  cases hc:J04 o.op with
  | read a=>rw[hc] at h;exact h
  | act=>rw[hc] at h;exact h
  | new=>rw[hc] at h;exact h
  | store=>
   rw[hc] at h
   cases hop:o.op with
   | store t a x=>rw[hop] at h;exact h
   | mapUpdate t a k x=>rw[hop] at h;exact h
   | insert t a k x=>rw[hop] at h;exact h
   | call c=>
    rw[hop] at hc
    simp only[J04] at hc
    split at hc <;> cases hc
   | _=>rw[hop] at hc;simp[J04] at hc
  | pure=>
   rw[hc] at h
   simp only at h ⊢
   cases hop:o.op with
   | call c=>
    simp only[hop,J02] at h ⊢
    split
    ·rename_i r hr
     rw[hr] at h
     simp at h
    ·rename_i hne
     split at h
     ·rename_i r hr;exact absurd hr (hne r)
     ·exact h
   | _=>simp only[hop,J02,if_true] at h ⊢;exact h
 ·rw[if_neg hw] at h ⊢
  exact h
noncomputable def seqF:List (Bool × Bool × List Operand)→List Oper→St→Option St
 | _,[],s=>some s
 | f :: fs,o :: l,s=>match J6A P call ops start f o s with
  | some s'=>seqF fs l s'
  | none=>none
 | [],_ :: _,_=>none
def WKF (fs:List (Bool × Bool × List Operand)) (l:List Oper) (s:St) (k:Kont):Prop:=∃ s',seqF P call ops start fs l s=some s'∧k.ap P call n .normal s'
def WKFR (fs:List (Bool × Bool × List Operand)) (l:List Oper) (dst:Option Tmp) (T:Tr) (fl:Nat) (k:Kont):Option (Value × SHeap)→Prop
 | some (v,h)=>WKF P call n ops start fs l ⟨T.put dst v,h.fl fl⟩ k
 | none=>False
def WKFC (lr la:Bool) (ls:List Operand) (fs:List (Bool × Bool × List Operand)) (o:Oper) (l:List Oper) (s:St) (k:Kont):Cls→Prop
 | .read a=>(lr=true→ahead start (idOf (ev s.T a))=true)∧WKFR P call n ops start fs l o.dst s.T s.h.floor k (sop P call s.T s.h o.op)
 | .act=>WKFR P call n ops start fs l o.dst s.T s.h.floor k (sop P call s.T (if la then s.h.fl (max s.h.floor start) else s.h) o.op)
 | .store=>(ls.all (fun x=>idOf (ev s.T x) != idOf (ev s.T (J17 o.op)))=true)∧WKFR P call n ops start fs l o.dst s.T s.h.floor k (sop P call s.T s.h o.op)
 | .pure=>J02 o.op s.T=true∧WKFR P call n ops start fs l o.dst s.T s.h.floor k (sop P call s.T s.h o.op)
 | .new=>WKFR P call n ops start fs l o.dst s.T s.h.floor k (sop P call s.T s.h o.op)
end
section
variable {P:Program} {call:J0r} {n:Nat} {ops:Array Oper} {start:Nat} {fs:List (Bool × Bool × List Operand)} {l:List Oper} {s:St} {k:Kont}
theorem J6L (h:SHeap):h.fl h.floor=h:=rfl
theorem WKF.cons {lr la:Bool} {ls:List Operand} {o:Oper} (hsn:∀ v h',∀ h:SHeap,sop P call s.T h o.op=some (v,h')→h'.floor=h.floor)
  (h:if J27 ops s.T o then WKFC P call n ops start lr la ls fs o l s k (J04 o.op) else WKF P call n ops start fs l ⟨s.T.put o.dst undef,s.h⟩ k):WKF P call n ops start ((lr,la,ls) :: fs) (o :: l) s k:=by
 by_cases hw:J27 ops s.T o=true
 ·rw [if_pos hw] at h
  have J4o:WKFR P call n ops start fs l o.dst s.T s.h.floor k (sop P call s.T s.h o.op)→∃ s',J2P P call ops o s=some s'∧WKF P call n ops start fs l s' k:=by
   intro h
   cases hs:sop P call s.T s.h o.op with
   | none=>rw[hs] at h;exact h.elim
   | some r=>
    obtain⟨v,h'⟩:=r
    rw[hs] at h
    have hf:=hsn v h' s.h hs
    refine⟨⟨s.T.put o.dst v,h'⟩,by simp only[J2P,hw,if_true,hs],?_⟩
    have e:h'.fl s.h.floor=h':=by rw[← hf];rfl
    have h2:WKF P call n ops start fs l ⟨s.T.put o.dst v,h'.fl s.h.floor⟩ k:=h
    rw[e] at h2
    exact h2
  have fin:∀ s',J6A P call ops start (lr,la,ls) o s=some s'→WKF P call n ops start fs l s' k→WKF P call n ops start ((lr,la,ls) :: fs) (o :: l) s k:=by
   rintro s' h1 ⟨s2,h2,h3⟩
   exact⟨s2,by simp only[seqF,h1,h2],h3⟩
  cases hc:J04 o.op with
  | read a=>
   rw[hc] at h
   obtain⟨h0,h1⟩:=h
   obtain⟨s',h2,h3⟩:=J4o h1
   refine fin s' ?_ h3
   unfold J6A
   rw[if_pos hw,hc]
   simp only
   cases lr with
   | false=>simpa using h2
   | true=>rw[h0 rfl];simpa using h2
  | new=>
   rw[hc] at h
   obtain⟨s',h2,h3⟩:=J4o h
   refine fin s' ?_ h3
   unfold J6A
   rw[if_pos hw,hc]
   exact h2
  | pure=>
   rw[hc] at h
   obtain⟨h0,h1⟩:=h
   obtain⟨s',h2,h3⟩:=J4o h1
   refine fin s' ?_ h3
   unfold J6A
   rw[if_pos hw,hc]
   simp only[h0,if_true]
   exact h2
  | store=>
   rw[hc] at h
   obtain⟨h0,h1⟩:=h
   obtain⟨s',h2,h3⟩:=J4o h1
   refine fin s' ?_ h3
   unfold J6A
   rw[if_pos hw,hc]
   simp only[h0,if_true]
   exact h2
  | act=>
   rw[hc] at h
   cases la with
   | false=>
    obtain⟨s',h2,h3⟩:=J4o h
    refine fin s' ?_ h3
    unfold J6A
    rw[if_pos hw,hc]
    simpa using h2
   | true=>
    have h:WKFR P call n ops start fs l o.dst s.T s.h.floor k (sop P call s.T (s.h.fl (max s.h.floor start)) o.op):=h
    cases hs:sop P call s.T (s.h.fl (max s.h.floor start)) o.op with
    | none=>rw[hs] at h;exact h.elim
    | some r=>
     obtain⟨v,h'⟩:=r
     rw[hs] at h
     refine fin ⟨s.T.put o.dst v,h'.fl s.h.floor⟩ ?_ h
     unfold J6A
     rw[if_pos hw,hc]
     simp only[J2P,hw,if_true,hs]
 ·rw[if_neg hw] at h
  obtain⟨s2,h2,h3⟩:=h
  refine⟨s2,?_,h3⟩
  simp only[seqF,J6A]
  rw[if_neg hw]
  exact h2
theorem J0w {dst:Option Tmp} {T:Tr} {fl:Nat} {v:Value} {h:SHeap}:WKFR P call n ops start fs l dst T fl k (some (v,h))=WKF P call n ops start fs l ⟨T.put dst v,h.fl fl⟩ k:=rfl
theorem J0P:WKF P call n ops start fs [] s k=k.ap P call n .normal s:=by
 apply propext
 refine⟨fun ⟨s',h1,h2⟩=>?_,fun h=>⟨s,by cases fs <;> rfl,h⟩⟩
 cases fs <;> (cases h1;exact h2)
theorem Jk2 {h:SHeap} {a b:Nat}:(h.fl a).fl b=h.fl b:=rfl
theorem Jjg {h:SHeap}:h.fl h.floor=h:=rfl
theorem JiM {h:SHeap} {a:Nat}:(h.fl a).floor=a:=rfl
theorem WK.flags {id:Nat} {fs:List (Bool × Bool × List Operand)} (hf:J1E ops=fs) (h:WKF P call n ops s.h.next fs ops.toList s k):WK P call n (.region id ops true) s k:=by
 obtain⟨s',h1,h2⟩:=h
 refine WS.draw ⟨s',?_,h2⟩
 have key:∀ (l:List Oper) (i:Nat) (s:St) (start:Nat),(∀ k,l[k]?=ops[i+k]?)→i+l.length=ops.size→seqF P call ops start (fs.drop i) l s=some s'→seqD P call ops start i l s=some s':=by
  intro l
  induction l with
  | nil=>intro i s start _ _ h;cases hd:fs.drop i <;> (rw[hd] at h;exact h)
  | cons o l ih=>
   intro i s start hl hlen h
   have hi:i<ops.size:=by simp at hlen;omega
   have hfi:fs[i]?=some (J2p ops i,J2S ops i,J1H ops i):=by
    rw[← hf]
    unfold J1E
    rw[List.getElem?_map,List.getElem?_range hi]
    rfl
   have hlt:i<fs.length:=(List.getElem?_eq_some_iff.1 hfi).1
   rw[List.drop_eq_getElem_cons hlt] at h
   have he:fs[i]=(J2p ops i,J2S ops i,J1H ops i):=by
    rw[List.getElem?_eq_getElem hlt] at hfi
    exact Option.some.inj hfi
   rw[he] at h
   simp only[seqF] at h
   split at h
   ·rename_i s1 h3
    simp only[seqD,Jg4 P call ops start h3]
    exact ih (i+1) s1 start (fun k=>by have:=hl (k+1);simpa [Nat.add_assoc,Nat.add_comm 1 k] using this) (by simp at hlen;omega) h
   ·cases h
 exact key _ 0 s _ (by simp) (by simp) (by simpa using h1)
end
def J4f (r:Nat):Code→Option (Array Oper)
 | .region i ops _=>if i=r then some ops else none
 | .seq a b=>match J4f r a with
  | some o=>some o
  | none=>J4f r b
 | .cond _ a b=>match J4f r a with
  | some o=>some o
  | none=>J4f r b
 | .block _ c=>J4f r c
 | .loop c=>J4f r c
 | _=>none
def J18 (fn:Func) (r:Nat):Array Oper:=match fn.body with
 | some c=>(J4f r c).getD #[]
 | none=>#[]
def seen (o:Oper):Option Tmp × Op × Option (Nat × Bool):=(o.dst,o.op,o.guard)
section
variable {P:Program} {call:J0r} {n:Nat} {ops:Array Oper} {start:Nat} {F:List (Bool × Bool × List Operand)} {s:St} {k:Kont}
theorem Jb5 {T:Tr} {o o':Oper} (h:seen o=seen o'):J27 ops T o=J27 ops T o':=by
 simp only[seen,Prod.mk.injEq] at h
 unfold J27
 rw[h.2.2]
theorem Jdz {lr la:Bool} {ls:List Operand} {fs:List (Bool × Bool × List Operand)} {o o':Oper} {l:List Oper} {c:Cls} (h:seen o=seen o') :
  WKFC P call n ops start lr la ls fs o l s k c=WKFC P call n ops start lr la ls fs o' l s k c:=by
 simp only[seen,Prod.mk.injEq] at h
 cases c <;> simp only[WKFC,h.1,h.2.1]
theorem WKF.begin (h:WKF P call n ops start (F.drop 0) (ops.toList.drop 0) s k):WKF P call n ops start F ops.toList s k:=h
theorem WKF.at (i:Nat) (dst:Option Tmp) (op:Op) (g:Option (Nat × Bool)) {lr la:Bool} {ls:List Operand} (hi:(ops[i]?).map seen=some (dst,op,g)) (hf:F[i]?=some (lr,la,ls))
  (hsn:∀ v h',∀ h:SHeap,sop P call s.T h op=some (v,h')→h'.floor=h.floor)
  (h : if J27 ops s.T ⟨dst, op, 0, "", #[], g⟩ then WKFC P call n ops start lr la ls (F.drop (i + 1)) ⟨dst, op, 0, "", #[], g⟩ (ops.toList.drop (i + 1)) s k (J04 op)
   else WKF P call n ops start (F.drop (i+1)) (ops.toList.drop (i+1)) ⟨s.T.put dst undef,s.h⟩ k):WKF P call n ops start (F.drop i) (ops.toList.drop i) s k:=by
 cases ho:ops[i]? with
 | none=>rw[ho] at hi;cases hi
 | some o=>
  rw[ho] at hi
  have hs : seen o = seen ⟨dst, op, 0, "", #[], g⟩ := by simpa [seen] using hi
  have hop:o.op=op:=congrArg (·.2.1) hs
  have hdst:o.dst=dst:=congrArg (·.1) hs
  have e1:F.drop i=(lr,la,ls) :: F.drop (i+1):=by
   obtain⟨hl,he⟩:=List.getElem?_eq_some_iff.1 hf
   rw[List.drop_eq_getElem_cons hl,he]
  have ho':ops.toList[i]?=some o:=by simpa using ho
  have e2:ops.toList.drop i=o :: ops.toList.drop (i+1):=by
   obtain⟨hl,he⟩:=List.getElem?_eq_some_iff.1 ho'
   rw[List.drop_eq_getElem_cons hl,he]
  rw[e1,e2]
  refine WKF.cons (by rw[hop];exact hsn) ?_
  rw[Jb5 hs,Jdz hs,hop,hdst]
  exact h
theorem WKF.done {i:Nat} (hl:ops.toList.drop i=[]) (h:k.ap P call n .normal s):WKF P call n ops start (F.drop i) (ops.toList.drop i) s k:=by
 rw[hl,J0P]
 exact h
end
end Go.Sx
namespace Go.Proofs.YtdejoodfeljmkaaGreatDoor
open Go Go.Sx
set_option maxRecDepth 100000
set_option linter.unusedSimpArgs false
set_option linter.unusedVariables false
set_option maxHeartbeats 64000000
theorem J0G {cs:Array Value}:(Value.agg cs).cells=cs:=rfl
theorem J5K {k:IntKind} {x:Int}:one (.int k x)=true:=rfl
theorem J5J {x:ByteArray}:one (.string x)=true:=rfl
theorem JiB {x:Bool}:one (.bool x)=true:=rfl
theorem J1D {h:SHeap} {o:SObj}:(h.push o).next=h.next+1:=rfl
theorem J0i {h:SHeap} {o:SObj}:(h.push o).floor=h.floor:=rfl
theorem J2T {h:SHeap} {o:SObj} {i:Nat}:(h.put i o).next=h.next:=rfl
theorem J6Q {h:SHeap} {o:SObj} {i:Nat}:(h.put i o).floor=h.floor:=rfl
theorem Jhl {m f:Nat}:(J2v m f).next=m:=rfl
theorem Jhg {m f:Nat}:(J2v m f).floor=f:=rfl
theorem J29 {h:SHeap} {o:SObj} {i:Nat}:(h.push o).get i=if i=h.next then o else h.get i:=by
 split
 ·rename_i e;subst e;exact J0h
 ·rename_i e;exact J3n e
theorem J6i {h:SHeap} {o:SObj} {i j:Nat}:(h.put i o).get j=if j=i then (if i<h.next then o else .dead) else h.get j:=by
 by_cases hi:i<h.next
 ·split
  ·rename_i e;subst e;exact J0b rfl hi
  ·rename_i e;exact J05 hi (Ne.symm e)
 ·split
  ·rename_i e;subst e;exact J3j (by show h.next≤j;omega)
  ·rename_i e
   by_cases hj:j<h.next
   ·unfold SHeap.get SHeap.put
    simp only[hj,if_true]
    rw[OTr.get_set,if_neg e]
   ·rw[J3j (by show h.next≤j;omega),J3j (by omega)]
theorem J0a {h:SHeap} {o:SObj} {f:Nat}:(h.push o).fl f=(h.fl f).push o:=rfl
theorem J0V {h:SHeap} {o:SObj} {i f:Nat}:(h.put i o).fl f=(h.fl f).put i o:=rfl
theorem J0U {m f f':Nat}:(J2v m f').fl f=J2v m f:=rfl
theorem J0J {h:SHeap} {f:Nat}:(h.fl f).next=h.next:=rfl
theorem J1g {h:SHeap} {f i:Nat}:(h.fl f).get i=h.get i:=rfl
theorem J0f {m id off:Nat}:Sx.ahead m (idOf (.pointer (some ⟨id,off,none⟩)))=decide (id<m):=rfl
theorem J0q {id off n:Nat}:(⟨id,off,none⟩:Addr).add n=⟨id,off+n,none⟩:=by
 unfold Addr.add
 split
 ·rename_i e;subst e;rfl
 ·rfl
def ld1 (off:Nat):SObj→Option Value
 | .row cs _ _ _=>cs[off]?
 | _=>none
def ldN (n off:Nat):SObj→Option Value
 | .row cs _ _ _=>match cut cs off n with
  | some l=>some (.agg l.toArray)
  | none=>none
 | _=>none
theorem J41 {P:Program} {t:TypeId} {h:SHeap} {id off:Nat} (ha:J2X P t=some false):J2x P h t (.pointer (some ⟨id,off,none⟩))=ld1 off (h.get id):=by
 simp only[J2x,ha]
 cases h.get id <;> rfl
theorem J5S {P:Program} {t:TypeId} {n:Nat} {h:SHeap} {id off:Nat} (ha:J2X P t=some true) (hs:szOf P t=some n):J2x P h t (.pointer (some ⟨id,off,none⟩))=ldN n off (h.get id):=by
 simp only[J2x,ha,hs]
 cases h.get id <;> rfl
theorem agg3:J2X Tryz.prog 3=some false:=by kernel_rfl
theorem agg9:J2X Tryz.prog 9=some false:=by kernel_rfl
theorem agg4:J2X Tryz.prog 4=some false:=by kernel_rfl
theorem JjB:J2X Tryz.prog 60=some true:=by kernel_rfl
theorem Jhr:J2X Tryz.prog 127=some true:=by kernel_rfl
theorem sz3:szOf Tryz.prog 3=some 1:=by kernel_rfl
theorem sz9:szOf Tryz.prog 9=some 1:=by kernel_rfl
theorem sz4:szOf Tryz.prog 4=some 1:=by kernel_rfl
theorem sz46:szOf Tryz.prog 60=some 5:=by kernel_rfl
theorem Jih:szOf Tryz.prog 127=some 5:=by kernel_rfl
theorem J40:J1w Tryz.prog 60=some (.agg #[.int .i64 0,.string ByteArray.empty,.int .i64 0,.int .i64 0,.int .i64 0]):=by kernel_rfl
theorem Jj7:J1w Tryz.prog 127=some (.agg #[.bool false,.bool false,.bool false,.int .i64 0,.int .i64 0]):=by kernel_rfl
theorem J2t {a b c d e:Value}:flat (.agg #[a,b,c,d,e])=(J1i a&&(J1i b&&(J1i c&&(J1i d&&(J1i e&&true))))):=by simp[flat,Bool.and_assoc]
theorem J51 {k:IntKind} {x:Int}:J1i (.int k x)=true:=rfl
theorem Jig {x:ByteArray}:J1i (.string x)=true:=rfl
theorem Jh8 {x:Bool}:J1i (.bool x)=true:=rfl
theorem J0m {h:SHeap} {id off:Nat}:J2x Tryz.prog h 3 (.pointer (some ⟨id,off,none⟩))=ld1 off (h.get id):=J41 agg3
theorem J0d {h:SHeap} {id off:Nat}:J2x Tryz.prog h 9 (.pointer (some ⟨id,off,none⟩))=ld1 off (h.get id):=J41 agg9
theorem J1V {h:SHeap} {id off:Nat}:J2x Tryz.prog h 4 (.pointer (some ⟨id,off,none⟩))=ld1 off (h.get id):=J41 agg4
theorem J0u {h:SHeap} {id off:Nat}:J2x Tryz.prog h 60 (.pointer (some ⟨id,off,none⟩))=ldN 5 off (h.get id):=J5S JjB sz46
theorem Jix {h:SHeap} {id off:Nat}:J2x Tryz.prog h 127 (.pointer (some ⟨id,off,none⟩))=ldN 5 off (h.get id):=J5S Jhr Jih
theorem J1d {a:Value} {l:List Value} {ty:TypeId} {g ro:Bool}:ld1 0 (.row (a :: l) ty g ro)=some a:=rfl
theorem J2a {a b:Value} {l:List Value} {ty:TypeId} {g ro:Bool}:ld1 1 (.row (a :: b :: l) ty g ro)=some b:=rfl
theorem J2O {a b c:Value} {l:List Value} {ty:TypeId} {g ro:Bool}:ld1 2 (.row (a :: b :: c :: l) ty g ro)=some c:=rfl
theorem J2b {a b c d:Value} {l:List Value} {ty:TypeId} {g ro:Bool}:ld1 3 (.row (a :: b :: c :: d :: l) ty g ro)=some d:=rfl
theorem J2N {a b c d e:Value} {l:List Value} {ty:TypeId} {g ro:Bool}:ld1 4 (.row (a :: b :: c :: d :: e :: l) ty g ro)=some e:=rfl
theorem Jiy {a b c d e:Value} {ty:TypeId} {g ro:Bool}:ldN 5 0 (.row [a,b,c,d,e] ty g ro)=some (.agg #[a,b,c,d,e]):=rfl
noncomputable def st5 (t:TypeId) (h:SHeap) (id:Nat) (a b c d e:Value):SObj→Option SHeap
 | .row [_,_,_,_,_] ty g false=>if h.floor≤id∧[a,b,c,d,e].all one=true then some (h.put id (.row [a,b,c,d,e] ty g false)) else J0K Tryz.prog h t (.pointer (some ⟨id,0,none⟩)) (.agg #[a,b,c,d,e])
 | _=>J0K Tryz.prog h t (.pointer (some ⟨id,0,none⟩)) (.agg #[a,b,c,d,e])
theorem JfS {t:TypeId} (ht:szOf Tryz.prog t=some 5) {h:SHeap} {id:Nat} {a b c d e:Value}:J0K Tryz.prog h t (.pointer (some ⟨id,0,none⟩)) (.agg #[a,b,c,d,e])=st5 t h id a b c d e (h.get id):=by
 unfold st5
 split
 ·rename_i v w x y z ty g hg
  split
  ·rename_i hc
   have hone:([a,b,c,d,e].all one)=true:=hc.2
   have hl:Go.Sx.lay [v,w,x,y,z] 0 [a,b,c,d,e]=[a,b,c,d,e]:=rfl
   have hcells:(Value.agg #[a,b,c,d,e]).cells=#[a,b,c,d,e]:=rfl
   simp only[J0K,hcells,ht,J1q,hg]
   have hsz:(some 5:Option Nat)=some (#[a,b,c,d,e]:Array Value).size:=rfl
   rw[if_pos hsz,if_pos (by simp only[List.length_cons,List.length_nil,hone];simp[hc.1])]
   rfl
  ·rfl
 ·rfl
theorem J0X {h:SHeap} {id:Nat} {a b c d e:Value}:J0K Tryz.prog h 60 (.pointer (some ⟨id,0,none⟩)) (.agg #[a,b,c,d,e])=st5 60 h id a b c d e (h.get id):=JfS sz46
theorem JiU {h:SHeap} {id:Nat} {a b c d e:Value}:J0K Tryz.prog h 127 (.pointer (some ⟨id,0,none⟩)) (.agg #[a,b,c,d,e])=st5 127 h id a b c d e (h.get id):=JfS Jih
theorem J7F {t:TypeId} {h:SHeap} {id:Nat} {a b c d e v w x y z:Value} {ty:TypeId} {g:Bool}:st5 t h id a b c d e (.row [v,w,x,y,z] ty g false) =
  if h.floor≤id∧[a,b,c,d,e].all one=true then some (h.put id (.row [a,b,c,d,e] ty g false)) else J0K Tryz.prog h t (.pointer (some ⟨id,0,none⟩)) (.agg #[a,b,c,d,e]):=rfl
theorem JiC {a b c d e:Value}:#[a,b,c,d,e].toList.all one=(one a&&(one b&&(one c&&(one d&&(one e&&true))))):=by simp[Bool.and_assoc]
section
variable {id off:Nat}
theorem J0t:J08 Tryz.prog 60 (.pointer (some ⟨id,off,none⟩)) 0=some (.pointer (some ⟨id,off,none⟩)):=by simp[J08,Tryz.underlying60,sz3,J0q]
theorem J07:J08 Tryz.prog 60 (.pointer (some ⟨id,off,none⟩)) 1=some (.pointer (some ⟨id,off+1,none⟩)):=by simp[J08,Tryz.underlying60,sz9,J0q]
theorem J46:J08 Tryz.prog 60 (.pointer (some ⟨id,off,none⟩)) 2=some (.pointer (some ⟨id,off+2,none⟩)):=by simp[J08,Tryz.underlying60,sz3,J0q]
theorem J0O:J08 Tryz.prog 60 (.pointer (some ⟨id,off,none⟩)) 3=some (.pointer (some ⟨id,off+3,none⟩)):=by simp[J08,Tryz.underlying60,sz3,J0q]
theorem Jhp:J08 Tryz.prog 60 (.pointer (some ⟨id,off,none⟩)) 4=some (.pointer (some ⟨id,off+4,none⟩)):=by simp[J08,Tryz.underlying60,sz3,J0q]
theorem J5B:J08 Tryz.prog 127 (.pointer (some ⟨id,off,none⟩)) 0=some (.pointer (some ⟨id,off,none⟩)):=by simp[J08,Tryz.underlying127,sz4,J0q]
theorem J5I:J08 Tryz.prog 127 (.pointer (some ⟨id,off,none⟩)) 1=some (.pointer (some ⟨id,off+1,none⟩)):=by simp[J08,Tryz.underlying127,sz4,J0q]
theorem J5G:J08 Tryz.prog 127 (.pointer (some ⟨id,off,none⟩)) 2=some (.pointer (some ⟨id,off+2,none⟩)):=by simp[J08,Tryz.underlying127,sz4,J0q]
theorem Jhi:J08 Tryz.prog 127 (.pointer (some ⟨id,off,none⟩)) 3=some (.pointer (some ⟨id,off+3,none⟩)):=by simp[J08,Tryz.underlying127,sz3,J0q]
theorem Jhe:J08 Tryz.prog 127 (.pointer (some ⟨id,off,none⟩)) 4=some (.pointer (some ⟨id,off+4,none⟩)):=by simp[J08,Tryz.underlying127,sz3,J0q]
end
theorem J34 (a:ByteArray):(a==a)=true:=by
 cases a with
 | mk d=>show (d==d)=true;simp
theorem JdF (a b:ByteArray):(a.toList==b.toList)=(a==b):=by
 rw[ByteArray.toList_eq,ByteArray.toList_eq]
 apply Bool.eq_iff_iff.2
 constructor
 ·intro h
  have h1:a.data.toList=b.data.toList:=by simpa using h
  have h2:a=b:=by
   cases a;cases b
   simp only[ByteArray.mk.injEq]
   exact Array.toList_inj.1 h1
  subst h2
  exact J34 a
 ·intro h
  have:=J3o h
  subst this
  simp
theorem Jg9 {P:Program} {t:TypeId} {x y:Operand} {a b:ByteArray}:binS P .eql t x y (.string a) (.string b)=some (.bool (a==b)):=by
 have e:J0k P (do eqGuard .eql t x y (.string a) (.string b);binOp .eql t (.string a) (.string b))=some (.bool (a==b)):=by
  rw[J0c]
  have g:J0k P (eqGuard .eql t x y (.string a) (.string b))=some ():=rfl
  rw[g,← JdF]
  simp[binOp,Op.stringOp,Option.bind]
  rfl
 have hf:flat (.string a)=true:=rfl
 have hf2:flat (.string b)=true:=rfl
 simp only[binS,hf,hf2,J2F,Bool.and_self,if_true,e]
theorem J1y {x y:Operand} {a b:ByteArray}:binS Tryz.prog .eql 9 x y (.string a) (.string b)=some (.bool (a==b)):=Jg9
theorem J1C {x y:Operand} {a b:Bool}:binS Tryz.prog .eql 4 x y (.bool a) (.bool b)=some (.bool (a==b)):=Jga Tryz.underlying4
theorem Ji4 {x y:Operand} {a b:Bool}:binS Tryz.prog .neq 4 x y (.bool a) (.bool b)=some (.bool (a != b)):=Jf7 Tryz.underlying4
def J0e (r:RowN):List Value:=[.int .i64 r.kind,.string r.name,.int .i64 r.ends,.int .i64 r.n,.int .i64 r.kids]
theorem JeK {h:SHeap} {a:Option Addr} {n c:Nat}:lenS Tryz.prog h 22 (.slice a n c)=some (.int .i64 n):=by simp[lenS,Tryz.underlying22]
def J0l (h:SHeap) (v:Value) (l:List RowN):Prop:=
 ∃ a c,v=.slice a l.length c∧((l=[]∧a=none)∨∃ id off cs ty g ro,a=some ⟨id,off,none⟩∧h.get id=.row cs ty g ro∧id<h.next∧∀ k r,l[k]?=some r→(cs.drop (off+k*5)).take 5=J0e r)
theorem J0l.row {h:SHeap} {v:Value} {l:List RowN} (hv:J0l h v l) {k:Nat} {r:RowN} (hk:l[k]?=some r) :
  ∃ id p,J0R Tryz.prog 22 v (.int .i64 (k:Int))=some (.pointer (some ⟨id,p,none⟩))∧id<h.next∧ld1 p (h.get id)=some (.int .i64 r.kind)∧ld1 (p+1) (h.get id)=some (.string r.name)∧ld1 (p+2) (h.get id)=some (.int .i64 r.ends) ∧
   ld1 (p+3) (h.get id)=some (.int .i64 r.n)∧ld1 (p+4) (h.get id)=some (.int .i64 r.kids)∧ldN 5 p (h.get id)=some (.agg #[.int .i64 r.kind,.string r.name,.int .i64 r.ends,.int .i64 r.n,.int .i64 r.kids]):=by
 obtain⟨a,c,rfl,⟨rfl,_⟩ | ⟨id,off,cs,ty,g,ro,rfl,hg,hid,hc⟩⟩:=hv
 ·simp at hk
 ·have hlt:=(List.getElem?_eq_some_iff.1 hk).1
  have hcut:=hc k r hk
  have hat:∀ j,j<5→cs[off+k*5+j]?=(J0e r)[j]?:=fun j hj=>by
   rw[← hcut,List.getElem?_take_of_lt hj,List.getElem?_drop]
  refine⟨id,off+k*5,?_,hid,?_,?_,?_,?_,?_,?_⟩
  ·simp only[J0R,Tryz.underlying22,sz46,J0q]
   rw[if_pos (by omega)]
   simp
  ·rw[hg];exact hat 0 (by decide)
  ·rw[hg];exact hat 1 (by decide)
  ·rw[hg];exact hat 2 (by decide)
  ·rw[hg];exact hat 3 (by decide)
  ·rw[hg];exact hat 4 (by decide)
  ·rw[hg]
   simp only[ldN,cut,hcut]
   rfl
theorem J0l.len {h:SHeap} {v:Value} {l:List RowN} (hv:J0l h v l) {h':SHeap}:lenS Tryz.prog h' 22 v=some (.int .i64 l.length):=by
 obtain⟨a,c,rfl,_⟩:=hv
 exact JeK
theorem J0l.mono {h h':SHeap} {v:Value} {l:List RowN} (hv:J0l h v l) (hn:h.next≤h'.next) (hg:∀ i,i<h.next→h'.get i=h.get i):J0l h' v l:=by
 obtain⟨a,c,rfl,h1 | ⟨id,off,cs,ty,g,ro,rfl,h1,hid,hc⟩⟩:=hv
 ·exact⟨_,_,rfl,.inl h1⟩
 ·exact⟨_,_,rfl,.inr ⟨id,off,cs,ty,g,ro,rfl,by rw[hg id hid];exact h1,by omega,hc⟩⟩
theorem evD:type_of% (And.intro @J00.eq_1 (And.intro @J00.eq_2 (And.intro @J01.eq_1 (And.intro @evs.eq_1 (And.intro @resS.eq_1 (And.intro @resS.eq_2 (And.intro @resS.eq_3 (And.intro @resV.eq_1 (And.intro @resV.eq_2 (And.intro @sop.eq_1 (And.intro @sop.eq_2 (And.intro @sop.eq_3 (And.intro @sop.eq_4 (And.intro @sop.eq_5 (And.intro @sop.eq_6 (And.intro @sop.eq_7 (And.intro @sop.eq_8 (And.intro @sop.eq_9 (And.intro @sop.eq_10 (And.intro @sop.eq_11 (And.intro @sop.eq_12 (And.intro @sop.eq_13 (And.intro @sop.eq_14 (And.intro @sop.eq_15 (And.intro @sop.eq_16 (And.intro @sop.eq_17 (And.intro @sop.eq_18 (And.intro @sop.eq_19 (And.intro @sop.eq_20 (And.intro @sop.eq_21 (And.intro @sop.eq_22 (And.intro @sop.eq_23 (And.intro @sop.eq_24 (And.intro @sop.eq_25 (And.intro @sop.eq_26 (And.intro @sop.eq_27 @sop.eq_28)))))))))))))))))))))))))))))))))))):=And.intro @J00.eq_1 (And.intro @J00.eq_2 (And.intro @J01.eq_1 (And.intro @evs.eq_1 (And.intro @resS.eq_1 (And.intro @resS.eq_2 (And.intro @resS.eq_3 (And.intro @resV.eq_1 (And.intro @resV.eq_2 (And.intro @sop.eq_1 (And.intro @sop.eq_2 (And.intro @sop.eq_3 (And.intro @sop.eq_4 (And.intro @sop.eq_5 (And.intro @sop.eq_6 (And.intro @sop.eq_7 (And.intro @sop.eq_8 (And.intro @sop.eq_9 (And.intro @sop.eq_10 (And.intro @sop.eq_11 (And.intro @sop.eq_12 (And.intro @sop.eq_13 (And.intro @sop.eq_14 (And.intro @sop.eq_15 (And.intro @sop.eq_16 (And.intro @sop.eq_17 (And.intro @sop.eq_18 (And.intro @sop.eq_19 (And.intro @sop.eq_20 (And.intro @sop.eq_21 (And.intro @sop.eq_22 (And.intro @sop.eq_23 (And.intro @sop.eq_24 (And.intro @sop.eq_25 (And.intro @sop.eq_26 (And.intro @sop.eq_27 @sop.eq_28)))))))))))))))))))))))))))))))))))
theorem evB:type_of% (And.intro evD (And.intro @J4p (And.intro @JhM (And.intro @Jj8 (And.intro @JiI (And.intro @JiZ (And.intro @JiQ (And.intro @JjQ (And.intro @JiY (And.intro @JjV (And.intro @JjU (And.intro @J7O (And.intro @JjF (And.intro @JjR (And.intro @JjJ (And.intro @Jj4 (And.intro @Jjb (And.intro @Jjm (And.intro @Jjw (And.intro @JjG (And.intro @Ji3 (And.intro @JiA (And.intro @JjC (And.intro @JiJ (And.intro @JjT (And.intro @JiD (And.intro @JjK (And.intro @Tr.get_put (And.intro @Tr.get_set (And.intro @J0H (And.intro @List.map_cons.{0,0} (And.intro @List.map_nil.{0,0} (And.intro @Option.some.injEq.{0} (And.intro @Jjl (And.intro @J21 (And.intro @J23 (And.intro @Jji (And.intro @J24 (And.intro @J4h (And.intro @J22 (And.intro @JjE (And.intro @Jjt (And.intro @max2 (And.intro @min2 (And.intro @decide_eq_true_eq (And.intro @decide_eq_false_iff_not (And.intro @beq_iff_eq.{0} (And.intro @true_and (And.intro @and_true (And.intro @or_true (And.intro @true_or (And.intro @exists_eq_left'.{1} (And.intro @Option.map_some.{0,0} (And.intro @Option.map_none.{0,0} (And.intro @JhS (And.intro @Option.bind_some.{0,0} (And.intro @List.nil_append.{0} (And.intro @List.append_nil.{0} (And.intro @List.cons_append.{0} (And.intro @Value.int.injEq (And.intro @Jhd (And.intro @List.getElem?_toArray.{0} (And.intro @List.getElem?_cons_succ.{0} (And.intro @List.getElem?_cons_zero.{0} (And.intro @decide_true (And.intro @decide_false (And.intro @beq_self_eq_true.{0} (And.intro @Jhh (And.intro @Jgg (And.intro @Bool.not_true (And.intro @Bool.not_false (And.intro @Bool.false_eq_true (And.intro @if_true.{1} (And.intro @if_false.{1} (And.intro @J2F (And.intro @Jad (And.intro @JiR (And.intro @JiH (And.intro @false_implies (And.intro @true_implies @Jg5)))))))))))))))))))))))))))))))))))))))))))))))))))))))))))))))))))))))))))))))):=And.intro evD (And.intro @J4p (And.intro @JhM (And.intro @Jj8 (And.intro @JiI (And.intro @JiZ (And.intro @JiQ (And.intro @JjQ (And.intro @JiY (And.intro @JjV (And.intro @JjU (And.intro @J7O (And.intro @JjF (And.intro @JjR (And.intro @JjJ (And.intro @Jj4 (And.intro @Jjb (And.intro @Jjm (And.intro @Jjw (And.intro @JjG (And.intro @Ji3 (And.intro @JiA (And.intro @JjC (And.intro @JiJ (And.intro @JjT (And.intro @JiD (And.intro @JjK (And.intro @Tr.get_put (And.intro @Tr.get_set (And.intro @J0H (And.intro @List.map_cons.{0,0} (And.intro @List.map_nil.{0,0} (And.intro @Option.some.injEq.{0} (And.intro @Jjl (And.intro @J21 (And.intro @J23 (And.intro @Jji (And.intro @J24 (And.intro @J4h (And.intro @J22 (And.intro @JjE (And.intro @Jjt (And.intro @max2 (And.intro @min2 (And.intro @decide_eq_true_eq (And.intro @decide_eq_false_iff_not (And.intro @beq_iff_eq.{0} (And.intro @true_and (And.intro @and_true (And.intro @or_true (And.intro @true_or (And.intro @exists_eq_left'.{1} (And.intro @Option.map_some.{0,0} (And.intro @Option.map_none.{0,0} (And.intro @JhS (And.intro @Option.bind_some.{0,0} (And.intro @List.nil_append.{0} (And.intro @List.append_nil.{0} (And.intro @List.cons_append.{0} (And.intro @Value.int.injEq (And.intro @Jhd (And.intro @List.getElem?_toArray.{0} (And.intro @List.getElem?_cons_succ.{0} (And.intro @List.getElem?_cons_zero.{0} (And.intro @decide_true (And.intro @decide_false (And.intro @beq_self_eq_true.{0} (And.intro @Jhh (And.intro @Jgg (And.intro @Bool.not_true (And.intro @Bool.not_false (And.intro @Bool.false_eq_true (And.intro @if_true.{1} (And.intro @if_false.{1} (And.intro @J2F (And.intro @Jad (And.intro @JiR (And.intro @JiH (And.intro @false_implies (And.intro @true_implies @Jg5)))))))))))))))))))))))))))))))))))))))))))))))))))))))))))))))))))))))))))))))
theorem evC:type_of% (And.intro @Jaj evB):=And.intro @Jaj evB
theorem evP:type_of% (And.intro @Jk4 @Jk3):=And.intro @Jk4 @Jk3
theorem rpD:type_of% (And.intro @J1D (And.intro @J0i (And.intro @J2T (And.intro @J6Q (And.intro @Jhl (And.intro @Jhg (And.intro @J0m (And.intro @J0d (And.intro @J1V (And.intro @J0u (And.intro @Jix (And.intro @J1d (And.intro @J2a (And.intro @J2O (And.intro @J2b (And.intro @J2N (And.intro @Jiy (And.intro @JiU (And.intro @J7F (And.intro @J5K (And.intro @J5J (And.intro @JiB (And.intro @J0t (And.intro @J07 (And.intro @J46 (And.intro @J0O (And.intro @Jhp (And.intro @J5B (And.intro @J5I (And.intro @J5G (And.intro @Jhi (And.intro @Jhe (And.intro @J40 (And.intro @Jj7 (And.intro @JiC (And.intro @List.all_cons.{0} (And.intro @List.all_nil.{0} (And.intro @Bool.and_self (And.intro @Bool.true_and (And.intro @Bool.and_true (And.intro @Nat.zero_le (And.intro @Jk2 (And.intro @Jjg (And.intro @J1C (And.intro @Ji4 (And.intro @J1y @JeK)))))))))))))))))))))))))))))))))))))))))))))):=And.intro @J1D (And.intro @J0i (And.intro @J2T (And.intro @J6Q (And.intro @Jhl (And.intro @Jhg (And.intro @J0m (And.intro @J0d (And.intro @J1V (And.intro @J0u (And.intro @Jix (And.intro @J1d (And.intro @J2a (And.intro @J2O (And.intro @J2b (And.intro @J2N (And.intro @Jiy (And.intro @JiU (And.intro @J7F (And.intro @J5K (And.intro @J5J (And.intro @JiB (And.intro @J0t (And.intro @J07 (And.intro @J46 (And.intro @J0O (And.intro @Jhp (And.intro @J5B (And.intro @J5I (And.intro @J5G (And.intro @Jhi (And.intro @Jhe (And.intro @J40 (And.intro @Jj7 (And.intro @JiC (And.intro @List.all_cons.{0} (And.intro @List.all_nil.{0} (And.intro @Bool.and_self (And.intro @Bool.true_and (And.intro @Bool.and_true (And.intro @Nat.zero_le (And.intro @Jk2 (And.intro @Jjg (And.intro @J1C (And.intro @Ji4 (And.intro @J1y @JeK)))))))))))))))))))))))))))))))))))))))))))))
theorem rpC:type_of% (And.intro @J0G (And.intro @J29 (And.intro @J6i (And.intro @J0X (And.intro @J2t rpD))))):=And.intro @J0G (And.intro @J29 (And.intro @J6i (And.intro @J0X (And.intro @J2t rpD))))
theorem rgC:type_of% (And.intro evD (And.intro @Tr.get_set (And.intro @J0H (And.intro @Ji3 (And.intro @JhS (And.intro @Jhd (And.intro @Jhh (And.intro @Jgg (And.intro @JjT (And.intro @JiD (And.intro @Tr.get_put (And.intro @Option.some.injEq.{0} (And.intro @if_true.{1} (And.intro @if_false.{1} (And.intro @J0w (And.intro @Option.map_some.{0,0} (And.intro @Bool.not_true (And.intro @Bool.not_false (And.intro @Bool.false_eq_true (And.intro @true_and @Jjg)))))))))))))))))))):=And.intro evD (And.intro @Tr.get_set (And.intro @J0H (And.intro @Ji3 (And.intro @JhS (And.intro @Jhd (And.intro @Jhh (And.intro @Jgg (And.intro @JjT (And.intro @JiD (And.intro @Tr.get_put (And.intro @Option.some.injEq.{0} (And.intro @if_true.{1} (And.intro @if_false.{1} (And.intro @J0w (And.intro @Option.map_some.{0,0} (And.intro @Bool.not_true (And.intro @Bool.not_false (And.intro @Bool.false_eq_true (And.intro @true_and @Jjg)))))))))))))))))))
theorem rgL:type_of% (And.intro @eq_self.{1} (And.intro @true_implies (And.intro @Option.map_none.{0,0} (And.intro @Option.map_some.{0,0} (And.intro @Nat.zero_add (And.intro @J0f (And.intro @decide_true (And.intro @false_implies @forall_const.{1})))))))):=And.intro @eq_self.{1} (And.intro @true_implies (And.intro @Option.map_none.{0,0} (And.intro @Option.map_some.{0,0} (And.intro @Nat.zero_add (And.intro @J0f (And.intro @decide_true (And.intro @false_implies @forall_const.{1})))))))
theorem rgK:type_of% (And.intro @JjK (And.intro @List.nil_append.{0} (And.intro @List.append_nil.{0} (And.intro @List.cons_append.{0} (And.intro @List.map_cons.{0,0} (And.intro @List.map_nil.{0,0} (And.intro @J0J (And.intro @J1g (And.intro @Jk2 @JiM))))))))):=And.intro @JjK (And.intro @List.nil_append.{0} (And.intro @List.append_nil.{0} (And.intro @List.cons_append.{0} (And.intro @List.map_cons.{0,0} (And.intro @List.map_nil.{0,0} (And.intro @J0J (And.intro @J1g (And.intro @Jk2 @JiM))))))))
theorem rgS:type_of% (And.intro @List.all_cons.{0} (And.intro @List.all_nil.{0} (And.intro @Bool.and_self (And.intro @J0a (And.intro @J0V (And.intro @J0i (And.intro @J6Q (And.intro @J1D @J2T)))))))):=And.intro @List.all_cons.{0} (And.intro @List.all_nil.{0} (And.intro @Bool.and_self (And.intro @J0a (And.intro @J0V (And.intro @J0i (And.intro @J6Q (And.intro @J1D @J2T)))))))
theorem rgA:type_of% (And.intro @J0a (And.intro @J0V (And.intro @J0i (And.intro @J6Q (And.intro @J1D @J2T))))):=And.intro @J0a (And.intro @J0V (And.intro @J0i (And.intro @J6Q (And.intro @J1D @J2T))))
theorem rgB:type_of% (And.intro @J24 (And.intro @J4h (And.intro @J1y (And.intro @J1C (And.intro @J23 (And.intro @Jji (And.intro @Jjl (And.intro @J21 (And.intro @J22 @JjE))))))))):=And.intro @J24 (And.intro @J4h (And.intro @J1y (And.intro @J1C (And.intro @J23 (And.intro @Jji (And.intro @Jjl (And.intro @J21 (And.intro @J22 @JjE))))))))
theorem wst {P:Program} {call:J0r} {n:Nat} {ops:Array Oper} {start:Nat} {F:List (Bool × Bool × List Operand)} {s:St} {k:Kont} (hsn:J1G call) (i:Nat) (dst:Option Tmp) (op:Op) (g:Option (Nat × Bool)) {lr la:Bool} {ls:List Operand}
  (h : if J27 ops s.T ⟨dst, op, 0, "", #[], g⟩ then WKFC P call n ops start lr la ls (F.drop (i + 1)) ⟨dst, op, 0, "", #[], g⟩ (ops.toList.drop (i + 1)) s k (J04 op)
   else WKF P call n ops start (F.drop (i+1)) (ops.toList.drop (i+1)) ⟨s.T.put dst undef,s.h⟩ k)
  (hi:(ops[i]?).map Go.Sx.seen=some (dst,op,g):=by kernel_rfl) (hf:F[i]?=some (lr,la,ls):=by rfl):WKF P call n ops start (F.drop i) (ops.toList.drop i) s k:=
 WKF.at i dst op g hi hf (fun _ _ _ hs=>(Je5 hsn hs).floor) h
theorem wcs {P:Program} {call:J0r} {n:Nat} {ops:Array Oper} {start:Nat} {fs:List (Bool × Bool × List Operand)} {l:List Oper} {s:St} {k:Kont} {lr la:Bool} {ls:List Operand} {o:Oper} (hsn:J1G call)
  (h:if J27 ops s.T o then WKFC P call n ops start lr la ls fs o l s k (J04 o.op) else WKF P call n ops start fs l ⟨s.T.put o.dst undef,s.h⟩ k):WKF P call n ops start ((lr,la,ls) :: fs) (o :: l) s k:=WKF.cons (fun _ _ _ hs=>(Je5 hsn hs).floor) h
theorem JvR {P:Program} {call:J0r} {n:Nat} {ops:Array Oper} {start:Nat} {fs:List (Bool × Bool × List Operand)} {s:St} {k:Kont} (h:k.ap P call n .normal s):WKF P call n ops start fs [] s k:=by rw[J0P];exact h
def fa0:Bool × Bool × List Operand:=(false,false,[])
def fa1:Bool × Bool × List Operand:=(false,true,[])
def fa2:Bool × Bool × List Operand:=(true,true,[])
def fa3 (l:List Operand):Bool × Bool × List Operand:=(false,true,l)
def fa4 (l:List Operand):Bool × Bool × List Operand:=(true,true,l)
abbrev Z0:Value:=.slice none 0 0
abbrev zPc:List Value:=[.string ByteArray.empty,Z0,Z0,Z0,Z0,Z0,Z0,.int .i64 0]
abbrev zRc:List Value:=[.int .i64 0,.string ByteArray.empty,.int .i64 0,.int .i64 0,.int .i64 0]
abbrev qP (a o:Nat):Value:=.pointer (some ⟨a,o,none⟩)
abbrev qS (a n c:Nat):Value:=.slice (some ⟨a,0,none⟩) n c
theorem Jhy:Tryz.prog.globals.size≤1:=by
 have:Tryz.prog.globals.size=1:=by kernel_rfl
 omega
noncomputable def J8A (m:Nat) (call:J0r):J0r:=fun f args h=>
 if args.all J3Q then match call f args (J2v m 0) with
  | some (v,_)=>if J3m v then some (v,h) else none
  | none=>none
 else none
theorem J7h {m:Nat} {call:J0r} {f:FuncId} {args:List Value} {h h':SHeap} {v:Value} (hs:J8A m call f args h=some (v,h')) :
  args.all J3Q=true∧(∃ h1,call f args (J2v m 0)=some (v,h1))∧J3m v=true∧h'=h:=by
 unfold J8A at hs
 split at hs
 ·rename_i hc
  split at hs
  ·rename_i v' h1 he
   split at hs
   ·rename_i hf
    cases hs
    exact⟨hc,⟨h1,he⟩,hf,rfl⟩
   ·cases hs
  ·cases hs
 ·cases hs
theorem JeG {m:Nat} {call:J0r} {f:FuncId} {args:List Value} {h:SHeap} {v:Value} (ha:args.all J3Q=true) (hv:J3m v=true) (hc:∃ h1,call f args (J2v m 0)=some (v,h1)) :
  J8A m call f args h=some (v,h):=by
 obtain⟨h1,he⟩:=hc
 unfold J8A
 rw[if_pos ha,he]
 simp only[hv,if_true]
theorem Jei {P:Program} {call:J0r} (hc:J1x P call) {m:Nat} (hg:P.globals.size≤m):J1x P (J8A m call)∧J1G (J8A m call):=by
 refine⟨fun f args h v h' hs=>?_,fun f args h v h' hs=>?_⟩
 ·obtain⟨ha,⟨h1,he⟩,hv,rfl⟩:=J7h hs
  obtain⟨hfn,hc2⟩:=hc _ _ _ _ _ he
  refine⟨hfn,fun ρ W ARGS hR hargs=>?_⟩
  have hR0:Rel P (cutm ρ m) (J2v m 0) W:=Jb1 (fun i hi=>by unfold cutm;rw[if_neg (by omega)]) fun g hgl=>by
   rw[J33 (by omega)]
   exact hR.glob g hgl
  have hnw:∀ i,¬ wr ((J2v m 0).get i):=fun i hw=>by rw[J2C] at hw;exact hw
  refine(hc2 _ W ARGS hR0 (J7W ha hargs)).mono fun e W' ⟨V,ρ',he',hN,hv'⟩=>⟨V,ρ,he',(Nx.refl hR).grow (hN.fr.gr hnw),?_⟩
  rw[Jar hv hv']
  exact J7p hv
 ·obtain⟨_,_,_,rfl⟩:=J7h hs
  exact .refl _
noncomputable def layD (fs:List FuncId) (base:J0r) (k:Nat):J0r:=orS base (J70 fs (J8A 1 (J0L Tryz.prog (J3U Tryz.prog base k) k)))
section
variable {fs:List FuncId} {k:Nat} {base:J0r} {f:FuncId} {args:List Value} {h:SHeap} {v:Value} {r:Value × SHeap}
theorem J9p (hb:J1x Tryz.prog base∧J1G base):J1x Tryz.prog (layD fs base k)∧J1G (layD fs base k):=
 Jav hb (Jaz (Jei (J6m J2f (J6f J2f hb.1 hb.2 k).1 (J6f J2f hb.1 hb.2 k).2 k).1 Jhy))
theorem J1M (hb:base f args h=some r):layD fs base k f args h=some r:=Ja4 hb
theorem J20 (hb:base f args h=none) (hf:fs.contains f=false):layD fs base k f args h=none:=by unfold layD orS J70;rw[hb,hf];rfl
theorem J0I (hb:base f args h=none) (hf:fs.contains f=true) (ha:args.all J3Q=true) (hv:J3m v=true) (hw:∃ h1,J0L Tryz.prog (J3U Tryz.prog base k) k f args (J2v 1 0)=some (v,h1)):layD fs base k f args h=some (v,h):=by
 have e:J8A 1 (J0L Tryz.prog (J3U Tryz.prog base k) k) f args h=some (v,h):=JeG ha hv hw
 unfold layD orS J70
 rw[hb,hf,if_pos rfl,e]
end
theorem ofEx {α:Type} {p:α→Prop} {q:α→Prop} (h:∃ x,p x∧q x):∃ x,p x:=h.elim fun x hx=>⟨x,hx.1⟩
def JbX:List Int:=(List.range 54).map fun (i:Nat)=>(i:Int)+1
theorem JcT {k:Int} (h:1≤k∧k≤54):k∈JbX:=List.mem_map.2 ⟨(k-1).toNat,by rw[List.mem_range];omega,by omega⟩
noncomputable def J3H (f:FuncId) (mk:Int→List Value) (spec:Int→Value):Bool:=JbX.all fun k=>match J0L Tryz.prog (J3U Tryz.prog noS 12) 12 f (mk k) (J2v 1 0) with
 | some (v,_)=>eqV v (spec k)
 | none=>false
theorem J1I {f:FuncId} {mk:Int→List Value} {spec:Int→Value} (h:J3H f mk spec=true) {k:Int} (hk:1≤k∧k≤54):∃ h1,J0L Tryz.prog (J3U Tryz.prog noS 12) 12 f (mk k) (J2v 1 0)=some (spec k,h1):=by
 have:=List.all_eq_true.1 h k (JcT hk)
 split at this
 ·rename_i v h1 he
  rw[Jfz this] at he
  exact⟨h1,he⟩
 ·cases this
def J1f (k:Int):Int:=if k=54 then 1 else if k=53 then 2 else if k≥47 then 3 else if k≥45 then 4 else if k≥43 then 5 else if k≥41 then 6 else if k≥27 then 7 else 0
def J1s (k:Int):Int:=if [1,11,26,31,32,35,36,37,38,39,40,41,42].contains k then 1 else 0
def J0j (k:Int):Int:=if [2,3].contains k then 1 else if k=4 then 2 else if k=5 then 3 else if k=7 then 4 else 0
def J1O (k:Int):Int:=if [8,9,16,17,19,20,21,24,26,31,32,35,36,37].contains k then 1 else if [14,28].contains k then 2 else if [15,38].contains k then 3 else if k=22 then 4 else 0
def J0E (k:Int):Bool:=decide (k≥8)&&decide (k≤10)
def kidR (k:Int) (j:Nat):Int:=if k=1 then 1 else J0A k j
abbrev iv (x:Int):Value:=.int .i64 x
theorem J9K:J3H 110 (fun k=>[iv k]) (fun k=>.agg #[.bool (J3l k),.bool (endK k),.bool (k==27),iv (J1U k),iv (J1r k)])=true:=by kernel_rfl
theorem JaJ:J3H 132 (fun k=>[iv k]) (fun k=>iv (J1f k))=true:=by kernel_rfl
theorem Jdm:J3H 124 (fun k=>[iv k]) (fun k=>iv (J1s k))=true:=by kernel_rfl
theorem J8L:J3H 72 (fun k=>[iv k]) (fun k=>iv (J0j k))=true:=by kernel_rfl
theorem Jdc:J3H 74 (fun k=>[iv k]) (fun k=>iv (J1O k))=true:=by kernel_rfl
theorem J9M:J3H 75 (fun k=>[iv k]) (fun k=>.bool (J0E k))=true:=by kernel_rfl
theorem J8g:J3H 80 (fun k=>[iv k]) (fun k=>iv (J0j k))=true:=by kernel_rfl
theorem JbA:J3H 82 (fun k=>[iv k]) (fun k=>iv (J1O k))=true:=by kernel_rfl
theorem J8q:J3H 84 (fun k=>[iv k]) (fun k=>.bool (J0E k))=true:=by kernel_rfl
theorem JeC:J3H 138 (fun k=>[iv k]) (fun k=>iv (J1f k))=true:=by kernel_rfl
theorem Jct:J3H 135 (fun k=>[iv k]) (fun k=>.bool (J3l k))=true:=by kernel_rfl
theorem JdN:J3H 134 (fun k=>[iv k]) (fun k=>.bool (endK k))=true:=by kernel_rfl
theorem JeV:J3H 137 (fun k=>[iv k]) (fun k=>.tuple #[iv (J1U k),iv (J1r k)])=true:=by kernel_rfl
theorem JeS:J3H 125 (fun k=>[iv k,iv 0]) (fun k=>iv (kidR k 0))=true:=by kernel_rfl
theorem Jeu:J3H 125 (fun k=>[iv k,iv 1]) (fun k=>iv (kidR k 1))=true:=by kernel_rfl
theorem Jf0:J3H 125 (fun k=>[iv k,iv 2]) (fun k=>iv (kidR k 2))=true:=by kernel_rfl
theorem Jbt:J3H 113 (fun k=>[iv k,iv 0]) (fun k=>iv (J0A k 0))=true:=by kernel_rfl
theorem JbN:J3H 113 (fun k=>[iv k,iv 1]) (fun k=>iv (J0A k 1))=true:=by kernel_rfl
theorem JbJ:J3H 113 (fun k=>if k=15 then [iv 1,iv 2] else [iv k,iv 2]) (fun k=>if k=15 then iv (J0A 1 2) else iv (J0A k 2))=true:=by kernel_rfl
def JaG:List Int:=(List.range 256).map fun (i:Nat)=>(i:Int)
theorem Jcn {k:Nat} (h:k<256):(k:Int)∈JaG:=List.mem_map.2 ⟨k,by rw[List.mem_range];exact h,rfl⟩
noncomputable def J6B (f:FuncId) (spec:Int→Bool):Bool:=JaG.all fun k=>match J0L Tryz.prog (J3U Tryz.prog noS 12) 12 f [.int .u8 k] (J2v 1 0) with
 | some (v,_)=>eqV v (.bool (spec k))
 | none=>false
theorem J4Q {f:FuncId} {spec:Int→Bool} (h:J6B f spec=true) (b:UInt8):∃ h1,J0L Tryz.prog (J3U Tryz.prog noS 12) 12 f [.int .u8 (b.toNat:Int)] (J2v 1 0)=some (.bool (spec (b.toNat:Int)),h1):=by
 have:=List.all_eq_true.1 h _ (Jcn (UInt8.toNat_lt b))
 split at this
 ·rename_i v h1 he
  rw[Jfz this] at he
  exact⟨h1,he⟩
 ·cases this
def J15 (c:Int):Bool:=(decide (c≥97)&&decide (c≤122))||(decide (c≥65)&&decide (c≤90))||c==95
def J2d (c:Int):Bool:=decide (c≥48)&&decide (c≤57)
theorem Jbr:J6B 120 J15=true:=by kernel_rfl
theorem JdJ:J6B 122 J2d=true:=by kernel_rfl
theorem J9N:J6B 144 J15=true:=by kernel_rfl
theorem Jcb:J6B 145 J2d=true:=by kernel_rfl
section
variable {call:J0r} {n:Nat} {h:SHeap}
theorem Jdb {what kind:Int}:J0L Tryz.prog call n 109 [iv what,iv kind] h=some (.bool (J1l what kind),h):=by
 refine J1m Tryz.func109 rfl (by simp[Tryz.f109]) ?_
 have hr:Tryz.f109.results.toList=[.tmp 4]:=rfl
 unfold J1l
 by_cases w8:what=8
 ·subst w8;simp only[evC,seval,↓evP,rpC,hr]
 have e8:(what==8)=false:=by simpa using w8
 by_cases w0:what=0
 ·subst w0
  cases d1:decide (kind≥2) <;> simp only[evC,seval,↓evP,rpC,hr,e8,d1] <;> simp
 have e0:(what==0)=false:=by simpa using w0
 by_cases w1:what=1
 ·subst w1
  cases d1:decide (kind≥8) <;> simp only[evC,seval,↓evP,rpC,hr,e8,e0,d1] <;> simp
 have e1:(what==1)=false:=by simpa using w1
 by_cases w2:what=2
 ·subst w2;simp only[evC,seval,↓evP,rpC,hr,e8,e0,e1] <;> simp
 have e2:(what==2)=false:=by simpa using w2
 by_cases w3:what=3
 ·subst w3
  cases d1:decide (kind≥11) <;> simp only[evC,seval,↓evP,rpC,hr,e8,e0,e1,e2,d1] <;> simp
 have e3:(what==3)=false:=by simpa using w3
 by_cases w4:what=4
 ·subst w4
  cases d1:(kind==11) <;> simp only[evC,seval,↓evP,rpC,hr,e8,e0,e1,e2,e3,d1] <;> simp
 have e4:(what==4)=false:=by simpa using w4
 by_cases w5:what=5
 ·subst w5
  cases d1:(kind==25) <;> simp only[evC,seval,↓evP,rpC,hr,e8,e0,e1,e2,e3,e4,d1] <;> simp
 have e5:(what==5)=false:=by simpa using w5
 by_cases w6:what=6
 ·subst w6;simp only[evC,seval,↓evP,rpC,hr,e8,e0,e1,e2,e3,e4,e5] <;> simp
 have e6:(what==6)=false:=by simpa using w6
 rw[if_neg w8,if_neg w0,if_neg w1,if_neg w2,if_neg w3,if_neg w4,if_neg w5,if_neg w6]
 cases d1:decide (kind≥27) <;> simp only[evC,seval,↓evP,rpC,hr,e8,e0,e1,e2,e3,e4,e5,e6,d1] <;> simp
end
def J14:SObj:=.row J5v 9 false true
def J6S (w:List UInt8):ByteArray:=⟨w.toArray⟩
def J3d (s:ByteArray):Bool:=decide (J2D.findIdx (fun w=>s==J6S w)<41)
theorem J3X:J2D.length=41:=by decide
def J09 (s:ByteArray):Bool:=match s.data.toList with
 | []=>false
 | c :: l=>decide ((c :: l).length≤64)&&J15 c.toNat && !J3d s&&(c :: l).all fun c=>J15 c.toNat||J2d c.toNat
theorem J2g {s:ByteArray}:flat (.string s)=true:=rfl
theorem len9 {h:SHeap} {s:ByteArray}:lenS Tryz.prog h 9 (.string s)=some (.int .i64 s.data.toList.length):=by simp[lenS,Tryz.underlying9]
theorem J7c {s:ByteArray} {i:Nat} {b:UInt8} (hb:s.data.toList[i]?=some b):J0k Tryz.prog (Instr.index 9 (.string s) (.int .i64 (i:Int)))=some (.int .u8 (b.toNat:Int)):=by
 have hg:s[i]?=some b:=by
  obtain⟨hl,he⟩:=List.getElem?_eq_some_iff.1 hb
  have hl':i<s.size:=by simpa using hl
  rw[getElem?_pos s i hl']
  congr 1
 unfold Instr.index
 rw[J0c]
 have e1:J0k Tryz.prog (asIntOf (.int .i64 (i:Int)))=some (.i64,(i:Int)):=rfl
 rw[e1]
 simp only[Option.bind_some]
 rw[J0c,J1R Tryz.underlying9]
 simp only[Option.bind_some,Int.toNat_natCast]
 rw[if_pos (by omega),hg]
 rfl
theorem JeR {s:ByteArray} {b:UInt8} (hb:s.data.toList[0]?=some b):J0k Tryz.prog (Instr.index 9 (.string s) (.int .i64 0))=some (.int .u8 (b.toNat:Int)):=J7c (i:=0) hb
theorem JaO {s:ByteArray}:(s==⟨#[]⟩)=s.data.toList.isEmpty:=by
 cases s with
 | mk d=>
  show (d == #[])=_
  cases d with
  | mk l=>cases l <;> rfl
section
variable {call:J0r} {n:Nat} {h:SHeap} {s:ByteArray}
def idxW (s:ByteArray):Int:=if J2D.findIdx (fun w=>s==J6S w)<41 then J2D.findIdx (fun w=>s==J6S w) else -1
theorem Jju {h:SHeap} {a:Option Addr} {n c:Nat}:lenS Tryz.prog h 24 (.slice a n c)=some (.int .i64 n):=by simp[lenS,Tryz.underlying24]
theorem Jis {i:Nat} (hi:i<41):J0R Tryz.prog 24 (.slice (some ⟨0,0,none⟩) 41 41) (.int .i64 (i:Int))=some (.pointer (some ⟨0,i,none⟩)):=by
 simp only[J0R,Tryz.underlying24,sz9,J0q]
 rw[if_pos (by omega)]
 simp
theorem Jck {i:Nat} (hi:i<41):ld1 i J14=some (.string (J6S (J2D[i]'(by rw[J3X];exact hi)))):=by
 simp only[J14,ld1,J5v,List.getElem?_map]
 rw[List.getElem?_eq_getElem (by rw[J3X];exact hi)]
 rfl
theorem Jbh (hg:h.get 0=J14) (hn:41<n):J0L Tryz.prog call n 139 [.slice (some ⟨0,0,none⟩) 41 41,.string s] h=some (iv (idxW s),h):=by
 refine J1m Tryz.func139 rfl (by simp[Tryz.f139]) ?_
 have hr:Tryz.f139.results.toList=[.tmp 4]:=rfl
 have hle:J2D.findIdx (fun w=>s==J6S w)≤41:=by have:=List.findIdx_le_length (xs:=J2D) (p:=fun w=>s==J6S w);rw[J3X] at this;exact this
 simp only[evC,↓reduceIte,Nat.reduceEqDiff,reduceCtorEq,↓evP,rpC,Nat.reduceAdd,Nat.reduceLT,hr,Jju]
 refine WK.loop (fun i s'=>s'.h=h∧s'.T.get 0=.slice (some ⟨0,0,none⟩) 41 41∧s'.T.get 1=.string s∧s'.T.get 7=.int .i64 41∧s'.T.get 8=.int .i64 i) (J2D.findIdx (fun w=>s==J6S w)) (by omega) ?_ ?_
 ·simp only[evC,↓reduceIte,Nat.reduceEqDiff,reduceCtorEq,↓evP,rpC,Nat.reduceAdd,Nat.reduceLT]
  exact⟨rfl,rfl⟩
 ·rintro i ⟨T1,h1⟩ hi ⟨rfl,t0,t1,t7,t8⟩
  simp only at t0 t1 t7 t8
  unfold idxW
  by_cases hlt:i<J2D.findIdx (fun w=>s==J6S w)
  ·have hi41:i<41:=by omega
   have c1:decide ((i:Int)<41)=true:=by simp;omega
   have hne:=List.not_of_lt_findIdx hlt
   have w5:IntKind.i64.wrap ((i:Int)+1)=((i+1:Nat):Int):=J0s (by omega) (by omega)
   simp only[evC,seval,↓evP,rpC,t0,t1,t7,t8,c1,Jis hi41,hg,Jck hi41,hne]
   exact⟨hlt,w5⟩
  ·have hie:i=J2D.findIdx (fun w=>s==J6S w):=by omega
   by_cases h41:i<41
   ·have c1:decide ((i:Int)<41)=true:=by simp;omega
    have heq:(s==J6S (J2D[i]'(by rw[J3X];exact h41)))=true:=by
     have:=List.findIdx_getElem (xs:=J2D) (p:=fun w=>s==J6S w) (w:=by rw[← hie,J3X];exact h41)
     simp only[← hie] at this
     exact this
    rw[← hie,if_pos h41]
    simp only[evC,seval,↓evP,rpC,hr,t0,t1,t7,t8,c1,Jis h41,hg,Jck h41,heq]
   ·have c1:decide ((i:Int)<41)=false:=by simp;omega
    rw[← hie,if_neg h41]
    simp only[evC,seval,↓evP,rpC,hr,t0,t1,t7,t8,c1]
theorem Jg6:decide (idxW s≥0)=J3d s:=by
 unfold idxW J3d
 split
 ·rename_i h
  rw[decide_eq_true h,decide_eq_true (by omega)]
 ·rename_i h
  rw[decide_eq_false h]
  rfl
theorem J7A (h123:call 139 [.slice (some ⟨0,0,none⟩) 41 41,.string s] h=some (iv (idxW s),h)):J0L Tryz.prog call n 131 [.slice (some ⟨0,0,none⟩) 41 41,.string s] h=some (.bool (J3d s),h):=by
 refine J1m Tryz.func131 rfl (by simp[Tryz.f131]) ?_
 have hr:Tryz.f131.results.toList=[.tmp 4]:=rfl
 simp only[evC,seval,↓evP,rpC,hr,h123,Jg6]
theorem J9c:J2M Tryz.prog h 145 (.pointer (some ⟨0,0,none⟩)) none none none=some (.slice (some ⟨0,0,none⟩) 41 41):=by
 simp[J2M,Tryz.underlying145,J3a,sz9,J0q]
theorem JgS (h117:call 131 [.slice (some ⟨0,0,none⟩) 41 41,.string s] h=some (.bool (J3d s),h)):J0L Tryz.prog call n 121 [.string s] h=some (.bool (J3d s),h):=by
 refine J1m Tryz.func121 rfl (by simp[Tryz.f121]) ?_
 have hr:Tryz.f121.results.toList=[.tmp 2]:=rfl
 simp only[evC,seval,↓evP,rpC,hr,JdT,J9c,h117]
theorem J9w (h105:∀ (b:UInt8) h,call 120 [.int .u8 (b.toNat:Int)] h=some (.bool (J15 b.toNat),h)) (h107:∀ (b:UInt8) h,call 122 [.int .u8 (b.toNat:Int)] h=some (.bool (J2d b.toNat),h))
  (h106:call 121 [.string s] h=some (.bool (J3d s),h)) (hn:64<n):J0L Tryz.prog call n 111 [.string s] h=some (.bool (J09 s),h):=by
 refine J1m Tryz.func111 rfl (by simp[Tryz.f111]) ?_
 have hr:Tryz.f111.results.toList=[.tmp 2]:=rfl
 unfold J09
 cases hl:s.data.toList with
 | nil=>
  have e0:(s==⟨#[]⟩)=true:=by rw[JaO,hl];rfl
  simp only[evC,seval,↓evP,rpC,hr,e0]
 | cons c l=>
  have e0:(s==⟨#[]⟩)=false:=by rw[JaO,hl];rfl
  have i0:=JeR (s:=s) (b:=c) (by rw[hl];rfl)
  simp only
  generalize hA:(c :: l).all (fun c=>J15 c.toNat||J2d c.toNat)=A
  by_cases hlen:(c :: l).length≤64
  ·have d1:decide (((c :: l).length:Int)>64)=false:=by simp only[decide_eq_false_iff_not];omega
   cases hc:J15 c.toNat with
   | false=>simp only[evC,seval,↓evP,rpC,hr,e0,len9,hl,d1,J2g,i0,h105,hc,Bool.and_false,Bool.false_and]
   | true=>
    cases hw:J3d s with
    | true=>simp only[evC,seval,↓evP,rpC,hr,e0,len9,hl,d1,J2g,i0,h105,hc,h106,hw,Bool.and_false,Bool.false_and]
    | false=>
     simp only[evC,↓reduceIte,Nat.reduceEqDiff,reduceCtorEq,↓evP,rpC,Nat.reduceAdd,Nat.reduceLT,hr,e0,len9,hl,d1,J2g,i0,h105,hc,h106,hw,decide_eq_true hlen]
     rw[← hl] at *
     generalize hL:s.data.toList=L at *
     refine WK.loop (fun i s'=>s'.h=h∧s'.T.get 0=.string s∧s'.T.get 22=.int .i64 L.length∧s'.T.get 23=.int .i64 i∧(L.take i).all (fun c=>J15 c.toNat||J2d c.toNat)=true) L.length (by omega) ?_ ?_
     ·simp only[evC,↓reduceIte,Nat.reduceEqDiff,reduceCtorEq,↓evP,rpC,Nat.reduceAdd,Nat.reduceLT]
      exact⟨rfl,rfl⟩
     ·rintro i ⟨T1,h1⟩ hi ⟨rfl,t0,t22,t23,hall⟩
      simp only at t0 t22 t23
      by_cases hlt:i<L.length
      ·have c1:decide ((i:Int)<(L.length:Int))=true:=by simp;omega
       obtain⟨b,hb⟩:∃ b,L[i]?=some b:=⟨_,List.getElem?_eq_getElem hlt⟩
       have ib:=J7c (s:=s) (i:=i) (b:=b) (by rw[hL];exact hb)
       have w5:IntKind.i64.wrap ((i:Int)+1)=((i+1:Nat):Int):=J0s (by omega) (by omega)
       have hst:(L.take (i+1)).all (fun c=>J15 c.toNat||J2d c.toNat)=((L.take i).all (fun c=>J15 c.toNat||J2d c.toNat)&&(J15 b.toNat||J2d b.toNat)):=by
        rw[List.take_add_one,hb,List.all_append]
        simp
       have hbad:(J15 b.toNat||J2d b.toNat)=false→L.all (fun c=>J15 c.toNat||J2d c.toNat)=false:=fun h=>by
        rw[List.all_eq_false]
        exact⟨b,List.mem_of_getElem? hb,by rw[h];simp⟩
       cases q1:J15 b.toNat with
       | true=>
        simp only[evC,seval,↓evP,rpC,hr,t0,t22,t23,c1,J2g,ib,h105,q1]
        exact⟨hlt,w5,by rw[hst,hall,q1];rfl⟩
       | false=>
        cases q2:J2d b.toNat with
        | true=>
         simp only[evC,seval,↓evP,rpC,hr,t0,t22,t23,c1,J2g,ib,h105,h107,q1,q2]
         exact⟨hlt,w5,by rw[hst,hall,q1,q2];rfl⟩
        | false=>
         simp only[evC,seval,↓evP,rpC,hr,t0,t22,t23,c1,J2g,ib,h105,h107,q1,q2]
         rw[← hA,hbad (by rw[q1,q2];rfl)]
      ·have c1:decide ((i:Int)<(L.length:Int))=false:=by simp;omega
       rw[List.take_of_length_le (by omega)] at hall
       rw[hall] at hA
       subst hA
       simp only[evC,seval,↓evP,rpC,hr,t0,t22,t23,c1]
  ·have d1:decide (((c :: l).length:Int)>64)=true:=by simp only[decide_eq_true_eq];omega
   simp only[evC,seval,↓evP,rpC,hr,e0,len9,hl,d1,decide_eq_false hlen,Bool.false_and]
def J4i (l:List UInt8):Bool:=match l with
 | []=>false
 | c :: r=>J15 c.toNat&&(c :: r).all fun c=>J15 c.toNat||J2d c.toNat
theorem J9i (h124:∀ (b:UInt8) h,call 144 [.int .u8 (b.toNat:Int)] h=some (.bool (J15 b.toNat),h)) (h125:∀ (b:UInt8) h,call 145 [.int .u8 (b.toNat:Int)] h=some (.bool (J2d b.toNat),h))
  (hn:s.data.toList.length<n) (hmax:s.data.toList.length<1000):J0L Tryz.prog call n 142 [.string s] h=some (.bool (J4i s.data.toList),h):=by
 refine J1m Tryz.func142 rfl (by simp[Tryz.f142]) ?_
 have hr:Tryz.f142.results.toList=[.tmp 2]:=rfl
 simp only[evC,↓reduceIte,Nat.reduceEqDiff,reduceCtorEq,↓evP,rpC,Nat.reduceAdd,Nat.reduceLT,hr]
 generalize hL:s.data.toList=L at *
 generalize hA:J4i L=A
 refine WK.loop (fun i s'=>s'.h=h∧s'.T.get 0=.string s∧s'.T.get 3=.int .i64 i∧(L.take i).all (fun c=>J15 c.toNat||J2d c.toNat)=true∧(0<i→∃ c r,L=c :: r∧J15 c.toNat=true)) L.length (by omega) ?_ ?_
 ·simp only[evC,↓reduceIte,Nat.reduceEqDiff,reduceCtorEq,↓evP,rpC,Nat.reduceAdd,Nat.reduceLT]
  exact⟨rfl,rfl⟩
 ·rintro i ⟨T1,h1⟩ hi ⟨rfl,t0,t3,hall,hhd⟩
  simp only at t0 t3
  by_cases hlt:i<L.length
  ·have c1:decide ((i:Int)<(L.length:Int))=true:=by simp;omega
   obtain⟨b,hb⟩:∃ b,L[i]?=some b:=⟨_,List.getElem?_eq_getElem hlt⟩
   have ib:=J7c (s:=s) (i:=i) (b:=b) (by rw[hL];exact hb)
   have w5:IntKind.i64.wrap ((i:Int)+1)=((i+1:Nat):Int):=J0s (by omega) (by omega)
   have hst:(L.take (i+1)).all (fun c=>J15 c.toNat||J2d c.toNat)=((L.take i).all (fun c=>J15 c.toNat||J2d c.toNat)&&(J15 b.toNat||J2d b.toNat)):=by
    rw[List.take_add_one,hb,List.all_append]
    simp
   cases q1:J15 b.toNat with
   | true=>
    simp only[evC,↓reduceIte,Nat.reduceEqDiff,reduceCtorEq,↓evP,rpC,Nat.reduceAdd,Nat.reduceLT,hr,t0,t3,len9,hL,c1,J2g,ib,h124,q1]
    refine⟨hlt,w5,by rw[hst,hall,q1];rfl,fun _=>?_⟩
    by_cases hi0:i=0
    ·subst hi0
     cases L with
     | nil=>simp at hlt
     | cons c r=>simp at hb;subst hb;exact⟨_,_,rfl,q1⟩
    ·exact hhd (by omega)
   | false=>
    by_cases hi0:i=0
    ·subst hi0
     have e0:(((0:Nat):Int)==0)=true:=rfl
     have hf:A=false:=by
      rw[← hA]
      cases L with
      | nil=>simp at hlt
      | cons c r=>simp at hb;subst hb;simp[J4i,q1]
     simp only[evC,↓reduceIte,Nat.reduceEqDiff,reduceCtorEq,↓evP,rpC,Nat.reduceAdd,Nat.reduceLT,hr,t0,t3,len9,hL,c1,J2g,ib,h124,q1,e0,hf]
    ·have e0:((i:Int)==0)=false:=by simp;omega
     cases q2:J2d b.toNat with
     | true=>
      simp only[evC,seval,↓evP,rpC,hr,t0,t3,len9,hL,c1,J2g,ib,h124,h125,q1,q2,e0]
      exact⟨hlt,w5,by rw[hst,hall,q1,q2];rfl,fun _=>hhd (by omega)⟩
     | false=>
      have hf:A=false:=by
       rw[← hA]
       obtain⟨c,r,rfl,hc⟩:=hhd (by omega)
       have:(c :: r).all (fun c=>J15 c.toNat||J2d c.toNat)=false:=by
        rw[List.all_eq_false]
        exact⟨b,List.mem_of_getElem? hb,by rw[q1,q2];simp⟩
       show (J15 c.toNat&&(c :: r).all fun c=>J15 c.toNat||J2d c.toNat)=false
       rw[this,Bool.and_false]
      simp only[evC,seval,↓evP,rpC,hr,t0,t3,len9,hL,c1,J2g,ib,h124,h125,q1,q2,e0,hf]
  ·have c1:decide ((i:Int)<(L.length:Int))=false:=by simp;omega
   rw[List.take_of_length_le (by omega)] at hall
   have hf:A=decide ((L.length:Int)>0):=by
    rw[← hA]
    cases L with
    | nil=>rfl
    | cons c r=>
     obtain⟨c',r',he,hc⟩:=hhd (by simp at hlt;omega)
     cases he
     show (J15 c.toNat&&(c :: r).all fun c=>J15 c.toNat||J2d c.toNat)=_
     rw[hall,hc]
     simp
     try omega
   simp only[evC,seval,↓evP,rpC,hr,t0,t3,len9,hL,c1,hf]
def hitB (K s:ByteArray) (i:Nat):Bool:=(K.data.toList[i]? == some 32)&&((K.data.toList[i+s.data.toList.length+1]? == some 32)&&(K.extract (i+1) (i+s.data.toList.length+1)==s))
def Jay (K s:ByteArray):Bool:=decide ((List.range (K.data.toList.length-(s.data.toList.length+1))).findIdx (hitB K s)<K.data.toList.length-(s.data.toList.length+1))
theorem Jit {h:SHeap} {K:ByteArray} {lo hi:Nat} (h1:lo≤hi) (h2:hi≤K.data.toList.length):J2M Tryz.prog h 9 (.string K) (some (.int .i64 (lo:Int))) (some (.int .i64 (hi:Int))) none=some (.string (K.extract lo hi)):=by
 have hs:K.size=K.data.toList.length:=by simp
 simp only[J2M,Tryz.underlying9,Option.isSome_none,Bool.false_eq_true,if_false,J3a,hs]
 rw[if_pos (by omega)]
 simp only[Int.toNat_natCast]
 rw[if_pos (by omega)]
theorem Jb9 {K:ByteArray} (hK:K.data.toList.length<900) (hn:K.data.toList.length+s.data.toList.length<n) (hmax:s.data.toList.length<1000) (hne:s.data.toList≠[]) (hb:∀ b∈s.data.toList,b≠32) :
  J0L Tryz.prog call n 146 [.string K,.string s] h=some (.bool (Jay K s),h):=by
 refine J1m Tryz.func146 rfl (by simp[Tryz.f146]) ?_
 have hr:Tryz.f146.results.toList=[.tmp 4]:=rfl
 have hpos:0<s.data.toList.length:=List.length_pos_iff.2 hne
 have w0:IntKind.i64.wrap ((s.data.toList.length:Int)+2)=((s.data.toList.length+2:Nat):Int):=J0s (by omega) (by omega)
 simp only[evC,↓reduceIte,Nat.reduceEqDiff,reduceCtorEq,↓evP,rpC,Nat.reduceAdd,Nat.reduceLT,hr,len9,w0]
 generalize hL:s.data.toList=L at *
 refine WK.loop (fun i s'=>s'.h=h∧s'.T.get 0=.string K∧s'.T.get 1=.string s∧s'.T.get 5=.int .i64 ((L.length+2:Nat):Int)∧s'.T.get 6=.int .i64 i) L.length (by omega) ?_ ?_
 ·simp only[evC,↓reduceIte,Nat.reduceEqDiff,reduceCtorEq,↓evP,rpC,Nat.reduceAdd,Nat.reduceLT]
  rfl
 ·rintro i ⟨T1,h1⟩ hi ⟨rfl,t0,t1,t5,t6⟩
  simp only at t0 t1 t5 t6
  by_cases hlt:i<L.length
  ·have c1:decide ((i:Int)<(L.length:Int))=true:=by simp;omega
   obtain⟨b,hbi⟩:∃ b,L[i]?=some b:=⟨_,List.getElem?_eq_getElem hlt⟩
   have ib:=J7c (s:=s) (i:=i) (b:=b) (by rw[hL];exact hbi)
   have hb32:((b.toNat:Int)==32)=false:=by
    have hx:=hb b (List.mem_of_getElem? hbi)
    simp only[beq_eq_false_iff_ne,ne_eq]
    intro e
    apply hx
    have e2:b.toNat=32:=by omega
    exact UInt8.toNat_inj.1 e2
   have w5:IntKind.i64.wrap ((i:Int)+1)=((i+1:Nat):Int):=J0s (by omega) (by omega)
   simp only[evC,seval,↓evP,rpC,hr,t0,t1,t5,t6,len9,hL,c1,J2g,ib,hb32]
   exact⟨hlt,w5⟩
  ·have c1:decide ((i:Int)<(L.length:Int))=false:=by simp;omega
   simp only[evC,seval,↓evP,rpC,hr,t0,t1,t5,t6,len9,hL,c1]
   unfold Jay
   rw[hL]
   generalize hN:K.data.toList.length-(L.length+1)=N at *
   have hle:(List.range N).findIdx (hitB K s)≤N:=by have:=List.findIdx_le_length (xs:=List.range N) (p:=hitB K s);simpa using this
   generalize hq:(List.range N).findIdx (hitB K s)=q at *
   refine WK.loop (fun i s'=>s'.h=h1∧s'.T.get 0=.string K∧s'.T.get 1=.string s∧s'.T.get 5=.int .i64 ((L.length+2:Nat):Int)∧s'.T.get 7=.int .i64 i) q (by omega) ?_ ?_
   ·simp only[evC,↓reduceIte,Nat.reduceEqDiff,reduceCtorEq,↓evP,rpC,Nat.reduceAdd,Nat.reduceLT,t0,t1,t5]
    rfl
   ·rintro j ⟨T2,h2⟩ hj ⟨rfl,u0,u1,u5,u7⟩
    simp only at u0 u1 u5 u7
    have w1:IntKind.i64.wrap ((j:Int)+((L.length+2:Nat):Int))=((j+L.length+2:Nat):Int):=by rw[J0s (by omega) (by omega)];omega
    have w2:IntKind.i64.wrap (((j+L.length+2:Nat):Int)-1)=((j+L.length+1:Nat):Int):=by rw[J0s (by omega) (by omega)];omega
    have w3:IntKind.i64.wrap ((j:Int)+1)=((j+1:Nat):Int):=J0s (by omega) (by omega)
    by_cases hjN:j<N
    ·have c2 : decide (((j + L.length + 2 : Nat):Int)≤(K.data.toList.length:Int))=true:=by simp only[decide_eq_true_eq];omega
     obtain⟨b1,hb1⟩:∃ b,K.data.toList[j]?=some b:=⟨_,List.getElem?_eq_getElem (by omega)⟩
     obtain⟨b2,hb2⟩:∃ b,K.data.toList[j+L.length+1]?=some b:=⟨_,List.getElem?_eq_getElem (by omega)⟩
     have i1:=J7c hb1
     have i2:=J7c hb2
     have s1:=Jit (h:=h2) (K:=K) (lo:=j+1) (hi:=j+L.length+1) (by omega) (by omega)
     have x32:∀ b:UInt8,((b.toNat:Int)==32)=(some b==some (32:UInt8)):=fun b=>by
      apply Bool.eq_iff_iff.2
      simp only[beq_iff_eq,Option.some.injEq]
      constructor
      ·intro e; exact UInt8.toNat_inj.1 (by have:b.toNat=32:=by omega
                                            exact this)
      ·rintro rfl;rfl
     have hhit:hitB K s j=((some b1==some (32:UInt8))&&((some b2==some (32:UInt8))&&(K.extract (j+1) (j+L.length+1)==s))):=by
      unfold hitB
      rw[hL,hb1,hb2]
     have done:j<q→hitB K s j=false:=fun hjq=>by
      have:=List.not_of_lt_findIdx (xs:=List.range N) (p:=hitB K s) (i:=j) (by rw[hq];exact hjq)
      simpa using this
     have found:¬ j<q→hitB K s j=true:=fun hjq=>by
      have hjq':j=q:=by omega
      have:=List.findIdx_getElem (xs:=List.range N) (p:=hitB K s) (w:=by rw[hq];simp;omega)
      simp only[hq,List.getElem_range] at this
      rw[hjq']
      exact this
     have fin:¬ j<q→decide (q<N)=true:=fun _=>decide_eq_true (by omega)
     rw[hhit] at done found
     cases d1:(some b1==some (32:UInt8)) with
     | false=>
      have hlt:j<q:=by
       rcases Nat.lt_or_ge j q with h | h
       ·exact h
       ·have:=found (by omega);rw[d1] at this;cases this
      simp only[evC,seval,↓evP,rpC,hr,u0,u1,u5,u7,len9,w1,c2,J2g,i1,x32,d1]
      exact⟨hlt,w3⟩
     | true=>
      cases d2:(some b2==some (32:UInt8)) with
      | false=>
       have hlt:j<q:=by
        rcases Nat.lt_or_ge j q with h | h
        ·exact h
        ·have:=found (by omega);rw[d1,d2] at this;cases this
       simp only[evC,seval,↓evP,rpC,hr,u0,u1,u5,u7,len9,w1,w2,c2,J2g,i1,i2,x32,d1,d2]
       exact⟨hlt,w3⟩
      | true=>
       cases d3:(K.extract (j+1) (j+L.length+1)==s) with
       | false=>
        have hlt:j<q:=by
         rcases Nat.lt_or_ge j q with h | h
         ·exact h
         ·have:=found (by omega);rw[d1,d2,d3] at this;cases this
        simp only[evC,seval,↓evP,rpC,hr,u0,u1,u5,u7,len9,w1,w2,w3,c2,J2g,i1,i2,x32,d1,d2,s1,d3]
        exact hlt
       | true=>
        have hge:¬ j<q:=fun h=>by have:=done h;rw[d1,d2,d3] at this;cases this
        have l0:decide ((L.length:Int)>0)=true:=by simp;omega
        simp only[evC,seval,↓evP,rpC,hr,u0,u1,u5,u7,len9,hL,w1,w2,w3,c2,J2g,i1,i2,x32,d1,d2,s1,d3,fin hge,l0]
    ·have c2:decide (((j+L.length+2:Nat):Int)≤(K.data.toList.length:Int))=false:=by simp only[decide_eq_false_iff_not];omega
     have fin:decide (q<N)=false:=decide_eq_false (by omega)
     simp only[evC,seval,↓evP,rpC,hr,u0,u1,u5,u7,len9,w1,c2,fin]
end
end Go.Proofs.YtdejoodfeljmkaaGreatDoor
