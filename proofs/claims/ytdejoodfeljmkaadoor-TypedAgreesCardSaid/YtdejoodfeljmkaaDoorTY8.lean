/- Part 8 of what the claim leans on: 20 texts laid one behind another. -/
import Derived.Test.YtdejoodfeljmkaaDoorTY7
import Derived.Laws.Bits64b
import Derived.Lib.Mul64
import Derived.Test.YtdejoodfeljmkaaDoorProg
namespace Go.Sx
open Go
set_option linter.unusedSimpArgs false
set_option linter.unusedVariables false
set_option maxHeartbeats 64000000
inductive CO where
 | top (Q:EI→St→Prop)
 | seq (b:Code) (k:CO)
 | block (id:Nat) (k:CO)
 | inv (J:St→Prop) (k:CO)
def CO.ap (P:Program) (call:AM) (n:Nat):CO→EI→St→Prop
 | .top Q,e,s=>Q e s
 | .seq b k,.normal,s=>WS P call n b s (k.ap P call n)
 | .seq _ k,e,s=>k.ap P call n e s
 | .block id k,.exit i,s=>if i=id then k.ap P call n .normal s else k.ap P call n (.exit i) s
 | .block _ k,e,s=>k.ap P call n e s
 | .inv J _,.normal,s=>J s
 | .inv _ k,e,s=>k.ap P call n e s
def WK (P:Program) (call:AM) (n:Nat) (c:Code) (s:St) (k:CO):Prop:=WS P call n c s (k.ap P call n)
def LE (P:Program) (call:AM) (n:Nat) (ops:Array Oper) (l:List Oper) (s:St) (k:CO):Prop:=WL P call ops l s (k.ap P call n .normal)
def PU (P:Program) (call:AM) (n:Nat) (ops:Array Oper) (l:List Oper) (dst:Option Tmp) (T:Tr) (k:CO):Option (Value × AA)→Prop
 | some (v,h)=>LE P call n ops l ⟨T.put dst v,h⟩ k
 | none=>False
def UR (P:Program) (call:AM) (n:Nat) (ops:Array Oper) (l:List Oper) (dst:Option Tmp) (T:Tr) (h:AA) (k:CO):Option Value→Prop
 | some v=>LE P call n ops l ⟨T.put dst v,h⟩ k
 | none=>False
def oW (P:Program) (call:AM) (n:Nat) (a b:Code) (s:St) (k:CO):Value→Prop
 | .bool t=>(t=true→WK P call n a s k)∧(t=false→WK P call n b s k)
 | _=>False
section
variable {P:Program} {call:AM} {n:Nat} {s:St} {k:CO} {Q:EI→St→Prop}
theorem rA {e:EI}:(CO.top Q).ap P call n e s=Q e s:=rfl
theorem Q5 {b:Code}:(CO.seq b k).ap P call n .normal s=WK P call n b s k:=rfl
theorem dT {b:Code} {i:Nat}:(CO.seq b k).ap P call n (.exit i) s=k.ap P call n (.exit i) s:=rfl
theorem oL {b:Code}:(CO.seq b k).ap P call n .ret s=k.ap P call n .ret s:=rfl
theorem oR {id:Nat}:(CO.block id k).ap P call n .normal s=k.ap P call n .normal s:=rfl
theorem qU {id i:Nat}:(CO.block id k).ap P call n (.exit i) s=if i=id then k.ap P call n .normal s else k.ap P call n (.exit i) s:=rfl
theorem pS {id:Nat}:(CO.block id k).ap P call n .ret s=k.ap P call n .ret s:=rfl
theorem kD {J:St→Prop}:(CO.inv J k).ap P call n .normal s=J s:=rfl
theorem pU {J:St→Prop} {i:Nat}:(CO.inv J k).ap P call n (.exit i) s=k.ap P call n (.exit i) s:=rfl
theorem iU {J:St→Prop}:(CO.inv J k).ap P call n .ret s=k.ap P call n .ret s:=rfl
theorem rK:WK P call n .skip s k=k.ap P call n .normal s:=by
 apply propext;simp only[WK,WS,B8,Option.some.injEq,Prod.mk.injEq]
 exact⟨fun ⟨_,_,⟨rfl,rfl⟩,h⟩=>h,fun h=>⟨_,_,⟨rfl,rfl⟩,h⟩⟩
theorem i9 {id:Nat}:WK P call n (.exit id) s k=k.ap P call n (.exit id) s:=by
 apply propext;simp only[WK,WS,B8,Option.some.injEq,Prod.mk.injEq]
 exact⟨fun ⟨_,_,⟨rfl,rfl⟩,h⟩=>h,fun h=>⟨_,_,⟨rfl,rfl⟩,h⟩⟩
theorem m_:WK P call n .ret s k=k.ap P call n .ret s:=by
 apply propext;simp only[WK,WS,B8,Option.some.injEq,Prod.mk.injEq]
 exact⟨fun ⟨_,_,⟨rfl,rfl⟩,h⟩=>h,fun h=>⟨_,_,⟨rfl,rfl⟩,h⟩⟩
theorem K_ {a b:Code}:WK P call n (.seq a b) s k=WK P call n a s (.seq b k):=by
 apply propext
 constructor
 ·rintro ⟨e,s',h1,h2⟩
  simp only[B8] at h1
  split at h1
  ·rename_i s1 h3
   exact⟨_,_,h3,_,_,h1,h2⟩
  ·rename_i hne
   refine⟨_,_,h1,?_⟩
   cases e with
   | normal=>exact absurd h1 (hne _)
   | exit id=>exact h2
   | ret=>exact h2
 ·rintro ⟨e,s',h1,h2⟩
  cases e with
  | normal=>
   obtain⟨e2,s2,h3,h4⟩:=h2
   exact⟨e2,s2,by simp only[B8,h1,h3],h4⟩
  | exit id=>exact⟨_,_,by simp only[B8,h1],h2⟩
  | ret=>exact⟨_,_,by simp only[B8,h1],h2⟩
theorem S_ {id:Nat} {c:Code}:WK P call n (.block id c) s k=WK P call n c s (.block id k):=by
 apply propext
 constructor
 ·rintro ⟨e,s',h1,h2⟩
  simp only[B8] at h1
  split at h1
  ·rename_i i s1 h3
   refine⟨_,_,h3,?_⟩
   unfold CO.ap
   split at h1 <;> (cases h1;simp_all)
  ·rename_i hne
   refine⟨_,_,h1,?_⟩
   cases e with
   | normal=>exact h2
   | exit id=>exact absurd h1 (hne _ _)
   | ret=>exact h2
 ·rintro ⟨e,s',h1,h2⟩
  cases e with
  | normal=>exact⟨_,_,by simp only[B8,h1],h2⟩
  | exit i=>
   by_cases hi:i=id
   ·subst hi
    exact⟨.normal,s',by simp only[B8,h1,if_true],by simpa [CO.ap] using h2⟩
   ·exact⟨.exit i,s',by simp only[B8,h1,hi,if_false],by simpa [CO.ap,hi] using h2⟩
  | ret=>exact⟨_,_,by simp only[B8,h1],h2⟩
theorem d_ {c:Operand} {a b:Code}:WK P call n (.cond c a b) s k=oW P call n a b s k (ev s.T c):=by
 apply propext
 constructor
 ·rintro ⟨e,s',h1,h2⟩
  simp only[B8] at h1
  split at h1
  ·rename_i he;rw[he];exact⟨fun _=>⟨_,_,h1,h2⟩,fun h=>(by cases h)⟩
  ·rename_i he;rw[he];exact⟨fun h=>(by cases h),fun _=>⟨_,_,h1,h2⟩⟩
  ·cases h1
 ·intro h
  cases he:ev s.T c with
  | bool t=>rw[he] at h;exact .cond he h.1 h.2
  | _=>rw[he] at h;exact h.elim
theorem qJ {a b:Code} {t:Bool}:oW P call n a b s k (.bool t)=((t=true→WK P call n a s k)∧(t=false→WK P call n b s k)):=rfl
theorem jQ {id:Nat} {ops:Array Oper}:WK P call n (.region id ops false) s k=LE P call n ops ops.toList s k:=by
 apply propext
 refine⟨fun ⟨e,s',h1,h2⟩=>?_,.region⟩
 simp only[B8,Bool.false_eq_true,if_false] at h1
 cases hs:JI P call ops ops.toList s with
 | none=>rw[hs] at h1;cases h1
 | some s1=>rw[hs] at h1;cases h1;exact⟨_,hs,h2⟩
theorem mF {ops:Array Oper}:LE P call n ops [] s k=k.ap P call n .normal s:=by
 simp[LE,WL,JI]
theorem mD {ops:Array Oper} {o:Oper} {l:List Oper}:LE P call n ops (o :: l) s k=if DI ops s.T o then PU P call n ops l o.dst s.T k (AN P call s.T s.h o.op) else LE P call n ops l ⟨s.T.put o.dst undef,s.h⟩ k:=by
 apply propext
 constructor
 ·rintro ⟨s',h1,h2⟩
  simp only[JI,FG] at h1
  by_cases hw:DI ops s.T o=true
  ·rw[if_pos hw] at h1 ⊢
   cases hs:AN P call s.T s.h o.op with
   | none=>rw[hs] at h1;cases h1
   | some r=>
    obtain⟨v,h'⟩:=r
    rw[hs] at h1
    exact⟨s',h1,h2⟩
  ·rw[if_neg hw] at h1 ⊢
   exact⟨s',h1,h2⟩
 ·intro h
  by_cases hw:DI ops s.T o=true
  ·rw[if_pos hw] at h
   cases hs:AN P call s.T s.h o.op with
   | none=>rw[hs] at h;exact h.elim
   | some r=>
    obtain⟨v,h'⟩:=r
    rw[hs] at h
    exact .step hw hs h
  ·rw[if_neg hw] at h
   exact .pass (by simpa using hw) h
section
variable {ops:Array Oper} {l:List Oper} {dst:Option Tmp} {T:Tr} {h:AA} {v:Value}
theorem mL:PU P call n ops l dst T k (some (v,h))=LE P call n ops l ⟨T.put dst v,h⟩ k:=rfl
theorem qB {r:Option Value}:PU P call n ops l dst T k (r.map (·,h))=UR P call n ops l dst T h k r:=by cases r <;> rfl
theorem kN:UR P call n ops l dst T h k (some v)=LE P call n ops l ⟨T.put dst v,h⟩ k:=rfl
theorem PU.of {r:Option (Value × AA)} {h':AA} (hr:r=some (v,h')) (hk:LE P call n ops l ⟨T.put dst v,h'⟩ k):PU P call n ops l dst T k r:=by rw[hr];exact hk
theorem UR.of {r:Option Value} (hr:r=some v) (hk:LE P call n ops l ⟨T.put dst v,h⟩ k):UR P call n ops l dst T h k r:=by rw[hr];exact hk
end
theorem WK.loop {c:Code} (I:Nat→St→Prop) (N:Nat) (hN:N<n) (h0:I 0 s)
  (hr:∀ i s,i≤N→I i s→WK P call n c s (.inv (fun s'=>i<N∧I (i+1) s') k)):WK P call n (.loop c) s k:=
 WS.loop I N hN h0 fun i s hi hI=>(hr i s hi hI).mono fun e s' he=>by cases e <;> exact he
theorem U9 (t:Nat):Tr.leaf.get t=undef:=rfl
theorem VO {ops:Array Oper} {T:Tr} {o:Oper} (h:o.guard=none):DI ops T o=true:=by simp[DI,h]
theorem XI {T:Tr} {t:Nat}:ev T (.tmp t)=T.get t:=rfl
theorem XM {T:Tr} {v:Value}:ev T (.const v)=v:=rfl
theorem Ac {T:Tr} {g:Nat}:ev T (.global g)=.pointer (some ⟨g,0,none⟩):=rfl
theorem XN {T:Tr} {f:Nat}:ev T (.func f)=.func (.func f) #[] #[]:=rfl
end
theorem max2 {k:IntKind} {x y:Int}:TZ [.int k x,.int k y]=some (.int k (if y>x then y else x)):=rfl
theorem min2 {k:IntKind} {x y:Int}:TE [.int k x,.int k y]=some (.int k (if y<x then y else x)):=rfl
def OL:Value→Bool→Bool
 | .bool b,w=>b==w
 | _,_=>false
noncomputable def dC:Option Tmp→Tr→Bool→Bool
 | some d,T,w=>OL (T.get d) w
 | none,_,_=>false
theorem VU {ops:Array Oper} {T:Tr} {dst:Option Tmp} {op:Op} {type:TypeId} {pos:String} {after:Array Edge} {j:Nat} {w:Bool}:DI ops T ⟨dst,op,type,pos,after,some (j,w)⟩=dC ((ops[j]?).bind (·.dst)) T w:=by
 simp only[DI]
 cases (ops[j]?).bind (·.dst) with
 | none=>rfl
 | some d=>simp only[dC];cases T.get d <;> rfl
theorem UC {d:Tmp} {T:Tr} {w:Bool}:dC (some d) T w=OL (T.get d) w:=rfl
theorem qK {w:Bool}:OL undef w=false:=by cases w <;> rfl
theorem U7 {b:Bool}:OL (.bool b) true=b:=by simp[OL]
theorem VE {b:Bool}:OL (.bool b) false = !b:=by simp[OL]
theorem DG {P:Program} {call:AM} {n:Nat} {f:FuncId} {args:List Value} {h h':AA} {fn:Func} {c:Code} {V:Value} (hf:P.funcs[f]?=some fn) (hb:fn.body=some c) (hl:args.length≤fn.ntmps)
  (hw:WK P call n c ⟨HY 0 args .leaf,h⟩ (.top fun e s=>(e=.normal∨e=.ret)∧∃ vs,FU P s fn.results.toList=some vs∧HZ vs=V∧s.h=h')):A7 P call n f args h=some (V,h'):=by
 obtain⟨v,h1,h2,rfl,rfl⟩:=aE (R:=fun u h''=>u=V∧h''=h') hf hb hl hw
 exact h2
theorem EQ {P:Program} {call:AM} {n:Nat} {f:FuncId} {args:List Value} {h:AA} {fn:Func} {c:Code} {V:Value} {R:AA→Prop} (hf:P.funcs[f]?=some fn) (hb:fn.body=some c) (hl:args.length≤fn.ntmps)
  (hw:WK P call n c ⟨HY 0 args .leaf,h⟩ (.top fun e s=>(e=.normal∨e=.ret)∧∃ vs,FU P s fn.results.toList=some vs∧HZ vs=V∧R s.h)):∃ h',A7 P call n f args h=some (V,h')∧R h':=by
 obtain⟨v,h1,h2,rfl,h3⟩:=aE (R:=fun u h''=>u=V∧R h'') hf hb hl hw
 exact⟨h1,h2,h3⟩
def pD (P:Program) (ops:Array Oper):Bool:=(List.range ops.size).all fun k=>match ops[k]? with
 | none=>true
 | some o=>match AC o.op with
  | .read _=>!ML ops k
  | .act=>!MI ops k
  | .store=>(J_ ops k).isEmpty
  | .new=>true
  | .pure=>match o.op with
   | .call c=>(match c.argTypes.toList with | [t]=>(match P.underlying t with | some (.map _ _)=>false | some (.array _ _)=>false | _=>true) | _=>true)
   | _=>true
theorem Fq {P:Program} {call:AM} {ops:Array Oper} (hq:pD P ops=true) {start i:Nat} {o:Oper} (ho:ops[i]?=some o) {s s':St} (h:FG P call ops o s=some s'):OA P call ops start i o s=some s':=by
 have hlt:i<ops.size:=(Array.getElem?_eq_some_iff.1 ho).1
 have hk:=List.all_eq_true.1 hq i (List.mem_range.2 hlt)
 simp only[ho] at hk
 unfold OA
 by_cases hw:DI ops s.T o=true
 ·rw [if_pos hw]
  cases hc:AC o.op with
  | read a=>
   rw[hc] at hk
   simp only[Bool.not_eq_true'] at hk
   simp[hk,h]
  | act=>
   rw[hc] at hk
   simp only[Bool.not_eq_true'] at hk
   simp[hk,h]
  | new=>exact h
  | store=>
   rw[hc] at hk
   simp only[List.isEmpty_iff] at hk
   simp only[hk,List.all_nil,if_true]
   split
   ·exact h
   ·exact h
   ·exact h
   ·rename_i h1 h1' h2
    cases hop:o.op with
    | store t a x=>exact absurd hop (h1 t a x)
    | mapUpdate t a k x=>exact absurd hop (h2 t a k x)
    | insert t a k x=>exact absurd hop (h1' t a k x)
    | call c=>
     rw[hop] at hc
     simp only[AC] at hc
     split at hc <;> cases hc
    | _=>rw[hop] at hc;simp[AC] at hc
  | pure=>
   rw[hc] at hk
   simp only at hk ⊢
   cases hop:o.op with
   | call c=>
    simp only[hop] at hk ⊢
    split
    ·rename_i r hargs
     exfalso
     obtain⟨v,h',hs,_⟩:=NA hw h
     rw[hop] at hs hc
     simp only[AC] at hc
     simp only[AN,NW,HL,hargs] at hs
     split at hs
     ·split at hs
      ·rename_i t x h1 h2
       cases h2
       simp only[h1] at hk
       simp only[C7] at hs
       split at hk
       ·cases hk
       ·cases hk
       ·rename_i hne1 hne2
        cases hu:P.underlying t with
        | none=>simp[hu] at hs
        | some d=>cases d <;> (first | (simp[hu] at hs;done) | (exact hne1 _ _ hu) | (exact hne2 _ _ hu))
      ·cases hs
     all_goals first | (simp[TZ,TE] at hs;done) | (simp_all;done)
    ·exact h
   | _=>exact h
 ·rw[if_neg hw]
  unfold FG at h
  rw[if_neg hw] at h
  exact h
theorem WK.quiet {P:Program} {call:AM} {n id:Nat} {ops:Array Oper} {s:St} {k:CO} (hq:pD P ops=true) (h:LE P call n ops ops.toList s k):WK P call n (.region id ops true) s k:=by
 obtain⟨s',h1,h2⟩:=h
 have key:∀ (l:List Oper) (i:Nat) (s:St),(∀ k,l[k]?=ops[i+k]?)→JI P call ops l s=some s'→∀ start,KB P call ops start i l s=some s':=by
  intro l
  induction l with
  | nil=>intro i s _ h start;exact h
  | cons o l ih=>
   intro i s hl h start
   simp only[JI] at h
   split at h
   ·rename_i s1 h3
    have ho:ops[i]?=some o:=by simpa using (hl 0).symm
    simp only[KB,Fq hq ho h3]
    exact ih (i+1) s1 (fun k=>by have:=hl (k+1);simpa [Nat.add_assoc,Nat.add_comm 1 k] using this) h start
   ·cases h
 exact .draw ⟨s',key _ 0 s (by simp) h1 _,h2⟩
theorem C8 {x:Int} (h1:-9223372036854775808≤x) (h2:x<9223372036854775808):IntKind.i64.wrap x=x:=by
 simp[IntKind.wrap,IntKind.bits,IntKind.signed]
 omega
theorem k7 {p q:Prop}:((true=true→p)∧(true=false→q))=p:=by
 apply propext;exact⟨fun h=>h.1 rfl,fun h=>⟨fun _=>h,fun h=>(by cases h)⟩⟩
theorem iI {p q:Prop}:((false=true→p)∧(false=false→q))=q:=by
 apply propext;exact⟨fun h=>h.2 rfl,fun h=>⟨fun h=>(by cases h),fun _=>h⟩⟩
theorem KF {b:Bool}:flat (.bool b)=true:=rfl
theorem XB {k:IntKind} {x:Int}:flat (.int k x)=true:=rfl
theorem qX {P:Program} {b:Bool}:A8 P (Op.unary .not (.bool b))=some (.bool !b):=rfl
theorem qC {P:Program} {k:IntKind} {x:Int}:A8 P (Op.unary .neg (.int k x))=some (.int k (k.wrap (0-x))):=rfl
theorem CD {P:Program} {α β:Type} (m:Sem α) (f:α→Sem β):A8 P (m >>= f)=(A8 P m).bind fun a=>A8 P (f a):=by
 induction m with
 | pure a=>rfl
 | program k ih=>exact ih P
 | mark x k ih=>exact ih
 | _=>rfl
theorem MR {P:Program} {t:TypeId} {d:TypeDesc} (h:P.underlying t=some d):A8 P (underlying t)=some d:=by
 show A8 P (Sem.bind program _)=_
 simp[program,Sem.bind,A8,h,Pure.pure]
theorem pW {P:Program} {t:TypeId} {a b:Bool} (h:P.underlying t=some .bool):A8 P (Op.equal t (.bool a) (.bool b))=some (a==b):=by
 have key:∀ d,A8 P (Op.equalIn (d+1) t (.bool a) (.bool b))=some (a==b):=by
  intro d
  rw[Op.equalIn,CD,MR h]
  rfl
 exact key 9999
theorem Kx {P:Program} {t:TypeId} {x y:Operand} {a b:Bool} (h:P.underlying t=some .bool):BT P .eql t x y (.bool a) (.bool b)=some (.bool (a==b)):=by
 have e:A8 P (do eqGuard .eql t x y (.bool a) (.bool b);binOp .eql t (.bool a) (.bool b))=some (.bool (a==b)):=by
  show A8 P ((do pure (.bool (← Op.equal t (.bool a) (.bool b)))):Sem Value)=_
  rw[CD,pW h]
  rfl
 simp only[BT,KF,Bool.and_self,if_true,e]
theorem TS {P:Program} {t:TypeId} {x y:Operand} {a b:Bool} (h:P.underlying t=some .bool):BT P .neq t x y (.bool a) (.bool b)=some (.bool (a != b)):=by
 have e:A8 P (do eqGuard .neq t x y (.bool a) (.bool b);binOp .neq t (.bool a) (.bool b))=some (.bool (a != b)):=by
  show A8 P ((do pure (.bool (!(← Op.equal t (.bool a) (.bool b))))):Sem Value)=_
  rw[CD,pW h]
  rfl
 simp only[BT,KF,Bool.and_self,if_true,e]
def VT (h:AA) (v:Value) (l:List Int):Prop:=∃ a c,v=.slice a l.length c∧(∀ b,a=some b→b.spot=none)∧∀ k x,l[k]?=some x→∃ id off cs ty g ro,a=some ⟨id,off,none⟩∧h.get id=.row cs ty g ro∧cs[off+k]?=some (.int .i64 x)
section
variable {P:Program} {h:AA} {v:Value} {l:List Int} {t e:TypeId}
theorem VT.len (hv:VT h v l) (ht:P.underlying t=some (.slice e)):C7 P h t v=some (.int .i64 l.length):=by
 obtain⟨a,c,rfl,_,_⟩:=hv
 simp[C7,ht]
theorem VT.idx (hv:VT h v l) (ht:P.underlying t=some (.slice e)) (he:BI P e=some 1) (ha:FB P e=some false) {k:Nat} {x:Int} (hk:l[k]?=some x) {kd:IntKind} :
  ∃ p,CQ P t v (.int kd k)=some p∧EA P h e p=some (.int .i64 x):=by
 obtain⟨a,c,rfl,_,hall⟩:=hv
 obtain⟨id,off,cs,ty,g,ro,rfl,hg,hc⟩:=hall k x hk
 have hlt:k<l.length:=(List.getElem?_eq_some_iff.1 hk).1
 refine⟨.pointer (some ⟨id,off+k,none⟩),?_,?_⟩
 ·simp[CQ,ht,he,hlt,Addr.add]
 ·simp[EA,hg,ha,hc]
end
def DU (ops:Array Oper):List (Bool × Bool × List Operand):=(List.range ops.size).map fun k=>(ML ops k,MI ops k,J_ ops k)
noncomputable def AF (op:Op) (T:Tr):Bool:=match op with
 | .call c=>(match c.args.toList.map (ev T) with | [.map _]=>false | _=>true)
 | _=>true
def CR:Op→Operand
 | .store _ a _=>a
 | .mapUpdate _ m _ _=>m
 | .insert _ m _ _=>m
 | _=>.const undef
section
variable (P:Program) (call:AM) (n:Nat) (ops:Array Oper) (start:Nat)
noncomputable def MJ (f:Bool × Bool × List Operand) (o:Oper) (s:St):Option St:=
 if DI ops s.T o then match AC o.op with
  | .read a=>if f.1 && !ahead start (CN (ev s.T a)) then none else FG P call ops o s
  | .act=>if f.2.1 then match FG P call ops o ⟨s.T,s.h.fl (max s.h.floor start)⟩ with
    | some s'=>some ⟨s'.T,s'.h.fl s.h.floor⟩
    | none=>none
   else FG P call ops o s
  | .store=>if f.2.2.all (fun x=>CN (ev s.T x) != CN (ev s.T (CR o.op))) then FG P call ops o s else none
  | .pure=>if AF o.op s.T then FG P call ops o s else none
  | .new=>FG P call ops o s
 else some ⟨s.T.put o.dst undef,s.h⟩
theorem tS {i:Nat} {o:Oper} {s s':St} (h:MJ P call ops start (ML ops i,MI ops i,J_ ops i) o s=some s'):OA P call ops start i o s=some s':=by
 unfold MJ at h
 unfold OA
 by_cases hw:DI ops s.T o=true
 ·rw [if_pos hw] at h ⊢
  cases hc:AC o.op with
  | read a=>rw[hc] at h;exact h
  | act=>rw[hc] at h;exact h
  | new=>rw[hc] at h;exact h
  | store=>
   rw[hc] at h
   cases hop:o.op with
   | store t a x=>rw[hop] at h;exact h
   | mapUpdate t a k x=>rw[hop] at h;exact h
   | insert t a k x=>rw[hop] at h;exact h
   | call c=>
    rw[hop] at hc
    simp only[AC] at hc
    split at hc <;> cases hc
   | _=>rw[hop] at hc;simp[AC] at hc
  | pure=>
   rw[hc] at h
   simp only at h ⊢
   cases hop:o.op with
   | call c=>
    simp only[hop,AF] at h ⊢
    split
    ·rename_i r hr
     rw[hr] at h
     simp at h
    ·rename_i hne
     split at h
     ·rename_i r hr;exact absurd hr (hne r)
     ·exact h
   | _=>simp only[hop,AF,if_true] at h ⊢;exact h
 ·rw[if_neg hw] at h ⊢
  exact h
noncomputable def SB:List (Bool × Bool × List Operand)→List Oper→St→Option St
 | _,[],s=>some s
 | f :: fs,o :: l,s=>match MJ P call ops start f o s with
  | some s'=>SB fs l s'
  | none=>none
 | [],_ :: _,_=>none
def CJ (fs:List (Bool × Bool × List Operand)) (l:List Oper) (s:St) (k:CO):Prop:=∃ s',SB P call ops start fs l s=some s'∧k.ap P call n .normal s'
def OF (fs:List (Bool × Bool × List Operand)) (l:List Oper) (dst:Option Tmp) (T:Tr) (fl:Nat) (k:CO):Option (Value × AA)→Prop
 | some (v,h)=>CJ P call n ops start fs l ⟨T.put dst v,h.fl fl⟩ k
 | none=>False
def AE (lr la:Bool) (ls:List Operand) (fs:List (Bool × Bool × List Operand)) (o:Oper) (l:List Oper) (s:St) (k:CO):PF→Prop
 | .read a=>(lr=true→ahead start (CN (ev s.T a))=true)∧OF P call n ops start fs l o.dst s.T s.h.floor k (AN P call s.T s.h o.op)
 | .act=>OF P call n ops start fs l o.dst s.T s.h.floor k (AN P call s.T (if la then s.h.fl (max s.h.floor start) else s.h) o.op)
 | .store=>(ls.all (fun x=>CN (ev s.T x) != CN (ev s.T (CR o.op)))=true)∧OF P call n ops start fs l o.dst s.T s.h.floor k (AN P call s.T s.h o.op)
 | .pure=>AF o.op s.T=true∧OF P call n ops start fs l o.dst s.T s.h.floor k (AN P call s.T s.h o.op)
 | .new=>OF P call n ops start fs l o.dst s.T s.h.floor k (AN P call s.T s.h o.op)
end
section
variable {P:Program} {call:AM} {n:Nat} {ops:Array Oper} {start:Nat} {fs:List (Bool × Bool × List Operand)} {l:List Oper} {s:St} {k:CO}
theorem HN (h:AA):h.fl h.floor=h:=rfl
theorem CJ.cons {lr la:Bool} {ls:List Operand} {o:Oper} (hsn:∀ v h',∀ h:AA,AN P call s.T h o.op=some (v,h')→h'.floor=h.floor)
  (h:if DI ops s.T o then AE P call n ops start lr la ls fs o l s k (AC o.op) else CJ P call n ops start fs l ⟨s.T.put o.dst undef,s.h⟩ k):CJ P call n ops start ((lr,la,ls) :: fs) (o :: l) s k:=by
 by_cases hw:DI ops s.T o=true
 ·rw [if_pos hw] at h
  have plain:OF P call n ops start fs l o.dst s.T s.h.floor k (AN P call s.T s.h o.op)→∃ s',FG P call ops o s=some s'∧CJ P call n ops start fs l s' k:=by
   intro h
   cases hs:AN P call s.T s.h o.op with
   | none=>rw[hs] at h;exact h.elim
   | some r=>
    obtain⟨v,h'⟩:=r
    rw[hs] at h
    have hf:=hsn v h' s.h hs
    refine⟨⟨s.T.put o.dst v,h'⟩,by simp only[FG,hw,if_true,hs],?_⟩
    have e:h'.fl s.h.floor=h':=by rw[← hf];rfl
    have h2:CJ P call n ops start fs l ⟨s.T.put o.dst v,h'.fl s.h.floor⟩ k:=h
    rw[e] at h2
    exact h2
  have fin:∀ s',MJ P call ops start (lr,la,ls) o s=some s'→CJ P call n ops start fs l s' k→CJ P call n ops start ((lr,la,ls) :: fs) (o :: l) s k:=by
   rintro s' h1 ⟨s2,h2,h3⟩
   exact⟨s2,by simp only[SB,h1,h2],h3⟩
  cases hc:AC o.op with
  | read a=>
   rw[hc] at h
   obtain⟨h0,h1⟩:=h
   obtain⟨s',h2,h3⟩:=plain h1
   refine fin s' ?_ h3
   unfold MJ
   rw[if_pos hw,hc]
   simp only
   cases lr with
   | false=>simpa using h2
   | true=>rw[h0 rfl];simpa using h2
  | new=>
   rw[hc] at h
   obtain⟨s',h2,h3⟩:=plain h
   refine fin s' ?_ h3
   unfold MJ
   rw[if_pos hw,hc]
   exact h2
  | pure=>
   rw[hc] at h
   obtain⟨h0,h1⟩:=h
   obtain⟨s',h2,h3⟩:=plain h1
   refine fin s' ?_ h3
   unfold MJ
   rw[if_pos hw,hc]
   simp only[h0,if_true]
   exact h2
  | store=>
   rw[hc] at h
   obtain⟨h0,h1⟩:=h
   obtain⟨s',h2,h3⟩:=plain h1
   refine fin s' ?_ h3
   unfold MJ
   rw[if_pos hw,hc]
   simp only[h0,if_true]
   exact h2
  | act=>
   rw[hc] at h
   cases la with
   | false=>
    obtain⟨s',h2,h3⟩:=plain h
    refine fin s' ?_ h3
    unfold MJ
    rw[if_pos hw,hc]
    simpa using h2
   | true=>
    have h:OF P call n ops start fs l o.dst s.T s.h.floor k (AN P call s.T (s.h.fl (max s.h.floor start)) o.op):=h
    cases hs:AN P call s.T (s.h.fl (max s.h.floor start)) o.op with
    | none=>rw[hs] at h;exact h.elim
    | some r=>
     obtain⟨v,h'⟩:=r
     rw[hs] at h
     refine fin ⟨s.T.put o.dst v,h'.fl s.h.floor⟩ ?_ h
     unfold MJ
     rw[if_pos hw,hc]
     simp only[FG,hw,if_true,hs]
 ·rw[if_neg hw] at h
  obtain⟨s2,h2,h3⟩:=h
  refine⟨s2,?_,h3⟩
  simp only[SB,MJ]
  rw[if_neg hw]
  exact h2
theorem VX {dst:Option Tmp} {T:Tr} {fl:Nat} {v:Value} {h:AA}:OF P call n ops start fs l dst T fl k (some (v,h))=CJ P call n ops start fs l ⟨T.put dst v,h.fl fl⟩ k:=rfl
theorem UB:CJ P call n ops start fs [] s k=k.ap P call n .normal s:=by
 apply propext
 refine⟨fun ⟨s',h1,h2⟩=>?_,fun h=>⟨s,by cases fs <;> rfl,h⟩⟩
 cases fs <;> (cases h1;exact h2)
theorem J6 {h:AA} {a b:Nat}:(h.fl a).fl b=h.fl b:=rfl
theorem WO {h:AA}:h.fl h.floor=h:=rfl
theorem JS {h:AA} {a:Nat}:(h.fl a).floor=a:=rfl
theorem WK.flags {id:Nat} {fs:List (Bool × Bool × List Operand)} (hf:DU ops=fs) (h:CJ P call n ops s.h.next fs ops.toList s k):WK P call n (.region id ops true) s k:=by
 obtain⟨s',h1,h2⟩:=h
 refine WS.draw ⟨s',?_,h2⟩
 have key:∀ (l:List Oper) (i:Nat) (s:St) (start:Nat),(∀ k,l[k]?=ops[i+k]?)→i+l.length=ops.size→SB P call ops start (fs.drop i) l s=some s'→KB P call ops start i l s=some s':=by
  intro l
  induction l with
  | nil=>intro i s start _ _ h;cases hd:fs.drop i <;> (rw[hd] at h;exact h)
  | cons o l ih=>
   intro i s start hl hlen h
   have hi:i<ops.size:=by simp at hlen;omega
   have hfi:fs[i]?=some (ML ops i,MI ops i,J_ ops i):=by
    rw[← hf]
    unfold DU
    rw[List.getElem?_map,List.getElem?_range hi]
    rfl
   have hlt:i<fs.length:=(List.getElem?_eq_some_iff.1 hfi).1
   rw[List.drop_eq_getElem_cons hlt] at h
   have he:fs[i]=(ML ops i,MI ops i,J_ ops i):=by
    rw[List.getElem?_eq_getElem hlt] at hfi
    exact Option.some.inj hfi
   rw[he] at h
   simp only[SB] at h
   split at h
   ·rename_i s1 h3
    simp only[KB,tS P call ops start h3]
    exact ih (i+1) s1 start (fun k=>by have:=hl (k+1);simpa [Nat.add_assoc,Nat.add_comm 1 k] using this) (by simp at hlen;omega) h
   ·cases h
 exact key _ 0 s _ (by simp) (by simp) (by simpa using h1)
end
def QD (r:Nat):Code→Option (Array Oper)
 | .region i ops _=>if i=r then some ops else none
 | .seq a b=>match QD r a with
  | some o=>some o
  | none=>QD r b
 | .cond _ a b=>match QD r a with
  | some o=>some o
  | none=>QD r b
 | .block _ c=>QD r c
 | .loop c=>QD r c
 | _=>none
def D2 (fn:Func) (r:Nat):Array Oper:=match fn.body with
 | some c=>(QD r c).getD #[]
 | none=>#[]
def seen (o:Oper):Option Tmp × Op × Option (Nat × Bool):=(o.dst,o.op,o.guard)
section
variable {P:Program} {call:AM} {n:Nat} {ops:Array Oper} {start:Nat} {F:List (Bool × Bool × List Operand)} {s:St} {k:CO}
theorem xC {T:Tr} {o o':Oper} (h:seen o=seen o'):DI ops T o=DI ops T o':=by
 simp only[seen,Prod.mk.injEq] at h
 unfold DI
 rw[h.2.2]
theorem Ln {lr la:Bool} {ls:List Operand} {fs:List (Bool × Bool × List Operand)} {o o':Oper} {l:List Oper} {c:PF} (h:seen o=seen o') :
  AE P call n ops start lr la ls fs o l s k c=AE P call n ops start lr la ls fs o' l s k c:=by
 simp only[seen,Prod.mk.injEq] at h
 cases c <;> simp only[AE,h.1,h.2.1]
theorem CJ.begin (h:CJ P call n ops start (F.drop 0) (ops.toList.drop 0) s k):CJ P call n ops start F ops.toList s k:=h
theorem CJ.at (i:Nat) (dst:Option Tmp) (op:Op) (g:Option (Nat × Bool)) {lr la:Bool} {ls:List Operand} (hi:(ops[i]?).map seen=some (dst,op,g)) (hf:F[i]?=some (lr,la,ls))
  (hsn:∀ v h',∀ h:AA,AN P call s.T h op=some (v,h')→h'.floor=h.floor)
  (h : if DI ops s.T ⟨dst, op, 0, "", #[], g⟩ then AE P call n ops start lr la ls (F.drop (i + 1)) ⟨dst, op, 0, "", #[], g⟩ (ops.toList.drop (i + 1)) s k (AC op)
   else CJ P call n ops start (F.drop (i+1)) (ops.toList.drop (i+1)) ⟨s.T.put dst undef,s.h⟩ k):CJ P call n ops start (F.drop i) (ops.toList.drop i) s k:=by
 cases ho:ops[i]? with
 | none=>rw[ho] at hi;cases hi
 | some o=>
  rw[ho] at hi
  have hs : seen o = seen ⟨dst, op, 0, "", #[], g⟩ := by simpa [seen] using hi
  have hop:o.op=op:=congrArg (·.2.1) hs
  have hdst:o.dst=dst:=congrArg (·.1) hs
  have e1:F.drop i=(lr,la,ls) :: F.drop (i+1):=by
   obtain⟨hl,he⟩:=List.getElem?_eq_some_iff.1 hf
   rw[List.drop_eq_getElem_cons hl,he]
  have ho':ops.toList[i]?=some o:=by simpa using ho
  have e2:ops.toList.drop i=o :: ops.toList.drop (i+1):=by
   obtain⟨hl,he⟩:=List.getElem?_eq_some_iff.1 ho'
   rw[List.drop_eq_getElem_cons hl,he]
  rw[e1,e2]
  refine CJ.cons (by rw[hop];exact hsn) ?_
  rw[xC hs,Ln hs,hop,hdst]
  exact h
theorem CJ.done {i:Nat} (hl:ops.toList.drop i=[]) (h:k.ap P call n .normal s):CJ P call n ops start (F.drop i) (ops.toList.drop i) s k:=by
 rw[hl,UB]
 exact h
end
end Go.Sx
namespace Go.Proofs.YtdejoodfeljmkaaDoor
open Go Go.Sx
set_option maxRecDepth 100000
set_option linter.unusedSimpArgs false
set_option linter.unusedVariables false
set_option maxHeartbeats 64000000
theorem M6 {cs:Array Value}:(Value.agg cs).cells=cs:=rfl
theorem JW {k:IntKind} {x:Int}:one (.int k x)=true:=rfl
theorem QU {x:ByteArray}:one (.string x)=true:=rfl
theorem d9 {x:Bool}:one (.bool x)=true:=rfl
theorem CB {h:AA} {o:BA}:(h.push o).next=h.next+1:=rfl
theorem IL {h:AA} {o:BA}:(h.push o).floor=h.floor:=rfl
theorem IU {h:AA} {o:BA} {i:Nat}:(h.put i o).next=h.next:=rfl
theorem LX {h:AA} {o:BA} {i:Nat}:(h.put i o).floor=h.floor:=rfl
theorem lO {m f:Nat}:(EK m f).next=m:=rfl
theorem mX {m f:Nat}:(EK m f).floor=f:=rfl
theorem RY {h:AA} {o:BA} {i:Nat}:(h.push o).get i=if i=h.next then o else h.get i:=by
 split
 ·rename_i e;subst e;exact BP
 ·rename_i e;exact OC e
theorem QX {h:AA} {o:BA} {i j:Nat}:(h.put i o).get j=if j=i then (if i<h.next then o else .dead) else h.get j:=by
 by_cases hi:i<h.next
 ·split
  ·rename_i e;subst e;exact B_ rfl hi
  ·rename_i e;exact AW hi (Ne.symm e)
 ·split
  ·rename_i e;subst e;exact IV (by show h.next≤j;omega)
  ·rename_i e
   by_cases hj:j<h.next
   ·unfold AA.get AA.put
    simp only[hj,if_true]
    rw[D3.get_set,if_neg e]
   ·rw[IV (by show h.next≤j;omega),IV (by omega)]
theorem N2 {h:AA} {o:BA} {f:Nat}:(h.push o).fl f=(h.fl f).push o:=rfl
theorem OQ {h:AA} {o:BA} {i f:Nat}:(h.put i o).fl f=(h.fl f).put i o:=rfl
theorem kZ {m f f':Nat}:(EK m f').fl f=EK m f:=rfl
theorem GO {h:AA} {f:Nat}:(h.fl f).next=h.next:=rfl
theorem K8 {h:AA} {f i:Nat}:(h.fl f).get i=h.get i:=rfl
theorem JC {m id off:Nat}:Sx.ahead m (CN (.pointer (some ⟨id,off,none⟩)))=decide (id<m):=rfl
theorem CI {id off n:Nat}:(⟨id,off,none⟩:Addr).add n=⟨id,off+n,none⟩:=by
 unfold Addr.add
 split
 ·rename_i e;subst e;rfl
 ·rfl
def AJ (off:Nat):BA→Option Value
 | .row cs _ _ _=>cs[off]?
 | _=>none
def AY (n off:Nat):BA→Option Value
 | .row cs _ _ _=>match FN cs off n with
  | some l=>some (.agg l.toArray)
  | none=>none
 | _=>none
theorem KR {P:Program} {t:TypeId} {h:AA} {id off:Nat} (ha:FB P t=some false):EA P h t (.pointer (some ⟨id,off,none⟩))=AJ off (h.get id):=by
 simp only[EA,ha]
 cases h.get id <;> rfl
theorem MB {P:Program} {t:TypeId} {n:Nat} {h:AA} {id off:Nat} (ha:FB P t=some true) (hs:BI P t=some n):EA P h t (.pointer (some ⟨id,off,none⟩))=AY n off (h.get id):=by
 simp only[EA,ha,hs]
 cases h.get id <;> rfl
theorem uS:FB Tryd.prog 3=some false:=by kernel_rfl
theorem wA:FB Tryd.prog 9=some false:=by kernel_rfl
theorem wF:FB Tryd.prog 4=some false:=by kernel_rfl
theorem vN:FB Tryd.prog 61=some true:=by kernel_rfl
theorem Bt:FB Tryd.prog 115=some true:=by kernel_rfl
theorem C4:BI Tryd.prog 3=some 1:=by kernel_rfl
theorem MD:BI Tryd.prog 9=some 1:=by kernel_rfl
theorem OW:BI Tryd.prog 4=some 1:=by kernel_rfl
theorem GC:BI Tryd.prog 61=some 5:=by kernel_rfl
theorem i8:BI Tryd.prog 115=some 5:=by kernel_rfl
theorem Fsx:C6 Tryd.prog 61=some (.agg #[.int .i64 0,.string ByteArray.empty,.int .i64 0,.int .i64 0,.int .i64 0]):=by kernel_rfl
theorem oC:C6 Tryd.prog 115=some (.agg #[.bool false,.bool false,.bool false,.int .i64 0,.int .i64 0]):=by kernel_rfl
theorem FY {a b c d e:Value}:flat (.agg #[a,b,c,d,e])=(BL a&&(BL b&&(BL c&&(BL d&&(BL e&&true))))):=by simp[flat,Bool.and_assoc]
theorem O6 {k:IntKind} {x:Int}:BL (.int k x)=true:=rfl
theorem vI {x:ByteArray}:BL (.string x)=true:=rfl
theorem Gp {x:Bool}:BL (.bool x)=true:=rfl
theorem AT {h:AA} {id off:Nat}:EA Tryd.prog h 3 (.pointer (some ⟨id,off,none⟩))=AJ off (h.get id):=KR uS
theorem GJ {h:AA} {id off:Nat}:EA Tryd.prog h 9 (.pointer (some ⟨id,off,none⟩))=AJ off (h.get id):=KR wA
theorem FH {h:AA} {id off:Nat}:EA Tryd.prog h 4 (.pointer (some ⟨id,off,none⟩))=AJ off (h.get id):=KR wF
theorem HW {h:AA} {id off:Nat}:EA Tryd.prog h 61 (.pointer (some ⟨id,off,none⟩))=AY 5 off (h.get id):=MB vN GC
theorem pQ {h:AA} {id off:Nat}:EA Tryd.prog h 115 (.pointer (some ⟨id,off,none⟩))=AY 5 off (h.get id):=MB Bt i8
theorem IT {a:Value} {l:List Value} {ty:TypeId} {g ro:Bool}:AJ 0 (.row (a :: l) ty g ro)=some a:=rfl
theorem QQ {a b:Value} {l:List Value} {ty:TypeId} {g ro:Bool}:AJ 1 (.row (a :: b :: l) ty g ro)=some b:=rfl
theorem SJ {a b c:Value} {l:List Value} {ty:TypeId} {g ro:Bool}:AJ 2 (.row (a :: b :: c :: l) ty g ro)=some c:=rfl
theorem QI {a b c d:Value} {l:List Value} {ty:TypeId} {g ro:Bool}:AJ 3 (.row (a :: b :: c :: d :: l) ty g ro)=some d:=rfl
theorem rM {a b c d e:Value} {l:List Value} {ty:TypeId} {g ro:Bool}:AJ 4 (.row (a :: b :: c :: d :: e :: l) ty g ro)=some e:=rfl
theorem mY {a b c d e:Value} {ty:TypeId} {g ro:Bool}:AY 5 0 (.row [a,b,c,d,e] ty g ro)=some (.agg #[a,b,c,d,e]):=rfl
noncomputable def TK (t:TypeId) (h:AA) (id:Nat) (a b c d e:Value):BA→Option AA
 | .row [_,_,_,_,_] ty g false=>if h.floor≤id∧[a,b,c,d,e].all one=true then some (h.put id (.row [a,b,c,d,e] ty g false)) else BC Tryd.prog h t (.pointer (some ⟨id,0,none⟩)) (.agg #[a,b,c,d,e])
 | _=>BC Tryd.prog h t (.pointer (some ⟨id,0,none⟩)) (.agg #[a,b,c,d,e])
theorem dZ {t:TypeId} (ht:BI Tryd.prog t=some 5) {h:AA} {id:Nat} {a b c d e:Value}:BC Tryd.prog h t (.pointer (some ⟨id,0,none⟩)) (.agg #[a,b,c,d,e])=TK t h id a b c d e (h.get id):=by
 unfold TK
 split
 ·rename_i v w x y z ty g hg
  split
  ·rename_i hc
   have hone:([a,b,c,d,e].all one)=true:=hc.2
   have hl:Go.Sx.lay [v,w,x,y,z] 0 [a,b,c,d,e]=[a,b,c,d,e]:=rfl
   have hcells:(Value.agg #[a,b,c,d,e]).cells=#[a,b,c,d,e]:=rfl
   simp only[BC,hcells,ht,GB,hg]
   have hsz:(some 5:Option Nat)=some (#[a,b,c,d,e]:Array Value).size:=rfl
   rw[if_pos hsz,if_pos (by simp only[List.length_cons,List.length_nil,hone];simp[hc.1])]
   rfl
  ·rfl
 ·rfl
theorem FD {h:AA} {id:Nat} {a b c d e:Value}:BC Tryd.prog h 61 (.pointer (some ⟨id,0,none⟩)) (.agg #[a,b,c,d,e])=TK 61 h id a b c d e (h.get id):=dZ GC
theorem qW {h:AA} {id:Nat} {a b c d e:Value}:BC Tryd.prog h 115 (.pointer (some ⟨id,0,none⟩)) (.agg #[a,b,c,d,e])=TK 115 h id a b c d e (h.get id):=dZ i8
theorem R1 {t:TypeId} {h:AA} {id:Nat} {a b c d e v w x y z:Value} {ty:TypeId} {g:Bool}:TK t h id a b c d e (.row [v,w,x,y,z] ty g false) =
  if h.floor≤id∧[a,b,c,d,e].all one=true then some (h.put id (.row [a,b,c,d,e] ty g false)) else BC Tryd.prog h t (.pointer (some ⟨id,0,none⟩)) (.agg #[a,b,c,d,e]):=rfl
theorem mS {a b c d e:Value}:#[a,b,c,d,e].toList.all one=(one a&&(one b&&(one c&&(one d&&(one e&&true))))):=by simp[Bool.and_assoc]
section
variable {id off:Nat}
theorem CX:BF Tryd.prog 61 (.pointer (some ⟨id,off,none⟩)) 0=some (.pointer (some ⟨id,off,none⟩)):=by simp[BF,Tryd.underlying61,C4,CI]
theorem LJ:BF Tryd.prog 61 (.pointer (some ⟨id,off,none⟩)) 1=some (.pointer (some ⟨id,off+1,none⟩)):=by simp[BF,Tryd.underlying61,MD,CI]
theorem QV:BF Tryd.prog 61 (.pointer (some ⟨id,off,none⟩)) 2=some (.pointer (some ⟨id,off+2,none⟩)):=by simp[BF,Tryd.underlying61,C4,CI]
theorem GL:BF Tryd.prog 61 (.pointer (some ⟨id,off,none⟩)) 3=some (.pointer (some ⟨id,off+3,none⟩)):=by simp[BF,Tryd.underlying61,C4,CI]
theorem V_:BF Tryd.prog 61 (.pointer (some ⟨id,off,none⟩)) 4=some (.pointer (some ⟨id,off+4,none⟩)):=by simp[BF,Tryd.underlying61,C4,CI]
theorem WB:BF Tryd.prog 115 (.pointer (some ⟨id,off,none⟩)) 0=some (.pointer (some ⟨id,off,none⟩)):=by simp[BF,Tryd.underlying115,OW,CI]
theorem U1:BF Tryd.prog 115 (.pointer (some ⟨id,off,none⟩)) 1=some (.pointer (some ⟨id,off+1,none⟩)):=by simp[BF,Tryd.underlying115,OW,CI]
theorem US:BF Tryd.prog 115 (.pointer (some ⟨id,off,none⟩)) 2=some (.pointer (some ⟨id,off+2,none⟩)):=by simp[BF,Tryd.underlying115,OW,CI]
theorem gP:BF Tryd.prog 115 (.pointer (some ⟨id,off,none⟩)) 3=some (.pointer (some ⟨id,off+3,none⟩)):=by simp[BF,Tryd.underlying115,C4,CI]
theorem qF:BF Tryd.prog 115 (.pointer (some ⟨id,off,none⟩)) 4=some (.pointer (some ⟨id,off+4,none⟩)):=by simp[BF,Tryd.underlying115,C4,CI]
end
theorem PK (a:ByteArray):(a==a)=true:=by
 cases a with
 | mk d=>show (d==d)=true;simp
theorem h_ (a b:ByteArray):(a.toList==b.toList)=(a==b):=by
 rw[ByteArray.toList_eq,ByteArray.toList_eq]
 apply Bool.eq_iff_iff.2
 constructor
 ·intro h
  have h1:a.data.toList=b.data.toList:=by simpa using h
  have h2:a=b:=by
   cases a;cases b
   simp only[ByteArray.mk.injEq]
   exact Array.toList_inj.1 h1
  subst h2
  exact PK a
 ·intro h
  have:=NE h
  subst this
  simp
theorem Ju {P:Program} {t:TypeId} {x y:Operand} {a b:ByteArray}:BT P .eql t x y (.string a) (.string b)=some (.bool (a==b)):=by
 have e:A8 P (do eqGuard .eql t x y (.string a) (.string b);binOp .eql t (.string a) (.string b))=some (.bool (a==b)):=by
  rw[CD]
  have g:A8 P (eqGuard .eql t x y (.string a) (.string b))=some ():=rfl
  rw[g,← h_]
  simp[binOp,Op.stringOp,Option.bind]
  rfl
 have hf:flat (.string a)=true:=rfl
 have hf2:flat (.string b)=true:=rfl
 simp only[BT,hf,hf2,KF,Bool.and_self,if_true,e]
theorem TF {x y:Operand} {a b:ByteArray}:BT Tryd.prog .eql 9 x y (.string a) (.string b)=some (.bool (a==b)):=Ju
theorem NX {x y:Operand} {a b:Bool}:BT Tryd.prog .eql 4 x y (.bool a) (.bool b)=some (.bool (a==b)):=Kx Tryd.underlying4
theorem YH {x y:Operand} {a b:Bool}:BT Tryd.prog .neq 4 x y (.bool a) (.bool b)=some (.bool (a != b)):=TS Tryd.underlying4
def AX (r:AB):List Value:=[.int .i64 r.kind,.string r.name,.int .i64 r.ends,.int .i64 r.n,.int .i64 r.kids]
theorem TY {h:AA} {a:Option Addr} {n c:Nat}:C7 Tryd.prog h 26 (.slice a n c)=some (.int .i64 n):=by simp[C7,Tryd.underlying26]
def A9 (h:AA) (v:Value) (l:List AB):Prop:=
 ∃ a c,v=.slice a l.length c∧((l=[]∧a=none)∨∃ id off cs ty g ro,a=some ⟨id,off,none⟩∧h.get id=.row cs ty g ro∧id<h.next∧∀ k r,l[k]?=some r→(cs.drop (off+k*5)).take 5=AX r)
theorem A9.row {h:AA} {v:Value} {l:List AB} (hv:A9 h v l) {k:Nat} {r:AB} (hk:l[k]?=some r) :
  ∃ id p,CQ Tryd.prog 26 v (.int .i64 (k:Int))=some (.pointer (some ⟨id,p,none⟩))∧id<h.next∧AJ p (h.get id)=some (.int .i64 r.kind)∧AJ (p+1) (h.get id)=some (.string r.name)∧AJ (p+2) (h.get id)=some (.int .i64 r.ends) ∧
   AJ (p+3) (h.get id)=some (.int .i64 r.n)∧AJ (p+4) (h.get id)=some (.int .i64 r.kids)∧AY 5 p (h.get id)=some (.agg #[.int .i64 r.kind,.string r.name,.int .i64 r.ends,.int .i64 r.n,.int .i64 r.kids]):=by
 obtain⟨a,c,rfl,⟨rfl,_⟩ | ⟨id,off,cs,ty,g,ro,rfl,hg,hid,hc⟩⟩:=hv
 ·simp at hk
 ·have hlt:=(List.getElem?_eq_some_iff.1 hk).1
  have hcut:=hc k r hk
  have hat:∀ j,j<5→cs[off+k*5+j]?=(AX r)[j]?:=fun j hj=>by
   rw[← hcut,List.getElem?_take_of_lt hj,List.getElem?_drop]
  refine⟨id,off+k*5,?_,hid,?_,?_,?_,?_,?_,?_⟩
  ·simp only[CQ,Tryd.underlying26,GC,CI]
   rw[if_pos (by omega)]
   simp
  ·rw[hg];exact hat 0 (by decide)
  ·rw[hg];exact hat 1 (by decide)
  ·rw[hg];exact hat 2 (by decide)
  ·rw[hg];exact hat 3 (by decide)
  ·rw[hg];exact hat 4 (by decide)
  ·rw[hg]
   simp only[AY,FN,hcut]
   rfl
theorem A9.len {h:AA} {v:Value} {l:List AB} (hv:A9 h v l) {h':AA}:C7 Tryd.prog h' 26 v=some (.int .i64 l.length):=by
 obtain⟨a,c,rfl,_⟩:=hv
 exact TY
theorem A9.mono {h h':AA} {v:Value} {l:List AB} (hv:A9 h v l) (hn:h.next≤h'.next) (hg:∀ i,i<h.next→h'.get i=h.get i):A9 h' v l:=by
 obtain⟨a,c,rfl,h1 | ⟨id,off,cs,ty,g,ro,rfl,h1,hid,hc⟩⟩:=hv
 ·exact⟨_,_,rfl,.inl h1⟩
 ·exact⟨_,_,rfl,.inr ⟨id,off,cs,ty,g,ro,rfl,by rw[hg id hid];exact h1,by omega,hc⟩⟩
theorem VR:type_of% (And.intro @HY.eq_1 (And.intro @HY.eq_2 (And.intro @NW.eq_1 (And.intro @HL.eq_1 (And.intro @FU.eq_1 (And.intro @FU.eq_2 (And.intro @FU.eq_3 (And.intro @HZ.eq_1 (And.intro @HZ.eq_2 (And.intro @AN.eq_1 (And.intro @AN.eq_2 (And.intro @AN.eq_3 (And.intro @AN.eq_4 (And.intro @AN.eq_5 (And.intro @AN.eq_6 (And.intro @AN.eq_7 (And.intro @AN.eq_8 (And.intro @AN.eq_9 (And.intro @AN.eq_10 (And.intro @AN.eq_11 (And.intro @AN.eq_12 (And.intro @AN.eq_13 (And.intro @AN.eq_14 (And.intro @AN.eq_15 (And.intro @AN.eq_16 (And.intro @AN.eq_17 (And.intro @AN.eq_18 (And.intro @AN.eq_19 (And.intro @AN.eq_20 (And.intro @AN.eq_21 (And.intro @AN.eq_22 (And.intro @AN.eq_23 (And.intro @AN.eq_24 (And.intro @AN.eq_25 (And.intro @AN.eq_26 (And.intro @AN.eq_27 @AN.eq_28)))))))))))))))))))))))))))))))))))):=And.intro @HY.eq_1 (And.intro @HY.eq_2 (And.intro @NW.eq_1 (And.intro @HL.eq_1 (And.intro @FU.eq_1 (And.intro @FU.eq_2 (And.intro @FU.eq_3 (And.intro @HZ.eq_1 (And.intro @HZ.eq_2 (And.intro @AN.eq_1 (And.intro @AN.eq_2 (And.intro @AN.eq_3 (And.intro @AN.eq_4 (And.intro @AN.eq_5 (And.intro @AN.eq_6 (And.intro @AN.eq_7 (And.intro @AN.eq_8 (And.intro @AN.eq_9 (And.intro @AN.eq_10 (And.intro @AN.eq_11 (And.intro @AN.eq_12 (And.intro @AN.eq_13 (And.intro @AN.eq_14 (And.intro @AN.eq_15 (And.intro @AN.eq_16 (And.intro @AN.eq_17 (And.intro @AN.eq_18 (And.intro @AN.eq_19 (And.intro @AN.eq_20 (And.intro @AN.eq_21 (And.intro @AN.eq_22 (And.intro @AN.eq_23 (And.intro @AN.eq_24 (And.intro @AN.eq_25 (And.intro @AN.eq_26 (And.intro @AN.eq_27 @AN.eq_28)))))))))))))))))))))))))))))))))))
theorem TT:type_of% (And.intro VR (And.intro @K_ (And.intro @jQ (And.intro @mF (And.intro @mD (And.intro @d_ (And.intro @qJ (And.intro @rK (And.intro @i9 (And.intro @m_ (And.intro @rA (And.intro @Q5 (And.intro @dT (And.intro @oL (And.intro @oR (And.intro @qU (And.intro @pS (And.intro @kD (And.intro @pU (And.intro @iU (And.intro @VO (And.intro @mL (And.intro @qB (And.intro @kN (And.intro @XI (And.intro @XM (And.intro @XN (And.intro @Tr.get_put (And.intro @Tr.get_set (And.intro @U9 (And.intro @List.map_cons.{0,0} (And.intro @List.map_nil.{0,0} (And.intro @Option.some.injEq.{0} (And.intro @UU (And.intro @SQ (And.intro @S9 (And.intro @WP (And.intro @PC (And.intro @QM (And.intro @XO (And.intro @WV (And.intro @jM (And.intro @max2 (And.intro @min2 (And.intro @decide_eq_true_eq (And.intro @decide_eq_false_iff_not (And.intro @beq_iff_eq.{0} (And.intro @true_and (And.intro @and_true (And.intro @or_true (And.intro @true_or (And.intro @exists_eq_left'.{1} (And.intro @Option.map_some.{0,0} (And.intro @Option.map_none.{0,0} (And.intro @VU (And.intro @Option.bind_some.{0,0} (And.intro @List.nil_append.{0} (And.intro @List.append_nil.{0} (And.intro @List.cons_append.{0} (And.intro @Value.int.injEq (And.intro @UC (And.intro @List.getElem?_toArray.{0} (And.intro @List.getElem?_cons_succ.{0} (And.intro @List.getElem?_cons_zero.{0} (And.intro @decide_true (And.intro @decide_false (And.intro @beq_self_eq_true.{0} (And.intro @U7 (And.intro @VE (And.intro @Bool.not_true (And.intro @Bool.not_false (And.intro @Bool.false_eq_true (And.intro @if_true.{1} (And.intro @if_false.{1} (And.intro @KF (And.intro @XB (And.intro @qX (And.intro @qC (And.intro @false_implies (And.intro @true_implies @qK)))))))))))))))))))))))))))))))))))))))))))))))))))))))))))))))))))))))))))))))):=And.intro VR (And.intro @K_ (And.intro @jQ (And.intro @mF (And.intro @mD (And.intro @d_ (And.intro @qJ (And.intro @rK (And.intro @i9 (And.intro @m_ (And.intro @rA (And.intro @Q5 (And.intro @dT (And.intro @oL (And.intro @oR (And.intro @qU (And.intro @pS (And.intro @kD (And.intro @pU (And.intro @iU (And.intro @VO (And.intro @mL (And.intro @qB (And.intro @kN (And.intro @XI (And.intro @XM (And.intro @XN (And.intro @Tr.get_put (And.intro @Tr.get_set (And.intro @U9 (And.intro @List.map_cons.{0,0} (And.intro @List.map_nil.{0,0} (And.intro @Option.some.injEq.{0} (And.intro @UU (And.intro @SQ (And.intro @S9 (And.intro @WP (And.intro @PC (And.intro @QM (And.intro @XO (And.intro @WV (And.intro @jM (And.intro @max2 (And.intro @min2 (And.intro @decide_eq_true_eq (And.intro @decide_eq_false_iff_not (And.intro @beq_iff_eq.{0} (And.intro @true_and (And.intro @and_true (And.intro @or_true (And.intro @true_or (And.intro @exists_eq_left'.{1} (And.intro @Option.map_some.{0,0} (And.intro @Option.map_none.{0,0} (And.intro @VU (And.intro @Option.bind_some.{0,0} (And.intro @List.nil_append.{0} (And.intro @List.append_nil.{0} (And.intro @List.cons_append.{0} (And.intro @Value.int.injEq (And.intro @UC (And.intro @List.getElem?_toArray.{0} (And.intro @List.getElem?_cons_succ.{0} (And.intro @List.getElem?_cons_zero.{0} (And.intro @decide_true (And.intro @decide_false (And.intro @beq_self_eq_true.{0} (And.intro @U7 (And.intro @VE (And.intro @Bool.not_true (And.intro @Bool.not_false (And.intro @Bool.false_eq_true (And.intro @if_true.{1} (And.intro @if_false.{1} (And.intro @KF (And.intro @XB (And.intro @qX (And.intro @qC (And.intro @false_implies (And.intro @true_implies @qK)))))))))))))))))))))))))))))))))))))))))))))))))))))))))))))))))))))))))))))))
theorem eE:type_of% (And.intro @S_ TT):=And.intro @S_ TT
theorem eP:type_of% (And.intro @k7 @iI):=And.intro @k7 @iI
theorem FW:type_of% (And.intro @CB (And.intro @IL (And.intro @IU (And.intro @LX (And.intro @lO (And.intro @mX (And.intro @AT (And.intro @GJ (And.intro @FH (And.intro @HW (And.intro @pQ (And.intro @IT (And.intro @QQ (And.intro @SJ (And.intro @QI (And.intro @rM (And.intro @mY (And.intro @qW (And.intro @R1 (And.intro @JW (And.intro @QU (And.intro @d9 (And.intro @CX (And.intro @LJ (And.intro @QV (And.intro @GL (And.intro @V_ (And.intro @WB (And.intro @U1 (And.intro @US (And.intro @gP (And.intro @qF (And.intro @Fsx (And.intro @oC (And.intro @mS (And.intro @List.all_cons.{0} (And.intro @List.all_nil.{0} (And.intro @Bool.and_self (And.intro @Bool.true_and (And.intro @Bool.and_true (And.intro @Nat.zero_le (And.intro @J6 (And.intro @WO (And.intro @NX (And.intro @YH (And.intro @TF @TY)))))))))))))))))))))))))))))))))))))))))))))):=And.intro @CB (And.intro @IL (And.intro @IU (And.intro @LX (And.intro @lO (And.intro @mX (And.intro @AT (And.intro @GJ (And.intro @FH (And.intro @HW (And.intro @pQ (And.intro @IT (And.intro @QQ (And.intro @SJ (And.intro @QI (And.intro @rM (And.intro @mY (And.intro @qW (And.intro @R1 (And.intro @JW (And.intro @QU (And.intro @d9 (And.intro @CX (And.intro @LJ (And.intro @QV (And.intro @GL (And.intro @V_ (And.intro @WB (And.intro @U1 (And.intro @US (And.intro @gP (And.intro @qF (And.intro @Fsx (And.intro @oC (And.intro @mS (And.intro @List.all_cons.{0} (And.intro @List.all_nil.{0} (And.intro @Bool.and_self (And.intro @Bool.true_and (And.intro @Bool.and_true (And.intro @Nat.zero_le (And.intro @J6 (And.intro @WO (And.intro @NX (And.intro @YH (And.intro @TF @TY)))))))))))))))))))))))))))))))))))))))))))))
theorem rP:type_of% (And.intro @M6 (And.intro @RY (And.intro @QX (And.intro @FD (And.intro @FY FW))))):=And.intro @M6 (And.intro @RY (And.intro @QX (And.intro @FD (And.intro @FY FW))))
theorem rG:type_of% (And.intro VR (And.intro @Tr.get_set (And.intro @U9 (And.intro @VO (And.intro @VU (And.intro @UC (And.intro @U7 (And.intro @VE (And.intro @XI (And.intro @XM (And.intro @Tr.get_put (And.intro @Option.some.injEq.{0} (And.intro @if_true.{1} (And.intro @if_false.{1} (And.intro @VX (And.intro @Option.map_some.{0,0} (And.intro @Bool.not_true (And.intro @Bool.not_false (And.intro @Bool.false_eq_true (And.intro @true_and @WO)))))))))))))))))))):=And.intro VR (And.intro @Tr.get_set (And.intro @U9 (And.intro @VO (And.intro @VU (And.intro @UC (And.intro @U7 (And.intro @VE (And.intro @XI (And.intro @XM (And.intro @Tr.get_put (And.intro @Option.some.injEq.{0} (And.intro @if_true.{1} (And.intro @if_false.{1} (And.intro @VX (And.intro @Option.map_some.{0,0} (And.intro @Bool.not_true (And.intro @Bool.not_false (And.intro @Bool.false_eq_true (And.intro @true_and @WO)))))))))))))))))))
theorem C0:type_of% (And.intro @eq_self.{1} (And.intro @true_implies (And.intro @Option.map_none.{0,0} (And.intro @Option.map_some.{0,0} (And.intro @Nat.zero_add (And.intro @JC (And.intro @decide_true (And.intro @false_implies @forall_const.{1})))))))):=And.intro @eq_self.{1} (And.intro @true_implies (And.intro @Option.map_none.{0,0} (And.intro @Option.map_some.{0,0} (And.intro @Nat.zero_add (And.intro @JC (And.intro @decide_true (And.intro @false_implies @forall_const.{1})))))))
theorem DW:type_of% (And.intro @XN (And.intro @List.nil_append.{0} (And.intro @List.append_nil.{0} (And.intro @List.cons_append.{0} (And.intro @List.map_cons.{0,0} (And.intro @List.map_nil.{0,0} (And.intro @GO (And.intro @K8 (And.intro @J6 @JS))))))))):=And.intro @XN (And.intro @List.nil_append.{0} (And.intro @List.append_nil.{0} (And.intro @List.cons_append.{0} (And.intro @List.map_cons.{0,0} (And.intro @List.map_nil.{0,0} (And.intro @GO (And.intro @K8 (And.intro @J6 @JS))))))))
theorem DD:type_of% (And.intro @List.all_cons.{0} (And.intro @List.all_nil.{0} (And.intro @Bool.and_self (And.intro @N2 (And.intro @OQ (And.intro @IL (And.intro @LX (And.intro @CB @IU)))))))):=And.intro @List.all_cons.{0} (And.intro @List.all_nil.{0} (And.intro @Bool.and_self (And.intro @N2 (And.intro @OQ (And.intro @IL (And.intro @LX (And.intro @CB @IU)))))))
theorem WC:type_of% (And.intro @N2 (And.intro @OQ (And.intro @IL (And.intro @LX (And.intro @CB @IU))))):=And.intro @N2 (And.intro @OQ (And.intro @IL (And.intro @LX (And.intro @CB @IU))))
theorem EG:type_of% (And.intro @PC (And.intro @QM (And.intro @TF (And.intro @NX (And.intro @S9 (And.intro @WP (And.intro @UU (And.intro @SQ (And.intro @XO @WV))))))))):=And.intro @PC (And.intro @QM (And.intro @TF (And.intro @NX (And.intro @S9 (And.intro @WP (And.intro @UU (And.intro @SQ (And.intro @XO @WV))))))))
theorem AG {P:Program} {call:AM} {n:Nat} {ops:Array Oper} {start:Nat} {F:List (Bool × Bool × List Operand)} {s:St} {k:CO} (hsn:CA call) (i:Nat) (dst:Option Tmp) (op:Op) (g:Option (Nat × Bool)) {lr la:Bool} {ls:List Operand}
  (h : if DI ops s.T ⟨dst, op, 0, "", #[], g⟩ then AE P call n ops start lr la ls (F.drop (i + 1)) ⟨dst, op, 0, "", #[], g⟩ (ops.toList.drop (i + 1)) s k (AC op)
   else CJ P call n ops start (F.drop (i+1)) (ops.toList.drop (i+1)) ⟨s.T.put dst undef,s.h⟩ k)
  (hi:(ops[i]?).map Go.Sx.seen=some (dst,op,g):=by kernel_rfl) (hf:F[i]?=some (lr,la,ls):=by rfl):CJ P call n ops start (F.drop i) (ops.toList.drop i) s k:=
 CJ.at i dst op g hi hf (fun _ _ _ hs=>(cD hsn hs).floor) h
theorem EC {P:Program} {call:AM} {n:Nat} {ops:Array Oper} {start:Nat} {fs:List (Bool × Bool × List Operand)} {l:List Oper} {s:St} {k:CO} {lr la:Bool} {ls:List Operand} {o:Oper} (hsn:CA call)
  (h:if DI ops s.T o then AE P call n ops start lr la ls fs o l s k (AC o.op) else CJ P call n ops start fs l ⟨s.T.put o.dst undef,s.h⟩ k):CJ P call n ops start ((lr,la,ls) :: fs) (o :: l) s k:=CJ.cons (fun _ _ _ hs=>(cD hsn hs).floor) h
theorem EF {P:Program} {call:AM} {n:Nat} {ops:Array Oper} {start:Nat} {fs:List (Bool × Bool × List Operand)} {s:St} {k:CO} (h:k.ap P call n .normal s):CJ P call n ops start fs [] s k:=by rw[UB];exact h
theorem rF:type_of% (And.intro @VX (And.intro @UB (And.intro @JC (And.intro @N2 (And.intro @OQ (And.intro @kZ (And.intro @GO @K8))))))):=And.intro @VX (And.intro @UB (And.intro @JC (And.intro @N2 (And.intro @OQ (And.intro @kZ (And.intro @GO @K8))))))
section
variable (h:AA) (a b c d:BA)
theorem Q9:let A:=(h.push a).push b
  A.get h.next=a∧A.get (h.next+1)=b∧A.next=h.next+2∧A.floor=h.floor∧∀ i,i<h.next→A.get i=h.get i:=
 ⟨by rw[AR (by show h.next<h.next+1;omega)];exact BP,BP (h:=h.push a),rfl,rfl,fun i hi=>by rw[AR (by show i<h.next+1;omega),AR hi]⟩
theorem SR:let A:=((h.push a).push b).push c
  A.get h.next=a∧A.get (h.next+1)=b∧A.get (h.next+2)=c∧A.next=h.next+3∧A.floor=h.floor∧∀ i,i<h.next→A.get i=h.get i:=by
 obtain⟨p1,p2,p3,p4,p5⟩:=Q9 h a b
 exact⟨by rw[AR (by show h.next<h.next+2;omega)];exact p1,by rw[AR (by show h.next+1<h.next+2;omega)];exact p2,BP (h:=(h.push a).push b),rfl,rfl,fun i hi=>by rw[AR (by show i<h.next+2;omega)];exact p5 i hi⟩
theorem Ls:let A:=(((h.push a).push b).push c).push d
  A.get h.next=a∧A.get (h.next+1)=b∧A.get (h.next+2)=c∧A.get (h.next+3)=d∧A.next=h.next+4∧A.floor=h.floor∧∀ i,i<h.next→A.get i=h.get i:=by
 obtain⟨p1,p2,p3,p4,p5,p6⟩:=SR h a b c
 exact⟨by rw[AR (by show h.next<h.next+3;omega)];exact p1,by rw[AR (by show h.next+1<h.next+3;omega)];exact p2,by rw[AR (by show h.next+2<h.next+3;omega)];exact p3,BP (h:=((h.push a).push b).push c),rfl,rfl,fun i hi=>by rw[AR (by show i<h.next+3;omega)];exact p6 i hi⟩
end
theorem DF {a n:Nat} (h:a<n):∃ j,n=j+1:=⟨n-1,by omega⟩
theorem E_ (i:Nat) (h:i<9223372036854775807):IntKind.i64.wrap ((i:Int)+1)=((i+1:Nat):Int):=C8 (by omega) (by omega)
theorem E1 (l:List Value):(Value.agg l.toArray).cells.toList=l:=rfl
theorem EO:(Value.agg #[.int .i64 0,.int .i64 0]).cells.toList=[.int .i64 0,.int .i64 0]:=rfl
theorem QA:(Value.agg #[.string ByteArray.empty,.slice none 0 0,.slice none 0 0,.slice none 0 0,.slice none 0 0,.slice none 0 0,.slice none 0 0,.int .i64 0]).cells.toList=[.string ByteArray.empty,.slice none 0 0,.slice none 0 0,.slice none 0 0,.slice none 0 0,.slice none 0 0,.slice none 0 0,.int .i64 0]:=rfl
def AK:Bool × Bool × List Operand:=(false,false,[])
def AQ:Bool × Bool × List Operand:=(false,true,[])
def EX:Bool × Bool × List Operand:=(true,true,[])
def AH (l:List Operand):Bool × Bool × List Operand:=(false,true,l)
def F3 (l:List Operand):Bool × Bool × List Operand:=(true,true,l)
abbrev Z0:Value:=.slice none 0 0
abbrev CW:List Value:=[.string ByteArray.empty,Z0,Z0,Z0,Z0,Z0,Z0,.int .i64 0]
abbrev E6:List Value:=[.int .i64 0,.string ByteArray.empty,.int .i64 0,.int .i64 0,.int .i64 0]
abbrev qP (a o:Nat):Value:=.pointer (some ⟨a,o,none⟩)
abbrev qS (a n c:Nat):Value:=.slice (some ⟨a,0,none⟩) n c
theorem Le:Tryd.prog.globals.size≤1:=by
 have:Tryd.prog.globals.size=1:=by kernel_rfl
 omega
noncomputable def OE (m:Nat) (call:AM):AM:=fun f args h=>
 if args.all MW then match call f args (EK m 0) with
  | some (v,_)=>if EJ v then some (v,h) else none
  | none=>none
 else none
theorem kT {m:Nat} {call:AM} {f:FuncId} {args:List Value} {h h':AA} {v:Value} (hs:OE m call f args h=some (v,h')) :
  args.all MW=true∧(∃ h1,call f args (EK m 0)=some (v,h1))∧EJ v=true∧h'=h:=by
 unfold OE at hs
 split at hs
 ·rename_i hc
  split at hs
  ·rename_i v' h1 he
   split at hs
   ·rename_i hf
    cases hs
    exact⟨hc,⟨h1,he⟩,hf,rfl⟩
   ·cases hs
  ·cases hs
 ·cases hs
theorem Ll {m:Nat} {call:AM} {f:FuncId} {args:List Value} {h:AA} {v:Value} (ha:args.all MW=true) (hv:EJ v=true) (hc:∃ h1,call f args (EK m 0)=some (v,h1)) :
  OE m call f args h=some (v,h):=by
 obtain⟨h1,he⟩:=hc
 unfold OE
 rw[if_pos ha,he]
 simp only[hv,if_true]
theorem Fv {P:Program} {call:AM} (hc:C3 P call) {m:Nat} (hg:P.globals.size≤m):C3 P (OE m call)∧CA (OE m call):=by
 refine⟨fun f args h v h' hs=>?_,fun f args h v h' hs=>?_⟩
 ·obtain⟨ha,⟨h1,he⟩,hv,rfl⟩:=kT hs
  obtain⟨hfn,hc2⟩:=hc _ _ _ _ _ he
  refine⟨hfn,fun ρ W ARGS hR hargs=>?_⟩
  have hR0:BU P (B7 ρ m) (EK m 0) W:=Y_ (fun i hi=>by unfold B7;rw[if_neg (by omega)]) fun g hgl=>by
   rw[HP (by omega)]
   exact hR.glob g hgl
  have hnw:∀ i,¬ wr ((EK m 0).get i):=fun i hw=>by rw[MF] at hw;exact hw
  refine(hc2 _ W ARGS hR0 (p9 ha hargs)).mono fun e W' ⟨V,ρ',he',hN,hv'⟩=>⟨V,ρ,he',(Nx.refl hR).grow (hN.fr.gr hnw),?_⟩
  rw[gY hv hv']
  exact l_ hv
 ·obtain⟨_,_,_,rfl⟩:=kT hs
  exact .refl _
noncomputable def MN (fs:List FuncId) (base:AM) (k:Nat):AM:=GA base (KU fs (OE 1 (A7 Tryd.prog (FZ Tryd.prog base k) k)))
section
variable {fs:List FuncId} {k:Nat} {base:AM} {f:FuncId} {args:List Value} {h:AA} {v:Value} {r:Value × AA}
theorem ZC (hb:C3 Tryd.prog base∧CA base):C3 Tryd.prog (MN fs base k)∧CA (MN fs base k):=
 RG hb (bY (Fv (RA I1 (NF I1 hb.1 hb.2 k).1 (NF I1 hb.1 hb.2 k).2 k).1 Le))
theorem LB (hb:base f args h=some r):MN fs base k f args h=some r:=SM hb
theorem IJ (hb:base f args h=none) (hf:fs.contains f=false):MN fs base k f args h=none:=by unfold MN GA KU;rw[hb,hf];rfl
theorem KG (hb:base f args h=none) (hf:fs.contains f=true) (ha:args.all MW=true) (hv:EJ v=true) (hw:∃ h1,A7 Tryd.prog (FZ Tryd.prog base k) k f args (EK 1 0)=some (v,h1)):MN fs base k f args h=some (v,h):=by
 have e:OE 1 (A7 Tryd.prog (FZ Tryd.prog base k) k) f args h=some (v,h):=Ll ha hv hw
 unfold MN GA KU
 rw[hb,hf,if_pos rfl,e]
end
def JD:List Int:=(List.range 54).map fun (i:Nat)=>(i:Int)+1
theorem W8 {k:Int} (h:1≤k∧k≤54):k∈JD:=List.mem_map.2 ⟨(k-1).toNat,by rw[List.mem_range];omega,by omega⟩
noncomputable def NC (f:FuncId) (mk:Int→List Value) (spec:Int→Value):Bool:=JD.all fun k=>match A7 Tryd.prog (FZ Tryd.prog NR 12) 12 f (mk k) (EK 1 0) with
 | some (v,_)=>RB v (spec k)
 | none=>false
theorem M7 {f:FuncId} {mk:Int→List Value} {spec:Int→Value} (h:NC f mk spec=true) {k:Int} (hk:1≤k∧k≤54):∃ h1,A7 Tryd.prog (FZ Tryd.prog NR 12) 12 f (mk k) (EK 1 0)=some (spec k,h1):=by
 have:=List.all_eq_true.1 h k (W8 hk)
 split at this
 ·rename_i v h1 he
  rw[V1 this] at he
  exact⟨h1,he⟩
 ·cases this
def C1 (k:Int):Int:=if k=54 then 1 else if k=53 then 2 else if k≥47 then 3 else if k≥45 then 4 else if k≥43 then 5 else if k≥41 then 6 else if k≥27 then 7 else 0
def G9 (k:Int):Int:=if [1,11,26,31,32,35,36,37,38,39,40,41,42].contains k then 1 else 0
def BO (k:Int):Int:=if [2,3].contains k then 1 else if k=4 then 2 else if k=5 then 3 else if k=7 then 4 else 0
def EE (k:Int):Int:=if [8,9,16,17,19,20,21,24,26,31,32,35,36,37].contains k then 1 else if [14,28].contains k then 2 else if [15,38].contains k then 3 else if k=22 then 4 else 0
def HD (k:Int):Bool:=decide (k≥8)&&decide (k≤10)
abbrev iv (x:Int):Value:=.int .i64 x
theorem Ew:NC 61 (fun k=>[iv k]) (fun k=>.agg #[.bool (J5 k),.bool (LU k),.bool (k==27),iv (F7 k),iv (CV k)])=true:=by kernel_rfl
theorem kY:NC 88 (fun k=>[iv k]) (fun k=>iv (C1 k))=true:=by kernel_rfl
theorem Hr:NC 86 (fun k=>[iv k]) (fun k=>iv (G9 k))=true:=by kernel_rfl
theorem vT:NC 48 (fun k=>[iv k]) (fun k=>iv (BO k))=true:=by kernel_rfl
theorem Aj:NC 50 (fun k=>[iv k]) (fun k=>iv (EE k))=true:=by kernel_rfl
theorem yO:NC 51 (fun k=>[iv k]) (fun k=>.bool (HD k))=true:=by kernel_rfl
theorem Kn:NC 64 (fun k=>[iv k,iv 0]) (fun k=>iv (BH k 0))=true:=by kernel_rfl
theorem Cw:NC 64 (fun k=>[iv k,iv 1]) (fun k=>iv (BH k 1))=true:=by kernel_rfl
theorem Jy:NC 64 (fun k=>if k=15 then [iv 1,iv 2] else [iv k,iv 2]) (fun k=>if k=15 then iv (BH 1 2) else iv (BH k 2))=true:=by kernel_rfl
def j7:List Int:=(List.range 256).map fun (i:Nat)=>(i:Int)
theorem sS {k:Nat} (h:k<256):(k:Int)∈j7:=List.mem_map.2 ⟨k,by rw[List.mem_range];exact h,rfl⟩
noncomputable def aA (f:FuncId) (spec:Int→Bool):Bool:=j7.all fun k=>match A7 Tryd.prog (FZ Tryd.prog NR 12) 12 f [.int .u8 k] (EK 1 0) with
 | some (v,_)=>RB v (.bool (spec k))
 | none=>false
theorem oX {f:FuncId} {spec:Int→Bool} (h:aA f spec=true) (b:UInt8):∃ h1,A7 Tryd.prog (FZ Tryd.prog NR 12) 12 f [.int .u8 (b.toNat:Int)] (EK 1 0)=some (.bool (spec (b.toNat:Int)),h1):=by
 have:=List.all_eq_true.1 h _ (sS (UInt8.toNat_lt b))
 split at this
 ·rename_i v h1 he
  rw[V1 this] at he
  exact⟨h1,he⟩
 ·cases this
def HB (c:Int):Bool:=(decide (c≥97)&&decide (c≤122))||(decide (c≥65)&&decide (c≤90))||c==95
def JX (c:Int):Bool:=decide (c≥48)&&decide (c≤57)
theorem Ga:aA 82 HB=true:=by kernel_rfl
theorem Hh:aA 84 JX=true:=by kernel_rfl
section
variable {call:AM} {n:Nat} {h:AA}
theorem vK {what kind:Int}:A7 Tryd.prog call n 60 [iv what,iv kind] h=some (.bool (B9 what kind),h):=by
 refine DG Tryd.func60 rfl (by simp[Tryd.f60]) ?_
 have hr:Tryd.f60.results.toList=[.tmp 4]:=rfl
 unfold B9
 by_cases w8:what=8
 ·subst w8;simp only[eE,seval,↓eP,rP,hr]
 have e8:(what==8)=false:=by simpa using w8
 by_cases w0:what=0
 ·subst w0
  cases d1:decide (kind≥2) <;> simp only[eE,seval,↓eP,rP,hr,e8,d1] <;> simp
 have e0:(what==0)=false:=by simpa using w0
 by_cases w1:what=1
 ·subst w1
  cases d1:decide (kind≥8) <;> simp only[eE,seval,↓eP,rP,hr,e8,e0,d1] <;> simp
 have e1:(what==1)=false:=by simpa using w1
 by_cases w2:what=2
 ·subst w2;simp only[eE,seval,↓eP,rP,hr,e8,e0,e1] <;> simp
 have e2:(what==2)=false:=by simpa using w2
 by_cases w3:what=3
 ·subst w3
  cases d1:decide (kind≥11) <;> simp only[eE,seval,↓eP,rP,hr,e8,e0,e1,e2,d1] <;> simp
 have e3:(what==3)=false:=by simpa using w3
 by_cases w4:what=4
 ·subst w4
  cases d1:(kind==11) <;> simp only[eE,seval,↓eP,rP,hr,e8,e0,e1,e2,e3,d1] <;> simp
 have e4:(what==4)=false:=by simpa using w4
 by_cases w5:what=5
 ·subst w5
  cases d1:(kind==25) <;> simp only[eE,seval,↓eP,rP,hr,e8,e0,e1,e2,e3,e4,d1] <;> simp
 have e5:(what==5)=false:=by simpa using w5
 by_cases w6:what=6
 ·subst w6;simp only[eE,seval,↓eP,rP,hr,e8,e0,e1,e2,e3,e4,e5] <;> simp
 have e6:(what==6)=false:=by simpa using w6
 rw[if_neg w8,if_neg w0,if_neg w1,if_neg w2,if_neg w3,if_neg w4,if_neg w5,if_neg w6]
 cases d1:decide (kind≥27) <;> simp only[eE,seval,↓eP,rP,hr,e8,e0,e1,e2,e3,e4,e5,e6,d1] <;> simp
end
def CT:BA:=.row LT 9 false true
def LZ (w:List UInt8):ByteArray:=⟨w.toArray⟩
def KK (s:ByteArray):Bool:=decide (GT.findIdx (fun w=>s==LZ w)<41)
theorem Q3:GT.length=41:=by decide
def AU (s:ByteArray):Bool:=match s.data.toList with
 | []=>false
 | c :: l=>decide ((c :: l).length≤64)&&HB c.toNat && !KK s&&(c :: l).all fun c=>HB c.toNat||JX c.toNat
theorem RW {s:ByteArray}:flat (.string s)=true:=rfl
theorem PJ {h:AA} {s:ByteArray}:C7 Tryd.prog h 9 (.string s)=some (.int .i64 s.data.toList.length):=by simp[C7,Tryd.underlying9]
theorem j9 {s:ByteArray} {i:Nat} {b:UInt8} (hb:s.data.toList[i]?=some b):A8 Tryd.prog (Instr.index 9 (.string s) (.int .i64 (i:Int)))=some (.int .u8 (b.toNat:Int)):=by
 have hg:s[i]?=some b:=by
  obtain⟨hl,he⟩:=List.getElem?_eq_some_iff.1 hb
  have hl':i<s.size:=by simpa using hl
  rw[getElem?_pos s i hl']
  congr 1
 unfold Instr.index
 rw[CD]
 have e1:A8 Tryd.prog (asIntOf (.int .i64 (i:Int)))=some (.i64,(i:Int)):=rfl
 rw[e1]
 simp only[Option.bind_some]
 rw[CD,MR Tryd.underlying9]
 simp only[Option.bind_some,Int.toNat_natCast]
 rw[if_pos (by omega),hg]
 rfl
theorem uF {s:ByteArray} {b:UInt8} (hb:s.data.toList[0]?=some b):A8 Tryd.prog (Instr.index 9 (.string s) (.int .i64 0))=some (.int .u8 (b.toNat:Int)):=j9 (i:=0) hb
theorem m7 {s:ByteArray}:(s==⟨#[]⟩)=s.data.toList.isEmpty:=by
 cases s with
 | mk d=>
  show (d == #[])=_
  cases d with
  | mk l=>cases l <;> rfl
section
variable {call:AM} {n:Nat} {h:AA} {s:ByteArray}
def TH (s:ByteArray):Int:=if GT.findIdx (fun w=>s==LZ w)<41 then GT.findIdx (fun w=>s==LZ w) else -1
theorem Dm {h:AA} {a:Option Addr} {n c:Nat}:C7 Tryd.prog h 31 (.slice a n c)=some (.int .i64 n):=by simp[C7,Tryd.underlying31]
theorem iQ {i:Nat} (hi:i<41):CQ Tryd.prog 31 (.slice (some ⟨0,0,none⟩) 41 41) (.int .i64 (i:Int))=some (.pointer (some ⟨0,i,none⟩)):=by
 simp only[CQ,Tryd.underlying31,MD,CI]
 rw[if_pos (by omega)]
 simp
theorem gG {i:Nat} (hi:i<41):AJ i CT=some (.string (LZ (GT[i]'(by rw[Q3];exact hi)))):=by
 simp only[CT,AJ,LT,List.getElem?_map]
 rw[List.getElem?_eq_getElem (by rw[Q3];exact hi)]
 rfl
theorem Bn (hg:h.get 0=CT) (hn:41<n):A7 Tryd.prog call n 89 [.slice (some ⟨0,0,none⟩) 41 41,.string s] h=some (iv (TH s),h):=by
 refine DG Tryd.func89 rfl (by simp[Tryd.f89]) ?_
 have hr:Tryd.f89.results.toList=[.tmp 4]:=rfl
 have hle:GT.findIdx (fun w=>s==LZ w)≤41:=by have:=List.findIdx_le_length (xs:=GT) (p:=fun w=>s==LZ w);rw[Q3] at this;exact this
 simp only[eE,↓reduceIte,Nat.reduceEqDiff,reduceCtorEq,↓eP,rP,Nat.reduceAdd,Nat.reduceLT,hr,Dm]
 refine WK.loop (fun i s'=>s'.h=h∧s'.T.get 0=.slice (some ⟨0,0,none⟩) 41 41∧s'.T.get 1=.string s∧s'.T.get 7=.int .i64 41∧s'.T.get 8=.int .i64 i) (GT.findIdx (fun w=>s==LZ w)) (by omega) ?_ ?_
 ·simp only[eE,↓reduceIte,Nat.reduceEqDiff,reduceCtorEq,↓eP,rP,Nat.reduceAdd,Nat.reduceLT]
  exact⟨rfl,rfl⟩
 ·rintro i ⟨T1,h1⟩ hi ⟨rfl,t0,t1,t7,t8⟩
  simp only at t0 t1 t7 t8
  unfold TH
  by_cases hlt:i<GT.findIdx (fun w=>s==LZ w)
  ·have hi41:i<41:=by omega
   have c1:decide ((i:Int)<41)=true:=by simp;omega
   have hne:=List.not_of_lt_findIdx hlt
   have w5:IntKind.i64.wrap ((i:Int)+1)=((i+1:Nat):Int):=C8 (by omega) (by omega)
   simp only[eE,seval,↓eP,rP,t0,t1,t7,t8,c1,iQ hi41,hg,gG hi41,hne]
   exact⟨hlt,w5⟩
  ·have hie:i=GT.findIdx (fun w=>s==LZ w):=by omega
   by_cases h41:i<41
   ·have c1:decide ((i:Int)<41)=true:=by simp;omega
    have heq:(s==LZ (GT[i]'(by rw[Q3];exact h41)))=true:=by
     have:=List.findIdx_getElem (xs:=GT) (p:=fun w=>s==LZ w) (w:=by rw[← hie,Q3];exact h41)
     simp only[← hie] at this
     exact this
    rw[← hie,if_pos h41]
    simp only[eE,seval,↓eP,rP,hr,t0,t1,t7,t8,c1,iQ h41,hg,gG h41,heq]
   ·have c1:decide ((i:Int)<41)=false:=by simp;omega
    rw[← hie,if_neg h41]
    simp only[eE,seval,↓eP,rP,hr,t0,t1,t7,t8,c1]
theorem tN:decide (TH s≥0)=KK s:=by
 unfold TH KK
 split
 ·rename_i h
  rw[decide_eq_true h,decide_eq_true (by omega)]
 ·rename_i h
  rw[decide_eq_false h]
  rfl
theorem Jx (h123:call 89 [.slice (some ⟨0,0,none⟩) 41 41,.string s] h=some (iv (TH s),h)):A7 Tryd.prog call n 87 [.slice (some ⟨0,0,none⟩) 41 41,.string s] h=some (.bool (KK s),h):=by
 refine DG Tryd.func87 rfl (by simp[Tryd.f87]) ?_
 have hr:Tryd.f87.results.toList=[.tmp 4]:=rfl
 simp only[eE,seval,↓eP,rP,hr,h123,tN]
theorem yI:G0 Tryd.prog h 126 (.pointer (some ⟨0,0,none⟩)) none none none=some (.slice (some ⟨0,0,none⟩) 41 41):=by
 simp[G0,Tryd.underlying126,FV,MD,CI]
theorem Jf (h117:call 87 [.slice (some ⟨0,0,none⟩) 41 41,.string s] h=some (.bool (KK s),h)):A7 Tryd.prog call n 83 [.string s] h=some (.bool (KK s),h):=by
 refine DG Tryd.func83 rfl (by simp[Tryd.f83]) ?_
 have hr:Tryd.f83.results.toList=[.tmp 2]:=rfl
 simp only[eE,seval,↓eP,rP,hr,Ac,yI,h117]
theorem Eu (h105:∀ (b:UInt8) h,call 82 [.int .u8 (b.toNat:Int)] h=some (.bool (HB b.toNat),h)) (h107:∀ (b:UInt8) h,call 84 [.int .u8 (b.toNat:Int)] h=some (.bool (JX b.toNat),h))
  (h106:call 83 [.string s] h=some (.bool (KK s),h)) (hn:64<n):A7 Tryd.prog call n 62 [.string s] h=some (.bool (AU s),h):=by
 refine DG Tryd.func62 rfl (by simp[Tryd.f62]) ?_
 have hr:Tryd.f62.results.toList=[.tmp 2]:=rfl
 unfold AU
 cases hl:s.data.toList with
 | nil=>
  have e0:(s==⟨#[]⟩)=true:=by rw[m7,hl];rfl
  simp only[eE,seval,↓eP,rP,hr,e0]
 | cons c l=>
  have e0:(s==⟨#[]⟩)=false:=by rw[m7,hl];rfl
  have i0:=uF (s:=s) (b:=c) (by rw[hl];rfl)
  simp only
  generalize hA:(c :: l).all (fun c=>HB c.toNat||JX c.toNat)=A
  by_cases hlen:(c :: l).length≤64
  ·have d1:decide (((c :: l).length:Int)>64)=false:=by simp only[decide_eq_false_iff_not];omega
   cases hc:HB c.toNat with
   | false=>simp only[eE,seval,↓eP,rP,hr,e0,PJ,hl,d1,RW,i0,h105,hc,Bool.and_false,Bool.false_and]
   | true=>
    cases hw:KK s with
    | true=>simp only[eE,seval,↓eP,rP,hr,e0,PJ,hl,d1,RW,i0,h105,hc,h106,hw,Bool.and_false,Bool.false_and]
    | false=>
     simp only[eE,↓reduceIte,Nat.reduceEqDiff,reduceCtorEq,↓eP,rP,Nat.reduceAdd,Nat.reduceLT,hr,e0,PJ,hl,d1,RW,i0,h105,hc,h106,hw,decide_eq_true hlen]
     rw[← hl] at *
     generalize hL:s.data.toList=L at *
     refine WK.loop (fun i s'=>s'.h=h∧s'.T.get 0=.string s∧s'.T.get 22=.int .i64 L.length∧s'.T.get 23=.int .i64 i∧(L.take i).all (fun c=>HB c.toNat||JX c.toNat)=true) L.length (by omega) ?_ ?_
     ·simp only[eE,↓reduceIte,Nat.reduceEqDiff,reduceCtorEq,↓eP,rP,Nat.reduceAdd,Nat.reduceLT]
      exact⟨rfl,rfl⟩
     ·rintro i ⟨T1,h1⟩ hi ⟨rfl,t0,t22,t23,hall⟩
      simp only at t0 t22 t23
      by_cases hlt:i<L.length
      ·have c1:decide ((i:Int)<(L.length:Int))=true:=by simp;omega
       obtain⟨b,hb⟩:∃ b,L[i]?=some b:=⟨_,List.getElem?_eq_getElem hlt⟩
       have ib:=j9 (s:=s) (i:=i) (b:=b) (by rw[hL];exact hb)
       have w5:IntKind.i64.wrap ((i:Int)+1)=((i+1:Nat):Int):=C8 (by omega) (by omega)
       have hst:(L.take (i+1)).all (fun c=>HB c.toNat||JX c.toNat)=((L.take i).all (fun c=>HB c.toNat||JX c.toNat)&&(HB b.toNat||JX b.toNat)):=by
        rw[List.take_add_one,hb,List.all_append]
        simp
       have hbad:(HB b.toNat||JX b.toNat)=false→L.all (fun c=>HB c.toNat||JX c.toNat)=false:=fun h=>by
        rw[List.all_eq_false]
        exact⟨b,List.mem_of_getElem? hb,by rw[h];simp⟩
       cases q1:HB b.toNat with
       | true=>
        simp only[eE,seval,↓eP,rP,hr,t0,t22,t23,c1,RW,ib,h105,q1]
        exact⟨hlt,w5,by rw[hst,hall,q1];rfl⟩
       | false=>
        cases q2:JX b.toNat with
        | true=>
         simp only[eE,seval,↓eP,rP,hr,t0,t22,t23,c1,RW,ib,h105,h107,q1,q2]
         exact⟨hlt,w5,by rw[hst,hall,q1,q2];rfl⟩
        | false=>
         simp only[eE,seval,↓eP,rP,hr,t0,t22,t23,c1,RW,ib,h105,h107,q1,q2]
         rw[← hA,hbad (by rw[q1,q2];rfl)]
      ·have c1:decide ((i:Int)<(L.length:Int))=false:=by simp;omega
       rw[List.take_of_length_le (by omega)] at hall
       rw[hall] at hA
       subst hA
       simp only[eE,seval,↓eP,rP,hr,t0,t22,t23,c1]
  ·have d1:decide (((c :: l).length:Int)>64)=true:=by simp only[decide_eq_true_eq];omega
   simp only[eE,seval,↓eP,rP,hr,e0,PJ,hl,d1,decide_eq_false hlen,Bool.false_and]
end
section
variable {call:AM} {n:Nat} {h:AA} {s:ByteArray}
end
noncomputable def L0:AM:=MN [61,88,86,48,50,51,999999,999999,999999,
 999999,999999,999999,999999,999999,999999,999999,64,82,84,
 999999,999999,60] NR 12
noncomputable def L1:AM:=MN [85,999999,999999,49,999999,53,999999] L0 12
noncomputable def L2:AM:=M_ [62,999999] L1 2000
theorem Ix:C3 Tryd.prog L0∧CA L0:=ZC Ed
theorem vH:C3 Tryd.prog L1∧CA L1:=ZC Ix
theorem iO:C3 Tryd.prog L2∧CA L2:=ZG vH
theorem Jm (b:UInt8) (h:AA):L1 82 [.int .u8 (b.toNat:Int)] h=some (.bool (HB b.toNat),h):=LB (KG rfl rfl rfl rfl (oX Ga b))
theorem Ig (b:UInt8) (h:AA):L1 84 [.int .u8 (b.toNat:Int)] h=some (.bool (JX b.toNat),h):=LB (KG rfl rfl rfl rfl (oX Hh b))
theorem SA (what kind:Int) (h:AA):L1 60 [iv what,iv kind] h=some (.bool (B9 what kind),h):=LB (KG rfl rfl rfl rfl ⟨_,vK⟩)
theorem U5 {h:AA} (hg:h.get 0=CT) (s:ByteArray):L2 62 [.string s] h=some (.bool (AU s),h):=by
 refine cF rfl rfl rfl ⟨h,Eu (fun b h=>HK (Jm b h)) (fun b h=>HK (Ig b h)) ?_ (by decide),fun _ _=>rfl⟩
 rw[VG (n:=1999) rfl]
 refine Jf ?_
 rw[VG (n:=1998) rfl]
 refine Jx ?_
 rw[VG (n:=1997) rfl]
 exact Bn hg (by decide)
noncomputable def ZU:Array Oper:=D2 Tryd.f46 3
noncomputable def DO:Array Oper:=D2 Tryd.f46 4
def Av:List (Bool × Bool × List Operand):=[EX,EX,EX,EX,AH [.tmp 31],AH [.tmp 31],AH [.tmp 31],AH [.tmp 31],AH [.tmp 31],AH [.tmp 31],F3 [.tmp 31,.tmp 36],F3 [.tmp 31,.tmp 36],AK,AK]
def PA:List (Bool × Bool × List Operand):=[AQ,AQ,AQ,F3 [.tmp 39],F3 [.tmp 39],AK,AK,AK,AK,AK,AK,AK,AK,AK,AK,AK,AK,AK,AK,AK,AK,AK,AK,AK,AK,AK,AK,AK,AK,AK,AK,AK,AK,AK,AK,AK,AK,AK,AK,AK,AK,AK,AK,AK,AK,AK,AK,AK,AK]
theorem mQ:DU ZU=Av:=by kernel_rfl
theorem jJ:DU DO=PA:=by kernel_rfl
theorem J3 {T:Tr} {d t b:Nat} {v:Value} (ht:t<b) (hd:b≤d):(T.put (some d) v).get t=T.get t:=by
 rw[Tr.get_put,if_neg]
 intro e
 have:d=t:=Option.some.inj e
 omega
theorem wT {T:Tr} {d t b:Nat} {v:Value} (hd:b≤d) (ht:t<b):(T.put (some d) v).get t=T.get t:=by
 rw[Tr.get_put,if_neg]
 intro e
 have:d=t:=Option.some.inj e
 omega
section
variable {call:AM} {n start a b:Nat} {T:Tr} {h:AA} {k:CO} {x:AB} {nm en nu:Bool} {le mo:Int} {ga0 gb0:Bool}
 (hsn:CA call) (t8:T.get 8=qP a 0) (t9:T.get 9=qP b 0) (ga:h.get a=.row [.int .i64 x.kind,.string x.name,.int .i64 x.ends,.int .i64 x.n,.int .i64 x.kids] 61 ga0 false)
 (gb:h.get b=.row [.bool nm,.bool en,.bool nu,.int .i64 le,.int .i64 mo] 115 gb0 false) (hb:(b<start)=True)
include hsn t8 t9 ga gb hb
theorem gQ (h91:∀ h',h'.get 0=h.get 0→call 62 [.string x.name] h'=some (.bool (AU x.name),h'))
  (hk:∀ T',T'.get 54=.bool ((AU x.name==nm)&&(nm||x.name==⟨#[]⟩))→(∀ t:Nat,t<39→T'.get t=T.get t)→CJ Tryd.prog call n DO start (PA.drop 16) (DO.toList.drop 16) ⟨T',h⟩ k):CJ Tryd.prog call n DO start (PA.drop 0) (DO.toList.drop 0) ⟨T,h⟩ k:=by
 have gd6:(DO[6]?).bind (·.dst)=some 45:=by kernel_rfl
 have gd9:(DO[9]?).bind (·.dst)=some 48:=by kernel_rfl
 have gd15:(DO[15]?).bind (·.dst)=some 54:=by kernel_rfl
 have gd19:(DO[19]?).bind (·.dst)=some 58:=by kernel_rfl
 have gd22:(DO[22]?).bind (·.dst)=some 61:=by kernel_rfl
 have gd29:(DO[29]?).bind (·.dst)=some 68:=by kernel_rfl
 have gd33:(DO[33]?).bind (·.dst)=some 72:=by kernel_rfl
 have gd36:(DO[36]?).bind (·.dst)=some 75:=by kernel_rfl
 have gd41:(DO[41]?).bind (·.dst)=some 80:=by kernel_rfl
 have h91':=fun f=>h91 (h.fl f) rfl
 refine AG hsn 0 (some 39) (.fieldAddr 61 (.tmp 8) 1) none ?_
 simp only[rG,seval,AC,AF,AE,LJ,t8]
 refine AG hsn 1 (some 40) (.load 9 (.tmp 39)) none ?_
 simp only[rG,seval,AC,AF,AE,GJ,QQ,JC,false_implies,ga]
 refine AG hsn 2 (some 41) (.call { callee:=.value (.func 62),args:=#[.tmp 40],argTypes:=#[9] }) none ?_
 simp only[rG,seval,AC,AF,AE,DW,h91']
 refine AG hsn 3 (some 42) (.fieldAddr 115 (.tmp 9) 0) none ?_
 simp only[rG,seval,AC,AF,AE,WB,t9]
 refine AG hsn 4 (some 43) (.load 4 (.tmp 42)) none ?_
 simp only[rG,seval,AC,AF,AE,FH,IT,JC,decide_true,forall_const,gb,hb]
 refine AG hsn 5 (some 44) (.binOp .eql 4 (.tmp 41) (.tmp 43) 4) none ?_
 simp only[rG,seval,AC,AF,AE,NX]
 cases q1:(AU x.name==nm)
 ·skip
  refine AG hsn 6 (some 45) (.move (.tmp 44)) none ?_
  simp only[rG,seval,AC,AF,AE]
  refine AG hsn 7 (some 46) (.fieldAddr 115 (.tmp 9) 0) (some (6,true)) ?_
  simp only[rG,seval,AC,AF,AE,gd6]
  refine AG hsn 8 (some 47) (.load 4 (.tmp 46)) (some (6,true)) ?_
  simp only[rG,seval,AC,AF,AE,gd6]
  refine AG hsn 9 (some 48) (.move (.tmp 47)) (some (6,true)) ?_
  simp only[rG,seval,AC,AF,AE,gd6]
  refine AG hsn 10 (some 49) (.fieldAddr 61 (.tmp 8) 1) (some (9,false)) ?_
  simp only[rG,seval,AC,AF,AE,LJ,gd9,t8]
  refine AG hsn 11 (some 50) (.load 9 (.tmp 49)) (some (9,false)) ?_
  simp only[rG,seval,AC,AF,AE,false_implies,gd9]
  refine AG hsn 12 (some 51) (.binOp .eql 9 (.tmp 50) (.const (Value.string { data:=#[] })) 9) (some (9,false)) ?_
  simp only[rG,seval,AC,AF,AE,gd9]
  refine AG hsn 13 (some 52) (.pick (.tmp 48) (.const (Value.bool true)) (.tmp 51)) (some (6,true)) ?_
  simp only[rG,seval,AC,AF,AE,gd6]
  refine AG hsn 14 (some 53) (.pick (.tmp 45) (.tmp 52) (.const (Value.bool false))) none ?_
  simp only[rG,seval,AC,AF,AE]
  refine AG hsn 15 (some 54) (.move (.tmp 53)) none ?_
  simp only[rG,seval,AC,AF,AE]
  refine hk _ ?_ ?_
  ·simp only[Tr.get_put,if_true];first | rfl | simp[*]
  ·intro t ht
   simp only[J3 ht,Nat.reduceLeDiff]
 ·skip
  refine AG hsn 6 (some 45) (.move (.tmp 44)) none ?_
  simp only[rG,seval,AC,AF,AE]
  refine AG hsn 7 (some 46) (.fieldAddr 115 (.tmp 9) 0) (some (6,true)) ?_
  simp only[rG,seval,AC,AF,AE,WB,gd6,t9]
  refine AG hsn 8 (some 47) (.load 4 (.tmp 46)) (some (6,true)) ?_
  simp only[rG,seval,AC,AF,AE,FH,IT,JC,decide_true,false_implies,gd6,gb,hb]
  refine AG hsn 9 (some 48) (.move (.tmp 47)) (some (6,true)) ?_
  simp only[rG,seval,AC,AF,AE,gd6]
  cases nm
  ·skip
   refine AG hsn 10 (some 49) (.fieldAddr 61 (.tmp 8) 1) (some (9,false)) ?_
   simp only[rG,seval,AC,AF,AE,LJ,gd9,t8]
   refine AG hsn 11 (some 50) (.load 9 (.tmp 49)) (some (9,false)) ?_
   simp only[rG,seval,AC,AF,AE,GJ,QQ,JC,false_implies,gd9,ga]
   refine AG hsn 12 (some 51) (.binOp .eql 9 (.tmp 50) (.const (Value.string { data:=#[] })) 9) (some (9,false)) ?_
   simp only[rG,seval,AC,AF,AE,TF,gd9]
   cases q3:(x.name==⟨#[]⟩)
   ·skip
    refine AG hsn 13 (some 52) (.pick (.tmp 48) (.const (Value.bool true)) (.tmp 51)) (some (6,true)) ?_
    simp only[rG,seval,AC,AF,AE,gd6]
    refine AG hsn 14 (some 53) (.pick (.tmp 45) (.tmp 52) (.const (Value.bool false))) none ?_
    simp only[rG,seval,AC,AF,AE]
    refine AG hsn 15 (some 54) (.move (.tmp 53)) none ?_
    simp only[rG,seval,AC,AF,AE]
    refine hk _ ?_ ?_
    ·simp only[Tr.get_put,if_true];first | rfl | simp[*]
    ·intro t ht
     simp only[J3 ht,Nat.reduceLeDiff]
   ·skip
    refine AG hsn 13 (some 52) (.pick (.tmp 48) (.const (Value.bool true)) (.tmp 51)) (some (6,true)) ?_
    simp only[rG,seval,AC,AF,AE,gd6]
    refine AG hsn 14 (some 53) (.pick (.tmp 45) (.tmp 52) (.const (Value.bool false))) none ?_
    simp only[rG,seval,AC,AF,AE]
    refine AG hsn 15 (some 54) (.move (.tmp 53)) none ?_
    simp only[rG,seval,AC,AF,AE]
    refine hk _ ?_ ?_
    ·simp only[Tr.get_put,if_true];first | rfl | simp[*]
    ·intro t ht
     simp only[J3 ht,Nat.reduceLeDiff]
  ·skip
   refine AG hsn 10 (some 49) (.fieldAddr 61 (.tmp 8) 1) (some (9,false)) ?_
   simp only[rG,seval,AC,AF,AE,gd9]
   refine AG hsn 11 (some 50) (.load 9 (.tmp 49)) (some (9,false)) ?_
   simp only[rG,seval,AC,AF,AE,gd9]
   refine AG hsn 12 (some 51) (.binOp .eql 9 (.tmp 50) (.const (Value.string { data:=#[] })) 9) (some (9,false)) ?_
   simp only[rG,seval,AC,AF,AE,gd9]
   refine AG hsn 13 (some 52) (.pick (.tmp 48) (.const (Value.bool true)) (.tmp 51)) (some (6,true)) ?_
   simp only[rG,seval,AC,AF,AE,gd6]
   refine AG hsn 14 (some 53) (.pick (.tmp 45) (.tmp 52) (.const (Value.bool false))) none ?_
   simp only[rG,seval,AC,AF,AE]
   refine AG hsn 15 (some 54) (.move (.tmp 53)) none ?_
   simp only[rG,seval,AC,AF,AE]
   refine hk _ ?_ ?_
   ·simp only[Tr.get_put,if_true];first | rfl | simp[*]
   ·intro t ht
    simp only[J3 ht,Nat.reduceLeDiff]
theorem gI {c:Bool} (t54:T.get 54=.bool c)
  (hk:∀ T',T'.get 68=.bool (c&&(x.ends==0||en&&x.ends==1))→(∀ t:Nat,t<55→T'.get t=T.get t)→CJ Tryd.prog call n DO start (PA.drop 30) (DO.toList.drop 30) ⟨T',h⟩ k):CJ Tryd.prog call n DO start (PA.drop 16) (DO.toList.drop 16) ⟨T,h⟩ k:=by
 have gd6:(DO[6]?).bind (·.dst)=some 45:=by kernel_rfl
 have gd9:(DO[9]?).bind (·.dst)=some 48:=by kernel_rfl
 have gd15:(DO[15]?).bind (·.dst)=some 54:=by kernel_rfl
 have gd19:(DO[19]?).bind (·.dst)=some 58:=by kernel_rfl
 have gd22:(DO[22]?).bind (·.dst)=some 61:=by kernel_rfl
 have gd29:(DO[29]?).bind (·.dst)=some 68:=by kernel_rfl
 have gd33:(DO[33]?).bind (·.dst)=some 72:=by kernel_rfl
 have gd36:(DO[36]?).bind (·.dst)=some 75:=by kernel_rfl
 have gd41:(DO[41]?).bind (·.dst)=some 80:=by kernel_rfl
 cases c
 ·skip
  refine AG hsn 16 (some 55) (.fieldAddr 61 (.tmp 8) 2) (some (15,true)) ?_
  simp only[rG,seval,AC,AF,AE,gd15,t54]
  refine AG hsn 17 (some 56) (.load 3 (.tmp 55)) (some (15,true)) ?_
  simp only[rG,seval,AC,AF,AE,gd15,t54]
  refine AG hsn 18 (some 57) (.binOp .eql 3 (.tmp 56) (.const (Value.int IntKind.i64 0)) 3) (some (15,true)) ?_
  simp only[rG,seval,AC,AF,AE,gd15,t54]
  refine AG hsn 19 (some 58) (.move (.tmp 57)) (some (15,true)) ?_
  simp only[rG,seval,AC,AF,AE,gd15,t54]
  refine AG hsn 20 (some 59) (.fieldAddr 115 (.tmp 9) 1) (some (19,false)) ?_
  simp only[rG,seval,AC,AF,AE,U1,gd19,t9]
  refine AG hsn 21 (some 60) (.load 4 (.tmp 59)) (some (19,false)) ?_
  simp only[rG,seval,AC,AF,AE,false_implies,gd19]
  refine AG hsn 22 (some 61) (.move (.tmp 60)) (some (19,false)) ?_
  simp only[rG,seval,AC,AF,AE,gd19]
  refine AG hsn 23 (some 62) (.fieldAddr 61 (.tmp 8) 2) (some (22,true)) ?_
  simp only[rG,seval,AC,AF,AE,QV,gd22,t8]
  refine AG hsn 24 (some 63) (.load 3 (.tmp 62)) (some (22,true)) ?_
  simp only[rG,seval,AC,AF,AE,false_implies,gd22]
  refine AG hsn 25 (some 64) (.binOp .eql 3 (.tmp 63) (.const (Value.int IntKind.i64 1)) 3) (some (22,true)) ?_
  simp only[rG,seval,AC,AF,AE,gd22]
  refine AG hsn 26 (some 65) (.pick (.tmp 61) (.tmp 64) (.const (Value.bool false))) (some (19,false)) ?_
  simp only[rG,seval,AC,AF,AE,gd19]
  refine AG hsn 27 (some 66) (.pick (.tmp 58) (.const (Value.bool true)) (.tmp 65)) (some (15,true)) ?_
  simp only[rG,seval,AC,AF,AE,gd15,t54]
  refine AG hsn 28 (some 67) (.pick (.tmp 54) (.tmp 66) (.const (Value.bool false))) none ?_
  simp only[rG,seval,AC,AF,AE,t54]
  refine AG hsn 29 (some 68) (.move (.tmp 67)) none ?_
  simp only[rG,seval,AC,AF,AE]
  refine hk _ ?_ ?_
  ·simp only[Tr.get_put,if_true];first | rfl | simp[*]
  ·intro t ht
   simp only[J3 ht,Nat.reduceLeDiff]
 ·skip
  refine AG hsn 16 (some 55) (.fieldAddr 61 (.tmp 8) 2) (some (15,true)) ?_
  simp only[rG,seval,AC,AF,AE,QV,gd15,t8,t54]
  refine AG hsn 17 (some 56) (.load 3 (.tmp 55)) (some (15,true)) ?_
  simp only[rG,seval,AC,AF,AE,AT,SJ,JC,false_implies,gd15,ga,t54]
  refine AG hsn 18 (some 57) (.binOp .eql 3 (.tmp 56) (.const (Value.int IntKind.i64 0)) 3) (some (15,true)) ?_
  simp only[rG,seval,AC,AF,AE,PC,gd15,t54]
  cases q1:(x.ends==0)
  ·skip
   refine AG hsn 19 (some 58) (.move (.tmp 57)) (some (15,true)) ?_
   simp only[rG,seval,AC,AF,AE,gd15,t54]
   refine AG hsn 20 (some 59) (.fieldAddr 115 (.tmp 9) 1) (some (19,false)) ?_
   simp only[rG,seval,AC,AF,AE,U1,gd19,t9]
   refine AG hsn 21 (some 60) (.load 4 (.tmp 59)) (some (19,false)) ?_
   simp only[rG,seval,AC,AF,AE,FH,QQ,JC,decide_true,false_implies,gd19,gb,hb]
   refine AG hsn 22 (some 61) (.move (.tmp 60)) (some (19,false)) ?_
   simp only[rG,seval,AC,AF,AE,gd19]
   cases en
   ·skip
    refine AG hsn 23 (some 62) (.fieldAddr 61 (.tmp 8) 2) (some (22,true)) ?_
    simp only[rG,seval,AC,AF,AE,gd22]
    refine AG hsn 24 (some 63) (.load 3 (.tmp 62)) (some (22,true)) ?_
    simp only[rG,seval,AC,AF,AE,gd22]
    refine AG hsn 25 (some 64) (.binOp .eql 3 (.tmp 63) (.const (Value.int IntKind.i64 1)) 3) (some (22,true)) ?_
    simp only[rG,seval,AC,AF,AE,gd22]
    refine AG hsn 26 (some 65) (.pick (.tmp 61) (.tmp 64) (.const (Value.bool false))) (some (19,false)) ?_
    simp only[rG,seval,AC,AF,AE,gd19]
    refine AG hsn 27 (some 66) (.pick (.tmp 58) (.const (Value.bool true)) (.tmp 65)) (some (15,true)) ?_
    simp only[rG,seval,AC,AF,AE,gd15,t54]
    refine AG hsn 28 (some 67) (.pick (.tmp 54) (.tmp 66) (.const (Value.bool false))) none ?_
    simp only[rG,seval,AC,AF,AE,t54]
    refine AG hsn 29 (some 68) (.move (.tmp 67)) none ?_
    simp only[rG,seval,AC,AF,AE]
    refine hk _ ?_ ?_
    ·simp only[Tr.get_put,if_true];first | rfl | simp[*]
    ·intro t ht
     simp only[J3 ht,Nat.reduceLeDiff]
   ·skip
    refine AG hsn 23 (some 62) (.fieldAddr 61 (.tmp 8) 2) (some (22,true)) ?_
    simp only[rG,seval,AC,AF,AE,QV,gd22,t8]
    refine AG hsn 24 (some 63) (.load 3 (.tmp 62)) (some (22,true)) ?_
    simp only[rG,seval,AC,AF,AE,AT,SJ,JC,false_implies,gd22,ga]
    refine AG hsn 25 (some 64) (.binOp .eql 3 (.tmp 63) (.const (Value.int IntKind.i64 1)) 3) (some (22,true)) ?_
    simp only[rG,seval,AC,AF,AE,PC,gd22]
    cases q3:(x.ends==1)
    ·skip
     refine AG hsn 26 (some 65) (.pick (.tmp 61) (.tmp 64) (.const (Value.bool false))) (some (19,false)) ?_
     simp only[rG,seval,AC,AF,AE,gd19]
     refine AG hsn 27 (some 66) (.pick (.tmp 58) (.const (Value.bool true)) (.tmp 65)) (some (15,true)) ?_
     simp only[rG,seval,AC,AF,AE,gd15,t54]
     refine AG hsn 28 (some 67) (.pick (.tmp 54) (.tmp 66) (.const (Value.bool false))) none ?_
     simp only[rG,seval,AC,AF,AE,t54]
     refine AG hsn 29 (some 68) (.move (.tmp 67)) none ?_
     simp only[rG,seval,AC,AF,AE]
     refine hk _ ?_ ?_
     ·simp only[Tr.get_put,if_true];first | rfl | simp[*]
     ·intro t ht
      simp only[J3 ht,Nat.reduceLeDiff]
    ·skip
     refine AG hsn 26 (some 65) (.pick (.tmp 61) (.tmp 64) (.const (Value.bool false))) (some (19,false)) ?_
     simp only[rG,seval,AC,AF,AE,gd19]
     refine AG hsn 27 (some 66) (.pick (.tmp 58) (.const (Value.bool true)) (.tmp 65)) (some (15,true)) ?_
     simp only[rG,seval,AC,AF,AE,gd15,t54]
     refine AG hsn 28 (some 67) (.pick (.tmp 54) (.tmp 66) (.const (Value.bool false))) none ?_
     simp only[rG,seval,AC,AF,AE,t54]
     refine AG hsn 29 (some 68) (.move (.tmp 67)) none ?_
     simp only[rG,seval,AC,AF,AE]
     refine hk _ ?_ ?_
     ·simp only[Tr.get_put,if_true];first | rfl | simp[*]
     ·intro t ht
      simp only[J3 ht,Nat.reduceLeDiff]
  ·skip
   refine AG hsn 19 (some 58) (.move (.tmp 57)) (some (15,true)) ?_
   simp only[rG,seval,AC,AF,AE,gd15,t54]
   refine AG hsn 20 (some 59) (.fieldAddr 115 (.tmp 9) 1) (some (19,false)) ?_
   simp only[rG,seval,AC,AF,AE,gd19]
   refine AG hsn 21 (some 60) (.load 4 (.tmp 59)) (some (19,false)) ?_
   simp only[rG,seval,AC,AF,AE,gd19]
   refine AG hsn 22 (some 61) (.move (.tmp 60)) (some (19,false)) ?_
   simp only[rG,seval,AC,AF,AE,gd19]
   refine AG hsn 23 (some 62) (.fieldAddr 61 (.tmp 8) 2) (some (22,true)) ?_
   simp only[rG,seval,AC,AF,AE,QV,gd22,t8]
   refine AG hsn 24 (some 63) (.load 3 (.tmp 62)) (some (22,true)) ?_
   simp only[rG,seval,AC,AF,AE,false_implies,gd22]
   refine AG hsn 25 (some 64) (.binOp .eql 3 (.tmp 63) (.const (Value.int IntKind.i64 1)) 3) (some (22,true)) ?_
   simp only[rG,seval,AC,AF,AE,gd22]
   refine AG hsn 26 (some 65) (.pick (.tmp 61) (.tmp 64) (.const (Value.bool false))) (some (19,false)) ?_
   simp only[rG,seval,AC,AF,AE,gd19]
   refine AG hsn 27 (some 66) (.pick (.tmp 58) (.const (Value.bool true)) (.tmp 65)) (some (15,true)) ?_
   simp only[rG,seval,AC,AF,AE,gd15,t54]
   refine AG hsn 28 (some 67) (.pick (.tmp 54) (.tmp 66) (.const (Value.bool false))) none ?_
   simp only[rG,seval,AC,AF,AE,t54]
   refine AG hsn 29 (some 68) (.move (.tmp 67)) none ?_
   simp only[rG,seval,AC,AF,AE]
   refine hk _ ?_ ?_
   ·simp only[Tr.get_put,if_true];first | rfl | simp[*]
   ·intro t ht
    simp only[J3 ht,Nat.reduceLeDiff]
theorem mP {c:Bool} (t68:T.get 68=.bool c)
  (hk:∀ T',T'.get 10=.bool (c&&(x.n==0||nu&&decide (x.n>0)&&decide (x.n≤1073741824)))→(∀ t:Nat,t<10→T'.get t=T.get t)→CJ Tryd.prog call n DO start (PA.drop 49) (DO.toList.drop 49) ⟨T',h⟩ k):CJ Tryd.prog call n DO start (PA.drop 30) (DO.toList.drop 30) ⟨T,h⟩ k:=by
 have gd6:(DO[6]?).bind (·.dst)=some 45:=by kernel_rfl
 have gd9:(DO[9]?).bind (·.dst)=some 48:=by kernel_rfl
 have gd15:(DO[15]?).bind (·.dst)=some 54:=by kernel_rfl
 have gd19:(DO[19]?).bind (·.dst)=some 58:=by kernel_rfl
 have gd22:(DO[22]?).bind (·.dst)=some 61:=by kernel_rfl
 have gd29:(DO[29]?).bind (·.dst)=some 68:=by kernel_rfl
 have gd33:(DO[33]?).bind (·.dst)=some 72:=by kernel_rfl
 have gd36:(DO[36]?).bind (·.dst)=some 75:=by kernel_rfl
 have gd41:(DO[41]?).bind (·.dst)=some 80:=by kernel_rfl
 cases c
 ·skip
  refine AG hsn 30 (some 69) (.fieldAddr 61 (.tmp 8) 3) (some (29,true)) ?_
  simp only[rG,seval,AC,AF,AE,gd29,t68]
  refine AG hsn 31 (some 70) (.load 3 (.tmp 69)) (some (29,true)) ?_
  simp only[rG,seval,AC,AF,AE,gd29,t68]
  refine AG hsn 32 (some 71) (.binOp .eql 3 (.tmp 70) (.const (Value.int IntKind.i64 0)) 3) (some (29,true)) ?_
  simp only[rG,seval,AC,AF,AE,gd29,t68]
  refine AG hsn 33 (some 72) (.move (.tmp 71)) (some (29,true)) ?_
  simp only[rG,seval,AC,AF,AE,gd29,t68]
  refine AG hsn 34 (some 73) (.fieldAddr 115 (.tmp 9) 2) (some (33,false)) ?_
  simp only[rG,seval,AC,AF,AE,US,gd33,t9]
  refine AG hsn 35 (some 74) (.load 4 (.tmp 73)) (some (33,false)) ?_
  simp only[rG,seval,AC,AF,AE,false_implies,gd33]
  refine AG hsn 36 (some 75) (.move (.tmp 74)) (some (33,false)) ?_
  simp only[rG,seval,AC,AF,AE,gd33]
  refine AG hsn 37 (some 76) (.fieldAddr 61 (.tmp 8) 3) (some (36,true)) ?_
  simp only[rG,seval,AC,AF,AE,GL,gd36,t8]
  refine AG hsn 38 (some 77) (.load 3 (.tmp 76)) (some (36,true)) ?_
  simp only[rG,seval,AC,AF,AE,false_implies,gd36]
  refine AG hsn 39 (some 78) (.binOp .gtr 3 (.tmp 77) (.const (Value.int IntKind.i64 0)) 3) (some (36,true)) ?_
  simp only[rG,seval,AC,AF,AE,gd36]
  refine AG hsn 40 (some 79) (.pick (.tmp 75) (.tmp 78) (.const (Value.bool false))) (some (33,false)) ?_
  simp only[rG,seval,AC,AF,AE,gd33]
  refine AG hsn 41 (some 80) (.move (.tmp 79)) (some (33,false)) ?_
  simp only[rG,seval,AC,AF,AE,gd33]
  refine AG hsn 42 (some 81) (.fieldAddr 61 (.tmp 8) 3) (some (41,true)) ?_
  simp only[rG,seval,AC,AF,AE,GL,gd41,t8]
  refine AG hsn 43 (some 82) (.load 3 (.tmp 81)) (some (41,true)) ?_
  simp only[rG,seval,AC,AF,AE,false_implies,gd41]
  refine AG hsn 44 (some 83) (.binOp .leq 3 (.tmp 82) (.const (Value.int IntKind.i64 1073741824)) 3) (some (41,true)) ?_
  simp only[rG,seval,AC,AF,AE,gd41]
  refine AG hsn 45 (some 84) (.pick (.tmp 80) (.tmp 83) (.const (Value.bool false))) (some (33,false)) ?_
  simp only[rG,seval,AC,AF,AE,gd33]
  refine AG hsn 46 (some 85) (.pick (.tmp 72) (.const (Value.bool true)) (.tmp 84)) (some (29,true)) ?_
  simp only[rG,seval,AC,AF,AE,gd29,t68]
  refine AG hsn 47 (some 86) (.pick (.tmp 68) (.tmp 85) (.const (Value.bool false))) none ?_
  simp only[rG,seval,AC,AF,AE,t68]
  refine AG hsn 48 (some 10) (.assign (.tmp 86)) none ?_
  simp only[rG,seval,AC,AF,AE]
  refine hk _ ?_ ?_
  ·simp only[Tr.get_put,if_true];first | rfl | simp[*]
  ·intro t ht
   simp only[J3 ht,Nat.reduceLeDiff]
 ·skip
  refine AG hsn 30 (some 69) (.fieldAddr 61 (.tmp 8) 3) (some (29,true)) ?_
  simp only[rG,seval,AC,AF,AE,GL,gd29,t8,t68]
  refine AG hsn 31 (some 70) (.load 3 (.tmp 69)) (some (29,true)) ?_
  simp only[rG,seval,AC,AF,AE,AT,QI,JC,false_implies,gd29,ga,t68]
  refine AG hsn 32 (some 71) (.binOp .eql 3 (.tmp 70) (.const (Value.int IntKind.i64 0)) 3) (some (29,true)) ?_
  simp only[rG,seval,AC,AF,AE,PC,gd29,t68]
  cases q1:(x.n==0)
  ·skip
   refine AG hsn 33 (some 72) (.move (.tmp 71)) (some (29,true)) ?_
   simp only[rG,seval,AC,AF,AE,gd29,t68]
   refine AG hsn 34 (some 73) (.fieldAddr 115 (.tmp 9) 2) (some (33,false)) ?_
   simp only[rG,seval,AC,AF,AE,US,gd33,t9]
   refine AG hsn 35 (some 74) (.load 4 (.tmp 73)) (some (33,false)) ?_
   simp only[rG,seval,AC,AF,AE,FH,SJ,JC,decide_true,false_implies,gd33,gb,hb]
   refine AG hsn 36 (some 75) (.move (.tmp 74)) (some (33,false)) ?_
   simp only[rG,seval,AC,AF,AE,gd33]
   cases nu
   ·skip
    refine AG hsn 37 (some 76) (.fieldAddr 61 (.tmp 8) 3) (some (36,true)) ?_
    simp only[rG,seval,AC,AF,AE,gd36]
    refine AG hsn 38 (some 77) (.load 3 (.tmp 76)) (some (36,true)) ?_
    simp only[rG,seval,AC,AF,AE,gd36]
    refine AG hsn 39 (some 78) (.binOp .gtr 3 (.tmp 77) (.const (Value.int IntKind.i64 0)) 3) (some (36,true)) ?_
    simp only[rG,seval,AC,AF,AE,gd36]
    refine AG hsn 40 (some 79) (.pick (.tmp 75) (.tmp 78) (.const (Value.bool false))) (some (33,false)) ?_
    simp only[rG,seval,AC,AF,AE,gd33]
    refine AG hsn 41 (some 80) (.move (.tmp 79)) (some (33,false)) ?_
    simp only[rG,seval,AC,AF,AE,gd33]
    refine AG hsn 42 (some 81) (.fieldAddr 61 (.tmp 8) 3) (some (41,true)) ?_
    simp only[rG,seval,AC,AF,AE,gd41]
    refine AG hsn 43 (some 82) (.load 3 (.tmp 81)) (some (41,true)) ?_
    simp only[rG,seval,AC,AF,AE,gd41]
    refine AG hsn 44 (some 83) (.binOp .leq 3 (.tmp 82) (.const (Value.int IntKind.i64 1073741824)) 3) (some (41,true)) ?_
    simp only[rG,seval,AC,AF,AE,gd41]
    refine AG hsn 45 (some 84) (.pick (.tmp 80) (.tmp 83) (.const (Value.bool false))) (some (33,false)) ?_
    simp only[rG,seval,AC,AF,AE,gd33]
    refine AG hsn 46 (some 85) (.pick (.tmp 72) (.const (Value.bool true)) (.tmp 84)) (some (29,true)) ?_
    simp only[rG,seval,AC,AF,AE,gd29,t68]
    refine AG hsn 47 (some 86) (.pick (.tmp 68) (.tmp 85) (.const (Value.bool false))) none ?_
    simp only[rG,seval,AC,AF,AE,t68]
    refine AG hsn 48 (some 10) (.assign (.tmp 86)) none ?_
    simp only[rG,seval,AC,AF,AE]
    refine hk _ ?_ ?_
    ·simp only[Tr.get_put,if_true];first | rfl | simp[*]
    ·intro t ht
     simp only[J3 ht,Nat.reduceLeDiff]
   ·skip
    refine AG hsn 37 (some 76) (.fieldAddr 61 (.tmp 8) 3) (some (36,true)) ?_
    simp only[rG,seval,AC,AF,AE,GL,gd36,t8]
    refine AG hsn 38 (some 77) (.load 3 (.tmp 76)) (some (36,true)) ?_
    simp only[rG,seval,AC,AF,AE,AT,QI,JC,false_implies,gd36,ga]
    refine AG hsn 39 (some 78) (.binOp .gtr 3 (.tmp 77) (.const (Value.int IntKind.i64 0)) 3) (some (36,true)) ?_
    simp only[rG,seval,AC,AF,AE,S9,gd36]
    cases q3:decide (x.n>0)
    ·skip
     refine AG hsn 40 (some 79) (.pick (.tmp 75) (.tmp 78) (.const (Value.bool false))) (some (33,false)) ?_
     simp only[rG,seval,AC,AF,AE,gd33]
     refine AG hsn 41 (some 80) (.move (.tmp 79)) (some (33,false)) ?_
     simp only[rG,seval,AC,AF,AE,gd33]
     refine AG hsn 42 (some 81) (.fieldAddr 61 (.tmp 8) 3) (some (41,true)) ?_
     simp only[rG,seval,AC,AF,AE,gd41]
     refine AG hsn 43 (some 82) (.load 3 (.tmp 81)) (some (41,true)) ?_
     simp only[rG,seval,AC,AF,AE,gd41]
     refine AG hsn 44 (some 83) (.binOp .leq 3 (.tmp 82) (.const (Value.int IntKind.i64 1073741824)) 3) (some (41,true)) ?_
     simp only[rG,seval,AC,AF,AE,gd41]
     refine AG hsn 45 (some 84) (.pick (.tmp 80) (.tmp 83) (.const (Value.bool false))) (some (33,false)) ?_
     simp only[rG,seval,AC,AF,AE,gd33]
     refine AG hsn 46 (some 85) (.pick (.tmp 72) (.const (Value.bool true)) (.tmp 84)) (some (29,true)) ?_
     simp only[rG,seval,AC,AF,AE,gd29,t68]
     refine AG hsn 47 (some 86) (.pick (.tmp 68) (.tmp 85) (.const (Value.bool false))) none ?_
     simp only[rG,seval,AC,AF,AE,t68]
     refine AG hsn 48 (some 10) (.assign (.tmp 86)) none ?_
     simp only[rG,seval,AC,AF,AE]
     refine hk _ ?_ ?_
     ·simp only[Tr.get_put,if_true];first | rfl | simp[*]
     ·intro t ht
      simp only[J3 ht,Nat.reduceLeDiff]
    ·skip
     refine AG hsn 40 (some 79) (.pick (.tmp 75) (.tmp 78) (.const (Value.bool false))) (some (33,false)) ?_
     simp only[rG,seval,AC,AF,AE,gd33]
     refine AG hsn 41 (some 80) (.move (.tmp 79)) (some (33,false)) ?_
     simp only[rG,seval,AC,AF,AE,gd33]
     refine AG hsn 42 (some 81) (.fieldAddr 61 (.tmp 8) 3) (some (41,true)) ?_
     simp only[rG,seval,AC,AF,AE,GL,gd41,t8]
     refine AG hsn 43 (some 82) (.load 3 (.tmp 81)) (some (41,true)) ?_
     simp only[rG,seval,AC,AF,AE,AT,QI,JC,false_implies,gd41,ga]
     refine AG hsn 44 (some 83) (.binOp .leq 3 (.tmp 82) (.const (Value.int IntKind.i64 1073741824)) 3) (some (41,true)) ?_
     simp only[rG,seval,AC,AF,AE,SQ,gd41]
     cases q4:decide (x.n≤1073741824)
     ·skip
      refine AG hsn 45 (some 84) (.pick (.tmp 80) (.tmp 83) (.const (Value.bool false))) (some (33,false)) ?_
      simp only[rG,seval,AC,AF,AE,gd33]
      refine AG hsn 46 (some 85) (.pick (.tmp 72) (.const (Value.bool true)) (.tmp 84)) (some (29,true)) ?_
      simp only[rG,seval,AC,AF,AE,gd29,t68]
      refine AG hsn 47 (some 86) (.pick (.tmp 68) (.tmp 85) (.const (Value.bool false))) none ?_
      simp only[rG,seval,AC,AF,AE,t68]
      refine AG hsn 48 (some 10) (.assign (.tmp 86)) none ?_
      simp only[rG,seval,AC,AF,AE]
      refine hk _ ?_ ?_
      ·simp only[Tr.get_put,if_true];first | rfl | simp[*]
      ·intro t ht
       simp only[J3 ht,Nat.reduceLeDiff]
     ·skip
      refine AG hsn 45 (some 84) (.pick (.tmp 80) (.tmp 83) (.const (Value.bool false))) (some (33,false)) ?_
      simp only[rG,seval,AC,AF,AE,gd33]
      refine AG hsn 46 (some 85) (.pick (.tmp 72) (.const (Value.bool true)) (.tmp 84)) (some (29,true)) ?_
      simp only[rG,seval,AC,AF,AE,gd29,t68]
      refine AG hsn 47 (some 86) (.pick (.tmp 68) (.tmp 85) (.const (Value.bool false))) none ?_
      simp only[rG,seval,AC,AF,AE,t68]
      refine AG hsn 48 (some 10) (.assign (.tmp 86)) none ?_
      simp only[rG,seval,AC,AF,AE]
      refine hk _ ?_ ?_
      ·simp only[Tr.get_put,if_true];first | rfl | simp[*]
      ·intro t ht
       simp only[J3 ht,Nat.reduceLeDiff]
  ·skip
   refine AG hsn 33 (some 72) (.move (.tmp 71)) (some (29,true)) ?_
   simp only[rG,seval,AC,AF,AE,gd29,t68]
   refine AG hsn 34 (some 73) (.fieldAddr 115 (.tmp 9) 2) (some (33,false)) ?_
   simp only[rG,seval,AC,AF,AE,gd33]
   refine AG hsn 35 (some 74) (.load 4 (.tmp 73)) (some (33,false)) ?_
   simp only[rG,seval,AC,AF,AE,gd33]
   refine AG hsn 36 (some 75) (.move (.tmp 74)) (some (33,false)) ?_
   simp only[rG,seval,AC,AF,AE,gd33]
   refine AG hsn 37 (some 76) (.fieldAddr 61 (.tmp 8) 3) (some (36,true)) ?_
   simp only[rG,seval,AC,AF,AE,GL,gd36,t8]
   refine AG hsn 38 (some 77) (.load 3 (.tmp 76)) (some (36,true)) ?_
   simp only[rG,seval,AC,AF,AE,false_implies,gd36]
   refine AG hsn 39 (some 78) (.binOp .gtr 3 (.tmp 77) (.const (Value.int IntKind.i64 0)) 3) (some (36,true)) ?_
   simp only[rG,seval,AC,AF,AE,gd36]
   refine AG hsn 40 (some 79) (.pick (.tmp 75) (.tmp 78) (.const (Value.bool false))) (some (33,false)) ?_
   simp only[rG,seval,AC,AF,AE,gd33]
   refine AG hsn 41 (some 80) (.move (.tmp 79)) (some (33,false)) ?_
   simp only[rG,seval,AC,AF,AE,gd33]
   refine AG hsn 42 (some 81) (.fieldAddr 61 (.tmp 8) 3) (some (41,true)) ?_
   simp only[rG,seval,AC,AF,AE,GL,gd41,t8]
   refine AG hsn 43 (some 82) (.load 3 (.tmp 81)) (some (41,true)) ?_
   simp only[rG,seval,AC,AF,AE,false_implies,gd41]
   refine AG hsn 44 (some 83) (.binOp .leq 3 (.tmp 82) (.const (Value.int IntKind.i64 1073741824)) 3) (some (41,true)) ?_
   simp only[rG,seval,AC,AF,AE,gd41]
   refine AG hsn 45 (some 84) (.pick (.tmp 80) (.tmp 83) (.const (Value.bool false))) (some (33,false)) ?_
   simp only[rG,seval,AC,AF,AE,gd33]
   refine AG hsn 46 (some 85) (.pick (.tmp 72) (.const (Value.bool true)) (.tmp 84)) (some (29,true)) ?_
   simp only[rG,seval,AC,AF,AE,gd29,t68]
   refine AG hsn 47 (some 86) (.pick (.tmp 68) (.tmp 85) (.const (Value.bool false))) none ?_
   simp only[rG,seval,AC,AF,AE,t68]
   refine AG hsn 48 (some 10) (.assign (.tmp 86)) none ?_
   simp only[rG,seval,AC,AF,AE]
   refine hk _ ?_ ?_
   ·simp only[Tr.get_put,if_true];first | rfl | simp[*]
   ·intro t ht
    simp only[J3 ht,Nat.reduceLeDiff]
end
def rt:Code→Code
 | .seq _ b=>b
 | c=>c
def lf:Code→Code
 | .seq a _=>a
 | c=>c
noncomputable def QP:Code:=rt (rt (rt (Tryd.f46.body.getD .skip)))
theorem zC {what k:Int} (hw:what≠8) (h:B9 what k=true):k≠1:=by
 intro e
 subst e
 unfold B9 at h
 rw[if_neg hw] at h
 (repeat' split at h) <;> simp at h
theorem Jg {k:Int} {j:Nat}:BH k j≠8:=VV.2
theorem PT (k:Int):0≤F7 k:=by unfold F7;(repeat' split) <;> omega
section
variable {call:AM} {n:Nat}
structure eI (call:AM) (l:List AB) (v:Value) (m at_:Nat):Prop where
 asked:∀ (k:Int) (j:Nat) h,1≤k∧k≤54→(k=11∨(j:Int)<CV k)→call 64 [iv k,iv j] h=some (iv (BH k j),h)
 row:∀ (p:Nat) (w:Int) h,at_<p→p≤l.length→w≠8→A9 h v l→h.get 0=CT→0<h.next→h.floor≤h.next→call 46 [v,iv p,iv w] h=some (.tuple #[iv ((BG AU l m p w).1:Int),.bool (BG AU l m p w).2],h)
theorem u_ (hsn:CA call) {l:List AB} {v:Value} {m at_ a b:Nat} {x:AB} {T:Tr} {h:AA} {k:CO} {ga0 gb0:Bool} (hc:eI call l v m at_) (hn:l.length+3<n) (hlen:l.length<30000000000000) (hat:at_<l.length)
  (h91:∀ h',h'.get 0=CT→call 62 [.string x.name] h'=some (.bool (AU x.name),h'))
  (hv:A9 h v l) (hg:h.get 0=CT) (hn0:0<h.next) (hfl:h.floor≤h.next) (hkind:1≤x.kind∧x.kind≤54) (hk1:x.kind≠1)
  (t0:T.get 0=v) (t1:T.get 1=iv at_) (t8:T.get 8=qP a 0) (t9:T.get 9=qP b 0)
  (ga:h.get a=.row [.int .i64 x.kind,.string x.name,.int .i64 x.ends,.int .i64 x.n,.int .i64 x.kids] 61 ga0 false)
  (gb:h.get b=.row [.bool (J5 x.kind),.bool (LU x.kind),.bool (x.kind==27),.int .i64 (F7 x.kind),.int .i64 (CV x.kind)] 115 gb0 false) (hb:b<h.next)
  (hk:∀ T' (p:Nat) ok,(p,ok)=(if DH AU x=true then EB (fun k next=>BG AU l m next (BH x.kind k)) x.kids.toNat 0 (at_+1) else (at_,false))→T'.get 6=iv p→T'.get 7=.bool ok→k.ap Tryd.prog call n .ret ⟨T',h⟩) :
  WK Tryd.prog call n QP ⟨T,h⟩ k:=by
 show WK _ _ _ (.seq (.region _ _ true) _) _ _
 rw[K_]
 refine WK.flags (ops:=DO) jJ ?_
 refine CJ.begin ?_
 refine gQ hsn t8 t9 ga gb (by simpa using hb) (fun h' e=>h91 h' (by rw[e];exact hg)) fun T1 e1 k1=>?_
 refine gI hsn (by rw[k1 8 (by decide)];exact t8) (by rw[k1 9 (by decide)];exact t9) ga gb (by simpa using hb) e1 fun T2 e2 k2=>?_
 refine mP hsn (by rw[k2 8 (by decide),k1 8 (by decide)];exact t8) (by rw[k2 9 (by decide),k1 9 (by decide)];exact t9) ga gb (by simpa using hb) e2 fun T3 e3 k3=>?_
 refine CJ.done (i:=49) (by kernel_rfl) ?_
 rw[Q5]
 have kp:∀ t:Nat,t<10→T3.get t=T.get t:=fun t ht=>by rw[k3 t ht,k2 t (by omega),k1 t (by omega)]
 have u0:=(kp 0 (by decide)).trans t0
 have u1:=(kp 1 (by decide)).trans t1
 have u8:=(kp 8 (by decide)).trans t8
 have u9:=(kp 9 (by decide)).trans t9
 clear k1 k2 k3 kp e1 e2
 generalize hcc:(((AU x.name==J5 x.kind)&&(J5 x.kind||x.name==⟨#[]⟩))&&(x.ends==0||LU x.kind&&x.ends==1)&&(x.n==0||(x.kind==27)&&decide (x.n>0)&&decide (x.n≤1073741824)))=cc at e3
 have hfit:DH AU x=(cc&&decide (x.kids≥F7 x.kind)&&(decide (CV x.kind<0)||decide (x.kids≤CV x.kind))):=by
  rw[← hcc]
  rfl
 have bad:DH AU x=false→∀ T',T'.get 6=iv at_→T'.get 7=.bool false→k.ap Tryd.prog call n .ret ⟨T',h⟩:=fun hf T' h6 h7=>hk T' at_ false (by rw[hf];rfl) h6 h7
 have e1:(x.kind==1)=false:=by simpa using hk1
 have hkids:DH AU x=true→0≤x.kids∧(decide (CV x.kind<0)||decide (x.kids≤CV x.kind))=true:=fun hf=>by
  rw[hfit] at hf
  simp only[Bool.and_eq_true,decide_eq_true_eq] at hf
  have:=PT x.kind
  exact⟨by omega,hf.2⟩
 have main:DH AU x=true→∀ T',T'.get 0=v→T'.get 1=iv at_→T'.get 8=qP a 0→WK Tryd.prog call n (rt (rt QP)) ⟨T',h⟩ k:=by
  intro hf T' w0 w1 w8
  obtain⟨hk0,hkm⟩:=hkids hf
  have hkN:((x.kids.toNat:Nat):Int)=x.kids:=by omega
  have wat:=E_ at_ (by omega)
  show WK _ _ _ (.seq _ _) _ _
  simp only[eE,seval,↓eP,rP,w1,w8,ga,e1]
  have res:∀ (p:Nat) ok,EB (fun k next=>BG AU l m next (BH x.kind k)) x.kids.toNat 0 (at_+1)=(p,ok)→∀ T',T'.get 6=iv p→T'.get 7=.bool ok→k.ap Tryd.prog call n .ret ⟨T',h⟩:=fun p ok e T' h6 h7=>hk T' p ok (by rw[if_pos hf,e]) h6 h7
  generalize hg0:EB (fun k next=>BG AU l m next (BH x.kind k)) x.kids.toNat 0 (at_+1)=R at res
  refine WK.loop (fun i s=>s.h=h∧s.T.get 0=v∧s.T.get 8=qP a 0∧s.T.get 13=iv i∧∃ p:Nat,∃ ok:Bool,s.T.get 11=iv p∧s.T.get 12=.bool ok∧p≤l.length∧i≤l.length+1 ∧
   ((ok=true∧i≤x.kids.toNat∧at_+1+i≤p∧EB (fun k next=>BG AU l m next (BH x.kind k)) (x.kids.toNat-i) i p=R)∨(ok=false∧R=(p,false)))) (l.length+2) (by omega) ?_ ?_
  ·simp only[eE,↓reduceIte,Nat.reduceEqDiff,reduceCtorEq,↓eP,rP,Nat.reduceAdd,Nat.reduceLT,w0,w8]
   exact⟨rfl,at_+1,true,wat,rfl,by omega,.inl ⟨rfl,by omega,by rw[Nat.sub_zero];exact hg0⟩⟩
  ·rintro i ⟨T1,h1⟩ hi ⟨rfl,y0,y8,y13,p,ok,y11,y12,hp,hil,hcase⟩
   simp only at y0 y8 y13 y11 y12
   rcases hcase with⟨rfl,hik,hpi,hR⟩ | ⟨rfl,hR⟩
   ·by_cases hlt:i<x.kids.toNat
    ·have c1:decide ((i:Int)<x.kids)=true:=by simp only[decide_eq_true_eq];omega
     have hask:=fun hh=>hc.asked x.kind i hh hkind (by
      simp only[Bool.or_eq_true,decide_eq_true_eq] at hkm
      rcases hkm with h | h
      ·left
       unfold CV at h
       (repeat' split at h) <;> simp_all
      ·right;omega)
     have hrow:=fun hv' hg'=>hc.row p (BH x.kind i) h1 (by omega) hp Jg hv' hg' hn0 hfl
     have hrow':=hrow hv hg
     have w5:=E_ i (by omega)
     generalize hq:BG AU l m p (BH x.kind i)=q at hrow'
     have hstep:EB (fun k next=>BG AU l m next (BH x.kind k)) (x.kids.toNat-i) i p=if q.2=true then EB (fun k next=>BG AU l m next (BH x.kind k)) (x.kids.toNat-(i+1)) (i+1) q.1 else (q.1,false):=by
      obtain⟨r,hr⟩:∃ r,x.kids.toNat-i=r+1:=⟨x.kids.toNat-i-1,by omega⟩
      rw[hr,show x.kids.toNat-(i+1)=r by omega]
      simp only[EB,hq]
     have hq1:q.1≤l.length:=by rw[← hq];exact W3 m p _ hp
     have hq2:q.2=true→p<q.1:=fun h=>by
      have:=RH (isName:=AU) (l:=l) m p (BH x.kind i)
      rw[hq] at this
      exact(this h).1
     simp only[eE,seval,↓eP,rP,y0,y8,y13,y11,y12,ga,c1,hask,hrow']
     refine⟨by omega,w5,q.1,q.2,rfl,rfl,hq1,by omega,?_⟩
     cases hb2:q.2 with
     | true=>
      left
      have:=hq2 hb2
      rw[hb2,if_pos rfl] at hstep
      exact⟨rfl,by omega,by omega,by rw[← hstep];exact hR⟩
     | false=>
      right
      rw[hb2,if_neg (by simp)] at hstep
      exact⟨rfl,by rw[← hR,hstep]⟩
    ·have c1:decide ((i:Int)<x.kids)=false:=by simp only[decide_eq_false_iff_not];omega
     have hie:x.kids.toNat-i=0:=by omega
     rw[hie] at hR
     simp only[eE,seval,↓eP,rP,y8,y13,y11,y12,ga,c1]
     refine res p true (by rw[← hR];rfl) _ ?_ ?_
     ·simp only[eE,seval,↓eP,rP]
     ·simp only[eE,seval,↓eP,rP]
   ·cases c1:decide ((i:Int)<x.kids) with
    | true=>
     simp only[eE,seval,↓eP,rP,y8,y13,y11,y12,ga,c1]
     refine res p false hR _ ?_ ?_
     ·simp only[eE,seval,↓eP,rP]
     ·simp only[eE,seval,↓eP,rP]
    | false=>
     simp only[eE,seval,↓eP,rP,y8,y13,y11,y12,ga,c1]
     refine res p false hR _ ?_ ?_
     ·simp only[eE,seval,↓eP,rP]
     ·simp only[eE,seval,↓eP,rP]
 show WK _ _ _ (.seq _ (rt (rt QP))) _ _
 cases cc with
 | false=>
  simp only[eE,seval,↓eP,rP,e3,u1]
  refine bad (by rw[hfit];rfl) _ ?_ ?_
  ·simp only[eE,seval,↓eP,rP]
  ·simp only[eE,seval,↓eP,rP]
 | true=>
  cases d1:decide (x.kids<F7 x.kind) with
  | true=>
   simp only[eE,seval,↓eP,rP,e3,u1,u8,u9,ga,gb,d1]
   refine bad (by rw[hfit,decide_eq_false (by simp only[decide_eq_true_eq] at d1;omega)];rfl) _ ?_ ?_
   ·simp only[eE,seval,↓eP,rP]
   ·simp only[eE,seval,↓eP,rP]
  | false=>
   have hl:decide (x.kids≥F7 x.kind)=true:=by simp only[decide_eq_false_iff_not] at d1;simp only[decide_eq_true_eq];omega
   cases d2:decide (CV x.kind≥0) with
   | false=>
    have hm:decide (CV x.kind<0)=true:=by simp only[decide_eq_false_iff_not] at d2;simp only[decide_eq_true_eq];omega
    simp only[eE,seval,↓eP,rP,e3,u8,u9,ga,gb,d1,d2]
    refine main (by rw[hfit,hl,hm];rfl) _ ?_ ?_ ?_
    ·simp only[eE,seval,↓eP,rP,u0]
    ·simp only[eE,seval,↓eP,rP,u1]
    ·simp only[eE,seval,↓eP,rP,u8]
   | true=>
    cases d3:decide (x.kids>CV x.kind) with
    | true=>
     have hm:decide (CV x.kind<0)=false:=by simp only[decide_eq_true_eq] at d2;simp only[decide_eq_false_iff_not];omega
     have hm2:decide (x.kids≤CV x.kind)=false:=by simp only[decide_eq_true_eq] at d3;simp only[decide_eq_false_iff_not];omega
     simp only[eE,seval,↓eP,rP,e3,u1,u8,u9,ga,gb,d1,d2,d3]
     refine bad (by rw[hfit,hl,hm,hm2];rfl) _ ?_ ?_
     ·simp only[eE,seval,↓eP,rP]
     ·simp only[eE,seval,↓eP,rP]
    | false=>
     have hm2:decide (x.kids≤CV x.kind)=true:=by simp only[decide_eq_false_iff_not] at d3;simp only[decide_eq_true_eq];omega
     simp only[eE,seval,↓eP,rP,e3,u8,u9,ga,gb,d1,d2,d3]
     refine main (by rw[hfit,hl,hm2,Bool.or_true];rfl) _ ?_ ?_ ?_
     ·simp only[eE,seval,↓eP,rP,u0]
     ·simp only[eE,seval,↓eP,rP,u1]
     ·simp only[eE,seval,↓eP,rP,u8]
end
theorem O_ {a b:Value} (ha:flat a=true) (hb:flat b=true):EJ (.tuple #[a,b])=true:=by simp[EJ,ha,hb]
theorem XA {l:List AB} {m at_:Nat} {what:Int} {x:AB} (hx:l[at_]?=some x):BG AU l (m+1) at_ what=if (B9 what x.kind&&DH AU x)=true then EB (fun k next=>BG AU l m next (BH x.kind k)) x.kids.toNat 0 (at_+1) else (at_,false):=by
 rw[BG,hx]
theorem X1 {l:List AB} {m at_:Nat} {what:Int} (hx:l[at_]?=none):BG AU l (m+1) at_ what=(at_,false):=by
 rw[BG,hx]
section
variable {call:AM} {n:Nat}
theorem kI (hsn:CA call) {l:List AB} {v:Value} {m at_:Nat} {what:Int} {h:AA} (hc:eI call l v m at_) (hn:l.length+3<n) (hlen:l.length<30000000000000) (hat:at_≤l.length) (hw:what≠8)
  (h89:∀ w k h,call 60 [iv w,iv k] h=some (.bool (B9 w k),h))
  (h90':∀ k h,1≤k∧k≤54→call 61 [iv k] h=some (.agg #[.bool (J5 k),.bool (LU k),.bool (k==27),iv (F7 k),iv (CV k)],h))
  (h91:∀ s h',h'.get 0=CT→call 62 [.string s] h'=some (.bool (AU s),h'))
  (hv:A9 h v l) (hg:h.get 0=CT) (hn0:0<h.next) (hfl:h.floor≤h.next) :
  ∃ h1,A7 Tryd.prog call n 46 [v,iv at_,iv what] h=some (.tuple #[iv ((BG AU l (m+1) at_ what).1:Int),.bool (BG AU l (m+1) at_ what).2],h1)∧∀ i,i<h.next→h1.get i=h.get i:=by
 refine EQ (R:=fun h1=>∀ i,i<h.next→h1.get i=h.get i) Tryd.func46 rfl (by simp[Tryd.f46]) ?_
 have hr:Tryd.f46.results.toList=[.tmp 6,.tmp 7]:=rfl
 have hl22:∀ h',C7 Tryd.prog h' 26 v=some (.int .i64 l.length):=fun h'=>hv.len
 cases hx:l[at_]? with
 | none=>
  rw[X1 hx]
  have hge:l.length≤at_:=List.getElem?_eq_none_iff.1 hx
  have c1:decide ((at_:Int)≥(l.length:Int))=true:=by simp only[decide_eq_true_eq];omega
  simp only[eE,seval,↓eP,rP,hr,hl22,c1]
  exact fun i hi=>trivial
 | some x=>
  have hlt:at_<l.length:=(List.getElem?_eq_some_iff.1 hx).1
  have c1:decide ((at_:Int)≥(l.length:Int))=false:=by simp only[decide_eq_false_iff_not];omega
  obtain⟨id,p,e0,hid,l0,l1,l2,l3,l4,lr⟩:=hv.row hx
  rw[XA hx]
  cases hs:B9 what x.kind with
  | false=>
   simp only[eE,seval,↓eP,rP,hr,hl22,c1,e0,l0,h89,hs,Bool.false_and]
   exact fun i hi=>trivial
  | true=>
  have hkind:=PD hs
  have h90:=fun h=>h90' x.kind h hkind
  have hidT:(id<h.next)=True:=by simpa using hid
  have hne1:(h.next=h.next+1)=False:=by simp
  have hne2:(h.next+1=h.next)=False:=by simp
  have hfl1:(h.floor≤h.next)=True:=by simpa using hfl
  have hfl2:(h.floor≤h.next+1)=True:=by simp;omega
  have hlt1:(h.next<h.next+1+1)=True:=by simp;omega
  have hlt2:(h.next+1<h.next+1+1)=True:=by simp
  simp only[Bool.true_and]
  simp only[eE,seval,↓eP,rP,hr,hl22,c1,e0,l0,h89,hs]
  refine WK.flags (ops:=ZU) mQ ?_
  refine CJ.begin ?_
  refine AG hsn 0 (some 29) (.move (.tmp 0)) none ?_
  simp only[eE,seval,↓eP,rP,AE,AC,AF,rF,hr,e0,l0,lr,hidT,h90,hne1,hne2,hfl1,hfl2,hlt1,hlt2]
  refine AG hsn 1 (some 30) (.move (.tmp 1)) none ?_
  simp only[eE,seval,↓eP,rP,AE,AC,AF,rF,hr,e0,l0,lr,hidT,h90,hne1,hne2,hfl1,hfl2,hlt1,hlt2]
  refine AG hsn 2 (some 31) (.indexAddr 26 (.tmp 29) (.tmp 30)) none ?_
  simp only[eE,seval,↓eP,rP,AE,AC,AF,rF,hr,e0,l0,lr,hidT,h90,hne1,hne2,hfl1,hfl2,hlt1,hlt2]
  refine AG hsn 3 (some 32) (.load 61 (.tmp 31)) none ?_
  simp only[eE,seval,↓eP,rP,AE,AC,AF,rF,hr,e0,l0,lr,hidT,h90,hne1,hne2,hfl1,hfl2,hlt1,hlt2]
  refine AG hsn 4 (some 33) (.move (.tmp 0)) none ?_
  simp only[eE,seval,↓eP,rP,AE,AC,AF,rF,hr,e0,l0,lr,hidT,h90,hne1,hne2,hfl1,hfl2,hlt1,hlt2]
  refine AG hsn 5 (some 34) (.move (.tmp 1)) none ?_
  simp only[eE,seval,↓eP,rP,AE,AC,AF,rF,hr,e0,l0,lr,hidT,h90,hne1,hne2,hfl1,hfl2,hlt1,hlt2]
  refine AG hsn 6 (some 35) (.indexAddr 26 (.tmp 33) (.tmp 34)) none ?_
  simp only[eE,seval,↓eP,rP,AE,AC,AF,rF,hr,e0,l0,lr,hidT,h90,hne1,hne2,hfl1,hfl2,hlt1,hlt2]
  refine AG hsn 7 (some 36) (.fieldAddr 61 (.tmp 35) 0) none ?_
  simp only[eE,seval,↓eP,rP,AE,AC,AF,rF,hr,e0,l0,lr,hidT,h90,hne1,hne2,hfl1,hfl2,hlt1,hlt2]
  refine AG hsn 8 (some 37) (.load 3 (.tmp 36)) none ?_
  simp only[eE,seval,↓eP,rP,AE,AC,AF,rF,hr,e0,l0,lr,hidT,h90,hne1,hne2,hfl1,hfl2,hlt1,hlt2]
  refine AG hsn 9 (some 38) (.call { callee:=.value (.func 61),args:=#[.tmp 37],argTypes:=#[3] }) none ?_
  simp only[eE,seval,↓eP,rP,AE,AC,AF,rF,hr,e0,l0,lr,hidT,h90,hne1,hne2,hfl1,hfl2,hlt1,hlt2]
  refine AG hsn 10 (some 8) (.alloc 61) none ?_
  simp only[eE,seval,↓eP,rP,AE,AC,AF,rF,hr,e0,l0,lr,hidT,h90,hne1,hne2,hfl1,hfl2,hlt1,hlt2]
  refine AG hsn 11 (some 9) (.alloc 115) none ?_
  simp only[eE,seval,↓eP,rP,AE,AC,AF,rF,hr,e0,l0,lr,hidT,h90,hne1,hne2,hfl1,hfl2,hlt1,hlt2]
  refine AG hsn 12 (none) (.store 61 (.tmp 8) (.tmp 32)) none ?_
  simp only[eE,seval,↓eP,rP,AE,AC,AF,rF,hr,e0,l0,lr,hidT,h90,hne1,hne2,hfl1,hfl2,hlt1,hlt2]
  refine AG hsn 13 (none) (.store 115 (.tmp 9) (.tmp 38)) none ?_
  simp only[eE,seval,↓eP,rP,AE,AC,AF,rF,hr,e0,l0,lr,hidT,h90,hne1,hne2,hfl1,hfl2,hlt1,hlt2]
  refine CJ.done (i:=14) (by kernel_rfl) ?_
  rw[Q5]
  have hold:∀ i,i<h.next→((((h.push (.row E6 61 false false)).push (.row [.bool false,.bool false,.bool false,.int .i64 0,.int .i64 0] 115 false false)).put h.next (.row [.int .i64 x.kind,.string x.name,.int .i64 x.ends,.int .i64 x.n,.int .i64 x.kids] 61 false false)).put (h.next+1)
    (.row [.bool (J5 x.kind),.bool (LU x.kind),.bool (x.kind==27),iv (F7 x.kind),iv (CV x.kind)] 115 false false)).get i=h.get i:=fun i hi=>by
   rw[QX,if_neg (by omega),QX,if_neg (by omega),RY,if_neg (by rw[CB];omega),RY,if_neg (by omega)]
  refine u_ hsn hc hn hlen hlt (h91 x.name) (hv.mono (by simp only[IU,CB];omega) hold) (by rw[hold 0 hn0];exact hg) (by simp only[IU,CB];omega) (by simp only[IU,CB,LX,IL];omega) hkind (zC hw hs) (a:=h.next) (b:=h.next+1) (ga0:=false) (gb0:=false) ?_ ?_ ?_ ?_ ?_ ?_ (by simp only[IU,CB];omega) ?_
  ·simp only[eE,seval,↓eP,rP]
  ·simp only[eE,seval,↓eP,rP]
  ·simp only[eE,seval,↓eP,rP]
  ·simp only[eE,seval,↓eP,rP]
  ·simp only[eE,seval,↓eP,rP,hne1,hlt1]
  ·simp only[eE,seval,↓eP,rP,hlt2]
  ·intro T' q ok hq h6 h7
   simp only[eE,seval,↓eP,rP,hr,h6,h7,← hq]
   intro i hi
   rw[if_neg (by omega),if_neg (by omega),if_neg (by omega),if_neg (by omega)]
end
theorem WN (k:Int) (h:AA) (hk:1≤k∧k≤54):L1 61 [iv k] h=some (.agg #[.bool (J5 k),.bool (LU k),.bool (k==27),iv (F7 k),iv (CV k)],h):=
 LB (KG rfl rfl rfl rfl (M7 Ew hk))
theorem Lf (k:Int):CV k≤3:=by unfold CV;(repeat' split) <;> omega
theorem Bk {call:AM} {n:Nat} {h:AA} {j:Nat}:A7 Tryd.prog call n 64 [iv 11,iv j] h=some (iv (BH 11 j),h):=by
 refine DG Tryd.func64 rfl (by simp[Tryd.f64]) ?_
 have hr:Tryd.f64.results.toList=[.tmp 4]:=rfl
 simp only[eE,seval,↓eP,rP,hr]
 rfl
theorem rQ (k:Int) (j:Nat) (h:AA) (hk:1≤k∧k≤54) (hj:k=11∨(j:Int)<CV k):L1 64 [iv k,iv j] h=some (iv (BH k j),h):=by
 refine LB (KG rfl rfl rfl rfl ?_)
 rcases hj with rfl | hj
 ·exact⟨_,Bk⟩
 ·have:=Lf k
  have h3:j=0∨j=1∨j=2:=by omega
  rcases h3 with rfl | rfl | rfl
  ·exact M7 Kn hk
  ·exact M7 Cw hk
  ·have h15:k≠15:=by
    rintro rfl
    revert hj
    decide
   have:=M7 Jy hk
   simp only[if_neg h15] at this
   exact this
theorem UT {l:List AB} {m:Nat} {x:AB} (hx:l[0]?=some x):FR AU l m=if (B9 8 x.kind&&DH AU x)=true then DX AU l m x.kids.toNat false 1 else (0,false):=by
 rw[FR,hx]
theorem ZR {l:List AB} {m:Nat} (hx:l[0]?=none):FR AU l m=(0,false):=by
 rw[FR,hx]
section
variable {call:AM} {n:Nat}
theorem zQ (hsn:CA call) {l:List AB} {v:Value} {m at_ a b:Nat} {x:AB} {T:Tr} {h:AA} {k:CO} {ga0 gb0:Bool} (h92:DH AU x=true→call 63 [v,iv at_] h=some (.tuple #[iv ((DX AU l m x.kids.toNat false (at_+1)).1:Int),.bool (DX AU l m x.kids.toNat false (at_+1)).2],h)) (hn:l.length+3<n) (hlen:l.length<30000000000000) (hat:at_<l.length)
  (h91:∀ h',h'.get 0=CT→call 62 [.string x.name] h'=some (.bool (AU x.name),h'))
  (hv:A9 h v l) (hg:h.get 0=CT) (hn0:0<h.next) (hfl:h.floor≤h.next) (hkind:1≤x.kind∧x.kind≤54) (hk1:x.kind=1)
  (t0:T.get 0=v) (t1:T.get 1=iv at_) (t8:T.get 8=qP a 0) (t9:T.get 9=qP b 0)
  (ga:h.get a=.row [.int .i64 x.kind,.string x.name,.int .i64 x.ends,.int .i64 x.n,.int .i64 x.kids] 61 ga0 false)
  (gb:h.get b=.row [.bool (J5 x.kind),.bool (LU x.kind),.bool (x.kind==27),.int .i64 (F7 x.kind),.int .i64 (CV x.kind)] 115 gb0 false) (hb:b<h.next)
  (hk:∀ T' (p:Nat) ok,(p,ok)=(if DH AU x=true then DX AU l m x.kids.toNat false (at_+1) else (at_,false))→T'.get 6=iv p→T'.get 7=.bool ok→k.ap Tryd.prog call n .ret ⟨T',h⟩) :
  WK Tryd.prog call n QP ⟨T,h⟩ k:=by
 show WK _ _ _ (.seq (.region _ _ true) _) _ _
 rw[K_]
 refine WK.flags (ops:=DO) jJ ?_
 refine CJ.begin ?_
 refine gQ hsn t8 t9 ga gb (by simpa using hb) (fun h' e=>h91 h' (by rw[e];exact hg)) fun T1 e1 k1=>?_
 refine gI hsn (by rw[k1 8 (by decide)];exact t8) (by rw[k1 9 (by decide)];exact t9) ga gb (by simpa using hb) e1 fun T2 e2 k2=>?_
 refine mP hsn (by rw[k2 8 (by decide),k1 8 (by decide)];exact t8) (by rw[k2 9 (by decide),k1 9 (by decide)];exact t9) ga gb (by simpa using hb) e2 fun T3 e3 k3=>?_
 refine CJ.done (i:=49) (by kernel_rfl) ?_
 rw[Q5]
 have kp:∀ t:Nat,t<10→T3.get t=T.get t:=fun t ht=>by rw[k3 t ht,k2 t (by omega),k1 t (by omega)]
 have u0:=(kp 0 (by decide)).trans t0
 have u1:=(kp 1 (by decide)).trans t1
 have u8:=(kp 8 (by decide)).trans t8
 have u9:=(kp 9 (by decide)).trans t9
 clear k1 k2 k3 kp e1 e2
 generalize hcc:(((AU x.name==J5 x.kind)&&(J5 x.kind||x.name==⟨#[]⟩))&&(x.ends==0||LU x.kind&&x.ends==1)&&(x.n==0||(x.kind==27)&&decide (x.n>0)&&decide (x.n≤1073741824)))=cc at e3
 have hfit:DH AU x=(cc&&decide (x.kids≥F7 x.kind)&&(decide (CV x.kind<0)||decide (x.kids≤CV x.kind))):=by
  rw[← hcc]
  rfl
 have bad:DH AU x=false→∀ T',T'.get 6=iv at_→T'.get 7=.bool false→k.ap Tryd.prog call n .ret ⟨T',h⟩:=fun hf T' h6 h7=>hk T' at_ false (by rw[hf];rfl) h6 h7
 have e1:(x.kind==1)=true:=by simpa using hk1
 have hkids:DH AU x=true→0≤x.kids∧(decide (CV x.kind<0)||decide (x.kids≤CV x.kind))=true:=fun hf=>by
  rw[hfit] at hf
  simp only[Bool.and_eq_true,decide_eq_true_eq] at hf
  have:=PT x.kind
  exact⟨by omega,hf.2⟩
 have main:DH AU x=true→∀ T',T'.get 0=v→T'.get 1=iv at_→T'.get 8=qP a 0→WK Tryd.prog call n (rt (rt QP)) ⟨T',h⟩ k:=by
  intro hf T' w0 w1 w8
  have h92':=h92 hf
  show WK _ _ _ (.seq _ _) _ _
  simp only[eE,seval,↓eP,rP,w0,w1,w8,ga,e1,h92']
  refine hk _ _ _ (by rw[if_pos hf]) ?_ ?_
  ·simp only[eE,seval,↓eP,rP]
  ·simp only[eE,seval,↓eP,rP]
 show WK _ _ _ (.seq _ (rt (rt QP))) _ _
 cases cc with
 | false=>
  simp only[eE,seval,↓eP,rP,e3,u1]
  refine bad (by rw[hfit];rfl) _ ?_ ?_
  ·simp only[eE,seval,↓eP,rP]
  ·simp only[eE,seval,↓eP,rP]
 | true=>
  cases d1:decide (x.kids<F7 x.kind) with
  | true=>
   simp only[eE,seval,↓eP,rP,e3,u1,u8,u9,ga,gb,d1]
   refine bad (by rw[hfit,decide_eq_false (by simp only[decide_eq_true_eq] at d1;omega)];rfl) _ ?_ ?_
   ·simp only[eE,seval,↓eP,rP]
   ·simp only[eE,seval,↓eP,rP]
  | false=>
   have hl:decide (x.kids≥F7 x.kind)=true:=by simp only[decide_eq_false_iff_not] at d1;simp only[decide_eq_true_eq];omega
   cases d2:decide (CV x.kind≥0) with
   | false=>
    have hm:decide (CV x.kind<0)=true:=by simp only[decide_eq_false_iff_not] at d2;simp only[decide_eq_true_eq];omega
    simp only[eE,seval,↓eP,rP,e3,u8,u9,ga,gb,d1,d2]
    refine main (by rw[hfit,hl,hm];rfl) _ ?_ ?_ ?_
    ·simp only[eE,seval,↓eP,rP,u0]
    ·simp only[eE,seval,↓eP,rP,u1]
    ·simp only[eE,seval,↓eP,rP,u8]
   | true=>
    cases d3:decide (x.kids>CV x.kind) with
    | true=>
     have hm:decide (CV x.kind<0)=false:=by simp only[decide_eq_true_eq] at d2;simp only[decide_eq_false_iff_not];omega
     have hm2:decide (x.kids≤CV x.kind)=false:=by simp only[decide_eq_true_eq] at d3;simp only[decide_eq_false_iff_not];omega
     simp only[eE,seval,↓eP,rP,e3,u1,u8,u9,ga,gb,d1,d2,d3]
     refine bad (by rw[hfit,hl,hm,hm2];rfl) _ ?_ ?_
     ·simp only[eE,seval,↓eP,rP]
     ·simp only[eE,seval,↓eP,rP]
    | false=>
     have hm2:decide (x.kids≤CV x.kind)=true:=by simp only[decide_eq_false_iff_not] at d3;simp only[decide_eq_true_eq];omega
     simp only[eE,seval,↓eP,rP,e3,u8,u9,ga,gb,d1,d2,d3]
     refine main (by rw[hfit,hl,hm2,Bool.or_true];rfl) _ ?_ ?_ ?_
     ·simp only[eE,seval,↓eP,rP,u0]
     ·simp only[eE,seval,↓eP,rP,u1]
     ·simp only[eE,seval,↓eP,rP,u8]
theorem mR (hsn:CA call) {l:List AB} {v:Value} {m:Nat} {h:AA} (h92:∀ x h,l[0]?=some x→DH AU x=true→x.kind=1→A9 h v l→h.get 0=CT→0<h.next→h.floor≤h.next→call 63 [v,iv 0] h=some (.tuple #[iv ((DX AU l m x.kids.toNat false 1).1:Int),.bool (DX AU l m x.kids.toNat false 1).2],h)) (hn:l.length+3<n) (hlen:l.length<30000000000000)
  (h89:∀ w k h,call 60 [iv w,iv k] h=some (.bool (B9 w k),h))
  (h90':∀ k h,1≤k∧k≤54→call 61 [iv k] h=some (.agg #[.bool (J5 k),.bool (LU k),.bool (k==27),iv (F7 k),iv (CV k)],h))
  (h91:∀ s h',h'.get 0=CT→call 62 [.string s] h'=some (.bool (AU s),h'))
  (hv:A9 h v l) (hg:h.get 0=CT) (hn0:0<h.next) (hfl:h.floor≤h.next) :
  ∃ h1,A7 Tryd.prog call n 46 [v,iv 0,iv 8] h=some (.tuple #[iv ((FR AU l m).1:Int),.bool (FR AU l m).2],h1)∧∀ i,i<h.next→h1.get i=h.get i:=by
 refine EQ (R:=fun h1=>∀ i,i<h.next→h1.get i=h.get i) Tryd.func46 rfl (by simp[Tryd.f46]) ?_
 have hr:Tryd.f46.results.toList=[.tmp 6,.tmp 7]:=rfl
 have hl22:∀ h',C7 Tryd.prog h' 26 v=some (.int .i64 l.length):=fun h'=>hv.len
 have e00:((0:Nat):Int)=0:=rfl
 cases hx:l[0]? with
 | none=>
  rw[ZR hx]
  have hge:l.length≤0:=List.getElem?_eq_none_iff.1 hx
  have c1:decide ((0:Int)≥(l.length:Int))=true:=by simp only[decide_eq_true_eq];omega
  simp only[eE,↓reduceIte,Nat.reduceEqDiff,reduceCtorEq,↓eP,rP,Nat.reduceAdd,Nat.reduceLT,hr,hl22,c1]
  exact⟨rfl,fun i hi=>trivial⟩
 | some x=>
  have hlt:0<l.length:=(List.getElem?_eq_some_iff.1 hx).1
  have c1:decide ((0:Int)≥(l.length:Int))=false:=by simp only[decide_eq_false_iff_not];omega
  obtain⟨id,p,e0,hid,l0,l1,l2,l3,l4,lr⟩:=hv.row hx
  rw[UT hx]
  rw[e00] at e0
  cases hs:B9 8 x.kind with
  | false=>
   simp only[eE,↓reduceIte,Nat.reduceEqDiff,reduceCtorEq,↓eP,rP,Nat.reduceAdd,Nat.reduceLT,hr,hl22,c1,e0,l0,h89,hs,Bool.false_and]
   exact⟨rfl,fun i hi=>trivial⟩
  | true=>
  have hkind:=PD hs
  have hk1:x.kind=1:=by simpa [B9] using hs
  have h90:=fun h=>h90' x.kind h hkind
  have hidT:(id<h.next)=True:=by simpa using hid
  have hne1:(h.next=h.next+1)=False:=by simp
  have hne2:(h.next+1=h.next)=False:=by simp
  have hfl1:(h.floor≤h.next)=True:=by simpa using hfl
  have hfl2:(h.floor≤h.next+1)=True:=by simp;omega
  have hlt1:(h.next<h.next+1+1)=True:=by simp;omega
  have hlt2:(h.next+1<h.next+1+1)=True:=by simp
  simp only[Bool.true_and]
  simp only[eE,seval,↓eP,rP,hr,hl22,c1,e0,l0,h89,hs]
  refine WK.flags (ops:=ZU) mQ ?_
  refine CJ.begin ?_
  refine AG hsn 0 (some 29) (.move (.tmp 0)) none ?_
  simp only[eE,seval,↓eP,rP,AE,AC,AF,rF]
  refine AG hsn 1 (some 30) (.move (.tmp 1)) none ?_
  simp only[eE,seval,↓eP,rP,AE,AC,AF,rF]
  refine AG hsn 2 (some 31) (.indexAddr 26 (.tmp 29) (.tmp 30)) none ?_
  simp only[eE,seval,↓eP,rP,AE,AC,AF,rF,e0]
  refine AG hsn 3 (some 32) (.load 61 (.tmp 31)) none ?_
  simp only[eE,seval,↓eP,rP,AE,AC,AF,rF,lr,hidT]
  refine AG hsn 4 (some 33) (.move (.tmp 0)) none ?_
  simp only[eE,seval,↓eP,rP,AE,AC,AF,rF]
  refine AG hsn 5 (some 34) (.move (.tmp 1)) none ?_
  simp only[eE,seval,↓eP,rP,AE,AC,AF,rF]
  refine AG hsn 6 (some 35) (.indexAddr 26 (.tmp 33) (.tmp 34)) none ?_
  simp only[eE,seval,↓eP,rP,AE,AC,AF,rF,e0]
  refine AG hsn 7 (some 36) (.fieldAddr 61 (.tmp 35) 0) none ?_
  simp only[eE,seval,↓eP,rP,AE,AC,AF,rF]
  refine AG hsn 8 (some 37) (.load 3 (.tmp 36)) none ?_
  simp only[eE,seval,↓eP,rP,AE,AC,AF,rF,l0,hidT]
  refine AG hsn 9 (some 38) (.call { callee:=.value (.func 61),args:=#[.tmp 37],argTypes:=#[3] }) none ?_
  simp only[eE,seval,↓eP,rP,AE,AC,AF,rF,h90]
  refine AG hsn 10 (some 8) (.alloc 61) none ?_
  simp only[eE,seval,↓eP,rP,AE,AC,AF,rF]
  refine AG hsn 11 (some 9) (.alloc 115) none ?_
  simp only[eE,seval,↓eP,rP,AE,AC,AF,rF]
  refine AG hsn 12 (none) (.store 61 (.tmp 8) (.tmp 32)) none ?_
  simp only[eE,seval,↓eP,rP,AE,AC,AF,rF,hne1,hfl1]
  refine AG hsn 13 (none) (.store 115 (.tmp 9) (.tmp 38)) none ?_
  simp only[eE,seval,↓eP,rP,AE,AC,AF,rF,hne2,hfl2]
  refine CJ.done (i:=14) (by kernel_rfl) ?_
  rw[Q5]
  have hold:∀ i,i<h.next→((((h.push (.row E6 61 false false)).push (.row [.bool false,.bool false,.bool false,.int .i64 0,.int .i64 0] 115 false false)).put h.next (.row [.int .i64 x.kind,.string x.name,.int .i64 x.ends,.int .i64 x.n,.int .i64 x.kids] 61 false false)).put (h.next+1)
    (.row [.bool (J5 x.kind),.bool (LU x.kind),.bool (x.kind==27),iv (F7 x.kind),iv (CV x.kind)] 115 false false)).get i=h.get i:=fun i hi=>by
   rw[QX,if_neg (by omega),QX,if_neg (by omega),RY,if_neg (by rw[CB];omega),RY,if_neg (by omega)]
  refine zQ hsn (m:=m) (at_:=0) (l:=l) (v:=v) (fun hf=>h92 x _ hx hf hk1 (hv.mono (by simp only[IU,CB];omega) hold) (by rw[hold 0 hn0];exact hg) (by simp only[IU,CB];omega) (by simp only[IU,CB,LX,IL];omega)) hn hlen hlt (h91 x.name) (hv.mono (by simp only[IU,CB];omega) hold) (by rw[hold 0 hn0];exact hg) (by simp only[IU,CB];omega) (by simp only[IU,CB,LX,IL];omega) hkind hk1 (a:=h.next) (b:=h.next+1) (ga0:=false) (gb0:=false) ?_ ?_ ?_ ?_ ?_ ?_ (by simp only[IU,CB];omega) ?_
  ·simp only[eE,seval,↓eP,rP]
  ·simp only[eE,↓reduceIte,Nat.reduceEqDiff,reduceCtorEq,↓eP,rP,Nat.reduceAdd,Nat.reduceLT]
   rfl
  ·simp only[eE,seval,↓eP,rP]
  ·simp only[eE,seval,↓eP,rP]
  ·simp only[eE,seval,↓eP,rP,hne1,hlt1]
  ·simp only[eE,seval,↓eP,rP,hlt2]
  ·intro T' q ok hq h6 h7
   simp only[eE,seval,↓eP,rP,h6,h7,← hq]
   intro i hi
   rw[if_neg (by omega),if_neg (by omega),if_neg (by omega),if_neg (by omega)]
def Q2 (ev:Bool):Int:=if ev=true then 1 else 0
theorem oZ {l:List AB} {v:Value} {m:Nat} {x:AB} {h:AA} (hx:l[0]?=some x) (hk0:0≤x.kids) (hn:l.length+3<n) (hlen:l.length<30000000000000) (hv:A9 h v l)
  (h89:∀ w k h,call 60 [iv w,iv k] h=some (.bool (B9 w k),h))
  (h73:∀ (p:Nat) (w:Int),0<p→p≤l.length→w≠8→call 46 [v,iv p,iv w] h=some (.tuple #[iv ((BG AU l m p w).1:Int),.bool (BG AU l m p w).2],h)) :
  A7 Tryd.prog call n 63 [v,iv 0] h=some (.tuple #[iv ((DX AU l m x.kids.toNat false 1).1:Int),.bool (DX AU l m x.kids.toNat false 1).2],h):=by
 refine DG Tryd.func63 rfl (by simp[Tryd.f63]) ?_
 have hr:Tryd.f63.results.toList=[.tmp 4,.tmp 5]:=rfl
 have hl22:∀ h',C7 Tryd.prog h' 26 v=some (.int .i64 l.length):=fun h'=>hv.len
 have hlt0:0<l.length:=(List.getElem?_eq_some_iff.1 hx).1
 obtain⟨id,q,e0',hid,l0,l1,l2,l3,l4,lr⟩:=hv.row hx
 have e0:CQ Tryd.prog 26 v (.int .i64 0)=some (qP id q):=e0'
 have w1:IntKind.i64.wrap (0+1)=((1:Nat):Int):=rfl
 simp only[eE,↓reduceIte,Nat.reduceEqDiff,reduceCtorEq,↓eP,rP,Nat.reduceAdd,Nat.reduceLT,hr,w1]
 generalize hg0:DX AU l m x.kids.toNat false 1=R
 refine WK.loop (fun i s=>s.h=h∧s.T.get 0=v∧s.T.get 1=iv 0∧s.T.get 9=iv i∧∃ p:Nat,∃ ok ev:Bool,s.T.get 6=iv p∧s.T.get 7=.bool ok∧s.T.get 8=iv (Q2 ev)∧p≤l.length∧0<p∧i≤l.length+1 ∧
  ((ok=true∧i≤x.kids.toNat∧1+i≤p∧DX AU l m (x.kids.toNat-i) ev p=R)∨(ok=false∧R=(p,false)))) (l.length+2) (by omega) ?_ ?_
 ·simp only[eE,↓reduceIte,Nat.reduceEqDiff,reduceCtorEq,↓eP,rP,Nat.reduceAdd,Nat.reduceLT]
  exact⟨rfl,1,true,false,rfl,rfl,rfl,by omega,by omega,.inl ⟨rfl,by omega,by rw[Nat.sub_zero];exact hg0⟩⟩
 ·rintro i ⟨T1,h1⟩ hi ⟨rfl,y0,y1,y9,p,ok,ev,y6,y7,y8,hp,hp0,hil,hcase⟩
  simp only at y0 y1 y9 y6 y7 y8
  rcases hcase with⟨rfl,hik,hpi,hR⟩ | ⟨rfl,hR⟩
  ·by_cases hlt:i<x.kids.toNat
   ·have c1:decide ((i:Int)<x.kids)=true:=by simp only[decide_eq_true_eq];omega
    have w5:=E_ i (by omega)
    have hstep:DX AU l m (x.kids.toNat-i) ev p=if (BG AU l m p (F8 ev l[p]?)).2=true then DX AU l m (x.kids.toNat-(i+1)) (ev||LV l[p]?) (BG AU l m p (F8 ev l[p]?)).1 else ((BG AU l m p (F8 ev l[p]?)).1,false):=by
     obtain⟨r,hr⟩:∃ r,x.kids.toNat-i=r+1:=⟨x.kids.toNat-i-1,by omega⟩
     rw[hr,show x.kids.toNat-(i+1)=r by omega]
     rfl
    have hdw:F8 ev l[p]?≠8:=by unfold F8;split <;> decide
    have hrow:=h73 p (F8 ev l[p]?) hp0 hp hdw
    have hev':F8 ev l[p]?=Q2 (ev||LV l[p]?):=by unfold F8 Q2;cases ev <;> cases LV l[p]? <;> rfl
    have fin:i<l.length+2∧∃ p1:Nat,∃ ok ev1:Bool,(((BG AU l m p (F8 ev l[p]?)).1:Nat):Int)=(p1:Int)∧Value.bool (BG AU l m p (F8 ev l[p]?)).2=.bool ok∧Q2 (ev||LV l[p]?)=Q2 ev1∧p1≤l.length∧0<p1∧i+1≤l.length+1 ∧
       ((ok=true∧i+1≤x.kids.toNat∧1+(i+1)≤p1∧DX AU l m (x.kids.toNat-(i+1)) ev1 p1=R)∨(ok=false∧R=(p1,false))):=by
     generalize hq:BG AU l m p (F8 ev l[p]?)=Q at *
     have hq1:Q.1≤l.length:=by rw[← hq];exact W3 m p _ hp
     have hq0:p≤Q.1:=by rw[← hq];exact P9 m p _
     have hq2:Q.2=true→p<Q.1:=fun h=>by
      have:=RH (isName:=AU) (l:=l) m p (F8 ev l[p]?)
      rw[hq] at this
      exact(this h).1
     refine⟨by omega,Q.1,Q.2,(ev||LV l[p]?),rfl,rfl,rfl,hq1,by omega,by omega,?_⟩
     cases hb2:Q.2 with
     | true=>
      left
      have:=hq2 hb2
      rw[hb2,if_pos rfl] at hstep
      exact⟨rfl,by omega,by omega,by rw[← hstep];exact hR⟩
     | false=>
      right
      rw[hb2,if_neg (by simp)] at hstep
      exact⟨rfl,by rw[← hR,hstep]⟩
    cases hxp:l[p]? with
    | none=>
     have hge:l.length≤p:=List.getElem?_eq_none_iff.1 hxp
     have c2:decide ((p:Int)<(l.length:Int))=false:=by simp only[decide_eq_false_iff_not];omega
     have hie:LV (none:Option AB)=false:=rfl
     rw[hxp] at hrow fin hev'
     rw[hie,Bool.or_false] at hev' fin
     rw[hev'] at hrow fin
     simp only[eE,↓reduceIte,Nat.reduceEqDiff,reduceCtorEq,↓eP,rP,Nat.reduceAdd,Nat.reduceLT,y0,y1,y9,y6,y7,y8,e0,l4,c1,hl22,c2,hrow,w5]
     exact fin
    | some y=>
     have hlt2:p<l.length:=(List.getElem?_eq_some_iff.1 hxp).1
     have c2:decide ((p:Int)<(l.length:Int))=true:=by simp only[decide_eq_true_eq];omega
     obtain⟨id2,q2,f0,hid2,m0,m1,m2,m3,m4,mr⟩:=hv.row hxp
     have hie:LV (some y)=B9 1 y.kind:=rfl
     rw[hxp] at hrow fin hev'
     rw[hie] at hev' fin
     rw[hev'] at hrow fin
     cases hs:B9 1 y.kind with
     | false=>
      rw[hs,Bool.or_false] at hrow fin
      simp only[eE,↓reduceIte,Nat.reduceEqDiff,reduceCtorEq,↓eP,rP,Nat.reduceAdd,Nat.reduceLT,y0,y1,y9,y6,y7,y8,e0,l4,c1,hl22,c2,f0,m0,h89,hs,hrow,w5]
      exact fin
     | true=>
      have he1:Q2 true=1:=rfl
      rw[hs,Bool.or_true,he1] at hrow fin
      simp only[eE,↓reduceIte,Nat.reduceEqDiff,reduceCtorEq,↓eP,rP,Nat.reduceAdd,Nat.reduceLT,y0,y1,y9,y6,y7,e0,l4,c1,hl22,c2,f0,m0,h89,hs,hrow,w5]
      exact fin
   ·have c1:decide ((i:Int)<x.kids)=false:=by simp only[decide_eq_false_iff_not];omega
    have hie:x.kids.toNat-i=0:=by omega
    rw[hie] at hR
    have hR':R=(p,true):=by rw[← hR];rfl
    simp only[eE,seval,↓eP,rP,y0,y1,y9,y6,y7,e0,l4,c1,hR']
  ·cases c1:decide ((i:Int)<x.kids) <;> simp only[eE,seval,↓eP,rP,y0,y1,y9,y6,y7,e0,l4,c1,hR]
end
def RX (a b:Int) (k:Nat):Bool:=if b=0 then false else if 1≤a∧a≤5 then (decide (b<a)||(b==a&&((k:Int)==1||a==3))) else if a=6 then decide (b<6) else false
def G_ (a b:Int) (k:Nat):Int:=if RX a b k=true then 1 else 0
def HX (g:Nat→Int × Nat) (l:List AB) (kind:Int):Nat→Nat→Int→Nat→Int × Nat
 | 0,_,most,next=>(most,next)
 | r+1,k,most,next=>match l[next]? with
  | none=>(most,next)
  | some y=>HX g l kind r (k+1) (if (g next).1+G_ (C1 kind) (C1 y.kind) k>most then (g next).1+G_ (C1 kind) (C1 y.kind) k else most) (g next).2
def C9 (l:List AB):Nat→Nat→Int × Nat
 | 0,at_=>(0,at_)
 | m+1,at_=>match l[at_]? with
  | none=>(0,at_)
  | some x=>((HX (C9 l m) l x.kind x.kids.toNat 0 0 (at_+1)).1+G9 x.kind,(HX (C9 l m) l x.kind x.kids.toNat 0 0 (at_+1)).2)
theorem UW (k:Int):0≤G9 k∧G9 k≤1:=by unfold G9;split <;> omega
theorem X8 (a b:Int) (k:Nat):0≤G_ a b k∧G_ a b k≤1:=by unfold G_;split <;> omega
theorem fU {g:Nat→Int × Nat} {l:List AB} {kind B:Int} (hg:∀ p,0≤(g p).1∧(g p).1≤B):∀ r k most next,0≤most→most≤B+1→0≤(HX g l kind r k most next).1∧(HX g l kind r k most next).1≤B+1:=by
 intro r
 induction r with
 | zero=>intro k most next h0 h1;exact⟨h0,h1⟩
 | succ r ih=>
  intro k most next h0 h1
  unfold HX
  split
  ·exact⟨h0,h1⟩
  ·rename_i y hy
   have:=hg next
   have:=X8 (C1 kind) (C1 y.kind) k
   apply ih <;> split <;> omega
theorem rD {l:List AB}:∀ m at_,0≤(C9 l m at_).1∧(C9 l m at_).1≤2*(m:Int):=by
 intro m
 induction m with
 | zero=>intro at_;exact⟨Int.le_refl 0,by show (0:Int)≤_;omega⟩
 | succ m ih=>
  intro at_
  unfold C9
  split
  ·exact⟨Int.le_refl 0,by show (0:Int)≤_;omega⟩
  ·rename_i x hx
   have:=fU (g:=C9 l m) (l:=l) (kind:=x.kind) (B:=2*(m:Int)) ih x.kids.toNat 0 0 (at_+1) (Int.le_refl 0) (by omega)
   have:=UW x.kind
   constructor <;> simp only <;> omega
theorem Fg {g:Nat→Int × Nat} {l:List AB} {kind:Int} (hg:∀ p,p<l.length→p≤(g p).2∧(g p).2≤l.length):∀ r k most next,next≤l.length→next≤(HX g l kind r k most next).2∧(HX g l kind r k most next).2≤l.length:=by
 intro r
 induction r with
 | zero=>intro k most next h;exact⟨Nat.le_refl _,h⟩
 | succ r ih=>
  intro k most next h
  unfold HX
  split
  ·exact⟨Nat.le_refl _,h⟩
  ·rename_i y hy
   have hlt:next<l.length:=(List.getElem?_eq_some_iff.1 hy).1
   have h1:=hg next hlt
   have h2:=ih (k+1) (if (g next).1+G_ (C1 kind) (C1 y.kind) k>most then (g next).1+G_ (C1 kind) (C1 y.kind) k else most) (g next).2 h1.2
   omega
theorem xX {l:List AB}:∀ m at_,at_<l.length→at_≤(C9 l m at_).2∧(C9 l m at_).2≤l.length∧(0<m→at_<(C9 l m at_).2):=by
 intro m
 induction m with
 | zero=>intro at_ h;exact⟨Nat.le_refl _,by show at_≤_;omega,fun h=>absurd h (by omega)⟩
 | succ m ih=>
  intro at_ h
  unfold C9
  rw[List.getElem?_eq_getElem h]
  have:=Fg (g:=C9 l m) (l:=l) (kind:=l[at_].kind) (fun p hp=>⟨(ih p hp).1,(ih p hp).2.1⟩) l[at_].kids.toNat 0 0 (at_+1) h
  simp only
  omega
section
variable {call:AM} {n:Nat} {h:AA}
theorem eN (k:Int) (h:AA) (hk:1≤k∧k≤54):L1 86 [iv k] h=some (iv (G9 k),h):=LB (KG rfl rfl rfl rfl (M7 Hr hk))
theorem Ff {P K:Int} {k:Nat} {a b:Int} (ha:call 88 [iv P] h=some (iv a,h)) (hb:call 88 [iv K] h=some (iv b,h)):A7 Tryd.prog call n 85 [iv P,iv k,iv K] h=some (.bool (RX a b k),h):=by
 refine DG Tryd.func85 rfl (by simp[Tryd.f85]) ?_
 have hr:Tryd.f85.results.toList=[.tmp 6]:=rfl
 unfold RX
 by_cases b0:b=0
 ·subst b0
  simp only[eE,seval,↓eP,rP,hr,ha,hb]
 have c0:(b==0)=false:=by simpa using b0
 rw[if_neg b0]
 by_cases a15:1≤a∧a≤5
 ·rw[if_pos a15]
  have d1:decide (a≥1)=true:=decide_eq_true a15.1
  have d2:decide (a≤5)=true:=decide_eq_true a15.2
  cases d3:decide (b<a) with
  | true=>simp only[eE,seval,↓eP,rP,hr,ha,hb,c0,d1,d2,d3,Bool.true_or]
  | false=>
   cases d4:(b==a) with
   | false=>simp only[eE,seval,↓eP,rP,hr,ha,hb,c0,d1,d2,d3,d4,Bool.false_or,Bool.false_and]
   | true=>
    cases d5:((k:Int)==1) with
    | true=>simp only[eE,seval,↓eP,rP,hr,ha,hb,c0,d1,d2,d3,d4,d5,Bool.false_or,Bool.true_or]
    | false=>simp only[eE,seval,↓eP,rP,hr,ha,hb,c0,d1,d2,d3,d4,d5,Bool.false_or]
 ·rw[if_neg a15]
  cases d1:decide (a≥1) with
  | false=>
   simp only[decide_eq_false_iff_not] at d1
   have d1':decide (a≥1)=false:=decide_eq_false d1
   have c6:(a==6)=false:=by simp;omega
   rw[if_neg (by omega)]
   simp only[eE,seval,↓eP,rP,hr,ha,hb,c0,d1',c6]
  | true=>
   simp only[decide_eq_true_eq] at d1
   have d1':decide (a≥1)=true:=decide_eq_true d1
   have d2:decide (a≤5)=false:=decide_eq_false (by omega)
   by_cases a6:a=6
   ·subst a6
    simp only[eE,seval,↓eP,rP,hr,ha,hb,c0,d1',d2]
   ·have c6:(a==6)=false:=by simpa using a6
    rw[if_neg a6]
    simp only[eE,seval,↓eP,rP,hr,ha,hb,c0,d1',d2,c6]
noncomputable def kW:Array Oper:=D2 Tryd.f65 6
def Ey:List (Bool × Bool × List Operand):=[AQ,AQ,AQ,AQ,AQ,AH [.tmp 30],AH [.tmp 30],AH [.tmp 30],AH [.tmp 30],AH [.tmp 30],AH [.tmp 30],AK]
theorem yD:DU kW=Ey:=by kernel_rfl
theorem eO (hsn:CA call) {l:List AB} {v:Value} {m at_:Nat} (hn:l.length+3<n) (hlen:l.length<30000000000000) (hm:m<30000000000000) (hat:at_<l.length) (hmm:l.length<at_+1+m) (hv:A9 h v l) (hval:∀ (i:Nat) x,l[i]?=some x→1≤x.kind∧x.kind≤54)
  (h108:∀ P K (k:Nat) h,1≤P∧P≤54→1≤K∧K≤54→call 85 [iv P,iv k,iv K] h=some (.bool (RX (C1 P) (C1 K) k),h)) (h109:∀ k h,1≤k∧k≤54→call 86 [iv k] h=some (iv (G9 k),h))
  (h94:∀ p:Nat,at_<p→p<l.length→call 65 [v,iv p] h=some (.tuple #[iv (C9 l m p).1,iv ((C9 l m p).2:Int)],h)) :
  A7 Tryd.prog call n 65 [v,iv at_] h=some (.tuple #[iv (C9 l (m+1) at_).1,iv ((C9 l (m+1) at_).2:Int)],h):=by
 refine DG Tryd.func65 rfl (by simp[Tryd.f65]) ?_
 have hr:Tryd.f65.results.toList=[.tmp 4,.tmp 5]:=rfl
 have hl22:∀ h',C7 Tryd.prog h' 26 v=some (.int .i64 l.length):=fun h'=>hv.len
 obtain⟨x,hx⟩:∃ x,l[at_]?=some x:=⟨_,List.getElem?_eq_getElem hat⟩
 obtain⟨id,q,e0,hid,l0,l1,l2,l3,l4,lr⟩:=hv.row hx
 have hkx:=hval at_ x hx
 have w1:=E_ at_ (by omega)
 have hres:C9 l (m+1) at_=((HX (C9 l m) l x.kind x.kids.toNat 0 0 (at_+1)).1+G9 x.kind,(HX (C9 l m) l x.kind x.kids.toNat 0 0 (at_+1)).2):=by rw[C9,hx]
 rw[hres]
 have hop:=fun h=>h109 x.kind h hkx
 have hopl:=UW x.kind
 have hRle:=fU (g:=C9 l m) (l:=l) (kind:=x.kind) (B:=2*(m:Int)) (rD m) x.kids.toNat 0 0 (at_+1) (Int.le_refl 0) (by omega)
 simp only[eE,seval,↓eP,rP,hr,w1]
 generalize hg0:HX (C9 l m) l x.kind x.kids.toNat 0 0 (at_+1)=R at *
 refine WK.loop (fun i s=>s.h=h∧s.T.get 0=v∧s.T.get 1=iv at_∧s.T.get 6=iv i∧∃ (most:Int) (p:Nat),s.T.get 4=iv most∧s.T.get 5=iv p∧at_+1+i≤p∧p≤l.length∧0≤most∧most≤2*(m:Int)+1∧i≤x.kids.toNat∧HX (C9 l m) l x.kind (x.kids.toNat-i) i most p=R) (l.length+2) (by omega) ?_ ?_
 ·simp only[eE,↓reduceIte,Nat.reduceEqDiff,reduceCtorEq,↓eP,rP,Nat.reduceAdd,Nat.reduceLT]
  exact⟨rfl,0,at_+1,rfl,rfl,by omega,by omega,by omega,by omega,by rw[Nat.sub_zero];exact hg0⟩
 ·rintro i ⟨T1,h1⟩ hi ⟨rfl,y0,y1,y6,most,p,y4,y5,hip,hp,hm0,hm1,hik,hR⟩
  simp only at y0 y1 y4 y5 y6
  have done:∀ T':Tr,T'.get 4=iv most→T'.get 5=iv p→R=(most,p)→True:=fun _ _ _ _=>trivial
  by_cases hlt:i<x.kids.toNat
  ·have c1:decide ((i:Int)<x.kids)=true:=by simp only[decide_eq_true_eq];omega
   obtain⟨r,hr1⟩:∃ r,x.kids.toNat-i=r+1:=⟨x.kids.toNat-i-1,by omega⟩
   rw[hr1] at hR
   by_cases hpl:p<l.length
   ·have c2:decide ((p:Int)<(l.length:Int))=true:=by simp only[decide_eq_true_eq];omega
    obtain⟨y,hy⟩:∃ y,l[p]?=some y:=⟨_,List.getElem?_eq_getElem hpl⟩
    obtain⟨id2,q2,f0,hid2,m0,m1,m2,m3,m4,mr⟩:=hv.row hy
    have hky:=hval p y hy
    have hL:=fun hh=>h108 x.kind y.kind i hh hkx hky
    have h94':=h94 p (by omega) hpl
    have hle:=rD (l:=l) m p
    have hnx:=xX (l:=l) m p hpl
    have w5:=E_ i (by omega)
    have hloI:=X8 (C1 x.kind) (C1 y.kind) i
    have w6:IntKind.i64.wrap ((C9 l m p).1+G_ (C1 x.kind) (C1 y.kind) i)=(C9 l m p).1+G_ (C1 x.kind) (C1 y.kind) i:=C8 (by omega) (by omega)
    have hstep:HX (C9 l m) l x.kind (x.kids.toNat-(i+1)) (i+1) (if (C9 l m p).1+G_ (C1 x.kind) (C1 y.kind) i>most then (C9 l m p).1+G_ (C1 x.kind) (C1 y.kind) i else most) (C9 l m p).2=R:=by
     rw[← hR,show x.kids.toNat-(i+1)=r by omega]
     simp only[HX,hy]
    simp only[eE,seval,↓eP,rP,y0,y1,y4,y5,y6,e0,l0,l4,c1,hl22,c2]
    refine WK.flags (ops:=kW) yD ?_
    refine CJ.begin ?_
    refine AG hsn 0 (some 27) (.move (.tmp 0)) none ?_
    simp only[eE,seval,↓eP,rP,AE,AC,AF,rF,y0,y1,y4,y5,y6,e0,l0,f0,m0,hL]
    refine AG hsn 1 (some 28) (.move (.tmp 1)) none ?_
    simp only[eE,seval,↓eP,rP,AE,AC,AF,rF,y0,y1,y4,y5,y6,e0,l0,f0,m0,hL]
    refine AG hsn 2 (some 29) (.indexAddr 26 (.tmp 27) (.tmp 28)) none ?_
    simp only[eE,seval,↓eP,rP,AE,AC,AF,rF,y0,y1,y4,y5,y6,e0,l0,f0,m0,hL]
    refine AG hsn 3 (some 30) (.fieldAddr 61 (.tmp 29) 0) none ?_
    simp only[eE,seval,↓eP,rP,AE,AC,AF,rF,y0,y1,y4,y5,y6,e0,l0,f0,m0,hL]
    refine AG hsn 4 (some 31) (.load 3 (.tmp 30)) none ?_
    simp only[eE,seval,↓eP,rP,AE,AC,AF,rF,y0,y1,y4,y5,y6,e0,l0,f0,m0,hL]
    refine AG hsn 5 (some 32) (.move (.tmp 6)) none ?_
    simp only[eE,seval,↓eP,rP,AE,AC,AF,rF,y0,y1,y4,y5,y6,e0,l0,f0,m0,hL]
    refine AG hsn 6 (some 33) (.move (.tmp 0)) none ?_
    simp only[eE,seval,↓eP,rP,AE,AC,AF,rF,y0,y1,y4,y5,y6,e0,l0,f0,m0,hL]
    refine AG hsn 7 (some 34) (.move (.tmp 5)) none ?_
    simp only[eE,seval,↓eP,rP,AE,AC,AF,rF,y0,y1,y4,y5,y6,e0,l0,f0,m0,hL]
    refine AG hsn 8 (some 35) (.indexAddr 26 (.tmp 33) (.tmp 34)) none ?_
    simp only[eE,seval,↓eP,rP,AE,AC,AF,rF,y0,y1,y4,y5,y6,e0,l0,f0,m0,hL]
    refine AG hsn 9 (some 36) (.fieldAddr 61 (.tmp 35) 0) none ?_
    simp only[eE,seval,↓eP,rP,AE,AC,AF,rF,y0,y1,y4,y5,y6,e0,l0,f0,m0,hL]
    refine AG hsn 10 (some 37) (.load 3 (.tmp 36)) none ?_
    simp only[eE,seval,↓eP,rP,AE,AC,AF,rF,y0,y1,y4,y5,y6,e0,l0,f0,m0,hL]
    refine AG hsn 11 (some 38) (.call { callee:=.value (.func 85),args:=#[.tmp 31,.tmp 32,.tmp 37],argTypes:=#[3,3,3] }) none ?_
    simp only[eE,seval,↓eP,rP,AE,AC,AF,rF,y0,y1,y4,y5,y6,e0,l0,f0,m0,hL]
    refine CJ.done (i:=12) (by kernel_rfl) ?_
    cases hlo:RX (C1 x.kind) (C1 y.kind) i with
    | false=>
     have hI:G_ (C1 x.kind) (C1 y.kind) i=0:=by unfold G_;rw[hlo];rfl
     rw[hI] at w6 hstep
     simp only[eE,seval,↓eP,rP,y0,y1,y4,y5,y6,h94',w5,w6]
     exact⟨by omega,_,_,rfl,rfl,by omega,by omega,by split <;> omega,by split <;> omega,by omega,hstep⟩
    | true=>
     have hI:G_ (C1 x.kind) (C1 y.kind) i=1:=by unfold G_;rw[hlo];rfl
     rw[hI] at w6 hstep
     simp only[eE,seval,↓eP,rP,y0,y1,y4,y5,y6,h94',w5,w6]
     exact⟨by omega,_,_,rfl,rfl,by omega,by omega,by split <;> omega,by split <;> omega,by omega,hstep⟩
   ·have c2:decide ((p:Int)<(l.length:Int))=false:=by simp only[decide_eq_false_iff_not];omega
    have hRe:R=(most,p):=by
     rw[← hR]
     simp only[HX,List.getElem?_eq_none (Nat.le_of_not_lt hpl)]
    subst hRe
    have w7:IntKind.i64.wrap (most+G9 x.kind)=most+G9 x.kind:=C8 (by omega) (by omega)
    simp only[eE,seval,↓eP,rP,hr,y0,y1,y4,y5,y6,e0,l0,l4,c1,hl22,c2,hop,w7]
  ·have c1:decide ((i:Int)<x.kids)=false:=by simp only[decide_eq_false_iff_not];omega
   have hRe:R=(most,p):=by
    rw[← hR,show x.kids.toNat-i=0 by omega]
    rfl
   subst hRe
   have w7:IntKind.i64.wrap (most+G9 x.kind)=most+G9 x.kind:=C8 (by omega) (by omega)
   simp only[eE,seval,↓eP,rP,hr,y0,y1,y4,y5,y6,e0,l0,l4,c1,hop,w7]
end
def cE (l:List AB) (i:Nat):Prop:=∃ x,l[i]?=some x∧1≤x.kind∧x.kind≤54
theorem aF {g:Nat→Nat→Nat × Bool} {V:Nat→Prop} (hg:∀ k p,(g k p).2=true→∀ i,p≤i→i<(g k p).1→V i):∀ r k p,(EB g r k p).2=true→∀ i,p≤i→i<(EB g r k p).1→V i:=by
 intro r
 induction r with
 | zero=>intro k p _ i h1 h2;exact absurd (show i<p from h2) (by omega)
 | succ r ih=>
  intro k p h i h1 h2
  unfold EB at h h2
  split at h
  ·rename_i hc
   rw[if_pos hc] at h2
   rcases Nat.lt_or_ge i (g k p).1 with h3 | h3
   ·exact hg k p hc i h1 h3
   ·exact ih _ _ h i h3 h2
  ·cases h
theorem zF {l:List AB}:∀ m at_ what,(BG AU l m at_ what).2=true→∀ i,at_≤i→i<(BG AU l m at_ what).1→cE l i:=by
 intro m
 induction m with
 | zero=>intro at_ what h;cases h
 | succ m ih=>
  intro at_ what
  unfold BG
  cases hx:l[at_]? with
  | none=>intro h;cases h
  | some x=>
   simp only
   split
   ·rename_i hc
    intro h i h1 h2
    rcases Nat.lt_or_ge at_ i with h3 | h3
    ·exact aF (V:=cE l) (fun k p hk i h1 h2=>ih p (BH x.kind k) hk i h1 h2) x.kids.toNat 0 (at_+1) h i h3 h2
    ·have:i=at_:=by omega
     subst this
     exact⟨x,hx,PD (Bool.and_eq_true_iff.1 hc).1⟩
   ·intro h;cases h
theorem Lv {l:List AB} {m:Nat}:∀ r ev p,(DX AU l m r ev p).2=true→∀ i,p≤i→i<(DX AU l m r ev p).1→cE l i:=by
 intro r
 induction r with
 | zero=>intro ev p _ i h1 h2;exact absurd (show i<p from h2) (by omega)
 | succ r ih=>
  intro ev p h i h1 h2
  unfold DX at h h2
  split at h
  ·rename_i hc
   rw[if_pos hc] at h2
   rcases Nat.lt_or_ge i (BG AU l m p (F8 ev l[p]?)).1 with h3 | h3
   ·exact zF m p _ hc i h1 h3
   ·exact ih _ _ h i h3 h2
  ·cases h
theorem qN {l:List AB} (h:IH AU l=none):∀ (i:Nat) x,l[i]?=some x→1≤x.kind∧x.kind≤54:=by
 unfold IH at h
 split at h
 ·rename_i hc
  obtain⟨h1,h2⟩:=hc
  intro i x hx
  have hlt:=(List.getElem?_eq_some_iff.1 hx).1
  unfold FR at h1 h2
  cases h0:l[0]? with
  | none=>rw[h0] at h1;cases h1
  | some y=>
   rw[h0] at h1 h2
   simp only at h1 h2
   split at h1
   ·rename_i hc
    rw[if_pos hc] at h2
    rcases Nat.eq_zero_or_pos i with rfl | hp
    ·rw[h0] at hx
     cases hx
     exact PD (Bool.and_eq_true_iff.1 hc).1
    ·obtain⟨z,hz,hv⟩:=Lv y.kids.toNat false 1 h1 i hp (by omega)
     rw[hx] at hz
     cases hz
     exact hv
   ·cases h1
 ·cases h
theorem XG {l:List AB} (h:IH AU l=none):0<l.length:=by
 rcases Nat.eq_zero_or_pos l.length with h0 | h0
 ·have:l=[]:=List.length_eq_zero_iff.1 h0
  subst this
  revert h
  unfold IH FR
  simp
 ·exact h0
theorem IS:BI Tryd.prog 36=some 2:=by kernel_rfl
theorem Ef:FB Tryd.prog 36=some true:=by kernel_rfl
theorem DK:C6 Tryd.prog 36=some (.agg #[.int .i64 0,.int .i64 0]):=by kernel_rfl
theorem ZZ:H_ Tryd.prog (match Tryd.prog.underlying 36 with | some (.struct fs)=>fs.toList | _=>[])=some [(0,1),(1,1)]:=by kernel_rfl
abbrev BR (e a:Int):Value:=.agg #[.int .i64 e,.int .i64 a]
theorem DJ {e a:Int}:flat (BR e a)=true:=rfl
theorem IQ {e a:Int}:C_ Tryd.prog 36 [(0,.int .i64 e),(1,.int .i64 a)]=some (BR e a):=by
 have h:=ZZ
 rw[Tryd.underlying36] at h
 simp only at h
 simp only[C_,DK,DJ,if_true,Tryd.underlying36,h]
 rfl
theorem PE {e:Int}:C_ Tryd.prog 36 [(0,.int .i64 e)]=some (BR e 0):=by
 have h:=ZZ
 rw[Tryd.underlying36] at h
 simp only at h
 simp only[C_,DK,DJ,if_true,Tryd.underlying36,h]
 rfl
theorem FQ:C_ Tryd.prog 36 []=some (BR 0 0):=by
 have h:=ZZ
 rw[Tryd.underlying36] at h
 simp only at h
 simp only[C_,DK,DJ,if_true,Tryd.underlying36,h]
 rfl
noncomputable def bH (h:AA) (id:Nat) (a b:Int):BA→Option AA
 | .row [_,_] ty g false=>if h.floor≤id then some (h.put id (.row [.int .i64 a,.int .i64 b] ty g false)) else none
 | _=>BC Tryd.prog h 36 (qP id 0) (BR a b)
theorem XR {h:AA} {id:Nat} {a b:Int}:BC Tryd.prog h 36 (qP id 0) (BR a b)=bH h id a b (h.get id):=by
 cases hg:h.get id with
 | dead=>rfl
 | map _=>rfl
 | row cs ty g ro=>
  match cs,ro with
  | [c,d],false=>
   simp only[bH]
   split
   ·rename_i hf
    simp[BC,IS,GB,hg,hf,Go.Sx.lay,Value.cells,one]
   ·rename_i hf
    simp[BC,IS,GB,hg,hf,Go.Sx.lay,Value.cells,one]
  | [c,d],true=>rfl
  | [],ro=>rfl
  | [c],ro=>rfl
  | c :: d :: e :: l,ro=>rfl
theorem XL {h:AA} {id:Nat} {a b:Int} {x y:Value} {ty:TypeId} {g:Bool}:bH h id a b (.row [x,y] ty g false)=if h.floor≤id then some (h.put id (.row [.int .i64 a,.int .i64 b] ty g false)) else none:=rfl
theorem CM {h:AA} {id off:Nat}:EA Tryd.prog h 36 (qP id off)=AY 2 off (h.get id):=MB Ef IS
theorem U4 {a b:Value} {ty:TypeId} {g ro:Bool}:AY 2 0 (.row [a,b] ty g ro)=some (.agg #[a,b]):=rfl
theorem qA (k:Int) (h:AA) (hk:1≤k∧k≤54):L0 88 [iv k] h=some (iv (C1 k),h):=KG rfl rfl rfl rfl (M7 kY hk)
theorem nI (P Q:Int) (k:Nat) (h:AA) (hP:1≤P∧P≤54) (hQ:1≤Q∧Q≤54):L1 85 [iv P,iv k,iv Q] h=some (.bool (RX (C1 P) (C1 Q) k),h):=
 KG (IJ rfl rfl) rfl rfl rfl ⟨_,Ff (HK (qA P _ hP)) (HK (qA Q _ hQ))⟩
theorem zU {l:List AB} {m:Nat}:(FR AU l m).1≤l.length:=by
 unfold FR
 split
 ·exact Nat.zero_le _
 ·rename_i x hx
  have:=(List.getElem?_eq_some_iff.1 hx).1
  split
  ·exact iA _ _ _ this
  ·exact Nat.zero_le _
def CY (l:List AB):Int × Int:=match IH AU l with
 | some p=>(23,(p:Int))
 | none=>if (C9 l (l.length+1) 0).1>64 then (22,0) else (0,0)
section
variable {call:AM} {n:Nat}
theorem fT {l:List AB} {v:Value} {h:AA} {m:Nat} (hv:A9 h v l) (hpos:0<l.length) (h94:call 65 [v,iv 0] h=some (.tuple #[iv (C9 l m 0).1,iv ((C9 l m 0).2:Int)],h)) :
  A7 Tryd.prog call n 47 [v] h=some (iv (C9 l m 0).1,h):=by
 refine DG Tryd.func47 rfl (by simp[Tryd.f47]) ?_
 have hr:Tryd.f47.results.toList=[.tmp 2]:=rfl
 have hl22:∀ h',C7 Tryd.prog h' 26 v=some (.int .i64 l.length):=fun h'=>hv.len
 have c0:((l.length:Int)==0)=false:=by rw[beq_eq_false_iff_ne];omega
 simp only[eE,seval,↓eP,rP,hr,hl22,c0,h94]
theorem lI {l:List AB} {v:Value} {h:AA} (hv:A9 h v l) (hg:h.get 0=CT) (hn0:0<h.next) (hfl:h.floor≤h.next)
  (h73:∀ h',A9 h' v l→h'.get 0=CT→0<h'.next→h'.floor≤h'.next→call 46 [v,iv 0,iv 8] h'=some (.tuple #[iv ((FR AU l (l.length+1)).1:Int),.bool (FR AU l (l.length+1)).2],h'))
  (h74:IH AU l=none→∀ h',A9 h' v l→call 47 [v] h'=some (iv (C9 l (l.length+1) 0).1,h')) :
  ∃ h1,A7 Tryd.prog call n 27 [v] h=some (BR (CY l).1 (CY l).2,h1)∧∀ i,i<h.next→h1.get i=h.get i:=by
 refine EQ (R:=fun h1=>∀ i,i<h.next→h1.get i=h.get i) Tryd.func27 rfl (by simp[Tryd.f27]) ?_
 have hr:Tryd.f27.results.toList=[.cell 2 36]:=rfl
 have hl22:∀ h',C7 Tryd.prog h' 26 v=some (.int .i64 l.length):=fun h'=>hv.len
 have hold:∀ o:BA,∀ i,i<h.next→(h.push o).get i=h.get i:=fun o i hi=>AR hi
 have hvp:=hv.mono (h':=h.push (.row [.int .i64 0,.int .i64 0] 36 false false)) (by show h.next≤h.next+1;omega) (hold _)
 have h73':=h73 _ hvp (by rw[hold _ 0 hn0];exact hg) (by show 0<h.next+1;omega) (by show h.floor≤h.next+1;omega)
 have hflT:(h.floor≤h.next)=True:=by simpa using hfl
 have hltT:(h.next<h.next+1)=True:=by simp
 have hvq:=fun o=>(hvp.mono (h':=(h.push (.row [.int .i64 0,.int .i64 0] 36 false false)).put h.next o) (by show h.next+1≤h.next+1;omega))
 have hle:=zU (l:=l) (m:=l.length+1)
 unfold CY
 cases hs:IH AU l with
 | some p=>
  unfold IH at hs
  split at hs
  ·cases hs
  ·rename_i hc
   generalize FR AU l (l.length+1)=q at *
   cases hs
   cases q2:q.2 with
   | false=>
    rw[q2] at h73'
    simp only[eE,seval,↓eP,rP,hr,O6,DK,DJ,h73',IQ,XR,XL,CM,U4,hflT,hltT]
    intro i hi
    rw[if_neg (by omega),if_neg (by omega)]
   | true=>
    rw[q2] at h73' hc
    have c1:decide ((q.1:Int)<(l.length:Int))=true:=by
     simp only[decide_eq_true_eq]
     have:q.1≠l.length:=fun h=>hc ⟨rfl,h⟩
     omega
    simp only[eE,seval,↓eP,rP,hr,hl22,c1,O6,DK,DJ,h73',IQ,XR,XL,CM,U4,hflT,hltT]
    intro i hi
    rw[if_neg (by omega),if_neg (by omega)]
 | none=>
  have h74':=h74 hs _ hvp
  unfold IH at hs
  split at hs
  ·rename_i hc
   generalize FR AU l (l.length+1)=q at *
   obtain⟨q2,q1⟩:=hc
   rw[q2] at h73'
   have c1:decide ((q.1:Int)<(l.length:Int))=false:=by simp only[decide_eq_false_iff_not];omega
   cases c2:decide ((C9 l (l.length+1) 0).1>64) with
   | true=>
    rw[if_pos (by simpa using c2)]
    simp only[eE,seval,↓eP,rP,hr,hl22,c1,c2,O6,DK,DJ,h73',h74',PE,XR,XL,CM,U4,hflT,hltT]
    intro i hi
    rw[if_neg (by omega),if_neg (by omega)]
   | false=>
    rw[if_neg (by simpa using c2)]
    simp only[eE,seval,↓eP,rP,hr,hl22,c1,c2,O6,DK,DJ,h73',h74',FQ,XR,XL,CM,U4,hflT,hltT]
    intro i hi
    rw[if_neg (by omega),if_neg (by omega)]
  ·cases hs
end
def DV (l:List AB) (at_ q:Nat):Prop:=(∃ m what,BG AU l m at_ what=(q,true))∨(at_=0∧∃ m,FR AU l m=(q,true))
def ER (l:List AB):Nat→Nat→Nat→Prop
 | 0,p,q=>p=q
 | r+1,p,q=>∃ p',DV l p p'∧p<p'∧p'≤l.length∧ER l r p' q
theorem Bo {l:List AB} {m:Nat} {κ:Int}:∀ r k p q,EB (fun k next=>BG AU l m next (BH κ k)) r k p=(q,true)→ER l r p q:=by
 intro r
 induction r with
 | zero=>intro k p q h;exact congrArg (·.1) h
 | succ r ih=>
  intro k p q h
  unfold EB at h
  split at h
  ·rename_i hc
   have hle:=RH (isName:=AU) (l:=l) m p (BH κ k) hc
   refine⟨(BG AU l m p (BH κ k)).1,.inl ⟨m,BH κ k,Prod.ext rfl hc⟩,hle.1,hle.2,ih _ _ _ h⟩
  ·cases h
theorem x_ {l:List AB} {m:Nat}:∀ r ev p q,DX AU l m r ev p=(q,true)→ER l r p q:=by
 intro r
 induction r with
 | zero=>intro ev p q h;exact congrArg (·.1) h
 | succ r ih=>
  intro ev p q h
  unfold DX at h
  split at h
  ·rename_i hc
   have hle:=RH (isName:=AU) (l:=l) m p (F8 ev l[p]?) hc
   exact⟨(BG AU l m p (F8 ev l[p]?)).1,.inl ⟨m,_,Prod.ext rfl hc⟩,hle.1,hle.2,ih _ _ _ h⟩
  ·cases h
theorem IF {l:List AB}:∀ r p q,ER l r p q→p+r≤q:=by
 intro r
 induction r with
 | zero=>intro p q h;have:p=q:=h;omega
 | succ r ih=>intro p q ⟨p',_,h1,_,h2⟩;have:=ih _ _ h2;omega
theorem zI {l:List AB}:∀ r p q,p≤l.length→ER l r p q→q≤l.length:=by
 intro r
 induction r with
 | zero=>intro p q hp h;have:p=q:=h;omega
 | succ r ih=>intro p q hp ⟨p',_,h1,h3,h2⟩;exact ih _ _ h3 h2
theorem DV.kids {l:List AB} {at_ q:Nat} (h:DV l at_ q):∃ x,l[at_]?=some x∧0≤x.kids∧(1≤x.kind∧x.kind≤54)∧ER l x.kids.toNat (at_+1) q:=by
 have kids0:∀ x,DH AU x=true→0≤x.kids:=fun x hf=>by
  unfold DH at hf
  simp only[Bool.and_eq_true,decide_eq_true_eq] at hf
  have:=PT x.kind
  omega
 rcases h with⟨m,what,h⟩ | ⟨rfl,m,h⟩
 ·cases m with
  | zero=>cases h
  | succ m=>
   cases hx:l[at_]? with
   | none=>rw[X1 hx] at h;cases h
   | some x=>
    rw[XA hx] at h
    split at h
    ·rename_i hc
     simp only[Bool.and_eq_true] at hc
     exact⟨x,rfl,kids0 x hc.2,PD hc.1,Bo _ _ _ _ h⟩
    ·cases h
 ·cases hx:l[0]? with
  | none=>rw[ZR hx] at h;cases h
  | some x=>
   rw[UT hx] at h
   split at h
   ·rename_i hc
    simp only[Bool.and_eq_true] at hc
    exact⟨x,rfl,kids0 x hc.2,PD hc.1,x_ _ _ _ _ h⟩
   ·cases h
theorem DV.lt {l:List AB} {at_ q:Nat} (h:DV l at_ q):at_<q∧q≤l.length:=by
 obtain⟨x,hx,_,_,hc⟩:=h.kids
 have hlt:=(List.getElem?_eq_some_iff.1 hx).1
 have:=IF _ _ _ hc
 exact⟨by omega,zI _ _ _ hlt hc⟩
theorem DV.unique {l:List AB}:∀ (n at_:Nat) {q q':Nat},l.length≤at_+n→DV l at_ q→DV l at_ q'→q=q':=by
 intro n
 induction n with
 | zero=>intro at_ q q' hn h h';have:=h.lt;omega
 | succ n ih=>
  intro at_ q q' hn h h'
  obtain⟨x,hx,_,_,hc⟩:=h.kids
  obtain⟨y,hy,_,_,hc'⟩:=h'.kids
  rw[hx] at hy
  cases hy
  have key:∀ r p a b,at_<p→ER l r p a→ER l r p b→a=b:=by
   intro r
   induction r with
   | zero=>intro p a b _ h1 h2;exact(show p=a from h1).symm.trans (show p=b from h2)
   | succ r ihr=>
    intro p a b hp ⟨p1,s1,_,_,c1⟩ ⟨p2,s2,_,_,c2⟩
    have:p1=p2:=ih p (by omega) s1 s2
    subst this
    have:=s1.lt
    exact ihr p1 a b (by omega) c1 c2
  exact key _ _ _ _ (by omega) hc hc'
theorem DV.cover {l:List AB}:∀ (n:Nat) {at_ q:Nat},q≤at_+n→DV l at_ q→∀ i,at_≤i→i<q→∃ qi,DV l i qi∧qi≤q:=by
 intro n
 induction n with
 | zero=>intro at_ q hn h;have:=h.lt;omega
 | succ n ih=>
  intro at_ q hn h i h1 h2
  rcases Nat.eq_or_lt_of_le h1 with rfl | h3
  ·exact⟨q,h,Nat.le_refl q⟩
  ·obtain⟨x,hx,_,_,hc⟩:=h.kids
   have key:∀ r p,at_<p→p≤i→ER l r p q→∃ qi,DV l i qi∧qi≤q:=by
    intro r
    induction r with
    | zero=>intro p _ hp hc;have:p=q:=hc;omega
    | succ r ihr=>
     intro p hp0 hp ⟨p',s,hlt,_,c⟩
     have hpq:=IF _ _ _ c
     rcases Nat.lt_or_ge i p' with h4 | h4
     ·obtain⟨qi,s1,s2⟩:=ih (by omega) s i hp h4
      exact⟨qi,s1,by omega⟩
     ·exact ihr p' (by omega) h4 c
   exact key _ _ (by omega) h3 hc
def CH (l:List AB):Prop:=DV l 0 l.length
theorem oS {l:List AB} (h:IH AU l=none):CH l:=by
 unfold IH at h
 split at h
 ·rename_i hc
  exact .inr ⟨rfl,l.length+1,Prod.ext hc.2 hc.1⟩
 ·cases h
theorem CH.pos {l:List AB} (h:CH l):0<l.length:=h.lt.1
theorem CH.sub {l:List AB} (h:CH l) {i:Nat} (hi:i<l.length):∃ q,DV l i q:=by
 obtain⟨q,hq,_⟩:=DV.cover l.length (by omega) h i (Nat.zero_le i) hi
 exact⟨q,hq⟩
open Classical in
noncomputable def AD (l:List AB) (i:Nat):Nat:=if h:∃ q,DV l i q then h.choose else 0
theorem IP {l:List AB} {i q:Nat} (h:DV l i q):AD l i=q:=by
 unfold AD
 have hx:∃ q,DV l i q:=⟨q,h⟩
 rw[dif_pos hx]
 exact DV.unique l.length i (by omega) hx.choose_spec h
theorem CH.end {l:List AB} (h:CH l) {i:Nat} (hi:i<l.length):DV l i (AD l i):=by
 obtain⟨q,hq⟩:=h.sub hi
 rw[IP hq]
 exact hq
noncomputable def BQ (l:List AB):List Int:=(List.range l.length).map fun i=>(AD l i:Int)
theorem QE {l:List AB} {i:Nat} (hi:i<l.length):(BQ l)[i]?=some (AD l i:Int):=by simp[BQ,hi]
theorem T5 {l:List AB}:(BQ l).length=l.length:=by simp[BQ]
def ints (l:List Int):List Value:=l.map (.int .i64 ·)
theorem Y6 (l:List Int) (i:Nat):(ints l)[i]?=(l[i]?).map (.int .i64 ·):=by simp[ints]
theorem GK (l:List Int):(ints l).length=l.length:=by simp[ints]
theorem PW (l:List Int):(ints l).all one=true:=by simp[ints,one]
theorem jA (l:List Int) (i:Nat) (x:Int):(ints l).set i (.int .i64 x)=ints (l.set i x):=by simp[ints,List.map_set]
theorem J7:GQ Tryd.prog 3=some 8:=by kernel_rfl
theorem IB:C6 Tryd.prog 3=some (.int .i64 0):=by kernel_rfl
theorem R_:∀ n,BW [Value.int .i64 0] n=ints (List.replicate n 0)
 | 0=>rfl
 | n+1=>by rw[BW,R_ n];simp[ints,List.replicate_succ]
theorem rB {h:AA} {n:Nat} (hn:n<30000000000000):GW Tryd.prog h 27 (.int .i64 (n:Int)) (.int .i64 (n:Int))=some (qS h.next n n,h.push (.row (ints (List.replicate n 0)) 3 false false)):=by
 have hz:(Value.int .i64 0).cells=#[.int .i64 0]:=rfl
 simp only[GW,Tryd.underlying27,C4,IB,J7,hz,XB]
 rw[if_pos (by simp;omega)]
 simp[R_]
theorem FP {id n c i:Nat} (hi:i<n):CQ Tryd.prog 27 (qS id n c) (.int .i64 (i:Int))=some (qP id i):=by
 simp only[CQ,Tryd.underlying27,C4,CI]
 rw[if_pos (by omega)]
 simp
theorem MZ {l:List Int} {i:Nat} {x:Int} {ty:TypeId} {g ro:Bool} (hx:l[i]?=some x):AJ i (.row (ints l) ty g ro)=some (.int .i64 x):=by
 simp[AJ,Y6,hx]
theorem aJ {cs:List Value} {off:Nat} {v:Value} (h:off<cs.length):Go.Sx.lay cs off [v]=cs.set off v:=by
 apply List.ext_getElem?
 intro k
 rw[QL (by simp;omega),List.getElem?_set]
 by_cases hk:off=k
 ·subst hk
  simp[h]
 ·rw[if_neg (by simp;omega),if_neg hk]
theorem M5 {h:AA} {id i:Nat} {l:List Int} {x:Int} {ty:TypeId} {g:Bool} (hg:h.get id=.row (ints l) ty g false) (hi:i<l.length) (hf:h.floor≤id):BC Tryd.prog h 3 (qP id i) (.int .i64 x)=some (h.put id (.row (ints (l.set i x)) ty g false)):=by
 have hc:(Value.int .i64 x).cells=#[.int .i64 x]:=rfl
 simp only[BC,hc,C4,GB,hg]
 have hsz:(some 1:Option Nat)=some (#[Value.int .i64 x]:Array Value).size:=rfl
 rw[if_pos hsz,if_pos (by simp[one,GK];omega),aJ (by rw[GK];exact hi),jA]
def MM (L l:List AB):Prop:=L.length=l.length∧∀ (i:Nat) x,l[i]?=some x→∃ y,L[i]?=some y∧y.kids=x.kids
theorem Es (l:List AB):MM l l:=⟨rfl,fun i x h=>⟨x,h,rfl⟩⟩
section
variable {call:AM} {n:Nat}
theorem qE {l L:List AB} {v:Value} {h:AA} (ht:CH l) (hsk:MM L l) (hv:A9 h v L) (hlen:l.length<30000000000000) (hn:l.length+3<n) (hfl:h.floor≤h.next) :
  ∃ h',A7 Tryd.prog call n 29 [v] h=some (qS h.next l.length l.length,h')∧(h'.get h.next=.row (ints (BQ l)) 3 false false∧h'.next=h.next+1∧h'.floor=h.floor∧∀ i,i<h.next→h'.get i=h.get i):=by
 refine EQ (R:=fun h'=>h'.get h.next=.row (ints (BQ l)) 3 false false∧h'.next=h.next+1∧h'.floor=h.floor∧∀ i,i<h.next→h'.get i=h.get i) Tryd.func29 rfl (by simp[Tryd.f29]) ?_
 have hr:Tryd.f29.results.toList=[.tmp 2]:=rfl
 have hl22:∀ h',C7 Tryd.prog h' 26 v=some (.int .i64 l.length):=fun h'=>by rw[← hsk.1];exact hv.len
 have hpos:=ht.pos
 have w0:IntKind.i64.wrap ((l.length:Int)-1)=(l.length:Int)-1:=C8 (by omega) (by omega)
 simp only[eE,seval,↓eP,rP,hr,hl22,rB hlen,w0]
 refine WK.loop (fun j s=>s.T.get 0=v∧s.T.get 3=qS h.next l.length l.length∧s.T.get 4=iv ((l.length:Int)-1-(j:Int))∧s.h.next=h.next+1∧s.h.floor=h.floor∧(∀ i,i<h.next→s.h.get i=h.get i) ∧
  ∃ E:List Int,E.length=l.length∧s.h.get h.next=.row (ints E) 3 false false∧∀ i,l.length-j≤i→i<l.length→E[i]?=some (AD l i:Int)) l.length (by omega) ?_ ?_
 ·simp only[eE,seval,↓eP,rP]
  refine⟨by omega,fun i hi=>by rw[if_neg (by omega)],List.replicate l.length 0,by simp,rfl,fun i h1 h2=>by omega⟩
 ·rintro j ⟨T1,h1⟩ hj ⟨t0,t3,t4,hnx,hf1,hold,E,hE,hgE,hEv⟩
  simp only at t0 t3 t4 hnx hf1 hold hgE
  by_cases hlt:j<l.length
  ·obtain⟨at_,hat⟩:∃ a:Nat,(l.length:Int)-1-(j:Int)=(a:Int):=⟨l.length-1-j,by omega⟩
   have hatl:at_<l.length:=by omega
   rw[hat] at t4
   have c1:decide ((at_:Int)≥0)=true:=by simp
   have w1:=E_ at_ (by omega)
   have w2:IntKind.i64.wrap ((at_:Int)-1)=(l.length:Int)-1-((j+1:Nat):Int):=by rw[C8 (by omega) (by omega)];omega
   have hsub:=ht.end hatl
   obtain⟨x,hx,hk0,hkk,hchain⟩:=hsub.kids
   have hv1:A9 h1 v L:=hv.mono (by omega) hold
   obtain⟨y,hy,hyk⟩:=hsk.2 at_ x hx
   obtain⟨id,q,e0,hid,l0,l1,l2,l3,l4,lr⟩:=hv1.row hy
   rw[hyk] at l4
   have hcl:=IF _ _ _ hchain
   have hel:=hsub.lt
   simp only[eE,seval,↓eP,rP,t0,t3,t4,c1,w1,e0,l4]
   refine WK.loop (fun k s=>s.h=h1∧s.T.get 0=v∧s.T.get 3=qS h.next l.length l.length∧s.T.get 4=iv at_∧s.T.get 23=iv k∧s.T.get 22=.int .i64 x.kids∧∃ p:Nat,s.T.get 5=iv p∧at_<p∧k≤x.kids.toNat∧ER l (x.kids.toNat-k) p (AD l at_)) x.kids.toNat (by omega) ?_ ?_
   ·simp only[eE,↓reduceIte,Nat.reduceEqDiff,reduceCtorEq,↓eP,rP,Nat.reduceAdd,Nat.reduceLT,t0,t3,t4]
    refine⟨rfl,at_+1,rfl,by omega,by rw[Nat.sub_zero];exact hchain⟩
   ·rintro k ⟨T2,h2⟩ hk ⟨rfl,u0,u3,u4,u23,u22,p,u5,hp,hkk2,hch⟩
    simp only at u0 u3 u4 u23 u22 u5
    by_cases hlt2:k<x.kids.toNat
    ·have c2:decide ((k:Int)<x.kids)=true:=by simp only[decide_eq_true_eq];omega
     obtain⟨r,hr1⟩:∃ r,x.kids.toNat-k=r+1:=⟨x.kids.toNat-k-1,by omega⟩
     rw[hr1] at hch
     obtain⟨p',s1,s2,s3,s4⟩:=hch
     have hEp:=hEv p (by omega) (by omega)
     rw[IP s1] at hEp
     have w5:=E_ k (by omega)
     simp only[eE,seval,↓eP,rP,u0,u3,u4,u23,u22,u5,c2,FP (show p<l.length by omega),hgE,MZ hEp,w5]
     exact⟨hlt2,p',rfl,by omega,by omega,by rw[show x.kids.toNat-(k+1)=r by omega];exact s4⟩
    ·have c2:decide ((k:Int)<x.kids)=false:=by simp only[decide_eq_false_iff_not];omega
     rw[show x.kids.toNat-k=0 by omega] at hch
     have hpe:p=AD l at_:=hch
     have hst:=M5 (x:=(p:Int)) hgE (show at_<E.length by omega) (by rw[hf1];exact hfl)
     have hnx':h2.next=h.next+1:=hnx
     have hltT:(h.next<h2.next)=True:=by rw[hnx'];simp
     simp only[eE,seval,↓eP,rP,u0,u3,u4,u23,u22,u5,c2,FP hatl,hst,w2,hltT]
     refine⟨hlt,hnx,hf1,fun i hi=>by rw[if_neg (by omega)];exact hold i hi,E.set at_ (p:Int),by rw[List.length_set];exact hE,rfl,fun i h1 h2=>?_⟩
     rw[List.getElem?_set]
     by_cases hia:at_=i
     ·subst hia
      rw[if_pos rfl,if_pos (by omega),hpe]
     ·rw[if_neg hia]
      exact hEv i (by omega) h2
  ·have c1:decide ((l.length:Int)-1-(j:Int)≥0)=false:=by simp only[decide_eq_false_iff_not];omega
   have hEe:E=BQ l:=by
    apply List.ext_getElem?
    intro i
    by_cases hi:i<l.length
    ·rw[hEv i (by omega) hi,QE hi]
    ·rw[List.getElem?_eq_none (by omega),List.getElem?_eq_none (by rw[T5];omega)]
   subst hEe
   simp only[eE,seval,↓eP,rP,hr,t0,t3,t4,c1]
   exact⟨hgE,hnx,hf1,hold⟩
theorem Fs {l:List AB} {v:Value} {h:AA} (ht:CH l) (hv:A9 h v l) (hlen:l.length<30000000000000) (hn:l.length+3<n) (hfl:h.floor≤h.next) :
  ∃ h',A7 Tryd.prog call n 29 [v] h=some (qS h.next l.length l.length,h')∧(h'.get h.next=.row (ints (BQ l)) 3 false false∧h'.next=h.next+1∧h'.floor=h.floor∧∀ i,i<h.next→h'.get i=h.get i):=qE ht (Es l) hv hlen hn hfl
end
theorem MH {P:Program} {t:TypeId} {x y:Operand} {a b:ByteArray}:BT P .neq t x y (.string a) (.string b)=some (.bool (!(a==b))):=by
 have e:A8 P (do eqGuard .neq t x y (.string a) (.string b);binOp .neq t (.string a) (.string b))=some (.bool (!(a==b))):=by
  rw[CD]
  have g:A8 P (eqGuard .neq t x y (.string a) (.string b))=some ():=rfl
  rw[g,← h_]
  simp[binOp,Op.stringOp,Option.bind]
  rfl
 have hf:flat (.string a)=true:=rfl
 have hf2:flat (.string b)=true:=rfl
 simp only[BT,hf,hf2,KF,Bool.and_self,if_true,e]
section
variable {call:AM} {n:Nat} {h:AA}
abbrev CF (x:AB):Value:=.agg #[iv x.kind,.string x.name,iv x.ends,iv x.n,iv x.kids]
end
structure F1 where
 name:ByteArray
 kind:Int
 num:Int
 known:Int
structure AL where
 rows:List AB
 queues:List (ByteArray × Bool)
 vars:List ByteArray
 tags:List ByteArray
 rules:List Int
 on:List Int
 miss:Int
 things:List F1
def F2 (l:List F1) (x:ByteArray):Option F1:=l.find? fun t=>x==t.name
def BV (s:AL) (k:Int):Nat:=if k=1 then s.queues.length else if k=2 then s.vars.length else if k=3 then s.tags.length else s.rules.length
def I2 (k:Int):Int:=if k=1 then 16 else if k=2 then 16 else if k=3 then 4 else 64
def GF (l:List AB) (at_:Nat) (n:Int):List AB:=match l[at_]? with
 | some x=>l.set at_ { x with n:=n }
 | none=>l
def EU (at_:Nat) (end_:Int) (x:AB) (s:AL):AL:=
 let k:=BO x.kind
 { rows:=GF s.rows at_ (BV s k)
   queues:=if k=1 then s.queues++[(x.name,x.kind==3)] else s.queues
   vars:=if k=2 then s.vars++[x.name] else s.vars
   tags:=if k=3 then s.tags++[x.name] else s.tags
   rules:=if k=4 then s.rules++[(at_:Int)+1] else s.rules
   on:=if k=1 then s.on++[-1] else s.on
   miss:=s.miss
   things:=s.things++[⟨x.name,k,BV s k,end_⟩] }
def EZ (x:AB) (s:AL):Int:=
 if BO x.kind=0 then 0 else if (F2 s.things x.name).isSome=true then 31 else if (BV s (BO x.kind):Int)=I2 (BO x.kind) then 3 else 0
def BK (at_:Nat) (end_:Int) (x:AB) (s:AL):AL:=if BO x.kind=0 then s else EU at_ end_ x s
def DL (at_:Nat) (x:AB) (s:AL):Int:=
 if EE x.kind=0 then 0 else match F2 s.things x.name with
  | none=>32
  | some t=>if t.known>at_ then 32 else if t.kind≠EE x.kind then 33 else 0
def B0 (at_:Nat) (x:AB) (s:AL):AL:=
 if EE x.kind=0 then s else match F2 s.things x.name with
  | none=>s
  | some t=>{ s with rows:=GF s.rows at_ t.num }
def E8 (x:AB) (s:AL):Int:=
 if HD x.kind=false then 0 else if x.kind=10 then (if s.miss≥0 then 31 else 0) else match s.on[x.n.toNat]? with
  | some v=>if v≥0 then 31 else 0
  | none=>0
def D9 (at_:Nat) (x:AB) (s:AL):AL:=
 if HD x.kind=false then s else if x.kind=10 then { s with miss:=(at_:Int)+1 } else { s with on:=s.on.set x.n.toNat ((at_:Int)+1) }
def DC (l:List (ByteArray × Bool)):List Value:=l.flatMap fun q=>[.string q.1,.bool q.2]
def DE (l:List ByteArray):List Value:=l.map (.string ·)
def JL (t:F1):Value × Value:=(.string t.name,.agg #[iv t.kind,iv t.num,iv t.known])
theorem O0:∀ l,(DC l).length=l.length*2
 | []=>rfl
 | q :: l=>by
  have:=O0 l
  simp only[DC,List.flatMap_cons,List.length_append,List.length_cons,List.length_nil] at *
  omega
theorem cM:∀ l,(DC l).all one=true
 | []=>rfl
 | q :: l=>by
  have:=cM l
  simp only[DC,List.flatMap_cons,List.all_append] at *
  rw[this]
  rfl
theorem W9 (l:List ByteArray):(DE l).all one=true:=by simp[DE,one]
theorem V7 (l:List ByteArray):(DE l).length=l.length:=by simp[DE]
theorem KA:∀ l:List AB,(l.flatMap AX).length=l.length*5
 | []=>rfl
 | r :: l=>by
  have:=KA l
  rw[List.flatMap_cons,List.length_append,this]
  simp only[AX,List.length_cons,List.length_nil]
  omega
theorem W4:∀ (l:List AB) (k:Nat),(l.flatMap AX).drop (k*5)=(l.drop k).flatMap AX
 | l,0=>by simp
 | [],k+1=>by simp
 | r :: l,k+1=>by
  rw[List.flatMap_cons,List.drop_succ_cons,← W4 l k,show (k+1)*5=5+k*5 by omega,← List.drop_drop]
  rfl
theorem PL {l:List AB} {k:Nat} {r:AB} (h:l[k]?=some r):((l.flatMap AX).drop (k*5)).take 5=AX r:=by
 obtain⟨hl,rfl⟩:=List.getElem?_eq_some_iff.1 h
 rw[W4,List.drop_eq_getElem_cons hl,List.flatMap_cons]
 rfl
theorem yV {h:AA} {r:Nat} {l:List AB} {c:Nat} (hg:h.get r=.row (l.flatMap AX) 61 true false) (hr:r<h.next):A9 h (qS r l.length c) l:=
 ⟨_,_,rfl,.inr ⟨r,0,_,_,_,_,rfl,hg,hr,fun k x hx=>by rw[Nat.zero_add];exact PL hx⟩⟩
theorem Z6 {l:List AB} {k:Nat} {x:AB} {n:Int} (hx:l[k]?=some x):(l.flatMap AX).set (k*5+3) (iv n)=(GF l k n).flatMap AX:=by
 unfold GF
 rw[hx]
 obtain⟨hl,rfl⟩:=List.getElem?_eq_some_iff.1 hx
 simp only
 clear hx
 induction l generalizing k with
 | nil=>simp at hl
 | cons a l ih=>
  cases k with
  | zero=>rfl
  | succ k=>
   simp only[List.length_cons,Nat.add_lt_add_iff_right] at hl
   have:=ih hl
   rw[List.flatMap_cons,List.set_cons_succ,List.flatMap_cons,List.getElem_cons_succ,← this]
   rw[List.set_append_right _ _ (by simp[AX];omega)]
   congr 2
   simp only[AX,List.length_cons,List.length_nil]
   omega
theorem PQ {l:List AB} {k:Nat} {n:Int}:(GF l k n).length=l.length:=by
 unfold GF
 split
 ·simp
 ·rfl
def FC (h:AA) (lo:Nat) (tag:Nat→Nat) (j:Nat) (v:Value) (n:Nat) (cs:List Value) (ty:TypeId):Prop:=
 (n=0∧cs=[]∧v=Z0)∨∃ id ex,v=qS id n AP∧h.get id=.row (cs++ex) ty true false∧lo≤id∧id<h.next∧tag id=j
theorem FC.mono {h h':AA} {lo:Nat} {tag tag':Nat→Nat} {j:Nat} {v:Value} {n:Nat} {cs:List Value} {ty:TypeId} (hs:FC h lo tag j v n cs ty) (hn:h.next≤h'.next) (ht:∀ i,i<h.next→tag' i=tag i)
  (hg:∀ i,lo≤i→i<h.next→tag i=j→h'.get i=h.get i):FC h' lo tag' j v n cs ty:=by
 rcases hs with h1 | ⟨id,ex,h1,h2,h3,h4,h5⟩
 ·exact .inl h1
 ·exact .inr ⟨id,ex,h1,by rw[hg id h3 h4 h5];exact h2,h3,by omega,by rw[ht id h4];exact h5⟩
theorem FC.mono' {h:AA} {lo:Nat} {tag tag':Nat→Nat} {j:Nat} {v:Value} {n:Nat} {cs:List Value} {ty:TypeId} (hs:FC h lo tag j v n cs ty) (ht:∀ i,i<h.next→tag' i=tag i∨tag i≠j):FC h lo tag' j v n cs ty:=by
 rcases hs with h1 | ⟨id,ex,h1,h2,h3,h4,h5⟩
 ·exact .inl h1
 ·refine .inr ⟨id,ex,h1,h2,h3,h4,?_⟩
  rcases ht id h4 with h | h
  ·rw[h];exact h5
  ·exact absurd h5 h
theorem T9 {h:AA} {lo:Nat} {tag:Nat→Nat} {j:Nat} {ty:TypeId}:FC h lo tag j (Z0) 0 [] ty:=.inl ⟨rfl,rfl,rfl⟩
theorem QH {t et:TypeId} {w bb:Nat} {z:Value} (hu:Tryd.prog.underlying t=some (.slice et)) (hsz:BI Tryd.prog et=some w) (hby:GQ Tryd.prog et=some bb) (hzo:C6 Tryd.prog et=some z) (hz:z.cells.size=w) (hw:0<w) (hbb:bb≤48)
  {lo:Nat} {h:AA} {tag:Nat→Nat} {j:Nat} {v:Value} {n:Nat} {cs xs:List Value} {c:Nat} (hs:FC h lo tag j v n cs et) (hcl:cs.length=n*w) (hco:cs.all one=true) (hxl:xs.length=c*w) (hxo:xs.all one=true) (hc:0<c) (hcb:c<2) (hnb:n<2932031007402)
  {src:Nat} {g ro:Bool} {sc:Nat} (hsrc:h.get src=.row xs et g ro) (hsl:src<h.next) (hfl:h.floor≤lo) (hts:¬ (lo≤src∧tag src=j)) :
  ∃ v' h',DS Tryd.prog h t v (qS src c sc)=some (v',h')∧(FC h' lo (fun i=>if i=h.next then j else tag i) j v' (n+c) (cs++xs) et∨¬ lo≤h.next)∧h'.floor=h.floor∧h'.next=h.next+1∧one v'=true∧v'.cells=#[v']∧∀ i,i<h.next→¬ (lo≤i∧tag i=j)→h'.get i=h.get i:=by
 have hsc:DZ h w c (qS src c sc)=some xs:=by
  have hc0:c≠0:=by omega
  simp[DZ,hsrc,FN,hc0,hxl]
  rw[List.take_of_length_le (by omega)]
 have hbz:∀ m,m<2932031007403→m*bb≤140737488355328:=fun m hm=>by
  have h1:m*bb≤m*48:=Nat.mul_le_mul_left m hbb
  omega
 rcases hs with⟨rfl,rfl,rfl⟩ | ⟨id,ex,rfl,hg,hid,hidn,htid⟩
 ·refine⟨qS h.next c AP,h.push (.row xs et true false),?_,?_,rfl,rfl,rfl,rfl,fun i hi _=>AR hi⟩
  ·have hunk:(0:Nat)≠AP:=by unfold AP;omega
   have h0:DZ h w 0 (Z0)=some []:=by simp[DZ]
   have e1:¬ (c≤0):=by omega
   have e2:c*bb≤140737488355328:=hbz c (by omega)
   have e3:c≤140737488355328:=by omega
   simp only[DS,hu,hsz,hby,hzo,hz,hsc,hxo,hunk,h0,hw,e1,e2,e3,decide_true,beq_self_eq_true,Bool.and_self,if_true,if_false,Nat.le_refl,Nat.zero_add,Nat.zero_mul,Nat.zero_le,List.nil_append]
  ·by_cases hl:lo≤h.next
   ·refine .inl (.inr ⟨h.next,[],by rw[Nat.zero_add],?_,hl,by show h.next<h.next+1;omega,by simp⟩)
    rw[BP,List.append_nil,List.nil_append]
   ·exact .inr hl
 ·have e1:(n+c)*bb≤140737488355328:=hbz _ (by omega)
  have e2:n+c≤140737488355328:=by omega
  have e3:h.floor≤id:=by omega
  have e4:n≤AP:=by unfold AP;omega
  have e5:c≠0:=by omega
  have hcut:FN (cs++ex) 0 (n*w)=some cs:=by
   simp only[FN,List.drop_zero]
   rw[List.take_append_of_le_length (by omega),List.take_of_length_le (by omega),if_pos hcl]
  refine⟨qS h.next (n+c) AP,(h.put id .dead).push (.row (cs++xs) et true false),?_,.inl (.inr ⟨h.next,[],rfl,?_,by omega,by show h.next<h.next+1;omega,by simp⟩),rfl,rfl,rfl,rfl,fun i hi hne=>?_⟩
  ·simp only[DS,hu,hsz,hby,hzo,hz,hsc,hxo,e1,e2,e3,e4,hg,hcut,hco,decide_true,Bool.and_self,beq_self_eq_true,hw,if_true,e5,if_false]
  ·rw[List.append_nil]
   exact BP
  ·rw[AR (by exact hi),AW (by omega) (fun e=>hne (by subst e;exact⟨hid,htid⟩))]
structure KC (h:AA) (lo:Nat) (tag:Nat→Nat) (r n:Nat) (vq vv vt vu vo:Value) (s:AL):Prop where
 rows:h.get r=.row (s.rows.flatMap AX) 61 true false
 len:s.rows.length=n
 tr:tag r=1
 lr:lo≤r∧r<h.next
 q:FC h lo tag 2 vq s.queues.length (DC s.queues) 102
 v:FC h lo tag 3 vv s.vars.length (DE s.vars) 9
 t:FC h lo tag 4 vt s.tags.length (DE s.tags) 9
 u:FC h lo tag 5 vu s.rules.length (ints s.rules) 3
 o:FC h lo tag 6 vo s.on.length (ints s.on) 3
theorem KC.mono {h h':AA} {lo:Nat} {tag tag':Nat→Nat} {r n:Nat} {vq vv vt vu vo:Value} {s:AL} (hp:KC h lo tag r n vq vv vt vu vo s) (hn:h.next≤h'.next) (ht:∀ i,i<h.next→tag' i=tag i)
  (hg:∀ i,lo≤i→i<h.next→1≤tag i→tag i≤6→h'.get i=h.get i):KC h' lo tag' r n vq vv vt vu vo s where
 rows:=by rw[hg r hp.lr.1 hp.lr.2 (by rw[hp.tr];omega) (by rw[hp.tr];omega)];exact hp.rows
 len:=hp.len
 tr:=by rw[ht r hp.lr.2];exact hp.tr
 lr:=⟨hp.lr.1,by have:=hp.lr.2;omega⟩
 q:=hp.q.mono hn ht fun i h1 h2 h3=>hg i h1 h2 (by omega) (by omega)
 v:=hp.v.mono hn ht fun i h1 h2 h3=>hg i h1 h2 (by omega) (by omega)
 t:=hp.t.mono hn ht fun i h1 h2 h3=>hg i h1 h2 (by omega) (by omega)
 u:=hp.u.mono hn ht fun i h1 h2 h3=>hg i h1 h2 (by omega) (by omega)
 o:=hp.o.mono hn ht fun i h1 h2 h3=>hg i h1 h2 (by omega) (by omega)
theorem KC.at {h:AA} {lo:Nat} {tag:Nat→Nat} {r n:Nat} {vq vv vt vu vo:Value} {s:AL} (hp:KC h lo tag r n vq vv vt vu vo s):A9 h (qS r n AP) s.rows:=by
 have:=yV (c:=AP) hp.rows hp.lr.2
 rw[hp.len] at this
 exact this
theorem ZI:∀ (l:List F1) (x:ByteArray),JF (.string x) (l.map JL)=some ((F2 l x).map fun t=>.agg #[iv t.kind,iv t.num,iv t.known])
 | [],x=>rfl
 | t :: l,x=>by
  simp only[List.map_cons,JF,JL,I4,F2,List.find?_cons]
  cases hb:(x==t.name) with
  | true=>rfl
  | false=>exact ZI l x
theorem iW:∀ (l:List F1) (x:ByteArray) (v:Value),F2 l x=none→F6 (.string x) v (l.map JL)=l.map JL++[(.string x,v)]
 | [],x,v,_=>rfl
 | t :: l,x,v,hf=>by
  simp only[F2,List.find?_cons] at hf
  cases hb:(x==t.name) with
  | true=>rw[hb] at hf;cases hf
  | false=>
   rw[hb] at hf
   have:=iW l x v hf
   simp only[List.map_cons,JL,F6,I4,hb,Option.some.injEq,Bool.false_eq_true,if_false,List.cons_append]
   rw[← this]
def UF (es:List (Value × Value)):Prop:=∀ p∈es,∃ j:Int,p.1=iv j
theorem j6:∀ (es:List (Value × Value)) (k k':Int) (v:Value),UF es→JF (iv k) (F6 (iv k') v es)=if k=k' then some (some v) else JF (iv k) es
 | [],k,k',v,_=>by
  simp only[F6,JF,I4,if_true]
  by_cases hk:k=k'
  ·subst hk;simp
  ·have:(k==k')=false:=by simpa using hk
   rw[this,if_neg hk]
 | (x,u) :: es,k,k',v,hi=>by
  obtain⟨j,hj⟩:=hi (x,u) (by simp)
  simp only at hj
  subst hj
  have ih:=j6 es k k' v fun p hp=>hi p (by simp[hp])
  simp only[F6,I4,if_true,Option.some.injEq,beq_iff_eq]
  by_cases hkj:k'=j
  ·subst hkj
   rw[if_pos rfl]
   simp only[JF,I4,if_true]
   by_cases hk:k=k'
   ·subst hk;simp
   ·have:(k==k')=false:=by simpa using hk
    rw[this,if_neg hk]
  ·rw[if_neg hkj]
   simp only[JF,I4,if_true]
   cases hb:(k==j) with
   | true=>
    have:k=j:=by simpa using hb
    subst this
    rw[if_neg (fun e=>hkj e.symm)]
   | false=>exact ih
theorem nV:∀ (es:List (Value × Value)) (k:Int) (v:Value),UF es→UF (F6 (iv k) v es)
 | [],k,v,_=>by intro p hp;simp[F6] at hp;exact⟨k,by rw[hp]⟩
 | (x,u) :: es,k,v,hi=>by
  have ih:=nV es k v fun p hp=>hi p (by simp[hp])
  intro p hp
  simp only[F6] at hp
  split at hp
  ·simp only[List.mem_cons] at hp
   rcases hp with rfl | hp
   ·exact⟨k,rfl⟩
   ·exact hi p (by simp[hp])
  ·simp only[List.mem_cons] at hp
   rcases hp with rfl | hp
   ·exact hi _ (by simp)
   ·exact ih p hp
def RF (es:List (Value × Value)) (s:AL):Prop:=UF es∧∀ k:Int,1≤k→k≤4→JF (iv k) es=some (if BV s k=0 then none else some (iv (BV s k:Int)))
theorem iR:BI Tryd.prog 26=some 1:=by kernel_rfl
theorem YY:BI Tryd.prog 30=some 1:=by kernel_rfl
theorem RU:BI Tryd.prog 31=some 1:=by kernel_rfl
theorem LH:BI Tryd.prog 27=some 1:=by kernel_rfl
theorem HT:BI Tryd.prog 33=some 8:=by kernel_rfl
theorem P7:BI Tryd.prog 102=some 2:=by kernel_rfl
theorem zH:BI Tryd.prog 65=some 1:=by kernel_rfl
theorem Bf:BI Tryd.prog 66=some 1:=by kernel_rfl
theorem Ee:BI Tryd.prog 67=some 1:=by kernel_rfl
theorem Ft:BI Tryd.prog 69=some 10:=by kernel_rfl
theorem lZ:BI Tryd.prog 97=some 2:=by kernel_rfl
theorem k8:BI Tryd.prog 99=some 3:=by kernel_rfl
theorem vM:FB Tryd.prog 26=some false:=by kernel_rfl
theorem vU:FB Tryd.prog 30=some false:=by kernel_rfl
theorem Bq:FB Tryd.prog 31=some false:=by kernel_rfl
theorem uY:FB Tryd.prog 27=some false:=by kernel_rfl
theorem Ev:FB Tryd.prog 33=some true:=by kernel_rfl
theorem r_:FB Tryd.prog 65=some false:=by kernel_rfl
theorem vG:FB Tryd.prog 66=some false:=by kernel_rfl
theorem wR:FB Tryd.prog 67=some false:=by kernel_rfl
theorem tU:FB Tryd.prog 97=some true:=by kernel_rfl
theorem U6:GQ Tryd.prog 9=some 16:=by kernel_rfl
theorem RT:GQ Tryd.prog 61=some 48:=by kernel_rfl
theorem fP:GQ Tryd.prog 102=some 24:=by kernel_rfl
theorem SH:C6 Tryd.prog 9=some (.string ByteArray.empty):=by kernel_rfl
theorem R8:C6 Tryd.prog 102=some (.agg #[.string ByteArray.empty,.bool false]):=by kernel_rfl
theorem RZ:C6 Tryd.prog 99=some (.agg #[iv 0,iv 0,iv 0]):=by kernel_rfl
theorem Cb:C6 Tryd.prog 97=some (.agg #[iv 0,iv 0]):=by kernel_rfl
theorem wO:C6 Tryd.prog 33=some (.agg #[.string ByteArray.empty,Z0,Z0,Z0,Z0,Z0,Z0,iv 0]):=by kernel_rfl
section
variable {h:AA} {id off:Nat}
theorem CK:EA Tryd.prog h 26 (qP id off)=AJ off (h.get id):=KR vM
theorem F9:EA Tryd.prog h 30 (qP id off)=AJ off (h.get id):=KR vU
theorem JT:EA Tryd.prog h 31 (qP id off)=AJ off (h.get id):=KR Bq
theorem DB:EA Tryd.prog h 27 (qP id off)=AJ off (h.get id):=KR uY
theorem S0:EA Tryd.prog h 65 (qP id off)=AJ off (h.get id):=KR r_
theorem aP:EA Tryd.prog h 66 (qP id off)=AJ off (h.get id):=KR vG
theorem fY:EA Tryd.prog h 67 (qP id off)=AJ off (h.get id):=KR wR
theorem C2:EA Tryd.prog h 33 (qP id off)=AY 8 off (h.get id):=MB Ev HT
theorem qO:EA Tryd.prog h 97 (qP id off)=AY 2 off (h.get id):=MB tU lZ
theorem IK:BF Tryd.prog 69 (qP id off) 0=some (qP id off):=by simp[BF,Tryd.underlying69,HT,CI]
theorem Y5:BF Tryd.prog 69 (qP id off) 1=some (qP id (off+8)):=by simp[BF,Tryd.underlying69,Bf,CI]
theorem oU:BF Tryd.prog 69 (qP id off) 2=some (qP id (off+9)):=by simp[BF,Tryd.underlying69,Ee,CI]
theorem ME:BF Tryd.prog 33 (qP id off) 0=some (qP id off):=by simp[BF,Tryd.underlying33,MD,CI]
theorem CL:BF Tryd.prog 33 (qP id off) 1=some (qP id (off+1)):=by simp[BF,Tryd.underlying33,iR,CI]
theorem F_:BF Tryd.prog 33 (qP id off) 2=some (qP id (off+2)):=by simp[BF,Tryd.underlying33,YY,CI]
theorem KQ:BF Tryd.prog 33 (qP id off) 3=some (qP id (off+3)):=by simp[BF,Tryd.underlying33,RU,CI]
theorem K3:BF Tryd.prog 33 (qP id off) 4=some (qP id (off+4)):=by simp[BF,Tryd.underlying33,RU,CI]
theorem K0:BF Tryd.prog 33 (qP id off) 5=some (qP id (off+5)):=by simp[BF,Tryd.underlying33,LH,CI]
theorem KY:BF Tryd.prog 33 (qP id off) 6=some (qP id (off+6)):=by simp[BF,Tryd.underlying33,LH,CI]
theorem KH:BF Tryd.prog 33 (qP id off) 7=some (qP id (off+7)):=by simp[BF,Tryd.underlying33,C4,CI]
theorem pX:BF Tryd.prog 99 (qP id off) 0=some (qP id off):=by simp[BF,Tryd.underlying99,lZ,CI]
theorem YK:BF Tryd.prog 99 (qP id off) 1=some (qP id (off+2)):=by simp[BF,Tryd.underlying99,C4,CI]
theorem j_:BF Tryd.prog 97 (qP id off) 1=some (qP id (off+1)):=by simp[BF,Tryd.underlying97,C4,CI]
theorem MY:BF Tryd.prog 102 (qP id off) 1=some (qP id (off+1)):=by simp[BF,Tryd.underlying102,OW,CI]
theorem ON {n c i:Nat} (hi:i<n):CQ Tryd.prog 26 (qS id n c) (iv (i:Int))=some (.pointer (some ⟨id,i*5,none⟩)):=by
 simp only[CQ,Tryd.underlying26,GC,CI]
 rw[if_pos (by omega)]
 simp
theorem H0 {t:TypeId} {v:Value} {cs:List Value} {ty:TypeId} {g:Bool} (ht:BI Tryd.prog t=some 1) (hv:v.cells=#[v]) (ho:one v=true) (hg:h.get id=.row cs ty g false) (hi:off<cs.length) (hf:h.floor≤id):BC Tryd.prog h t (qP id off) v=some (h.put id (.row (cs.set off v) ty g false)):=by
 have hsz:(some 1:Option Nat)=some (#[v]:Array Value).size:=rfl
 simp only[BC,hv,ht,GB,hg]
 rw[if_pos hsz,if_pos (by simp[ho];omega),aJ hi]
end
theorem YN:H_ Tryd.prog (match Tryd.prog.underlying 102 with | some (.struct fs)=>fs.toList | _=>[])=some [(0,1),(1,1)]:=by kernel_rfl
theorem yQ:H_ Tryd.prog (match Tryd.prog.underlying 97 with | some (.struct fs)=>fs.toList | _=>[])=some [(0,1),(1,1)]:=by kernel_rfl
theorem sK:H_ Tryd.prog (match Tryd.prog.underlying 99 with | some (.struct fs)=>fs.toList | _=>[])=some [(0,2),(2,1)]:=by kernel_rfl
theorem qR {a b:Value}:flat (.agg #[a,b])=(BL a&&(BL b&&true)):=by simp[flat]
theorem iB {a b c:Value}:flat (.agg #[a,b,c])=(BL a&&(BL b&&(BL c&&true))):=by simp[flat]
theorem Du {nm:ByteArray} {g:Bool}:C_ Tryd.prog 102 [(0,.string nm),(1,.bool g)]=some (.agg #[.string nm,.bool g]):=by
 have h:=YN
 rw[Tryd.underlying102] at h
 simp only at h
 simp only[C_,R8,qR,vI,Gp,Bool.and_self,if_true,Tryd.underlying102,h]
 rfl
theorem bT {a b:Int}:C_ Tryd.prog 97 [(0,iv a),(1,iv b)]=some (.agg #[iv a,iv b]):=by
 have h:=yQ
 rw[Tryd.underlying97] at h
 simp only at h
 simp only[C_,Cb,qR,O6,Bool.and_self,if_true,Tryd.underlying97,h]
 rfl
theorem Fb {a b c:Int}:C_ Tryd.prog 99 [(0,.agg #[iv a,iv b]),(1,iv c)]=some (.agg #[iv a,iv b,iv c]):=by
 have h:=sK
 rw[Tryd.underlying99] at h
 simp only at h
 simp only[C_,RZ,iB,O6,Bool.and_self,if_true,Tryd.underlying99,h]
 rfl
section
variable {h:AA}
theorem Hx {nm:ByteArray} {g:Bool}:FO Tryd.prog h 30 1 [(0,.agg #[.string nm,.bool g])]=some (qS h.next 1 1,h.push (.row [.string nm,.bool g] 102 false false)):=by
 simp[FO,Tryd.underlying30,P7,R8,flat,BL,M6,I5,BW,Go.Sx.lay]
theorem pG {nm:ByteArray}:FO Tryd.prog h 31 1 [(0,.string nm)]=some (qS h.next 1 1,h.push (.row [.string nm] 9 false false)):=by
 have hc:∀ x,(Value.string x).cells=#[.string x]:=fun _=>rfl
 simp[FO,Tryd.underlying31,MD,SH,flat,BL,hc,I5,BW,Go.Sx.lay]
theorem NQ {x:Int}:FO Tryd.prog h 27 1 [(0,iv x)]=some (qS h.next 1 1,h.push (.row [iv x] 3 false false)):=by
 have hc:∀ x:Int,(iv x).cells=#[iv x]:=fun _=>rfl
 simp[FO,Tryd.underlying27,C4,IB,flat,BL,hc,I5,BW,Go.Sx.lay]
theorem mK {k:Nat} {l:List F1} {x:ByteArray} (hg:h.get k=.map (l.map JL)):OP Tryd.prog h 66 (.map (some k)) (.string x) true=some (match F2 l x with
  | some t=>.tuple #[.agg #[iv t.kind,iv t.num,iv t.known],.bool true]
  | none=>.tuple #[.agg #[iv 0,iv 0,iv 0],.bool false]):=by
 have hk:LF Tryd.prog 9 (.string x)=true:=by simp[LF,Tryd.underlying9]
 simp only[OP,Tryd.underlying66,hk,hg,ZI,if_true]
 cases F2 l x with
 | some t=>rfl
 | none=>
  simp only[Option.map_none,RZ,iB,O6,Bool.and_self,if_true]
theorem Kj {k:Nat} {l:List F1} {x:ByteArray} {a b c:Int} (hg:h.get k=.map (l.map JL)) (hf:F2 l x=none) (hfl:h.floor≤k):LS Tryd.prog h 66 (.map (some k)) (.string x) (.agg #[iv a,iv b,iv c])=some (h.put k (.map ((l++[(⟨x,a,b,c⟩:F1)]).map JL))):=by
 have hk:LF Tryd.prog 9 (.string x)=true:=by simp[LF,Tryd.underlying9]
 simp only[LS,Tryd.underlying66,hk,hg,ZI,decide_eq_true hfl,Bool.and_self,if_true,iW _ _ _ hf,List.map_append,List.map_cons,List.map_nil,JL]
theorem r8 {c:Nat} {es:List (Value × Value)} {s:AL} {k:Int} (hg:h.get c=.map es) (hm:RF es s) (h1:1≤k) (h4:k≤4):OP Tryd.prog h 67 (.map (some c)) (iv k) false=some (iv (BV s k:Int)):=by
 have hk:LF Tryd.prog 3 (iv k)=true:=by simp[LF,Tryd.underlying3]
 simp only[OP,Tryd.underlying67,hk,hg,hm.2 k h1 h4,if_true]
 by_cases h0:BV s k=0
 ·rw[if_pos h0,h0]
  simp only[IB,XB,if_true,Bool.false_eq_true,if_false]
  rfl
 ·rw[if_neg h0]
  simp only[Bool.false_eq_true,if_false]
theorem uA {c:Nat} {es:List (Value × Value)} {s:AL} {k:Int} {v:Value} (hg:h.get c=.map es) (hm:RF es s) (h1:1≤k) (h4:k≤4) (hfl:h.floor≤c):LS Tryd.prog h 67 (.map (some c)) (iv k) v=some (h.put c (.map (F6 (iv k) v es))):=by
 have hk:LF Tryd.prog 3 (iv k)=true:=by simp[LF,Tryd.underlying3]
 simp only[LS,Tryd.underlying67,hk,hg,hm.2 k h1 h4,decide_eq_true hfl,Bool.and_self,if_true]
end
structure BN (h:AA) (lo m k c e r n:Nat) (nm:ByteArray) (E:List Int) (tag:Nat→Nat) (vq vv vt vu vo:Value) (es:List (Value × Value)) (s:AL):Prop where
 cell:h.get m=.row [.string nm,qS r n AP,vq,vv,vt,vu,vo,iv s.miss,.map (some k),.map (some c)] 69 false false
 pol:KC h lo tag r n vq vv vt vu vo s
 known:h.get k=.map (s.things.map JL)
 many:h.get c=.map es
 ends:h.get e=.row (ints E) 3 false false
 tm:tag m=0
 tk:tag k=8
 tc:tag c=9
 te:tag e=10
 lm:lo≤m∧m<h.next
 lk:lo≤k∧k<h.next
 lc:lo≤c∧c<h.next
 le:lo≤e∧e<h.next
 fl:h.floor≤lo
section
variable {h h':AA} {lo m k c e r n:Nat} {nm:ByteArray} {E:List Int} {tag tag':Nat→Nat} {vq vv vt vu vo:Value} {es:List (Value × Value)} {s s':AL}
theorem OS {a i:Nat} (hl:lo≤a) (ht:tag a≤10) (hi:i<lo∨(i<h.next∧11≤tag i)):a≠i:=by
 rintro rfl
 omega
theorem GI {a b:Nat} (h:tag a≠tag b):a≠b:=fun e=>h (by rw[e])
theorem BN.mono (hp:BN h lo m k c e r n nm E tag vq vv vt vu vo es s) (hn:h.next≤h'.next) (hf:h'.floor=h.floor) (ht:∀ i,i<h.next→tag' i=tag i)
  (hg:∀ i,lo≤i→i<h.next→h'.get i=h.get i):BN h' lo m k c e r n nm E tag' vq vv vt vu vo es s where
 cell:=by rw[hg m hp.lm.1 hp.lm.2];exact hp.cell
 pol:=hp.pol.mono hn ht fun i h1 h2 _ _=>hg i h1 h2
 known:=by rw[hg k hp.lk.1 hp.lk.2];exact hp.known
 many:=by rw[hg c hp.lc.1 hp.lc.2];exact hp.many
 ends:=by rw[hg e hp.le.1 hp.le.2];exact hp.ends
 tm:=by rw[ht m hp.lm.2];exact hp.tm
 tk:=by rw[ht k hp.lk.2];exact hp.tk
 tc:=by rw[ht c hp.lc.2];exact hp.tc
 te:=by rw[ht e hp.le.2];exact hp.te
 lm:=⟨hp.lm.1,by have:=hp.lm.2;omega⟩
 lk:=⟨hp.lk.1,by have:=hp.lk.2;omega⟩
 lc:=⟨hp.lc.1,by have:=hp.lc.2;omega⟩
 le:=⟨hp.le.1,by have:=hp.le.2;omega⟩
 fl:=by rw[hf];exact hp.fl
theorem BN.push (hp:BN h lo m k c e r n nm E tag vq vv vt vu vo es s) (o:BA):BN (h.push o) lo m k c e r n nm E tag vq vv vt vu vo es s:=
 hp.mono (by show h.next≤h.next+1;omega) rfl (fun _ _=>rfl) fun i _ hi=>AR hi
theorem BN.putNew (hp:BN h lo m k c e r n nm E tag vq vv vt vu vo es s) {o o':BA}:BN ((h.push o').put h.next o) lo m k c e r n nm E tag vq vv vt vu vo es s:=
 hp.mono (by show h.next≤h.next+1;omega) rfl (fun _ _=>rfl) fun i _ hi=>by rw[AW (by show h.next<h.next+1;omega) (by omega),AR hi]
theorem BN.putC (hp:BN h lo m k c e r n nm E tag vq vv vt vu vo es s) (es':List (Value × Value)):BN (h.put c (.map es')) lo m k c e r n nm E tag vq vv vt vu vo es' s where
 cell:=by rw[AW hp.lc.2 (GI (tag:=tag) (by rw[hp.tm,hp.tc];decide))];exact hp.cell
 pol:=hp.pol.mono (Nat.le_refl _) (fun _ _=>rfl) fun i _ _ h1 h2=>AW hp.lc.2 (GI (tag:=tag) (by rw[hp.tc];omega))
 known:=by rw[AW hp.lc.2 (GI (tag:=tag) (by rw[hp.tk,hp.tc];decide))];exact hp.known
 many:=B_ rfl hp.lc.2
 ends:=by rw[AW hp.lc.2 (GI (tag:=tag) (by rw[hp.te,hp.tc];decide))];exact hp.ends
 tm:=hp.tm
 tk:=hp.tk
 tc:=hp.tc
 te:=hp.te
 lm:=hp.lm
 lk:=hp.lk
 lc:=hp.lc
 le:=hp.le
 fl:=hp.fl
theorem BN.putK (hp:BN h lo m k c e r n nm E tag vq vv vt vu vo es s) (l:List F1):BN (h.put k (.map (l.map JL))) lo m k c e r n nm E tag vq vv vt vu vo es { s with things:=l } where
 cell:=by rw[AW hp.lk.2 (GI (tag:=tag) (by rw[hp.tm,hp.tk];decide))];exact hp.cell
 pol:=by
  have:=hp.pol.mono (h':=h.put k (.map (l.map JL))) (Nat.le_refl _) (fun _ _=>rfl) fun i _ _ h1 h2=>AW hp.lk.2 (GI (tag:=tag) (by rw[hp.tk];omega))
  exact⟨this.rows,this.len,this.tr,this.lr,this.q,this.v,this.t,this.u,this.o⟩
 known:=B_ rfl hp.lk.2
 many:=by rw[AW hp.lk.2 (GI (tag:=tag) (by rw[hp.tc,hp.tk];decide))];exact hp.many
 ends:=by rw[AW hp.lk.2 (GI (tag:=tag) (by rw[hp.te,hp.tk];decide))];exact hp.ends
 tm:=hp.tm
 tk:=hp.tk
 tc:=hp.tc
 te:=hp.te
 lm:=hp.lm
 lk:=hp.lk
 lc:=hp.lc
 le:=hp.le
 fl:=hp.fl
theorem BN.pol' (hp:BN h lo m k c e r n nm E tag vq vv vt vu vo es s) {vq' vv' vt' vu' vo':Value} (hn:h.next≤h'.next) (hf:h'.floor=h.floor) (ht:∀ i,i<h.next→tag' i=tag i)
  (hg:∀ i,lo≤i→i<h.next→8≤tag i→h'.get i=h.get i) (hc:h'.get m=.row [.string nm,qS r n AP,vq',vv',vt',vu',vo',iv s'.miss,.map (some k),.map (some c)] 69 false false)
  (hp':KC h' lo tag' r n vq' vv' vt' vu' vo' s') (hth:s'.things=s.things):BN h' lo m k c e r n nm E tag' vq' vv' vt' vu' vo' es s' where
 cell:=hc
 pol:=hp'
 known:=by rw[hg k hp.lk.1 hp.lk.2 (by rw[hp.tk];omega),hth];exact hp.known
 many:=by rw[hg c hp.lc.1 hp.lc.2 (by rw[hp.tc];omega)];exact hp.many
 ends:=by rw[hg e hp.le.1 hp.le.2 (by rw[hp.te];omega)];exact hp.ends
 tm:=by rw[ht m hp.lm.2];exact hp.tm
 tk:=by rw[ht k hp.lk.2];exact hp.tk
 tc:=by rw[ht c hp.lc.2];exact hp.tc
 te:=by rw[ht e hp.le.2];exact hp.te
 lm:=⟨hp.lm.1,by have:=hp.lm.2;omega⟩
 lk:=⟨hp.lk.1,by have:=hp.lk.2;omega⟩
 lc:=⟨hp.lc.1,by have:=hp.lc.2;omega⟩
 le:=⟨hp.le.1,by have:=hp.le.2;omega⟩
 fl:=by rw[hf];exact hp.fl
theorem KC.putR (hp:KC h lo tag r n vq vv vt vu vo s) {l:List AB} (hl:l.length=s.rows.length):KC (h.put r (.row (l.flatMap AX) 61 true false)) lo tag r n vq vv vt vu vo { s with rows:=l }:=
 have hg:∀ i j,2≤j→tag i=j→(h.put r (.row (l.flatMap AX) 61 true false)).get i=h.get i:=fun i j hj hi=>AW hp.lr.2 (GI (tag:=tag) (by rw[hp.tr];omega))
 ⟨B_ rfl hp.lr.2,hl.trans hp.len,hp.tr,hp.lr,hp.q.mono (Nat.le_refl _) (fun _ _=>rfl) fun i _ _ h3=>hg i 2 (by omega) h3,hp.v.mono (Nat.le_refl _) (fun _ _=>rfl) fun i _ _ h3=>hg i 3 (by omega) h3,hp.t.mono (Nat.le_refl _) (fun _ _=>rfl) fun i _ _ h3=>hg i 4 (by omega) h3,hp.u.mono (Nat.le_refl _) (fun _ _=>rfl) fun i _ _ h3=>hg i 5 (by omega) h3,hp.o.mono (Nat.le_refl _) (fun _ _=>rfl) fun i _ _ h3=>hg i 6 (by omega) h3⟩
theorem BN.putR (hp:BN h lo m k c e r n nm E tag vq vv vt vu vo es s) {l:List AB} (hl:l.length=s.rows.length):BN (h.put r (.row (l.flatMap AX) 61 true false)) lo m k c e r n nm E tag vq vv vt vu vo es { s with rows:=l }:=
 hp.pol' (Nat.le_refl _) rfl (fun _ _=>rfl) (fun i _ _ h1=>AW hp.pol.lr.2 (GI (tag:=tag) (by rw[hp.pol.tr];omega))) (by rw[AW hp.pol.lr.2 (GI (tag:=tag) (by rw[hp.pol.tr,hp.tm];decide))];exact hp.cell) (hp.pol.putR hl) rfl
theorem BN.c1 (hp:BN h lo m k c e r n nm E tag vq vv vt vu vo es s):AJ 1 (h.get m)=some (qS r n AP):=by rw[hp.cell];rfl
theorem BN.c2 (hp:BN h lo m k c e r n nm E tag vq vv vt vu vo es s):AJ 2 (h.get m)=some vq:=by rw[hp.cell];rfl
theorem BN.c3 (hp:BN h lo m k c e r n nm E tag vq vv vt vu vo es s):AJ 3 (h.get m)=some vv:=by rw[hp.cell];rfl
theorem BN.c4 (hp:BN h lo m k c e r n nm E tag vq vv vt vu vo es s):AJ 4 (h.get m)=some vt:=by rw[hp.cell];rfl
theorem BN.c5 (hp:BN h lo m k c e r n nm E tag vq vv vt vu vo es s):AJ 5 (h.get m)=some vu:=by rw[hp.cell];rfl
theorem BN.c6 (hp:BN h lo m k c e r n nm E tag vq vv vt vu vo es s):AJ 6 (h.get m)=some vo:=by rw[hp.cell];rfl
theorem BN.c7 (hp:BN h lo m k c e r n nm E tag vq vv vt vu vo es s):AJ 7 (h.get m)=some (iv s.miss):=by rw[hp.cell];rfl
theorem BN.c8 (hp:BN h lo m k c e r n nm E tag vq vv vt vu vo es s):AJ 8 (h.get m)=some (.map (some k)):=by rw[hp.cell];rfl
theorem BN.c9 (hp:BN h lo m k c e r n nm E tag vq vv vt vu vo es s):AJ 9 (h.get m)=some (.map (some c)):=by rw[hp.cell];rfl
theorem BN.row (hp:BN h lo m k c e r n nm E tag vq vv vt vu vo es s) {at_:Nat} {x:AB} (hx:s.rows[at_]?=some x):at_<n∧AJ (at_*5) (h.get r)=some (iv x.kind)∧AJ (at_*5+1) (h.get r)=some (.string x.name)∧AJ (at_*5+2) (h.get r)=some (iv x.ends)∧AJ (at_*5+3) (h.get r)=some (iv x.n)∧AJ (at_*5+4) (h.get r)=some (iv x.kids) ∧
  AY 5 (at_*5) (h.get r)=some (.agg #[iv x.kind,.string x.name,iv x.ends,iv x.n,iv x.kids]):=by
 have hl:at_<n:=by rw[← hp.pol.len];exact(List.getElem?_eq_some_iff.1 hx).1
 obtain⟨id,q,e0,hid,l0,l1,l2,l3,l4,lr⟩:=hp.pol.at.row hx
 rw[ON hl] at e0
 simp only[Option.some.injEq,Value.pointer.injEq,Addr.mk.injEq,and_true] at e0
 obtain⟨rfl,rfl⟩:=e0
 exact⟨hl,l0,l1,l2,l3,l4,lr⟩
end
section
variable {h:AA} {lo m k c e r n:Nat} {nm:ByteArray} {E:List Int} {tag:Nat→Nat} {vq vv vt vu vo:Value} {es:List (Value × Value)} {s:AL}
theorem Fo {l:List (ByteArray × Bool)} {x:ByteArray × Bool}:DC l++[.string x.1,.bool x.2]=DC (l++[x]):=by simp[DC]
theorem fS {l:List ByteArray} {x:ByteArray}:DE l++[.string x]=DE (l++[x]):=by simp[DE]
theorem eW {l:List Int} {x:Int}:ints l++[iv x]=ints (l++[x]):=by simp[ints]
theorem BN.appQ (hp:BN h lo m k c e r n nm E tag vq vv vt vu vo es s) (x:(ByteArray × Bool)) (hb:s.queues.length<10000000):∃ v' h1,DS Tryd.prog (h.push (.row [.string x.1,.bool x.2] 102 false false)) 30 vq (qS h.next 1 1)=some (v',h1)∧h1.get m=h.get m∧one v'=true∧v'.cells=#[v']∧h1.floor=h.floor∧h1.next=h.next+2∧(∀ i,i<h.next→i<lo∨11≤tag i→h1.get i=h.get i) ∧
  BN (h1.put m (.row [.string nm,qS r n AP,v',vv,vt,vu,vo,iv s.miss,.map (some k),.map (some c)] 69 false false)) lo m k c e r n nm E (fun i=>if i=h.next+1 then 2 else tag i) v' vv vt vu vo es { s with queues:=s.queues++[x] }:=by
 have hlm:=hp.lm
 have hpp:=hp.mono (h':=h.push (.row [.string x.1,.bool x.2] 102 false false)) (tag':=fun i=>if i=h.next then 11 else tag i) (by show h.next≤h.next+1;omega) rfl (fun i hi=>if_neg (by omega)) fun i _ hi=>AR hi
 obtain⟨v',h1,a1,a2,a3,a4,a5,a6,a7⟩:=QH (et:=102) (w:=2) (c:=1) (sc:=1) (xs:=[.string x.1,.bool x.2]) Tryd.underlying30 P7 fP R8 rfl (by decide) (by decide) hpp.pol.q (O0 _) (cM _) rfl rfl (by decide) (by decide) (by omega) (src:=h.next) BP (by show h.next<h.next+1;omega) hp.fl (by simp)
 have hnx:h1.next=h.next+2:=a4
 have hold:∀ i,i<h.next→¬ (lo≤i∧tag i=2)→h1.get i=h.get i:=fun i hi hne=>by
  rw[a7 i (by show i<h.next+1;omega) (by rw[if_neg (by omega)];exact hne),AR hi]
 have hm1:m<h1.next:=by omega
 have hgm:h1.get m=h.get m:=hold m hlm.2 (by rw[hp.tm];omega)
 have hSl:FC h1 lo (fun i=>if i=h.next+1 then 2 else tag i) 2 v' (s.queues.length+1) (DC s.queues++[.string x.1,.bool x.2]) 102:=by
  rcases a2 with a2 | a2
  ·refine a2.mono' fun i hi=>?_
   show (if i=h.next+1 then 2 else tag i)=(if i=h.next+1 then 2 else if i=h.next then 11 else tag i)∨(if i=h.next+1 then 2 else if i=h.next then 11 else tag i)≠2
   by_cases e1:i=h.next+1
   ·left;rw[if_pos e1,if_pos e1]
   ·rw[if_neg e1,if_neg e1]
    by_cases e2:i=h.next
    ·right;rw[if_pos e2];decide
    ·left;rw[if_neg e2]
  ·exact absurd (show lo≤h.next+1 by omega) a2
 refine⟨v',h1,a1,hgm,a5,a6,a3,hnx,fun i hi hlo=>hold i hi (by omega),?_⟩
 have hn2:h.next≤(h1.put m (.row [.string nm,qS r n AP,v',vv,vt,vu,vo,iv s.miss,.map (some k),.map (some c)] 69 false false)).next:=by show h.next≤h1.next;omega
 have ht2:∀ i,i<h.next→(fun i=>if i=h.next+1 then 2 else tag i) i=tag i:=fun i hi=>if_neg (by omega)
 have hg2:∀ i,lo≤i→i<h.next→tag i≠0→tag i≠2→(h1.put m (.row [.string nm,qS r n AP,v',vv,vt,vu,vo,iv s.miss,.map (some k),.map (some c)] 69 false false)).get i=h.get i:=fun i h1' h2 h3 h4=>by
  rw[AW hm1 (GI (tag:=tag) (by rw[hp.tm];exact h3.symm)),hold i h2 (fun e=>h4 e.2)]
 have hgj:∀ jj,jj≠0→jj≠2→(jj≠2)→∀ i,lo≤i→i<h.next→tag i=jj→(h1.put m (.row [.string nm,qS r n AP,v',vv,vt,vu,vo,iv s.miss,.map (some k),.map (some c)] 69 false false)).get i=h.get i:=fun jj z1 z2 _ i h1' h2 h3=>hg2 i h1' h2 (by omega) (by omega)
 refine hp.pol' hn2 a3 ht2 (fun i h1' h2 h3=>hg2 i h1' h2 (by omega) (by omega)) (B_ rfl hm1) ?_ rfl
 exact
  { rows:=by rw[hg2 r hp.pol.lr.1 hp.pol.lr.2 (by rw[hp.pol.tr];decide) (by rw[hp.pol.tr];decide)];exact hp.pol.rows
    len:=hp.pol.len
    tr:=(ht2 r hp.pol.lr.2).trans hp.pol.tr
    lr:=⟨hp.pol.lr.1,by have:=hp.pol.lr.2;omega⟩
    q:=by
     have h9:=hSl.mono (h':=(h1.put m (.row [.string nm,qS r n AP,v',vv,vt,vu,vo,iv s.miss,.map (some k),.map (some c)] 69 false false))) (Nat.le_refl _) (fun _ _=>rfl) fun i _ _ h3=>AW hm1 (GI (tag:=fun i=>if i=h.next+1 then 2 else tag i) (by rw[h3];show (if m=h.next+1 then _ else tag m)≠_;rw[if_neg (by omega),hp.tm];decide))
     rw[Fo] at h9
     simp only[List.length_append,List.length_cons,List.length_nil]
     exact h9
    v:=hp.pol.v.mono hn2 ht2 (hgj 3 (by decide) (by decide) (by decide))
    t:=hp.pol.t.mono hn2 ht2 (hgj 4 (by decide) (by decide) (by decide))
    u:=hp.pol.u.mono hn2 ht2 (hgj 5 (by decide) (by decide) (by decide))
    o:=hp.pol.o.mono hn2 ht2 (hgj 6 (by decide) (by decide) (by decide)) }
theorem BN.appV (hp:BN h lo m k c e r n nm E tag vq vv vt vu vo es s) (x:ByteArray) (hb:s.vars.length<10000000):∃ v' h1,DS Tryd.prog (h.push (.row [.string x] 9 false false)) 31 vv (qS h.next 1 1)=some (v',h1)∧h1.get m=h.get m∧one v'=true∧v'.cells=#[v']∧h1.floor=h.floor∧h1.next=h.next+2∧(∀ i,i<h.next→i<lo∨11≤tag i→h1.get i=h.get i) ∧
  BN (h1.put m (.row [.string nm,qS r n AP,vq,v',vt,vu,vo,iv s.miss,.map (some k),.map (some c)] 69 false false)) lo m k c e r n nm E (fun i=>if i=h.next+1 then 3 else tag i) vq v' vt vu vo es { s with vars:=s.vars++[x] }:=by
 have hlm:=hp.lm
 have hpp:=hp.mono (h':=h.push (.row [.string x] 9 false false)) (tag':=fun i=>if i=h.next then 11 else tag i) (by show h.next≤h.next+1;omega) rfl (fun i hi=>if_neg (by omega)) fun i _ hi=>AR hi
 obtain⟨v',h1,a1,a2,a3,a4,a5,a6,a7⟩:=QH (et:=9) (w:=1) (c:=1) (sc:=1) (xs:=[.string x]) Tryd.underlying31 MD U6 SH rfl (by decide) (by decide) hpp.pol.v (by rw[Nat.mul_one];exact V7 _) (W9 _) rfl rfl (by decide) (by decide) (by omega) (src:=h.next) BP (by show h.next<h.next+1;omega) hp.fl (by simp)
 have hnx:h1.next=h.next+2:=a4
 have hold:∀ i,i<h.next→¬ (lo≤i∧tag i=3)→h1.get i=h.get i:=fun i hi hne=>by
  rw[a7 i (by show i<h.next+1;omega) (by rw[if_neg (by omega)];exact hne),AR hi]
 have hm1:m<h1.next:=by omega
 have hgm:h1.get m=h.get m:=hold m hlm.2 (by rw[hp.tm];omega)
 have hSl:FC h1 lo (fun i=>if i=h.next+1 then 3 else tag i) 3 v' (s.vars.length+1) (DE s.vars++[.string x]) 9:=by
  rcases a2 with a2 | a2
  ·refine a2.mono' fun i hi=>?_
   show (if i=h.next+1 then 3 else tag i)=(if i=h.next+1 then 3 else if i=h.next then 11 else tag i)∨(if i=h.next+1 then 3 else if i=h.next then 11 else tag i)≠3
   by_cases e1:i=h.next+1
   ·left;rw[if_pos e1,if_pos e1]
   ·rw[if_neg e1,if_neg e1]
    by_cases e2:i=h.next
    ·right;rw[if_pos e2];decide
    ·left;rw[if_neg e2]
  ·exact absurd (show lo≤h.next+1 by omega) a2
 refine⟨v',h1,a1,hgm,a5,a6,a3,hnx,fun i hi hlo=>hold i hi (by omega),?_⟩
 have hn2:h.next≤(h1.put m (.row [.string nm,qS r n AP,vq,v',vt,vu,vo,iv s.miss,.map (some k),.map (some c)] 69 false false)).next:=by show h.next≤h1.next;omega
 have ht2:∀ i,i<h.next→(fun i=>if i=h.next+1 then 3 else tag i) i=tag i:=fun i hi=>if_neg (by omega)
 have hg2:∀ i,lo≤i→i<h.next→tag i≠0→tag i≠3→(h1.put m (.row [.string nm,qS r n AP,vq,v',vt,vu,vo,iv s.miss,.map (some k),.map (some c)] 69 false false)).get i=h.get i:=fun i h1' h2 h3 h4=>by
  rw[AW hm1 (GI (tag:=tag) (by rw[hp.tm];exact h3.symm)),hold i h2 (fun e=>h4 e.2)]
 have hgj:∀ jj,jj≠0→jj≠3→(jj≠3)→∀ i,lo≤i→i<h.next→tag i=jj→(h1.put m (.row [.string nm,qS r n AP,vq,v',vt,vu,vo,iv s.miss,.map (some k),.map (some c)] 69 false false)).get i=h.get i:=fun jj z1 z2 _ i h1' h2 h3=>hg2 i h1' h2 (by omega) (by omega)
 refine hp.pol' hn2 a3 ht2 (fun i h1' h2 h3=>hg2 i h1' h2 (by omega) (by omega)) (B_ rfl hm1) ?_ rfl
 exact
  { rows:=by rw[hg2 r hp.pol.lr.1 hp.pol.lr.2 (by rw[hp.pol.tr];decide) (by rw[hp.pol.tr];decide)];exact hp.pol.rows
    len:=hp.pol.len
    tr:=(ht2 r hp.pol.lr.2).trans hp.pol.tr
    lr:=⟨hp.pol.lr.1,by have:=hp.pol.lr.2;omega⟩
    q:=hp.pol.q.mono hn2 ht2 (hgj 2 (by decide) (by decide) (by decide))
    v:=by
     have h9:=hSl.mono (h':=(h1.put m (.row [.string nm,qS r n AP,vq,v',vt,vu,vo,iv s.miss,.map (some k),.map (some c)] 69 false false))) (Nat.le_refl _) (fun _ _=>rfl) fun i _ _ h3=>AW hm1 (GI (tag:=fun i=>if i=h.next+1 then 3 else tag i) (by rw[h3];show (if m=h.next+1 then _ else tag m)≠_;rw[if_neg (by omega),hp.tm];decide))
     rw[fS] at h9
     simp only[List.length_append,List.length_cons,List.length_nil]
     exact h9
    t:=hp.pol.t.mono hn2 ht2 (hgj 4 (by decide) (by decide) (by decide))
    u:=hp.pol.u.mono hn2 ht2 (hgj 5 (by decide) (by decide) (by decide))
    o:=hp.pol.o.mono hn2 ht2 (hgj 6 (by decide) (by decide) (by decide)) }
theorem BN.appT (hp:BN h lo m k c e r n nm E tag vq vv vt vu vo es s) (x:ByteArray) (hb:s.tags.length<10000000):∃ v' h1,DS Tryd.prog (h.push (.row [.string x] 9 false false)) 31 vt (qS h.next 1 1)=some (v',h1)∧h1.get m=h.get m∧one v'=true∧v'.cells=#[v']∧h1.floor=h.floor∧h1.next=h.next+2∧(∀ i,i<h.next→i<lo∨11≤tag i→h1.get i=h.get i) ∧
  BN (h1.put m (.row [.string nm,qS r n AP,vq,vv,v',vu,vo,iv s.miss,.map (some k),.map (some c)] 69 false false)) lo m k c e r n nm E (fun i=>if i=h.next+1 then 4 else tag i) vq vv v' vu vo es { s with tags:=s.tags++[x] }:=by
 have hlm:=hp.lm
 have hpp:=hp.mono (h':=h.push (.row [.string x] 9 false false)) (tag':=fun i=>if i=h.next then 11 else tag i) (by show h.next≤h.next+1;omega) rfl (fun i hi=>if_neg (by omega)) fun i _ hi=>AR hi
 obtain⟨v',h1,a1,a2,a3,a4,a5,a6,a7⟩:=QH (et:=9) (w:=1) (c:=1) (sc:=1) (xs:=[.string x]) Tryd.underlying31 MD U6 SH rfl (by decide) (by decide) hpp.pol.t (by rw[Nat.mul_one];exact V7 _) (W9 _) rfl rfl (by decide) (by decide) (by omega) (src:=h.next) BP (by show h.next<h.next+1;omega) hp.fl (by simp)
 have hnx:h1.next=h.next+2:=a4
 have hold:∀ i,i<h.next→¬ (lo≤i∧tag i=4)→h1.get i=h.get i:=fun i hi hne=>by
  rw[a7 i (by show i<h.next+1;omega) (by rw[if_neg (by omega)];exact hne),AR hi]
 have hm1:m<h1.next:=by omega
 have hgm:h1.get m=h.get m:=hold m hlm.2 (by rw[hp.tm];omega)
 have hSl:FC h1 lo (fun i=>if i=h.next+1 then 4 else tag i) 4 v' (s.tags.length+1) (DE s.tags++[.string x]) 9:=by
  rcases a2 with a2 | a2
  ·refine a2.mono' fun i hi=>?_
   show (if i=h.next+1 then 4 else tag i)=(if i=h.next+1 then 4 else if i=h.next then 11 else tag i)∨(if i=h.next+1 then 4 else if i=h.next then 11 else tag i)≠4
   by_cases e1:i=h.next+1
   ·left;rw[if_pos e1,if_pos e1]
   ·rw[if_neg e1,if_neg e1]
    by_cases e2:i=h.next
    ·right;rw[if_pos e2];decide
    ·left;rw[if_neg e2]
  ·exact absurd (show lo≤h.next+1 by omega) a2
 refine⟨v',h1,a1,hgm,a5,a6,a3,hnx,fun i hi hlo=>hold i hi (by omega),?_⟩
 have hn2:h.next≤(h1.put m (.row [.string nm,qS r n AP,vq,vv,v',vu,vo,iv s.miss,.map (some k),.map (some c)] 69 false false)).next:=by show h.next≤h1.next;omega
 have ht2:∀ i,i<h.next→(fun i=>if i=h.next+1 then 4 else tag i) i=tag i:=fun i hi=>if_neg (by omega)
 have hg2:∀ i,lo≤i→i<h.next→tag i≠0→tag i≠4→(h1.put m (.row [.string nm,qS r n AP,vq,vv,v',vu,vo,iv s.miss,.map (some k),.map (some c)] 69 false false)).get i=h.get i:=fun i h1' h2 h3 h4=>by
  rw[AW hm1 (GI (tag:=tag) (by rw[hp.tm];exact h3.symm)),hold i h2 (fun e=>h4 e.2)]
 have hgj:∀ jj,jj≠0→jj≠4→(jj≠4)→∀ i,lo≤i→i<h.next→tag i=jj→(h1.put m (.row [.string nm,qS r n AP,vq,vv,v',vu,vo,iv s.miss,.map (some k),.map (some c)] 69 false false)).get i=h.get i:=fun jj z1 z2 _ i h1' h2 h3=>hg2 i h1' h2 (by omega) (by omega)
 refine hp.pol' hn2 a3 ht2 (fun i h1' h2 h3=>hg2 i h1' h2 (by omega) (by omega)) (B_ rfl hm1) ?_ rfl
 exact
  { rows:=by rw[hg2 r hp.pol.lr.1 hp.pol.lr.2 (by rw[hp.pol.tr];decide) (by rw[hp.pol.tr];decide)];exact hp.pol.rows
    len:=hp.pol.len
    tr:=(ht2 r hp.pol.lr.2).trans hp.pol.tr
    lr:=⟨hp.pol.lr.1,by have:=hp.pol.lr.2;omega⟩
    q:=hp.pol.q.mono hn2 ht2 (hgj 2 (by decide) (by decide) (by decide))
    v:=hp.pol.v.mono hn2 ht2 (hgj 3 (by decide) (by decide) (by decide))
    t:=by
     have h9:=hSl.mono (h':=(h1.put m (.row [.string nm,qS r n AP,vq,vv,v',vu,vo,iv s.miss,.map (some k),.map (some c)] 69 false false))) (Nat.le_refl _) (fun _ _=>rfl) fun i _ _ h3=>AW hm1 (GI (tag:=fun i=>if i=h.next+1 then 4 else tag i) (by rw[h3];show (if m=h.next+1 then _ else tag m)≠_;rw[if_neg (by omega),hp.tm];decide))
     rw[fS] at h9
     simp only[List.length_append,List.length_cons,List.length_nil]
     exact h9
    u:=hp.pol.u.mono hn2 ht2 (hgj 5 (by decide) (by decide) (by decide))
    o:=hp.pol.o.mono hn2 ht2 (hgj 6 (by decide) (by decide) (by decide)) }
theorem BN.appU (hp:BN h lo m k c e r n nm E tag vq vv vt vu vo es s) (x:Int) (hb:s.rules.length<10000000):∃ v' h1,DS Tryd.prog (h.push (.row [iv x] 3 false false)) 27 vu (qS h.next 1 1)=some (v',h1)∧h1.get m=h.get m∧one v'=true∧v'.cells=#[v']∧h1.floor=h.floor∧h1.next=h.next+2∧(∀ i,i<h.next→i<lo∨11≤tag i→h1.get i=h.get i) ∧
  BN (h1.put m (.row [.string nm,qS r n AP,vq,vv,vt,v',vo,iv s.miss,.map (some k),.map (some c)] 69 false false)) lo m k c e r n nm E (fun i=>if i=h.next+1 then 5 else tag i) vq vv vt v' vo es { s with rules:=s.rules++[x] }:=by
 have hlm:=hp.lm
 have hpp:=hp.mono (h':=h.push (.row [iv x] 3 false false)) (tag':=fun i=>if i=h.next then 11 else tag i) (by show h.next≤h.next+1;omega) rfl (fun i hi=>if_neg (by omega)) fun i _ hi=>AR hi
 obtain⟨v',h1,a1,a2,a3,a4,a5,a6,a7⟩:=QH (et:=3) (w:=1) (c:=1) (sc:=1) (xs:=[iv x]) Tryd.underlying27 C4 J7 IB rfl (by decide) (by decide) hpp.pol.u (by rw[Nat.mul_one];exact GK _) (PW _) rfl rfl (by decide) (by decide) (by omega) (src:=h.next) BP (by show h.next<h.next+1;omega) hp.fl (by simp)
 have hnx:h1.next=h.next+2:=a4
 have hold:∀ i,i<h.next→¬ (lo≤i∧tag i=5)→h1.get i=h.get i:=fun i hi hne=>by
  rw[a7 i (by show i<h.next+1;omega) (by rw[if_neg (by omega)];exact hne),AR hi]
 have hm1:m<h1.next:=by omega
 have hgm:h1.get m=h.get m:=hold m hlm.2 (by rw[hp.tm];omega)
 have hSl:FC h1 lo (fun i=>if i=h.next+1 then 5 else tag i) 5 v' (s.rules.length+1) (ints s.rules++[iv x]) 3:=by
  rcases a2 with a2 | a2
  ·refine a2.mono' fun i hi=>?_
   show (if i=h.next+1 then 5 else tag i)=(if i=h.next+1 then 5 else if i=h.next then 11 else tag i)∨(if i=h.next+1 then 5 else if i=h.next then 11 else tag i)≠5
   by_cases e1:i=h.next+1
   ·left;rw[if_pos e1,if_pos e1]
   ·rw[if_neg e1,if_neg e1]
    by_cases e2:i=h.next
    ·right;rw[if_pos e2];decide
    ·left;rw[if_neg e2]
  ·exact absurd (show lo≤h.next+1 by omega) a2
 refine⟨v',h1,a1,hgm,a5,a6,a3,hnx,fun i hi hlo=>hold i hi (by omega),?_⟩
 have hn2:h.next≤(h1.put m (.row [.string nm,qS r n AP,vq,vv,vt,v',vo,iv s.miss,.map (some k),.map (some c)] 69 false false)).next:=by show h.next≤h1.next;omega
 have ht2:∀ i,i<h.next→(fun i=>if i=h.next+1 then 5 else tag i) i=tag i:=fun i hi=>if_neg (by omega)
 have hg2:∀ i,lo≤i→i<h.next→tag i≠0→tag i≠5→(h1.put m (.row [.string nm,qS r n AP,vq,vv,vt,v',vo,iv s.miss,.map (some k),.map (some c)] 69 false false)).get i=h.get i:=fun i h1' h2 h3 h4=>by
  rw[AW hm1 (GI (tag:=tag) (by rw[hp.tm];exact h3.symm)),hold i h2 (fun e=>h4 e.2)]
 have hgj:∀ jj,jj≠0→jj≠5→(jj≠5)→∀ i,lo≤i→i<h.next→tag i=jj→(h1.put m (.row [.string nm,qS r n AP,vq,vv,vt,v',vo,iv s.miss,.map (some k),.map (some c)] 69 false false)).get i=h.get i:=fun jj z1 z2 _ i h1' h2 h3=>hg2 i h1' h2 (by omega) (by omega)
 refine hp.pol' hn2 a3 ht2 (fun i h1' h2 h3=>hg2 i h1' h2 (by omega) (by omega)) (B_ rfl hm1) ?_ rfl
 exact
  { rows:=by rw[hg2 r hp.pol.lr.1 hp.pol.lr.2 (by rw[hp.pol.tr];decide) (by rw[hp.pol.tr];decide)];exact hp.pol.rows
    len:=hp.pol.len
    tr:=(ht2 r hp.pol.lr.2).trans hp.pol.tr
    lr:=⟨hp.pol.lr.1,by have:=hp.pol.lr.2;omega⟩
    q:=hp.pol.q.mono hn2 ht2 (hgj 2 (by decide) (by decide) (by decide))
    v:=hp.pol.v.mono hn2 ht2 (hgj 3 (by decide) (by decide) (by decide))
    t:=hp.pol.t.mono hn2 ht2 (hgj 4 (by decide) (by decide) (by decide))
    u:=by
     have h9:=hSl.mono (h':=(h1.put m (.row [.string nm,qS r n AP,vq,vv,vt,v',vo,iv s.miss,.map (some k),.map (some c)] 69 false false))) (Nat.le_refl _) (fun _ _=>rfl) fun i _ _ h3=>AW hm1 (GI (tag:=fun i=>if i=h.next+1 then 5 else tag i) (by rw[h3];show (if m=h.next+1 then _ else tag m)≠_;rw[if_neg (by omega),hp.tm];decide))
     rw[eW] at h9
     simp only[List.length_append,List.length_cons,List.length_nil]
     exact h9
    o:=hp.pol.o.mono hn2 ht2 (hgj 6 (by decide) (by decide) (by decide)) }
theorem BN.appO (hp:BN h lo m k c e r n nm E tag vq vv vt vu vo es s) (x:Int) (hb:s.on.length<10000000):∃ v' h1,DS Tryd.prog (h.push (.row [iv x] 3 false false)) 27 vo (qS h.next 1 1)=some (v',h1)∧h1.get m=h.get m∧one v'=true∧v'.cells=#[v']∧h1.floor=h.floor∧h1.next=h.next+2∧(∀ i,i<h.next→i<lo∨11≤tag i→h1.get i=h.get i) ∧
  BN (h1.put m (.row [.string nm,qS r n AP,vq,vv,vt,vu,v',iv s.miss,.map (some k),.map (some c)] 69 false false)) lo m k c e r n nm E (fun i=>if i=h.next+1 then 6 else tag i) vq vv vt vu v' es { s with on:=s.on++[x] }:=by
 have hlm:=hp.lm
 have hpp:=hp.mono (h':=h.push (.row [iv x] 3 false false)) (tag':=fun i=>if i=h.next then 11 else tag i) (by show h.next≤h.next+1;omega) rfl (fun i hi=>if_neg (by omega)) fun i _ hi=>AR hi
 obtain⟨v',h1,a1,a2,a3,a4,a5,a6,a7⟩:=QH (et:=3) (w:=1) (c:=1) (sc:=1) (xs:=[iv x]) Tryd.underlying27 C4 J7 IB rfl (by decide) (by decide) hpp.pol.o (by rw[Nat.mul_one];exact GK _) (PW _) rfl rfl (by decide) (by decide) (by omega) (src:=h.next) BP (by show h.next<h.next+1;omega) hp.fl (by simp)
 have hnx:h1.next=h.next+2:=a4
 have hold:∀ i,i<h.next→¬ (lo≤i∧tag i=6)→h1.get i=h.get i:=fun i hi hne=>by
  rw[a7 i (by show i<h.next+1;omega) (by rw[if_neg (by omega)];exact hne),AR hi]
 have hm1:m<h1.next:=by omega
 have hgm:h1.get m=h.get m:=hold m hlm.2 (by rw[hp.tm];omega)
 have hSl:FC h1 lo (fun i=>if i=h.next+1 then 6 else tag i) 6 v' (s.on.length+1) (ints s.on++[iv x]) 3:=by
  rcases a2 with a2 | a2
  ·refine a2.mono' fun i hi=>?_
   show (if i=h.next+1 then 6 else tag i)=(if i=h.next+1 then 6 else if i=h.next then 11 else tag i)∨(if i=h.next+1 then 6 else if i=h.next then 11 else tag i)≠6
   by_cases e1:i=h.next+1
   ·left;rw[if_pos e1,if_pos e1]
   ·rw[if_neg e1,if_neg e1]
    by_cases e2:i=h.next
    ·right;rw[if_pos e2];decide
    ·left;rw[if_neg e2]
  ·exact absurd (show lo≤h.next+1 by omega) a2
 refine⟨v',h1,a1,hgm,a5,a6,a3,hnx,fun i hi hlo=>hold i hi (by omega),?_⟩
 have hn2:h.next≤(h1.put m (.row [.string nm,qS r n AP,vq,vv,vt,vu,v',iv s.miss,.map (some k),.map (some c)] 69 false false)).next:=by show h.next≤h1.next;omega
 have ht2:∀ i,i<h.next→(fun i=>if i=h.next+1 then 6 else tag i) i=tag i:=fun i hi=>if_neg (by omega)
 have hg2:∀ i,lo≤i→i<h.next→tag i≠0→tag i≠6→(h1.put m (.row [.string nm,qS r n AP,vq,vv,vt,vu,v',iv s.miss,.map (some k),.map (some c)] 69 false false)).get i=h.get i:=fun i h1' h2 h3 h4=>by
  rw[AW hm1 (GI (tag:=tag) (by rw[hp.tm];exact h3.symm)),hold i h2 (fun e=>h4 e.2)]
 have hgj:∀ jj,jj≠0→jj≠6→(jj≠6)→∀ i,lo≤i→i<h.next→tag i=jj→(h1.put m (.row [.string nm,qS r n AP,vq,vv,vt,vu,v',iv s.miss,.map (some k),.map (some c)] 69 false false)).get i=h.get i:=fun jj z1 z2 _ i h1' h2 h3=>hg2 i h1' h2 (by omega) (by omega)
 refine hp.pol' hn2 a3 ht2 (fun i h1' h2 h3=>hg2 i h1' h2 (by omega) (by omega)) (B_ rfl hm1) ?_ rfl
 exact
  { rows:=by rw[hg2 r hp.pol.lr.1 hp.pol.lr.2 (by rw[hp.pol.tr];decide) (by rw[hp.pol.tr];decide)];exact hp.pol.rows
    len:=hp.pol.len
    tr:=(ht2 r hp.pol.lr.2).trans hp.pol.tr
    lr:=⟨hp.pol.lr.1,by have:=hp.pol.lr.2;omega⟩
    q:=hp.pol.q.mono hn2 ht2 (hgj 2 (by decide) (by decide) (by decide))
    v:=hp.pol.v.mono hn2 ht2 (hgj 3 (by decide) (by decide) (by decide))
    t:=hp.pol.t.mono hn2 ht2 (hgj 4 (by decide) (by decide) (by decide))
    u:=hp.pol.u.mono hn2 ht2 (hgj 5 (by decide) (by decide) (by decide))
    o:=by
     have h9:=hSl.mono (h':=(h1.put m (.row [.string nm,qS r n AP,vq,vv,vt,vu,v',iv s.miss,.map (some k),.map (some c)] 69 false false))) (Nat.le_refl _) (fun _ _=>rfl) fun i _ _ h3=>AW hm1 (GI (tag:=fun i=>if i=h.next+1 then 6 else tag i) (by rw[h3];show (if m=h.next+1 then _ else tag m)≠_;rw[if_neg (by omega),hp.tm];decide))
     rw[eW] at h9
     simp only[List.length_append,List.length_cons,List.length_nil]
     exact h9 }
end
end Go.Proofs.YtdejoodfeljmkaaDoor
