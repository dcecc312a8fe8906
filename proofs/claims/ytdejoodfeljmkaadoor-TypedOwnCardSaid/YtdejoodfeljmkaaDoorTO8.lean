/- Part 8 of what the claim leans on: 20 texts laid one behind another. -/
import Derived.Test.YtdejoodfeljmkaaDoorTO7
import Derived.Laws.Bits64b
import Derived.Lib.Mul64
import Derived.Test.YtdejoodfeljmkaaDoorProg
namespace Go.Sx
open Go
set_option linter.unusedSimpArgs false
set_option linter.unusedVariables false
set_option maxHeartbeats 64000000
inductive CU where
 | top (Q:EM→St→Prop)
 | seq (b:Code) (k:CU)
 | block (id:Nat) (k:CU)
 | inv (J:St→Prop) (k:CU)
def CU.ap (P:Program) (call:AN) (n:Nat):CU→EM→St→Prop
 | .top Q,e,s=>Q e s
 | .seq b k,.normal,s=>WS P call n b s (k.ap P call n)
 | .seq _ k,e,s=>k.ap P call n e s
 | .block id k,.exit i,s=>if i=id then k.ap P call n .normal s else k.ap P call n (.exit i) s
 | .block _ k,e,s=>k.ap P call n e s
 | .inv J _,.normal,s=>J s
 | .inv _ k,e,s=>k.ap P call n e s
def WK (P:Program) (call:AN) (n:Nat) (c:Code) (s:St) (k:CU):Prop:=WS P call n c s (k.ap P call n)
def L_ (P:Program) (call:AN) (n:Nat) (ops:Array Oper) (l:List Oper) (s:St) (k:CU):Prop:=WL P call ops l s (k.ap P call n .normal)
def QS (P:Program) (call:AN) (n:Nat) (ops:Array Oper) (l:List Oper) (dst:Option Tmp) (T:Tr) (k:CU):Option (Value × AA)→Prop
 | some (v,h)=>L_ P call n ops l ⟨T.put dst v,h⟩ k
 | none=>False
def XO (P:Program) (call:AN) (n:Nat) (ops:Array Oper) (l:List Oper) (dst:Option Tmp) (T:Tr) (h:AA) (k:CU):Option Value→Prop
 | some v=>L_ P call n ops l ⟨T.put dst v,h⟩ k
 | none=>False
def mW (P:Program) (call:AN) (n:Nat) (a b:Code) (s:St) (k:CU):Value→Prop
 | .bool t=>(t=true→WK P call n a s k)∧(t=false→WK P call n b s k)
 | _=>False
section
variable {P:Program} {call:AN} {n:Nat} {s:St} {k:CU} {Q:EM→St→Prop}
theorem rC {e:EM}:(CU.top Q).ap P call n e s=Q e s:=rfl
theorem SP {b:Code}:(CU.seq b k).ap P call n .normal s=WK P call n b s k:=rfl
theorem rH {b:Code} {i:Nat}:(CU.seq b k).ap P call n (.exit i) s=k.ap P call n (.exit i) s:=rfl
theorem jZ {b:Code}:(CU.seq b k).ap P call n .ret s=k.ap P call n .ret s:=rfl
theorem qH {id:Nat}:(CU.block id k).ap P call n .normal s=k.ap P call n .normal s:=rfl
theorem oC {id i:Nat}:(CU.block id k).ap P call n (.exit i) s=if i=id then k.ap P call n .normal s else k.ap P call n (.exit i) s:=rfl
theorem tC {id:Nat}:(CU.block id k).ap P call n .ret s=k.ap P call n .ret s:=rfl
theorem rK {J:St→Prop}:(CU.inv J k).ap P call n .normal s=J s:=rfl
theorem qE {J:St→Prop} {i:Nat}:(CU.inv J k).ap P call n (.exit i) s=k.ap P call n (.exit i) s:=rfl
theorem pE {J:St→Prop}:(CU.inv J k).ap P call n .ret s=k.ap P call n .ret s:=rfl
theorem jB:WK P call n .skip s k=k.ap P call n .normal s:=by
 apply propext;simp only[WK,WS,CA,Option.some.injEq,Prod.mk.injEq]
 exact⟨fun ⟨_,_,⟨rfl,rfl⟩,h⟩=>h,fun h=>⟨_,_,⟨rfl,rfl⟩,h⟩⟩
theorem tF {id:Nat}:WK P call n (.exit id) s k=k.ap P call n (.exit id) s:=by
 apply propext;simp only[WK,WS,CA,Option.some.injEq,Prod.mk.injEq]
 exact⟨fun ⟨_,_,⟨rfl,rfl⟩,h⟩=>h,fun h=>⟨_,_,⟨rfl,rfl⟩,h⟩⟩
theorem gI:WK P call n .ret s k=k.ap P call n .ret s:=by
 apply propext;simp only[WK,WS,CA,Option.some.injEq,Prod.mk.injEq]
 exact⟨fun ⟨_,_,⟨rfl,rfl⟩,h⟩=>h,fun h=>⟨_,_,⟨rfl,rfl⟩,h⟩⟩
theorem ME {a b:Code}:WK P call n (.seq a b) s k=WK P call n a s (.seq b k):=by
 apply propext
 constructor
 ·rintro ⟨e,s',h1,h2⟩
  simp only[CA] at h1
  split at h1
  ·rename_i s1 h3
   exact⟨_,_,h3,_,_,h1,h2⟩
  ·rename_i hne
   refine⟨_,_,h1,?_⟩
   cases e with
   | normal=>exact absurd h1 (hne _)
   | exit id=>exact h2
   | ret=>exact h2
 ·rintro ⟨e,s',h1,h2⟩
  cases e with
  | normal=>
   obtain⟨e2,s2,h3,h4⟩:=h2
   exact⟨e2,s2,by simp only[CA,h1,h3],h4⟩
  | exit id=>exact⟨_,_,by simp only[CA,h1],h2⟩
  | ret=>exact⟨_,_,by simp only[CA,h1],h2⟩
theorem UP {id:Nat} {c:Code}:WK P call n (.block id c) s k=WK P call n c s (.block id k):=by
 apply propext
 constructor
 ·rintro ⟨e,s',h1,h2⟩
  simp only[CA] at h1
  split at h1
  ·rename_i i s1 h3
   refine⟨_,_,h3,?_⟩
   unfold CU.ap
   split at h1 <;> (cases h1;simp_all)
  ·rename_i hne
   refine⟨_,_,h1,?_⟩
   cases e with
   | normal=>exact h2
   | exit id=>exact absurd h1 (hne _ _)
   | ret=>exact h2
 ·rintro ⟨e,s',h1,h2⟩
  cases e with
  | normal=>exact⟨_,_,by simp only[CA,h1],h2⟩
  | exit i=>
   by_cases hi:i=id
   ·subst hi
    exact⟨.normal,s',by simp only[CA,h1,if_true],by simpa [CU.ap] using h2⟩
   ·exact⟨.exit i,s',by simp only[CA,h1,hi,if_false],by simpa [CU.ap,hi] using h2⟩
  | ret=>exact⟨_,_,by simp only[CA,h1],h2⟩
theorem iO {c:Operand} {a b:Code}:WK P call n (.cond c a b) s k=mW P call n a b s k (ev s.T c):=by
 apply propext
 constructor
 ·rintro ⟨e,s',h1,h2⟩
  simp only[CA] at h1
  split at h1
  ·rename_i he;rw[he];exact⟨fun _=>⟨_,_,h1,h2⟩,fun h=>(by cases h)⟩
  ·rename_i he;rw[he];exact⟨fun h=>(by cases h),fun _=>⟨_,_,h1,h2⟩⟩
  ·cases h1
 ·intro h
  cases he:ev s.T c with
  | bool t=>rw[he] at h;exact .cond he h.1 h.2
  | _=>rw[he] at h;exact h.elim
theorem h_ {a b:Code} {t:Bool}:mW P call n a b s k (.bool t)=((t=true→WK P call n a s k)∧(t=false→WK P call n b s k)):=rfl
theorem rA {id:Nat} {ops:Array Oper}:WK P call n (.region id ops false) s k=L_ P call n ops ops.toList s k:=by
 apply propext
 refine⟨fun ⟨e,s',h1,h2⟩=>?_,.region⟩
 simp only[CA,Bool.false_eq_true,if_false] at h1
 cases hs:JO P call ops ops.toList s with
 | none=>rw[hs] at h1;cases h1
 | some s1=>rw[hs] at h1;cases h1;exact⟨_,hs,h2⟩
theorem pL {ops:Array Oper}:L_ P call n ops [] s k=k.ap P call n .normal s:=by
 simp[L_,WL,JO]
theorem l9 {ops:Array Oper} {o:Oper} {l:List Oper}:L_ P call n ops (o :: l) s k=if DR ops s.T o then QS P call n ops l o.dst s.T k (AO P call s.T s.h o.op) else L_ P call n ops l ⟨s.T.put o.dst undef,s.h⟩ k:=by
 apply propext
 constructor
 ·rintro ⟨s',h1,h2⟩
  simp only[JO,FN] at h1
  by_cases hw:DR ops s.T o=true
  ·rw[if_pos hw] at h1 ⊢
   cases hs:AO P call s.T s.h o.op with
   | none=>rw[hs] at h1;cases h1
   | some r=>
    obtain⟨v,h'⟩:=r
    rw[hs] at h1
    exact⟨s',h1,h2⟩
  ·rw[if_neg hw] at h1 ⊢
   exact⟨s',h1,h2⟩
 ·intro h
  by_cases hw:DR ops s.T o=true
  ·rw[if_pos hw] at h
   cases hs:AO P call s.T s.h o.op with
   | none=>rw[hs] at h;exact h.elim
   | some r=>
    obtain⟨v,h'⟩:=r
    rw[hs] at h
    exact .step hw hs h
  ·rw[if_neg hw] at h
   exact .pass (by simpa using hw) h
section
variable {ops:Array Oper} {l:List Oper} {dst:Option Tmp} {T:Tr} {h:AA} {v:Value}
theorem kF:QS P call n ops l dst T k (some (v,h))=L_ P call n ops l ⟨T.put dst v,h⟩ k:=rfl
theorem nJ {r:Option Value}:QS P call n ops l dst T k (r.map (·,h))=XO P call n ops l dst T h k r:=by cases r <;> rfl
theorem nT:XO P call n ops l dst T h k (some v)=L_ P call n ops l ⟨T.put dst v,h⟩ k:=rfl
theorem QS.of {r:Option (Value × AA)} {h':AA} (hr:r=some (v,h')) (hk:L_ P call n ops l ⟨T.put dst v,h'⟩ k):QS P call n ops l dst T k r:=by rw[hr];exact hk
theorem XO.of {r:Option Value} (hr:r=some v) (hk:L_ P call n ops l ⟨T.put dst v,h⟩ k):XO P call n ops l dst T h k r:=by rw[hr];exact hk
end
theorem WK.loop {c:Code} (I:Nat→St→Prop) (N:Nat) (hN:N<n) (h0:I 0 s)
  (hr:∀ i s,i≤N→I i s→WK P call n c s (.inv (fun s'=>i<N∧I (i+1) s') k)):WK P call n (.loop c) s k:=
 WS.loop I N hN h0 fun i s hi hI=>(hr i s hi hI).mono fun e s' he=>by cases e <;> exact he
theorem V7 (t:Nat):Tr.leaf.get t=undef:=rfl
theorem VR {ops:Array Oper} {T:Tr} {o:Oper} (h:o.guard=none):DR ops T o=true:=by simp[DR,h]
theorem VG {T:Tr} {t:Nat}:ev T (.tmp t)=T.get t:=rfl
theorem V1 {T:Tr} {v:Value}:ev T (.const v)=v:=rfl
theorem vP {T:Tr} {g:Nat}:ev T (.global g)=.pointer (some ⟨g,0,none⟩):=rfl
theorem VP {T:Tr} {f:Nat}:ev T (.func f)=.func (.func f) #[] #[]:=rfl
end
theorem max2 {k:IntKind} {x y:Int}:TD [.int k x,.int k y]=some (.int k (if y>x then y else x)):=rfl
theorem min2 {k:IntKind} {x y:Int}:TM [.int k x,.int k y]=some (.int k (if y<x then y else x)):=rfl
def PF:Value→Bool→Bool
 | .bool b,w=>b==w
 | _,_=>false
noncomputable def ZT:Option Tmp→Tr→Bool→Bool
 | some d,T,w=>PF (T.get d) w
 | none,_,_=>false
theorem X2 {ops:Array Oper} {T:Tr} {dst:Option Tmp} {op:Op} {type:TypeId} {pos:String} {after:Array Edge} {j:Nat} {w:Bool}:DR ops T ⟨dst,op,type,pos,after,some (j,w)⟩=ZT ((ops[j]?).bind (·.dst)) T w:=by
 simp only[DR]
 cases (ops[j]?).bind (·.dst) with
 | none=>rfl
 | some d=>simp only[ZT];cases T.get d <;> rfl
theorem WZ {d:Tmp} {T:Tr} {w:Bool}:ZT (some d) T w=PF (T.get d) w:=rfl
theorem jI {w:Bool}:PF undef w=false:=by cases w <;> rfl
theorem XN {b:Bool}:PF (.bool b) true=b:=by simp[PF]
theorem X9 {b:Bool}:PF (.bool b) false = !b:=by simp[PF]
theorem DL {P:Program} {call:AN} {n:Nat} {f:FuncId} {args:List Value} {h h':AA} {fn:Func} {c:Code} {V:Value} (hf:P.funcs[f]?=some fn) (hb:fn.body=some c) (hl:args.length≤fn.ntmps)
  (hw:WK P call n c ⟨IK 0 args .leaf,h⟩ (.top fun e s=>(e=.normal∨e=.ret)∧∃ vs,FZ P s fn.results.toList=some vs∧IM vs=V∧s.h=h')):A7 P call n f args h=some (V,h'):=by
 obtain⟨v,h1,h2,rfl,rfl⟩:=ZX (R:=fun u h''=>u=V∧h''=h') hf hb hl hw
 exact h2
theorem EH {P:Program} {call:AN} {n:Nat} {f:FuncId} {args:List Value} {h:AA} {fn:Func} {c:Code} {V:Value} {R:AA→Prop} (hf:P.funcs[f]?=some fn) (hb:fn.body=some c) (hl:args.length≤fn.ntmps)
  (hw:WK P call n c ⟨IK 0 args .leaf,h⟩ (.top fun e s=>(e=.normal∨e=.ret)∧∃ vs,FZ P s fn.results.toList=some vs∧IM vs=V∧R s.h)):∃ h',A7 P call n f args h=some (V,h')∧R h':=by
 obtain⟨v,h1,h2,rfl,h3⟩:=ZX (R:=fun u h''=>u=V∧R h'') hf hb hl hw
 exact⟨h1,h2,h3⟩
def p7 (P:Program) (ops:Array Oper):Bool:=(List.range ops.size).all fun k=>match ops[k]? with
 | none=>true
 | some o=>match AC o.op with
  | .read _=>!MS ops k
  | .act=>!MQ ops k
  | .store=>(KI ops k).isEmpty
  | .new=>true
  | .pure=>match o.op with
   | .call c=>(match c.argTypes.toList with | [t]=>(match P.underlying t with | some (.map _ _)=>false | some (.array _ _)=>false | _=>true) | _=>true)
   | _=>true
theorem Gn {P:Program} {call:AN} {ops:Array Oper} (hq:p7 P ops=true) {start i:Nat} {o:Oper} (ho:ops[i]?=some o) {s s':St} (h:FN P call ops o s=some s'):OQ P call ops start i o s=some s':=by
 have hlt:i<ops.size:=(Array.getElem?_eq_some_iff.1 ho).1
 have hk:=List.all_eq_true.1 hq i (List.mem_range.2 hlt)
 simp only[ho] at hk
 unfold OQ
 by_cases hw:DR ops s.T o=true
 ·rw [if_pos hw]
  cases hc:AC o.op with
  | read a=>
   rw[hc] at hk
   simp only[Bool.not_eq_true'] at hk
   simp[hk,h]
  | act=>
   rw[hc] at hk
   simp only[Bool.not_eq_true'] at hk
   simp[hk,h]
  | new=>exact h
  | store=>
   rw[hc] at hk
   simp only[List.isEmpty_iff] at hk
   simp only[hk,List.all_nil,if_true]
   split
   ·exact h
   ·exact h
   ·exact h
   ·rename_i h1 h1' h2
    cases hop:o.op with
    | store t a x=>exact absurd hop (h1 t a x)
    | mapUpdate t a k x=>exact absurd hop (h2 t a k x)
    | insert t a k x=>exact absurd hop (h1' t a k x)
    | call c=>
     rw[hop] at hc
     simp only[AC] at hc
     split at hc <;> cases hc
    | _=>rw[hop] at hc;simp[AC] at hc
  | pure=>
   rw[hc] at hk
   simp only at hk ⊢
   cases hop:o.op with
   | call c=>
    simp only[hop] at hk ⊢
    split
    ·rename_i r hargs
     exfalso
     obtain⟨v,h',hs,_⟩:=NU hw h
     rw[hop] at hs hc
     simp only[AC] at hc
     simp only[AO,OK,IB,hargs] at hs
     split at hs
     ·split at hs
      ·rename_i t x h1 h2
       cases h2
       simp only[h1] at hk
       simp only[CX] at hs
       split at hk
       ·cases hk
       ·cases hk
       ·rename_i hne1 hne2
        cases hu:P.underlying t with
        | none=>simp[hu] at hs
        | some d=>cases d <;> (first | (simp[hu] at hs;done) | (exact hne1 _ _ hu) | (exact hne2 _ _ hu))
      ·cases hs
     all_goals first | (simp[TD,TM] at hs;done) | (simp_all;done)
    ·exact h
   | _=>exact h
 ·rw[if_neg hw]
  unfold FN at h
  rw[if_neg hw] at h
  exact h
theorem WK.quiet {P:Program} {call:AN} {n id:Nat} {ops:Array Oper} {s:St} {k:CU} (hq:p7 P ops=true) (h:L_ P call n ops ops.toList s k):WK P call n (.region id ops true) s k:=by
 obtain⟨s',h1,h2⟩:=h
 have key:∀ (l:List Oper) (i:Nat) (s:St),(∀ k,l[k]?=ops[i+k]?)→JO P call ops l s=some s'→∀ start,KR P call ops start i l s=some s':=by
  intro l
  induction l with
  | nil=>intro i s _ h start;exact h
  | cons o l ih=>
   intro i s hl h start
   simp only[JO] at h
   split at h
   ·rename_i s1 h3
    have ho:ops[i]?=some o:=by simpa using (hl 0).symm
    simp only[KR,Gn hq ho h3]
    exact ih (i+1) s1 (fun k=>by have:=hl (k+1);simpa [Nat.add_assoc,Nat.add_comm 1 k] using this) h start
   ·cases h
 exact .draw ⟨s',key _ 0 s (by simp) h1 _,h2⟩
theorem C7 {x:Int} (h1:-9223372036854775808≤x) (h2:x<9223372036854775808):IntKind.i64.wrap x=x:=by
 simp[IntKind.wrap,IntKind.bits,IntKind.signed]
 omega
theorem jP {p q:Prop}:((true=true→p)∧(true=false→q))=p:=by
 apply propext;exact⟨fun h=>h.1 rfl,fun h=>⟨fun _=>h,fun h=>(by cases h)⟩⟩
theorem iG {p q:Prop}:((false=true→p)∧(false=false→q))=q:=by
 apply propext;exact⟨fun h=>h.2 rfl,fun h=>⟨fun h=>(by cases h),fun _=>h⟩⟩
theorem KN {b:Bool}:flat (.bool b)=true:=rfl
theorem WY {k:IntKind} {x:Int}:flat (.int k x)=true:=rfl
theorem j_ {P:Program} {b:Bool}:BA P (Op.unary .not (.bool b))=some (.bool !b):=rfl
theorem r8 {P:Program} {k:IntKind} {x:Int}:BA P (Op.unary .neg (.int k x))=some (.int k (k.wrap (0-x))):=rfl
theorem CE {P:Program} {α β:Type} (m:Sem α) (f:α→Sem β):BA P (m >>= f)=(BA P m).bind fun a=>BA P (f a):=by
 induction m with
 | pure a=>rfl
 | program k ih=>exact ih P
 | mark x k ih=>exact ih
 | _=>rfl
theorem NA {P:Program} {t:TypeId} {d:TypeDesc} (h:P.underlying t=some d):BA P (underlying t)=some d:=by
 show BA P (Sem.bind program _)=_
 simp[program,Sem.bind,BA,h,Pure.pure]
theorem kM {P:Program} {t:TypeId} {a b:Bool} (h:P.underlying t=some .bool):BA P (Op.equal t (.bool a) (.bool b))=some (a==b):=by
 have key:∀ d,BA P (Op.equalIn (d+1) t (.bool a) (.bool b))=some (a==b):=by
  intro d
  rw[Op.equalIn,CE,NA h]
  rfl
 exact key 9999
theorem Ke {P:Program} {t:TypeId} {x y:Operand} {a b:Bool} (h:P.underlying t=some .bool):BU P .eql t x y (.bool a) (.bool b)=some (.bool (a==b)):=by
 have e:BA P (do eqGuard .eql t x y (.bool a) (.bool b);binOp .eql t (.bool a) (.bool b))=some (.bool (a==b)):=by
  show BA P ((do pure (.bool (← Op.equal t (.bool a) (.bool b)))):Sem Value)=_
  rw[CE,kM h]
  rfl
 simp only[BU,KN,Bool.and_self,if_true,e]
theorem UC {P:Program} {t:TypeId} {x y:Operand} {a b:Bool} (h:P.underlying t=some .bool):BU P .neq t x y (.bool a) (.bool b)=some (.bool (a != b)):=by
 have e:BA P (do eqGuard .neq t x y (.bool a) (.bool b);binOp .neq t (.bool a) (.bool b))=some (.bool (a != b)):=by
  show BA P ((do pure (.bool (!(← Op.equal t (.bool a) (.bool b))))):Sem Value)=_
  rw[CE,kM h]
  rfl
 simp only[BU,KN,Bool.and_self,if_true,e]
def XY (h:AA) (v:Value) (l:List Int):Prop:=∃ a c,v=.slice a l.length c∧(∀ b,a=some b→b.spot=none)∧∀ k x,l[k]?=some x→∃ id off cs ty g ro,a=some ⟨id,off,none⟩∧h.get id=.row cs ty g ro∧cs[off+k]?=some (.int .i64 x)
section
variable {P:Program} {h:AA} {v:Value} {l:List Int} {t e:TypeId}
theorem XY.len (hv:XY h v l) (ht:P.underlying t=some (.slice e)):CX P h t v=some (.int .i64 l.length):=by
 obtain⟨a,c,rfl,_,_⟩:=hv
 simp[CX,ht]
theorem XY.idx (hv:XY h v l) (ht:P.underlying t=some (.slice e)) (he:BN P e=some 1) (ha:FM P e=some false) {k:Nat} {x:Int} (hk:l[k]?=some x) {kd:IntKind} :
  ∃ p,CM P t v (.int kd k)=some p∧EL P h e p=some (.int .i64 x):=by
 obtain⟨a,c,rfl,_,hall⟩:=hv
 obtain⟨id,off,cs,ty,g,ro,rfl,hg,hc⟩:=hall k x hk
 have hlt:k<l.length:=(List.getElem?_eq_some_iff.1 hk).1
 refine⟨.pointer (some ⟨id,off+k,none⟩),?_,?_⟩
 ·simp[CM,ht,he,hlt,Addr.add]
 ·simp[EL,hg,ha,hc]
end
def DU (ops:Array Oper):List (Bool × Bool × List Operand):=(List.range ops.size).map fun k=>(MS ops k,MQ ops k,KI ops k)
noncomputable def AF (op:Op) (T:Tr):Bool:=match op with
 | .call c=>(match c.args.toList.map (ev T) with | [.map _]=>false | _=>true)
 | _=>true
def CQ:Op→Operand
 | .store _ a _=>a
 | .mapUpdate _ m _ _=>m
 | .insert _ m _ _=>m
 | _=>.const undef
section
variable (P:Program) (call:AN) (n:Nat) (ops:Array Oper) (start:Nat)
noncomputable def M5 (f:Bool × Bool × List Operand) (o:Oper) (s:St):Option St:=
 if DR ops s.T o then match AC o.op with
  | .read a=>if f.1 && !ahead start (CV (ev s.T a)) then none else FN P call ops o s
  | .act=>if f.2.1 then match FN P call ops o ⟨s.T,s.h.fl (max s.h.floor start)⟩ with
    | some s'=>some ⟨s'.T,s'.h.fl s.h.floor⟩
    | none=>none
   else FN P call ops o s
  | .store=>if f.2.2.all (fun x=>CV (ev s.T x) != CV (ev s.T (CQ o.op))) then FN P call ops o s else none
  | .pure=>if AF o.op s.T then FN P call ops o s else none
  | .new=>FN P call ops o s
 else some ⟨s.T.put o.dst undef,s.h⟩
theorem Fg {i:Nat} {o:Oper} {s s':St} (h:M5 P call ops start (MS ops i,MQ ops i,KI ops i) o s=some s'):OQ P call ops start i o s=some s':=by
 unfold M5 at h
 unfold OQ
 by_cases hw:DR ops s.T o=true
 ·rw [if_pos hw] at h ⊢
  cases hc:AC o.op with
  | read a=>rw[hc] at h;exact h
  | act=>rw[hc] at h;exact h
  | new=>rw[hc] at h;exact h
  | store=>
   rw[hc] at h
   cases hop:o.op with
   | store t a x=>rw[hop] at h;exact h
   | mapUpdate t a k x=>rw[hop] at h;exact h
   | insert t a k x=>rw[hop] at h;exact h
   | call c=>
    rw[hop] at hc
    simp only[AC] at hc
    split at hc <;> cases hc
   | _=>rw[hop] at hc;simp[AC] at hc
  | pure=>
   rw[hc] at h
   simp only at h ⊢
   cases hop:o.op with
   | call c=>
    simp only[hop,AF] at h ⊢
    split
    ·rename_i r hr
     rw[hr] at h
     simp at h
    ·rename_i hne
     split at h
     ·rename_i r hr;exact absurd hr (hne r)
     ·exact h
   | _=>simp only[hop,AF,if_true] at h ⊢;exact h
 ·rw[if_neg hw] at h ⊢
  exact h
noncomputable def RR:List (Bool × Bool × List Operand)→List Oper→St→Option St
 | _,[],s=>some s
 | f :: fs,o :: l,s=>match M5 P call ops start f o s with
  | some s'=>RR fs l s'
  | none=>none
 | [],_ :: _,_=>none
def CO (fs:List (Bool × Bool × List Operand)) (l:List Oper) (s:St) (k:CU):Prop:=∃ s',RR P call ops start fs l s=some s'∧k.ap P call n .normal s'
def OX (fs:List (Bool × Bool × List Operand)) (l:List Oper) (dst:Option Tmp) (T:Tr) (fl:Nat) (k:CU):Option (Value × AA)→Prop
 | some (v,h)=>CO P call n ops start fs l ⟨T.put dst v,h.fl fl⟩ k
 | none=>False
def AE (lr la:Bool) (ls:List Operand) (fs:List (Bool × Bool × List Operand)) (o:Oper) (l:List Oper) (s:St) (k:CU):P7→Prop
 | .read a=>(lr=true→ahead start (CV (ev s.T a))=true)∧OX P call n ops start fs l o.dst s.T s.h.floor k (AO P call s.T s.h o.op)
 | .act=>OX P call n ops start fs l o.dst s.T s.h.floor k (AO P call s.T (if la then s.h.fl (max s.h.floor start) else s.h) o.op)
 | .store=>(ls.all (fun x=>CV (ev s.T x) != CV (ev s.T (CQ o.op)))=true)∧OX P call n ops start fs l o.dst s.T s.h.floor k (AO P call s.T s.h o.op)
 | .pure=>AF o.op s.T=true∧OX P call n ops start fs l o.dst s.T s.h.floor k (AO P call s.T s.h o.op)
 | .new=>OX P call n ops start fs l o.dst s.T s.h.floor k (AO P call s.T s.h o.op)
end
section
variable {P:Program} {call:AN} {n:Nat} {ops:Array Oper} {start:Nat} {fs:List (Bool × Bool × List Operand)} {l:List Oper} {s:St} {k:CU}
theorem HE (h:AA):h.fl h.floor=h:=rfl
theorem CO.cons {lr la:Bool} {ls:List Operand} {o:Oper} (hsn:∀ v h',∀ h:AA,AO P call s.T h o.op=some (v,h')→h'.floor=h.floor)
  (h:if DR ops s.T o then AE P call n ops start lr la ls fs o l s k (AC o.op) else CO P call n ops start fs l ⟨s.T.put o.dst undef,s.h⟩ k):CO P call n ops start ((lr,la,ls) :: fs) (o :: l) s k:=by
 by_cases hw:DR ops s.T o=true
 ·rw [if_pos hw] at h
  have plain:OX P call n ops start fs l o.dst s.T s.h.floor k (AO P call s.T s.h o.op)→∃ s',FN P call ops o s=some s'∧CO P call n ops start fs l s' k:=by
   intro h
   cases hs:AO P call s.T s.h o.op with
   | none=>rw[hs] at h;exact h.elim
   | some r=>
    obtain⟨v,h'⟩:=r
    rw[hs] at h
    have hf:=hsn v h' s.h hs
    refine⟨⟨s.T.put o.dst v,h'⟩,by simp only[FN,hw,if_true,hs],?_⟩
    have e:h'.fl s.h.floor=h':=by rw[← hf];rfl
    have h2:CO P call n ops start fs l ⟨s.T.put o.dst v,h'.fl s.h.floor⟩ k:=h
    rw[e] at h2
    exact h2
  have fin:∀ s',M5 P call ops start (lr,la,ls) o s=some s'→CO P call n ops start fs l s' k→CO P call n ops start ((lr,la,ls) :: fs) (o :: l) s k:=by
   rintro s' h1 ⟨s2,h2,h3⟩
   exact⟨s2,by simp only[RR,h1,h2],h3⟩
  cases hc:AC o.op with
  | read a=>
   rw[hc] at h
   obtain⟨h0,h1⟩:=h
   obtain⟨s',h2,h3⟩:=plain h1
   refine fin s' ?_ h3
   unfold M5
   rw[if_pos hw,hc]
   simp only
   cases lr with
   | false=>simpa using h2
   | true=>rw[h0 rfl];simpa using h2
  | new=>
   rw[hc] at h
   obtain⟨s',h2,h3⟩:=plain h
   refine fin s' ?_ h3
   unfold M5
   rw[if_pos hw,hc]
   exact h2
  | pure=>
   rw[hc] at h
   obtain⟨h0,h1⟩:=h
   obtain⟨s',h2,h3⟩:=plain h1
   refine fin s' ?_ h3
   unfold M5
   rw[if_pos hw,hc]
   simp only[h0,if_true]
   exact h2
  | store=>
   rw[hc] at h
   obtain⟨h0,h1⟩:=h
   obtain⟨s',h2,h3⟩:=plain h1
   refine fin s' ?_ h3
   unfold M5
   rw[if_pos hw,hc]
   simp only[h0,if_true]
   exact h2
  | act=>
   rw[hc] at h
   cases la with
   | false=>
    obtain⟨s',h2,h3⟩:=plain h
    refine fin s' ?_ h3
    unfold M5
    rw[if_pos hw,hc]
    simpa using h2
   | true=>
    have h:OX P call n ops start fs l o.dst s.T s.h.floor k (AO P call s.T (s.h.fl (max s.h.floor start)) o.op):=h
    cases hs:AO P call s.T (s.h.fl (max s.h.floor start)) o.op with
    | none=>rw[hs] at h;exact h.elim
    | some r=>
     obtain⟨v,h'⟩:=r
     rw[hs] at h
     refine fin ⟨s.T.put o.dst v,h'.fl s.h.floor⟩ ?_ h
     unfold M5
     rw[if_pos hw,hc]
     simp only[FN,hw,if_true,hs]
 ·rw[if_neg hw] at h
  obtain⟨s2,h2,h3⟩:=h
  refine⟨s2,?_,h3⟩
  simp only[RR,M5]
  rw[if_neg hw]
  exact h2
theorem XF {dst:Option Tmp} {T:Tr} {fl:Nat} {v:Value} {h:AA}:OX P call n ops start fs l dst T fl k (some (v,h))=CO P call n ops start fs l ⟨T.put dst v,h.fl fl⟩ k:=rfl
theorem WE:CO P call n ops start fs [] s k=k.ap P call n .normal s:=by
 apply propext
 refine⟨fun ⟨s',h1,h2⟩=>?_,fun h=>⟨s,by cases fs <;> rfl,h⟩⟩
 cases fs <;> (cases h1;exact h2)
theorem J7 {h:AA} {a b:Nat}:(h.fl a).fl b=h.fl b:=rfl
theorem UW {h:AA}:h.fl h.floor=h:=rfl
theorem HN {h:AA} {a:Nat}:(h.fl a).floor=a:=rfl
theorem WK.flags {id:Nat} {fs:List (Bool × Bool × List Operand)} (hf:DU ops=fs) (h:CO P call n ops s.h.next fs ops.toList s k):WK P call n (.region id ops true) s k:=by
 obtain⟨s',h1,h2⟩:=h
 refine WS.draw ⟨s',?_,h2⟩
 have key:∀ (l:List Oper) (i:Nat) (s:St) (start:Nat),(∀ k,l[k]?=ops[i+k]?)→i+l.length=ops.size→RR P call ops start (fs.drop i) l s=some s'→KR P call ops start i l s=some s':=by
  intro l
  induction l with
  | nil=>intro i s start _ _ h;cases hd:fs.drop i <;> (rw[hd] at h;exact h)
  | cons o l ih=>
   intro i s start hl hlen h
   have hi:i<ops.size:=by simp at hlen;omega
   have hfi:fs[i]?=some (MS ops i,MQ ops i,KI ops i):=by
    rw[← hf]
    unfold DU
    rw[List.getElem?_map,List.getElem?_range hi]
    rfl
   have hlt:i<fs.length:=(List.getElem?_eq_some_iff.1 hfi).1
   rw[List.drop_eq_getElem_cons hlt] at h
   have he:fs[i]=(MS ops i,MQ ops i,KI ops i):=by
    rw[List.getElem?_eq_getElem hlt] at hfi
    exact Option.some.inj hfi
   rw[he] at h
   simp only[RR] at h
   split at h
   ·rename_i s1 h3
    simp only[KR,Fg P call ops start h3]
    exact ih (i+1) s1 start (fun k=>by have:=hl (k+1);simpa [Nat.add_assoc,Nat.add_comm 1 k] using this) (by simp at hlen;omega) h
   ·cases h
 exact key _ 0 s _ (by simp) (by simp) (by simpa using h1)
end
def QF (r:Nat):Code→Option (Array Oper)
 | .region i ops _=>if i=r then some ops else none
 | .seq a b=>match QF r a with
  | some o=>some o
  | none=>QF r b
 | .cond _ a b=>match QF r a with
  | some o=>some o
  | none=>QF r b
 | .block _ c=>QF r c
 | .loop c=>QF r c
 | _=>none
def DX (fn:Func) (r:Nat):Array Oper:=match fn.body with
 | some c=>(QF r c).getD #[]
 | none=>#[]
def seen (o:Oper):Option Tmp × Op × Option (Nat × Bool):=(o.dst,o.op,o.guard)
section
variable {P:Program} {call:AN} {n:Nat} {ops:Array Oper} {start:Nat} {F:List (Bool × Bool × List Operand)} {s:St} {k:CU}
theorem uU {T:Tr} {o o':Oper} (h:seen o=seen o'):DR ops T o=DR ops T o':=by
 simp only[seen,Prod.mk.injEq] at h
 unfold DR
 rw[h.2.2]
theorem wW {lr la:Bool} {ls:List Operand} {fs:List (Bool × Bool × List Operand)} {o o':Oper} {l:List Oper} {c:P7} (h:seen o=seen o') :
  AE P call n ops start lr la ls fs o l s k c=AE P call n ops start lr la ls fs o' l s k c:=by
 simp only[seen,Prod.mk.injEq] at h
 cases c <;> simp only[AE,h.1,h.2.1]
theorem CO.begin (h:CO P call n ops start (F.drop 0) (ops.toList.drop 0) s k):CO P call n ops start F ops.toList s k:=h
theorem CO.at (i:Nat) (dst:Option Tmp) (op:Op) (g:Option (Nat × Bool)) {lr la:Bool} {ls:List Operand} (hi:(ops[i]?).map seen=some (dst,op,g)) (hf:F[i]?=some (lr,la,ls))
  (hsn:∀ v h',∀ h:AA,AO P call s.T h op=some (v,h')→h'.floor=h.floor)
  (h : if DR ops s.T ⟨dst, op, 0, "", #[], g⟩ then AE P call n ops start lr la ls (F.drop (i + 1)) ⟨dst, op, 0, "", #[], g⟩ (ops.toList.drop (i + 1)) s k (AC op)
   else CO P call n ops start (F.drop (i+1)) (ops.toList.drop (i+1)) ⟨s.T.put dst undef,s.h⟩ k):CO P call n ops start (F.drop i) (ops.toList.drop i) s k:=by
 cases ho:ops[i]? with
 | none=>rw[ho] at hi;cases hi
 | some o=>
  rw[ho] at hi
  have hs : seen o = seen ⟨dst, op, 0, "", #[], g⟩ := by simpa [seen] using hi
  have hop:o.op=op:=congrArg (·.2.1) hs
  have hdst:o.dst=dst:=congrArg (·.1) hs
  have e1:F.drop i=(lr,la,ls) :: F.drop (i+1):=by
   obtain⟨hl,he⟩:=List.getElem?_eq_some_iff.1 hf
   rw[List.drop_eq_getElem_cons hl,he]
  have ho':ops.toList[i]?=some o:=by simpa using ho
  have e2:ops.toList.drop i=o :: ops.toList.drop (i+1):=by
   obtain⟨hl,he⟩:=List.getElem?_eq_some_iff.1 ho'
   rw[List.drop_eq_getElem_cons hl,he]
  rw[e1,e2]
  refine CO.cons (by rw[hop];exact hsn) ?_
  rw[uU hs,wW hs,hop,hdst]
  exact h
theorem CO.done {i:Nat} (hl:ops.toList.drop i=[]) (h:k.ap P call n .normal s):CO P call n ops start (F.drop i) (ops.toList.drop i) s k:=by
 rw[hl,WE]
 exact h
end
end Go.Sx
namespace Go.Proofs.YtdejoodfeljmkaaDoor
open Go Go.Sx
set_option maxRecDepth 100000
set_option linter.unusedSimpArgs false
set_option linter.unusedVariables false
set_option maxHeartbeats 64000000
theorem MT {cs:Array Value}:(Value.agg cs).cells=cs:=rfl
theorem JU {k:IntKind} {x:Int}:one (.int k x)=true:=rfl
theorem RM {x:ByteArray}:one (.string x)=true:=rfl
theorem pU {x:Bool}:one (.bool x)=true:=rfl
theorem BZ {h:AA} {o:BC}:(h.push o).next=h.next+1:=rfl
theorem IV {h:AA} {o:BC}:(h.push o).floor=h.floor:=rfl
theorem JB {h:AA} {o:BC} {i:Nat}:(h.put i o).next=h.next:=rfl
theorem MM {h:AA} {o:BC} {i:Nat}:(h.put i o).floor=h.floor:=rfl
theorem qC {m f:Nat}:(EQ m f).next=m:=rfl
theorem mD {m f:Nat}:(EQ m f).floor=f:=rfl
theorem Q1 {h:AA} {o:BC} {i:Nat}:(h.push o).get i=if i=h.next then o else h.get i:=by
 split
 ·rename_i e;subst e;exact BM
 ·rename_i e;exact OM e
theorem SA {h:AA} {o:BC} {i j:Nat}:(h.put i o).get j=if j=i then (if i<h.next then o else .dead) else h.get j:=by
 by_cases hi:i<h.next
 ·split
  ·rename_i e;subst e;exact B0 rfl hi
  ·rename_i e;exact AX hi (Ne.symm e)
 ·split
  ·rename_i e;subst e;exact I_ (by show h.next≤j;omega)
  ·rename_i e
   by_cases hj:j<h.next
   ·unfold AA.get AA.put
    simp only[hj,if_true]
    rw[D2.get_set,if_neg e]
   ·rw[I_ (by show h.next≤j;omega),I_ (by omega)]
theorem OA {h:AA} {o:BC} {f:Nat}:(h.push o).fl f=(h.fl f).push o:=rfl
theorem PA {h:AA} {o:BC} {i f:Nat}:(h.put i o).fl f=(h.fl f).put i o:=rfl
theorem qB {m f f':Nat}:(EQ m f').fl f=EQ m f:=rfl
theorem E1 {h:AA} {f:Nat}:(h.fl f).next=h.next:=rfl
theorem H_ {h:AA} {f i:Nat}:(h.fl f).get i=h.get i:=rfl
theorem JP {m id off:Nat}:Sx.ahead m (CV (.pointer (some ⟨id,off,none⟩)))=decide (id<m):=rfl
theorem CK {id off n:Nat}:(⟨id,off,none⟩:Addr).add n=⟨id,off+n,none⟩:=by
 unfold Addr.add
 split
 ·rename_i e;subst e;rfl
 ·rfl
def AJ (off:Nat):BC→Option Value
 | .row cs _ _ _=>cs[off]?
 | _=>none
def AW (n off:Nat):BC→Option Value
 | .row cs _ _ _=>match FI cs off n with
  | some l=>some (.agg l.toArray)
  | none=>none
 | _=>none
theorem K8 {P:Program} {t:TypeId} {h:AA} {id off:Nat} (ha:FM P t=some false):EL P h t (.pointer (some ⟨id,off,none⟩))=AJ off (h.get id):=by
 simp only[EL,ha]
 cases h.get id <;> rfl
theorem M3 {P:Program} {t:TypeId} {n:Nat} {h:AA} {id off:Nat} (ha:FM P t=some true) (hs:BN P t=some n):EL P h t (.pointer (some ⟨id,off,none⟩))=AW n off (h.get id):=by
 simp only[EL,ha,hs]
 cases h.get id <;> rfl
theorem Ea:FM Tryd.prog 3=some false:=by kernel_rfl
theorem Jo:FM Tryd.prog 9=some false:=by kernel_rfl
theorem Oj:FM Tryd.prog 4=some false:=by kernel_rfl
theorem Bt:FM Tryd.prog 61=some true:=by kernel_rfl
theorem Ep:FM Tryd.prog 115=some true:=by kernel_rfl
theorem CP:BN Tryd.prog 3=some 1:=by kernel_rfl
theorem M4:BN Tryd.prog 9=some 1:=by kernel_rfl
theorem O4:BN Tryd.prog 4=some 1:=by kernel_rfl
theorem GJ:BN Tryd.prog 61=some 5:=by kernel_rfl
theorem kL:BN Tryd.prog 115=some 5:=by kernel_rfl
theorem FY:DC Tryd.prog 61=some (.agg #[.int .i64 0,.string ByteArray.empty,.int .i64 0,.int .i64 0,.int .i64 0]):=by kernel_rfl
theorem kI:DC Tryd.prog 115=some (.agg #[.bool false,.bool false,.bool false,.int .i64 0,.int .i64 0]):=by kernel_rfl
theorem Fsx {a b c d e:Value}:flat (.agg #[a,b,c,d,e])=(BI a&&(BI b&&(BI c&&(BI d&&(BI e&&true))))):=by simp[flat,Bool.and_assoc]
theorem PR {k:IntKind} {x:Int}:BI (.int k x)=true:=rfl
theorem Eg {x:ByteArray}:BI (.string x)=true:=rfl
theorem zP {x:Bool}:BI (.bool x)=true:=rfl
theorem AV {h:AA} {id off:Nat}:EL Tryd.prog h 3 (.pointer (some ⟨id,off,none⟩))=AJ off (h.get id):=K8 Ea
theorem GQ {h:AA} {id off:Nat}:EL Tryd.prog h 9 (.pointer (some ⟨id,off,none⟩))=AJ off (h.get id):=K8 Jo
theorem FO {h:AA} {id off:Nat}:EL Tryd.prog h 4 (.pointer (some ⟨id,off,none⟩))=AJ off (h.get id):=K8 Oj
theorem IG {h:AA} {id off:Nat}:EL Tryd.prog h 61 (.pointer (some ⟨id,off,none⟩))=AW 5 off (h.get id):=M3 Bt GJ
theorem iN {h:AA} {id off:Nat}:EL Tryd.prog h 115 (.pointer (some ⟨id,off,none⟩))=AW 5 off (h.get id):=M3 Ep kL
theorem JD {a:Value} {l:List Value} {ty:TypeId} {g ro:Bool}:AJ 0 (.row (a :: l) ty g ro)=some a:=rfl
theorem Q2 {a b:Value} {l:List Value} {ty:TypeId} {g ro:Bool}:AJ 1 (.row (a :: b :: l) ty g ro)=some b:=rfl
theorem SX {a b c:Value} {l:List Value} {ty:TypeId} {g ro:Bool}:AJ 2 (.row (a :: b :: c :: l) ty g ro)=some c:=rfl
theorem QY {a b c d:Value} {l:List Value} {ty:TypeId} {g ro:Bool}:AJ 3 (.row (a :: b :: c :: d :: l) ty g ro)=some d:=rfl
theorem i8 {a b c d e:Value} {l:List Value} {ty:TypeId} {g ro:Bool}:AJ 4 (.row (a :: b :: c :: d :: e :: l) ty g ro)=some e:=rfl
theorem lJ {a b c d e:Value} {ty:TypeId} {g ro:Bool}:AW 5 0 (.row [a,b,c,d,e] ty g ro)=some (.agg #[a,b,c,d,e]):=rfl
noncomputable def TS (t:TypeId) (h:AA) (id:Nat) (a b c d e:Value):BC→Option AA
 | .row [_,_,_,_,_] ty g false=>if h.floor≤id∧[a,b,c,d,e].all one=true then some (h.put id (.row [a,b,c,d,e] ty g false)) else A9 Tryd.prog h t (.pointer (some ⟨id,0,none⟩)) (.agg #[a,b,c,d,e])
 | _=>A9 Tryd.prog h t (.pointer (some ⟨id,0,none⟩)) (.agg #[a,b,c,d,e])
theorem k_ {t:TypeId} (ht:BN Tryd.prog t=some 5) {h:AA} {id:Nat} {a b c d e:Value}:A9 Tryd.prog h t (.pointer (some ⟨id,0,none⟩)) (.agg #[a,b,c,d,e])=TS t h id a b c d e (h.get id):=by
 unfold TS
 split
 ·rename_i v w x y z ty g hg
  split
  ·rename_i hc
   have hone:([a,b,c,d,e].all one)=true:=hc.2
   have hl:Go.Sx.lay [v,w,x,y,z] 0 [a,b,c,d,e]=[a,b,c,d,e]:=rfl
   have hcells:(Value.agg #[a,b,c,d,e]).cells=#[a,b,c,d,e]:=rfl
   simp only[A9,hcells,ht,GB,hg]
   have hsz:(some 5:Option Nat)=some (#[a,b,c,d,e]:Array Value).size:=rfl
   rw[if_pos hsz,if_pos (by simp only[List.length_cons,List.length_nil,hone];simp[hc.1])]
   rfl
  ·rfl
 ·rfl
theorem FB {h:AA} {id:Nat} {a b c d e:Value}:A9 Tryd.prog h 61 (.pointer (some ⟨id,0,none⟩)) (.agg #[a,b,c,d,e])=TS 61 h id a b c d e (h.get id):=k_ GJ
theorem iT {h:AA} {id:Nat} {a b c d e:Value}:A9 Tryd.prog h 115 (.pointer (some ⟨id,0,none⟩)) (.agg #[a,b,c,d,e])=TS 115 h id a b c d e (h.get id):=k_ kL
theorem RW {t:TypeId} {h:AA} {id:Nat} {a b c d e v w x y z:Value} {ty:TypeId} {g:Bool}:TS t h id a b c d e (.row [v,w,x,y,z] ty g false) =
  if h.floor≤id∧[a,b,c,d,e].all one=true then some (h.put id (.row [a,b,c,d,e] ty g false)) else A9 Tryd.prog h t (.pointer (some ⟨id,0,none⟩)) (.agg #[a,b,c,d,e]):=rfl
theorem oA {a b c d e:Value}:#[a,b,c,d,e].toList.all one=(one a&&(one b&&(one c&&(one d&&(one e&&true))))):=by simp[Bool.and_assoc]
section
variable {id off:Nat}
theorem CW:BJ Tryd.prog 61 (.pointer (some ⟨id,off,none⟩)) 0=some (.pointer (some ⟨id,off,none⟩)):=by simp[BJ,Tryd.underlying61,CP,CK]
theorem MC:BJ Tryd.prog 61 (.pointer (some ⟨id,off,none⟩)) 1=some (.pointer (some ⟨id,off+1,none⟩)):=by simp[BJ,Tryd.underlying61,M4,CK]
theorem SS:BJ Tryd.prog 61 (.pointer (some ⟨id,off,none⟩)) 2=some (.pointer (some ⟨id,off+2,none⟩)):=by simp[BJ,Tryd.underlying61,CP,CK]
theorem GI:BJ Tryd.prog 61 (.pointer (some ⟨id,off,none⟩)) 3=some (.pointer (some ⟨id,off+3,none⟩)):=by simp[BJ,Tryd.underlying61,CP,CK]
theorem VC:BJ Tryd.prog 61 (.pointer (some ⟨id,off,none⟩)) 4=some (.pointer (some ⟨id,off+4,none⟩)):=by simp[BJ,Tryd.underlying61,CP,CK]
theorem XG:BJ Tryd.prog 115 (.pointer (some ⟨id,off,none⟩)) 0=some (.pointer (some ⟨id,off,none⟩)):=by simp[BJ,Tryd.underlying115,O4,CK]
theorem WA:BJ Tryd.prog 115 (.pointer (some ⟨id,off,none⟩)) 1=some (.pointer (some ⟨id,off+1,none⟩)):=by simp[BJ,Tryd.underlying115,O4,CK]
theorem X3:BJ Tryd.prog 115 (.pointer (some ⟨id,off,none⟩)) 2=some (.pointer (some ⟨id,off+2,none⟩)):=by simp[BJ,Tryd.underlying115,O4,CK]
theorem jD:BJ Tryd.prog 115 (.pointer (some ⟨id,off,none⟩)) 3=some (.pointer (some ⟨id,off+3,none⟩)):=by simp[BJ,Tryd.underlying115,CP,CK]
theorem mR:BJ Tryd.prog 115 (.pointer (some ⟨id,off,none⟩)) 4=some (.pointer (some ⟨id,off+4,none⟩)):=by simp[BJ,Tryd.underlying115,CP,CK]
end
theorem QN (a:ByteArray):(a==a)=true:=by
 cases a with
 | mk d=>show (d==d)=true;simp
theorem nP (a b:ByteArray):(a.toList==b.toList)=(a==b):=by
 rw[ByteArray.toList_eq,ByteArray.toList_eq]
 apply Bool.eq_iff_iff.2
 constructor
 ·intro h
  have h1:a.data.toList=b.data.toList:=by simpa using h
  have h2:a=b:=by
   cases a;cases b
   simp only[ByteArray.mk.injEq]
   exact Array.toList_inj.1 h1
  subst h2
  exact QN a
 ·intro h
  have:=NW h
  subst this
  simp
theorem Ar {P:Program} {t:TypeId} {x y:Operand} {a b:ByteArray}:BU P .eql t x y (.string a) (.string b)=some (.bool (a==b)):=by
 have e:BA P (do eqGuard .eql t x y (.string a) (.string b);binOp .eql t (.string a) (.string b))=some (.bool (a==b)):=by
  rw[CE]
  have g:BA P (eqGuard .eql t x y (.string a) (.string b))=some ():=rfl
  rw[g,← nP]
  simp[binOp,Op.stringOp,Option.bind]
  rfl
 have hf:flat (.string a)=true:=rfl
 have hf2:flat (.string b)=true:=rfl
 simp only[BU,hf,hf2,KN,Bool.and_self,if_true,e]
theorem UU {x y:Operand} {a b:ByteArray}:BU Tryd.prog .eql 9 x y (.string a) (.string b)=some (.bool (a==b)):=Ar
theorem OJ {x y:Operand} {a b:Bool}:BU Tryd.prog .eql 4 x y (.bool a) (.bool b)=some (.bool (a==b)):=Ke Tryd.underlying4
theorem Y8 {x y:Operand} {a b:Bool}:BU Tryd.prog .neq 4 x y (.bool a) (.bool b)=some (.bool (a != b)):=UC Tryd.underlying4
def AZ (r:AB):List Value:=[.int .i64 r.kind,.string r.name,.int .i64 r.ends,.int .i64 r.n,.int .i64 r.kids]
theorem SY {h:AA} {a:Option Addr} {n c:Nat}:CX Tryd.prog h 26 (.slice a n c)=some (.int .i64 n):=by simp[CX,Tryd.underlying26]
def A_ (h:AA) (v:Value) (l:List AB):Prop:=
 ∃ a c,v=.slice a l.length c∧((l=[]∧a=none)∨∃ id off cs ty g ro,a=some ⟨id,off,none⟩∧h.get id=.row cs ty g ro∧id<h.next∧∀ k r,l[k]?=some r→(cs.drop (off+k*5)).take 5=AZ r)
theorem A_.row {h:AA} {v:Value} {l:List AB} (hv:A_ h v l) {k:Nat} {r:AB} (hk:l[k]?=some r) :
  ∃ id p,CM Tryd.prog 26 v (.int .i64 (k:Int))=some (.pointer (some ⟨id,p,none⟩))∧id<h.next∧AJ p (h.get id)=some (.int .i64 r.kind)∧AJ (p+1) (h.get id)=some (.string r.name)∧AJ (p+2) (h.get id)=some (.int .i64 r.ends) ∧
   AJ (p+3) (h.get id)=some (.int .i64 r.n)∧AJ (p+4) (h.get id)=some (.int .i64 r.kids)∧AW 5 p (h.get id)=some (.agg #[.int .i64 r.kind,.string r.name,.int .i64 r.ends,.int .i64 r.n,.int .i64 r.kids]):=by
 obtain⟨a,c,rfl,⟨rfl,_⟩ | ⟨id,off,cs,ty,g,ro,rfl,hg,hid,hc⟩⟩:=hv
 ·simp at hk
 ·have hlt:=(List.getElem?_eq_some_iff.1 hk).1
  have hcut:=hc k r hk
  have hat:∀ j,j<5→cs[off+k*5+j]?=(AZ r)[j]?:=fun j hj=>by
   rw[← hcut,List.getElem?_take_of_lt hj,List.getElem?_drop]
  refine⟨id,off+k*5,?_,hid,?_,?_,?_,?_,?_,?_⟩
  ·simp only[CM,Tryd.underlying26,GJ,CK]
   rw[if_pos (by omega)]
   simp
  ·rw[hg];exact hat 0 (by decide)
  ·rw[hg];exact hat 1 (by decide)
  ·rw[hg];exact hat 2 (by decide)
  ·rw[hg];exact hat 3 (by decide)
  ·rw[hg];exact hat 4 (by decide)
  ·rw[hg]
   simp only[AW,FI,hcut]
   rfl
theorem A_.len {h:AA} {v:Value} {l:List AB} (hv:A_ h v l) {h':AA}:CX Tryd.prog h' 26 v=some (.int .i64 l.length):=by
 obtain⟨a,c,rfl,_⟩:=hv
 exact SY
theorem A_.mono {h h':AA} {v:Value} {l:List AB} (hv:A_ h v l) (hn:h.next≤h'.next) (hg:∀ i,i<h.next→h'.get i=h.get i):A_ h' v l:=by
 obtain⟨a,c,rfl,h1 | ⟨id,off,cs,ty,g,ro,rfl,h1,hid,hc⟩⟩:=hv
 ·exact⟨_,_,rfl,.inl h1⟩
 ·exact⟨_,_,rfl,.inr ⟨id,off,cs,ty,g,ro,rfl,by rw[hg id hid];exact h1,by omega,hc⟩⟩
theorem U2:type_of% (And.intro @IK.eq_1 (And.intro @IK.eq_2 (And.intro @OK.eq_1 (And.intro @IB.eq_1 (And.intro @FZ.eq_1 (And.intro @FZ.eq_2 (And.intro @FZ.eq_3 (And.intro @IM.eq_1 (And.intro @IM.eq_2 (And.intro @AO.eq_1 (And.intro @AO.eq_2 (And.intro @AO.eq_3 (And.intro @AO.eq_4 (And.intro @AO.eq_5 (And.intro @AO.eq_6 (And.intro @AO.eq_7 (And.intro @AO.eq_8 (And.intro @AO.eq_9 (And.intro @AO.eq_10 (And.intro @AO.eq_11 (And.intro @AO.eq_12 (And.intro @AO.eq_13 (And.intro @AO.eq_14 (And.intro @AO.eq_15 (And.intro @AO.eq_16 (And.intro @AO.eq_17 (And.intro @AO.eq_18 (And.intro @AO.eq_19 (And.intro @AO.eq_20 (And.intro @AO.eq_21 (And.intro @AO.eq_22 (And.intro @AO.eq_23 (And.intro @AO.eq_24 (And.intro @AO.eq_25 (And.intro @AO.eq_26 (And.intro @AO.eq_27 @AO.eq_28)))))))))))))))))))))))))))))))))))):=And.intro @IK.eq_1 (And.intro @IK.eq_2 (And.intro @OK.eq_1 (And.intro @IB.eq_1 (And.intro @FZ.eq_1 (And.intro @FZ.eq_2 (And.intro @FZ.eq_3 (And.intro @IM.eq_1 (And.intro @IM.eq_2 (And.intro @AO.eq_1 (And.intro @AO.eq_2 (And.intro @AO.eq_3 (And.intro @AO.eq_4 (And.intro @AO.eq_5 (And.intro @AO.eq_6 (And.intro @AO.eq_7 (And.intro @AO.eq_8 (And.intro @AO.eq_9 (And.intro @AO.eq_10 (And.intro @AO.eq_11 (And.intro @AO.eq_12 (And.intro @AO.eq_13 (And.intro @AO.eq_14 (And.intro @AO.eq_15 (And.intro @AO.eq_16 (And.intro @AO.eq_17 (And.intro @AO.eq_18 (And.intro @AO.eq_19 (And.intro @AO.eq_20 (And.intro @AO.eq_21 (And.intro @AO.eq_22 (And.intro @AO.eq_23 (And.intro @AO.eq_24 (And.intro @AO.eq_25 (And.intro @AO.eq_26 (And.intro @AO.eq_27 @AO.eq_28)))))))))))))))))))))))))))))))))))
theorem S_:type_of% (And.intro U2 (And.intro @ME (And.intro @rA (And.intro @pL (And.intro @l9 (And.intro @iO (And.intro @h_ (And.intro @jB (And.intro @tF (And.intro @gI (And.intro @rC (And.intro @SP (And.intro @rH (And.intro @jZ (And.intro @qH (And.intro @oC (And.intro @tC (And.intro @rK (And.intro @qE (And.intro @pE (And.intro @VR (And.intro @kF (And.intro @nJ (And.intro @nT (And.intro @VG (And.intro @V1 (And.intro @VP (And.intro @Tr.get_put (And.intro @Tr.get_set (And.intro @V7 (And.intro @List.map_cons.{0,0} (And.intro @List.map_nil.{0,0} (And.intro @Option.some.injEq.{0} (And.intro @VE (And.intro @TG (And.intro @TY (And.intro @WH (And.intro @PQ (And.intro @R6 (And.intro @U6 (And.intro @VN (And.intro @mS (And.intro @max2 (And.intro @min2 (And.intro @decide_eq_true_eq (And.intro @decide_eq_false_iff_not (And.intro @beq_iff_eq.{0} (And.intro @true_and (And.intro @and_true (And.intro @or_true (And.intro @true_or (And.intro @exists_eq_left'.{1} (And.intro @Option.map_some.{0,0} (And.intro @Option.map_none.{0,0} (And.intro @X2 (And.intro @Option.bind_some.{0,0} (And.intro @List.nil_append.{0} (And.intro @List.append_nil.{0} (And.intro @List.cons_append.{0} (And.intro @Value.int.injEq (And.intro @WZ (And.intro @List.getElem?_toArray.{0} (And.intro @List.getElem?_cons_succ.{0} (And.intro @List.getElem?_cons_zero.{0} (And.intro @decide_true (And.intro @decide_false (And.intro @beq_self_eq_true.{0} (And.intro @XN (And.intro @X9 (And.intro @Bool.not_true (And.intro @Bool.not_false (And.intro @Bool.false_eq_true (And.intro @if_true.{1} (And.intro @if_false.{1} (And.intro @KN (And.intro @WY (And.intro @j_ (And.intro @r8 (And.intro @false_implies (And.intro @true_implies @jI)))))))))))))))))))))))))))))))))))))))))))))))))))))))))))))))))))))))))))))))):=And.intro U2 (And.intro @ME (And.intro @rA (And.intro @pL (And.intro @l9 (And.intro @iO (And.intro @h_ (And.intro @jB (And.intro @tF (And.intro @gI (And.intro @rC (And.intro @SP (And.intro @rH (And.intro @jZ (And.intro @qH (And.intro @oC (And.intro @tC (And.intro @rK (And.intro @qE (And.intro @pE (And.intro @VR (And.intro @kF (And.intro @nJ (And.intro @nT (And.intro @VG (And.intro @V1 (And.intro @VP (And.intro @Tr.get_put (And.intro @Tr.get_set (And.intro @V7 (And.intro @List.map_cons.{0,0} (And.intro @List.map_nil.{0,0} (And.intro @Option.some.injEq.{0} (And.intro @VE (And.intro @TG (And.intro @TY (And.intro @WH (And.intro @PQ (And.intro @R6 (And.intro @U6 (And.intro @VN (And.intro @mS (And.intro @max2 (And.intro @min2 (And.intro @decide_eq_true_eq (And.intro @decide_eq_false_iff_not (And.intro @beq_iff_eq.{0} (And.intro @true_and (And.intro @and_true (And.intro @or_true (And.intro @true_or (And.intro @exists_eq_left'.{1} (And.intro @Option.map_some.{0,0} (And.intro @Option.map_none.{0,0} (And.intro @X2 (And.intro @Option.bind_some.{0,0} (And.intro @List.nil_append.{0} (And.intro @List.append_nil.{0} (And.intro @List.cons_append.{0} (And.intro @Value.int.injEq (And.intro @WZ (And.intro @List.getElem?_toArray.{0} (And.intro @List.getElem?_cons_succ.{0} (And.intro @List.getElem?_cons_zero.{0} (And.intro @decide_true (And.intro @decide_false (And.intro @beq_self_eq_true.{0} (And.intro @XN (And.intro @X9 (And.intro @Bool.not_true (And.intro @Bool.not_false (And.intro @Bool.false_eq_true (And.intro @if_true.{1} (And.intro @if_false.{1} (And.intro @KN (And.intro @WY (And.intro @j_ (And.intro @r8 (And.intro @false_implies (And.intro @true_implies @jI)))))))))))))))))))))))))))))))))))))))))))))))))))))))))))))))))))))))))))))))
theorem eE:type_of% (And.intro @UP S_):=And.intro @UP S_
theorem eP:type_of% (And.intro @jP @iG):=And.intro @jP @iG
theorem FU:type_of% (And.intro @BZ (And.intro @IV (And.intro @JB (And.intro @MM (And.intro @qC (And.intro @mD (And.intro @AV (And.intro @GQ (And.intro @FO (And.intro @IG (And.intro @iN (And.intro @JD (And.intro @Q2 (And.intro @SX (And.intro @QY (And.intro @i8 (And.intro @lJ (And.intro @iT (And.intro @RW (And.intro @JU (And.intro @RM (And.intro @pU (And.intro @CW (And.intro @MC (And.intro @SS (And.intro @GI (And.intro @VC (And.intro @XG (And.intro @WA (And.intro @X3 (And.intro @jD (And.intro @mR (And.intro @FY (And.intro @kI (And.intro @oA (And.intro @List.all_cons.{0} (And.intro @List.all_nil.{0} (And.intro @Bool.and_self (And.intro @Bool.true_and (And.intro @Bool.and_true (And.intro @Nat.zero_le (And.intro @J7 (And.intro @UW (And.intro @OJ (And.intro @Y8 (And.intro @UU @SY)))))))))))))))))))))))))))))))))))))))))))))):=And.intro @BZ (And.intro @IV (And.intro @JB (And.intro @MM (And.intro @qC (And.intro @mD (And.intro @AV (And.intro @GQ (And.intro @FO (And.intro @IG (And.intro @iN (And.intro @JD (And.intro @Q2 (And.intro @SX (And.intro @QY (And.intro @i8 (And.intro @lJ (And.intro @iT (And.intro @RW (And.intro @JU (And.intro @RM (And.intro @pU (And.intro @CW (And.intro @MC (And.intro @SS (And.intro @GI (And.intro @VC (And.intro @XG (And.intro @WA (And.intro @X3 (And.intro @jD (And.intro @mR (And.intro @FY (And.intro @kI (And.intro @oA (And.intro @List.all_cons.{0} (And.intro @List.all_nil.{0} (And.intro @Bool.and_self (And.intro @Bool.true_and (And.intro @Bool.and_true (And.intro @Nat.zero_le (And.intro @J7 (And.intro @UW (And.intro @OJ (And.intro @Y8 (And.intro @UU @SY)))))))))))))))))))))))))))))))))))))))))))))
theorem rP:type_of% (And.intro @MT (And.intro @Q1 (And.intro @SA (And.intro @FB (And.intro @Fsx FU))))):=And.intro @MT (And.intro @Q1 (And.intro @SA (And.intro @FB (And.intro @Fsx FU))))
theorem rG:type_of% (And.intro U2 (And.intro @Tr.get_set (And.intro @V7 (And.intro @VR (And.intro @X2 (And.intro @WZ (And.intro @XN (And.intro @X9 (And.intro @VG (And.intro @V1 (And.intro @Tr.get_put (And.intro @Option.some.injEq.{0} (And.intro @if_true.{1} (And.intro @if_false.{1} (And.intro @XF (And.intro @Option.map_some.{0,0} (And.intro @Bool.not_true (And.intro @Bool.not_false (And.intro @Bool.false_eq_true (And.intro @true_and @UW)))))))))))))))))))):=And.intro U2 (And.intro @Tr.get_set (And.intro @V7 (And.intro @VR (And.intro @X2 (And.intro @WZ (And.intro @XN (And.intro @X9 (And.intro @VG (And.intro @V1 (And.intro @Tr.get_put (And.intro @Option.some.injEq.{0} (And.intro @if_true.{1} (And.intro @if_false.{1} (And.intro @XF (And.intro @Option.map_some.{0,0} (And.intro @Bool.not_true (And.intro @Bool.not_false (And.intro @Bool.false_eq_true (And.intro @true_and @UW)))))))))))))))))))
theorem CZ:type_of% (And.intro @eq_self.{1} (And.intro @true_implies (And.intro @Option.map_none.{0,0} (And.intro @Option.map_some.{0,0} (And.intro @Nat.zero_add (And.intro @JP (And.intro @decide_true (And.intro @false_implies @forall_const.{1})))))))):=And.intro @eq_self.{1} (And.intro @true_implies (And.intro @Option.map_none.{0,0} (And.intro @Option.map_some.{0,0} (And.intro @Nat.zero_add (And.intro @JP (And.intro @decide_true (And.intro @false_implies @forall_const.{1})))))))
theorem DY:type_of% (And.intro @VP (And.intro @List.nil_append.{0} (And.intro @List.append_nil.{0} (And.intro @List.cons_append.{0} (And.intro @List.map_cons.{0,0} (And.intro @List.map_nil.{0,0} (And.intro @E1 (And.intro @H_ (And.intro @J7 @HN))))))))):=And.intro @VP (And.intro @List.nil_append.{0} (And.intro @List.append_nil.{0} (And.intro @List.cons_append.{0} (And.intro @List.map_cons.{0,0} (And.intro @List.map_nil.{0,0} (And.intro @E1 (And.intro @H_ (And.intro @J7 @HN))))))))
theorem DI:type_of% (And.intro @List.all_cons.{0} (And.intro @List.all_nil.{0} (And.intro @Bool.and_self (And.intro @OA (And.intro @PA (And.intro @IV (And.intro @MM (And.intro @BZ @JB)))))))):=And.intro @List.all_cons.{0} (And.intro @List.all_nil.{0} (And.intro @Bool.and_self (And.intro @OA (And.intro @PA (And.intro @IV (And.intro @MM (And.intro @BZ @JB)))))))
theorem XM:type_of% (And.intro @OA (And.intro @PA (And.intro @IV (And.intro @MM (And.intro @BZ @JB))))):=And.intro @OA (And.intro @PA (And.intro @IV (And.intro @MM (And.intro @BZ @JB))))
theorem EB:type_of% (And.intro @PQ (And.intro @R6 (And.intro @UU (And.intro @OJ (And.intro @TY (And.intro @WH (And.intro @VE (And.intro @TG (And.intro @U6 @VN))))))))):=And.intro @PQ (And.intro @R6 (And.intro @UU (And.intro @OJ (And.intro @TY (And.intro @WH (And.intro @VE (And.intro @TG (And.intro @U6 @VN))))))))
theorem AG {P:Program} {call:AN} {n:Nat} {ops:Array Oper} {start:Nat} {F:List (Bool × Bool × List Operand)} {s:St} {k:CU} (hsn:CD call) (i:Nat) (dst:Option Tmp) (op:Op) (g:Option (Nat × Bool)) {lr la:Bool} {ls:List Operand}
  (h : if DR ops s.T ⟨dst, op, 0, "", #[], g⟩ then AE P call n ops start lr la ls (F.drop (i + 1)) ⟨dst, op, 0, "", #[], g⟩ (ops.toList.drop (i + 1)) s k (AC op)
   else CO P call n ops start (F.drop (i+1)) (ops.toList.drop (i+1)) ⟨s.T.put dst undef,s.h⟩ k)
  (hi:(ops[i]?).map Go.Sx.seen=some (dst,op,g):=by kernel_rfl) (hf:F[i]?=some (lr,la,ls):=by rfl):CO P call n ops start (F.drop i) (ops.toList.drop i) s k:=
 CO.at i dst op g hi hf (fun _ _ _ hs=>(ZM hsn hs).floor) h
theorem EE {P:Program} {call:AN} {n:Nat} {ops:Array Oper} {start:Nat} {fs:List (Bool × Bool × List Operand)} {l:List Oper} {s:St} {k:CU} {lr la:Bool} {ls:List Operand} {o:Oper} (hsn:CD call)
  (h:if DR ops s.T o then AE P call n ops start lr la ls fs o l s k (AC o.op) else CO P call n ops start fs l ⟨s.T.put o.dst undef,s.h⟩ k):CO P call n ops start ((lr,la,ls) :: fs) (o :: l) s k:=CO.cons (fun _ _ _ hs=>(ZM hsn hs).floor) h
theorem D_ {P:Program} {call:AN} {n:Nat} {ops:Array Oper} {start:Nat} {fs:List (Bool × Bool × List Operand)} {s:St} {k:CU} (h:k.ap P call n .normal s):CO P call n ops start fs [] s k:=by rw[WE];exact h
theorem rF:type_of% (And.intro @XF (And.intro @WE (And.intro @JP (And.intro @OA (And.intro @PA (And.intro @qB (And.intro @E1 @H_))))))):=And.intro @XF (And.intro @WE (And.intro @JP (And.intro @OA (And.intro @PA (And.intro @qB (And.intro @E1 @H_))))))
section
variable (h:AA) (a b c d:BC)
theorem R5:let A:=(h.push a).push b
  A.get h.next=a∧A.get (h.next+1)=b∧A.next=h.next+2∧A.floor=h.floor∧∀ i,i<h.next→A.get i=h.get i:=
 ⟨by rw[AQ (by show h.next<h.next+1;omega)];exact BM,BM (h:=h.push a),rfl,rfl,fun i hi=>by rw[AQ (by show i<h.next+1;omega),AQ hi]⟩
theorem UI:let A:=((h.push a).push b).push c
  A.get h.next=a∧A.get (h.next+1)=b∧A.get (h.next+2)=c∧A.next=h.next+3∧A.floor=h.floor∧∀ i,i<h.next→A.get i=h.get i:=by
 obtain⟨p1,p2,p3,p4,p5⟩:=R5 h a b
 exact⟨by rw[AQ (by show h.next<h.next+2;omega)];exact p1,by rw[AQ (by show h.next+1<h.next+2;omega)];exact p2,BM (h:=(h.push a).push b),rfl,rfl,fun i hi=>by rw[AQ (by show i<h.next+2;omega)];exact p5 i hi⟩
theorem Gj:let A:=(((h.push a).push b).push c).push d
  A.get h.next=a∧A.get (h.next+1)=b∧A.get (h.next+2)=c∧A.get (h.next+3)=d∧A.next=h.next+4∧A.floor=h.floor∧∀ i,i<h.next→A.get i=h.get i:=by
 obtain⟨p1,p2,p3,p4,p5,p6⟩:=UI h a b c
 exact⟨by rw[AQ (by show h.next<h.next+3;omega)];exact p1,by rw[AQ (by show h.next+1<h.next+3;omega)];exact p2,by rw[AQ (by show h.next+2<h.next+3;omega)];exact p3,BM (h:=((h.push a).push b).push c),rfl,rfl,fun i hi=>by rw[AQ (by show i<h.next+3;omega)];exact p6 i hi⟩
end
theorem DJ {a n:Nat} (h:a<n):∃ j,n=j+1:=⟨n-1,by omega⟩
theorem ET (i:Nat) (h:i<9223372036854775807):IntKind.i64.wrap ((i:Int)+1)=((i+1:Nat):Int):=C7 (by omega) (by omega)
theorem E3 (l:List Value):(Value.agg l.toArray).cells.toList=l:=rfl
theorem D7:(Value.agg #[.int .i64 0,.int .i64 0]).cells.toList=[.int .i64 0,.int .i64 0]:=rfl
theorem N2:(Value.agg #[.string ByteArray.empty,.slice none 0 0,.slice none 0 0,.slice none 0 0,.slice none 0 0,.slice none 0 0,.slice none 0 0,.int .i64 0]).cells.toList=[.string ByteArray.empty,.slice none 0 0,.slice none 0 0,.slice none 0 0,.slice none 0 0,.slice none 0 0,.slice none 0 0,.int .i64 0]:=rfl
def AL:Bool × Bool × List Operand:=(false,false,[])
def AR:Bool × Bool × List Operand:=(false,true,[])
def EU:Bool × Bool × List Operand:=(true,true,[])
def AH (l:List Operand):Bool × Bool × List Operand:=(false,true,l)
def E9 (l:List Operand):Bool × Bool × List Operand:=(true,true,l)
abbrev Z0:Value:=.slice none 0 0
abbrev CY:List Value:=[.string ByteArray.empty,Z0,Z0,Z0,Z0,Z0,Z0,.int .i64 0]
abbrev FG:List Value:=[.int .i64 0,.string ByteArray.empty,.int .i64 0,.int .i64 0,.int .i64 0]
abbrev qP (a o:Nat):Value:=.pointer (some ⟨a,o,none⟩)
abbrev qS (a n c:Nat):Value:=.slice (some ⟨a,0,none⟩) n c
theorem Nl:Tryd.prog.globals.size≤1:=by
 have:Tryd.prog.globals.size=1:=by kernel_rfl
 omega
noncomputable def O5 (m:Nat) (call:AN):AN:=fun f args h=>
 if args.all NG then match call f args (EQ m 0) with
  | some (v,_)=>if ED v then some (v,h) else none
  | none=>none
 else none
theorem gM {m:Nat} {call:AN} {f:FuncId} {args:List Value} {h h':AA} {v:Value} (hs:O5 m call f args h=some (v,h')) :
  args.all NG=true∧(∃ h1,call f args (EQ m 0)=some (v,h1))∧ED v=true∧h'=h:=by
 unfold O5 at hs
 split at hs
 ·rename_i hc
  split at hs
  ·rename_i v' h1 he
   split at hs
   ·rename_i hf
    cases hs
    exact⟨hc,⟨h1,he⟩,hf,rfl⟩
   ·cases hs
  ·cases hs
 ·cases hs
theorem Ft {m:Nat} {call:AN} {f:FuncId} {args:List Value} {h:AA} {v:Value} (ha:args.all NG=true) (hv:ED v=true) (hc:∃ h1,call f args (EQ m 0)=some (v,h1)) :
  O5 m call f args h=some (v,h):=by
 obtain⟨h1,he⟩:=hc
 unfold O5
 rw[if_pos ha,he]
 simp only[hv,if_true]
theorem Lk {P:Program} {call:AN} (hc:C8 P call) {m:Nat} (hg:P.globals.size≤m):C8 P (O5 m call)∧CD (O5 m call):=by
 refine⟨fun f args h v h' hs=>?_,fun f args h v h' hs=>?_⟩
 ·obtain⟨ha,⟨h1,he⟩,hv,rfl⟩:=gM hs
  obtain⟨hfn,hc2⟩:=hc _ _ _ _ _ he
  refine⟨hfn,fun ρ W ARGS hR hargs=>?_⟩
  have hR0:BV P (B9 ρ m) (EQ m 0) W:=Z1 (fun i hi=>by unfold B9;rw[if_neg (by omega)]) fun g hgl=>by
   rw[IC (by omega)]
   exact hR.glob g hgl
  have hnw:∀ i,¬ wr ((EQ m 0).get i):=fun i hw=>by rw[ML] at hw;exact hw
  refine(hc2 _ W ARGS hR0 (rB ha hargs)).mono fun e W' ⟨V,ρ',he',hN,hv'⟩=>⟨V,ρ,he',(Nx.refl hR).grow (hN.fr.gr hnw),?_⟩
  rw[gQ hv hv']
  exact oX hv
 ·obtain⟨_,_,_,rfl⟩:=gM hs
  exact .refl _
noncomputable def NS (fs:List FuncId) (base:AN) (k:Nat):AN:=GF base (LD fs (O5 1 (A7 Tryd.prog (F5 Tryd.prog base k) k)))
section
variable {fs:List FuncId} {k:Nat} {base:AN} {f:FuncId} {args:List Value} {h:AA} {v:Value} {r:Value × AA}
theorem cO (hb:C8 Tryd.prog base∧CD base):C8 Tryd.prog (NS fs base k)∧CD (NS fs base k):=
 R2 hb (dD (Lk (SE JG (NK JG hb.1 hb.2 k).1 (NK JG hb.1 hb.2 k).2 k).1 Nl))
theorem LS (hb:base f args h=some r):NS fs base k f args h=some r:=US hb
theorem I3 (hb:base f args h=none) (hf:fs.contains f=false):NS fs base k f args h=none:=by unfold NS GF LD;rw[hb,hf];rfl
theorem KS (hb:base f args h=none) (hf:fs.contains f=true) (ha:args.all NG=true) (hv:ED v=true) (hw:∃ h1,A7 Tryd.prog (F5 Tryd.prog base k) k f args (EQ 1 0)=some (v,h1)):NS fs base k f args h=some (v,h):=by
 have e:O5 1 (A7 Tryd.prog (F5 Tryd.prog base k) k) f args h=some (v,h):=Ft ha hv hw
 unfold NS GF LD
 rw[hb,hf,if_pos rfl,e]
end
def JW:List Int:=(List.range 54).map fun (i:Nat)=>(i:Int)+1
theorem YC {k:Int} (h:1≤k∧k≤54):k∈JW:=List.mem_map.2 ⟨(k-1).toNat,by rw[List.mem_range];omega,by omega⟩
noncomputable def NJ (f:FuncId) (mk:Int→List Value) (spec:Int→Value):Bool:=JW.all fun k=>match A7 Tryd.prog (F5 Tryd.prog OP 12) 12 f (mk k) (EQ 1 0) with
 | some (v,_)=>RG v (spec k)
 | none=>false
theorem NC {f:FuncId} {mk:Int→List Value} {spec:Int→Value} (h:NJ f mk spec=true) {k:Int} (hk:1≤k∧k≤54):∃ h1,A7 Tryd.prog (F5 Tryd.prog OP 12) 12 f (mk k) (EQ 1 0)=some (spec k,h1):=by
 have:=List.all_eq_true.1 h k (YC hk)
 split at this
 ·rename_i v h1 he
  rw[U7 this] at he
  exact⟨h1,he⟩
 ·cases this
def C3 (k:Int):Int:=if k=54 then 1 else if k=53 then 2 else if k≥47 then 3 else if k≥45 then 4 else if k≥43 then 5 else if k≥41 then 6 else if k≥27 then 7 else 0
def HP (k:Int):Int:=if [1,11,26,31,32,35,36,37,38,39,40,41,42].contains k then 1 else 0
def BS (k:Int):Int:=if [2,3].contains k then 1 else if k=4 then 2 else if k=5 then 3 else if k=7 then 4 else 0
def EK (k:Int):Int:=if [8,9,16,17,19,20,21,24,26,31,32,35,36,37].contains k then 1 else if [14,28].contains k then 2 else if [15,38].contains k then 3 else if k=22 then 4 else 0
def ID (k:Int):Bool:=decide (k≥8)&&decide (k≤10)
abbrev iv (x:Int):Value:=.int .i64 x
theorem Mb:NJ 61 (fun k=>[iv k]) (fun k=>.agg #[.bool (KP k),.bool (M0 k),.bool (k==27),iv (F6 k),iv (C2 k)])=true:=by kernel_rfl
theorem pG:NJ 88 (fun k=>[iv k]) (fun k=>iv (C3 k))=true:=by kernel_rfl
theorem Of:NJ 86 (fun k=>[iv k]) (fun k=>iv (HP k))=true:=by kernel_rfl
theorem Kr:NJ 48 (fun k=>[iv k]) (fun k=>iv (BS k))=true:=by kernel_rfl
theorem uB:NJ 50 (fun k=>[iv k]) (fun k=>iv (EK k))=true:=by kernel_rfl
theorem xR:NJ 51 (fun k=>[iv k]) (fun k=>.bool (ID k))=true:=by kernel_rfl
theorem Fu:NJ 64 (fun k=>[iv k,iv 0]) (fun k=>iv (BL k 0))=true:=by kernel_rfl
theorem yP:NJ 64 (fun k=>[iv k,iv 1]) (fun k=>iv (BL k 1))=true:=by kernel_rfl
theorem Bi:NJ 64 (fun k=>if k=15 then [iv 1,iv 2] else [iv k,iv 2]) (fun k=>if k=15 then iv (BL 1 2) else iv (BL k 2))=true:=by kernel_rfl
def qM:List Int:=(List.range 256).map fun (i:Nat)=>(i:Int)
theorem Ba {k:Nat} (h:k<256):(k:Int)∈qM:=List.mem_map.2 ⟨k,by rw[List.mem_range];exact h,rfl⟩
noncomputable def YQ (f:FuncId) (spec:Int→Bool):Bool:=qM.all fun k=>match A7 Tryd.prog (F5 Tryd.prog OP 12) 12 f [.int .u8 k] (EQ 1 0) with
 | some (v,_)=>RG v (.bool (spec k))
 | none=>false
theorem jQ {f:FuncId} {spec:Int→Bool} (h:YQ f spec=true) (b:UInt8):∃ h1,A7 Tryd.prog (F5 Tryd.prog OP 12) 12 f [.int .u8 (b.toNat:Int)] (EQ 1 0)=some (.bool (spec (b.toNat:Int)),h1):=by
 have:=List.all_eq_true.1 h _ (Ba (UInt8.toNat_lt b))
 split at this
 ·rename_i v h1 he
  rw[U7 this] at he
  exact⟨h1,he⟩
 ·cases this
def IA (c:Int):Bool:=(decide (c≥97)&&decide (c≤122))||(decide (c≥65)&&decide (c≤90))||c==95
def J0 (c:Int):Bool:=decide (c≥48)&&decide (c≤57)
theorem Lq:YQ 82 IA=true:=by kernel_rfl
theorem Kf:YQ 84 J0=true:=by kernel_rfl
section
variable {call:AN} {n:Nat} {h:AA}
theorem Hv {what kind:Int}:A7 Tryd.prog call n 60 [iv what,iv kind] h=some (.bool (B_ what kind),h):=by
 refine DL Tryd.func60 rfl (by simp[Tryd.f60]) ?_
 have hr:Tryd.f60.results.toList=[.tmp 4]:=rfl
 unfold B_
 by_cases w8:what=8
 ·subst w8;simp only[eE,seval,↓eP,rP,hr]
 have e8:(what==8)=false:=by simpa using w8
 by_cases w0:what=0
 ·subst w0
  cases d1:decide (kind≥2) <;> simp only[eE,seval,↓eP,rP,hr,e8,d1] <;> simp
 have e0:(what==0)=false:=by simpa using w0
 by_cases w1:what=1
 ·subst w1
  cases d1:decide (kind≥8) <;> simp only[eE,seval,↓eP,rP,hr,e8,e0,d1] <;> simp
 have e1:(what==1)=false:=by simpa using w1
 by_cases w2:what=2
 ·subst w2;simp only[eE,seval,↓eP,rP,hr,e8,e0,e1] <;> simp
 have e2:(what==2)=false:=by simpa using w2
 by_cases w3:what=3
 ·subst w3
  cases d1:decide (kind≥11) <;> simp only[eE,seval,↓eP,rP,hr,e8,e0,e1,e2,d1] <;> simp
 have e3:(what==3)=false:=by simpa using w3
 by_cases w4:what=4
 ·subst w4
  cases d1:(kind==11) <;> simp only[eE,seval,↓eP,rP,hr,e8,e0,e1,e2,e3,d1] <;> simp
 have e4:(what==4)=false:=by simpa using w4
 by_cases w5:what=5
 ·subst w5
  cases d1:(kind==25) <;> simp only[eE,seval,↓eP,rP,hr,e8,e0,e1,e2,e3,e4,d1] <;> simp
 have e5:(what==5)=false:=by simpa using w5
 by_cases w6:what=6
 ·subst w6;simp only[eE,seval,↓eP,rP,hr,e8,e0,e1,e2,e3,e4,e5] <;> simp
 have e6:(what==6)=false:=by simpa using w6
 rw[if_neg w8,if_neg w0,if_neg w1,if_neg w2,if_neg w3,if_neg w4,if_neg w5,if_neg w6]
 cases d1:decide (kind≥27) <;> simp only[eE,seval,↓eP,rP,hr,e8,e0,e1,e2,e3,e4,e5,e6,d1] <;> simp
end
def CF:BC:=.row LJ 9 false true
def MY (w:List UInt8):ByteArray:=⟨w.toArray⟩
def LC (s:ByteArray):Bool:=decide (G0.findIdx (fun w=>s==MY w)<41)
theorem RS:G0.length=41:=by decide
def AY (s:ByteArray):Bool:=match s.data.toList with
 | []=>false
 | c :: l=>decide ((c :: l).length≤64)&&IA c.toNat && !LC s&&(c :: l).all fun c=>IA c.toNat||J0 c.toNat
theorem RD {s:ByteArray}:flat (.string s)=true:=rfl
theorem P_ {h:AA} {s:ByteArray}:CX Tryd.prog h 9 (.string s)=some (.int .i64 s.data.toList.length):=by simp[CX,Tryd.underlying9]
theorem kA {s:ByteArray} {i:Nat} {b:UInt8} (hb:s.data.toList[i]?=some b):BA Tryd.prog (Instr.index 9 (.string s) (.int .i64 (i:Int)))=some (.int .u8 (b.toNat:Int)):=by
 have hg:s[i]?=some b:=by
  obtain⟨hl,he⟩:=List.getElem?_eq_some_iff.1 hb
  have hl':i<s.size:=by simpa using hl
  rw[getElem?_pos s i hl']
  congr 1
 unfold Instr.index
 rw[CE]
 have e1:BA Tryd.prog (asIntOf (.int .i64 (i:Int)))=some (.i64,(i:Int)):=rfl
 rw[e1]
 simp only[Option.bind_some]
 rw[CE,NA Tryd.underlying9]
 simp only[Option.bind_some,Int.toNat_natCast]
 rw[if_pos (by omega),hg]
 rfl
theorem Bq {s:ByteArray} {b:UInt8} (hb:s.data.toList[0]?=some b):BA Tryd.prog (Instr.index 9 (.string s) (.int .i64 0))=some (.int .u8 (b.toNat:Int)):=kA (i:=0) hb
theorem sT {s:ByteArray}:(s==⟨#[]⟩)=s.data.toList.isEmpty:=by
 cases s with
 | mk d=>
  show (d == #[])=_
  cases d with
  | mk l=>cases l <;> rfl
section
variable {call:AN} {n:Nat} {h:AA} {s:ByteArray}
def T6 (s:ByteArray):Int:=if G0.findIdx (fun w=>s==MY w)<41 then G0.findIdx (fun w=>s==MY w) else -1
theorem Kh {h:AA} {a:Option Addr} {n c:Nat}:CX Tryd.prog h 31 (.slice a n c)=some (.int .i64 n):=by simp[CX,Tryd.underlying31]
theorem mI {i:Nat} (hi:i<41):CM Tryd.prog 31 (.slice (some ⟨0,0,none⟩) 41 41) (.int .i64 (i:Int))=some (.pointer (some ⟨0,i,none⟩)):=by
 simp only[CM,Tryd.underlying31,M4,CK]
 rw[if_pos (by omega)]
 simp
theorem kC {i:Nat} (hi:i<41):AJ i CF=some (.string (MY (G0[i]'(by rw[RS];exact hi)))):=by
 simp only[CF,AJ,LJ,List.getElem?_map]
 rw[List.getElem?_eq_getElem (by rw[RS];exact hi)]
 rfl
theorem Mo (hg:h.get 0=CF) (hn:41<n):A7 Tryd.prog call n 89 [.slice (some ⟨0,0,none⟩) 41 41,.string s] h=some (iv (T6 s),h):=by
 refine DL Tryd.func89 rfl (by simp[Tryd.f89]) ?_
 have hr:Tryd.f89.results.toList=[.tmp 4]:=rfl
 have hle:G0.findIdx (fun w=>s==MY w)≤41:=by have:=List.findIdx_le_length (xs:=G0) (p:=fun w=>s==MY w);rw[RS] at this;exact this
 simp only[eE,↓reduceIte,Nat.reduceEqDiff,reduceCtorEq,↓eP,rP,Nat.reduceAdd,Nat.reduceLT,hr,Kh]
 refine WK.loop (fun i s'=>s'.h=h∧s'.T.get 0=.slice (some ⟨0,0,none⟩) 41 41∧s'.T.get 1=.string s∧s'.T.get 7=.int .i64 41∧s'.T.get 8=.int .i64 i) (G0.findIdx (fun w=>s==MY w)) (by omega) ?_ ?_
 ·simp only[eE,↓reduceIte,Nat.reduceEqDiff,reduceCtorEq,↓eP,rP,Nat.reduceAdd,Nat.reduceLT]
  exact⟨rfl,rfl⟩
 ·rintro i ⟨T1,h1⟩ hi ⟨rfl,t0,t1,t7,t8⟩
  simp only at t0 t1 t7 t8
  unfold T6
  by_cases hlt:i<G0.findIdx (fun w=>s==MY w)
  ·have hi41:i<41:=by omega
   have c1:decide ((i:Int)<41)=true:=by simp;omega
   have hne:=List.not_of_lt_findIdx hlt
   have w5:IntKind.i64.wrap ((i:Int)+1)=((i+1:Nat):Int):=C7 (by omega) (by omega)
   simp only[eE,seval,↓eP,rP,t0,t1,t7,t8,c1,mI hi41,hg,kC hi41,hne]
   exact⟨hlt,w5⟩
  ·have hie:i=G0.findIdx (fun w=>s==MY w):=by omega
   by_cases h41:i<41
   ·have c1:decide ((i:Int)<41)=true:=by simp;omega
    have heq:(s==MY (G0[i]'(by rw[RS];exact h41)))=true:=by
     have:=List.findIdx_getElem (xs:=G0) (p:=fun w=>s==MY w) (w:=by rw[← hie,RS];exact h41)
     simp only[← hie] at this
     exact this
    rw[← hie,if_pos h41]
    simp only[eE,seval,↓eP,rP,hr,t0,t1,t7,t8,c1,mI h41,hg,kC h41,heq]
   ·have c1:decide ((i:Int)<41)=false:=by simp;omega
    rw[← hie,if_neg h41]
    simp only[eE,seval,↓eP,rP,hr,t0,t1,t7,t8,c1]
theorem vM:decide (T6 s≥0)=LC s:=by
 unfold T6 LC
 split
 ·rename_i h
  rw[decide_eq_true h,decide_eq_true (by omega)]
 ·rename_i h
  rw[decide_eq_false h]
  rfl
theorem zQ (h123:call 89 [.slice (some ⟨0,0,none⟩) 41 41,.string s] h=some (iv (T6 s),h)):A7 Tryd.prog call n 87 [.slice (some ⟨0,0,none⟩) 41 41,.string s] h=some (.bool (LC s),h):=by
 refine DL Tryd.func87 rfl (by simp[Tryd.f87]) ?_
 have hr:Tryd.f87.results.toList=[.tmp 4]:=rfl
 simp only[eE,seval,↓eP,rP,hr,h123,vM]
theorem uT:HL Tryd.prog h 126 (.pointer (some ⟨0,0,none⟩)) none none none=some (.slice (some ⟨0,0,none⟩) 41 41):=by
 simp[HL,Tryd.underlying126,F1,M4,CK]
theorem Jz (h117:call 87 [.slice (some ⟨0,0,none⟩) 41 41,.string s] h=some (.bool (LC s),h)):A7 Tryd.prog call n 83 [.string s] h=some (.bool (LC s),h):=by
 refine DL Tryd.func83 rfl (by simp[Tryd.f83]) ?_
 have hr:Tryd.f83.results.toList=[.tmp 2]:=rfl
 simp only[eE,seval,↓eP,rP,hr,vP,uT,h117]
theorem uC (h105:∀ (b:UInt8) h,call 82 [.int .u8 (b.toNat:Int)] h=some (.bool (IA b.toNat),h)) (h107:∀ (b:UInt8) h,call 84 [.int .u8 (b.toNat:Int)] h=some (.bool (J0 b.toNat),h))
  (h106:call 83 [.string s] h=some (.bool (LC s),h)) (hn:64<n):A7 Tryd.prog call n 62 [.string s] h=some (.bool (AY s),h):=by
 refine DL Tryd.func62 rfl (by simp[Tryd.f62]) ?_
 have hr:Tryd.f62.results.toList=[.tmp 2]:=rfl
 unfold AY
 cases hl:s.data.toList with
 | nil=>
  have e0:(s==⟨#[]⟩)=true:=by rw[sT,hl];rfl
  simp only[eE,seval,↓eP,rP,hr,e0]
 | cons c l=>
  have e0:(s==⟨#[]⟩)=false:=by rw[sT,hl];rfl
  have i0:=Bq (s:=s) (b:=c) (by rw[hl];rfl)
  simp only
  generalize hA:(c :: l).all (fun c=>IA c.toNat||J0 c.toNat)=A
  by_cases hlen:(c :: l).length≤64
  ·have d1:decide (((c :: l).length:Int)>64)=false:=by simp only[decide_eq_false_iff_not];omega
   cases hc:IA c.toNat with
   | false=>simp only[eE,seval,↓eP,rP,hr,e0,P_,hl,d1,RD,i0,h105,hc,Bool.and_false,Bool.false_and]
   | true=>
    cases hw:LC s with
    | true=>simp only[eE,seval,↓eP,rP,hr,e0,P_,hl,d1,RD,i0,h105,hc,h106,hw,Bool.and_false,Bool.false_and]
    | false=>
     simp only[eE,↓reduceIte,Nat.reduceEqDiff,reduceCtorEq,↓eP,rP,Nat.reduceAdd,Nat.reduceLT,hr,e0,P_,hl,d1,RD,i0,h105,hc,h106,hw,decide_eq_true hlen]
     rw[← hl] at *
     generalize hL:s.data.toList=L at *
     refine WK.loop (fun i s'=>s'.h=h∧s'.T.get 0=.string s∧s'.T.get 22=.int .i64 L.length∧s'.T.get 23=.int .i64 i∧(L.take i).all (fun c=>IA c.toNat||J0 c.toNat)=true) L.length (by omega) ?_ ?_
     ·simp only[eE,↓reduceIte,Nat.reduceEqDiff,reduceCtorEq,↓eP,rP,Nat.reduceAdd,Nat.reduceLT]
      exact⟨rfl,rfl⟩
     ·rintro i ⟨T1,h1⟩ hi ⟨rfl,t0,t22,t23,hall⟩
      simp only at t0 t22 t23
      by_cases hlt:i<L.length
      ·have c1:decide ((i:Int)<(L.length:Int))=true:=by simp;omega
       obtain⟨b,hb⟩:∃ b,L[i]?=some b:=⟨_,List.getElem?_eq_getElem hlt⟩
       have ib:=kA (s:=s) (i:=i) (b:=b) (by rw[hL];exact hb)
       have w5:IntKind.i64.wrap ((i:Int)+1)=((i+1:Nat):Int):=C7 (by omega) (by omega)
       have hst:(L.take (i+1)).all (fun c=>IA c.toNat||J0 c.toNat)=((L.take i).all (fun c=>IA c.toNat||J0 c.toNat)&&(IA b.toNat||J0 b.toNat)):=by
        rw[List.take_add_one,hb,List.all_append]
        simp
       have hbad:(IA b.toNat||J0 b.toNat)=false→L.all (fun c=>IA c.toNat||J0 c.toNat)=false:=fun h=>by
        rw[List.all_eq_false]
        exact⟨b,List.mem_of_getElem? hb,by rw[h];simp⟩
       cases q1:IA b.toNat with
       | true=>
        simp only[eE,seval,↓eP,rP,hr,t0,t22,t23,c1,RD,ib,h105,q1]
        exact⟨hlt,w5,by rw[hst,hall,q1];rfl⟩
       | false=>
        cases q2:J0 b.toNat with
        | true=>
         simp only[eE,seval,↓eP,rP,hr,t0,t22,t23,c1,RD,ib,h105,h107,q1,q2]
         exact⟨hlt,w5,by rw[hst,hall,q1,q2];rfl⟩
        | false=>
         simp only[eE,seval,↓eP,rP,hr,t0,t22,t23,c1,RD,ib,h105,h107,q1,q2]
         rw[← hA,hbad (by rw[q1,q2];rfl)]
      ·have c1:decide ((i:Int)<(L.length:Int))=false:=by simp;omega
       rw[List.take_of_length_le (by omega)] at hall
       rw[hall] at hA
       subst hA
       simp only[eE,seval,↓eP,rP,hr,t0,t22,t23,c1]
  ·have d1:decide (((c :: l).length:Int)>64)=true:=by simp only[decide_eq_true_eq];omega
   simp only[eE,seval,↓eP,rP,hr,e0,P_,hl,d1,decide_eq_false hlen,Bool.false_and]
end
section
variable {call:AN} {n:Nat} {h:AA} {s:ByteArray}
end
noncomputable def L0:AN:=NS [61,88,86,48,50,51,999999,999999,999999,
 999999,999999,999999,999999,999999,999999,999999,64,82,84,
 999999,999999,60] OP 12
noncomputable def L1:AN:=NS [85,999999,999999,49,999999,53,999999] L0 12
noncomputable def L2:AN:=M7 [62,999999] L1 2000
theorem Av:C8 Tryd.prog L0∧CD L0:=cO Df
theorem Nk:C8 Tryd.prog L1∧CD L1:=cO Av
theorem p9:C8 Tryd.prog L2∧CD L2:=bF Nk
theorem Iv (b:UInt8) (h:AA):L1 82 [.int .u8 (b.toNat:Int)] h=some (.bool (IA b.toNat),h):=LS (KS rfl rfl rfl rfl (jQ Lq b))
theorem y_ (b:UInt8) (h:AA):L1 84 [.int .u8 (b.toNat:Int)] h=some (.bool (J0 b.toNat),h):=LS (KS rfl rfl rfl rfl (jQ Kf b))
theorem RF (what kind:Int) (h:AA):L1 60 [iv what,iv kind] h=some (.bool (B_ what kind),h):=LS (KS rfl rfl rfl rfl ⟨_,Hv⟩)
theorem V2 {h:AA} (hg:h.get 0=CF) (s:ByteArray):L2 62 [.string s] h=some (.bool (AY s),h):=by
 refine cY rfl rfl rfl ⟨h,uC (fun b h=>HU (Iv b h)) (fun b h=>HU (y_ b h)) ?_ (by decide),fun _ _=>rfl⟩
 rw[V5 (n:=1999) rfl]
 refine Jz ?_
 rw[V5 (n:=1998) rfl]
 refine zQ ?_
 rw[V5 (n:=1997) rfl]
 exact Mo hg (by decide)
noncomputable def a_:Array Oper:=DX Tryd.f46 3
noncomputable def DM:Array Oper:=DX Tryd.f46 4
def Ly:List (Bool × Bool × List Operand):=[EU,EU,EU,EU,AH [.tmp 31],AH [.tmp 31],AH [.tmp 31],AH [.tmp 31],AH [.tmp 31],AH [.tmp 31],E9 [.tmp 31,.tmp 36],E9 [.tmp 31,.tmp 36],AL,AL]
def QI:List (Bool × Bool × List Operand):=[AR,AR,AR,E9 [.tmp 39],E9 [.tmp 39],AL,AL,AL,AL,AL,AL,AL,AL,AL,AL,AL,AL,AL,AL,AL,AL,AL,AL,AL,AL,AL,AL,AL,AL,AL,AL,AL,AL,AL,AL,AL,AL,AL,AL,AL,AL,AL,AL,AL,AL,AL,AL,AL,AL]
theorem qZ:DU a_=Ly:=by kernel_rfl
theorem oJ:DU DM=QI:=by kernel_rfl
theorem J8 {T:Tr} {d t b:Nat} {v:Value} (ht:t<b) (hd:b≤d):(T.put (some d) v).get t=T.get t:=by
 rw[Tr.get_put,if_neg]
 intro e
 have:d=t:=Option.some.inj e
 omega
theorem Ac {T:Tr} {d t b:Nat} {v:Value} (hd:b≤d) (ht:t<b):(T.put (some d) v).get t=T.get t:=by
 rw[Tr.get_put,if_neg]
 intro e
 have:d=t:=Option.some.inj e
 omega
section
variable {call:AN} {n start a b:Nat} {T:Tr} {h:AA} {k:CU} {x:AB} {nm en nu:Bool} {le mo:Int} {ga0 gb0:Bool}
 (hsn:CD call) (t8:T.get 8=qP a 0) (t9:T.get 9=qP b 0) (ga:h.get a=.row [.int .i64 x.kind,.string x.name,.int .i64 x.ends,.int .i64 x.n,.int .i64 x.kids] 61 ga0 false)
 (gb:h.get b=.row [.bool nm,.bool en,.bool nu,.int .i64 le,.int .i64 mo] 115 gb0 false) (hb:(b<start)=True)
include hsn t8 t9 ga gb hb
theorem iZ (h91:∀ h',h'.get 0=h.get 0→call 62 [.string x.name] h'=some (.bool (AY x.name),h'))
  (hk:∀ T',T'.get 54=.bool ((AY x.name==nm)&&(nm||x.name==⟨#[]⟩))→(∀ t:Nat,t<39→T'.get t=T.get t)→CO Tryd.prog call n DM start (QI.drop 16) (DM.toList.drop 16) ⟨T',h⟩ k):CO Tryd.prog call n DM start (QI.drop 0) (DM.toList.drop 0) ⟨T,h⟩ k:=by
 have gd6:(DM[6]?).bind (·.dst)=some 45:=by kernel_rfl
 have gd9:(DM[9]?).bind (·.dst)=some 48:=by kernel_rfl
 have gd15:(DM[15]?).bind (·.dst)=some 54:=by kernel_rfl
 have gd19:(DM[19]?).bind (·.dst)=some 58:=by kernel_rfl
 have gd22:(DM[22]?).bind (·.dst)=some 61:=by kernel_rfl
 have gd29:(DM[29]?).bind (·.dst)=some 68:=by kernel_rfl
 have gd33:(DM[33]?).bind (·.dst)=some 72:=by kernel_rfl
 have gd36:(DM[36]?).bind (·.dst)=some 75:=by kernel_rfl
 have gd41:(DM[41]?).bind (·.dst)=some 80:=by kernel_rfl
 have h91':=fun f=>h91 (h.fl f) rfl
 refine AG hsn 0 (some 39) (.fieldAddr 61 (.tmp 8) 1) none ?_
 simp only[rG,seval,AC,AF,AE,MC,t8]
 refine AG hsn 1 (some 40) (.load 9 (.tmp 39)) none ?_
 simp only[rG,seval,AC,AF,AE,GQ,Q2,JP,false_implies,ga]
 refine AG hsn 2 (some 41) (.call { callee:=.value (.func 62),args:=#[.tmp 40],argTypes:=#[9] }) none ?_
 simp only[rG,seval,AC,AF,AE,DY,h91']
 refine AG hsn 3 (some 42) (.fieldAddr 115 (.tmp 9) 0) none ?_
 simp only[rG,seval,AC,AF,AE,XG,t9]
 refine AG hsn 4 (some 43) (.load 4 (.tmp 42)) none ?_
 simp only[rG,seval,AC,AF,AE,FO,JD,JP,decide_true,forall_const,gb,hb]
 refine AG hsn 5 (some 44) (.binOp .eql 4 (.tmp 41) (.tmp 43) 4) none ?_
 simp only[rG,seval,AC,AF,AE,OJ]
 cases q1:(AY x.name==nm)
 ·skip
  refine AG hsn 6 (some 45) (.move (.tmp 44)) none ?_
  simp only[rG,seval,AC,AF,AE]
  refine AG hsn 7 (some 46) (.fieldAddr 115 (.tmp 9) 0) (some (6,true)) ?_
  simp only[rG,seval,AC,AF,AE,gd6]
  refine AG hsn 8 (some 47) (.load 4 (.tmp 46)) (some (6,true)) ?_
  simp only[rG,seval,AC,AF,AE,gd6]
  refine AG hsn 9 (some 48) (.move (.tmp 47)) (some (6,true)) ?_
  simp only[rG,seval,AC,AF,AE,gd6]
  refine AG hsn 10 (some 49) (.fieldAddr 61 (.tmp 8) 1) (some (9,false)) ?_
  simp only[rG,seval,AC,AF,AE,MC,gd9,t8]
  refine AG hsn 11 (some 50) (.load 9 (.tmp 49)) (some (9,false)) ?_
  simp only[rG,seval,AC,AF,AE,false_implies,gd9]
  refine AG hsn 12 (some 51) (.binOp .eql 9 (.tmp 50) (.const (Value.string { data:=#[] })) 9) (some (9,false)) ?_
  simp only[rG,seval,AC,AF,AE,gd9]
  refine AG hsn 13 (some 52) (.pick (.tmp 48) (.const (Value.bool true)) (.tmp 51)) (some (6,true)) ?_
  simp only[rG,seval,AC,AF,AE,gd6]
  refine AG hsn 14 (some 53) (.pick (.tmp 45) (.tmp 52) (.const (Value.bool false))) none ?_
  simp only[rG,seval,AC,AF,AE]
  refine AG hsn 15 (some 54) (.move (.tmp 53)) none ?_
  simp only[rG,seval,AC,AF,AE]
  refine hk _ ?_ ?_
  ·simp only[Tr.get_put,if_true];first | rfl | simp[*]
  ·intro t ht
   simp only[J8 ht,Nat.reduceLeDiff]
 ·skip
  refine AG hsn 6 (some 45) (.move (.tmp 44)) none ?_
  simp only[rG,seval,AC,AF,AE]
  refine AG hsn 7 (some 46) (.fieldAddr 115 (.tmp 9) 0) (some (6,true)) ?_
  simp only[rG,seval,AC,AF,AE,XG,gd6,t9]
  refine AG hsn 8 (some 47) (.load 4 (.tmp 46)) (some (6,true)) ?_
  simp only[rG,seval,AC,AF,AE,FO,JD,JP,decide_true,false_implies,gd6,gb,hb]
  refine AG hsn 9 (some 48) (.move (.tmp 47)) (some (6,true)) ?_
  simp only[rG,seval,AC,AF,AE,gd6]
  cases nm
  ·skip
   refine AG hsn 10 (some 49) (.fieldAddr 61 (.tmp 8) 1) (some (9,false)) ?_
   simp only[rG,seval,AC,AF,AE,MC,gd9,t8]
   refine AG hsn 11 (some 50) (.load 9 (.tmp 49)) (some (9,false)) ?_
   simp only[rG,seval,AC,AF,AE,GQ,Q2,JP,false_implies,gd9,ga]
   refine AG hsn 12 (some 51) (.binOp .eql 9 (.tmp 50) (.const (Value.string { data:=#[] })) 9) (some (9,false)) ?_
   simp only[rG,seval,AC,AF,AE,UU,gd9]
   cases q3:(x.name==⟨#[]⟩)
   ·skip
    refine AG hsn 13 (some 52) (.pick (.tmp 48) (.const (Value.bool true)) (.tmp 51)) (some (6,true)) ?_
    simp only[rG,seval,AC,AF,AE,gd6]
    refine AG hsn 14 (some 53) (.pick (.tmp 45) (.tmp 52) (.const (Value.bool false))) none ?_
    simp only[rG,seval,AC,AF,AE]
    refine AG hsn 15 (some 54) (.move (.tmp 53)) none ?_
    simp only[rG,seval,AC,AF,AE]
    refine hk _ ?_ ?_
    ·simp only[Tr.get_put,if_true];first | rfl | simp[*]
    ·intro t ht
     simp only[J8 ht,Nat.reduceLeDiff]
   ·skip
    refine AG hsn 13 (some 52) (.pick (.tmp 48) (.const (Value.bool true)) (.tmp 51)) (some (6,true)) ?_
    simp only[rG,seval,AC,AF,AE,gd6]
    refine AG hsn 14 (some 53) (.pick (.tmp 45) (.tmp 52) (.const (Value.bool false))) none ?_
    simp only[rG,seval,AC,AF,AE]
    refine AG hsn 15 (some 54) (.move (.tmp 53)) none ?_
    simp only[rG,seval,AC,AF,AE]
    refine hk _ ?_ ?_
    ·simp only[Tr.get_put,if_true];first | rfl | simp[*]
    ·intro t ht
     simp only[J8 ht,Nat.reduceLeDiff]
  ·skip
   refine AG hsn 10 (some 49) (.fieldAddr 61 (.tmp 8) 1) (some (9,false)) ?_
   simp only[rG,seval,AC,AF,AE,gd9]
   refine AG hsn 11 (some 50) (.load 9 (.tmp 49)) (some (9,false)) ?_
   simp only[rG,seval,AC,AF,AE,gd9]
   refine AG hsn 12 (some 51) (.binOp .eql 9 (.tmp 50) (.const (Value.string { data:=#[] })) 9) (some (9,false)) ?_
   simp only[rG,seval,AC,AF,AE,gd9]
   refine AG hsn 13 (some 52) (.pick (.tmp 48) (.const (Value.bool true)) (.tmp 51)) (some (6,true)) ?_
   simp only[rG,seval,AC,AF,AE,gd6]
   refine AG hsn 14 (some 53) (.pick (.tmp 45) (.tmp 52) (.const (Value.bool false))) none ?_
   simp only[rG,seval,AC,AF,AE]
   refine AG hsn 15 (some 54) (.move (.tmp 53)) none ?_
   simp only[rG,seval,AC,AF,AE]
   refine hk _ ?_ ?_
   ·simp only[Tr.get_put,if_true];first | rfl | simp[*]
   ·intro t ht
    simp only[J8 ht,Nat.reduceLeDiff]
theorem lO {c:Bool} (t54:T.get 54=.bool c)
  (hk:∀ T',T'.get 68=.bool (c&&(x.ends==0||en&&x.ends==1))→(∀ t:Nat,t<55→T'.get t=T.get t)→CO Tryd.prog call n DM start (QI.drop 30) (DM.toList.drop 30) ⟨T',h⟩ k):CO Tryd.prog call n DM start (QI.drop 16) (DM.toList.drop 16) ⟨T,h⟩ k:=by
 have gd6:(DM[6]?).bind (·.dst)=some 45:=by kernel_rfl
 have gd9:(DM[9]?).bind (·.dst)=some 48:=by kernel_rfl
 have gd15:(DM[15]?).bind (·.dst)=some 54:=by kernel_rfl
 have gd19:(DM[19]?).bind (·.dst)=some 58:=by kernel_rfl
 have gd22:(DM[22]?).bind (·.dst)=some 61:=by kernel_rfl
 have gd29:(DM[29]?).bind (·.dst)=some 68:=by kernel_rfl
 have gd33:(DM[33]?).bind (·.dst)=some 72:=by kernel_rfl
 have gd36:(DM[36]?).bind (·.dst)=some 75:=by kernel_rfl
 have gd41:(DM[41]?).bind (·.dst)=some 80:=by kernel_rfl
 cases c
 ·skip
  refine AG hsn 16 (some 55) (.fieldAddr 61 (.tmp 8) 2) (some (15,true)) ?_
  simp only[rG,seval,AC,AF,AE,gd15,t54]
  refine AG hsn 17 (some 56) (.load 3 (.tmp 55)) (some (15,true)) ?_
  simp only[rG,seval,AC,AF,AE,gd15,t54]
  refine AG hsn 18 (some 57) (.binOp .eql 3 (.tmp 56) (.const (Value.int IntKind.i64 0)) 3) (some (15,true)) ?_
  simp only[rG,seval,AC,AF,AE,gd15,t54]
  refine AG hsn 19 (some 58) (.move (.tmp 57)) (some (15,true)) ?_
  simp only[rG,seval,AC,AF,AE,gd15,t54]
  refine AG hsn 20 (some 59) (.fieldAddr 115 (.tmp 9) 1) (some (19,false)) ?_
  simp only[rG,seval,AC,AF,AE,WA,gd19,t9]
  refine AG hsn 21 (some 60) (.load 4 (.tmp 59)) (some (19,false)) ?_
  simp only[rG,seval,AC,AF,AE,false_implies,gd19]
  refine AG hsn 22 (some 61) (.move (.tmp 60)) (some (19,false)) ?_
  simp only[rG,seval,AC,AF,AE,gd19]
  refine AG hsn 23 (some 62) (.fieldAddr 61 (.tmp 8) 2) (some (22,true)) ?_
  simp only[rG,seval,AC,AF,AE,SS,gd22,t8]
  refine AG hsn 24 (some 63) (.load 3 (.tmp 62)) (some (22,true)) ?_
  simp only[rG,seval,AC,AF,AE,false_implies,gd22]
  refine AG hsn 25 (some 64) (.binOp .eql 3 (.tmp 63) (.const (Value.int IntKind.i64 1)) 3) (some (22,true)) ?_
  simp only[rG,seval,AC,AF,AE,gd22]
  refine AG hsn 26 (some 65) (.pick (.tmp 61) (.tmp 64) (.const (Value.bool false))) (some (19,false)) ?_
  simp only[rG,seval,AC,AF,AE,gd19]
  refine AG hsn 27 (some 66) (.pick (.tmp 58) (.const (Value.bool true)) (.tmp 65)) (some (15,true)) ?_
  simp only[rG,seval,AC,AF,AE,gd15,t54]
  refine AG hsn 28 (some 67) (.pick (.tmp 54) (.tmp 66) (.const (Value.bool false))) none ?_
  simp only[rG,seval,AC,AF,AE,t54]
  refine AG hsn 29 (some 68) (.move (.tmp 67)) none ?_
  simp only[rG,seval,AC,AF,AE]
  refine hk _ ?_ ?_
  ·simp only[Tr.get_put,if_true];first | rfl | simp[*]
  ·intro t ht
   simp only[J8 ht,Nat.reduceLeDiff]
 ·skip
  refine AG hsn 16 (some 55) (.fieldAddr 61 (.tmp 8) 2) (some (15,true)) ?_
  simp only[rG,seval,AC,AF,AE,SS,gd15,t8,t54]
  refine AG hsn 17 (some 56) (.load 3 (.tmp 55)) (some (15,true)) ?_
  simp only[rG,seval,AC,AF,AE,AV,SX,JP,false_implies,gd15,ga,t54]
  refine AG hsn 18 (some 57) (.binOp .eql 3 (.tmp 56) (.const (Value.int IntKind.i64 0)) 3) (some (15,true)) ?_
  simp only[rG,seval,AC,AF,AE,PQ,gd15,t54]
  cases q1:(x.ends==0)
  ·skip
   refine AG hsn 19 (some 58) (.move (.tmp 57)) (some (15,true)) ?_
   simp only[rG,seval,AC,AF,AE,gd15,t54]
   refine AG hsn 20 (some 59) (.fieldAddr 115 (.tmp 9) 1) (some (19,false)) ?_
   simp only[rG,seval,AC,AF,AE,WA,gd19,t9]
   refine AG hsn 21 (some 60) (.load 4 (.tmp 59)) (some (19,false)) ?_
   simp only[rG,seval,AC,AF,AE,FO,Q2,JP,decide_true,false_implies,gd19,gb,hb]
   refine AG hsn 22 (some 61) (.move (.tmp 60)) (some (19,false)) ?_
   simp only[rG,seval,AC,AF,AE,gd19]
   cases en
   ·skip
    refine AG hsn 23 (some 62) (.fieldAddr 61 (.tmp 8) 2) (some (22,true)) ?_
    simp only[rG,seval,AC,AF,AE,gd22]
    refine AG hsn 24 (some 63) (.load 3 (.tmp 62)) (some (22,true)) ?_
    simp only[rG,seval,AC,AF,AE,gd22]
    refine AG hsn 25 (some 64) (.binOp .eql 3 (.tmp 63) (.const (Value.int IntKind.i64 1)) 3) (some (22,true)) ?_
    simp only[rG,seval,AC,AF,AE,gd22]
    refine AG hsn 26 (some 65) (.pick (.tmp 61) (.tmp 64) (.const (Value.bool false))) (some (19,false)) ?_
    simp only[rG,seval,AC,AF,AE,gd19]
    refine AG hsn 27 (some 66) (.pick (.tmp 58) (.const (Value.bool true)) (.tmp 65)) (some (15,true)) ?_
    simp only[rG,seval,AC,AF,AE,gd15,t54]
    refine AG hsn 28 (some 67) (.pick (.tmp 54) (.tmp 66) (.const (Value.bool false))) none ?_
    simp only[rG,seval,AC,AF,AE,t54]
    refine AG hsn 29 (some 68) (.move (.tmp 67)) none ?_
    simp only[rG,seval,AC,AF,AE]
    refine hk _ ?_ ?_
    ·simp only[Tr.get_put,if_true];first | rfl | simp[*]
    ·intro t ht
     simp only[J8 ht,Nat.reduceLeDiff]
   ·skip
    refine AG hsn 23 (some 62) (.fieldAddr 61 (.tmp 8) 2) (some (22,true)) ?_
    simp only[rG,seval,AC,AF,AE,SS,gd22,t8]
    refine AG hsn 24 (some 63) (.load 3 (.tmp 62)) (some (22,true)) ?_
    simp only[rG,seval,AC,AF,AE,AV,SX,JP,false_implies,gd22,ga]
    refine AG hsn 25 (some 64) (.binOp .eql 3 (.tmp 63) (.const (Value.int IntKind.i64 1)) 3) (some (22,true)) ?_
    simp only[rG,seval,AC,AF,AE,PQ,gd22]
    cases q3:(x.ends==1)
    ·skip
     refine AG hsn 26 (some 65) (.pick (.tmp 61) (.tmp 64) (.const (Value.bool false))) (some (19,false)) ?_
     simp only[rG,seval,AC,AF,AE,gd19]
     refine AG hsn 27 (some 66) (.pick (.tmp 58) (.const (Value.bool true)) (.tmp 65)) (some (15,true)) ?_
     simp only[rG,seval,AC,AF,AE,gd15,t54]
     refine AG hsn 28 (some 67) (.pick (.tmp 54) (.tmp 66) (.const (Value.bool false))) none ?_
     simp only[rG,seval,AC,AF,AE,t54]
     refine AG hsn 29 (some 68) (.move (.tmp 67)) none ?_
     simp only[rG,seval,AC,AF,AE]
     refine hk _ ?_ ?_
     ·simp only[Tr.get_put,if_true];first | rfl | simp[*]
     ·intro t ht
      simp only[J8 ht,Nat.reduceLeDiff]
    ·skip
     refine AG hsn 26 (some 65) (.pick (.tmp 61) (.tmp 64) (.const (Value.bool false))) (some (19,false)) ?_
     simp only[rG,seval,AC,AF,AE,gd19]
     refine AG hsn 27 (some 66) (.pick (.tmp 58) (.const (Value.bool true)) (.tmp 65)) (some (15,true)) ?_
     simp only[rG,seval,AC,AF,AE,gd15,t54]
     refine AG hsn 28 (some 67) (.pick (.tmp 54) (.tmp 66) (.const (Value.bool false))) none ?_
     simp only[rG,seval,AC,AF,AE,t54]
     refine AG hsn 29 (some 68) (.move (.tmp 67)) none ?_
     simp only[rG,seval,AC,AF,AE]
     refine hk _ ?_ ?_
     ·simp only[Tr.get_put,if_true];first | rfl | simp[*]
     ·intro t ht
      simp only[J8 ht,Nat.reduceLeDiff]
  ·skip
   refine AG hsn 19 (some 58) (.move (.tmp 57)) (some (15,true)) ?_
   simp only[rG,seval,AC,AF,AE,gd15,t54]
   refine AG hsn 20 (some 59) (.fieldAddr 115 (.tmp 9) 1) (some (19,false)) ?_
   simp only[rG,seval,AC,AF,AE,gd19]
   refine AG hsn 21 (some 60) (.load 4 (.tmp 59)) (some (19,false)) ?_
   simp only[rG,seval,AC,AF,AE,gd19]
   refine AG hsn 22 (some 61) (.move (.tmp 60)) (some (19,false)) ?_
   simp only[rG,seval,AC,AF,AE,gd19]
   refine AG hsn 23 (some 62) (.fieldAddr 61 (.tmp 8) 2) (some (22,true)) ?_
   simp only[rG,seval,AC,AF,AE,SS,gd22,t8]
   refine AG hsn 24 (some 63) (.load 3 (.tmp 62)) (some (22,true)) ?_
   simp only[rG,seval,AC,AF,AE,false_implies,gd22]
   refine AG hsn 25 (some 64) (.binOp .eql 3 (.tmp 63) (.const (Value.int IntKind.i64 1)) 3) (some (22,true)) ?_
   simp only[rG,seval,AC,AF,AE,gd22]
   refine AG hsn 26 (some 65) (.pick (.tmp 61) (.tmp 64) (.const (Value.bool false))) (some (19,false)) ?_
   simp only[rG,seval,AC,AF,AE,gd19]
   refine AG hsn 27 (some 66) (.pick (.tmp 58) (.const (Value.bool true)) (.tmp 65)) (some (15,true)) ?_
   simp only[rG,seval,AC,AF,AE,gd15,t54]
   refine AG hsn 28 (some 67) (.pick (.tmp 54) (.tmp 66) (.const (Value.bool false))) none ?_
   simp only[rG,seval,AC,AF,AE,t54]
   refine AG hsn 29 (some 68) (.move (.tmp 67)) none ?_
   simp only[rG,seval,AC,AF,AE]
   refine hk _ ?_ ?_
   ·simp only[Tr.get_put,if_true];first | rfl | simp[*]
   ·intro t ht
    simp only[J8 ht,Nat.reduceLeDiff]
theorem sU {c:Bool} (t68:T.get 68=.bool c)
  (hk:∀ T',T'.get 10=.bool (c&&(x.n==0||nu&&decide (x.n>0)&&decide (x.n≤1073741824)))→(∀ t:Nat,t<10→T'.get t=T.get t)→CO Tryd.prog call n DM start (QI.drop 49) (DM.toList.drop 49) ⟨T',h⟩ k):CO Tryd.prog call n DM start (QI.drop 30) (DM.toList.drop 30) ⟨T,h⟩ k:=by
 have gd6:(DM[6]?).bind (·.dst)=some 45:=by kernel_rfl
 have gd9:(DM[9]?).bind (·.dst)=some 48:=by kernel_rfl
 have gd15:(DM[15]?).bind (·.dst)=some 54:=by kernel_rfl
 have gd19:(DM[19]?).bind (·.dst)=some 58:=by kernel_rfl
 have gd22:(DM[22]?).bind (·.dst)=some 61:=by kernel_rfl
 have gd29:(DM[29]?).bind (·.dst)=some 68:=by kernel_rfl
 have gd33:(DM[33]?).bind (·.dst)=some 72:=by kernel_rfl
 have gd36:(DM[36]?).bind (·.dst)=some 75:=by kernel_rfl
 have gd41:(DM[41]?).bind (·.dst)=some 80:=by kernel_rfl
 cases c
 ·skip
  refine AG hsn 30 (some 69) (.fieldAddr 61 (.tmp 8) 3) (some (29,true)) ?_
  simp only[rG,seval,AC,AF,AE,gd29,t68]
  refine AG hsn 31 (some 70) (.load 3 (.tmp 69)) (some (29,true)) ?_
  simp only[rG,seval,AC,AF,AE,gd29,t68]
  refine AG hsn 32 (some 71) (.binOp .eql 3 (.tmp 70) (.const (Value.int IntKind.i64 0)) 3) (some (29,true)) ?_
  simp only[rG,seval,AC,AF,AE,gd29,t68]
  refine AG hsn 33 (some 72) (.move (.tmp 71)) (some (29,true)) ?_
  simp only[rG,seval,AC,AF,AE,gd29,t68]
  refine AG hsn 34 (some 73) (.fieldAddr 115 (.tmp 9) 2) (some (33,false)) ?_
  simp only[rG,seval,AC,AF,AE,X3,gd33,t9]
  refine AG hsn 35 (some 74) (.load 4 (.tmp 73)) (some (33,false)) ?_
  simp only[rG,seval,AC,AF,AE,false_implies,gd33]
  refine AG hsn 36 (some 75) (.move (.tmp 74)) (some (33,false)) ?_
  simp only[rG,seval,AC,AF,AE,gd33]
  refine AG hsn 37 (some 76) (.fieldAddr 61 (.tmp 8) 3) (some (36,true)) ?_
  simp only[rG,seval,AC,AF,AE,GI,gd36,t8]
  refine AG hsn 38 (some 77) (.load 3 (.tmp 76)) (some (36,true)) ?_
  simp only[rG,seval,AC,AF,AE,false_implies,gd36]
  refine AG hsn 39 (some 78) (.binOp .gtr 3 (.tmp 77) (.const (Value.int IntKind.i64 0)) 3) (some (36,true)) ?_
  simp only[rG,seval,AC,AF,AE,gd36]
  refine AG hsn 40 (some 79) (.pick (.tmp 75) (.tmp 78) (.const (Value.bool false))) (some (33,false)) ?_
  simp only[rG,seval,AC,AF,AE,gd33]
  refine AG hsn 41 (some 80) (.move (.tmp 79)) (some (33,false)) ?_
  simp only[rG,seval,AC,AF,AE,gd33]
  refine AG hsn 42 (some 81) (.fieldAddr 61 (.tmp 8) 3) (some (41,true)) ?_
  simp only[rG,seval,AC,AF,AE,GI,gd41,t8]
  refine AG hsn 43 (some 82) (.load 3 (.tmp 81)) (some (41,true)) ?_
  simp only[rG,seval,AC,AF,AE,false_implies,gd41]
  refine AG hsn 44 (some 83) (.binOp .leq 3 (.tmp 82) (.const (Value.int IntKind.i64 1073741824)) 3) (some (41,true)) ?_
  simp only[rG,seval,AC,AF,AE,gd41]
  refine AG hsn 45 (some 84) (.pick (.tmp 80) (.tmp 83) (.const (Value.bool false))) (some (33,false)) ?_
  simp only[rG,seval,AC,AF,AE,gd33]
  refine AG hsn 46 (some 85) (.pick (.tmp 72) (.const (Value.bool true)) (.tmp 84)) (some (29,true)) ?_
  simp only[rG,seval,AC,AF,AE,gd29,t68]
  refine AG hsn 47 (some 86) (.pick (.tmp 68) (.tmp 85) (.const (Value.bool false))) none ?_
  simp only[rG,seval,AC,AF,AE,t68]
  refine AG hsn 48 (some 10) (.assign (.tmp 86)) none ?_
  simp only[rG,seval,AC,AF,AE]
  refine hk _ ?_ ?_
  ·simp only[Tr.get_put,if_true];first | rfl | simp[*]
  ·intro t ht
   simp only[J8 ht,Nat.reduceLeDiff]
 ·skip
  refine AG hsn 30 (some 69) (.fieldAddr 61 (.tmp 8) 3) (some (29,true)) ?_
  simp only[rG,seval,AC,AF,AE,GI,gd29,t8,t68]
  refine AG hsn 31 (some 70) (.load 3 (.tmp 69)) (some (29,true)) ?_
  simp only[rG,seval,AC,AF,AE,AV,QY,JP,false_implies,gd29,ga,t68]
  refine AG hsn 32 (some 71) (.binOp .eql 3 (.tmp 70) (.const (Value.int IntKind.i64 0)) 3) (some (29,true)) ?_
  simp only[rG,seval,AC,AF,AE,PQ,gd29,t68]
  cases q1:(x.n==0)
  ·skip
   refine AG hsn 33 (some 72) (.move (.tmp 71)) (some (29,true)) ?_
   simp only[rG,seval,AC,AF,AE,gd29,t68]
   refine AG hsn 34 (some 73) (.fieldAddr 115 (.tmp 9) 2) (some (33,false)) ?_
   simp only[rG,seval,AC,AF,AE,X3,gd33,t9]
   refine AG hsn 35 (some 74) (.load 4 (.tmp 73)) (some (33,false)) ?_
   simp only[rG,seval,AC,AF,AE,FO,SX,JP,decide_true,false_implies,gd33,gb,hb]
   refine AG hsn 36 (some 75) (.move (.tmp 74)) (some (33,false)) ?_
   simp only[rG,seval,AC,AF,AE,gd33]
   cases nu
   ·skip
    refine AG hsn 37 (some 76) (.fieldAddr 61 (.tmp 8) 3) (some (36,true)) ?_
    simp only[rG,seval,AC,AF,AE,gd36]
    refine AG hsn 38 (some 77) (.load 3 (.tmp 76)) (some (36,true)) ?_
    simp only[rG,seval,AC,AF,AE,gd36]
    refine AG hsn 39 (some 78) (.binOp .gtr 3 (.tmp 77) (.const (Value.int IntKind.i64 0)) 3) (some (36,true)) ?_
    simp only[rG,seval,AC,AF,AE,gd36]
    refine AG hsn 40 (some 79) (.pick (.tmp 75) (.tmp 78) (.const (Value.bool false))) (some (33,false)) ?_
    simp only[rG,seval,AC,AF,AE,gd33]
    refine AG hsn 41 (some 80) (.move (.tmp 79)) (some (33,false)) ?_
    simp only[rG,seval,AC,AF,AE,gd33]
    refine AG hsn 42 (some 81) (.fieldAddr 61 (.tmp 8) 3) (some (41,true)) ?_
    simp only[rG,seval,AC,AF,AE,gd41]
    refine AG hsn 43 (some 82) (.load 3 (.tmp 81)) (some (41,true)) ?_
    simp only[rG,seval,AC,AF,AE,gd41]
    refine AG hsn 44 (some 83) (.binOp .leq 3 (.tmp 82) (.const (Value.int IntKind.i64 1073741824)) 3) (some (41,true)) ?_
    simp only[rG,seval,AC,AF,AE,gd41]
    refine AG hsn 45 (some 84) (.pick (.tmp 80) (.tmp 83) (.const (Value.bool false))) (some (33,false)) ?_
    simp only[rG,seval,AC,AF,AE,gd33]
    refine AG hsn 46 (some 85) (.pick (.tmp 72) (.const (Value.bool true)) (.tmp 84)) (some (29,true)) ?_
    simp only[rG,seval,AC,AF,AE,gd29,t68]
    refine AG hsn 47 (some 86) (.pick (.tmp 68) (.tmp 85) (.const (Value.bool false))) none ?_
    simp only[rG,seval,AC,AF,AE,t68]
    refine AG hsn 48 (some 10) (.assign (.tmp 86)) none ?_
    simp only[rG,seval,AC,AF,AE]
    refine hk _ ?_ ?_
    ·simp only[Tr.get_put,if_true];first | rfl | simp[*]
    ·intro t ht
     simp only[J8 ht,Nat.reduceLeDiff]
   ·skip
    refine AG hsn 37 (some 76) (.fieldAddr 61 (.tmp 8) 3) (some (36,true)) ?_
    simp only[rG,seval,AC,AF,AE,GI,gd36,t8]
    refine AG hsn 38 (some 77) (.load 3 (.tmp 76)) (some (36,true)) ?_
    simp only[rG,seval,AC,AF,AE,AV,QY,JP,false_implies,gd36,ga]
    refine AG hsn 39 (some 78) (.binOp .gtr 3 (.tmp 77) (.const (Value.int IntKind.i64 0)) 3) (some (36,true)) ?_
    simp only[rG,seval,AC,AF,AE,TY,gd36]
    cases q3:decide (x.n>0)
    ·skip
     refine AG hsn 40 (some 79) (.pick (.tmp 75) (.tmp 78) (.const (Value.bool false))) (some (33,false)) ?_
     simp only[rG,seval,AC,AF,AE,gd33]
     refine AG hsn 41 (some 80) (.move (.tmp 79)) (some (33,false)) ?_
     simp only[rG,seval,AC,AF,AE,gd33]
     refine AG hsn 42 (some 81) (.fieldAddr 61 (.tmp 8) 3) (some (41,true)) ?_
     simp only[rG,seval,AC,AF,AE,gd41]
     refine AG hsn 43 (some 82) (.load 3 (.tmp 81)) (some (41,true)) ?_
     simp only[rG,seval,AC,AF,AE,gd41]
     refine AG hsn 44 (some 83) (.binOp .leq 3 (.tmp 82) (.const (Value.int IntKind.i64 1073741824)) 3) (some (41,true)) ?_
     simp only[rG,seval,AC,AF,AE,gd41]
     refine AG hsn 45 (some 84) (.pick (.tmp 80) (.tmp 83) (.const (Value.bool false))) (some (33,false)) ?_
     simp only[rG,seval,AC,AF,AE,gd33]
     refine AG hsn 46 (some 85) (.pick (.tmp 72) (.const (Value.bool true)) (.tmp 84)) (some (29,true)) ?_
     simp only[rG,seval,AC,AF,AE,gd29,t68]
     refine AG hsn 47 (some 86) (.pick (.tmp 68) (.tmp 85) (.const (Value.bool false))) none ?_
     simp only[rG,seval,AC,AF,AE,t68]
     refine AG hsn 48 (some 10) (.assign (.tmp 86)) none ?_
     simp only[rG,seval,AC,AF,AE]
     refine hk _ ?_ ?_
     ·simp only[Tr.get_put,if_true];first | rfl | simp[*]
     ·intro t ht
      simp only[J8 ht,Nat.reduceLeDiff]
    ·skip
     refine AG hsn 40 (some 79) (.pick (.tmp 75) (.tmp 78) (.const (Value.bool false))) (some (33,false)) ?_
     simp only[rG,seval,AC,AF,AE,gd33]
     refine AG hsn 41 (some 80) (.move (.tmp 79)) (some (33,false)) ?_
     simp only[rG,seval,AC,AF,AE,gd33]
     refine AG hsn 42 (some 81) (.fieldAddr 61 (.tmp 8) 3) (some (41,true)) ?_
     simp only[rG,seval,AC,AF,AE,GI,gd41,t8]
     refine AG hsn 43 (some 82) (.load 3 (.tmp 81)) (some (41,true)) ?_
     simp only[rG,seval,AC,AF,AE,AV,QY,JP,false_implies,gd41,ga]
     refine AG hsn 44 (some 83) (.binOp .leq 3 (.tmp 82) (.const (Value.int IntKind.i64 1073741824)) 3) (some (41,true)) ?_
     simp only[rG,seval,AC,AF,AE,TG,gd41]
     cases q4:decide (x.n≤1073741824)
     ·skip
      refine AG hsn 45 (some 84) (.pick (.tmp 80) (.tmp 83) (.const (Value.bool false))) (some (33,false)) ?_
      simp only[rG,seval,AC,AF,AE,gd33]
      refine AG hsn 46 (some 85) (.pick (.tmp 72) (.const (Value.bool true)) (.tmp 84)) (some (29,true)) ?_
      simp only[rG,seval,AC,AF,AE,gd29,t68]
      refine AG hsn 47 (some 86) (.pick (.tmp 68) (.tmp 85) (.const (Value.bool false))) none ?_
      simp only[rG,seval,AC,AF,AE,t68]
      refine AG hsn 48 (some 10) (.assign (.tmp 86)) none ?_
      simp only[rG,seval,AC,AF,AE]
      refine hk _ ?_ ?_
      ·simp only[Tr.get_put,if_true];first | rfl | simp[*]
      ·intro t ht
       simp only[J8 ht,Nat.reduceLeDiff]
     ·skip
      refine AG hsn 45 (some 84) (.pick (.tmp 80) (.tmp 83) (.const (Value.bool false))) (some (33,false)) ?_
      simp only[rG,seval,AC,AF,AE,gd33]
      refine AG hsn 46 (some 85) (.pick (.tmp 72) (.const (Value.bool true)) (.tmp 84)) (some (29,true)) ?_
      simp only[rG,seval,AC,AF,AE,gd29,t68]
      refine AG hsn 47 (some 86) (.pick (.tmp 68) (.tmp 85) (.const (Value.bool false))) none ?_
      simp only[rG,seval,AC,AF,AE,t68]
      refine AG hsn 48 (some 10) (.assign (.tmp 86)) none ?_
      simp only[rG,seval,AC,AF,AE]
      refine hk _ ?_ ?_
      ·simp only[Tr.get_put,if_true];first | rfl | simp[*]
      ·intro t ht
       simp only[J8 ht,Nat.reduceLeDiff]
  ·skip
   refine AG hsn 33 (some 72) (.move (.tmp 71)) (some (29,true)) ?_
   simp only[rG,seval,AC,AF,AE,gd29,t68]
   refine AG hsn 34 (some 73) (.fieldAddr 115 (.tmp 9) 2) (some (33,false)) ?_
   simp only[rG,seval,AC,AF,AE,gd33]
   refine AG hsn 35 (some 74) (.load 4 (.tmp 73)) (some (33,false)) ?_
   simp only[rG,seval,AC,AF,AE,gd33]
   refine AG hsn 36 (some 75) (.move (.tmp 74)) (some (33,false)) ?_
   simp only[rG,seval,AC,AF,AE,gd33]
   refine AG hsn 37 (some 76) (.fieldAddr 61 (.tmp 8) 3) (some (36,true)) ?_
   simp only[rG,seval,AC,AF,AE,GI,gd36,t8]
   refine AG hsn 38 (some 77) (.load 3 (.tmp 76)) (some (36,true)) ?_
   simp only[rG,seval,AC,AF,AE,false_implies,gd36]
   refine AG hsn 39 (some 78) (.binOp .gtr 3 (.tmp 77) (.const (Value.int IntKind.i64 0)) 3) (some (36,true)) ?_
   simp only[rG,seval,AC,AF,AE,gd36]
   refine AG hsn 40 (some 79) (.pick (.tmp 75) (.tmp 78) (.const (Value.bool false))) (some (33,false)) ?_
   simp only[rG,seval,AC,AF,AE,gd33]
   refine AG hsn 41 (some 80) (.move (.tmp 79)) (some (33,false)) ?_
   simp only[rG,seval,AC,AF,AE,gd33]
   refine AG hsn 42 (some 81) (.fieldAddr 61 (.tmp 8) 3) (some (41,true)) ?_
   simp only[rG,seval,AC,AF,AE,GI,gd41,t8]
   refine AG hsn 43 (some 82) (.load 3 (.tmp 81)) (some (41,true)) ?_
   simp only[rG,seval,AC,AF,AE,false_implies,gd41]
   refine AG hsn 44 (some 83) (.binOp .leq 3 (.tmp 82) (.const (Value.int IntKind.i64 1073741824)) 3) (some (41,true)) ?_
   simp only[rG,seval,AC,AF,AE,gd41]
   refine AG hsn 45 (some 84) (.pick (.tmp 80) (.tmp 83) (.const (Value.bool false))) (some (33,false)) ?_
   simp only[rG,seval,AC,AF,AE,gd33]
   refine AG hsn 46 (some 85) (.pick (.tmp 72) (.const (Value.bool true)) (.tmp 84)) (some (29,true)) ?_
   simp only[rG,seval,AC,AF,AE,gd29,t68]
   refine AG hsn 47 (some 86) (.pick (.tmp 68) (.tmp 85) (.const (Value.bool false))) none ?_
   simp only[rG,seval,AC,AF,AE,t68]
   refine AG hsn 48 (some 10) (.assign (.tmp 86)) none ?_
   simp only[rG,seval,AC,AF,AE]
   refine hk _ ?_ ?_
   ·simp only[Tr.get_put,if_true];first | rfl | simp[*]
   ·intro t ht
    simp only[J8 ht,Nat.reduceLeDiff]
end
def rt:Code→Code
 | .seq _ b=>b
 | c=>c
def lf:Code→Code
 | .seq a _=>a
 | c=>c
noncomputable def Q8:Code:=rt (rt (rt (Tryd.f46.body.getD .skip)))
theorem Fw {what k:Int} (hw:what≠8) (h:B_ what k=true):k≠1:=by
 intro e
 subst e
 unfold B_ at h
 rw[if_neg hw] at h
 (repeat' split at h) <;> simp at h
theorem vE {k:Int} {j:Nat}:BL k j≠8:=W9.2
theorem QJ (k:Int):0≤F6 k:=by unfold F6;(repeat' split) <;> omega
section
variable {call:AN} {n:Nat}
structure qU (call:AN) (l:List AB) (v:Value) (m at_:Nat):Prop where
 asked:∀ (k:Int) (j:Nat) h,1≤k∧k≤54→(k=11∨(j:Int)<C2 k)→call 64 [iv k,iv j] h=some (iv (BL k j),h)
 row:∀ (p:Nat) (w:Int) h,at_<p→p≤l.length→w≠8→A_ h v l→h.get 0=CF→0<h.next→h.floor≤h.next→call 46 [v,iv p,iv w] h=some (.tuple #[iv ((BK AY l m p w).1:Int),.bool (BK AY l m p w).2],h)
theorem Cl (hsn:CD call) {l:List AB} {v:Value} {m at_ a b:Nat} {x:AB} {T:Tr} {h:AA} {k:CU} {ga0 gb0:Bool} (hc:qU call l v m at_) (hn:l.length+3<n) (hlen:l.length<30000000000000) (hat:at_<l.length)
  (h91:∀ h',h'.get 0=CF→call 62 [.string x.name] h'=some (.bool (AY x.name),h'))
  (hv:A_ h v l) (hg:h.get 0=CF) (hn0:0<h.next) (hfl:h.floor≤h.next) (hkind:1≤x.kind∧x.kind≤54) (hk1:x.kind≠1)
  (t0:T.get 0=v) (t1:T.get 1=iv at_) (t8:T.get 8=qP a 0) (t9:T.get 9=qP b 0)
  (ga:h.get a=.row [.int .i64 x.kind,.string x.name,.int .i64 x.ends,.int .i64 x.n,.int .i64 x.kids] 61 ga0 false)
  (gb:h.get b=.row [.bool (KP x.kind),.bool (M0 x.kind),.bool (x.kind==27),.int .i64 (F6 x.kind),.int .i64 (C2 x.kind)] 115 gb0 false) (hb:b<h.next)
  (hk:∀ T' (p:Nat) ok,(p,ok)=(if DK AY x=true then EJ (fun k next=>BK AY l m next (BL x.kind k)) x.kids.toNat 0 (at_+1) else (at_,false))→T'.get 6=iv p→T'.get 7=.bool ok→k.ap Tryd.prog call n .ret ⟨T',h⟩) :
  WK Tryd.prog call n Q8 ⟨T,h⟩ k:=by
 show WK _ _ _ (.seq (.region _ _ true) _) _ _
 rw[ME]
 refine WK.flags (ops:=DM) oJ ?_
 refine CO.begin ?_
 refine iZ hsn t8 t9 ga gb (by simpa using hb) (fun h' e=>h91 h' (by rw[e];exact hg)) fun T1 e1 k1=>?_
 refine lO hsn (by rw[k1 8 (by decide)];exact t8) (by rw[k1 9 (by decide)];exact t9) ga gb (by simpa using hb) e1 fun T2 e2 k2=>?_
 refine sU hsn (by rw[k2 8 (by decide),k1 8 (by decide)];exact t8) (by rw[k2 9 (by decide),k1 9 (by decide)];exact t9) ga gb (by simpa using hb) e2 fun T3 e3 k3=>?_
 refine CO.done (i:=49) (by kernel_rfl) ?_
 rw[SP]
 have kp:∀ t:Nat,t<10→T3.get t=T.get t:=fun t ht=>by rw[k3 t ht,k2 t (by omega),k1 t (by omega)]
 have u0:=(kp 0 (by decide)).trans t0
 have u1:=(kp 1 (by decide)).trans t1
 have u8:=(kp 8 (by decide)).trans t8
 have u9:=(kp 9 (by decide)).trans t9
 clear k1 k2 k3 kp e1 e2
 generalize hcc:(((AY x.name==KP x.kind)&&(KP x.kind||x.name==⟨#[]⟩))&&(x.ends==0||M0 x.kind&&x.ends==1)&&(x.n==0||(x.kind==27)&&decide (x.n>0)&&decide (x.n≤1073741824)))=cc at e3
 have hfit:DK AY x=(cc&&decide (x.kids≥F6 x.kind)&&(decide (C2 x.kind<0)||decide (x.kids≤C2 x.kind))):=by
  rw[← hcc]
  rfl
 have bad:DK AY x=false→∀ T',T'.get 6=iv at_→T'.get 7=.bool false→k.ap Tryd.prog call n .ret ⟨T',h⟩:=fun hf T' h6 h7=>hk T' at_ false (by rw[hf];rfl) h6 h7
 have e1:(x.kind==1)=false:=by simpa using hk1
 have hkids:DK AY x=true→0≤x.kids∧(decide (C2 x.kind<0)||decide (x.kids≤C2 x.kind))=true:=fun hf=>by
  rw[hfit] at hf
  simp only[Bool.and_eq_true,decide_eq_true_eq] at hf
  have:=QJ x.kind
  exact⟨by omega,hf.2⟩
 have main:DK AY x=true→∀ T',T'.get 0=v→T'.get 1=iv at_→T'.get 8=qP a 0→WK Tryd.prog call n (rt (rt Q8)) ⟨T',h⟩ k:=by
  intro hf T' w0 w1 w8
  obtain⟨hk0,hkm⟩:=hkids hf
  have hkN:((x.kids.toNat:Nat):Int)=x.kids:=by omega
  have wat:=ET at_ (by omega)
  show WK _ _ _ (.seq _ _) _ _
  simp only[eE,seval,↓eP,rP,w1,w8,ga,e1]
  have res:∀ (p:Nat) ok,EJ (fun k next=>BK AY l m next (BL x.kind k)) x.kids.toNat 0 (at_+1)=(p,ok)→∀ T',T'.get 6=iv p→T'.get 7=.bool ok→k.ap Tryd.prog call n .ret ⟨T',h⟩:=fun p ok e T' h6 h7=>hk T' p ok (by rw[if_pos hf,e]) h6 h7
  generalize hg0:EJ (fun k next=>BK AY l m next (BL x.kind k)) x.kids.toNat 0 (at_+1)=R at res
  refine WK.loop (fun i s=>s.h=h∧s.T.get 0=v∧s.T.get 8=qP a 0∧s.T.get 13=iv i∧∃ p:Nat,∃ ok:Bool,s.T.get 11=iv p∧s.T.get 12=.bool ok∧p≤l.length∧i≤l.length+1 ∧
   ((ok=true∧i≤x.kids.toNat∧at_+1+i≤p∧EJ (fun k next=>BK AY l m next (BL x.kind k)) (x.kids.toNat-i) i p=R)∨(ok=false∧R=(p,false)))) (l.length+2) (by omega) ?_ ?_
  ·simp only[eE,↓reduceIte,Nat.reduceEqDiff,reduceCtorEq,↓eP,rP,Nat.reduceAdd,Nat.reduceLT,w0,w8]
   exact⟨rfl,at_+1,true,wat,rfl,by omega,.inl ⟨rfl,by omega,by rw[Nat.sub_zero];exact hg0⟩⟩
  ·rintro i ⟨T1,h1⟩ hi ⟨rfl,y0,y8,y13,p,ok,y11,y12,hp,hil,hcase⟩
   simp only at y0 y8 y13 y11 y12
   rcases hcase with⟨rfl,hik,hpi,hR⟩ | ⟨rfl,hR⟩
   ·by_cases hlt:i<x.kids.toNat
    ·have c1:decide ((i:Int)<x.kids)=true:=by simp only[decide_eq_true_eq];omega
     have hask:=fun hh=>hc.asked x.kind i hh hkind (by
      simp only[Bool.or_eq_true,decide_eq_true_eq] at hkm
      rcases hkm with h | h
      ·left
       unfold C2 at h
       (repeat' split at h) <;> simp_all
      ·right;omega)
     have hrow:=fun hv' hg'=>hc.row p (BL x.kind i) h1 (by omega) hp vE hv' hg' hn0 hfl
     have hrow':=hrow hv hg
     have w5:=ET i (by omega)
     generalize hq:BK AY l m p (BL x.kind i)=q at hrow'
     have hstep:EJ (fun k next=>BK AY l m next (BL x.kind k)) (x.kids.toNat-i) i p=if q.2=true then EJ (fun k next=>BK AY l m next (BL x.kind k)) (x.kids.toNat-(i+1)) (i+1) q.1 else (q.1,false):=by
      obtain⟨r,hr⟩:∃ r,x.kids.toNat-i=r+1:=⟨x.kids.toNat-i-1,by omega⟩
      rw[hr,show x.kids.toNat-(i+1)=r by omega]
      simp only[EJ,hq]
     have hq1:q.1≤l.length:=by rw[← hq];exact X4 m p _ hp
     have hq2:q.2=true→p<q.1:=fun h=>by
      have:=SK (isName:=AY) (l:=l) m p (BL x.kind i)
      rw[hq] at this
      exact(this h).1
     simp only[eE,seval,↓eP,rP,y0,y8,y13,y11,y12,ga,c1,hask,hrow']
     refine⟨by omega,w5,q.1,q.2,rfl,rfl,hq1,by omega,?_⟩
     cases hb2:q.2 with
     | true=>
      left
      have:=hq2 hb2
      rw[hb2,if_pos rfl] at hstep
      exact⟨rfl,by omega,by omega,by rw[← hstep];exact hR⟩
     | false=>
      right
      rw[hb2,if_neg (by simp)] at hstep
      exact⟨rfl,by rw[← hR,hstep]⟩
    ·have c1:decide ((i:Int)<x.kids)=false:=by simp only[decide_eq_false_iff_not];omega
     have hie:x.kids.toNat-i=0:=by omega
     rw[hie] at hR
     simp only[eE,seval,↓eP,rP,y8,y13,y11,y12,ga,c1]
     refine res p true (by rw[← hR];rfl) _ ?_ ?_
     ·simp only[eE,seval,↓eP,rP]
     ·simp only[eE,seval,↓eP,rP]
   ·cases c1:decide ((i:Int)<x.kids) with
    | true=>
     simp only[eE,seval,↓eP,rP,y8,y13,y11,y12,ga,c1]
     refine res p false hR _ ?_ ?_
     ·simp only[eE,seval,↓eP,rP]
     ·simp only[eE,seval,↓eP,rP]
    | false=>
     simp only[eE,seval,↓eP,rP,y8,y13,y11,y12,ga,c1]
     refine res p false hR _ ?_ ?_
     ·simp only[eE,seval,↓eP,rP]
     ·simp only[eE,seval,↓eP,rP]
 show WK _ _ _ (.seq _ (rt (rt Q8))) _ _
 cases cc with
 | false=>
  simp only[eE,seval,↓eP,rP,e3,u1]
  refine bad (by rw[hfit];rfl) _ ?_ ?_
  ·simp only[eE,seval,↓eP,rP]
  ·simp only[eE,seval,↓eP,rP]
 | true=>
  cases d1:decide (x.kids<F6 x.kind) with
  | true=>
   simp only[eE,seval,↓eP,rP,e3,u1,u8,u9,ga,gb,d1]
   refine bad (by rw[hfit,decide_eq_false (by simp only[decide_eq_true_eq] at d1;omega)];rfl) _ ?_ ?_
   ·simp only[eE,seval,↓eP,rP]
   ·simp only[eE,seval,↓eP,rP]
  | false=>
   have hl:decide (x.kids≥F6 x.kind)=true:=by simp only[decide_eq_false_iff_not] at d1;simp only[decide_eq_true_eq];omega
   cases d2:decide (C2 x.kind≥0) with
   | false=>
    have hm:decide (C2 x.kind<0)=true:=by simp only[decide_eq_false_iff_not] at d2;simp only[decide_eq_true_eq];omega
    simp only[eE,seval,↓eP,rP,e3,u8,u9,ga,gb,d1,d2]
    refine main (by rw[hfit,hl,hm];rfl) _ ?_ ?_ ?_
    ·simp only[eE,seval,↓eP,rP,u0]
    ·simp only[eE,seval,↓eP,rP,u1]
    ·simp only[eE,seval,↓eP,rP,u8]
   | true=>
    cases d3:decide (x.kids>C2 x.kind) with
    | true=>
     have hm:decide (C2 x.kind<0)=false:=by simp only[decide_eq_true_eq] at d2;simp only[decide_eq_false_iff_not];omega
     have hm2:decide (x.kids≤C2 x.kind)=false:=by simp only[decide_eq_true_eq] at d3;simp only[decide_eq_false_iff_not];omega
     simp only[eE,seval,↓eP,rP,e3,u1,u8,u9,ga,gb,d1,d2,d3]
     refine bad (by rw[hfit,hl,hm,hm2];rfl) _ ?_ ?_
     ·simp only[eE,seval,↓eP,rP]
     ·simp only[eE,seval,↓eP,rP]
    | false=>
     have hm2:decide (x.kids≤C2 x.kind)=true:=by simp only[decide_eq_false_iff_not] at d3;simp only[decide_eq_true_eq];omega
     simp only[eE,seval,↓eP,rP,e3,u8,u9,ga,gb,d1,d2,d3]
     refine main (by rw[hfit,hl,hm2,Bool.or_true];rfl) _ ?_ ?_ ?_
     ·simp only[eE,seval,↓eP,rP,u0]
     ·simp only[eE,seval,↓eP,rP,u1]
     ·simp only[eE,seval,↓eP,rP,u8]
end
theorem PT {a b:Value} (ha:flat a=true) (hb:flat b=true):ED (.tuple #[a,b])=true:=by simp[ED,ha,hb]
theorem YA {l:List AB} {m at_:Nat} {what:Int} {x:AB} (hx:l[at_]?=some x):BK AY l (m+1) at_ what=if (B_ what x.kind&&DK AY x)=true then EJ (fun k next=>BK AY l m next (BL x.kind k)) x.kids.toNat 0 (at_+1) else (at_,false):=by
 rw[BK,hx]
theorem fJ {l:List AB} {m at_:Nat} {what:Int} (hx:l[at_]?=none):BK AY l (m+1) at_ what=(at_,false):=by
 rw[BK,hx]
section
variable {call:AN} {n:Nat}
theorem tP (hsn:CD call) {l:List AB} {v:Value} {m at_:Nat} {what:Int} {h:AA} (hc:qU call l v m at_) (hn:l.length+3<n) (hlen:l.length<30000000000000) (hat:at_≤l.length) (hw:what≠8)
  (h89:∀ w k h,call 60 [iv w,iv k] h=some (.bool (B_ w k),h))
  (h90':∀ k h,1≤k∧k≤54→call 61 [iv k] h=some (.agg #[.bool (KP k),.bool (M0 k),.bool (k==27),iv (F6 k),iv (C2 k)],h))
  (h91:∀ s h',h'.get 0=CF→call 62 [.string s] h'=some (.bool (AY s),h'))
  (hv:A_ h v l) (hg:h.get 0=CF) (hn0:0<h.next) (hfl:h.floor≤h.next) :
  ∃ h1,A7 Tryd.prog call n 46 [v,iv at_,iv what] h=some (.tuple #[iv ((BK AY l (m+1) at_ what).1:Int),.bool (BK AY l (m+1) at_ what).2],h1)∧∀ i,i<h.next→h1.get i=h.get i:=by
 refine EH (R:=fun h1=>∀ i,i<h.next→h1.get i=h.get i) Tryd.func46 rfl (by simp[Tryd.f46]) ?_
 have hr:Tryd.f46.results.toList=[.tmp 6,.tmp 7]:=rfl
 have hl22:∀ h',CX Tryd.prog h' 26 v=some (.int .i64 l.length):=fun h'=>hv.len
 cases hx:l[at_]? with
 | none=>
  rw[fJ hx]
  have hge:l.length≤at_:=List.getElem?_eq_none_iff.1 hx
  have c1:decide ((at_:Int)≥(l.length:Int))=true:=by simp only[decide_eq_true_eq];omega
  simp only[eE,seval,↓eP,rP,hr,hl22,c1]
  exact fun i hi=>trivial
 | some x=>
  have hlt:at_<l.length:=(List.getElem?_eq_some_iff.1 hx).1
  have c1:decide ((at_:Int)≥(l.length:Int))=false:=by simp only[decide_eq_false_iff_not];omega
  obtain⟨id,p,e0,hid,l0,l1,l2,l3,l4,lr⟩:=hv.row hx
  rw[YA hx]
  cases hs:B_ what x.kind with
  | false=>
   simp only[eE,seval,↓eP,rP,hr,hl22,c1,e0,l0,h89,hs,Bool.false_and]
   exact fun i hi=>trivial
  | true=>
  have hkind:=QX hs
  have h90:=fun h=>h90' x.kind h hkind
  have hidT:(id<h.next)=True:=by simpa using hid
  have hne1:(h.next=h.next+1)=False:=by simp
  have hne2:(h.next+1=h.next)=False:=by simp
  have hfl1:(h.floor≤h.next)=True:=by simpa using hfl
  have hfl2:(h.floor≤h.next+1)=True:=by simp;omega
  have hlt1:(h.next<h.next+1+1)=True:=by simp;omega
  have hlt2:(h.next+1<h.next+1+1)=True:=by simp
  simp only[Bool.true_and]
  simp only[eE,seval,↓eP,rP,hr,hl22,c1,e0,l0,h89,hs]
  refine WK.flags (ops:=a_) qZ ?_
  refine CO.begin ?_
  refine AG hsn 0 (some 29) (.move (.tmp 0)) none ?_
  simp only[eE,seval,↓eP,rP,AE,AC,AF,rF,hr,e0,l0,lr,hidT,h90,hne1,hne2,hfl1,hfl2,hlt1,hlt2]
  refine AG hsn 1 (some 30) (.move (.tmp 1)) none ?_
  simp only[eE,seval,↓eP,rP,AE,AC,AF,rF,hr,e0,l0,lr,hidT,h90,hne1,hne2,hfl1,hfl2,hlt1,hlt2]
  refine AG hsn 2 (some 31) (.indexAddr 26 (.tmp 29) (.tmp 30)) none ?_
  simp only[eE,seval,↓eP,rP,AE,AC,AF,rF,hr,e0,l0,lr,hidT,h90,hne1,hne2,hfl1,hfl2,hlt1,hlt2]
  refine AG hsn 3 (some 32) (.load 61 (.tmp 31)) none ?_
  simp only[eE,seval,↓eP,rP,AE,AC,AF,rF,hr,e0,l0,lr,hidT,h90,hne1,hne2,hfl1,hfl2,hlt1,hlt2]
  refine AG hsn 4 (some 33) (.move (.tmp 0)) none ?_
  simp only[eE,seval,↓eP,rP,AE,AC,AF,rF,hr,e0,l0,lr,hidT,h90,hne1,hne2,hfl1,hfl2,hlt1,hlt2]
  refine AG hsn 5 (some 34) (.move (.tmp 1)) none ?_
  simp only[eE,seval,↓eP,rP,AE,AC,AF,rF,hr,e0,l0,lr,hidT,h90,hne1,hne2,hfl1,hfl2,hlt1,hlt2]
  refine AG hsn 6 (some 35) (.indexAddr 26 (.tmp 33) (.tmp 34)) none ?_
  simp only[eE,seval,↓eP,rP,AE,AC,AF,rF,hr,e0,l0,lr,hidT,h90,hne1,hne2,hfl1,hfl2,hlt1,hlt2]
  refine AG hsn 7 (some 36) (.fieldAddr 61 (.tmp 35) 0) none ?_
  simp only[eE,seval,↓eP,rP,AE,AC,AF,rF,hr,e0,l0,lr,hidT,h90,hne1,hne2,hfl1,hfl2,hlt1,hlt2]
  refine AG hsn 8 (some 37) (.load 3 (.tmp 36)) none ?_
  simp only[eE,seval,↓eP,rP,AE,AC,AF,rF,hr,e0,l0,lr,hidT,h90,hne1,hne2,hfl1,hfl2,hlt1,hlt2]
  refine AG hsn 9 (some 38) (.call { callee:=.value (.func 61),args:=#[.tmp 37],argTypes:=#[3] }) none ?_
  simp only[eE,seval,↓eP,rP,AE,AC,AF,rF,hr,e0,l0,lr,hidT,h90,hne1,hne2,hfl1,hfl2,hlt1,hlt2]
  refine AG hsn 10 (some 8) (.alloc 61) none ?_
  simp only[eE,seval,↓eP,rP,AE,AC,AF,rF,hr,e0,l0,lr,hidT,h90,hne1,hne2,hfl1,hfl2,hlt1,hlt2]
  refine AG hsn 11 (some 9) (.alloc 115) none ?_
  simp only[eE,seval,↓eP,rP,AE,AC,AF,rF,hr,e0,l0,lr,hidT,h90,hne1,hne2,hfl1,hfl2,hlt1,hlt2]
  refine AG hsn 12 (none) (.store 61 (.tmp 8) (.tmp 32)) none ?_
  simp only[eE,seval,↓eP,rP,AE,AC,AF,rF,hr,e0,l0,lr,hidT,h90,hne1,hne2,hfl1,hfl2,hlt1,hlt2]
  refine AG hsn 13 (none) (.store 115 (.tmp 9) (.tmp 38)) none ?_
  simp only[eE,seval,↓eP,rP,AE,AC,AF,rF,hr,e0,l0,lr,hidT,h90,hne1,hne2,hfl1,hfl2,hlt1,hlt2]
  refine CO.done (i:=14) (by kernel_rfl) ?_
  rw[SP]
  have hold:∀ i,i<h.next→((((h.push (.row FG 61 false false)).push (.row [.bool false,.bool false,.bool false,.int .i64 0,.int .i64 0] 115 false false)).put h.next (.row [.int .i64 x.kind,.string x.name,.int .i64 x.ends,.int .i64 x.n,.int .i64 x.kids] 61 false false)).put (h.next+1)
    (.row [.bool (KP x.kind),.bool (M0 x.kind),.bool (x.kind==27),iv (F6 x.kind),iv (C2 x.kind)] 115 false false)).get i=h.get i:=fun i hi=>by
   rw[SA,if_neg (by omega),SA,if_neg (by omega),Q1,if_neg (by rw[BZ];omega),Q1,if_neg (by omega)]
  refine Cl hsn hc hn hlen hlt (h91 x.name) (hv.mono (by simp only[JB,BZ];omega) hold) (by rw[hold 0 hn0];exact hg) (by simp only[JB,BZ];omega) (by simp only[JB,BZ,MM,IV];omega) hkind (Fw hw hs) (a:=h.next) (b:=h.next+1) (ga0:=false) (gb0:=false) ?_ ?_ ?_ ?_ ?_ ?_ (by simp only[JB,BZ];omega) ?_
  ·simp only[eE,seval,↓eP,rP]
  ·simp only[eE,seval,↓eP,rP]
  ·simp only[eE,seval,↓eP,rP]
  ·simp only[eE,seval,↓eP,rP]
  ·simp only[eE,seval,↓eP,rP,hne1,hlt1]
  ·simp only[eE,seval,↓eP,rP,hlt2]
  ·intro T' q ok hq h6 h7
   simp only[eE,seval,↓eP,rP,hr,h6,h7,← hq]
   intro i hi
   rw[if_neg (by omega),if_neg (by omega),if_neg (by omega),if_neg (by omega)]
end
theorem WX (k:Int) (h:AA) (hk:1≤k∧k≤54):L1 61 [iv k] h=some (.agg #[.bool (KP k),.bool (M0 k),.bool (k==27),iv (F6 k),iv (C2 k)],h):=
 LS (KS rfl rfl rfl rfl (NC Mb hk))
theorem Hw (k:Int):C2 k≤3:=by unfold C2;(repeat' split) <;> omega
theorem Mh {call:AN} {n:Nat} {h:AA} {j:Nat}:A7 Tryd.prog call n 64 [iv 11,iv j] h=some (iv (BL 11 j),h):=by
 refine DL Tryd.func64 rfl (by simp[Tryd.f64]) ?_
 have hr:Tryd.f64.results.toList=[.tmp 4]:=rfl
 simp only[eE,seval,↓eP,rP,hr]
 rfl
theorem sO (k:Int) (j:Nat) (h:AA) (hk:1≤k∧k≤54) (hj:k=11∨(j:Int)<C2 k):L1 64 [iv k,iv j] h=some (iv (BL k j),h):=by
 refine LS (KS rfl rfl rfl rfl ?_)
 rcases hj with rfl | hj
 ·exact⟨_,Mh⟩
 ·have:=Hw k
  have h3:j=0∨j=1∨j=2:=by omega
  rcases h3 with rfl | rfl | rfl
  ·exact NC Fu hk
  ·exact NC yP hk
  ·have h15:k≠15:=by
    rintro rfl
    revert hj
    decide
   have:=NC Bi hk
   simp only[if_neg h15] at this
   exact this
theorem UY {l:List AB} {m:Nat} {x:AB} (hx:l[0]?=some x):FX AY l m=if (B_ 8 x.kind&&DK AY x)=true then D9 AY l m x.kids.toNat false 1 else (0,false):=by
 rw[FX,hx]
theorem dM {l:List AB} {m:Nat} (hx:l[0]?=none):FX AY l m=(0,false):=by
 rw[FX,hx]
section
variable {call:AN} {n:Nat}
theorem Lr (hsn:CD call) {l:List AB} {v:Value} {m at_ a b:Nat} {x:AB} {T:Tr} {h:AA} {k:CU} {ga0 gb0:Bool} (h92:DK AY x=true→call 63 [v,iv at_] h=some (.tuple #[iv ((D9 AY l m x.kids.toNat false (at_+1)).1:Int),.bool (D9 AY l m x.kids.toNat false (at_+1)).2],h)) (hn:l.length+3<n) (hlen:l.length<30000000000000) (hat:at_<l.length)
  (h91:∀ h',h'.get 0=CF→call 62 [.string x.name] h'=some (.bool (AY x.name),h'))
  (hv:A_ h v l) (hg:h.get 0=CF) (hn0:0<h.next) (hfl:h.floor≤h.next) (hkind:1≤x.kind∧x.kind≤54) (hk1:x.kind=1)
  (t0:T.get 0=v) (t1:T.get 1=iv at_) (t8:T.get 8=qP a 0) (t9:T.get 9=qP b 0)
  (ga:h.get a=.row [.int .i64 x.kind,.string x.name,.int .i64 x.ends,.int .i64 x.n,.int .i64 x.kids] 61 ga0 false)
  (gb:h.get b=.row [.bool (KP x.kind),.bool (M0 x.kind),.bool (x.kind==27),.int .i64 (F6 x.kind),.int .i64 (C2 x.kind)] 115 gb0 false) (hb:b<h.next)
  (hk:∀ T' (p:Nat) ok,(p,ok)=(if DK AY x=true then D9 AY l m x.kids.toNat false (at_+1) else (at_,false))→T'.get 6=iv p→T'.get 7=.bool ok→k.ap Tryd.prog call n .ret ⟨T',h⟩) :
  WK Tryd.prog call n Q8 ⟨T,h⟩ k:=by
 show WK _ _ _ (.seq (.region _ _ true) _) _ _
 rw[ME]
 refine WK.flags (ops:=DM) oJ ?_
 refine CO.begin ?_
 refine iZ hsn t8 t9 ga gb (by simpa using hb) (fun h' e=>h91 h' (by rw[e];exact hg)) fun T1 e1 k1=>?_
 refine lO hsn (by rw[k1 8 (by decide)];exact t8) (by rw[k1 9 (by decide)];exact t9) ga gb (by simpa using hb) e1 fun T2 e2 k2=>?_
 refine sU hsn (by rw[k2 8 (by decide),k1 8 (by decide)];exact t8) (by rw[k2 9 (by decide),k1 9 (by decide)];exact t9) ga gb (by simpa using hb) e2 fun T3 e3 k3=>?_
 refine CO.done (i:=49) (by kernel_rfl) ?_
 rw[SP]
 have kp:∀ t:Nat,t<10→T3.get t=T.get t:=fun t ht=>by rw[k3 t ht,k2 t (by omega),k1 t (by omega)]
 have u0:=(kp 0 (by decide)).trans t0
 have u1:=(kp 1 (by decide)).trans t1
 have u8:=(kp 8 (by decide)).trans t8
 have u9:=(kp 9 (by decide)).trans t9
 clear k1 k2 k3 kp e1 e2
 generalize hcc:(((AY x.name==KP x.kind)&&(KP x.kind||x.name==⟨#[]⟩))&&(x.ends==0||M0 x.kind&&x.ends==1)&&(x.n==0||(x.kind==27)&&decide (x.n>0)&&decide (x.n≤1073741824)))=cc at e3
 have hfit:DK AY x=(cc&&decide (x.kids≥F6 x.kind)&&(decide (C2 x.kind<0)||decide (x.kids≤C2 x.kind))):=by
  rw[← hcc]
  rfl
 have bad:DK AY x=false→∀ T',T'.get 6=iv at_→T'.get 7=.bool false→k.ap Tryd.prog call n .ret ⟨T',h⟩:=fun hf T' h6 h7=>hk T' at_ false (by rw[hf];rfl) h6 h7
 have e1:(x.kind==1)=true:=by simpa using hk1
 have hkids:DK AY x=true→0≤x.kids∧(decide (C2 x.kind<0)||decide (x.kids≤C2 x.kind))=true:=fun hf=>by
  rw[hfit] at hf
  simp only[Bool.and_eq_true,decide_eq_true_eq] at hf
  have:=QJ x.kind
  exact⟨by omega,hf.2⟩
 have main:DK AY x=true→∀ T',T'.get 0=v→T'.get 1=iv at_→T'.get 8=qP a 0→WK Tryd.prog call n (rt (rt Q8)) ⟨T',h⟩ k:=by
  intro hf T' w0 w1 w8
  have h92':=h92 hf
  show WK _ _ _ (.seq _ _) _ _
  simp only[eE,seval,↓eP,rP,w0,w1,w8,ga,e1,h92']
  refine hk _ _ _ (by rw[if_pos hf]) ?_ ?_
  ·simp only[eE,seval,↓eP,rP]
  ·simp only[eE,seval,↓eP,rP]
 show WK _ _ _ (.seq _ (rt (rt Q8))) _ _
 cases cc with
 | false=>
  simp only[eE,seval,↓eP,rP,e3,u1]
  refine bad (by rw[hfit];rfl) _ ?_ ?_
  ·simp only[eE,seval,↓eP,rP]
  ·simp only[eE,seval,↓eP,rP]
 | true=>
  cases d1:decide (x.kids<F6 x.kind) with
  | true=>
   simp only[eE,seval,↓eP,rP,e3,u1,u8,u9,ga,gb,d1]
   refine bad (by rw[hfit,decide_eq_false (by simp only[decide_eq_true_eq] at d1;omega)];rfl) _ ?_ ?_
   ·simp only[eE,seval,↓eP,rP]
   ·simp only[eE,seval,↓eP,rP]
  | false=>
   have hl:decide (x.kids≥F6 x.kind)=true:=by simp only[decide_eq_false_iff_not] at d1;simp only[decide_eq_true_eq];omega
   cases d2:decide (C2 x.kind≥0) with
   | false=>
    have hm:decide (C2 x.kind<0)=true:=by simp only[decide_eq_false_iff_not] at d2;simp only[decide_eq_true_eq];omega
    simp only[eE,seval,↓eP,rP,e3,u8,u9,ga,gb,d1,d2]
    refine main (by rw[hfit,hl,hm];rfl) _ ?_ ?_ ?_
    ·simp only[eE,seval,↓eP,rP,u0]
    ·simp only[eE,seval,↓eP,rP,u1]
    ·simp only[eE,seval,↓eP,rP,u8]
   | true=>
    cases d3:decide (x.kids>C2 x.kind) with
    | true=>
     have hm:decide (C2 x.kind<0)=false:=by simp only[decide_eq_true_eq] at d2;simp only[decide_eq_false_iff_not];omega
     have hm2:decide (x.kids≤C2 x.kind)=false:=by simp only[decide_eq_true_eq] at d3;simp only[decide_eq_false_iff_not];omega
     simp only[eE,seval,↓eP,rP,e3,u1,u8,u9,ga,gb,d1,d2,d3]
     refine bad (by rw[hfit,hl,hm,hm2];rfl) _ ?_ ?_
     ·simp only[eE,seval,↓eP,rP]
     ·simp only[eE,seval,↓eP,rP]
    | false=>
     have hm2:decide (x.kids≤C2 x.kind)=true:=by simp only[decide_eq_false_iff_not] at d3;simp only[decide_eq_true_eq];omega
     simp only[eE,seval,↓eP,rP,e3,u8,u9,ga,gb,d1,d2,d3]
     refine main (by rw[hfit,hl,hm2,Bool.or_true];rfl) _ ?_ ?_ ?_
     ·simp only[eE,seval,↓eP,rP,u0]
     ·simp only[eE,seval,↓eP,rP,u1]
     ·simp only[eE,seval,↓eP,rP,u8]
theorem mO (hsn:CD call) {l:List AB} {v:Value} {m:Nat} {h:AA} (h92:∀ x h,l[0]?=some x→DK AY x=true→x.kind=1→A_ h v l→h.get 0=CF→0<h.next→h.floor≤h.next→call 63 [v,iv 0] h=some (.tuple #[iv ((D9 AY l m x.kids.toNat false 1).1:Int),.bool (D9 AY l m x.kids.toNat false 1).2],h)) (hn:l.length+3<n) (hlen:l.length<30000000000000)
  (h89:∀ w k h,call 60 [iv w,iv k] h=some (.bool (B_ w k),h))
  (h90':∀ k h,1≤k∧k≤54→call 61 [iv k] h=some (.agg #[.bool (KP k),.bool (M0 k),.bool (k==27),iv (F6 k),iv (C2 k)],h))
  (h91:∀ s h',h'.get 0=CF→call 62 [.string s] h'=some (.bool (AY s),h'))
  (hv:A_ h v l) (hg:h.get 0=CF) (hn0:0<h.next) (hfl:h.floor≤h.next) :
  ∃ h1,A7 Tryd.prog call n 46 [v,iv 0,iv 8] h=some (.tuple #[iv ((FX AY l m).1:Int),.bool (FX AY l m).2],h1)∧∀ i,i<h.next→h1.get i=h.get i:=by
 refine EH (R:=fun h1=>∀ i,i<h.next→h1.get i=h.get i) Tryd.func46 rfl (by simp[Tryd.f46]) ?_
 have hr:Tryd.f46.results.toList=[.tmp 6,.tmp 7]:=rfl
 have hl22:∀ h',CX Tryd.prog h' 26 v=some (.int .i64 l.length):=fun h'=>hv.len
 have e00:((0:Nat):Int)=0:=rfl
 cases hx:l[0]? with
 | none=>
  rw[dM hx]
  have hge:l.length≤0:=List.getElem?_eq_none_iff.1 hx
  have c1:decide ((0:Int)≥(l.length:Int))=true:=by simp only[decide_eq_true_eq];omega
  simp only[eE,↓reduceIte,Nat.reduceEqDiff,reduceCtorEq,↓eP,rP,Nat.reduceAdd,Nat.reduceLT,hr,hl22,c1]
  exact⟨rfl,fun i hi=>trivial⟩
 | some x=>
  have hlt:0<l.length:=(List.getElem?_eq_some_iff.1 hx).1
  have c1:decide ((0:Int)≥(l.length:Int))=false:=by simp only[decide_eq_false_iff_not];omega
  obtain⟨id,p,e0,hid,l0,l1,l2,l3,l4,lr⟩:=hv.row hx
  rw[UY hx]
  rw[e00] at e0
  cases hs:B_ 8 x.kind with
  | false=>
   simp only[eE,↓reduceIte,Nat.reduceEqDiff,reduceCtorEq,↓eP,rP,Nat.reduceAdd,Nat.reduceLT,hr,hl22,c1,e0,l0,h89,hs,Bool.false_and]
   exact⟨rfl,fun i hi=>trivial⟩
  | true=>
  have hkind:=QX hs
  have hk1:x.kind=1:=by simpa [B_] using hs
  have h90:=fun h=>h90' x.kind h hkind
  have hidT:(id<h.next)=True:=by simpa using hid
  have hne1:(h.next=h.next+1)=False:=by simp
  have hne2:(h.next+1=h.next)=False:=by simp
  have hfl1:(h.floor≤h.next)=True:=by simpa using hfl
  have hfl2:(h.floor≤h.next+1)=True:=by simp;omega
  have hlt1:(h.next<h.next+1+1)=True:=by simp;omega
  have hlt2:(h.next+1<h.next+1+1)=True:=by simp
  simp only[Bool.true_and]
  simp only[eE,seval,↓eP,rP,hr,hl22,c1,e0,l0,h89,hs]
  refine WK.flags (ops:=a_) qZ ?_
  refine CO.begin ?_
  refine AG hsn 0 (some 29) (.move (.tmp 0)) none ?_
  simp only[eE,seval,↓eP,rP,AE,AC,AF,rF]
  refine AG hsn 1 (some 30) (.move (.tmp 1)) none ?_
  simp only[eE,seval,↓eP,rP,AE,AC,AF,rF]
  refine AG hsn 2 (some 31) (.indexAddr 26 (.tmp 29) (.tmp 30)) none ?_
  simp only[eE,seval,↓eP,rP,AE,AC,AF,rF,e0]
  refine AG hsn 3 (some 32) (.load 61 (.tmp 31)) none ?_
  simp only[eE,seval,↓eP,rP,AE,AC,AF,rF,lr,hidT]
  refine AG hsn 4 (some 33) (.move (.tmp 0)) none ?_
  simp only[eE,seval,↓eP,rP,AE,AC,AF,rF]
  refine AG hsn 5 (some 34) (.move (.tmp 1)) none ?_
  simp only[eE,seval,↓eP,rP,AE,AC,AF,rF]
  refine AG hsn 6 (some 35) (.indexAddr 26 (.tmp 33) (.tmp 34)) none ?_
  simp only[eE,seval,↓eP,rP,AE,AC,AF,rF,e0]
  refine AG hsn 7 (some 36) (.fieldAddr 61 (.tmp 35) 0) none ?_
  simp only[eE,seval,↓eP,rP,AE,AC,AF,rF]
  refine AG hsn 8 (some 37) (.load 3 (.tmp 36)) none ?_
  simp only[eE,seval,↓eP,rP,AE,AC,AF,rF,l0,hidT]
  refine AG hsn 9 (some 38) (.call { callee:=.value (.func 61),args:=#[.tmp 37],argTypes:=#[3] }) none ?_
  simp only[eE,seval,↓eP,rP,AE,AC,AF,rF,h90]
  refine AG hsn 10 (some 8) (.alloc 61) none ?_
  simp only[eE,seval,↓eP,rP,AE,AC,AF,rF]
  refine AG hsn 11 (some 9) (.alloc 115) none ?_
  simp only[eE,seval,↓eP,rP,AE,AC,AF,rF]
  refine AG hsn 12 (none) (.store 61 (.tmp 8) (.tmp 32)) none ?_
  simp only[eE,seval,↓eP,rP,AE,AC,AF,rF,hne1,hfl1]
  refine AG hsn 13 (none) (.store 115 (.tmp 9) (.tmp 38)) none ?_
  simp only[eE,seval,↓eP,rP,AE,AC,AF,rF,hne2,hfl2]
  refine CO.done (i:=14) (by kernel_rfl) ?_
  rw[SP]
  have hold:∀ i,i<h.next→((((h.push (.row FG 61 false false)).push (.row [.bool false,.bool false,.bool false,.int .i64 0,.int .i64 0] 115 false false)).put h.next (.row [.int .i64 x.kind,.string x.name,.int .i64 x.ends,.int .i64 x.n,.int .i64 x.kids] 61 false false)).put (h.next+1)
    (.row [.bool (KP x.kind),.bool (M0 x.kind),.bool (x.kind==27),iv (F6 x.kind),iv (C2 x.kind)] 115 false false)).get i=h.get i:=fun i hi=>by
   rw[SA,if_neg (by omega),SA,if_neg (by omega),Q1,if_neg (by rw[BZ];omega),Q1,if_neg (by omega)]
  refine Lr hsn (m:=m) (at_:=0) (l:=l) (v:=v) (fun hf=>h92 x _ hx hf hk1 (hv.mono (by simp only[JB,BZ];omega) hold) (by rw[hold 0 hn0];exact hg) (by simp only[JB,BZ];omega) (by simp only[JB,BZ,MM,IV];omega)) hn hlen hlt (h91 x.name) (hv.mono (by simp only[JB,BZ];omega) hold) (by rw[hold 0 hn0];exact hg) (by simp only[JB,BZ];omega) (by simp only[JB,BZ,MM,IV];omega) hkind hk1 (a:=h.next) (b:=h.next+1) (ga0:=false) (gb0:=false) ?_ ?_ ?_ ?_ ?_ ?_ (by simp only[JB,BZ];omega) ?_
  ·simp only[eE,seval,↓eP,rP]
  ·simp only[eE,↓reduceIte,Nat.reduceEqDiff,reduceCtorEq,↓eP,rP,Nat.reduceAdd,Nat.reduceLT]
   rfl
  ·simp only[eE,seval,↓eP,rP]
  ·simp only[eE,seval,↓eP,rP]
  ·simp only[eE,seval,↓eP,rP,hne1,hlt1]
  ·simp only[eE,seval,↓eP,rP,hlt2]
  ·intro T' q ok hq h6 h7
   simp only[eE,seval,↓eP,rP,h6,h7,← hq]
   intro i hi
   rw[if_neg (by omega),if_neg (by omega),if_neg (by omega),if_neg (by omega)]
def RA (ev:Bool):Int:=if ev=true then 1 else 0
theorem sI {l:List AB} {v:Value} {m:Nat} {x:AB} {h:AA} (hx:l[0]?=some x) (hk0:0≤x.kids) (hn:l.length+3<n) (hlen:l.length<30000000000000) (hv:A_ h v l)
  (h89:∀ w k h,call 60 [iv w,iv k] h=some (.bool (B_ w k),h))
  (h73:∀ (p:Nat) (w:Int),0<p→p≤l.length→w≠8→call 46 [v,iv p,iv w] h=some (.tuple #[iv ((BK AY l m p w).1:Int),.bool (BK AY l m p w).2],h)) :
  A7 Tryd.prog call n 63 [v,iv 0] h=some (.tuple #[iv ((D9 AY l m x.kids.toNat false 1).1:Int),.bool (D9 AY l m x.kids.toNat false 1).2],h):=by
 refine DL Tryd.func63 rfl (by simp[Tryd.f63]) ?_
 have hr:Tryd.f63.results.toList=[.tmp 4,.tmp 5]:=rfl
 have hl22:∀ h',CX Tryd.prog h' 26 v=some (.int .i64 l.length):=fun h'=>hv.len
 have hlt0:0<l.length:=(List.getElem?_eq_some_iff.1 hx).1
 obtain⟨id,q,e0',hid,l0,l1,l2,l3,l4,lr⟩:=hv.row hx
 have e0:CM Tryd.prog 26 v (.int .i64 0)=some (qP id q):=e0'
 have w1:IntKind.i64.wrap (0+1)=((1:Nat):Int):=rfl
 simp only[eE,↓reduceIte,Nat.reduceEqDiff,reduceCtorEq,↓eP,rP,Nat.reduceAdd,Nat.reduceLT,hr,w1]
 generalize hg0:D9 AY l m x.kids.toNat false 1=R
 refine WK.loop (fun i s=>s.h=h∧s.T.get 0=v∧s.T.get 1=iv 0∧s.T.get 9=iv i∧∃ p:Nat,∃ ok ev:Bool,s.T.get 6=iv p∧s.T.get 7=.bool ok∧s.T.get 8=iv (RA ev)∧p≤l.length∧0<p∧i≤l.length+1 ∧
  ((ok=true∧i≤x.kids.toNat∧1+i≤p∧D9 AY l m (x.kids.toNat-i) ev p=R)∨(ok=false∧R=(p,false)))) (l.length+2) (by omega) ?_ ?_
 ·simp only[eE,↓reduceIte,Nat.reduceEqDiff,reduceCtorEq,↓eP,rP,Nat.reduceAdd,Nat.reduceLT]
  exact⟨rfl,1,true,false,rfl,rfl,rfl,by omega,by omega,.inl ⟨rfl,by omega,by rw[Nat.sub_zero];exact hg0⟩⟩
 ·rintro i ⟨T1,h1⟩ hi ⟨rfl,y0,y1,y9,p,ok,ev,y6,y7,y8,hp,hp0,hil,hcase⟩
  simp only at y0 y1 y9 y6 y7 y8
  rcases hcase with⟨rfl,hik,hpi,hR⟩ | ⟨rfl,hR⟩
  ·by_cases hlt:i<x.kids.toNat
   ·have c1:decide ((i:Int)<x.kids)=true:=by simp only[decide_eq_true_eq];omega
    have w5:=ET i (by omega)
    have hstep:D9 AY l m (x.kids.toNat-i) ev p=if (BK AY l m p (GH ev l[p]?)).2=true then D9 AY l m (x.kids.toNat-(i+1)) (ev||MH l[p]?) (BK AY l m p (GH ev l[p]?)).1 else ((BK AY l m p (GH ev l[p]?)).1,false):=by
     obtain⟨r,hr⟩:∃ r,x.kids.toNat-i=r+1:=⟨x.kids.toNat-i-1,by omega⟩
     rw[hr,show x.kids.toNat-(i+1)=r by omega]
     rfl
    have hdw:GH ev l[p]?≠8:=by unfold GH;split <;> decide
    have hrow:=h73 p (GH ev l[p]?) hp0 hp hdw
    have hev':GH ev l[p]?=RA (ev||MH l[p]?):=by unfold GH RA;cases ev <;> cases MH l[p]? <;> rfl
    have fin:i<l.length+2∧∃ p1:Nat,∃ ok ev1:Bool,(((BK AY l m p (GH ev l[p]?)).1:Nat):Int)=(p1:Int)∧Value.bool (BK AY l m p (GH ev l[p]?)).2=.bool ok∧RA (ev||MH l[p]?)=RA ev1∧p1≤l.length∧0<p1∧i+1≤l.length+1 ∧
       ((ok=true∧i+1≤x.kids.toNat∧1+(i+1)≤p1∧D9 AY l m (x.kids.toNat-(i+1)) ev1 p1=R)∨(ok=false∧R=(p1,false))):=by
     generalize hq:BK AY l m p (GH ev l[p]?)=Q at *
     have hq1:Q.1≤l.length:=by rw[← hq];exact X4 m p _ hp
     have hq0:p≤Q.1:=by rw[← hq];exact QU m p _
     have hq2:Q.2=true→p<Q.1:=fun h=>by
      have:=SK (isName:=AY) (l:=l) m p (GH ev l[p]?)
      rw[hq] at this
      exact(this h).1
     refine⟨by omega,Q.1,Q.2,(ev||MH l[p]?),rfl,rfl,rfl,hq1,by omega,by omega,?_⟩
     cases hb2:Q.2 with
     | true=>
      left
      have:=hq2 hb2
      rw[hb2,if_pos rfl] at hstep
      exact⟨rfl,by omega,by omega,by rw[← hstep];exact hR⟩
     | false=>
      right
      rw[hb2,if_neg (by simp)] at hstep
      exact⟨rfl,by rw[← hR,hstep]⟩
    cases hxp:l[p]? with
    | none=>
     have hge:l.length≤p:=List.getElem?_eq_none_iff.1 hxp
     have c2:decide ((p:Int)<(l.length:Int))=false:=by simp only[decide_eq_false_iff_not];omega
     have hie:MH (none:Option AB)=false:=rfl
     rw[hxp] at hrow fin hev'
     rw[hie,Bool.or_false] at hev' fin
     rw[hev'] at hrow fin
     simp only[eE,↓reduceIte,Nat.reduceEqDiff,reduceCtorEq,↓eP,rP,Nat.reduceAdd,Nat.reduceLT,y0,y1,y9,y6,y7,y8,e0,l4,c1,hl22,c2,hrow,w5]
     exact fin
    | some y=>
     have hlt2:p<l.length:=(List.getElem?_eq_some_iff.1 hxp).1
     have c2:decide ((p:Int)<(l.length:Int))=true:=by simp only[decide_eq_true_eq];omega
     obtain⟨id2,q2,f0,hid2,m0,m1,m2,m3,m4,mr⟩:=hv.row hxp
     have hie:MH (some y)=B_ 1 y.kind:=rfl
     rw[hxp] at hrow fin hev'
     rw[hie] at hev' fin
     rw[hev'] at hrow fin
     cases hs:B_ 1 y.kind with
     | false=>
      rw[hs,Bool.or_false] at hrow fin
      simp only[eE,↓reduceIte,Nat.reduceEqDiff,reduceCtorEq,↓eP,rP,Nat.reduceAdd,Nat.reduceLT,y0,y1,y9,y6,y7,y8,e0,l4,c1,hl22,c2,f0,m0,h89,hs,hrow,w5]
      exact fin
     | true=>
      have he1:RA true=1:=rfl
      rw[hs,Bool.or_true,he1] at hrow fin
      simp only[eE,↓reduceIte,Nat.reduceEqDiff,reduceCtorEq,↓eP,rP,Nat.reduceAdd,Nat.reduceLT,y0,y1,y9,y6,y7,e0,l4,c1,hl22,c2,f0,m0,h89,hs,hrow,w5]
      exact fin
   ·have c1:decide ((i:Int)<x.kids)=false:=by simp only[decide_eq_false_iff_not];omega
    have hie:x.kids.toNat-i=0:=by omega
    rw[hie] at hR
    have hR':R=(p,true):=by rw[← hR];rfl
    simp only[eE,seval,↓eP,rP,y0,y1,y9,y6,y7,e0,l4,c1,hR']
  ·cases c1:decide ((i:Int)<x.kids) <;> simp only[eE,seval,↓eP,rP,y0,y1,y9,y6,y7,e0,l4,c1,hR]
end
def RU (a b:Int) (k:Nat):Bool:=if b=0 then false else if 1≤a∧a≤5 then (decide (b<a)||(b==a&&((k:Int)==1||a==3))) else if a=6 then decide (b<6) else false
def HZ (a b:Int) (k:Nat):Int:=if RU a b k=true then 1 else 0
def IR (g:Nat→Int × Nat) (l:List AB) (kind:Int):Nat→Nat→Int→Nat→Int × Nat
 | 0,_,most,next=>(most,next)
 | r+1,k,most,next=>match l[next]? with
  | none=>(most,next)
  | some y=>IR g l kind r (k+1) (if (g next).1+HZ (C3 kind) (C3 y.kind) k>most then (g next).1+HZ (C3 kind) (C3 y.kind) k else most) (g next).2
def DE (l:List AB):Nat→Nat→Int × Nat
 | 0,at_=>(0,at_)
 | m+1,at_=>match l[at_]? with
  | none=>(0,at_)
  | some x=>((IR (DE l m) l x.kind x.kids.toNat 0 0 (at_+1)).1+HP x.kind,(IR (DE l m) l x.kind x.kids.toNat 0 0 (at_+1)).2)
theorem U0 (k:Int):0≤HP k∧HP k≤1:=by unfold HP;split <;> omega
theorem bJ (a b:Int) (k:Nat):0≤HZ a b k∧HZ a b k≤1:=by unfold HZ;split <;> omega
theorem mM {g:Nat→Int × Nat} {l:List AB} {kind B:Int} (hg:∀ p,0≤(g p).1∧(g p).1≤B):∀ r k most next,0≤most→most≤B+1→0≤(IR g l kind r k most next).1∧(IR g l kind r k most next).1≤B+1:=by
 intro r
 induction r with
 | zero=>intro k most next h0 h1;exact⟨h0,h1⟩
 | succ r ih=>
  intro k most next h0 h1
  unfold IR
  split
  ·exact⟨h0,h1⟩
  ·rename_i y hy
   have:=hg next
   have:=bJ (C3 kind) (C3 y.kind) k
   apply ih <;> split <;> omega
theorem j7 {l:List AB}:∀ m at_,0≤(DE l m at_).1∧(DE l m at_).1≤2*(m:Int):=by
 intro m
 induction m with
 | zero=>intro at_;exact⟨Int.le_refl 0,by show (0:Int)≤_;omega⟩
 | succ m ih=>
  intro at_
  unfold DE
  split
  ·exact⟨Int.le_refl 0,by show (0:Int)≤_;omega⟩
  ·rename_i x hx
   have:=mM (g:=DE l m) (l:=l) (kind:=x.kind) (B:=2*(m:Int)) ih x.kids.toNat 0 0 (at_+1) (Int.le_refl 0) (by omega)
   have:=U0 x.kind
   constructor <;> simp only <;> omega
theorem t_ {g:Nat→Int × Nat} {l:List AB} {kind:Int} (hg:∀ p,p<l.length→p≤(g p).2∧(g p).2≤l.length):∀ r k most next,next≤l.length→next≤(IR g l kind r k most next).2∧(IR g l kind r k most next).2≤l.length:=by
 intro r
 induction r with
 | zero=>intro k most next h;exact⟨Nat.le_refl _,h⟩
 | succ r ih=>
  intro k most next h
  unfold IR
  split
  ·exact⟨Nat.le_refl _,h⟩
  ·rename_i y hy
   have hlt:next<l.length:=(List.getElem?_eq_some_iff.1 hy).1
   have h1:=hg next hlt
   have h2:=ih (k+1) (if (g next).1+HZ (C3 kind) (C3 y.kind) k>most then (g next).1+HZ (C3 kind) (C3 y.kind) k else most) (g next).2 h1.2
   omega
theorem Lp {l:List AB}:∀ m at_,at_<l.length→at_≤(DE l m at_).2∧(DE l m at_).2≤l.length∧(0<m→at_<(DE l m at_).2):=by
 intro m
 induction m with
 | zero=>intro at_ h;exact⟨Nat.le_refl _,by show at_≤_;omega,fun h=>absurd h (by omega)⟩
 | succ m ih=>
  intro at_ h
  unfold DE
  rw[List.getElem?_eq_getElem h]
  have:=t_ (g:=DE l m) (l:=l) (kind:=l[at_].kind) (fun p hp=>⟨(ih p hp).1,(ih p hp).2.1⟩) l[at_].kids.toNat 0 0 (at_+1) h
  simp only
  omega
section
variable {call:AN} {n:Nat} {h:AA}
theorem sR (k:Int) (h:AA) (hk:1≤k∧k≤54):L1 86 [iv k] h=some (iv (HP k),h):=LS (KS rfl rfl rfl rfl (NC Of hk))
theorem uM {P K:Int} {k:Nat} {a b:Int} (ha:call 88 [iv P] h=some (iv a,h)) (hb:call 88 [iv K] h=some (iv b,h)):A7 Tryd.prog call n 85 [iv P,iv k,iv K] h=some (.bool (RU a b k),h):=by
 refine DL Tryd.func85 rfl (by simp[Tryd.f85]) ?_
 have hr:Tryd.f85.results.toList=[.tmp 6]:=rfl
 unfold RU
 by_cases b0:b=0
 ·subst b0
  simp only[eE,seval,↓eP,rP,hr,ha,hb]
 have c0:(b==0)=false:=by simpa using b0
 rw[if_neg b0]
 by_cases a15:1≤a∧a≤5
 ·rw[if_pos a15]
  have d1:decide (a≥1)=true:=decide_eq_true a15.1
  have d2:decide (a≤5)=true:=decide_eq_true a15.2
  cases d3:decide (b<a) with
  | true=>simp only[eE,seval,↓eP,rP,hr,ha,hb,c0,d1,d2,d3,Bool.true_or]
  | false=>
   cases d4:(b==a) with
   | false=>simp only[eE,seval,↓eP,rP,hr,ha,hb,c0,d1,d2,d3,d4,Bool.false_or,Bool.false_and]
   | true=>
    cases d5:((k:Int)==1) with
    | true=>simp only[eE,seval,↓eP,rP,hr,ha,hb,c0,d1,d2,d3,d4,d5,Bool.false_or,Bool.true_or]
    | false=>simp only[eE,seval,↓eP,rP,hr,ha,hb,c0,d1,d2,d3,d4,d5,Bool.false_or]
 ·rw[if_neg a15]
  cases d1:decide (a≥1) with
  | false=>
   simp only[decide_eq_false_iff_not] at d1
   have d1':decide (a≥1)=false:=decide_eq_false d1
   have c6:(a==6)=false:=by simp;omega
   rw[if_neg (by omega)]
   simp only[eE,seval,↓eP,rP,hr,ha,hb,c0,d1',c6]
  | true=>
   simp only[decide_eq_true_eq] at d1
   have d1':decide (a≥1)=true:=decide_eq_true d1
   have d2:decide (a≤5)=false:=decide_eq_false (by omega)
   by_cases a6:a=6
   ·subst a6
    simp only[eE,seval,↓eP,rP,hr,ha,hb,c0,d1',d2]
   ·have c6:(a==6)=false:=by simpa using a6
    rw[if_neg a6]
    simp only[eE,seval,↓eP,rP,hr,ha,hb,c0,d1',d2,c6]
noncomputable def iI:Array Oper:=DX Tryd.f65 6
def Ms:List (Bool × Bool × List Operand):=[AR,AR,AR,AR,AR,AH [.tmp 30],AH [.tmp 30],AH [.tmp 30],AH [.tmp 30],AH [.tmp 30],AH [.tmp 30],AL]
theorem Iw:DU iI=Ms:=by kernel_rfl
theorem qJ (hsn:CD call) {l:List AB} {v:Value} {m at_:Nat} (hn:l.length+3<n) (hlen:l.length<30000000000000) (hm:m<30000000000000) (hat:at_<l.length) (hmm:l.length<at_+1+m) (hv:A_ h v l) (hval:∀ (i:Nat) x,l[i]?=some x→1≤x.kind∧x.kind≤54)
  (h108:∀ P K (k:Nat) h,1≤P∧P≤54→1≤K∧K≤54→call 85 [iv P,iv k,iv K] h=some (.bool (RU (C3 P) (C3 K) k),h)) (h109:∀ k h,1≤k∧k≤54→call 86 [iv k] h=some (iv (HP k),h))
  (h94:∀ p:Nat,at_<p→p<l.length→call 65 [v,iv p] h=some (.tuple #[iv (DE l m p).1,iv ((DE l m p).2:Int)],h)) :
  A7 Tryd.prog call n 65 [v,iv at_] h=some (.tuple #[iv (DE l (m+1) at_).1,iv ((DE l (m+1) at_).2:Int)],h):=by
 refine DL Tryd.func65 rfl (by simp[Tryd.f65]) ?_
 have hr:Tryd.f65.results.toList=[.tmp 4,.tmp 5]:=rfl
 have hl22:∀ h',CX Tryd.prog h' 26 v=some (.int .i64 l.length):=fun h'=>hv.len
 obtain⟨x,hx⟩:∃ x,l[at_]?=some x:=⟨_,List.getElem?_eq_getElem hat⟩
 obtain⟨id,q,e0,hid,l0,l1,l2,l3,l4,lr⟩:=hv.row hx
 have hkx:=hval at_ x hx
 have w1:=ET at_ (by omega)
 have hres:DE l (m+1) at_=((IR (DE l m) l x.kind x.kids.toNat 0 0 (at_+1)).1+HP x.kind,(IR (DE l m) l x.kind x.kids.toNat 0 0 (at_+1)).2):=by rw[DE,hx]
 rw[hres]
 have hop:=fun h=>h109 x.kind h hkx
 have hopl:=U0 x.kind
 have hRle:=mM (g:=DE l m) (l:=l) (kind:=x.kind) (B:=2*(m:Int)) (j7 m) x.kids.toNat 0 0 (at_+1) (Int.le_refl 0) (by omega)
 simp only[eE,seval,↓eP,rP,hr,w1]
 generalize hg0:IR (DE l m) l x.kind x.kids.toNat 0 0 (at_+1)=R at *
 refine WK.loop (fun i s=>s.h=h∧s.T.get 0=v∧s.T.get 1=iv at_∧s.T.get 6=iv i∧∃ (most:Int) (p:Nat),s.T.get 4=iv most∧s.T.get 5=iv p∧at_+1+i≤p∧p≤l.length∧0≤most∧most≤2*(m:Int)+1∧i≤x.kids.toNat∧IR (DE l m) l x.kind (x.kids.toNat-i) i most p=R) (l.length+2) (by omega) ?_ ?_
 ·simp only[eE,↓reduceIte,Nat.reduceEqDiff,reduceCtorEq,↓eP,rP,Nat.reduceAdd,Nat.reduceLT]
  exact⟨rfl,0,at_+1,rfl,rfl,by omega,by omega,by omega,by omega,by rw[Nat.sub_zero];exact hg0⟩
 ·rintro i ⟨T1,h1⟩ hi ⟨rfl,y0,y1,y6,most,p,y4,y5,hip,hp,hm0,hm1,hik,hR⟩
  simp only at y0 y1 y4 y5 y6
  have done:∀ T':Tr,T'.get 4=iv most→T'.get 5=iv p→R=(most,p)→True:=fun _ _ _ _=>trivial
  by_cases hlt:i<x.kids.toNat
  ·have c1:decide ((i:Int)<x.kids)=true:=by simp only[decide_eq_true_eq];omega
   obtain⟨r,hr1⟩:∃ r,x.kids.toNat-i=r+1:=⟨x.kids.toNat-i-1,by omega⟩
   rw[hr1] at hR
   by_cases hpl:p<l.length
   ·have c2:decide ((p:Int)<(l.length:Int))=true:=by simp only[decide_eq_true_eq];omega
    obtain⟨y,hy⟩:∃ y,l[p]?=some y:=⟨_,List.getElem?_eq_getElem hpl⟩
    obtain⟨id2,q2,f0,hid2,m0,m1,m2,m3,m4,mr⟩:=hv.row hy
    have hky:=hval p y hy
    have hL:=fun hh=>h108 x.kind y.kind i hh hkx hky
    have h94':=h94 p (by omega) hpl
    have hle:=j7 (l:=l) m p
    have hnx:=Lp (l:=l) m p hpl
    have w5:=ET i (by omega)
    have hloI:=bJ (C3 x.kind) (C3 y.kind) i
    have w6:IntKind.i64.wrap ((DE l m p).1+HZ (C3 x.kind) (C3 y.kind) i)=(DE l m p).1+HZ (C3 x.kind) (C3 y.kind) i:=C7 (by omega) (by omega)
    have hstep:IR (DE l m) l x.kind (x.kids.toNat-(i+1)) (i+1) (if (DE l m p).1+HZ (C3 x.kind) (C3 y.kind) i>most then (DE l m p).1+HZ (C3 x.kind) (C3 y.kind) i else most) (DE l m p).2=R:=by
     rw[← hR,show x.kids.toNat-(i+1)=r by omega]
     simp only[IR,hy]
    simp only[eE,seval,↓eP,rP,y0,y1,y4,y5,y6,e0,l0,l4,c1,hl22,c2]
    refine WK.flags (ops:=iI) Iw ?_
    refine CO.begin ?_
    refine AG hsn 0 (some 27) (.move (.tmp 0)) none ?_
    simp only[eE,seval,↓eP,rP,AE,AC,AF,rF,y0,y1,y4,y5,y6,e0,l0,f0,m0,hL]
    refine AG hsn 1 (some 28) (.move (.tmp 1)) none ?_
    simp only[eE,seval,↓eP,rP,AE,AC,AF,rF,y0,y1,y4,y5,y6,e0,l0,f0,m0,hL]
    refine AG hsn 2 (some 29) (.indexAddr 26 (.tmp 27) (.tmp 28)) none ?_
    simp only[eE,seval,↓eP,rP,AE,AC,AF,rF,y0,y1,y4,y5,y6,e0,l0,f0,m0,hL]
    refine AG hsn 3 (some 30) (.fieldAddr 61 (.tmp 29) 0) none ?_
    simp only[eE,seval,↓eP,rP,AE,AC,AF,rF,y0,y1,y4,y5,y6,e0,l0,f0,m0,hL]
    refine AG hsn 4 (some 31) (.load 3 (.tmp 30)) none ?_
    simp only[eE,seval,↓eP,rP,AE,AC,AF,rF,y0,y1,y4,y5,y6,e0,l0,f0,m0,hL]
    refine AG hsn 5 (some 32) (.move (.tmp 6)) none ?_
    simp only[eE,seval,↓eP,rP,AE,AC,AF,rF,y0,y1,y4,y5,y6,e0,l0,f0,m0,hL]
    refine AG hsn 6 (some 33) (.move (.tmp 0)) none ?_
    simp only[eE,seval,↓eP,rP,AE,AC,AF,rF,y0,y1,y4,y5,y6,e0,l0,f0,m0,hL]
    refine AG hsn 7 (some 34) (.move (.tmp 5)) none ?_
    simp only[eE,seval,↓eP,rP,AE,AC,AF,rF,y0,y1,y4,y5,y6,e0,l0,f0,m0,hL]
    refine AG hsn 8 (some 35) (.indexAddr 26 (.tmp 33) (.tmp 34)) none ?_
    simp only[eE,seval,↓eP,rP,AE,AC,AF,rF,y0,y1,y4,y5,y6,e0,l0,f0,m0,hL]
    refine AG hsn 9 (some 36) (.fieldAddr 61 (.tmp 35) 0) none ?_
    simp only[eE,seval,↓eP,rP,AE,AC,AF,rF,y0,y1,y4,y5,y6,e0,l0,f0,m0,hL]
    refine AG hsn 10 (some 37) (.load 3 (.tmp 36)) none ?_
    simp only[eE,seval,↓eP,rP,AE,AC,AF,rF,y0,y1,y4,y5,y6,e0,l0,f0,m0,hL]
    refine AG hsn 11 (some 38) (.call { callee:=.value (.func 85),args:=#[.tmp 31,.tmp 32,.tmp 37],argTypes:=#[3,3,3] }) none ?_
    simp only[eE,seval,↓eP,rP,AE,AC,AF,rF,y0,y1,y4,y5,y6,e0,l0,f0,m0,hL]
    refine CO.done (i:=12) (by kernel_rfl) ?_
    cases hlo:RU (C3 x.kind) (C3 y.kind) i with
    | false=>
     have hI:HZ (C3 x.kind) (C3 y.kind) i=0:=by unfold HZ;rw[hlo];rfl
     rw[hI] at w6 hstep
     simp only[eE,seval,↓eP,rP,y0,y1,y4,y5,y6,h94',w5,w6]
     exact⟨by omega,_,_,rfl,rfl,by omega,by omega,by split <;> omega,by split <;> omega,by omega,hstep⟩
    | true=>
     have hI:HZ (C3 x.kind) (C3 y.kind) i=1:=by unfold HZ;rw[hlo];rfl
     rw[hI] at w6 hstep
     simp only[eE,seval,↓eP,rP,y0,y1,y4,y5,y6,h94',w5,w6]
     exact⟨by omega,_,_,rfl,rfl,by omega,by omega,by split <;> omega,by split <;> omega,by omega,hstep⟩
   ·have c2:decide ((p:Int)<(l.length:Int))=false:=by simp only[decide_eq_false_iff_not];omega
    have hRe:R=(most,p):=by
     rw[← hR]
     simp only[IR,List.getElem?_eq_none (Nat.le_of_not_lt hpl)]
    subst hRe
    have w7:IntKind.i64.wrap (most+HP x.kind)=most+HP x.kind:=C7 (by omega) (by omega)
    simp only[eE,seval,↓eP,rP,hr,y0,y1,y4,y5,y6,e0,l0,l4,c1,hl22,c2,hop,w7]
  ·have c1:decide ((i:Int)<x.kids)=false:=by simp only[decide_eq_false_iff_not];omega
   have hRe:R=(most,p):=by
    rw[← hR,show x.kids.toNat-i=0 by omega]
    rfl
   subst hRe
   have w7:IntKind.i64.wrap (most+HP x.kind)=most+HP x.kind:=C7 (by omega) (by omega)
   simp only[eE,seval,↓eP,rP,hr,y0,y1,y4,y5,y6,e0,l0,l4,c1,hop,w7]
end
def eX (l:List AB) (i:Nat):Prop:=∃ x,l[i]?=some x∧1≤x.kind∧x.kind≤54
theorem bR {g:Nat→Nat→Nat × Bool} {V:Nat→Prop} (hg:∀ k p,(g k p).2=true→∀ i,p≤i→i<(g k p).1→V i):∀ r k p,(EJ g r k p).2=true→∀ i,p≤i→i<(EJ g r k p).1→V i:=by
 intro r
 induction r with
 | zero=>intro k p _ i h1 h2;exact absurd (show i<p from h2) (by omega)
 | succ r ih=>
  intro k p h i h1 h2
  unfold EJ at h h2
  split at h
  ·rename_i hc
   rw[if_pos hc] at h2
   rcases Nat.lt_or_ge i (g k p).1 with h3 | h3
   ·exact hg k p hc i h1 h3
   ·exact ih _ _ h i h3 h2
  ·cases h
theorem tX {l:List AB}:∀ m at_ what,(BK AY l m at_ what).2=true→∀ i,at_≤i→i<(BK AY l m at_ what).1→eX l i:=by
 intro m
 induction m with
 | zero=>intro at_ what h;cases h
 | succ m ih=>
  intro at_ what
  unfold BK
  cases hx:l[at_]? with
  | none=>intro h;cases h
  | some x=>
   simp only
   split
   ·rename_i hc
    intro h i h1 h2
    rcases Nat.lt_or_ge at_ i with h3 | h3
    ·exact bR (V:=eX l) (fun k p hk i h1 h2=>ih p (BL x.kind k) hk i h1 h2) x.kids.toNat 0 (at_+1) h i h3 h2
    ·have:i=at_:=by omega
     subst this
     exact⟨x,hx,QX (Bool.and_eq_true_iff.1 hc).1⟩
   ·intro h;cases h
theorem Lx {l:List AB} {m:Nat}:∀ r ev p,(D9 AY l m r ev p).2=true→∀ i,p≤i→i<(D9 AY l m r ev p).1→eX l i:=by
 intro r
 induction r with
 | zero=>intro ev p _ i h1 h2;exact absurd (show i<p from h2) (by omega)
 | succ r ih=>
  intro ev p h i h1 h2
  unfold D9 at h h2
  split at h
  ·rename_i hc
   rw[if_pos hc] at h2
   rcases Nat.lt_or_ge i (BK AY l m p (GH ev l[p]?)).1 with h3 | h3
   ·exact tX m p _ hc i h1 h3
   ·exact ih _ _ h i h3 h2
  ·cases h
theorem mB {l:List AB} (h:I1 AY l=none):∀ (i:Nat) x,l[i]?=some x→1≤x.kind∧x.kind≤54:=by
 unfold I1 at h
 split at h
 ·rename_i hc
  obtain⟨h1,h2⟩:=hc
  intro i x hx
  have hlt:=(List.getElem?_eq_some_iff.1 hx).1
  unfold FX at h1 h2
  cases h0:l[0]? with
  | none=>rw[h0] at h1;cases h1
  | some y=>
   rw[h0] at h1 h2
   simp only at h1 h2
   split at h1
   ·rename_i hc
    rw[if_pos hc] at h2
    rcases Nat.eq_zero_or_pos i with rfl | hp
    ·rw[h0] at hx
     cases hx
     exact QX (Bool.and_eq_true_iff.1 hc).1
    ·obtain⟨z,hz,hv⟩:=Lx y.kids.toNat false 1 h1 i hp (by omega)
     rw[hx] at hz
     cases hz
     exact hv
   ·cases h1
 ·cases h
theorem XJ {l:List AB} (h:I1 AY l=none):0<l.length:=by
 rcases Nat.eq_zero_or_pos l.length with h0 | h0
 ·have:l=[]:=List.length_eq_zero_iff.1 h0
  subst this
  revert h
  unfold I1 FX
  simp
 ·exact h0
theorem IP:BN Tryd.prog 36=some 2:=by kernel_rfl
theorem uA:FM Tryd.prog 36=some true:=by kernel_rfl
theorem DD:DC Tryd.prog 36=some (.agg #[.int .i64 0,.int .i64 0]):=by kernel_rfl
theorem bG:HW Tryd.prog (match Tryd.prog.underlying 36 with | some (.struct fs)=>fs.toList | _=>[])=some [(0,1),(1,1)]:=by kernel_rfl
abbrev BG (e a:Int):Value:=.agg #[.int .i64 e,.int .i64 a]
theorem DF {e a:Int}:flat (BG e a)=true:=rfl
theorem IY {e a:Int}:C1 Tryd.prog 36 [(0,.int .i64 e),(1,.int .i64 a)]=some (BG e a):=by
 have h:=bG
 rw[Tryd.underlying36] at h
 simp only at h
 simp only[C1,DD,DF,if_true,Tryd.underlying36,h]
 rfl
theorem QH {e:Int}:C1 Tryd.prog 36 [(0,.int .i64 e)]=some (BG e 0):=by
 have h:=bG
 rw[Tryd.underlying36] at h
 simp only at h
 simp only[C1,DD,DF,if_true,Tryd.underlying36,h]
 rfl
theorem FR:C1 Tryd.prog 36 []=some (BG 0 0):=by
 have h:=bG
 rw[Tryd.underlying36] at h
 simp only at h
 simp only[C1,DD,DF,if_true,Tryd.underlying36,h]
 rfl
noncomputable def cZ (h:AA) (id:Nat) (a b:Int):BC→Option AA
 | .row [_,_] ty g false=>if h.floor≤id then some (h.put id (.row [.int .i64 a,.int .i64 b] ty g false)) else none
 | _=>A9 Tryd.prog h 36 (qP id 0) (BG a b)
theorem YF {h:AA} {id:Nat} {a b:Int}:A9 Tryd.prog h 36 (qP id 0) (BG a b)=cZ h id a b (h.get id):=by
 cases hg:h.get id with
 | dead=>rfl
 | map _=>rfl
 | row cs ty g ro=>
  match cs,ro with
  | [c,d],false=>
   simp only[cZ]
   split
   ·rename_i hf
    simp[A9,IP,GB,hg,hf,Go.Sx.lay,Value.cells,one]
   ·rename_i hf
    simp[A9,IP,GB,hg,hf,Go.Sx.lay,Value.cells,one]
  | [c,d],true=>rfl
  | [],ro=>rfl
  | [c],ro=>rfl
  | c :: d :: e :: l,ro=>rfl
theorem YB {h:AA} {id:Nat} {a b:Int} {x y:Value} {ty:TypeId} {g:Bool}:cZ h id a b (.row [x,y] ty g false)=if h.floor≤id then some (h.put id (.row [.int .i64 a,.int .i64 b] ty g false)) else none:=rfl
theorem CG {h:AA} {id off:Nat}:EL Tryd.prog h 36 (qP id off)=AW 2 off (h.get id):=M3 uA IP
theorem V6 {a b:Value} {ty:TypeId} {g ro:Bool}:AW 2 0 (.row [a,b] ty g ro)=some (.agg #[a,b]):=rfl
theorem oI (k:Int) (h:AA) (hk:1≤k∧k≤54):L0 88 [iv k] h=some (iv (C3 k),h):=KS rfl rfl rfl rfl (NC pG hk)
theorem iK (P Q:Int) (k:Nat) (h:AA) (hP:1≤P∧P≤54) (hQ:1≤Q∧Q≤54):L1 85 [iv P,iv k,iv Q] h=some (.bool (RU (C3 P) (C3 Q) k),h):=
 KS (I3 rfl rfl) rfl rfl rfl ⟨_,uM (HU (oI P _ hP)) (HU (oI Q _ hQ))⟩
theorem Cj {l:List AB} {m:Nat}:(FX AY l m).1≤l.length:=by
 unfold FX
 split
 ·exact Nat.zero_le _
 ·rename_i x hx
  have:=(List.getElem?_eq_some_iff.1 hx).1
  split
  ·exact kU _ _ _ this
  ·exact Nat.zero_le _
def C4 (l:List AB):Int × Int:=match I1 AY l with
 | some p=>(23,(p:Int))
 | none=>if (DE l (l.length+1) 0).1>64 then (22,0) else (0,0)
section
variable {call:AN} {n:Nat}
theorem jN {l:List AB} {v:Value} {h:AA} {m:Nat} (hv:A_ h v l) (hpos:0<l.length) (h94:call 65 [v,iv 0] h=some (.tuple #[iv (DE l m 0).1,iv ((DE l m 0).2:Int)],h)) :
  A7 Tryd.prog call n 47 [v] h=some (iv (DE l m 0).1,h):=by
 refine DL Tryd.func47 rfl (by simp[Tryd.f47]) ?_
 have hr:Tryd.f47.results.toList=[.tmp 2]:=rfl
 have hl22:∀ h',CX Tryd.prog h' 26 v=some (.int .i64 l.length):=fun h'=>hv.len
 have c0:((l.length:Int)==0)=false:=by rw[beq_eq_false_iff_ne];omega
 simp only[eE,seval,↓eP,rP,hr,hl22,c0,h94]
theorem sQ {l:List AB} {v:Value} {h:AA} (hv:A_ h v l) (hg:h.get 0=CF) (hn0:0<h.next) (hfl:h.floor≤h.next)
  (h73:∀ h',A_ h' v l→h'.get 0=CF→0<h'.next→h'.floor≤h'.next→call 46 [v,iv 0,iv 8] h'=some (.tuple #[iv ((FX AY l (l.length+1)).1:Int),.bool (FX AY l (l.length+1)).2],h'))
  (h74:I1 AY l=none→∀ h',A_ h' v l→call 47 [v] h'=some (iv (DE l (l.length+1) 0).1,h')) :
  ∃ h1,A7 Tryd.prog call n 27 [v] h=some (BG (C4 l).1 (C4 l).2,h1)∧∀ i,i<h.next→h1.get i=h.get i:=by
 refine EH (R:=fun h1=>∀ i,i<h.next→h1.get i=h.get i) Tryd.func27 rfl (by simp[Tryd.f27]) ?_
 have hr:Tryd.f27.results.toList=[.cell 2 36]:=rfl
 have hl22:∀ h',CX Tryd.prog h' 26 v=some (.int .i64 l.length):=fun h'=>hv.len
 have hold:∀ o:BC,∀ i,i<h.next→(h.push o).get i=h.get i:=fun o i hi=>AQ hi
 have hvp:=hv.mono (h':=h.push (.row [.int .i64 0,.int .i64 0] 36 false false)) (by show h.next≤h.next+1;omega) (hold _)
 have h73':=h73 _ hvp (by rw[hold _ 0 hn0];exact hg) (by show 0<h.next+1;omega) (by show h.floor≤h.next+1;omega)
 have hflT:(h.floor≤h.next)=True:=by simpa using hfl
 have hltT:(h.next<h.next+1)=True:=by simp
 have hvq:=fun o=>(hvp.mono (h':=(h.push (.row [.int .i64 0,.int .i64 0] 36 false false)).put h.next o) (by show h.next+1≤h.next+1;omega))
 have hle:=Cj (l:=l) (m:=l.length+1)
 unfold C4
 cases hs:I1 AY l with
 | some p=>
  unfold I1 at hs
  split at hs
  ·cases hs
  ·rename_i hc
   generalize FX AY l (l.length+1)=q at *
   cases hs
   cases q2:q.2 with
   | false=>
    rw[q2] at h73'
    simp only[eE,seval,↓eP,rP,hr,PR,DD,DF,h73',IY,YF,YB,CG,V6,hflT,hltT]
    intro i hi
    rw[if_neg (by omega),if_neg (by omega)]
   | true=>
    rw[q2] at h73' hc
    have c1:decide ((q.1:Int)<(l.length:Int))=true:=by
     simp only[decide_eq_true_eq]
     have:q.1≠l.length:=fun h=>hc ⟨rfl,h⟩
     omega
    simp only[eE,seval,↓eP,rP,hr,hl22,c1,PR,DD,DF,h73',IY,YF,YB,CG,V6,hflT,hltT]
    intro i hi
    rw[if_neg (by omega),if_neg (by omega)]
 | none=>
  have h74':=h74 hs _ hvp
  unfold I1 at hs
  split at hs
  ·rename_i hc
   generalize FX AY l (l.length+1)=q at *
   obtain⟨q2,q1⟩:=hc
   rw[q2] at h73'
   have c1:decide ((q.1:Int)<(l.length:Int))=false:=by simp only[decide_eq_false_iff_not];omega
   cases c2:decide ((DE l (l.length+1) 0).1>64) with
   | true=>
    rw[if_pos (by simpa using c2)]
    simp only[eE,seval,↓eP,rP,hr,hl22,c1,c2,PR,DD,DF,h73',h74',QH,YF,YB,CG,V6,hflT,hltT]
    intro i hi
    rw[if_neg (by omega),if_neg (by omega)]
   | false=>
    rw[if_neg (by simpa using c2)]
    simp only[eE,seval,↓eP,rP,hr,hl22,c1,c2,PR,DD,DF,h73',h74',FR,YF,YB,CG,V6,hflT,hltT]
    intro i hi
    rw[if_neg (by omega),if_neg (by omega)]
  ·cases hs
end
def DW (l:List AB) (at_ q:Nat):Prop:=(∃ m what,BK AY l m at_ what=(q,true))∨(at_=0∧∃ m,FX AY l m=(q,true))
def EW (l:List AB):Nat→Nat→Nat→Prop
 | 0,p,q=>p=q
 | r+1,p,q=>∃ p',DW l p p'∧p<p'∧p'≤l.length∧EW l r p' q
theorem Gl {l:List AB} {m:Nat} {κ:Int}:∀ r k p q,EJ (fun k next=>BK AY l m next (BL κ k)) r k p=(q,true)→EW l r p q:=by
 intro r
 induction r with
 | zero=>intro k p q h;exact congrArg (·.1) h
 | succ r ih=>
  intro k p q h
  unfold EJ at h
  split at h
  ·rename_i hc
   have hle:=SK (isName:=AY) (l:=l) m p (BL κ k) hc
   refine⟨(BK AY l m p (BL κ k)).1,.inl ⟨m,BL κ k,Prod.ext rfl hc⟩,hle.1,hle.2,ih _ _ _ h⟩
  ·cases h
theorem vD {l:List AB} {m:Nat}:∀ r ev p q,D9 AY l m r ev p=(q,true)→EW l r p q:=by
 intro r
 induction r with
 | zero=>intro ev p q h;exact congrArg (·.1) h
 | succ r ih=>
  intro ev p q h
  unfold D9 at h
  split at h
  ·rename_i hc
   have hle:=SK (isName:=AY) (l:=l) m p (GH ev l[p]?) hc
   exact⟨(BK AY l m p (GH ev l[p]?)).1,.inl ⟨m,_,Prod.ext rfl hc⟩,hle.1,hle.2,ih _ _ _ h⟩
  ·cases h
theorem IU {l:List AB}:∀ r p q,EW l r p q→p+r≤q:=by
 intro r
 induction r with
 | zero=>intro p q h;have:p=q:=h;omega
 | succ r ih=>intro p q ⟨p',_,h1,_,h2⟩;have:=ih _ _ h2;omega
theorem He {l:List AB}:∀ r p q,p≤l.length→EW l r p q→q≤l.length:=by
 intro r
 induction r with
 | zero=>intro p q hp h;have:p=q:=h;omega
 | succ r ih=>intro p q hp ⟨p',_,h1,h3,h2⟩;exact ih _ _ h3 h2
theorem DW.kids {l:List AB} {at_ q:Nat} (h:DW l at_ q):∃ x,l[at_]?=some x∧0≤x.kids∧(1≤x.kind∧x.kind≤54)∧EW l x.kids.toNat (at_+1) q:=by
 have kids0:∀ x,DK AY x=true→0≤x.kids:=fun x hf=>by
  unfold DK at hf
  simp only[Bool.and_eq_true,decide_eq_true_eq] at hf
  have:=QJ x.kind
  omega
 rcases h with⟨m,what,h⟩ | ⟨rfl,m,h⟩
 ·cases m with
  | zero=>cases h
  | succ m=>
   cases hx:l[at_]? with
   | none=>rw[fJ hx] at h;cases h
   | some x=>
    rw[YA hx] at h
    split at h
    ·rename_i hc
     simp only[Bool.and_eq_true] at hc
     exact⟨x,rfl,kids0 x hc.2,QX hc.1,Gl _ _ _ _ h⟩
    ·cases h
 ·cases hx:l[0]? with
  | none=>rw[dM hx] at h;cases h
  | some x=>
   rw[UY hx] at h
   split at h
   ·rename_i hc
    simp only[Bool.and_eq_true] at hc
    exact⟨x,rfl,kids0 x hc.2,QX hc.1,vD _ _ _ _ h⟩
   ·cases h
theorem DW.lt {l:List AB} {at_ q:Nat} (h:DW l at_ q):at_<q∧q≤l.length:=by
 obtain⟨x,hx,_,_,hc⟩:=h.kids
 have hlt:=(List.getElem?_eq_some_iff.1 hx).1
 have:=IU _ _ _ hc
 exact⟨by omega,He _ _ _ hlt hc⟩
theorem DW.unique {l:List AB}:∀ (n at_:Nat) {q q':Nat},l.length≤at_+n→DW l at_ q→DW l at_ q'→q=q':=by
 intro n
 induction n with
 | zero=>intro at_ q q' hn h h';have:=h.lt;omega
 | succ n ih=>
  intro at_ q q' hn h h'
  obtain⟨x,hx,_,_,hc⟩:=h.kids
  obtain⟨y,hy,_,_,hc'⟩:=h'.kids
  rw[hx] at hy
  cases hy
  have key:∀ r p a b,at_<p→EW l r p a→EW l r p b→a=b:=by
   intro r
   induction r with
   | zero=>intro p a b _ h1 h2;exact(show p=a from h1).symm.trans (show p=b from h2)
   | succ r ihr=>
    intro p a b hp ⟨p1,s1,_,_,c1⟩ ⟨p2,s2,_,_,c2⟩
    have:p1=p2:=ih p (by omega) s1 s2
    subst this
    have:=s1.lt
    exact ihr p1 a b (by omega) c1 c2
  exact key _ _ _ _ (by omega) hc hc'
theorem DW.cover {l:List AB}:∀ (n:Nat) {at_ q:Nat},q≤at_+n→DW l at_ q→∀ i,at_≤i→i<q→∃ qi,DW l i qi∧qi≤q:=by
 intro n
 induction n with
 | zero=>intro at_ q hn h;have:=h.lt;omega
 | succ n ih=>
  intro at_ q hn h i h1 h2
  rcases Nat.eq_or_lt_of_le h1 with rfl | h3
  ·exact⟨q,h,Nat.le_refl q⟩
  ·obtain⟨x,hx,_,_,hc⟩:=h.kids
   have key:∀ r p,at_<p→p≤i→EW l r p q→∃ qi,DW l i qi∧qi≤q:=by
    intro r
    induction r with
    | zero=>intro p _ hp hc;have:p=q:=hc;omega
    | succ r ihr=>
     intro p hp0 hp ⟨p',s,hlt,_,c⟩
     have hpq:=IU _ _ _ c
     rcases Nat.lt_or_ge i p' with h4 | h4
     ·obtain⟨qi,s1,s2⟩:=ih (by omega) s i hp h4
      exact⟨qi,s1,by omega⟩
     ·exact ihr p' (by omega) h4 c
   exact key _ _ (by omega) h3 hc
def CN (l:List AB):Prop:=DW l 0 l.length
theorem oM {l:List AB} (h:I1 AY l=none):CN l:=by
 unfold I1 at h
 split at h
 ·rename_i hc
  exact .inr ⟨rfl,l.length+1,Prod.ext hc.2 hc.1⟩
 ·cases h
theorem CN.pos {l:List AB} (h:CN l):0<l.length:=h.lt.1
theorem CN.sub {l:List AB} (h:CN l) {i:Nat} (hi:i<l.length):∃ q,DW l i q:=by
 obtain⟨q,hq,_⟩:=DW.cover l.length (by omega) h i (Nat.zero_le i) hi
 exact⟨q,hq⟩
open Classical in
noncomputable def AD (l:List AB) (i:Nat):Nat:=if h:∃ q,DW l i q then h.choose else 0
theorem I4 {l:List AB} {i q:Nat} (h:DW l i q):AD l i=q:=by
 unfold AD
 have hx:∃ q,DW l i q:=⟨q,h⟩
 rw[dif_pos hx]
 exact DW.unique l.length i (by omega) hx.choose_spec h
theorem CN.end {l:List AB} (h:CN l) {i:Nat} (hi:i<l.length):DW l i (AD l i):=by
 obtain⟨q,hq⟩:=h.sub hi
 rw[I4 hq]
 exact hq
noncomputable def BR (l:List AB):List Int:=(List.range l.length).map fun i=>(AD l i:Int)
theorem QG {l:List AB} {i:Nat} (hi:i<l.length):(BR l)[i]?=some (AD l i:Int):=by simp[BR,hi]
theorem T5 {l:List AB}:(BR l).length=l.length:=by simp[BR]
def ints (l:List Int):List Value:=l.map (.int .i64 ·)
theorem Y_ (l:List Int) (i:Nat):(ints l)[i]?=(l[i]?).map (.int .i64 ·):=by simp[ints]
theorem F7 (l:List Int):(ints l).length=l.length:=by simp[ints]
theorem OS (l:List Int):(ints l).all one=true:=by simp[ints,one]
theorem jW (l:List Int) (i:Nat) (x:Int):(ints l).set i (.int .i64 x)=ints (l.set i x):=by simp[ints,List.map_set]
theorem JC:GW Tryd.prog 3=some 8:=by kernel_rfl
theorem GO:DC Tryd.prog 3=some (.int .i64 0):=by kernel_rfl
theorem RZ:∀ n,BY [Value.int .i64 0] n=ints (List.replicate n 0)
 | 0=>rfl
 | n+1=>by rw[BY,RZ n];simp[ints,List.replicate_succ]
theorem oZ {h:AA} {n:Nat} (hn:n<30000000000000):HB Tryd.prog h 27 (.int .i64 (n:Int)) (.int .i64 (n:Int))=some (qS h.next n n,h.push (.row (ints (List.replicate n 0)) 3 false false)):=by
 have hz:(Value.int .i64 0).cells=#[.int .i64 0]:=rfl
 simp only[HB,Tryd.underlying27,CP,GO,JC,hz,WY]
 rw[if_pos (by simp;omega)]
 simp[RZ]
theorem FL {id n c i:Nat} (hi:i<n):CM Tryd.prog 27 (qS id n c) (.int .i64 (i:Int))=some (qP id i):=by
 simp only[CM,Tryd.underlying27,CP,CK]
 rw[if_pos (by omega)]
 simp
theorem NP {l:List Int} {i:Nat} {x:Int} {ty:TypeId} {g ro:Bool} (hx:l[i]?=some x):AJ i (.row (ints l) ty g ro)=some (.int .i64 x):=by
 simp[AJ,Y_,hx]
theorem aN {cs:List Value} {off:Nat} {v:Value} (h:off<cs.length):Go.Sx.lay cs off [v]=cs.set off v:=by
 apply List.ext_getElem?
 intro k
 rw[QA (by simp;omega),List.getElem?_set]
 by_cases hk:off=k
 ·subst hk
  simp[h]
 ·rw[if_neg (by simp;omega),if_neg hk]
theorem LH {h:AA} {id i:Nat} {l:List Int} {x:Int} {ty:TypeId} {g:Bool} (hg:h.get id=.row (ints l) ty g false) (hi:i<l.length) (hf:h.floor≤id):A9 Tryd.prog h 3 (qP id i) (.int .i64 x)=some (h.put id (.row (ints (l.set i x)) ty g false)):=by
 have hc:(Value.int .i64 x).cells=#[.int .i64 x]:=rfl
 simp only[A9,hc,CP,GB,hg]
 have hsz:(some 1:Option Nat)=some (#[Value.int .i64 x]:Array Value).size:=rfl
 rw[if_pos hsz,if_pos (by simp[one,F7];omega),aN (by rw[F7];exact hi),jW]
def NL (L l:List AB):Prop:=L.length=l.length∧∀ (i:Nat) x,l[i]?=some x→∃ y,L[i]?=some y∧y.kids=x.kids
theorem Co (l:List AB):NL l l:=⟨rfl,fun i x h=>⟨x,h,rfl⟩⟩
section
variable {call:AN} {n:Nat}
theorem pS {l L:List AB} {v:Value} {h:AA} (ht:CN l) (hsk:NL L l) (hv:A_ h v L) (hlen:l.length<30000000000000) (hn:l.length+3<n) (hfl:h.floor≤h.next) :
  ∃ h',A7 Tryd.prog call n 29 [v] h=some (qS h.next l.length l.length,h')∧(h'.get h.next=.row (ints (BR l)) 3 false false∧h'.next=h.next+1∧h'.floor=h.floor∧∀ i,i<h.next→h'.get i=h.get i):=by
 refine EH (R:=fun h'=>h'.get h.next=.row (ints (BR l)) 3 false false∧h'.next=h.next+1∧h'.floor=h.floor∧∀ i,i<h.next→h'.get i=h.get i) Tryd.func29 rfl (by simp[Tryd.f29]) ?_
 have hr:Tryd.f29.results.toList=[.tmp 2]:=rfl
 have hl22:∀ h',CX Tryd.prog h' 26 v=some (.int .i64 l.length):=fun h'=>by rw[← hsk.1];exact hv.len
 have hpos:=ht.pos
 have w0:IntKind.i64.wrap ((l.length:Int)-1)=(l.length:Int)-1:=C7 (by omega) (by omega)
 simp only[eE,seval,↓eP,rP,hr,hl22,oZ hlen,w0]
 refine WK.loop (fun j s=>s.T.get 0=v∧s.T.get 3=qS h.next l.length l.length∧s.T.get 4=iv ((l.length:Int)-1-(j:Int))∧s.h.next=h.next+1∧s.h.floor=h.floor∧(∀ i,i<h.next→s.h.get i=h.get i) ∧
  ∃ E:List Int,E.length=l.length∧s.h.get h.next=.row (ints E) 3 false false∧∀ i,l.length-j≤i→i<l.length→E[i]?=some (AD l i:Int)) l.length (by omega) ?_ ?_
 ·simp only[eE,seval,↓eP,rP]
  refine⟨by omega,fun i hi=>by rw[if_neg (by omega)],List.replicate l.length 0,by simp,rfl,fun i h1 h2=>by omega⟩
 ·rintro j ⟨T1,h1⟩ hj ⟨t0,t3,t4,hnx,hf1,hold,E,hE,hgE,hEv⟩
  simp only at t0 t3 t4 hnx hf1 hold hgE
  by_cases hlt:j<l.length
  ·obtain⟨at_,hat⟩:∃ a:Nat,(l.length:Int)-1-(j:Int)=(a:Int):=⟨l.length-1-j,by omega⟩
   have hatl:at_<l.length:=by omega
   rw[hat] at t4
   have c1:decide ((at_:Int)≥0)=true:=by simp
   have w1:=ET at_ (by omega)
   have w2:IntKind.i64.wrap ((at_:Int)-1)=(l.length:Int)-1-((j+1:Nat):Int):=by rw[C7 (by omega) (by omega)];omega
   have hsub:=ht.end hatl
   obtain⟨x,hx,hk0,hkk,hchain⟩:=hsub.kids
   have hv1:A_ h1 v L:=hv.mono (by omega) hold
   obtain⟨y,hy,hyk⟩:=hsk.2 at_ x hx
   obtain⟨id,q,e0,hid,l0,l1,l2,l3,l4,lr⟩:=hv1.row hy
   rw[hyk] at l4
   have hcl:=IU _ _ _ hchain
   have hel:=hsub.lt
   simp only[eE,seval,↓eP,rP,t0,t3,t4,c1,w1,e0,l4]
   refine WK.loop (fun k s=>s.h=h1∧s.T.get 0=v∧s.T.get 3=qS h.next l.length l.length∧s.T.get 4=iv at_∧s.T.get 23=iv k∧s.T.get 22=.int .i64 x.kids∧∃ p:Nat,s.T.get 5=iv p∧at_<p∧k≤x.kids.toNat∧EW l (x.kids.toNat-k) p (AD l at_)) x.kids.toNat (by omega) ?_ ?_
   ·simp only[eE,↓reduceIte,Nat.reduceEqDiff,reduceCtorEq,↓eP,rP,Nat.reduceAdd,Nat.reduceLT,t0,t3,t4]
    refine⟨rfl,at_+1,rfl,by omega,by rw[Nat.sub_zero];exact hchain⟩
   ·rintro k ⟨T2,h2⟩ hk ⟨rfl,u0,u3,u4,u23,u22,p,u5,hp,hkk2,hch⟩
    simp only at u0 u3 u4 u23 u22 u5
    by_cases hlt2:k<x.kids.toNat
    ·have c2:decide ((k:Int)<x.kids)=true:=by simp only[decide_eq_true_eq];omega
     obtain⟨r,hr1⟩:∃ r,x.kids.toNat-k=r+1:=⟨x.kids.toNat-k-1,by omega⟩
     rw[hr1] at hch
     obtain⟨p',s1,s2,s3,s4⟩:=hch
     have hEp:=hEv p (by omega) (by omega)
     rw[I4 s1] at hEp
     have w5:=ET k (by omega)
     simp only[eE,seval,↓eP,rP,u0,u3,u4,u23,u22,u5,c2,FL (show p<l.length by omega),hgE,NP hEp,w5]
     exact⟨hlt2,p',rfl,by omega,by omega,by rw[show x.kids.toNat-(k+1)=r by omega];exact s4⟩
    ·have c2:decide ((k:Int)<x.kids)=false:=by simp only[decide_eq_false_iff_not];omega
     rw[show x.kids.toNat-k=0 by omega] at hch
     have hpe:p=AD l at_:=hch
     have hst:=LH (x:=(p:Int)) hgE (show at_<E.length by omega) (by rw[hf1];exact hfl)
     have hnx':h2.next=h.next+1:=hnx
     have hltT:(h.next<h2.next)=True:=by rw[hnx'];simp
     simp only[eE,seval,↓eP,rP,u0,u3,u4,u23,u22,u5,c2,FL hatl,hst,w2,hltT]
     refine⟨hlt,hnx,hf1,fun i hi=>by rw[if_neg (by omega)];exact hold i hi,E.set at_ (p:Int),by rw[List.length_set];exact hE,rfl,fun i h1 h2=>?_⟩
     rw[List.getElem?_set]
     by_cases hia:at_=i
     ·subst hia
      rw[if_pos rfl,if_pos (by omega),hpe]
     ·rw[if_neg hia]
      exact hEv i (by omega) h2
  ·have c1:decide ((l.length:Int)-1-(j:Int)≥0)=false:=by simp only[decide_eq_false_iff_not];omega
   have hEe:E=BR l:=by
    apply List.ext_getElem?
    intro i
    by_cases hi:i<l.length
    ·rw[hEv i (by omega) hi,QG hi]
    ·rw[List.getElem?_eq_none (by omega),List.getElem?_eq_none (by rw[T5];omega)]
   subst hEe
   simp only[eE,seval,↓eP,rP,hr,t0,t3,t4,c1]
   exact⟨hgE,hnx,hf1,hold⟩
theorem uV {l:List AB} {v:Value} {h:AA} (ht:CN l) (hv:A_ h v l) (hlen:l.length<30000000000000) (hn:l.length+3<n) (hfl:h.floor≤h.next) :
  ∃ h',A7 Tryd.prog call n 29 [v] h=some (qS h.next l.length l.length,h')∧(h'.get h.next=.row (ints (BR l)) 3 false false∧h'.next=h.next+1∧h'.floor=h.floor∧∀ i,i<h.next→h'.get i=h.get i):=pS ht (Co l) hv hlen hn hfl
end
theorem MW {P:Program} {t:TypeId} {x y:Operand} {a b:ByteArray}:BU P .neq t x y (.string a) (.string b)=some (.bool (!(a==b))):=by
 have e:BA P (do eqGuard .neq t x y (.string a) (.string b);binOp .neq t (.string a) (.string b))=some (.bool (!(a==b))):=by
  rw[CE]
  have g:BA P (eqGuard .neq t x y (.string a) (.string b))=some ():=rfl
  rw[g,← nP]
  simp[binOp,Op.stringOp,Option.bind]
  rfl
 have hf:flat (.string a)=true:=rfl
 have hf2:flat (.string b)=true:=rfl
 simp only[BU,hf,hf2,KN,Bool.and_self,if_true,e]
section
variable {call:AN} {n:Nat} {h:AA}
abbrev CH (x:AB):Value:=.agg #[iv x.kind,.string x.name,iv x.ends,iv x.n,iv x.kids]
end
structure GC where
 name:ByteArray
 kind:Int
 num:Int
 known:Int
structure AK where
 rows:List AB
 queues:List (ByteArray × Bool)
 vars:List ByteArray
 tags:List ByteArray
 rules:List Int
 on:List Int
 miss:Int
 things:List GC
def F9 (l:List GC) (x:ByteArray):Option GC:=l.find? fun t=>x==t.name
def BW (s:AK) (k:Int):Nat:=if k=1 then s.queues.length else if k=2 then s.vars.length else if k=3 then s.tags.length else s.rules.length
def JF (k:Int):Int:=if k=1 then 16 else if k=2 then 16 else if k=3 then 4 else 64
def F8 (l:List AB) (at_:Nat) (n:Int):List AB:=match l[at_]? with
 | some x=>l.set at_ { x with n:=n }
 | none=>l
def E5 (at_:Nat) (end_:Int) (x:AB) (s:AK):AK:=
 let k:=BS x.kind
 { rows:=F8 s.rows at_ (BW s k)
   queues:=if k=1 then s.queues++[(x.name,x.kind==3)] else s.queues
   vars:=if k=2 then s.vars++[x.name] else s.vars
   tags:=if k=3 then s.tags++[x.name] else s.tags
   rules:=if k=4 then s.rules++[(at_:Int)+1] else s.rules
   on:=if k=1 then s.on++[-1] else s.on
   miss:=s.miss
   things:=s.things++[⟨x.name,k,BW s k,end_⟩] }
def FD (x:AB) (s:AK):Int:=
 if BS x.kind=0 then 0 else if (F9 s.things x.name).isSome=true then 31 else if (BW s (BS x.kind):Int)=JF (BS x.kind) then 3 else 0
def BO (at_:Nat) (end_:Int) (x:AB) (s:AK):AK:=if BS x.kind=0 then s else E5 at_ end_ x s
def DP (at_:Nat) (x:AB) (s:AK):Int:=
 if EK x.kind=0 then 0 else match F9 s.things x.name with
  | none=>32
  | some t=>if t.known>at_ then 32 else if t.kind≠EK x.kind then 33 else 0
def B8 (at_:Nat) (x:AB) (s:AK):AK:=
 if EK x.kind=0 then s else match F9 s.things x.name with
  | none=>s
  | some t=>{ s with rows:=F8 s.rows at_ t.num }
def FF (x:AB) (s:AK):Int:=
 if ID x.kind=false then 0 else if x.kind=10 then (if s.miss≥0 then 31 else 0) else match s.on[x.n.toNat]? with
  | some v=>if v≥0 then 31 else 0
  | none=>0
def EC (at_:Nat) (x:AB) (s:AK):AK:=
 if ID x.kind=false then s else if x.kind=10 then { s with miss:=(at_:Int)+1 } else { s with on:=s.on.set x.n.toNat ((at_:Int)+1) }
def C9 (l:List (ByteArray × Bool)):List Value:=l.flatMap fun q=>[.string q.1,.bool q.2]
def DA (l:List ByteArray):List Value:=l.map (.string ·)
def JJ (t:GC):Value × Value:=(.string t.name,.agg #[iv t.kind,iv t.num,iv t.known])
theorem O0:∀ l,(C9 l).length=l.length*2
 | []=>rfl
 | q :: l=>by
  have:=O0 l
  simp only[C9,List.flatMap_cons,List.length_append,List.length_cons,List.length_nil] at *
  omega
theorem fR:∀ l,(C9 l).all one=true
 | []=>rfl
 | q :: l=>by
  have:=fR l
  simp only[C9,List.flatMap_cons,List.all_append] at *
  rw[this]
  rfl
theorem XI (l:List ByteArray):(DA l).all one=true:=by simp[DA,one]
theorem WO (l:List ByteArray):(DA l).length=l.length:=by simp[DA]
theorem IW:∀ l:List AB,(l.flatMap AZ).length=l.length*5
 | []=>rfl
 | r :: l=>by
  have:=IW l
  rw[List.flatMap_cons,List.length_append,this]
  simp only[AZ,List.length_cons,List.length_nil]
  omega
theorem V8:∀ (l:List AB) (k:Nat),(l.flatMap AZ).drop (k*5)=(l.drop k).flatMap AZ
 | l,0=>by simp
 | [],k+1=>by simp
 | r :: l,k+1=>by
  rw[List.flatMap_cons,List.drop_succ_cons,← V8 l k,show (k+1)*5=5+k*5 by omega,← List.drop_drop]
  rfl
theorem O_ {l:List AB} {k:Nat} {r:AB} (h:l[k]?=some r):((l.flatMap AZ).drop (k*5)).take 5=AZ r:=by
 obtain⟨hl,rfl⟩:=List.getElem?_eq_some_iff.1 h
 rw[V8,List.drop_eq_getElem_cons hl,List.flatMap_cons]
 rfl
theorem Mz {h:AA} {r:Nat} {l:List AB} {c:Nat} (hg:h.get r=.row (l.flatMap AZ) 61 true false) (hr:r<h.next):A_ h (qS r l.length c) l:=
 ⟨_,_,rfl,.inr ⟨r,0,_,_,_,_,rfl,hg,hr,fun k x hx=>by rw[Nat.zero_add];exact O_ hx⟩⟩
theorem W8 {l:List AB} {k:Nat} {x:AB} {n:Int} (hx:l[k]?=some x):(l.flatMap AZ).set (k*5+3) (iv n)=(F8 l k n).flatMap AZ:=by
 unfold F8
 rw[hx]
 obtain⟨hl,rfl⟩:=List.getElem?_eq_some_iff.1 hx
 simp only
 clear hx
 induction l generalizing k with
 | nil=>simp at hl
 | cons a l ih=>
  cases k with
  | zero=>rfl
  | succ k=>
   simp only[List.length_cons,Nat.add_lt_add_iff_right] at hl
   have:=ih hl
   rw[List.flatMap_cons,List.set_cons_succ,List.flatMap_cons,List.getElem_cons_succ,← this]
   rw[List.set_append_right _ _ (by simp[AZ];omega)]
   congr 2
   simp only[AZ,List.length_cons,List.length_nil]
   omega
theorem QB {l:List AB} {k:Nat} {n:Int}:(F8 l k n).length=l.length:=by
 unfold F8
 split
 ·simp
 ·rfl
def FK (h:AA) (lo:Nat) (tag:Nat→Nat) (j:Nat) (v:Value) (n:Nat) (cs:List Value) (ty:TypeId):Prop:=
 (n=0∧cs=[]∧v=Z0)∨∃ id ex,v=qS id n AP∧h.get id=.row (cs++ex) ty true false∧lo≤id∧id<h.next∧tag id=j
theorem FK.mono {h h':AA} {lo:Nat} {tag tag':Nat→Nat} {j:Nat} {v:Value} {n:Nat} {cs:List Value} {ty:TypeId} (hs:FK h lo tag j v n cs ty) (hn:h.next≤h'.next) (ht:∀ i,i<h.next→tag' i=tag i)
  (hg:∀ i,lo≤i→i<h.next→tag i=j→h'.get i=h.get i):FK h' lo tag' j v n cs ty:=by
 rcases hs with h1 | ⟨id,ex,h1,h2,h3,h4,h5⟩
 ·exact .inl h1
 ·exact .inr ⟨id,ex,h1,by rw[hg id h3 h4 h5];exact h2,h3,by omega,by rw[ht id h4];exact h5⟩
theorem FK.mono' {h:AA} {lo:Nat} {tag tag':Nat→Nat} {j:Nat} {v:Value} {n:Nat} {cs:List Value} {ty:TypeId} (hs:FK h lo tag j v n cs ty) (ht:∀ i,i<h.next→tag' i=tag i∨tag i≠j):FK h lo tag' j v n cs ty:=by
 rcases hs with h1 | ⟨id,ex,h1,h2,h3,h4,h5⟩
 ·exact .inl h1
 ·refine .inr ⟨id,ex,h1,h2,h3,h4,?_⟩
  rcases ht id h4 with h | h
  ·rw[h];exact h5
  ·exact absurd h5 h
theorem TF {h:AA} {lo:Nat} {tag:Nat→Nat} {j:Nat} {ty:TypeId}:FK h lo tag j (Z0) 0 [] ty:=.inl ⟨rfl,rfl,rfl⟩
theorem PW {t et:TypeId} {w bb:Nat} {z:Value} (hu:Tryd.prog.underlying t=some (.slice et)) (hsz:BN Tryd.prog et=some w) (hby:GW Tryd.prog et=some bb) (hzo:DC Tryd.prog et=some z) (hz:z.cells.size=w) (hw:0<w) (hbb:bb≤48)
  {lo:Nat} {h:AA} {tag:Nat→Nat} {j:Nat} {v:Value} {n:Nat} {cs xs:List Value} {c:Nat} (hs:FK h lo tag j v n cs et) (hcl:cs.length=n*w) (hco:cs.all one=true) (hxl:xs.length=c*w) (hxo:xs.all one=true) (hc:0<c) (hcb:c<2) (hnb:n<2932031007402)
  {src:Nat} {g ro:Bool} {sc:Nat} (hsrc:h.get src=.row xs et g ro) (hsl:src<h.next) (hfl:h.floor≤lo) (hts:¬ (lo≤src∧tag src=j)) :
  ∃ v' h',C_ Tryd.prog h t v (qS src c sc)=some (v',h')∧(FK h' lo (fun i=>if i=h.next then j else tag i) j v' (n+c) (cs++xs) et∨¬ lo≤h.next)∧h'.floor=h.floor∧h'.next=h.next+1∧one v'=true∧v'.cells=#[v']∧∀ i,i<h.next→¬ (lo≤i∧tag i=j)→h'.get i=h.get i:=by
 have hsc:DB h w c (qS src c sc)=some xs:=by
  have hc0:c≠0:=by omega
  simp[DB,hsrc,FI,hc0,hxl]
  rw[List.take_of_length_le (by omega)]
 have hbz:∀ m,m<2932031007403→m*bb≤140737488355328:=fun m hm=>by
  have h1:m*bb≤m*48:=Nat.mul_le_mul_left m hbb
  omega
 rcases hs with⟨rfl,rfl,rfl⟩ | ⟨id,ex,rfl,hg,hid,hidn,htid⟩
 ·refine⟨qS h.next c AP,h.push (.row xs et true false),?_,?_,rfl,rfl,rfl,rfl,fun i hi _=>AQ hi⟩
  ·have hunk:(0:Nat)≠AP:=by unfold AP;omega
   have h0:DB h w 0 (Z0)=some []:=by simp[DB]
   have e1:¬ (c≤0):=by omega
   have e2:c*bb≤140737488355328:=hbz c (by omega)
   have e3:c≤140737488355328:=by omega
   simp only[C_,hu,hsz,hby,hzo,hz,hsc,hxo,hunk,h0,hw,e1,e2,e3,decide_true,beq_self_eq_true,Bool.and_self,if_true,if_false,Nat.le_refl,Nat.zero_add,Nat.zero_mul,Nat.zero_le,List.nil_append]
  ·by_cases hl:lo≤h.next
   ·refine .inl (.inr ⟨h.next,[],by rw[Nat.zero_add],?_,hl,by show h.next<h.next+1;omega,by simp⟩)
    rw[BM,List.append_nil,List.nil_append]
   ·exact .inr hl
 ·have e1:(n+c)*bb≤140737488355328:=hbz _ (by omega)
  have e2:n+c≤140737488355328:=by omega
  have e3:h.floor≤id:=by omega
  have e4:n≤AP:=by unfold AP;omega
  have e5:c≠0:=by omega
  have hcut:FI (cs++ex) 0 (n*w)=some cs:=by
   simp only[FI,List.drop_zero]
   rw[List.take_append_of_le_length (by omega),List.take_of_length_le (by omega),if_pos hcl]
  refine⟨qS h.next (n+c) AP,(h.put id .dead).push (.row (cs++xs) et true false),?_,.inl (.inr ⟨h.next,[],rfl,?_,by omega,by show h.next<h.next+1;omega,by simp⟩),rfl,rfl,rfl,rfl,fun i hi hne=>?_⟩
  ·simp only[C_,hu,hsz,hby,hzo,hz,hsc,hxo,e1,e2,e3,e4,hg,hcut,hco,decide_true,Bool.and_self,beq_self_eq_true,hw,if_true,e5,if_false]
  ·rw[List.append_nil]
   exact BM
  ·rw[AQ (by exact hi),AX (by omega) (fun e=>hne (by subst e;exact⟨hid,htid⟩))]
structure KT (h:AA) (lo:Nat) (tag:Nat→Nat) (r n:Nat) (vq vv vt vu vo:Value) (s:AK):Prop where
 rows:h.get r=.row (s.rows.flatMap AZ) 61 true false
 len:s.rows.length=n
 tr:tag r=1
 lr:lo≤r∧r<h.next
 q:FK h lo tag 2 vq s.queues.length (C9 s.queues) 102
 v:FK h lo tag 3 vv s.vars.length (DA s.vars) 9
 t:FK h lo tag 4 vt s.tags.length (DA s.tags) 9
 u:FK h lo tag 5 vu s.rules.length (ints s.rules) 3
 o:FK h lo tag 6 vo s.on.length (ints s.on) 3
theorem KT.mono {h h':AA} {lo:Nat} {tag tag':Nat→Nat} {r n:Nat} {vq vv vt vu vo:Value} {s:AK} (hp:KT h lo tag r n vq vv vt vu vo s) (hn:h.next≤h'.next) (ht:∀ i,i<h.next→tag' i=tag i)
  (hg:∀ i,lo≤i→i<h.next→1≤tag i→tag i≤6→h'.get i=h.get i):KT h' lo tag' r n vq vv vt vu vo s where
 rows:=by rw[hg r hp.lr.1 hp.lr.2 (by rw[hp.tr];omega) (by rw[hp.tr];omega)];exact hp.rows
 len:=hp.len
 tr:=by rw[ht r hp.lr.2];exact hp.tr
 lr:=⟨hp.lr.1,by have:=hp.lr.2;omega⟩
 q:=hp.q.mono hn ht fun i h1 h2 h3=>hg i h1 h2 (by omega) (by omega)
 v:=hp.v.mono hn ht fun i h1 h2 h3=>hg i h1 h2 (by omega) (by omega)
 t:=hp.t.mono hn ht fun i h1 h2 h3=>hg i h1 h2 (by omega) (by omega)
 u:=hp.u.mono hn ht fun i h1 h2 h3=>hg i h1 h2 (by omega) (by omega)
 o:=hp.o.mono hn ht fun i h1 h2 h3=>hg i h1 h2 (by omega) (by omega)
theorem KT.at {h:AA} {lo:Nat} {tag:Nat→Nat} {r n:Nat} {vq vv vt vu vo:Value} {s:AK} (hp:KT h lo tag r n vq vv vt vu vo s):A_ h (qS r n AP) s.rows:=by
 have:=Mz (c:=AP) hp.rows hp.lr.2
 rw[hp.len] at this
 exact this
theorem d9:∀ (l:List GC) (x:ByteArray),JQ (.string x) (l.map JJ)=some ((F9 l x).map fun t=>.agg #[iv t.kind,iv t.num,iv t.known])
 | [],x=>rfl
 | t :: l,x=>by
  simp only[List.map_cons,JQ,JJ,JE,F9,List.find?_cons]
  cases hb:(x==t.name) with
  | true=>rfl
  | false=>exact d9 l x
theorem fZ:∀ (l:List GC) (x:ByteArray) (v:Value),F9 l x=none→GA (.string x) v (l.map JJ)=l.map JJ++[(.string x,v)]
 | [],x,v,_=>rfl
 | t :: l,x,v,hf=>by
  simp only[F9,List.find?_cons] at hf
  cases hb:(x==t.name) with
  | true=>rw[hb] at hf;cases hf
  | false=>
   rw[hb] at hf
   have:=fZ l x v hf
   simp only[List.map_cons,JJ,GA,JE,hb,Option.some.injEq,Bool.false_eq_true,if_false,List.cons_append]
   rw[← this]
def WT (es:List (Value × Value)):Prop:=∀ p∈es,∃ j:Int,p.1=iv j
theorem l_:∀ (es:List (Value × Value)) (k k':Int) (v:Value),WT es→JQ (iv k) (GA (iv k') v es)=if k=k' then some (some v) else JQ (iv k) es
 | [],k,k',v,_=>by
  simp only[GA,JQ,JE,if_true]
  by_cases hk:k=k'
  ·subst hk;simp
  ·have:(k==k')=false:=by simpa using hk
   rw[this,if_neg hk]
 | (x,u) :: es,k,k',v,hi=>by
  obtain⟨j,hj⟩:=hi (x,u) (by simp)
  simp only at hj
  subst hj
  have ih:=l_ es k k' v fun p hp=>hi p (by simp[hp])
  simp only[GA,JE,if_true,Option.some.injEq,beq_iff_eq]
  by_cases hkj:k'=j
  ·subst hkj
   rw[if_pos rfl]
   simp only[JQ,JE,if_true]
   by_cases hk:k=k'
   ·subst hk;simp
   ·have:(k==k')=false:=by simpa using hk
    rw[this,if_neg hk]
  ·rw[if_neg hkj]
   simp only[JQ,JE,if_true]
   cases hb:(k==j) with
   | true=>
    have:k=j:=by simpa using hb
    subst this
    rw[if_neg (fun e=>hkj e.symm)]
   | false=>exact ih
theorem jU:∀ (es:List (Value × Value)) (k:Int) (v:Value),WT es→WT (GA (iv k) v es)
 | [],k,v,_=>by intro p hp;simp[GA] at hp;exact⟨k,by rw[hp]⟩
 | (x,u) :: es,k,v,hi=>by
  have ih:=jU es k v fun p hp=>hi p (by simp[hp])
  intro p hp
  simp only[GA] at hp
  split at hp
  ·simp only[List.mem_cons] at hp
   rcases hp with rfl | hp
   ·exact⟨k,rfl⟩
   ·exact hi p (by simp[hp])
  ·simp only[List.mem_cons] at hp
   rcases hp with rfl | hp
   ·exact hi _ (by simp)
   ·exact ih p hp
def RJ (es:List (Value × Value)) (s:AK):Prop:=WT es∧∀ k:Int,1≤k→k≤4→JQ (iv k) es=some (if BW s k=0 then none else some (iv (BW s k:Int)))
theorem i6:BN Tryd.prog 26=some 1:=by kernel_rfl
theorem ZH:BN Tryd.prog 30=some 1:=by kernel_rfl
theorem Q6:BN Tryd.prog 31=some 1:=by kernel_rfl
theorem LU:BN Tryd.prog 27=some 1:=by kernel_rfl
theorem HM:BN Tryd.prog 33=some 8:=by kernel_rfl
theorem QT:BN Tryd.prog 102=some 2:=by kernel_rfl
theorem Kt:BN Tryd.prog 65=some 1:=by kernel_rfl
theorem wV:BN Tryd.prog 66=some 1:=by kernel_rfl
theorem uL:BN Tryd.prog 67=some 1:=by kernel_rfl
theorem Dm:BN Tryd.prog 69=some 10:=by kernel_rfl
theorem g9:BN Tryd.prog 97=some 2:=by kernel_rfl
theorem oO:BN Tryd.prog 99=some 3:=by kernel_rfl
theorem uG:FM Tryd.prog 26=some false:=by kernel_rfl
theorem Oi:FM Tryd.prog 30=some false:=by kernel_rfl
theorem Ct:FM Tryd.prog 31=some false:=by kernel_rfl
theorem Jd:FM Tryd.prog 27=some false:=by kernel_rfl
theorem tS:FM Tryd.prog 33=some true:=by kernel_rfl
theorem vF:FM Tryd.prog 65=some false:=by kernel_rfl
theorem zH:FM Tryd.prog 66=some false:=by kernel_rfl
theorem Gv:FM Tryd.prog 67=some false:=by kernel_rfl
theorem Hh:FM Tryd.prog 97=some true:=by kernel_rfl
theorem WJ:GW Tryd.prog 9=some 16:=by kernel_rfl
theorem R3:GW Tryd.prog 61=some 48:=by kernel_rfl
theorem tE:GW Tryd.prog 102=some 24:=by kernel_rfl
theorem TC:DC Tryd.prog 9=some (.string ByteArray.empty):=by kernel_rfl
theorem RK:DC Tryd.prog 102=some (.agg #[.string ByteArray.empty,.bool false]):=by kernel_rfl
theorem SL:DC Tryd.prog 99=some (.agg #[iv 0,iv 0,iv 0]):=by kernel_rfl
theorem Lu:DC Tryd.prog 97=some (.agg #[iv 0,iv 0]):=by kernel_rfl
theorem Bu:DC Tryd.prog 33=some (.agg #[.string ByteArray.empty,Z0,Z0,Z0,Z0,Z0,Z0,iv 0]):=by kernel_rfl
section
variable {h:AA} {id off:Nat}
theorem CL:EL Tryd.prog h 26 (qP id off)=AJ off (h.get id):=K8 uG
theorem GG:EL Tryd.prog h 30 (qP id off)=AJ off (h.get id):=K8 Oi
theorem KF:EL Tryd.prog h 31 (qP id off)=AJ off (h.get id):=K8 Ct
theorem DG:EL Tryd.prog h 27 (qP id off)=AJ off (h.get id):=K8 Jd
theorem S0:EL Tryd.prog h 65 (qP id off)=AJ off (h.get id):=K8 vF
theorem cD:EL Tryd.prog h 66 (qP id off)=AJ off (h.get id):=K8 zH
theorem qW:EL Tryd.prog h 67 (qP id off)=AJ off (h.get id):=K8 Gv
theorem CT:EL Tryd.prog h 33 (qP id off)=AW 8 off (h.get id):=M3 tS HM
theorem mK:EL Tryd.prog h 97 (qP id off)=AW 2 off (h.get id):=M3 Hh g9
theorem IX:BJ Tryd.prog 69 (qP id off) 0=some (qP id off):=by simp[BJ,Tryd.underlying69,HM,CK]
theorem ZU:BJ Tryd.prog 69 (qP id off) 1=some (qP id (off+8)):=by simp[BJ,Tryd.underlying69,wV,CK]
theorem jC:BJ Tryd.prog 69 (qP id off) 2=some (qP id (off+9)):=by simp[BJ,Tryd.underlying69,uL,CK]
theorem MI:BJ Tryd.prog 33 (qP id off) 0=some (qP id off):=by simp[BJ,Tryd.underlying33,M4,CK]
theorem CJ:BJ Tryd.prog 33 (qP id off) 1=some (qP id (off+1)):=by simp[BJ,Tryd.underlying33,i6,CK]
theorem GM:BJ Tryd.prog 33 (qP id off) 2=some (qP id (off+2)):=by simp[BJ,Tryd.underlying33,ZH,CK]
theorem K7:BJ Tryd.prog 33 (qP id off) 3=some (qP id (off+3)):=by simp[BJ,Tryd.underlying33,Q6,CK]
theorem KW:BJ Tryd.prog 33 (qP id off) 4=some (qP id (off+4)):=by simp[BJ,Tryd.underlying33,Q6,CK]
theorem KY:BJ Tryd.prog 33 (qP id off) 5=some (qP id (off+5)):=by simp[BJ,Tryd.underlying33,LU,CK]
theorem K4:BJ Tryd.prog 33 (qP id off) 6=some (qP id (off+6)):=by simp[BJ,Tryd.underlying33,LU,CK]
theorem KL:BJ Tryd.prog 33 (qP id off) 7=some (qP id (off+7)):=by simp[BJ,Tryd.underlying33,CP,CK]
theorem jE:BJ Tryd.prog 99 (qP id off) 0=some (qP id off):=by simp[BJ,Tryd.underlying99,g9,CK]
theorem ZZ:BJ Tryd.prog 99 (qP id off) 1=some (qP id (off+2)):=by simp[BJ,Tryd.underlying99,CP,CK]
theorem sL:BJ Tryd.prog 97 (qP id off) 1=some (qP id (off+1)):=by simp[BJ,Tryd.underlying97,CP,CK]
theorem NI:BJ Tryd.prog 102 (qP id off) 1=some (qP id (off+1)):=by simp[BJ,Tryd.underlying102,O4,CK]
theorem N7 {n c i:Nat} (hi:i<n):CM Tryd.prog 26 (qS id n c) (iv (i:Int))=some (.pointer (some ⟨id,i*5,none⟩)):=by
 simp only[CM,Tryd.underlying26,GJ,CK]
 rw[if_pos (by omega)]
 simp
theorem HD {t:TypeId} {v:Value} {cs:List Value} {ty:TypeId} {g:Bool} (ht:BN Tryd.prog t=some 1) (hv:v.cells=#[v]) (ho:one v=true) (hg:h.get id=.row cs ty g false) (hi:off<cs.length) (hf:h.floor≤id):A9 Tryd.prog h t (qP id off) v=some (h.put id (.row (cs.set off v) ty g false)):=by
 have hsz:(some 1:Option Nat)=some (#[v]:Array Value).size:=rfl
 simp only[A9,hv,ht,GB,hg]
 rw[if_pos hsz,if_pos (by simp[ho];omega),aN hi]
end
theorem d_:HW Tryd.prog (match Tryd.prog.underlying 102 with | some (.struct fs)=>fs.toList | _=>[])=some [(0,1),(1,1)]:=by kernel_rfl
theorem Cs:HW Tryd.prog (match Tryd.prog.underlying 97 with | some (.struct fs)=>fs.toList | _=>[])=some [(0,1),(1,1)]:=by kernel_rfl
theorem xN:HW Tryd.prog (match Tryd.prog.underlying 99 with | some (.struct fs)=>fs.toList | _=>[])=some [(0,2),(2,1)]:=by kernel_rfl
theorem nS {a b:Value}:flat (.agg #[a,b])=(BI a&&(BI b&&true)):=by simp[flat]
theorem jL {a b c:Value}:flat (.agg #[a,b,c])=(BI a&&(BI b&&(BI c&&true))):=by simp[flat]
theorem x_ {nm:ByteArray} {g:Bool}:C1 Tryd.prog 102 [(0,.string nm),(1,.bool g)]=some (.agg #[.string nm,.bool g]):=by
 have h:=d_
 rw[Tryd.underlying102] at h
 simp only at h
 simp only[C1,RK,nS,Eg,zP,Bool.and_self,if_true,Tryd.underlying102,h]
 rfl
theorem bV {a b:Int}:C1 Tryd.prog 97 [(0,iv a),(1,iv b)]=some (.agg #[iv a,iv b]):=by
 have h:=Cs
 rw[Tryd.underlying97] at h
 simp only at h
 simp only[C1,Lu,nS,PR,Bool.and_self,if_true,Tryd.underlying97,h]
 rfl
theorem Gp {a b c:Int}:C1 Tryd.prog 99 [(0,.agg #[iv a,iv b]),(1,iv c)]=some (.agg #[iv a,iv b,iv c]):=by
 have h:=xN
 rw[Tryd.underlying99] at h
 simp only at h
 simp only[C1,SL,jL,PR,Bool.and_self,if_true,Tryd.underlying99,h]
 rfl
section
variable {h:AA}
theorem Bv {nm:ByteArray} {g:Bool}:FC Tryd.prog h 30 1 [(0,.agg #[.string nm,.bool g])]=some (qS h.next 1 1,h.push (.row [.string nm,.bool g] 102 false false)):=by
 simp[FC,Tryd.underlying30,QT,RK,flat,BI,MT,IS,BY,Go.Sx.lay]
theorem pJ {nm:ByteArray}:FC Tryd.prog h 31 1 [(0,.string nm)]=some (qS h.next 1 1,h.push (.row [.string nm] 9 false false)):=by
 have hc:∀ x,(Value.string x).cells=#[.string x]:=fun _=>rfl
 simp[FC,Tryd.underlying31,M4,TC,flat,BI,hc,IS,BY,Go.Sx.lay]
theorem N5 {x:Int}:FC Tryd.prog h 27 1 [(0,iv x)]=some (qS h.next 1 1,h.push (.row [iv x] 3 false false)):=by
 have hc:∀ x:Int,(iv x).cells=#[iv x]:=fun _=>rfl
 simp[FC,Tryd.underlying27,CP,GO,flat,BI,hc,IS,BY,Go.Sx.lay]
theorem mZ {k:Nat} {l:List GC} {x:ByteArray} (hg:h.get k=.map (l.map JJ)):O3 Tryd.prog h 66 (.map (some k)) (.string x) true=some (match F9 l x with
  | some t=>.tuple #[.agg #[iv t.kind,iv t.num,iv t.known],.bool true]
  | none=>.tuple #[.agg #[iv 0,iv 0,iv 0],.bool false]):=by
 have hk:MD Tryd.prog 9 (.string x)=true:=by simp[MD,Tryd.underlying9]
 simp only[O3,Tryd.underlying66,hk,hg,d9,if_true]
 cases F9 l x with
 | some t=>rfl
 | none=>
  simp only[Option.map_none,SL,jL,PR,Bool.and_self,if_true]
theorem vX {k:Nat} {l:List GC} {x:ByteArray} {a b c:Int} (hg:h.get k=.map (l.map JJ)) (hf:F9 l x=none) (hfl:h.floor≤k):MG Tryd.prog h 66 (.map (some k)) (.string x) (.agg #[iv a,iv b,iv c])=some (h.put k (.map ((l++[(⟨x,a,b,c⟩:GC)]).map JJ))):=by
 have hk:MD Tryd.prog 9 (.string x)=true:=by simp[MD,Tryd.underlying9]
 simp only[MG,Tryd.underlying66,hk,hg,d9,decide_eq_true hfl,Bool.and_self,if_true,fZ _ _ _ hf,List.map_append,List.map_cons,List.map_nil,JJ]
theorem Gc {c:Nat} {es:List (Value × Value)} {s:AK} {k:Int} (hg:h.get c=.map es) (hm:RJ es s) (h1:1≤k) (h4:k≤4):O3 Tryd.prog h 67 (.map (some c)) (iv k) false=some (iv (BW s k:Int)):=by
 have hk:MD Tryd.prog 3 (iv k)=true:=by simp[MD,Tryd.underlying3]
 simp only[O3,Tryd.underlying67,hk,hg,hm.2 k h1 h4,if_true]
 by_cases h0:BW s k=0
 ·rw[if_pos h0,h0]
  simp only[GO,WY,if_true,Bool.false_eq_true,if_false]
  rfl
 ·rw[if_neg h0]
  simp only[Bool.false_eq_true,if_false]
theorem tQ {c:Nat} {es:List (Value × Value)} {s:AK} {k:Int} {v:Value} (hg:h.get c=.map es) (hm:RJ es s) (h1:1≤k) (h4:k≤4) (hfl:h.floor≤c):MG Tryd.prog h 67 (.map (some c)) (iv k) v=some (h.put c (.map (GA (iv k) v es))):=by
 have hk:MD Tryd.prog 3 (iv k)=true:=by simp[MD,Tryd.underlying3]
 simp only[MG,Tryd.underlying67,hk,hg,hm.2 k h1 h4,decide_eq_true hfl,Bool.and_self,if_true]
end
structure BQ (h:AA) (lo m k c e r n:Nat) (nm:ByteArray) (E:List Int) (tag:Nat→Nat) (vq vv vt vu vo:Value) (es:List (Value × Value)) (s:AK):Prop where
 cell:h.get m=.row [.string nm,qS r n AP,vq,vv,vt,vu,vo,iv s.miss,.map (some k),.map (some c)] 69 false false
 pol:KT h lo tag r n vq vv vt vu vo s
 known:h.get k=.map (s.things.map JJ)
 many:h.get c=.map es
 ends:h.get e=.row (ints E) 3 false false
 tm:tag m=0
 tk:tag k=8
 tc:tag c=9
 te:tag e=10
 lm:lo≤m∧m<h.next
 lk:lo≤k∧k<h.next
 lc:lo≤c∧c<h.next
 le:lo≤e∧e<h.next
 fl:h.floor≤lo
section
variable {h h':AA} {lo m k c e r n:Nat} {nm:ByteArray} {E:List Int} {tag tag':Nat→Nat} {vq vv vt vu vo:Value} {es:List (Value × Value)} {s s':AK}
theorem OU {a i:Nat} (hl:lo≤a) (ht:tag a≤10) (hi:i<lo∨(i<h.next∧11≤tag i)):a≠i:=by
 rintro rfl
 omega
theorem GU {a b:Nat} (h:tag a≠tag b):a≠b:=fun e=>h (by rw[e])
theorem BQ.mono (hp:BQ h lo m k c e r n nm E tag vq vv vt vu vo es s) (hn:h.next≤h'.next) (hf:h'.floor=h.floor) (ht:∀ i,i<h.next→tag' i=tag i)
  (hg:∀ i,lo≤i→i<h.next→h'.get i=h.get i):BQ h' lo m k c e r n nm E tag' vq vv vt vu vo es s where
 cell:=by rw[hg m hp.lm.1 hp.lm.2];exact hp.cell
 pol:=hp.pol.mono hn ht fun i h1 h2 _ _=>hg i h1 h2
 known:=by rw[hg k hp.lk.1 hp.lk.2];exact hp.known
 many:=by rw[hg c hp.lc.1 hp.lc.2];exact hp.many
 ends:=by rw[hg e hp.le.1 hp.le.2];exact hp.ends
 tm:=by rw[ht m hp.lm.2];exact hp.tm
 tk:=by rw[ht k hp.lk.2];exact hp.tk
 tc:=by rw[ht c hp.lc.2];exact hp.tc
 te:=by rw[ht e hp.le.2];exact hp.te
 lm:=⟨hp.lm.1,by have:=hp.lm.2;omega⟩
 lk:=⟨hp.lk.1,by have:=hp.lk.2;omega⟩
 lc:=⟨hp.lc.1,by have:=hp.lc.2;omega⟩
 le:=⟨hp.le.1,by have:=hp.le.2;omega⟩
 fl:=by rw[hf];exact hp.fl
theorem BQ.push (hp:BQ h lo m k c e r n nm E tag vq vv vt vu vo es s) (o:BC):BQ (h.push o) lo m k c e r n nm E tag vq vv vt vu vo es s:=
 hp.mono (by show h.next≤h.next+1;omega) rfl (fun _ _=>rfl) fun i _ hi=>AQ hi
theorem BQ.putNew (hp:BQ h lo m k c e r n nm E tag vq vv vt vu vo es s) {o o':BC}:BQ ((h.push o').put h.next o) lo m k c e r n nm E tag vq vv vt vu vo es s:=
 hp.mono (by show h.next≤h.next+1;omega) rfl (fun _ _=>rfl) fun i _ hi=>by rw[AX (by show h.next<h.next+1;omega) (by omega),AQ hi]
theorem BQ.putC (hp:BQ h lo m k c e r n nm E tag vq vv vt vu vo es s) (es':List (Value × Value)):BQ (h.put c (.map es')) lo m k c e r n nm E tag vq vv vt vu vo es' s where
 cell:=by rw[AX hp.lc.2 (GU (tag:=tag) (by rw[hp.tm,hp.tc];decide))];exact hp.cell
 pol:=hp.pol.mono (Nat.le_refl _) (fun _ _=>rfl) fun i _ _ h1 h2=>AX hp.lc.2 (GU (tag:=tag) (by rw[hp.tc];omega))
 known:=by rw[AX hp.lc.2 (GU (tag:=tag) (by rw[hp.tk,hp.tc];decide))];exact hp.known
 many:=B0 rfl hp.lc.2
 ends:=by rw[AX hp.lc.2 (GU (tag:=tag) (by rw[hp.te,hp.tc];decide))];exact hp.ends
 tm:=hp.tm
 tk:=hp.tk
 tc:=hp.tc
 te:=hp.te
 lm:=hp.lm
 lk:=hp.lk
 lc:=hp.lc
 le:=hp.le
 fl:=hp.fl
theorem BQ.putK (hp:BQ h lo m k c e r n nm E tag vq vv vt vu vo es s) (l:List GC):BQ (h.put k (.map (l.map JJ))) lo m k c e r n nm E tag vq vv vt vu vo es { s with things:=l } where
 cell:=by rw[AX hp.lk.2 (GU (tag:=tag) (by rw[hp.tm,hp.tk];decide))];exact hp.cell
 pol:=by
  have:=hp.pol.mono (h':=h.put k (.map (l.map JJ))) (Nat.le_refl _) (fun _ _=>rfl) fun i _ _ h1 h2=>AX hp.lk.2 (GU (tag:=tag) (by rw[hp.tk];omega))
  exact⟨this.rows,this.len,this.tr,this.lr,this.q,this.v,this.t,this.u,this.o⟩
 known:=B0 rfl hp.lk.2
 many:=by rw[AX hp.lk.2 (GU (tag:=tag) (by rw[hp.tc,hp.tk];decide))];exact hp.many
 ends:=by rw[AX hp.lk.2 (GU (tag:=tag) (by rw[hp.te,hp.tk];decide))];exact hp.ends
 tm:=hp.tm
 tk:=hp.tk
 tc:=hp.tc
 te:=hp.te
 lm:=hp.lm
 lk:=hp.lk
 lc:=hp.lc
 le:=hp.le
 fl:=hp.fl
theorem BQ.pol' (hp:BQ h lo m k c e r n nm E tag vq vv vt vu vo es s) {vq' vv' vt' vu' vo':Value} (hn:h.next≤h'.next) (hf:h'.floor=h.floor) (ht:∀ i,i<h.next→tag' i=tag i)
  (hg:∀ i,lo≤i→i<h.next→8≤tag i→h'.get i=h.get i) (hc:h'.get m=.row [.string nm,qS r n AP,vq',vv',vt',vu',vo',iv s'.miss,.map (some k),.map (some c)] 69 false false)
  (hp':KT h' lo tag' r n vq' vv' vt' vu' vo' s') (hth:s'.things=s.things):BQ h' lo m k c e r n nm E tag' vq' vv' vt' vu' vo' es s' where
 cell:=hc
 pol:=hp'
 known:=by rw[hg k hp.lk.1 hp.lk.2 (by rw[hp.tk];omega),hth];exact hp.known
 many:=by rw[hg c hp.lc.1 hp.lc.2 (by rw[hp.tc];omega)];exact hp.many
 ends:=by rw[hg e hp.le.1 hp.le.2 (by rw[hp.te];omega)];exact hp.ends
 tm:=by rw[ht m hp.lm.2];exact hp.tm
 tk:=by rw[ht k hp.lk.2];exact hp.tk
 tc:=by rw[ht c hp.lc.2];exact hp.tc
 te:=by rw[ht e hp.le.2];exact hp.te
 lm:=⟨hp.lm.1,by have:=hp.lm.2;omega⟩
 lk:=⟨hp.lk.1,by have:=hp.lk.2;omega⟩
 lc:=⟨hp.lc.1,by have:=hp.lc.2;omega⟩
 le:=⟨hp.le.1,by have:=hp.le.2;omega⟩
 fl:=by rw[hf];exact hp.fl
theorem KT.putR (hp:KT h lo tag r n vq vv vt vu vo s) {l:List AB} (hl:l.length=s.rows.length):KT (h.put r (.row (l.flatMap AZ) 61 true false)) lo tag r n vq vv vt vu vo { s with rows:=l }:=
 have hg:∀ i j,2≤j→tag i=j→(h.put r (.row (l.flatMap AZ) 61 true false)).get i=h.get i:=fun i j hj hi=>AX hp.lr.2 (GU (tag:=tag) (by rw[hp.tr];omega))
 ⟨B0 rfl hp.lr.2,hl.trans hp.len,hp.tr,hp.lr,hp.q.mono (Nat.le_refl _) (fun _ _=>rfl) fun i _ _ h3=>hg i 2 (by omega) h3,hp.v.mono (Nat.le_refl _) (fun _ _=>rfl) fun i _ _ h3=>hg i 3 (by omega) h3,hp.t.mono (Nat.le_refl _) (fun _ _=>rfl) fun i _ _ h3=>hg i 4 (by omega) h3,hp.u.mono (Nat.le_refl _) (fun _ _=>rfl) fun i _ _ h3=>hg i 5 (by omega) h3,hp.o.mono (Nat.le_refl _) (fun _ _=>rfl) fun i _ _ h3=>hg i 6 (by omega) h3⟩
theorem BQ.putR (hp:BQ h lo m k c e r n nm E tag vq vv vt vu vo es s) {l:List AB} (hl:l.length=s.rows.length):BQ (h.put r (.row (l.flatMap AZ) 61 true false)) lo m k c e r n nm E tag vq vv vt vu vo es { s with rows:=l }:=
 hp.pol' (Nat.le_refl _) rfl (fun _ _=>rfl) (fun i _ _ h1=>AX hp.pol.lr.2 (GU (tag:=tag) (by rw[hp.pol.tr];omega))) (by rw[AX hp.pol.lr.2 (GU (tag:=tag) (by rw[hp.pol.tr,hp.tm];decide))];exact hp.cell) (hp.pol.putR hl) rfl
theorem BQ.c1 (hp:BQ h lo m k c e r n nm E tag vq vv vt vu vo es s):AJ 1 (h.get m)=some (qS r n AP):=by rw[hp.cell];rfl
theorem BQ.c2 (hp:BQ h lo m k c e r n nm E tag vq vv vt vu vo es s):AJ 2 (h.get m)=some vq:=by rw[hp.cell];rfl
theorem BQ.c3 (hp:BQ h lo m k c e r n nm E tag vq vv vt vu vo es s):AJ 3 (h.get m)=some vv:=by rw[hp.cell];rfl
theorem BQ.c4 (hp:BQ h lo m k c e r n nm E tag vq vv vt vu vo es s):AJ 4 (h.get m)=some vt:=by rw[hp.cell];rfl
theorem BQ.c5 (hp:BQ h lo m k c e r n nm E tag vq vv vt vu vo es s):AJ 5 (h.get m)=some vu:=by rw[hp.cell];rfl
theorem BQ.c6 (hp:BQ h lo m k c e r n nm E tag vq vv vt vu vo es s):AJ 6 (h.get m)=some vo:=by rw[hp.cell];rfl
theorem BQ.c7 (hp:BQ h lo m k c e r n nm E tag vq vv vt vu vo es s):AJ 7 (h.get m)=some (iv s.miss):=by rw[hp.cell];rfl
theorem BQ.c8 (hp:BQ h lo m k c e r n nm E tag vq vv vt vu vo es s):AJ 8 (h.get m)=some (.map (some k)):=by rw[hp.cell];rfl
theorem BQ.c9 (hp:BQ h lo m k c e r n nm E tag vq vv vt vu vo es s):AJ 9 (h.get m)=some (.map (some c)):=by rw[hp.cell];rfl
theorem BQ.row (hp:BQ h lo m k c e r n nm E tag vq vv vt vu vo es s) {at_:Nat} {x:AB} (hx:s.rows[at_]?=some x):at_<n∧AJ (at_*5) (h.get r)=some (iv x.kind)∧AJ (at_*5+1) (h.get r)=some (.string x.name)∧AJ (at_*5+2) (h.get r)=some (iv x.ends)∧AJ (at_*5+3) (h.get r)=some (iv x.n)∧AJ (at_*5+4) (h.get r)=some (iv x.kids) ∧
  AW 5 (at_*5) (h.get r)=some (.agg #[iv x.kind,.string x.name,iv x.ends,iv x.n,iv x.kids]):=by
 have hl:at_<n:=by rw[← hp.pol.len];exact(List.getElem?_eq_some_iff.1 hx).1
 obtain⟨id,q,e0,hid,l0,l1,l2,l3,l4,lr⟩:=hp.pol.at.row hx
 rw[N7 hl] at e0
 simp only[Option.some.injEq,Value.pointer.injEq,Addr.mk.injEq,and_true] at e0
 obtain⟨rfl,rfl⟩:=e0
 exact⟨hl,l0,l1,l2,l3,l4,lr⟩
end
section
variable {h:AA} {lo m k c e r n:Nat} {nm:ByteArray} {E:List Int} {tag:Nat→Nat} {vq vv vt vu vo:Value} {es:List (Value × Value)} {s:AK}
theorem Ab {l:List (ByteArray × Bool)} {x:ByteArray × Bool}:C9 l++[.string x.1,.bool x.2]=C9 (l++[x]):=by simp[C9]
theorem g8 {l:List ByteArray} {x:ByteArray}:DA l++[.string x]=DA (l++[x]):=by simp[DA]
theorem i_ {l:List Int} {x:Int}:ints l++[iv x]=ints (l++[x]):=by simp[ints]
theorem BQ.appQ (hp:BQ h lo m k c e r n nm E tag vq vv vt vu vo es s) (x:(ByteArray × Bool)) (hb:s.queues.length<10000000):∃ v' h1,C_ Tryd.prog (h.push (.row [.string x.1,.bool x.2] 102 false false)) 30 vq (qS h.next 1 1)=some (v',h1)∧h1.get m=h.get m∧one v'=true∧v'.cells=#[v']∧h1.floor=h.floor∧h1.next=h.next+2∧(∀ i,i<h.next→i<lo∨11≤tag i→h1.get i=h.get i) ∧
  BQ (h1.put m (.row [.string nm,qS r n AP,v',vv,vt,vu,vo,iv s.miss,.map (some k),.map (some c)] 69 false false)) lo m k c e r n nm E (fun i=>if i=h.next+1 then 2 else tag i) v' vv vt vu vo es { s with queues:=s.queues++[x] }:=by
 have hlm:=hp.lm
 have hpp:=hp.mono (h':=h.push (.row [.string x.1,.bool x.2] 102 false false)) (tag':=fun i=>if i=h.next then 11 else tag i) (by show h.next≤h.next+1;omega) rfl (fun i hi=>if_neg (by omega)) fun i _ hi=>AQ hi
 obtain⟨v',h1,a1,a2,a3,a4,a5,a6,a7⟩:=PW (et:=102) (w:=2) (c:=1) (sc:=1) (xs:=[.string x.1,.bool x.2]) Tryd.underlying30 QT tE RK rfl (by decide) (by decide) hpp.pol.q (O0 _) (fR _) rfl rfl (by decide) (by decide) (by omega) (src:=h.next) BM (by show h.next<h.next+1;omega) hp.fl (by simp)
 have hnx:h1.next=h.next+2:=a4
 have hold:∀ i,i<h.next→¬ (lo≤i∧tag i=2)→h1.get i=h.get i:=fun i hi hne=>by
  rw[a7 i (by show i<h.next+1;omega) (by rw[if_neg (by omega)];exact hne),AQ hi]
 have hm1:m<h1.next:=by omega
 have hgm:h1.get m=h.get m:=hold m hlm.2 (by rw[hp.tm];omega)
 have hSl:FK h1 lo (fun i=>if i=h.next+1 then 2 else tag i) 2 v' (s.queues.length+1) (C9 s.queues++[.string x.1,.bool x.2]) 102:=by
  rcases a2 with a2 | a2
  ·refine a2.mono' fun i hi=>?_
   show (if i=h.next+1 then 2 else tag i)=(if i=h.next+1 then 2 else if i=h.next then 11 else tag i)∨(if i=h.next+1 then 2 else if i=h.next then 11 else tag i)≠2
   by_cases e1:i=h.next+1
   ·left;rw[if_pos e1,if_pos e1]
   ·rw[if_neg e1,if_neg e1]
    by_cases e2:i=h.next
    ·right;rw[if_pos e2];decide
    ·left;rw[if_neg e2]
  ·exact absurd (show lo≤h.next+1 by omega) a2
 refine⟨v',h1,a1,hgm,a5,a6,a3,hnx,fun i hi hlo=>hold i hi (by omega),?_⟩
 have hn2:h.next≤(h1.put m (.row [.string nm,qS r n AP,v',vv,vt,vu,vo,iv s.miss,.map (some k),.map (some c)] 69 false false)).next:=by show h.next≤h1.next;omega
 have ht2:∀ i,i<h.next→(fun i=>if i=h.next+1 then 2 else tag i) i=tag i:=fun i hi=>if_neg (by omega)
 have hg2:∀ i,lo≤i→i<h.next→tag i≠0→tag i≠2→(h1.put m (.row [.string nm,qS r n AP,v',vv,vt,vu,vo,iv s.miss,.map (some k),.map (some c)] 69 false false)).get i=h.get i:=fun i h1' h2 h3 h4=>by
  rw[AX hm1 (GU (tag:=tag) (by rw[hp.tm];exact h3.symm)),hold i h2 (fun e=>h4 e.2)]
 have hgj:∀ jj,jj≠0→jj≠2→(jj≠2)→∀ i,lo≤i→i<h.next→tag i=jj→(h1.put m (.row [.string nm,qS r n AP,v',vv,vt,vu,vo,iv s.miss,.map (some k),.map (some c)] 69 false false)).get i=h.get i:=fun jj z1 z2 _ i h1' h2 h3=>hg2 i h1' h2 (by omega) (by omega)
 refine hp.pol' hn2 a3 ht2 (fun i h1' h2 h3=>hg2 i h1' h2 (by omega) (by omega)) (B0 rfl hm1) ?_ rfl
 exact
  { rows:=by rw[hg2 r hp.pol.lr.1 hp.pol.lr.2 (by rw[hp.pol.tr];decide) (by rw[hp.pol.tr];decide)];exact hp.pol.rows
    len:=hp.pol.len
    tr:=(ht2 r hp.pol.lr.2).trans hp.pol.tr
    lr:=⟨hp.pol.lr.1,by have:=hp.pol.lr.2;omega⟩
    q:=by
     have h9:=hSl.mono (h':=(h1.put m (.row [.string nm,qS r n AP,v',vv,vt,vu,vo,iv s.miss,.map (some k),.map (some c)] 69 false false))) (Nat.le_refl _) (fun _ _=>rfl) fun i _ _ h3=>AX hm1 (GU (tag:=fun i=>if i=h.next+1 then 2 else tag i) (by rw[h3];show (if m=h.next+1 then _ else tag m)≠_;rw[if_neg (by omega),hp.tm];decide))
     rw[Ab] at h9
     simp only[List.length_append,List.length_cons,List.length_nil]
     exact h9
    v:=hp.pol.v.mono hn2 ht2 (hgj 3 (by decide) (by decide) (by decide))
    t:=hp.pol.t.mono hn2 ht2 (hgj 4 (by decide) (by decide) (by decide))
    u:=hp.pol.u.mono hn2 ht2 (hgj 5 (by decide) (by decide) (by decide))
    o:=hp.pol.o.mono hn2 ht2 (hgj 6 (by decide) (by decide) (by decide)) }
theorem BQ.appV (hp:BQ h lo m k c e r n nm E tag vq vv vt vu vo es s) (x:ByteArray) (hb:s.vars.length<10000000):∃ v' h1,C_ Tryd.prog (h.push (.row [.string x] 9 false false)) 31 vv (qS h.next 1 1)=some (v',h1)∧h1.get m=h.get m∧one v'=true∧v'.cells=#[v']∧h1.floor=h.floor∧h1.next=h.next+2∧(∀ i,i<h.next→i<lo∨11≤tag i→h1.get i=h.get i) ∧
  BQ (h1.put m (.row [.string nm,qS r n AP,vq,v',vt,vu,vo,iv s.miss,.map (some k),.map (some c)] 69 false false)) lo m k c e r n nm E (fun i=>if i=h.next+1 then 3 else tag i) vq v' vt vu vo es { s with vars:=s.vars++[x] }:=by
 have hlm:=hp.lm
 have hpp:=hp.mono (h':=h.push (.row [.string x] 9 false false)) (tag':=fun i=>if i=h.next then 11 else tag i) (by show h.next≤h.next+1;omega) rfl (fun i hi=>if_neg (by omega)) fun i _ hi=>AQ hi
 obtain⟨v',h1,a1,a2,a3,a4,a5,a6,a7⟩:=PW (et:=9) (w:=1) (c:=1) (sc:=1) (xs:=[.string x]) Tryd.underlying31 M4 WJ TC rfl (by decide) (by decide) hpp.pol.v (by rw[Nat.mul_one];exact WO _) (XI _) rfl rfl (by decide) (by decide) (by omega) (src:=h.next) BM (by show h.next<h.next+1;omega) hp.fl (by simp)
 have hnx:h1.next=h.next+2:=a4
 have hold:∀ i,i<h.next→¬ (lo≤i∧tag i=3)→h1.get i=h.get i:=fun i hi hne=>by
  rw[a7 i (by show i<h.next+1;omega) (by rw[if_neg (by omega)];exact hne),AQ hi]
 have hm1:m<h1.next:=by omega
 have hgm:h1.get m=h.get m:=hold m hlm.2 (by rw[hp.tm];omega)
 have hSl:FK h1 lo (fun i=>if i=h.next+1 then 3 else tag i) 3 v' (s.vars.length+1) (DA s.vars++[.string x]) 9:=by
  rcases a2 with a2 | a2
  ·refine a2.mono' fun i hi=>?_
   show (if i=h.next+1 then 3 else tag i)=(if i=h.next+1 then 3 else if i=h.next then 11 else tag i)∨(if i=h.next+1 then 3 else if i=h.next then 11 else tag i)≠3
   by_cases e1:i=h.next+1
   ·left;rw[if_pos e1,if_pos e1]
   ·rw[if_neg e1,if_neg e1]
    by_cases e2:i=h.next
    ·right;rw[if_pos e2];decide
    ·left;rw[if_neg e2]
  ·exact absurd (show lo≤h.next+1 by omega) a2
 refine⟨v',h1,a1,hgm,a5,a6,a3,hnx,fun i hi hlo=>hold i hi (by omega),?_⟩
 have hn2:h.next≤(h1.put m (.row [.string nm,qS r n AP,vq,v',vt,vu,vo,iv s.miss,.map (some k),.map (some c)] 69 false false)).next:=by show h.next≤h1.next;omega
 have ht2:∀ i,i<h.next→(fun i=>if i=h.next+1 then 3 else tag i) i=tag i:=fun i hi=>if_neg (by omega)
 have hg2:∀ i,lo≤i→i<h.next→tag i≠0→tag i≠3→(h1.put m (.row [.string nm,qS r n AP,vq,v',vt,vu,vo,iv s.miss,.map (some k),.map (some c)] 69 false false)).get i=h.get i:=fun i h1' h2 h3 h4=>by
  rw[AX hm1 (GU (tag:=tag) (by rw[hp.tm];exact h3.symm)),hold i h2 (fun e=>h4 e.2)]
 have hgj:∀ jj,jj≠0→jj≠3→(jj≠3)→∀ i,lo≤i→i<h.next→tag i=jj→(h1.put m (.row [.string nm,qS r n AP,vq,v',vt,vu,vo,iv s.miss,.map (some k),.map (some c)] 69 false false)).get i=h.get i:=fun jj z1 z2 _ i h1' h2 h3=>hg2 i h1' h2 (by omega) (by omega)
 refine hp.pol' hn2 a3 ht2 (fun i h1' h2 h3=>hg2 i h1' h2 (by omega) (by omega)) (B0 rfl hm1) ?_ rfl
 exact
  { rows:=by rw[hg2 r hp.pol.lr.1 hp.pol.lr.2 (by rw[hp.pol.tr];decide) (by rw[hp.pol.tr];decide)];exact hp.pol.rows
    len:=hp.pol.len
    tr:=(ht2 r hp.pol.lr.2).trans hp.pol.tr
    lr:=⟨hp.pol.lr.1,by have:=hp.pol.lr.2;omega⟩
    q:=hp.pol.q.mono hn2 ht2 (hgj 2 (by decide) (by decide) (by decide))
    v:=by
     have h9:=hSl.mono (h':=(h1.put m (.row [.string nm,qS r n AP,vq,v',vt,vu,vo,iv s.miss,.map (some k),.map (some c)] 69 false false))) (Nat.le_refl _) (fun _ _=>rfl) fun i _ _ h3=>AX hm1 (GU (tag:=fun i=>if i=h.next+1 then 3 else tag i) (by rw[h3];show (if m=h.next+1 then _ else tag m)≠_;rw[if_neg (by omega),hp.tm];decide))
     rw[g8] at h9
     simp only[List.length_append,List.length_cons,List.length_nil]
     exact h9
    t:=hp.pol.t.mono hn2 ht2 (hgj 4 (by decide) (by decide) (by decide))
    u:=hp.pol.u.mono hn2 ht2 (hgj 5 (by decide) (by decide) (by decide))
    o:=hp.pol.o.mono hn2 ht2 (hgj 6 (by decide) (by decide) (by decide)) }
theorem BQ.appT (hp:BQ h lo m k c e r n nm E tag vq vv vt vu vo es s) (x:ByteArray) (hb:s.tags.length<10000000):∃ v' h1,C_ Tryd.prog (h.push (.row [.string x] 9 false false)) 31 vt (qS h.next 1 1)=some (v',h1)∧h1.get m=h.get m∧one v'=true∧v'.cells=#[v']∧h1.floor=h.floor∧h1.next=h.next+2∧(∀ i,i<h.next→i<lo∨11≤tag i→h1.get i=h.get i) ∧
  BQ (h1.put m (.row [.string nm,qS r n AP,vq,vv,v',vu,vo,iv s.miss,.map (some k),.map (some c)] 69 false false)) lo m k c e r n nm E (fun i=>if i=h.next+1 then 4 else tag i) vq vv v' vu vo es { s with tags:=s.tags++[x] }:=by
 have hlm:=hp.lm
 have hpp:=hp.mono (h':=h.push (.row [.string x] 9 false false)) (tag':=fun i=>if i=h.next then 11 else tag i) (by show h.next≤h.next+1;omega) rfl (fun i hi=>if_neg (by omega)) fun i _ hi=>AQ hi
 obtain⟨v',h1,a1,a2,a3,a4,a5,a6,a7⟩:=PW (et:=9) (w:=1) (c:=1) (sc:=1) (xs:=[.string x]) Tryd.underlying31 M4 WJ TC rfl (by decide) (by decide) hpp.pol.t (by rw[Nat.mul_one];exact WO _) (XI _) rfl rfl (by decide) (by decide) (by omega) (src:=h.next) BM (by show h.next<h.next+1;omega) hp.fl (by simp)
 have hnx:h1.next=h.next+2:=a4
 have hold:∀ i,i<h.next→¬ (lo≤i∧tag i=4)→h1.get i=h.get i:=fun i hi hne=>by
  rw[a7 i (by show i<h.next+1;omega) (by rw[if_neg (by omega)];exact hne),AQ hi]
 have hm1:m<h1.next:=by omega
 have hgm:h1.get m=h.get m:=hold m hlm.2 (by rw[hp.tm];omega)
 have hSl:FK h1 lo (fun i=>if i=h.next+1 then 4 else tag i) 4 v' (s.tags.length+1) (DA s.tags++[.string x]) 9:=by
  rcases a2 with a2 | a2
  ·refine a2.mono' fun i hi=>?_
   show (if i=h.next+1 then 4 else tag i)=(if i=h.next+1 then 4 else if i=h.next then 11 else tag i)∨(if i=h.next+1 then 4 else if i=h.next then 11 else tag i)≠4
   by_cases e1:i=h.next+1
   ·left;rw[if_pos e1,if_pos e1]
   ·rw[if_neg e1,if_neg e1]
    by_cases e2:i=h.next
    ·right;rw[if_pos e2];decide
    ·left;rw[if_neg e2]
  ·exact absurd (show lo≤h.next+1 by omega) a2
 refine⟨v',h1,a1,hgm,a5,a6,a3,hnx,fun i hi hlo=>hold i hi (by omega),?_⟩
 have hn2:h.next≤(h1.put m (.row [.string nm,qS r n AP,vq,vv,v',vu,vo,iv s.miss,.map (some k),.map (some c)] 69 false false)).next:=by show h.next≤h1.next;omega
 have ht2:∀ i,i<h.next→(fun i=>if i=h.next+1 then 4 else tag i) i=tag i:=fun i hi=>if_neg (by omega)
 have hg2:∀ i,lo≤i→i<h.next→tag i≠0→tag i≠4→(h1.put m (.row [.string nm,qS r n AP,vq,vv,v',vu,vo,iv s.miss,.map (some k),.map (some c)] 69 false false)).get i=h.get i:=fun i h1' h2 h3 h4=>by
  rw[AX hm1 (GU (tag:=tag) (by rw[hp.tm];exact h3.symm)),hold i h2 (fun e=>h4 e.2)]
 have hgj:∀ jj,jj≠0→jj≠4→(jj≠4)→∀ i,lo≤i→i<h.next→tag i=jj→(h1.put m (.row [.string nm,qS r n AP,vq,vv,v',vu,vo,iv s.miss,.map (some k),.map (some c)] 69 false false)).get i=h.get i:=fun jj z1 z2 _ i h1' h2 h3=>hg2 i h1' h2 (by omega) (by omega)
 refine hp.pol' hn2 a3 ht2 (fun i h1' h2 h3=>hg2 i h1' h2 (by omega) (by omega)) (B0 rfl hm1) ?_ rfl
 exact
  { rows:=by rw[hg2 r hp.pol.lr.1 hp.pol.lr.2 (by rw[hp.pol.tr];decide) (by rw[hp.pol.tr];decide)];exact hp.pol.rows
    len:=hp.pol.len
    tr:=(ht2 r hp.pol.lr.2).trans hp.pol.tr
    lr:=⟨hp.pol.lr.1,by have:=hp.pol.lr.2;omega⟩
    q:=hp.pol.q.mono hn2 ht2 (hgj 2 (by decide) (by decide) (by decide))
    v:=hp.pol.v.mono hn2 ht2 (hgj 3 (by decide) (by decide) (by decide))
    t:=by
     have h9:=hSl.mono (h':=(h1.put m (.row [.string nm,qS r n AP,vq,vv,v',vu,vo,iv s.miss,.map (some k),.map (some c)] 69 false false))) (Nat.le_refl _) (fun _ _=>rfl) fun i _ _ h3=>AX hm1 (GU (tag:=fun i=>if i=h.next+1 then 4 else tag i) (by rw[h3];show (if m=h.next+1 then _ else tag m)≠_;rw[if_neg (by omega),hp.tm];decide))
     rw[g8] at h9
     simp only[List.length_append,List.length_cons,List.length_nil]
     exact h9
    u:=hp.pol.u.mono hn2 ht2 (hgj 5 (by decide) (by decide) (by decide))
    o:=hp.pol.o.mono hn2 ht2 (hgj 6 (by decide) (by decide) (by decide)) }
theorem BQ.appU (hp:BQ h lo m k c e r n nm E tag vq vv vt vu vo es s) (x:Int) (hb:s.rules.length<10000000):∃ v' h1,C_ Tryd.prog (h.push (.row [iv x] 3 false false)) 27 vu (qS h.next 1 1)=some (v',h1)∧h1.get m=h.get m∧one v'=true∧v'.cells=#[v']∧h1.floor=h.floor∧h1.next=h.next+2∧(∀ i,i<h.next→i<lo∨11≤tag i→h1.get i=h.get i) ∧
  BQ (h1.put m (.row [.string nm,qS r n AP,vq,vv,vt,v',vo,iv s.miss,.map (some k),.map (some c)] 69 false false)) lo m k c e r n nm E (fun i=>if i=h.next+1 then 5 else tag i) vq vv vt v' vo es { s with rules:=s.rules++[x] }:=by
 have hlm:=hp.lm
 have hpp:=hp.mono (h':=h.push (.row [iv x] 3 false false)) (tag':=fun i=>if i=h.next then 11 else tag i) (by show h.next≤h.next+1;omega) rfl (fun i hi=>if_neg (by omega)) fun i _ hi=>AQ hi
 obtain⟨v',h1,a1,a2,a3,a4,a5,a6,a7⟩:=PW (et:=3) (w:=1) (c:=1) (sc:=1) (xs:=[iv x]) Tryd.underlying27 CP JC GO rfl (by decide) (by decide) hpp.pol.u (by rw[Nat.mul_one];exact F7 _) (OS _) rfl rfl (by decide) (by decide) (by omega) (src:=h.next) BM (by show h.next<h.next+1;omega) hp.fl (by simp)
 have hnx:h1.next=h.next+2:=a4
 have hold:∀ i,i<h.next→¬ (lo≤i∧tag i=5)→h1.get i=h.get i:=fun i hi hne=>by
  rw[a7 i (by show i<h.next+1;omega) (by rw[if_neg (by omega)];exact hne),AQ hi]
 have hm1:m<h1.next:=by omega
 have hgm:h1.get m=h.get m:=hold m hlm.2 (by rw[hp.tm];omega)
 have hSl:FK h1 lo (fun i=>if i=h.next+1 then 5 else tag i) 5 v' (s.rules.length+1) (ints s.rules++[iv x]) 3:=by
  rcases a2 with a2 | a2
  ·refine a2.mono' fun i hi=>?_
   show (if i=h.next+1 then 5 else tag i)=(if i=h.next+1 then 5 else if i=h.next then 11 else tag i)∨(if i=h.next+1 then 5 else if i=h.next then 11 else tag i)≠5
   by_cases e1:i=h.next+1
   ·left;rw[if_pos e1,if_pos e1]
   ·rw[if_neg e1,if_neg e1]
    by_cases e2:i=h.next
    ·right;rw[if_pos e2];decide
    ·left;rw[if_neg e2]
  ·exact absurd (show lo≤h.next+1 by omega) a2
 refine⟨v',h1,a1,hgm,a5,a6,a3,hnx,fun i hi hlo=>hold i hi (by omega),?_⟩
 have hn2:h.next≤(h1.put m (.row [.string nm,qS r n AP,vq,vv,vt,v',vo,iv s.miss,.map (some k),.map (some c)] 69 false false)).next:=by show h.next≤h1.next;omega
 have ht2:∀ i,i<h.next→(fun i=>if i=h.next+1 then 5 else tag i) i=tag i:=fun i hi=>if_neg (by omega)
 have hg2:∀ i,lo≤i→i<h.next→tag i≠0→tag i≠5→(h1.put m (.row [.string nm,qS r n AP,vq,vv,vt,v',vo,iv s.miss,.map (some k),.map (some c)] 69 false false)).get i=h.get i:=fun i h1' h2 h3 h4=>by
  rw[AX hm1 (GU (tag:=tag) (by rw[hp.tm];exact h3.symm)),hold i h2 (fun e=>h4 e.2)]
 have hgj:∀ jj,jj≠0→jj≠5→(jj≠5)→∀ i,lo≤i→i<h.next→tag i=jj→(h1.put m (.row [.string nm,qS r n AP,vq,vv,vt,v',vo,iv s.miss,.map (some k),.map (some c)] 69 false false)).get i=h.get i:=fun jj z1 z2 _ i h1' h2 h3=>hg2 i h1' h2 (by omega) (by omega)
 refine hp.pol' hn2 a3 ht2 (fun i h1' h2 h3=>hg2 i h1' h2 (by omega) (by omega)) (B0 rfl hm1) ?_ rfl
 exact
  { rows:=by rw[hg2 r hp.pol.lr.1 hp.pol.lr.2 (by rw[hp.pol.tr];decide) (by rw[hp.pol.tr];decide)];exact hp.pol.rows
    len:=hp.pol.len
    tr:=(ht2 r hp.pol.lr.2).trans hp.pol.tr
    lr:=⟨hp.pol.lr.1,by have:=hp.pol.lr.2;omega⟩
    q:=hp.pol.q.mono hn2 ht2 (hgj 2 (by decide) (by decide) (by decide))
    v:=hp.pol.v.mono hn2 ht2 (hgj 3 (by decide) (by decide) (by decide))
    t:=hp.pol.t.mono hn2 ht2 (hgj 4 (by decide) (by decide) (by decide))
    u:=by
     have h9:=hSl.mono (h':=(h1.put m (.row [.string nm,qS r n AP,vq,vv,vt,v',vo,iv s.miss,.map (some k),.map (some c)] 69 false false))) (Nat.le_refl _) (fun _ _=>rfl) fun i _ _ h3=>AX hm1 (GU (tag:=fun i=>if i=h.next+1 then 5 else tag i) (by rw[h3];show (if m=h.next+1 then _ else tag m)≠_;rw[if_neg (by omega),hp.tm];decide))
     rw[i_] at h9
     simp only[List.length_append,List.length_cons,List.length_nil]
     exact h9
    o:=hp.pol.o.mono hn2 ht2 (hgj 6 (by decide) (by decide) (by decide)) }
theorem BQ.appO (hp:BQ h lo m k c e r n nm E tag vq vv vt vu vo es s) (x:Int) (hb:s.on.length<10000000):∃ v' h1,C_ Tryd.prog (h.push (.row [iv x] 3 false false)) 27 vo (qS h.next 1 1)=some (v',h1)∧h1.get m=h.get m∧one v'=true∧v'.cells=#[v']∧h1.floor=h.floor∧h1.next=h.next+2∧(∀ i,i<h.next→i<lo∨11≤tag i→h1.get i=h.get i) ∧
  BQ (h1.put m (.row [.string nm,qS r n AP,vq,vv,vt,vu,v',iv s.miss,.map (some k),.map (some c)] 69 false false)) lo m k c e r n nm E (fun i=>if i=h.next+1 then 6 else tag i) vq vv vt vu v' es { s with on:=s.on++[x] }:=by
 have hlm:=hp.lm
 have hpp:=hp.mono (h':=h.push (.row [iv x] 3 false false)) (tag':=fun i=>if i=h.next then 11 else tag i) (by show h.next≤h.next+1;omega) rfl (fun i hi=>if_neg (by omega)) fun i _ hi=>AQ hi
 obtain⟨v',h1,a1,a2,a3,a4,a5,a6,a7⟩:=PW (et:=3) (w:=1) (c:=1) (sc:=1) (xs:=[iv x]) Tryd.underlying27 CP JC GO rfl (by decide) (by decide) hpp.pol.o (by rw[Nat.mul_one];exact F7 _) (OS _) rfl rfl (by decide) (by decide) (by omega) (src:=h.next) BM (by show h.next<h.next+1;omega) hp.fl (by simp)
 have hnx:h1.next=h.next+2:=a4
 have hold:∀ i,i<h.next→¬ (lo≤i∧tag i=6)→h1.get i=h.get i:=fun i hi hne=>by
  rw[a7 i (by show i<h.next+1;omega) (by rw[if_neg (by omega)];exact hne),AQ hi]
 have hm1:m<h1.next:=by omega
 have hgm:h1.get m=h.get m:=hold m hlm.2 (by rw[hp.tm];omega)
 have hSl:FK h1 lo (fun i=>if i=h.next+1 then 6 else tag i) 6 v' (s.on.length+1) (ints s.on++[iv x]) 3:=by
  rcases a2 with a2 | a2
  ·refine a2.mono' fun i hi=>?_
   show (if i=h.next+1 then 6 else tag i)=(if i=h.next+1 then 6 else if i=h.next then 11 else tag i)∨(if i=h.next+1 then 6 else if i=h.next then 11 else tag i)≠6
   by_cases e1:i=h.next+1
   ·left;rw[if_pos e1,if_pos e1]
   ·rw[if_neg e1,if_neg e1]
    by_cases e2:i=h.next
    ·right;rw[if_pos e2];decide
    ·left;rw[if_neg e2]
  ·exact absurd (show lo≤h.next+1 by omega) a2
 refine⟨v',h1,a1,hgm,a5,a6,a3,hnx,fun i hi hlo=>hold i hi (by omega),?_⟩
 have hn2:h.next≤(h1.put m (.row [.string nm,qS r n AP,vq,vv,vt,vu,v',iv s.miss,.map (some k),.map (some c)] 69 false false)).next:=by show h.next≤h1.next;omega
 have ht2:∀ i,i<h.next→(fun i=>if i=h.next+1 then 6 else tag i) i=tag i:=fun i hi=>if_neg (by omega)
 have hg2:∀ i,lo≤i→i<h.next→tag i≠0→tag i≠6→(h1.put m (.row [.string nm,qS r n AP,vq,vv,vt,vu,v',iv s.miss,.map (some k),.map (some c)] 69 false false)).get i=h.get i:=fun i h1' h2 h3 h4=>by
  rw[AX hm1 (GU (tag:=tag) (by rw[hp.tm];exact h3.symm)),hold i h2 (fun e=>h4 e.2)]
 have hgj:∀ jj,jj≠0→jj≠6→(jj≠6)→∀ i,lo≤i→i<h.next→tag i=jj→(h1.put m (.row [.string nm,qS r n AP,vq,vv,vt,vu,v',iv s.miss,.map (some k),.map (some c)] 69 false false)).get i=h.get i:=fun jj z1 z2 _ i h1' h2 h3=>hg2 i h1' h2 (by omega) (by omega)
 refine hp.pol' hn2 a3 ht2 (fun i h1' h2 h3=>hg2 i h1' h2 (by omega) (by omega)) (B0 rfl hm1) ?_ rfl
 exact
  { rows:=by rw[hg2 r hp.pol.lr.1 hp.pol.lr.2 (by rw[hp.pol.tr];decide) (by rw[hp.pol.tr];decide)];exact hp.pol.rows
    len:=hp.pol.len
    tr:=(ht2 r hp.pol.lr.2).trans hp.pol.tr
    lr:=⟨hp.pol.lr.1,by have:=hp.pol.lr.2;omega⟩
    q:=hp.pol.q.mono hn2 ht2 (hgj 2 (by decide) (by decide) (by decide))
    v:=hp.pol.v.mono hn2 ht2 (hgj 3 (by decide) (by decide) (by decide))
    t:=hp.pol.t.mono hn2 ht2 (hgj 4 (by decide) (by decide) (by decide))
    u:=hp.pol.u.mono hn2 ht2 (hgj 5 (by decide) (by decide) (by decide))
    o:=by
     have h9:=hSl.mono (h':=(h1.put m (.row [.string nm,qS r n AP,vq,vv,vt,vu,v',iv s.miss,.map (some k),.map (some c)] 69 false false))) (Nat.le_refl _) (fun _ _=>rfl) fun i _ _ h3=>AX hm1 (GU (tag:=fun i=>if i=h.next+1 then 6 else tag i) (by rw[h3];show (if m=h.next+1 then _ else tag m)≠_;rw[if_neg (by omega),hp.tm];decide))
     rw[i_] at h9
     simp only[List.length_append,List.length_cons,List.length_nil]
     exact h9 }
end
end Go.Proofs.YtdejoodfeljmkaaDoor
