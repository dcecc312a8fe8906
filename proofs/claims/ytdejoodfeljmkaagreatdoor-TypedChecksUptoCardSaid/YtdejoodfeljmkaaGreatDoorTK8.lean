/- Part 8 of what the claim leans on: 18 texts laid one behind another. -/
import Derived.Test.YtdejoodfeljmkaaGreatDoorTK7
import Derived.Laws.Bits64b
import Derived.Lib.Mul64
import Derived.Test.YtdejoodfeljmkaaGreatDoorProg
namespace Go.Sx
open Go
set_option linter.unusedSimpArgs false
set_option linter.unusedVariables false
set_option maxHeartbeats 64000000
inductive B_ where
 | top (Q:ED→St→Prop)
 | seq (b:Code) (k:B_)
 | block (id:Nat) (k:B_)
 | inv (J:St→Prop) (k:B_)
def B_.ap (P:Program) (call:AS) (n:Nat):B_→ED→St→Prop
 | .top Q,e,s=>Q e s
 | .seq b k,.normal,s=>WS P call n b s (k.ap P call n)
 | .seq _ k,e,s=>k.ap P call n e s
 | .block id k,.exit i,s=>if i=id then k.ap P call n .normal s else k.ap P call n (.exit i) s
 | .block _ k,e,s=>k.ap P call n e s
 | .inv J _,.normal,s=>J s
 | .inv _ k,e,s=>k.ap P call n e s
def WK (P:Program) (call:AS) (n:Nat) (c:Code) (s:St) (k:B_):Prop:=WS P call n c s (k.ap P call n)
def NE (P:Program) (call:AS) (n:Nat) (ops:Array Oper) (l:List Oper) (s:St) (k:B_):Prop:=WL P call ops l s (k.ap P call n .normal)
def QQ (P:Program) (call:AS) (n:Nat) (ops:Array Oper) (l:List Oper) (dst:Option Tmp) (T:Tr) (k:B_):Option (Value × AA)→Prop
 | some (v,h)=>NE P call n ops l ⟨T.put dst v,h⟩ k
 | none=>False
def ZS (P:Program) (call:AS) (n:Nat) (ops:Array Oper) (l:List Oper) (dst:Option Tmp) (T:Tr) (h:AA) (k:B_):Option Value→Prop
 | some v=>NE P call n ops l ⟨T.put dst v,h⟩ k
 | none=>False
def vY (P:Program) (call:AS) (n:Nat) (a b:Code) (s:St) (k:B_):Value→Prop
 | .bool t=>(t=true→WK P call n a s k)∧(t=false→WK P call n b s k)
 | _=>False
section
variable {P:Program} {call:AS} {n:Nat} {s:St} {k:B_} {Q:ED→St→Prop}
theorem rI {e:ED}:(B_.top Q).ap P call n e s=Q e s:=rfl
theorem S2 {b:Code}:(B_.seq b k).ap P call n .normal s=WK P call n b s k:=rfl
theorem tJ {b:Code} {i:Nat}:(B_.seq b k).ap P call n (.exit i) s=k.ap P call n (.exit i) s:=rfl
theorem sQ {b:Code}:(B_.seq b k).ap P call n .ret s=k.ap P call n .ret s:=rfl
theorem xA {id:Nat}:(B_.block id k).ap P call n .normal s=k.ap P call n .normal s:=rfl
theorem pP {id i:Nat}:(B_.block id k).ap P call n (.exit i) s=if i=id then k.ap P call n .normal s else k.ap P call n (.exit i) s:=rfl
theorem lY {id:Nat}:(B_.block id k).ap P call n .ret s=k.ap P call n .ret s:=rfl
theorem mW {J:St→Prop}:(B_.inv J k).ap P call n .normal s=J s:=rfl
theorem kS {J:St→Prop} {i:Nat}:(B_.inv J k).ap P call n (.exit i) s=k.ap P call n (.exit i) s:=rfl
theorem wS {J:St→Prop}:(B_.inv J k).ap P call n .ret s=k.ap P call n .ret s:=rfl
theorem uY:WK P call n .skip s k=k.ap P call n .normal s:=by
 apply propext;simp only[WK,WS,C0,Option.some.injEq,Prod.mk.injEq]
 exact⟨fun ⟨_,_,⟨rfl,rfl⟩,h⟩=>h,fun h=>⟨_,_,⟨rfl,rfl⟩,h⟩⟩
theorem uI {id:Nat}:WK P call n (.exit id) s k=k.ap P call n (.exit id) s:=by
 apply propext;simp only[WK,WS,C0,Option.some.injEq,Prod.mk.injEq]
 exact⟨fun ⟨_,_,⟨rfl,rfl⟩,h⟩=>h,fun h=>⟨_,_,⟨rfl,rfl⟩,h⟩⟩
theorem uG:WK P call n .ret s k=k.ap P call n .ret s:=by
 apply propext;simp only[WK,WS,C0,Option.some.injEq,Prod.mk.injEq]
 exact⟨fun ⟨_,_,⟨rfl,rfl⟩,h⟩=>h,fun h=>⟨_,_,⟨rfl,rfl⟩,h⟩⟩
theorem KA {a b:Code}:WK P call n (.seq a b) s k=WK P call n a s (.seq b k):=by
 apply propext
 constructor
 ·rintro ⟨e,s',h1,h2⟩
  simp only[C0] at h1
  split at h1
  ·rename_i s1 h3
   exact⟨_,_,h3,_,_,h1,h2⟩
  ·rename_i hne
   refine⟨_,_,h1,?_⟩
   cases e with
   | normal=>exact absurd h1 (hne _)
   | exit id=>exact h2
   | ret=>exact h2
 ·rintro ⟨e,s',h1,h2⟩
  cases e with
  | normal=>
   obtain⟨e2,s2,h3,h4⟩:=h2
   exact⟨e2,s2,by simp only[C0,h1,h3],h4⟩
  | exit id=>exact⟨_,_,by simp only[C0,h1],h2⟩
  | ret=>exact⟨_,_,by simp only[C0,h1],h2⟩
theorem RW {id:Nat} {c:Code}:WK P call n (.block id c) s k=WK P call n c s (.block id k):=by
 apply propext
 constructor
 ·rintro ⟨e,s',h1,h2⟩
  simp only[C0] at h1
  split at h1
  ·rename_i i s1 h3
   refine⟨_,_,h3,?_⟩
   unfold B_.ap
   split at h1 <;> (cases h1;simp_all)
  ·rename_i hne
   refine⟨_,_,h1,?_⟩
   cases e with
   | normal=>exact h2
   | exit id=>exact absurd h1 (hne _ _)
   | ret=>exact h2
 ·rintro ⟨e,s',h1,h2⟩
  cases e with
  | normal=>exact⟨_,_,by simp only[C0,h1],h2⟩
  | exit i=>
   by_cases hi:i=id
   ·subst hi
    exact⟨.normal,s',by simp only[C0,h1,if_true],by simpa [B_.ap] using h2⟩
   ·exact⟨.exit i,s',by simp only[C0,h1,hi,if_false],by simpa [B_.ap,hi] using h2⟩
  | ret=>exact⟨_,_,by simp only[C0,h1],h2⟩
theorem tO {c:Operand} {a b:Code}:WK P call n (.cond c a b) s k=vY P call n a b s k (ev s.T c):=by
 apply propext
 constructor
 ·rintro ⟨e,s',h1,h2⟩
  simp only[C0] at h1
  split at h1
  ·rename_i he;rw[he];exact⟨fun _=>⟨_,_,h1,h2⟩,fun h=>(by cases h)⟩
  ·rename_i he;rw[he];exact⟨fun h=>(by cases h),fun _=>⟨_,_,h1,h2⟩⟩
  ·cases h1
 ·intro h
  cases he:ev s.T c with
  | bool t=>rw[he] at h;exact .cond he h.1 h.2
  | _=>rw[he] at h;exact h.elim
theorem pY {a b:Code} {t:Bool}:vY P call n a b s k (.bool t)=((t=true→WK P call n a s k)∧(t=false→WK P call n b s k)):=rfl
theorem oW {id:Nat} {ops:Array Oper}:WK P call n (.region id ops false) s k=NE P call n ops ops.toList s k:=by
 apply propext
 refine⟨fun ⟨e,s',h1,h2⟩=>?_,.region⟩
 simp only[C0,Bool.false_eq_true,if_false] at h1
 cases hs:K6 P call ops ops.toList s with
 | none=>rw[hs] at h1;cases h1
 | some s1=>rw[hs] at h1;cases h1;exact⟨_,hs,h2⟩
theorem qY {ops:Array Oper}:NE P call n ops [] s k=k.ap P call n .normal s:=by
 simp[NE,WL,K6]
theorem pH {ops:Array Oper} {o:Oper} {l:List Oper}:NE P call n ops (o :: l) s k=if EL ops s.T o then QQ P call n ops l o.dst s.T k (AT P call s.T s.h o.op) else NE P call n ops l ⟨s.T.put o.dst undef,s.h⟩ k:=by
 apply propext
 constructor
 ·rintro ⟨s',h1,h2⟩
  simp only[K6,GE] at h1
  by_cases hw:EL ops s.T o=true
  ·rw[if_pos hw] at h1 ⊢
   cases hs:AT P call s.T s.h o.op with
   | none=>rw[hs] at h1;cases h1
   | some r=>
    obtain⟨v,h'⟩:=r
    rw[hs] at h1
    exact⟨s',h1,h2⟩
  ·rw[if_neg hw] at h1 ⊢
   exact⟨s',h1,h2⟩
 ·intro h
  by_cases hw:EL ops s.T o=true
  ·rw[if_pos hw] at h
   cases hs:AT P call s.T s.h o.op with
   | none=>rw[hs] at h;exact h.elim
   | some r=>
    obtain⟨v,h'⟩:=r
    rw[hs] at h
    exact .step hw hs h
  ·rw[if_neg hw] at h
   exact .pass (by simpa using hw) h
section
variable {ops:Array Oper} {l:List Oper} {dst:Option Tmp} {T:Tr} {h:AA} {v:Value}
theorem wJ:QQ P call n ops l dst T k (some (v,h))=NE P call n ops l ⟨T.put dst v,h⟩ k:=rfl
theorem mR {r:Option Value}:QQ P call n ops l dst T k (r.map (·,h))=ZS P call n ops l dst T h k r:=by cases r <;> rfl
theorem oM:ZS P call n ops l dst T h k (some v)=NE P call n ops l ⟨T.put dst v,h⟩ k:=rfl
theorem QQ.of {r:Option (Value × AA)} {h':AA} (hr:r=some (v,h')) (hk:NE P call n ops l ⟨T.put dst v,h'⟩ k):QQ P call n ops l dst T k r:=by rw[hr];exact hk
theorem ZS.of {r:Option Value} (hr:r=some v) (hk:NE P call n ops l ⟨T.put dst v,h⟩ k):ZS P call n ops l dst T h k r:=by rw[hr];exact hk
end
theorem WK.loop {c:Code} (I:Nat→St→Prop) (N:Nat) (hN:N<n) (h0:I 0 s)
  (hr:∀ i s,i≤N→I i s→WK P call n c s (.inv (fun s'=>i<N∧I (i+1) s') k)):WK P call n (.loop c) s k:=
 WS.loop I N hN h0 fun i s hi hI=>(hr i s hi hI).mono fun e s' he=>by cases e <;> exact he
theorem Z7 (t:Nat):Tr.leaf.get t=undef:=rfl
theorem YC {ops:Array Oper} {T:Tr} {o:Oper} (h:o.guard=none):EL ops T o=true:=by simp[EL,h]
theorem YR {T:Tr} {t:Nat}:ev T (.tmp t)=T.get t:=rfl
theorem YS {T:Tr} {v:Value}:ev T (.const v)=v:=rfl
theorem Dc {T:Tr} {g:Nat}:ev T (.global g)=.pointer (some ⟨g,0,none⟩):=rfl
theorem YW {T:Tr} {f:Nat}:ev T (.func f)=.func (.func f) #[] #[]:=rfl
end
theorem max2 {k:IntKind} {x y:Int}:VE [.int k x,.int k y]=some (.int k (if y>x then y else x)):=rfl
theorem min2 {k:IntKind} {x y:Int}:V_ [.int k x,.int k y]=some (.int k (if y<x then y else x)):=rfl
def PT:Value→Bool→Bool
 | .bool b,w=>b==w
 | _,_=>false
noncomputable def eK:Option Tmp→Tr→Bool→Bool
 | some d,T,w=>PT (T.get d) w
 | none,_,_=>false
theorem YY {ops:Array Oper} {T:Tr} {dst:Option Tmp} {op:Op} {type:TypeId} {pos:String} {after:Array Edge} {j:Nat} {w:Bool}:EL ops T ⟨dst,op,type,pos,after,some (j,w)⟩=eK ((ops[j]?).bind (·.dst)) T w:=by
 simp only[EL]
 cases (ops[j]?).bind (·.dst) with
 | none=>rfl
 | some d=>simp only[eK];cases T.get d <;> rfl
theorem YT {d:Tmp} {T:Tr} {w:Bool}:eK (some d) T w=PT (T.get d) w:=rfl
theorem rY {w:Bool}:PT undef w=false:=by cases w <;> rfl
theorem YJ {b:Bool}:PT (.bool b) true=b:=by simp[PT]
theorem XP {b:Bool}:PT (.bool b) false = !b:=by simp[PT]
theorem CO {P:Program} {call:AS} {n:Nat} {f:FuncId} {args:List Value} {h h':AA} {fn:Func} {c:Code} {V:Value} (hf:P.funcs[f]?=some fn) (hb:fn.body=some c) (hl:args.length≤fn.ntmps)
  (hw:WK P call n c ⟨I_ 0 args .leaf,h⟩ (.top fun e s=>(e=.normal∨e=.ret)∧∃ vs,F2 P s fn.results.toList=some vs∧HL vs=V∧s.h=h')):AY P call n f args h=some (V,h'):=by
 obtain⟨v,h1,h2,rfl,rfl⟩:=g9 (R:=fun u h''=>u=V∧h''=h') hf hb hl hw
 exact h2
theorem DW {P:Program} {call:AS} {n:Nat} {f:FuncId} {args:List Value} {h:AA} {fn:Func} {c:Code} {V:Value} {R:AA→Prop} (hf:P.funcs[f]?=some fn) (hb:fn.body=some c) (hl:args.length≤fn.ntmps)
  (hw:WK P call n c ⟨I_ 0 args .leaf,h⟩ (.top fun e s=>(e=.normal∨e=.ret)∧∃ vs,F2 P s fn.results.toList=some vs∧HL vs=V∧R s.h)):∃ h',AY P call n f args h=some (V,h')∧R h':=by
 obtain⟨v,h1,h2,rfl,h3⟩:=g9 (R:=fun u h''=>u=V∧R h'') hf hb hl hw
 exact⟨h1,h2,h3⟩
def vX (P:Program) (ops:Array Oper):Bool:=(List.range ops.size).all fun k=>match ops[k]? with
 | none=>true
 | some o=>match AD o.op with
  | .read _=>!N0 ops k
  | .act=>!N1 ops k
  | .store=>(L_ ops k).isEmpty
  | .new=>true
  | .pure=>match o.op with
   | .call c=>(match c.argTypes.toList with | [t]=>(match P.underlying t with | some (.map _ _)=>false | some (.array _ _)=>false | _=>true) | _=>true)
   | _=>true
theorem Et {P:Program} {call:AS} {ops:Array Oper} (hq:vX P ops=true) {start i:Nat} {o:Oper} (ho:ops[i]?=some o) {s s':St} (h:GE P call ops o s=some s'):O3 P call ops start i o s=some s':=by
 have hlt:i<ops.size:=(Array.getElem?_eq_some_iff.1 ho).1
 have hk:=List.all_eq_true.1 hq i (List.mem_range.2 hlt)
 simp only[ho] at hk
 unfold O3
 by_cases hw:EL ops s.T o=true
 ·rw [if_pos hw]
  cases hc:AD o.op with
  | read a=>
   rw[hc] at hk
   simp only[Bool.not_eq_true'] at hk
   simp[hk,h]
  | act=>
   rw[hc] at hk
   simp only[Bool.not_eq_true'] at hk
   simp[hk,h]
  | new=>exact h
  | store=>
   rw[hc] at hk
   simp only[List.isEmpty_iff] at hk
   simp only[hk,List.all_nil,if_true]
   split
   ·exact h
   ·exact h
   ·exact h
   ·rename_i h1 h1' h2
    cases hop:o.op with
    | store t a x=>exact absurd hop (h1 t a x)
    | mapUpdate t a k x=>exact absurd hop (h2 t a k x)
    | insert t a k x=>exact absurd hop (h1' t a k x)
    | call c=>
     rw[hop] at hc
     simp only[AD] at hc
     split at hc <;> cases hc
    | _=>rw[hop] at hc;simp[AD] at hc
  | pure=>
   rw[hc] at hk
   simp only at hk ⊢
   cases hop:o.op with
   | call c=>
    simp only[hop] at hk ⊢
    split
    ·rename_i r hargs
     exfalso
     obtain⟨v,h',hs,_⟩:=ON hw h
     rw[hop] at hs hc
     simp only[AD] at hc
     simp only[AT,PN,JH,hargs] at hs
     split at hs
     ·split at hs
      ·rename_i t x h1 h2
       cases h2
       simp only[h1] at hk
       simp only[CY] at hs
       split at hk
       ·cases hk
       ·cases hk
       ·rename_i hne1 hne2
        cases hu:P.underlying t with
        | none=>simp[hu] at hs
        | some d=>cases d <;> (first | (simp[hu] at hs;done) | (exact hne1 _ _ hu) | (exact hne2 _ _ hu))
      ·cases hs
     all_goals first | (simp[VE,V_] at hs;done) | (simp_all;done)
    ·exact h
   | _=>exact h
 ·rw[if_neg hw]
  unfold GE at h
  rw[if_neg hw] at h
  exact h
theorem WK.quiet {P:Program} {call:AS} {n id:Nat} {ops:Array Oper} {s:St} {k:B_} (hq:vX P ops=true) (h:NE P call n ops ops.toList s k):WK P call n (.region id ops true) s k:=by
 obtain⟨s',h1,h2⟩:=h
 have key:∀ (l:List Oper) (i:Nat) (s:St),(∀ k,l[k]?=ops[i+k]?)→K6 P call ops l s=some s'→∀ start,L8 P call ops start i l s=some s':=by
  intro l
  induction l with
  | nil=>intro i s _ h start;exact h
  | cons o l ih=>
   intro i s hl h start
   simp only[K6] at h
   split at h
   ·rename_i s1 h3
    have ho:ops[i]?=some o:=by simpa using (hl 0).symm
    simp only[L8,Et hq ho h3]
    exact ih (i+1) s1 (fun k=>by have:=hl (k+1);simpa [Nat.add_assoc,Nat.add_comm 1 k] using this) h start
   ·cases h
 exact .draw ⟨s',key _ 0 s (by simp) h1 _,h2⟩
theorem BT {x:Int} (h1:-9223372036854775808≤x) (h2:x<9223372036854775808):IntKind.i64.wrap x=x:=by
 simp[IntKind.wrap,IntKind.bits,IntKind.signed]
 omega
theorem wP {p q:Prop}:((true=true→p)∧(true=false→q))=p:=by
 apply propext;exact⟨fun h=>h.1 rfl,fun h=>⟨fun _=>h,fun h=>(by cases h)⟩⟩
theorem vH {p q:Prop}:((false=true→p)∧(false=false→q))=q:=by
 apply propext;exact⟨fun h=>h.2 rfl,fun h=>⟨fun h=>(by cases h),fun _=>h⟩⟩
theorem MT {b:Bool}:flat (.bool b)=true:=rfl
theorem Y_ {k:IntKind} {x:Int}:flat (.int k x)=true:=rfl
theorem xF {P:Program} {b:Bool}:BH P (Op.unary .not (.bool b))=some (.bool !b):=rfl
theorem qT {P:Program} {k:IntKind} {x:Int}:BH P (Op.unary .neg (.int k x))=some (.int k (k.wrap (0-x))):=rfl
theorem DO {P:Program} {α β:Type} (m:Sem α) (f:α→Sem β):BH P (m >>= f)=(BH P m).bind fun a=>BH P (f a):=by
 induction m with
 | pure a=>rfl
 | program k ih=>exact ih P
 | mark x k ih=>exact ih
 | _=>rfl
theorem OC {P:Program} {t:TypeId} {d:TypeDesc} (h:P.underlying t=some d):BH P (underlying t)=some d:=by
 show BH P (Sem.bind program _)=_
 simp[program,Sem.bind,BH,h,Pure.pure]
theorem mN {P:Program} {t:TypeId} {a b:Bool} (h:P.underlying t=some .bool):BH P (Op.equal t (.bool a) (.bool b))=some (a==b):=by
 have key:∀ d,BH P (Op.equalIn (d+1) t (.bool a) (.bool b))=some (a==b):=by
  intro d
  rw[Op.equalIn,DO,OC h]
  rfl
 exact key 9999
theorem Tg {P:Program} {t:TypeId} {x y:Operand} {a b:Bool} (h:P.underlying t=some .bool):CP P .eql t x y (.bool a) (.bool b)=some (.bool (a==b)):=by
 have e:BH P (do eqGuard .eql t x y (.bool a) (.bool b);binOp .eql t (.bool a) (.bool b))=some (.bool (a==b)):=by
  show BH P ((do pure (.bool (← Op.equal t (.bool a) (.bool b)))):Sem Value)=_
  rw[DO,mN h]
  rfl
 simp only[CP,MT,Bool.and_self,if_true,e]
theorem UO {P:Program} {t:TypeId} {x y:Operand} {a b:Bool} (h:P.underlying t=some .bool):CP P .neq t x y (.bool a) (.bool b)=some (.bool (a != b)):=by
 have e:BH P (do eqGuard .neq t x y (.bool a) (.bool b);binOp .neq t (.bool a) (.bool b))=some (.bool (a != b)):=by
  show BH P ((do pure (.bool (!(← Op.equal t (.bool a) (.bool b))))):Sem Value)=_
  rw[DO,mN h]
  rfl
 simp only[CP,MT,Bool.and_self,if_true,e]
def YG (h:AA) (v:Value) (l:List Int):Prop:=∃ a c,v=.slice a l.length c∧(∀ b,a=some b→b.spot=none)∧∀ k x,l[k]?=some x→∃ id off cs ty g ro,a=some ⟨id,off,none⟩∧h.get id=.row cs ty g ro∧cs[off+k]?=some (.int .i64 x)
section
variable {P:Program} {h:AA} {v:Value} {l:List Int} {t e:TypeId}
theorem YG.len (hv:YG h v l) (ht:P.underlying t=some (.slice e)):CY P h t v=some (.int .i64 l.length):=by
 obtain⟨a,c,rfl,_,_⟩:=hv
 simp[CY,ht]
theorem YG.idx (hv:YG h v l) (ht:P.underlying t=some (.slice e)) (he:BM P e=some 1) (ha:FW P e=some false) {k:Nat} {x:Int} (hk:l[k]?=some x) {kd:IntKind} :
  ∃ p,CB P t v (.int kd k)=some p∧EW P h e p=some (.int .i64 x):=by
 obtain⟨a,c,rfl,_,hall⟩:=hv
 obtain⟨id,off,cs,ty,g,ro,rfl,hg,hc⟩:=hall k x hk
 have hlt:k<l.length:=(List.getElem?_eq_some_iff.1 hk).1
 refine⟨.pointer (some ⟨id,off+k,none⟩),?_,?_⟩
 ·simp[CB,ht,he,hlt,Addr.add]
 ·simp[EW,hg,ha,hc]
end
def C8 (ops:Array Oper):List (Bool × Bool × List Operand):=(List.range ops.size).map fun k=>(N0 ops k,N1 ops k,L_ ops k)
noncomputable def AF (op:Op) (T:Tr):Bool:=match op with
 | .call c=>(match c.args.toList.map (ev T) with | [.map _]=>false | _=>true)
 | _=>true
def CM:Op→Operand
 | .store _ a _=>a
 | .mapUpdate _ m _ _=>m
 | .insert _ m _ _=>m
 | _=>.const undef
section
variable (P:Program) (call:AS) (n:Nat) (ops:Array Oper) (start:Nat)
noncomputable def N2 (f:Bool × Bool × List Operand) (o:Oper) (s:St):Option St:=
 if EL ops s.T o then match AD o.op with
  | .read a=>if f.1 && !ahead start (DD (ev s.T a)) then none else GE P call ops o s
  | .act=>if f.2.1 then match GE P call ops o ⟨s.T,s.h.fl (max s.h.floor start)⟩ with
    | some s'=>some ⟨s'.T,s'.h.fl s.h.floor⟩
    | none=>none
   else GE P call ops o s
  | .store=>if f.2.2.all (fun x=>DD (ev s.T x) != DD (ev s.T (CM o.op))) then GE P call ops o s else none
  | .pure=>if AF o.op s.T then GE P call ops o s else none
  | .new=>GE P call ops o s
 else some ⟨s.T.put o.dst undef,s.h⟩
theorem Su {i:Nat} {o:Oper} {s s':St} (h:N2 P call ops start (N0 ops i,N1 ops i,L_ ops i) o s=some s'):O3 P call ops start i o s=some s':=by
 unfold N2 at h
 unfold O3
 by_cases hw:EL ops s.T o=true
 ·rw [if_pos hw] at h ⊢
  cases hc:AD o.op with
  | read a=>rw[hc] at h;exact h
  | act=>rw[hc] at h;exact h
  | new=>rw[hc] at h;exact h
  | store=>
   rw[hc] at h
   cases hop:o.op with
   | store t a x=>rw[hop] at h;exact h
   | mapUpdate t a k x=>rw[hop] at h;exact h
   | insert t a k x=>rw[hop] at h;exact h
   | call c=>
    rw[hop] at hc
    simp only[AD] at hc
    split at hc <;> cases hc
   | _=>rw[hop] at hc;simp[AD] at hc
  | pure=>
   rw[hc] at h
   simp only at h ⊢
   cases hop:o.op with
   | call c=>
    simp only[hop,AF] at h ⊢
    split
    ·rename_i r hr
     rw[hr] at h
     simp at h
    ·rename_i hne
     split at h
     ·rename_i r hr;exact absurd hr (hne r)
     ·exact h
   | _=>simp only[hop,AF,if_true] at h ⊢;exact h
 ·rw[if_neg hw] at h ⊢
  exact h
noncomputable def SE:List (Bool × Bool × List Operand)→List Oper→St→Option St
 | _,[],s=>some s
 | f :: fs,o :: l,s=>match N2 P call ops start f o s with
  | some s'=>SE fs l s'
  | none=>none
 | [],_ :: _,_=>none
def DN (fs:List (Bool × Bool × List Operand)) (l:List Oper) (s:St) (k:B_):Prop:=∃ s',SE P call ops start fs l s=some s'∧k.ap P call n .normal s'
def PS (fs:List (Bool × Bool × List Operand)) (l:List Oper) (dst:Option Tmp) (T:Tr) (fl:Nat) (k:B_):Option (Value × AA)→Prop
 | some (v,h)=>DN P call n ops start fs l ⟨T.put dst v,h.fl fl⟩ k
 | none=>False
def AE (lr la:Bool) (ls:List Operand) (fs:List (Bool × Bool × List Operand)) (o:Oper) (l:List Oper) (s:St) (k:B_):RU→Prop
 | .read a=>(lr=true→ahead start (DD (ev s.T a))=true)∧PS P call n ops start fs l o.dst s.T s.h.floor k (AT P call s.T s.h o.op)
 | .act=>PS P call n ops start fs l o.dst s.T s.h.floor k (AT P call s.T (if la then s.h.fl (max s.h.floor start) else s.h) o.op)
 | .store=>(ls.all (fun x=>DD (ev s.T x) != DD (ev s.T (CM o.op)))=true)∧PS P call n ops start fs l o.dst s.T s.h.floor k (AT P call s.T s.h o.op)
 | .pure=>AF o.op s.T=true∧PS P call n ops start fs l o.dst s.T s.h.floor k (AT P call s.T s.h o.op)
 | .new=>PS P call n ops start fs l o.dst s.T s.h.floor k (AT P call s.T s.h o.op)
end
section
variable {P:Program} {call:AS} {n:Nat} {ops:Array Oper} {start:Nat} {fs:List (Bool × Bool × List Operand)} {l:List Oper} {s:St} {k:B_}
theorem HX (h:AA):h.fl h.floor=h:=rfl
theorem DN.cons {lr la:Bool} {ls:List Operand} {o:Oper} (hsn:∀ v h',∀ h:AA,AT P call s.T h o.op=some (v,h')→h'.floor=h.floor)
  (h:if EL ops s.T o then AE P call n ops start lr la ls fs o l s k (AD o.op) else DN P call n ops start fs l ⟨s.T.put o.dst undef,s.h⟩ k):DN P call n ops start ((lr,la,ls) :: fs) (o :: l) s k:=by
 by_cases hw:EL ops s.T o=true
 ·rw [if_pos hw] at h
  have GV:PS P call n ops start fs l o.dst s.T s.h.floor k (AT P call s.T s.h o.op)→∃ s',GE P call ops o s=some s'∧DN P call n ops start fs l s' k:=by
   intro h
   cases hs:AT P call s.T s.h o.op with
   | none=>rw[hs] at h;exact h.elim
   | some r=>
    obtain⟨v,h'⟩:=r
    rw[hs] at h
    have hf:=hsn v h' s.h hs
    refine⟨⟨s.T.put o.dst v,h'⟩,by simp only[GE,hw,if_true,hs],?_⟩
    have e:h'.fl s.h.floor=h':=by rw[← hf];rfl
    have h2:DN P call n ops start fs l ⟨s.T.put o.dst v,h'.fl s.h.floor⟩ k:=h
    rw[e] at h2
    exact h2
  have fin:∀ s',N2 P call ops start (lr,la,ls) o s=some s'→DN P call n ops start fs l s' k→DN P call n ops start ((lr,la,ls) :: fs) (o :: l) s k:=by
   rintro s' h1 ⟨s2,h2,h3⟩
   exact⟨s2,by simp only[SE,h1,h2],h3⟩
  cases hc:AD o.op with
  | read a=>
   rw[hc] at h
   obtain⟨h0,h1⟩:=h
   obtain⟨s',h2,h3⟩:=GV h1
   refine fin s' ?_ h3
   unfold N2
   rw[if_pos hw,hc]
   simp only
   cases lr with
   | false=>simpa using h2
   | true=>rw[h0 rfl];simpa using h2
  | new=>
   rw[hc] at h
   obtain⟨s',h2,h3⟩:=GV h
   refine fin s' ?_ h3
   unfold N2
   rw[if_pos hw,hc]
   exact h2
  | pure=>
   rw[hc] at h
   obtain⟨h0,h1⟩:=h
   obtain⟨s',h2,h3⟩:=GV h1
   refine fin s' ?_ h3
   unfold N2
   rw[if_pos hw,hc]
   simp only[h0,if_true]
   exact h2
  | store=>
   rw[hc] at h
   obtain⟨h0,h1⟩:=h
   obtain⟨s',h2,h3⟩:=GV h1
   refine fin s' ?_ h3
   unfold N2
   rw[if_pos hw,hc]
   simp only[h0,if_true]
   exact h2
  | act=>
   rw[hc] at h
   cases la with
   | false=>
    obtain⟨s',h2,h3⟩:=GV h
    refine fin s' ?_ h3
    unfold N2
    rw[if_pos hw,hc]
    simpa using h2
   | true=>
    have h:PS P call n ops start fs l o.dst s.T s.h.floor k (AT P call s.T (s.h.fl (max s.h.floor start)) o.op):=h
    cases hs:AT P call s.T (s.h.fl (max s.h.floor start)) o.op with
    | none=>rw[hs] at h;exact h.elim
    | some r=>
     obtain⟨v,h'⟩:=r
     rw[hs] at h
     refine fin ⟨s.T.put o.dst v,h'.fl s.h.floor⟩ ?_ h
     unfold N2
     rw[if_pos hw,hc]
     simp only[GE,hw,if_true,hs]
 ·rw[if_neg hw] at h
  obtain⟨s2,h2,h3⟩:=h
  refine⟨s2,?_,h3⟩
  simp only[SE,N2]
  rw[if_neg hw]
  exact h2
theorem Y9 {dst:Option Tmp} {T:Tr} {fl:Nat} {v:Value} {h:AA}:PS P call n ops start fs l dst T fl k (some (v,h))=DN P call n ops start fs l ⟨T.put dst v,h.fl fl⟩ k:=rfl
theorem XW:DN P call n ops start fs [] s k=k.ap P call n .normal s:=by
 apply propext
 refine⟨fun ⟨s',h1,h2⟩=>?_,fun h=>⟨s,by cases fs <;> rfl,h⟩⟩
 cases fs <;> (cases h1;exact h2)
theorem NJ {h:AA} {a b:Nat}:(h.fl a).fl b=h.fl b:=rfl
theorem ZJ {h:AA}:h.fl h.floor=h:=rfl
theorem RZ {h:AA} {a:Nat}:(h.fl a).floor=a:=rfl
theorem WK.flags {id:Nat} {fs:List (Bool × Bool × List Operand)} (hf:C8 ops=fs) (h:DN P call n ops s.h.next fs ops.toList s k):WK P call n (.region id ops true) s k:=by
 obtain⟨s',h1,h2⟩:=h
 refine WS.draw ⟨s',?_,h2⟩
 have key:∀ (l:List Oper) (i:Nat) (s:St) (start:Nat),(∀ k,l[k]?=ops[i+k]?)→i+l.length=ops.size→SE P call ops start (fs.drop i) l s=some s'→L8 P call ops start i l s=some s':=by
  intro l
  induction l with
  | nil=>intro i s start _ _ h;cases hd:fs.drop i <;> (rw[hd] at h;exact h)
  | cons o l ih=>
   intro i s start hl hlen h
   have hi:i<ops.size:=by simp at hlen;omega
   have hfi:fs[i]?=some (N0 ops i,N1 ops i,L_ ops i):=by
    rw[← hf]
    unfold C8
    rw[List.getElem?_map,List.getElem?_range hi]
    rfl
   have hlt:i<fs.length:=(List.getElem?_eq_some_iff.1 hfi).1
   rw[List.drop_eq_getElem_cons hlt] at h
   have he:fs[i]=(N0 ops i,N1 ops i,L_ ops i):=by
    rw[List.getElem?_eq_getElem hlt] at hfi
    exact Option.some.inj hfi
   rw[he] at h
   simp only[SE] at h
   split at h
   ·rename_i s1 h3
    simp only[L8,Su P call ops start h3]
    exact ih (i+1) s1 start (fun k=>by have:=hl (k+1);simpa [Nat.add_assoc,Nat.add_comm 1 k] using this) (by simp at hlen;omega) h
   ·cases h
 exact key _ 0 s _ (by simp) (by simp) (by simpa using h1)
end
def Q3 (r:Nat):Code→Option (Array Oper)
 | .region i ops _=>if i=r then some ops else none
 | .seq a b=>match Q3 r a with
  | some o=>some o
  | none=>Q3 r b
 | .cond _ a b=>match Q3 r a with
  | some o=>some o
  | none=>Q3 r b
 | .block _ c=>Q3 r c
 | .loop c=>Q3 r c
 | _=>none
def C9 (fn:Func) (r:Nat):Array Oper:=match fn.body with
 | some c=>(Q3 r c).getD #[]
 | none=>#[]
def seen (o:Oper):Option Tmp × Op × Option (Nat × Bool):=(o.dst,o.op,o.guard)
section
variable {P:Program} {call:AS} {n:Nat} {ops:Array Oper} {start:Nat} {F:List (Bool × Bool × List Operand)} {s:St} {k:B_}
theorem Ok {T:Tr} {o o':Oper} (h:seen o=seen o'):EL ops T o=EL ops T o':=by
 simp only[seen,Prod.mk.injEq] at h
 unfold EL
 rw[h.2.2]
theorem Kl {lr la:Bool} {ls:List Operand} {fs:List (Bool × Bool × List Operand)} {o o':Oper} {l:List Oper} {c:RU} (h:seen o=seen o') :
  AE P call n ops start lr la ls fs o l s k c=AE P call n ops start lr la ls fs o' l s k c:=by
 simp only[seen,Prod.mk.injEq] at h
 cases c <;> simp only[AE,h.1,h.2.1]
theorem DN.begin (h:DN P call n ops start (F.drop 0) (ops.toList.drop 0) s k):DN P call n ops start F ops.toList s k:=h
theorem DN.at (i:Nat) (dst:Option Tmp) (op:Op) (g:Option (Nat × Bool)) {lr la:Bool} {ls:List Operand} (hi:(ops[i]?).map seen=some (dst,op,g)) (hf:F[i]?=some (lr,la,ls))
  (hsn:∀ v h',∀ h:AA,AT P call s.T h op=some (v,h')→h'.floor=h.floor)
  (h : if EL ops s.T ⟨dst, op, 0, "", #[], g⟩ then AE P call n ops start lr la ls (F.drop (i + 1)) ⟨dst, op, 0, "", #[], g⟩ (ops.toList.drop (i + 1)) s k (AD op)
   else DN P call n ops start (F.drop (i+1)) (ops.toList.drop (i+1)) ⟨s.T.put dst undef,s.h⟩ k):DN P call n ops start (F.drop i) (ops.toList.drop i) s k:=by
 cases ho:ops[i]? with
 | none=>rw[ho] at hi;cases hi
 | some o=>
  rw[ho] at hi
  have hs : seen o = seen ⟨dst, op, 0, "", #[], g⟩ := by simpa [seen] using hi
  have hop:o.op=op:=congrArg (·.2.1) hs
  have hdst:o.dst=dst:=congrArg (·.1) hs
  have e1:F.drop i=(lr,la,ls) :: F.drop (i+1):=by
   obtain⟨hl,he⟩:=List.getElem?_eq_some_iff.1 hf
   rw[List.drop_eq_getElem_cons hl,he]
  have ho':ops.toList[i]?=some o:=by simpa using ho
  have e2:ops.toList.drop i=o :: ops.toList.drop (i+1):=by
   obtain⟨hl,he⟩:=List.getElem?_eq_some_iff.1 ho'
   rw[List.drop_eq_getElem_cons hl,he]
  rw[e1,e2]
  refine DN.cons (by rw[hop];exact hsn) ?_
  rw[Ok hs,Kl hs,hop,hdst]
  exact h
theorem DN.done {i:Nat} (hl:ops.toList.drop i=[]) (h:k.ap P call n .normal s):DN P call n ops start (F.drop i) (ops.toList.drop i) s k:=by
 rw[hl,XW]
 exact h
end
end Go.Sx
namespace Go.Proofs.YtdejoodfeljmkaaGreatDoor
open Go Go.Sx
set_option maxRecDepth 100000
set_option linter.unusedSimpArgs false
set_option linter.unusedVariables false
set_option maxHeartbeats 64000000
theorem FI {cs:Array Value}:(Value.agg cs).cells=cs:=rfl
theorem IM {k:IntKind} {x:Int}:one (.int k x)=true:=rfl
theorem O4 {x:ByteArray}:one (.string x)=true:=rfl
theorem pB {x:Bool}:one (.bool x)=true:=rfl
theorem EQ {h:AA} {o:BF}:(h.push o).next=h.next+1:=rfl
theorem JQ {h:AA} {o:BF}:(h.push o).floor=h.floor:=rfl
theorem KN {h:AA} {o:BF} {i:Nat}:(h.put i o).next=h.next:=rfl
theorem NY {h:AA} {o:BF} {i:Nat}:(h.put i o).floor=h.floor:=rfl
theorem kG {m f:Nat}:(EZ m f).next=m:=rfl
theorem p_ {m f:Nat}:(EZ m f).floor=f:=rfl
theorem LF {h:AA} {o:BF} {i:Nat}:(h.push o).get i=if i=h.next then o else h.get i:=by
 split
 ·rename_i e;subst e;exact BX
 ·rename_i e;exact PO e
theorem UH {h:AA} {o:BF} {i j:Nat}:(h.put i o).get j=if j=i then (if i<h.next then o else .dead) else h.get j:=by
 by_cases hi:i<h.next
 ·split
  ·rename_i e;subst e;exact BL rfl hi
  ·rename_i e;exact AR hi (Ne.symm e)
 ·split
  ·rename_i e;subst e;exact KE (by show h.next≤j;omega)
  ·rename_i e
   by_cases hj:j<h.next
   ·unfold AA.get AA.put
    simp only[hj,if_true]
    rw[EX.get_set,if_neg e]
   ·rw[KE (by show h.next≤j;omega),KE (by omega)]
theorem PH {h:AA} {o:BF} {f:Nat}:(h.push o).fl f=(h.fl f).push o:=rfl
theorem PE {h:AA} {o:BF} {i f:Nat}:(h.put i o).fl f=(h.fl f).put i o:=rfl
theorem uF {m f f':Nat}:(EZ m f').fl f=EZ m f:=rfl
theorem NA {h:AA} {f:Nat}:(h.fl f).next=h.next:=rfl
theorem TO {h:AA} {f i:Nat}:(h.fl f).get i=h.get i:=rfl
theorem KU {m id off:Nat}:Sx.ahead m (DD (.pointer (some ⟨id,off,none⟩)))=decide (id<m):=rfl
theorem CN {id off n:Nat}:(⟨id,off,none⟩:Addr).add n=⟨id,off+n,none⟩:=by
 unfold Addr.add
 split
 ·rename_i e;subst e;rfl
 ·rfl
def AH (off:Nat):BF→Option Value
 | .row cs _ _ _=>cs[off]?
 | _=>none
def A_ (n off:Nat):BF→Option Value
 | .row cs _ _ _=>match GS cs off n with
  | some l=>some (.agg l.toArray)
  | none=>none
 | _=>none
theorem LT {P:Program} {t:TypeId} {h:AA} {id off:Nat} (ha:FW P t=some false):EW P h t (.pointer (some ⟨id,off,none⟩))=AH off (h.get id):=by
 simp only[EW,ha]
 cases h.get id <;> rfl
theorem ND {P:Program} {t:TypeId} {n:Nat} {h:AA} {id off:Nat} (ha:FW P t=some true) (hs:BM P t=some n):EW P h t (.pointer (some ⟨id,off,none⟩))=A_ n off (h.get id):=by
 simp only[EW,ha,hs]
 cases h.get id <;> rfl
theorem Lp:FW Tryz.prog 3=some false:=by kernel_rfl
theorem x9:FW Tryz.prog 9=some false:=by kernel_rfl
theorem Cf:FW Tryz.prog 4=some false:=by kernel_rfl
theorem Qh:FW Tryz.prog 60=some true:=by kernel_rfl
theorem Pz:FW Tryz.prog 127=some true:=by kernel_rfl
theorem C7:BM Tryz.prog 3=some 1:=by kernel_rfl
theorem KH:BM Tryz.prog 9=some 1:=by kernel_rfl
theorem PI:BM Tryz.prog 4=some 1:=by kernel_rfl
theorem FN:BM Tryz.prog 60=some 5:=by kernel_rfl
theorem wF:BM Tryz.prog 127=some 5:=by kernel_rfl
theorem E1:DX Tryz.prog 60=some (.agg #[.int .i64 0,.string ByteArray.empty,.int .i64 0,.int .i64 0,.int .i64 0]):=by kernel_rfl
theorem qD:DX Tryz.prog 127=some (.agg #[.bool false,.bool false,.bool false,.int .i64 0,.int .i64 0]):=by kernel_rfl
theorem C6 {a b c d e:Value}:flat (.agg #[a,b,c,d,e])=(BS a&&(BS b&&(BS c&&(BS d&&(BS e&&true))))):=by simp[flat,Bool.and_assoc]
theorem RS {k:IntKind} {x:Int}:BS (.int k x)=true:=rfl
theorem Cs {x:ByteArray}:BS (.string x)=true:=rfl
theorem Sq {x:Bool}:BS (.bool x)=true:=rfl
theorem AL {h:AA} {id off:Nat}:EW Tryz.prog h 3 (.pointer (some ⟨id,off,none⟩))=AH off (h.get id):=LT Lp
theorem FU {h:AA} {id off:Nat}:EW Tryz.prog h 9 (.pointer (some ⟨id,off,none⟩))=AH off (h.get id):=LT x9
theorem EE {h:AA} {id off:Nat}:EW Tryz.prog h 4 (.pointer (some ⟨id,off,none⟩))=AH off (h.get id):=LT Cf
theorem FQ {h:AA} {id off:Nat}:EW Tryz.prog h 60 (.pointer (some ⟨id,off,none⟩))=A_ 5 off (h.get id):=ND Qh FN
theorem rZ {h:AA} {id off:Nat}:EW Tryz.prog h 127 (.pointer (some ⟨id,off,none⟩))=A_ 5 off (h.get id):=ND Pz wF
theorem KD {a:Value} {l:List Value} {ty:TypeId} {g ro:Bool}:AH 0 (.row (a :: l) ty g ro)=some a:=rfl
theorem TI {a b:Value} {l:List Value} {ty:TypeId} {g ro:Bool}:AH 1 (.row (a :: b :: l) ty g ro)=some b:=rfl
theorem V6 {a b c:Value} {l:List Value} {ty:TypeId} {g ro:Bool}:AH 2 (.row (a :: b :: c :: l) ty g ro)=some c:=rfl
theorem R2 {a b c d:Value} {l:List Value} {ty:TypeId} {g ro:Bool}:AH 3 (.row (a :: b :: c :: d :: l) ty g ro)=some d:=rfl
theorem uC {a b c d e:Value} {l:List Value} {ty:TypeId} {g ro:Bool}:AH 4 (.row (a :: b :: c :: d :: e :: l) ty g ro)=some e:=rfl
theorem tG {a b c d e:Value} {ty:TypeId} {g ro:Bool}:A_ 5 0 (.row [a,b,c,d,e] ty g ro)=some (.agg #[a,b,c,d,e]):=rfl
noncomputable def UT (t:TypeId) (h:AA) (id:Nat) (a b c d e:Value):BF→Option AA
 | .row [_,_,_,_,_] ty g false=>if h.floor≤id∧[a,b,c,d,e].all one=true then some (h.put id (.row [a,b,c,d,e] ty g false)) else BB Tryz.prog h t (.pointer (some ⟨id,0,none⟩)) (.agg #[a,b,c,d,e])
 | _=>BB Tryz.prog h t (.pointer (some ⟨id,0,none⟩)) (.agg #[a,b,c,d,e])
theorem vB {t:TypeId} (ht:BM Tryz.prog t=some 5) {h:AA} {id:Nat} {a b c d e:Value}:BB Tryz.prog h t (.pointer (some ⟨id,0,none⟩)) (.agg #[a,b,c,d,e])=UT t h id a b c d e (h.get id):=by
 unfold UT
 split
 ·rename_i v w x y z ty g hg
  split
  ·rename_i hc
   have hone:([a,b,c,d,e].all one)=true:=hc.2
   have hl:Go.Sx.lay [v,w,x,y,z] 0 [a,b,c,d,e]=[a,b,c,d,e]:=rfl
   have hcells:(Value.agg #[a,b,c,d,e]).cells=#[a,b,c,d,e]:=rfl
   simp only[BB,hcells,ht,GZ,hg]
   have hsz:(some 5:Option Nat)=some (#[a,b,c,d,e]:Array Value).size:=rfl
   rw[if_pos hsz,if_pos (by simp only[List.length_cons,List.length_nil,hone];simp[hc.1])]
   rfl
  ·rfl
 ·rfl
theorem CW {h:AA} {id:Nat} {a b c d e:Value}:BB Tryz.prog h 60 (.pointer (some ⟨id,0,none⟩)) (.agg #[a,b,c,d,e])=UT 60 h id a b c d e (h.get id):=vB FN
theorem r7 {h:AA} {id:Nat} {a b c d e:Value}:BB Tryz.prog h 127 (.pointer (some ⟨id,0,none⟩)) (.agg #[a,b,c,d,e])=UT 127 h id a b c d e (h.get id):=vB wF
theorem TY {t:TypeId} {h:AA} {id:Nat} {a b c d e v w x y z:Value} {ty:TypeId} {g:Bool}:UT t h id a b c d e (.row [v,w,x,y,z] ty g false) =
  if h.floor≤id∧[a,b,c,d,e].all one=true then some (h.put id (.row [a,b,c,d,e] ty g false)) else BB Tryz.prog h t (.pointer (some ⟨id,0,none⟩)) (.agg #[a,b,c,d,e]):=rfl
theorem xG {a b c d e:Value}:#[a,b,c,d,e].toList.all one=(one a&&(one b&&(one c&&(one d&&(one e&&true))))):=by simp[Bool.and_assoc]
section
variable {id off:Nat}
theorem BC:BE Tryz.prog 60 (.pointer (some ⟨id,off,none⟩)) 0=some (.pointer (some ⟨id,off,none⟩)):=by simp[BE,Tryz.underlying60,C7,CN]
theorem MU:BE Tryz.prog 60 (.pointer (some ⟨id,off,none⟩)) 1=some (.pointer (some ⟨id,off+1,none⟩)):=by simp[BE,Tryz.underlying60,KH,CN]
theorem UD:BE Tryz.prog 60 (.pointer (some ⟨id,off,none⟩)) 2=some (.pointer (some ⟨id,off+2,none⟩)):=by simp[BE,Tryz.underlying60,C7,CN]
theorem F1:BE Tryz.prog 60 (.pointer (some ⟨id,off,none⟩)) 3=some (.pointer (some ⟨id,off+3,none⟩)):=by simp[BE,Tryz.underlying60,C7,CN]
theorem SI:BE Tryz.prog 60 (.pointer (some ⟨id,off,none⟩)) 4=some (.pointer (some ⟨id,off+4,none⟩)):=by simp[BE,Tryz.underlying60,C7,CN]
theorem ZG:BE Tryz.prog 127 (.pointer (some ⟨id,off,none⟩)) 0=some (.pointer (some ⟨id,off,none⟩)):=by simp[BE,Tryz.underlying127,PI,CN]
theorem ZP:BE Tryz.prog 127 (.pointer (some ⟨id,off,none⟩)) 1=some (.pointer (some ⟨id,off+1,none⟩)):=by simp[BE,Tryz.underlying127,PI,CN]
theorem ZD:BE Tryz.prog 127 (.pointer (some ⟨id,off,none⟩)) 2=some (.pointer (some ⟨id,off+2,none⟩)):=by simp[BE,Tryz.underlying127,PI,CN]
theorem pX:BE Tryz.prog 127 (.pointer (some ⟨id,off,none⟩)) 3=some (.pointer (some ⟨id,off+3,none⟩)):=by simp[BE,Tryz.underlying127,C7,CN]
theorem tN:BE Tryz.prog 127 (.pointer (some ⟨id,off,none⟩)) 4=some (.pointer (some ⟨id,off+4,none⟩)):=by simp[BE,Tryz.underlying127,C7,CN]
end
theorem LK (a:ByteArray):(a==a)=true:=by
 cases a with
 | mk d=>show (d==d)=true;simp
theorem tU (a b:ByteArray):(a.toList==b.toList)=(a==b):=by
 rw[ByteArray.toList_eq,ByteArray.toList_eq]
 apply Bool.eq_iff_iff.2
 constructor
 ·intro h
  have h1:a.data.toList=b.data.toList:=by simpa using h
  have h2:a=b:=by
   cases a;cases b
   simp only[ByteArray.mk.injEq]
   exact Array.toList_inj.1 h1
  subst h2
  exact LK a
 ·intro h
  have:=LQ h
  subst this
  simp
theorem Fl {P:Program} {t:TypeId} {x y:Operand} {a b:ByteArray}:CP P .eql t x y (.string a) (.string b)=some (.bool (a==b)):=by
 have e:BH P (do eqGuard .eql t x y (.string a) (.string b);binOp .eql t (.string a) (.string b))=some (.bool (a==b)):=by
  rw[DO]
  have g:BH P (eqGuard .eql t x y (.string a) (.string b))=some ():=rfl
  rw[g,← tU]
  simp[binOp,Op.stringOp,Option.bind]
  rfl
 have hf:flat (.string a)=true:=rfl
 have hf2:flat (.string b)=true:=rfl
 simp only[CP,hf,hf2,MT,Bool.and_self,if_true,e]
theorem RL {x y:Operand} {a b:ByteArray}:CP Tryz.prog .eql 9 x y (.string a) (.string b)=some (.bool (a==b)):=Fl
theorem UM {x y:Operand} {a b:Bool}:CP Tryz.prog .eql 4 x y (.bool a) (.bool b)=some (.bool (a==b)):=Tg Tryz.underlying4
theorem XS {x y:Operand} {a b:Bool}:CP Tryz.prog .neq 4 x y (.bool a) (.bool b)=some (.bool (a != b)):=UO Tryz.underlying4
def AV (r:AB):List Value:=[.int .i64 r.kind,.string r.name,.int .i64 r.ends,.int .i64 r.n,.int .i64 r.kids]
theorem TH {h:AA} {a:Option Addr} {n c:Nat}:CY Tryz.prog h 22 (.slice a n c)=some (.int .i64 n):=by simp[CY,Tryz.underlying22]
def AQ (h:AA) (v:Value) (l:List AB):Prop:=
 ∃ a c,v=.slice a l.length c∧((l=[]∧a=none)∨∃ id off cs ty g ro,a=some ⟨id,off,none⟩∧h.get id=.row cs ty g ro∧id<h.next∧∀ k r,l[k]?=some r→(cs.drop (off+k*5)).take 5=AV r)
theorem AQ.row {h:AA} {v:Value} {l:List AB} (hv:AQ h v l) {k:Nat} {r:AB} (hk:l[k]?=some r) :
  ∃ id p,CB Tryz.prog 22 v (.int .i64 (k:Int))=some (.pointer (some ⟨id,p,none⟩))∧id<h.next∧AH p (h.get id)=some (.int .i64 r.kind)∧AH (p+1) (h.get id)=some (.string r.name)∧AH (p+2) (h.get id)=some (.int .i64 r.ends) ∧
   AH (p+3) (h.get id)=some (.int .i64 r.n)∧AH (p+4) (h.get id)=some (.int .i64 r.kids)∧A_ 5 p (h.get id)=some (.agg #[.int .i64 r.kind,.string r.name,.int .i64 r.ends,.int .i64 r.n,.int .i64 r.kids]):=by
 obtain⟨a,c,rfl,⟨rfl,_⟩ | ⟨id,off,cs,ty,g,ro,rfl,hg,hid,hc⟩⟩:=hv
 ·simp at hk
 ·have hlt:=(List.getElem?_eq_some_iff.1 hk).1
  have hcut:=hc k r hk
  have hat:∀ j,j<5→cs[off+k*5+j]?=(AV r)[j]?:=fun j hj=>by
   rw[← hcut,List.getElem?_take_of_lt hj,List.getElem?_drop]
  refine⟨id,off+k*5,?_,hid,?_,?_,?_,?_,?_,?_⟩
  ·simp only[CB,Tryz.underlying22,FN,CN]
   rw[if_pos (by omega)]
   simp
  ·rw[hg];exact hat 0 (by decide)
  ·rw[hg];exact hat 1 (by decide)
  ·rw[hg];exact hat 2 (by decide)
  ·rw[hg];exact hat 3 (by decide)
  ·rw[hg];exact hat 4 (by decide)
  ·rw[hg]
   simp only[A_,GS,hcut]
   rfl
theorem AQ.len {h:AA} {v:Value} {l:List AB} (hv:AQ h v l) {h':AA}:CY Tryz.prog h' 22 v=some (.int .i64 l.length):=by
 obtain⟨a,c,rfl,_⟩:=hv
 exact TH
theorem AQ.mono {h h':AA} {v:Value} {l:List AB} (hv:AQ h v l) (hn:h.next≤h'.next) (hg:∀ i,i<h.next→h'.get i=h.get i):AQ h' v l:=by
 obtain⟨a,c,rfl,h1 | ⟨id,off,cs,ty,g,ro,rfl,h1,hid,hc⟩⟩:=hv
 ·exact⟨_,_,rfl,.inl h1⟩
 ·exact⟨_,_,rfl,.inr ⟨id,off,cs,ty,g,ro,rfl,by rw[hg id hid];exact h1,by omega,hc⟩⟩
theorem Y4:type_of% (And.intro @I_.eq_1 (And.intro @I_.eq_2 (And.intro @PN.eq_1 (And.intro @JH.eq_1 (And.intro @F2.eq_1 (And.intro @F2.eq_2 (And.intro @F2.eq_3 (And.intro @HL.eq_1 (And.intro @HL.eq_2 (And.intro @AT.eq_1 (And.intro @AT.eq_2 (And.intro @AT.eq_3 (And.intro @AT.eq_4 (And.intro @AT.eq_5 (And.intro @AT.eq_6 (And.intro @AT.eq_7 (And.intro @AT.eq_8 (And.intro @AT.eq_9 (And.intro @AT.eq_10 (And.intro @AT.eq_11 (And.intro @AT.eq_12 (And.intro @AT.eq_13 (And.intro @AT.eq_14 (And.intro @AT.eq_15 (And.intro @AT.eq_16 (And.intro @AT.eq_17 (And.intro @AT.eq_18 (And.intro @AT.eq_19 (And.intro @AT.eq_20 (And.intro @AT.eq_21 (And.intro @AT.eq_22 (And.intro @AT.eq_23 (And.intro @AT.eq_24 (And.intro @AT.eq_25 (And.intro @AT.eq_26 (And.intro @AT.eq_27 @AT.eq_28)))))))))))))))))))))))))))))))))))):=And.intro @I_.eq_1 (And.intro @I_.eq_2 (And.intro @PN.eq_1 (And.intro @JH.eq_1 (And.intro @F2.eq_1 (And.intro @F2.eq_2 (And.intro @F2.eq_3 (And.intro @HL.eq_1 (And.intro @HL.eq_2 (And.intro @AT.eq_1 (And.intro @AT.eq_2 (And.intro @AT.eq_3 (And.intro @AT.eq_4 (And.intro @AT.eq_5 (And.intro @AT.eq_6 (And.intro @AT.eq_7 (And.intro @AT.eq_8 (And.intro @AT.eq_9 (And.intro @AT.eq_10 (And.intro @AT.eq_11 (And.intro @AT.eq_12 (And.intro @AT.eq_13 (And.intro @AT.eq_14 (And.intro @AT.eq_15 (And.intro @AT.eq_16 (And.intro @AT.eq_17 (And.intro @AT.eq_18 (And.intro @AT.eq_19 (And.intro @AT.eq_20 (And.intro @AT.eq_21 (And.intro @AT.eq_22 (And.intro @AT.eq_23 (And.intro @AT.eq_24 (And.intro @AT.eq_25 (And.intro @AT.eq_26 (And.intro @AT.eq_27 @AT.eq_28)))))))))))))))))))))))))))))))))))
theorem PB:type_of% (And.intro Y4 (And.intro @KA (And.intro @oW (And.intro @qY (And.intro @pH (And.intro @tO (And.intro @pY (And.intro @uY (And.intro @uI (And.intro @uG (And.intro @rI (And.intro @S2 (And.intro @tJ (And.intro @sQ (And.intro @xA (And.intro @pP (And.intro @lY (And.intro @mW (And.intro @kS (And.intro @wS (And.intro @YC (And.intro @wJ (And.intro @mR (And.intro @oM (And.intro @YR (And.intro @YS (And.intro @YW (And.intro @Tr.get_put (And.intro @Tr.get_set (And.intro @Z7 (And.intro @List.map_cons.{0,0} (And.intro @List.map_nil.{0,0} (And.intro @Option.some.injEq.{0} (And.intro @YV (And.intro @VO (And.intro @U9 (And.intro @Z5 (And.intro @QD (And.intro @RO (And.intro @W6 (And.intro @W5 (And.intro @uT (And.intro @max2 (And.intro @min2 (And.intro @decide_eq_true_eq (And.intro @decide_eq_false_iff_not (And.intro @beq_iff_eq.{0} (And.intro @true_and (And.intro @and_true (And.intro @or_true (And.intro @true_or (And.intro @exists_eq_left'.{1} (And.intro @Option.map_some.{0,0} (And.intro @Option.map_none.{0,0} (And.intro @YY (And.intro @Option.bind_some.{0,0} (And.intro @List.nil_append.{0} (And.intro @List.append_nil.{0} (And.intro @List.cons_append.{0} (And.intro @Value.int.injEq (And.intro @YT (And.intro @List.getElem?_toArray.{0} (And.intro @List.getElem?_cons_succ.{0} (And.intro @List.getElem?_cons_zero.{0} (And.intro @decide_true (And.intro @decide_false (And.intro @beq_self_eq_true.{0} (And.intro @YJ (And.intro @XP (And.intro @Bool.not_true (And.intro @Bool.not_false (And.intro @Bool.false_eq_true (And.intro @if_true.{1} (And.intro @if_false.{1} (And.intro @MT (And.intro @Y_ (And.intro @xF (And.intro @qT (And.intro @false_implies (And.intro @true_implies @rY)))))))))))))))))))))))))))))))))))))))))))))))))))))))))))))))))))))))))))))))):=And.intro Y4 (And.intro @KA (And.intro @oW (And.intro @qY (And.intro @pH (And.intro @tO (And.intro @pY (And.intro @uY (And.intro @uI (And.intro @uG (And.intro @rI (And.intro @S2 (And.intro @tJ (And.intro @sQ (And.intro @xA (And.intro @pP (And.intro @lY (And.intro @mW (And.intro @kS (And.intro @wS (And.intro @YC (And.intro @wJ (And.intro @mR (And.intro @oM (And.intro @YR (And.intro @YS (And.intro @YW (And.intro @Tr.get_put (And.intro @Tr.get_set (And.intro @Z7 (And.intro @List.map_cons.{0,0} (And.intro @List.map_nil.{0,0} (And.intro @Option.some.injEq.{0} (And.intro @YV (And.intro @VO (And.intro @U9 (And.intro @Z5 (And.intro @QD (And.intro @RO (And.intro @W6 (And.intro @W5 (And.intro @uT (And.intro @max2 (And.intro @min2 (And.intro @decide_eq_true_eq (And.intro @decide_eq_false_iff_not (And.intro @beq_iff_eq.{0} (And.intro @true_and (And.intro @and_true (And.intro @or_true (And.intro @true_or (And.intro @exists_eq_left'.{1} (And.intro @Option.map_some.{0,0} (And.intro @Option.map_none.{0,0} (And.intro @YY (And.intro @Option.bind_some.{0,0} (And.intro @List.nil_append.{0} (And.intro @List.append_nil.{0} (And.intro @List.cons_append.{0} (And.intro @Value.int.injEq (And.intro @YT (And.intro @List.getElem?_toArray.{0} (And.intro @List.getElem?_cons_succ.{0} (And.intro @List.getElem?_cons_zero.{0} (And.intro @decide_true (And.intro @decide_false (And.intro @beq_self_eq_true.{0} (And.intro @YJ (And.intro @XP (And.intro @Bool.not_true (And.intro @Bool.not_false (And.intro @Bool.false_eq_true (And.intro @if_true.{1} (And.intro @if_false.{1} (And.intro @MT (And.intro @Y_ (And.intro @xF (And.intro @qT (And.intro @false_implies (And.intro @true_implies @rY)))))))))))))))))))))))))))))))))))))))))))))))))))))))))))))))))))))))))))))))
theorem eE:type_of% (And.intro @RW PB):=And.intro @RW PB
theorem eP:type_of% (And.intro @wP @vH):=And.intro @wP @vH
theorem C2:type_of% (And.intro @EQ (And.intro @JQ (And.intro @KN (And.intro @NY (And.intro @kG (And.intro @p_ (And.intro @AL (And.intro @FU (And.intro @EE (And.intro @FQ (And.intro @rZ (And.intro @KD (And.intro @TI (And.intro @V6 (And.intro @R2 (And.intro @uC (And.intro @tG (And.intro @r7 (And.intro @TY (And.intro @IM (And.intro @O4 (And.intro @pB (And.intro @BC (And.intro @MU (And.intro @UD (And.intro @F1 (And.intro @SI (And.intro @ZG (And.intro @ZP (And.intro @ZD (And.intro @pX (And.intro @tN (And.intro @E1 (And.intro @qD (And.intro @xG (And.intro @List.all_cons.{0} (And.intro @List.all_nil.{0} (And.intro @Bool.and_self (And.intro @Bool.true_and (And.intro @Bool.and_true (And.intro @Nat.zero_le (And.intro @NJ (And.intro @ZJ (And.intro @UM (And.intro @XS (And.intro @RL @TH)))))))))))))))))))))))))))))))))))))))))))))):=And.intro @EQ (And.intro @JQ (And.intro @KN (And.intro @NY (And.intro @kG (And.intro @p_ (And.intro @AL (And.intro @FU (And.intro @EE (And.intro @FQ (And.intro @rZ (And.intro @KD (And.intro @TI (And.intro @V6 (And.intro @R2 (And.intro @uC (And.intro @tG (And.intro @r7 (And.intro @TY (And.intro @IM (And.intro @O4 (And.intro @pB (And.intro @BC (And.intro @MU (And.intro @UD (And.intro @F1 (And.intro @SI (And.intro @ZG (And.intro @ZP (And.intro @ZD (And.intro @pX (And.intro @tN (And.intro @E1 (And.intro @qD (And.intro @xG (And.intro @List.all_cons.{0} (And.intro @List.all_nil.{0} (And.intro @Bool.and_self (And.intro @Bool.true_and (And.intro @Bool.and_true (And.intro @Nat.zero_le (And.intro @NJ (And.intro @ZJ (And.intro @UM (And.intro @XS (And.intro @RL @TH)))))))))))))))))))))))))))))))))))))))))))))
theorem rP:type_of% (And.intro @FI (And.intro @LF (And.intro @UH (And.intro @CW (And.intro @C6 C2))))):=And.intro @FI (And.intro @LF (And.intro @UH (And.intro @CW (And.intro @C6 C2))))
theorem rG:type_of% (And.intro Y4 (And.intro @Tr.get_set (And.intro @Z7 (And.intro @YC (And.intro @YY (And.intro @YT (And.intro @YJ (And.intro @XP (And.intro @YR (And.intro @YS (And.intro @Tr.get_put (And.intro @Option.some.injEq.{0} (And.intro @if_true.{1} (And.intro @if_false.{1} (And.intro @Y9 (And.intro @Option.map_some.{0,0} (And.intro @Bool.not_true (And.intro @Bool.not_false (And.intro @Bool.false_eq_true (And.intro @true_and @ZJ)))))))))))))))))))):=And.intro Y4 (And.intro @Tr.get_set (And.intro @Z7 (And.intro @YC (And.intro @YY (And.intro @YT (And.intro @YJ (And.intro @XP (And.intro @YR (And.intro @YS (And.intro @Tr.get_put (And.intro @Option.some.injEq.{0} (And.intro @if_true.{1} (And.intro @if_false.{1} (And.intro @Y9 (And.intro @Option.map_some.{0,0} (And.intro @Bool.not_true (And.intro @Bool.not_false (And.intro @Bool.false_eq_true (And.intro @true_and @ZJ)))))))))))))))))))
theorem CT:type_of% (And.intro @eq_self.{1} (And.intro @true_implies (And.intro @Option.map_none.{0,0} (And.intro @Option.map_some.{0,0} (And.intro @Nat.zero_add (And.intro @KU (And.intro @decide_true (And.intro @false_implies @forall_const.{1})))))))):=And.intro @eq_self.{1} (And.intro @true_implies (And.intro @Option.map_none.{0,0} (And.intro @Option.map_some.{0,0} (And.intro @Nat.zero_add (And.intro @KU (And.intro @decide_true (And.intro @false_implies @forall_const.{1})))))))
theorem DC:type_of% (And.intro @YW (And.intro @List.nil_append.{0} (And.intro @List.append_nil.{0} (And.intro @List.cons_append.{0} (And.intro @List.map_cons.{0,0} (And.intro @List.map_nil.{0,0} (And.intro @NA (And.intro @TO (And.intro @NJ @RZ))))))))):=And.intro @YW (And.intro @List.nil_append.{0} (And.intro @List.append_nil.{0} (And.intro @List.cons_append.{0} (And.intro @List.map_cons.{0,0} (And.intro @List.map_nil.{0,0} (And.intro @NA (And.intro @TO (And.intro @NJ @RZ))))))))
theorem C4:type_of% (And.intro @List.all_cons.{0} (And.intro @List.all_nil.{0} (And.intro @Bool.and_self (And.intro @PH (And.intro @PE (And.intro @JQ (And.intro @NY (And.intro @EQ @KN)))))))):=And.intro @List.all_cons.{0} (And.intro @List.all_nil.{0} (And.intro @Bool.and_self (And.intro @PH (And.intro @PE (And.intro @JQ (And.intro @NY (And.intro @EQ @KN)))))))
theorem ZM:type_of% (And.intro @PH (And.intro @PE (And.intro @JQ (And.intro @NY (And.intro @EQ @KN))))):=And.intro @PH (And.intro @PE (And.intro @JQ (And.intro @NY (And.intro @EQ @KN))))
theorem DJ:type_of% (And.intro @QD (And.intro @RO (And.intro @RL (And.intro @UM (And.intro @U9 (And.intro @Z5 (And.intro @YV (And.intro @VO (And.intro @W6 @W5))))))))):=And.intro @QD (And.intro @RO (And.intro @RL (And.intro @UM (And.intro @U9 (And.intro @Z5 (And.intro @YV (And.intro @VO (And.intro @W6 @W5))))))))
theorem AG {P:Program} {call:AS} {n:Nat} {ops:Array Oper} {start:Nat} {F:List (Bool × Bool × List Operand)} {s:St} {k:B_} (hsn:CK call) (i:Nat) (dst:Option Tmp) (op:Op) (g:Option (Nat × Bool)) {lr la:Bool} {ls:List Operand}
  (h : if EL ops s.T ⟨dst, op, 0, "", #[], g⟩ then AE P call n ops start lr la ls (F.drop (i + 1)) ⟨dst, op, 0, "", #[], g⟩ (ops.toList.drop (i + 1)) s k (AD op)
   else DN P call n ops start (F.drop (i+1)) (ops.toList.drop (i+1)) ⟨s.T.put dst undef,s.h⟩ k)
  (hi:(ops[i]?).map Go.Sx.seen=some (dst,op,g):=by kernel_rfl) (hf:F[i]?=some (lr,la,ls):=by rfl):DN P call n ops start (F.drop i) (ops.toList.drop i) s k:=
 DN.at i dst op g hi hf (fun _ _ _ hs=>(a9 hsn hs).floor) h
theorem DI {P:Program} {call:AS} {n:Nat} {ops:Array Oper} {start:Nat} {fs:List (Bool × Bool × List Operand)} {l:List Oper} {s:St} {k:B_} {lr la:Bool} {ls:List Operand} {o:Oper} (hsn:CK call)
  (h:if EL ops s.T o then AE P call n ops start lr la ls fs o l s k (AD o.op) else DN P call n ops start fs l ⟨s.T.put o.dst undef,s.h⟩ k):DN P call n ops start ((lr,la,ls) :: fs) (o :: l) s k:=DN.cons (fun _ _ _ hs=>(a9 hsn hs).floor) h
theorem DH {P:Program} {call:AS} {n:Nat} {ops:Array Oper} {start:Nat} {fs:List (Bool × Bool × List Operand)} {s:St} {k:B_} (h:k.ap P call n .normal s):DN P call n ops start fs [] s k:=by rw[XW];exact h
theorem rF:type_of% (And.intro @Y9 (And.intro @XW (And.intro @KU (And.intro @PH (And.intro @PE (And.intro @uF (And.intro @NA @TO))))))):=And.intro @Y9 (And.intro @XW (And.intro @KU (And.intro @PH (And.intro @PE (And.intro @uF (And.intro @NA @TO))))))
section
variable (h:AA) (a b c d:BF)
theorem MJ:let A:=(h.push a).push b
  A.get h.next=a∧A.get (h.next+1)=b∧A.next=h.next+2∧A.floor=h.floor∧∀ i,i<h.next→A.get i=h.get i:=
 ⟨by rw[AU (by show h.next<h.next+1;omega)];exact BX,BX (h:=h.push a),rfl,rfl,fun i hi=>by rw[AU (by show i<h.next+1;omega),AU hi]⟩
theorem SA:let A:=((h.push a).push b).push c
  A.get h.next=a∧A.get (h.next+1)=b∧A.get (h.next+2)=c∧A.next=h.next+3∧A.floor=h.floor∧∀ i,i<h.next→A.get i=h.get i:=by
 obtain⟨p1,p2,p3,p4,p5⟩:=MJ h a b
 exact⟨by rw[AU (by show h.next<h.next+2;omega)];exact p1,by rw[AU (by show h.next+1<h.next+2;omega)];exact p2,BX (h:=(h.push a).push b),rfl,rfl,fun i hi=>by rw[AU (by show i<h.next+2;omega)];exact p5 i hi⟩
theorem o9:let A:=(((h.push a).push b).push c).push d
  A.get h.next=a∧A.get (h.next+1)=b∧A.get (h.next+2)=c∧A.get (h.next+3)=d∧A.next=h.next+4∧A.floor=h.floor∧∀ i,i<h.next→A.get i=h.get i:=by
 obtain⟨p1,p2,p3,p4,p5,p6⟩:=SA h a b c
 exact⟨by rw[AU (by show h.next<h.next+3;omega)];exact p1,by rw[AU (by show h.next+1<h.next+3;omega)];exact p2,by rw[AU (by show h.next+2<h.next+3;omega)];exact p3,BX (h:=((h.push a).push b).push c),rfl,rfl,fun i hi=>by rw[AU (by show i<h.next+3;omega)];exact p6 i hi⟩
end
theorem B8 {a n:Nat} (h:a<n):∃ j,n=j+1:=⟨n-1,by omega⟩
theorem DF (i:Nat) (h:i<9223372036854775807):IntKind.i64.wrap ((i:Int)+1)=((i+1:Nat):Int):=BT (by omega) (by omega)
theorem DV (l:List Value):(Value.agg l.toArray).cells.toList=l:=rfl
theorem FZ:(Value.agg #[.int .i64 0,.int .i64 0]).cells.toList=[.int .i64 0,.int .i64 0]:=rfl
theorem O9:(Value.agg #[.string ByteArray.empty,.slice none 0 0,.slice none 0 0,.slice none 0 0,.slice none 0 0,.slice none 0 0,.slice none 0 0,.int .i64 0]).cells.toList=[.string ByteArray.empty,.slice none 0 0,.slice none 0 0,.slice none 0 0,.slice none 0 0,.slice none 0 0,.slice none 0 0,.int .i64 0]:=rfl
def AP:Bool × Bool × List Operand:=(false,false,[])
def A7:Bool × Bool × List Operand:=(false,true,[])
def HT:Bool × Bool × List Operand:=(true,true,[])
def AI (l:List Operand):Bool × Bool × List Operand:=(false,true,l)
def F5 (l:List Operand):Bool × Bool × List Operand:=(true,true,l)
abbrev Z0:Value:=.slice none 0 0
abbrev BY:List Value:=[.string ByteArray.empty,Z0,Z0,Z0,Z0,Z0,Z0,.int .i64 0]
abbrev DS:List Value:=[.int .i64 0,.string ByteArray.empty,.int .i64 0,.int .i64 0,.int .i64 0]
abbrev qP (a o:Nat):Value:=.pointer (some ⟨a,o,none⟩)
abbrev qS (a n c:Nat):Value:=.slice (some ⟨a,0,none⟩) n c
theorem Ub:Tryz.prog.globals.size≤1:=by
 have:Tryz.prog.globals.size=1:=by kernel_rfl
 omega
noncomputable def QP (m:Nat) (call:AS):AS:=fun f args h=>
 if args.all NK then match call f args (EZ m 0) with
  | some (v,_)=>if E9 v then some (v,h) else none
  | none=>none
 else none
theorem vD {m:Nat} {call:AS} {f:FuncId} {args:List Value} {h h':AA} {v:Value} (hs:QP m call f args h=some (v,h')) :
  args.all NK=true∧(∃ h1,call f args (EZ m 0)=some (v,h1))∧E9 v=true∧h'=h:=by
 unfold QP at hs
 split at hs
 ·rename_i hc
  split at hs
  ·rename_i v' h1 he
   split at hs
   ·rename_i hf
    cases hs
    exact⟨hc,⟨h1,he⟩,hf,rfl⟩
   ·cases hs
  ·cases hs
 ·cases hs
theorem xX {m:Nat} {call:AS} {f:FuncId} {args:List Value} {h:AA} {v:Value} (ha:args.all NK=true) (hv:E9 v=true) (hc:∃ h1,call f args (EZ m 0)=some (v,h1)) :
  QP m call f args h=some (v,h):=by
 obtain⟨h1,he⟩:=hc
 unfold QP
 rw[if_pos ha,he]
 simp only[hv,if_true]
theorem Rh {P:Program} {call:AS} (hc:D7 P call) {m:Nat} (hg:P.globals.size≤m):D7 P (QP m call)∧CK (QP m call):=by
 refine⟨fun f args h v h' hs=>?_,fun f args h v h' hs=>?_⟩
 ·obtain⟨ha,⟨h1,he⟩,hv,rfl⟩:=vD hs
  obtain⟨hfn,hc2⟩:=hc _ _ _ _ _ he
  refine⟨hfn,fun ρ W ARGS hR hargs=>?_⟩
  have hR0:CH P (CX ρ m) (EZ m 0) W:=gP (fun i hi=>by unfold CX;rw[if_neg (by omega)]) fun g hgl=>by
   rw[JC (by omega)]
   exact hR.glob g hgl
  have hnw:∀ i,¬ wr ((EZ m 0).get i):=fun i hw=>by rw[NP] at hw;exact hw
  refine(hc2 _ W ARGS hR0 (pQ ha hargs)).mono fun e W' ⟨V,ρ',he',hN,hv'⟩=>⟨V,ρ,he',(Nx.refl hR).grow (hN.fr.gr hnw),?_⟩
  rw[tC hv hv']
  exact qQ hv
 ·obtain⟨_,_,_,rfl⟩:=vD hs
  exact .refl _
noncomputable def OD (fs:List FuncId) (base:AS) (k:Nat):AS:=HM base (MS fs (QP 1 (AY Tryz.prog (GW Tryz.prog base k) k)))
section
variable {fs:List FuncId} {k:Nat} {base:AS} {f:FuncId} {args:List Value} {h:AA} {v:Value} {r:Value × AA}
theorem iB (hb:D7 Tryz.prog base∧CK base):D7 Tryz.prog (OD fs base k)∧CK (OD fs base k):=
 SL hb (j8 (Rh (SB KC (OH KC hb.1 hb.2 k).1 (OH KC hb.1 hb.2 k).2 k).1 Ub))
theorem HD (hb:base f args h=some r):OD fs base k f args h=some r:=VP hb
theorem GY (hb:base f args h=none) (hf:fs.contains f=false):OD fs base k f args h=none:=by unfold OD HM MS;rw[hb,hf];rfl
theorem FE (hb:base f args h=none) (hf:fs.contains f=true) (ha:args.all NK=true) (hv:E9 v=true) (hw:∃ h1,AY Tryz.prog (GW Tryz.prog base k) k f args (EZ 1 0)=some (v,h1)):OD fs base k f args h=some (v,h):=by
 have e:QP 1 (AY Tryz.prog (GW Tryz.prog base k) k) f args h=some (v,h):=xX ha hv hw
 unfold OD HM MS
 rw[hb,hf,if_pos rfl,e]
end
theorem Ib {α:Type} {p:α→Prop} {q:α→Prop} (h:∃ x,p x∧q x):∃ x,p x:=h.elim fun x hx=>⟨x,hx.1⟩
def JI:List Int:=(List.range 54).map fun (i:Nat)=>(i:Int)+1
theorem Y0 {k:Int} (h:1≤k∧k≤54):k∈JI:=List.mem_map.2 ⟨(k-1).toNat,by rw[List.mem_range];omega,by omega⟩
noncomputable def IS (f:FuncId) (mk:Int→List Value) (spec:Int→Value):Bool:=JI.all fun k=>match AY Tryz.prog (GW Tryz.prog O6 12) 12 f (mk k) (EZ 1 0) with
 | some (v,_)=>SO v (spec k)
 | none=>false
theorem JD {f:FuncId} {mk:Int→List Value} {spec:Int→Value} (h:IS f mk spec=true) {k:Int} (hk:1≤k∧k≤54):∃ h1,AY Tryz.prog (GW Tryz.prog O6 12) 12 f (mk k) (EZ 1 0)=some (spec k,h1):=by
 have:=List.all_eq_true.1 h k (Y0 hk)
 split at this
 ·rename_i v h1 he
  rw[W4 this] at he
  exact⟨h1,he⟩
 ·cases this
def C1 (k:Int):Int:=if k=54 then 1 else if k=53 then 2 else if k≥47 then 3 else if k≥45 then 4 else if k≥43 then 5 else if k≥41 then 6 else if k≥27 then 7 else 0
def E5 (k:Int):Int:=if [1,11,26,31,32,35,36,37,38,39,40,41,42].contains k then 1 else 0
def BZ (k:Int):Int:=if [2,3].contains k then 1 else if k=4 then 2 else if k=5 then 3 else if k=7 then 4 else 0
def EC (k:Int):Int:=if [8,9,16,17,19,20,21,24,26,31,32,35,36,37].contains k then 1 else if [14,28].contains k then 2 else if [15,38].contains k then 3 else if k=22 then 4 else 0
def E8 (k:Int):Bool:=decide (k≥8)&&decide (k≤10)
def RA (k:Int) (j:Nat):Int:=if k=1 then 1 else BV k j
abbrev iv (x:Int):Value:=.int .i64 x
theorem Ju:IS 110 (fun k=>[iv k]) (fun k=>.agg #[.bool (HQ k),.bool (KJ k),.bool (k==27),iv (FT k),iv (CZ k)])=true:=by kernel_rfl
theorem lN:IS 132 (fun k=>[iv k]) (fun k=>iv (C1 k))=true:=by kernel_rfl
theorem We:IS 124 (fun k=>[iv k]) (fun k=>iv (E5 k))=true:=by kernel_rfl
theorem Aj:IS 72 (fun k=>[iv k]) (fun k=>iv (BZ k))=true:=by kernel_rfl
theorem He:IS 74 (fun k=>[iv k]) (fun k=>iv (EC k))=true:=by kernel_rfl
theorem Qi:IS 75 (fun k=>[iv k]) (fun k=>.bool (E8 k))=true:=by kernel_rfl
theorem yB:IS 80 (fun k=>[iv k]) (fun k=>iv (BZ k))=true:=by kernel_rfl
theorem Hw:IS 82 (fun k=>[iv k]) (fun k=>iv (EC k))=true:=by kernel_rfl
theorem Rl:IS 84 (fun k=>[iv k]) (fun k=>.bool (E8 k))=true:=by kernel_rfl
theorem Pb:IS 138 (fun k=>[iv k]) (fun k=>iv (C1 k))=true:=by kernel_rfl
theorem Mm:IS 135 (fun k=>[iv k]) (fun k=>.bool (HQ k))=true:=by kernel_rfl
theorem Qk:IS 134 (fun k=>[iv k]) (fun k=>.bool (KJ k))=true:=by kernel_rfl
theorem Jr:IS 137 (fun k=>[iv k]) (fun k=>.tuple #[iv (FT k),iv (CZ k)])=true:=by kernel_rfl
theorem Bg:IS 125 (fun k=>[iv k,iv 0]) (fun k=>iv (RA k 0))=true:=by kernel_rfl
theorem Bi:IS 125 (fun k=>[iv k,iv 1]) (fun k=>iv (RA k 1))=true:=by kernel_rfl
theorem Oc:IS 125 (fun k=>[iv k,iv 2]) (fun k=>iv (RA k 2))=true:=by kernel_rfl
theorem Nj:IS 113 (fun k=>[iv k,iv 0]) (fun k=>iv (BV k 0))=true:=by kernel_rfl
theorem Bv:IS 113 (fun k=>[iv k,iv 1]) (fun k=>iv (BV k 1))=true:=by kernel_rfl
theorem Ki:IS 113 (fun k=>if k=15 then [iv 1,iv 2] else [iv k,iv 2]) (fun k=>if k=15 then iv (BV 1 2) else iv (BV k 2))=true:=by kernel_rfl
def kW:List Int:=(List.range 256).map fun (i:Nat)=>(i:Int)
theorem Cy {k:Nat} (h:k<256):(k:Int)∈kW:=List.mem_map.2 ⟨k,by rw[List.mem_range];exact h,rfl⟩
noncomputable def VW (f:FuncId) (spec:Int→Bool):Bool:=kW.all fun k=>match AY Tryz.prog (GW Tryz.prog O6 12) 12 f [.int .u8 k] (EZ 1 0) with
 | some (v,_)=>SO v (.bool (spec k))
 | none=>false
theorem WU {f:FuncId} {spec:Int→Bool} (h:VW f spec=true) (b:UInt8):∃ h1,AY Tryz.prog (GW Tryz.prog O6 12) 12 f [.int .u8 (b.toNat:Int)] (EZ 1 0)=some (.bool (spec (b.toNat:Int)),h1):=by
 have:=List.all_eq_true.1 h _ (Cy (UInt8.toNat_lt b))
 split at this
 ·rename_i v h1 he
  rw[W4 this] at he
  exact⟨h1,he⟩
 ·cases this
def FO (c:Int):Bool:=(decide (c≥97)&&decide (c≤122))||(decide (c≥65)&&decide (c≤90))||c==95
def GX (c:Int):Bool:=decide (c≥48)&&decide (c≤57)
theorem Wq:VW 120 FO=true:=by kernel_rfl
theorem Hf:VW 122 GX=true:=by kernel_rfl
theorem zQ:VW 144 FO=true:=by kernel_rfl
theorem Oo:VW 145 GX=true:=by kernel_rfl
section
variable {call:AS} {n:Nat} {h:AA}
theorem Pr {what kind:Int}:AY Tryz.prog call n 109 [iv what,iv kind] h=some (.bool (CA what kind),h):=by
 refine CO Tryz.func109 rfl (by simp[Tryz.f109]) ?_
 have hr:Tryz.f109.results.toList=[.tmp 4]:=rfl
 unfold CA
 by_cases w8:what=8
 ·subst w8;simp only[eE,seval,↓eP,rP,hr]
 have e8:(what==8)=false:=by simpa using w8
 by_cases w0:what=0
 ·subst w0
  cases d1:decide (kind≥2) <;> simp only[eE,seval,↓eP,rP,hr,e8,d1] <;> simp
 have e0:(what==0)=false:=by simpa using w0
 by_cases w1:what=1
 ·subst w1
  cases d1:decide (kind≥8) <;> simp only[eE,seval,↓eP,rP,hr,e8,e0,d1] <;> simp
 have e1:(what==1)=false:=by simpa using w1
 by_cases w2:what=2
 ·subst w2;simp only[eE,seval,↓eP,rP,hr,e8,e0,e1] <;> simp
 have e2:(what==2)=false:=by simpa using w2
 by_cases w3:what=3
 ·subst w3
  cases d1:decide (kind≥11) <;> simp only[eE,seval,↓eP,rP,hr,e8,e0,e1,e2,d1] <;> simp
 have e3:(what==3)=false:=by simpa using w3
 by_cases w4:what=4
 ·subst w4
  cases d1:(kind==11) <;> simp only[eE,seval,↓eP,rP,hr,e8,e0,e1,e2,e3,d1] <;> simp
 have e4:(what==4)=false:=by simpa using w4
 by_cases w5:what=5
 ·subst w5
  cases d1:(kind==25) <;> simp only[eE,seval,↓eP,rP,hr,e8,e0,e1,e2,e3,e4,d1] <;> simp
 have e5:(what==5)=false:=by simpa using w5
 by_cases w6:what=6
 ·subst w6;simp only[eE,seval,↓eP,rP,hr,e8,e0,e1,e2,e3,e4,e5] <;> simp
 have e6:(what==6)=false:=by simpa using w6
 rw[if_neg w8,if_neg w0,if_neg w1,if_neg w2,if_neg w3,if_neg w4,if_neg w5,if_neg w6]
 cases d1:decide (kind≥27) <;> simp only[eE,seval,↓eP,rP,hr,e8,e0,e1,e2,e3,e4,e5,e6,d1] <;> simp
end
def EA:BF:=.row M6 9 false true
def NU (w:List UInt8):ByteArray:=⟨w.toArray⟩
def KM (s:ByteArray):Bool:=decide (IL.findIdx (fun w=>s==NU w)<41)
theorem S7:IL.length=41:=by decide
def AZ (s:ByteArray):Bool:=match s.data.toList with
 | []=>false
 | c :: l=>decide ((c :: l).length≤64)&&FO c.toNat && !KM s&&(c :: l).all fun c=>FO c.toNat||GX c.toNat
theorem LR {s:ByteArray}:flat (.string s)=true:=rfl
theorem H_ {h:AA} {s:ByteArray}:CY Tryz.prog h 9 (.string s)=some (.int .i64 s.data.toList.length):=by simp[CY,Tryz.underlying9]
theorem UB {s:ByteArray} {i:Nat} {b:UInt8} (hb:s.data.toList[i]?=some b):BH Tryz.prog (Instr.index 9 (.string s) (.int .i64 (i:Int)))=some (.int .u8 (b.toNat:Int)):=by
 have hg:s[i]?=some b:=by
  obtain⟨hl,he⟩:=List.getElem?_eq_some_iff.1 hb
  have hl':i<s.size:=by simpa using hl
  rw[getElem?_pos s i hl']
  congr 1
 unfold Instr.index
 rw[DO]
 have e1:BH Tryz.prog (asIntOf (.int .i64 (i:Int)))=some (.i64,(i:Int)):=rfl
 rw[e1]
 simp only[Option.bind_some]
 rw[DO,OC Tryz.underlying9]
 simp only[Option.bind_some,Int.toNat_natCast]
 rw[if_pos (by omega),hg]
 rfl
theorem Rs {s:ByteArray} {b:UInt8} (hb:s.data.toList[0]?=some b):BH Tryz.prog (Instr.index 9 (.string s) (.int .i64 0))=some (.int .u8 (b.toNat:Int)):=UB (i:=0) hb
theorem xS {s:ByteArray}:(s==⟨#[]⟩)=s.data.toList.isEmpty:=by
 cases s with
 | mk d=>
  show (d == #[])=_
  cases d with
  | mk l=>cases l <;> rfl
section
variable {call:AS} {n:Nat} {h:AA} {s:ByteArray}
def VY (s:ByteArray):Int:=if IL.findIdx (fun w=>s==NU w)<41 then IL.findIdx (fun w=>s==NU w) else -1
theorem Wu {h:AA} {a:Option Addr} {n c:Nat}:CY Tryz.prog h 24 (.slice a n c)=some (.int .i64 n):=by simp[CY,Tryz.underlying24]
theorem mV {i:Nat} (hi:i<41):CB Tryz.prog 24 (.slice (some ⟨0,0,none⟩) 41 41) (.int .i64 (i:Int))=some (.pointer (some ⟨0,i,none⟩)):=by
 simp only[CB,Tryz.underlying24,KH,CN]
 rw[if_pos (by omega)]
 simp
theorem qN {i:Nat} (hi:i<41):AH i EA=some (.string (NU (IL[i]'(by rw[S7];exact hi)))):=by
 simp only[EA,AH,M6,List.getElem?_map]
 rw[List.getElem?_eq_getElem (by rw[S7];exact hi)]
 rfl
theorem Gn (hg:h.get 0=EA) (hn:41<n):AY Tryz.prog call n 139 [.slice (some ⟨0,0,none⟩) 41 41,.string s] h=some (iv (VY s),h):=by
 refine CO Tryz.func139 rfl (by simp[Tryz.f139]) ?_
 have hr:Tryz.f139.results.toList=[.tmp 4]:=rfl
 have hle:IL.findIdx (fun w=>s==NU w)≤41:=by have:=List.findIdx_le_length (xs:=IL) (p:=fun w=>s==NU w);rw[S7] at this;exact this
 simp only[eE,↓reduceIte,Nat.reduceEqDiff,reduceCtorEq,↓eP,rP,Nat.reduceAdd,Nat.reduceLT,hr,Wu]
 refine WK.loop (fun i s'=>s'.h=h∧s'.T.get 0=.slice (some ⟨0,0,none⟩) 41 41∧s'.T.get 1=.string s∧s'.T.get 7=.int .i64 41∧s'.T.get 8=.int .i64 i) (IL.findIdx (fun w=>s==NU w)) (by omega) ?_ ?_
 ·simp only[eE,↓reduceIte,Nat.reduceEqDiff,reduceCtorEq,↓eP,rP,Nat.reduceAdd,Nat.reduceLT]
  exact⟨rfl,rfl⟩
 ·rintro i ⟨T1,h1⟩ hi ⟨rfl,t0,t1,t7,t8⟩
  simp only at t0 t1 t7 t8
  unfold VY
  by_cases hlt:i<IL.findIdx (fun w=>s==NU w)
  ·have hi41:i<41:=by omega
   have c1:decide ((i:Int)<41)=true:=by simp;omega
   have hne:=List.not_of_lt_findIdx hlt
   have w5:IntKind.i64.wrap ((i:Int)+1)=((i+1:Nat):Int):=BT (by omega) (by omega)
   simp only[eE,seval,↓eP,rP,t0,t1,t7,t8,c1,mV hi41,hg,qN hi41,hne]
   exact⟨hlt,w5⟩
  ·have hie:i=IL.findIdx (fun w=>s==NU w):=by omega
   by_cases h41:i<41
   ·have c1:decide ((i:Int)<41)=true:=by simp;omega
    have heq:(s==NU (IL[i]'(by rw[S7];exact h41)))=true:=by
     have:=List.findIdx_getElem (xs:=IL) (p:=fun w=>s==NU w) (w:=by rw[← hie,S7];exact h41)
     simp only[← hie] at this
     exact this
    rw[← hie,if_pos h41]
    simp only[eE,seval,↓eP,rP,hr,t0,t1,t7,t8,c1,mV h41,hg,qN h41,heq]
   ·have c1:decide ((i:Int)<41)=false:=by simp;omega
    rw[← hie,if_neg h41]
    simp only[eE,seval,↓eP,rP,hr,t0,t1,t7,t8,c1]
theorem Tf:decide (VY s≥0)=KM s:=by
 unfold VY KM
 split
 ·rename_i h
  rw[decide_eq_true h,decide_eq_true (by omega)]
 ·rename_i h
  rw[decide_eq_false h]
  rfl
theorem Aq (h123:call 139 [.slice (some ⟨0,0,none⟩) 41 41,.string s] h=some (iv (VY s),h)):AY Tryz.prog call n 131 [.slice (some ⟨0,0,none⟩) 41 41,.string s] h=some (.bool (KM s),h):=by
 refine CO Tryz.func131 rfl (by simp[Tryz.f131]) ?_
 have hr:Tryz.f131.results.toList=[.tmp 4]:=rfl
 simp only[eE,seval,↓eP,rP,hr,h123,Tf]
theorem Ex:HW Tryz.prog h 145 (.pointer (some ⟨0,0,none⟩)) none none none=some (.slice (some ⟨0,0,none⟩) 41 41):=by
 simp[HW,Tryz.underlying145,GO,KH,CN]
theorem Cw (h117:call 131 [.slice (some ⟨0,0,none⟩) 41 41,.string s] h=some (.bool (KM s),h)):AY Tryz.prog call n 121 [.string s] h=some (.bool (KM s),h):=by
 refine CO Tryz.func121 rfl (by simp[Tryz.f121]) ?_
 have hr:Tryz.f121.results.toList=[.tmp 2]:=rfl
 simp only[eE,seval,↓eP,rP,hr,Dc,Ex,h117]
theorem Mz (h105:∀ (b:UInt8) h,call 120 [.int .u8 (b.toNat:Int)] h=some (.bool (FO b.toNat),h)) (h107:∀ (b:UInt8) h,call 122 [.int .u8 (b.toNat:Int)] h=some (.bool (GX b.toNat),h))
  (h106:call 121 [.string s] h=some (.bool (KM s),h)) (hn:64<n):AY Tryz.prog call n 111 [.string s] h=some (.bool (AZ s),h):=by
 refine CO Tryz.func111 rfl (by simp[Tryz.f111]) ?_
 have hr:Tryz.f111.results.toList=[.tmp 2]:=rfl
 unfold AZ
 cases hl:s.data.toList with
 | nil=>
  have e0:(s==⟨#[]⟩)=true:=by rw[xS,hl];rfl
  simp only[eE,seval,↓eP,rP,hr,e0]
 | cons c l=>
  have e0:(s==⟨#[]⟩)=false:=by rw[xS,hl];rfl
  have i0:=Rs (s:=s) (b:=c) (by rw[hl];rfl)
  simp only
  generalize hA:(c :: l).all (fun c=>FO c.toNat||GX c.toNat)=A
  by_cases hlen:(c :: l).length≤64
  ·have d1:decide (((c :: l).length:Int)>64)=false:=by simp only[decide_eq_false_iff_not];omega
   cases hc:FO c.toNat with
   | false=>simp only[eE,seval,↓eP,rP,hr,e0,H_,hl,d1,LR,i0,h105,hc,Bool.and_false,Bool.false_and]
   | true=>
    cases hw:KM s with
    | true=>simp only[eE,seval,↓eP,rP,hr,e0,H_,hl,d1,LR,i0,h105,hc,h106,hw,Bool.and_false,Bool.false_and]
    | false=>
     simp only[eE,↓reduceIte,Nat.reduceEqDiff,reduceCtorEq,↓eP,rP,Nat.reduceAdd,Nat.reduceLT,hr,e0,H_,hl,d1,LR,i0,h105,hc,h106,hw,decide_eq_true hlen]
     rw[← hl] at *
     generalize hL:s.data.toList=L at *
     refine WK.loop (fun i s'=>s'.h=h∧s'.T.get 0=.string s∧s'.T.get 22=.int .i64 L.length∧s'.T.get 23=.int .i64 i∧(L.take i).all (fun c=>FO c.toNat||GX c.toNat)=true) L.length (by omega) ?_ ?_
     ·simp only[eE,↓reduceIte,Nat.reduceEqDiff,reduceCtorEq,↓eP,rP,Nat.reduceAdd,Nat.reduceLT]
      exact⟨rfl,rfl⟩
     ·rintro i ⟨T1,h1⟩ hi ⟨rfl,t0,t22,t23,hall⟩
      simp only at t0 t22 t23
      by_cases hlt:i<L.length
      ·have c1:decide ((i:Int)<(L.length:Int))=true:=by simp;omega
       obtain⟨b,hb⟩:∃ b,L[i]?=some b:=⟨_,List.getElem?_eq_getElem hlt⟩
       have ib:=UB (s:=s) (i:=i) (b:=b) (by rw[hL];exact hb)
       have w5:IntKind.i64.wrap ((i:Int)+1)=((i+1:Nat):Int):=BT (by omega) (by omega)
       have hst:(L.take (i+1)).all (fun c=>FO c.toNat||GX c.toNat)=((L.take i).all (fun c=>FO c.toNat||GX c.toNat)&&(FO b.toNat||GX b.toNat)):=by
        rw[List.take_add_one,hb,List.all_append]
        simp
       have hbad:(FO b.toNat||GX b.toNat)=false→L.all (fun c=>FO c.toNat||GX c.toNat)=false:=fun h=>by
        rw[List.all_eq_false]
        exact⟨b,List.mem_of_getElem? hb,by rw[h];simp⟩
       cases q1:FO b.toNat with
       | true=>
        simp only[eE,seval,↓eP,rP,hr,t0,t22,t23,c1,LR,ib,h105,q1]
        exact⟨hlt,w5,by rw[hst,hall,q1];rfl⟩
       | false=>
        cases q2:GX b.toNat with
        | true=>
         simp only[eE,seval,↓eP,rP,hr,t0,t22,t23,c1,LR,ib,h105,h107,q1,q2]
         exact⟨hlt,w5,by rw[hst,hall,q1,q2];rfl⟩
        | false=>
         simp only[eE,seval,↓eP,rP,hr,t0,t22,t23,c1,LR,ib,h105,h107,q1,q2]
         rw[← hA,hbad (by rw[q1,q2];rfl)]
      ·have c1:decide ((i:Int)<(L.length:Int))=false:=by simp;omega
       rw[List.take_of_length_le (by omega)] at hall
       rw[hall] at hA
       subst hA
       simp only[eE,seval,↓eP,rP,hr,t0,t22,t23,c1]
  ·have d1:decide (((c :: l).length:Int)>64)=true:=by simp only[decide_eq_true_eq];omega
   simp only[eE,seval,↓eP,rP,hr,e0,H_,hl,d1,decide_eq_false hlen,Bool.false_and]
def PF (l:List UInt8):Bool:=match l with
 | []=>false
 | c :: r=>FO c.toNat&&(c :: r).all fun c=>FO c.toNat||GX c.toNat
theorem Ux (h124:∀ (b:UInt8) h,call 144 [.int .u8 (b.toNat:Int)] h=some (.bool (FO b.toNat),h)) (h125:∀ (b:UInt8) h,call 145 [.int .u8 (b.toNat:Int)] h=some (.bool (GX b.toNat),h))
  (hn:s.data.toList.length<n) (hmax:s.data.toList.length<1000):AY Tryz.prog call n 142 [.string s] h=some (.bool (PF s.data.toList),h):=by
 refine CO Tryz.func142 rfl (by simp[Tryz.f142]) ?_
 have hr:Tryz.f142.results.toList=[.tmp 2]:=rfl
 simp only[eE,↓reduceIte,Nat.reduceEqDiff,reduceCtorEq,↓eP,rP,Nat.reduceAdd,Nat.reduceLT,hr]
 generalize hL:s.data.toList=L at *
 generalize hA:PF L=A
 refine WK.loop (fun i s'=>s'.h=h∧s'.T.get 0=.string s∧s'.T.get 3=.int .i64 i∧(L.take i).all (fun c=>FO c.toNat||GX c.toNat)=true∧(0<i→∃ c r,L=c :: r∧FO c.toNat=true)) L.length (by omega) ?_ ?_
 ·simp only[eE,↓reduceIte,Nat.reduceEqDiff,reduceCtorEq,↓eP,rP,Nat.reduceAdd,Nat.reduceLT]
  exact⟨rfl,rfl⟩
 ·rintro i ⟨T1,h1⟩ hi ⟨rfl,t0,t3,hall,hhd⟩
  simp only at t0 t3
  by_cases hlt:i<L.length
  ·have c1:decide ((i:Int)<(L.length:Int))=true:=by simp;omega
   obtain⟨b,hb⟩:∃ b,L[i]?=some b:=⟨_,List.getElem?_eq_getElem hlt⟩
   have ib:=UB (s:=s) (i:=i) (b:=b) (by rw[hL];exact hb)
   have w5:IntKind.i64.wrap ((i:Int)+1)=((i+1:Nat):Int):=BT (by omega) (by omega)
   have hst:(L.take (i+1)).all (fun c=>FO c.toNat||GX c.toNat)=((L.take i).all (fun c=>FO c.toNat||GX c.toNat)&&(FO b.toNat||GX b.toNat)):=by
    rw[List.take_add_one,hb,List.all_append]
    simp
   cases q1:FO b.toNat with
   | true=>
    simp only[eE,↓reduceIte,Nat.reduceEqDiff,reduceCtorEq,↓eP,rP,Nat.reduceAdd,Nat.reduceLT,hr,t0,t3,H_,hL,c1,LR,ib,h124,q1]
    refine⟨hlt,w5,by rw[hst,hall,q1];rfl,fun _=>?_⟩
    by_cases hi0:i=0
    ·subst hi0
     cases L with
     | nil=>simp at hlt
     | cons c r=>simp at hb;subst hb;exact⟨_,_,rfl,q1⟩
    ·exact hhd (by omega)
   | false=>
    by_cases hi0:i=0
    ·subst hi0
     have e0:(((0:Nat):Int)==0)=true:=rfl
     have hf:A=false:=by
      rw[← hA]
      cases L with
      | nil=>simp at hlt
      | cons c r=>simp at hb;subst hb;simp[PF,q1]
     simp only[eE,↓reduceIte,Nat.reduceEqDiff,reduceCtorEq,↓eP,rP,Nat.reduceAdd,Nat.reduceLT,hr,t0,t3,H_,hL,c1,LR,ib,h124,q1,e0,hf]
    ·have e0:((i:Int)==0)=false:=by simp;omega
     cases q2:GX b.toNat with
     | true=>
      simp only[eE,seval,↓eP,rP,hr,t0,t3,H_,hL,c1,LR,ib,h124,h125,q1,q2,e0]
      exact⟨hlt,w5,by rw[hst,hall,q1,q2];rfl,fun _=>hhd (by omega)⟩
     | false=>
      have hf:A=false:=by
       rw[← hA]
       obtain⟨c,r,rfl,hc⟩:=hhd (by omega)
       have:(c :: r).all (fun c=>FO c.toNat||GX c.toNat)=false:=by
        rw[List.all_eq_false]
        exact⟨b,List.mem_of_getElem? hb,by rw[q1,q2];simp⟩
       show (FO c.toNat&&(c :: r).all fun c=>FO c.toNat||GX c.toNat)=false
       rw[this,Bool.and_false]
      simp only[eE,seval,↓eP,rP,hr,t0,t3,H_,hL,c1,LR,ib,h124,h125,q1,q2,e0,hf]
  ·have c1:decide ((i:Int)<(L.length:Int))=false:=by simp;omega
   rw[List.take_of_length_le (by omega)] at hall
   have hf:A=decide ((L.length:Int)>0):=by
    rw[← hA]
    cases L with
    | nil=>rfl
    | cons c r=>
     obtain⟨c',r',he,hc⟩:=hhd (by simp at hlt;omega)
     cases he
     show (FO c.toNat&&(c :: r).all fun c=>FO c.toNat||GX c.toNat)=_
     rw[hall,hc]
     simp
     try omega
   simp only[eE,seval,↓eP,rP,hr,t0,t3,H_,hL,c1,hf]
def MW (K s:ByteArray) (i:Nat):Bool:=(K.data.toList[i]? == some 32)&&((K.data.toList[i+s.data.toList.length+1]? == some 32)&&(K.extract (i+1) (i+s.data.toList.length+1)==s))
def ZY (K s:ByteArray):Bool:=decide ((List.range (K.data.toList.length-(s.data.toList.length+1))).findIdx (MW K s)<K.data.toList.length-(s.data.toList.length+1))
theorem Qw {h:AA} {K:ByteArray} {lo hi:Nat} (h1:lo≤hi) (h2:hi≤K.data.toList.length):HW Tryz.prog h 9 (.string K) (some (.int .i64 (lo:Int))) (some (.int .i64 (hi:Int))) none=some (.string (K.extract lo hi)):=by
 have hs:K.size=K.data.toList.length:=by simp
 simp only[HW,Tryz.underlying9,Option.isSome_none,Bool.false_eq_true,if_false,GO,hs]
 rw[if_pos (by omega)]
 simp only[Int.toNat_natCast]
 rw[if_pos (by omega)]
theorem Tb {K:ByteArray} (hK:K.data.toList.length<900) (hn:K.data.toList.length+s.data.toList.length<n) (hmax:s.data.toList.length<1000) (hne:s.data.toList≠[]) (hb:∀ b∈s.data.toList,b≠32) :
  AY Tryz.prog call n 146 [.string K,.string s] h=some (.bool (ZY K s),h):=by
 refine CO Tryz.func146 rfl (by simp[Tryz.f146]) ?_
 have hr:Tryz.f146.results.toList=[.tmp 4]:=rfl
 have hpos:0<s.data.toList.length:=List.length_pos_iff.2 hne
 have w0:IntKind.i64.wrap ((s.data.toList.length:Int)+2)=((s.data.toList.length+2:Nat):Int):=BT (by omega) (by omega)
 simp only[eE,↓reduceIte,Nat.reduceEqDiff,reduceCtorEq,↓eP,rP,Nat.reduceAdd,Nat.reduceLT,hr,H_,w0]
 generalize hL:s.data.toList=L at *
 refine WK.loop (fun i s'=>s'.h=h∧s'.T.get 0=.string K∧s'.T.get 1=.string s∧s'.T.get 5=.int .i64 ((L.length+2:Nat):Int)∧s'.T.get 6=.int .i64 i) L.length (by omega) ?_ ?_
 ·simp only[eE,↓reduceIte,Nat.reduceEqDiff,reduceCtorEq,↓eP,rP,Nat.reduceAdd,Nat.reduceLT]
  rfl
 ·rintro i ⟨T1,h1⟩ hi ⟨rfl,t0,t1,t5,t6⟩
  simp only at t0 t1 t5 t6
  by_cases hlt:i<L.length
  ·have c1:decide ((i:Int)<(L.length:Int))=true:=by simp;omega
   obtain⟨b,hbi⟩:∃ b,L[i]?=some b:=⟨_,List.getElem?_eq_getElem hlt⟩
   have ib:=UB (s:=s) (i:=i) (b:=b) (by rw[hL];exact hbi)
   have hb32:((b.toNat:Int)==32)=false:=by
    have hx:=hb b (List.mem_of_getElem? hbi)
    simp only[beq_eq_false_iff_ne,ne_eq]
    intro e
    apply hx
    have e2:b.toNat=32:=by omega
    exact UInt8.toNat_inj.1 e2
   have w5:IntKind.i64.wrap ((i:Int)+1)=((i+1:Nat):Int):=BT (by omega) (by omega)
   simp only[eE,seval,↓eP,rP,hr,t0,t1,t5,t6,H_,hL,c1,LR,ib,hb32]
   exact⟨hlt,w5⟩
  ·have c1:decide ((i:Int)<(L.length:Int))=false:=by simp;omega
   simp only[eE,seval,↓eP,rP,hr,t0,t1,t5,t6,H_,hL,c1]
   unfold ZY
   rw[hL]
   generalize hN:K.data.toList.length-(L.length+1)=N at *
   have hle:(List.range N).findIdx (MW K s)≤N:=by have:=List.findIdx_le_length (xs:=List.range N) (p:=MW K s);simpa using this
   generalize hq:(List.range N).findIdx (MW K s)=q at *
   refine WK.loop (fun i s'=>s'.h=h1∧s'.T.get 0=.string K∧s'.T.get 1=.string s∧s'.T.get 5=.int .i64 ((L.length+2:Nat):Int)∧s'.T.get 7=.int .i64 i) q (by omega) ?_ ?_
   ·simp only[eE,↓reduceIte,Nat.reduceEqDiff,reduceCtorEq,↓eP,rP,Nat.reduceAdd,Nat.reduceLT,t0,t1,t5]
    rfl
   ·rintro j ⟨T2,h2⟩ hj ⟨rfl,u0,u1,u5,u7⟩
    simp only at u0 u1 u5 u7
    have w1:IntKind.i64.wrap ((j:Int)+((L.length+2:Nat):Int))=((j+L.length+2:Nat):Int):=by rw[BT (by omega) (by omega)];omega
    have w2:IntKind.i64.wrap (((j+L.length+2:Nat):Int)-1)=((j+L.length+1:Nat):Int):=by rw[BT (by omega) (by omega)];omega
    have w3:IntKind.i64.wrap ((j:Int)+1)=((j+1:Nat):Int):=BT (by omega) (by omega)
    by_cases hjN:j<N
    ·have c2 : decide (((j + L.length + 2 : Nat):Int)≤(K.data.toList.length:Int))=true:=by simp only[decide_eq_true_eq];omega
     obtain⟨b1,hb1⟩:∃ b,K.data.toList[j]?=some b:=⟨_,List.getElem?_eq_getElem (by omega)⟩
     obtain⟨b2,hb2⟩:∃ b,K.data.toList[j+L.length+1]?=some b:=⟨_,List.getElem?_eq_getElem (by omega)⟩
     have i1:=UB hb1
     have i2:=UB hb2
     have s1:=Qw (h:=h2) (K:=K) (lo:=j+1) (hi:=j+L.length+1) (by omega) (by omega)
     have x32:∀ b:UInt8,((b.toNat:Int)==32)=(some b==some (32:UInt8)):=fun b=>by
      apply Bool.eq_iff_iff.2
      simp only[beq_iff_eq,Option.some.injEq]
      constructor
      ·intro e; exact UInt8.toNat_inj.1 (by have:b.toNat=32:=by omega
                                            exact this)
      ·rintro rfl;rfl
     have hhit:MW K s j=((some b1==some (32:UInt8))&&((some b2==some (32:UInt8))&&(K.extract (j+1) (j+L.length+1)==s))):=by
      unfold MW
      rw[hL,hb1,hb2]
     have done:j<q→MW K s j=false:=fun hjq=>by
      have:=List.not_of_lt_findIdx (xs:=List.range N) (p:=MW K s) (i:=j) (by rw[hq];exact hjq)
      simpa using this
     have found:¬ j<q→MW K s j=true:=fun hjq=>by
      have hjq':j=q:=by omega
      have:=List.findIdx_getElem (xs:=List.range N) (p:=MW K s) (w:=by rw[hq];simp;omega)
      simp only[hq,List.getElem_range] at this
      rw[hjq']
      exact this
     have fin:¬ j<q→decide (q<N)=true:=fun _=>decide_eq_true (by omega)
     rw[hhit] at done found
     cases d1:(some b1==some (32:UInt8)) with
     | false=>
      have hlt:j<q:=by
       rcases Nat.lt_or_ge j q with h | h
       ·exact h
       ·have:=found (by omega);rw[d1] at this;cases this
      simp only[eE,seval,↓eP,rP,hr,u0,u1,u5,u7,H_,w1,c2,LR,i1,x32,d1]
      exact⟨hlt,w3⟩
     | true=>
      cases d2:(some b2==some (32:UInt8)) with
      | false=>
       have hlt:j<q:=by
        rcases Nat.lt_or_ge j q with h | h
        ·exact h
        ·have:=found (by omega);rw[d1,d2] at this;cases this
       simp only[eE,seval,↓eP,rP,hr,u0,u1,u5,u7,H_,w1,w2,c2,LR,i1,i2,x32,d1,d2]
       exact⟨hlt,w3⟩
      | true=>
       cases d3:(K.extract (j+1) (j+L.length+1)==s) with
       | false=>
        have hlt:j<q:=by
         rcases Nat.lt_or_ge j q with h | h
         ·exact h
         ·have:=found (by omega);rw[d1,d2,d3] at this;cases this
        simp only[eE,seval,↓eP,rP,hr,u0,u1,u5,u7,H_,w1,w2,w3,c2,LR,i1,i2,x32,d1,d2,s1,d3]
        exact hlt
       | true=>
        have hge:¬ j<q:=fun h=>by have:=done h;rw[d1,d2,d3] at this;cases this
        have l0:decide ((L.length:Int)>0)=true:=by simp;omega
        simp only[eE,seval,↓eP,rP,hr,u0,u1,u5,u7,H_,hL,w1,w2,w3,c2,LR,i1,i2,x32,d1,d2,s1,d3,fin hge,l0]
    ·have c2:decide (((j+L.length+2:Nat):Int)≤(K.data.toList.length:Int))=false:=by simp only[decide_eq_false_iff_not];omega
     have fin:decide (q<N)=false:=decide_eq_false (by omega)
     simp only[eE,seval,↓eP,rP,hr,u0,u1,u5,u7,H_,w1,c2,fin]
end
def KW:List UInt8:=32 :: IL.flatMap fun w=>w++[32]
def jU:ByteArray:=⟨KW.toArray⟩
theorem R7:jU.data.toList=KW:=rfl
def dH (i:Nat):List UInt8:=(KW.drop (i+1)).takeWhile (· != 32)
theorem x8:((List.range KW.length).all fun i=>!(KW[i]? == some 32)||decide (i+1=KW.length)||IL.contains (dH i))=true:=by decide +kernel
theorem Lg:(IL.all fun w=>(List.range KW.length).any fun i=>(KW[i]? == some 32)&&((KW[i+w.length+1]? == some 32)&&((KW.drop (i+1)).take w.length==w)))=true:=by decide +kernel
theorem XY {a b:ByteArray}:(a==b)=true↔a.data.toList=b.data.toList:=by
 constructor
 ·intro h;rw[LQ h]
 ·intro h
  have:a=b:=by
   cases a;cases b
   simp only[ByteArray.mk.injEq]
   exact Array.toList_inj.1 h
  subst this
  exact LK a
theorem Oh {s:ByteArray}:KM s=true↔s.data.toList∈IL:=by
 unfold KM
 rw[decide_eq_true_eq]
 have h41:(41:Nat)=IL.length:=S7.symm
 rw[h41,List.findIdx_lt_length]
 constructor
 ·rintro ⟨w,hw,h⟩
  rw[XY] at h
  rw[h]
  exact hw
 ·intro h
  exact⟨_,h,by rw[XY];rfl⟩
theorem kK {K:ByteArray} {lo n:Nat}:(K.extract lo (lo+n)).data.toList=(K.data.toList.drop lo).take n:=by
 rw[ByteArray.data_extract]
 simp[List.extract_eq_take_drop]
theorem Iz {l m:List UInt8} {x:List UInt8} (h1:(m.take l.length)=l) (h2:m[l.length]?=some 32) (h3:∀ b∈l,b≠32):m.takeWhile (· != 32)=l:=by
 have hm:m=l++32 :: m.drop (l.length+1):=by
  have hlt:l.length<m.length:=(List.getElem?_eq_some_iff.1 h2).1
  have e1:m=m.take l.length++m.drop l.length:=(List.take_append_drop _ _).symm
  rw[h1,List.drop_eq_getElem_cons hlt] at e1
  have e2:m[l.length]=32:=by
   have:=List.getElem?_eq_getElem hlt
   rw[h2] at this
   exact(Option.some.inj this).symm
  rw[e2] at e1
  exact e1
 rw[hm,List.takeWhile_append_of_pos (fun b hb=>by simpa using h3 b hb)]
 simp
theorem Eb {p:Nat→Bool} {M:Nat}:(List.range M).findIdx p<M↔∃ i,i<M∧p i=true:=by
 have:=List.findIdx_lt_length (xs:=List.range M) (p:=p)
 rw[List.length_range] at this
 rw[this]
 simp[List.mem_range]
theorem Dg {s:ByteArray} (hne:s.data.toList≠[]) (hb:∀ b∈s.data.toList,b≠32):ZY jU s=KM s:=by
 apply Bool.eq_iff_iff.2
 rw[Oh]
 unfold ZY
 rw[decide_eq_true_eq,R7]
 generalize hl:s.data.toList=l at *
 rw[Eb]
 constructor
 ·rintro ⟨i,hi,hh⟩
  unfold MW at hh
  rw[hl,R7] at hh
  simp only[Bool.and_eq_true] at hh
  obtain⟨h1,h2,h3⟩:=hh
  rw[XY,hl,show i+l.length+1=(i+1)+l.length by omega,kK,R7] at h3
  have hseg:dH i=l:=by
   unfold dH
   refine Iz (x:=[]) h3 ?_ hb
   rw[List.getElem?_drop]
   have:i+1+l.length=i+l.length+1:=by omega
   rw[this]
   simpa using h2
  have hlt:i<KW.length:=by omega
  have:=List.all_eq_true.1 x8 i (List.mem_range.2 hlt)
  rw[hseg] at this
  simp only[Bool.or_eq_true,Bool.not_eq_true',decide_eq_true_eq] at this
  rcases this with(h | h) | h
  ·rw[h] at h1;cases h1
  ·have:i+l.length+1<KW.length:=by
    have:=(List.getElem?_eq_some_iff.1 (show KW[i+l.length+1]?=some 32 by simpa using h2)).1
    exact this
   omega
  ·simpa using h
 ·intro h
  have:=List.all_eq_true.1 Lg l h
  obtain⟨i,hi,hh⟩:=List.any_eq_true.1 this
  simp only[Bool.and_eq_true] at hh
  obtain⟨h1,h2,h3⟩:=hh
  have hlt:i+l.length+1<KW.length:=(List.getElem?_eq_some_iff.1 (show KW[i+l.length+1]?=some 32 by simpa using h2)).1
  refine⟨i,by omega,?_⟩
  unfold MW
  rw[hl,R7,h1,h2]
  simp only[Bool.true_and]
  rw[XY,hl,show i+l.length+1=(i+1)+l.length by omega,kK,R7]
  simpa using h3
theorem Ut:KW.length<900:=by decide
theorem Fb {s:ByteArray} (h:PF s.data.toList=true):s.data.toList≠[]∧∀ b∈s.data.toList,b≠32:=by
 cases hl:s.data.toList with
 | nil=>rw[hl] at h;cases h
 | cons c r=>
  rw[hl] at h
  refine⟨by simp,fun b hb e=>?_⟩
  have h2:=(Bool.and_eq_true_iff.1 (show (FO c.toNat&&(c :: r).all fun c=>FO c.toNat||GX c.toNat)=true from h)).2
  have:=List.all_eq_true.1 h2 b hb
  rw[e] at this
  revert this
  decide
theorem Sg {s:ByteArray}:AZ s=(decide (s.data.toList.length≤64)&&(PF s.data.toList && !KM s)):=by
 unfold AZ PF
 cases hl:s.data.toList with
 | nil=>simp
 | cons c r=>
  simp only
  cases FO c.toNat <;> cases KM s <;> cases (c :: r).all (fun c=>FO c.toNat||GX c.toNat) <;> simp
noncomputable def sY:Value:=match (C9 Tryz.f143 1)[1]? with
 | some o=>match o.op with
  | .call c=>match (c.args.toList.head? : Option Operand) with
   | some (Operand.const v)=>v
   | _=>undef
  | _=>undef
 | none=>undef
theorem Sw:sY=.string jU:=by kernel_rfl
section
variable {call:AS} {n:Nat} {h:AA} {s:ByteArray}
theorem Dt (h126:call 146 [sY,.string s] h=some (.bool (KM s),h)):AY Tryz.prog call n 143 [.string s] h=some (.bool (KM s),h):=by
 refine CO Tryz.func143 rfl (by simp[Tryz.f143]) ?_
 have hr:Tryz.f143.results.toList=[.tmp 2]:=rfl
 simp only[eE,seval,↓eP,rP,hr]
 refine QQ.of (v:=.bool (KM s)) (h':=h) h126 ?_
 simp only[eE,seval,↓eP,rP,hr]
theorem My (h121:s.data.toList.length≤64→call 142 [.string s] h=some (.bool (PF s.data.toList),h)) (h122:s.data.toList.length≤64→PF s.data.toList=true→call 143 [.string s] h=some (.bool (KM s),h)) :
  AY Tryz.prog call n 136 [.string s] h=some (.bool (AZ s),h):=by
 refine CO Tryz.func136 rfl (by simp[Tryz.f136]) ?_
 have hr:Tryz.f136.results.toList=[.tmp 2]:=rfl
 rw[Sg]
 by_cases hlen:s.data.toList.length≤64
 ·have c1:decide ((s.data.toList.length:Int)≤64)=true:=by simp only[decide_eq_true_eq];omega
  have h121':=h121 hlen
  rw[decide_eq_true hlen]
  cases hs:PF s.data.toList with
  | false=>rw[hs] at h121';simp only[eE,seval,↓eP,rP,hr,H_,c1,h121',Bool.false_and]
  | true=>
   have h122':=h122 hlen hs
   rw[hs] at h121'
   simp only[eE,seval,↓eP,rP,hr,H_,c1,h121',h122']
 ·have c1:decide ((s.data.toList.length:Int)≤64)=false:=by simp only[decide_eq_false_iff_not];omega
  rw[decide_eq_false hlen]
  simp only[eE,seval,↓eP,rP,hr,H_,c1,Bool.false_and]
end
noncomputable def L0:AS:=OD [110,132,124,72,74,75,80,82,84,
 138,135,134,127,128,137,125,113,120,122,
 144,145,109] O6 12
noncomputable def L1:AS:=OD [123,130,133,73,119,77,87] L0 12
noncomputable def L2:AS:=OL [111,136] L1 2000
theorem Kp:D7 Tryz.prog L0∧CK L0:=iB Qb
theorem Wk:D7 Tryz.prog L1∧CK L1:=iB Kp
theorem oI:D7 Tryz.prog L2∧CK L2:=aW Wk
theorem Ax (b:UInt8) (h:AA):L1 120 [.int .u8 (b.toNat:Int)] h=some (.bool (FO b.toNat),h):=HD (FE rfl rfl rfl rfl (WU Wq b))
theorem y_ (b:UInt8) (h:AA):L1 122 [.int .u8 (b.toNat:Int)] h=some (.bool (GX b.toNat),h):=HD (FE rfl rfl rfl rfl (WU Hf b))
theorem Pa (b:UInt8) (h:AA):L1 144 [.int .u8 (b.toNat:Int)] h=some (.bool (FO b.toNat),h):=HD (FE rfl rfl rfl rfl (WU zQ b))
theorem Uj (b:UInt8) (h:AA):L1 145 [.int .u8 (b.toNat:Int)] h=some (.bool (GX b.toNat),h):=HD (FE rfl rfl rfl rfl (WU Oo b))
theorem TF (what kind:Int) (h:AA):L1 109 [iv what,iv kind] h=some (.bool (CA what kind),h):=HD (FE rfl rfl rfl rfl ⟨_,Pr⟩)
theorem ZC {h:AA} (hg:h.get 0=EA) (s:ByteArray):L2 111 [.string s] h=some (.bool (AZ s),h):=by
 refine YB rfl rfl rfl ⟨h,Mz (fun b h=>F7 (Ax b h)) (fun b h=>F7 (y_ b h)) ?_ (by decide),fun _ _=>rfl⟩
 rw[PM (n:=1999) rfl]
 refine Cw ?_
 rw[PM (n:=1998) rfl]
 refine Aq ?_
 rw[PM (n:=1997) rfl]
 exact Gn hg (by decide)
theorem Ct (h:AA) (s:ByteArray):L2 136 [.string s] h=some (.bool (AZ s),h):=by
 refine YB rfl rfl rfl ⟨h,My (fun hl=>?_) (fun hl hs=>?_),fun _ _=>rfl⟩
 ·rw[PM (n:=1999) rfl]
  exact Ux (fun b h=>F7 (Pa b h)) (fun b h=>F7 (Uj b h)) (by omega) (by omega)
 ·obtain⟨n1,n2⟩:=Fb hs
  rw[PM (n:=1999) rfl]
  refine Dt ?_
  rw[Sw,PM (n:=1998) rfl,← Dg n1 n2]
  have:=Ut
  exact Tb (by rw[R7];exact this) (by rw[R7];omega) (by omega) n1 n2
noncomputable def kB:Array Oper:=C9 Tryz.f70 3
noncomputable def EP:Array Oper:=C9 Tryz.f70 4
def Wx:List (Bool × Bool × List Operand):=[HT,HT,HT,HT,AI [.tmp 31],AI [.tmp 31],AI [.tmp 31],AI [.tmp 31],AI [.tmp 31],AI [.tmp 31],F5 [.tmp 31,.tmp 36],F5 [.tmp 31,.tmp 36],AP,AP]
def Q5:List (Bool × Bool × List Operand):=[A7,A7,A7,F5 [.tmp 39],F5 [.tmp 39],AP,AP,AP,AP,AP,AP,AP,AP,AP,AP,AP,AP,AP,AP,AP,AP,AP,AP,AP,AP,AP,AP,AP,AP,AP,AP,AP,AP,AP,AP,AP,AP,AP,AP,AP,AP,AP,AP,AP,AP,AP,AP,AP,AP]
theorem vR:C8 kB=Wx:=by kernel_rfl
theorem sS:C8 EP=Q5:=by kernel_rfl
theorem LJ {T:Tr} {d t b:Nat} {v:Value} (ht:t<b) (hd:b≤d):(T.put (some d) v).get t=T.get t:=by
 rw[Tr.get_put,if_neg]
 intro e
 have:d=t:=Option.some.inj e
 omega
theorem Rx {T:Tr} {d t b:Nat} {v:Value} (hd:b≤d) (ht:t<b):(T.put (some d) v).get t=T.get t:=by
 rw[Tr.get_put,if_neg]
 intro e
 have:d=t:=Option.some.inj e
 omega
section
variable {call:AS} {n start a b:Nat} {T:Tr} {h:AA} {k:B_} {x:AB} {nm en nu:Bool} {le mo:Int} {ga0 gb0:Bool}
 (hsn:CK call) (t8:T.get 8=qP a 0) (t9:T.get 9=qP b 0) (ga:h.get a=.row [.int .i64 x.kind,.string x.name,.int .i64 x.ends,.int .i64 x.n,.int .i64 x.kids] 60 ga0 false)
 (gb:h.get b=.row [.bool nm,.bool en,.bool nu,.int .i64 le,.int .i64 mo] 127 gb0 false) (hb:(b<start)=True)
include hsn t8 t9 ga gb hb
theorem xK (h91:∀ h',h'.get 0=h.get 0→call 111 [.string x.name] h'=some (.bool (AZ x.name),h'))
  (hk:∀ T',T'.get 54=.bool ((AZ x.name==nm)&&(nm||x.name==⟨#[]⟩))→(∀ t:Nat,t<39→T'.get t=T.get t)→DN Tryz.prog call n EP start (Q5.drop 16) (EP.toList.drop 16) ⟨T',h⟩ k):DN Tryz.prog call n EP start (Q5.drop 0) (EP.toList.drop 0) ⟨T,h⟩ k:=by
 have gd6:(EP[6]?).bind (·.dst)=some 45:=by kernel_rfl
 have gd9:(EP[9]?).bind (·.dst)=some 48:=by kernel_rfl
 have gd15:(EP[15]?).bind (·.dst)=some 54:=by kernel_rfl
 have gd19:(EP[19]?).bind (·.dst)=some 58:=by kernel_rfl
 have gd22:(EP[22]?).bind (·.dst)=some 61:=by kernel_rfl
 have gd29:(EP[29]?).bind (·.dst)=some 68:=by kernel_rfl
 have gd33:(EP[33]?).bind (·.dst)=some 72:=by kernel_rfl
 have gd36:(EP[36]?).bind (·.dst)=some 75:=by kernel_rfl
 have gd41:(EP[41]?).bind (·.dst)=some 80:=by kernel_rfl
 have h91':=fun f=>h91 (h.fl f) rfl
 refine AG hsn 0 (some 39) (.fieldAddr 60 (.tmp 8) 1) none ?_
 simp only[rG,seval,AD,AF,AE,MU,t8]
 refine AG hsn 1 (some 40) (.load 9 (.tmp 39)) none ?_
 simp only[rG,seval,AD,AF,AE,FU,TI,KU,false_implies,ga]
 refine AG hsn 2 (some 41) (.call { callee:=.value (.func 111),args:=#[.tmp 40],argTypes:=#[9] }) none ?_
 simp only[rG,seval,AD,AF,AE,DC,h91']
 refine AG hsn 3 (some 42) (.fieldAddr 127 (.tmp 9) 0) none ?_
 simp only[rG,seval,AD,AF,AE,ZG,t9]
 refine AG hsn 4 (some 43) (.load 4 (.tmp 42)) none ?_
 simp only[rG,seval,AD,AF,AE,EE,KD,KU,decide_true,forall_const,gb,hb]
 refine AG hsn 5 (some 44) (.binOp .eql 4 (.tmp 41) (.tmp 43) 4) none ?_
 simp only[rG,seval,AD,AF,AE,UM]
 cases q1:(AZ x.name==nm)
 ·skip
  refine AG hsn 6 (some 45) (.move (.tmp 44)) none ?_
  simp only[rG,seval,AD,AF,AE]
  refine AG hsn 7 (some 46) (.fieldAddr 127 (.tmp 9) 0) (some (6,true)) ?_
  simp only[rG,seval,AD,AF,AE,gd6]
  refine AG hsn 8 (some 47) (.load 4 (.tmp 46)) (some (6,true)) ?_
  simp only[rG,seval,AD,AF,AE,gd6]
  refine AG hsn 9 (some 48) (.move (.tmp 47)) (some (6,true)) ?_
  simp only[rG,seval,AD,AF,AE,gd6]
  refine AG hsn 10 (some 49) (.fieldAddr 60 (.tmp 8) 1) (some (9,false)) ?_
  simp only[rG,seval,AD,AF,AE,MU,gd9,t8]
  refine AG hsn 11 (some 50) (.load 9 (.tmp 49)) (some (9,false)) ?_
  simp only[rG,seval,AD,AF,AE,false_implies,gd9]
  refine AG hsn 12 (some 51) (.binOp .eql 9 (.tmp 50) (.const (Value.string { data:=#[] })) 9) (some (9,false)) ?_
  simp only[rG,seval,AD,AF,AE,gd9]
  refine AG hsn 13 (some 52) (.pick (.tmp 48) (.const (Value.bool true)) (.tmp 51)) (some (6,true)) ?_
  simp only[rG,seval,AD,AF,AE,gd6]
  refine AG hsn 14 (some 53) (.pick (.tmp 45) (.tmp 52) (.const (Value.bool false))) none ?_
  simp only[rG,seval,AD,AF,AE]
  refine AG hsn 15 (some 54) (.move (.tmp 53)) none ?_
  simp only[rG,seval,AD,AF,AE]
  refine hk _ ?_ ?_
  ·simp only[Tr.get_put,if_true];first | rfl | simp[*]
  ·intro t ht
   simp only[LJ ht,Nat.reduceLeDiff]
 ·skip
  refine AG hsn 6 (some 45) (.move (.tmp 44)) none ?_
  simp only[rG,seval,AD,AF,AE]
  refine AG hsn 7 (some 46) (.fieldAddr 127 (.tmp 9) 0) (some (6,true)) ?_
  simp only[rG,seval,AD,AF,AE,ZG,gd6,t9]
  refine AG hsn 8 (some 47) (.load 4 (.tmp 46)) (some (6,true)) ?_
  simp only[rG,seval,AD,AF,AE,EE,KD,KU,decide_true,false_implies,gd6,gb,hb]
  refine AG hsn 9 (some 48) (.move (.tmp 47)) (some (6,true)) ?_
  simp only[rG,seval,AD,AF,AE,gd6]
  cases nm
  ·skip
   refine AG hsn 10 (some 49) (.fieldAddr 60 (.tmp 8) 1) (some (9,false)) ?_
   simp only[rG,seval,AD,AF,AE,MU,gd9,t8]
   refine AG hsn 11 (some 50) (.load 9 (.tmp 49)) (some (9,false)) ?_
   simp only[rG,seval,AD,AF,AE,FU,TI,KU,false_implies,gd9,ga]
   refine AG hsn 12 (some 51) (.binOp .eql 9 (.tmp 50) (.const (Value.string { data:=#[] })) 9) (some (9,false)) ?_
   simp only[rG,seval,AD,AF,AE,RL,gd9]
   cases q3:(x.name==⟨#[]⟩)
   ·skip
    refine AG hsn 13 (some 52) (.pick (.tmp 48) (.const (Value.bool true)) (.tmp 51)) (some (6,true)) ?_
    simp only[rG,seval,AD,AF,AE,gd6]
    refine AG hsn 14 (some 53) (.pick (.tmp 45) (.tmp 52) (.const (Value.bool false))) none ?_
    simp only[rG,seval,AD,AF,AE]
    refine AG hsn 15 (some 54) (.move (.tmp 53)) none ?_
    simp only[rG,seval,AD,AF,AE]
    refine hk _ ?_ ?_
    ·simp only[Tr.get_put,if_true];first | rfl | simp[*]
    ·intro t ht
     simp only[LJ ht,Nat.reduceLeDiff]
   ·skip
    refine AG hsn 13 (some 52) (.pick (.tmp 48) (.const (Value.bool true)) (.tmp 51)) (some (6,true)) ?_
    simp only[rG,seval,AD,AF,AE,gd6]
    refine AG hsn 14 (some 53) (.pick (.tmp 45) (.tmp 52) (.const (Value.bool false))) none ?_
    simp only[rG,seval,AD,AF,AE]
    refine AG hsn 15 (some 54) (.move (.tmp 53)) none ?_
    simp only[rG,seval,AD,AF,AE]
    refine hk _ ?_ ?_
    ·simp only[Tr.get_put,if_true];first | rfl | simp[*]
    ·intro t ht
     simp only[LJ ht,Nat.reduceLeDiff]
  ·skip
   refine AG hsn 10 (some 49) (.fieldAddr 60 (.tmp 8) 1) (some (9,false)) ?_
   simp only[rG,seval,AD,AF,AE,gd9]
   refine AG hsn 11 (some 50) (.load 9 (.tmp 49)) (some (9,false)) ?_
   simp only[rG,seval,AD,AF,AE,gd9]
   refine AG hsn 12 (some 51) (.binOp .eql 9 (.tmp 50) (.const (Value.string { data:=#[] })) 9) (some (9,false)) ?_
   simp only[rG,seval,AD,AF,AE,gd9]
   refine AG hsn 13 (some 52) (.pick (.tmp 48) (.const (Value.bool true)) (.tmp 51)) (some (6,true)) ?_
   simp only[rG,seval,AD,AF,AE,gd6]
   refine AG hsn 14 (some 53) (.pick (.tmp 45) (.tmp 52) (.const (Value.bool false))) none ?_
   simp only[rG,seval,AD,AF,AE]
   refine AG hsn 15 (some 54) (.move (.tmp 53)) none ?_
   simp only[rG,seval,AD,AF,AE]
   refine hk _ ?_ ?_
   ·simp only[Tr.get_put,if_true];first | rfl | simp[*]
   ·intro t ht
    simp only[LJ ht,Nat.reduceLeDiff]
theorem oC {c:Bool} (t54:T.get 54=.bool c)
  (hk:∀ T',T'.get 68=.bool (c&&(x.ends==0||en&&x.ends==1))→(∀ t:Nat,t<55→T'.get t=T.get t)→DN Tryz.prog call n EP start (Q5.drop 30) (EP.toList.drop 30) ⟨T',h⟩ k):DN Tryz.prog call n EP start (Q5.drop 16) (EP.toList.drop 16) ⟨T,h⟩ k:=by
 have gd6:(EP[6]?).bind (·.dst)=some 45:=by kernel_rfl
 have gd9:(EP[9]?).bind (·.dst)=some 48:=by kernel_rfl
 have gd15:(EP[15]?).bind (·.dst)=some 54:=by kernel_rfl
 have gd19:(EP[19]?).bind (·.dst)=some 58:=by kernel_rfl
 have gd22:(EP[22]?).bind (·.dst)=some 61:=by kernel_rfl
 have gd29:(EP[29]?).bind (·.dst)=some 68:=by kernel_rfl
 have gd33:(EP[33]?).bind (·.dst)=some 72:=by kernel_rfl
 have gd36:(EP[36]?).bind (·.dst)=some 75:=by kernel_rfl
 have gd41:(EP[41]?).bind (·.dst)=some 80:=by kernel_rfl
 cases c
 ·skip
  refine AG hsn 16 (some 55) (.fieldAddr 60 (.tmp 8) 2) (some (15,true)) ?_
  simp only[rG,seval,AD,AF,AE,gd15,t54]
  refine AG hsn 17 (some 56) (.load 3 (.tmp 55)) (some (15,true)) ?_
  simp only[rG,seval,AD,AF,AE,gd15,t54]
  refine AG hsn 18 (some 57) (.binOp .eql 3 (.tmp 56) (.const (Value.int IntKind.i64 0)) 3) (some (15,true)) ?_
  simp only[rG,seval,AD,AF,AE,gd15,t54]
  refine AG hsn 19 (some 58) (.move (.tmp 57)) (some (15,true)) ?_
  simp only[rG,seval,AD,AF,AE,gd15,t54]
  refine AG hsn 20 (some 59) (.fieldAddr 127 (.tmp 9) 1) (some (19,false)) ?_
  simp only[rG,seval,AD,AF,AE,ZP,gd19,t9]
  refine AG hsn 21 (some 60) (.load 4 (.tmp 59)) (some (19,false)) ?_
  simp only[rG,seval,AD,AF,AE,false_implies,gd19]
  refine AG hsn 22 (some 61) (.move (.tmp 60)) (some (19,false)) ?_
  simp only[rG,seval,AD,AF,AE,gd19]
  refine AG hsn 23 (some 62) (.fieldAddr 60 (.tmp 8) 2) (some (22,true)) ?_
  simp only[rG,seval,AD,AF,AE,UD,gd22,t8]
  refine AG hsn 24 (some 63) (.load 3 (.tmp 62)) (some (22,true)) ?_
  simp only[rG,seval,AD,AF,AE,false_implies,gd22]
  refine AG hsn 25 (some 64) (.binOp .eql 3 (.tmp 63) (.const (Value.int IntKind.i64 1)) 3) (some (22,true)) ?_
  simp only[rG,seval,AD,AF,AE,gd22]
  refine AG hsn 26 (some 65) (.pick (.tmp 61) (.tmp 64) (.const (Value.bool false))) (some (19,false)) ?_
  simp only[rG,seval,AD,AF,AE,gd19]
  refine AG hsn 27 (some 66) (.pick (.tmp 58) (.const (Value.bool true)) (.tmp 65)) (some (15,true)) ?_
  simp only[rG,seval,AD,AF,AE,gd15,t54]
  refine AG hsn 28 (some 67) (.pick (.tmp 54) (.tmp 66) (.const (Value.bool false))) none ?_
  simp only[rG,seval,AD,AF,AE,t54]
  refine AG hsn 29 (some 68) (.move (.tmp 67)) none ?_
  simp only[rG,seval,AD,AF,AE]
  refine hk _ ?_ ?_
  ·simp only[Tr.get_put,if_true];first | rfl | simp[*]
  ·intro t ht
   simp only[LJ ht,Nat.reduceLeDiff]
 ·skip
  refine AG hsn 16 (some 55) (.fieldAddr 60 (.tmp 8) 2) (some (15,true)) ?_
  simp only[rG,seval,AD,AF,AE,UD,gd15,t8,t54]
  refine AG hsn 17 (some 56) (.load 3 (.tmp 55)) (some (15,true)) ?_
  simp only[rG,seval,AD,AF,AE,AL,V6,KU,false_implies,gd15,ga,t54]
  refine AG hsn 18 (some 57) (.binOp .eql 3 (.tmp 56) (.const (Value.int IntKind.i64 0)) 3) (some (15,true)) ?_
  simp only[rG,seval,AD,AF,AE,QD,gd15,t54]
  cases q1:(x.ends==0)
  ·skip
   refine AG hsn 19 (some 58) (.move (.tmp 57)) (some (15,true)) ?_
   simp only[rG,seval,AD,AF,AE,gd15,t54]
   refine AG hsn 20 (some 59) (.fieldAddr 127 (.tmp 9) 1) (some (19,false)) ?_
   simp only[rG,seval,AD,AF,AE,ZP,gd19,t9]
   refine AG hsn 21 (some 60) (.load 4 (.tmp 59)) (some (19,false)) ?_
   simp only[rG,seval,AD,AF,AE,EE,TI,KU,decide_true,false_implies,gd19,gb,hb]
   refine AG hsn 22 (some 61) (.move (.tmp 60)) (some (19,false)) ?_
   simp only[rG,seval,AD,AF,AE,gd19]
   cases en
   ·skip
    refine AG hsn 23 (some 62) (.fieldAddr 60 (.tmp 8) 2) (some (22,true)) ?_
    simp only[rG,seval,AD,AF,AE,gd22]
    refine AG hsn 24 (some 63) (.load 3 (.tmp 62)) (some (22,true)) ?_
    simp only[rG,seval,AD,AF,AE,gd22]
    refine AG hsn 25 (some 64) (.binOp .eql 3 (.tmp 63) (.const (Value.int IntKind.i64 1)) 3) (some (22,true)) ?_
    simp only[rG,seval,AD,AF,AE,gd22]
    refine AG hsn 26 (some 65) (.pick (.tmp 61) (.tmp 64) (.const (Value.bool false))) (some (19,false)) ?_
    simp only[rG,seval,AD,AF,AE,gd19]
    refine AG hsn 27 (some 66) (.pick (.tmp 58) (.const (Value.bool true)) (.tmp 65)) (some (15,true)) ?_
    simp only[rG,seval,AD,AF,AE,gd15,t54]
    refine AG hsn 28 (some 67) (.pick (.tmp 54) (.tmp 66) (.const (Value.bool false))) none ?_
    simp only[rG,seval,AD,AF,AE,t54]
    refine AG hsn 29 (some 68) (.move (.tmp 67)) none ?_
    simp only[rG,seval,AD,AF,AE]
    refine hk _ ?_ ?_
    ·simp only[Tr.get_put,if_true];first | rfl | simp[*]
    ·intro t ht
     simp only[LJ ht,Nat.reduceLeDiff]
   ·skip
    refine AG hsn 23 (some 62) (.fieldAddr 60 (.tmp 8) 2) (some (22,true)) ?_
    simp only[rG,seval,AD,AF,AE,UD,gd22,t8]
    refine AG hsn 24 (some 63) (.load 3 (.tmp 62)) (some (22,true)) ?_
    simp only[rG,seval,AD,AF,AE,AL,V6,KU,false_implies,gd22,ga]
    refine AG hsn 25 (some 64) (.binOp .eql 3 (.tmp 63) (.const (Value.int IntKind.i64 1)) 3) (some (22,true)) ?_
    simp only[rG,seval,AD,AF,AE,QD,gd22]
    cases q3:(x.ends==1)
    ·skip
     refine AG hsn 26 (some 65) (.pick (.tmp 61) (.tmp 64) (.const (Value.bool false))) (some (19,false)) ?_
     simp only[rG,seval,AD,AF,AE,gd19]
     refine AG hsn 27 (some 66) (.pick (.tmp 58) (.const (Value.bool true)) (.tmp 65)) (some (15,true)) ?_
     simp only[rG,seval,AD,AF,AE,gd15,t54]
     refine AG hsn 28 (some 67) (.pick (.tmp 54) (.tmp 66) (.const (Value.bool false))) none ?_
     simp only[rG,seval,AD,AF,AE,t54]
     refine AG hsn 29 (some 68) (.move (.tmp 67)) none ?_
     simp only[rG,seval,AD,AF,AE]
     refine hk _ ?_ ?_
     ·simp only[Tr.get_put,if_true];first | rfl | simp[*]
     ·intro t ht
      simp only[LJ ht,Nat.reduceLeDiff]
    ·skip
     refine AG hsn 26 (some 65) (.pick (.tmp 61) (.tmp 64) (.const (Value.bool false))) (some (19,false)) ?_
     simp only[rG,seval,AD,AF,AE,gd19]
     refine AG hsn 27 (some 66) (.pick (.tmp 58) (.const (Value.bool true)) (.tmp 65)) (some (15,true)) ?_
     simp only[rG,seval,AD,AF,AE,gd15,t54]
     refine AG hsn 28 (some 67) (.pick (.tmp 54) (.tmp 66) (.const (Value.bool false))) none ?_
     simp only[rG,seval,AD,AF,AE,t54]
     refine AG hsn 29 (some 68) (.move (.tmp 67)) none ?_
     simp only[rG,seval,AD,AF,AE]
     refine hk _ ?_ ?_
     ·simp only[Tr.get_put,if_true];first | rfl | simp[*]
     ·intro t ht
      simp only[LJ ht,Nat.reduceLeDiff]
  ·skip
   refine AG hsn 19 (some 58) (.move (.tmp 57)) (some (15,true)) ?_
   simp only[rG,seval,AD,AF,AE,gd15,t54]
   refine AG hsn 20 (some 59) (.fieldAddr 127 (.tmp 9) 1) (some (19,false)) ?_
   simp only[rG,seval,AD,AF,AE,gd19]
   refine AG hsn 21 (some 60) (.load 4 (.tmp 59)) (some (19,false)) ?_
   simp only[rG,seval,AD,AF,AE,gd19]
   refine AG hsn 22 (some 61) (.move (.tmp 60)) (some (19,false)) ?_
   simp only[rG,seval,AD,AF,AE,gd19]
   refine AG hsn 23 (some 62) (.fieldAddr 60 (.tmp 8) 2) (some (22,true)) ?_
   simp only[rG,seval,AD,AF,AE,UD,gd22,t8]
   refine AG hsn 24 (some 63) (.load 3 (.tmp 62)) (some (22,true)) ?_
   simp only[rG,seval,AD,AF,AE,false_implies,gd22]
   refine AG hsn 25 (some 64) (.binOp .eql 3 (.tmp 63) (.const (Value.int IntKind.i64 1)) 3) (some (22,true)) ?_
   simp only[rG,seval,AD,AF,AE,gd22]
   refine AG hsn 26 (some 65) (.pick (.tmp 61) (.tmp 64) (.const (Value.bool false))) (some (19,false)) ?_
   simp only[rG,seval,AD,AF,AE,gd19]
   refine AG hsn 27 (some 66) (.pick (.tmp 58) (.const (Value.bool true)) (.tmp 65)) (some (15,true)) ?_
   simp only[rG,seval,AD,AF,AE,gd15,t54]
   refine AG hsn 28 (some 67) (.pick (.tmp 54) (.tmp 66) (.const (Value.bool false))) none ?_
   simp only[rG,seval,AD,AF,AE,t54]
   refine AG hsn 29 (some 68) (.move (.tmp 67)) none ?_
   simp only[rG,seval,AD,AF,AE]
   refine hk _ ?_ ?_
   ·simp only[Tr.get_put,if_true];first | rfl | simp[*]
   ·intro t ht
    simp only[LJ ht,Nat.reduceLeDiff]
theorem lX {c:Bool} (t68:T.get 68=.bool c)
  (hk:∀ T',T'.get 10=.bool (c&&(x.n==0||nu&&decide (x.n>0)&&decide (x.n≤1073741824)))→(∀ t:Nat,t<10→T'.get t=T.get t)→DN Tryz.prog call n EP start (Q5.drop 49) (EP.toList.drop 49) ⟨T',h⟩ k):DN Tryz.prog call n EP start (Q5.drop 30) (EP.toList.drop 30) ⟨T,h⟩ k:=by
 have gd6:(EP[6]?).bind (·.dst)=some 45:=by kernel_rfl
 have gd9:(EP[9]?).bind (·.dst)=some 48:=by kernel_rfl
 have gd15:(EP[15]?).bind (·.dst)=some 54:=by kernel_rfl
 have gd19:(EP[19]?).bind (·.dst)=some 58:=by kernel_rfl
 have gd22:(EP[22]?).bind (·.dst)=some 61:=by kernel_rfl
 have gd29:(EP[29]?).bind (·.dst)=some 68:=by kernel_rfl
 have gd33:(EP[33]?).bind (·.dst)=some 72:=by kernel_rfl
 have gd36:(EP[36]?).bind (·.dst)=some 75:=by kernel_rfl
 have gd41:(EP[41]?).bind (·.dst)=some 80:=by kernel_rfl
 cases c
 ·skip
  refine AG hsn 30 (some 69) (.fieldAddr 60 (.tmp 8) 3) (some (29,true)) ?_
  simp only[rG,seval,AD,AF,AE,gd29,t68]
  refine AG hsn 31 (some 70) (.load 3 (.tmp 69)) (some (29,true)) ?_
  simp only[rG,seval,AD,AF,AE,gd29,t68]
  refine AG hsn 32 (some 71) (.binOp .eql 3 (.tmp 70) (.const (Value.int IntKind.i64 0)) 3) (some (29,true)) ?_
  simp only[rG,seval,AD,AF,AE,gd29,t68]
  refine AG hsn 33 (some 72) (.move (.tmp 71)) (some (29,true)) ?_
  simp only[rG,seval,AD,AF,AE,gd29,t68]
  refine AG hsn 34 (some 73) (.fieldAddr 127 (.tmp 9) 2) (some (33,false)) ?_
  simp only[rG,seval,AD,AF,AE,ZD,gd33,t9]
  refine AG hsn 35 (some 74) (.load 4 (.tmp 73)) (some (33,false)) ?_
  simp only[rG,seval,AD,AF,AE,false_implies,gd33]
  refine AG hsn 36 (some 75) (.move (.tmp 74)) (some (33,false)) ?_
  simp only[rG,seval,AD,AF,AE,gd33]
  refine AG hsn 37 (some 76) (.fieldAddr 60 (.tmp 8) 3) (some (36,true)) ?_
  simp only[rG,seval,AD,AF,AE,F1,gd36,t8]
  refine AG hsn 38 (some 77) (.load 3 (.tmp 76)) (some (36,true)) ?_
  simp only[rG,seval,AD,AF,AE,false_implies,gd36]
  refine AG hsn 39 (some 78) (.binOp .gtr 3 (.tmp 77) (.const (Value.int IntKind.i64 0)) 3) (some (36,true)) ?_
  simp only[rG,seval,AD,AF,AE,gd36]
  refine AG hsn 40 (some 79) (.pick (.tmp 75) (.tmp 78) (.const (Value.bool false))) (some (33,false)) ?_
  simp only[rG,seval,AD,AF,AE,gd33]
  refine AG hsn 41 (some 80) (.move (.tmp 79)) (some (33,false)) ?_
  simp only[rG,seval,AD,AF,AE,gd33]
  refine AG hsn 42 (some 81) (.fieldAddr 60 (.tmp 8) 3) (some (41,true)) ?_
  simp only[rG,seval,AD,AF,AE,F1,gd41,t8]
  refine AG hsn 43 (some 82) (.load 3 (.tmp 81)) (some (41,true)) ?_
  simp only[rG,seval,AD,AF,AE,false_implies,gd41]
  refine AG hsn 44 (some 83) (.binOp .leq 3 (.tmp 82) (.const (Value.int IntKind.i64 1073741824)) 3) (some (41,true)) ?_
  simp only[rG,seval,AD,AF,AE,gd41]
  refine AG hsn 45 (some 84) (.pick (.tmp 80) (.tmp 83) (.const (Value.bool false))) (some (33,false)) ?_
  simp only[rG,seval,AD,AF,AE,gd33]
  refine AG hsn 46 (some 85) (.pick (.tmp 72) (.const (Value.bool true)) (.tmp 84)) (some (29,true)) ?_
  simp only[rG,seval,AD,AF,AE,gd29,t68]
  refine AG hsn 47 (some 86) (.pick (.tmp 68) (.tmp 85) (.const (Value.bool false))) none ?_
  simp only[rG,seval,AD,AF,AE,t68]
  refine AG hsn 48 (some 10) (.assign (.tmp 86)) none ?_
  simp only[rG,seval,AD,AF,AE]
  refine hk _ ?_ ?_
  ·simp only[Tr.get_put,if_true];first | rfl | simp[*]
  ·intro t ht
   simp only[LJ ht,Nat.reduceLeDiff]
 ·skip
  refine AG hsn 30 (some 69) (.fieldAddr 60 (.tmp 8) 3) (some (29,true)) ?_
  simp only[rG,seval,AD,AF,AE,F1,gd29,t8,t68]
  refine AG hsn 31 (some 70) (.load 3 (.tmp 69)) (some (29,true)) ?_
  simp only[rG,seval,AD,AF,AE,AL,R2,KU,false_implies,gd29,ga,t68]
  refine AG hsn 32 (some 71) (.binOp .eql 3 (.tmp 70) (.const (Value.int IntKind.i64 0)) 3) (some (29,true)) ?_
  simp only[rG,seval,AD,AF,AE,QD,gd29,t68]
  cases q1:(x.n==0)
  ·skip
   refine AG hsn 33 (some 72) (.move (.tmp 71)) (some (29,true)) ?_
   simp only[rG,seval,AD,AF,AE,gd29,t68]
   refine AG hsn 34 (some 73) (.fieldAddr 127 (.tmp 9) 2) (some (33,false)) ?_
   simp only[rG,seval,AD,AF,AE,ZD,gd33,t9]
   refine AG hsn 35 (some 74) (.load 4 (.tmp 73)) (some (33,false)) ?_
   simp only[rG,seval,AD,AF,AE,EE,V6,KU,decide_true,false_implies,gd33,gb,hb]
   refine AG hsn 36 (some 75) (.move (.tmp 74)) (some (33,false)) ?_
   simp only[rG,seval,AD,AF,AE,gd33]
   cases nu
   ·skip
    refine AG hsn 37 (some 76) (.fieldAddr 60 (.tmp 8) 3) (some (36,true)) ?_
    simp only[rG,seval,AD,AF,AE,gd36]
    refine AG hsn 38 (some 77) (.load 3 (.tmp 76)) (some (36,true)) ?_
    simp only[rG,seval,AD,AF,AE,gd36]
    refine AG hsn 39 (some 78) (.binOp .gtr 3 (.tmp 77) (.const (Value.int IntKind.i64 0)) 3) (some (36,true)) ?_
    simp only[rG,seval,AD,AF,AE,gd36]
    refine AG hsn 40 (some 79) (.pick (.tmp 75) (.tmp 78) (.const (Value.bool false))) (some (33,false)) ?_
    simp only[rG,seval,AD,AF,AE,gd33]
    refine AG hsn 41 (some 80) (.move (.tmp 79)) (some (33,false)) ?_
    simp only[rG,seval,AD,AF,AE,gd33]
    refine AG hsn 42 (some 81) (.fieldAddr 60 (.tmp 8) 3) (some (41,true)) ?_
    simp only[rG,seval,AD,AF,AE,gd41]
    refine AG hsn 43 (some 82) (.load 3 (.tmp 81)) (some (41,true)) ?_
    simp only[rG,seval,AD,AF,AE,gd41]
    refine AG hsn 44 (some 83) (.binOp .leq 3 (.tmp 82) (.const (Value.int IntKind.i64 1073741824)) 3) (some (41,true)) ?_
    simp only[rG,seval,AD,AF,AE,gd41]
    refine AG hsn 45 (some 84) (.pick (.tmp 80) (.tmp 83) (.const (Value.bool false))) (some (33,false)) ?_
    simp only[rG,seval,AD,AF,AE,gd33]
    refine AG hsn 46 (some 85) (.pick (.tmp 72) (.const (Value.bool true)) (.tmp 84)) (some (29,true)) ?_
    simp only[rG,seval,AD,AF,AE,gd29,t68]
    refine AG hsn 47 (some 86) (.pick (.tmp 68) (.tmp 85) (.const (Value.bool false))) none ?_
    simp only[rG,seval,AD,AF,AE,t68]
    refine AG hsn 48 (some 10) (.assign (.tmp 86)) none ?_
    simp only[rG,seval,AD,AF,AE]
    refine hk _ ?_ ?_
    ·simp only[Tr.get_put,if_true];first | rfl | simp[*]
    ·intro t ht
     simp only[LJ ht,Nat.reduceLeDiff]
   ·skip
    refine AG hsn 37 (some 76) (.fieldAddr 60 (.tmp 8) 3) (some (36,true)) ?_
    simp only[rG,seval,AD,AF,AE,F1,gd36,t8]
    refine AG hsn 38 (some 77) (.load 3 (.tmp 76)) (some (36,true)) ?_
    simp only[rG,seval,AD,AF,AE,AL,R2,KU,false_implies,gd36,ga]
    refine AG hsn 39 (some 78) (.binOp .gtr 3 (.tmp 77) (.const (Value.int IntKind.i64 0)) 3) (some (36,true)) ?_
    simp only[rG,seval,AD,AF,AE,U9,gd36]
    cases q3:decide (x.n>0)
    ·skip
     refine AG hsn 40 (some 79) (.pick (.tmp 75) (.tmp 78) (.const (Value.bool false))) (some (33,false)) ?_
     simp only[rG,seval,AD,AF,AE,gd33]
     refine AG hsn 41 (some 80) (.move (.tmp 79)) (some (33,false)) ?_
     simp only[rG,seval,AD,AF,AE,gd33]
     refine AG hsn 42 (some 81) (.fieldAddr 60 (.tmp 8) 3) (some (41,true)) ?_
     simp only[rG,seval,AD,AF,AE,gd41]
     refine AG hsn 43 (some 82) (.load 3 (.tmp 81)) (some (41,true)) ?_
     simp only[rG,seval,AD,AF,AE,gd41]
     refine AG hsn 44 (some 83) (.binOp .leq 3 (.tmp 82) (.const (Value.int IntKind.i64 1073741824)) 3) (some (41,true)) ?_
     simp only[rG,seval,AD,AF,AE,gd41]
     refine AG hsn 45 (some 84) (.pick (.tmp 80) (.tmp 83) (.const (Value.bool false))) (some (33,false)) ?_
     simp only[rG,seval,AD,AF,AE,gd33]
     refine AG hsn 46 (some 85) (.pick (.tmp 72) (.const (Value.bool true)) (.tmp 84)) (some (29,true)) ?_
     simp only[rG,seval,AD,AF,AE,gd29,t68]
     refine AG hsn 47 (some 86) (.pick (.tmp 68) (.tmp 85) (.const (Value.bool false))) none ?_
     simp only[rG,seval,AD,AF,AE,t68]
     refine AG hsn 48 (some 10) (.assign (.tmp 86)) none ?_
     simp only[rG,seval,AD,AF,AE]
     refine hk _ ?_ ?_
     ·simp only[Tr.get_put,if_true];first | rfl | simp[*]
     ·intro t ht
      simp only[LJ ht,Nat.reduceLeDiff]
    ·skip
     refine AG hsn 40 (some 79) (.pick (.tmp 75) (.tmp 78) (.const (Value.bool false))) (some (33,false)) ?_
     simp only[rG,seval,AD,AF,AE,gd33]
     refine AG hsn 41 (some 80) (.move (.tmp 79)) (some (33,false)) ?_
     simp only[rG,seval,AD,AF,AE,gd33]
     refine AG hsn 42 (some 81) (.fieldAddr 60 (.tmp 8) 3) (some (41,true)) ?_
     simp only[rG,seval,AD,AF,AE,F1,gd41,t8]
     refine AG hsn 43 (some 82) (.load 3 (.tmp 81)) (some (41,true)) ?_
     simp only[rG,seval,AD,AF,AE,AL,R2,KU,false_implies,gd41,ga]
     refine AG hsn 44 (some 83) (.binOp .leq 3 (.tmp 82) (.const (Value.int IntKind.i64 1073741824)) 3) (some (41,true)) ?_
     simp only[rG,seval,AD,AF,AE,VO,gd41]
     cases q4:decide (x.n≤1073741824)
     ·skip
      refine AG hsn 45 (some 84) (.pick (.tmp 80) (.tmp 83) (.const (Value.bool false))) (some (33,false)) ?_
      simp only[rG,seval,AD,AF,AE,gd33]
      refine AG hsn 46 (some 85) (.pick (.tmp 72) (.const (Value.bool true)) (.tmp 84)) (some (29,true)) ?_
      simp only[rG,seval,AD,AF,AE,gd29,t68]
      refine AG hsn 47 (some 86) (.pick (.tmp 68) (.tmp 85) (.const (Value.bool false))) none ?_
      simp only[rG,seval,AD,AF,AE,t68]
      refine AG hsn 48 (some 10) (.assign (.tmp 86)) none ?_
      simp only[rG,seval,AD,AF,AE]
      refine hk _ ?_ ?_
      ·simp only[Tr.get_put,if_true];first | rfl | simp[*]
      ·intro t ht
       simp only[LJ ht,Nat.reduceLeDiff]
     ·skip
      refine AG hsn 45 (some 84) (.pick (.tmp 80) (.tmp 83) (.const (Value.bool false))) (some (33,false)) ?_
      simp only[rG,seval,AD,AF,AE,gd33]
      refine AG hsn 46 (some 85) (.pick (.tmp 72) (.const (Value.bool true)) (.tmp 84)) (some (29,true)) ?_
      simp only[rG,seval,AD,AF,AE,gd29,t68]
      refine AG hsn 47 (some 86) (.pick (.tmp 68) (.tmp 85) (.const (Value.bool false))) none ?_
      simp only[rG,seval,AD,AF,AE,t68]
      refine AG hsn 48 (some 10) (.assign (.tmp 86)) none ?_
      simp only[rG,seval,AD,AF,AE]
      refine hk _ ?_ ?_
      ·simp only[Tr.get_put,if_true];first | rfl | simp[*]
      ·intro t ht
       simp only[LJ ht,Nat.reduceLeDiff]
  ·skip
   refine AG hsn 33 (some 72) (.move (.tmp 71)) (some (29,true)) ?_
   simp only[rG,seval,AD,AF,AE,gd29,t68]
   refine AG hsn 34 (some 73) (.fieldAddr 127 (.tmp 9) 2) (some (33,false)) ?_
   simp only[rG,seval,AD,AF,AE,gd33]
   refine AG hsn 35 (some 74) (.load 4 (.tmp 73)) (some (33,false)) ?_
   simp only[rG,seval,AD,AF,AE,gd33]
   refine AG hsn 36 (some 75) (.move (.tmp 74)) (some (33,false)) ?_
   simp only[rG,seval,AD,AF,AE,gd33]
   refine AG hsn 37 (some 76) (.fieldAddr 60 (.tmp 8) 3) (some (36,true)) ?_
   simp only[rG,seval,AD,AF,AE,F1,gd36,t8]
   refine AG hsn 38 (some 77) (.load 3 (.tmp 76)) (some (36,true)) ?_
   simp only[rG,seval,AD,AF,AE,false_implies,gd36]
   refine AG hsn 39 (some 78) (.binOp .gtr 3 (.tmp 77) (.const (Value.int IntKind.i64 0)) 3) (some (36,true)) ?_
   simp only[rG,seval,AD,AF,AE,gd36]
   refine AG hsn 40 (some 79) (.pick (.tmp 75) (.tmp 78) (.const (Value.bool false))) (some (33,false)) ?_
   simp only[rG,seval,AD,AF,AE,gd33]
   refine AG hsn 41 (some 80) (.move (.tmp 79)) (some (33,false)) ?_
   simp only[rG,seval,AD,AF,AE,gd33]
   refine AG hsn 42 (some 81) (.fieldAddr 60 (.tmp 8) 3) (some (41,true)) ?_
   simp only[rG,seval,AD,AF,AE,F1,gd41,t8]
   refine AG hsn 43 (some 82) (.load 3 (.tmp 81)) (some (41,true)) ?_
   simp only[rG,seval,AD,AF,AE,false_implies,gd41]
   refine AG hsn 44 (some 83) (.binOp .leq 3 (.tmp 82) (.const (Value.int IntKind.i64 1073741824)) 3) (some (41,true)) ?_
   simp only[rG,seval,AD,AF,AE,gd41]
   refine AG hsn 45 (some 84) (.pick (.tmp 80) (.tmp 83) (.const (Value.bool false))) (some (33,false)) ?_
   simp only[rG,seval,AD,AF,AE,gd33]
   refine AG hsn 46 (some 85) (.pick (.tmp 72) (.const (Value.bool true)) (.tmp 84)) (some (29,true)) ?_
   simp only[rG,seval,AD,AF,AE,gd29,t68]
   refine AG hsn 47 (some 86) (.pick (.tmp 68) (.tmp 85) (.const (Value.bool false))) none ?_
   simp only[rG,seval,AD,AF,AE,t68]
   refine AG hsn 48 (some 10) (.assign (.tmp 86)) none ?_
   simp only[rG,seval,AD,AF,AE]
   refine hk _ ?_ ?_
   ·simp only[Tr.get_put,if_true];first | rfl | simp[*]
   ·intro t ht
    simp only[LJ ht,Nat.reduceLeDiff]
end
def rt:Code→Code
 | .seq _ b=>b
 | c=>c
def lf:Code→Code
 | .seq a _=>a
 | c=>c
noncomputable def TG:Code:=rt (rt (rt (Tryz.f70.body.getD .skip)))
theorem Cu {what k:Int} (hw:what≠8) (h:CA what k=true):k≠1:=by
 intro e
 subst e
 unfold CA at h
 rw[if_neg hw] at h
 (repeat' split at h) <;> simp at h
theorem Hg {k:Int} {j:Nat}:BV k j≠8:=X0.2
theorem R5 (k:Int):0≤FT k:=by unfold FT;(repeat' split) <;> omega
section
variable {call:AS} {n:Nat}
structure w_ (call:AS) (l:List AB) (v:Value) (m at_:Nat):Prop where
 asked:∀ (k:Int) (j:Nat) h,1≤k∧k≤54→(k=11∨(j:Int)<CZ k)→call 113 [iv k,iv j] h=some (iv (BV k j),h)
 row:∀ (p:Nat) (w:Int) h,at_<p→p≤l.length→w≠8→AQ h v l→h.get 0=EA→0<h.next→h.floor≤h.next→call 70 [v,iv p,iv w] h=some (.tuple #[iv ((BW AZ l m p w).1:Int),.bool (BW AZ l m p w).2],h)
theorem Fv (hsn:CK call) {l:List AB} {v:Value} {m at_ a b:Nat} {x:AB} {T:Tr} {h:AA} {k:B_} {ga0 gb0:Bool} (hc:w_ call l v m at_) (hn:l.length+3<n) (hlen:l.length<1099511627776) (hat:at_<l.length)
  (h91:∀ h',h'.get 0=EA→call 111 [.string x.name] h'=some (.bool (AZ x.name),h'))
  (hv:AQ h v l) (hg:h.get 0=EA) (hn0:0<h.next) (hfl:h.floor≤h.next) (hkind:1≤x.kind∧x.kind≤54) (hk1:x.kind≠1)
  (t0:T.get 0=v) (t1:T.get 1=iv at_) (t8:T.get 8=qP a 0) (t9:T.get 9=qP b 0)
  (ga:h.get a=.row [.int .i64 x.kind,.string x.name,.int .i64 x.ends,.int .i64 x.n,.int .i64 x.kids] 60 ga0 false)
  (gb:h.get b=.row [.bool (HQ x.kind),.bool (KJ x.kind),.bool (x.kind==27),.int .i64 (FT x.kind),.int .i64 (CZ x.kind)] 127 gb0 false) (hb:b<h.next)
  (hk:∀ T' (p:Nat) ok,(p,ok)=(if DR AZ x=true then E6 (fun k next=>BW AZ l m next (BV x.kind k)) x.kids.toNat 0 (at_+1) else (at_,false))→T'.get 6=iv p→T'.get 7=.bool ok→k.ap Tryz.prog call n .ret ⟨T',h⟩) :
  WK Tryz.prog call n TG ⟨T,h⟩ k:=by
 show WK _ _ _ (.seq (.region _ _ true) _) _ _
 rw[KA]
 refine WK.flags (ops:=EP) sS ?_
 refine DN.begin ?_
 refine xK hsn t8 t9 ga gb (by simpa using hb) (fun h' e=>h91 h' (by rw[e];exact hg)) fun T1 e1 k1=>?_
 refine oC hsn (by rw[k1 8 (by decide)];exact t8) (by rw[k1 9 (by decide)];exact t9) ga gb (by simpa using hb) e1 fun T2 e2 k2=>?_
 refine lX hsn (by rw[k2 8 (by decide),k1 8 (by decide)];exact t8) (by rw[k2 9 (by decide),k1 9 (by decide)];exact t9) ga gb (by simpa using hb) e2 fun T3 e3 k3=>?_
 refine DN.done (i:=49) (by kernel_rfl) ?_
 rw[S2]
 have kp:∀ t:Nat,t<10→T3.get t=T.get t:=fun t ht=>by rw[k3 t ht,k2 t (by omega),k1 t (by omega)]
 have u0:=(kp 0 (by decide)).trans t0
 have u1:=(kp 1 (by decide)).trans t1
 have u8:=(kp 8 (by decide)).trans t8
 have u9:=(kp 9 (by decide)).trans t9
 clear k1 k2 k3 kp e1 e2
 generalize hcc:(((AZ x.name==HQ x.kind)&&(HQ x.kind||x.name==⟨#[]⟩))&&(x.ends==0||KJ x.kind&&x.ends==1)&&(x.n==0||(x.kind==27)&&decide (x.n>0)&&decide (x.n≤1073741824)))=cc at e3
 have hfit:DR AZ x=(cc&&decide (x.kids≥FT x.kind)&&(decide (CZ x.kind<0)||decide (x.kids≤CZ x.kind))):=by
  rw[← hcc]
  rfl
 have bad:DR AZ x=false→∀ T',T'.get 6=iv at_→T'.get 7=.bool false→k.ap Tryz.prog call n .ret ⟨T',h⟩:=fun hf T' h6 h7=>hk T' at_ false (by rw[hf];rfl) h6 h7
 have e1:(x.kind==1)=false:=by simpa using hk1
 have hkids:DR AZ x=true→0≤x.kids∧(decide (CZ x.kind<0)||decide (x.kids≤CZ x.kind))=true:=fun hf=>by
  rw[hfit] at hf
  simp only[Bool.and_eq_true,decide_eq_true_eq] at hf
  have:=R5 x.kind
  exact⟨by omega,hf.2⟩
 have main:DR AZ x=true→∀ T',T'.get 0=v→T'.get 1=iv at_→T'.get 8=qP a 0→WK Tryz.prog call n (rt (rt TG)) ⟨T',h⟩ k:=by
  intro hf T' w0 w1 w8
  obtain⟨hk0,hkm⟩:=hkids hf
  have hkN:((x.kids.toNat:Nat):Int)=x.kids:=by omega
  have wat:=DF at_ (by omega)
  show WK _ _ _ (.seq _ _) _ _
  simp only[eE,seval,↓eP,rP,w1,w8,ga,e1]
  have res:∀ (p:Nat) ok,E6 (fun k next=>BW AZ l m next (BV x.kind k)) x.kids.toNat 0 (at_+1)=(p,ok)→∀ T',T'.get 6=iv p→T'.get 7=.bool ok→k.ap Tryz.prog call n .ret ⟨T',h⟩:=fun p ok e T' h6 h7=>hk T' p ok (by rw[if_pos hf,e]) h6 h7
  generalize hg0:E6 (fun k next=>BW AZ l m next (BV x.kind k)) x.kids.toNat 0 (at_+1)=R at res
  refine WK.loop (fun i s=>s.h=h∧s.T.get 0=v∧s.T.get 8=qP a 0∧s.T.get 13=iv i∧∃ p:Nat,∃ ok:Bool,s.T.get 11=iv p∧s.T.get 12=.bool ok∧p≤l.length∧i≤l.length+1 ∧
   ((ok=true∧i≤x.kids.toNat∧at_+1+i≤p∧E6 (fun k next=>BW AZ l m next (BV x.kind k)) (x.kids.toNat-i) i p=R)∨(ok=false∧R=(p,false)))) (l.length+2) (by omega) ?_ ?_
  ·simp only[eE,↓reduceIte,Nat.reduceEqDiff,reduceCtorEq,↓eP,rP,Nat.reduceAdd,Nat.reduceLT,w0,w8]
   exact⟨rfl,at_+1,true,wat,rfl,by omega,.inl ⟨rfl,by omega,by rw[Nat.sub_zero];exact hg0⟩⟩
  ·rintro i ⟨T1,h1⟩ hi ⟨rfl,y0,y8,y13,p,ok,y11,y12,hp,hil,hcase⟩
   simp only at y0 y8 y13 y11 y12
   rcases hcase with⟨rfl,hik,hpi,hR⟩ | ⟨rfl,hR⟩
   ·by_cases hlt:i<x.kids.toNat
    ·have c1:decide ((i:Int)<x.kids)=true:=by simp only[decide_eq_true_eq];omega
     have hask:=fun hh=>hc.asked x.kind i hh hkind (by
      simp only[Bool.or_eq_true,decide_eq_true_eq] at hkm
      rcases hkm with h | h
      ·left
       unfold CZ at h
       (repeat' split at h) <;> simp_all
      ·right;omega)
     have hrow:=fun hv' hg'=>hc.row p (BV x.kind i) h1 (by omega) hp Hg hv' hg' hn0 hfl
     have hrow':=hrow hv hg
     have w5:=DF i (by omega)
     generalize hq:BW AZ l m p (BV x.kind i)=q at hrow'
     have hstep:E6 (fun k next=>BW AZ l m next (BV x.kind k)) (x.kids.toNat-i) i p=if q.2=true then E6 (fun k next=>BW AZ l m next (BV x.kind k)) (x.kids.toNat-(i+1)) (i+1) q.1 else (q.1,false):=by
      obtain⟨r,hr⟩:∃ r,x.kids.toNat-i=r+1:=⟨x.kids.toNat-i-1,by omega⟩
      rw[hr,show x.kids.toNat-(i+1)=r by omega]
      simp only[E6,hq]
     have hq1:q.1≤l.length:=by rw[← hq];exact YE m p _ hp
     have hq2:q.2=true→p<q.1:=fun h=>by
      have:=S5 (isName:=AZ) (l:=l) m p (BV x.kind i)
      rw[hq] at this
      exact(this h).1
     simp only[eE,seval,↓eP,rP,y0,y8,y13,y11,y12,ga,c1,hask,hrow']
     refine⟨by omega,w5,q.1,q.2,rfl,rfl,hq1,by omega,?_⟩
     cases hb2:q.2 with
     | true=>
      left
      have:=hq2 hb2
      rw[hb2,if_pos rfl] at hstep
      exact⟨rfl,by omega,by omega,by rw[← hstep];exact hR⟩
     | false=>
      right
      rw[hb2,if_neg (by simp)] at hstep
      exact⟨rfl,by rw[← hR,hstep]⟩
    ·have c1:decide ((i:Int)<x.kids)=false:=by simp only[decide_eq_false_iff_not];omega
     have hie:x.kids.toNat-i=0:=by omega
     rw[hie] at hR
     simp only[eE,seval,↓eP,rP,y8,y13,y11,y12,ga,c1]
     refine res p true (by rw[← hR];rfl) _ ?_ ?_
     ·simp only[eE,seval,↓eP,rP]
     ·simp only[eE,seval,↓eP,rP]
   ·cases c1:decide ((i:Int)<x.kids) with
    | true=>
     simp only[eE,seval,↓eP,rP,y8,y13,y11,y12,ga,c1]
     refine res p false hR _ ?_ ?_
     ·simp only[eE,seval,↓eP,rP]
     ·simp only[eE,seval,↓eP,rP]
    | false=>
     simp only[eE,seval,↓eP,rP,y8,y13,y11,y12,ga,c1]
     refine res p false hR _ ?_ ?_
     ·simp only[eE,seval,↓eP,rP]
     ·simp only[eE,seval,↓eP,rP]
 show WK _ _ _ (.seq _ (rt (rt TG))) _ _
 cases cc with
 | false=>
  simp only[eE,seval,↓eP,rP,e3,u1]
  refine bad (by rw[hfit];rfl) _ ?_ ?_
  ·simp only[eE,seval,↓eP,rP]
  ·simp only[eE,seval,↓eP,rP]
 | true=>
  cases d1:decide (x.kids<FT x.kind) with
  | true=>
   simp only[eE,seval,↓eP,rP,e3,u1,u8,u9,ga,gb,d1]
   refine bad (by rw[hfit,decide_eq_false (by simp only[decide_eq_true_eq] at d1;omega)];rfl) _ ?_ ?_
   ·simp only[eE,seval,↓eP,rP]
   ·simp only[eE,seval,↓eP,rP]
  | false=>
   have hl:decide (x.kids≥FT x.kind)=true:=by simp only[decide_eq_false_iff_not] at d1;simp only[decide_eq_true_eq];omega
   cases d2:decide (CZ x.kind≥0) with
   | false=>
    have hm:decide (CZ x.kind<0)=true:=by simp only[decide_eq_false_iff_not] at d2;simp only[decide_eq_true_eq];omega
    simp only[eE,seval,↓eP,rP,e3,u8,u9,ga,gb,d1,d2]
    refine main (by rw[hfit,hl,hm];rfl) _ ?_ ?_ ?_
    ·simp only[eE,seval,↓eP,rP,u0]
    ·simp only[eE,seval,↓eP,rP,u1]
    ·simp only[eE,seval,↓eP,rP,u8]
   | true=>
    cases d3:decide (x.kids>CZ x.kind) with
    | true=>
     have hm:decide (CZ x.kind<0)=false:=by simp only[decide_eq_true_eq] at d2;simp only[decide_eq_false_iff_not];omega
     have hm2:decide (x.kids≤CZ x.kind)=false:=by simp only[decide_eq_true_eq] at d3;simp only[decide_eq_false_iff_not];omega
     simp only[eE,seval,↓eP,rP,e3,u1,u8,u9,ga,gb,d1,d2,d3]
     refine bad (by rw[hfit,hl,hm,hm2];rfl) _ ?_ ?_
     ·simp only[eE,seval,↓eP,rP]
     ·simp only[eE,seval,↓eP,rP]
    | false=>
     have hm2:decide (x.kids≤CZ x.kind)=true:=by simp only[decide_eq_false_iff_not] at d3;simp only[decide_eq_true_eq];omega
     simp only[eE,seval,↓eP,rP,e3,u8,u9,ga,gb,d1,d2,d3]
     refine main (by rw[hfit,hl,hm2,Bool.or_true];rfl) _ ?_ ?_ ?_
     ·simp only[eE,seval,↓eP,rP,u0]
     ·simp only[eE,seval,↓eP,rP,u1]
     ·simp only[eE,seval,↓eP,rP,u8]
end
theorem QM {a b:Value} (ha:flat a=true) (hb:flat b=true):E9 (.tuple #[a,b])=true:=by simp[E9,ha,hb]
theorem YA {l:List AB} {m at_:Nat} {what:Int} {x:AB} (hx:l[at_]?=some x):BW AZ l (m+1) at_ what=if (CA what x.kind&&DR AZ x)=true then E6 (fun k next=>BW AZ l m next (BV x.kind k)) x.kids.toNat 0 (at_+1) else (at_,false):=by
 rw[BW,hx]
theorem jM {l:List AB} {m at_:Nat} {what:Int} (hx:l[at_]?=none):BW AZ l (m+1) at_ what=(at_,false):=by
 rw[BW,hx]
section
variable {call:AS} {n:Nat}
theorem kT (hsn:CK call) {l:List AB} {v:Value} {m at_:Nat} {what:Int} {h:AA} (hc:w_ call l v m at_) (hn:l.length+3<n) (hlen:l.length<1099511627776) (hat:at_≤l.length) (hw:what≠8)
  (h89:∀ w k h,call 109 [iv w,iv k] h=some (.bool (CA w k),h))
  (h90':∀ k h,1≤k∧k≤54→call 110 [iv k] h=some (.agg #[.bool (HQ k),.bool (KJ k),.bool (k==27),iv (FT k),iv (CZ k)],h))
  (h91:∀ s h',h'.get 0=EA→call 111 [.string s] h'=some (.bool (AZ s),h'))
  (hv:AQ h v l) (hg:h.get 0=EA) (hn0:0<h.next) (hfl:h.floor≤h.next) :
  ∃ h1,AY Tryz.prog call n 70 [v,iv at_,iv what] h=some (.tuple #[iv ((BW AZ l (m+1) at_ what).1:Int),.bool (BW AZ l (m+1) at_ what).2],h1)∧∀ i,i<h.next→h1.get i=h.get i:=by
 refine DW (R:=fun h1=>∀ i,i<h.next→h1.get i=h.get i) Tryz.func70 rfl (by simp[Tryz.f70]) ?_
 have hr:Tryz.f70.results.toList=[.tmp 6,.tmp 7]:=rfl
 have hl22:∀ h',CY Tryz.prog h' 22 v=some (.int .i64 l.length):=fun h'=>hv.len
 cases hx:l[at_]? with
 | none=>
  rw[jM hx]
  have hge:l.length≤at_:=List.getElem?_eq_none_iff.1 hx
  have c1:decide ((at_:Int)≥(l.length:Int))=true:=by simp only[decide_eq_true_eq];omega
  simp only[eE,seval,↓eP,rP,hr,hl22,c1]
  exact fun i hi=>trivial
 | some x=>
  have hlt:at_<l.length:=(List.getElem?_eq_some_iff.1 hx).1
  have c1:decide ((at_:Int)≥(l.length:Int))=false:=by simp only[decide_eq_false_iff_not];omega
  obtain⟨id,p,e0,hid,l0,l1,l2,l3,l4,lr⟩:=hv.row hx
  rw[YA hx]
  cases hs:CA what x.kind with
  | false=>
   simp only[eE,seval,↓eP,rP,hr,hl22,c1,e0,l0,h89,hs,Bool.false_and]
   exact fun i hi=>trivial
  | true=>
  have hkind:=QZ hs
  have h90:=fun h=>h90' x.kind h hkind
  have hidT:(id<h.next)=True:=by simpa using hid
  have hne1:(h.next=h.next+1)=False:=by simp
  have hne2:(h.next+1=h.next)=False:=by simp
  have hfl1:(h.floor≤h.next)=True:=by simpa using hfl
  have hfl2:(h.floor≤h.next+1)=True:=by simp;omega
  have hlt1:(h.next<h.next+1+1)=True:=by simp;omega
  have hlt2:(h.next+1<h.next+1+1)=True:=by simp
  simp only[Bool.true_and]
  simp only[eE,seval,↓eP,rP,hr,hl22,c1,e0,l0,h89,hs]
  refine WK.flags (ops:=kB) vR ?_
  refine DN.begin ?_
  refine AG hsn 0 (some 29) (.move (.tmp 0)) none ?_
  simp only[eE,seval,↓eP,rP,AE,AD,AF,rF,hr,e0,l0,lr,hidT,h90,hne1,hne2,hfl1,hfl2,hlt1,hlt2]
  refine AG hsn 1 (some 30) (.move (.tmp 1)) none ?_
  simp only[eE,seval,↓eP,rP,AE,AD,AF,rF,hr,e0,l0,lr,hidT,h90,hne1,hne2,hfl1,hfl2,hlt1,hlt2]
  refine AG hsn 2 (some 31) (.indexAddr 22 (.tmp 29) (.tmp 30)) none ?_
  simp only[eE,seval,↓eP,rP,AE,AD,AF,rF,hr,e0,l0,lr,hidT,h90,hne1,hne2,hfl1,hfl2,hlt1,hlt2]
  refine AG hsn 3 (some 32) (.load 60 (.tmp 31)) none ?_
  simp only[eE,seval,↓eP,rP,AE,AD,AF,rF,hr,e0,l0,lr,hidT,h90,hne1,hne2,hfl1,hfl2,hlt1,hlt2]
  refine AG hsn 4 (some 33) (.move (.tmp 0)) none ?_
  simp only[eE,seval,↓eP,rP,AE,AD,AF,rF,hr,e0,l0,lr,hidT,h90,hne1,hne2,hfl1,hfl2,hlt1,hlt2]
  refine AG hsn 5 (some 34) (.move (.tmp 1)) none ?_
  simp only[eE,seval,↓eP,rP,AE,AD,AF,rF,hr,e0,l0,lr,hidT,h90,hne1,hne2,hfl1,hfl2,hlt1,hlt2]
  refine AG hsn 6 (some 35) (.indexAddr 22 (.tmp 33) (.tmp 34)) none ?_
  simp only[eE,seval,↓eP,rP,AE,AD,AF,rF,hr,e0,l0,lr,hidT,h90,hne1,hne2,hfl1,hfl2,hlt1,hlt2]
  refine AG hsn 7 (some 36) (.fieldAddr 60 (.tmp 35) 0) none ?_
  simp only[eE,seval,↓eP,rP,AE,AD,AF,rF,hr,e0,l0,lr,hidT,h90,hne1,hne2,hfl1,hfl2,hlt1,hlt2]
  refine AG hsn 8 (some 37) (.load 3 (.tmp 36)) none ?_
  simp only[eE,seval,↓eP,rP,AE,AD,AF,rF,hr,e0,l0,lr,hidT,h90,hne1,hne2,hfl1,hfl2,hlt1,hlt2]
  refine AG hsn 9 (some 38) (.call { callee:=.value (.func 110),args:=#[.tmp 37],argTypes:=#[3] }) none ?_
  simp only[eE,seval,↓eP,rP,AE,AD,AF,rF,hr,e0,l0,lr,hidT,h90,hne1,hne2,hfl1,hfl2,hlt1,hlt2]
  refine AG hsn 10 (some 8) (.alloc 60) none ?_
  simp only[eE,seval,↓eP,rP,AE,AD,AF,rF,hr,e0,l0,lr,hidT,h90,hne1,hne2,hfl1,hfl2,hlt1,hlt2]
  refine AG hsn 11 (some 9) (.alloc 127) none ?_
  simp only[eE,seval,↓eP,rP,AE,AD,AF,rF,hr,e0,l0,lr,hidT,h90,hne1,hne2,hfl1,hfl2,hlt1,hlt2]
  refine AG hsn 12 (none) (.store 60 (.tmp 8) (.tmp 32)) none ?_
  simp only[eE,seval,↓eP,rP,AE,AD,AF,rF,hr,e0,l0,lr,hidT,h90,hne1,hne2,hfl1,hfl2,hlt1,hlt2]
  refine AG hsn 13 (none) (.store 127 (.tmp 9) (.tmp 38)) none ?_
  simp only[eE,seval,↓eP,rP,AE,AD,AF,rF,hr,e0,l0,lr,hidT,h90,hne1,hne2,hfl1,hfl2,hlt1,hlt2]
  refine DN.done (i:=14) (by kernel_rfl) ?_
  rw[S2]
  have hold:∀ i,i<h.next→((((h.push (.row DS 60 false false)).push (.row [.bool false,.bool false,.bool false,.int .i64 0,.int .i64 0] 127 false false)).put h.next (.row [.int .i64 x.kind,.string x.name,.int .i64 x.ends,.int .i64 x.n,.int .i64 x.kids] 60 false false)).put (h.next+1)
    (.row [.bool (HQ x.kind),.bool (KJ x.kind),.bool (x.kind==27),iv (FT x.kind),iv (CZ x.kind)] 127 false false)).get i=h.get i:=fun i hi=>by
   rw[UH,if_neg (by omega),UH,if_neg (by omega),LF,if_neg (by rw[EQ];omega),LF,if_neg (by omega)]
  refine Fv hsn hc hn hlen hlt (h91 x.name) (hv.mono (by simp only[KN,EQ];omega) hold) (by rw[hold 0 hn0];exact hg) (by simp only[KN,EQ];omega) (by simp only[KN,EQ,NY,JQ];omega) hkind (Cu hw hs) (a:=h.next) (b:=h.next+1) (ga0:=false) (gb0:=false) ?_ ?_ ?_ ?_ ?_ ?_ (by simp only[KN,EQ];omega) ?_
  ·simp only[eE,seval,↓eP,rP]
  ·simp only[eE,seval,↓eP,rP]
  ·simp only[eE,seval,↓eP,rP]
  ·simp only[eE,seval,↓eP,rP]
  ·simp only[eE,seval,↓eP,rP,hne1,hlt1]
  ·simp only[eE,seval,↓eP,rP,hlt2]
  ·intro T' q ok hq h6 h7
   simp only[eE,seval,↓eP,rP,hr,h6,h7,← hq]
   intro i hi
   rw[if_neg (by omega),if_neg (by omega),if_neg (by omega),if_neg (by omega)]
end
theorem ZZ (k:Int) (h:AA) (hk:1≤k∧k≤54):L1 110 [iv k] h=some (.agg #[.bool (HQ k),.bool (KJ k),.bool (k==27),iv (FT k),iv (CZ k)],h):=
 HD (FE rfl rfl rfl rfl (JD Ju hk))
theorem yZ (k:Int):CZ k≤3:=by unfold CZ;(repeat' split) <;> omega
theorem Tm {call:AS} {n:Nat} {h:AA} {j:Nat}:AY Tryz.prog call n 113 [iv 11,iv j] h=some (iv (BV 11 j),h):=by
 refine CO Tryz.func113 rfl (by simp[Tryz.f113]) ?_
 have hr:Tryz.f113.results.toList=[.tmp 4]:=rfl
 simp only[eE,seval,↓eP,rP,hr]
 rfl
theorem vP (k:Int) (j:Nat) (h:AA) (hk:1≤k∧k≤54) (hj:k=11∨(j:Int)<CZ k):L1 113 [iv k,iv j] h=some (iv (BV k j),h):=by
 refine HD (FE rfl rfl rfl rfl ?_)
 rcases hj with rfl | hj
 ·exact⟨_,Tm⟩
 ·have:=yZ k
  have h3:j=0∨j=1∨j=2:=by omega
  rcases h3 with rfl | rfl | rfl
  ·exact JD Nj hk
  ·exact JD Bv hk
  ·have h15:k≠15:=by
    rintro rfl
    revert hj
    decide
   have:=JD Ki hk
   simp only[if_neg h15] at this
   exact this
theorem XB {l:List AB} {m:Nat} {x:AB} (hx:l[0]?=some x):GT AZ l m=if (CA 8 x.kind&&DR AZ x)=true then EV AZ l m x.kids.toNat false 1 else (0,false):=by
 rw[GT,hx]
theorem bB {l:List AB} {m:Nat} (hx:l[0]?=none):GT AZ l m=(0,false):=by
 rw[GT,hx]
section
variable {call:AS} {n:Nat}
theorem Me (hsn:CK call) {l:List AB} {v:Value} {m at_ a b:Nat} {x:AB} {T:Tr} {h:AA} {k:B_} {ga0 gb0:Bool} (h92:DR AZ x=true→call 112 [v,iv at_] h=some (.tuple #[iv ((EV AZ l m x.kids.toNat false (at_+1)).1:Int),.bool (EV AZ l m x.kids.toNat false (at_+1)).2],h)) (hn:l.length+3<n) (hlen:l.length<1099511627776) (hat:at_<l.length)
  (h91:∀ h',h'.get 0=EA→call 111 [.string x.name] h'=some (.bool (AZ x.name),h'))
  (hv:AQ h v l) (hg:h.get 0=EA) (hn0:0<h.next) (hfl:h.floor≤h.next) (hkind:1≤x.kind∧x.kind≤54) (hk1:x.kind=1)
  (t0:T.get 0=v) (t1:T.get 1=iv at_) (t8:T.get 8=qP a 0) (t9:T.get 9=qP b 0)
  (ga:h.get a=.row [.int .i64 x.kind,.string x.name,.int .i64 x.ends,.int .i64 x.n,.int .i64 x.kids] 60 ga0 false)
  (gb:h.get b=.row [.bool (HQ x.kind),.bool (KJ x.kind),.bool (x.kind==27),.int .i64 (FT x.kind),.int .i64 (CZ x.kind)] 127 gb0 false) (hb:b<h.next)
  (hk:∀ T' (p:Nat) ok,(p,ok)=(if DR AZ x=true then EV AZ l m x.kids.toNat false (at_+1) else (at_,false))→T'.get 6=iv p→T'.get 7=.bool ok→k.ap Tryz.prog call n .ret ⟨T',h⟩) :
  WK Tryz.prog call n TG ⟨T,h⟩ k:=by
 show WK _ _ _ (.seq (.region _ _ true) _) _ _
 rw[KA]
 refine WK.flags (ops:=EP) sS ?_
 refine DN.begin ?_
 refine xK hsn t8 t9 ga gb (by simpa using hb) (fun h' e=>h91 h' (by rw[e];exact hg)) fun T1 e1 k1=>?_
 refine oC hsn (by rw[k1 8 (by decide)];exact t8) (by rw[k1 9 (by decide)];exact t9) ga gb (by simpa using hb) e1 fun T2 e2 k2=>?_
 refine lX hsn (by rw[k2 8 (by decide),k1 8 (by decide)];exact t8) (by rw[k2 9 (by decide),k1 9 (by decide)];exact t9) ga gb (by simpa using hb) e2 fun T3 e3 k3=>?_
 refine DN.done (i:=49) (by kernel_rfl) ?_
 rw[S2]
 have kp:∀ t:Nat,t<10→T3.get t=T.get t:=fun t ht=>by rw[k3 t ht,k2 t (by omega),k1 t (by omega)]
 have u0:=(kp 0 (by decide)).trans t0
 have u1:=(kp 1 (by decide)).trans t1
 have u8:=(kp 8 (by decide)).trans t8
 have u9:=(kp 9 (by decide)).trans t9
 clear k1 k2 k3 kp e1 e2
 generalize hcc:(((AZ x.name==HQ x.kind)&&(HQ x.kind||x.name==⟨#[]⟩))&&(x.ends==0||KJ x.kind&&x.ends==1)&&(x.n==0||(x.kind==27)&&decide (x.n>0)&&decide (x.n≤1073741824)))=cc at e3
 have hfit:DR AZ x=(cc&&decide (x.kids≥FT x.kind)&&(decide (CZ x.kind<0)||decide (x.kids≤CZ x.kind))):=by
  rw[← hcc]
  rfl
 have bad:DR AZ x=false→∀ T',T'.get 6=iv at_→T'.get 7=.bool false→k.ap Tryz.prog call n .ret ⟨T',h⟩:=fun hf T' h6 h7=>hk T' at_ false (by rw[hf];rfl) h6 h7
 have e1:(x.kind==1)=true:=by simpa using hk1
 have hkids:DR AZ x=true→0≤x.kids∧(decide (CZ x.kind<0)||decide (x.kids≤CZ x.kind))=true:=fun hf=>by
  rw[hfit] at hf
  simp only[Bool.and_eq_true,decide_eq_true_eq] at hf
  have:=R5 x.kind
  exact⟨by omega,hf.2⟩
 have main:DR AZ x=true→∀ T',T'.get 0=v→T'.get 1=iv at_→T'.get 8=qP a 0→WK Tryz.prog call n (rt (rt TG)) ⟨T',h⟩ k:=by
  intro hf T' w0 w1 w8
  have h92':=h92 hf
  show WK _ _ _ (.seq _ _) _ _
  simp only[eE,seval,↓eP,rP,w0,w1,w8,ga,e1,h92']
  refine hk _ _ _ (by rw[if_pos hf]) ?_ ?_
  ·simp only[eE,seval,↓eP,rP]
  ·simp only[eE,seval,↓eP,rP]
 show WK _ _ _ (.seq _ (rt (rt TG))) _ _
 cases cc with
 | false=>
  simp only[eE,seval,↓eP,rP,e3,u1]
  refine bad (by rw[hfit];rfl) _ ?_ ?_
  ·simp only[eE,seval,↓eP,rP]
  ·simp only[eE,seval,↓eP,rP]
 | true=>
  cases d1:decide (x.kids<FT x.kind) with
  | true=>
   simp only[eE,seval,↓eP,rP,e3,u1,u8,u9,ga,gb,d1]
   refine bad (by rw[hfit,decide_eq_false (by simp only[decide_eq_true_eq] at d1;omega)];rfl) _ ?_ ?_
   ·simp only[eE,seval,↓eP,rP]
   ·simp only[eE,seval,↓eP,rP]
  | false=>
   have hl:decide (x.kids≥FT x.kind)=true:=by simp only[decide_eq_false_iff_not] at d1;simp only[decide_eq_true_eq];omega
   cases d2:decide (CZ x.kind≥0) with
   | false=>
    have hm:decide (CZ x.kind<0)=true:=by simp only[decide_eq_false_iff_not] at d2;simp only[decide_eq_true_eq];omega
    simp only[eE,seval,↓eP,rP,e3,u8,u9,ga,gb,d1,d2]
    refine main (by rw[hfit,hl,hm];rfl) _ ?_ ?_ ?_
    ·simp only[eE,seval,↓eP,rP,u0]
    ·simp only[eE,seval,↓eP,rP,u1]
    ·simp only[eE,seval,↓eP,rP,u8]
   | true=>
    cases d3:decide (x.kids>CZ x.kind) with
    | true=>
     have hm:decide (CZ x.kind<0)=false:=by simp only[decide_eq_true_eq] at d2;simp only[decide_eq_false_iff_not];omega
     have hm2:decide (x.kids≤CZ x.kind)=false:=by simp only[decide_eq_true_eq] at d3;simp only[decide_eq_false_iff_not];omega
     simp only[eE,seval,↓eP,rP,e3,u1,u8,u9,ga,gb,d1,d2,d3]
     refine bad (by rw[hfit,hl,hm,hm2];rfl) _ ?_ ?_
     ·simp only[eE,seval,↓eP,rP]
     ·simp only[eE,seval,↓eP,rP]
    | false=>
     have hm2:decide (x.kids≤CZ x.kind)=true:=by simp only[decide_eq_false_iff_not] at d3;simp only[decide_eq_true_eq];omega
     simp only[eE,seval,↓eP,rP,e3,u8,u9,ga,gb,d1,d2,d3]
     refine main (by rw[hfit,hl,hm2,Bool.or_true];rfl) _ ?_ ?_ ?_
     ·simp only[eE,seval,↓eP,rP,u0]
     ·simp only[eE,seval,↓eP,rP,u1]
     ·simp only[eE,seval,↓eP,rP,u8]
theorem xQ (hsn:CK call) {l:List AB} {v:Value} {m:Nat} {h:AA} (h92:∀ x h,l[0]?=some x→DR AZ x=true→x.kind=1→AQ h v l→h.get 0=EA→0<h.next→h.floor≤h.next→call 112 [v,iv 0] h=some (.tuple #[iv ((EV AZ l m x.kids.toNat false 1).1:Int),.bool (EV AZ l m x.kids.toNat false 1).2],h)) (hn:l.length+3<n) (hlen:l.length<1099511627776)
  (h89:∀ w k h,call 109 [iv w,iv k] h=some (.bool (CA w k),h))
  (h90':∀ k h,1≤k∧k≤54→call 110 [iv k] h=some (.agg #[.bool (HQ k),.bool (KJ k),.bool (k==27),iv (FT k),iv (CZ k)],h))
  (h91:∀ s h',h'.get 0=EA→call 111 [.string s] h'=some (.bool (AZ s),h'))
  (hv:AQ h v l) (hg:h.get 0=EA) (hn0:0<h.next) (hfl:h.floor≤h.next) :
  ∃ h1,AY Tryz.prog call n 70 [v,iv 0,iv 8] h=some (.tuple #[iv ((GT AZ l m).1:Int),.bool (GT AZ l m).2],h1)∧∀ i,i<h.next→h1.get i=h.get i:=by
 refine DW (R:=fun h1=>∀ i,i<h.next→h1.get i=h.get i) Tryz.func70 rfl (by simp[Tryz.f70]) ?_
 have hr:Tryz.f70.results.toList=[.tmp 6,.tmp 7]:=rfl
 have hl22:∀ h',CY Tryz.prog h' 22 v=some (.int .i64 l.length):=fun h'=>hv.len
 have e00:((0:Nat):Int)=0:=rfl
 cases hx:l[0]? with
 | none=>
  rw[bB hx]
  have hge:l.length≤0:=List.getElem?_eq_none_iff.1 hx
  have c1:decide ((0:Int)≥(l.length:Int))=true:=by simp only[decide_eq_true_eq];omega
  simp only[eE,↓reduceIte,Nat.reduceEqDiff,reduceCtorEq,↓eP,rP,Nat.reduceAdd,Nat.reduceLT,hr,hl22,c1]
  exact⟨rfl,fun i hi=>trivial⟩
 | some x=>
  have hlt:0<l.length:=(List.getElem?_eq_some_iff.1 hx).1
  have c1:decide ((0:Int)≥(l.length:Int))=false:=by simp only[decide_eq_false_iff_not];omega
  obtain⟨id,p,e0,hid,l0,l1,l2,l3,l4,lr⟩:=hv.row hx
  rw[XB hx]
  rw[e00] at e0
  cases hs:CA 8 x.kind with
  | false=>
   simp only[eE,↓reduceIte,Nat.reduceEqDiff,reduceCtorEq,↓eP,rP,Nat.reduceAdd,Nat.reduceLT,hr,hl22,c1,e0,l0,h89,hs,Bool.false_and]
   exact⟨rfl,fun i hi=>trivial⟩
  | true=>
  have hkind:=QZ hs
  have hk1:x.kind=1:=by simpa [CA] using hs
  have h90:=fun h=>h90' x.kind h hkind
  have hidT:(id<h.next)=True:=by simpa using hid
  have hne1:(h.next=h.next+1)=False:=by simp
  have hne2:(h.next+1=h.next)=False:=by simp
  have hfl1:(h.floor≤h.next)=True:=by simpa using hfl
  have hfl2:(h.floor≤h.next+1)=True:=by simp;omega
  have hlt1:(h.next<h.next+1+1)=True:=by simp;omega
  have hlt2:(h.next+1<h.next+1+1)=True:=by simp
  simp only[Bool.true_and]
  simp only[eE,seval,↓eP,rP,hr,hl22,c1,e0,l0,h89,hs]
  refine WK.flags (ops:=kB) vR ?_
  refine DN.begin ?_
  refine AG hsn 0 (some 29) (.move (.tmp 0)) none ?_
  simp only[eE,seval,↓eP,rP,AE,AD,AF,rF]
  refine AG hsn 1 (some 30) (.move (.tmp 1)) none ?_
  simp only[eE,seval,↓eP,rP,AE,AD,AF,rF]
  refine AG hsn 2 (some 31) (.indexAddr 22 (.tmp 29) (.tmp 30)) none ?_
  simp only[eE,seval,↓eP,rP,AE,AD,AF,rF,e0]
  refine AG hsn 3 (some 32) (.load 60 (.tmp 31)) none ?_
  simp only[eE,seval,↓eP,rP,AE,AD,AF,rF,lr,hidT]
  refine AG hsn 4 (some 33) (.move (.tmp 0)) none ?_
  simp only[eE,seval,↓eP,rP,AE,AD,AF,rF]
  refine AG hsn 5 (some 34) (.move (.tmp 1)) none ?_
  simp only[eE,seval,↓eP,rP,AE,AD,AF,rF]
  refine AG hsn 6 (some 35) (.indexAddr 22 (.tmp 33) (.tmp 34)) none ?_
  simp only[eE,seval,↓eP,rP,AE,AD,AF,rF,e0]
  refine AG hsn 7 (some 36) (.fieldAddr 60 (.tmp 35) 0) none ?_
  simp only[eE,seval,↓eP,rP,AE,AD,AF,rF]
  refine AG hsn 8 (some 37) (.load 3 (.tmp 36)) none ?_
  simp only[eE,seval,↓eP,rP,AE,AD,AF,rF,l0,hidT]
  refine AG hsn 9 (some 38) (.call { callee:=.value (.func 110),args:=#[.tmp 37],argTypes:=#[3] }) none ?_
  simp only[eE,seval,↓eP,rP,AE,AD,AF,rF,h90]
  refine AG hsn 10 (some 8) (.alloc 60) none ?_
  simp only[eE,seval,↓eP,rP,AE,AD,AF,rF]
  refine AG hsn 11 (some 9) (.alloc 127) none ?_
  simp only[eE,seval,↓eP,rP,AE,AD,AF,rF]
  refine AG hsn 12 (none) (.store 60 (.tmp 8) (.tmp 32)) none ?_
  simp only[eE,seval,↓eP,rP,AE,AD,AF,rF,hne1,hfl1]
  refine AG hsn 13 (none) (.store 127 (.tmp 9) (.tmp 38)) none ?_
  simp only[eE,seval,↓eP,rP,AE,AD,AF,rF,hne2,hfl2]
  refine DN.done (i:=14) (by kernel_rfl) ?_
  rw[S2]
  have hold:∀ i,i<h.next→((((h.push (.row DS 60 false false)).push (.row [.bool false,.bool false,.bool false,.int .i64 0,.int .i64 0] 127 false false)).put h.next (.row [.int .i64 x.kind,.string x.name,.int .i64 x.ends,.int .i64 x.n,.int .i64 x.kids] 60 false false)).put (h.next+1)
    (.row [.bool (HQ x.kind),.bool (KJ x.kind),.bool (x.kind==27),iv (FT x.kind),iv (CZ x.kind)] 127 false false)).get i=h.get i:=fun i hi=>by
   rw[UH,if_neg (by omega),UH,if_neg (by omega),LF,if_neg (by rw[EQ];omega),LF,if_neg (by omega)]
  refine Me hsn (m:=m) (at_:=0) (l:=l) (v:=v) (fun hf=>h92 x _ hx hf hk1 (hv.mono (by simp only[KN,EQ];omega) hold) (by rw[hold 0 hn0];exact hg) (by simp only[KN,EQ];omega) (by simp only[KN,EQ,NY,JQ];omega)) hn hlen hlt (h91 x.name) (hv.mono (by simp only[KN,EQ];omega) hold) (by rw[hold 0 hn0];exact hg) (by simp only[KN,EQ];omega) (by simp only[KN,EQ,NY,JQ];omega) hkind hk1 (a:=h.next) (b:=h.next+1) (ga0:=false) (gb0:=false) ?_ ?_ ?_ ?_ ?_ ?_ (by simp only[KN,EQ];omega) ?_
  ·simp only[eE,seval,↓eP,rP]
  ·simp only[eE,↓reduceIte,Nat.reduceEqDiff,reduceCtorEq,↓eP,rP,Nat.reduceAdd,Nat.reduceLT]
   rfl
  ·simp only[eE,seval,↓eP,rP]
  ·simp only[eE,seval,↓eP,rP]
  ·simp only[eE,seval,↓eP,rP,hne1,hlt1]
  ·simp only[eE,seval,↓eP,rP,hlt2]
  ·intro T' q ok hq h6 h7
   simp only[eE,seval,↓eP,rP,h6,h7,← hq]
   intro i hi
   rw[if_neg (by omega),if_neg (by omega),if_neg (by omega),if_neg (by omega)]
def UF (ev:Bool):Int:=if ev=true then 1 else 0
theorem xI {l:List AB} {v:Value} {m:Nat} {x:AB} {h:AA} (hx:l[0]?=some x) (hk0:0≤x.kids) (hn:l.length+3<n) (hlen:l.length<1099511627776) (hv:AQ h v l)
  (h89:∀ w k h,call 109 [iv w,iv k] h=some (.bool (CA w k),h))
  (h73:∀ (p:Nat) (w:Int),0<p→p≤l.length→w≠8→call 70 [v,iv p,iv w] h=some (.tuple #[iv ((BW AZ l m p w).1:Int),.bool (BW AZ l m p w).2],h)) :
  AY Tryz.prog call n 112 [v,iv 0] h=some (.tuple #[iv ((EV AZ l m x.kids.toNat false 1).1:Int),.bool (EV AZ l m x.kids.toNat false 1).2],h):=by
 refine CO Tryz.func112 rfl (by simp[Tryz.f112]) ?_
 have hr:Tryz.f112.results.toList=[.tmp 4,.tmp 5]:=rfl
 have hl22:∀ h',CY Tryz.prog h' 22 v=some (.int .i64 l.length):=fun h'=>hv.len
 have hlt0:0<l.length:=(List.getElem?_eq_some_iff.1 hx).1
 obtain⟨id,q,e0',hid,l0,l1,l2,l3,l4,lr⟩:=hv.row hx
 have e0:CB Tryz.prog 22 v (.int .i64 0)=some (qP id q):=e0'
 have w1:IntKind.i64.wrap (0+1)=((1:Nat):Int):=rfl
 simp only[eE,↓reduceIte,Nat.reduceEqDiff,reduceCtorEq,↓eP,rP,Nat.reduceAdd,Nat.reduceLT,hr,w1]
 generalize hg0:EV AZ l m x.kids.toNat false 1=R
 refine WK.loop (fun i s=>s.h=h∧s.T.get 0=v∧s.T.get 1=iv 0∧s.T.get 9=iv i∧∃ p:Nat,∃ ok ev:Bool,s.T.get 6=iv p∧s.T.get 7=.bool ok∧s.T.get 8=iv (UF ev)∧p≤l.length∧0<p∧i≤l.length+1 ∧
  ((ok=true∧i≤x.kids.toNat∧1+i≤p∧EV AZ l m (x.kids.toNat-i) ev p=R)∨(ok=false∧R=(p,false)))) (l.length+2) (by omega) ?_ ?_
 ·simp only[eE,↓reduceIte,Nat.reduceEqDiff,reduceCtorEq,↓eP,rP,Nat.reduceAdd,Nat.reduceLT]
  exact⟨rfl,1,true,false,rfl,rfl,rfl,by omega,by omega,.inl ⟨rfl,by omega,by rw[Nat.sub_zero];exact hg0⟩⟩
 ·rintro i ⟨T1,h1⟩ hi ⟨rfl,y0,y1,y9,p,ok,ev,y6,y7,y8,hp,hp0,hil,hcase⟩
  simp only at y0 y1 y9 y6 y7 y8
  rcases hcase with⟨rfl,hik,hpi,hR⟩ | ⟨rfl,hR⟩
  ·by_cases hlt:i<x.kids.toNat
   ·have c1:decide ((i:Int)<x.kids)=true:=by simp only[decide_eq_true_eq];omega
    have w5:=DF i (by omega)
    have hstep:EV AZ l m (x.kids.toNat-i) ev p=if (BW AZ l m p (HV ev l[p]?)).2=true then EV AZ l m (x.kids.toNat-(i+1)) (ev||NV l[p]?) (BW AZ l m p (HV ev l[p]?)).1 else ((BW AZ l m p (HV ev l[p]?)).1,false):=by
     obtain⟨r,hr⟩:∃ r,x.kids.toNat-i=r+1:=⟨x.kids.toNat-i-1,by omega⟩
     rw[hr,show x.kids.toNat-(i+1)=r by omega]
     rfl
    have hdw:HV ev l[p]?≠8:=by unfold HV;split <;> decide
    have hrow:=h73 p (HV ev l[p]?) hp0 hp hdw
    have hev':HV ev l[p]?=UF (ev||NV l[p]?):=by unfold HV UF;cases ev <;> cases NV l[p]? <;> rfl
    have fin:i<l.length+2∧∃ p1:Nat,∃ ok ev1:Bool,(((BW AZ l m p (HV ev l[p]?)).1:Nat):Int)=(p1:Int)∧Value.bool (BW AZ l m p (HV ev l[p]?)).2=.bool ok∧UF (ev||NV l[p]?)=UF ev1∧p1≤l.length∧0<p1∧i+1≤l.length+1 ∧
       ((ok=true∧i+1≤x.kids.toNat∧1+(i+1)≤p1∧EV AZ l m (x.kids.toNat-(i+1)) ev1 p1=R)∨(ok=false∧R=(p1,false))):=by
     generalize hq:BW AZ l m p (HV ev l[p]?)=Q at *
     have hq1:Q.1≤l.length:=by rw[← hq];exact YE m p _ hp
     have hq0:p≤Q.1:=by rw[← hq];exact R1 m p _
     have hq2:Q.2=true→p<Q.1:=fun h=>by
      have:=S5 (isName:=AZ) (l:=l) m p (HV ev l[p]?)
      rw[hq] at this
      exact(this h).1
     refine⟨by omega,Q.1,Q.2,(ev||NV l[p]?),rfl,rfl,rfl,hq1,by omega,by omega,?_⟩
     cases hb2:Q.2 with
     | true=>
      left
      have:=hq2 hb2
      rw[hb2,if_pos rfl] at hstep
      exact⟨rfl,by omega,by omega,by rw[← hstep];exact hR⟩
     | false=>
      right
      rw[hb2,if_neg (by simp)] at hstep
      exact⟨rfl,by rw[← hR,hstep]⟩
    cases hxp:l[p]? with
    | none=>
     have hge:l.length≤p:=List.getElem?_eq_none_iff.1 hxp
     have c2:decide ((p:Int)<(l.length:Int))=false:=by simp only[decide_eq_false_iff_not];omega
     have hie:NV (none:Option AB)=false:=rfl
     rw[hxp] at hrow fin hev'
     rw[hie,Bool.or_false] at hev' fin
     rw[hev'] at hrow fin
     simp only[eE,↓reduceIte,Nat.reduceEqDiff,reduceCtorEq,↓eP,rP,Nat.reduceAdd,Nat.reduceLT,y0,y1,y9,y6,y7,y8,e0,l4,c1,hl22,c2,hrow,w5]
     exact fin
    | some y=>
     have hlt2:p<l.length:=(List.getElem?_eq_some_iff.1 hxp).1
     have c2:decide ((p:Int)<(l.length:Int))=true:=by simp only[decide_eq_true_eq];omega
     obtain⟨id2,q2,f0,hid2,m0,m1,m2,m3,m4,mr⟩:=hv.row hxp
     have hie:NV (some y)=CA 1 y.kind:=rfl
     rw[hxp] at hrow fin hev'
     rw[hie] at hev' fin
     rw[hev'] at hrow fin
     cases hs:CA 1 y.kind with
     | false=>
      rw[hs,Bool.or_false] at hrow fin
      simp only[eE,↓reduceIte,Nat.reduceEqDiff,reduceCtorEq,↓eP,rP,Nat.reduceAdd,Nat.reduceLT,y0,y1,y9,y6,y7,y8,e0,l4,c1,hl22,c2,f0,m0,h89,hs,hrow,w5]
      exact fin
     | true=>
      have he1:UF true=1:=rfl
      rw[hs,Bool.or_true,he1] at hrow fin
      simp only[eE,↓reduceIte,Nat.reduceEqDiff,reduceCtorEq,↓eP,rP,Nat.reduceAdd,Nat.reduceLT,y0,y1,y9,y6,y7,e0,l4,c1,hl22,c2,f0,m0,h89,hs,hrow,w5]
      exact fin
   ·have c1:decide ((i:Int)<x.kids)=false:=by simp only[decide_eq_false_iff_not];omega
    have hie:x.kids.toNat-i=0:=by omega
    rw[hie] at hR
    have hR':R=(p,true):=by rw[← hR];rfl
    simp only[eE,seval,↓eP,rP,y0,y1,y9,y6,y7,e0,l4,c1,hR']
  ·cases c1:decide ((i:Int)<x.kids) <;> simp only[eE,seval,↓eP,rP,y0,y1,y9,y6,y7,e0,l4,c1,hR]
end
def NR (a b:Int) (k:Nat):Bool:=if b=0 then false else if 1≤a∧a≤5 then (decide (b<a)||(b==a&&((k:Int)==1||a==3))) else if a=6 then decide (b<6) else false
def HF (a b:Int) (k:Nat):Int:=if NR a b k=true then 1 else 0
def JJ (g:Nat→Int × Nat) (l:List AB) (kind:Int):Nat→Nat→Int→Nat→Int × Nat
 | 0,_,most,next=>(most,next)
 | r+1,k,most,next=>match l[next]? with
  | none=>(most,next)
  | some y=>JJ g l kind r (k+1) (if (g next).1+HF (C1 kind) (C1 y.kind) k>most then (g next).1+HF (C1 kind) (C1 y.kind) k else most) (g next).2
def DY (l:List AB):Nat→Nat→Int × Nat
 | 0,at_=>(0,at_)
 | m+1,at_=>match l[at_]? with
  | none=>(0,at_)
  | some x=>((JJ (DY l m) l x.kind x.kids.toNat 0 0 (at_+1)).1+E5 x.kind,(JJ (DY l m) l x.kind x.kids.toNat 0 0 (at_+1)).2)
theorem V4 (k:Int):0≤E5 k∧E5 k≤1:=by unfold E5;split <;> omega
theorem bD (a b:Int) (k:Nat):0≤HF a b k∧HF a b k≤1:=by unfold HF;split <;> omega
theorem nI {g:Nat→Int × Nat} {l:List AB} {kind B:Int} (hg:∀ p,0≤(g p).1∧(g p).1≤B):∀ r k most next,0≤most→most≤B+1→0≤(JJ g l kind r k most next).1∧(JJ g l kind r k most next).1≤B+1:=by
 intro r
 induction r with
 | zero=>intro k most next h0 h1;exact⟨h0,h1⟩
 | succ r ih=>
  intro k most next h0 h1
  unfold JJ
  split
  ·exact⟨h0,h1⟩
  ·rename_i y hy
   have:=hg next
   have:=bD (C1 kind) (C1 y.kind) k
   apply ih <;> split <;> omega
theorem nM {l:List AB}:∀ m at_,0≤(DY l m at_).1∧(DY l m at_).1≤2*(m:Int):=by
 intro m
 induction m with
 | zero=>intro at_;exact⟨Int.le_refl 0,by show (0:Int)≤_;omega⟩
 | succ m ih=>
  intro at_
  unfold DY
  split
  ·exact⟨Int.le_refl 0,by show (0:Int)≤_;omega⟩
  ·rename_i x hx
   have:=nI (g:=DY l m) (l:=l) (kind:=x.kind) (B:=2*(m:Int)) ih x.kids.toNat 0 0 (at_+1) (Int.le_refl 0) (by omega)
   have:=V4 x.kind
   constructor <;> simp only <;> omega
theorem Fp {g:Nat→Int × Nat} {l:List AB} {kind:Int} (hg:∀ p,p<l.length→p≤(g p).2∧(g p).2≤l.length):∀ r k most next,next≤l.length→next≤(JJ g l kind r k most next).2∧(JJ g l kind r k most next).2≤l.length:=by
 intro r
 induction r with
 | zero=>intro k most next h;exact⟨Nat.le_refl _,h⟩
 | succ r ih=>
  intro k most next h
  unfold JJ
  split
  ·exact⟨Nat.le_refl _,h⟩
  ·rename_i y hy
   have hlt:next<l.length:=(List.getElem?_eq_some_iff.1 hy).1
   have h1:=hg next hlt
   have h2:=ih (k+1) (if (g next).1+HF (C1 kind) (C1 y.kind) k>most then (g next).1+HF (C1 kind) (C1 y.kind) k else most) (g next).2 h1.2
   omega
theorem Xe {l:List AB}:∀ m at_,at_<l.length→at_≤(DY l m at_).2∧(DY l m at_).2≤l.length∧(0<m→at_<(DY l m at_).2):=by
 intro m
 induction m with
 | zero=>intro at_ h;exact⟨Nat.le_refl _,by show at_≤_;omega,fun h=>absurd h (by omega)⟩
 | succ m ih=>
  intro at_ h
  unfold DY
  rw[List.getElem?_eq_getElem h]
  have:=Fp (g:=DY l m) (l:=l) (kind:=l[at_].kind) (fun p hp=>⟨(ih p hp).1,(ih p hp).2.1⟩) l[at_].kids.toNat 0 0 (at_+1) h
  simp only
  omega
section
variable {call:AS} {n:Nat} {h:AA}
theorem uP (k:Int) (h:AA) (hk:1≤k∧k≤54):L1 124 [iv k] h=some (iv (E5 k),h):=HD (FE rfl rfl rfl rfl (JD We hk))
theorem Df {P K:Int} {k:Nat} {a b:Int} (ha:call 132 [iv P] h=some (iv a,h)) (hb:call 132 [iv K] h=some (iv b,h)):AY Tryz.prog call n 123 [iv P,iv k,iv K] h=some (.bool (NR a b k),h):=by
 refine CO Tryz.func123 rfl (by simp[Tryz.f123]) ?_
 have hr:Tryz.f123.results.toList=[.tmp 6]:=rfl
 unfold NR
 by_cases b0:b=0
 ·subst b0
  simp only[eE,seval,↓eP,rP,hr,ha,hb]
 have c0:(b==0)=false:=by simpa using b0
 rw[if_neg b0]
 by_cases a15:1≤a∧a≤5
 ·rw[if_pos a15]
  have d1:decide (a≥1)=true:=decide_eq_true a15.1
  have d2:decide (a≤5)=true:=decide_eq_true a15.2
  cases d3:decide (b<a) with
  | true=>simp only[eE,seval,↓eP,rP,hr,ha,hb,c0,d1,d2,d3,Bool.true_or]
  | false=>
   cases d4:(b==a) with
   | false=>simp only[eE,seval,↓eP,rP,hr,ha,hb,c0,d1,d2,d3,d4,Bool.false_or,Bool.false_and]
   | true=>
    cases d5:((k:Int)==1) with
    | true=>simp only[eE,seval,↓eP,rP,hr,ha,hb,c0,d1,d2,d3,d4,d5,Bool.false_or,Bool.true_or]
    | false=>simp only[eE,seval,↓eP,rP,hr,ha,hb,c0,d1,d2,d3,d4,d5,Bool.false_or]
 ·rw[if_neg a15]
  cases d1:decide (a≥1) with
  | false=>
   simp only[decide_eq_false_iff_not] at d1
   have d1':decide (a≥1)=false:=decide_eq_false d1
   have c6:(a==6)=false:=by simp;omega
   rw[if_neg (by omega)]
   simp only[eE,seval,↓eP,rP,hr,ha,hb,c0,d1',c6]
  | true=>
   simp only[decide_eq_true_eq] at d1
   have d1':decide (a≥1)=true:=decide_eq_true d1
   have d2:decide (a≤5)=false:=decide_eq_false (by omega)
   by_cases a6:a=6
   ·subst a6
    simp only[eE,seval,↓eP,rP,hr,ha,hb,c0,d1',d2]
   ·have c6:(a==6)=false:=by simpa using a6
    rw[if_neg a6]
    simp only[eE,seval,↓eP,rP,hr,ha,hb,c0,d1',d2,c6]
noncomputable def kV:Array Oper:=C9 Tryz.f114 6
def Rw:List (Bool × Bool × List Operand):=[A7,A7,A7,A7,A7,AI [.tmp 30],AI [.tmp 30],AI [.tmp 30],AI [.tmp 30],AI [.tmp 30],AI [.tmp 30],AP]
theorem Im:C8 kV=Rw:=by kernel_rfl
theorem kL (hsn:CK call) {l:List AB} {v:Value} {m at_:Nat} (hn:l.length+3<n) (hlen:l.length<1099511627776) (hm:m<1099511627776) (hat:at_<l.length) (hmm:l.length<at_+1+m) (hv:AQ h v l) (hval:∀ (i:Nat) x,l[i]?=some x→1≤x.kind∧x.kind≤54)
  (h108:∀ P K (k:Nat) h,1≤P∧P≤54→1≤K∧K≤54→call 123 [iv P,iv k,iv K] h=some (.bool (NR (C1 P) (C1 K) k),h)) (h109:∀ k h,1≤k∧k≤54→call 124 [iv k] h=some (iv (E5 k),h))
  (h94:∀ p:Nat,at_<p→p<l.length→call 114 [v,iv p] h=some (.tuple #[iv (DY l m p).1,iv ((DY l m p).2:Int)],h)) :
  AY Tryz.prog call n 114 [v,iv at_] h=some (.tuple #[iv (DY l (m+1) at_).1,iv ((DY l (m+1) at_).2:Int)],h):=by
 refine CO Tryz.func114 rfl (by simp[Tryz.f114]) ?_
 have hr:Tryz.f114.results.toList=[.tmp 4,.tmp 5]:=rfl
 have hl22:∀ h',CY Tryz.prog h' 22 v=some (.int .i64 l.length):=fun h'=>hv.len
 obtain⟨x,hx⟩:∃ x,l[at_]?=some x:=⟨_,List.getElem?_eq_getElem hat⟩
 obtain⟨id,q,e0,hid,l0,l1,l2,l3,l4,lr⟩:=hv.row hx
 have hkx:=hval at_ x hx
 have w1:=DF at_ (by omega)
 have hres:DY l (m+1) at_=((JJ (DY l m) l x.kind x.kids.toNat 0 0 (at_+1)).1+E5 x.kind,(JJ (DY l m) l x.kind x.kids.toNat 0 0 (at_+1)).2):=by rw[DY,hx]
 rw[hres]
 have hop:=fun h=>h109 x.kind h hkx
 have hopl:=V4 x.kind
 have hRle:=nI (g:=DY l m) (l:=l) (kind:=x.kind) (B:=2*(m:Int)) (nM m) x.kids.toNat 0 0 (at_+1) (Int.le_refl 0) (by omega)
 simp only[eE,seval,↓eP,rP,hr,w1]
 generalize hg0:JJ (DY l m) l x.kind x.kids.toNat 0 0 (at_+1)=R at *
 refine WK.loop (fun i s=>s.h=h∧s.T.get 0=v∧s.T.get 1=iv at_∧s.T.get 6=iv i∧∃ (most:Int) (p:Nat),s.T.get 4=iv most∧s.T.get 5=iv p∧at_+1+i≤p∧p≤l.length∧0≤most∧most≤2*(m:Int)+1∧i≤x.kids.toNat∧JJ (DY l m) l x.kind (x.kids.toNat-i) i most p=R) (l.length+2) (by omega) ?_ ?_
 ·simp only[eE,↓reduceIte,Nat.reduceEqDiff,reduceCtorEq,↓eP,rP,Nat.reduceAdd,Nat.reduceLT]
  exact⟨rfl,0,at_+1,rfl,rfl,by omega,by omega,by omega,by omega,by rw[Nat.sub_zero];exact hg0⟩
 ·rintro i ⟨T1,h1⟩ hi ⟨rfl,y0,y1,y6,most,p,y4,y5,hip,hp,hm0,hm1,hik,hR⟩
  simp only at y0 y1 y4 y5 y6
  have done:∀ T':Tr,T'.get 4=iv most→T'.get 5=iv p→R=(most,p)→True:=fun _ _ _ _=>trivial
  by_cases hlt:i<x.kids.toNat
  ·have c1:decide ((i:Int)<x.kids)=true:=by simp only[decide_eq_true_eq];omega
   obtain⟨r,hr1⟩:∃ r,x.kids.toNat-i=r+1:=⟨x.kids.toNat-i-1,by omega⟩
   rw[hr1] at hR
   by_cases hpl:p<l.length
   ·have c2:decide ((p:Int)<(l.length:Int))=true:=by simp only[decide_eq_true_eq];omega
    obtain⟨y,hy⟩:∃ y,l[p]?=some y:=⟨_,List.getElem?_eq_getElem hpl⟩
    obtain⟨id2,q2,f0,hid2,m0,m1,m2,m3,m4,mr⟩:=hv.row hy
    have hky:=hval p y hy
    have hL:=fun hh=>h108 x.kind y.kind i hh hkx hky
    have h94':=h94 p (by omega) hpl
    have hle:=nM (l:=l) m p
    have hnx:=Xe (l:=l) m p hpl
    have w5:=DF i (by omega)
    have hloI:=bD (C1 x.kind) (C1 y.kind) i
    have w6:IntKind.i64.wrap ((DY l m p).1+HF (C1 x.kind) (C1 y.kind) i)=(DY l m p).1+HF (C1 x.kind) (C1 y.kind) i:=BT (by omega) (by omega)
    have hstep:JJ (DY l m) l x.kind (x.kids.toNat-(i+1)) (i+1) (if (DY l m p).1+HF (C1 x.kind) (C1 y.kind) i>most then (DY l m p).1+HF (C1 x.kind) (C1 y.kind) i else most) (DY l m p).2=R:=by
     rw[← hR,show x.kids.toNat-(i+1)=r by omega]
     simp only[JJ,hy]
    simp only[eE,seval,↓eP,rP,y0,y1,y4,y5,y6,e0,l0,l4,c1,hl22,c2]
    refine WK.flags (ops:=kV) Im ?_
    refine DN.begin ?_
    refine AG hsn 0 (some 27) (.move (.tmp 0)) none ?_
    simp only[eE,seval,↓eP,rP,AE,AD,AF,rF,y0,y1,y4,y5,y6,e0,l0,f0,m0,hL]
    refine AG hsn 1 (some 28) (.move (.tmp 1)) none ?_
    simp only[eE,seval,↓eP,rP,AE,AD,AF,rF,y0,y1,y4,y5,y6,e0,l0,f0,m0,hL]
    refine AG hsn 2 (some 29) (.indexAddr 22 (.tmp 27) (.tmp 28)) none ?_
    simp only[eE,seval,↓eP,rP,AE,AD,AF,rF,y0,y1,y4,y5,y6,e0,l0,f0,m0,hL]
    refine AG hsn 3 (some 30) (.fieldAddr 60 (.tmp 29) 0) none ?_
    simp only[eE,seval,↓eP,rP,AE,AD,AF,rF,y0,y1,y4,y5,y6,e0,l0,f0,m0,hL]
    refine AG hsn 4 (some 31) (.load 3 (.tmp 30)) none ?_
    simp only[eE,seval,↓eP,rP,AE,AD,AF,rF,y0,y1,y4,y5,y6,e0,l0,f0,m0,hL]
    refine AG hsn 5 (some 32) (.move (.tmp 6)) none ?_
    simp only[eE,seval,↓eP,rP,AE,AD,AF,rF,y0,y1,y4,y5,y6,e0,l0,f0,m0,hL]
    refine AG hsn 6 (some 33) (.move (.tmp 0)) none ?_
    simp only[eE,seval,↓eP,rP,AE,AD,AF,rF,y0,y1,y4,y5,y6,e0,l0,f0,m0,hL]
    refine AG hsn 7 (some 34) (.move (.tmp 5)) none ?_
    simp only[eE,seval,↓eP,rP,AE,AD,AF,rF,y0,y1,y4,y5,y6,e0,l0,f0,m0,hL]
    refine AG hsn 8 (some 35) (.indexAddr 22 (.tmp 33) (.tmp 34)) none ?_
    simp only[eE,seval,↓eP,rP,AE,AD,AF,rF,y0,y1,y4,y5,y6,e0,l0,f0,m0,hL]
    refine AG hsn 9 (some 36) (.fieldAddr 60 (.tmp 35) 0) none ?_
    simp only[eE,seval,↓eP,rP,AE,AD,AF,rF,y0,y1,y4,y5,y6,e0,l0,f0,m0,hL]
    refine AG hsn 10 (some 37) (.load 3 (.tmp 36)) none ?_
    simp only[eE,seval,↓eP,rP,AE,AD,AF,rF,y0,y1,y4,y5,y6,e0,l0,f0,m0,hL]
    refine AG hsn 11 (some 38) (.call { callee:=.value (.func 123),args:=#[.tmp 31,.tmp 32,.tmp 37],argTypes:=#[3,3,3] }) none ?_
    simp only[eE,seval,↓eP,rP,AE,AD,AF,rF,y0,y1,y4,y5,y6,e0,l0,f0,m0,hL]
    refine DN.done (i:=12) (by kernel_rfl) ?_
    cases hlo:NR (C1 x.kind) (C1 y.kind) i with
    | false=>
     have hI:HF (C1 x.kind) (C1 y.kind) i=0:=by unfold HF;rw[hlo];rfl
     rw[hI] at w6 hstep
     simp only[eE,seval,↓eP,rP,y0,y1,y4,y5,y6,h94',w5,w6]
     exact⟨by omega,_,_,rfl,rfl,by omega,by omega,by split <;> omega,by split <;> omega,by omega,hstep⟩
    | true=>
     have hI:HF (C1 x.kind) (C1 y.kind) i=1:=by unfold HF;rw[hlo];rfl
     rw[hI] at w6 hstep
     simp only[eE,seval,↓eP,rP,y0,y1,y4,y5,y6,h94',w5,w6]
     exact⟨by omega,_,_,rfl,rfl,by omega,by omega,by split <;> omega,by split <;> omega,by omega,hstep⟩
   ·have c2:decide ((p:Int)<(l.length:Int))=false:=by simp only[decide_eq_false_iff_not];omega
    have hRe:R=(most,p):=by
     rw[← hR]
     simp only[JJ,List.getElem?_eq_none (Nat.le_of_not_lt hpl)]
    subst hRe
    have w7:IntKind.i64.wrap (most+E5 x.kind)=most+E5 x.kind:=BT (by omega) (by omega)
    simp only[eE,seval,↓eP,rP,hr,y0,y1,y4,y5,y6,e0,l0,l4,c1,hl22,c2,hop,w7]
  ·have c1:decide ((i:Int)<x.kids)=false:=by simp only[decide_eq_false_iff_not];omega
   have hRe:R=(most,p):=by
    rw[← hR,show x.kids.toNat-i=0 by omega]
    rfl
   subst hRe
   have w7:IntKind.i64.wrap (most+E5 x.kind)=most+E5 x.kind:=BT (by omega) (by omega)
   simp only[eE,seval,↓eP,rP,hr,y0,y1,y4,y5,y6,e0,l0,l4,c1,hop,w7]
end
def gK (l:List AB) (i:Nat):Prop:=∃ x,l[i]?=some x∧1≤x.kind∧x.kind≤54
theorem cG {g:Nat→Nat→Nat × Bool} {V:Nat→Prop} (hg:∀ k p,(g k p).2=true→∀ i,p≤i→i<(g k p).1→V i):∀ r k p,(E6 g r k p).2=true→∀ i,p≤i→i<(E6 g r k p).1→V i:=by
 intro r
 induction r with
 | zero=>intro k p _ i h1 h2;exact absurd (show i<p from h2) (by omega)
 | succ r ih=>
  intro k p h i h1 h2
  unfold E6 at h h2
  split at h
  ·rename_i hc
   rw[if_pos hc] at h2
   rcases Nat.lt_or_ge i (g k p).1 with h3 | h3
   ·exact hg k p hc i h1 h3
   ·exact ih _ _ h i h3 h2
  ·cases h
theorem Rk {l:List AB}:∀ m at_ what,(BW AZ l m at_ what).2=true→∀ i,at_≤i→i<(BW AZ l m at_ what).1→gK l i:=by
 intro m
 induction m with
 | zero=>intro at_ what h;cases h
 | succ m ih=>
  intro at_ what
  unfold BW
  cases hx:l[at_]? with
  | none=>intro h;cases h
  | some x=>
   simp only
   split
   ·rename_i hc
    intro h i h1 h2
    rcases Nat.lt_or_ge at_ i with h3 | h3
    ·exact cG (V:=gK l) (fun k p hk i h1 h2=>ih p (BV x.kind k) hk i h1 h2) x.kids.toNat 0 (at_+1) h i h3 h2
    ·have:i=at_:=by omega
     subst this
     exact⟨x,hx,QZ (Bool.and_eq_true_iff.1 hc).1⟩
   ·intro h;cases h
theorem Aw {l:List AB} {m:Nat}:∀ r ev p,(EV AZ l m r ev p).2=true→∀ i,p≤i→i<(EV AZ l m r ev p).1→gK l i:=by
 intro r
 induction r with
 | zero=>intro ev p _ i h1 h2;exact absurd (show i<p from h2) (by omega)
 | succ r ih=>
  intro ev p h i h1 h2
  unfold EV at h h2
  split at h
  ·rename_i hc
   rw[if_pos hc] at h2
   rcases Nat.lt_or_ge i (BW AZ l m p (HV ev l[p]?)).1 with h3 | h3
   ·exact Rk m p _ hc i h1 h3
   ·exact ih _ _ h i h3 h2
  ·cases h
theorem xO {l:List AB} (h:HY AZ l=none):∀ (i:Nat) x,l[i]?=some x→1≤x.kind∧x.kind≤54:=by
 unfold HY at h
 split at h
 ·rename_i hc
  obtain⟨h1,h2⟩:=hc
  intro i x hx
  have hlt:=(List.getElem?_eq_some_iff.1 hx).1
  unfold GT at h1 h2
  cases h0:l[0]? with
  | none=>rw[h0] at h1;cases h1
  | some y=>
   rw[h0] at h1 h2
   simp only at h1 h2
   split at h1
   ·rename_i hc
    rw[if_pos hc] at h2
    rcases Nat.eq_zero_or_pos i with rfl | hp
    ·rw[h0] at hx
     cases hx
     exact QZ (Bool.and_eq_true_iff.1 hc).1
    ·obtain⟨z,hz,hv⟩:=Aw y.kids.toNat false 1 h1 i hp (by omega)
     rw[hx] at hz
     cases hz
     exact hv
   ·cases h1
 ·cases h
theorem ZO {l:List AB} (h:HY AZ l=none):0<l.length:=by
 rcases Nat.eq_zero_or_pos l.length with h0 | h0
 ·have:l=[]:=List.length_eq_zero_iff.1 h0
  subst this
  revert h
  unfold HY GT
  simp
 ·exact h0
theorem JP:BM Tryz.prog 32=some 2:=by kernel_rfl
theorem Lk:FW Tryz.prog 32=some true:=by kernel_rfl
theorem EN:DX Tryz.prog 32=some (.agg #[.int .i64 0,.int .i64 0]):=by kernel_rfl
theorem dX:IC Tryz.prog (match Tryz.prog.underlying 32 with | some (.struct fs)=>fs.toList | _=>[])=some [(0,1),(1,1)]:=by kernel_rfl
abbrev CI (e a:Int):Value:=.agg #[.int .i64 e,.int .i64 a]
theorem EO {e a:Int}:flat (CI e a)=true:=rfl
theorem F8 {e a:Int}:DM Tryz.prog 32 [(0,.int .i64 e),(1,.int .i64 a)]=some (CI e a):=by
 have h:=dX
 rw[Tryz.underlying32] at h
 simp only at h
 simp only[DM,EN,EO,if_true,Tryz.underlying32,h]
 rfl
theorem NB {e:Int}:DM Tryz.prog 32 [(0,.int .i64 e)]=some (CI e 0):=by
 have h:=dX
 rw[Tryz.underlying32] at h
 simp only at h
 simp only[DM,EN,EO,if_true,Tryz.underlying32,h]
 rfl
theorem M2:DM Tryz.prog 32 []=some (CI 0 0):=by
 have h:=dX
 rw[Tryz.underlying32] at h
 simp only at h
 simp only[DM,EN,EO,if_true,Tryz.underlying32,h]
 rfl
noncomputable def aI (h:AA) (id:Nat) (a b:Int):BF→Option AA
 | .row [_,_] ty g false=>if h.floor≤id then some (h.put id (.row [.int .i64 a,.int .i64 b] ty g false)) else none
 | _=>BB Tryz.prog h 32 (qP id 0) (CI a b)
theorem RF {h:AA} {id:Nat} {a b:Int}:BB Tryz.prog h 32 (qP id 0) (CI a b)=aI h id a b (h.get id):=by
 cases hg:h.get id with
 | dead=>rfl
 | map _=>rfl
 | row cs ty g ro=>
  match cs,ro with
  | [c,d],false=>
   simp only[aI]
   split
   ·rename_i hf
    simp[BB,JP,GZ,hg,hf,Go.Sx.lay,Value.cells,one]
   ·rename_i hf
    simp[BB,JP,GZ,hg,hf,Go.Sx.lay,Value.cells,one]
  | [c,d],true=>rfl
  | [],ro=>rfl
  | [c],ro=>rfl
  | c :: d :: e :: l,ro=>rfl
theorem QU {h:AA} {id:Nat} {a b:Int} {x y:Value} {ty:TypeId} {g:Bool}:aI h id a b (.row [x,y] ty g false)=if h.floor≤id then some (h.put id (.row [.int .i64 a,.int .i64 b] ty g false)) else none:=rfl
theorem CR {h:AA} {id off:Nat}:EW Tryz.prog h 32 (qP id off)=A_ 2 off (h.get id):=ND Lk JP
theorem QY {a b:Value} {ty:TypeId} {g ro:Bool}:A_ 2 0 (.row [a,b] ty g ro)=some (.agg #[a,b]):=rfl
theorem pI (k:Int) (h:AA) (hk:1≤k∧k≤54):L0 132 [iv k] h=some (iv (C1 k),h):=FE rfl rfl rfl rfl (JD lN hk)
theorem r_ (P Q:Int) (k:Nat) (h:AA) (hP:1≤P∧P≤54) (hQ:1≤Q∧Q≤54):L1 123 [iv P,iv k,iv Q] h=some (.bool (NR (C1 P) (C1 Q) k),h):=
 FE (GY rfl rfl) rfl rfl rfl ⟨_,Df (F7 (pI P _ hP)) (F7 (pI Q _ hQ))⟩
theorem Se {l:List AB} {m:Nat}:(GT AZ l m).1≤l.length:=by
 unfold GT
 split
 ·exact Nat.zero_le _
 ·rename_i x hx
  have:=(List.getElem?_eq_some_iff.1 hx).1
  split
  ·exact oL _ _ _ this
  ·exact Nat.zero_le _
def BQ (l:List AB):Int × Int:=match HY AZ l with
 | some p=>(23,(p:Int))
 | none=>if (DY l (l.length+1) 0).1>64 then (22,0) else (0,0)
section
variable {call:AS} {n:Nat}
theorem pD {l:List AB} {v:Value} {h:AA} {m:Nat} (hv:AQ h v l) (hpos:0<l.length) (h94:call 114 [v,iv 0] h=some (.tuple #[iv (DY l m 0).1,iv ((DY l m 0).2:Int)],h)) :
  AY Tryz.prog call n 71 [v] h=some (iv (DY l m 0).1,h):=by
 refine CO Tryz.func71 rfl (by simp[Tryz.f71]) ?_
 have hr:Tryz.f71.results.toList=[.tmp 2]:=rfl
 have hl22:∀ h',CY Tryz.prog h' 22 v=some (.int .i64 l.length):=fun h'=>hv.len
 have c0:((l.length:Int)==0)=false:=by rw[beq_eq_false_iff_ne];omega
 simp only[eE,seval,↓eP,rP,hr,hl22,c0,h94]
theorem pO {l:List AB} {v:Value} {h:AA} (hv:AQ h v l) (hg:h.get 0=EA) (hn0:0<h.next) (hfl:h.floor≤h.next)
  (h73:∀ h',AQ h' v l→h'.get 0=EA→0<h'.next→h'.floor≤h'.next→call 70 [v,iv 0,iv 8] h'=some (.tuple #[iv ((GT AZ l (l.length+1)).1:Int),.bool (GT AZ l (l.length+1)).2],h'))
  (h74:HY AZ l=none→∀ h',AQ h' v l→call 71 [v] h'=some (iv (DY l (l.length+1) 0).1,h')) :
  ∃ h1,AY Tryz.prog call n 48 [v] h=some (CI (BQ l).1 (BQ l).2,h1)∧∀ i,i<h.next→h1.get i=h.get i:=by
 refine DW (R:=fun h1=>∀ i,i<h.next→h1.get i=h.get i) Tryz.func48 rfl (by simp[Tryz.f48]) ?_
 have hr:Tryz.f48.results.toList=[.cell 2 32]:=rfl
 have hl22:∀ h',CY Tryz.prog h' 22 v=some (.int .i64 l.length):=fun h'=>hv.len
 have hold:∀ o:BF,∀ i,i<h.next→(h.push o).get i=h.get i:=fun o i hi=>AU hi
 have hvp:=hv.mono (h':=h.push (.row [.int .i64 0,.int .i64 0] 32 false false)) (by show h.next≤h.next+1;omega) (hold _)
 have h73':=h73 _ hvp (by rw[hold _ 0 hn0];exact hg) (by show 0<h.next+1;omega) (by show h.floor≤h.next+1;omega)
 have hflT:(h.floor≤h.next)=True:=by simpa using hfl
 have hltT:(h.next<h.next+1)=True:=by simp
 have hvq:=fun o=>(hvp.mono (h':=(h.push (.row [.int .i64 0,.int .i64 0] 32 false false)).put h.next o) (by show h.next+1≤h.next+1;omega))
 have hle:=Se (l:=l) (m:=l.length+1)
 unfold BQ
 cases hs:HY AZ l with
 | some p=>
  unfold HY at hs
  split at hs
  ·cases hs
  ·rename_i hc
   generalize GT AZ l (l.length+1)=q at *
   cases hs
   cases q2:q.2 with
   | false=>
    rw[q2] at h73'
    simp only[eE,seval,↓eP,rP,hr,RS,EN,EO,h73',F8,RF,QU,CR,QY,hflT,hltT]
    intro i hi
    rw[if_neg (by omega),if_neg (by omega)]
   | true=>
    rw[q2] at h73' hc
    have c1:decide ((q.1:Int)<(l.length:Int))=true:=by
     simp only[decide_eq_true_eq]
     have:q.1≠l.length:=fun h=>hc ⟨rfl,h⟩
     omega
    simp only[eE,seval,↓eP,rP,hr,hl22,c1,RS,EN,EO,h73',F8,RF,QU,CR,QY,hflT,hltT]
    intro i hi
    rw[if_neg (by omega),if_neg (by omega)]
 | none=>
  have h74':=h74 hs _ hvp
  unfold HY at hs
  split at hs
  ·rename_i hc
   generalize GT AZ l (l.length+1)=q at *
   obtain⟨q2,q1⟩:=hc
   rw[q2] at h73'
   have c1:decide ((q.1:Int)<(l.length:Int))=false:=by simp only[decide_eq_false_iff_not];omega
   cases c2:decide ((DY l (l.length+1) 0).1>64) with
   | true=>
    rw[if_pos (by simpa using c2)]
    simp only[eE,seval,↓eP,rP,hr,hl22,c1,c2,RS,EN,EO,h73',h74',NB,RF,QU,CR,QY,hflT,hltT]
    intro i hi
    rw[if_neg (by omega),if_neg (by omega)]
   | false=>
    rw[if_neg (by simpa using c2)]
    simp only[eE,seval,↓eP,rP,hr,hl22,c1,c2,RS,EN,EO,h73',h74',M2,RF,QU,CR,QY,hflT,hltT]
    intro i hi
    rw[if_neg (by omega),if_neg (by omega)]
  ·cases hs
end
def EK (l:List AB) (at_ q:Nat):Prop:=(∃ m what,BW AZ l m at_ what=(q,true))∨(at_=0∧∃ m,GT AZ l m=(q,true))
def EY (l:List AB):Nat→Nat→Nat→Prop
 | 0,p,q=>p=q
 | r+1,p,q=>∃ p',EK l p p'∧p<p'∧p'≤l.length∧EY l r p' q
theorem xW {l:List AB} {m:Nat} {κ:Int}:∀ r k p q,E6 (fun k next=>BW AZ l m next (BV κ k)) r k p=(q,true)→EY l r p q:=by
 intro r
 induction r with
 | zero=>intro k p q h;exact congrArg (·.1) h
 | succ r ih=>
  intro k p q h
  unfold E6 at h
  split at h
  ·rename_i hc
   have hle:=S5 (isName:=AZ) (l:=l) m p (BV κ k) hc
   refine⟨(BW AZ l m p (BV κ k)).1,.inl ⟨m,BV κ k,Prod.ext rfl hc⟩,hle.1,hle.2,ih _ _ _ h⟩
  ·cases h
theorem Fo {l:List AB} {m:Nat}:∀ r ev p q,EV AZ l m r ev p=(q,true)→EY l r p q:=by
 intro r
 induction r with
 | zero=>intro ev p q h;exact congrArg (·.1) h
 | succ r ih=>
  intro ev p q h
  unfold EV at h
  split at h
  ·rename_i hc
   have hle:=S5 (isName:=AZ) (l:=l) m p (HV ev l[p]?) hc
   exact⟨(BW AZ l m p (HV ev l[p]?)).1,.inl ⟨m,_,Prod.ext rfl hc⟩,hle.1,hle.2,ih _ _ _ h⟩
  ·cases h
theorem HJ {l:List AB}:∀ r p q,EY l r p q→p+r≤q:=by
 intro r
 induction r with
 | zero=>intro p q h;have:p=q:=h;omega
 | succ r ih=>intro p q ⟨p',_,h1,_,h2⟩;have:=ih _ _ h2;omega
theorem Rg {l:List AB}:∀ r p q,p≤l.length→EY l r p q→q≤l.length:=by
 intro r
 induction r with
 | zero=>intro p q hp h;have:p=q:=h;omega
 | succ r ih=>intro p q hp ⟨p',_,h1,h3,h2⟩;exact ih _ _ h3 h2
theorem EK.kids {l:List AB} {at_ q:Nat} (h:EK l at_ q):∃ x,l[at_]?=some x∧0≤x.kids∧(1≤x.kind∧x.kind≤54)∧EY l x.kids.toNat (at_+1) q:=by
 have kids0:∀ x,DR AZ x=true→0≤x.kids:=fun x hf=>by
  unfold DR at hf
  simp only[Bool.and_eq_true,decide_eq_true_eq] at hf
  have:=R5 x.kind
  omega
 rcases h with⟨m,what,h⟩ | ⟨rfl,m,h⟩
 ·cases m with
  | zero=>cases h
  | succ m=>
   cases hx:l[at_]? with
   | none=>rw[jM hx] at h;cases h
   | some x=>
    rw[YA hx] at h
    split at h
    ·rename_i hc
     simp only[Bool.and_eq_true] at hc
     exact⟨x,rfl,kids0 x hc.2,QZ hc.1,xW _ _ _ _ h⟩
    ·cases h
 ·cases hx:l[0]? with
  | none=>rw[bB hx] at h;cases h
  | some x=>
   rw[XB hx] at h
   split at h
   ·rename_i hc
    simp only[Bool.and_eq_true] at hc
    exact⟨x,rfl,kids0 x hc.2,QZ hc.1,Fo _ _ _ _ h⟩
   ·cases h
theorem EK.lt {l:List AB} {at_ q:Nat} (h:EK l at_ q):at_<q∧q≤l.length:=by
 obtain⟨x,hx,_,_,hc⟩:=h.kids
 have hlt:=(List.getElem?_eq_some_iff.1 hx).1
 have:=HJ _ _ _ hc
 exact⟨by omega,Rg _ _ _ hlt hc⟩
theorem EK.unique {l:List AB}:∀ (n at_:Nat) {q q':Nat},l.length≤at_+n→EK l at_ q→EK l at_ q'→q=q':=by
 intro n
 induction n with
 | zero=>intro at_ q q' hn h h';have:=h.lt;omega
 | succ n ih=>
  intro at_ q q' hn h h'
  obtain⟨x,hx,_,_,hc⟩:=h.kids
  obtain⟨y,hy,_,_,hc'⟩:=h'.kids
  rw[hx] at hy
  cases hy
  have key:∀ r p a b,at_<p→EY l r p a→EY l r p b→a=b:=by
   intro r
   induction r with
   | zero=>intro p a b _ h1 h2;exact(show p=a from h1).symm.trans (show p=b from h2)
   | succ r ihr=>
    intro p a b hp ⟨p1,s1,_,_,c1⟩ ⟨p2,s2,_,_,c2⟩
    have:p1=p2:=ih p (by omega) s1 s2
    subst this
    have:=s1.lt
    exact ihr p1 a b (by omega) c1 c2
  exact key _ _ _ _ (by omega) hc hc'
theorem EK.cover {l:List AB}:∀ (n:Nat) {at_ q:Nat},q≤at_+n→EK l at_ q→∀ i,at_≤i→i<q→∃ qi,EK l i qi∧qi≤q:=by
 intro n
 induction n with
 | zero=>intro at_ q hn h;have:=h.lt;omega
 | succ n ih=>
  intro at_ q hn h i h1 h2
  rcases Nat.eq_or_lt_of_le h1 with rfl | h3
  ·exact⟨q,h,Nat.le_refl q⟩
  ·obtain⟨x,hx,_,_,hc⟩:=h.kids
   have key:∀ r p,at_<p→p≤i→EY l r p q→∃ qi,EK l i qi∧qi≤q:=by
    intro r
    induction r with
    | zero=>intro p _ hp hc;have:p=q:=hc;omega
    | succ r ihr=>
     intro p hp0 hp ⟨p',s,hlt,_,c⟩
     have hpq:=HJ _ _ _ c
     rcases Nat.lt_or_ge i p' with h4 | h4
     ·obtain⟨qi,s1,s2⟩:=ih (by omega) s i hp h4
      exact⟨qi,s1,by omega⟩
     ·exact ihr p' (by omega) h4 c
   exact key _ _ (by omega) h3 hc
def CU (l:List AB):Prop:=EK l 0 l.length
theorem XC {l:List AB} (h:HY AZ l=none):CU l:=by
 unfold HY at h
 split at h
 ·rename_i hc
  exact .inr ⟨rfl,l.length+1,Prod.ext hc.2 hc.1⟩
 ·cases h
theorem CU.pos {l:List AB} (h:CU l):0<l.length:=h.lt.1
theorem CU.sub {l:List AB} (h:CU l) {i:Nat} (hi:i<l.length):∃ q,EK l i q:=by
 obtain⟨q,hq,_⟩:=EK.cover l.length (by omega) h i (Nat.zero_le i) hi
 exact⟨q,hq⟩
open Classical in
noncomputable def AC (l:List AB) (i:Nat):Nat:=if h:∃ q,EK l i q then h.choose else 0
theorem IY {l:List AB} {i q:Nat} (h:EK l i q):AC l i=q:=by
 unfold AC
 have hx:∃ q,EK l i q:=⟨q,h⟩
 rw[dif_pos hx]
 exact EK.unique l.length i (by omega) hx.choose_spec h
theorem CU.end {l:List AB} (h:CU l) {i:Nat} (hi:i<l.length):EK l i (AC l i):=by
 obtain⟨q,hq⟩:=h.sub hi
 rw[IY hq]
 exact hq
noncomputable def AX (l:List AB):List Int:=(List.range l.length).map fun i=>(AC l i:Int)
theorem N_ {l:List AB} {i:Nat} (hi:i<l.length):(AX l)[i]?=some (AC l i:Int):=by simp[AX,hi]
theorem PR {l:List AB}:(AX l).length=l.length:=by simp[AX]
def ints (l:List Int):List Value:=l.map (.int .i64 ·)
theorem YH (l:List Int) (i:Nat):(ints l)[i]?=(l[i]?).map (.int .i64 ·):=by simp[ints]
theorem F9 (l:List Int):(ints l).length=l.length:=by simp[ints]
theorem QK (l:List Int):(ints l).all one=true:=by simp[ints,one]
theorem WV (l:List Int) (i:Nat) (x:Int):(ints l).set i (.int .i64 x)=ints (l.set i x):=by simp[ints,List.map_set]
theorem LS:HC Tryz.prog 3=some 8:=by kernel_rfl
theorem JK:DX Tryz.prog 3=some (.int .i64 0):=by kernel_rfl
theorem RY:∀ n,B0 [Value.int .i64 0] n=ints (List.replicate n 0)
 | 0=>rfl
 | n+1=>by rw[B0,RY n];simp[ints,List.replicate_succ]
theorem R9 {h:AA} {n:Nat} (hn:n<1099511627776):HP Tryz.prog h 25 (.int .i64 (n:Int)) (.int .i64 (n:Int))=some (qS h.next n n,h.push (.row (ints (List.replicate n 0)) 3 false false)):=by
 have hz:(Value.int .i64 0).cells=#[.int .i64 0]:=rfl
 simp only[HP,Tryz.underlying25,C7,JK,LS,hz,Y_]
 rw[if_pos (by simp;omega)]
 simp[RY]
theorem EG {id n c i:Nat} (hi:i<n):CB Tryz.prog 25 (qS id n c) (.int .i64 (i:Int))=some (qP id i):=by
 simp only[CB,Tryz.underlying25,C7,CN]
 rw[if_pos (by omega)]
 simp
theorem IF {l:List Int} {i:Nat} {x:Int} {ty:TypeId} {g ro:Bool} (hx:l[i]?=some x):AH i (.row (ints l) ty g ro)=some (.int .i64 x):=by
 simp[AH,YH,hx]
theorem bK {cs:List Value} {off:Nat} {v:Value} (h:off<cs.length):Go.Sx.lay cs off [v]=cs.set off v:=by
 apply List.ext_getElem?
 intro k
 rw[TB (by simp;omega),List.getElem?_set]
 by_cases hk:off=k
 ·subst hk
  simp[h]
 ·rw[if_neg (by simp;omega),if_neg hk]
theorem KZ {h:AA} {id i:Nat} {l:List Int} {x:Int} {ty:TypeId} {g:Bool} (hg:h.get id=.row (ints l) ty g false) (hi:i<l.length) (hf:h.floor≤id):BB Tryz.prog h 3 (qP id i) (.int .i64 x)=some (h.put id (.row (ints (l.set i x)) ty g false)):=by
 have hc:(Value.int .i64 x).cells=#[.int .i64 x]:=rfl
 simp only[BB,hc,C7,GZ,hg]
 have hsz:(some 1:Option Nat)=some (#[Value.int .i64 x]:Array Value).size:=rfl
 rw[if_pos hsz,if_pos (by simp[one,F9];omega),bK (by rw[F9];exact hi),WV]
def KY (L l:List AB):Prop:=L.length=l.length∧∀ (i:Nat) x,l[i]?=some x→∃ y,L[i]?=some y∧y.kids=x.kids
theorem qL (l:List AB):KY l l:=⟨rfl,fun i x h=>⟨x,h,rfl⟩⟩
section
variable {call:AS} {n:Nat}
theorem kH {l L:List AB} {v:Value} {h:AA} (ht:CU l) (hsk:KY L l) (hv:AQ h v L) (hlen:l.length<1099511627776) (hn:l.length+3<n) (hfl:h.floor≤h.next) :
  ∃ h',AY Tryz.prog call n 50 [v] h=some (qS h.next l.length l.length,h')∧(h'.get h.next=.row (ints (AX l)) 3 false false∧h'.next=h.next+1∧h'.floor=h.floor∧∀ i,i<h.next→h'.get i=h.get i):=by
 refine DW (R:=fun h'=>h'.get h.next=.row (ints (AX l)) 3 false false∧h'.next=h.next+1∧h'.floor=h.floor∧∀ i,i<h.next→h'.get i=h.get i) Tryz.func50 rfl (by simp[Tryz.f50]) ?_
 have hr:Tryz.f50.results.toList=[.tmp 2]:=rfl
 have hl22:∀ h',CY Tryz.prog h' 22 v=some (.int .i64 l.length):=fun h'=>by rw[← hsk.1];exact hv.len
 have hpos:=ht.pos
 have w0:IntKind.i64.wrap ((l.length:Int)-1)=(l.length:Int)-1:=BT (by omega) (by omega)
 simp only[eE,seval,↓eP,rP,hr,hl22,R9 hlen,w0]
 refine WK.loop (fun j s=>s.T.get 0=v∧s.T.get 3=qS h.next l.length l.length∧s.T.get 4=iv ((l.length:Int)-1-(j:Int))∧s.h.next=h.next+1∧s.h.floor=h.floor∧(∀ i,i<h.next→s.h.get i=h.get i) ∧
  ∃ E:List Int,E.length=l.length∧s.h.get h.next=.row (ints E) 3 false false∧∀ i,l.length-j≤i→i<l.length→E[i]?=some (AC l i:Int)) l.length (by omega) ?_ ?_
 ·simp only[eE,seval,↓eP,rP]
  refine⟨by omega,fun i hi=>by rw[if_neg (by omega)],List.replicate l.length 0,by simp,rfl,fun i h1 h2=>by omega⟩
 ·rintro j ⟨T1,h1⟩ hj ⟨t0,t3,t4,hnx,hf1,hold,E,hE,hgE,hEv⟩
  simp only at t0 t3 t4 hnx hf1 hold hgE
  by_cases hlt:j<l.length
  ·obtain⟨at_,hat⟩:∃ a:Nat,(l.length:Int)-1-(j:Int)=(a:Int):=⟨l.length-1-j,by omega⟩
   have hatl:at_<l.length:=by omega
   rw[hat] at t4
   have c1:decide ((at_:Int)≥0)=true:=by simp
   have w1:=DF at_ (by omega)
   have w2:IntKind.i64.wrap ((at_:Int)-1)=(l.length:Int)-1-((j+1:Nat):Int):=by rw[BT (by omega) (by omega)];omega
   have hsub:=ht.end hatl
   obtain⟨x,hx,hk0,hkk,hchain⟩:=hsub.kids
   have hv1:AQ h1 v L:=hv.mono (by omega) hold
   obtain⟨y,hy,hyk⟩:=hsk.2 at_ x hx
   obtain⟨id,q,e0,hid,l0,l1,l2,l3,l4,lr⟩:=hv1.row hy
   rw[hyk] at l4
   have hcl:=HJ _ _ _ hchain
   have hel:=hsub.lt
   simp only[eE,seval,↓eP,rP,t0,t3,t4,c1,w1,e0,l4]
   refine WK.loop (fun k s=>s.h=h1∧s.T.get 0=v∧s.T.get 3=qS h.next l.length l.length∧s.T.get 4=iv at_∧s.T.get 23=iv k∧s.T.get 22=.int .i64 x.kids∧∃ p:Nat,s.T.get 5=iv p∧at_<p∧k≤x.kids.toNat∧EY l (x.kids.toNat-k) p (AC l at_)) x.kids.toNat (by omega) ?_ ?_
   ·simp only[eE,↓reduceIte,Nat.reduceEqDiff,reduceCtorEq,↓eP,rP,Nat.reduceAdd,Nat.reduceLT,t0,t3,t4]
    refine⟨rfl,at_+1,rfl,by omega,by rw[Nat.sub_zero];exact hchain⟩
   ·rintro k ⟨T2,h2⟩ hk ⟨rfl,u0,u3,u4,u23,u22,p,u5,hp,hkk2,hch⟩
    simp only at u0 u3 u4 u23 u22 u5
    by_cases hlt2:k<x.kids.toNat
    ·have c2:decide ((k:Int)<x.kids)=true:=by simp only[decide_eq_true_eq];omega
     obtain⟨r,hr1⟩:∃ r,x.kids.toNat-k=r+1:=⟨x.kids.toNat-k-1,by omega⟩
     rw[hr1] at hch
     obtain⟨p',s1,s2,s3,s4⟩:=hch
     have hEp:=hEv p (by omega) (by omega)
     rw[IY s1] at hEp
     have w5:=DF k (by omega)
     simp only[eE,seval,↓eP,rP,u0,u3,u4,u23,u22,u5,c2,EG (show p<l.length by omega),hgE,IF hEp,w5]
     exact⟨hlt2,p',rfl,by omega,by omega,by rw[show x.kids.toNat-(k+1)=r by omega];exact s4⟩
    ·have c2:decide ((k:Int)<x.kids)=false:=by simp only[decide_eq_false_iff_not];omega
     rw[show x.kids.toNat-k=0 by omega] at hch
     have hpe:p=AC l at_:=hch
     have hst:=KZ (x:=(p:Int)) hgE (show at_<E.length by omega) (by rw[hf1];exact hfl)
     have hnx':h2.next=h.next+1:=hnx
     have hltT:(h.next<h2.next)=True:=by rw[hnx'];simp
     simp only[eE,seval,↓eP,rP,u0,u3,u4,u23,u22,u5,c2,EG hatl,hst,w2,hltT]
     refine⟨hlt,hnx,hf1,fun i hi=>by rw[if_neg (by omega)];exact hold i hi,E.set at_ (p:Int),by rw[List.length_set];exact hE,rfl,fun i h1 h2=>?_⟩
     rw[List.getElem?_set]
     by_cases hia:at_=i
     ·subst hia
      rw[if_pos rfl,if_pos (by omega),hpe]
     ·rw[if_neg hia]
      exact hEv i (by omega) h2
  ·have c1:decide ((l.length:Int)-1-(j:Int)≥0)=false:=by simp only[decide_eq_false_iff_not];omega
   have hEe:E=AX l:=by
    apply List.ext_getElem?
    intro i
    by_cases hi:i<l.length
    ·rw[hEv i (by omega) hi,N_ hi]
    ·rw[List.getElem?_eq_none (by omega),List.getElem?_eq_none (by rw[PR];omega)]
   subst hEe
   simp only[eE,seval,↓eP,rP,hr,t0,t3,t4,c1]
   exact⟨hgE,hnx,hf1,hold⟩
theorem oN {l L:List AB} {v:Value} {h:AA} (ht:CU l) (hsk:KY L l) (hv:AQ h v L) (hlen:l.length<1099511627776) (hn:l.length+3<n) (hfl:h.floor≤h.next) :
  ∃ h',AY Tryz.prog call n 79 [v] h=some (qS h.next l.length l.length,h')∧(h'.get h.next=.row (ints (AX l)) 3 false false∧h'.next=h.next+1∧h'.floor=h.floor∧∀ i,i<h.next→h'.get i=h.get i):=by
 refine DW (R:=fun h'=>h'.get h.next=.row (ints (AX l)) 3 false false∧h'.next=h.next+1∧h'.floor=h.floor∧∀ i,i<h.next→h'.get i=h.get i) Tryz.func79 rfl (by simp[Tryz.f79]) ?_
 have hr:Tryz.f79.results.toList=[.tmp 2]:=rfl
 have hl22:∀ h',CY Tryz.prog h' 22 v=some (.int .i64 l.length):=fun h'=>by rw[← hsk.1];exact hv.len
 have hpos:=ht.pos
 have w0:IntKind.i64.wrap ((l.length:Int)-1)=(l.length:Int)-1:=BT (by omega) (by omega)
 simp only[eE,seval,↓eP,rP,hr,hl22,R9 hlen,w0]
 refine WK.loop (fun j s=>s.T.get 0=v∧s.T.get 3=qS h.next l.length l.length∧s.T.get 4=iv ((l.length:Int)-1-(j:Int))∧s.h.next=h.next+1∧s.h.floor=h.floor∧(∀ i,i<h.next→s.h.get i=h.get i) ∧
  ∃ E:List Int,E.length=l.length∧s.h.get h.next=.row (ints E) 3 false false∧∀ i,l.length-j≤i→i<l.length→E[i]?=some (AC l i:Int)) l.length (by omega) ?_ ?_
 ·simp only[eE,seval,↓eP,rP]
  refine⟨by omega,fun i hi=>by rw[if_neg (by omega)],List.replicate l.length 0,by simp,rfl,fun i h1 h2=>by omega⟩
 ·rintro j ⟨T1,h1⟩ hj ⟨t0,t3,t4,hnx,hf1,hold,E,hE,hgE,hEv⟩
  simp only at t0 t3 t4 hnx hf1 hold hgE
  by_cases hlt:j<l.length
  ·obtain⟨at_,hat⟩:∃ a:Nat,(l.length:Int)-1-(j:Int)=(a:Int):=⟨l.length-1-j,by omega⟩
   have hatl:at_<l.length:=by omega
   rw[hat] at t4
   have c1:decide ((at_:Int)≥0)=true:=by simp
   have w1:=DF at_ (by omega)
   have w2:IntKind.i64.wrap ((at_:Int)-1)=(l.length:Int)-1-((j+1:Nat):Int):=by rw[BT (by omega) (by omega)];omega
   have hsub:=ht.end hatl
   obtain⟨x,hx,hk0,hkk,hchain⟩:=hsub.kids
   have hv1:AQ h1 v L:=hv.mono (by omega) hold
   obtain⟨y,hy,hyk⟩:=hsk.2 at_ x hx
   obtain⟨id,q,e0,hid,l0,l1,l2,l3,l4,lr⟩:=hv1.row hy
   rw[hyk] at l4
   have hcl:=HJ _ _ _ hchain
   have hel:=hsub.lt
   simp only[eE,↓reduceIte,Nat.reduceEqDiff,reduceCtorEq,↓eP,rP,Nat.reduceAdd,Nat.reduceLT,t0,t3,t4,c1,w1,e0,l4]
   refine WK.loop (fun k s=>s.h=h1∧s.T.get 0=v∧s.T.get 3=qS h.next l.length l.length∧s.T.get 4=iv at_∧s.T.get 6=iv k∧∃ p:Nat,s.T.get 5=iv p∧at_<p∧k≤x.kids.toNat∧EY l (x.kids.toNat-k) p (AC l at_)) x.kids.toNat (by omega) ?_ ?_
   ·simp only[eE,↓reduceIte,Nat.reduceEqDiff,reduceCtorEq,↓eP,rP,Nat.reduceAdd,Nat.reduceLT,t0,t3,t4]
    refine⟨rfl,at_+1,rfl,by omega,by rw[Nat.sub_zero];exact hchain⟩
   ·rintro k ⟨T2,h2⟩ hk ⟨rfl,u0,u3,u4,u6,p,u5,hp,hkk2,hch⟩
    simp only at u0 u3 u4 u6 u5
    by_cases hlt2:k<x.kids.toNat
    ·have c2:decide ((k:Int)<x.kids)=true:=by simp only[decide_eq_true_eq];omega
     obtain⟨r,hr1⟩:∃ r,x.kids.toNat-k=r+1:=⟨x.kids.toNat-k-1,by omega⟩
     rw[hr1] at hch
     obtain⟨p',s1,s2,s3,s4⟩:=hch
     have hEp:=hEv p (by omega) (by omega)
     rw[IY s1] at hEp
     have w5:=DF k (by omega)
     simp only[eE,seval,↓eP,rP,u0,u3,u4,u6,u5,c2,e0,l4,EG (show p<l.length by omega),hgE,IF hEp,w5]
     exact⟨hlt2,p',rfl,by omega,by omega,by rw[show x.kids.toNat-(k+1)=r by omega];exact s4⟩
    ·have c2:decide ((k:Int)<x.kids)=false:=by simp only[decide_eq_false_iff_not];omega
     rw[show x.kids.toNat-k=0 by omega] at hch
     have hpe:p=AC l at_:=hch
     have hst:=KZ (x:=(p:Int)) hgE (show at_<E.length by omega) (by rw[hf1];exact hfl)
     have hnx':h2.next=h.next+1:=hnx
     have hltT:(h.next<h2.next)=True:=by rw[hnx'];simp
     simp only[eE,seval,↓eP,rP,u0,u3,u4,u6,u5,c2,e0,l4,EG hatl,hst,w2,hltT]
     refine⟨hlt,hnx,hf1,fun i hi=>by rw[if_neg (by omega)];exact hold i hi,E.set at_ (p:Int),by rw[List.length_set];exact hE,rfl,fun i h1 h2=>?_⟩
     rw[List.getElem?_set]
     by_cases hia:at_=i
     ·subst hia
      rw[if_pos rfl,if_pos (by omega),hpe]
     ·rw[if_neg hia]
      exact hEv i (by omega) h2
  ·have c1:decide ((l.length:Int)-1-(j:Int)≥0)=false:=by simp only[decide_eq_false_iff_not];omega
   have hEe:E=AX l:=by
    apply List.ext_getElem?
    intro i
    by_cases hi:i<l.length
    ·rw[hEv i (by omega) hi,N_ hi]
    ·rw[List.getElem?_eq_none (by omega),List.getElem?_eq_none (by rw[PR];omega)]
   subst hEe
   simp only[eE,seval,↓eP,rP,hr,t0,t3,t4,c1]
   exact⟨hgE,hnx,hf1,hold⟩
theorem Qs {l:List AB} {v:Value} {h:AA} (ht:CU l) (hv:AQ h v l) (hlen:l.length<1099511627776) (hn:l.length+3<n) (hfl:h.floor≤h.next) :
  ∃ h',AY Tryz.prog call n 50 [v] h=some (qS h.next l.length l.length,h')∧(h'.get h.next=.row (ints (AX l)) 3 false false∧h'.next=h.next+1∧h'.floor=h.floor∧∀ i,i<h.next→h'.get i=h.get i):=kH ht (qL l) hv hlen hn hfl
theorem Qa {l:List AB} {v:Value} {h:AA} (ht:CU l) (hv:AQ h v l) (hlen:l.length<1099511627776) (hn:l.length+3<n) (hfl:h.floor≤h.next) :
  ∃ h',AY Tryz.prog call n 79 [v] h=some (qS h.next l.length l.length,h')∧(h'.get h.next=.row (ints (AX l)) 3 false false∧h'.next=h.next+1∧h'.floor=h.floor∧∀ i,i<h.next→h'.get i=h.get i):=oN ht (qL l) hv hlen hn hfl
end
theorem VG {l:List AB}:∀ k a b c,EY l k a b→EK l b c→EY l (k+1) a c
 | 0,a,b,c,h,hs=>by
  have:a=b:=h
  subst this
  exact⟨c,hs,hs.lt.1,hs.lt.2,rfl⟩
 | k+1,a,b,c,⟨p,h1,h2,h3,h4⟩,hs=>⟨p,h1,h2,h3,VG k p b c h4 hs⟩
theorem WA {l:List AB}:∀ k r a q,EY l (k+r) a q→∃ b,EY l k a b∧EY l r b q
 | 0,r,a,q,h=>⟨a,rfl,by rwa [Nat.zero_add] at h⟩
 | k+1,r,a,q,h=>by
  rw[show k+1+r=(k+r)+1 by omega] at h
  obtain⟨p,h1,h2,h3,h4⟩:=h
  obtain⟨b,h5,h6⟩:=WA k r p q h4
  exact⟨b,⟨p,h1,h2,h3,h5⟩,h6⟩
theorem PV {l:List AB}:∀ k a b c,EY l k a b→EY l k a c→b=c
 | 0,a,b,c,h,h'=>(show a=b from h).symm.trans (show a=c from h')
 | k+1,a,b,c,⟨p,h1,_,_,h4⟩,⟨p',g1,_,_,g4⟩=>by
  have:p=p':=EK.unique l.length a (by omega) h1 g1
  subst this
  exact PV k p b c h4 g4
theorem XO {l:List AB} {a b c:Nat}:∀ k j,k<j→EY l k a b→EY l j a c→b<c:=fun k j hkj h h'=>by
 obtain⟨b',h1,h2⟩:=WA k (j-k) a c (by rw[show k+(j-k)=j by omega];exact h')
 have:=PV k a b b' h h1
 subst this
 have:=HJ _ _ _ h2
 omega
def IU (l:List AB) (p k i:Nat):Prop:=∃ x,l[p]?=some x∧k<x.kids.toNat∧EY l k (p+1) i
theorem IU.lt {l:List AB} {p k i:Nat} (h:IU l p k i):p<i:=by
 obtain⟨x,_,_,h3⟩:=h
 have:=HJ _ _ _ h3
 omega
theorem IU.sub {l:List AB} (ht:CU l) {p k i:Nat} (h:IU l p k i):∃ q,EK l i q∧q≤AC l p∧i<l.length:=by
 obtain⟨x,hx,hk,hc⟩:=h
 have hs:=ht.end (List.getElem?_eq_some_iff.1 hx).1
 obtain⟨y,hy,_,_,hch⟩:=hs.kids
 rw[hx] at hy
 cases hy
 obtain⟨r,hr⟩:∃ r,x.kids.toNat=k+(r+1):=⟨x.kids.toNat-k-1,by omega⟩
 rw[hr] at hch
 obtain⟨b,h1,q,h2,h3,h4,h5⟩:=WA _ _ _ _ hch
 have:=PV _ _ _ _ hc h1
 subst this
 have:=HJ _ _ _ h5
 exact⟨q,h2,by omega,by omega⟩
theorem i5 {l:List AB}:∀ (r a q j:Nat),EY l r a q→a≤j→j<q→∃ k b c,k<r∧EY l k a b∧EK l b c∧b≤j∧j<c
 | 0,a,q,j,h,h1,h2=>by have:a=q:=h;omega
 | r+1,a,q,j,⟨p,s,h3,h4,h5⟩,h1,h2=>by
  rcases Nat.lt_or_ge j p with h6 | h6
  ·exact⟨0,a,p,by omega,rfl,s,h1,h6⟩
  ·obtain⟨k,b,c,k1,k2,k3,k4,k5⟩:=i5 r p q j h5 h6 h2
   exact⟨k+1,b,c,by omega,⟨p,s,h3,h4,k2⟩,k3,k4,k5⟩
theorem IU.unique {l:List AB} (ht:CU l) {p k i p' k':Nat} (h:IU l p k i) (h':IU l p' k' i):p=p'∧k=k':=by
 have key:∀ {p k i p' k':Nat},IU l p k i→IU l p' k' i→¬ p<p':=by
  intro p k i p' k' h h' hlt
  have hi:=h'.lt
  obtain⟨qi,si,hqi,_⟩:=h'.sub ht
  have hsi:=si.lt
  obtain⟨x,hx,hk,hc⟩:=h
  have hs:=ht.end (List.getElem?_eq_some_iff.1 hx).1
  obtain⟨y,hy,_,_,hch⟩:=hs.kids
  rw[hx] at hy
  cases hy
  have hp':p'<l.length:=by
   obtain⟨x',hx',_⟩:=h'
   exact(List.getElem?_eq_some_iff.1 hx').1
  have he':=(ht.end hp').lt
  obtain⟨r,hr⟩:∃ r,x.kids.toNat=k+(r+1):=⟨x.kids.toNat-k-1,by omega⟩
  have hkc:=hch
  rw[hr] at hkc
  obtain⟨b0,g1,g2⟩:=WA _ _ _ _ hkc
  have:=PV _ _ _ _ hc g1
  subst this
  have hle:=HJ _ _ _ g2
  obtain⟨j,b,c,j1,j2,j3,j4,j5⟩:=i5 _ _ _ p' hch hlt (by omega)
  obtain⟨q',s1,s2⟩:=EK.cover (c-b) (by have:=j3.lt;omega) j3 p' j4 j5
  have hee:=IY s1
  -- i lies in (b, c), and is the start of the k-th kid
  rcases Nat.lt_trichotomy k j with hkj | hkj | hkj
  ·have:=XO k j hkj hc j2
   omega
  ·subst hkj
   have:=PV _ _ _ _ hc j2
   omega
  ·have hj1:=VG j _ _ _ j2 j3
   rcases Nat.lt_or_ge (j+1) k with h9 | h9
   ·have:=XO (j+1) k h9 hj1 hc
    omega
   ·have:j+1=k:=by omega
    subst this
    have:=PV _ _ _ _ hj1 hc
    omega
 have hpp:p=p':=by
  have h1:=key h h'
  have h2:=key h' h
  omega
 subst hpp
 refine⟨rfl,?_⟩
 obtain⟨_,_,_,hc⟩:=h
 obtain⟨_,_,_,hc'⟩:=h'
 rcases Nat.lt_trichotomy k k' with h1 | h1 | h1
 ·have:=XO _ _ h1 hc hc';omega
 ·exact h1
 ·have:=XO _ _ h1 hc' hc;omega
theorem EK.parent {l:List AB}:∀ (n:Nat) {a q:Nat},q≤a+n→EK l a q→∀ i,a<i→i<q→∃ p k,IU l p k i∧a≤p
 | 0,a,q,hn,h,i,h1,h2=>by have:=h.lt;omega
 | n+1,a,q,hn,h,i,h1,h2=>by
  obtain⟨x,hx,_,_,hc⟩:=h.kids
  obtain⟨k,b,c,k1,k2,k3,k4,k5⟩:=i5 _ _ _ i hc h1 h2
  rcases Nat.eq_or_lt_of_le k4 with rfl | h6
  ·exact⟨a,k,⟨x,hx,k1,k2⟩,Nat.le_refl _⟩
  ·have hb:=HJ _ _ _ k2
   obtain⟨r,hr⟩:∃ r,x.kids.toNat=(k+1)+r:=⟨x.kids.toNat-(k+1),by omega⟩
   rw[hr] at hc
   obtain⟨c',g1,g2⟩:=WA _ _ _ _ hc
   have:=PV _ _ _ _ (VG _ _ _ _ k2 k3) g1
   subst this
   have:=HJ _ _ _ g2
   obtain⟨p,k',h7,h8⟩:=EK.parent n (by omega) k3 i h6 k5
   exact⟨p,k',h7,by omega⟩
theorem CU.parent {l:List AB} (ht:CU l) {i:Nat} (h0:0<i) (h1:i<l.length):∃ p k,IU l p k i:=by
 obtain⟨p,k,h,_⟩:=EK.parent l.length (by omega) ht i h0 h1
 exact⟨p,k,h⟩
structure uU (l:List AB) (O:List Int):Prop where
 top:∀ x,l[0]?=some x→O[0]?=some (E5 x.kind)
 kid:∀ p k i x y o,IU l p k i→l[p]?=some x→l[i]?=some y→O[p]?=some o→O[i]?=some (o+HF (C1 x.kind) (C1 y.kind) k+E5 y.kind)
def NM (O:List Int) (a b:Nat) (M:Int):Prop:=(∀ i x,a≤i→i<b→O[i]?=some x→x≤M)∧∃ i,a≤i∧i<b∧O[i]?=some M
theorem NM.join {O:List Int} {a b c:Nat} {M M':Int} (h:NM O a b M) (h':NM O b c M') (hab:a≤b) (hbc:b≤c):NM O a c (if M'>M then M' else M):=by
 obtain⟨h1,i,h2,h3,h4⟩:=h
 obtain⟨g1,j,g2,g3,g4⟩:=h'
 refine⟨fun t x t1 t2 t3=>?_,?_⟩
 ·rcases Nat.lt_or_ge t b with hb | hb
  ·have:=h1 t x t1 hb t3
   split <;> omega
  ·have:=g1 t x hb t2 t3
   split <;> omega
 ·split
  ·exact⟨j,by omega,g3,g4⟩
  ·exact⟨i,h2,by omega,h4⟩
theorem NM.unique {O:List Int} {a b:Nat} {M M':Int} (h:NM O a b M) (h':NM O a b M'):M=M':=by
 obtain⟨h1,i,h2,h3,h4⟩:=h
 obtain⟨g1,j,g2,g3,g4⟩:=h'
 have:=h1 j _ g2 g3 g4
 have:=g1 i _ h2 h3 h4
 omega
theorem zE {l:List AB} {O:List Int} (hO:uU l O):∀ (m at_ q:Nat) (x:AB) (o:Int),EK l at_ q→l.length<at_+m→l[at_]?=some x→O[at_]?=some o →
  NM O at_ q (o-E5 x.kind+(DY l m at_).1)∧(DY l m at_).2=q:=by
 intro m
 induction m with
 | zero=>intro at_ q x o hs hm hx;have:=hs.lt;omega
 | succ m ih=>
  intro at_ q x o hs hm hx ho
  obtain⟨y,hy,_,_,hc⟩:=hs.kids
  rw[hx] at hy
  cases hy
  have key:∀ r k most next,k+r=x.kids.toNat→EY l k (at_+1) next→EY l r next q→NM O at_ next (o+most)→NM O at_ q (o+(JJ (DY l m) l x.kind r k most next).1)∧(JJ (DY l m) l x.kind r k most next).2=q:=by
   intro r
   induction r with
   | zero=>
    intro k most next hk h1 h2 h3
    have:next=q:=h2
    subst this
    exact⟨h3,rfl⟩
   | succ r ihr=>
    intro k most next hk h1 ⟨p',s1,s2,s3,s4⟩ h3
    have hn1:=HJ _ _ _ h1
    obtain⟨z,hz,_,_,_⟩:=s1.kids
    have hz':=hO.kid at_ k next x z o ⟨x,hx,by omega,h1⟩ hx hz ho
    obtain⟨a1,a2⟩:=ih next p' z _ s1 (by omega) hz hz'
    unfold JJ
    rw[hz]
    simp only
    rw[a2]
    refine ihr (k+1) _ p' (by omega) (VG _ _ _ _ h1 s1) s4 ?_
    have h4:=h3.join a1 (by omega) (by omega)
    have e1:o+HF (C1 x.kind) (C1 z.kind) k+E5 z.kind-E5 z.kind+(DY l m next).1=o+((DY l m next).1+HF (C1 x.kind) (C1 z.kind) k):=by omega
    rw[e1] at h4
    refine cast ?_ h4
    congr 1
    split <;> split <;> omega
  have h0:=key x.kids.toNat 0 0 (at_+1) (by omega) rfl hc ⟨fun i v h1 h2 h3=>by
    have:i=at_:=by omega
    subst this
    rw[ho] at h3
    cases h3
    omega,at_,Nat.le_refl _,by omega,by rw[ho];congr 1;omega⟩
  unfold DY
  rw[hx]
  refine⟨?_,h0.2⟩
  refine cast ?_ h0.1
  congr 1
  simp only
  omega
def HN (w:Int):Int:=if w=8 then 0 else if w=9 then 1 else w
def NQ (w:Int):Prop:=w=8∨w=9∨w=2∨w=3∨w=4∨w=5∨w=6∨w=7
theorem r8 {w k:Int} (h:FV w k=true):1≤k∧k≤54:=by
 unfold FV at h
 split at h
 ·simp at h;omega
 ·exact QZ h
theorem JF {P:Program} {t:TypeId} {x y:Operand} {a b:ByteArray}:CP P .neq t x y (.string a) (.string b)=some (.bool (!(a==b))):=by
 have e:BH P (do eqGuard .neq t x y (.string a) (.string b);binOp .neq t (.string a) (.string b))=some (.bool (!(a==b))):=by
  rw[DO]
  have g:BH P (eqGuard .neq t x y (.string a) (.string b))=some ():=rfl
  rw[g,← tU]
  simp[binOp,Op.stringOp,Option.bind]
  rfl
 have hf:flat (.string a)=true:=rfl
 have hf2:flat (.string b)=true:=rfl
 simp only[CP,hf,hf2,MT,Bool.and_self,if_true,e]
theorem Ap {s:ByteArray} (h:(s==⟨#[]⟩)=true):AZ s=false:=by
 have:=LQ h
 subst this
 rfl
section
variable {call:AS} {n:Nat} {h:AA}
theorem Gz {k:Int}:AY Tryz.prog call n 127 [iv k] h=some (.bool (decide (k≥2)&&decide (k≤7)),h):=by
 refine CO Tryz.func127 rfl (by simp[Tryz.f127]) ?_
 have hr:Tryz.f127.results.toList=[.tmp 2]:=rfl
 cases d:decide (k≥2) <;> simp only[eE,seval,↓eP,rP,hr,d,Bool.false_and]
theorem Wo {k:Int}:AY Tryz.prog call n 128 [iv k] h=some (.bool (E8 k),h):=by
 refine CO Tryz.func128 rfl (by simp[Tryz.f128]) ?_
 have hr:Tryz.f128.results.toList=[.tmp 2]:=rfl
 unfold E8
 cases d:decide (k≥8) <;> simp only[eE,seval,↓eP,rP,hr,d,Bool.false_and]
theorem Gi {k:Int}:AY Tryz.prog call n 140 [iv k] h=some (.bool (decide (k≥11)&&decide (k≤23)),h):=by
 refine CO Tryz.func140 rfl (by simp[Tryz.f140]) ?_
 have hr:Tryz.f140.results.toList=[.tmp 2]:=rfl
 cases d:decide (k≥11) <;> simp only[eE,seval,↓eP,rP,hr,d,Bool.false_and]
theorem Ny {k:Int}:AY Tryz.prog call n 141 [iv k] h=some (.bool (decide (k≥27)&&decide (k≤54)),h):=by
 refine CO Tryz.func141 rfl (by simp[Tryz.f141]) ?_
 have hr:Tryz.f141.results.toList=[.tmp 2]:=rfl
 cases d:decide (k≥27) <;> simp only[eE,seval,↓eP,rP,hr,d,Bool.false_and]
theorem Bs {w k:Int} (hw:NQ w) (hD:call 127 [iv k] h=some (.bool (decide (k≥2)&&decide (k≤7)),h)) (hE:call 128 [iv k] h=some (.bool (E8 k),h))
  (hG:call 140 [iv k] h=some (.bool (decide (k≥11)&&decide (k≤23)),h)) (hX:call 141 [iv k] h=some (.bool (decide (k≥27)&&decide (k≤54)),h)) :
  AY Tryz.prog call n 133 [iv k,iv (HN w)] h=some (.bool (FV w k),h):=by
 refine CO Tryz.func133 rfl (by simp[Tryz.f133]) ?_
 have hr:Tryz.f133.results.toList=[.tmp 4]:=rfl
 unfold E8 at hE
 rcases hw with rfl | rfl | rfl | rfl | rfl | rfl | rfl | rfl
 ·have e:HN 8=0:=rfl
  have e2:FV 8 k=(k==1):=rfl
  rw[e,e2]
  simp only[eE,seval,↓eP,rP,Int.reduceBEq,hr]
 ·have e:HN 9=1:=rfl
  have e2:FV 9 k=(decide (k≥2)&&decide (k≤10)):=rfl
  rw[e,e2]
  cases d:(decide (k≥2)&&decide (k≤7)) with
  | true=>
   rw[d] at hD
   have:(decide (k≥2)&&decide (k≤10))=true:=by simp only[Bool.and_eq_true,decide_eq_true_eq] at d ⊢;omega
   simp only[eE,seval,↓eP,rP,Int.reduceBEq,hr,hD,this]
  | false=>
   rw[d] at hD
   have:(decide (k≥2)&&decide (k≤10))=(decide (k≥8)&&decide (k≤10)):=by
    simp only[Bool.and_eq_false_iff,decide_eq_false_iff_not] at d
    apply Bool.eq_iff_iff.2
    simp only[Bool.and_eq_true,decide_eq_true_eq]
    omega
   simp only[eE,seval,↓eP,rP,Int.reduceBEq,hr,hD,hE,this]
 ·have e:HN 2=2:=rfl
  have e2:FV 2 k=(k==11):=rfl
  rw[e,e2]
  simp only[eE,seval,↓eP,rP,Int.reduceBEq,hr]
 ·have e:HN 3=3:=rfl
  have e2:FV 3 k=(decide (k≥11)&&decide (k≤23)):=rfl
  rw[e,e2]
  simp only[eE,seval,↓eP,rP,Int.reduceBEq,hr,hG]
 ·have e:HN 4=4:=rfl
  have e2:FV 4 k=(k==11||k==12):=rfl
  rw[e,e2]
  cases d:(k==11) <;> simp only[eE,seval,↓eP,rP,Int.reduceBEq,hr,d,Bool.true_or,Bool.false_or]
 ·have e:HN 5=5:=rfl
  have e2:FV 5 k=(k==25||k==26):=rfl
  rw[e,e2]
  cases d:(k==25) <;> simp only[eE,seval,↓eP,rP,Int.reduceBEq,hr,d,Bool.true_or,Bool.false_or]
 ·have e:HN 6=6:=rfl
  have e2:FV 6 k=(k==24):=rfl
  rw[e,e2]
  simp only[eE,seval,↓eP,rP,Int.reduceBEq,hr]
 ·have e:HN 7=7:=rfl
  have e2:FV 7 k=(decide (k≥27)&&decide (k≤54)):=rfl
  rw[e,e2]
  simp only[eE,seval,↓eP,rP,Int.reduceBEq,hr,hX]
abbrev CE (x:AB):Value:=.agg #[iv x.kind,.string x.name,iv x.ends,iv x.n,iv x.kids]
theorem SY {x:AB}:(CE x).cells.toList=[iv x.kind,.string x.name,iv x.ends,iv x.n,iv x.kids]:=rfl
theorem Nh {w:Int} {x:AB} (hS:∀ h,call 133 [iv x.kind,iv (HN w)] h=some (.bool (FV w x.kind),h))
  (hE:∀ h,1≤x.kind∧x.kind≤54→call 134 [iv x.kind] h=some (.bool (KJ x.kind),h)) (hN:∀ h,1≤x.kind∧x.kind≤54→call 135 [iv x.kind] h=some (.bool (HQ x.kind),h))
  (hI:∀ h,call 136 [.string x.name] h=some (.bool (AZ x.name),h)) (hM:∀ h,1≤x.kind∧x.kind≤54→call 137 [iv x.kind] h=some (.tuple #[iv (FT x.kind),iv (CZ x.kind)],h)) :
  ∃ h',AY Tryz.prog call n 126 [CE x,iv (HN w)] (EZ 1 0)=some (.bool (FV w x.kind&&DR AZ x),h')∧True:=by
 refine DW (R:=fun _=>True) Tryz.func126 rfl (by simp[Tryz.f126]) ?_
 have hr:Tryz.f126.results.toList=[.tmp 4]:=rfl
 have hone:([iv x.kind,.string x.name,iv x.ends,iv x.n,iv x.kids]:List Value).all one=true:=rfl
 generalize hV:(FV w x.kind&&DR AZ x)=V
 cases hs:FV w x.kind with
 | false=>
  rw[hs] at hV hS
  rw[Bool.false_and] at hV
  subst hV
  simp only[eE,seval,↓eP,rP,hr,SY,hone,FN,hS]
 | true=>
  rw[hs] at hV hS
  rw[Bool.true_and] at hV
  have hk:=r8 hs
  have hE':=fun h=>hE h hk
  have hN':=fun h=>hN h hk
  have hM':=fun h=>hM h hk
  clear hE hN hM
  have hq:(x.name==ByteArray.empty)=(x.name==⟨#[]⟩):=rfl
  unfold DR at hV
  rw[hq] at hV
  have hQe:(x.name==⟨#[]⟩)=true→AZ x.name=false:=Ap
  generalize hKK:B_.top (fun e s=>(e=ED.normal∨e=ED.ret)∧∃ vs,F2 Tryz.prog s Tryz.f126.results.toList=some vs∧HL vs=Value.bool V∧True)=K
  have fin:∀ (T':Tr) H b,T'.get 4=.bool b→b=V→K.ap Tryz.prog call n .ret ⟨T',H⟩:=fun T' H b h4 hb=>by
   subst hb
   rw[← hKK]
   simp only[eE,seval,↓eP,rP,hr,h4]
  have retF:∀ (T':Tr) H,T'.get 4=.bool false→V=false→K.ap Tryz.prog call n .ret ⟨T',H⟩:=fun T' H h4 hb=>fin T' H false h4 hb.symm
  have Z2:∀ T':Tr,T'.get 2=qP 1 0→(decide (x.kids≥FT x.kind)&&(decide (CZ x.kind<0)||decide (x.kids≤CZ x.kind)))=V →
    WK Tryz.prog call n (rt (rt (rt (rt (Tryz.f126.body.getD .skip))))) ⟨T',(EZ 1 0).push (.row [iv x.kind,.string x.name,iv x.ends,iv x.n,iv x.kids] 60 false false)⟩ K:=by
   intro T' t2 hv
   show WK _ _ _ (.seq _ _) _ _
   cases d1:decide (x.kids≥FT x.kind) with
   | false=>
    rw[d1,Bool.false_and] at hv
    simp only[eE,seval,↓eP,rP,t2,hM',d1]
    exact fin _ _ false (by simp only[Tr.get_put,if_true]) hv
   | true=>
    rw[d1,Bool.true_and] at hv
    cases d2:decide (CZ x.kind<0) with
    | true=>
     rw[d2,Bool.true_or] at hv
     simp only[eE,seval,↓eP,rP,t2,hM',d1,d2]
     exact fin _ _ true (by simp only[Tr.get_put,if_true]) hv
    | false=>
     rw[d2,Bool.false_or] at hv
     simp only[eE,seval,↓eP,rP,t2,hM',d1,d2]
     exact fin _ _ _ (by simp only[Tr.get_put,if_true]) hv
  have YZ:∀ T':Tr,T'.get 2=qP 1 0→((x.n==0||x.kind==27&&decide (x.n>0)&&decide (x.n≤1073741824))&&(decide (x.kids≥FT x.kind)&&(decide (CZ x.kind<0)||decide (x.kids≤CZ x.kind))))=V →
    WK Tryz.prog call n (rt (rt (rt (Tryz.f126.body.getD .skip)))) ⟨T',(EZ 1 0).push (.row [iv x.kind,.string x.name,iv x.ends,iv x.n,iv x.kids] 60 false false)⟩ K:=by
   intro T' t2 hv
   show WK _ _ _ (.seq _ (rt (rt (rt (rt (Tryz.f126.body.getD .skip)))))) _ _
   cases k27:(x.kind==27) with
   | true=>
    have k27':(x.kind != 27)=false:=by rw[bne,k27];rfl
    cases d1:decide (x.n<0) with
    | true=>
     have f0:(x.n==0)=false:=by rw[beq_eq_false_iff_ne];simp only[decide_eq_true_eq] at d1;omega
     have f1:decide (x.n>0)=false:=by simp only[decide_eq_true_eq] at d1;simp only[decide_eq_false_iff_not];omega
     rw[f0,f1] at hv
     simp only[eE,seval,↓eP,rP,t2,k27,k27',d1]
     exact retF _ _ (by simp only[Tr.get_put,if_true]) (by rw[← hv];simp)
    | false=>
     cases d2:decide (x.n>1073741824) with
     | true=>
      have f0:(x.n==0)=false:=by rw[beq_eq_false_iff_ne];simp only[decide_eq_true_eq] at d2;omega
      have f1:decide (x.n≤1073741824)=false:=by simp only[decide_eq_true_eq] at d2;simp only[decide_eq_false_iff_not];omega
      rw[f0,f1] at hv
      simp only[eE,seval,↓eP,rP,t2,k27,k27',d1,d2]
      exact retF _ _ (by simp only[Tr.get_put,if_true]) (by rw[← hv];simp)
     | false=>
      have f1:(x.n==0||decide (x.n>0)&&decide (x.n≤1073741824))=true:=by
       simp only[decide_eq_false_iff_not] at d1 d2
       simp only[Bool.or_eq_true,Bool.and_eq_true,decide_eq_true_eq,beq_iff_eq]
       omega
      rw[k27,Bool.true_and,f1,Bool.true_and] at hv
      simp only[eE,seval,↓eP,rP,t2,k27,k27',d1,d2]
      exact Z2 _ (by simp only[Tr.get_put,Option.some.injEq,Nat.reduceEqDiff,if_false,t2]) hv
   | false=>
    have k27':(x.kind != 27)=true:=by rw[bne,k27];rfl
    cases d1:(x.n==0) with
    | false=>
     have d1':(x.n != 0)=true:=by rw[bne,d1];rfl
     rw[d1,k27] at hv
     simp only[eE,seval,↓eP,rP,t2,k27,k27',d1']
     exact retF _ _ (by simp only[Tr.get_put,if_true]) (by rw[← hv];simp)
    | true=>
     have d1':(x.n != 0)=false:=by rw[bne,d1];rfl
     rw[d1,Bool.true_or,Bool.true_and] at hv
     simp only[eE,seval,↓eP,rP,t2,k27,k27',d1']
     exact Z2 _ (by simp only[Tr.get_put,Option.some.injEq,Nat.reduceEqDiff,if_false,t2]) hv
  have XX:∀ T':Tr,T'.get 2=qP 1 0→(((AZ x.name==HQ x.kind)&&(HQ x.kind||x.name==⟨#[]⟩))&&((x.n==0||x.kind==27&&decide (x.n>0)&&decide (x.n≤1073741824))&&(decide (x.kids≥FT x.kind)&&(decide (CZ x.kind<0)||decide (x.kids≤CZ x.kind)))))=V →
    WK Tryz.prog call n (rt (rt (Tryz.f126.body.getD .skip))) ⟨T',(EZ 1 0).push (.row [iv x.kind,.string x.name,iv x.ends,iv x.n,iv x.kids] 60 false false)⟩ K:=by
   intro T' t2 hv
   show WK _ _ _ (.seq _ (rt (rt (rt (Tryz.f126.body.getD .skip))))) _ _
   cases nm:HQ x.kind with
   | true=>
    rw[nm] at hv hN'
    cases ni:AZ x.name with
    | true=>
     rw[ni] at hv hI
     simp only[eE,seval,↓eP,rP,t2,hN',hI]
     exact YZ _ (by simp only[Tr.get_put,Option.some.injEq,Nat.reduceEqDiff,if_false,t2]) (by rw[← hv];simp)
    | false=>
     rw[ni] at hv hI
     simp only[eE,seval,↓eP,rP,t2,hN',hI]
     exact retF _ _ (by simp only[Tr.get_put,if_true]) (by rw[← hv];simp)
   | false=>
    rw[nm] at hv hN'
    cases q3:(x.name==⟨#[]⟩) with
    | true=>
     rw[q3,hQe q3] at hv
     simp only[eE,seval,↓eP,rP,t2,hN',JF,q3]
     exact YZ _ (by simp only[Tr.get_put,Option.some.injEq,Nat.reduceEqDiff,if_false,t2]) (by rw[← hv];simp)
    | false=>
     rw[q3] at hv
     simp only[eE,seval,↓eP,rP,t2,hN',JF,q3]
     exact retF _ _ (by simp only[Tr.get_put,if_true]) (by rw[← hv];simp)
  have hv:((x.ends==0||KJ x.kind&&x.ends==1)&&(((AZ x.name==HQ x.kind)&&(HQ x.kind||x.name==⟨#[]⟩))&&((x.n==0||x.kind==27&&decide (x.n>0)&&decide (x.n≤1073741824))&&(decide (x.kids≥FT x.kind)&&(decide (CZ x.kind<0)||decide (x.kids≤CZ x.kind))))))=V:=by
   rw[← hV]
   generalize (AZ x.name==HQ x.kind&&(HQ x.kind||x.name == { data:=#[] }))=a
   generalize (x.ends==0||KJ x.kind&&x.ends==1)=b
   generalize (x.n==0||x.kind==27&&decide (x.n>0)&&decide (x.n≤1073741824))=c
   cases a <;> cases b <;> cases c <;> simp
  show WK _ _ _ (.seq _ (.seq _ (rt (rt (Tryz.f126.body.getD .skip))))) _ _
  cases d1:decide (x.ends<0) with
  | true=>
   have f0:(x.ends==0)=false:=by rw[beq_eq_false_iff_ne];simp only[decide_eq_true_eq] at d1;omega
   have f1:(x.ends==1)=false:=by rw[beq_eq_false_iff_ne];simp only[decide_eq_true_eq] at d1;omega
   rw[f0,f1] at hv
   simp only[eE,seval,↓eP,rP,SY,hone,FN,hS,d1]
   exact retF _ _ (by simp only[Tr.get_put,if_true]) (by rw[← hv];simp)
  | false=>
   cases d2:decide (x.ends>1) with
   | true=>
    have f0:(x.ends==0)=false:=by rw[beq_eq_false_iff_ne];simp only[decide_eq_true_eq] at d2;omega
    have f1:(x.ends==1)=false:=by rw[beq_eq_false_iff_ne];simp only[decide_eq_true_eq] at d2;omega
    rw[f0,f1] at hv
    simp only[eE,seval,↓eP,rP,SY,hone,FN,hS,d1,d2]
    exact retF _ _ (by simp only[Tr.get_put,if_true]) (by rw[← hv];simp)
   | false=>
    simp only[decide_eq_false_iff_not] at d1 d2
    have d1':decide (x.ends<0)=false:=decide_eq_false d1
    have d2':decide (x.ends>1)=false:=decide_eq_false d2
    cases d3:(x.ends==1) with
    | false=>
     have f0:(x.ends==0)=true:=by rw[beq_iff_eq];rw[beq_eq_false_iff_ne] at d3;omega
     rw[f0,Bool.true_or,Bool.true_and] at hv
     simp only[eE,seval,↓eP,rP,SY,hone,FN,hS,d1',d2',d3]
     exact XX _ (by simp only[Tr.get_put,Option.some.injEq,Nat.reduceEqDiff,if_false,if_true]) hv
    | true=>
     have f0:(x.ends==0)=false:=by rw[beq_eq_false_iff_ne];rw[beq_iff_eq] at d3;omega
     cases en:KJ x.kind with
     | true=>
      rw[f0,d3,en] at hv
      rw[en] at hE'
      simp only[eE,seval,↓eP,rP,SY,hone,FN,hS,d1',d2',d3,hE']
      exact XX _ (by simp only[Tr.get_put,Option.some.injEq,Nat.reduceEqDiff,if_false,if_true]) (by rw[← hv];simp)
     | false=>
      rw[f0,en] at hv
      rw[en] at hE'
      simp only[eE,seval,↓eP,rP,SY,hone,FN,hS,d1',d2',d3,hE']
      exact retF _ _ (by simp only[Tr.get_put,if_true]) (by rw[← hv];simp)
end
end Go.Proofs.YtdejoodfeljmkaaGreatDoor
