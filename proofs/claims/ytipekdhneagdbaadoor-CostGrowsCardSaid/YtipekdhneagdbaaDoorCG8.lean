/- Part 8 of what the claim leans on: 18 texts laid one behind another. -/
import Derived.Test.YtipekdhneagdbaaDoorCG7
import Derived.Laws.Bits64b
import Derived.Lib.Mul64
import Derived.Test.YtipekdhneagdbaaDoorProg
namespace Go.Sx
open Go
set_option linter.unusedSimpArgs false
set_option linter.unusedVariables false
set_option maxHeartbeats 64000000
inductive B9 where
 | top (Q:DT→St→Prop)
 | seq (b:Code) (k:B9)
 | block (id:Nat) (k:B9)
 | inv (J:St→Prop) (k:B9)
def B9.ap (P:Program) (call:AQ) (n:Nat):B9→DT→St→Prop
 | .top Q,e,s=>Q e s
 | .seq b k,.normal,s=>WS P call n b s (k.ap P call n)
 | .seq _ k,e,s=>k.ap P call n e s
 | .block id k,.exit i,s=>if i=id then k.ap P call n .normal s else k.ap P call n (.exit i) s
 | .block _ k,e,s=>k.ap P call n e s
 | .inv J _,.normal,s=>J s
 | .inv _ k,e,s=>k.ap P call n e s
def WK (P:Program) (call:AQ) (n:Nat) (c:Code) (s:St) (k:B9):Prop:=WS P call n c s (k.ap P call n)
def LU (P:Program) (call:AQ) (n:Nat) (ops:Array Oper) (l:List Oper) (s:St) (k:B9):Prop:=WL P call ops l s (k.ap P call n .normal)
def OZ (P:Program) (call:AQ) (n:Nat) (ops:Array Oper) (l:List Oper) (dst:Option Tmp) (T:Tr) (k:B9):Option (Value × AA)→Prop
 | some (v,h)=>LU P call n ops l ⟨T.put dst v,h⟩ k
 | none=>False
def XT (P:Program) (call:AQ) (n:Nat) (ops:Array Oper) (l:List Oper) (dst:Option Tmp) (T:Tr) (h:AA) (k:B9):Option Value→Prop
 | some v=>LU P call n ops l ⟨T.put dst v,h⟩ k
 | none=>False
def rB (P:Program) (call:AQ) (n:Nat) (a b:Code) (s:St) (k:B9):Value→Prop
 | .bool t=>(t=true→WK P call n a s k)∧(t=false→WK P call n b s k)
 | _=>False
section
variable {P:Program} {call:AQ} {n:Nat} {s:St} {k:B9} {Q:DT→St→Prop}
theorem sY {e:DT}:(B9.top Q).ap P call n e s=Q e s:=rfl
theorem SB {b:Code}:(B9.seq b k).ap P call n .normal s=WK P call n b s k:=rfl
theorem nR {b:Code} {i:Nat}:(B9.seq b k).ap P call n (.exit i) s=k.ap P call n (.exit i) s:=rfl
theorem pN {b:Code}:(B9.seq b k).ap P call n .ret s=k.ap P call n .ret s:=rfl
theorem tF {id:Nat}:(B9.block id k).ap P call n .normal s=k.ap P call n .normal s:=rfl
theorem nV {id i:Nat}:(B9.block id k).ap P call n (.exit i) s=if i=id then k.ap P call n .normal s else k.ap P call n (.exit i) s:=rfl
theorem jH {id:Nat}:(B9.block id k).ap P call n .ret s=k.ap P call n .ret s:=rfl
theorem g_ {J:St→Prop}:(B9.inv J k).ap P call n .normal s=J s:=rfl
theorem jZ {J:St→Prop} {i:Nat}:(B9.inv J k).ap P call n (.exit i) s=k.ap P call n (.exit i) s:=rfl
theorem jR {J:St→Prop}:(B9.inv J k).ap P call n .ret s=k.ap P call n .ret s:=rfl
theorem pD:WK P call n .skip s k=k.ap P call n .normal s:=by
 apply propext;simp only[WK,WS,CM,Option.some.injEq,Prod.mk.injEq]
 exact⟨fun ⟨_,_,⟨rfl,rfl⟩,h⟩=>h,fun h=>⟨_,_,⟨rfl,rfl⟩,h⟩⟩
theorem tR {id:Nat}:WK P call n (.exit id) s k=k.ap P call n (.exit id) s:=by
 apply propext;simp only[WK,WS,CM,Option.some.injEq,Prod.mk.injEq]
 exact⟨fun ⟨_,_,⟨rfl,rfl⟩,h⟩=>h,fun h=>⟨_,_,⟨rfl,rfl⟩,h⟩⟩
theorem mF:WK P call n .ret s k=k.ap P call n .ret s:=by
 apply propext;simp only[WK,WS,CM,Option.some.injEq,Prod.mk.injEq]
 exact⟨fun ⟨_,_,⟨rfl,rfl⟩,h⟩=>h,fun h=>⟨_,_,⟨rfl,rfl⟩,h⟩⟩
theorem LD {a b:Code}:WK P call n (.seq a b) s k=WK P call n a s (.seq b k):=by
 apply propext
 constructor
 ·rintro ⟨e,s',h1,h2⟩
  simp only[CM] at h1
  split at h1
  ·rename_i s1 h3
   exact⟨_,_,h3,_,_,h1,h2⟩
  ·rename_i hne
   refine⟨_,_,h1,?_⟩
   cases e with
   | normal=>exact absurd h1 (hne _)
   | exit id=>exact h2
   | ret=>exact h2
 ·rintro ⟨e,s',h1,h2⟩
  cases e with
  | normal=>
   obtain⟨e2,s2,h3,h4⟩:=h2
   exact⟨e2,s2,by simp only[CM,h1,h3],h4⟩
  | exit id=>exact⟨_,_,by simp only[CM,h1],h2⟩
  | ret=>exact⟨_,_,by simp only[CM,h1],h2⟩
theorem Y9 {id:Nat} {c:Code}:WK P call n (.block id c) s k=WK P call n c s (.block id k):=by
 apply propext
 constructor
 ·rintro ⟨e,s',h1,h2⟩
  simp only[CM] at h1
  split at h1
  ·rename_i i s1 h3
   refine⟨_,_,h3,?_⟩
   unfold B9.ap
   split at h1 <;> (cases h1;simp_all)
  ·rename_i hne
   refine⟨_,_,h1,?_⟩
   cases e with
   | normal=>exact h2
   | exit id=>exact absurd h1 (hne _ _)
   | ret=>exact h2
 ·rintro ⟨e,s',h1,h2⟩
  cases e with
  | normal=>exact⟨_,_,by simp only[CM,h1],h2⟩
  | exit i=>
   by_cases hi:i=id
   ·subst hi
    exact⟨.normal,s',by simp only[CM,h1,if_true],by simpa [B9.ap] using h2⟩
   ·exact⟨.exit i,s',by simp only[CM,h1,hi,if_false],by simpa [B9.ap,hi] using h2⟩
  | ret=>exact⟨_,_,by simp only[CM,h1],h2⟩
theorem oO {c:Operand} {a b:Code}:WK P call n (.cond c a b) s k=rB P call n a b s k (ev s.T c):=by
 apply propext
 constructor
 ·rintro ⟨e,s',h1,h2⟩
  simp only[CM] at h1
  split at h1
  ·rename_i he;rw[he];exact⟨fun _=>⟨_,_,h1,h2⟩,fun h=>(by cases h)⟩
  ·rename_i he;rw[he];exact⟨fun h=>(by cases h),fun _=>⟨_,_,h1,h2⟩⟩
  ·cases h1
 ·intro h
  cases he:ev s.T c with
  | bool t=>rw[he] at h;exact .cond he h.1 h.2
  | _=>rw[he] at h;exact h.elim
theorem tJ {a b:Code} {t:Bool}:rB P call n a b s k (.bool t)=((t=true→WK P call n a s k)∧(t=false→WK P call n b s k)):=rfl
theorem f_ {id:Nat} {ops:Array Oper}:WK P call n (.region id ops false) s k=LU P call n ops ops.toList s k:=by
 apply propext
 refine⟨fun ⟨e,s',h1,h2⟩=>?_,.region⟩
 simp only[CM,Bool.false_eq_true,if_false] at h1
 cases hs:JW P call ops ops.toList s with
 | none=>rw[hs] at h1;cases h1
 | some s1=>rw[hs] at h1;cases h1;exact⟨_,hs,h2⟩
theorem jY {ops:Array Oper}:LU P call n ops [] s k=k.ap P call n .normal s:=by
 simp[LU,WL,JW]
theorem mM {ops:Array Oper} {o:Oper} {l:List Oper}:LU P call n ops (o :: l) s k=if D9 ops s.T o then OZ P call n ops l o.dst s.T k (AO P call s.T s.h o.op) else LU P call n ops l ⟨s.T.put o.dst undef,s.h⟩ k:=by
 apply propext
 constructor
 ·rintro ⟨s',h1,h2⟩
  simp only[JW,F4] at h1
  by_cases hw:D9 ops s.T o=true
  ·rw[if_pos hw] at h1 ⊢
   cases hs:AO P call s.T s.h o.op with
   | none=>rw[hs] at h1;cases h1
   | some r=>
    obtain⟨v,h'⟩:=r
    rw[hs] at h1
    exact⟨s',h1,h2⟩
  ·rw[if_neg hw] at h1 ⊢
   exact⟨s',h1,h2⟩
 ·intro h
  by_cases hw:D9 ops s.T o=true
  ·rw[if_pos hw] at h
   cases hs:AO P call s.T s.h o.op with
   | none=>rw[hs] at h;exact h.elim
   | some r=>
    obtain⟨v,h'⟩:=r
    rw[hs] at h
    exact .step hw hs h
  ·rw[if_neg hw] at h
   exact .pass (by simpa using hw) h
section
variable {ops:Array Oper} {l:List Oper} {dst:Option Tmp} {T:Tr} {h:AA} {v:Value}
theorem sG:OZ P call n ops l dst T k (some (v,h))=LU P call n ops l ⟨T.put dst v,h⟩ k:=rfl
theorem vD {r:Option Value}:OZ P call n ops l dst T k (r.map (·,h))=XT P call n ops l dst T h k r:=by cases r <;> rfl
theorem r_:XT P call n ops l dst T h k (some v)=LU P call n ops l ⟨T.put dst v,h⟩ k:=rfl
theorem OZ.of {r:Option (Value × AA)} {h':AA} (hr:r=some (v,h')) (hk:LU P call n ops l ⟨T.put dst v,h'⟩ k):OZ P call n ops l dst T k r:=by rw[hr];exact hk
theorem XT.of {r:Option Value} (hr:r=some v) (hk:LU P call n ops l ⟨T.put dst v,h⟩ k):XT P call n ops l dst T h k r:=by rw[hr];exact hk
end
theorem WK.loop {c:Code} (I:Nat→St→Prop) (N:Nat) (hN:N<n) (h0:I 0 s)
  (hr:∀ i s,i≤N→I i s→WK P call n c s (.inv (fun s'=>i<N∧I (i+1) s') k)):WK P call n (.loop c) s k:=
 WS.loop I N hN h0 fun i s hi hI=>(hr i s hi hI).mono fun e s' he=>by cases e <;> exact he
theorem XH (t:Nat):Tr.leaf.get t=undef:=rfl
theorem WT {ops:Array Oper} {T:Tr} {o:Oper} (h:o.guard=none):D9 ops T o=true:=by simp[D9,h]
theorem V6 {T:Tr} {t:Nat}:ev T (.tmp t)=T.get t:=rfl
theorem WV {T:Tr} {v:Value}:ev T (.const v)=v:=rfl
theorem Ml {T:Tr} {g:Nat}:ev T (.global g)=.pointer (some ⟨g,0,none⟩):=rfl
theorem VY {T:Tr} {f:Nat}:ev T (.func f)=.func (.func f) #[] #[]:=rfl
end
theorem max2 {k:IntKind} {x y:Int}:UX [.int k x,.int k y]=some (.int k (if y>x then y else x)):=rfl
theorem min2 {k:IntKind} {x y:Int}:UN [.int k x,.int k y]=some (.int k (if y<x then y else x)):=rfl
def O_:Value→Bool→Bool
 | .bool b,w=>b==w
 | _,_=>false
noncomputable def ZJ:Option Tmp→Tr→Bool→Bool
 | some d,T,w=>O_ (T.get d) w
 | none,_,_=>false
theorem W_ {ops:Array Oper} {T:Tr} {dst:Option Tmp} {op:Op} {type:TypeId} {pos:String} {after:Array Edge} {j:Nat} {w:Bool}:D9 ops T ⟨dst,op,type,pos,after,some (j,w)⟩=ZJ ((ops[j]?).bind (·.dst)) T w:=by
 simp only[D9]
 cases (ops[j]?).bind (·.dst) with
 | none=>rfl
 | some d=>simp only[ZJ];cases T.get d <;> rfl
theorem XM {d:Tmp} {T:Tr} {w:Bool}:ZJ (some d) T w=O_ (T.get d) w:=rfl
theorem jC {w:Bool}:O_ undef w=false:=by cases w <;> rfl
theorem XX {b:Bool}:O_ (.bool b) true=b:=by simp[O_]
theorem WE {b:Bool}:O_ (.bool b) false = !b:=by simp[O_]
theorem D_ {P:Program} {call:AQ} {n:Nat} {f:FuncId} {args:List Value} {h h':AA} {fn:Func} {c:Code} {V:Value} (hf:P.funcs[f]?=some fn) (hb:fn.body=some c) (hl:args.length≤fn.ntmps)
  (hw:WK P call n c ⟨IS 0 args .leaf,h⟩ (.top fun e s=>(e=.normal∨e=.ret)∧∃ vs,FA P s fn.results.toList=some vs∧GW vs=V∧s.h=h')):A8 P call n f args h=some (V,h'):=by
 obtain⟨v,h1,h2,rfl,rfl⟩:=fV (R:=fun u h''=>u=V∧h''=h') hf hb hl hw
 exact h2
theorem FE {P:Program} {call:AQ} {n:Nat} {f:FuncId} {args:List Value} {h:AA} {fn:Func} {c:Code} {V:Value} {R:AA→Prop} (hf:P.funcs[f]?=some fn) (hb:fn.body=some c) (hl:args.length≤fn.ntmps)
  (hw:WK P call n c ⟨IS 0 args .leaf,h⟩ (.top fun e s=>(e=.normal∨e=.ret)∧∃ vs,FA P s fn.results.toList=some vs∧GW vs=V∧R s.h)):∃ h',A8 P call n f args h=some (V,h')∧R h':=by
 obtain⟨v,h1,h2,rfl,h3⟩:=fV (R:=fun u h''=>u=V∧R h'') hf hb hl hw
 exact⟨h1,h2,h3⟩
def pA (P:Program) (ops:Array Oper):Bool:=(List.range ops.size).all fun k=>match ops[k]? with
 | none=>true
 | some o=>match AB o.op with
  | .read _=>!MZ ops k
  | .act=>!MS ops k
  | .store=>(K4 ops k).isEmpty
  | .new=>true
  | .pure=>match o.op with
   | .call c=>(match c.argTypes.toList with | [t]=>(match P.underlying t with | some (.map _ _)=>false | some (.array _ _)=>false | _=>true) | _=>true)
   | _=>true
theorem Lx {P:Program} {call:AQ} {ops:Array Oper} (hq:pA P ops=true) {start i:Nat} {o:Oper} (ho:ops[i]?=some o) {s s':St} (h:F4 P call ops o s=some s'):OA P call ops start i o s=some s':=by
 have hlt:i<ops.size:=(Array.getElem?_eq_some_iff.1 ho).1
 have hk:=List.all_eq_true.1 hq i (List.mem_range.2 hlt)
 simp only[ho] at hk
 unfold OA
 by_cases hw:D9 ops s.T o=true
 ·rw [if_pos hw]
  cases hc:AB o.op with
  | read a=>
   rw[hc] at hk
   simp only[Bool.not_eq_true'] at hk
   simp[hk,h]
  | act=>
   rw[hc] at hk
   simp only[Bool.not_eq_true'] at hk
   simp[hk,h]
  | new=>exact h
  | store=>
   rw[hc] at hk
   simp only[List.isEmpty_iff] at hk
   simp only[hk,List.all_nil,if_true]
   split
   ·exact h
   ·exact h
   ·exact h
   ·rename_i h1 h1' h2
    cases hop:o.op with
    | store t a x=>exact absurd hop (h1 t a x)
    | mapUpdate t a k x=>exact absurd hop (h2 t a k x)
    | insert t a k x=>exact absurd hop (h1' t a k x)
    | call c=>
     rw[hop] at hc
     simp only[AB] at hc
     split at hc <;> cases hc
    | _=>rw[hop] at hc;simp[AB] at hc
  | pure=>
   rw[hc] at hk
   simp only at hk ⊢
   cases hop:o.op with
   | call c=>
    simp only[hop] at hk ⊢
    split
    ·rename_i r hargs
     exfalso
     obtain⟨v,h',hs,_⟩:=NC hw h
     rw[hop] at hs hc
     simp only[AB] at hc
     simp only[AO,NU,evs,hargs] at hs
     split at hs
     ·split at hs
      ·rename_i t x h1 h2
       cases h2
       simp only[h1] at hk
       simp only[CC] at hs
       split at hk
       ·cases hk
       ·cases hk
       ·rename_i hne1 hne2
        cases hu:P.underlying t with
        | none=>simp[hu] at hs
        | some d=>cases d <;> (first | (simp[hu] at hs;done) | (exact hne1 _ _ hu) | (exact hne2 _ _ hu))
      ·cases hs
     all_goals first | (simp[UX,UN] at hs;done) | (simp_all;done)
    ·exact h
   | _=>exact h
 ·rw[if_neg hw]
  unfold F4 at h
  rw[if_neg hw] at h
  exact h
theorem WK.quiet {P:Program} {call:AQ} {n id:Nat} {ops:Array Oper} {s:St} {k:B9} (hq:pA P ops=true) (h:LU P call n ops ops.toList s k):WK P call n (.region id ops true) s k:=by
 obtain⟨s',h1,h2⟩:=h
 have key:∀ (l:List Oper) (i:Nat) (s:St),(∀ k,l[k]?=ops[i+k]?)→JW P call ops l s=some s'→∀ start,KW P call ops start i l s=some s':=by
  intro l
  induction l with
  | nil=>intro i s _ h start;exact h
  | cons o l ih=>
   intro i s hl h start
   simp only[JW] at h
   split at h
   ·rename_i s1 h3
    have ho:ops[i]?=some o:=by simpa using (hl 0).symm
    simp only[KW,Lx hq ho h3]
    exact ih (i+1) s1 (fun k=>by have:=hl (k+1);simpa [Nat.add_assoc,Nat.add_comm 1 k] using this) h start
   ·cases h
 exact .draw ⟨s',key _ 0 s (by simp) h1 _,h2⟩
theorem Jd {P:Program} {t:TypeId} {x y:Operand} {k:IntKind} {a b:Int}:CR P .and t x y (.int k a) (.int k b)=some (.int k (bits .and k a b)):=by
 simp[CR,flat,B7,BH,Go.eqGuard,Go.binOp,Op.intBits,bits,Bind.bind,Sem.bind,Pure.pure]
theorem zV {P:Program} {t:TypeId} {x y:Operand} {k k':IntKind} {a b:Int} (hb:¬ b<0):CR P .shr t x y (.int k a) (.int k' b)=some (.int k (a.fdiv (2 ^ min b.toNat k.bits))):=by
 simp[CR,flat,B7,BH,Go.eqGuard,Go.binOp,Op.shift,hb,Bind.bind,Sem.bind,Pure.pure]
theorem XS {P:Program} {h:AA} {src dst:TypeId} {d:TypeDesc} {k0 k:IntKind} {x:Int} (hs:P.underlying src=some d) (hd:P.underlying dst=some (.int k)):RE P h src dst (.int k0 x)=some (.int k (k.wrap x)):=by
 simp[RE,hs,hd]
theorem Qx {x:Int} (h1:0≤x) (h2:x<18446744073709551616):IntKind.u64.wrap x=x:=by
 simp[IntKind.wrap,IntKind.bits,IntKind.signed]
 omega
theorem Da (a:Nat):IntKind.u64.wrap (a:Int)=((a%18446744073709551616:Nat):Int):=by
 simp[IntKind.wrap,IntKind.bits,IntKind.signed]
theorem B0 {x:Int} (h1:-9223372036854775808≤x) (h2:x<9223372036854775808):IntKind.i64.wrap x=x:=by
 simp[IntKind.wrap,IntKind.bits,IntKind.signed]
 omega
theorem rQ {p q:Prop}:((true=true→p)∧(true=false→q))=p:=by
 apply propext;exact⟨fun h=>h.1 rfl,fun h=>⟨fun _=>h,fun h=>(by cases h)⟩⟩
theorem iT {p q:Prop}:((false=true→p)∧(false=false→q))=q:=by
 apply propext;exact⟨fun h=>h.2 rfl,fun h=>⟨fun h=>(by cases h),fun _=>h⟩⟩
theorem LN {b:Bool}:flat (.bool b)=true:=rfl
theorem YJ {k:IntKind} {x:Int}:flat (.int k x)=true:=rfl
theorem jT {P:Program} {b:Bool}:BH P (Op.unary .not (.bool b))=some (.bool !b):=rfl
theorem sI {P:Program} {k:IntKind} {x:Int}:BH P (Op.unary .neg (.int k x))=some (.int k (k.wrap (0-x))):=rfl
theorem C4 {P:Program} {α β:Type} (m:Sem α) (f:α→Sem β):BH P (m >>= f)=(BH P m).bind fun a=>BH P (f a):=by
 induction m with
 | pure a=>rfl
 | program k ih=>exact ih P
 | mark x k ih=>exact ih
 | _=>rfl
theorem NR {P:Program} {t:TypeId} {d:TypeDesc} (h:P.underlying t=some d):BH P (underlying t)=some d:=by
 show BH P (Sem.bind program _)=_
 simp[program,Sem.bind,BH,h,Pure.pure]
theorem pH {P:Program} {t:TypeId} {a b:Bool} (h:P.underlying t=some .bool):BH P (Op.equal t (.bool a) (.bool b))=some (a==b):=by
 have key:∀ d,BH P (Op.equalIn (d+1) t (.bool a) (.bool b))=some (a==b):=by
  intro d
  rw[Op.equalIn,C4,NR h]
  rfl
 exact key 9999
theorem Pa {P:Program} {t:TypeId} {x y:Operand} {a b:Bool} (h:P.underlying t=some .bool):CR P .eql t x y (.bool a) (.bool b)=some (.bool (a==b)):=by
 have e:BH P (do eqGuard .eql t x y (.bool a) (.bool b);binOp .eql t (.bool a) (.bool b))=some (.bool (a==b)):=by
  show BH P ((do pure (.bool (← Op.equal t (.bool a) (.bool b)))):Sem Value)=_
  rw[C4,pH h]
  rfl
 simp only[CR,LN,Bool.and_self,if_true,e]
theorem Iq {P:Program} {t:TypeId} {x y:Operand} {a b:Bool} (h:P.underlying t=some .bool):CR P .neq t x y (.bool a) (.bool b)=some (.bool (a != b)):=by
 have e:BH P (do eqGuard .neq t x y (.bool a) (.bool b);binOp .neq t (.bool a) (.bool b))=some (.bool (a != b)):=by
  show BH P ((do pure (.bool (!(← Op.equal t (.bool a) (.bool b))))):Sem Value)=_
  rw[C4,pH h]
  rfl
 simp only[CR,LN,Bool.and_self,if_true,e]
def P9 (h:AA) (v:Value) (l:List Int):Prop:=∃ a c,v=.slice a l.length c∧(∀ b,a=some b→b.spot=none)∧∀ k x,l[k]?=some x→∃ id off cs ty g ro,a=some ⟨id,off,none⟩∧h.get id=.row cs ty g ro∧cs[off+k]?=some (.int .i64 x)
section
variable {P:Program} {h:AA} {v:Value} {l:List Int} {t e:TypeId}
theorem P9.len (hv:P9 h v l) (ht:P.underlying t=some (.slice e)):CC P h t v=some (.int .i64 l.length):=by
 obtain⟨a,c,rfl,_,_⟩:=hv
 simp[CC,ht]
theorem P9.idx (hv:P9 h v l) (ht:P.underlying t=some (.slice e)) (he:BQ P e=some 1) (ha:FI P e=some false) {k:Nat} {x:Int} (hk:l[k]?=some x) {kd:IntKind} :
  ∃ p,CU P t v (.int kd k)=some p∧EL P h e p=some (.int .i64 x):=by
 obtain⟨a,c,rfl,_,hall⟩:=hv
 obtain⟨id,off,cs,ty,g,ro,rfl,hg,hc⟩:=hall k x hk
 have hlt:k<l.length:=(List.getElem?_eq_some_iff.1 hk).1
 refine⟨.pointer (some ⟨id,off+k,none⟩),?_,?_⟩
 ·simp[CU,ht,he,hlt,Addr.add]
 ·simp[EL,hg,ha,hc]
end
def DS (ops:Array Oper):List (Bool × Bool × List Operand):=(List.range ops.size).map fun k=>(MZ ops k,MS ops k,K4 ops k)
noncomputable def AE (op:Op) (T:Tr):Bool:=match op with
 | .call c=>(match c.args.toList.map (ev T) with | [.map _]=>false | _=>true)
 | _=>true
def DO:Op→Operand
 | .store _ a _=>a
 | .mapUpdate _ m _ _=>m
 | .insert _ m _ _=>m
 | _=>.const undef
section
variable (P:Program) (call:AQ) (n:Nat) (ops:Array Oper) (start:Nat)
noncomputable def MT (f:Bool × Bool × List Operand) (o:Oper) (s:St):Option St:=
 if D9 ops s.T o then match AB o.op with
  | .read a=>if f.1 && !ahead start (DW (ev s.T a)) then none else F4 P call ops o s
  | .act=>if f.2.1 then match F4 P call ops o ⟨s.T,s.h.fl (max s.h.floor start)⟩ with
    | some s'=>some ⟨s'.T,s'.h.fl s.h.floor⟩
    | none=>none
   else F4 P call ops o s
  | .store=>if f.2.2.all (fun x=>DW (ev s.T x) != DW (ev s.T (DO o.op))) then F4 P call ops o s else none
  | .pure=>if AE o.op s.T then F4 P call ops o s else none
  | .new=>F4 P call ops o s
 else some ⟨s.T.put o.dst undef,s.h⟩
theorem Ou {i:Nat} {o:Oper} {s s':St} (h:MT P call ops start (MZ ops i,MS ops i,K4 ops i) o s=some s'):OA P call ops start i o s=some s':=by
 unfold MT at h
 unfold OA
 by_cases hw:D9 ops s.T o=true
 ·rw [if_pos hw] at h ⊢
  cases hc:AB o.op with
  | read a=>rw[hc] at h;exact h
  | act=>rw[hc] at h;exact h
  | new=>rw[hc] at h;exact h
  | store=>
   rw[hc] at h
   cases hop:o.op with
   | store t a x=>rw[hop] at h;exact h
   | mapUpdate t a k x=>rw[hop] at h;exact h
   | insert t a k x=>rw[hop] at h;exact h
   | call c=>
    rw[hop] at hc
    simp only[AB] at hc
    split at hc <;> cases hc
   | _=>rw[hop] at hc;simp[AB] at hc
  | pure=>
   rw[hc] at h
   simp only at h ⊢
   cases hop:o.op with
   | call c=>
    simp only[hop,AE] at h ⊢
    split
    ·rename_i r hr
     rw[hr] at h
     simp at h
    ·rename_i hne
     split at h
     ·rename_i r hr;exact absurd hr (hne r)
     ·exact h
   | _=>simp only[hop,AE,if_true] at h ⊢;exact h
 ·rw[if_neg hw] at h ⊢
  exact h
noncomputable def SU:List (Bool × Bool × List Operand)→List Oper→St→Option St
 | _,[],s=>some s
 | f :: fs,o :: l,s=>match MT P call ops start f o s with
  | some s'=>SU fs l s'
  | none=>none
 | [],_ :: _,_=>none
def BV (fs:List (Bool × Bool × List Operand)) (l:List Oper) (s:St) (k:B9):Prop:=∃ s',SU P call ops start fs l s=some s'∧k.ap P call n .normal s'
def OR (fs:List (Bool × Bool × List Operand)) (l:List Oper) (dst:Option Tmp) (T:Tr) (fl:Nat) (k:B9):Option (Value × AA)→Prop
 | some (v,h)=>BV P call n ops start fs l ⟨T.put dst v,h.fl fl⟩ k
 | none=>False
def AD (lr la:Bool) (ls:List Operand) (fs:List (Bool × Bool × List Operand)) (o:Oper) (l:List Oper) (s:St) (k:B9):Q2→Prop
 | .read a=>(lr=true→ahead start (DW (ev s.T a))=true)∧OR P call n ops start fs l o.dst s.T s.h.floor k (AO P call s.T s.h o.op)
 | .act=>OR P call n ops start fs l o.dst s.T s.h.floor k (AO P call s.T (if la then s.h.fl (max s.h.floor start) else s.h) o.op)
 | .store=>(ls.all (fun x=>DW (ev s.T x) != DW (ev s.T (DO o.op)))=true)∧OR P call n ops start fs l o.dst s.T s.h.floor k (AO P call s.T s.h o.op)
 | .pure=>AE o.op s.T=true∧OR P call n ops start fs l o.dst s.T s.h.floor k (AO P call s.T s.h o.op)
 | .new=>OR P call n ops start fs l o.dst s.T s.h.floor k (AO P call s.T s.h o.op)
end
section
variable {P:Program} {call:AQ} {n:Nat} {ops:Array Oper} {start:Nat} {fs:List (Bool × Bool × List Operand)} {l:List Oper} {s:St} {k:B9}
theorem IB (h:AA):h.fl h.floor=h:=rfl
theorem BV.cons {lr la:Bool} {ls:List Operand} {o:Oper} (hsn:∀ v h',∀ h:AA,AO P call s.T h o.op=some (v,h')→h'.floor=h.floor)
  (h:if D9 ops s.T o then AD P call n ops start lr la ls fs o l s k (AB o.op) else BV P call n ops start fs l ⟨s.T.put o.dst undef,s.h⟩ k):BV P call n ops start ((lr,la,ls) :: fs) (o :: l) s k:=by
 by_cases hw:D9 ops s.T o=true
 ·rw [if_pos hw] at h
  have GX:OR P call n ops start fs l o.dst s.T s.h.floor k (AO P call s.T s.h o.op)→∃ s',F4 P call ops o s=some s'∧BV P call n ops start fs l s' k:=by
   intro h
   cases hs:AO P call s.T s.h o.op with
   | none=>rw[hs] at h;exact h.elim
   | some r=>
    obtain⟨v,h'⟩:=r
    rw[hs] at h
    have hf:=hsn v h' s.h hs
    refine⟨⟨s.T.put o.dst v,h'⟩,by simp only[F4,hw,if_true,hs],?_⟩
    have e:h'.fl s.h.floor=h':=by rw[← hf];rfl
    have h2:BV P call n ops start fs l ⟨s.T.put o.dst v,h'.fl s.h.floor⟩ k:=h
    rw[e] at h2
    exact h2
  have fin:∀ s',MT P call ops start (lr,la,ls) o s=some s'→BV P call n ops start fs l s' k→BV P call n ops start ((lr,la,ls) :: fs) (o :: l) s k:=by
   rintro s' h1 ⟨s2,h2,h3⟩
   exact⟨s2,by simp only[SU,h1,h2],h3⟩
  cases hc:AB o.op with
  | read a=>
   rw[hc] at h
   obtain⟨h0,h1⟩:=h
   obtain⟨s',h2,h3⟩:=GX h1
   refine fin s' ?_ h3
   unfold MT
   rw[if_pos hw,hc]
   simp only
   cases lr with
   | false=>simpa using h2
   | true=>rw[h0 rfl];simpa using h2
  | new=>
   rw[hc] at h
   obtain⟨s',h2,h3⟩:=GX h
   refine fin s' ?_ h3
   unfold MT
   rw[if_pos hw,hc]
   exact h2
  | pure=>
   rw[hc] at h
   obtain⟨h0,h1⟩:=h
   obtain⟨s',h2,h3⟩:=GX h1
   refine fin s' ?_ h3
   unfold MT
   rw[if_pos hw,hc]
   simp only[h0,if_true]
   exact h2
  | store=>
   rw[hc] at h
   obtain⟨h0,h1⟩:=h
   obtain⟨s',h2,h3⟩:=GX h1
   refine fin s' ?_ h3
   unfold MT
   rw[if_pos hw,hc]
   simp only[h0,if_true]
   exact h2
  | act=>
   rw[hc] at h
   cases la with
   | false=>
    obtain⟨s',h2,h3⟩:=GX h
    refine fin s' ?_ h3
    unfold MT
    rw[if_pos hw,hc]
    simpa using h2
   | true=>
    have h:OR P call n ops start fs l o.dst s.T s.h.floor k (AO P call s.T (s.h.fl (max s.h.floor start)) o.op):=h
    cases hs:AO P call s.T (s.h.fl (max s.h.floor start)) o.op with
    | none=>rw[hs] at h;exact h.elim
    | some r=>
     obtain⟨v,h'⟩:=r
     rw[hs] at h
     refine fin ⟨s.T.put o.dst v,h'.fl s.h.floor⟩ ?_ h
     unfold MT
     rw[if_pos hw,hc]
     simp only[F4,hw,if_true,hs]
 ·rw[if_neg hw] at h
  obtain⟨s2,h2,h3⟩:=h
  refine⟨s2,?_,h3⟩
  simp only[SU,MT]
  rw[if_neg hw]
  exact h2
theorem Y4 {dst:Option Tmp} {T:Tr} {fl:Nat} {v:Value} {h:AA}:OR P call n ops start fs l dst T fl k (some (v,h))=BV P call n ops start fs l ⟨T.put dst v,h.fl fl⟩ k:=rfl
theorem YT:BV P call n ops start fs [] s k=k.ap P call n .normal s:=by
 apply propext
 refine⟨fun ⟨s',h1,h2⟩=>?_,fun h=>⟨s,by cases fs <;> rfl,h⟩⟩
 cases fs <;> (cases h1;exact h2)
theorem D4 {h:AA} {a b:Nat}:(h.fl a).fl b=h.fl b:=rfl
theorem VO {h:AA}:h.fl h.floor=h:=rfl
theorem C8 {h:AA} {a:Nat}:(h.fl a).floor=a:=rfl
theorem WK.flags {id:Nat} {fs:List (Bool × Bool × List Operand)} (hf:DS ops=fs) (h:BV P call n ops s.h.next fs ops.toList s k):WK P call n (.region id ops true) s k:=by
 obtain⟨s',h1,h2⟩:=h
 refine WS.draw ⟨s',?_,h2⟩
 have key:∀ (l:List Oper) (i:Nat) (s:St) (start:Nat),(∀ k,l[k]?=ops[i+k]?)→i+l.length=ops.size→SU P call ops start (fs.drop i) l s=some s'→KW P call ops start i l s=some s':=by
  intro l
  induction l with
  | nil=>intro i s start _ _ h;cases hd:fs.drop i <;> (rw[hd] at h;exact h)
  | cons o l ih=>
   intro i s start hl hlen h
   have hi:i<ops.size:=by simp at hlen;omega
   have hfi:fs[i]?=some (MZ ops i,MS ops i,K4 ops i):=by
    rw[← hf]
    unfold DS
    rw[List.getElem?_map,List.getElem?_range hi]
    rfl
   have hlt:i<fs.length:=(List.getElem?_eq_some_iff.1 hfi).1
   rw[List.drop_eq_getElem_cons hlt] at h
   have he:fs[i]=(MZ ops i,MS ops i,K4 ops i):=by
    rw[List.getElem?_eq_getElem hlt] at hfi
    exact Option.some.inj hfi
   rw[he] at h
   simp only[SU] at h
   split at h
   ·rename_i s1 h3
    simp only[KW,Ou P call ops start h3]
    exact ih (i+1) s1 start (fun k=>by have:=hl (k+1);simpa [Nat.add_assoc,Nat.add_comm 1 k] using this) (by simp at hlen;omega) h
   ·cases h
 exact key _ 0 s _ (by simp) (by simp) (by simpa using h1)
end
def QA (r:Nat):Code→Option (Array Oper)
 | .region i ops _=>if i=r then some ops else none
 | .seq a b=>match QA r a with
  | some o=>some o
  | none=>QA r b
 | .cond _ a b=>match QA r a with
  | some o=>some o
  | none=>QA r b
 | .block _ c=>QA r c
 | .loop c=>QA r c
 | _=>none
def DR (fn:Func) (r:Nat):Array Oper:=match fn.body with
 | some c=>(QA r c).getD #[]
 | none=>#[]
def seen (o:Oper):Option Tmp × Op × Option (Nat × Bool):=(o.dst,o.op,o.guard)
section
variable {P:Program} {call:AQ} {n:Nat} {ops:Array Oper} {start:Nat} {F:List (Bool × Bool × List Operand)} {s:St} {k:B9}
theorem Lq {T:Tr} {o o':Oper} (h:seen o=seen o'):D9 ops T o=D9 ops T o':=by
 simp only[seen,Prod.mk.injEq] at h
 unfold D9
 rw[h.2.2]
theorem Qr {lr la:Bool} {ls:List Operand} {fs:List (Bool × Bool × List Operand)} {o o':Oper} {l:List Oper} {c:Q2} (h:seen o=seen o') :
  AD P call n ops start lr la ls fs o l s k c=AD P call n ops start lr la ls fs o' l s k c:=by
 simp only[seen,Prod.mk.injEq] at h
 cases c <;> simp only[AD,h.1,h.2.1]
theorem BV.begin (h:BV P call n ops start (F.drop 0) (ops.toList.drop 0) s k):BV P call n ops start F ops.toList s k:=h
theorem BV.at (i:Nat) (dst:Option Tmp) (op:Op) (g:Option (Nat × Bool)) {lr la:Bool} {ls:List Operand} (hi:(ops[i]?).map seen=some (dst,op,g)) (hf:F[i]?=some (lr,la,ls))
  (hsn:∀ v h',∀ h:AA,AO P call s.T h op=some (v,h')→h'.floor=h.floor)
  (h : if D9 ops s.T ⟨dst, op, 0, "", #[], g⟩ then AD P call n ops start lr la ls (F.drop (i + 1)) ⟨dst, op, 0, "", #[], g⟩ (ops.toList.drop (i + 1)) s k (AB op)
   else BV P call n ops start (F.drop (i+1)) (ops.toList.drop (i+1)) ⟨s.T.put dst undef,s.h⟩ k):BV P call n ops start (F.drop i) (ops.toList.drop i) s k:=by
 cases ho:ops[i]? with
 | none=>rw[ho] at hi;cases hi
 | some o=>
  rw[ho] at hi
  have hs : seen o = seen ⟨dst, op, 0, "", #[], g⟩ := by simpa [seen] using hi
  have hop:o.op=op:=congrArg (·.2.1) hs
  have hdst:o.dst=dst:=congrArg (·.1) hs
  have e1:F.drop i=(lr,la,ls) :: F.drop (i+1):=by
   obtain⟨hl,he⟩:=List.getElem?_eq_some_iff.1 hf
   rw[List.drop_eq_getElem_cons hl,he]
  have ho':ops.toList[i]?=some o:=by simpa using ho
  have e2:ops.toList.drop i=o :: ops.toList.drop (i+1):=by
   obtain⟨hl,he⟩:=List.getElem?_eq_some_iff.1 ho'
   rw[List.drop_eq_getElem_cons hl,he]
  rw[e1,e2]
  refine BV.cons (by rw[hop];exact hsn) ?_
  rw[Lq hs,Qr hs,hop,hdst]
  exact h
theorem BV.done {i:Nat} (hl:ops.toList.drop i=[]) (h:k.ap P call n .normal s):BV P call n ops start (F.drop i) (ops.toList.drop i) s k:=by
 rw[hl,YT]
 exact h
end
end Go.Sx
namespace Go.Proofs.YtipekdhneagdbaaDoor
open Go Go.Sx
set_option maxRecDepth 100000
set_option linter.unusedSimpArgs false
set_option linter.unusedVariables false
set_option maxHeartbeats 64000000
theorem E9 {cs:Array Value}:(Value.agg cs).cells=cs:=rfl
theorem LE {k:IntKind} {x:Int}:one (.int k x)=true:=rfl
theorem N7 {x:ByteArray}:one (.string x)=true:=rfl
theorem mJ {x:Bool}:one (.bool x)=true:=rfl
theorem DL {h:AA} {o:BE}:(h.push o).next=h.next+1:=rfl
theorem DK {h:AA} {o:BE}:(h.push o).floor=h.floor:=rfl
theorem JH {h:AA} {o:BE} {i:Nat}:(h.put i o).next=h.next:=rfl
theorem OE {h:AA} {o:BE} {i:Nat}:(h.put i o).floor=h.floor:=rfl
theorem tI {m f:Nat}:(EJ m f).next=m:=rfl
theorem jI {m f:Nat}:(EJ m f).floor=f:=rfl
theorem KM {h:AA} {o:BE} {i:Nat}:(h.push o).get i=if i=h.next then o else h.get i:=by
 split
 ·rename_i e;subst e;exact BP
 ·rename_i e;exact N6 e
theorem RR {h:AA} {o:BE} {i j:Nat}:(h.put i o).get j=if j=i then (if i<h.next then o else .dead) else h.get j:=by
 by_cases hi:i<h.next
 ·split
  ·rename_i e;subst e;exact BN rfl hi
  ·rename_i e;exact AM hi (Ne.symm e)
 ·split
  ·rename_i e;subst e;exact JF (by show h.next≤j;omega)
  ·rename_i e
   by_cases hj:j<h.next
   ·unfold AA.get AA.put
    simp only[hj,if_true]
    rw[EH.get_set,if_neg e]
   ·rw[JF (by show h.next≤j;omega),JF (by omega)]
theorem EE {h:AA} {o:BE} {f:Nat}:(h.push o).fl f=(h.fl f).push o:=rfl
theorem QH {h:AA} {o:BE} {i f:Nat}:(h.put i o).fl f=(h.fl f).put i o:=rfl
theorem lW {m f f':Nat}:(EJ m f').fl f=EJ m f:=rfl
theorem DD {h:AA} {f:Nat}:(h.fl f).next=h.next:=rfl
theorem GL {h:AA} {f i:Nat}:(h.fl f).get i=h.get i:=rfl
theorem JY {m id off:Nat}:Sx.ahead m (DW (.pointer (some ⟨id,off,none⟩)))=decide (id<m):=rfl
theorem CF {id off n:Nat}:(⟨id,off,none⟩:Addr).add n=⟨id,off+n,none⟩:=by
 unfold Addr.add
 split
 ·rename_i e;subst e;rfl
 ·rfl
def AS (off:Nat):BE→Option Value
 | .row cs _ _ _=>cs[off]?
 | _=>none
def CB (n off:Nat):BE→Option Value
 | .row cs _ _ _=>match F2 cs off n with
  | some l=>some (.agg l.toArray)
  | none=>none
 | _=>none
theorem KV {P:Program} {t:TypeId} {h:AA} {id off:Nat} (ha:FI P t=some false):EL P h t (.pointer (some ⟨id,off,none⟩))=AS off (h.get id):=by
 simp only[EL,ha]
 cases h.get id <;> rfl
theorem MV {P:Program} {t:TypeId} {n:Nat} {h:AA} {id off:Nat} (ha:FI P t=some true) (hs:BQ P t=some n):EL P h t (.pointer (some ⟨id,off,none⟩))=CB n off (h.get id):=by
 simp only[EL,ha,hs]
 cases h.get id <;> rfl
theorem ZC:FI Tryd.prog 3=some false:=by kernel_rfl
theorem Md:FI Tryd.prog 9=some false:=by kernel_rfl
theorem Kj:FI Tryd.prog 4=some false:=by kernel_rfl
theorem Im:FI Tryd.prog 46=some true:=by kernel_rfl
theorem Nf:FI Tryd.prog 123=some true:=by kernel_rfl
theorem CQ:BQ Tryd.prog 3=some 1:=by kernel_rfl
theorem GH:BQ Tryd.prog 9=some 1:=by kernel_rfl
theorem VB:BQ Tryd.prog 4=some 1:=by kernel_rfl
theorem HF:BQ Tryd.prog 46=some 5:=by kernel_rfl
theorem rL:BQ Tryd.prog 123=some 5:=by kernel_rfl
theorem GO:DV Tryd.prog 46=some (.agg #[.int .i64 0,.string ByteArray.empty,.int .i64 0,.int .i64 0,.int .i64 0]):=by kernel_rfl
theorem kH:DV Tryd.prog 123=some (.agg #[.bool false,.bool false,.bool false,.int .i64 0,.int .i64 0]):=by kernel_rfl
theorem C9 {a b c d e:Value}:flat (.agg #[a,b,c,d,e])=(B7 a&&(B7 b&&(B7 c&&(B7 d&&(B7 e&&true))))):=by simp[flat,Bool.and_assoc]
theorem LW {k:IntKind} {x:Int}:B7 (.int k x)=true:=rfl
theorem PW {x:ByteArray}:B7 (.string x)=true:=rfl
theorem h_ {x:Bool}:B7 (.bool x)=true:=rfl
theorem A_ {h:AA} {id off:Nat}:EL Tryd.prog h 3 (.pointer (some ⟨id,off,none⟩))=AS off (h.get id):=KV ZC
theorem FQ {h:AA} {id off:Nat}:EL Tryd.prog h 9 (.pointer (some ⟨id,off,none⟩))=AS off (h.get id):=KV Md
theorem RT {h:AA} {id off:Nat}:EL Tryd.prog h 4 (.pointer (some ⟨id,off,none⟩))=AS off (h.get id):=KV Kj
theorem ID {h:AA} {id off:Nat}:EL Tryd.prog h 46 (.pointer (some ⟨id,off,none⟩))=CB 5 off (h.get id):=MV Im HF
theorem lX {h:AA} {id off:Nat}:EL Tryd.prog h 123 (.pointer (some ⟨id,off,none⟩))=CB 5 off (h.get id):=MV Nf rL
theorem JQ {a:Value} {l:List Value} {ty:TypeId} {g ro:Bool}:AS 0 (.row (a :: l) ty g ro)=some a:=rfl
theorem SS {a b:Value} {l:List Value} {ty:TypeId} {g ro:Bool}:AS 1 (.row (a :: b :: l) ty g ro)=some b:=rfl
theorem U1 {a b c:Value} {l:List Value} {ty:TypeId} {g ro:Bool}:AS 2 (.row (a :: b :: c :: l) ty g ro)=some c:=rfl
theorem QM {a b c d:Value} {l:List Value} {ty:TypeId} {g ro:Bool}:AS 3 (.row (a :: b :: c :: d :: l) ty g ro)=some d:=rfl
theorem nM {a b c d e:Value} {l:List Value} {ty:TypeId} {g ro:Bool}:AS 4 (.row (a :: b :: c :: d :: e :: l) ty g ro)=some e:=rfl
theorem pV {a b c d e:Value} {ty:TypeId} {g ro:Bool}:CB 5 0 (.row [a,b,c,d,e] ty g ro)=some (.agg #[a,b,c,d,e]):=rfl
noncomputable def N9 (t:TypeId) (h:AA) (id:Nat) (a b c d e:Value):BE→Option AA
 | .row [_,_,_,_,_] ty g false=>if h.floor≤id∧[a,b,c,d,e].all one=true then some (h.put id (.row [a,b,c,d,e] ty g false)) else BJ Tryd.prog h t (.pointer (some ⟨id,0,none⟩)) (.agg #[a,b,c,d,e])
 | _=>BJ Tryd.prog h t (.pointer (some ⟨id,0,none⟩)) (.agg #[a,b,c,d,e])
theorem kX {t:TypeId} (ht:BQ Tryd.prog t=some 5) {h:AA} {id:Nat} {a b c d e:Value}:BJ Tryd.prog h t (.pointer (some ⟨id,0,none⟩)) (.agg #[a,b,c,d,e])=N9 t h id a b c d e (h.get id):=by
 unfold N9
 split
 ·rename_i v w x y z ty g hg
  split
  ·rename_i hc
   have hone:([a,b,c,d,e].all one)=true:=hc.2
   have hl:Go.Sx.lay [v,w,x,y,z] 0 [a,b,c,d,e]=[a,b,c,d,e]:=rfl
   have hcells:(Value.agg #[a,b,c,d,e]).cells=#[a,b,c,d,e]:=rfl
   simp only[BJ,hcells,ht,G4,hg]
   have hsz:(some 5:Option Nat)=some (#[a,b,c,d,e]:Array Value).size:=rfl
   rw[if_pos hsz,if_pos (by simp only[List.length_cons,List.length_nil,hone];simp[hc.1])]
   rfl
  ·rfl
 ·rfl
theorem DA {h:AA} {id:Nat} {a b c d e:Value}:BJ Tryd.prog h 46 (.pointer (some ⟨id,0,none⟩)) (.agg #[a,b,c,d,e])=N9 46 h id a b c d e (h.get id):=kX HF
theorem iC {h:AA} {id:Nat} {a b c d e:Value}:BJ Tryd.prog h 123 (.pointer (some ⟨id,0,none⟩)) (.agg #[a,b,c,d,e])=N9 123 h id a b c d e (h.get id):=kX rL
theorem SC {t:TypeId} {h:AA} {id:Nat} {a b c d e v w x y z:Value} {ty:TypeId} {g:Bool}:N9 t h id a b c d e (.row [v,w,x,y,z] ty g false) =
  if h.floor≤id∧[a,b,c,d,e].all one=true then some (h.put id (.row [a,b,c,d,e] ty g false)) else BJ Tryd.prog h t (.pointer (some ⟨id,0,none⟩)) (.agg #[a,b,c,d,e]):=rfl
theorem sL {a b c d e:Value}:#[a,b,c,d,e].toList.all one=(one a&&(one b&&(one c&&(one d&&(one e&&true))))):=by simp[Bool.and_assoc]
section
variable {id off:Nat}
theorem DP:BC Tryd.prog 46 (.pointer (some ⟨id,off,none⟩)) 0=some (.pointer (some ⟨id,off,none⟩)):=by simp[BC,Tryd.underlying46,CQ,CF]
theorem LS:BC Tryd.prog 46 (.pointer (some ⟨id,off,none⟩)) 1=some (.pointer (some ⟨id,off+1,none⟩)):=by simp[BC,Tryd.underlying46,GH,CF]
theorem R_:BC Tryd.prog 46 (.pointer (some ⟨id,off,none⟩)) 2=some (.pointer (some ⟨id,off+2,none⟩)):=by simp[BC,Tryd.underlying46,CQ,CF]
theorem JP:BC Tryd.prog 46 (.pointer (some ⟨id,off,none⟩)) 3=some (.pointer (some ⟨id,off+3,none⟩)):=by simp[BC,Tryd.underlying46,CQ,CF]
theorem eS:BC Tryd.prog 46 (.pointer (some ⟨id,off,none⟩)) 4=some (.pointer (some ⟨id,off+4,none⟩)):=by simp[BC,Tryd.underlying46,CQ,CF]
theorem YD:BC Tryd.prog 123 (.pointer (some ⟨id,off,none⟩)) 0=some (.pointer (some ⟨id,off,none⟩)):=by simp[BC,Tryd.underlying123,VB,CF]
theorem ZB:BC Tryd.prog 123 (.pointer (some ⟨id,off,none⟩)) 1=some (.pointer (some ⟨id,off+1,none⟩)):=by simp[BC,Tryd.underlying123,VB,CF]
theorem Y3:BC Tryd.prog 123 (.pointer (some ⟨id,off,none⟩)) 2=some (.pointer (some ⟨id,off+2,none⟩)):=by simp[BC,Tryd.underlying123,VB,CF]
theorem uV:BC Tryd.prog 123 (.pointer (some ⟨id,off,none⟩)) 3=some (.pointer (some ⟨id,off+3,none⟩)):=by simp[BC,Tryd.underlying123,CQ,CF]
theorem iE:BC Tryd.prog 123 (.pointer (some ⟨id,off,none⟩)) 4=some (.pointer (some ⟨id,off+4,none⟩)):=by simp[BC,Tryd.underlying123,CQ,CF]
end
theorem MN (a:ByteArray):(a==a)=true:=by
 cases a with
 | mk d=>show (d==d)=true;simp
theorem kU (a b:ByteArray):(a.toList==b.toList)=(a==b):=by
 rw[ByteArray.toList_eq,ByteArray.toList_eq]
 apply Bool.eq_iff_iff.2
 constructor
 ·intro h
  have h1:a.data.toList=b.data.toList:=by simpa using h
  have h2:a=b:=by
   cases a;cases b
   simp only[ByteArray.mk.injEq]
   exact Array.toList_inj.1 h1
  subst h2
  exact MN a
 ·intro h
  have:=LK h
  subst this
  simp
theorem xW {P:Program} {t:TypeId} {x y:Operand} {a b:ByteArray}:CR P .eql t x y (.string a) (.string b)=some (.bool (a==b)):=by
 have e:BH P (do eqGuard .eql t x y (.string a) (.string b);binOp .eql t (.string a) (.string b))=some (.bool (a==b)):=by
  rw[C4]
  have g:BH P (eqGuard .eql t x y (.string a) (.string b))=some ():=rfl
  rw[g,← kU]
  simp[binOp,Op.stringOp,Option.bind]
  rfl
 have hf:flat (.string a)=true:=rfl
 have hf2:flat (.string b)=true:=rfl
 simp only[CR,hf,hf2,LN,Bool.and_self,if_true,e]
theorem UP {x y:Operand} {a b:ByteArray}:CR Tryd.prog .eql 9 x y (.string a) (.string b)=some (.bool (a==b)):=xW
theorem UD {x y:Operand} {a b:Bool}:CR Tryd.prog .eql 4 x y (.bool a) (.bool b)=some (.bool (a==b)):=Pa Tryd.underlying4
theorem tY {x y:Operand} {a b:Bool}:CR Tryd.prog .neq 4 x y (.bool a) (.bool b)=some (.bool (a != b)):=Iq Tryd.underlying4
def AI (r:AC):List Value:=[.int .i64 r.kind,.string r.name,.int .i64 r.ends,.int .i64 r.n,.int .i64 r.kids]
theorem OI {h:AA} {a:Option Addr} {n c:Nat}:CC Tryd.prog h 22 (.slice a n c)=some (.int .i64 n):=by simp[CC,Tryd.underlying22]
def AV (h:AA) (v:Value) (l:List AC):Prop:=
 ∃ a c,v=.slice a l.length c∧((l=[]∧a=none)∨∃ id off cs ty g ro,a=some ⟨id,off,none⟩∧h.get id=.row cs ty g ro∧id<h.next∧∀ k r,l[k]?=some r→(cs.drop (off+k*5)).take 5=AI r)
theorem AV.row {h:AA} {v:Value} {l:List AC} (hv:AV h v l) {k:Nat} {r:AC} (hk:l[k]?=some r) :
  ∃ id p,CU Tryd.prog 22 v (.int .i64 (k:Int))=some (.pointer (some ⟨id,p,none⟩))∧id<h.next∧AS p (h.get id)=some (.int .i64 r.kind)∧AS (p+1) (h.get id)=some (.string r.name)∧AS (p+2) (h.get id)=some (.int .i64 r.ends) ∧
   AS (p+3) (h.get id)=some (.int .i64 r.n)∧AS (p+4) (h.get id)=some (.int .i64 r.kids)∧CB 5 p (h.get id)=some (.agg #[.int .i64 r.kind,.string r.name,.int .i64 r.ends,.int .i64 r.n,.int .i64 r.kids]):=by
 obtain⟨a,c,rfl,⟨rfl,_⟩ | ⟨id,off,cs,ty,g,ro,rfl,hg,hid,hc⟩⟩:=hv
 ·simp at hk
 ·have hlt:=(List.getElem?_eq_some_iff.1 hk).1
  have hcut:=hc k r hk
  have hat:∀ j,j<5→cs[off+k*5+j]?=(AI r)[j]?:=fun j hj=>by
   rw[← hcut,List.getElem?_take_of_lt hj,List.getElem?_drop]
  refine⟨id,off+k*5,?_,hid,?_,?_,?_,?_,?_,?_⟩
  ·simp only[CU,Tryd.underlying22,HF,CF]
   rw[if_pos (by omega)]
   simp
  ·rw[hg];exact hat 0 (by decide)
  ·rw[hg];exact hat 1 (by decide)
  ·rw[hg];exact hat 2 (by decide)
  ·rw[hg];exact hat 3 (by decide)
  ·rw[hg];exact hat 4 (by decide)
  ·rw[hg]
   simp only[CB,F2,hcut]
   rfl
theorem AV.len {h:AA} {v:Value} {l:List AC} (hv:AV h v l) {h':AA}:CC Tryd.prog h' 22 v=some (.int .i64 l.length):=by
 obtain⟨a,c,rfl,_⟩:=hv
 exact OI
theorem AV.mono {h h':AA} {v:Value} {l:List AC} (hv:AV h v l) (hn:h.next≤h'.next) (hg:∀ i,i<h.next→h'.get i=h.get i):AV h' v l:=by
 obtain⟨a,c,rfl,h1 | ⟨id,off,cs,ty,g,ro,rfl,h1,hid,hc⟩⟩:=hv
 ·exact⟨_,_,rfl,.inl h1⟩
 ·exact⟨_,_,rfl,.inr ⟨id,off,cs,ty,g,ro,rfl,by rw[hg id hid];exact h1,by omega,hc⟩⟩
theorem X0:type_of% (And.intro @IS.eq_1 (And.intro @IS.eq_2 (And.intro @NU.eq_1 (And.intro @evs.eq_1 (And.intro @FA.eq_1 (And.intro @FA.eq_2 (And.intro @FA.eq_3 (And.intro @GW.eq_1 (And.intro @GW.eq_2 (And.intro @AO.eq_1 (And.intro @AO.eq_2 (And.intro @AO.eq_3 (And.intro @AO.eq_4 (And.intro @AO.eq_5 (And.intro @AO.eq_6 (And.intro @AO.eq_7 (And.intro @AO.eq_8 (And.intro @AO.eq_9 (And.intro @AO.eq_10 (And.intro @AO.eq_11 (And.intro @AO.eq_12 (And.intro @AO.eq_13 (And.intro @AO.eq_14 (And.intro @AO.eq_15 (And.intro @AO.eq_16 (And.intro @AO.eq_17 (And.intro @AO.eq_18 (And.intro @AO.eq_19 (And.intro @AO.eq_20 (And.intro @AO.eq_21 (And.intro @AO.eq_22 (And.intro @AO.eq_23 (And.intro @AO.eq_24 (And.intro @AO.eq_25 (And.intro @AO.eq_26 (And.intro @AO.eq_27 @AO.eq_28)))))))))))))))))))))))))))))))))))):=And.intro @IS.eq_1 (And.intro @IS.eq_2 (And.intro @NU.eq_1 (And.intro @evs.eq_1 (And.intro @FA.eq_1 (And.intro @FA.eq_2 (And.intro @FA.eq_3 (And.intro @GW.eq_1 (And.intro @GW.eq_2 (And.intro @AO.eq_1 (And.intro @AO.eq_2 (And.intro @AO.eq_3 (And.intro @AO.eq_4 (And.intro @AO.eq_5 (And.intro @AO.eq_6 (And.intro @AO.eq_7 (And.intro @AO.eq_8 (And.intro @AO.eq_9 (And.intro @AO.eq_10 (And.intro @AO.eq_11 (And.intro @AO.eq_12 (And.intro @AO.eq_13 (And.intro @AO.eq_14 (And.intro @AO.eq_15 (And.intro @AO.eq_16 (And.intro @AO.eq_17 (And.intro @AO.eq_18 (And.intro @AO.eq_19 (And.intro @AO.eq_20 (And.intro @AO.eq_21 (And.intro @AO.eq_22 (And.intro @AO.eq_23 (And.intro @AO.eq_24 (And.intro @AO.eq_25 (And.intro @AO.eq_26 (And.intro @AO.eq_27 @AO.eq_28)))))))))))))))))))))))))))))))))))
theorem SZ:type_of% (And.intro X0 (And.intro @LD (And.intro @f_ (And.intro @jY (And.intro @mM (And.intro @oO (And.intro @tJ (And.intro @pD (And.intro @tR (And.intro @mF (And.intro @sY (And.intro @SB (And.intro @nR (And.intro @pN (And.intro @tF (And.intro @nV (And.intro @jH (And.intro @g_ (And.intro @jZ (And.intro @jR (And.intro @WT (And.intro @sG (And.intro @vD (And.intro @r_ (And.intro @V6 (And.intro @WV (And.intro @VY (And.intro @Tr.get_put (And.intro @Tr.get_set (And.intro @XH (And.intro @List.map_cons.{0,0} (And.intro @List.map_nil.{0,0} (And.intro @Option.some.injEq.{0} (And.intro @VX (And.intro @UL (And.intro @RF (And.intro @Y1 (And.intro @PZ (And.intro @RS (And.intro @WM (And.intro @VV (And.intro @m8 (And.intro @max2 (And.intro @min2 (And.intro @decide_eq_true_eq (And.intro @decide_eq_false_iff_not (And.intro @beq_iff_eq.{0} (And.intro @true_and (And.intro @and_true (And.intro @or_true (And.intro @true_or (And.intro @exists_eq_left'.{1} (And.intro @Option.map_some.{0,0} (And.intro @Option.map_none.{0,0} (And.intro @W_ (And.intro @Option.bind_some.{0,0} (And.intro @List.nil_append.{0} (And.intro @List.append_nil.{0} (And.intro @List.cons_append.{0} (And.intro @Value.int.injEq (And.intro @XM (And.intro @List.getElem?_toArray.{0} (And.intro @List.getElem?_cons_succ.{0} (And.intro @List.getElem?_cons_zero.{0} (And.intro @decide_true (And.intro @decide_false (And.intro @beq_self_eq_true.{0} (And.intro @XX (And.intro @WE (And.intro @Bool.not_true (And.intro @Bool.not_false (And.intro @Bool.false_eq_true (And.intro @if_true.{1} (And.intro @if_false.{1} (And.intro @LN (And.intro @YJ (And.intro @jT (And.intro @sI (And.intro @false_implies (And.intro @true_implies @jC)))))))))))))))))))))))))))))))))))))))))))))))))))))))))))))))))))))))))))))))):=And.intro X0 (And.intro @LD (And.intro @f_ (And.intro @jY (And.intro @mM (And.intro @oO (And.intro @tJ (And.intro @pD (And.intro @tR (And.intro @mF (And.intro @sY (And.intro @SB (And.intro @nR (And.intro @pN (And.intro @tF (And.intro @nV (And.intro @jH (And.intro @g_ (And.intro @jZ (And.intro @jR (And.intro @WT (And.intro @sG (And.intro @vD (And.intro @r_ (And.intro @V6 (And.intro @WV (And.intro @VY (And.intro @Tr.get_put (And.intro @Tr.get_set (And.intro @XH (And.intro @List.map_cons.{0,0} (And.intro @List.map_nil.{0,0} (And.intro @Option.some.injEq.{0} (And.intro @VX (And.intro @UL (And.intro @RF (And.intro @Y1 (And.intro @PZ (And.intro @RS (And.intro @WM (And.intro @VV (And.intro @m8 (And.intro @max2 (And.intro @min2 (And.intro @decide_eq_true_eq (And.intro @decide_eq_false_iff_not (And.intro @beq_iff_eq.{0} (And.intro @true_and (And.intro @and_true (And.intro @or_true (And.intro @true_or (And.intro @exists_eq_left'.{1} (And.intro @Option.map_some.{0,0} (And.intro @Option.map_none.{0,0} (And.intro @W_ (And.intro @Option.bind_some.{0,0} (And.intro @List.nil_append.{0} (And.intro @List.append_nil.{0} (And.intro @List.cons_append.{0} (And.intro @Value.int.injEq (And.intro @XM (And.intro @List.getElem?_toArray.{0} (And.intro @List.getElem?_cons_succ.{0} (And.intro @List.getElem?_cons_zero.{0} (And.intro @decide_true (And.intro @decide_false (And.intro @beq_self_eq_true.{0} (And.intro @XX (And.intro @WE (And.intro @Bool.not_true (And.intro @Bool.not_false (And.intro @Bool.false_eq_true (And.intro @if_true.{1} (And.intro @if_false.{1} (And.intro @LN (And.intro @YJ (And.intro @jT (And.intro @sI (And.intro @false_implies (And.intro @true_implies @jC)))))))))))))))))))))))))))))))))))))))))))))))))))))))))))))))))))))))))))))))
theorem eE:type_of% (And.intro @Y9 SZ):=And.intro @Y9 SZ
theorem eP:type_of% (And.intro @rQ @iT):=And.intro @rQ @iT
theorem DG:type_of% (And.intro @DL (And.intro @DK (And.intro @JH (And.intro @OE (And.intro @tI (And.intro @jI (And.intro @A_ (And.intro @FQ (And.intro @RT (And.intro @ID (And.intro @lX (And.intro @JQ (And.intro @SS (And.intro @U1 (And.intro @QM (And.intro @nM (And.intro @pV (And.intro @iC (And.intro @SC (And.intro @LE (And.intro @N7 (And.intro @mJ (And.intro @DP (And.intro @LS (And.intro @R_ (And.intro @JP (And.intro @eS (And.intro @YD (And.intro @ZB (And.intro @Y3 (And.intro @uV (And.intro @iE (And.intro @GO (And.intro @kH (And.intro @sL (And.intro @List.all_cons.{0} (And.intro @List.all_nil.{0} (And.intro @Bool.and_self (And.intro @Bool.true_and (And.intro @Bool.and_true (And.intro @Nat.zero_le (And.intro @D4 (And.intro @VO (And.intro @UD (And.intro @tY (And.intro @UP @OI)))))))))))))))))))))))))))))))))))))))))))))):=And.intro @DL (And.intro @DK (And.intro @JH (And.intro @OE (And.intro @tI (And.intro @jI (And.intro @A_ (And.intro @FQ (And.intro @RT (And.intro @ID (And.intro @lX (And.intro @JQ (And.intro @SS (And.intro @U1 (And.intro @QM (And.intro @nM (And.intro @pV (And.intro @iC (And.intro @SC (And.intro @LE (And.intro @N7 (And.intro @mJ (And.intro @DP (And.intro @LS (And.intro @R_ (And.intro @JP (And.intro @eS (And.intro @YD (And.intro @ZB (And.intro @Y3 (And.intro @uV (And.intro @iE (And.intro @GO (And.intro @kH (And.intro @sL (And.intro @List.all_cons.{0} (And.intro @List.all_nil.{0} (And.intro @Bool.and_self (And.intro @Bool.true_and (And.intro @Bool.and_true (And.intro @Nat.zero_le (And.intro @D4 (And.intro @VO (And.intro @UD (And.intro @tY (And.intro @UP @OI)))))))))))))))))))))))))))))))))))))))))))))
theorem rP:type_of% (And.intro @E9 (And.intro @KM (And.intro @RR (And.intro @DA (And.intro @C9 DG))))):=And.intro @E9 (And.intro @KM (And.intro @RR (And.intro @DA (And.intro @C9 DG))))
theorem rG:type_of% (And.intro X0 (And.intro @Tr.get_set (And.intro @XH (And.intro @WT (And.intro @W_ (And.intro @XM (And.intro @XX (And.intro @WE (And.intro @V6 (And.intro @WV (And.intro @Tr.get_put (And.intro @Option.some.injEq.{0} (And.intro @if_true.{1} (And.intro @if_false.{1} (And.intro @Y4 (And.intro @Option.map_some.{0,0} (And.intro @Bool.not_true (And.intro @Bool.not_false (And.intro @Bool.false_eq_true (And.intro @true_and @VO)))))))))))))))))))):=And.intro X0 (And.intro @Tr.get_set (And.intro @XH (And.intro @WT (And.intro @W_ (And.intro @XM (And.intro @XX (And.intro @WE (And.intro @V6 (And.intro @WV (And.intro @Tr.get_put (And.intro @Option.some.injEq.{0} (And.intro @if_true.{1} (And.intro @if_false.{1} (And.intro @Y4 (And.intro @Option.map_some.{0,0} (And.intro @Bool.not_true (And.intro @Bool.not_false (And.intro @Bool.false_eq_true (And.intro @true_and @VO)))))))))))))))))))
theorem B_:type_of% (And.intro @eq_self.{1} (And.intro @true_implies (And.intro @Option.map_none.{0,0} (And.intro @Option.map_some.{0,0} (And.intro @Nat.zero_add (And.intro @JY (And.intro @decide_true (And.intro @false_implies @forall_const.{1})))))))):=And.intro @eq_self.{1} (And.intro @true_implies (And.intro @Option.map_none.{0,0} (And.intro @Option.map_some.{0,0} (And.intro @Nat.zero_add (And.intro @JY (And.intro @decide_true (And.intro @false_implies @forall_const.{1})))))))
theorem CO:type_of% (And.intro @VY (And.intro @List.nil_append.{0} (And.intro @List.append_nil.{0} (And.intro @List.cons_append.{0} (And.intro @List.map_cons.{0,0} (And.intro @List.map_nil.{0,0} (And.intro @DD (And.intro @GL (And.intro @D4 @C8))))))))):=And.intro @VY (And.intro @List.nil_append.{0} (And.intro @List.append_nil.{0} (And.intro @List.cons_append.{0} (And.intro @List.map_cons.{0,0} (And.intro @List.map_nil.{0,0} (And.intro @DD (And.intro @GL (And.intro @D4 @C8))))))))
theorem ED:type_of% (And.intro @List.all_cons.{0} (And.intro @List.all_nil.{0} (And.intro @Bool.and_self (And.intro @EE (And.intro @QH (And.intro @DK (And.intro @OE (And.intro @DL @JH)))))))):=And.intro @List.all_cons.{0} (And.intro @List.all_nil.{0} (And.intro @Bool.and_self (And.intro @EE (And.intro @QH (And.intro @DK (And.intro @OE (And.intro @DL @JH)))))))
theorem SV:type_of% (And.intro @EE (And.intro @QH (And.intro @DK (And.intro @OE (And.intro @DL @JH))))):=And.intro @EE (And.intro @QH (And.intro @DK (And.intro @OE (And.intro @DL @JH))))
theorem Fsx:type_of% (And.intro @PZ (And.intro @RS (And.intro @UP (And.intro @UD (And.intro @RF (And.intro @Y1 (And.intro @VX (And.intro @UL (And.intro @WM @VV))))))))):=And.intro @PZ (And.intro @RS (And.intro @UP (And.intro @UD (And.intro @RF (And.intro @Y1 (And.intro @VX (And.intro @UL (And.intro @WM @VV))))))))
theorem AF {P:Program} {call:AQ} {n:Nat} {ops:Array Oper} {start:Nat} {F:List (Bool × Bool × List Operand)} {s:St} {k:B9} (hsn:CH call) (i:Nat) (dst:Option Tmp) (op:Op) (g:Option (Nat × Bool)) {lr la:Bool} {ls:List Operand}
  (h : if D9 ops s.T ⟨dst, op, 0, "", #[], g⟩ then AD P call n ops start lr la ls (F.drop (i + 1)) ⟨dst, op, 0, "", #[], g⟩ (ops.toList.drop (i + 1)) s k (AB op)
   else BV P call n ops start (F.drop (i+1)) (ops.toList.drop (i+1)) ⟨s.T.put dst undef,s.h⟩ k)
  (hi:(ops[i]?).map Go.Sx.seen=some (dst,op,g):=by kernel_rfl) (hf:F[i]?=some (lr,la,ls):=by rfl):BV P call n ops start (F.drop i) (ops.toList.drop i) s k:=
 BV.at i dst op g hi hf (fun _ _ _ hs=>(eX hsn hs).floor) h
theorem GN {P:Program} {call:AQ} {n:Nat} {ops:Array Oper} {start:Nat} {fs:List (Bool × Bool × List Operand)} {l:List Oper} {s:St} {k:B9} {lr la:Bool} {ls:List Operand} {o:Oper} (hsn:CH call)
  (h:if D9 ops s.T o then AD P call n ops start lr la ls fs o l s k (AB o.op) else BV P call n ops start fs l ⟨s.T.put o.dst undef,s.h⟩ k):BV P call n ops start ((lr,la,ls) :: fs) (o :: l) s k:=BV.cons (fun _ _ _ hs=>(eX hsn hs).floor) h
theorem GM {P:Program} {call:AQ} {n:Nat} {ops:Array Oper} {start:Nat} {fs:List (Bool × Bool × List Operand)} {s:St} {k:B9} (h:k.ap P call n .normal s):BV P call n ops start fs [] s k:=by rw[YT];exact h
theorem rF:type_of% (And.intro @Y4 (And.intro @YT (And.intro @JY (And.intro @EE (And.intro @QH (And.intro @lW (And.intro @DD @GL))))))):=And.intro @Y4 (And.intro @YT (And.intro @JY (And.intro @EE (And.intro @QH (And.intro @lW (And.intro @DD @GL))))))
section
variable (h:AA) (a b c d:BE)
theorem eU:let A:=(h.push a).push b
  A.get h.next=a∧A.get (h.next+1)=b∧A.next=h.next+2∧A.floor=h.floor∧∀ i,i<h.next→A.get i=h.get i:=
 ⟨by rw[AT (by show h.next<h.next+1;omega)];exact BP,BP (h:=h.push a),rfl,rfl,fun i hi=>by rw[AT (by show i<h.next+1;omega),AT hi]⟩
theorem zP:let A:=((h.push a).push b).push c
  A.get h.next=a∧A.get (h.next+1)=b∧A.get (h.next+2)=c∧A.next=h.next+3∧A.floor=h.floor∧∀ i,i<h.next→A.get i=h.get i:=by
 obtain⟨p1,p2,p3,p4,p5⟩:=eU h a b
 exact⟨by rw[AT (by show h.next<h.next+2;omega)];exact p1,by rw[AT (by show h.next+1<h.next+2;omega)];exact p2,BP (h:=(h.push a).push b),rfl,rfl,fun i hi=>by rw[AT (by show i<h.next+2;omega)];exact p5 i hi⟩
theorem Mv:let A:=(((h.push a).push b).push c).push d
  A.get h.next=a∧A.get (h.next+1)=b∧A.get (h.next+2)=c∧A.get (h.next+3)=d∧A.next=h.next+4∧A.floor=h.floor∧∀ i,i<h.next→A.get i=h.get i:=by
 obtain⟨p1,p2,p3,p4,p5,p6⟩:=zP h a b c
 exact⟨by rw[AT (by show h.next<h.next+3;omega)];exact p1,by rw[AT (by show h.next+1<h.next+3;omega)];exact p2,by rw[AT (by show h.next+2<h.next+3;omega)];exact p3,BP (h:=((h.push a).push b).push c),rfl,rfl,fun i hi=>by rw[AT (by show i<h.next+3;omega)];exact p6 i hi⟩
end
theorem D7 {a n:Nat} (h:a<n):∃ j,n=j+1:=⟨n-1,by omega⟩
theorem DJ (i:Nat) (h:i<9223372036854775807):IntKind.i64.wrap ((i:Int)+1)=((i+1:Nat):Int):=B0 (by omega) (by omega)
theorem GJ (l:List Value):(Value.agg l.toArray).cells.toList=l:=rfl
theorem M0:(Value.agg #[.int .i64 0,.int .i64 0]).cells.toList=[.int .i64 0,.int .i64 0]:=rfl
theorem NL:(Value.agg #[.string ByteArray.empty,.slice none 0 0,.slice none 0 0,.slice none 0 0,.slice none 0 0,.slice none 0 0,.slice none 0 0,.int .i64 0]).cells.toList=[.string ByteArray.empty,.slice none 0 0,.slice none 0 0,.slice none 0 0,.slice none 0 0,.slice none 0 0,.slice none 0 0,.int .i64 0]:=rfl
def AL:Bool × Bool × List Operand:=(false,false,[])
def AY:Bool × Bool × List Operand:=(false,true,[])
def FW:Bool × Bool × List Operand:=(true,true,[])
def AN (l:List Operand):Bool × Bool × List Operand:=(false,true,l)
def C3 (l:List Operand):Bool × Bool × List Operand:=(true,true,l)
abbrev Z0:Value:=.slice none 0 0
abbrev BT:List Value:=[.string ByteArray.empty,Z0,Z0,Z0,Z0,Z0,Z0,.int .i64 0]
abbrev DC:List Value:=[.int .i64 0,.string ByteArray.empty,.int .i64 0,.int .i64 0,.int .i64 0]
abbrev qP (a o:Nat):Value:=.pointer (some ⟨a,o,none⟩)
abbrev qS (a n c:Nat):Value:=.slice (some ⟨a,0,none⟩) n c
theorem Kv:Tryd.prog.globals.size≤1:=by
 have:Tryd.prog.globals.size=1:=by kernel_rfl
 omega
noncomputable def OS (m:Nat) (call:AQ):AQ:=fun f args h=>
 if args.all M2 then match call f args (EJ m 0) with
  | some (v,_)=>if FO v then some (v,h) else none
  | none=>none
 else none
theorem rY {m:Nat} {call:AQ} {f:FuncId} {args:List Value} {h h':AA} {v:Value} (hs:OS m call f args h=some (v,h')) :
  args.all M2=true∧(∃ h1,call f args (EJ m 0)=some (v,h1))∧FO v=true∧h'=h:=by
 unfold OS at hs
 split at hs
 ·rename_i hc
  split at hs
  ·rename_i v' h1 he
   split at hs
   ·rename_i hf
    cases hs
    exact⟨hc,⟨h1,he⟩,hf,rfl⟩
   ·cases hs
  ·cases hs
 ·cases hs
theorem Ns {m:Nat} {call:AQ} {f:FuncId} {args:List Value} {h:AA} {v:Value} (ha:args.all M2=true) (hv:FO v=true) (hc:∃ h1,call f args (EJ m 0)=some (v,h1)) :
  OS m call f args h=some (v,h):=by
 obtain⟨h1,he⟩:=hc
 unfold OS
 rw[if_pos ha,he]
 simp only[hv,if_true]
theorem zL {P:Program} {call:AQ} (hc:DM P call) {m:Nat} (hg:P.globals.size≤m):DM P (OS m call)∧CH (OS m call):=by
 refine⟨fun f args h v h' hs=>?_,fun f args h v h' hs=>?_⟩
 ·obtain⟨ha,⟨h1,he⟩,hv,rfl⟩:=rY hs
  obtain⟨hfn,hc2⟩:=hc _ _ _ _ _ he
  refine⟨hfn,fun ρ W ARGS hR hargs=>?_⟩
  have hR0:CA P (CI ρ m) (EJ m 0) W:=dR (fun i hi=>by unfold CI;rw[if_neg (by omega)]) fun g hgl=>by
   rw[IW (by omega)]
   exact hR.glob g hgl
  have hnw:∀ i,¬ wr ((EJ m 0).get i):=fun i hw=>by rw[MP] at hw;exact hw
  refine(hc2 _ W ARGS hR0 (tM ha hargs)).mono fun e W' ⟨V,ρ',he',hN,hv'⟩=>⟨V,ρ,he',(Nx.refl hR).grow (hN.fr.gr hnw),?_⟩
  rw[mG hv hv']
  exact uG hv
 ·obtain⟨_,_,_,rfl⟩:=rY hs
  exact .refl _
noncomputable def NA (fs:List FuncId) (base:AQ) (k:Nat):AQ:=G_ base (J9 fs (OS 1 (A8 Tryd.prog (GZ Tryd.prog base k) k)))
section
variable {fs:List FuncId} {k:Nat} {base:AQ} {f:FuncId} {args:List Value} {h:AA} {v:Value} {r:Value × AA}
theorem eB (hb:DM Tryd.prog base∧CH base):DM Tryd.prog (NA fs base k)∧CH (NA fs base k):=
 ST hb (XQ (zL (QG J2 (N3 J2 hb.1 hb.2 k).1 (N3 J2 hb.1 hb.2 k).2 k).1 Kv))
theorem G0 (hb:base f args h=some r):NA fs base k f args h=some r:=S9 hb
theorem GK (hb:base f args h=none) (hf:fs.contains f=false):NA fs base k f args h=none:=by unfold NA G_ J9;rw[hb,hf];rfl
theorem EY (hb:base f args h=none) (hf:fs.contains f=true) (ha:args.all M2=true) (hv:FO v=true) (hw:∃ h1,A8 Tryd.prog (GZ Tryd.prog base k) k f args (EJ 1 0)=some (v,h1)):NA fs base k f args h=some (v,h):=by
 have e:OS 1 (A8 Tryd.prog (GZ Tryd.prog base k) k) f args h=some (v,h):=Ns ha hv hw
 unfold NA G_ J9
 rw[hb,hf,if_pos rfl,e]
end
theorem Cm {α:Type} {p:α→Prop} {q:α→Prop} (h:∃ x,p x∧q x):∃ x,p x:=h.elim fun x hx=>⟨x,hx.1⟩
def QI:List Int:=(List.range 54).map fun (i:Nat)=>(i:Int)+1
theorem vJ {k:Int} (h:1≤k∧k≤54):k∈QI:=List.mem_map.2 ⟨(k-1).toNat,by rw[List.mem_range];omega,by omega⟩
noncomputable def HZ (f:FuncId) (mk:Int→List Value) (spec:Int→Value):Bool:=QI.all fun k=>match A8 Tryd.prog (GZ Tryd.prog NW 12) 12 f (mk k) (EJ 1 0) with
 | some (v,_)=>SI v (spec k)
 | none=>false
theorem IP {f:FuncId} {mk:Int→List Value} {spec:Int→Value} (h:HZ f mk spec=true) {k:Int} (hk:1≤k∧k≤54):∃ h1,A8 Tryd.prog (GZ Tryd.prog NW 12) 12 f (mk k) (EJ 1 0)=some (spec k,h1):=by
 have:=List.all_eq_true.1 h k (vJ hk)
 split at this
 ·rename_i v h1 he
  rw[Y6 this] at he
  exact⟨h1,he⟩
 ·cases this
def CP (k:Int):Int:=if k=54 then 1 else if k=53 then 2 else if k≥47 then 3 else if k≥45 then 4 else if k≥43 then 5 else if k≥41 then 6 else if k≥27 then 7 else 0
def EO (k:Int):Int:=if [1,11,26,31,32,35,36,37,38,39,40,41,42].contains k then 1 else 0
def BM (k:Int):Int:=if [2,3].contains k then 1 else if k=4 then 2 else if k=5 then 3 else if k=7 then 4 else 0
def DI (k:Int):Int:=if [8,9,16,17,19,20,21,24,26,31,32,35,36,37].contains k then 1 else if [14,28].contains k then 2 else if [15,38].contains k then 3 else if k=22 then 4 else 0
def C2 (k:Int):Bool:=decide (k≥8)&&decide (k≤10)
def QY (k:Int) (j:Nat):Int:=if k=1 then 1 else BY k j
abbrev iv (x:Int):Value:=.int .i64 x
theorem Ov:HZ 90 (fun k=>[iv k]) (fun k=>.agg #[.bool (HG k),.bool (JR k),.bool (k==27),iv (FC k),iv (CT k)])=true:=by kernel_rfl
theorem jF:HZ 118 (fun k=>[iv k]) (fun k=>iv (CP k))=true:=by kernel_rfl
theorem vY:HZ 109 (fun k=>[iv k]) (fun k=>iv (EO k))=true:=by kernel_rfl
theorem Gw:HZ 79 (fun k=>[iv k]) (fun k=>iv (BM k))=true:=by kernel_rfl
theorem Km:HZ 81 (fun k=>[iv k]) (fun k=>iv (DI k))=true:=by kernel_rfl
theorem Ht:HZ 82 (fun k=>[iv k]) (fun k=>.bool (C2 k))=true:=by kernel_rfl
theorem Oz:HZ 31 (fun k=>[iv k]) (fun k=>iv (BM k))=true:=by kernel_rfl
theorem Ix:HZ 32 (fun k=>[iv k]) (fun k=>iv (DI k))=true:=by kernel_rfl
theorem Ld:HZ 59 (fun k=>[iv k]) (fun k=>.bool (C2 k))=true:=by kernel_rfl
theorem yE:HZ 116 (fun k=>[iv k]) (fun k=>iv (CP k))=true:=by kernel_rfl
theorem Ri:HZ 113 (fun k=>[iv k]) (fun k=>.bool (HG k))=true:=by kernel_rfl
theorem Hk:HZ 112 (fun k=>[iv k]) (fun k=>.bool (JR k))=true:=by kernel_rfl
theorem Nu:HZ 115 (fun k=>[iv k]) (fun k=>.tuple #[iv (FC k),iv (CT k)])=true:=by kernel_rfl
theorem Qo:HZ 99 (fun k=>[iv k,iv 0]) (fun k=>iv (QY k 0))=true:=by kernel_rfl
theorem zG:HZ 99 (fun k=>[iv k,iv 1]) (fun k=>iv (QY k 1))=true:=by kernel_rfl
theorem Ew:HZ 99 (fun k=>[iv k,iv 2]) (fun k=>iv (QY k 2))=true:=by kernel_rfl
theorem Ji:HZ 93 (fun k=>[iv k,iv 0]) (fun k=>iv (BY k 0))=true:=by kernel_rfl
theorem zZ:HZ 93 (fun k=>[iv k,iv 1]) (fun k=>iv (BY k 1))=true:=by kernel_rfl
theorem Qy:HZ 93 (fun k=>if k=15 then [iv 1,iv 2] else [iv k,iv 2]) (fun k=>if k=15 then iv (BY 1 2) else iv (BY k 2))=true:=by kernel_rfl
def lG:List Int:=(List.range 256).map fun (i:Nat)=>(i:Int)
theorem En {k:Nat} (h:k<256):(k:Int)∈lG:=List.mem_map.2 ⟨k,by rw[List.mem_range];exact h,rfl⟩
noncomputable def U9 (f:FuncId) (spec:Int→Bool):Bool:=lG.all fun k=>match A8 Tryd.prog (GZ Tryd.prog NW 12) 12 f [.int .u8 k] (EJ 1 0) with
 | some (v,_)=>SI v (.bool (spec k))
 | none=>false
theorem VA {f:FuncId} {spec:Int→Bool} (h:U9 f spec=true) (b:UInt8):∃ h1,A8 Tryd.prog (GZ Tryd.prog NW 12) 12 f [.int .u8 (b.toNat:Int)] (EJ 1 0)=some (.bool (spec (b.toNat:Int)),h1):=by
 have:=List.all_eq_true.1 h _ (En (UInt8.toNat_lt b))
 split at this
 ·rename_i v h1 he
  rw[Y6 this] at he
  exact⟨h1,he⟩
 ·cases this
def E0 (c:Int):Bool:=(decide (c≥97)&&decide (c≤122))||(decide (c≥65)&&decide (c≤90))||c==95
def GP (c:Int):Bool:=decide (c≥48)&&decide (c≤57)
theorem On:U9 105 E0=true:=by kernel_rfl
theorem Sf:U9 107 GP=true:=by kernel_rfl
theorem Fl:U9 124 E0=true:=by kernel_rfl
theorem Sg:U9 125 GP=true:=by kernel_rfl
section
variable {call:AQ} {n:Nat} {h:AA}
theorem Jf {what kind:Int}:A8 Tryd.prog call n 89 [iv what,iv kind] h=some (.bool (CD what kind),h):=by
 refine D_ Tryd.func89 rfl (by simp[Tryd.f89]) ?_
 have hr:Tryd.f89.results.toList=[.tmp 4]:=rfl
 unfold CD
 by_cases w8:what=8
 ·subst w8;simp only[eE,seval,↓eP,rP,hr]
 have e8:(what==8)=false:=by simpa using w8
 by_cases w0:what=0
 ·subst w0
  cases d1:decide (kind≥2) <;> simp only[eE,seval,↓eP,rP,hr,e8,d1] <;> simp
 have e0:(what==0)=false:=by simpa using w0
 by_cases w1:what=1
 ·subst w1
  cases d1:decide (kind≥8) <;> simp only[eE,seval,↓eP,rP,hr,e8,e0,d1] <;> simp
 have e1:(what==1)=false:=by simpa using w1
 by_cases w2:what=2
 ·subst w2;simp only[eE,seval,↓eP,rP,hr,e8,e0,e1] <;> simp
 have e2:(what==2)=false:=by simpa using w2
 by_cases w3:what=3
 ·subst w3
  cases d1:decide (kind≥11) <;> simp only[eE,seval,↓eP,rP,hr,e8,e0,e1,e2,d1] <;> simp
 have e3:(what==3)=false:=by simpa using w3
 by_cases w4:what=4
 ·subst w4
  cases d1:(kind==11) <;> simp only[eE,seval,↓eP,rP,hr,e8,e0,e1,e2,e3,d1] <;> simp
 have e4:(what==4)=false:=by simpa using w4
 by_cases w5:what=5
 ·subst w5
  cases d1:(kind==25) <;> simp only[eE,seval,↓eP,rP,hr,e8,e0,e1,e2,e3,e4,d1] <;> simp
 have e5:(what==5)=false:=by simpa using w5
 by_cases w6:what=6
 ·subst w6;simp only[eE,seval,↓eP,rP,hr,e8,e0,e1,e2,e3,e4,e5] <;> simp
 have e6:(what==6)=false:=by simpa using w6
 rw[if_neg w8,if_neg w0,if_neg w1,if_neg w2,if_neg w3,if_neg w4,if_neg w5,if_neg w6]
 cases d1:decide (kind≥27) <;> simp only[eE,seval,↓eP,rP,hr,e8,e0,e1,e2,e3,e4,e5,e6,d1] <;> simp
end
def DZ:BE:=.row MW 9 false true
def M5 (w:List UInt8):ByteArray:=⟨w.toArray⟩
def JO (s:ByteArray):Bool:=decide (H9.findIdx (fun w=>s==M5 w)<41)
theorem SQ:H9.length=41:=by decide
def AW (s:ByteArray):Bool:=match s.data.toList with
 | []=>false
 | c :: l=>decide ((c :: l).length≤64)&&E0 c.toNat && !JO s&&(c :: l).all fun c=>E0 c.toNat||GP c.toNat
theorem KB {s:ByteArray}:flat (.string s)=true:=rfl
theorem IV {h:AA} {s:ByteArray}:CC Tryd.prog h 9 (.string s)=some (.int .i64 s.data.toList.length):=by simp[CC,Tryd.underlying9]
theorem R4 {s:ByteArray} {i:Nat} {b:UInt8} (hb:s.data.toList[i]?=some b):BH Tryd.prog (Instr.index 9 (.string s) (.int .i64 (i:Int)))=some (.int .u8 (b.toNat:Int)):=by
 have hg:s[i]?=some b:=by
  obtain⟨hl,he⟩:=List.getElem?_eq_some_iff.1 hb
  have hl':i<s.size:=by simpa using hl
  rw[getElem?_pos s i hl']
  congr 1
 unfold Instr.index
 rw[C4]
 have e1:BH Tryd.prog (asIntOf (.int .i64 (i:Int)))=some (.i64,(i:Int)):=rfl
 rw[e1]
 simp only[Option.bind_some]
 rw[C4,NR Tryd.underlying9]
 simp only[Option.bind_some,Int.toNat_natCast]
 rw[if_pos (by omega),hg]
 rfl
theorem Ka {s:ByteArray} {b:UInt8} (hb:s.data.toList[0]?=some b):BH Tryd.prog (Instr.index 9 (.string s) (.int .i64 0))=some (.int .u8 (b.toNat:Int)):=R4 (i:=0) hb
theorem iL {s:ByteArray}:(s==⟨#[]⟩)=s.data.toList.isEmpty:=by
 cases s with
 | mk d=>
  show (d == #[])=_
  cases d with
  | mk l=>cases l <;> rfl
section
variable {call:AQ} {n:Nat} {h:AA} {s:ByteArray}
def TP (s:ByteArray):Int:=if H9.findIdx (fun w=>s==M5 w)<41 then H9.findIdx (fun w=>s==M5 w) else -1
theorem Rf {h:AA} {a:Option Addr} {n c:Nat}:CC Tryd.prog h 27 (.slice a n c)=some (.int .i64 n):=by simp[CC,Tryd.underlying27]
theorem iV {i:Nat} (hi:i<41):CU Tryd.prog 27 (.slice (some ⟨0,0,none⟩) 41 41) (.int .i64 (i:Int))=some (.pointer (some ⟨0,i,none⟩)):=by
 simp only[CU,Tryd.underlying27,GH,CF]
 rw[if_pos (by omega)]
 simp
theorem iY {i:Nat} (hi:i<41):AS i DZ=some (.string (M5 (H9[i]'(by rw[SQ];exact hi)))):=by
 simp only[DZ,AS,MW,List.getElem?_map]
 rw[List.getElem?_eq_getElem (by rw[SQ];exact hi)]
 rfl
theorem Nm (hg:h.get 0=DZ) (hn:41<n):A8 Tryd.prog call n 123 [.slice (some ⟨0,0,none⟩) 41 41,.string s] h=some (iv (TP s),h):=by
 refine D_ Tryd.func123 rfl (by simp[Tryd.f123]) ?_
 have hr:Tryd.f123.results.toList=[.tmp 4]:=rfl
 have hle:H9.findIdx (fun w=>s==M5 w)≤41:=by have:=List.findIdx_le_length (xs:=H9) (p:=fun w=>s==M5 w);rw[SQ] at this;exact this
 simp only[eE,↓reduceIte,Nat.reduceEqDiff,reduceCtorEq,↓eP,rP,Nat.reduceAdd,Nat.reduceLT,hr,Rf]
 refine WK.loop (fun i s'=>s'.h=h∧s'.T.get 0=.slice (some ⟨0,0,none⟩) 41 41∧s'.T.get 1=.string s∧s'.T.get 7=.int .i64 41∧s'.T.get 8=.int .i64 i) (H9.findIdx (fun w=>s==M5 w)) (by omega) ?_ ?_
 ·simp only[eE,↓reduceIte,Nat.reduceEqDiff,reduceCtorEq,↓eP,rP,Nat.reduceAdd,Nat.reduceLT]
  exact⟨rfl,rfl⟩
 ·rintro i ⟨T1,h1⟩ hi ⟨rfl,t0,t1,t7,t8⟩
  simp only at t0 t1 t7 t8
  unfold TP
  by_cases hlt:i<H9.findIdx (fun w=>s==M5 w)
  ·have hi41:i<41:=by omega
   have c1:decide ((i:Int)<41)=true:=by simp;omega
   have hne:=List.not_of_lt_findIdx hlt
   have w5:IntKind.i64.wrap ((i:Int)+1)=((i+1:Nat):Int):=B0 (by omega) (by omega)
   simp only[eE,seval,↓eP,rP,t0,t1,t7,t8,c1,iV hi41,hg,iY hi41,hne]
   exact⟨hlt,w5⟩
  ·have hie:i=H9.findIdx (fun w=>s==M5 w):=by omega
   by_cases h41:i<41
   ·have c1:decide ((i:Int)<41)=true:=by simp;omega
    have heq:(s==M5 (H9[i]'(by rw[SQ];exact h41)))=true:=by
     have:=List.findIdx_getElem (xs:=H9) (p:=fun w=>s==M5 w) (w:=by rw[← hie,SQ];exact h41)
     simp only[← hie] at this
     exact this
    rw[← hie,if_pos h41]
    simp only[eE,seval,↓eP,rP,hr,t0,t1,t7,t8,c1,iV h41,hg,iY h41,heq]
   ·have c1:decide ((i:Int)<41)=false:=by simp;omega
    rw[← hie,if_neg h41]
    simp only[eE,seval,↓eP,rP,hr,t0,t1,t7,t8,c1]
theorem Qh:decide (TP s≥0)=JO s:=by
 unfold TP JO
 split
 ·rename_i h
  rw[decide_eq_true h,decide_eq_true (by omega)]
 ·rename_i h
  rw[decide_eq_false h]
  rfl
theorem Eo (h123:call 123 [.slice (some ⟨0,0,none⟩) 41 41,.string s] h=some (iv (TP s),h)):A8 Tryd.prog call n 117 [.slice (some ⟨0,0,none⟩) 41 41,.string s] h=some (.bool (JO s),h):=by
 refine D_ Tryd.func117 rfl (by simp[Tryd.f117]) ?_
 have hr:Tryd.f117.results.toList=[.tmp 4]:=rfl
 simp only[eE,seval,↓eP,rP,hr,h123,Qh]
theorem Lu:GG Tryd.prog h 145 (.pointer (some ⟨0,0,none⟩)) none none none=some (.slice (some ⟨0,0,none⟩) 41 41):=by
 simp[GG,Tryd.underlying145,EW,GH,CF]
theorem Io (h117:call 117 [.slice (some ⟨0,0,none⟩) 41 41,.string s] h=some (.bool (JO s),h)):A8 Tryd.prog call n 106 [.string s] h=some (.bool (JO s),h):=by
 refine D_ Tryd.func106 rfl (by simp[Tryd.f106]) ?_
 have hr:Tryd.f106.results.toList=[.tmp 2]:=rfl
 simp only[eE,seval,↓eP,rP,hr,Ml,Lu,h117]
theorem xC (h105:∀ (b:UInt8) h,call 105 [.int .u8 (b.toNat:Int)] h=some (.bool (E0 b.toNat),h)) (h107:∀ (b:UInt8) h,call 107 [.int .u8 (b.toNat:Int)] h=some (.bool (GP b.toNat),h))
  (h106:call 106 [.string s] h=some (.bool (JO s),h)) (hn:64<n):A8 Tryd.prog call n 91 [.string s] h=some (.bool (AW s),h):=by
 refine D_ Tryd.func91 rfl (by simp[Tryd.f91]) ?_
 have hr:Tryd.f91.results.toList=[.tmp 2]:=rfl
 unfold AW
 cases hl:s.data.toList with
 | nil=>
  have e0:(s==⟨#[]⟩)=true:=by rw[iL,hl];rfl
  simp only[eE,seval,↓eP,rP,hr,e0]
 | cons c l=>
  have e0:(s==⟨#[]⟩)=false:=by rw[iL,hl];rfl
  have i0:=Ka (s:=s) (b:=c) (by rw[hl];rfl)
  simp only
  generalize hA:(c :: l).all (fun c=>E0 c.toNat||GP c.toNat)=A
  by_cases hlen:(c :: l).length≤64
  ·have d1:decide (((c :: l).length:Int)>64)=false:=by simp only[decide_eq_false_iff_not];omega
   cases hc:E0 c.toNat with
   | false=>simp only[eE,seval,↓eP,rP,hr,e0,IV,hl,d1,KB,i0,h105,hc,Bool.and_false,Bool.false_and]
   | true=>
    cases hw:JO s with
    | true=>simp only[eE,seval,↓eP,rP,hr,e0,IV,hl,d1,KB,i0,h105,hc,h106,hw,Bool.and_false,Bool.false_and]
    | false=>
     simp only[eE,↓reduceIte,Nat.reduceEqDiff,reduceCtorEq,↓eP,rP,Nat.reduceAdd,Nat.reduceLT,hr,e0,IV,hl,d1,KB,i0,h105,hc,h106,hw,decide_eq_true hlen]
     rw[← hl] at *
     generalize hL:s.data.toList=L at *
     refine WK.loop (fun i s'=>s'.h=h∧s'.T.get 0=.string s∧s'.T.get 22=.int .i64 L.length∧s'.T.get 23=.int .i64 i∧(L.take i).all (fun c=>E0 c.toNat||GP c.toNat)=true) L.length (by omega) ?_ ?_
     ·simp only[eE,↓reduceIte,Nat.reduceEqDiff,reduceCtorEq,↓eP,rP,Nat.reduceAdd,Nat.reduceLT]
      exact⟨rfl,rfl⟩
     ·rintro i ⟨T1,h1⟩ hi ⟨rfl,t0,t22,t23,hall⟩
      simp only at t0 t22 t23
      by_cases hlt:i<L.length
      ·have c1:decide ((i:Int)<(L.length:Int))=true:=by simp;omega
       obtain⟨b,hb⟩:∃ b,L[i]?=some b:=⟨_,List.getElem?_eq_getElem hlt⟩
       have ib:=R4 (s:=s) (i:=i) (b:=b) (by rw[hL];exact hb)
       have w5:IntKind.i64.wrap ((i:Int)+1)=((i+1:Nat):Int):=B0 (by omega) (by omega)
       have hst:(L.take (i+1)).all (fun c=>E0 c.toNat||GP c.toNat)=((L.take i).all (fun c=>E0 c.toNat||GP c.toNat)&&(E0 b.toNat||GP b.toNat)):=by
        rw[List.take_add_one,hb,List.all_append]
        simp
       have hbad:(E0 b.toNat||GP b.toNat)=false→L.all (fun c=>E0 c.toNat||GP c.toNat)=false:=fun h=>by
        rw[List.all_eq_false]
        exact⟨b,List.mem_of_getElem? hb,by rw[h];simp⟩
       cases q1:E0 b.toNat with
       | true=>
        simp only[eE,seval,↓eP,rP,hr,t0,t22,t23,c1,KB,ib,h105,q1]
        exact⟨hlt,w5,by rw[hst,hall,q1];rfl⟩
       | false=>
        cases q2:GP b.toNat with
        | true=>
         simp only[eE,seval,↓eP,rP,hr,t0,t22,t23,c1,KB,ib,h105,h107,q1,q2]
         exact⟨hlt,w5,by rw[hst,hall,q1,q2];rfl⟩
        | false=>
         simp only[eE,seval,↓eP,rP,hr,t0,t22,t23,c1,KB,ib,h105,h107,q1,q2]
         rw[← hA,hbad (by rw[q1,q2];rfl)]
      ·have c1:decide ((i:Int)<(L.length:Int))=false:=by simp;omega
       rw[List.take_of_length_le (by omega)] at hall
       rw[hall] at hA
       subst hA
       simp only[eE,seval,↓eP,rP,hr,t0,t22,t23,c1]
  ·have d1:decide (((c :: l).length:Int)>64)=true:=by simp only[decide_eq_true_eq];omega
   simp only[eE,seval,↓eP,rP,hr,e0,IV,hl,d1,decide_eq_false hlen,Bool.false_and]
def NT (l:List UInt8):Bool:=match l with
 | []=>false
 | c :: r=>E0 c.toNat&&(c :: r).all fun c=>E0 c.toNat||GP c.toNat
theorem Qz (h124:∀ (b:UInt8) h,call 124 [.int .u8 (b.toNat:Int)] h=some (.bool (E0 b.toNat),h)) (h125:∀ (b:UInt8) h,call 125 [.int .u8 (b.toNat:Int)] h=some (.bool (GP b.toNat),h))
  (hn:s.data.toList.length<n) (hmax:s.data.toList.length<1000):A8 Tryd.prog call n 121 [.string s] h=some (.bool (NT s.data.toList),h):=by
 refine D_ Tryd.func121 rfl (by simp[Tryd.f121]) ?_
 have hr:Tryd.f121.results.toList=[.tmp 2]:=rfl
 simp only[eE,↓reduceIte,Nat.reduceEqDiff,reduceCtorEq,↓eP,rP,Nat.reduceAdd,Nat.reduceLT,hr]
 generalize hL:s.data.toList=L at *
 generalize hA:NT L=A
 refine WK.loop (fun i s'=>s'.h=h∧s'.T.get 0=.string s∧s'.T.get 3=.int .i64 i∧(L.take i).all (fun c=>E0 c.toNat||GP c.toNat)=true∧(0<i→∃ c r,L=c :: r∧E0 c.toNat=true)) L.length (by omega) ?_ ?_
 ·simp only[eE,↓reduceIte,Nat.reduceEqDiff,reduceCtorEq,↓eP,rP,Nat.reduceAdd,Nat.reduceLT]
  exact⟨rfl,rfl⟩
 ·rintro i ⟨T1,h1⟩ hi ⟨rfl,t0,t3,hall,hhd⟩
  simp only at t0 t3
  by_cases hlt:i<L.length
  ·have c1:decide ((i:Int)<(L.length:Int))=true:=by simp;omega
   obtain⟨b,hb⟩:∃ b,L[i]?=some b:=⟨_,List.getElem?_eq_getElem hlt⟩
   have ib:=R4 (s:=s) (i:=i) (b:=b) (by rw[hL];exact hb)
   have w5:IntKind.i64.wrap ((i:Int)+1)=((i+1:Nat):Int):=B0 (by omega) (by omega)
   have hst:(L.take (i+1)).all (fun c=>E0 c.toNat||GP c.toNat)=((L.take i).all (fun c=>E0 c.toNat||GP c.toNat)&&(E0 b.toNat||GP b.toNat)):=by
    rw[List.take_add_one,hb,List.all_append]
    simp
   cases q1:E0 b.toNat with
   | true=>
    simp only[eE,↓reduceIte,Nat.reduceEqDiff,reduceCtorEq,↓eP,rP,Nat.reduceAdd,Nat.reduceLT,hr,t0,t3,IV,hL,c1,KB,ib,h124,q1]
    refine⟨hlt,w5,by rw[hst,hall,q1];rfl,fun _=>?_⟩
    by_cases hi0:i=0
    ·subst hi0
     cases L with
     | nil=>simp at hlt
     | cons c r=>simp at hb;subst hb;exact⟨_,_,rfl,q1⟩
    ·exact hhd (by omega)
   | false=>
    by_cases hi0:i=0
    ·subst hi0
     have e0:(((0:Nat):Int)==0)=true:=rfl
     have hf:A=false:=by
      rw[← hA]
      cases L with
      | nil=>simp at hlt
      | cons c r=>simp at hb;subst hb;simp[NT,q1]
     simp only[eE,↓reduceIte,Nat.reduceEqDiff,reduceCtorEq,↓eP,rP,Nat.reduceAdd,Nat.reduceLT,hr,t0,t3,IV,hL,c1,KB,ib,h124,q1,e0,hf]
    ·have e0:((i:Int)==0)=false:=by simp;omega
     cases q2:GP b.toNat with
     | true=>
      simp only[eE,seval,↓eP,rP,hr,t0,t3,IV,hL,c1,KB,ib,h124,h125,q1,q2,e0]
      exact⟨hlt,w5,by rw[hst,hall,q1,q2];rfl,fun _=>hhd (by omega)⟩
     | false=>
      have hf:A=false:=by
       rw[← hA]
       obtain⟨c,r,rfl,hc⟩:=hhd (by omega)
       have:(c :: r).all (fun c=>E0 c.toNat||GP c.toNat)=false:=by
        rw[List.all_eq_false]
        exact⟨b,List.mem_of_getElem? hb,by rw[q1,q2];simp⟩
       show (E0 c.toNat&&(c :: r).all fun c=>E0 c.toNat||GP c.toNat)=false
       rw[this,Bool.and_false]
      simp only[eE,seval,↓eP,rP,hr,t0,t3,IV,hL,c1,KB,ib,h124,h125,q1,q2,e0,hf]
  ·have c1:decide ((i:Int)<(L.length:Int))=false:=by simp;omega
   rw[List.take_of_length_le (by omega)] at hall
   have hf:A=decide ((L.length:Int)>0):=by
    rw[← hA]
    cases L with
    | nil=>rfl
    | cons c r=>
     obtain⟨c',r',he,hc⟩:=hhd (by simp at hlt;omega)
     cases he
     show (E0 c.toNat&&(c :: r).all fun c=>E0 c.toNat||GP c.toNat)=_
     rw[hall,hc]
     simp
     try omega
   simp only[eE,seval,↓eP,rP,hr,t0,t3,IV,hL,c1,hf]
def L8 (K s:ByteArray) (i:Nat):Bool:=(K.data.toList[i]? == some 32)&&((K.data.toList[i+s.data.toList.length+1]? == some 32)&&(K.extract (i+1) (i+s.data.toList.length+1)==s))
def VC (K s:ByteArray):Bool:=decide ((List.range (K.data.toList.length-(s.data.toList.length+1))).findIdx (L8 K s)<K.data.toList.length-(s.data.toList.length+1))
theorem xJ {h:AA} {K:ByteArray} {lo hi:Nat} (h1:lo≤hi) (h2:hi≤K.data.toList.length):GG Tryd.prog h 9 (.string K) (some (.int .i64 (lo:Int))) (some (.int .i64 (hi:Int))) none=some (.string (K.extract lo hi)):=by
 have hs:K.size=K.data.toList.length:=by simp
 simp only[GG,Tryd.underlying9,Option.isSome_none,Bool.false_eq_true,if_false,EW,hs]
 rw[if_pos (by omega)]
 simp only[Int.toNat_natCast]
 rw[if_pos (by omega)]
theorem Cp {K:ByteArray} (hK:K.data.toList.length<900) (hn:K.data.toList.length+s.data.toList.length<n) (hmax:s.data.toList.length<1000) (hne:s.data.toList≠[]) (hb:∀ b∈s.data.toList,b≠32) :
  A8 Tryd.prog call n 126 [.string K,.string s] h=some (.bool (VC K s),h):=by
 refine D_ Tryd.func126 rfl (by simp[Tryd.f126]) ?_
 have hr:Tryd.f126.results.toList=[.tmp 4]:=rfl
 have hpos:0<s.data.toList.length:=List.length_pos_iff.2 hne
 have w0:IntKind.i64.wrap ((s.data.toList.length:Int)+2)=((s.data.toList.length+2:Nat):Int):=B0 (by omega) (by omega)
 simp only[eE,↓reduceIte,Nat.reduceEqDiff,reduceCtorEq,↓eP,rP,Nat.reduceAdd,Nat.reduceLT,hr,IV,w0]
 generalize hL:s.data.toList=L at *
 refine WK.loop (fun i s'=>s'.h=h∧s'.T.get 0=.string K∧s'.T.get 1=.string s∧s'.T.get 5=.int .i64 ((L.length+2:Nat):Int)∧s'.T.get 6=.int .i64 i) L.length (by omega) ?_ ?_
 ·simp only[eE,↓reduceIte,Nat.reduceEqDiff,reduceCtorEq,↓eP,rP,Nat.reduceAdd,Nat.reduceLT]
  rfl
 ·rintro i ⟨T1,h1⟩ hi ⟨rfl,t0,t1,t5,t6⟩
  simp only at t0 t1 t5 t6
  by_cases hlt:i<L.length
  ·have c1:decide ((i:Int)<(L.length:Int))=true:=by simp;omega
   obtain⟨b,hbi⟩:∃ b,L[i]?=some b:=⟨_,List.getElem?_eq_getElem hlt⟩
   have ib:=R4 (s:=s) (i:=i) (b:=b) (by rw[hL];exact hbi)
   have hb32:((b.toNat:Int)==32)=false:=by
    have hx:=hb b (List.mem_of_getElem? hbi)
    simp only[beq_eq_false_iff_ne,ne_eq]
    intro e
    apply hx
    have e2:b.toNat=32:=by omega
    exact UInt8.toNat_inj.1 e2
   have w5:IntKind.i64.wrap ((i:Int)+1)=((i+1:Nat):Int):=B0 (by omega) (by omega)
   simp only[eE,seval,↓eP,rP,hr,t0,t1,t5,t6,IV,hL,c1,KB,ib,hb32]
   exact⟨hlt,w5⟩
  ·have c1:decide ((i:Int)<(L.length:Int))=false:=by simp;omega
   simp only[eE,seval,↓eP,rP,hr,t0,t1,t5,t6,IV,hL,c1]
   unfold VC
   rw[hL]
   generalize hN:K.data.toList.length-(L.length+1)=N at *
   have hle:(List.range N).findIdx (L8 K s)≤N:=by have:=List.findIdx_le_length (xs:=List.range N) (p:=L8 K s);simpa using this
   generalize hq:(List.range N).findIdx (L8 K s)=q at *
   refine WK.loop (fun i s'=>s'.h=h1∧s'.T.get 0=.string K∧s'.T.get 1=.string s∧s'.T.get 5=.int .i64 ((L.length+2:Nat):Int)∧s'.T.get 7=.int .i64 i) q (by omega) ?_ ?_
   ·simp only[eE,↓reduceIte,Nat.reduceEqDiff,reduceCtorEq,↓eP,rP,Nat.reduceAdd,Nat.reduceLT,t0,t1,t5]
    rfl
   ·rintro j ⟨T2,h2⟩ hj ⟨rfl,u0,u1,u5,u7⟩
    simp only at u0 u1 u5 u7
    have w1:IntKind.i64.wrap ((j:Int)+((L.length+2:Nat):Int))=((j+L.length+2:Nat):Int):=by rw[B0 (by omega) (by omega)];omega
    have w2:IntKind.i64.wrap (((j+L.length+2:Nat):Int)-1)=((j+L.length+1:Nat):Int):=by rw[B0 (by omega) (by omega)];omega
    have w3:IntKind.i64.wrap ((j:Int)+1)=((j+1:Nat):Int):=B0 (by omega) (by omega)
    by_cases hjN:j<N
    ·have c2 : decide (((j + L.length + 2 : Nat):Int)≤(K.data.toList.length:Int))=true:=by simp only[decide_eq_true_eq];omega
     obtain⟨b1,hb1⟩:∃ b,K.data.toList[j]?=some b:=⟨_,List.getElem?_eq_getElem (by omega)⟩
     obtain⟨b2,hb2⟩:∃ b,K.data.toList[j+L.length+1]?=some b:=⟨_,List.getElem?_eq_getElem (by omega)⟩
     have i1:=R4 hb1
     have i2:=R4 hb2
     have s1:=xJ (h:=h2) (K:=K) (lo:=j+1) (hi:=j+L.length+1) (by omega) (by omega)
     have x32:∀ b:UInt8,((b.toNat:Int)==32)=(some b==some (32:UInt8)):=fun b=>by
      apply Bool.eq_iff_iff.2
      simp only[beq_iff_eq,Option.some.injEq]
      constructor
      ·intro e; exact UInt8.toNat_inj.1 (by have:b.toNat=32:=by omega
                                            exact this)
      ·rintro rfl;rfl
     have hhit:L8 K s j=((some b1==some (32:UInt8))&&((some b2==some (32:UInt8))&&(K.extract (j+1) (j+L.length+1)==s))):=by
      unfold L8
      rw[hL,hb1,hb2]
     have done:j<q→L8 K s j=false:=fun hjq=>by
      have:=List.not_of_lt_findIdx (xs:=List.range N) (p:=L8 K s) (i:=j) (by rw[hq];exact hjq)
      simpa using this
     have found:¬ j<q→L8 K s j=true:=fun hjq=>by
      have hjq':j=q:=by omega
      have:=List.findIdx_getElem (xs:=List.range N) (p:=L8 K s) (w:=by rw[hq];simp;omega)
      simp only[hq,List.getElem_range] at this
      rw[hjq']
      exact this
     have fin:¬ j<q→decide (q<N)=true:=fun _=>decide_eq_true (by omega)
     rw[hhit] at done found
     cases d1:(some b1==some (32:UInt8)) with
     | false=>
      have hlt:j<q:=by
       rcases Nat.lt_or_ge j q with h | h
       ·exact h
       ·have:=found (by omega);rw[d1] at this;cases this
      simp only[eE,seval,↓eP,rP,hr,u0,u1,u5,u7,IV,w1,c2,KB,i1,x32,d1]
      exact⟨hlt,w3⟩
     | true=>
      cases d2:(some b2==some (32:UInt8)) with
      | false=>
       have hlt:j<q:=by
        rcases Nat.lt_or_ge j q with h | h
        ·exact h
        ·have:=found (by omega);rw[d1,d2] at this;cases this
       simp only[eE,seval,↓eP,rP,hr,u0,u1,u5,u7,IV,w1,w2,c2,KB,i1,i2,x32,d1,d2]
       exact⟨hlt,w3⟩
      | true=>
       cases d3:(K.extract (j+1) (j+L.length+1)==s) with
       | false=>
        have hlt:j<q:=by
         rcases Nat.lt_or_ge j q with h | h
         ·exact h
         ·have:=found (by omega);rw[d1,d2,d3] at this;cases this
        simp only[eE,seval,↓eP,rP,hr,u0,u1,u5,u7,IV,w1,w2,w3,c2,KB,i1,i2,x32,d1,d2,s1,d3]
        exact hlt
       | true=>
        have hge:¬ j<q:=fun h=>by have:=done h;rw[d1,d2,d3] at this;cases this
        have l0:decide ((L.length:Int)>0)=true:=by simp;omega
        simp only[eE,seval,↓eP,rP,hr,u0,u1,u5,u7,IV,hL,w1,w2,w3,c2,KB,i1,i2,x32,d1,d2,s1,d3,fin hge,l0]
    ·have c2:decide (((j+L.length+2:Nat):Int)≤(K.data.toList.length:Int))=false:=by simp only[decide_eq_false_iff_not];omega
     have fin:decide (q<N)=false:=decide_eq_false (by omega)
     simp only[eE,seval,↓eP,rP,hr,u0,u1,u5,u7,IV,w1,c2,fin]
end
def JX:List UInt8:=32 :: H9.flatMap fun w=>w++[32]
def bO:ByteArray:=⟨JX.toArray⟩
theorem PP:bO.data.toList=JX:=rfl
def cL (i:Nat):List UInt8:=(JX.drop (i+1)).takeWhile (· != 32)
theorem Hz:((List.range JX.length).all fun i=>!(JX[i]? == some 32)||decide (i+1=JX.length)||H9.contains (cL i))=true:=by decide +kernel
theorem zM:(H9.all fun w=>(List.range JX.length).any fun i=>(JX[i]? == some 32)&&((JX[i+w.length+1]? == some 32)&&((JX.drop (i+1)).take w.length==w)))=true:=by decide +kernel
theorem V5 {a b:ByteArray}:(a==b)=true↔a.data.toList=b.data.toList:=by
 constructor
 ·intro h;rw[LK h]
 ·intro h
  have:a=b:=by
   cases a;cases b
   simp only[ByteArray.mk.injEq]
   exact Array.toList_inj.1 h
  subst this
  exact MN a
theorem Po {s:ByteArray}:JO s=true↔s.data.toList∈H9:=by
 unfold JO
 rw[decide_eq_true_eq]
 have h41:(41:Nat)=H9.length:=SQ.symm
 rw[h41,List.findIdx_lt_length]
 constructor
 ·rintro ⟨w,hw,h⟩
  rw[V5] at h
  rw[h]
  exact hw
 ·intro h
  exact⟨_,h,by rw[V5];rfl⟩
theorem mS {K:ByteArray} {lo n:Nat}:(K.extract lo (lo+n)).data.toList=(K.data.toList.drop lo).take n:=by
 rw[ByteArray.data_extract]
 simp[List.extract_eq_take_drop]
theorem Hd {l m:List UInt8} {x:List UInt8} (h1:(m.take l.length)=l) (h2:m[l.length]?=some 32) (h3:∀ b∈l,b≠32):m.takeWhile (· != 32)=l:=by
 have hm:m=l++32 :: m.drop (l.length+1):=by
  have hlt:l.length<m.length:=(List.getElem?_eq_some_iff.1 h2).1
  have e1:m=m.take l.length++m.drop l.length:=(List.take_append_drop _ _).symm
  rw[h1,List.drop_eq_getElem_cons hlt] at e1
  have e2:m[l.length]=32:=by
   have:=List.getElem?_eq_getElem hlt
   rw[h2] at this
   exact(Option.some.inj this).symm
  rw[e2] at e1
  exact e1
 rw[hm,List.takeWhile_append_of_pos (fun b hb=>by simpa using h3 b hb)]
 simp
theorem yB {p:Nat→Bool} {M:Nat}:(List.range M).findIdx p<M↔∃ i,i<M∧p i=true:=by
 have:=List.findIdx_lt_length (xs:=List.range M) (p:=p)
 rw[List.length_range] at this
 rw[this]
 simp[List.mem_range]
theorem Rq {s:ByteArray} (hne:s.data.toList≠[]) (hb:∀ b∈s.data.toList,b≠32):VC bO s=JO s:=by
 apply Bool.eq_iff_iff.2
 rw[Po]
 unfold VC
 rw[decide_eq_true_eq,PP]
 generalize hl:s.data.toList=l at *
 rw[yB]
 constructor
 ·rintro ⟨i,hi,hh⟩
  unfold L8 at hh
  rw[hl,PP] at hh
  simp only[Bool.and_eq_true] at hh
  obtain⟨h1,h2,h3⟩:=hh
  rw[V5,hl,show i+l.length+1=(i+1)+l.length by omega,mS,PP] at h3
  have hseg:cL i=l:=by
   unfold cL
   refine Hd (x:=[]) h3 ?_ hb
   rw[List.getElem?_drop]
   have:i+1+l.length=i+l.length+1:=by omega
   rw[this]
   simpa using h2
  have hlt:i<JX.length:=by omega
  have:=List.all_eq_true.1 Hz i (List.mem_range.2 hlt)
  rw[hseg] at this
  simp only[Bool.or_eq_true,Bool.not_eq_true',decide_eq_true_eq] at this
  rcases this with(h | h) | h
  ·rw[h] at h1;cases h1
  ·have:i+l.length+1<JX.length:=by
    have:=(List.getElem?_eq_some_iff.1 (show JX[i+l.length+1]?=some 32 by simpa using h2)).1
    exact this
   omega
  ·simpa using h
 ·intro h
  have:=List.all_eq_true.1 zM l h
  obtain⟨i,hi,hh⟩:=List.any_eq_true.1 this
  simp only[Bool.and_eq_true] at hh
  obtain⟨h1,h2,h3⟩:=hh
  have hlt:i+l.length+1<JX.length:=(List.getElem?_eq_some_iff.1 (show JX[i+l.length+1]?=some 32 by simpa using h2)).1
  refine⟨i,by omega,?_⟩
  unfold L8
  rw[hl,PP,h1,h2]
  simp only[Bool.true_and]
  rw[V5,hl,show i+l.length+1=(i+1)+l.length by omega,mS,PP]
  simpa using h3
theorem Bu:JX.length<900:=by decide
theorem Pf {s:ByteArray} (h:NT s.data.toList=true):s.data.toList≠[]∧∀ b∈s.data.toList,b≠32:=by
 cases hl:s.data.toList with
 | nil=>rw[hl] at h;cases h
 | cons c r=>
  rw[hl] at h
  refine⟨by simp,fun b hb e=>?_⟩
  have h2:=(Bool.and_eq_true_iff.1 (show (E0 c.toNat&&(c :: r).all fun c=>E0 c.toNat||GP c.toNat)=true from h)).2
  have:=List.all_eq_true.1 h2 b hb
  rw[e] at this
  revert this
  decide
theorem Px {s:ByteArray}:AW s=(decide (s.data.toList.length≤64)&&(NT s.data.toList && !JO s)):=by
 unfold AW NT
 cases hl:s.data.toList with
 | nil=>simp
 | cons c r=>
  simp only
  cases E0 c.toNat <;> cases JO s <;> cases (c :: r).all (fun c=>E0 c.toNat||GP c.toNat) <;> simp
noncomputable def jJ:Value:=match (DR Tryd.f122 1)[1]? with
 | some o=>match o.op with
  | .call c=>match (c.args.toList.head? : Option Operand) with
   | some (Operand.const v)=>v
   | _=>undef
  | _=>undef
 | none=>undef
theorem Dy:jJ=.string bO:=by kernel_rfl
section
variable {call:AQ} {n:Nat} {h:AA} {s:ByteArray}
theorem Gf (h126:call 126 [jJ,.string s] h=some (.bool (JO s),h)):A8 Tryd.prog call n 122 [.string s] h=some (.bool (JO s),h):=by
 refine D_ Tryd.func122 rfl (by simp[Tryd.f122]) ?_
 have hr:Tryd.f122.results.toList=[.tmp 2]:=rfl
 simp only[eE,seval,↓eP,rP,hr]
 refine OZ.of (v:=.bool (JO s)) (h':=h) h126 ?_
 simp only[eE,seval,↓eP,rP,hr]
theorem Ss (h121:s.data.toList.length≤64→call 121 [.string s] h=some (.bool (NT s.data.toList),h)) (h122:s.data.toList.length≤64→NT s.data.toList=true→call 122 [.string s] h=some (.bool (JO s),h)) :
  A8 Tryd.prog call n 114 [.string s] h=some (.bool (AW s),h):=by
 refine D_ Tryd.func114 rfl (by simp[Tryd.f114]) ?_
 have hr:Tryd.f114.results.toList=[.tmp 2]:=rfl
 rw[Px]
 by_cases hlen:s.data.toList.length≤64
 ·have c1:decide ((s.data.toList.length:Int)≤64)=true:=by simp only[decide_eq_true_eq];omega
  have h121':=h121 hlen
  rw[decide_eq_true hlen]
  cases hs:NT s.data.toList with
  | false=>rw[hs] at h121';simp only[eE,seval,↓eP,rP,hr,IV,c1,h121',Bool.false_and]
  | true=>
   have h122':=h122 hlen hs
   rw[hs] at h121'
   simp only[eE,seval,↓eP,rP,hr,IV,c1,h121',h122']
 ·have c1:decide ((s.data.toList.length:Int)≤64)=false:=by simp only[decide_eq_false_iff_not];omega
  rw[decide_eq_false hlen]
  simp only[eE,seval,↓eP,rP,hr,IV,c1,Bool.false_and]
end
noncomputable def L0:AQ:=NA [90,118,109,79,81,82,31,32,59,
 116,113,112,101,102,115,99,93,105,107,
 124,125,89] NW 12
noncomputable def L1:AQ:=NA [108,104,111,80,87,83,62] L0 12
noncomputable def L2:AQ:=ND [91,114] L1 2000
theorem Kx:DM Tryd.prog L0∧CH L0:=eB wZ
theorem Ej:DM Tryd.prog L1∧CH L1:=eB Kx
theorem lK:DM Tryd.prog L2∧CH L2:=ZU Ej
theorem Sc (b:UInt8) (h:AA):L1 105 [.int .u8 (b.toNat:Int)] h=some (.bool (E0 b.toNat),h):=G0 (EY rfl rfl rfl rfl (VA On b))
theorem Ib (b:UInt8) (h:AA):L1 107 [.int .u8 (b.toNat:Int)] h=some (.bool (GP b.toNat),h):=G0 (EY rfl rfl rfl rfl (VA Sf b))
theorem Mo (b:UInt8) (h:AA):L1 124 [.int .u8 (b.toNat:Int)] h=some (.bool (E0 b.toNat),h):=G0 (EY rfl rfl rfl rfl (VA Fl b))
theorem Pe (b:UInt8) (h:AA):L1 125 [.int .u8 (b.toNat:Int)] h=some (.bool (GP b.toNat),h):=G0 (EY rfl rfl rfl rfl (VA Sg b))
theorem RL (what kind:Int) (h:AA):L1 89 [iv what,iv kind] h=some (.bool (CD what kind),h):=G0 (EY rfl rfl rfl rfl ⟨_,Jf⟩)
theorem VK {h:AA} (hg:h.get 0=DZ) (s:ByteArray):L2 91 [.string s] h=some (.bool (AW s),h):=by
 refine VQ rfl rfl rfl ⟨h,xC (fun b h=>FR (Sc b h)) (fun b h=>FR (Ib b h)) ?_ (by decide),fun _ _=>rfl⟩
 rw[N_ (n:=1999) rfl]
 refine Io ?_
 rw[N_ (n:=1998) rfl]
 refine Eo ?_
 rw[N_ (n:=1997) rfl]
 exact Nm hg (by decide)
theorem Qq (h:AA) (s:ByteArray):L2 114 [.string s] h=some (.bool (AW s),h):=by
 refine VQ rfl rfl rfl ⟨h,Ss (fun hl=>?_) (fun hl hs=>?_),fun _ _=>rfl⟩
 ·rw[N_ (n:=1999) rfl]
  exact Qz (fun b h=>FR (Mo b h)) (fun b h=>FR (Pe b h)) (by omega) (by omega)
 ·obtain⟨n1,n2⟩:=Pf hs
  rw[N_ (n:=1999) rfl]
  refine Gf ?_
  rw[Dy,N_ (n:=1998) rfl,← Rq n1 n2]
  have:=Bu
  exact Cp (by rw[PP];exact this) (by rw[PP];omega) (by omega) n1 n2
noncomputable def dB:Array Oper:=DR Tryd.f73 3
noncomputable def EA:Array Oper:=DR Tryd.f73 4
def vH:List (Bool × Bool × List Operand):=[FW,FW,FW,FW,AN [.tmp 31],AN [.tmp 31],AN [.tmp 31],AN [.tmp 31],AN [.tmp 31],AN [.tmp 31],C3 [.tmp 31,.tmp 36],C3 [.tmp 31,.tmp 36],AL,AL]
def QJ:List (Bool × Bool × List Operand):=[AY,AY,AY,C3 [.tmp 39],C3 [.tmp 39],AL,AL,AL,AL,AL,AL,AL,AL,AL,AL,AL,AL,AL,AL,AL,AL,AL,AL,AL,AL,AL,AL,AL,AL,AL,AL,AL,AL,AL,AL,AL,AL,AL,AL,AL,AL,AL,AL,AL,AL,AL,AL,AL,AL]
theorem oI:DS dB=vH:=by kernel_rfl
theorem j9:DS EA=QJ:=by kernel_rfl
theorem KK {T:Tr} {d t b:Nat} {v:Value} (ht:t<b) (hd:b≤d):(T.put (some d) v).get t=T.get t:=by
 rw[Tr.get_put,if_neg]
 intro e
 have:d=t:=Option.some.inj e
 omega
theorem Fm {T:Tr} {d t b:Nat} {v:Value} (hd:b≤d) (ht:t<b):(T.put (some d) v).get t=T.get t:=by
 rw[Tr.get_put,if_neg]
 intro e
 have:d=t:=Option.some.inj e
 omega
section
variable {call:AQ} {n start a b:Nat} {T:Tr} {h:AA} {k:B9} {x:AC} {nm en nu:Bool} {le mo:Int} {ga0 gb0:Bool}
 (hsn:CH call) (t8:T.get 8=qP a 0) (t9:T.get 9=qP b 0) (ga:h.get a=.row [.int .i64 x.kind,.string x.name,.int .i64 x.ends,.int .i64 x.n,.int .i64 x.kids] 46 ga0 false)
 (gb:h.get b=.row [.bool nm,.bool en,.bool nu,.int .i64 le,.int .i64 mo] 123 gb0 false) (hb:(b<start)=True)
include hsn t8 t9 ga gb hb
theorem qB (h91:∀ h',h'.get 0=h.get 0→call 91 [.string x.name] h'=some (.bool (AW x.name),h'))
  (hk:∀ T',T'.get 54=.bool ((AW x.name==nm)&&(nm||x.name==⟨#[]⟩))→(∀ t:Nat,t<39→T'.get t=T.get t)→BV Tryd.prog call n EA start (QJ.drop 16) (EA.toList.drop 16) ⟨T',h⟩ k):BV Tryd.prog call n EA start (QJ.drop 0) (EA.toList.drop 0) ⟨T,h⟩ k:=by
 have gd6:(EA[6]?).bind (·.dst)=some 45:=by kernel_rfl
 have gd9:(EA[9]?).bind (·.dst)=some 48:=by kernel_rfl
 have gd15:(EA[15]?).bind (·.dst)=some 54:=by kernel_rfl
 have gd19:(EA[19]?).bind (·.dst)=some 58:=by kernel_rfl
 have gd22:(EA[22]?).bind (·.dst)=some 61:=by kernel_rfl
 have gd29:(EA[29]?).bind (·.dst)=some 68:=by kernel_rfl
 have gd33:(EA[33]?).bind (·.dst)=some 72:=by kernel_rfl
 have gd36:(EA[36]?).bind (·.dst)=some 75:=by kernel_rfl
 have gd41:(EA[41]?).bind (·.dst)=some 80:=by kernel_rfl
 have h91':=fun f=>h91 (h.fl f) rfl
 refine AF hsn 0 (some 39) (.fieldAddr 46 (.tmp 8) 1) none ?_
 simp only[rG,seval,AB,AE,AD,LS,t8]
 refine AF hsn 1 (some 40) (.load 9 (.tmp 39)) none ?_
 simp only[rG,seval,AB,AE,AD,FQ,SS,JY,false_implies,ga]
 refine AF hsn 2 (some 41) (.call { callee:=.value (.func 91),args:=#[.tmp 40],argTypes:=#[9] }) none ?_
 simp only[rG,seval,AB,AE,AD,CO,h91']
 refine AF hsn 3 (some 42) (.fieldAddr 123 (.tmp 9) 0) none ?_
 simp only[rG,seval,AB,AE,AD,YD,t9]
 refine AF hsn 4 (some 43) (.load 4 (.tmp 42)) none ?_
 simp only[rG,seval,AB,AE,AD,RT,JQ,JY,decide_true,forall_const,gb,hb]
 refine AF hsn 5 (some 44) (.binOp .eql 4 (.tmp 41) (.tmp 43) 4) none ?_
 simp only[rG,seval,AB,AE,AD,UD]
 cases q1:(AW x.name==nm)
 ·skip
  refine AF hsn 6 (some 45) (.move (.tmp 44)) none ?_
  simp only[rG,seval,AB,AE,AD]
  refine AF hsn 7 (some 46) (.fieldAddr 123 (.tmp 9) 0) (some (6,true)) ?_
  simp only[rG,seval,AB,AE,AD,gd6]
  refine AF hsn 8 (some 47) (.load 4 (.tmp 46)) (some (6,true)) ?_
  simp only[rG,seval,AB,AE,AD,gd6]
  refine AF hsn 9 (some 48) (.move (.tmp 47)) (some (6,true)) ?_
  simp only[rG,seval,AB,AE,AD,gd6]
  refine AF hsn 10 (some 49) (.fieldAddr 46 (.tmp 8) 1) (some (9,false)) ?_
  simp only[rG,seval,AB,AE,AD,LS,gd9,t8]
  refine AF hsn 11 (some 50) (.load 9 (.tmp 49)) (some (9,false)) ?_
  simp only[rG,seval,AB,AE,AD,false_implies,gd9]
  refine AF hsn 12 (some 51) (.binOp .eql 9 (.tmp 50) (.const (Value.string { data:=#[] })) 9) (some (9,false)) ?_
  simp only[rG,seval,AB,AE,AD,gd9]
  refine AF hsn 13 (some 52) (.pick (.tmp 48) (.const (Value.bool true)) (.tmp 51)) (some (6,true)) ?_
  simp only[rG,seval,AB,AE,AD,gd6]
  refine AF hsn 14 (some 53) (.pick (.tmp 45) (.tmp 52) (.const (Value.bool false))) none ?_
  simp only[rG,seval,AB,AE,AD]
  refine AF hsn 15 (some 54) (.move (.tmp 53)) none ?_
  simp only[rG,seval,AB,AE,AD]
  refine hk _ ?_ ?_
  ·simp only[Tr.get_put,if_true];first | rfl | simp[*]
  ·intro t ht
   simp only[KK ht,Nat.reduceLeDiff]
 ·skip
  refine AF hsn 6 (some 45) (.move (.tmp 44)) none ?_
  simp only[rG,seval,AB,AE,AD]
  refine AF hsn 7 (some 46) (.fieldAddr 123 (.tmp 9) 0) (some (6,true)) ?_
  simp only[rG,seval,AB,AE,AD,YD,gd6,t9]
  refine AF hsn 8 (some 47) (.load 4 (.tmp 46)) (some (6,true)) ?_
  simp only[rG,seval,AB,AE,AD,RT,JQ,JY,decide_true,false_implies,gd6,gb,hb]
  refine AF hsn 9 (some 48) (.move (.tmp 47)) (some (6,true)) ?_
  simp only[rG,seval,AB,AE,AD,gd6]
  cases nm
  ·skip
   refine AF hsn 10 (some 49) (.fieldAddr 46 (.tmp 8) 1) (some (9,false)) ?_
   simp only[rG,seval,AB,AE,AD,LS,gd9,t8]
   refine AF hsn 11 (some 50) (.load 9 (.tmp 49)) (some (9,false)) ?_
   simp only[rG,seval,AB,AE,AD,FQ,SS,JY,false_implies,gd9,ga]
   refine AF hsn 12 (some 51) (.binOp .eql 9 (.tmp 50) (.const (Value.string { data:=#[] })) 9) (some (9,false)) ?_
   simp only[rG,seval,AB,AE,AD,UP,gd9]
   cases q3:(x.name==⟨#[]⟩)
   ·skip
    refine AF hsn 13 (some 52) (.pick (.tmp 48) (.const (Value.bool true)) (.tmp 51)) (some (6,true)) ?_
    simp only[rG,seval,AB,AE,AD,gd6]
    refine AF hsn 14 (some 53) (.pick (.tmp 45) (.tmp 52) (.const (Value.bool false))) none ?_
    simp only[rG,seval,AB,AE,AD]
    refine AF hsn 15 (some 54) (.move (.tmp 53)) none ?_
    simp only[rG,seval,AB,AE,AD]
    refine hk _ ?_ ?_
    ·simp only[Tr.get_put,if_true];first | rfl | simp[*]
    ·intro t ht
     simp only[KK ht,Nat.reduceLeDiff]
   ·skip
    refine AF hsn 13 (some 52) (.pick (.tmp 48) (.const (Value.bool true)) (.tmp 51)) (some (6,true)) ?_
    simp only[rG,seval,AB,AE,AD,gd6]
    refine AF hsn 14 (some 53) (.pick (.tmp 45) (.tmp 52) (.const (Value.bool false))) none ?_
    simp only[rG,seval,AB,AE,AD]
    refine AF hsn 15 (some 54) (.move (.tmp 53)) none ?_
    simp only[rG,seval,AB,AE,AD]
    refine hk _ ?_ ?_
    ·simp only[Tr.get_put,if_true];first | rfl | simp[*]
    ·intro t ht
     simp only[KK ht,Nat.reduceLeDiff]
  ·skip
   refine AF hsn 10 (some 49) (.fieldAddr 46 (.tmp 8) 1) (some (9,false)) ?_
   simp only[rG,seval,AB,AE,AD,gd9]
   refine AF hsn 11 (some 50) (.load 9 (.tmp 49)) (some (9,false)) ?_
   simp only[rG,seval,AB,AE,AD,gd9]
   refine AF hsn 12 (some 51) (.binOp .eql 9 (.tmp 50) (.const (Value.string { data:=#[] })) 9) (some (9,false)) ?_
   simp only[rG,seval,AB,AE,AD,gd9]
   refine AF hsn 13 (some 52) (.pick (.tmp 48) (.const (Value.bool true)) (.tmp 51)) (some (6,true)) ?_
   simp only[rG,seval,AB,AE,AD,gd6]
   refine AF hsn 14 (some 53) (.pick (.tmp 45) (.tmp 52) (.const (Value.bool false))) none ?_
   simp only[rG,seval,AB,AE,AD]
   refine AF hsn 15 (some 54) (.move (.tmp 53)) none ?_
   simp only[rG,seval,AB,AE,AD]
   refine hk _ ?_ ?_
   ·simp only[Tr.get_put,if_true];first | rfl | simp[*]
   ·intro t ht
    simp only[KK ht,Nat.reduceLeDiff]
theorem mZ {c:Bool} (t54:T.get 54=.bool c)
  (hk:∀ T',T'.get 68=.bool (c&&(x.ends==0||en&&x.ends==1))→(∀ t:Nat,t<55→T'.get t=T.get t)→BV Tryd.prog call n EA start (QJ.drop 30) (EA.toList.drop 30) ⟨T',h⟩ k):BV Tryd.prog call n EA start (QJ.drop 16) (EA.toList.drop 16) ⟨T,h⟩ k:=by
 have gd6:(EA[6]?).bind (·.dst)=some 45:=by kernel_rfl
 have gd9:(EA[9]?).bind (·.dst)=some 48:=by kernel_rfl
 have gd15:(EA[15]?).bind (·.dst)=some 54:=by kernel_rfl
 have gd19:(EA[19]?).bind (·.dst)=some 58:=by kernel_rfl
 have gd22:(EA[22]?).bind (·.dst)=some 61:=by kernel_rfl
 have gd29:(EA[29]?).bind (·.dst)=some 68:=by kernel_rfl
 have gd33:(EA[33]?).bind (·.dst)=some 72:=by kernel_rfl
 have gd36:(EA[36]?).bind (·.dst)=some 75:=by kernel_rfl
 have gd41:(EA[41]?).bind (·.dst)=some 80:=by kernel_rfl
 cases c
 ·skip
  refine AF hsn 16 (some 55) (.fieldAddr 46 (.tmp 8) 2) (some (15,true)) ?_
  simp only[rG,seval,AB,AE,AD,gd15,t54]
  refine AF hsn 17 (some 56) (.load 3 (.tmp 55)) (some (15,true)) ?_
  simp only[rG,seval,AB,AE,AD,gd15,t54]
  refine AF hsn 18 (some 57) (.binOp .eql 3 (.tmp 56) (.const (Value.int IntKind.i64 0)) 3) (some (15,true)) ?_
  simp only[rG,seval,AB,AE,AD,gd15,t54]
  refine AF hsn 19 (some 58) (.move (.tmp 57)) (some (15,true)) ?_
  simp only[rG,seval,AB,AE,AD,gd15,t54]
  refine AF hsn 20 (some 59) (.fieldAddr 123 (.tmp 9) 1) (some (19,false)) ?_
  simp only[rG,seval,AB,AE,AD,ZB,gd19,t9]
  refine AF hsn 21 (some 60) (.load 4 (.tmp 59)) (some (19,false)) ?_
  simp only[rG,seval,AB,AE,AD,false_implies,gd19]
  refine AF hsn 22 (some 61) (.move (.tmp 60)) (some (19,false)) ?_
  simp only[rG,seval,AB,AE,AD,gd19]
  refine AF hsn 23 (some 62) (.fieldAddr 46 (.tmp 8) 2) (some (22,true)) ?_
  simp only[rG,seval,AB,AE,AD,R_,gd22,t8]
  refine AF hsn 24 (some 63) (.load 3 (.tmp 62)) (some (22,true)) ?_
  simp only[rG,seval,AB,AE,AD,false_implies,gd22]
  refine AF hsn 25 (some 64) (.binOp .eql 3 (.tmp 63) (.const (Value.int IntKind.i64 1)) 3) (some (22,true)) ?_
  simp only[rG,seval,AB,AE,AD,gd22]
  refine AF hsn 26 (some 65) (.pick (.tmp 61) (.tmp 64) (.const (Value.bool false))) (some (19,false)) ?_
  simp only[rG,seval,AB,AE,AD,gd19]
  refine AF hsn 27 (some 66) (.pick (.tmp 58) (.const (Value.bool true)) (.tmp 65)) (some (15,true)) ?_
  simp only[rG,seval,AB,AE,AD,gd15,t54]
  refine AF hsn 28 (some 67) (.pick (.tmp 54) (.tmp 66) (.const (Value.bool false))) none ?_
  simp only[rG,seval,AB,AE,AD,t54]
  refine AF hsn 29 (some 68) (.move (.tmp 67)) none ?_
  simp only[rG,seval,AB,AE,AD]
  refine hk _ ?_ ?_
  ·simp only[Tr.get_put,if_true];first | rfl | simp[*]
  ·intro t ht
   simp only[KK ht,Nat.reduceLeDiff]
 ·skip
  refine AF hsn 16 (some 55) (.fieldAddr 46 (.tmp 8) 2) (some (15,true)) ?_
  simp only[rG,seval,AB,AE,AD,R_,gd15,t8,t54]
  refine AF hsn 17 (some 56) (.load 3 (.tmp 55)) (some (15,true)) ?_
  simp only[rG,seval,AB,AE,AD,A_,U1,JY,false_implies,gd15,ga,t54]
  refine AF hsn 18 (some 57) (.binOp .eql 3 (.tmp 56) (.const (Value.int IntKind.i64 0)) 3) (some (15,true)) ?_
  simp only[rG,seval,AB,AE,AD,PZ,gd15,t54]
  cases q1:(x.ends==0)
  ·skip
   refine AF hsn 19 (some 58) (.move (.tmp 57)) (some (15,true)) ?_
   simp only[rG,seval,AB,AE,AD,gd15,t54]
   refine AF hsn 20 (some 59) (.fieldAddr 123 (.tmp 9) 1) (some (19,false)) ?_
   simp only[rG,seval,AB,AE,AD,ZB,gd19,t9]
   refine AF hsn 21 (some 60) (.load 4 (.tmp 59)) (some (19,false)) ?_
   simp only[rG,seval,AB,AE,AD,RT,SS,JY,decide_true,false_implies,gd19,gb,hb]
   refine AF hsn 22 (some 61) (.move (.tmp 60)) (some (19,false)) ?_
   simp only[rG,seval,AB,AE,AD,gd19]
   cases en
   ·skip
    refine AF hsn 23 (some 62) (.fieldAddr 46 (.tmp 8) 2) (some (22,true)) ?_
    simp only[rG,seval,AB,AE,AD,gd22]
    refine AF hsn 24 (some 63) (.load 3 (.tmp 62)) (some (22,true)) ?_
    simp only[rG,seval,AB,AE,AD,gd22]
    refine AF hsn 25 (some 64) (.binOp .eql 3 (.tmp 63) (.const (Value.int IntKind.i64 1)) 3) (some (22,true)) ?_
    simp only[rG,seval,AB,AE,AD,gd22]
    refine AF hsn 26 (some 65) (.pick (.tmp 61) (.tmp 64) (.const (Value.bool false))) (some (19,false)) ?_
    simp only[rG,seval,AB,AE,AD,gd19]
    refine AF hsn 27 (some 66) (.pick (.tmp 58) (.const (Value.bool true)) (.tmp 65)) (some (15,true)) ?_
    simp only[rG,seval,AB,AE,AD,gd15,t54]
    refine AF hsn 28 (some 67) (.pick (.tmp 54) (.tmp 66) (.const (Value.bool false))) none ?_
    simp only[rG,seval,AB,AE,AD,t54]
    refine AF hsn 29 (some 68) (.move (.tmp 67)) none ?_
    simp only[rG,seval,AB,AE,AD]
    refine hk _ ?_ ?_
    ·simp only[Tr.get_put,if_true];first | rfl | simp[*]
    ·intro t ht
     simp only[KK ht,Nat.reduceLeDiff]
   ·skip
    refine AF hsn 23 (some 62) (.fieldAddr 46 (.tmp 8) 2) (some (22,true)) ?_
    simp only[rG,seval,AB,AE,AD,R_,gd22,t8]
    refine AF hsn 24 (some 63) (.load 3 (.tmp 62)) (some (22,true)) ?_
    simp only[rG,seval,AB,AE,AD,A_,U1,JY,false_implies,gd22,ga]
    refine AF hsn 25 (some 64) (.binOp .eql 3 (.tmp 63) (.const (Value.int IntKind.i64 1)) 3) (some (22,true)) ?_
    simp only[rG,seval,AB,AE,AD,PZ,gd22]
    cases q3:(x.ends==1)
    ·skip
     refine AF hsn 26 (some 65) (.pick (.tmp 61) (.tmp 64) (.const (Value.bool false))) (some (19,false)) ?_
     simp only[rG,seval,AB,AE,AD,gd19]
     refine AF hsn 27 (some 66) (.pick (.tmp 58) (.const (Value.bool true)) (.tmp 65)) (some (15,true)) ?_
     simp only[rG,seval,AB,AE,AD,gd15,t54]
     refine AF hsn 28 (some 67) (.pick (.tmp 54) (.tmp 66) (.const (Value.bool false))) none ?_
     simp only[rG,seval,AB,AE,AD,t54]
     refine AF hsn 29 (some 68) (.move (.tmp 67)) none ?_
     simp only[rG,seval,AB,AE,AD]
     refine hk _ ?_ ?_
     ·simp only[Tr.get_put,if_true];first | rfl | simp[*]
     ·intro t ht
      simp only[KK ht,Nat.reduceLeDiff]
    ·skip
     refine AF hsn 26 (some 65) (.pick (.tmp 61) (.tmp 64) (.const (Value.bool false))) (some (19,false)) ?_
     simp only[rG,seval,AB,AE,AD,gd19]
     refine AF hsn 27 (some 66) (.pick (.tmp 58) (.const (Value.bool true)) (.tmp 65)) (some (15,true)) ?_
     simp only[rG,seval,AB,AE,AD,gd15,t54]
     refine AF hsn 28 (some 67) (.pick (.tmp 54) (.tmp 66) (.const (Value.bool false))) none ?_
     simp only[rG,seval,AB,AE,AD,t54]
     refine AF hsn 29 (some 68) (.move (.tmp 67)) none ?_
     simp only[rG,seval,AB,AE,AD]
     refine hk _ ?_ ?_
     ·simp only[Tr.get_put,if_true];first | rfl | simp[*]
     ·intro t ht
      simp only[KK ht,Nat.reduceLeDiff]
  ·skip
   refine AF hsn 19 (some 58) (.move (.tmp 57)) (some (15,true)) ?_
   simp only[rG,seval,AB,AE,AD,gd15,t54]
   refine AF hsn 20 (some 59) (.fieldAddr 123 (.tmp 9) 1) (some (19,false)) ?_
   simp only[rG,seval,AB,AE,AD,gd19]
   refine AF hsn 21 (some 60) (.load 4 (.tmp 59)) (some (19,false)) ?_
   simp only[rG,seval,AB,AE,AD,gd19]
   refine AF hsn 22 (some 61) (.move (.tmp 60)) (some (19,false)) ?_
   simp only[rG,seval,AB,AE,AD,gd19]
   refine AF hsn 23 (some 62) (.fieldAddr 46 (.tmp 8) 2) (some (22,true)) ?_
   simp only[rG,seval,AB,AE,AD,R_,gd22,t8]
   refine AF hsn 24 (some 63) (.load 3 (.tmp 62)) (some (22,true)) ?_
   simp only[rG,seval,AB,AE,AD,false_implies,gd22]
   refine AF hsn 25 (some 64) (.binOp .eql 3 (.tmp 63) (.const (Value.int IntKind.i64 1)) 3) (some (22,true)) ?_
   simp only[rG,seval,AB,AE,AD,gd22]
   refine AF hsn 26 (some 65) (.pick (.tmp 61) (.tmp 64) (.const (Value.bool false))) (some (19,false)) ?_
   simp only[rG,seval,AB,AE,AD,gd19]
   refine AF hsn 27 (some 66) (.pick (.tmp 58) (.const (Value.bool true)) (.tmp 65)) (some (15,true)) ?_
   simp only[rG,seval,AB,AE,AD,gd15,t54]
   refine AF hsn 28 (some 67) (.pick (.tmp 54) (.tmp 66) (.const (Value.bool false))) none ?_
   simp only[rG,seval,AB,AE,AD,t54]
   refine AF hsn 29 (some 68) (.move (.tmp 67)) none ?_
   simp only[rG,seval,AB,AE,AD]
   refine hk _ ?_ ?_
   ·simp only[Tr.get_put,if_true];first | rfl | simp[*]
   ·intro t ht
    simp only[KK ht,Nat.reduceLeDiff]
theorem nO {c:Bool} (t68:T.get 68=.bool c)
  (hk:∀ T',T'.get 10=.bool (c&&(x.n==0||nu&&decide (x.n>0)&&decide (x.n≤1073741824)))→(∀ t:Nat,t<10→T'.get t=T.get t)→BV Tryd.prog call n EA start (QJ.drop 49) (EA.toList.drop 49) ⟨T',h⟩ k):BV Tryd.prog call n EA start (QJ.drop 30) (EA.toList.drop 30) ⟨T,h⟩ k:=by
 have gd6:(EA[6]?).bind (·.dst)=some 45:=by kernel_rfl
 have gd9:(EA[9]?).bind (·.dst)=some 48:=by kernel_rfl
 have gd15:(EA[15]?).bind (·.dst)=some 54:=by kernel_rfl
 have gd19:(EA[19]?).bind (·.dst)=some 58:=by kernel_rfl
 have gd22:(EA[22]?).bind (·.dst)=some 61:=by kernel_rfl
 have gd29:(EA[29]?).bind (·.dst)=some 68:=by kernel_rfl
 have gd33:(EA[33]?).bind (·.dst)=some 72:=by kernel_rfl
 have gd36:(EA[36]?).bind (·.dst)=some 75:=by kernel_rfl
 have gd41:(EA[41]?).bind (·.dst)=some 80:=by kernel_rfl
 cases c
 ·skip
  refine AF hsn 30 (some 69) (.fieldAddr 46 (.tmp 8) 3) (some (29,true)) ?_
  simp only[rG,seval,AB,AE,AD,gd29,t68]
  refine AF hsn 31 (some 70) (.load 3 (.tmp 69)) (some (29,true)) ?_
  simp only[rG,seval,AB,AE,AD,gd29,t68]
  refine AF hsn 32 (some 71) (.binOp .eql 3 (.tmp 70) (.const (Value.int IntKind.i64 0)) 3) (some (29,true)) ?_
  simp only[rG,seval,AB,AE,AD,gd29,t68]
  refine AF hsn 33 (some 72) (.move (.tmp 71)) (some (29,true)) ?_
  simp only[rG,seval,AB,AE,AD,gd29,t68]
  refine AF hsn 34 (some 73) (.fieldAddr 123 (.tmp 9) 2) (some (33,false)) ?_
  simp only[rG,seval,AB,AE,AD,Y3,gd33,t9]
  refine AF hsn 35 (some 74) (.load 4 (.tmp 73)) (some (33,false)) ?_
  simp only[rG,seval,AB,AE,AD,false_implies,gd33]
  refine AF hsn 36 (some 75) (.move (.tmp 74)) (some (33,false)) ?_
  simp only[rG,seval,AB,AE,AD,gd33]
  refine AF hsn 37 (some 76) (.fieldAddr 46 (.tmp 8) 3) (some (36,true)) ?_
  simp only[rG,seval,AB,AE,AD,JP,gd36,t8]
  refine AF hsn 38 (some 77) (.load 3 (.tmp 76)) (some (36,true)) ?_
  simp only[rG,seval,AB,AE,AD,false_implies,gd36]
  refine AF hsn 39 (some 78) (.binOp .gtr 3 (.tmp 77) (.const (Value.int IntKind.i64 0)) 3) (some (36,true)) ?_
  simp only[rG,seval,AB,AE,AD,gd36]
  refine AF hsn 40 (some 79) (.pick (.tmp 75) (.tmp 78) (.const (Value.bool false))) (some (33,false)) ?_
  simp only[rG,seval,AB,AE,AD,gd33]
  refine AF hsn 41 (some 80) (.move (.tmp 79)) (some (33,false)) ?_
  simp only[rG,seval,AB,AE,AD,gd33]
  refine AF hsn 42 (some 81) (.fieldAddr 46 (.tmp 8) 3) (some (41,true)) ?_
  simp only[rG,seval,AB,AE,AD,JP,gd41,t8]
  refine AF hsn 43 (some 82) (.load 3 (.tmp 81)) (some (41,true)) ?_
  simp only[rG,seval,AB,AE,AD,false_implies,gd41]
  refine AF hsn 44 (some 83) (.binOp .leq 3 (.tmp 82) (.const (Value.int IntKind.i64 1073741824)) 3) (some (41,true)) ?_
  simp only[rG,seval,AB,AE,AD,gd41]
  refine AF hsn 45 (some 84) (.pick (.tmp 80) (.tmp 83) (.const (Value.bool false))) (some (33,false)) ?_
  simp only[rG,seval,AB,AE,AD,gd33]
  refine AF hsn 46 (some 85) (.pick (.tmp 72) (.const (Value.bool true)) (.tmp 84)) (some (29,true)) ?_
  simp only[rG,seval,AB,AE,AD,gd29,t68]
  refine AF hsn 47 (some 86) (.pick (.tmp 68) (.tmp 85) (.const (Value.bool false))) none ?_
  simp only[rG,seval,AB,AE,AD,t68]
  refine AF hsn 48 (some 10) (.assign (.tmp 86)) none ?_
  simp only[rG,seval,AB,AE,AD]
  refine hk _ ?_ ?_
  ·simp only[Tr.get_put,if_true];first | rfl | simp[*]
  ·intro t ht
   simp only[KK ht,Nat.reduceLeDiff]
 ·skip
  refine AF hsn 30 (some 69) (.fieldAddr 46 (.tmp 8) 3) (some (29,true)) ?_
  simp only[rG,seval,AB,AE,AD,JP,gd29,t8,t68]
  refine AF hsn 31 (some 70) (.load 3 (.tmp 69)) (some (29,true)) ?_
  simp only[rG,seval,AB,AE,AD,A_,QM,JY,false_implies,gd29,ga,t68]
  refine AF hsn 32 (some 71) (.binOp .eql 3 (.tmp 70) (.const (Value.int IntKind.i64 0)) 3) (some (29,true)) ?_
  simp only[rG,seval,AB,AE,AD,PZ,gd29,t68]
  cases q1:(x.n==0)
  ·skip
   refine AF hsn 33 (some 72) (.move (.tmp 71)) (some (29,true)) ?_
   simp only[rG,seval,AB,AE,AD,gd29,t68]
   refine AF hsn 34 (some 73) (.fieldAddr 123 (.tmp 9) 2) (some (33,false)) ?_
   simp only[rG,seval,AB,AE,AD,Y3,gd33,t9]
   refine AF hsn 35 (some 74) (.load 4 (.tmp 73)) (some (33,false)) ?_
   simp only[rG,seval,AB,AE,AD,RT,U1,JY,decide_true,false_implies,gd33,gb,hb]
   refine AF hsn 36 (some 75) (.move (.tmp 74)) (some (33,false)) ?_
   simp only[rG,seval,AB,AE,AD,gd33]
   cases nu
   ·skip
    refine AF hsn 37 (some 76) (.fieldAddr 46 (.tmp 8) 3) (some (36,true)) ?_
    simp only[rG,seval,AB,AE,AD,gd36]
    refine AF hsn 38 (some 77) (.load 3 (.tmp 76)) (some (36,true)) ?_
    simp only[rG,seval,AB,AE,AD,gd36]
    refine AF hsn 39 (some 78) (.binOp .gtr 3 (.tmp 77) (.const (Value.int IntKind.i64 0)) 3) (some (36,true)) ?_
    simp only[rG,seval,AB,AE,AD,gd36]
    refine AF hsn 40 (some 79) (.pick (.tmp 75) (.tmp 78) (.const (Value.bool false))) (some (33,false)) ?_
    simp only[rG,seval,AB,AE,AD,gd33]
    refine AF hsn 41 (some 80) (.move (.tmp 79)) (some (33,false)) ?_
    simp only[rG,seval,AB,AE,AD,gd33]
    refine AF hsn 42 (some 81) (.fieldAddr 46 (.tmp 8) 3) (some (41,true)) ?_
    simp only[rG,seval,AB,AE,AD,gd41]
    refine AF hsn 43 (some 82) (.load 3 (.tmp 81)) (some (41,true)) ?_
    simp only[rG,seval,AB,AE,AD,gd41]
    refine AF hsn 44 (some 83) (.binOp .leq 3 (.tmp 82) (.const (Value.int IntKind.i64 1073741824)) 3) (some (41,true)) ?_
    simp only[rG,seval,AB,AE,AD,gd41]
    refine AF hsn 45 (some 84) (.pick (.tmp 80) (.tmp 83) (.const (Value.bool false))) (some (33,false)) ?_
    simp only[rG,seval,AB,AE,AD,gd33]
    refine AF hsn 46 (some 85) (.pick (.tmp 72) (.const (Value.bool true)) (.tmp 84)) (some (29,true)) ?_
    simp only[rG,seval,AB,AE,AD,gd29,t68]
    refine AF hsn 47 (some 86) (.pick (.tmp 68) (.tmp 85) (.const (Value.bool false))) none ?_
    simp only[rG,seval,AB,AE,AD,t68]
    refine AF hsn 48 (some 10) (.assign (.tmp 86)) none ?_
    simp only[rG,seval,AB,AE,AD]
    refine hk _ ?_ ?_
    ·simp only[Tr.get_put,if_true];first | rfl | simp[*]
    ·intro t ht
     simp only[KK ht,Nat.reduceLeDiff]
   ·skip
    refine AF hsn 37 (some 76) (.fieldAddr 46 (.tmp 8) 3) (some (36,true)) ?_
    simp only[rG,seval,AB,AE,AD,JP,gd36,t8]
    refine AF hsn 38 (some 77) (.load 3 (.tmp 76)) (some (36,true)) ?_
    simp only[rG,seval,AB,AE,AD,A_,QM,JY,false_implies,gd36,ga]
    refine AF hsn 39 (some 78) (.binOp .gtr 3 (.tmp 77) (.const (Value.int IntKind.i64 0)) 3) (some (36,true)) ?_
    simp only[rG,seval,AB,AE,AD,RF,gd36]
    cases q3:decide (x.n>0)
    ·skip
     refine AF hsn 40 (some 79) (.pick (.tmp 75) (.tmp 78) (.const (Value.bool false))) (some (33,false)) ?_
     simp only[rG,seval,AB,AE,AD,gd33]
     refine AF hsn 41 (some 80) (.move (.tmp 79)) (some (33,false)) ?_
     simp only[rG,seval,AB,AE,AD,gd33]
     refine AF hsn 42 (some 81) (.fieldAddr 46 (.tmp 8) 3) (some (41,true)) ?_
     simp only[rG,seval,AB,AE,AD,gd41]
     refine AF hsn 43 (some 82) (.load 3 (.tmp 81)) (some (41,true)) ?_
     simp only[rG,seval,AB,AE,AD,gd41]
     refine AF hsn 44 (some 83) (.binOp .leq 3 (.tmp 82) (.const (Value.int IntKind.i64 1073741824)) 3) (some (41,true)) ?_
     simp only[rG,seval,AB,AE,AD,gd41]
     refine AF hsn 45 (some 84) (.pick (.tmp 80) (.tmp 83) (.const (Value.bool false))) (some (33,false)) ?_
     simp only[rG,seval,AB,AE,AD,gd33]
     refine AF hsn 46 (some 85) (.pick (.tmp 72) (.const (Value.bool true)) (.tmp 84)) (some (29,true)) ?_
     simp only[rG,seval,AB,AE,AD,gd29,t68]
     refine AF hsn 47 (some 86) (.pick (.tmp 68) (.tmp 85) (.const (Value.bool false))) none ?_
     simp only[rG,seval,AB,AE,AD,t68]
     refine AF hsn 48 (some 10) (.assign (.tmp 86)) none ?_
     simp only[rG,seval,AB,AE,AD]
     refine hk _ ?_ ?_
     ·simp only[Tr.get_put,if_true];first | rfl | simp[*]
     ·intro t ht
      simp only[KK ht,Nat.reduceLeDiff]
    ·skip
     refine AF hsn 40 (some 79) (.pick (.tmp 75) (.tmp 78) (.const (Value.bool false))) (some (33,false)) ?_
     simp only[rG,seval,AB,AE,AD,gd33]
     refine AF hsn 41 (some 80) (.move (.tmp 79)) (some (33,false)) ?_
     simp only[rG,seval,AB,AE,AD,gd33]
     refine AF hsn 42 (some 81) (.fieldAddr 46 (.tmp 8) 3) (some (41,true)) ?_
     simp only[rG,seval,AB,AE,AD,JP,gd41,t8]
     refine AF hsn 43 (some 82) (.load 3 (.tmp 81)) (some (41,true)) ?_
     simp only[rG,seval,AB,AE,AD,A_,QM,JY,false_implies,gd41,ga]
     refine AF hsn 44 (some 83) (.binOp .leq 3 (.tmp 82) (.const (Value.int IntKind.i64 1073741824)) 3) (some (41,true)) ?_
     simp only[rG,seval,AB,AE,AD,UL,gd41]
     cases q4:decide (x.n≤1073741824)
     ·skip
      refine AF hsn 45 (some 84) (.pick (.tmp 80) (.tmp 83) (.const (Value.bool false))) (some (33,false)) ?_
      simp only[rG,seval,AB,AE,AD,gd33]
      refine AF hsn 46 (some 85) (.pick (.tmp 72) (.const (Value.bool true)) (.tmp 84)) (some (29,true)) ?_
      simp only[rG,seval,AB,AE,AD,gd29,t68]
      refine AF hsn 47 (some 86) (.pick (.tmp 68) (.tmp 85) (.const (Value.bool false))) none ?_
      simp only[rG,seval,AB,AE,AD,t68]
      refine AF hsn 48 (some 10) (.assign (.tmp 86)) none ?_
      simp only[rG,seval,AB,AE,AD]
      refine hk _ ?_ ?_
      ·simp only[Tr.get_put,if_true];first | rfl | simp[*]
      ·intro t ht
       simp only[KK ht,Nat.reduceLeDiff]
     ·skip
      refine AF hsn 45 (some 84) (.pick (.tmp 80) (.tmp 83) (.const (Value.bool false))) (some (33,false)) ?_
      simp only[rG,seval,AB,AE,AD,gd33]
      refine AF hsn 46 (some 85) (.pick (.tmp 72) (.const (Value.bool true)) (.tmp 84)) (some (29,true)) ?_
      simp only[rG,seval,AB,AE,AD,gd29,t68]
      refine AF hsn 47 (some 86) (.pick (.tmp 68) (.tmp 85) (.const (Value.bool false))) none ?_
      simp only[rG,seval,AB,AE,AD,t68]
      refine AF hsn 48 (some 10) (.assign (.tmp 86)) none ?_
      simp only[rG,seval,AB,AE,AD]
      refine hk _ ?_ ?_
      ·simp only[Tr.get_put,if_true];first | rfl | simp[*]
      ·intro t ht
       simp only[KK ht,Nat.reduceLeDiff]
  ·skip
   refine AF hsn 33 (some 72) (.move (.tmp 71)) (some (29,true)) ?_
   simp only[rG,seval,AB,AE,AD,gd29,t68]
   refine AF hsn 34 (some 73) (.fieldAddr 123 (.tmp 9) 2) (some (33,false)) ?_
   simp only[rG,seval,AB,AE,AD,gd33]
   refine AF hsn 35 (some 74) (.load 4 (.tmp 73)) (some (33,false)) ?_
   simp only[rG,seval,AB,AE,AD,gd33]
   refine AF hsn 36 (some 75) (.move (.tmp 74)) (some (33,false)) ?_
   simp only[rG,seval,AB,AE,AD,gd33]
   refine AF hsn 37 (some 76) (.fieldAddr 46 (.tmp 8) 3) (some (36,true)) ?_
   simp only[rG,seval,AB,AE,AD,JP,gd36,t8]
   refine AF hsn 38 (some 77) (.load 3 (.tmp 76)) (some (36,true)) ?_
   simp only[rG,seval,AB,AE,AD,false_implies,gd36]
   refine AF hsn 39 (some 78) (.binOp .gtr 3 (.tmp 77) (.const (Value.int IntKind.i64 0)) 3) (some (36,true)) ?_
   simp only[rG,seval,AB,AE,AD,gd36]
   refine AF hsn 40 (some 79) (.pick (.tmp 75) (.tmp 78) (.const (Value.bool false))) (some (33,false)) ?_
   simp only[rG,seval,AB,AE,AD,gd33]
   refine AF hsn 41 (some 80) (.move (.tmp 79)) (some (33,false)) ?_
   simp only[rG,seval,AB,AE,AD,gd33]
   refine AF hsn 42 (some 81) (.fieldAddr 46 (.tmp 8) 3) (some (41,true)) ?_
   simp only[rG,seval,AB,AE,AD,JP,gd41,t8]
   refine AF hsn 43 (some 82) (.load 3 (.tmp 81)) (some (41,true)) ?_
   simp only[rG,seval,AB,AE,AD,false_implies,gd41]
   refine AF hsn 44 (some 83) (.binOp .leq 3 (.tmp 82) (.const (Value.int IntKind.i64 1073741824)) 3) (some (41,true)) ?_
   simp only[rG,seval,AB,AE,AD,gd41]
   refine AF hsn 45 (some 84) (.pick (.tmp 80) (.tmp 83) (.const (Value.bool false))) (some (33,false)) ?_
   simp only[rG,seval,AB,AE,AD,gd33]
   refine AF hsn 46 (some 85) (.pick (.tmp 72) (.const (Value.bool true)) (.tmp 84)) (some (29,true)) ?_
   simp only[rG,seval,AB,AE,AD,gd29,t68]
   refine AF hsn 47 (some 86) (.pick (.tmp 68) (.tmp 85) (.const (Value.bool false))) none ?_
   simp only[rG,seval,AB,AE,AD,t68]
   refine AF hsn 48 (some 10) (.assign (.tmp 86)) none ?_
   simp only[rG,seval,AB,AE,AD]
   refine hk _ ?_ ?_
   ·simp only[Tr.get_put,if_true];first | rfl | simp[*]
   ·intro t ht
    simp only[KK ht,Nat.reduceLeDiff]
end
def rt:Code→Code
 | .seq _ b=>b
 | c=>c
def lf:Code→Code
 | .seq a _=>a
 | c=>c
noncomputable def S7:Code:=rt (rt (rt (Tryd.f73.body.getD .skip)))
theorem Pg {what k:Int} (hw:what≠8) (h:CD what k=true):k≠1:=by
 intro e
 subst e
 unfold CD at h
 rw[if_neg hw] at h
 (repeat' split at h) <;> simp at h
theorem Ph {k:Int} {j:Nat}:BY k j≠8:=W3.2
theorem QD (k:Int):0≤FC k:=by unfold FC;(repeat' split) <;> omega
section
variable {call:AQ} {n:Nat}
structure rW (call:AQ) (l:List AC) (v:Value) (m at_:Nat):Prop where
 asked:∀ (k:Int) (j:Nat) h,1≤k∧k≤54→(k=11∨(j:Int)<CT k)→call 93 [iv k,iv j] h=some (iv (BY k j),h)
 row:∀ (p:Nat) (w:Int) h,at_<p→p≤l.length→w≠8→AV h v l→h.get 0=DZ→0<h.next→h.floor≤h.next→call 73 [v,iv p,iv w] h=some (.tuple #[iv ((BS AW l m p w).1:Int),.bool (BS AW l m p w).2],h)
theorem Dc (hsn:CH call) {l:List AC} {v:Value} {m at_ a b:Nat} {x:AC} {T:Tr} {h:AA} {k:B9} {ga0 gb0:Bool} (hc:rW call l v m at_) (hn:l.length+3<n) (hlen:l.length<30000000000000) (hat:at_<l.length)
  (h91:∀ h',h'.get 0=DZ→call 91 [.string x.name] h'=some (.bool (AW x.name),h'))
  (hv:AV h v l) (hg:h.get 0=DZ) (hn0:0<h.next) (hfl:h.floor≤h.next) (hkind:1≤x.kind∧x.kind≤54) (hk1:x.kind≠1)
  (t0:T.get 0=v) (t1:T.get 1=iv at_) (t8:T.get 8=qP a 0) (t9:T.get 9=qP b 0)
  (ga:h.get a=.row [.int .i64 x.kind,.string x.name,.int .i64 x.ends,.int .i64 x.n,.int .i64 x.kids] 46 ga0 false)
  (gb:h.get b=.row [.bool (HG x.kind),.bool (JR x.kind),.bool (x.kind==27),.int .i64 (FC x.kind),.int .i64 (CT x.kind)] 123 gb0 false) (hb:b<h.next)
  (hk:∀ T' (p:Nat) ok,(p,ok)=(if DU AW x=true then EQ (fun k next=>BS AW l m next (BY x.kind k)) x.kids.toNat 0 (at_+1) else (at_,false))→T'.get 6=iv p→T'.get 7=.bool ok→k.ap Tryd.prog call n .ret ⟨T',h⟩) :
  WK Tryd.prog call n S7 ⟨T,h⟩ k:=by
 show WK _ _ _ (.seq (.region _ _ true) _) _ _
 rw[LD]
 refine WK.flags (ops:=EA) j9 ?_
 refine BV.begin ?_
 refine qB hsn t8 t9 ga gb (by simpa using hb) (fun h' e=>h91 h' (by rw[e];exact hg)) fun T1 e1 k1=>?_
 refine mZ hsn (by rw[k1 8 (by decide)];exact t8) (by rw[k1 9 (by decide)];exact t9) ga gb (by simpa using hb) e1 fun T2 e2 k2=>?_
 refine nO hsn (by rw[k2 8 (by decide),k1 8 (by decide)];exact t8) (by rw[k2 9 (by decide),k1 9 (by decide)];exact t9) ga gb (by simpa using hb) e2 fun T3 e3 k3=>?_
 refine BV.done (i:=49) (by kernel_rfl) ?_
 rw[SB]
 have kp:∀ t:Nat,t<10→T3.get t=T.get t:=fun t ht=>by rw[k3 t ht,k2 t (by omega),k1 t (by omega)]
 have u0:=(kp 0 (by decide)).trans t0
 have u1:=(kp 1 (by decide)).trans t1
 have u8:=(kp 8 (by decide)).trans t8
 have u9:=(kp 9 (by decide)).trans t9
 clear k1 k2 k3 kp e1 e2
 generalize hcc:(((AW x.name==HG x.kind)&&(HG x.kind||x.name==⟨#[]⟩))&&(x.ends==0||JR x.kind&&x.ends==1)&&(x.n==0||(x.kind==27)&&decide (x.n>0)&&decide (x.n≤1073741824)))=cc at e3
 have hfit:DU AW x=(cc&&decide (x.kids≥FC x.kind)&&(decide (CT x.kind<0)||decide (x.kids≤CT x.kind))):=by
  rw[← hcc]
  rfl
 have bad:DU AW x=false→∀ T',T'.get 6=iv at_→T'.get 7=.bool false→k.ap Tryd.prog call n .ret ⟨T',h⟩:=fun hf T' h6 h7=>hk T' at_ false (by rw[hf];rfl) h6 h7
 have e1:(x.kind==1)=false:=by simpa using hk1
 have hkids:DU AW x=true→0≤x.kids∧(decide (CT x.kind<0)||decide (x.kids≤CT x.kind))=true:=fun hf=>by
  rw[hfit] at hf
  simp only[Bool.and_eq_true,decide_eq_true_eq] at hf
  have:=QD x.kind
  exact⟨by omega,hf.2⟩
 have main:DU AW x=true→∀ T',T'.get 0=v→T'.get 1=iv at_→T'.get 8=qP a 0→WK Tryd.prog call n (rt (rt S7)) ⟨T',h⟩ k:=by
  intro hf T' w0 w1 w8
  obtain⟨hk0,hkm⟩:=hkids hf
  have hkN:((x.kids.toNat:Nat):Int)=x.kids:=by omega
  have wat:=DJ at_ (by omega)
  show WK _ _ _ (.seq _ _) _ _
  simp only[eE,seval,↓eP,rP,w1,w8,ga,e1]
  have res:∀ (p:Nat) ok,EQ (fun k next=>BS AW l m next (BY x.kind k)) x.kids.toNat 0 (at_+1)=(p,ok)→∀ T',T'.get 6=iv p→T'.get 7=.bool ok→k.ap Tryd.prog call n .ret ⟨T',h⟩:=fun p ok e T' h6 h7=>hk T' p ok (by rw[if_pos hf,e]) h6 h7
  generalize hg0:EQ (fun k next=>BS AW l m next (BY x.kind k)) x.kids.toNat 0 (at_+1)=R at res
  refine WK.loop (fun i s=>s.h=h∧s.T.get 0=v∧s.T.get 8=qP a 0∧s.T.get 13=iv i∧∃ p:Nat,∃ ok:Bool,s.T.get 11=iv p∧s.T.get 12=.bool ok∧p≤l.length∧i≤l.length+1 ∧
   ((ok=true∧i≤x.kids.toNat∧at_+1+i≤p∧EQ (fun k next=>BS AW l m next (BY x.kind k)) (x.kids.toNat-i) i p=R)∨(ok=false∧R=(p,false)))) (l.length+2) (by omega) ?_ ?_
  ·simp only[eE,↓reduceIte,Nat.reduceEqDiff,reduceCtorEq,↓eP,rP,Nat.reduceAdd,Nat.reduceLT,w0,w8]
   exact⟨rfl,at_+1,true,wat,rfl,by omega,.inl ⟨rfl,by omega,by rw[Nat.sub_zero];exact hg0⟩⟩
  ·rintro i ⟨T1,h1⟩ hi ⟨rfl,y0,y8,y13,p,ok,y11,y12,hp,hil,hcase⟩
   simp only at y0 y8 y13 y11 y12
   rcases hcase with⟨rfl,hik,hpi,hR⟩ | ⟨rfl,hR⟩
   ·by_cases hlt:i<x.kids.toNat
    ·have c1:decide ((i:Int)<x.kids)=true:=by simp only[decide_eq_true_eq];omega
     have hask:=fun hh=>hc.asked x.kind i hh hkind (by
      simp only[Bool.or_eq_true,decide_eq_true_eq] at hkm
      rcases hkm with h | h
      ·left
       unfold CT at h
       (repeat' split at h) <;> simp_all
      ·right;omega)
     have hrow:=fun hv' hg'=>hc.row p (BY x.kind i) h1 (by omega) hp Ph hv' hg' hn0 hfl
     have hrow':=hrow hv hg
     have w5:=DJ i (by omega)
     generalize hq:BS AW l m p (BY x.kind i)=q at hrow'
     have hstep:EQ (fun k next=>BS AW l m next (BY x.kind k)) (x.kids.toNat-i) i p=if q.2=true then EQ (fun k next=>BS AW l m next (BY x.kind k)) (x.kids.toNat-(i+1)) (i+1) q.1 else (q.1,false):=by
      obtain⟨r,hr⟩:∃ r,x.kids.toNat-i=r+1:=⟨x.kids.toNat-i-1,by omega⟩
      rw[hr,show x.kids.toNat-(i+1)=r by omega]
      simp only[EQ,hq]
     have hq1:q.1≤l.length:=by rw[← hq];exact XW m p _ hp
     have hq2:q.2=true→p<q.1:=fun h=>by
      have:=S_ (isName:=AW) (l:=l) m p (BY x.kind i)
      rw[hq] at this
      exact(this h).1
     simp only[eE,seval,↓eP,rP,y0,y8,y13,y11,y12,ga,c1,hask,hrow']
     refine⟨by omega,w5,q.1,q.2,rfl,rfl,hq1,by omega,?_⟩
     cases hb2:q.2 with
     | true=>
      left
      have:=hq2 hb2
      rw[hb2,if_pos rfl] at hstep
      exact⟨rfl,by omega,by omega,by rw[← hstep];exact hR⟩
     | false=>
      right
      rw[hb2,if_neg (by simp)] at hstep
      exact⟨rfl,by rw[← hR,hstep]⟩
    ·have c1:decide ((i:Int)<x.kids)=false:=by simp only[decide_eq_false_iff_not];omega
     have hie:x.kids.toNat-i=0:=by omega
     rw[hie] at hR
     simp only[eE,seval,↓eP,rP,y8,y13,y11,y12,ga,c1]
     refine res p true (by rw[← hR];rfl) _ ?_ ?_
     ·simp only[eE,seval,↓eP,rP]
     ·simp only[eE,seval,↓eP,rP]
   ·cases c1:decide ((i:Int)<x.kids) with
    | true=>
     simp only[eE,seval,↓eP,rP,y8,y13,y11,y12,ga,c1]
     refine res p false hR _ ?_ ?_
     ·simp only[eE,seval,↓eP,rP]
     ·simp only[eE,seval,↓eP,rP]
    | false=>
     simp only[eE,seval,↓eP,rP,y8,y13,y11,y12,ga,c1]
     refine res p false hR _ ?_ ?_
     ·simp only[eE,seval,↓eP,rP]
     ·simp only[eE,seval,↓eP,rP]
 show WK _ _ _ (.seq _ (rt (rt S7))) _ _
 cases cc with
 | false=>
  simp only[eE,seval,↓eP,rP,e3,u1]
  refine bad (by rw[hfit];rfl) _ ?_ ?_
  ·simp only[eE,seval,↓eP,rP]
  ·simp only[eE,seval,↓eP,rP]
 | true=>
  cases d1:decide (x.kids<FC x.kind) with
  | true=>
   simp only[eE,seval,↓eP,rP,e3,u1,u8,u9,ga,gb,d1]
   refine bad (by rw[hfit,decide_eq_false (by simp only[decide_eq_true_eq] at d1;omega)];rfl) _ ?_ ?_
   ·simp only[eE,seval,↓eP,rP]
   ·simp only[eE,seval,↓eP,rP]
  | false=>
   have hl:decide (x.kids≥FC x.kind)=true:=by simp only[decide_eq_false_iff_not] at d1;simp only[decide_eq_true_eq];omega
   cases d2:decide (CT x.kind≥0) with
   | false=>
    have hm:decide (CT x.kind<0)=true:=by simp only[decide_eq_false_iff_not] at d2;simp only[decide_eq_true_eq];omega
    simp only[eE,seval,↓eP,rP,e3,u8,u9,ga,gb,d1,d2]
    refine main (by rw[hfit,hl,hm];rfl) _ ?_ ?_ ?_
    ·simp only[eE,seval,↓eP,rP,u0]
    ·simp only[eE,seval,↓eP,rP,u1]
    ·simp only[eE,seval,↓eP,rP,u8]
   | true=>
    cases d3:decide (x.kids>CT x.kind) with
    | true=>
     have hm:decide (CT x.kind<0)=false:=by simp only[decide_eq_true_eq] at d2;simp only[decide_eq_false_iff_not];omega
     have hm2:decide (x.kids≤CT x.kind)=false:=by simp only[decide_eq_true_eq] at d3;simp only[decide_eq_false_iff_not];omega
     simp only[eE,seval,↓eP,rP,e3,u1,u8,u9,ga,gb,d1,d2,d3]
     refine bad (by rw[hfit,hl,hm,hm2];rfl) _ ?_ ?_
     ·simp only[eE,seval,↓eP,rP]
     ·simp only[eE,seval,↓eP,rP]
    | false=>
     have hm2:decide (x.kids≤CT x.kind)=true:=by simp only[decide_eq_false_iff_not] at d3;simp only[decide_eq_true_eq];omega
     simp only[eE,seval,↓eP,rP,e3,u8,u9,ga,gb,d1,d2,d3]
     refine main (by rw[hfit,hl,hm2,Bool.or_true];rfl) _ ?_ ?_ ?_
     ·simp only[eE,seval,↓eP,rP,u0]
     ·simp only[eE,seval,↓eP,rP,u1]
     ·simp only[eE,seval,↓eP,rP,u8]
end
theorem OU {a b:Value} (ha:flat a=true) (hb:flat b=true):FO (.tuple #[a,b])=true:=by simp[FO,ha,hb]
theorem XV {l:List AC} {m at_:Nat} {what:Int} {x:AC} (hx:l[at_]?=some x):BS AW l (m+1) at_ what=if (CD what x.kind&&DU AW x)=true then EQ (fun k next=>BS AW l m next (BY x.kind k)) x.kids.toNat 0 (at_+1) else (at_,false):=by
 rw[BS,hx]
theorem Z5 {l:List AC} {m at_:Nat} {what:Int} (hx:l[at_]?=none):BS AW l (m+1) at_ what=(at_,false):=by
 rw[BS,hx]
section
variable {call:AQ} {n:Nat}
theorem mY (hsn:CH call) {l:List AC} {v:Value} {m at_:Nat} {what:Int} {h:AA} (hc:rW call l v m at_) (hn:l.length+3<n) (hlen:l.length<30000000000000) (hat:at_≤l.length) (hw:what≠8)
  (h89:∀ w k h,call 89 [iv w,iv k] h=some (.bool (CD w k),h))
  (h90':∀ k h,1≤k∧k≤54→call 90 [iv k] h=some (.agg #[.bool (HG k),.bool (JR k),.bool (k==27),iv (FC k),iv (CT k)],h))
  (h91:∀ s h',h'.get 0=DZ→call 91 [.string s] h'=some (.bool (AW s),h'))
  (hv:AV h v l) (hg:h.get 0=DZ) (hn0:0<h.next) (hfl:h.floor≤h.next) :
  ∃ h1,A8 Tryd.prog call n 73 [v,iv at_,iv what] h=some (.tuple #[iv ((BS AW l (m+1) at_ what).1:Int),.bool (BS AW l (m+1) at_ what).2],h1)∧∀ i,i<h.next→h1.get i=h.get i:=by
 refine FE (R:=fun h1=>∀ i,i<h.next→h1.get i=h.get i) Tryd.func73 rfl (by simp[Tryd.f73]) ?_
 have hr:Tryd.f73.results.toList=[.tmp 6,.tmp 7]:=rfl
 have hl22:∀ h',CC Tryd.prog h' 22 v=some (.int .i64 l.length):=fun h'=>hv.len
 cases hx:l[at_]? with
 | none=>
  rw[Z5 hx]
  have hge:l.length≤at_:=List.getElem?_eq_none_iff.1 hx
  have c1:decide ((at_:Int)≥(l.length:Int))=true:=by simp only[decide_eq_true_eq];omega
  simp only[eE,seval,↓eP,rP,hr,hl22,c1]
  exact fun i hi=>trivial
 | some x=>
  have hlt:at_<l.length:=(List.getElem?_eq_some_iff.1 hx).1
  have c1:decide ((at_:Int)≥(l.length:Int))=false:=by simp only[decide_eq_false_iff_not];omega
  obtain⟨id,p,e0,hid,l0,l1,l2,l3,l4,lr⟩:=hv.row hx
  rw[XV hx]
  cases hs:CD what x.kind with
  | false=>
   simp only[eE,seval,↓eP,rP,hr,hl22,c1,e0,l0,h89,hs,Bool.false_and]
   exact fun i hi=>trivial
  | true=>
  have hkind:=QF hs
  have h90:=fun h=>h90' x.kind h hkind
  have hidT:(id<h.next)=True:=by simpa using hid
  have hne1:(h.next=h.next+1)=False:=by simp
  have hne2:(h.next+1=h.next)=False:=by simp
  have hfl1:(h.floor≤h.next)=True:=by simpa using hfl
  have hfl2:(h.floor≤h.next+1)=True:=by simp;omega
  have hlt1:(h.next<h.next+1+1)=True:=by simp;omega
  have hlt2:(h.next+1<h.next+1+1)=True:=by simp
  simp only[Bool.true_and]
  simp only[eE,seval,↓eP,rP,hr,hl22,c1,e0,l0,h89,hs]
  refine WK.flags (ops:=dB) oI ?_
  refine BV.begin ?_
  refine AF hsn 0 (some 29) (.move (.tmp 0)) none ?_
  simp only[eE,seval,↓eP,rP,AD,AB,AE,rF,hr,e0,l0,lr,hidT,h90,hne1,hne2,hfl1,hfl2,hlt1,hlt2]
  refine AF hsn 1 (some 30) (.move (.tmp 1)) none ?_
  simp only[eE,seval,↓eP,rP,AD,AB,AE,rF,hr,e0,l0,lr,hidT,h90,hne1,hne2,hfl1,hfl2,hlt1,hlt2]
  refine AF hsn 2 (some 31) (.indexAddr 22 (.tmp 29) (.tmp 30)) none ?_
  simp only[eE,seval,↓eP,rP,AD,AB,AE,rF,hr,e0,l0,lr,hidT,h90,hne1,hne2,hfl1,hfl2,hlt1,hlt2]
  refine AF hsn 3 (some 32) (.load 46 (.tmp 31)) none ?_
  simp only[eE,seval,↓eP,rP,AD,AB,AE,rF,hr,e0,l0,lr,hidT,h90,hne1,hne2,hfl1,hfl2,hlt1,hlt2]
  refine AF hsn 4 (some 33) (.move (.tmp 0)) none ?_
  simp only[eE,seval,↓eP,rP,AD,AB,AE,rF,hr,e0,l0,lr,hidT,h90,hne1,hne2,hfl1,hfl2,hlt1,hlt2]
  refine AF hsn 5 (some 34) (.move (.tmp 1)) none ?_
  simp only[eE,seval,↓eP,rP,AD,AB,AE,rF,hr,e0,l0,lr,hidT,h90,hne1,hne2,hfl1,hfl2,hlt1,hlt2]
  refine AF hsn 6 (some 35) (.indexAddr 22 (.tmp 33) (.tmp 34)) none ?_
  simp only[eE,seval,↓eP,rP,AD,AB,AE,rF,hr,e0,l0,lr,hidT,h90,hne1,hne2,hfl1,hfl2,hlt1,hlt2]
  refine AF hsn 7 (some 36) (.fieldAddr 46 (.tmp 35) 0) none ?_
  simp only[eE,seval,↓eP,rP,AD,AB,AE,rF,hr,e0,l0,lr,hidT,h90,hne1,hne2,hfl1,hfl2,hlt1,hlt2]
  refine AF hsn 8 (some 37) (.load 3 (.tmp 36)) none ?_
  simp only[eE,seval,↓eP,rP,AD,AB,AE,rF,hr,e0,l0,lr,hidT,h90,hne1,hne2,hfl1,hfl2,hlt1,hlt2]
  refine AF hsn 9 (some 38) (.call { callee:=.value (.func 90),args:=#[.tmp 37],argTypes:=#[3] }) none ?_
  simp only[eE,seval,↓eP,rP,AD,AB,AE,rF,hr,e0,l0,lr,hidT,h90,hne1,hne2,hfl1,hfl2,hlt1,hlt2]
  refine AF hsn 10 (some 8) (.alloc 46) none ?_
  simp only[eE,seval,↓eP,rP,AD,AB,AE,rF,hr,e0,l0,lr,hidT,h90,hne1,hne2,hfl1,hfl2,hlt1,hlt2]
  refine AF hsn 11 (some 9) (.alloc 123) none ?_
  simp only[eE,seval,↓eP,rP,AD,AB,AE,rF,hr,e0,l0,lr,hidT,h90,hne1,hne2,hfl1,hfl2,hlt1,hlt2]
  refine AF hsn 12 (none) (.store 46 (.tmp 8) (.tmp 32)) none ?_
  simp only[eE,seval,↓eP,rP,AD,AB,AE,rF,hr,e0,l0,lr,hidT,h90,hne1,hne2,hfl1,hfl2,hlt1,hlt2]
  refine AF hsn 13 (none) (.store 123 (.tmp 9) (.tmp 38)) none ?_
  simp only[eE,seval,↓eP,rP,AD,AB,AE,rF,hr,e0,l0,lr,hidT,h90,hne1,hne2,hfl1,hfl2,hlt1,hlt2]
  refine BV.done (i:=14) (by kernel_rfl) ?_
  rw[SB]
  have hold:∀ i,i<h.next→((((h.push (.row DC 46 false false)).push (.row [.bool false,.bool false,.bool false,.int .i64 0,.int .i64 0] 123 false false)).put h.next (.row [.int .i64 x.kind,.string x.name,.int .i64 x.ends,.int .i64 x.n,.int .i64 x.kids] 46 false false)).put (h.next+1)
    (.row [.bool (HG x.kind),.bool (JR x.kind),.bool (x.kind==27),iv (FC x.kind),iv (CT x.kind)] 123 false false)).get i=h.get i:=fun i hi=>by
   rw[RR,if_neg (by omega),RR,if_neg (by omega),KM,if_neg (by rw[DL];omega),KM,if_neg (by omega)]
  refine Dc hsn hc hn hlen hlt (h91 x.name) (hv.mono (by simp only[JH,DL];omega) hold) (by rw[hold 0 hn0];exact hg) (by simp only[JH,DL];omega) (by simp only[JH,DL,OE,DK];omega) hkind (Pg hw hs) (a:=h.next) (b:=h.next+1) (ga0:=false) (gb0:=false) ?_ ?_ ?_ ?_ ?_ ?_ (by simp only[JH,DL];omega) ?_
  ·simp only[eE,seval,↓eP,rP]
  ·simp only[eE,seval,↓eP,rP]
  ·simp only[eE,seval,↓eP,rP]
  ·simp only[eE,seval,↓eP,rP]
  ·simp only[eE,seval,↓eP,rP,hne1,hlt1]
  ·simp only[eE,seval,↓eP,rP,hlt2]
  ·intro T' q ok hq h6 h7
   simp only[eE,seval,↓eP,rP,hr,h6,h7,← hq]
   intro i hi
   rw[if_neg (by omega),if_neg (by omega),if_neg (by omega),if_neg (by omega)]
end
theorem VF (k:Int) (h:AA) (hk:1≤k∧k≤54):L1 90 [iv k] h=some (.agg #[.bool (HG k),.bool (JR k),.bool (k==27),iv (FC k),iv (CT k)],h):=
 G0 (EY rfl rfl rfl rfl (IP Ov hk))
theorem vN (k:Int):CT k≤3:=by unfold CT;(repeat' split) <;> omega
theorem Ff {call:AQ} {n:Nat} {h:AA} {j:Nat}:A8 Tryd.prog call n 93 [iv 11,iv j] h=some (iv (BY 11 j),h):=by
 refine D_ Tryd.func93 rfl (by simp[Tryd.f93]) ?_
 have hr:Tryd.f93.results.toList=[.tmp 4]:=rfl
 simp only[eE,seval,↓eP,rP,hr]
 rfl
theorem jX (k:Int) (j:Nat) (h:AA) (hk:1≤k∧k≤54) (hj:k=11∨(j:Int)<CT k):L1 93 [iv k,iv j] h=some (iv (BY k j),h):=by
 refine G0 (EY rfl rfl rfl rfl ?_)
 rcases hj with rfl | hj
 ·exact⟨_,Ff⟩
 ·have:=vN k
  have h3:j=0∨j=1∨j=2:=by omega
  rcases h3 with rfl | rfl | rfl
  ·exact IP Ji hk
  ·exact IP zZ hk
  ·have h15:k≠15:=by
    rintro rfl
    revert hj
    decide
   have:=IP Qy hk
   simp only[if_neg h15] at this
   exact this
theorem XA {l:List AC} {m:Nat} {x:AC} (hx:l[0]?=some x):G5 AW l m=if (CD 8 x.kind&&DU AW x)=true then EG AW l m x.kids.toNat false 1 else (0,false):=by
 rw[G5,hx]
theorem cU {l:List AC} {m:Nat} (hx:l[0]?=none):G5 AW l m=(0,false):=by
 rw[G5,hx]
section
variable {call:AQ} {n:Nat}
theorem Jy (hsn:CH call) {l:List AC} {v:Value} {m at_ a b:Nat} {x:AC} {T:Tr} {h:AA} {k:B9} {ga0 gb0:Bool} (h92:DU AW x=true→call 92 [v,iv at_] h=some (.tuple #[iv ((EG AW l m x.kids.toNat false (at_+1)).1:Int),.bool (EG AW l m x.kids.toNat false (at_+1)).2],h)) (hn:l.length+3<n) (hlen:l.length<30000000000000) (hat:at_<l.length)
  (h91:∀ h',h'.get 0=DZ→call 91 [.string x.name] h'=some (.bool (AW x.name),h'))
  (hv:AV h v l) (hg:h.get 0=DZ) (hn0:0<h.next) (hfl:h.floor≤h.next) (hkind:1≤x.kind∧x.kind≤54) (hk1:x.kind=1)
  (t0:T.get 0=v) (t1:T.get 1=iv at_) (t8:T.get 8=qP a 0) (t9:T.get 9=qP b 0)
  (ga:h.get a=.row [.int .i64 x.kind,.string x.name,.int .i64 x.ends,.int .i64 x.n,.int .i64 x.kids] 46 ga0 false)
  (gb:h.get b=.row [.bool (HG x.kind),.bool (JR x.kind),.bool (x.kind==27),.int .i64 (FC x.kind),.int .i64 (CT x.kind)] 123 gb0 false) (hb:b<h.next)
  (hk:∀ T' (p:Nat) ok,(p,ok)=(if DU AW x=true then EG AW l m x.kids.toNat false (at_+1) else (at_,false))→T'.get 6=iv p→T'.get 7=.bool ok→k.ap Tryd.prog call n .ret ⟨T',h⟩) :
  WK Tryd.prog call n S7 ⟨T,h⟩ k:=by
 show WK _ _ _ (.seq (.region _ _ true) _) _ _
 rw[LD]
 refine WK.flags (ops:=EA) j9 ?_
 refine BV.begin ?_
 refine qB hsn t8 t9 ga gb (by simpa using hb) (fun h' e=>h91 h' (by rw[e];exact hg)) fun T1 e1 k1=>?_
 refine mZ hsn (by rw[k1 8 (by decide)];exact t8) (by rw[k1 9 (by decide)];exact t9) ga gb (by simpa using hb) e1 fun T2 e2 k2=>?_
 refine nO hsn (by rw[k2 8 (by decide),k1 8 (by decide)];exact t8) (by rw[k2 9 (by decide),k1 9 (by decide)];exact t9) ga gb (by simpa using hb) e2 fun T3 e3 k3=>?_
 refine BV.done (i:=49) (by kernel_rfl) ?_
 rw[SB]
 have kp:∀ t:Nat,t<10→T3.get t=T.get t:=fun t ht=>by rw[k3 t ht,k2 t (by omega),k1 t (by omega)]
 have u0:=(kp 0 (by decide)).trans t0
 have u1:=(kp 1 (by decide)).trans t1
 have u8:=(kp 8 (by decide)).trans t8
 have u9:=(kp 9 (by decide)).trans t9
 clear k1 k2 k3 kp e1 e2
 generalize hcc:(((AW x.name==HG x.kind)&&(HG x.kind||x.name==⟨#[]⟩))&&(x.ends==0||JR x.kind&&x.ends==1)&&(x.n==0||(x.kind==27)&&decide (x.n>0)&&decide (x.n≤1073741824)))=cc at e3
 have hfit:DU AW x=(cc&&decide (x.kids≥FC x.kind)&&(decide (CT x.kind<0)||decide (x.kids≤CT x.kind))):=by
  rw[← hcc]
  rfl
 have bad:DU AW x=false→∀ T',T'.get 6=iv at_→T'.get 7=.bool false→k.ap Tryd.prog call n .ret ⟨T',h⟩:=fun hf T' h6 h7=>hk T' at_ false (by rw[hf];rfl) h6 h7
 have e1:(x.kind==1)=true:=by simpa using hk1
 have hkids:DU AW x=true→0≤x.kids∧(decide (CT x.kind<0)||decide (x.kids≤CT x.kind))=true:=fun hf=>by
  rw[hfit] at hf
  simp only[Bool.and_eq_true,decide_eq_true_eq] at hf
  have:=QD x.kind
  exact⟨by omega,hf.2⟩
 have main:DU AW x=true→∀ T',T'.get 0=v→T'.get 1=iv at_→T'.get 8=qP a 0→WK Tryd.prog call n (rt (rt S7)) ⟨T',h⟩ k:=by
  intro hf T' w0 w1 w8
  have h92':=h92 hf
  show WK _ _ _ (.seq _ _) _ _
  simp only[eE,seval,↓eP,rP,w0,w1,w8,ga,e1,h92']
  refine hk _ _ _ (by rw[if_pos hf]) ?_ ?_
  ·simp only[eE,seval,↓eP,rP]
  ·simp only[eE,seval,↓eP,rP]
 show WK _ _ _ (.seq _ (rt (rt S7))) _ _
 cases cc with
 | false=>
  simp only[eE,seval,↓eP,rP,e3,u1]
  refine bad (by rw[hfit];rfl) _ ?_ ?_
  ·simp only[eE,seval,↓eP,rP]
  ·simp only[eE,seval,↓eP,rP]
 | true=>
  cases d1:decide (x.kids<FC x.kind) with
  | true=>
   simp only[eE,seval,↓eP,rP,e3,u1,u8,u9,ga,gb,d1]
   refine bad (by rw[hfit,decide_eq_false (by simp only[decide_eq_true_eq] at d1;omega)];rfl) _ ?_ ?_
   ·simp only[eE,seval,↓eP,rP]
   ·simp only[eE,seval,↓eP,rP]
  | false=>
   have hl:decide (x.kids≥FC x.kind)=true:=by simp only[decide_eq_false_iff_not] at d1;simp only[decide_eq_true_eq];omega
   cases d2:decide (CT x.kind≥0) with
   | false=>
    have hm:decide (CT x.kind<0)=true:=by simp only[decide_eq_false_iff_not] at d2;simp only[decide_eq_true_eq];omega
    simp only[eE,seval,↓eP,rP,e3,u8,u9,ga,gb,d1,d2]
    refine main (by rw[hfit,hl,hm];rfl) _ ?_ ?_ ?_
    ·simp only[eE,seval,↓eP,rP,u0]
    ·simp only[eE,seval,↓eP,rP,u1]
    ·simp only[eE,seval,↓eP,rP,u8]
   | true=>
    cases d3:decide (x.kids>CT x.kind) with
    | true=>
     have hm:decide (CT x.kind<0)=false:=by simp only[decide_eq_true_eq] at d2;simp only[decide_eq_false_iff_not];omega
     have hm2:decide (x.kids≤CT x.kind)=false:=by simp only[decide_eq_true_eq] at d3;simp only[decide_eq_false_iff_not];omega
     simp only[eE,seval,↓eP,rP,e3,u1,u8,u9,ga,gb,d1,d2,d3]
     refine bad (by rw[hfit,hl,hm,hm2];rfl) _ ?_ ?_
     ·simp only[eE,seval,↓eP,rP]
     ·simp only[eE,seval,↓eP,rP]
    | false=>
     have hm2:decide (x.kids≤CT x.kind)=true:=by simp only[decide_eq_false_iff_not] at d3;simp only[decide_eq_true_eq];omega
     simp only[eE,seval,↓eP,rP,e3,u8,u9,ga,gb,d1,d2,d3]
     refine main (by rw[hfit,hl,hm2,Bool.or_true];rfl) _ ?_ ?_ ?_
     ·simp only[eE,seval,↓eP,rP,u0]
     ·simp only[eE,seval,↓eP,rP,u1]
     ·simp only[eE,seval,↓eP,rP,u8]
theorem lH (hsn:CH call) {l:List AC} {v:Value} {m:Nat} {h:AA} (h92:∀ x h,l[0]?=some x→DU AW x=true→x.kind=1→AV h v l→h.get 0=DZ→0<h.next→h.floor≤h.next→call 92 [v,iv 0] h=some (.tuple #[iv ((EG AW l m x.kids.toNat false 1).1:Int),.bool (EG AW l m x.kids.toNat false 1).2],h)) (hn:l.length+3<n) (hlen:l.length<30000000000000)
  (h89:∀ w k h,call 89 [iv w,iv k] h=some (.bool (CD w k),h))
  (h90':∀ k h,1≤k∧k≤54→call 90 [iv k] h=some (.agg #[.bool (HG k),.bool (JR k),.bool (k==27),iv (FC k),iv (CT k)],h))
  (h91:∀ s h',h'.get 0=DZ→call 91 [.string s] h'=some (.bool (AW s),h'))
  (hv:AV h v l) (hg:h.get 0=DZ) (hn0:0<h.next) (hfl:h.floor≤h.next) :
  ∃ h1,A8 Tryd.prog call n 73 [v,iv 0,iv 8] h=some (.tuple #[iv ((G5 AW l m).1:Int),.bool (G5 AW l m).2],h1)∧∀ i,i<h.next→h1.get i=h.get i:=by
 refine FE (R:=fun h1=>∀ i,i<h.next→h1.get i=h.get i) Tryd.func73 rfl (by simp[Tryd.f73]) ?_
 have hr:Tryd.f73.results.toList=[.tmp 6,.tmp 7]:=rfl
 have hl22:∀ h',CC Tryd.prog h' 22 v=some (.int .i64 l.length):=fun h'=>hv.len
 have e00:((0:Nat):Int)=0:=rfl
 cases hx:l[0]? with
 | none=>
  rw[cU hx]
  have hge:l.length≤0:=List.getElem?_eq_none_iff.1 hx
  have c1:decide ((0:Int)≥(l.length:Int))=true:=by simp only[decide_eq_true_eq];omega
  simp only[eE,↓reduceIte,Nat.reduceEqDiff,reduceCtorEq,↓eP,rP,Nat.reduceAdd,Nat.reduceLT,hr,hl22,c1]
  exact⟨rfl,fun i hi=>trivial⟩
 | some x=>
  have hlt:0<l.length:=(List.getElem?_eq_some_iff.1 hx).1
  have c1:decide ((0:Int)≥(l.length:Int))=false:=by simp only[decide_eq_false_iff_not];omega
  obtain⟨id,p,e0,hid,l0,l1,l2,l3,l4,lr⟩:=hv.row hx
  rw[XA hx]
  rw[e00] at e0
  cases hs:CD 8 x.kind with
  | false=>
   simp only[eE,↓reduceIte,Nat.reduceEqDiff,reduceCtorEq,↓eP,rP,Nat.reduceAdd,Nat.reduceLT,hr,hl22,c1,e0,l0,h89,hs,Bool.false_and]
   exact⟨rfl,fun i hi=>trivial⟩
  | true=>
  have hkind:=QF hs
  have hk1:x.kind=1:=by simpa [CD] using hs
  have h90:=fun h=>h90' x.kind h hkind
  have hidT:(id<h.next)=True:=by simpa using hid
  have hne1:(h.next=h.next+1)=False:=by simp
  have hne2:(h.next+1=h.next)=False:=by simp
  have hfl1:(h.floor≤h.next)=True:=by simpa using hfl
  have hfl2:(h.floor≤h.next+1)=True:=by simp;omega
  have hlt1:(h.next<h.next+1+1)=True:=by simp;omega
  have hlt2:(h.next+1<h.next+1+1)=True:=by simp
  simp only[Bool.true_and]
  simp only[eE,seval,↓eP,rP,hr,hl22,c1,e0,l0,h89,hs]
  refine WK.flags (ops:=dB) oI ?_
  refine BV.begin ?_
  refine AF hsn 0 (some 29) (.move (.tmp 0)) none ?_
  simp only[eE,seval,↓eP,rP,AD,AB,AE,rF]
  refine AF hsn 1 (some 30) (.move (.tmp 1)) none ?_
  simp only[eE,seval,↓eP,rP,AD,AB,AE,rF]
  refine AF hsn 2 (some 31) (.indexAddr 22 (.tmp 29) (.tmp 30)) none ?_
  simp only[eE,seval,↓eP,rP,AD,AB,AE,rF,e0]
  refine AF hsn 3 (some 32) (.load 46 (.tmp 31)) none ?_
  simp only[eE,seval,↓eP,rP,AD,AB,AE,rF,lr,hidT]
  refine AF hsn 4 (some 33) (.move (.tmp 0)) none ?_
  simp only[eE,seval,↓eP,rP,AD,AB,AE,rF]
  refine AF hsn 5 (some 34) (.move (.tmp 1)) none ?_
  simp only[eE,seval,↓eP,rP,AD,AB,AE,rF]
  refine AF hsn 6 (some 35) (.indexAddr 22 (.tmp 33) (.tmp 34)) none ?_
  simp only[eE,seval,↓eP,rP,AD,AB,AE,rF,e0]
  refine AF hsn 7 (some 36) (.fieldAddr 46 (.tmp 35) 0) none ?_
  simp only[eE,seval,↓eP,rP,AD,AB,AE,rF]
  refine AF hsn 8 (some 37) (.load 3 (.tmp 36)) none ?_
  simp only[eE,seval,↓eP,rP,AD,AB,AE,rF,l0,hidT]
  refine AF hsn 9 (some 38) (.call { callee:=.value (.func 90),args:=#[.tmp 37],argTypes:=#[3] }) none ?_
  simp only[eE,seval,↓eP,rP,AD,AB,AE,rF,h90]
  refine AF hsn 10 (some 8) (.alloc 46) none ?_
  simp only[eE,seval,↓eP,rP,AD,AB,AE,rF]
  refine AF hsn 11 (some 9) (.alloc 123) none ?_
  simp only[eE,seval,↓eP,rP,AD,AB,AE,rF]
  refine AF hsn 12 (none) (.store 46 (.tmp 8) (.tmp 32)) none ?_
  simp only[eE,seval,↓eP,rP,AD,AB,AE,rF,hne1,hfl1]
  refine AF hsn 13 (none) (.store 123 (.tmp 9) (.tmp 38)) none ?_
  simp only[eE,seval,↓eP,rP,AD,AB,AE,rF,hne2,hfl2]
  refine BV.done (i:=14) (by kernel_rfl) ?_
  rw[SB]
  have hold:∀ i,i<h.next→((((h.push (.row DC 46 false false)).push (.row [.bool false,.bool false,.bool false,.int .i64 0,.int .i64 0] 123 false false)).put h.next (.row [.int .i64 x.kind,.string x.name,.int .i64 x.ends,.int .i64 x.n,.int .i64 x.kids] 46 false false)).put (h.next+1)
    (.row [.bool (HG x.kind),.bool (JR x.kind),.bool (x.kind==27),iv (FC x.kind),iv (CT x.kind)] 123 false false)).get i=h.get i:=fun i hi=>by
   rw[RR,if_neg (by omega),RR,if_neg (by omega),KM,if_neg (by rw[DL];omega),KM,if_neg (by omega)]
  refine Jy hsn (m:=m) (at_:=0) (l:=l) (v:=v) (fun hf=>h92 x _ hx hf hk1 (hv.mono (by simp only[JH,DL];omega) hold) (by rw[hold 0 hn0];exact hg) (by simp only[JH,DL];omega) (by simp only[JH,DL,OE,DK];omega)) hn hlen hlt (h91 x.name) (hv.mono (by simp only[JH,DL];omega) hold) (by rw[hold 0 hn0];exact hg) (by simp only[JH,DL];omega) (by simp only[JH,DL,OE,DK];omega) hkind hk1 (a:=h.next) (b:=h.next+1) (ga0:=false) (gb0:=false) ?_ ?_ ?_ ?_ ?_ ?_ (by simp only[JH,DL];omega) ?_
  ·simp only[eE,seval,↓eP,rP]
  ·simp only[eE,↓reduceIte,Nat.reduceEqDiff,reduceCtorEq,↓eP,rP,Nat.reduceAdd,Nat.reduceLT]
   rfl
  ·simp only[eE,seval,↓eP,rP]
  ·simp only[eE,seval,↓eP,rP]
  ·simp only[eE,seval,↓eP,rP,hne1,hlt1]
  ·simp only[eE,seval,↓eP,rP,hlt2]
  ·intro T' q ok hq h6 h7
   simp only[eE,seval,↓eP,rP,h6,h7,← hq]
   intro i hi
   rw[if_neg (by omega),if_neg (by omega),if_neg (by omega),if_neg (by omega)]
def RG (ev:Bool):Int:=if ev=true then 1 else 0
theorem qR {l:List AC} {v:Value} {m:Nat} {x:AC} {h:AA} (hx:l[0]?=some x) (hk0:0≤x.kids) (hn:l.length+3<n) (hlen:l.length<30000000000000) (hv:AV h v l)
  (h89:∀ w k h,call 89 [iv w,iv k] h=some (.bool (CD w k),h))
  (h73:∀ (p:Nat) (w:Int),0<p→p≤l.length→w≠8→call 73 [v,iv p,iv w] h=some (.tuple #[iv ((BS AW l m p w).1:Int),.bool (BS AW l m p w).2],h)) :
  A8 Tryd.prog call n 92 [v,iv 0] h=some (.tuple #[iv ((EG AW l m x.kids.toNat false 1).1:Int),.bool (EG AW l m x.kids.toNat false 1).2],h):=by
 refine D_ Tryd.func92 rfl (by simp[Tryd.f92]) ?_
 have hr:Tryd.f92.results.toList=[.tmp 4,.tmp 5]:=rfl
 have hl22:∀ h',CC Tryd.prog h' 22 v=some (.int .i64 l.length):=fun h'=>hv.len
 have hlt0:0<l.length:=(List.getElem?_eq_some_iff.1 hx).1
 obtain⟨id,q,e0',hid,l0,l1,l2,l3,l4,lr⟩:=hv.row hx
 have e0:CU Tryd.prog 22 v (.int .i64 0)=some (qP id q):=e0'
 have w1:IntKind.i64.wrap (0+1)=((1:Nat):Int):=rfl
 simp only[eE,↓reduceIte,Nat.reduceEqDiff,reduceCtorEq,↓eP,rP,Nat.reduceAdd,Nat.reduceLT,hr,w1]
 generalize hg0:EG AW l m x.kids.toNat false 1=R
 refine WK.loop (fun i s=>s.h=h∧s.T.get 0=v∧s.T.get 1=iv 0∧s.T.get 9=iv i∧∃ p:Nat,∃ ok ev:Bool,s.T.get 6=iv p∧s.T.get 7=.bool ok∧s.T.get 8=iv (RG ev)∧p≤l.length∧0<p∧i≤l.length+1 ∧
  ((ok=true∧i≤x.kids.toNat∧1+i≤p∧EG AW l m (x.kids.toNat-i) ev p=R)∨(ok=false∧R=(p,false)))) (l.length+2) (by omega) ?_ ?_
 ·simp only[eE,↓reduceIte,Nat.reduceEqDiff,reduceCtorEq,↓eP,rP,Nat.reduceAdd,Nat.reduceLT]
  exact⟨rfl,1,true,false,rfl,rfl,rfl,by omega,by omega,.inl ⟨rfl,by omega,by rw[Nat.sub_zero];exact hg0⟩⟩
 ·rintro i ⟨T1,h1⟩ hi ⟨rfl,y0,y1,y9,p,ok,ev,y6,y7,y8,hp,hp0,hil,hcase⟩
  simp only at y0 y1 y9 y6 y7 y8
  rcases hcase with⟨rfl,hik,hpi,hR⟩ | ⟨rfl,hR⟩
  ·by_cases hlt:i<x.kids.toNat
   ·have c1:decide ((i:Int)<x.kids)=true:=by simp only[decide_eq_true_eq];omega
    have w5:=DJ i (by omega)
    have hstep:EG AW l m (x.kids.toNat-i) ev p=if (BS AW l m p (HH ev l[p]?)).2=true then EG AW l m (x.kids.toNat-(i+1)) (ev||MU l[p]?) (BS AW l m p (HH ev l[p]?)).1 else ((BS AW l m p (HH ev l[p]?)).1,false):=by
     obtain⟨r,hr⟩:∃ r,x.kids.toNat-i=r+1:=⟨x.kids.toNat-i-1,by omega⟩
     rw[hr,show x.kids.toNat-(i+1)=r by omega]
     rfl
    have hdw:HH ev l[p]?≠8:=by unfold HH;split <;> decide
    have hrow:=h73 p (HH ev l[p]?) hp0 hp hdw
    have hev':HH ev l[p]?=RG (ev||MU l[p]?):=by unfold HH RG;cases ev <;> cases MU l[p]? <;> rfl
    have fin:i<l.length+2∧∃ p1:Nat,∃ ok ev1:Bool,(((BS AW l m p (HH ev l[p]?)).1:Nat):Int)=(p1:Int)∧Value.bool (BS AW l m p (HH ev l[p]?)).2=.bool ok∧RG (ev||MU l[p]?)=RG ev1∧p1≤l.length∧0<p1∧i+1≤l.length+1 ∧
       ((ok=true∧i+1≤x.kids.toNat∧1+(i+1)≤p1∧EG AW l m (x.kids.toNat-(i+1)) ev1 p1=R)∨(ok=false∧R=(p1,false))):=by
     generalize hq:BS AW l m p (HH ev l[p]?)=Q at *
     have hq1:Q.1≤l.length:=by rw[← hq];exact XW m p _ hp
     have hq0:p≤Q.1:=by rw[← hq];exact Q0 m p _
     have hq2:Q.2=true→p<Q.1:=fun h=>by
      have:=S_ (isName:=AW) (l:=l) m p (HH ev l[p]?)
      rw[hq] at this
      exact(this h).1
     refine⟨by omega,Q.1,Q.2,(ev||MU l[p]?),rfl,rfl,rfl,hq1,by omega,by omega,?_⟩
     cases hb2:Q.2 with
     | true=>
      left
      have:=hq2 hb2
      rw[hb2,if_pos rfl] at hstep
      exact⟨rfl,by omega,by omega,by rw[← hstep];exact hR⟩
     | false=>
      right
      rw[hb2,if_neg (by simp)] at hstep
      exact⟨rfl,by rw[← hR,hstep]⟩
    cases hxp:l[p]? with
    | none=>
     have hge:l.length≤p:=List.getElem?_eq_none_iff.1 hxp
     have c2:decide ((p:Int)<(l.length:Int))=false:=by simp only[decide_eq_false_iff_not];omega
     have hie:MU (none:Option AC)=false:=rfl
     rw[hxp] at hrow fin hev'
     rw[hie,Bool.or_false] at hev' fin
     rw[hev'] at hrow fin
     simp only[eE,↓reduceIte,Nat.reduceEqDiff,reduceCtorEq,↓eP,rP,Nat.reduceAdd,Nat.reduceLT,y0,y1,y9,y6,y7,y8,e0,l4,c1,hl22,c2,hrow,w5]
     exact fin
    | some y=>
     have hlt2:p<l.length:=(List.getElem?_eq_some_iff.1 hxp).1
     have c2:decide ((p:Int)<(l.length:Int))=true:=by simp only[decide_eq_true_eq];omega
     obtain⟨id2,q2,f0,hid2,m0,m1,m2,m3,m4,mr⟩:=hv.row hxp
     have hie:MU (some y)=CD 1 y.kind:=rfl
     rw[hxp] at hrow fin hev'
     rw[hie] at hev' fin
     rw[hev'] at hrow fin
     cases hs:CD 1 y.kind with
     | false=>
      rw[hs,Bool.or_false] at hrow fin
      simp only[eE,↓reduceIte,Nat.reduceEqDiff,reduceCtorEq,↓eP,rP,Nat.reduceAdd,Nat.reduceLT,y0,y1,y9,y6,y7,y8,e0,l4,c1,hl22,c2,f0,m0,h89,hs,hrow,w5]
      exact fin
     | true=>
      have he1:RG true=1:=rfl
      rw[hs,Bool.or_true,he1] at hrow fin
      simp only[eE,↓reduceIte,Nat.reduceEqDiff,reduceCtorEq,↓eP,rP,Nat.reduceAdd,Nat.reduceLT,y0,y1,y9,y6,y7,e0,l4,c1,hl22,c2,f0,m0,h89,hs,hrow,w5]
      exact fin
   ·have c1:decide ((i:Int)<x.kids)=false:=by simp only[decide_eq_false_iff_not];omega
    have hie:x.kids.toNat-i=0:=by omega
    rw[hie] at hR
    have hR':R=(p,true):=by rw[← hR];rfl
    simp only[eE,seval,↓eP,rP,y0,y1,y9,y6,y7,e0,l4,c1,hR']
  ·cases c1:decide ((i:Int)<x.kids) <;> simp only[eE,seval,↓eP,rP,y0,y1,y9,y6,y7,e0,l4,c1,hR]
end
def MM (a b:Int) (k:Nat):Bool:=if b=0 then false else if 1≤a∧a≤5 then (decide (b<a)||(b==a&&((k:Int)==1||a==3))) else if a=6 then decide (b<6) else false
def GT (a b:Int) (k:Nat):Int:=if MM a b k=true then 1 else 0
def I2 (g:Nat→Int × Nat) (l:List AC) (kind:Int):Nat→Nat→Int→Nat→Int × Nat
 | 0,_,most,next=>(most,next)
 | r+1,k,most,next=>match l[next]? with
  | none=>(most,next)
  | some y=>I2 g l kind r (k+1) (if (g next).1+GT (CP kind) (CP y.kind) k>most then (g next).1+GT (CP kind) (CP y.kind) k else most) (g next).2
def DH (l:List AC):Nat→Nat→Int × Nat
 | 0,at_=>(0,at_)
 | m+1,at_=>match l[at_]? with
  | none=>(0,at_)
  | some x=>((I2 (DH l m) l x.kind x.kids.toNat 0 0 (at_+1)).1+EO x.kind,(I2 (DH l m) l x.kind x.kids.toNat 0 0 (at_+1)).2)
theorem UE (k:Int):0≤EO k∧EO k≤1:=by unfold EO;split <;> omega
theorem cF (a b:Int) (k:Nat):0≤GT a b k∧GT a b k≤1:=by unfold GT;split <;> omega
theorem j_ {g:Nat→Int × Nat} {l:List AC} {kind B:Int} (hg:∀ p,0≤(g p).1∧(g p).1≤B):∀ r k most next,0≤most→most≤B+1→0≤(I2 g l kind r k most next).1∧(I2 g l kind r k most next).1≤B+1:=by
 intro r
 induction r with
 | zero=>intro k most next h0 h1;exact⟨h0,h1⟩
 | succ r ih=>
  intro k most next h0 h1
  unfold I2
  split
  ·exact⟨h0,h1⟩
  ·rename_i y hy
   have:=hg next
   have:=cF (CP kind) (CP y.kind) k
   apply ih <;> split <;> omega
theorem mL {l:List AC}:∀ m at_,0≤(DH l m at_).1∧(DH l m at_).1≤2*(m:Int):=by
 intro m
 induction m with
 | zero=>intro at_;exact⟨Int.le_refl 0,by show (0:Int)≤_;omega⟩
 | succ m ih=>
  intro at_
  unfold DH
  split
  ·exact⟨Int.le_refl 0,by show (0:Int)≤_;omega⟩
  ·rename_i x hx
   have:=j_ (g:=DH l m) (l:=l) (kind:=x.kind) (B:=2*(m:Int)) ih x.kids.toNat 0 0 (at_+1) (Int.le_refl 0) (by omega)
   have:=UE x.kind
   constructor <;> simp only <;> omega
theorem Ds {g:Nat→Int × Nat} {l:List AC} {kind:Int} (hg:∀ p,p<l.length→p≤(g p).2∧(g p).2≤l.length):∀ r k most next,next≤l.length→next≤(I2 g l kind r k most next).2∧(I2 g l kind r k most next).2≤l.length:=by
 intro r
 induction r with
 | zero=>intro k most next h;exact⟨Nat.le_refl _,h⟩
 | succ r ih=>
  intro k most next h
  unfold I2
  split
  ·exact⟨Nat.le_refl _,h⟩
  ·rename_i y hy
   have hlt:next<l.length:=(List.getElem?_eq_some_iff.1 hy).1
   have h1:=hg next hlt
   have h2:=ih (k+1) (if (g next).1+GT (CP kind) (CP y.kind) k>most then (g next).1+GT (CP kind) (CP y.kind) k else most) (g next).2 h1.2
   omega
theorem Ax {l:List AC}:∀ m at_,at_<l.length→at_≤(DH l m at_).2∧(DH l m at_).2≤l.length∧(0<m→at_<(DH l m at_).2):=by
 intro m
 induction m with
 | zero=>intro at_ h;exact⟨Nat.le_refl _,by show at_≤_;omega,fun h=>absurd h (by omega)⟩
 | succ m ih=>
  intro at_ h
  unfold DH
  rw[List.getElem?_eq_getElem h]
  have:=Ds (g:=DH l m) (l:=l) (kind:=l[at_].kind) (fun p hp=>⟨(ih p hp).1,(ih p hp).2.1⟩) l[at_].kids.toNat 0 0 (at_+1) h
  simp only
  omega
section
variable {call:AQ} {n:Nat} {h:AA}
theorem qY (k:Int) (h:AA) (hk:1≤k∧k≤54):L1 109 [iv k] h=some (iv (EO k),h):=G0 (EY rfl rfl rfl rfl (IP vY hk))
theorem Hx {P K:Int} {k:Nat} {a b:Int} (ha:call 118 [iv P] h=some (iv a,h)) (hb:call 118 [iv K] h=some (iv b,h)):A8 Tryd.prog call n 108 [iv P,iv k,iv K] h=some (.bool (MM a b k),h):=by
 refine D_ Tryd.func108 rfl (by simp[Tryd.f108]) ?_
 have hr:Tryd.f108.results.toList=[.tmp 6]:=rfl
 unfold MM
 by_cases b0:b=0
 ·subst b0
  simp only[eE,seval,↓eP,rP,hr,ha,hb]
 have c0:(b==0)=false:=by simpa using b0
 rw[if_neg b0]
 by_cases a15:1≤a∧a≤5
 ·rw[if_pos a15]
  have d1:decide (a≥1)=true:=decide_eq_true a15.1
  have d2:decide (a≤5)=true:=decide_eq_true a15.2
  cases d3:decide (b<a) with
  | true=>simp only[eE,seval,↓eP,rP,hr,ha,hb,c0,d1,d2,d3,Bool.true_or]
  | false=>
   cases d4:(b==a) with
   | false=>simp only[eE,seval,↓eP,rP,hr,ha,hb,c0,d1,d2,d3,d4,Bool.false_or,Bool.false_and]
   | true=>
    cases d5:((k:Int)==1) with
    | true=>simp only[eE,seval,↓eP,rP,hr,ha,hb,c0,d1,d2,d3,d4,d5,Bool.false_or,Bool.true_or]
    | false=>simp only[eE,seval,↓eP,rP,hr,ha,hb,c0,d1,d2,d3,d4,d5,Bool.false_or]
 ·rw[if_neg a15]
  cases d1:decide (a≥1) with
  | false=>
   simp only[decide_eq_false_iff_not] at d1
   have d1':decide (a≥1)=false:=decide_eq_false d1
   have c6:(a==6)=false:=by simp;omega
   rw[if_neg (by omega)]
   simp only[eE,seval,↓eP,rP,hr,ha,hb,c0,d1',c6]
  | true=>
   simp only[decide_eq_true_eq] at d1
   have d1':decide (a≥1)=true:=decide_eq_true d1
   have d2:decide (a≤5)=false:=decide_eq_false (by omega)
   by_cases a6:a=6
   ·subst a6
    simp only[eE,seval,↓eP,rP,hr,ha,hb,c0,d1',d2]
   ·have c6:(a==6)=false:=by simpa using a6
    rw[if_neg a6]
    simp only[eE,seval,↓eP,rP,hr,ha,hb,c0,d1',d2,c6]
noncomputable def uK:Array Oper:=DR Tryd.f94 6
def Ac:List (Bool × Bool × List Operand):=[AY,AY,AY,AY,AY,AN [.tmp 30],AN [.tmp 30],AN [.tmp 30],AN [.tmp 30],AN [.tmp 30],AN [.tmp 30],AL]
theorem Bj:DS uK=Ac:=by kernel_rfl
theorem oQ (hsn:CH call) {l:List AC} {v:Value} {m at_:Nat} (hn:l.length+3<n) (hlen:l.length<30000000000000) (hm:m<30000000000000) (hat:at_<l.length) (hmm:l.length<at_+1+m) (hv:AV h v l) (hval:∀ (i:Nat) x,l[i]?=some x→1≤x.kind∧x.kind≤54)
  (h108:∀ P K (k:Nat) h,1≤P∧P≤54→1≤K∧K≤54→call 108 [iv P,iv k,iv K] h=some (.bool (MM (CP P) (CP K) k),h)) (h109:∀ k h,1≤k∧k≤54→call 109 [iv k] h=some (iv (EO k),h))
  (h94:∀ p:Nat,at_<p→p<l.length→call 94 [v,iv p] h=some (.tuple #[iv (DH l m p).1,iv ((DH l m p).2:Int)],h)) :
  A8 Tryd.prog call n 94 [v,iv at_] h=some (.tuple #[iv (DH l (m+1) at_).1,iv ((DH l (m+1) at_).2:Int)],h):=by
 refine D_ Tryd.func94 rfl (by simp[Tryd.f94]) ?_
 have hr:Tryd.f94.results.toList=[.tmp 4,.tmp 5]:=rfl
 have hl22:∀ h',CC Tryd.prog h' 22 v=some (.int .i64 l.length):=fun h'=>hv.len
 obtain⟨x,hx⟩:∃ x,l[at_]?=some x:=⟨_,List.getElem?_eq_getElem hat⟩
 obtain⟨id,q,e0,hid,l0,l1,l2,l3,l4,lr⟩:=hv.row hx
 have hkx:=hval at_ x hx
 have w1:=DJ at_ (by omega)
 have hres:DH l (m+1) at_=((I2 (DH l m) l x.kind x.kids.toNat 0 0 (at_+1)).1+EO x.kind,(I2 (DH l m) l x.kind x.kids.toNat 0 0 (at_+1)).2):=by rw[DH,hx]
 rw[hres]
 have hop:=fun h=>h109 x.kind h hkx
 have hopl:=UE x.kind
 have hRle:=j_ (g:=DH l m) (l:=l) (kind:=x.kind) (B:=2*(m:Int)) (mL m) x.kids.toNat 0 0 (at_+1) (Int.le_refl 0) (by omega)
 simp only[eE,seval,↓eP,rP,hr,w1]
 generalize hg0:I2 (DH l m) l x.kind x.kids.toNat 0 0 (at_+1)=R at *
 refine WK.loop (fun i s=>s.h=h∧s.T.get 0=v∧s.T.get 1=iv at_∧s.T.get 6=iv i∧∃ (most:Int) (p:Nat),s.T.get 4=iv most∧s.T.get 5=iv p∧at_+1+i≤p∧p≤l.length∧0≤most∧most≤2*(m:Int)+1∧i≤x.kids.toNat∧I2 (DH l m) l x.kind (x.kids.toNat-i) i most p=R) (l.length+2) (by omega) ?_ ?_
 ·simp only[eE,↓reduceIte,Nat.reduceEqDiff,reduceCtorEq,↓eP,rP,Nat.reduceAdd,Nat.reduceLT]
  exact⟨rfl,0,at_+1,rfl,rfl,by omega,by omega,by omega,by omega,by rw[Nat.sub_zero];exact hg0⟩
 ·rintro i ⟨T1,h1⟩ hi ⟨rfl,y0,y1,y6,most,p,y4,y5,hip,hp,hm0,hm1,hik,hR⟩
  simp only at y0 y1 y4 y5 y6
  have done:∀ T':Tr,T'.get 4=iv most→T'.get 5=iv p→R=(most,p)→True:=fun _ _ _ _=>trivial
  by_cases hlt:i<x.kids.toNat
  ·have c1:decide ((i:Int)<x.kids)=true:=by simp only[decide_eq_true_eq];omega
   obtain⟨r,hr1⟩:∃ r,x.kids.toNat-i=r+1:=⟨x.kids.toNat-i-1,by omega⟩
   rw[hr1] at hR
   by_cases hpl:p<l.length
   ·have c2:decide ((p:Int)<(l.length:Int))=true:=by simp only[decide_eq_true_eq];omega
    obtain⟨y,hy⟩:∃ y,l[p]?=some y:=⟨_,List.getElem?_eq_getElem hpl⟩
    obtain⟨id2,q2,f0,hid2,m0,m1,m2,m3,m4,mr⟩:=hv.row hy
    have hky:=hval p y hy
    have hL:=fun hh=>h108 x.kind y.kind i hh hkx hky
    have h94':=h94 p (by omega) hpl
    have hle:=mL (l:=l) m p
    have hnx:=Ax (l:=l) m p hpl
    have w5:=DJ i (by omega)
    have hloI:=cF (CP x.kind) (CP y.kind) i
    have w6:IntKind.i64.wrap ((DH l m p).1+GT (CP x.kind) (CP y.kind) i)=(DH l m p).1+GT (CP x.kind) (CP y.kind) i:=B0 (by omega) (by omega)
    have hstep:I2 (DH l m) l x.kind (x.kids.toNat-(i+1)) (i+1) (if (DH l m p).1+GT (CP x.kind) (CP y.kind) i>most then (DH l m p).1+GT (CP x.kind) (CP y.kind) i else most) (DH l m p).2=R:=by
     rw[← hR,show x.kids.toNat-(i+1)=r by omega]
     simp only[I2,hy]
    simp only[eE,seval,↓eP,rP,y0,y1,y4,y5,y6,e0,l0,l4,c1,hl22,c2]
    refine WK.flags (ops:=uK) Bj ?_
    refine BV.begin ?_
    refine AF hsn 0 (some 27) (.move (.tmp 0)) none ?_
    simp only[eE,seval,↓eP,rP,AD,AB,AE,rF,y0,y1,y4,y5,y6,e0,l0,f0,m0,hL]
    refine AF hsn 1 (some 28) (.move (.tmp 1)) none ?_
    simp only[eE,seval,↓eP,rP,AD,AB,AE,rF,y0,y1,y4,y5,y6,e0,l0,f0,m0,hL]
    refine AF hsn 2 (some 29) (.indexAddr 22 (.tmp 27) (.tmp 28)) none ?_
    simp only[eE,seval,↓eP,rP,AD,AB,AE,rF,y0,y1,y4,y5,y6,e0,l0,f0,m0,hL]
    refine AF hsn 3 (some 30) (.fieldAddr 46 (.tmp 29) 0) none ?_
    simp only[eE,seval,↓eP,rP,AD,AB,AE,rF,y0,y1,y4,y5,y6,e0,l0,f0,m0,hL]
    refine AF hsn 4 (some 31) (.load 3 (.tmp 30)) none ?_
    simp only[eE,seval,↓eP,rP,AD,AB,AE,rF,y0,y1,y4,y5,y6,e0,l0,f0,m0,hL]
    refine AF hsn 5 (some 32) (.move (.tmp 6)) none ?_
    simp only[eE,seval,↓eP,rP,AD,AB,AE,rF,y0,y1,y4,y5,y6,e0,l0,f0,m0,hL]
    refine AF hsn 6 (some 33) (.move (.tmp 0)) none ?_
    simp only[eE,seval,↓eP,rP,AD,AB,AE,rF,y0,y1,y4,y5,y6,e0,l0,f0,m0,hL]
    refine AF hsn 7 (some 34) (.move (.tmp 5)) none ?_
    simp only[eE,seval,↓eP,rP,AD,AB,AE,rF,y0,y1,y4,y5,y6,e0,l0,f0,m0,hL]
    refine AF hsn 8 (some 35) (.indexAddr 22 (.tmp 33) (.tmp 34)) none ?_
    simp only[eE,seval,↓eP,rP,AD,AB,AE,rF,y0,y1,y4,y5,y6,e0,l0,f0,m0,hL]
    refine AF hsn 9 (some 36) (.fieldAddr 46 (.tmp 35) 0) none ?_
    simp only[eE,seval,↓eP,rP,AD,AB,AE,rF,y0,y1,y4,y5,y6,e0,l0,f0,m0,hL]
    refine AF hsn 10 (some 37) (.load 3 (.tmp 36)) none ?_
    simp only[eE,seval,↓eP,rP,AD,AB,AE,rF,y0,y1,y4,y5,y6,e0,l0,f0,m0,hL]
    refine AF hsn 11 (some 38) (.call { callee:=.value (.func 108),args:=#[.tmp 31,.tmp 32,.tmp 37],argTypes:=#[3,3,3] }) none ?_
    simp only[eE,seval,↓eP,rP,AD,AB,AE,rF,y0,y1,y4,y5,y6,e0,l0,f0,m0,hL]
    refine BV.done (i:=12) (by kernel_rfl) ?_
    cases hlo:MM (CP x.kind) (CP y.kind) i with
    | false=>
     have hI:GT (CP x.kind) (CP y.kind) i=0:=by unfold GT;rw[hlo];rfl
     rw[hI] at w6 hstep
     simp only[eE,seval,↓eP,rP,y0,y1,y4,y5,y6,h94',w5,w6]
     exact⟨by omega,_,_,rfl,rfl,by omega,by omega,by split <;> omega,by split <;> omega,by omega,hstep⟩
    | true=>
     have hI:GT (CP x.kind) (CP y.kind) i=1:=by unfold GT;rw[hlo];rfl
     rw[hI] at w6 hstep
     simp only[eE,seval,↓eP,rP,y0,y1,y4,y5,y6,h94',w5,w6]
     exact⟨by omega,_,_,rfl,rfl,by omega,by omega,by split <;> omega,by split <;> omega,by omega,hstep⟩
   ·have c2:decide ((p:Int)<(l.length:Int))=false:=by simp only[decide_eq_false_iff_not];omega
    have hRe:R=(most,p):=by
     rw[← hR]
     simp only[I2,List.getElem?_eq_none (Nat.le_of_not_lt hpl)]
    subst hRe
    have w7:IntKind.i64.wrap (most+EO x.kind)=most+EO x.kind:=B0 (by omega) (by omega)
    simp only[eE,seval,↓eP,rP,hr,y0,y1,y4,y5,y6,e0,l0,l4,c1,hl22,c2,hop,w7]
  ·have c1:decide ((i:Int)<x.kids)=false:=by simp only[decide_eq_false_iff_not];omega
   have hRe:R=(most,p):=by
    rw[← hR,show x.kids.toNat-i=0 by omega]
    rfl
   subst hRe
   have w7:IntKind.i64.wrap (most+EO x.kind)=most+EO x.kind:=B0 (by omega) (by omega)
   simp only[eE,seval,↓eP,rP,hr,y0,y1,y4,y5,y6,e0,l0,l4,c1,hop,w7]
end
def dM (l:List AC) (i:Nat):Prop:=∃ x,l[i]?=some x∧1≤x.kind∧x.kind≤54
theorem bD {g:Nat→Nat→Nat × Bool} {V:Nat→Prop} (hg:∀ k p,(g k p).2=true→∀ i,p≤i→i<(g k p).1→V i):∀ r k p,(EQ g r k p).2=true→∀ i,p≤i→i<(EQ g r k p).1→V i:=by
 intro r
 induction r with
 | zero=>intro k p _ i h1 h2;exact absurd (show i<p from h2) (by omega)
 | succ r ih=>
  intro k p h i h1 h2
  unfold EQ at h h2
  split at h
  ·rename_i hc
   rw[if_pos hc] at h2
   rcases Nat.lt_or_ge i (g k p).1 with h3 | h3
   ·exact hg k p hc i h1 h3
   ·exact ih _ _ h i h3 h2
  ·cases h
theorem vR {l:List AC}:∀ m at_ what,(BS AW l m at_ what).2=true→∀ i,at_≤i→i<(BS AW l m at_ what).1→dM l i:=by
 intro m
 induction m with
 | zero=>intro at_ what h;cases h
 | succ m ih=>
  intro at_ what
  unfold BS
  cases hx:l[at_]? with
  | none=>intro h;cases h
  | some x=>
   simp only
   split
   ·rename_i hc
    intro h i h1 h2
    rcases Nat.lt_or_ge at_ i with h3 | h3
    ·exact bD (V:=dM l) (fun k p hk i h1 h2=>ih p (BY x.kind k) hk i h1 h2) x.kids.toNat 0 (at_+1) h i h3 h2
    ·have:i=at_:=by omega
     subst this
     exact⟨x,hx,QF (Bool.and_eq_true_iff.1 hc).1⟩
   ·intro h;cases h
theorem Ek {l:List AC} {m:Nat}:∀ r ev p,(EG AW l m r ev p).2=true→∀ i,p≤i→i<(EG AW l m r ev p).1→dM l i:=by
 intro r
 induction r with
 | zero=>intro ev p _ i h1 h2;exact absurd (show i<p from h2) (by omega)
 | succ r ih=>
  intro ev p h i h1 h2
  unfold EG at h h2
  split at h
  ·rename_i hc
   rw[if_pos hc] at h2
   rcases Nat.lt_or_ge i (BS AW l m p (HH ev l[p]?)).1 with h3 | h3
   ·exact vR m p _ hc i h1 h3
   ·exact ih _ _ h i h3 h2
  ·cases h
theorem q_ {l:List AC} (h:IT AW l=none):∀ (i:Nat) x,l[i]?=some x→1≤x.kind∧x.kind≤54:=by
 unfold IT at h
 split at h
 ·rename_i hc
  obtain⟨h1,h2⟩:=hc
  intro i x hx
  have hlt:=(List.getElem?_eq_some_iff.1 hx).1
  unfold G5 at h1 h2
  cases h0:l[0]? with
  | none=>rw[h0] at h1;cases h1
  | some y=>
   rw[h0] at h1 h2
   simp only at h1 h2
   split at h1
   ·rename_i hc
    rw[if_pos hc] at h2
    rcases Nat.eq_zero_or_pos i with rfl | hp
    ·rw[h0] at hx
     cases hx
     exact QF (Bool.and_eq_true_iff.1 hc).1
    ·obtain⟨z,hz,hv⟩:=Ek y.kids.toNat false 1 h1 i hp (by omega)
     rw[hx] at hz
     cases hz
     exact hv
   ·cases h1
 ·cases h
theorem YN {l:List AC} (h:IT AW l=none):0<l.length:=by
 rcases Nat.eq_zero_or_pos l.length with h0 | h0
 ·have:l=[]:=List.length_eq_zero_iff.1 h0
  subst this
  revert h
  unfold IT G5
  simp
 ·exact h0
theorem M7:BQ Tryd.prog 33=some 2:=by kernel_rfl
theorem x_:FI Tryd.prog 33=some true:=by kernel_rfl
theorem IA:DV Tryd.prog 33=some (.agg #[.int .i64 0,.int .i64 0]):=by kernel_rfl
theorem aH:G7 Tryd.prog (match Tryd.prog.underlying 33 with | some (.struct fs)=>fs.toList | _=>[])=some [(0,1),(1,1)]:=by kernel_rfl
abbrev FY (e a:Int):Value:=.agg #[.int .i64 e,.int .i64 a]
theorem IG {e a:Int}:flat (FY e a)=true:=rfl
theorem OL {e a:Int}:DB Tryd.prog 33 [(0,.int .i64 e),(1,.int .i64 a)]=some (FY e a):=by
 have h:=aH
 rw[Tryd.underlying33] at h
 simp only at h
 simp only[DB,IA,IG,if_true,Tryd.underlying33,h]
 rfl
theorem SA {e:Int}:DB Tryd.prog 33 [(0,.int .i64 e)]=some (FY e 0):=by
 have h:=aH
 rw[Tryd.underlying33] at h
 simp only at h
 simp only[DB,IA,IG,if_true,Tryd.underlying33,h]
 rfl
theorem UQ:DB Tryd.prog 33 []=some (FY 0 0):=by
 have h:=aH
 rw[Tryd.underlying33] at h
 simp only at h
 simp only[DB,IA,IG,if_true,Tryd.underlying33,h]
 rfl
noncomputable def bM (h:AA) (id:Nat) (a b:Int):BE→Option AA
 | .row [_,_] ty g false=>if h.floor≤id then some (h.put id (.row [.int .i64 a,.int .i64 b] ty g false)) else none
 | _=>BJ Tryd.prog h 33 (qP id 0) (FY a b)
theorem PQ {h:AA} {id:Nat} {a b:Int}:BJ Tryd.prog h 33 (qP id 0) (FY a b)=bM h id a b (h.get id):=by
 cases hg:h.get id with
 | dead=>rfl
 | map _=>rfl
 | row cs ty g ro=>
  match cs,ro with
  | [c,d],false=>
   simp only[bM]
   split
   ·rename_i hf
    simp[BJ,M7,G4,hg,hf,Go.Sx.lay,Value.cells,one]
   ·rename_i hf
    simp[BJ,M7,G4,hg,hf,Go.Sx.lay,Value.cells,one]
  | [c,d],true=>rfl
  | [],ro=>rfl
  | [c],ro=>rfl
  | c :: d :: e :: l,ro=>rfl
theorem QW {h:AA} {id:Nat} {a b:Int} {x y:Value} {ty:TypeId} {g:Bool}:bM h id a b (.row [x,y] ty g false)=if h.floor≤id then some (h.put id (.row [.int .i64 a,.int .i64 b] ty g false)) else none:=rfl
theorem LX {h:AA} {id off:Nat}:EL Tryd.prog h 33 (qP id off)=CB 2 off (h.get id):=MV x_ M7
theorem QV {a b:Value} {ty:TypeId} {g ro:Bool}:CB 2 0 (.row [a,b] ty g ro)=some (.agg #[a,b]):=rfl
theorem qJ (k:Int) (h:AA) (hk:1≤k∧k≤54):L0 118 [iv k] h=some (iv (CP k),h):=EY rfl rfl rfl rfl (IP jF hk)
theorem kP (P Q:Int) (k:Nat) (h:AA) (hP:1≤P∧P≤54) (hQ:1≤Q∧Q≤54):L1 108 [iv P,iv k,iv Q] h=some (.bool (MM (CP P) (CP Q) k),h):=
 EY (GK rfl rfl) rfl rfl rfl ⟨_,Hx (FR (qJ P _ hP)) (FR (qJ Q _ hQ))⟩
theorem Rp {l:List AC} {m:Nat}:(G5 AW l m).1≤l.length:=by
 unfold G5
 split
 ·exact Nat.zero_le _
 ·rename_i x hx
  have:=(List.getElem?_eq_some_iff.1 hx).1
  split
  ·exact qO _ _ _ this
  ·exact Nat.zero_le _
def BR (l:List AC):Int × Int:=match IT AW l with
 | some p=>(23,(p:Int))
 | none=>if (DH l (l.length+1) 0).1>64 then (22,0) else (0,0)
section
variable {call:AQ} {n:Nat}
theorem vB {l:List AC} {v:Value} {h:AA} {m:Nat} (hv:AV h v l) (hpos:0<l.length) (h94:call 94 [v,iv 0] h=some (.tuple #[iv (DH l m 0).1,iv ((DH l m 0).2:Int)],h)) :
  A8 Tryd.prog call n 74 [v] h=some (iv (DH l m 0).1,h):=by
 refine D_ Tryd.func74 rfl (by simp[Tryd.f74]) ?_
 have hr:Tryd.f74.results.toList=[.tmp 2]:=rfl
 have hl22:∀ h',CC Tryd.prog h' 22 v=some (.int .i64 l.length):=fun h'=>hv.len
 have c0:((l.length:Int)==0)=false:=by rw[beq_eq_false_iff_ne];omega
 simp only[eE,seval,↓eP,rP,hr,hl22,c0,h94]
theorem jM {l:List AC} {v:Value} {h:AA} (hv:AV h v l) (hg:h.get 0=DZ) (hn0:0<h.next) (hfl:h.floor≤h.next)
  (h73:∀ h',AV h' v l→h'.get 0=DZ→0<h'.next→h'.floor≤h'.next→call 73 [v,iv 0,iv 8] h'=some (.tuple #[iv ((G5 AW l (l.length+1)).1:Int),.bool (G5 AW l (l.length+1)).2],h'))
  (h74:IT AW l=none→∀ h',AV h' v l→call 74 [v] h'=some (iv (DH l (l.length+1) 0).1,h')) :
  ∃ h1,A8 Tryd.prog call n 30 [v] h=some (FY (BR l).1 (BR l).2,h1)∧∀ i,i<h.next→h1.get i=h.get i:=by
 refine FE (R:=fun h1=>∀ i,i<h.next→h1.get i=h.get i) Tryd.func30 rfl (by simp[Tryd.f30]) ?_
 have hr:Tryd.f30.results.toList=[.cell 2 33]:=rfl
 have hl22:∀ h',CC Tryd.prog h' 22 v=some (.int .i64 l.length):=fun h'=>hv.len
 have hold:∀ o:BE,∀ i,i<h.next→(h.push o).get i=h.get i:=fun o i hi=>AT hi
 have hvp:=hv.mono (h':=h.push (.row [.int .i64 0,.int .i64 0] 33 false false)) (by show h.next≤h.next+1;omega) (hold _)
 have h73':=h73 _ hvp (by rw[hold _ 0 hn0];exact hg) (by show 0<h.next+1;omega) (by show h.floor≤h.next+1;omega)
 have hflT:(h.floor≤h.next)=True:=by simpa using hfl
 have hltT:(h.next<h.next+1)=True:=by simp
 have hvq:=fun o=>(hvp.mono (h':=(h.push (.row [.int .i64 0,.int .i64 0] 33 false false)).put h.next o) (by show h.next+1≤h.next+1;omega))
 have hle:=Rp (l:=l) (m:=l.length+1)
 unfold BR
 cases hs:IT AW l with
 | some p=>
  unfold IT at hs
  split at hs
  ·cases hs
  ·rename_i hc
   generalize G5 AW l (l.length+1)=q at *
   cases hs
   cases q2:q.2 with
   | false=>
    rw[q2] at h73'
    simp only[eE,seval,↓eP,rP,hr,LW,IA,IG,h73',OL,PQ,QW,LX,QV,hflT,hltT]
    intro i hi
    rw[if_neg (by omega),if_neg (by omega)]
   | true=>
    rw[q2] at h73' hc
    have c1:decide ((q.1:Int)<(l.length:Int))=true:=by
     simp only[decide_eq_true_eq]
     have:q.1≠l.length:=fun h=>hc ⟨rfl,h⟩
     omega
    simp only[eE,seval,↓eP,rP,hr,hl22,c1,LW,IA,IG,h73',OL,PQ,QW,LX,QV,hflT,hltT]
    intro i hi
    rw[if_neg (by omega),if_neg (by omega)]
 | none=>
  have h74':=h74 hs _ hvp
  unfold IT at hs
  split at hs
  ·rename_i hc
   generalize G5 AW l (l.length+1)=q at *
   obtain⟨q2,q1⟩:=hc
   rw[q2] at h73'
   have c1:decide ((q.1:Int)<(l.length:Int))=false:=by simp only[decide_eq_false_iff_not];omega
   cases c2:decide ((DH l (l.length+1) 0).1>64) with
   | true=>
    rw[if_pos (by simpa using c2)]
    simp only[eE,seval,↓eP,rP,hr,hl22,c1,c2,LW,IA,IG,h73',h74',SA,PQ,QW,LX,QV,hflT,hltT]
    intro i hi
    rw[if_neg (by omega),if_neg (by omega)]
   | false=>
    rw[if_neg (by simpa using c2)]
    simp only[eE,seval,↓eP,rP,hr,hl22,c1,c2,LW,IA,IG,h73',h74',UQ,PQ,QW,LX,QV,hflT,hltT]
    intro i hi
    rw[if_neg (by omega),if_neg (by omega)]
  ·cases hs
end
def DX (l:List AC) (at_ q:Nat):Prop:=(∃ m what,BS AW l m at_ what=(q,true))∨(at_=0∧∃ m,G5 AW l m=(q,true))
def EM (l:List AC):Nat→Nat→Nat→Prop
 | 0,p,q=>p=q
 | r+1,p,q=>∃ p',DX l p p'∧p<p'∧p'≤l.length∧EM l r p' q
theorem Jx {l:List AC} {m:Nat} {κ:Int}:∀ r k p q,EQ (fun k next=>BS AW l m next (BY κ k)) r k p=(q,true)→EM l r p q:=by
 intro r
 induction r with
 | zero=>intro k p q h;exact congrArg (·.1) h
 | succ r ih=>
  intro k p q h
  unfold EQ at h
  split at h
  ·rename_i hc
   have hle:=S_ (isName:=AW) (l:=l) m p (BY κ k) hc
   refine⟨(BS AW l m p (BY κ k)).1,.inl ⟨m,BY κ k,Prod.ext rfl hc⟩,hle.1,hle.2,ih _ _ _ h⟩
  ·cases h
theorem Ic {l:List AC} {m:Nat}:∀ r ev p q,EG AW l m r ev p=(q,true)→EM l r p q:=by
 intro r
 induction r with
 | zero=>intro ev p q h;exact congrArg (·.1) h
 | succ r ih=>
  intro ev p q h
  unfold EG at h
  split at h
  ·rename_i hc
   have hle:=S_ (isName:=AW) (l:=l) m p (HH ev l[p]?) hc
   exact⟨(BS AW l m p (HH ev l[p]?)).1,.inl ⟨m,_,Prod.ext rfl hc⟩,hle.1,hle.2,ih _ _ _ h⟩
  ·cases h
theorem HE {l:List AC}:∀ r p q,EM l r p q→p+r≤q:=by
 intro r
 induction r with
 | zero=>intro p q h;have:p=q:=h;omega
 | succ r ih=>intro p q ⟨p',_,h1,_,h2⟩;have:=ih _ _ h2;omega
theorem Pd {l:List AC}:∀ r p q,p≤l.length→EM l r p q→q≤l.length:=by
 intro r
 induction r with
 | zero=>intro p q hp h;have:p=q:=h;omega
 | succ r ih=>intro p q hp ⟨p',_,h1,h3,h2⟩;exact ih _ _ h3 h2
theorem DX.kids {l:List AC} {at_ q:Nat} (h:DX l at_ q):∃ x,l[at_]?=some x∧0≤x.kids∧(1≤x.kind∧x.kind≤54)∧EM l x.kids.toNat (at_+1) q:=by
 have kids0:∀ x,DU AW x=true→0≤x.kids:=fun x hf=>by
  unfold DU at hf
  simp only[Bool.and_eq_true,decide_eq_true_eq] at hf
  have:=QD x.kind
  omega
 rcases h with⟨m,what,h⟩ | ⟨rfl,m,h⟩
 ·cases m with
  | zero=>cases h
  | succ m=>
   cases hx:l[at_]? with
   | none=>rw[Z5 hx] at h;cases h
   | some x=>
    rw[XV hx] at h
    split at h
    ·rename_i hc
     simp only[Bool.and_eq_true] at hc
     exact⟨x,rfl,kids0 x hc.2,QF hc.1,Jx _ _ _ _ h⟩
    ·cases h
 ·cases hx:l[0]? with
  | none=>rw[cU hx] at h;cases h
  | some x=>
   rw[XA hx] at h
   split at h
   ·rename_i hc
    simp only[Bool.and_eq_true] at hc
    exact⟨x,rfl,kids0 x hc.2,QF hc.1,Ic _ _ _ _ h⟩
   ·cases h
theorem DX.lt {l:List AC} {at_ q:Nat} (h:DX l at_ q):at_<q∧q≤l.length:=by
 obtain⟨x,hx,_,_,hc⟩:=h.kids
 have hlt:=(List.getElem?_eq_some_iff.1 hx).1
 have:=HE _ _ _ hc
 exact⟨by omega,Pd _ _ _ hlt hc⟩
theorem DX.unique {l:List AC}:∀ (n at_:Nat) {q q':Nat},l.length≤at_+n→DX l at_ q→DX l at_ q'→q=q':=by
 intro n
 induction n with
 | zero=>intro at_ q q' hn h h';have:=h.lt;omega
 | succ n ih=>
  intro at_ q q' hn h h'
  obtain⟨x,hx,_,_,hc⟩:=h.kids
  obtain⟨y,hy,_,_,hc'⟩:=h'.kids
  rw[hx] at hy
  cases hy
  have key:∀ r p a b,at_<p→EM l r p a→EM l r p b→a=b:=by
   intro r
   induction r with
   | zero=>intro p a b _ h1 h2;exact(show p=a from h1).symm.trans (show p=b from h2)
   | succ r ihr=>
    intro p a b hp ⟨p1,s1,_,_,c1⟩ ⟨p2,s2,_,_,c2⟩
    have:p1=p2:=ih p (by omega) s1 s2
    subst this
    have:=s1.lt
    exact ihr p1 a b (by omega) c1 c2
  exact key _ _ _ _ (by omega) hc hc'
theorem DX.cover {l:List AC}:∀ (n:Nat) {at_ q:Nat},q≤at_+n→DX l at_ q→∀ i,at_≤i→i<q→∃ qi,DX l i qi∧qi≤q:=by
 intro n
 induction n with
 | zero=>intro at_ q hn h;have:=h.lt;omega
 | succ n ih=>
  intro at_ q hn h i h1 h2
  rcases Nat.eq_or_lt_of_le h1 with rfl | h3
  ·exact⟨q,h,Nat.le_refl q⟩
  ·obtain⟨x,hx,_,_,hc⟩:=h.kids
   have key:∀ r p,at_<p→p≤i→EM l r p q→∃ qi,DX l i qi∧qi≤q:=by
    intro r
    induction r with
    | zero=>intro p _ hp hc;have:p=q:=hc;omega
    | succ r ihr=>
     intro p hp0 hp ⟨p',s,hlt,_,c⟩
     have hpq:=HE _ _ _ c
     rcases Nat.lt_or_ge i p' with h4 | h4
     ·obtain⟨qi,s1,s2⟩:=ih (by omega) s i hp h4
      exact⟨qi,s1,by omega⟩
     ·exact ihr p' (by omega) h4 c
   exact key _ _ (by omega) h3 hc
def B8 (l:List AC):Prop:=DX l 0 l.length
theorem YS {l:List AC} (h:IT AW l=none):B8 l:=by
 unfold IT at h
 split at h
 ·rename_i hc
  exact .inr ⟨rfl,l.length+1,Prod.ext hc.2 hc.1⟩
 ·cases h
theorem B8.pos {l:List AC} (h:B8 l):0<l.length:=h.lt.1
theorem B8.sub {l:List AC} (h:B8 l) {i:Nat} (hi:i<l.length):∃ q,DX l i q:=by
 obtain⟨q,hq,_⟩:=DX.cover l.length (by omega) h i (Nat.zero_le i) hi
 exact⟨q,hq⟩
open Classical in
noncomputable def AG (l:List AC) (i:Nat):Nat:=if h:∃ q,DX l i q then h.choose else 0
theorem IY {l:List AC} {i q:Nat} (h:DX l i q):AG l i=q:=by
 unfold AG
 have hx:∃ q,DX l i q:=⟨q,h⟩
 rw[dif_pos hx]
 exact DX.unique l.length i (by omega) hx.choose_spec h
theorem B8.end {l:List AC} (h:B8 l) {i:Nat} (hi:i<l.length):DX l i (AG l i):=by
 obtain⟨q,hq⟩:=h.sub hi
 rw[IY hq]
 exact hq
noncomputable def AR (l:List AC):List Int:=(List.range l.length).map fun i=>(AG l i:Int)
theorem KR {l:List AC} {i:Nat} (hi:i<l.length):(AR l)[i]?=some (AG l i:Int):=by simp[AR,hi]
theorem O5 {l:List AC}:(AR l).length=l.length:=by simp[AR]
def ints (l:List Int):List Value:=l.map (.int .i64 ·)
theorem TX (l:List Int) (i:Nat):(ints l)[i]?=(l[i]?).map (.int .i64 ·):=by simp[ints]
theorem FP (l:List Int):(ints l).length=l.length:=by simp[ints]
theorem PE (l:List Int):(ints l).all one=true:=by simp[ints,one]
theorem VI (l:List Int) (i:Nat) (x:Int):(ints l).set i (.int .i64 x)=ints (l.set i x):=by simp[ints,List.map_set]
theorem LC:IE Tryd.prog 3=some 8:=by kernel_rfl
theorem JM:DV Tryd.prog 3=some (.int .i64 0):=by kernel_rfl
theorem tN:∀ n,C0 [Value.int .i64 0] n=ints (List.replicate n 0)
 | 0=>rfl
 | n+1=>by rw[C0,tN n];simp[ints,List.replicate_succ]
theorem OH {h:AA} {n:Nat} (hn:n<30000000000000):L_ Tryd.prog h 28 (.int .i64 (n:Int)) (.int .i64 (n:Int))=some (qS h.next n n,h.push (.row (ints (List.replicate n 0)) 3 false false)):=by
 have hz:(Value.int .i64 0).cells=#[.int .i64 0]:=rfl
 simp only[L_,Tryd.underlying28,CQ,JM,LC,hz,YJ]
 rw[if_pos (by simp;omega)]
 simp[tN]
theorem GQ {id n c i:Nat} (hi:i<n):CU Tryd.prog 28 (qS id n c) (.int .i64 (i:Int))=some (qP id i):=by
 simp only[CU,Tryd.underlying28,CQ,CF]
 rw[if_pos (by omega)]
 simp
theorem JZ {l:List Int} {i:Nat} {x:Int} {ty:TypeId} {g ro:Bool} (hx:l[i]?=some x):AS i (.row (ints l) ty g ro)=some (.int .i64 x):=by
 simp[AS,TX,hx]
theorem eA {cs:List Value} {off:Nat} {v:Value} (h:off<cs.length):Go.Sx.lay cs off [v]=cs.set off v:=by
 apply List.ext_getElem?
 intro k
 rw[RX (by simp;omega),List.getElem?_set]
 by_cases hk:off=k
 ·subst hk
  simp[h]
 ·rw[if_neg (by simp;omega),if_neg hk]
theorem MG {h:AA} {id i:Nat} {l:List Int} {x:Int} {ty:TypeId} {g:Bool} (hg:h.get id=.row (ints l) ty g false) (hi:i<l.length) (hf:h.floor≤id):BJ Tryd.prog h 3 (qP id i) (.int .i64 x)=some (h.put id (.row (ints (l.set i x)) ty g false)):=by
 have hc:(Value.int .i64 x).cells=#[.int .i64 x]:=rfl
 simp only[BJ,hc,CQ,G4,hg]
 have hsz:(some 1:Option Nat)=some (#[Value.int .i64 x]:Array Value).size:=rfl
 rw[if_pos hsz,if_pos (by simp[one,FP];omega),eA (by rw[FP];exact hi),VI]
def GV (L l:List AC):Prop:=L.length=l.length∧∀ (i:Nat) x,l[i]?=some x→∃ y,L[i]?=some y∧y.kids=x.kids
theorem qC (l:List AC):GV l l:=⟨rfl,fun i x h=>⟨x,h,rfl⟩⟩
section
variable {call:AQ} {n:Nat}
theorem iK {l L:List AC} {v:Value} {h:AA} (ht:B8 l) (hsk:GV L l) (hv:AV h v L) (hlen:l.length<30000000000000) (hn:l.length+3<n) (hfl:h.floor≤h.next) :
  ∃ h',A8 Tryd.prog call n 49 [v] h=some (qS h.next l.length l.length,h')∧(h'.get h.next=.row (ints (AR l)) 3 false false∧h'.next=h.next+1∧h'.floor=h.floor∧∀ i,i<h.next→h'.get i=h.get i):=by
 refine FE (R:=fun h'=>h'.get h.next=.row (ints (AR l)) 3 false false∧h'.next=h.next+1∧h'.floor=h.floor∧∀ i,i<h.next→h'.get i=h.get i) Tryd.func49 rfl (by simp[Tryd.f49]) ?_
 have hr:Tryd.f49.results.toList=[.tmp 2]:=rfl
 have hl22:∀ h',CC Tryd.prog h' 22 v=some (.int .i64 l.length):=fun h'=>by rw[← hsk.1];exact hv.len
 have hpos:=ht.pos
 have w0:IntKind.i64.wrap ((l.length:Int)-1)=(l.length:Int)-1:=B0 (by omega) (by omega)
 simp only[eE,seval,↓eP,rP,hr,hl22,OH hlen,w0]
 refine WK.loop (fun j s=>s.T.get 0=v∧s.T.get 3=qS h.next l.length l.length∧s.T.get 4=iv ((l.length:Int)-1-(j:Int))∧s.h.next=h.next+1∧s.h.floor=h.floor∧(∀ i,i<h.next→s.h.get i=h.get i) ∧
  ∃ E:List Int,E.length=l.length∧s.h.get h.next=.row (ints E) 3 false false∧∀ i,l.length-j≤i→i<l.length→E[i]?=some (AG l i:Int)) l.length (by omega) ?_ ?_
 ·simp only[eE,seval,↓eP,rP]
  refine⟨by omega,fun i hi=>by rw[if_neg (by omega)],List.replicate l.length 0,by simp,rfl,fun i h1 h2=>by omega⟩
 ·rintro j ⟨T1,h1⟩ hj ⟨t0,t3,t4,hnx,hf1,hold,E,hE,hgE,hEv⟩
  simp only at t0 t3 t4 hnx hf1 hold hgE
  by_cases hlt:j<l.length
  ·obtain⟨at_,hat⟩:∃ a:Nat,(l.length:Int)-1-(j:Int)=(a:Int):=⟨l.length-1-j,by omega⟩
   have hatl:at_<l.length:=by omega
   rw[hat] at t4
   have c1:decide ((at_:Int)≥0)=true:=by simp
   have w1:=DJ at_ (by omega)
   have w2:IntKind.i64.wrap ((at_:Int)-1)=(l.length:Int)-1-((j+1:Nat):Int):=by rw[B0 (by omega) (by omega)];omega
   have hsub:=ht.end hatl
   obtain⟨x,hx,hk0,hkk,hchain⟩:=hsub.kids
   have hv1:AV h1 v L:=hv.mono (by omega) hold
   obtain⟨y,hy,hyk⟩:=hsk.2 at_ x hx
   obtain⟨id,q,e0,hid,l0,l1,l2,l3,l4,lr⟩:=hv1.row hy
   rw[hyk] at l4
   have hcl:=HE _ _ _ hchain
   have hel:=hsub.lt
   simp only[eE,seval,↓eP,rP,t0,t3,t4,c1,w1,e0,l4]
   refine WK.loop (fun k s=>s.h=h1∧s.T.get 0=v∧s.T.get 3=qS h.next l.length l.length∧s.T.get 4=iv at_∧s.T.get 23=iv k∧s.T.get 22=.int .i64 x.kids∧∃ p:Nat,s.T.get 5=iv p∧at_<p∧k≤x.kids.toNat∧EM l (x.kids.toNat-k) p (AG l at_)) x.kids.toNat (by omega) ?_ ?_
   ·simp only[eE,↓reduceIte,Nat.reduceEqDiff,reduceCtorEq,↓eP,rP,Nat.reduceAdd,Nat.reduceLT,t0,t3,t4]
    refine⟨rfl,at_+1,rfl,by omega,by rw[Nat.sub_zero];exact hchain⟩
   ·rintro k ⟨T2,h2⟩ hk ⟨rfl,u0,u3,u4,u23,u22,p,u5,hp,hkk2,hch⟩
    simp only at u0 u3 u4 u23 u22 u5
    by_cases hlt2:k<x.kids.toNat
    ·have c2:decide ((k:Int)<x.kids)=true:=by simp only[decide_eq_true_eq];omega
     obtain⟨r,hr1⟩:∃ r,x.kids.toNat-k=r+1:=⟨x.kids.toNat-k-1,by omega⟩
     rw[hr1] at hch
     obtain⟨p',s1,s2,s3,s4⟩:=hch
     have hEp:=hEv p (by omega) (by omega)
     rw[IY s1] at hEp
     have w5:=DJ k (by omega)
     simp only[eE,seval,↓eP,rP,u0,u3,u4,u23,u22,u5,c2,GQ (show p<l.length by omega),hgE,JZ hEp,w5]
     exact⟨hlt2,p',rfl,by omega,by omega,by rw[show x.kids.toNat-(k+1)=r by omega];exact s4⟩
    ·have c2:decide ((k:Int)<x.kids)=false:=by simp only[decide_eq_false_iff_not];omega
     rw[show x.kids.toNat-k=0 by omega] at hch
     have hpe:p=AG l at_:=hch
     have hst:=MG (x:=(p:Int)) hgE (show at_<E.length by omega) (by rw[hf1];exact hfl)
     have hnx':h2.next=h.next+1:=hnx
     have hltT:(h.next<h2.next)=True:=by rw[hnx'];simp
     simp only[eE,seval,↓eP,rP,u0,u3,u4,u23,u22,u5,c2,GQ hatl,hst,w2,hltT]
     refine⟨hlt,hnx,hf1,fun i hi=>by rw[if_neg (by omega)];exact hold i hi,E.set at_ (p:Int),by rw[List.length_set];exact hE,rfl,fun i h1 h2=>?_⟩
     rw[List.getElem?_set]
     by_cases hia:at_=i
     ·subst hia
      rw[if_pos rfl,if_pos (by omega),hpe]
     ·rw[if_neg hia]
      exact hEv i (by omega) h2
  ·have c1:decide ((l.length:Int)-1-(j:Int)≥0)=false:=by simp only[decide_eq_false_iff_not];omega
   have hEe:E=AR l:=by
    apply List.ext_getElem?
    intro i
    by_cases hi:i<l.length
    ·rw[hEv i (by omega) hi,KR hi]
    ·rw[List.getElem?_eq_none (by omega),List.getElem?_eq_none (by rw[O5];omega)]
   subst hEe
   simp only[eE,seval,↓eP,rP,hr,t0,t3,t4,c1]
   exact⟨hgE,hnx,hf1,hold⟩
theorem gH {l L:List AC} {v:Value} {h:AA} (ht:B8 l) (hsk:GV L l) (hv:AV h v L) (hlen:l.length<30000000000000) (hn:l.length+3<n) (hfl:h.floor≤h.next) :
  ∃ h',A8 Tryd.prog call n 56 [v] h=some (qS h.next l.length l.length,h')∧(h'.get h.next=.row (ints (AR l)) 3 false false∧h'.next=h.next+1∧h'.floor=h.floor∧∀ i,i<h.next→h'.get i=h.get i):=by
 refine FE (R:=fun h'=>h'.get h.next=.row (ints (AR l)) 3 false false∧h'.next=h.next+1∧h'.floor=h.floor∧∀ i,i<h.next→h'.get i=h.get i) Tryd.func56 rfl (by simp[Tryd.f56]) ?_
 have hr:Tryd.f56.results.toList=[.tmp 2]:=rfl
 have hl22:∀ h',CC Tryd.prog h' 22 v=some (.int .i64 l.length):=fun h'=>by rw[← hsk.1];exact hv.len
 have hpos:=ht.pos
 have w0:IntKind.i64.wrap ((l.length:Int)-1)=(l.length:Int)-1:=B0 (by omega) (by omega)
 simp only[eE,seval,↓eP,rP,hr,hl22,OH hlen,w0]
 refine WK.loop (fun j s=>s.T.get 0=v∧s.T.get 3=qS h.next l.length l.length∧s.T.get 4=iv ((l.length:Int)-1-(j:Int))∧s.h.next=h.next+1∧s.h.floor=h.floor∧(∀ i,i<h.next→s.h.get i=h.get i) ∧
  ∃ E:List Int,E.length=l.length∧s.h.get h.next=.row (ints E) 3 false false∧∀ i,l.length-j≤i→i<l.length→E[i]?=some (AG l i:Int)) l.length (by omega) ?_ ?_
 ·simp only[eE,seval,↓eP,rP]
  refine⟨by omega,fun i hi=>by rw[if_neg (by omega)],List.replicate l.length 0,by simp,rfl,fun i h1 h2=>by omega⟩
 ·rintro j ⟨T1,h1⟩ hj ⟨t0,t3,t4,hnx,hf1,hold,E,hE,hgE,hEv⟩
  simp only at t0 t3 t4 hnx hf1 hold hgE
  by_cases hlt:j<l.length
  ·obtain⟨at_,hat⟩:∃ a:Nat,(l.length:Int)-1-(j:Int)=(a:Int):=⟨l.length-1-j,by omega⟩
   have hatl:at_<l.length:=by omega
   rw[hat] at t4
   have c1:decide ((at_:Int)≥0)=true:=by simp
   have w1:=DJ at_ (by omega)
   have w2:IntKind.i64.wrap ((at_:Int)-1)=(l.length:Int)-1-((j+1:Nat):Int):=by rw[B0 (by omega) (by omega)];omega
   have hsub:=ht.end hatl
   obtain⟨x,hx,hk0,hkk,hchain⟩:=hsub.kids
   have hv1:AV h1 v L:=hv.mono (by omega) hold
   obtain⟨y,hy,hyk⟩:=hsk.2 at_ x hx
   obtain⟨id,q,e0,hid,l0,l1,l2,l3,l4,lr⟩:=hv1.row hy
   rw[hyk] at l4
   have hcl:=HE _ _ _ hchain
   have hel:=hsub.lt
   simp only[eE,↓reduceIte,Nat.reduceEqDiff,reduceCtorEq,↓eP,rP,Nat.reduceAdd,Nat.reduceLT,t0,t3,t4,c1,w1,e0,l4]
   refine WK.loop (fun k s=>s.h=h1∧s.T.get 0=v∧s.T.get 3=qS h.next l.length l.length∧s.T.get 4=iv at_∧s.T.get 6=iv k∧∃ p:Nat,s.T.get 5=iv p∧at_<p∧k≤x.kids.toNat∧EM l (x.kids.toNat-k) p (AG l at_)) x.kids.toNat (by omega) ?_ ?_
   ·simp only[eE,↓reduceIte,Nat.reduceEqDiff,reduceCtorEq,↓eP,rP,Nat.reduceAdd,Nat.reduceLT,t0,t3,t4]
    refine⟨rfl,at_+1,rfl,by omega,by rw[Nat.sub_zero];exact hchain⟩
   ·rintro k ⟨T2,h2⟩ hk ⟨rfl,u0,u3,u4,u6,p,u5,hp,hkk2,hch⟩
    simp only at u0 u3 u4 u6 u5
    by_cases hlt2:k<x.kids.toNat
    ·have c2:decide ((k:Int)<x.kids)=true:=by simp only[decide_eq_true_eq];omega
     obtain⟨r,hr1⟩:∃ r,x.kids.toNat-k=r+1:=⟨x.kids.toNat-k-1,by omega⟩
     rw[hr1] at hch
     obtain⟨p',s1,s2,s3,s4⟩:=hch
     have hEp:=hEv p (by omega) (by omega)
     rw[IY s1] at hEp
     have w5:=DJ k (by omega)
     simp only[eE,seval,↓eP,rP,u0,u3,u4,u6,u5,c2,e0,l4,GQ (show p<l.length by omega),hgE,JZ hEp,w5]
     exact⟨hlt2,p',rfl,by omega,by omega,by rw[show x.kids.toNat-(k+1)=r by omega];exact s4⟩
    ·have c2:decide ((k:Int)<x.kids)=false:=by simp only[decide_eq_false_iff_not];omega
     rw[show x.kids.toNat-k=0 by omega] at hch
     have hpe:p=AG l at_:=hch
     have hst:=MG (x:=(p:Int)) hgE (show at_<E.length by omega) (by rw[hf1];exact hfl)
     have hnx':h2.next=h.next+1:=hnx
     have hltT:(h.next<h2.next)=True:=by rw[hnx'];simp
     simp only[eE,seval,↓eP,rP,u0,u3,u4,u6,u5,c2,e0,l4,GQ hatl,hst,w2,hltT]
     refine⟨hlt,hnx,hf1,fun i hi=>by rw[if_neg (by omega)];exact hold i hi,E.set at_ (p:Int),by rw[List.length_set];exact hE,rfl,fun i h1 h2=>?_⟩
     rw[List.getElem?_set]
     by_cases hia:at_=i
     ·subst hia
      rw[if_pos rfl,if_pos (by omega),hpe]
     ·rw[if_neg hia]
      exact hEv i (by omega) h2
  ·have c1:decide ((l.length:Int)-1-(j:Int)≥0)=false:=by simp only[decide_eq_false_iff_not];omega
   have hEe:E=AR l:=by
    apply List.ext_getElem?
    intro i
    by_cases hi:i<l.length
    ·rw[hEv i (by omega) hi,KR hi]
    ·rw[List.getElem?_eq_none (by omega),List.getElem?_eq_none (by rw[O5];omega)]
   subst hEe
   simp only[eE,seval,↓eP,rP,hr,t0,t3,t4,c1]
   exact⟨hgE,hnx,hf1,hold⟩
theorem Gz {l:List AC} {v:Value} {h:AA} (ht:B8 l) (hv:AV h v l) (hlen:l.length<30000000000000) (hn:l.length+3<n) (hfl:h.floor≤h.next) :
  ∃ h',A8 Tryd.prog call n 49 [v] h=some (qS h.next l.length l.length,h')∧(h'.get h.next=.row (ints (AR l)) 3 false false∧h'.next=h.next+1∧h'.floor=h.floor∧∀ i,i<h.next→h'.get i=h.get i):=iK ht (qC l) hv hlen hn hfl
theorem Sm {l:List AC} {v:Value} {h:AA} (ht:B8 l) (hv:AV h v l) (hlen:l.length<30000000000000) (hn:l.length+3<n) (hfl:h.floor≤h.next) :
  ∃ h',A8 Tryd.prog call n 56 [v] h=some (qS h.next l.length l.length,h')∧(h'.get h.next=.row (ints (AR l)) 3 false false∧h'.next=h.next+1∧h'.floor=h.floor∧∀ i,i<h.next→h'.get i=h.get i):=gH ht (qC l) hv hlen hn hfl
end
def HD (w:Int):Int:=if w=8 then 0 else if w=9 then 1 else w
def M6 (w:Int):Prop:=w=8∨w=9∨w=2∨w=3∨w=4∨w=5∨w=6∨w=7
theorem kB {w k:Int} (h:FK w k=true):1≤k∧k≤54:=by
 unfold FK at h
 split at h
 ·simp at h;omega
 ·exact QF h
theorem I4 {P:Program} {t:TypeId} {x y:Operand} {a b:ByteArray}:CR P .neq t x y (.string a) (.string b)=some (.bool (!(a==b))):=by
 have e:BH P (do eqGuard .neq t x y (.string a) (.string b);binOp .neq t (.string a) (.string b))=some (.bool (!(a==b))):=by
  rw[C4]
  have g:BH P (eqGuard .neq t x y (.string a) (.string b))=some ():=rfl
  rw[g,← kU]
  simp[binOp,Op.stringOp,Option.bind]
  rfl
 have hf:flat (.string a)=true:=rfl
 have hf2:flat (.string b)=true:=rfl
 simp only[CR,hf,hf2,LN,Bool.and_self,if_true,e]
theorem Rr {s:ByteArray} (h:(s==⟨#[]⟩)=true):AW s=false:=by
 have:=LK h
 subst this
 rfl
section
variable {call:AQ} {n:Nat} {h:AA}
theorem Kh {k:Int}:A8 Tryd.prog call n 101 [iv k] h=some (.bool (decide (k≥2)&&decide (k≤7)),h):=by
 refine D_ Tryd.func101 rfl (by simp[Tryd.f101]) ?_
 have hr:Tryd.f101.results.toList=[.tmp 2]:=rfl
 cases d:decide (k≥2) <;> simp only[eE,seval,↓eP,rP,hr,d,Bool.false_and]
theorem Ny {k:Int}:A8 Tryd.prog call n 102 [iv k] h=some (.bool (C2 k),h):=by
 refine D_ Tryd.func102 rfl (by simp[Tryd.f102]) ?_
 have hr:Tryd.f102.results.toList=[.tmp 2]:=rfl
 unfold C2
 cases d:decide (k≥8) <;> simp only[eE,seval,↓eP,rP,hr,d,Bool.false_and]
theorem Kt {k:Int}:A8 Tryd.prog call n 119 [iv k] h=some (.bool (decide (k≥11)&&decide (k≤23)),h):=by
 refine D_ Tryd.func119 rfl (by simp[Tryd.f119]) ?_
 have hr:Tryd.f119.results.toList=[.tmp 2]:=rfl
 cases d:decide (k≥11) <;> simp only[eE,seval,↓eP,rP,hr,d,Bool.false_and]
theorem Pk {k:Int}:A8 Tryd.prog call n 120 [iv k] h=some (.bool (decide (k≥27)&&decide (k≤54)),h):=by
 refine D_ Tryd.func120 rfl (by simp[Tryd.f120]) ?_
 have hr:Tryd.f120.results.toList=[.tmp 2]:=rfl
 cases d:decide (k≥27) <;> simp only[eE,seval,↓eP,rP,hr,d,Bool.false_and]
theorem Pn {w k:Int} (hw:M6 w) (hD:call 101 [iv k] h=some (.bool (decide (k≥2)&&decide (k≤7)),h)) (hE:call 102 [iv k] h=some (.bool (C2 k),h))
  (hG:call 119 [iv k] h=some (.bool (decide (k≥11)&&decide (k≤23)),h)) (hX:call 120 [iv k] h=some (.bool (decide (k≥27)&&decide (k≤54)),h)) :
  A8 Tryd.prog call n 111 [iv k,iv (HD w)] h=some (.bool (FK w k),h):=by
 refine D_ Tryd.func111 rfl (by simp[Tryd.f111]) ?_
 have hr:Tryd.f111.results.toList=[.tmp 4]:=rfl
 unfold C2 at hE
 rcases hw with rfl | rfl | rfl | rfl | rfl | rfl | rfl | rfl
 ·have e:HD 8=0:=rfl
  have e2:FK 8 k=(k==1):=rfl
  rw[e,e2]
  simp only[eE,seval,↓eP,rP,Int.reduceBEq,hr]
 ·have e:HD 9=1:=rfl
  have e2:FK 9 k=(decide (k≥2)&&decide (k≤10)):=rfl
  rw[e,e2]
  cases d:(decide (k≥2)&&decide (k≤7)) with
  | true=>
   rw[d] at hD
   have:(decide (k≥2)&&decide (k≤10))=true:=by simp only[Bool.and_eq_true,decide_eq_true_eq] at d ⊢;omega
   simp only[eE,seval,↓eP,rP,Int.reduceBEq,hr,hD,this]
  | false=>
   rw[d] at hD
   have:(decide (k≥2)&&decide (k≤10))=(decide (k≥8)&&decide (k≤10)):=by
    simp only[Bool.and_eq_false_iff,decide_eq_false_iff_not] at d
    apply Bool.eq_iff_iff.2
    simp only[Bool.and_eq_true,decide_eq_true_eq]
    omega
   simp only[eE,seval,↓eP,rP,Int.reduceBEq,hr,hD,hE,this]
 ·have e:HD 2=2:=rfl
  have e2:FK 2 k=(k==11):=rfl
  rw[e,e2]
  simp only[eE,seval,↓eP,rP,Int.reduceBEq,hr]
 ·have e:HD 3=3:=rfl
  have e2:FK 3 k=(decide (k≥11)&&decide (k≤23)):=rfl
  rw[e,e2]
  simp only[eE,seval,↓eP,rP,Int.reduceBEq,hr,hG]
 ·have e:HD 4=4:=rfl
  have e2:FK 4 k=(k==11||k==12):=rfl
  rw[e,e2]
  cases d:(k==11) <;> simp only[eE,seval,↓eP,rP,Int.reduceBEq,hr,d,Bool.true_or,Bool.false_or]
 ·have e:HD 5=5:=rfl
  have e2:FK 5 k=(k==25||k==26):=rfl
  rw[e,e2]
  cases d:(k==25) <;> simp only[eE,seval,↓eP,rP,Int.reduceBEq,hr,d,Bool.true_or,Bool.false_or]
 ·have e:HD 6=6:=rfl
  have e2:FK 6 k=(k==24):=rfl
  rw[e,e2]
  simp only[eE,seval,↓eP,rP,Int.reduceBEq,hr]
 ·have e:HD 7=7:=rfl
  have e2:FK 7 k=(decide (k≥27)&&decide (k≤54)):=rfl
  rw[e,e2]
  simp only[eE,seval,↓eP,rP,Int.reduceBEq,hr,hX]
abbrev DN (x:AC):Value:=.agg #[iv x.kind,.string x.name,iv x.ends,iv x.n,iv x.kids]
theorem SL {x:AC}:(DN x).cells.toList=[iv x.kind,.string x.name,iv x.ends,iv x.n,iv x.kids]:=rfl
theorem Es {w:Int} {x:AC} (hS:∀ h,call 111 [iv x.kind,iv (HD w)] h=some (.bool (FK w x.kind),h))
  (hE:∀ h,1≤x.kind∧x.kind≤54→call 112 [iv x.kind] h=some (.bool (JR x.kind),h)) (hN:∀ h,1≤x.kind∧x.kind≤54→call 113 [iv x.kind] h=some (.bool (HG x.kind),h))
  (hI:∀ h,call 114 [.string x.name] h=some (.bool (AW x.name),h)) (hM:∀ h,1≤x.kind∧x.kind≤54→call 115 [iv x.kind] h=some (.tuple #[iv (FC x.kind),iv (CT x.kind)],h)) :
  ∃ h',A8 Tryd.prog call n 100 [DN x,iv (HD w)] (EJ 1 0)=some (.bool (FK w x.kind&&DU AW x),h')∧True:=by
 refine FE (R:=fun _=>True) Tryd.func100 rfl (by simp[Tryd.f100]) ?_
 have hr:Tryd.f100.results.toList=[.tmp 4]:=rfl
 have hone:([iv x.kind,.string x.name,iv x.ends,iv x.n,iv x.kids]:List Value).all one=true:=rfl
 generalize hV:(FK w x.kind&&DU AW x)=V
 cases hs:FK w x.kind with
 | false=>
  rw[hs] at hV hS
  rw[Bool.false_and] at hV
  subst hV
  simp only[eE,seval,↓eP,rP,hr,SL,hone,HF,hS]
 | true=>
  rw[hs] at hV hS
  rw[Bool.true_and] at hV
  have hk:=kB hs
  have hE':=fun h=>hE h hk
  have hN':=fun h=>hN h hk
  have hM':=fun h=>hM h hk
  clear hE hN hM
  have hq:(x.name==ByteArray.empty)=(x.name==⟨#[]⟩):=rfl
  unfold DU at hV
  rw[hq] at hV
  have hQe:(x.name==⟨#[]⟩)=true→AW x.name=false:=Rr
  generalize hKK:B9.top (fun e s=>(e=DT.normal∨e=DT.ret)∧∃ vs,FA Tryd.prog s Tryd.f100.results.toList=some vs∧GW vs=Value.bool V∧True)=K
  have fin:∀ (T':Tr) H b,T'.get 4=.bool b→b=V→K.ap Tryd.prog call n .ret ⟨T',H⟩:=fun T' H b h4 hb=>by
   subst hb
   rw[← hKK]
   simp only[eE,seval,↓eP,rP,hr,h4]
  have retF:∀ (T':Tr) H,T'.get 4=.bool false→V=false→K.ap Tryd.prog call n .ret ⟨T',H⟩:=fun T' H h4 hb=>fin T' H false h4 hb.symm
  have ZD:∀ T':Tr,T'.get 2=qP 1 0→(decide (x.kids≥FC x.kind)&&(decide (CT x.kind<0)||decide (x.kids≤CT x.kind)))=V →
    WK Tryd.prog call n (rt (rt (rt (rt (Tryd.f100.body.getD .skip))))) ⟨T',(EJ 1 0).push (.row [iv x.kind,.string x.name,iv x.ends,iv x.n,iv x.kids] 46 false false)⟩ K:=by
   intro T' t2 hv
   show WK _ _ _ (.seq _ _) _ _
   cases d1:decide (x.kids≥FC x.kind) with
   | false=>
    rw[d1,Bool.false_and] at hv
    simp only[eE,seval,↓eP,rP,t2,hM',d1]
    exact fin _ _ false (by simp only[Tr.get_put,if_true]) hv
   | true=>
    rw[d1,Bool.true_and] at hv
    cases d2:decide (CT x.kind<0) with
    | true=>
     rw[d2,Bool.true_or] at hv
     simp only[eE,seval,↓eP,rP,t2,hM',d1,d2]
     exact fin _ _ true (by simp only[Tr.get_put,if_true]) hv
    | false=>
     rw[d2,Bool.false_or] at hv
     simp only[eE,seval,↓eP,rP,t2,hM',d1,d2]
     exact fin _ _ _ (by simp only[Tr.get_put,if_true]) hv
  have VU:∀ T':Tr,T'.get 2=qP 1 0→((x.n==0||x.kind==27&&decide (x.n>0)&&decide (x.n≤1073741824))&&(decide (x.kids≥FC x.kind)&&(decide (CT x.kind<0)||decide (x.kids≤CT x.kind))))=V →
    WK Tryd.prog call n (rt (rt (rt (Tryd.f100.body.getD .skip)))) ⟨T',(EJ 1 0).push (.row [iv x.kind,.string x.name,iv x.ends,iv x.n,iv x.kids] 46 false false)⟩ K:=by
   intro T' t2 hv
   show WK _ _ _ (.seq _ (rt (rt (rt (rt (Tryd.f100.body.getD .skip)))))) _ _
   cases k27:(x.kind==27) with
   | true=>
    have k27':(x.kind != 27)=false:=by rw[bne,k27];rfl
    cases d1:decide (x.n<0) with
    | true=>
     have f0:(x.n==0)=false:=by rw[beq_eq_false_iff_ne];simp only[decide_eq_true_eq] at d1;omega
     have f1:decide (x.n>0)=false:=by simp only[decide_eq_true_eq] at d1;simp only[decide_eq_false_iff_not];omega
     rw[f0,f1] at hv
     simp only[eE,seval,↓eP,rP,t2,k27,k27',d1]
     exact retF _ _ (by simp only[Tr.get_put,if_true]) (by rw[← hv];simp)
    | false=>
     cases d2:decide (x.n>1073741824) with
     | true=>
      have f0:(x.n==0)=false:=by rw[beq_eq_false_iff_ne];simp only[decide_eq_true_eq] at d2;omega
      have f1:decide (x.n≤1073741824)=false:=by simp only[decide_eq_true_eq] at d2;simp only[decide_eq_false_iff_not];omega
      rw[f0,f1] at hv
      simp only[eE,seval,↓eP,rP,t2,k27,k27',d1,d2]
      exact retF _ _ (by simp only[Tr.get_put,if_true]) (by rw[← hv];simp)
     | false=>
      have f1:(x.n==0||decide (x.n>0)&&decide (x.n≤1073741824))=true:=by
       simp only[decide_eq_false_iff_not] at d1 d2
       simp only[Bool.or_eq_true,Bool.and_eq_true,decide_eq_true_eq,beq_iff_eq]
       omega
      rw[k27,Bool.true_and,f1,Bool.true_and] at hv
      simp only[eE,seval,↓eP,rP,t2,k27,k27',d1,d2]
      exact ZD _ (by simp only[Tr.get_put,Option.some.injEq,Nat.reduceEqDiff,if_false,t2]) hv
   | false=>
    have k27':(x.kind != 27)=true:=by rw[bne,k27];rfl
    cases d1:(x.n==0) with
    | false=>
     have d1':(x.n != 0)=true:=by rw[bne,d1];rfl
     rw[d1,k27] at hv
     simp only[eE,seval,↓eP,rP,t2,k27,k27',d1']
     exact retF _ _ (by simp only[Tr.get_put,if_true]) (by rw[← hv];simp)
    | true=>
     have d1':(x.n != 0)=false:=by rw[bne,d1];rfl
     rw[d1,Bool.true_or,Bool.true_and] at hv
     simp only[eE,seval,↓eP,rP,t2,k27,k27',d1']
     exact ZD _ (by simp only[Tr.get_put,Option.some.injEq,Nat.reduceEqDiff,if_false,t2]) hv
  have WF:∀ T':Tr,T'.get 2=qP 1 0→(((AW x.name==HG x.kind)&&(HG x.kind||x.name==⟨#[]⟩))&&((x.n==0||x.kind==27&&decide (x.n>0)&&decide (x.n≤1073741824))&&(decide (x.kids≥FC x.kind)&&(decide (CT x.kind<0)||decide (x.kids≤CT x.kind)))))=V →
    WK Tryd.prog call n (rt (rt (Tryd.f100.body.getD .skip))) ⟨T',(EJ 1 0).push (.row [iv x.kind,.string x.name,iv x.ends,iv x.n,iv x.kids] 46 false false)⟩ K:=by
   intro T' t2 hv
   show WK _ _ _ (.seq _ (rt (rt (rt (Tryd.f100.body.getD .skip))))) _ _
   cases nm:HG x.kind with
   | true=>
    rw[nm] at hv hN'
    cases ni:AW x.name with
    | true=>
     rw[ni] at hv hI
     simp only[eE,seval,↓eP,rP,t2,hN',hI]
     exact VU _ (by simp only[Tr.get_put,Option.some.injEq,Nat.reduceEqDiff,if_false,t2]) (by rw[← hv];simp)
    | false=>
     rw[ni] at hv hI
     simp only[eE,seval,↓eP,rP,t2,hN',hI]
     exact retF _ _ (by simp only[Tr.get_put,if_true]) (by rw[← hv];simp)
   | false=>
    rw[nm] at hv hN'
    cases q3:(x.name==⟨#[]⟩) with
    | true=>
     rw[q3,hQe q3] at hv
     simp only[eE,seval,↓eP,rP,t2,hN',I4,q3]
     exact VU _ (by simp only[Tr.get_put,Option.some.injEq,Nat.reduceEqDiff,if_false,t2]) (by rw[← hv];simp)
    | false=>
     rw[q3] at hv
     simp only[eE,seval,↓eP,rP,t2,hN',I4,q3]
     exact retF _ _ (by simp only[Tr.get_put,if_true]) (by rw[← hv];simp)
  have hv:((x.ends==0||JR x.kind&&x.ends==1)&&(((AW x.name==HG x.kind)&&(HG x.kind||x.name==⟨#[]⟩))&&((x.n==0||x.kind==27&&decide (x.n>0)&&decide (x.n≤1073741824))&&(decide (x.kids≥FC x.kind)&&(decide (CT x.kind<0)||decide (x.kids≤CT x.kind))))))=V:=by
   rw[← hV]
   generalize (AW x.name==HG x.kind&&(HG x.kind||x.name == { data:=#[] }))=a
   generalize (x.ends==0||JR x.kind&&x.ends==1)=b
   generalize (x.n==0||x.kind==27&&decide (x.n>0)&&decide (x.n≤1073741824))=c
   cases a <;> cases b <;> cases c <;> simp
  show WK _ _ _ (.seq _ (.seq _ (rt (rt (Tryd.f100.body.getD .skip))))) _ _
  cases d1:decide (x.ends<0) with
  | true=>
   have f0:(x.ends==0)=false:=by rw[beq_eq_false_iff_ne];simp only[decide_eq_true_eq] at d1;omega
   have f1:(x.ends==1)=false:=by rw[beq_eq_false_iff_ne];simp only[decide_eq_true_eq] at d1;omega
   rw[f0,f1] at hv
   simp only[eE,seval,↓eP,rP,SL,hone,HF,hS,d1]
   exact retF _ _ (by simp only[Tr.get_put,if_true]) (by rw[← hv];simp)
  | false=>
   cases d2:decide (x.ends>1) with
   | true=>
    have f0:(x.ends==0)=false:=by rw[beq_eq_false_iff_ne];simp only[decide_eq_true_eq] at d2;omega
    have f1:(x.ends==1)=false:=by rw[beq_eq_false_iff_ne];simp only[decide_eq_true_eq] at d2;omega
    rw[f0,f1] at hv
    simp only[eE,seval,↓eP,rP,SL,hone,HF,hS,d1,d2]
    exact retF _ _ (by simp only[Tr.get_put,if_true]) (by rw[← hv];simp)
   | false=>
    simp only[decide_eq_false_iff_not] at d1 d2
    have d1':decide (x.ends<0)=false:=decide_eq_false d1
    have d2':decide (x.ends>1)=false:=decide_eq_false d2
    cases d3:(x.ends==1) with
    | false=>
     have f0:(x.ends==0)=true:=by rw[beq_iff_eq];rw[beq_eq_false_iff_ne] at d3;omega
     rw[f0,Bool.true_or,Bool.true_and] at hv
     simp only[eE,seval,↓eP,rP,SL,hone,HF,hS,d1',d2',d3]
     exact WF _ (by simp only[Tr.get_put,Option.some.injEq,Nat.reduceEqDiff,if_false,if_true]) hv
    | true=>
     have f0:(x.ends==0)=false:=by rw[beq_eq_false_iff_ne];rw[beq_iff_eq] at d3;omega
     cases en:JR x.kind with
     | true=>
      rw[f0,d3,en] at hv
      rw[en] at hE'
      simp only[eE,seval,↓eP,rP,SL,hone,HF,hS,d1',d2',d3,hE']
      exact WF _ (by simp only[Tr.get_put,Option.some.injEq,Nat.reduceEqDiff,if_false,if_true]) (by rw[← hv];simp)
     | false=>
      rw[f0,en] at hv
      rw[en] at hE'
      simp only[eE,seval,↓eP,rP,SL,hone,HF,hS,d1',d2',d3,hE']
      exact retF _ _ (by simp only[Tr.get_put,if_true]) (by rw[← hv];simp)
end
theorem PN:BQ Tryd.prog 135=some 3:=by kernel_rfl
theorem Qs:FI Tryd.prog 135=some true:=by kernel_rfl
theorem rK:IE Tryd.prog 135=some 24:=by kernel_rfl
theorem UM:DV Tryd.prog 135=some (.agg #[iv 0,iv 0,iv 0]):=by kernel_rfl
theorem Og:G7 Tryd.prog (match Tryd.prog.underlying 135 with | some (.struct fs)=>fs.toList | _=>[])=some [(0,1),(1,1),(2,1)]:=by kernel_rfl
abbrev PV (a b c:Int):Value:=.agg #[iv a,iv b,iv c]
theorem iS {a b c:Int}:flat (PV a b c)=true:=rfl
theorem Ba {a b c:Int}:(PV a b c).cells=#[iv a,iv b,iv c]:=rfl
theorem Du {a b:Int}:DB Tryd.prog 135 [(0,iv a),(1,iv b)]=some (PV a b 0):=by
 have h:=Og
 rw[Tryd.underlying135] at h
 simp only at h
 simp only[DB,UM,iS,if_true,Tryd.underlying135,h]
 rfl
section
variable {id off:Nat} {h:AA}
theorem tO:BC Tryd.prog 135 (qP id off) 0=some (qP id off):=by simp[BC,Tryd.underlying135,CQ,CF]
theorem X9:BC Tryd.prog 135 (qP id off) 1=some (qP id (off+1)):=by simp[BC,Tryd.underlying135,CQ,CF]
theorem mQ:BC Tryd.prog 135 (qP id off) 2=some (qP id (off+2)):=by simp[BC,Tryd.underlying135,CQ,CF]
theorem Ft:EL Tryd.prog h 135 (qP id off)=CB 3 off (h.get id):=MV Qs PN
theorem gM {n c i:Nat} (hi:i<n):CU Tryd.prog 133 (qS id n c) (iv (i:Int))=some (.pointer (some ⟨id,i*3,none⟩)):=by
 simp only[CU,Tryd.underlying133,PN,CF]
 rw[if_pos (by omega)]
 simp
theorem R0 {a:Option Addr} {n c:Nat}:CC Tryd.prog h 133 (.slice a n c)=some (iv (n:Int)):=by simp[CC,Tryd.underlying133]
theorem Mz {a b c:Int}:FN Tryd.prog h 133 1 [(0,PV a b c)]=some (qS h.next 1 1,h.push (.row [iv a,iv b,iv c] 135 false false)):=by
 simp[FN,Tryd.underlying133,PN,UM,flat,B7,E9,I5,C0,Go.Sx.lay]
theorem Gk {n k:Nat} (hk:k≤n):GG Tryd.prog h 133 (qS id n AJ) none (some (iv (k:Int))) none=some (qS id k AJ):=by
 simp only[GG,Tryd.underlying133,PN,if_true,EW]
 rw[if_pos (by omega)]
 simp
theorem RA {cs:List Value} {x:Int} {ty:TypeId} {g:Bool} (hg:h.get id=.row cs ty g false) (hi:off<cs.length) (hf:h.floor≤id):BJ Tryd.prog h 3 (qP id off) (iv x)=some (h.put id (.row (cs.set off (iv x)) ty g false)):=by
 have hc:(iv x).cells=#[iv x]:=rfl
 have hsz:(some 1:Option Nat)=some (#[iv x]:Array Value).size:=rfl
 simp only[BJ,hc,CQ,G4,hg]
 rw[if_pos hsz,if_pos (by simp[one];omega),eA hi]
noncomputable def fS (h:AA) (id:Nat) (a b c:Int):BE→Option AA
 | .row [_,_,_] ty g false=>if h.floor≤id then some (h.put id (.row [iv a,iv b,iv c] ty g false)) else none
 | _=>BJ Tryd.prog h 135 (qP id 0) (PV a b c)
theorem Bv {a b c:Int}:BJ Tryd.prog h 135 (qP id 0) (PV a b c)=fS h id a b c (h.get id):=by
 unfold fS
 split
 ·rename_i x y z ty g hg
  split
  ·rename_i hf
   simp[BJ,PN,G4,hg,hf,Go.Sx.lay,Value.cells,one]
  ·rename_i hf
   simp[BJ,PN,G4,hg,hf,Value.cells,one]
 ·rfl
theorem zN {a b c:Int} {x y z:Value} {ty:TypeId} {g:Bool}:fS h id a b c (.row [x,y,z] ty g false)=if h.floor≤id then some (h.put id (.row [iv a,iv b,iv c] ty g false)) else none:=rfl
end
def HK (f:CW):List Value:=[iv f.kind,iv (f.left:Int),iv (f.next:Int)]
def E8:List CW→List Value
 | []=>[]
 | f :: s=>E8 s++HK f
theorem S0:∀ s,(E8 s).length=s.length*3
 | []=>rfl
 | f :: s=>by simp[E8,S0 s,HK];omega
theorem iN:∀ s,(E8 s).all one=true
 | []=>rfl
 | f :: s=>by rw[E8,List.all_append,iN s];rfl
def KQ (m:Nat) (h:AA) (v:Value) (s:List CW):Prop:=
 (s=[]∧v=Z0)∨∃ id ex,v=qS id s.length AJ∧h.get id=.row (E8 s++ex) 135 true false∧m≤id∧id<h.next
theorem KQ.len {m:Nat} {h h':AA} {v:Value} {s:List CW} (hs:KQ m h v s):CC Tryd.prog h' 133 v=some (iv (s.length:Int)):=by
 rcases hs with⟨rfl,rfl⟩ | ⟨id,ex,rfl,_⟩
 ·exact R0
 ·exact R0
theorem KQ.mono {m:Nat} {h h':AA} {v:Value} {s:List CW} (hs:KQ m h v s) (hn:h.next≤h'.next) (hg:∀ i,m≤i→i<h.next→h'.get i=h.get i):KQ m h' v s:=by
 rcases hs with h1 | ⟨id,ex,h1,h2,h3,h4⟩
 ·exact .inl h1
 ·exact .inr ⟨id,ex,h1,by rw[hg id h3 h4];exact h2,h3,by omega⟩
theorem KQ.top {m:Nat} {h:AA} {v:Value} {f:CW} {s:List CW} (hs:KQ m h v (f :: s)) :
  ∃ id ex,v=qS id (s.length+1) AJ∧h.get id=.row (E8 s++(HK f++ex)) 135 true false∧m≤id∧id<h.next:=by
 rcases hs with⟨h1,_⟩ | ⟨id,ex,h1,h2,h3,h4⟩
 ·cases h1
 ·exact⟨id,ex,h1,by rw[h2,E8,List.append_assoc],h3,h4⟩
theorem ZQ {s:List CW} {f:CW} {ex:List Value} {ty:TypeId} {g ro:Bool}:AS (s.length*3) (.row (E8 s++(HK f++ex)) ty g ro)=some (iv f.kind)∧AS (s.length*3+1) (.row (E8 s++(HK f++ex)) ty g ro)=some (iv (f.left:Int)) ∧
  AS (s.length*3+2) (.row (E8 s++(HK f++ex)) ty g ro)=some (iv (f.next:Int))∧CB 3 (s.length*3) (.row (E8 s++(HK f++ex)) ty g ro)=some (PV f.kind f.left f.next):=by
 have hl:=S0 s
 refine⟨?_,?_,?_,?_⟩
 ·simp only[AS]
  rw[List.getElem?_append_right (by omega),show s.length*3-(E8 s).length=0 by omega]
  rfl
 ·simp only[AS]
  rw[List.getElem?_append_right (by omega),show s.length*3+1-(E8 s).length=1 by omega]
  rfl
 ·simp only[AS]
  rw[List.getElem?_append_right (by omega),show s.length*3+2-(E8 s).length=2 by omega]
  rfl
 ·simp only[CB,F2]
  rw[List.drop_append_of_le_length (by omega),List.drop_of_length_le (by omega),List.nil_append]
  simp[HK]
theorem Ci {s:List CW} {f:CW} {ex:List Value} {x:Nat}:(E8 s++(HK f++ex)).set (s.length*3+2) (iv (x:Int))=E8 s++(HK ⟨f.kind,f.left,x⟩++ex):=by
 have hl:=S0 s
 rw[List.set_append_right _ _ (by omega),show s.length*3+2-(E8 s).length=2 by omega]
 rfl
theorem Ay {s:List CW} {f:CW} {ex:List Value} {x:Nat}:(E8 s++(HK f++ex)).set (s.length*3+1) (iv (x:Int))=E8 s++(HK ⟨f.kind,x,f.next⟩++ex):=by
 have hl:=S0 s
 rw[List.set_append_right _ _ (by omega),show s.length*3+1-(E8 s).length=1 by omega]
 rfl
theorem Aw {m:Nat} {h:AA} {v:Value} {s:List CW} {a b c:Int} {f:CW} (hf1:HK f=[iv a,iv b,iv c]) (hs:KQ m h v s) (hf:h.floor≤m) (hm:m≤h.next) (hl:s.length<2932031007403) :
  ∃ v' h',DF Tryd.prog (h.push (.row [iv a,iv b,iv c] 135 false false)) 133 v (qS h.next 1 1)=some (v',h')∧KQ m h' v' (f :: s)∧h'.floor=h.floor∧h.next≤h'.next∧∀ i,i<m→h'.get i=h.get i:=by
 have hnew:(h.push (.row [iv a,iv b,iv c] 135 false false)).get h.next=.row [iv a,iv b,iv c] 135 false false:=BP
 have hold:∀ i,i<h.next→(h.push (.row [iv a,iv b,iv c] 135 false false)).get i=h.get i:=fun i hi=>AT hi
 have hfl1:(h.push (.row [iv a,iv b,iv c] 135 false false)).floor=h.floor:=rfl
 have hnx1:(h.push (.row [iv a,iv b,iv c] 135 false false)).next=h.next+1:=rfl
 generalize h.push (.row [iv a,iv b,iv c] 135 false false)=h1 at *
 have hsrc:C_ h1 3 1 (qS h.next 1 1)=some [iv a,iv b,iv c]:=by simp[C_,hnew,F2]
 have hz:(Value.agg #[iv 0,iv 0,iv 0]).cells.size=3:=rfl
 have hone:([iv a,iv b,iv c]:List Value).all one=true:=rfl
 have hlen:=S0 s
 rcases hs with⟨rfl,rfl⟩ | ⟨id,ex,rfl,hg,hid,hidn⟩
 ·refine⟨qS h1.next 1 AJ,h1.push (.row [iv a,iv b,iv c] 135 true false),?_,.inr ⟨h1.next,[],rfl,?_,by omega,by show h1.next<h1.next+1;omega⟩,hfl1,by show h.next≤h1.next+1;omega,fun i hi=>by rw[AT (by omega),hold i (by omega)]⟩
  ·have hu:(0:Nat)≠AJ:=by unfold AJ;omega
   have h0:C_ h1 3 0 (Z0)=some []:=rfl
   simp only[DF,Tryd.underlying133,PN,rK,UM,hz,hsrc,hone,hu,h0,show (0<3)=True by simp,decide_true,beq_self_eq_true,Bool.and_self,if_true,if_false,Nat.le_refl,Nat.zero_add,Nat.zero_mul,show (1≤0)=False by simp,Nat.zero_le,List.nil_append,Nat.one_mul,show (24≤140737488355328)=True by simp,show (1≤140737488355328)=True by simp]
  ·rw[BP,List.append_nil,E8,hf1]
   rfl
 ·have e1:(s.length+1)*24≤140737488355328:=by omega
  have e2:s.length+1≤140737488355328:=by omega
  have e3:h1.floor≤id:=by omega
  have e4:s.length≤AJ:=by unfold AJ;omega
  have hg1:h1.get id=.row (E8 s++ex) 135 true false:=by rw[hold id hidn];exact hg
  have hcut:F2 (E8 s++ex) 0 (s.length*3)=some (E8 s):=by
   simp only[F2,List.drop_zero]
   rw[List.take_append_of_le_length (by omega),List.take_of_length_le (by omega),if_pos hlen]
  refine⟨qS h1.next (s.length+1) AJ,(h1.put id .dead).push (.row (E8 s++[iv a,iv b,iv c]) 135 true false),?_,.inr ⟨h1.next,[],rfl,?_,by omega,by show h1.next<h1.next+1;omega⟩,hfl1,by show h.next≤h1.next+1;omega,fun i hi=>?_⟩
  ·simp only[DF,Tryd.underlying133,PN,rK,UM,hz,hsrc,hone,e1,e2,e3,e4,hg1,hcut,iN,decide_true,Bool.and_self,beq_self_eq_true,show (0<3)=True by simp,if_true,Nat.one_ne_zero,if_false]
  ·rw[List.append_nil,E8,hf1]
   exact BP
  ·rw[AT (by show i<h1.next;omega),AM (by omega) (by omega),hold i (by omega)]
end Go.Proofs.YtipekdhneagdbaaDoor
