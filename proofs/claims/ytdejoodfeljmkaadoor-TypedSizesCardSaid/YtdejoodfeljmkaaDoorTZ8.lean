/- Part 8 of what the claim leans on: 23 texts laid one behind another. -/
import Derived.Test.YtdejoodfeljmkaaDoorTZ7
import Derived.Laws.Bits64b
import Derived.Lib.Mul64
import Derived.Test.YtdejoodfeljmkaaDoorProg
namespace Go.Sx
open Go
set_option linter.unusedSimpArgs false
set_option linter.unusedVariables false
set_option maxHeartbeats 64000000
inductive CG where
 | top (Q:D7→St→Prop)
 | seq (b:Code) (k:CG)
 | block (id:Nat) (k:CG)
 | inv (J:St→Prop) (k:CG)
def CG.ap (P:Program) (call:AM) (n:Nat):CG→D7→St→Prop
 | .top Q,e,s=>Q e s
 | .seq b k,.normal,s=>WS P call n b s (k.ap P call n)
 | .seq _ k,e,s=>k.ap P call n e s
 | .block id k,.exit i,s=>if i=id then k.ap P call n .normal s else k.ap P call n (.exit i) s
 | .block _ k,e,s=>k.ap P call n e s
 | .inv J _,.normal,s=>J s
 | .inv _ k,e,s=>k.ap P call n e s
def WK (P:Program) (call:AM) (n:Nat) (c:Code) (s:St) (k:CG):Prop:=WS P call n c s (k.ap P call n)
def LA (P:Program) (call:AM) (n:Nat) (ops:Array Oper) (l:List Oper) (s:St) (k:CG):Prop:=WL P call ops l s (k.ap P call n .normal)
def PH (P:Program) (call:AM) (n:Nat) (ops:Array Oper) (l:List Oper) (dst:Option Tmp) (T:Tr) (k:CG):Option (Value × AA)→Prop
 | some (v,h)=>LA P call n ops l ⟨T.put dst v,h⟩ k
 | none=>False
def V7 (P:Program) (call:AM) (n:Nat) (ops:Array Oper) (l:List Oper) (dst:Option Tmp) (T:Tr) (h:AA) (k:CG):Option Value→Prop
 | some v=>LA P call n ops l ⟨T.put dst v,h⟩ k
 | none=>False
def gJ (P:Program) (call:AM) (n:Nat) (a b:Code) (s:St) (k:CG):Value→Prop
 | .bool t=>(t=true→WK P call n a s k)∧(t=false→WK P call n b s k)
 | _=>False
section
variable {P:Program} {call:AM} {n:Nat} {s:St} {k:CG} {Q:D7→St→Prop}
theorem mB {e:D7}:(CG.top Q).ap P call n e s=Q e s:=rfl
theorem RA {b:Code}:(CG.seq b k).ap P call n .normal s=WK P call n b s k:=rfl
theorem iT {b:Code} {i:Nat}:(CG.seq b k).ap P call n (.exit i) s=k.ap P call n (.exit i) s:=rfl
theorem oL {b:Code}:(CG.seq b k).ap P call n .ret s=k.ap P call n .ret s:=rfl
theorem jG {id:Nat}:(CG.block id k).ap P call n .normal s=k.ap P call n .normal s:=rfl
theorem c_ {id i:Nat}:(CG.block id k).ap P call n (.exit i) s=if i=id then k.ap P call n .normal s else k.ap P call n (.exit i) s:=rfl
theorem gK {id:Nat}:(CG.block id k).ap P call n .ret s=k.ap P call n .ret s:=rfl
theorem oS {J:St→Prop}:(CG.inv J k).ap P call n .normal s=J s:=rfl
theorem mL {J:St→Prop} {i:Nat}:(CG.inv J k).ap P call n (.exit i) s=k.ap P call n (.exit i) s:=rfl
theorem j7 {J:St→Prop}:(CG.inv J k).ap P call n .ret s=k.ap P call n .ret s:=rfl
theorem fR:WK P call n .skip s k=k.ap P call n .normal s:=by
 apply propext;simp only[WK,WS,BW,Option.some.injEq,Prod.mk.injEq]
 exact⟨fun ⟨_,_,⟨rfl,rfl⟩,h⟩=>h,fun h=>⟨_,_,⟨rfl,rfl⟩,h⟩⟩
theorem pV {id:Nat}:WK P call n (.exit id) s k=k.ap P call n (.exit id) s:=by
 apply propext;simp only[WK,WS,BW,Option.some.injEq,Prod.mk.injEq]
 exact⟨fun ⟨_,_,⟨rfl,rfl⟩,h⟩=>h,fun h=>⟨_,_,⟨rfl,rfl⟩,h⟩⟩
theorem kD:WK P call n .ret s k=k.ap P call n .ret s:=by
 apply propext;simp only[WK,WS,BW,Option.some.injEq,Prod.mk.injEq]
 exact⟨fun ⟨_,_,⟨rfl,rfl⟩,h⟩=>h,fun h=>⟨_,_,⟨rfl,rfl⟩,h⟩⟩
theorem KX {a b:Code}:WK P call n (.seq a b) s k=WK P call n a s (.seq b k):=by
 apply propext
 constructor
 ·rintro ⟨e,s',h1,h2⟩
  simp only[BW] at h1
  split at h1
  ·rename_i s1 h3
   exact⟨_,_,h3,_,_,h1,h2⟩
  ·rename_i hne
   refine⟨_,_,h1,?_⟩
   cases e with
   | normal=>exact absurd h1 (hne _)
   | exit id=>exact h2
   | ret=>exact h2
 ·rintro ⟨e,s',h1,h2⟩
  cases e with
  | normal=>
   obtain⟨e2,s2,h3,h4⟩:=h2
   exact⟨e2,s2,by simp only[BW,h1,h3],h4⟩
  | exit id=>exact⟨_,_,by simp only[BW,h1],h2⟩
  | ret=>exact⟨_,_,by simp only[BW,h1],h2⟩
theorem SV {id:Nat} {c:Code}:WK P call n (.block id c) s k=WK P call n c s (.block id k):=by
 apply propext
 constructor
 ·rintro ⟨e,s',h1,h2⟩
  simp only[BW] at h1
  split at h1
  ·rename_i i s1 h3
   refine⟨_,_,h3,?_⟩
   unfold CG.ap
   split at h1 <;> (cases h1;simp_all)
  ·rename_i hne
   refine⟨_,_,h1,?_⟩
   cases e with
   | normal=>exact h2
   | exit id=>exact absurd h1 (hne _ _)
   | ret=>exact h2
 ·rintro ⟨e,s',h1,h2⟩
  cases e with
  | normal=>exact⟨_,_,by simp only[BW,h1],h2⟩
  | exit i=>
   by_cases hi:i=id
   ·subst hi
    exact⟨.normal,s',by simp only[BW,h1,if_true],by simpa [CG.ap] using h2⟩
   ·exact⟨.exit i,s',by simp only[BW,h1,hi,if_false],by simpa [CG.ap,hi] using h2⟩
  | ret=>exact⟨_,_,by simp only[BW,h1],h2⟩
theorem gR {c:Operand} {a b:Code}:WK P call n (.cond c a b) s k=gJ P call n a b s k (ev s.T c):=by
 apply propext
 constructor
 ·rintro ⟨e,s',h1,h2⟩
  simp only[BW] at h1
  split at h1
  ·rename_i he;rw[he];exact⟨fun _=>⟨_,_,h1,h2⟩,fun h=>(by cases h)⟩
  ·rename_i he;rw[he];exact⟨fun h=>(by cases h),fun _=>⟨_,_,h1,h2⟩⟩
  ·cases h1
 ·intro h
  cases he:ev s.T c with
  | bool t=>rw[he] at h;exact .cond he h.1 h.2
  | _=>rw[he] at h;exact h.elim
theorem nU {a b:Code} {t:Bool}:gJ P call n a b s k (.bool t)=((t=true→WK P call n a s k)∧(t=false→WK P call n b s k)):=rfl
theorem n9 {id:Nat} {ops:Array Oper}:WK P call n (.region id ops false) s k=LA P call n ops ops.toList s k:=by
 apply propext
 refine⟨fun ⟨e,s',h1,h2⟩=>?_,.region⟩
 simp only[BW,Bool.false_eq_true,if_false] at h1
 cases hs:JB P call ops ops.toList s with
 | none=>rw[hs] at h1;cases h1
 | some s1=>rw[hs] at h1;cases h1;exact⟨_,hs,h2⟩
theorem jW {ops:Array Oper}:LA P call n ops [] s k=k.ap P call n .normal s:=by
 simp[LA,WL,JB]
theorem eW {ops:Array Oper} {o:Oper} {l:List Oper}:LA P call n ops (o :: l) s k=if DC ops s.T o then PH P call n ops l o.dst s.T k (AL P call s.T s.h o.op) else LA P call n ops l ⟨s.T.put o.dst undef,s.h⟩ k:=by
 apply propext
 constructor
 ·rintro ⟨s',h1,h2⟩
  simp only[JB,E5] at h1
  by_cases hw:DC ops s.T o=true
  ·rw[if_pos hw] at h1 ⊢
   cases hs:AL P call s.T s.h o.op with
   | none=>rw[hs] at h1;cases h1
   | some r=>
    obtain⟨v,h'⟩:=r
    rw[hs] at h1
    exact⟨s',h1,h2⟩
  ·rw[if_neg hw] at h1 ⊢
   exact⟨s',h1,h2⟩
 ·intro h
  by_cases hw:DC ops s.T o=true
  ·rw[if_pos hw] at h
   cases hs:AL P call s.T s.h o.op with
   | none=>rw[hs] at h;exact h.elim
   | some r=>
    obtain⟨v,h'⟩:=r
    rw[hs] at h
    exact .step hw hs h
  ·rw[if_neg hw] at h
   exact .pass (by simpa using hw) h
section
variable {ops:Array Oper} {l:List Oper} {dst:Option Tmp} {T:Tr} {h:AA} {v:Value}
theorem jS:PH P call n ops l dst T k (some (v,h))=LA P call n ops l ⟨T.put dst v,h⟩ k:=rfl
theorem e_ {r:Option Value}:PH P call n ops l dst T k (r.map (·,h))=V7 P call n ops l dst T h k r:=by cases r <;> rfl
theorem fN:V7 P call n ops l dst T h k (some v)=LA P call n ops l ⟨T.put dst v,h⟩ k:=rfl
theorem PH.of {r:Option (Value × AA)} {h':AA} (hr:r=some (v,h')) (hk:LA P call n ops l ⟨T.put dst v,h'⟩ k):PH P call n ops l dst T k r:=by rw[hr];exact hk
theorem V7.of {r:Option Value} (hr:r=some v) (hk:LA P call n ops l ⟨T.put dst v,h⟩ k):V7 P call n ops l dst T h k r:=by rw[hr];exact hk
end
theorem WK.loop {c:Code} (I:Nat→St→Prop) (N:Nat) (hN:N<n) (h0:I 0 s)
  (hr:∀ i s,i≤N→I i s→WK P call n c s (.inv (fun s'=>i<N∧I (i+1) s') k)):WK P call n (.loop c) s k:=
 WS.loop I N hN h0 fun i s hi hI=>(hr i s hi hI).mono fun e s' he=>by cases e <;> exact he
theorem V5 (t:Nat):Tr.leaf.get t=undef:=rfl
theorem TY {ops:Array Oper} {T:Tr} {o:Oper} (h:o.guard=none):DC ops T o=true:=by simp[DC,h]
theorem V9 {T:Tr} {t:Nat}:ev T (.tmp t)=T.get t:=rfl
theorem UM {T:Tr} {v:Value}:ev T (.const v)=v:=rfl
theorem wQ {T:Tr} {g:Nat}:ev T (.global g)=.pointer (some ⟨g,0,none⟩):=rfl
theorem T_ {T:Tr} {f:Nat}:ev T (.func f)=.func (.func f) #[] #[]:=rfl
end
theorem max2 {k:IntKind} {x y:Int}:R9 [.int k x,.int k y]=some (.int k (if y>x then y else x)):=rfl
theorem min2 {k:IntKind} {x y:Int}:SR [.int k x,.int k y]=some (.int k (if y<x then y else x)):=rfl
def N7:Value→Bool→Bool
 | .bool b,w=>b==w
 | _,_=>false
noncomputable def ZT:Option Tmp→Tr→Bool→Bool
 | some d,T,w=>N7 (T.get d) w
 | none,_,_=>false
theorem VW {ops:Array Oper} {T:Tr} {dst:Option Tmp} {op:Op} {type:TypeId} {pos:String} {after:Array Edge} {j:Nat} {w:Bool}:DC ops T ⟨dst,op,type,pos,after,some (j,w)⟩=ZT ((ops[j]?).bind (·.dst)) T w:=by
 simp only[DC]
 cases (ops[j]?).bind (·.dst) with
 | none=>rfl
 | some d=>simp only[ZT];cases T.get d <;> rfl
theorem WM {d:Tmp} {T:Tr} {w:Bool}:ZT (some d) T w=N7 (T.get d) w:=rfl
theorem jT {w:Bool}:N7 undef w=false:=by cases w <;> rfl
theorem TW {b:Bool}:N7 (.bool b) true=b:=by simp[N7]
theorem XC {b:Bool}:N7 (.bool b) false = !b:=by simp[N7]
theorem DA {P:Program} {call:AM} {n:Nat} {f:FuncId} {args:List Value} {h h':AA} {fn:Func} {c:Code} {V:Value} (hf:P.funcs[f]?=some fn) (hb:fn.body=some c) (hl:args.length≤fn.ntmps)
  (hw:WK P call n c ⟨HX 0 args .leaf,h⟩ (.top fun e s=>(e=.normal∨e=.ret)∧∃ vs,FH P s fn.results.toList=some vs∧HV vs=V∧s.h=h')):A8 P call n f args h=some (V,h'):=by
 obtain⟨v,h1,h2,rfl,rfl⟩:=bX (R:=fun u h''=>u=V∧h''=h') hf hb hl hw
 exact h2
theorem EL {P:Program} {call:AM} {n:Nat} {f:FuncId} {args:List Value} {h:AA} {fn:Func} {c:Code} {V:Value} {R:AA→Prop} (hf:P.funcs[f]?=some fn) (hb:fn.body=some c) (hl:args.length≤fn.ntmps)
  (hw:WK P call n c ⟨HX 0 args .leaf,h⟩ (.top fun e s=>(e=.normal∨e=.ret)∧∃ vs,FH P s fn.results.toList=some vs∧HV vs=V∧R s.h)):∃ h',A8 P call n f args h=some (V,h')∧R h':=by
 obtain⟨v,h1,h2,rfl,h3⟩:=bX (R:=fun u h''=>u=V∧R h'') hf hb hl hw
 exact⟨h1,h2,h3⟩
def fP (P:Program) (ops:Array Oper):Bool:=(List.range ops.size).all fun k=>match ops[k]? with
 | none=>true
 | some o=>match AC o.op with
  | .read _=>!LZ ops k
  | .act=>!ME ops k
  | .store=>(JT ops k).isEmpty
  | .new=>true
  | .pure=>match o.op with
   | .call c=>(match c.argTypes.toList with | [t]=>(match P.underlying t with | some (.map _ _)=>false | some (.array _ _)=>false | _=>true) | _=>true)
   | _=>true
theorem zZ {P:Program} {call:AM} {ops:Array Oper} (hq:fP P ops=true) {start i:Nat} {o:Oper} (ho:ops[i]?=some o) {s s':St} (h:E5 P call ops o s=some s'):NK P call ops start i o s=some s':=by
 have hlt:i<ops.size:=(Array.getElem?_eq_some_iff.1 ho).1
 have hk:=List.all_eq_true.1 hq i (List.mem_range.2 hlt)
 simp only[ho] at hk
 unfold NK
 by_cases hw:DC ops s.T o=true
 ·rw [if_pos hw]
  cases hc:AC o.op with
  | read a=>
   rw[hc] at hk
   simp only[Bool.not_eq_true'] at hk
   simp[hk,h]
  | act=>
   rw[hc] at hk
   simp only[Bool.not_eq_true'] at hk
   simp[hk,h]
  | new=>exact h
  | store=>
   rw[hc] at hk
   simp only[List.isEmpty_iff] at hk
   simp only[hk,List.all_nil,if_true]
   split
   ·exact h
   ·exact h
   ·exact h
   ·rename_i h1 h1' h2
    cases hop:o.op with
    | store t a x=>exact absurd hop (h1 t a x)
    | mapUpdate t a k x=>exact absurd hop (h2 t a k x)
    | insert t a k x=>exact absurd hop (h1' t a k x)
    | call c=>
     rw[hop] at hc
     simp only[AC] at hc
     split at hc <;> cases hc
    | _=>rw[hop] at hc;simp[AC] at hc
  | pure=>
   rw[hc] at hk
   simp only at hk ⊢
   cases hop:o.op with
   | call c=>
    simp only[hop] at hk ⊢
    split
    ·rename_i r hargs
     exfalso
     obtain⟨v,h',hs,_⟩:=NA hw h
     rw[hop] at hs hc
     simp only[AC] at hc
     simp only[AL,N3,HE,hargs] at hs
     split at hs
     ·split at hs
      ·rename_i t x h1 h2
       cases h2
       simp only[h1] at hk
       simp only[CX] at hs
       split at hk
       ·cases hk
       ·cases hk
       ·rename_i hne1 hne2
        cases hu:P.underlying t with
        | none=>simp[hu] at hs
        | some d=>cases d <;> (first | (simp[hu] at hs;done) | (exact hne1 _ _ hu) | (exact hne2 _ _ hu))
      ·cases hs
     all_goals first | (simp[R9,SR] at hs;done) | (simp_all;done)
    ·exact h
   | _=>exact h
 ·rw[if_neg hw]
  unfold E5 at h
  rw[if_neg hw] at h
  exact h
theorem WK.quiet {P:Program} {call:AM} {n id:Nat} {ops:Array Oper} {s:St} {k:CG} (hq:fP P ops=true) (h:LA P call n ops ops.toList s k):WK P call n (.region id ops true) s k:=by
 obtain⟨s',h1,h2⟩:=h
 have key:∀ (l:List Oper) (i:Nat) (s:St),(∀ k,l[k]?=ops[i+k]?)→JB P call ops l s=some s'→∀ start,JU P call ops start i l s=some s':=by
  intro l
  induction l with
  | nil=>intro i s _ h start;exact h
  | cons o l ih=>
   intro i s hl h start
   simp only[JB] at h
   split at h
   ·rename_i s1 h3
    have ho:ops[i]?=some o:=by simpa using (hl 0).symm
    simp only[JU,zZ hq ho h3]
    exact ih (i+1) s1 (fun k=>by have:=hl (k+1);simpa [Nat.add_assoc,Nat.add_comm 1 k] using this) h start
   ·cases h
 exact .draw ⟨s',key _ 0 s (by simp) h1 _,h2⟩
theorem C9 {x:Int} (h1:-9223372036854775808≤x) (h2:x<9223372036854775808):IntKind.i64.wrap x=x:=by
 simp[IntKind.wrap,IntKind.bits,IntKind.signed]
 omega
theorem fI {p q:Prop}:((true=true→p)∧(true=false→q))=p:=by
 apply propext;exact⟨fun h=>h.1 rfl,fun h=>⟨fun _=>h,fun h=>(by cases h)⟩⟩
theorem lR {p q:Prop}:((false=true→p)∧(false=false→q))=q:=by
 apply propext;exact⟨fun h=>h.2 rfl,fun h=>⟨fun h=>(by cases h),fun _=>h⟩⟩
theorem JZ {b:Bool}:flat (.bool b)=true:=rfl
theorem WI {k:IntKind} {x:Int}:flat (.int k x)=true:=rfl
theorem oI {P:Program} {b:Bool}:AZ P (Op.unary .not (.bool b))=some (.bool !b):=rfl
theorem iY {P:Program} {k:IntKind} {x:Int}:AZ P (Op.unary .neg (.int k x))=some (.int k (k.wrap (0-x))):=rfl
theorem B9 {P:Program} {α β:Type} (m:Sem α) (f:α→Sem β):AZ P (m >>= f)=(AZ P m).bind fun a=>AZ P (f a):=by
 induction m with
 | pure a=>rfl
 | program k ih=>exact ih P
 | mark x k ih=>exact ih
 | _=>rfl
theorem M2 {P:Program} {t:TypeId} {d:TypeDesc} (h:P.underlying t=some d):AZ P (underlying t)=some d:=by
 show AZ P (Sem.bind program _)=_
 simp[program,Sem.bind,AZ,h,Pure.pure]
theorem kV {P:Program} {t:TypeId} {a b:Bool} (h:P.underlying t=some .bool):AZ P (Op.equal t (.bool a) (.bool b))=some (a==b):=by
 have key:∀ d,AZ P (Op.equalIn (d+1) t (.bool a) (.bool b))=some (a==b):=by
  intro d
  rw[Op.equalIn,B9,M2 h]
  rfl
 exact key 9999
theorem r9 {P:Program} {t:TypeId} {x y:Operand} {a b:Bool} (h:P.underlying t=some .bool):BR P .eql t x y (.bool a) (.bool b)=some (.bool (a==b)):=by
 have e:AZ P (do eqGuard .eql t x y (.bool a) (.bool b);binOp .eql t (.bool a) (.bool b))=some (.bool (a==b)):=by
  show AZ P ((do pure (.bool (← Op.equal t (.bool a) (.bool b)))):Sem Value)=_
  rw[B9,kV h]
  rfl
 simp only[BR,JZ,Bool.and_self,if_true,e]
theorem TJ {P:Program} {t:TypeId} {x y:Operand} {a b:Bool} (h:P.underlying t=some .bool):BR P .neq t x y (.bool a) (.bool b)=some (.bool (a != b)):=by
 have e:AZ P (do eqGuard .neq t x y (.bool a) (.bool b);binOp .neq t (.bool a) (.bool b))=some (.bool (a != b)):=by
  show AZ P ((do pure (.bool (!(← Op.equal t (.bool a) (.bool b))))):Sem Value)=_
  rw[B9,kV h]
  rfl
 simp only[BR,JZ,Bool.and_self,if_true,e]
def UC (h:AA) (v:Value) (l:List Int):Prop:=∃ a c,v=.slice a l.length c∧(∀ b,a=some b→b.spot=none)∧∀ k x,l[k]?=some x→∃ id off cs ty g ro,a=some ⟨id,off,none⟩∧h.get id=.row cs ty g ro∧cs[off+k]?=some (.int .i64 x)
section
variable {P:Program} {h:AA} {v:Value} {l:List Int} {t e:TypeId}
theorem UC.len (hv:UC h v l) (ht:P.underlying t=some (.slice e)):CX P h t v=some (.int .i64 l.length):=by
 obtain⟨a,c,rfl,_,_⟩:=hv
 simp[CX,ht]
theorem UC.idx (hv:UC h v l) (ht:P.underlying t=some (.slice e)) (he:BG P e=some 1) (ha:E1 P e=some false) {k:Nat} {x:Int} (hk:l[k]?=some x) {kd:IntKind} :
  ∃ p,CL P t v (.int kd k)=some p∧DY P h e p=some (.int .i64 x):=by
 obtain⟨a,c,rfl,_,hall⟩:=hv
 obtain⟨id,off,cs,ty,g,ro,rfl,hg,hc⟩:=hall k x hk
 have hlt:k<l.length:=(List.getElem?_eq_some_iff.1 hk).1
 refine⟨.pointer (some ⟨id,off+k,none⟩),?_,?_⟩
 ·simp[CL,ht,he,hlt,Addr.add]
 ·simp[DY,hg,ha,hc]
end
def DP (ops:Array Oper):List (Bool × Bool × List Operand):=(List.range ops.size).map fun k=>(LZ ops k,ME ops k,JT ops k)
noncomputable def AF (op:Op) (T:Tr):Bool:=match op with
 | .call c=>(match c.args.toList.map (ev T) with | [.map _]=>false | _=>true)
 | _=>true
def CK:Op→Operand
 | .store _ a _=>a
 | .mapUpdate _ m _ _=>m
 | .insert _ m _ _=>m
 | _=>.const undef
section
variable (P:Program) (call:AM) (n:Nat) (ops:Array Oper) (start:Nat)
noncomputable def LT (f:Bool × Bool × List Operand) (o:Oper) (s:St):Option St:=
 if DC ops s.T o then match AC o.op with
  | .read a=>if f.1 && !ahead start (CH (ev s.T a)) then none else E5 P call ops o s
  | .act=>if f.2.1 then match E5 P call ops o ⟨s.T,s.h.fl (max s.h.floor start)⟩ with
    | some s'=>some ⟨s'.T,s'.h.fl s.h.floor⟩
    | none=>none
   else E5 P call ops o s
  | .store=>if f.2.2.all (fun x=>CH (ev s.T x) != CH (ev s.T (CK o.op))) then E5 P call ops o s else none
  | .pure=>if AF o.op s.T then E5 P call ops o s else none
  | .new=>E5 P call ops o s
 else some ⟨s.T.put o.dst undef,s.h⟩
theorem Eb {i:Nat} {o:Oper} {s s':St} (h:LT P call ops start (LZ ops i,ME ops i,JT ops i) o s=some s'):NK P call ops start i o s=some s':=by
 unfold LT at h
 unfold NK
 by_cases hw:DC ops s.T o=true
 ·rw [if_pos hw] at h ⊢
  cases hc:AC o.op with
  | read a=>rw[hc] at h;exact h
  | act=>rw[hc] at h;exact h
  | new=>rw[hc] at h;exact h
  | store=>
   rw[hc] at h
   cases hop:o.op with
   | store t a x=>rw[hop] at h;exact h
   | mapUpdate t a k x=>rw[hop] at h;exact h
   | insert t a k x=>rw[hop] at h;exact h
   | call c=>
    rw[hop] at hc
    simp only[AC] at hc
    split at hc <;> cases hc
   | _=>rw[hop] at hc;simp[AC] at hc
  | pure=>
   rw[hc] at h
   simp only at h ⊢
   cases hop:o.op with
   | call c=>
    simp only[hop,AF] at h ⊢
    split
    ·rename_i r hr
     rw[hr] at h
     simp at h
    ·rename_i hne
     split at h
     ·rename_i r hr;exact absurd hr (hne r)
     ·exact h
   | _=>simp only[hop,AF,if_true] at h ⊢;exact h
 ·rw[if_neg hw] at h ⊢
  exact h
noncomputable def QA:List (Bool × Bool × List Operand)→List Oper→St→Option St
 | _,[],s=>some s
 | f :: fs,o :: l,s=>match LT P call ops start f o s with
  | some s'=>QA fs l s'
  | none=>none
 | [],_ :: _,_=>none
def CF (fs:List (Bool × Bool × List Operand)) (l:List Oper) (s:St) (k:CG):Prop:=∃ s',QA P call ops start fs l s=some s'∧k.ap P call n .normal s'
def OP (fs:List (Bool × Bool × List Operand)) (l:List Oper) (dst:Option Tmp) (T:Tr) (fl:Nat) (k:CG):Option (Value × AA)→Prop
 | some (v,h)=>CF P call n ops start fs l ⟨T.put dst v,h.fl fl⟩ k
 | none=>False
def AE (lr la:Bool) (ls:List Operand) (fs:List (Bool × Bool × List Operand)) (o:Oper) (l:List Oper) (s:St) (k:CG):OX→Prop
 | .read a=>(lr=true→ahead start (CH (ev s.T a))=true)∧OP P call n ops start fs l o.dst s.T s.h.floor k (AL P call s.T s.h o.op)
 | .act=>OP P call n ops start fs l o.dst s.T s.h.floor k (AL P call s.T (if la then s.h.fl (max s.h.floor start) else s.h) o.op)
 | .store=>(ls.all (fun x=>CH (ev s.T x) != CH (ev s.T (CK o.op)))=true)∧OP P call n ops start fs l o.dst s.T s.h.floor k (AL P call s.T s.h o.op)
 | .pure=>AF o.op s.T=true∧OP P call n ops start fs l o.dst s.T s.h.floor k (AL P call s.T s.h o.op)
 | .new=>OP P call n ops start fs l o.dst s.T s.h.floor k (AL P call s.T s.h o.op)
end
section
variable {P:Program} {call:AM} {n:Nat} {ops:Array Oper} {start:Nat} {fs:List (Bool × Bool × List Operand)} {l:List Oper} {s:St} {k:CG}
theorem HY (h:AA):h.fl h.floor=h:=rfl
theorem CF.cons {lr la:Bool} {ls:List Operand} {o:Oper} (hsn:∀ v h',∀ h:AA,AL P call s.T h o.op=some (v,h')→h'.floor=h.floor)
  (h:if DC ops s.T o then AE P call n ops start lr la ls fs o l s k (AC o.op) else CF P call n ops start fs l ⟨s.T.put o.dst undef,s.h⟩ k):CF P call n ops start ((lr,la,ls) :: fs) (o :: l) s k:=by
 by_cases hw:DC ops s.T o=true
 ·rw [if_pos hw] at h
  have plain:OP P call n ops start fs l o.dst s.T s.h.floor k (AL P call s.T s.h o.op)→∃ s',E5 P call ops o s=some s'∧CF P call n ops start fs l s' k:=by
   intro h
   cases hs:AL P call s.T s.h o.op with
   | none=>rw[hs] at h;exact h.elim
   | some r=>
    obtain⟨v,h'⟩:=r
    rw[hs] at h
    have hf:=hsn v h' s.h hs
    refine⟨⟨s.T.put o.dst v,h'⟩,by simp only[E5,hw,if_true,hs],?_⟩
    have e:h'.fl s.h.floor=h':=by rw[← hf];rfl
    have h2:CF P call n ops start fs l ⟨s.T.put o.dst v,h'.fl s.h.floor⟩ k:=h
    rw[e] at h2
    exact h2
  have fin:∀ s',LT P call ops start (lr,la,ls) o s=some s'→CF P call n ops start fs l s' k→CF P call n ops start ((lr,la,ls) :: fs) (o :: l) s k:=by
   rintro s' h1 ⟨s2,h2,h3⟩
   exact⟨s2,by simp only[QA,h1,h2],h3⟩
  cases hc:AC o.op with
  | read a=>
   rw[hc] at h
   obtain⟨h0,h1⟩:=h
   obtain⟨s',h2,h3⟩:=plain h1
   refine fin s' ?_ h3
   unfold LT
   rw[if_pos hw,hc]
   simp only
   cases lr with
   | false=>simpa using h2
   | true=>rw[h0 rfl];simpa using h2
  | new=>
   rw[hc] at h
   obtain⟨s',h2,h3⟩:=plain h
   refine fin s' ?_ h3
   unfold LT
   rw[if_pos hw,hc]
   exact h2
  | pure=>
   rw[hc] at h
   obtain⟨h0,h1⟩:=h
   obtain⟨s',h2,h3⟩:=plain h1
   refine fin s' ?_ h3
   unfold LT
   rw[if_pos hw,hc]
   simp only[h0,if_true]
   exact h2
  | store=>
   rw[hc] at h
   obtain⟨h0,h1⟩:=h
   obtain⟨s',h2,h3⟩:=plain h1
   refine fin s' ?_ h3
   unfold LT
   rw[if_pos hw,hc]
   simp only[h0,if_true]
   exact h2
  | act=>
   rw[hc] at h
   cases la with
   | false=>
    obtain⟨s',h2,h3⟩:=plain h
    refine fin s' ?_ h3
    unfold LT
    rw[if_pos hw,hc]
    simpa using h2
   | true=>
    have h:OP P call n ops start fs l o.dst s.T s.h.floor k (AL P call s.T (s.h.fl (max s.h.floor start)) o.op):=h
    cases hs:AL P call s.T (s.h.fl (max s.h.floor start)) o.op with
    | none=>rw[hs] at h;exact h.elim
    | some r=>
     obtain⟨v,h'⟩:=r
     rw[hs] at h
     refine fin ⟨s.T.put o.dst v,h'.fl s.h.floor⟩ ?_ h
     unfold LT
     rw[if_pos hw,hc]
     simp only[E5,hw,if_true,hs]
 ·rw[if_neg hw] at h
  obtain⟨s2,h2,h3⟩:=h
  refine⟨s2,?_,h3⟩
  simp only[QA,LT]
  rw[if_neg hw]
  exact h2
theorem VX {dst:Option Tmp} {T:Tr} {fl:Nat} {v:Value} {h:AA}:OP P call n ops start fs l dst T fl k (some (v,h))=CF P call n ops start fs l ⟨T.put dst v,h.fl fl⟩ k:=rfl
theorem VU:CF P call n ops start fs [] s k=k.ap P call n .normal s:=by
 apply propext
 refine⟨fun ⟨s',h1,h2⟩=>?_,fun h=>⟨s,by cases fs <;> rfl,h⟩⟩
 cases fs <;> (cases h1;exact h2)
theorem KS {h:AA} {a b:Nat}:(h.fl a).fl b=h.fl b:=rfl
theorem UB {h:AA}:h.fl h.floor=h:=rfl
theorem KA {h:AA} {a:Nat}:(h.fl a).floor=a:=rfl
theorem WK.flags {id:Nat} {fs:List (Bool × Bool × List Operand)} (hf:DP ops=fs) (h:CF P call n ops s.h.next fs ops.toList s k):WK P call n (.region id ops true) s k:=by
 obtain⟨s',h1,h2⟩:=h
 refine WS.draw ⟨s',?_,h2⟩
 have key:∀ (l:List Oper) (i:Nat) (s:St) (start:Nat),(∀ k,l[k]?=ops[i+k]?)→i+l.length=ops.size→QA P call ops start (fs.drop i) l s=some s'→JU P call ops start i l s=some s':=by
  intro l
  induction l with
  | nil=>intro i s start _ _ h;cases hd:fs.drop i <;> (rw[hd] at h;exact h)
  | cons o l ih=>
   intro i s start hl hlen h
   have hi:i<ops.size:=by simp at hlen;omega
   have hfi:fs[i]?=some (LZ ops i,ME ops i,JT ops i):=by
    rw[← hf]
    unfold DP
    rw[List.getElem?_map,List.getElem?_range hi]
    rfl
   have hlt:i<fs.length:=(List.getElem?_eq_some_iff.1 hfi).1
   rw[List.drop_eq_getElem_cons hlt] at h
   have he:fs[i]=(LZ ops i,ME ops i,JT ops i):=by
    rw[List.getElem?_eq_getElem hlt] at hfi
    exact Option.some.inj hfi
   rw[he] at h
   simp only[QA] at h
   split at h
   ·rename_i s1 h3
    simp only[JU,Eb P call ops start h3]
    exact ih (i+1) s1 start (fun k=>by have:=hl (k+1);simpa [Nat.add_assoc,Nat.add_comm 1 k] using this) (by simp at hlen;omega) h
   ·cases h
 exact key _ 0 s _ (by simp) (by simp) (by simpa using h1)
end
def O0 (r:Nat):Code→Option (Array Oper)
 | .region i ops _=>if i=r then some ops else none
 | .seq a b=>match O0 r a with
  | some o=>some o
  | none=>O0 r b
 | .cond _ a b=>match O0 r a with
  | some o=>some o
  | none=>O0 r b
 | .block _ c=>O0 r c
 | .loop c=>O0 r c
 | _=>none
def DT (fn:Func) (r:Nat):Array Oper:=match fn.body with
 | some c=>(O0 r c).getD #[]
 | none=>#[]
def seen (o:Oper):Option Tmp × Op × Option (Nat × Bool):=(o.dst,o.op,o.guard)
section
variable {P:Program} {call:AM} {n:Nat} {ops:Array Oper} {start:Nat} {F:List (Bool × Bool × List Operand)} {s:St} {k:CG}
theorem uI {T:Tr} {o o':Oper} (h:seen o=seen o'):DC ops T o=DC ops T o':=by
 simp only[seen,Prod.mk.injEq] at h
 unfold DC
 rw[h.2.2]
theorem x8 {lr la:Bool} {ls:List Operand} {fs:List (Bool × Bool × List Operand)} {o o':Oper} {l:List Oper} {c:OX} (h:seen o=seen o') :
  AE P call n ops start lr la ls fs o l s k c=AE P call n ops start lr la ls fs o' l s k c:=by
 simp only[seen,Prod.mk.injEq] at h
 cases c <;> simp only[AE,h.1,h.2.1]
theorem CF.begin (h:CF P call n ops start (F.drop 0) (ops.toList.drop 0) s k):CF P call n ops start F ops.toList s k:=h
theorem CF.at (i:Nat) (dst:Option Tmp) (op:Op) (g:Option (Nat × Bool)) {lr la:Bool} {ls:List Operand} (hi:(ops[i]?).map seen=some (dst,op,g)) (hf:F[i]?=some (lr,la,ls))
  (hsn:∀ v h',∀ h:AA,AL P call s.T h op=some (v,h')→h'.floor=h.floor)
  (h : if DC ops s.T ⟨dst, op, 0, "", #[], g⟩ then AE P call n ops start lr la ls (F.drop (i + 1)) ⟨dst, op, 0, "", #[], g⟩ (ops.toList.drop (i + 1)) s k (AC op)
   else CF P call n ops start (F.drop (i+1)) (ops.toList.drop (i+1)) ⟨s.T.put dst undef,s.h⟩ k):CF P call n ops start (F.drop i) (ops.toList.drop i) s k:=by
 cases ho:ops[i]? with
 | none=>rw[ho] at hi;cases hi
 | some o=>
  rw[ho] at hi
  have hs : seen o = seen ⟨dst, op, 0, "", #[], g⟩ := by simpa [seen] using hi
  have hop:o.op=op:=congrArg (·.2.1) hs
  have hdst:o.dst=dst:=congrArg (·.1) hs
  have e1:F.drop i=(lr,la,ls) :: F.drop (i+1):=by
   obtain⟨hl,he⟩:=List.getElem?_eq_some_iff.1 hf
   rw[List.drop_eq_getElem_cons hl,he]
  have ho':ops.toList[i]?=some o:=by simpa using ho
  have e2:ops.toList.drop i=o :: ops.toList.drop (i+1):=by
   obtain⟨hl,he⟩:=List.getElem?_eq_some_iff.1 ho'
   rw[List.drop_eq_getElem_cons hl,he]
  rw[e1,e2]
  refine CF.cons (by rw[hop];exact hsn) ?_
  rw[uI hs,x8 hs,hop,hdst]
  exact h
theorem CF.done {i:Nat} (hl:ops.toList.drop i=[]) (h:k.ap P call n .normal s):CF P call n ops start (F.drop i) (ops.toList.drop i) s k:=by
 rw[hl,VU]
 exact h
end
end Go.Sx
namespace Go.Proofs.YtdejoodfeljmkaaDoor
open Go Go.Sx
set_option maxRecDepth 100000
set_option linter.unusedSimpArgs false
set_option linter.unusedVariables false
set_option maxHeartbeats 64000000
theorem MI {cs:Array Value}:(Value.agg cs).cells=cs:=rfl
theorem KH {k:IntKind} {x:Int}:one (.int k x)=true:=rfl
theorem QB {x:ByteArray}:one (.string x)=true:=rfl
theorem nY {x:Bool}:one (.bool x)=true:=rfl
theorem CY {h:AA} {o:A9}:(h.push o).next=h.next+1:=rfl
theorem IC {h:AA} {o:A9}:(h.push o).floor=h.floor:=rfl
theorem IS {h:AA} {o:A9} {i:Nat}:(h.put i o).next=h.next:=rfl
theorem LM {h:AA} {o:A9} {i:Nat}:(h.put i o).floor=h.floor:=rfl
theorem l9 {m f:Nat}:(ED m f).next=m:=rfl
theorem pY {m f:Nat}:(ED m f).floor=f:=rfl
theorem Q4 {h:AA} {o:A9} {i:Nat}:(h.push o).get i=if i=h.next then o else h.get i:=by
 split
 ·rename_i e;subst e;exact BM
 ·rename_i e;exact NC e
theorem RW {h:AA} {o:A9} {i j:Nat}:(h.put i o).get j=if j=i then (if i<h.next then o else .dead) else h.get j:=by
 by_cases hi:i<h.next
 ·split
  ·rename_i e;subst e;exact B0 rfl hi
  ·rename_i e;exact AV hi (Ne.symm e)
 ·split
  ·rename_i e;subst e;exact IT (by show h.next≤j;omega)
  ·rename_i e
   by_cases hj:j<h.next
   ·unfold AA.get AA.put
    simp only[hj,if_true]
    rw[DO.get_set,if_neg e]
   ·rw[IT (by show h.next≤j;omega),IT (by omega)]
theorem NP {h:AA} {o:A9} {f:Nat}:(h.push o).fl f=(h.fl f).push o:=rfl
theorem OO {h:AA} {o:A9} {i f:Nat}:(h.put i o).fl f=(h.fl f).put i o:=rfl
theorem m7 {m f f':Nat}:(ED m f').fl f=ED m f:=rfl
theorem HQ {h:AA} {f:Nat}:(h.fl f).next=h.next:=rfl
theorem LY {h:AA} {f i:Nat}:(h.fl f).get i=h.get i:=rfl
theorem JA {m id off:Nat}:Sx.ahead m (CH (.pointer (some ⟨id,off,none⟩)))=decide (id<m):=rfl
theorem CJ {id off n:Nat}:(⟨id,off,none⟩:Addr).add n=⟨id,off+n,none⟩:=by
 unfold Addr.add
 split
 ·rename_i e;subst e;rfl
 ·rfl
def AJ (off:Nat):A9→Option Value
 | .row cs _ _ _=>cs[off]?
 | _=>none
def BF (n off:Nat):A9→Option Value
 | .row cs _ _ _=>match F1 cs off n with
  | some l=>some (.agg l.toArray)
  | none=>none
 | _=>none
theorem KN {P:Program} {t:TypeId} {h:AA} {id off:Nat} (ha:E1 P t=some false):DY P h t (.pointer (some ⟨id,off,none⟩))=AJ off (h.get id):=by
 simp only[DY,ha]
 cases h.get id <;> rfl
theorem LX {P:Program} {t:TypeId} {n:Nat} {h:AA} {id off:Nat} (ha:E1 P t=some true) (hs:BG P t=some n):DY P h t (.pointer (some ⟨id,off,none⟩))=BF n off (h.get id):=by
 simp only[DY,ha,hs]
 cases h.get id <;> rfl
theorem qK:E1 Tryd.prog 3=some false:=by kernel_rfl
theorem Br:E1 Tryd.prog 9=some false:=by kernel_rfl
theorem Bq:E1 Tryd.prog 4=some false:=by kernel_rfl
theorem rS:E1 Tryd.prog 61=some true:=by kernel_rfl
theorem Ek:E1 Tryd.prog 115=some true:=by kernel_rfl
theorem C4:BG Tryd.prog 3=some 1:=by kernel_rfl
theorem L_:BG Tryd.prog 9=some 1:=by kernel_rfl
theorem OR:BG Tryd.prog 4=some 1:=by kernel_rfl
theorem FV:BG Tryd.prog 61=some 5:=by kernel_rfl
theorem pO:BG Tryd.prog 115=some 5:=by kernel_rfl
theorem FI:CU Tryd.prog 61=some (.agg #[.int .i64 0,.string ByteArray.empty,.int .i64 0,.int .i64 0,.int .i64 0]):=by kernel_rfl
theorem lN:CU Tryd.prog 115=some (.agg #[.bool false,.bool false,.bool false,.int .i64 0,.int .i64 0]):=by kernel_rfl
theorem F6 {a b c d e:Value}:flat (.agg #[a,b,c,d,e])=(BI a&&(BI b&&(BI c&&(BI d&&(BI e&&true))))):=by simp[flat,Bool.and_assoc]
theorem P8 {k:IntKind} {x:Int}:BI (.int k x)=true:=rfl
theorem qI {x:ByteArray}:BI (.string x)=true:=rfl
theorem Gp {x:Bool}:BI (.bool x)=true:=rfl
theorem AU {h:AA} {id off:Nat}:DY Tryd.prog h 3 (.pointer (some ⟨id,off,none⟩))=AJ off (h.get id):=KN qK
theorem GE {h:AA} {id off:Nat}:DY Tryd.prog h 9 (.pointer (some ⟨id,off,none⟩))=AJ off (h.get id):=KN Br
theorem E8 {h:AA} {id off:Nat}:DY Tryd.prog h 4 (.pointer (some ⟨id,off,none⟩))=AJ off (h.get id):=KN Bq
theorem HN {h:AA} {id off:Nat}:DY Tryd.prog h 61 (.pointer (some ⟨id,off,none⟩))=BF 5 off (h.get id):=LX rS FV
theorem dN {h:AA} {id off:Nat}:DY Tryd.prog h 115 (.pointer (some ⟨id,off,none⟩))=BF 5 off (h.get id):=LX Ek pO
theorem IW {a:Value} {l:List Value} {ty:TypeId} {g ro:Bool}:AJ 0 (.row (a :: l) ty g ro)=some a:=rfl
theorem RQ {a b:Value} {l:List Value} {ty:TypeId} {g ro:Bool}:AJ 1 (.row (a :: b :: l) ty g ro)=some b:=rfl
theorem SI {a b c:Value} {l:List Value} {ty:TypeId} {g ro:Bool}:AJ 2 (.row (a :: b :: c :: l) ty g ro)=some c:=rfl
theorem PV {a b c d:Value} {l:List Value} {ty:TypeId} {g ro:Bool}:AJ 3 (.row (a :: b :: c :: d :: l) ty g ro)=some d:=rfl
theorem pW {a b c d e:Value} {l:List Value} {ty:TypeId} {g ro:Bool}:AJ 4 (.row (a :: b :: c :: d :: e :: l) ty g ro)=some e:=rfl
theorem pG {a b c d e:Value} {ty:TypeId} {g ro:Bool}:BF 5 0 (.row [a,b,c,d,e] ty g ro)=some (.agg #[a,b,c,d,e]):=rfl
noncomputable def TN (t:TypeId) (h:AA) (id:Nat) (a b c d e:Value):A9→Option AA
 | .row [_,_,_,_,_] ty g false=>if h.floor≤id∧[a,b,c,d,e].all one=true then some (h.put id (.row [a,b,c,d,e] ty g false)) else A_ Tryd.prog h t (.pointer (some ⟨id,0,none⟩)) (.agg #[a,b,c,d,e])
 | _=>A_ Tryd.prog h t (.pointer (some ⟨id,0,none⟩)) (.agg #[a,b,c,d,e])
theorem nI {t:TypeId} (ht:BG Tryd.prog t=some 5) {h:AA} {id:Nat} {a b c d e:Value}:A_ Tryd.prog h t (.pointer (some ⟨id,0,none⟩)) (.agg #[a,b,c,d,e])=TN t h id a b c d e (h.get id):=by
 unfold TN
 split
 ·rename_i v w x y z ty g hg
  split
  ·rename_i hc
   have hone:([a,b,c,d,e].all one)=true:=hc.2
   have hl:Go.Sx.lay [v,w,x,y,z] 0 [a,b,c,d,e]=[a,b,c,d,e]:=rfl
   have hcells:(Value.agg #[a,b,c,d,e]).cells=#[a,b,c,d,e]:=rfl
   simp only[A_,hcells,ht,FW,hg]
   have hsz:(some 5:Option Nat)=some (#[a,b,c,d,e]:Array Value).size:=rfl
   rw[if_pos hsz,if_pos (by simp only[List.length_cons,List.length_nil,hone];simp[hc.1])]
   rfl
  ·rfl
 ·rfl
theorem E9 {h:AA} {id:Nat} {a b c d e:Value}:A_ Tryd.prog h 61 (.pointer (some ⟨id,0,none⟩)) (.agg #[a,b,c,d,e])=TN 61 h id a b c d e (h.get id):=nI FV
theorem m8 {h:AA} {id:Nat} {a b c d e:Value}:A_ Tryd.prog h 115 (.pointer (some ⟨id,0,none⟩)) (.agg #[a,b,c,d,e])=TN 115 h id a b c d e (h.get id):=nI pO
theorem RT {t:TypeId} {h:AA} {id:Nat} {a b c d e v w x y z:Value} {ty:TypeId} {g:Bool}:TN t h id a b c d e (.row [v,w,x,y,z] ty g false) =
  if h.floor≤id∧[a,b,c,d,e].all one=true then some (h.put id (.row [a,b,c,d,e] ty g false)) else A_ Tryd.prog h t (.pointer (some ⟨id,0,none⟩)) (.agg #[a,b,c,d,e]):=rfl
theorem hJ {a b c d e:Value}:#[a,b,c,d,e].toList.all one=(one a&&(one b&&(one c&&(one d&&(one e&&true))))):=by simp[Bool.and_assoc]
section
variable {id off:Nat}
theorem C2:BJ Tryd.prog 61 (.pointer (some ⟨id,off,none⟩)) 0=some (.pointer (some ⟨id,off,none⟩)):=by simp[BJ,Tryd.underlying61,C4,CJ]
theorem K9:BJ Tryd.prog 61 (.pointer (some ⟨id,off,none⟩)) 1=some (.pointer (some ⟨id,off+1,none⟩)):=by simp[BJ,Tryd.underlying61,L_,CJ]
theorem RG:BJ Tryd.prog 61 (.pointer (some ⟨id,off,none⟩)) 2=some (.pointer (some ⟨id,off+2,none⟩)):=by simp[BJ,Tryd.underlying61,C4,CJ]
theorem F8:BJ Tryd.prog 61 (.pointer (some ⟨id,off,none⟩)) 3=some (.pointer (some ⟨id,off+3,none⟩)):=by simp[BJ,Tryd.underlying61,C4,CJ]
theorem VO:BJ Tryd.prog 61 (.pointer (some ⟨id,off,none⟩)) 4=some (.pointer (some ⟨id,off+4,none⟩)):=by simp[BJ,Tryd.underlying61,C4,CJ]
theorem US:BJ Tryd.prog 115 (.pointer (some ⟨id,off,none⟩)) 0=some (.pointer (some ⟨id,off,none⟩)):=by simp[BJ,Tryd.underlying115,OR,CJ]
theorem UT:BJ Tryd.prog 115 (.pointer (some ⟨id,off,none⟩)) 1=some (.pointer (some ⟨id,off+1,none⟩)):=by simp[BJ,Tryd.underlying115,OR,CJ]
theorem UX:BJ Tryd.prog 115 (.pointer (some ⟨id,off,none⟩)) 2=some (.pointer (some ⟨id,off+2,none⟩)):=by simp[BJ,Tryd.underlying115,OR,CJ]
theorem eV:BJ Tryd.prog 115 (.pointer (some ⟨id,off,none⟩)) 3=some (.pointer (some ⟨id,off+3,none⟩)):=by simp[BJ,Tryd.underlying115,C4,CJ]
theorem cP:BJ Tryd.prog 115 (.pointer (some ⟨id,off,none⟩)) 4=some (.pointer (some ⟨id,off+4,none⟩)):=by simp[BJ,Tryd.underlying115,C4,CJ]
end
theorem PR (a:ByteArray):(a==a)=true:=by
 cases a with
 | mk d=>show (d==d)=true;simp
theorem jP (a b:ByteArray):(a.toList==b.toList)=(a==b):=by
 rw[ByteArray.toList_eq,ByteArray.toList_eq]
 apply Bool.eq_iff_iff.2
 constructor
 ·intro h
  have h1:a.data.toList=b.data.toList:=by simpa using h
  have h2:a=b:=by
   cases a;cases b
   simp only[ByteArray.mk.injEq]
   exact Array.toList_inj.1 h1
  subst h2
  exact PR a
 ·intro h
  have:=MF h
  subst this
  simp
theorem zN {P:Program} {t:TypeId} {x y:Operand} {a b:ByteArray}:BR P .eql t x y (.string a) (.string b)=some (.bool (a==b)):=by
 have e:AZ P (do eqGuard .eql t x y (.string a) (.string b);binOp .eql t (.string a) (.string b))=some (.bool (a==b)):=by
  rw[B9]
  have g:AZ P (eqGuard .eql t x y (.string a) (.string b))=some ():=rfl
  rw[g,← jP]
  simp[binOp,Op.stringOp,Option.bind]
  rfl
 have hf:flat (.string a)=true:=rfl
 have hf2:flat (.string b)=true:=rfl
 simp only[BR,hf,hf2,JZ,Bool.and_self,if_true,e]
theorem SL {x y:Operand} {a b:ByteArray}:BR Tryd.prog .eql 9 x y (.string a) (.string b)=some (.bool (a==b)):=zN
theorem N1 {x y:Operand} {a b:Bool}:BR Tryd.prog .eql 4 x y (.bool a) (.bool b)=some (.bool (a==b)):=r9 Tryd.underlying4
theorem cE {x y:Operand} {a b:Bool}:BR Tryd.prog .neq 4 x y (.bool a) (.bool b)=some (.bool (a != b)):=TJ Tryd.underlying4
def AW (r:AB):List Value:=[.int .i64 r.kind,.string r.name,.int .i64 r.ends,.int .i64 r.n,.int .i64 r.kids]
theorem S_ {h:AA} {a:Option Addr} {n c:Nat}:CX Tryd.prog h 26 (.slice a n c)=some (.int .i64 n):=by simp[CX,Tryd.underlying26]
def A7 (h:AA) (v:Value) (l:List AB):Prop:=
 ∃ a c,v=.slice a l.length c∧((l=[]∧a=none)∨∃ id off cs ty g ro,a=some ⟨id,off,none⟩∧h.get id=.row cs ty g ro∧id<h.next∧∀ k r,l[k]?=some r→(cs.drop (off+k*5)).take 5=AW r)
theorem A7.row {h:AA} {v:Value} {l:List AB} (hv:A7 h v l) {k:Nat} {r:AB} (hk:l[k]?=some r) :
  ∃ id p,CL Tryd.prog 26 v (.int .i64 (k:Int))=some (.pointer (some ⟨id,p,none⟩))∧id<h.next∧AJ p (h.get id)=some (.int .i64 r.kind)∧AJ (p+1) (h.get id)=some (.string r.name)∧AJ (p+2) (h.get id)=some (.int .i64 r.ends) ∧
   AJ (p+3) (h.get id)=some (.int .i64 r.n)∧AJ (p+4) (h.get id)=some (.int .i64 r.kids)∧BF 5 p (h.get id)=some (.agg #[.int .i64 r.kind,.string r.name,.int .i64 r.ends,.int .i64 r.n,.int .i64 r.kids]):=by
 obtain⟨a,c,rfl,⟨rfl,_⟩ | ⟨id,off,cs,ty,g,ro,rfl,hg,hid,hc⟩⟩:=hv
 ·simp at hk
 ·have hlt:=(List.getElem?_eq_some_iff.1 hk).1
  have hcut:=hc k r hk
  have hat:∀ j,j<5→cs[off+k*5+j]?=(AW r)[j]?:=fun j hj=>by
   rw[← hcut,List.getElem?_take_of_lt hj,List.getElem?_drop]
  refine⟨id,off+k*5,?_,hid,?_,?_,?_,?_,?_,?_⟩
  ·simp only[CL,Tryd.underlying26,FV,CJ]
   rw[if_pos (by omega)]
   simp
  ·rw[hg];exact hat 0 (by decide)
  ·rw[hg];exact hat 1 (by decide)
  ·rw[hg];exact hat 2 (by decide)
  ·rw[hg];exact hat 3 (by decide)
  ·rw[hg];exact hat 4 (by decide)
  ·rw[hg]
   simp only[BF,F1,hcut]
   rfl
theorem A7.len {h:AA} {v:Value} {l:List AB} (hv:A7 h v l) {h':AA}:CX Tryd.prog h' 26 v=some (.int .i64 l.length):=by
 obtain⟨a,c,rfl,_⟩:=hv
 exact S_
theorem A7.mono {h h':AA} {v:Value} {l:List AB} (hv:A7 h v l) (hn:h.next≤h'.next) (hg:∀ i,i<h.next→h'.get i=h.get i):A7 h' v l:=by
 obtain⟨a,c,rfl,h1 | ⟨id,off,cs,ty,g,ro,rfl,h1,hid,hc⟩⟩:=hv
 ·exact⟨_,_,rfl,.inl h1⟩
 ·exact⟨_,_,rfl,.inr ⟨id,off,cs,ty,g,ro,rfl,by rw[hg id hid];exact h1,by omega,hc⟩⟩
theorem U1:type_of% (And.intro @HX.eq_1 (And.intro @HX.eq_2 (And.intro @N3.eq_1 (And.intro @HE.eq_1 (And.intro @FH.eq_1 (And.intro @FH.eq_2 (And.intro @FH.eq_3 (And.intro @HV.eq_1 (And.intro @HV.eq_2 (And.intro @AL.eq_1 (And.intro @AL.eq_2 (And.intro @AL.eq_3 (And.intro @AL.eq_4 (And.intro @AL.eq_5 (And.intro @AL.eq_6 (And.intro @AL.eq_7 (And.intro @AL.eq_8 (And.intro @AL.eq_9 (And.intro @AL.eq_10 (And.intro @AL.eq_11 (And.intro @AL.eq_12 (And.intro @AL.eq_13 (And.intro @AL.eq_14 (And.intro @AL.eq_15 (And.intro @AL.eq_16 (And.intro @AL.eq_17 (And.intro @AL.eq_18 (And.intro @AL.eq_19 (And.intro @AL.eq_20 (And.intro @AL.eq_21 (And.intro @AL.eq_22 (And.intro @AL.eq_23 (And.intro @AL.eq_24 (And.intro @AL.eq_25 (And.intro @AL.eq_26 (And.intro @AL.eq_27 @AL.eq_28)))))))))))))))))))))))))))))))))))):=And.intro @HX.eq_1 (And.intro @HX.eq_2 (And.intro @N3.eq_1 (And.intro @HE.eq_1 (And.intro @FH.eq_1 (And.intro @FH.eq_2 (And.intro @FH.eq_3 (And.intro @HV.eq_1 (And.intro @HV.eq_2 (And.intro @AL.eq_1 (And.intro @AL.eq_2 (And.intro @AL.eq_3 (And.intro @AL.eq_4 (And.intro @AL.eq_5 (And.intro @AL.eq_6 (And.intro @AL.eq_7 (And.intro @AL.eq_8 (And.intro @AL.eq_9 (And.intro @AL.eq_10 (And.intro @AL.eq_11 (And.intro @AL.eq_12 (And.intro @AL.eq_13 (And.intro @AL.eq_14 (And.intro @AL.eq_15 (And.intro @AL.eq_16 (And.intro @AL.eq_17 (And.intro @AL.eq_18 (And.intro @AL.eq_19 (And.intro @AL.eq_20 (And.intro @AL.eq_21 (And.intro @AL.eq_22 (And.intro @AL.eq_23 (And.intro @AL.eq_24 (And.intro @AL.eq_25 (And.intro @AL.eq_26 (And.intro @AL.eq_27 @AL.eq_28)))))))))))))))))))))))))))))))))))
theorem SX:type_of% (And.intro U1 (And.intro @KX (And.intro @n9 (And.intro @jW (And.intro @eW (And.intro @gR (And.intro @nU (And.intro @fR (And.intro @pV (And.intro @kD (And.intro @mB (And.intro @RA (And.intro @iT (And.intro @oL (And.intro @jG (And.intro @c_ (And.intro @gK (And.intro @oS (And.intro @mL (And.intro @j7 (And.intro @TY (And.intro @jS (And.intro @e_ (And.intro @fN (And.intro @V9 (And.intro @UM (And.intro @T_ (And.intro @Tr.get_put (And.intro @Tr.get_set (And.intro @V5 (And.intro @List.map_cons.{0,0} (And.intro @List.map_nil.{0,0} (And.intro @Option.some.injEq.{0} (And.intro @XA (And.intro @S6 (And.intro @TH (And.intro @VJ (And.intro @PT (And.intro @QM (And.intro @U2 (And.intro @XE (And.intro @gM (And.intro @max2 (And.intro @min2 (And.intro @decide_eq_true_eq (And.intro @decide_eq_false_iff_not (And.intro @beq_iff_eq.{0} (And.intro @true_and (And.intro @and_true (And.intro @or_true (And.intro @true_or (And.intro @exists_eq_left'.{1} (And.intro @Option.map_some.{0,0} (And.intro @Option.map_none.{0,0} (And.intro @VW (And.intro @Option.bind_some.{0,0} (And.intro @List.nil_append.{0} (And.intro @List.append_nil.{0} (And.intro @List.cons_append.{0} (And.intro @Value.int.injEq (And.intro @WM (And.intro @List.getElem?_toArray.{0} (And.intro @List.getElem?_cons_succ.{0} (And.intro @List.getElem?_cons_zero.{0} (And.intro @decide_true (And.intro @decide_false (And.intro @beq_self_eq_true.{0} (And.intro @TW (And.intro @XC (And.intro @Bool.not_true (And.intro @Bool.not_false (And.intro @Bool.false_eq_true (And.intro @if_true.{1} (And.intro @if_false.{1} (And.intro @JZ (And.intro @WI (And.intro @oI (And.intro @iY (And.intro @false_implies (And.intro @true_implies @jT)))))))))))))))))))))))))))))))))))))))))))))))))))))))))))))))))))))))))))))))):=And.intro U1 (And.intro @KX (And.intro @n9 (And.intro @jW (And.intro @eW (And.intro @gR (And.intro @nU (And.intro @fR (And.intro @pV (And.intro @kD (And.intro @mB (And.intro @RA (And.intro @iT (And.intro @oL (And.intro @jG (And.intro @c_ (And.intro @gK (And.intro @oS (And.intro @mL (And.intro @j7 (And.intro @TY (And.intro @jS (And.intro @e_ (And.intro @fN (And.intro @V9 (And.intro @UM (And.intro @T_ (And.intro @Tr.get_put (And.intro @Tr.get_set (And.intro @V5 (And.intro @List.map_cons.{0,0} (And.intro @List.map_nil.{0,0} (And.intro @Option.some.injEq.{0} (And.intro @XA (And.intro @S6 (And.intro @TH (And.intro @VJ (And.intro @PT (And.intro @QM (And.intro @U2 (And.intro @XE (And.intro @gM (And.intro @max2 (And.intro @min2 (And.intro @decide_eq_true_eq (And.intro @decide_eq_false_iff_not (And.intro @beq_iff_eq.{0} (And.intro @true_and (And.intro @and_true (And.intro @or_true (And.intro @true_or (And.intro @exists_eq_left'.{1} (And.intro @Option.map_some.{0,0} (And.intro @Option.map_none.{0,0} (And.intro @VW (And.intro @Option.bind_some.{0,0} (And.intro @List.nil_append.{0} (And.intro @List.append_nil.{0} (And.intro @List.cons_append.{0} (And.intro @Value.int.injEq (And.intro @WM (And.intro @List.getElem?_toArray.{0} (And.intro @List.getElem?_cons_succ.{0} (And.intro @List.getElem?_cons_zero.{0} (And.intro @decide_true (And.intro @decide_false (And.intro @beq_self_eq_true.{0} (And.intro @TW (And.intro @XC (And.intro @Bool.not_true (And.intro @Bool.not_false (And.intro @Bool.false_eq_true (And.intro @if_true.{1} (And.intro @if_false.{1} (And.intro @JZ (And.intro @WI (And.intro @oI (And.intro @iY (And.intro @false_implies (And.intro @true_implies @jT)))))))))))))))))))))))))))))))))))))))))))))))))))))))))))))))))))))))))))))))
theorem eE:type_of% (And.intro @SV SX):=And.intro @SV SX
theorem eP:type_of% (And.intro @fI @lR):=And.intro @fI @lR
theorem F5:type_of% (And.intro @CY (And.intro @IC (And.intro @IS (And.intro @LM (And.intro @l9 (And.intro @pY (And.intro @AU (And.intro @GE (And.intro @E8 (And.intro @HN (And.intro @dN (And.intro @IW (And.intro @RQ (And.intro @SI (And.intro @PV (And.intro @pW (And.intro @pG (And.intro @m8 (And.intro @RT (And.intro @KH (And.intro @QB (And.intro @nY (And.intro @C2 (And.intro @K9 (And.intro @RG (And.intro @F8 (And.intro @VO (And.intro @US (And.intro @UT (And.intro @UX (And.intro @eV (And.intro @cP (And.intro @FI (And.intro @lN (And.intro @hJ (And.intro @List.all_cons.{0} (And.intro @List.all_nil.{0} (And.intro @Bool.and_self (And.intro @Bool.true_and (And.intro @Bool.and_true (And.intro @Nat.zero_le (And.intro @KS (And.intro @UB (And.intro @N1 (And.intro @cE (And.intro @SL @S_)))))))))))))))))))))))))))))))))))))))))))))):=And.intro @CY (And.intro @IC (And.intro @IS (And.intro @LM (And.intro @l9 (And.intro @pY (And.intro @AU (And.intro @GE (And.intro @E8 (And.intro @HN (And.intro @dN (And.intro @IW (And.intro @RQ (And.intro @SI (And.intro @PV (And.intro @pW (And.intro @pG (And.intro @m8 (And.intro @RT (And.intro @KH (And.intro @QB (And.intro @nY (And.intro @C2 (And.intro @K9 (And.intro @RG (And.intro @F8 (And.intro @VO (And.intro @US (And.intro @UT (And.intro @UX (And.intro @eV (And.intro @cP (And.intro @FI (And.intro @lN (And.intro @hJ (And.intro @List.all_cons.{0} (And.intro @List.all_nil.{0} (And.intro @Bool.and_self (And.intro @Bool.true_and (And.intro @Bool.and_true (And.intro @Nat.zero_le (And.intro @KS (And.intro @UB (And.intro @N1 (And.intro @cE (And.intro @SL @S_)))))))))))))))))))))))))))))))))))))))))))))
theorem rP:type_of% (And.intro @MI (And.intro @Q4 (And.intro @RW (And.intro @E9 (And.intro @F6 F5))))):=And.intro @MI (And.intro @Q4 (And.intro @RW (And.intro @E9 (And.intro @F6 F5))))
theorem rG:type_of% (And.intro U1 (And.intro @Tr.get_set (And.intro @V5 (And.intro @TY (And.intro @VW (And.intro @WM (And.intro @TW (And.intro @XC (And.intro @V9 (And.intro @UM (And.intro @Tr.get_put (And.intro @Option.some.injEq.{0} (And.intro @if_true.{1} (And.intro @if_false.{1} (And.intro @VX (And.intro @Option.map_some.{0,0} (And.intro @Bool.not_true (And.intro @Bool.not_false (And.intro @Bool.false_eq_true (And.intro @true_and @UB)))))))))))))))))))):=And.intro U1 (And.intro @Tr.get_set (And.intro @V5 (And.intro @TY (And.intro @VW (And.intro @WM (And.intro @TW (And.intro @XC (And.intro @V9 (And.intro @UM (And.intro @Tr.get_put (And.intro @Option.some.injEq.{0} (And.intro @if_true.{1} (And.intro @if_false.{1} (And.intro @VX (And.intro @Option.map_some.{0,0} (And.intro @Bool.not_true (And.intro @Bool.not_false (And.intro @Bool.false_eq_true (And.intro @true_and @UB)))))))))))))))))))
theorem CT:type_of% (And.intro @eq_self.{1} (And.intro @true_implies (And.intro @Option.map_none.{0,0} (And.intro @Option.map_some.{0,0} (And.intro @Nat.zero_add (And.intro @JA (And.intro @decide_true (And.intro @false_implies @forall_const.{1})))))))):=And.intro @eq_self.{1} (And.intro @true_implies (And.intro @Option.map_none.{0,0} (And.intro @Option.map_some.{0,0} (And.intro @Nat.zero_add (And.intro @JA (And.intro @decide_true (And.intro @false_implies @forall_const.{1})))))))
theorem DU:type_of% (And.intro @T_ (And.intro @List.nil_append.{0} (And.intro @List.append_nil.{0} (And.intro @List.cons_append.{0} (And.intro @List.map_cons.{0,0} (And.intro @List.map_nil.{0,0} (And.intro @HQ (And.intro @LY (And.intro @KS @KA))))))))):=And.intro @T_ (And.intro @List.nil_append.{0} (And.intro @List.append_nil.{0} (And.intro @List.cons_append.{0} (And.intro @List.map_cons.{0,0} (And.intro @List.map_nil.{0,0} (And.intro @HQ (And.intro @LY (And.intro @KS @KA))))))))
theorem C6:type_of% (And.intro @List.all_cons.{0} (And.intro @List.all_nil.{0} (And.intro @Bool.and_self (And.intro @NP (And.intro @OO (And.intro @IC (And.intro @LM (And.intro @CY @IS)))))))):=And.intro @List.all_cons.{0} (And.intro @List.all_nil.{0} (And.intro @Bool.and_self (And.intro @NP (And.intro @OO (And.intro @IC (And.intro @LM (And.intro @CY @IS)))))))
theorem U7:type_of% (And.intro @NP (And.intro @OO (And.intro @IC (And.intro @LM (And.intro @CY @IS))))):=And.intro @NP (And.intro @OO (And.intro @IC (And.intro @LM (And.intro @CY @IS))))
theorem EA:type_of% (And.intro @PT (And.intro @QM (And.intro @SL (And.intro @N1 (And.intro @TH (And.intro @VJ (And.intro @XA (And.intro @S6 (And.intro @U2 @XE))))))))):=And.intro @PT (And.intro @QM (And.intro @SL (And.intro @N1 (And.intro @TH (And.intro @VJ (And.intro @XA (And.intro @S6 (And.intro @U2 @XE))))))))
theorem AG {P:Program} {call:AM} {n:Nat} {ops:Array Oper} {start:Nat} {F:List (Bool × Bool × List Operand)} {s:St} {k:CG} (hsn:B8 call) (i:Nat) (dst:Option Tmp) (op:Op) (g:Option (Nat × Bool)) {lr la:Bool} {ls:List Operand}
  (h : if DC ops s.T ⟨dst, op, 0, "", #[], g⟩ then AE P call n ops start lr la ls (F.drop (i + 1)) ⟨dst, op, 0, "", #[], g⟩ (ops.toList.drop (i + 1)) s k (AC op)
   else CF P call n ops start (F.drop (i+1)) (ops.toList.drop (i+1)) ⟨s.T.put dst undef,s.h⟩ k)
  (hi:(ops[i]?).map Go.Sx.seen=some (dst,op,g):=by kernel_rfl) (hf:F[i]?=some (lr,la,ls):=by rfl):CF P call n ops start (F.drop i) (ops.toList.drop i) s k:=
 CF.at i dst op g hi hf (fun _ _ _ hs=>(XZ hsn hs).floor) h
theorem D9 {P:Program} {call:AM} {n:Nat} {ops:Array Oper} {start:Nat} {fs:List (Bool × Bool × List Operand)} {l:List Oper} {s:St} {k:CG} {lr la:Bool} {ls:List Operand} {o:Oper} (hsn:B8 call)
  (h:if DC ops s.T o then AE P call n ops start lr la ls fs o l s k (AC o.op) else CF P call n ops start fs l ⟨s.T.put o.dst undef,s.h⟩ k):CF P call n ops start ((lr,la,ls) :: fs) (o :: l) s k:=CF.cons (fun _ _ _ hs=>(XZ hsn hs).floor) h
theorem D4 {P:Program} {call:AM} {n:Nat} {ops:Array Oper} {start:Nat} {fs:List (Bool × Bool × List Operand)} {s:St} {k:CG} (h:k.ap P call n .normal s):CF P call n ops start fs [] s k:=by rw[VU];exact h
theorem rF:type_of% (And.intro @VX (And.intro @VU (And.intro @JA (And.intro @NP (And.intro @OO (And.intro @m7 (And.intro @HQ @LY))))))):=And.intro @VX (And.intro @VU (And.intro @JA (And.intro @NP (And.intro @OO (And.intro @m7 (And.intro @HQ @LY))))))
section
variable (h:AA) (a b c d:A9)
theorem Q2:let A:=(h.push a).push b
  A.get h.next=a∧A.get (h.next+1)=b∧A.next=h.next+2∧A.floor=h.floor∧∀ i,i<h.next→A.get i=h.get i:=
 ⟨by rw[AR (by show h.next<h.next+1;omega)];exact BM,BM (h:=h.push a),rfl,rfl,fun i hi=>by rw[AR (by show i<h.next+1;omega),AR hi]⟩
theorem T9:let A:=((h.push a).push b).push c
  A.get h.next=a∧A.get (h.next+1)=b∧A.get (h.next+2)=c∧A.next=h.next+3∧A.floor=h.floor∧∀ i,i<h.next→A.get i=h.get i:=by
 obtain⟨p1,p2,p3,p4,p5⟩:=Q2 h a b
 exact⟨by rw[AR (by show h.next<h.next+2;omega)];exact p1,by rw[AR (by show h.next+1<h.next+2;omega)];exact p2,BM (h:=(h.push a).push b),rfl,rfl,fun i hi=>by rw[AR (by show i<h.next+2;omega)];exact p5 i hi⟩
theorem Ea:let A:=(((h.push a).push b).push c).push d
  A.get h.next=a∧A.get (h.next+1)=b∧A.get (h.next+2)=c∧A.get (h.next+3)=d∧A.next=h.next+4∧A.floor=h.floor∧∀ i,i<h.next→A.get i=h.get i:=by
 obtain⟨p1,p2,p3,p4,p5,p6⟩:=T9 h a b c
 exact⟨by rw[AR (by show h.next<h.next+3;omega)];exact p1,by rw[AR (by show h.next+1<h.next+3;omega)];exact p2,by rw[AR (by show h.next+2<h.next+3;omega)];exact p3,BM (h:=((h.push a).push b).push c),rfl,rfl,fun i hi=>by rw[AR (by show i<h.next+3;omega)];exact p6 i hi⟩
end
theorem C_ {a n:Nat} (h:a<n):∃ j,n=j+1:=⟨n-1,by omega⟩
theorem EU (i:Nat) (h:i<9223372036854775807):IntKind.i64.wrap ((i:Int)+1)=((i+1:Nat):Int):=C9 (by omega) (by omega)
theorem E_ (l:List Value):(Value.agg l.toArray).cells.toList=l:=rfl
theorem F7:(Value.agg #[.int .i64 0,.int .i64 0]).cells.toList=[.int .i64 0,.int .i64 0]:=rfl
theorem QR:(Value.agg #[.string ByteArray.empty,.slice none 0 0,.slice none 0 0,.slice none 0 0,.slice none 0 0,.slice none 0 0,.slice none 0 0,.int .i64 0]).cells.toList=[.string ByteArray.empty,.slice none 0 0,.slice none 0 0,.slice none 0 0,.slice none 0 0,.slice none 0 0,.slice none 0 0,.int .i64 0]:=rfl
def AK:Bool × Bool × List Operand:=(false,false,[])
def AQ:Bool × Bool × List Operand:=(false,true,[])
def EN:Bool × Bool × List Operand:=(true,true,[])
def AH (l:List Operand):Bool × Bool × List Operand:=(false,true,l)
def FO (l:List Operand):Bool × Bool × List Operand:=(true,true,l)
abbrev Z0:Value:=.slice none 0 0
abbrev CN:List Value:=[.string ByteArray.empty,Z0,Z0,Z0,Z0,Z0,Z0,.int .i64 0]
abbrev ER:List Value:=[.int .i64 0,.string ByteArray.empty,.int .i64 0,.int .i64 0,.int .i64 0]
abbrev qP (a o:Nat):Value:=.pointer (some ⟨a,o,none⟩)
abbrev qS (a n c:Nat):Value:=.slice (some ⟨a,0,none⟩) n c
theorem x9:Tryd.prog.globals.size≤1:=by
 have:Tryd.prog.globals.size=1:=by kernel_rfl
 omega
noncomputable def OI (m:Nat) (call:AM):AM:=fun f args h=>
 if args.all M0 then match call f args (ED m 0) with
  | some (v,_)=>if EF v then some (v,h) else none
  | none=>none
 else none
theorem oM {m:Nat} {call:AM} {f:FuncId} {args:List Value} {h h':AA} {v:Value} (hs:OI m call f args h=some (v,h')) :
  args.all M0=true∧(∃ h1,call f args (ED m 0)=some (v,h1))∧EF v=true∧h'=h:=by
 unfold OI at hs
 split at hs
 ·rename_i hc
  split at hs
  ·rename_i v' h1 he
   split at hs
   ·rename_i hf
    cases hs
    exact⟨hc,⟨h1,he⟩,hf,rfl⟩
   ·cases hs
  ·cases hs
 ·cases hs
theorem uE {m:Nat} {call:AM} {f:FuncId} {args:List Value} {h:AA} {v:Value} (ha:args.all M0=true) (hv:EF v=true) (hc:∃ h1,call f args (ED m 0)=some (v,h1)) :
  OI m call f args h=some (v,h):=by
 obtain⟨h1,he⟩:=hc
 unfold OI
 rw[if_pos ha,he]
 simp only[hv,if_true]
theorem sY {P:Program} {call:AM} (hc:CR P call) {m:Nat} (hg:P.globals.size≤m):CR P (OI m call)∧B8 (OI m call):=by
 refine⟨fun f args h v h' hs=>?_,fun f args h v h' hs=>?_⟩
 ·obtain⟨ha,⟨h1,he⟩,hv,rfl⟩:=oM hs
  obtain⟨hfn,hc2⟩:=hc _ _ _ _ _ he
  refine⟨hfn,fun ρ W ARGS hR hargs=>?_⟩
  have hR0:BP P (BV ρ m) (ED m 0) W:=ZK (fun i hi=>by unfold BV;rw[if_neg (by omega)]) fun g hgl=>by
   rw[G_ (by omega)]
   exact hR.glob g hgl
  have hnw:∀ i,¬ wr ((ED m 0).get i):=fun i hw=>by rw[L8] at hw;exact hw
  refine(hc2 _ W ARGS hR0 (oA ha hargs)).mono fun e W' ⟨V,ρ',he',hN,hv'⟩=>⟨V,ρ,he',(Nx.refl hR).grow (hN.fr.gr hnw),?_⟩
  rw[mW hv hv']
  exact eN hv
 ·obtain⟨_,_,_,rfl⟩:=oM hs
  exact .refl _
noncomputable def ML (fs:List FuncId) (base:AM) (k:Nat):AM:=F2 base (KJ fs (OI 1 (A8 Tryd.prog (FL Tryd.prog base k) k)))
section
variable {fs:List FuncId} {k:Nat} {base:AM} {f:FuncId} {args:List Value} {h:AA} {v:Value} {r:Value × AA}
theorem X8 (hb:CR Tryd.prog base∧B8 base):CR Tryd.prog (ML fs base k)∧B8 (ML fs base k):=
 RN hb (bP (sY (Q9 IU (MV IU hb.1 hb.2 k).1 (MV IU hb.1 hb.2 k).2 k).1 x9))
theorem KZ (hb:base f args h=some r):ML fs base k f args h=some r:=R5 hb
theorem II (hb:base f args h=none) (hf:fs.contains f=false):ML fs base k f args h=none:=by unfold ML F2 KJ;rw[hb,hf];rfl
theorem J9 (hb:base f args h=none) (hf:fs.contains f=true) (ha:args.all M0=true) (hv:EF v=true) (hw:∃ h1,A8 Tryd.prog (FL Tryd.prog base k) k f args (ED 1 0)=some (v,h1)):ML fs base k f args h=some (v,h):=by
 have e:OI 1 (A8 Tryd.prog (FL Tryd.prog base k) k) f args h=some (v,h):=uE ha hv hw
 unfold ML F2 KJ
 rw[hb,hf,if_pos rfl,e]
end
def I6:List Int:=(List.range 54).map fun (i:Nat)=>(i:Int)+1
theorem WG {k:Int} (h:1≤k∧k≤54):k∈I6:=List.mem_map.2 ⟨(k-1).toNat,by rw[List.mem_range];omega,by omega⟩
noncomputable def MR (f:FuncId) (mk:Int→List Value) (spec:Int→Value):Bool:=I6.all fun k=>match A8 Tryd.prog (FL Tryd.prog ND 12) 12 f (mk k) (ED 1 0) with
 | some (v,_)=>QS v (spec k)
 | none=>false
theorem M3 {f:FuncId} {mk:Int→List Value} {spec:Int→Value} (h:MR f mk spec=true) {k:Int} (hk:1≤k∧k≤54):∃ h1,A8 Tryd.prog (FL Tryd.prog ND 12) 12 f (mk k) (ED 1 0)=some (spec k,h1):=by
 have:=List.all_eq_true.1 h k (WG hk)
 split at this
 ·rename_i v h1 he
  rw[W_ this] at he
  exact⟨h1,he⟩
 ·cases this
def CP (k:Int):Int:=if k=54 then 1 else if k=53 then 2 else if k≥47 then 3 else if k≥45 then 4 else if k≥43 then 5 else if k≥41 then 6 else if k≥27 then 7 else 0
def GS (k:Int):Int:=if [1,11,26,31,32,35,36,37,38,39,40,41,42].contains k then 1 else 0
def BS (k:Int):Int:=if [2,3].contains k then 1 else if k=4 then 2 else if k=5 then 3 else if k=7 then 4 else 0
def DZ (k:Int):Int:=if [8,9,16,17,19,20,21,24,26,31,32,35,36,37].contains k then 1 else if [14,28].contains k then 2 else if [15,38].contains k then 3 else if k=22 then 4 else 0
def GY (k:Int):Bool:=decide (k≥8)&&decide (k≤10)
abbrev iv (x:Int):Value:=.int .i64 x
theorem tM:MR 61 (fun k=>[iv k]) (fun k=>.agg #[.bool (J3 k),.bool (MC k),.bool (k==27),iv (Fsx k),iv (CM k)])=true:=by kernel_rfl
theorem oP:MR 88 (fun k=>[iv k]) (fun k=>iv (CP k))=true:=by kernel_rfl
theorem Fe:MR 86 (fun k=>[iv k]) (fun k=>iv (GS k))=true:=by kernel_rfl
theorem Dq:MR 48 (fun k=>[iv k]) (fun k=>iv (BS k))=true:=by kernel_rfl
theorem Gs:MR 50 (fun k=>[iv k]) (fun k=>iv (DZ k))=true:=by kernel_rfl
theorem vT:MR 51 (fun k=>[iv k]) (fun k=>.bool (GY k))=true:=by kernel_rfl
theorem Hp:MR 64 (fun k=>[iv k,iv 0]) (fun k=>iv (BD k 0))=true:=by kernel_rfl
theorem Bi:MR 64 (fun k=>[iv k,iv 1]) (fun k=>iv (BD k 1))=true:=by kernel_rfl
theorem Fv:MR 64 (fun k=>if k=15 then [iv 1,iv 2] else [iv k,iv 2]) (fun k=>if k=15 then iv (BD 1 2) else iv (BD k 2))=true:=by kernel_rfl
def nM:List Int:=(List.range 256).map fun (i:Nat)=>(i:Int)
theorem Dw {k:Nat} (h:k<256):(k:Int)∈nM:=List.mem_map.2 ⟨k,by rw[List.mem_range];exact h,rfl⟩
noncomputable def XH (f:FuncId) (spec:Int→Bool):Bool:=nM.all fun k=>match A8 Tryd.prog (FL Tryd.prog ND 12) 12 f [.int .u8 k] (ED 1 0) with
 | some (v,_)=>QS v (.bool (spec k))
 | none=>false
theorem jQ {f:FuncId} {spec:Int→Bool} (h:XH f spec=true) (b:UInt8):∃ h1,A8 Tryd.prog (FL Tryd.prog ND 12) 12 f [.int .u8 (b.toNat:Int)] (ED 1 0)=some (.bool (spec (b.toNat:Int)),h1):=by
 have:=List.all_eq_true.1 h _ (Dw (UInt8.toNat_lt b))
 split at this
 ·rename_i v h1 he
  rw[W_ this] at he
  exact⟨h1,he⟩
 ·cases this
def GZ (c:Int):Bool:=(decide (c≥97)&&decide (c≤122))||(decide (c≥65)&&decide (c≤90))||c==95
def JG (c:Int):Bool:=decide (c≥48)&&decide (c≤57)
theorem yT:XH 82 GZ=true:=by kernel_rfl
theorem Ga:XH 84 JG=true:=by kernel_rfl
section
variable {call:AM} {n:Nat} {h:AA}
theorem z_ {what kind:Int}:A8 Tryd.prog call n 60 [iv what,iv kind] h=some (.bool (BX what kind),h):=by
 refine DA Tryd.func60 rfl (by simp[Tryd.f60]) ?_
 have hr:Tryd.f60.results.toList=[.tmp 4]:=rfl
 unfold BX
 by_cases w8:what=8
 ·subst w8;simp only[eE,seval,↓eP,rP,hr]
 have e8:(what==8)=false:=by simpa using w8
 by_cases w0:what=0
 ·subst w0
  cases d1:decide (kind≥2) <;> simp only[eE,seval,↓eP,rP,hr,e8,d1] <;> simp
 have e0:(what==0)=false:=by simpa using w0
 by_cases w1:what=1
 ·subst w1
  cases d1:decide (kind≥8) <;> simp only[eE,seval,↓eP,rP,hr,e8,e0,d1] <;> simp
 have e1:(what==1)=false:=by simpa using w1
 by_cases w2:what=2
 ·subst w2;simp only[eE,seval,↓eP,rP,hr,e8,e0,e1] <;> simp
 have e2:(what==2)=false:=by simpa using w2
 by_cases w3:what=3
 ·subst w3
  cases d1:decide (kind≥11) <;> simp only[eE,seval,↓eP,rP,hr,e8,e0,e1,e2,d1] <;> simp
 have e3:(what==3)=false:=by simpa using w3
 by_cases w4:what=4
 ·subst w4
  cases d1:(kind==11) <;> simp only[eE,seval,↓eP,rP,hr,e8,e0,e1,e2,e3,d1] <;> simp
 have e4:(what==4)=false:=by simpa using w4
 by_cases w5:what=5
 ·subst w5
  cases d1:(kind==25) <;> simp only[eE,seval,↓eP,rP,hr,e8,e0,e1,e2,e3,e4,d1] <;> simp
 have e5:(what==5)=false:=by simpa using w5
 by_cases w6:what=6
 ·subst w6;simp only[eE,seval,↓eP,rP,hr,e8,e0,e1,e2,e3,e4,e5] <;> simp
 have e6:(what==6)=false:=by simpa using w6
 rw[if_neg w8,if_neg w0,if_neg w1,if_neg w2,if_neg w3,if_neg w4,if_neg w5,if_neg w6]
 cases d1:decide (kind≥27) <;> simp only[eE,seval,↓eP,rP,hr,e8,e0,e1,e2,e3,e4,e5,e6,d1] <;> simp
end
def CW:A9:=.row K6 9 false true
def LN (w:List UInt8):ByteArray:=⟨w.toArray⟩
def KM (s:ByteArray):Bool:=decide (GG.findIdx (fun w=>s==LN w)<41)
theorem QI:GG.length=41:=by decide
def AT (s:ByteArray):Bool:=match s.data.toList with
 | []=>false
 | c :: l=>decide ((c :: l).length≤64)&&GZ c.toNat && !KM s&&(c :: l).all fun c=>GZ c.toNat||JG c.toNat
theorem RP {s:ByteArray}:flat (.string s)=true:=rfl
theorem PQ {h:AA} {s:ByteArray}:CX Tryd.prog h 9 (.string s)=some (.int .i64 s.data.toList.length):=by simp[CX,Tryd.underlying9]
theorem gQ {s:ByteArray} {i:Nat} {b:UInt8} (hb:s.data.toList[i]?=some b):AZ Tryd.prog (Instr.index 9 (.string s) (.int .i64 (i:Int)))=some (.int .u8 (b.toNat:Int)):=by
 have hg:s[i]?=some b:=by
  obtain⟨hl,he⟩:=List.getElem?_eq_some_iff.1 hb
  have hl':i<s.size:=by simpa using hl
  rw[getElem?_pos s i hl']
  congr 1
 unfold Instr.index
 rw[B9]
 have e1:AZ Tryd.prog (asIntOf (.int .i64 (i:Int)))=some (.i64,(i:Int)):=rfl
 rw[e1]
 simp only[Option.bind_some]
 rw[B9,M2 Tryd.underlying9]
 simp only[Option.bind_some,Int.toNat_natCast]
 rw[if_pos (by omega),hg]
 rfl
theorem vN {s:ByteArray} {b:UInt8} (hb:s.data.toList[0]?=some b):AZ Tryd.prog (Instr.index 9 (.string s) (.int .i64 0))=some (.int .u8 (b.toNat:Int)):=gQ (i:=0) hb
theorem pJ {s:ByteArray}:(s==⟨#[]⟩)=s.data.toList.isEmpty:=by
 cases s with
 | mk d=>
  show (d == #[])=_
  cases d with
  | mk l=>cases l <;> rfl
section
variable {call:AM} {n:Nat} {h:AA} {s:ByteArray}
def R8 (s:ByteArray):Int:=if GG.findIdx (fun w=>s==LN w)<41 then GG.findIdx (fun w=>s==LN w) else -1
theorem r7 {h:AA} {a:Option Addr} {n c:Nat}:CX Tryd.prog h 31 (.slice a n c)=some (.int .i64 n):=by simp[CX,Tryd.underlying31]
theorem kN {i:Nat} (hi:i<41):CL Tryd.prog 31 (.slice (some ⟨0,0,none⟩) 41 41) (.int .i64 (i:Int))=some (.pointer (some ⟨0,i,none⟩)):=by
 simp only[CL,Tryd.underlying31,L_,CJ]
 rw[if_pos (by omega)]
 simp
theorem iN {i:Nat} (hi:i<41):AJ i CW=some (.string (LN (GG[i]'(by rw[QI];exact hi)))):=by
 simp only[CW,AJ,K6,List.getElem?_map]
 rw[List.getElem?_eq_getElem (by rw[QI];exact hi)]
 rfl
theorem tF (hg:h.get 0=CW) (hn:41<n):A8 Tryd.prog call n 89 [.slice (some ⟨0,0,none⟩) 41 41,.string s] h=some (iv (R8 s),h):=by
 refine DA Tryd.func89 rfl (by simp[Tryd.f89]) ?_
 have hr:Tryd.f89.results.toList=[.tmp 4]:=rfl
 have hle:GG.findIdx (fun w=>s==LN w)≤41:=by have:=List.findIdx_le_length (xs:=GG) (p:=fun w=>s==LN w);rw[QI] at this;exact this
 simp only[eE,↓reduceIte,Nat.reduceEqDiff,reduceCtorEq,↓eP,rP,Nat.reduceAdd,Nat.reduceLT,hr,r7]
 refine WK.loop (fun i s'=>s'.h=h∧s'.T.get 0=.slice (some ⟨0,0,none⟩) 41 41∧s'.T.get 1=.string s∧s'.T.get 7=.int .i64 41∧s'.T.get 8=.int .i64 i) (GG.findIdx (fun w=>s==LN w)) (by omega) ?_ ?_
 ·simp only[eE,↓reduceIte,Nat.reduceEqDiff,reduceCtorEq,↓eP,rP,Nat.reduceAdd,Nat.reduceLT]
  exact⟨rfl,rfl⟩
 ·rintro i ⟨T1,h1⟩ hi ⟨rfl,t0,t1,t7,t8⟩
  simp only at t0 t1 t7 t8
  unfold R8
  by_cases hlt:i<GG.findIdx (fun w=>s==LN w)
  ·have hi41:i<41:=by omega
   have c1:decide ((i:Int)<41)=true:=by simp;omega
   have hne:=List.not_of_lt_findIdx hlt
   have w5:IntKind.i64.wrap ((i:Int)+1)=((i+1:Nat):Int):=C9 (by omega) (by omega)
   simp only[eE,seval,↓eP,rP,t0,t1,t7,t8,c1,kN hi41,hg,iN hi41,hne]
   exact⟨hlt,w5⟩
  ·have hie:i=GG.findIdx (fun w=>s==LN w):=by omega
   by_cases h41:i<41
   ·have c1:decide ((i:Int)<41)=true:=by simp;omega
    have heq:(s==LN (GG[i]'(by rw[QI];exact h41)))=true:=by
     have:=List.findIdx_getElem (xs:=GG) (p:=fun w=>s==LN w) (w:=by rw[← hie,QI];exact h41)
     simp only[← hie] at this
     exact this
    rw[← hie,if_pos h41]
    simp only[eE,seval,↓eP,rP,hr,t0,t1,t7,t8,c1,kN h41,hg,iN h41,heq]
   ·have c1:decide ((i:Int)<41)=false:=by simp;omega
    rw[← hie,if_neg h41]
    simp only[eE,seval,↓eP,rP,hr,t0,t1,t7,t8,c1]
theorem xZ:decide (R8 s≥0)=KM s:=by
 unfold R8 KM
 split
 ·rename_i h
  rw[decide_eq_true h,decide_eq_true (by omega)]
 ·rename_i h
  rw[decide_eq_false h]
  rfl
theorem Cw (h123:call 89 [.slice (some ⟨0,0,none⟩) 41 41,.string s] h=some (iv (R8 s),h)):A8 Tryd.prog call n 87 [.slice (some ⟨0,0,none⟩) 41 41,.string s] h=some (.bool (KM s),h):=by
 refine DA Tryd.func87 rfl (by simp[Tryd.f87]) ?_
 have hr:Tryd.f87.results.toList=[.tmp 4]:=rfl
 simp only[eE,seval,↓eP,rP,hr,h123,xZ]
theorem qQ:GN Tryd.prog h 126 (.pointer (some ⟨0,0,none⟩)) none none none=some (.slice (some ⟨0,0,none⟩) 41 41):=by
 simp[GN,Tryd.underlying126,FM,L_,CJ]
theorem Hq (h117:call 87 [.slice (some ⟨0,0,none⟩) 41 41,.string s] h=some (.bool (KM s),h)):A8 Tryd.prog call n 83 [.string s] h=some (.bool (KM s),h):=by
 refine DA Tryd.func83 rfl (by simp[Tryd.f83]) ?_
 have hr:Tryd.f83.results.toList=[.tmp 2]:=rfl
 simp only[eE,seval,↓eP,rP,hr,wQ,qQ,h117]
theorem Fz (h105:∀ (b:UInt8) h,call 82 [.int .u8 (b.toNat:Int)] h=some (.bool (GZ b.toNat),h)) (h107:∀ (b:UInt8) h,call 84 [.int .u8 (b.toNat:Int)] h=some (.bool (JG b.toNat),h))
  (h106:call 83 [.string s] h=some (.bool (KM s),h)) (hn:64<n):A8 Tryd.prog call n 62 [.string s] h=some (.bool (AT s),h):=by
 refine DA Tryd.func62 rfl (by simp[Tryd.f62]) ?_
 have hr:Tryd.f62.results.toList=[.tmp 2]:=rfl
 unfold AT
 cases hl:s.data.toList with
 | nil=>
  have e0:(s==⟨#[]⟩)=true:=by rw[pJ,hl];rfl
  simp only[eE,seval,↓eP,rP,hr,e0]
 | cons c l=>
  have e0:(s==⟨#[]⟩)=false:=by rw[pJ,hl];rfl
  have i0:=vN (s:=s) (b:=c) (by rw[hl];rfl)
  simp only
  generalize hA:(c :: l).all (fun c=>GZ c.toNat||JG c.toNat)=A
  by_cases hlen:(c :: l).length≤64
  ·have d1:decide (((c :: l).length:Int)>64)=false:=by simp only[decide_eq_false_iff_not];omega
   cases hc:GZ c.toNat with
   | false=>simp only[eE,seval,↓eP,rP,hr,e0,PQ,hl,d1,RP,i0,h105,hc,Bool.and_false,Bool.false_and]
   | true=>
    cases hw:KM s with
    | true=>simp only[eE,seval,↓eP,rP,hr,e0,PQ,hl,d1,RP,i0,h105,hc,h106,hw,Bool.and_false,Bool.false_and]
    | false=>
     simp only[eE,↓reduceIte,Nat.reduceEqDiff,reduceCtorEq,↓eP,rP,Nat.reduceAdd,Nat.reduceLT,hr,e0,PQ,hl,d1,RP,i0,h105,hc,h106,hw,decide_eq_true hlen]
     rw[← hl] at *
     generalize hL:s.data.toList=L at *
     refine WK.loop (fun i s'=>s'.h=h∧s'.T.get 0=.string s∧s'.T.get 22=.int .i64 L.length∧s'.T.get 23=.int .i64 i∧(L.take i).all (fun c=>GZ c.toNat||JG c.toNat)=true) L.length (by omega) ?_ ?_
     ·simp only[eE,↓reduceIte,Nat.reduceEqDiff,reduceCtorEq,↓eP,rP,Nat.reduceAdd,Nat.reduceLT]
      exact⟨rfl,rfl⟩
     ·rintro i ⟨T1,h1⟩ hi ⟨rfl,t0,t22,t23,hall⟩
      simp only at t0 t22 t23
      by_cases hlt:i<L.length
      ·have c1:decide ((i:Int)<(L.length:Int))=true:=by simp;omega
       obtain⟨b,hb⟩:∃ b,L[i]?=some b:=⟨_,List.getElem?_eq_getElem hlt⟩
       have ib:=gQ (s:=s) (i:=i) (b:=b) (by rw[hL];exact hb)
       have w5:IntKind.i64.wrap ((i:Int)+1)=((i+1:Nat):Int):=C9 (by omega) (by omega)
       have hst:(L.take (i+1)).all (fun c=>GZ c.toNat||JG c.toNat)=((L.take i).all (fun c=>GZ c.toNat||JG c.toNat)&&(GZ b.toNat||JG b.toNat)):=by
        rw[List.take_add_one,hb,List.all_append]
        simp
       have hbad:(GZ b.toNat||JG b.toNat)=false→L.all (fun c=>GZ c.toNat||JG c.toNat)=false:=fun h=>by
        rw[List.all_eq_false]
        exact⟨b,List.mem_of_getElem? hb,by rw[h];simp⟩
       cases q1:GZ b.toNat with
       | true=>
        simp only[eE,seval,↓eP,rP,hr,t0,t22,t23,c1,RP,ib,h105,q1]
        exact⟨hlt,w5,by rw[hst,hall,q1];rfl⟩
       | false=>
        cases q2:JG b.toNat with
        | true=>
         simp only[eE,seval,↓eP,rP,hr,t0,t22,t23,c1,RP,ib,h105,h107,q1,q2]
         exact⟨hlt,w5,by rw[hst,hall,q1,q2];rfl⟩
        | false=>
         simp only[eE,seval,↓eP,rP,hr,t0,t22,t23,c1,RP,ib,h105,h107,q1,q2]
         rw[← hA,hbad (by rw[q1,q2];rfl)]
      ·have c1:decide ((i:Int)<(L.length:Int))=false:=by simp;omega
       rw[List.take_of_length_le (by omega)] at hall
       rw[hall] at hA
       subst hA
       simp only[eE,seval,↓eP,rP,hr,t0,t22,t23,c1]
  ·have d1:decide (((c :: l).length:Int)>64)=true:=by simp only[decide_eq_true_eq];omega
   simp only[eE,seval,↓eP,rP,hr,e0,PQ,hl,d1,decide_eq_false hlen,Bool.false_and]
end
section
variable {call:AM} {n:Nat} {h:AA} {s:ByteArray}
end
noncomputable def L0:AM:=ML [61,88,86,48,50,51,999999,999999,999999,
 999999,999999,999999,999999,999999,999999,999999,64,82,84,
 999999,999999,60] ND 12
noncomputable def L1:AM:=ML [85,999999,999999,49,999999,53,999999] L0 12
noncomputable def L2:AM:=MH [62,999999] L1 2000
theorem Dl:CR Tryd.prog L0∧B8 L0:=X8 uM
theorem xE:CR Tryd.prog L1∧B8 L1:=X8 Dl
theorem jF:CR Tryd.prog L2∧B8 L2:=ZD xE
theorem rC (b:UInt8) (h:AA):L1 82 [.int .u8 (b.toNat:Int)] h=some (.bool (GZ b.toNat),h):=KZ (J9 rfl rfl rfl rfl (jQ yT b))
theorem Df (b:UInt8) (h:AA):L1 84 [.int .u8 (b.toNat:Int)] h=some (.bool (JG b.toNat),h):=KZ (J9 rfl rfl rfl rfl (jQ Ga b))
theorem RZ (what kind:Int) (h:AA):L1 60 [iv what,iv kind] h=some (.bool (BX what kind),h):=KZ (J9 rfl rfl rfl rfl ⟨_,z_⟩)
theorem VE {h:AA} (hg:h.get 0=CW) (s:ByteArray):L2 62 [.string s] h=some (.bool (AT s),h):=by
 refine X9 rfl rfl rfl ⟨h,Fz (fun b h=>HK (rC b h)) (fun b h=>HK (Df b h)) ?_ (by decide),fun _ _=>rfl⟩
 rw[VG (n:=1999) rfl]
 refine Hq ?_
 rw[VG (n:=1998) rfl]
 refine Cw ?_
 rw[VG (n:=1997) rfl]
 exact tF hg (by decide)
noncomputable def XF:Array Oper:=DT Tryd.f46 3
noncomputable def DD:Array Oper:=DT Tryd.f46 4
def Ca:List (Bool × Bool × List Operand):=[EN,EN,EN,EN,AH [.tmp 31],AH [.tmp 31],AH [.tmp 31],AH [.tmp 31],AH [.tmp 31],AH [.tmp 31],FO [.tmp 31,.tmp 36],FO [.tmp 31,.tmp 36],AK,AK]
def O_:List (Bool × Bool × List Operand):=[AQ,AQ,AQ,FO [.tmp 39],FO [.tmp 39],AK,AK,AK,AK,AK,AK,AK,AK,AK,AK,AK,AK,AK,AK,AK,AK,AK,AK,AK,AK,AK,AK,AK,AK,AK,AK,AK,AK,AK,AK,AK,AK,AK,AK,AK,AK,AK,AK,AK,AK,AK,AK,AK,AK]
theorem kI:DP XF=Ca:=by kernel_rfl
theorem iF:DP DD=O_:=by kernel_rfl
theorem JK {T:Tr} {d t b:Nat} {v:Value} (ht:t<b) (hd:b≤d):(T.put (some d) v).get t=T.get t:=by
 rw[Tr.get_put,if_neg]
 intro e
 have:d=t:=Option.some.inj e
 omega
theorem zJ {T:Tr} {d t b:Nat} {v:Value} (hd:b≤d) (ht:t<b):(T.put (some d) v).get t=T.get t:=by
 rw[Tr.get_put,if_neg]
 intro e
 have:d=t:=Option.some.inj e
 omega
section
variable {call:AM} {n start a b:Nat} {T:Tr} {h:AA} {k:CG} {x:AB} {nm en nu:Bool} {le mo:Int} {ga0 gb0:Bool}
 (hsn:B8 call) (t8:T.get 8=qP a 0) (t9:T.get 9=qP b 0) (ga:h.get a=.row [.int .i64 x.kind,.string x.name,.int .i64 x.ends,.int .i64 x.n,.int .i64 x.kids] 61 ga0 false)
 (gb:h.get b=.row [.bool nm,.bool en,.bool nu,.int .i64 le,.int .i64 mo] 115 gb0 false) (hb:(b<start)=True)
include hsn t8 t9 ga gb hb
theorem fQ (h91:∀ h',h'.get 0=h.get 0→call 62 [.string x.name] h'=some (.bool (AT x.name),h'))
  (hk:∀ T',T'.get 54=.bool ((AT x.name==nm)&&(nm||x.name==⟨#[]⟩))→(∀ t:Nat,t<39→T'.get t=T.get t)→CF Tryd.prog call n DD start (O_.drop 16) (DD.toList.drop 16) ⟨T',h⟩ k):CF Tryd.prog call n DD start (O_.drop 0) (DD.toList.drop 0) ⟨T,h⟩ k:=by
 have gd6:(DD[6]?).bind (·.dst)=some 45:=by kernel_rfl
 have gd9:(DD[9]?).bind (·.dst)=some 48:=by kernel_rfl
 have gd15:(DD[15]?).bind (·.dst)=some 54:=by kernel_rfl
 have gd19:(DD[19]?).bind (·.dst)=some 58:=by kernel_rfl
 have gd22:(DD[22]?).bind (·.dst)=some 61:=by kernel_rfl
 have gd29:(DD[29]?).bind (·.dst)=some 68:=by kernel_rfl
 have gd33:(DD[33]?).bind (·.dst)=some 72:=by kernel_rfl
 have gd36:(DD[36]?).bind (·.dst)=some 75:=by kernel_rfl
 have gd41:(DD[41]?).bind (·.dst)=some 80:=by kernel_rfl
 have h91':=fun f=>h91 (h.fl f) rfl
 refine AG hsn 0 (some 39) (.fieldAddr 61 (.tmp 8) 1) none ?_
 simp only[rG,seval,AC,AF,AE,K9,t8]
 refine AG hsn 1 (some 40) (.load 9 (.tmp 39)) none ?_
 simp only[rG,seval,AC,AF,AE,GE,RQ,JA,false_implies,ga]
 refine AG hsn 2 (some 41) (.call { callee:=.value (.func 62),args:=#[.tmp 40],argTypes:=#[9] }) none ?_
 simp only[rG,seval,AC,AF,AE,DU,h91']
 refine AG hsn 3 (some 42) (.fieldAddr 115 (.tmp 9) 0) none ?_
 simp only[rG,seval,AC,AF,AE,US,t9]
 refine AG hsn 4 (some 43) (.load 4 (.tmp 42)) none ?_
 simp only[rG,seval,AC,AF,AE,E8,IW,JA,decide_true,forall_const,gb,hb]
 refine AG hsn 5 (some 44) (.binOp .eql 4 (.tmp 41) (.tmp 43) 4) none ?_
 simp only[rG,seval,AC,AF,AE,N1]
 cases q1:(AT x.name==nm)
 ·skip
  refine AG hsn 6 (some 45) (.move (.tmp 44)) none ?_
  simp only[rG,seval,AC,AF,AE]
  refine AG hsn 7 (some 46) (.fieldAddr 115 (.tmp 9) 0) (some (6,true)) ?_
  simp only[rG,seval,AC,AF,AE,gd6]
  refine AG hsn 8 (some 47) (.load 4 (.tmp 46)) (some (6,true)) ?_
  simp only[rG,seval,AC,AF,AE,gd6]
  refine AG hsn 9 (some 48) (.move (.tmp 47)) (some (6,true)) ?_
  simp only[rG,seval,AC,AF,AE,gd6]
  refine AG hsn 10 (some 49) (.fieldAddr 61 (.tmp 8) 1) (some (9,false)) ?_
  simp only[rG,seval,AC,AF,AE,K9,gd9,t8]
  refine AG hsn 11 (some 50) (.load 9 (.tmp 49)) (some (9,false)) ?_
  simp only[rG,seval,AC,AF,AE,false_implies,gd9]
  refine AG hsn 12 (some 51) (.binOp .eql 9 (.tmp 50) (.const (Value.string { data:=#[] })) 9) (some (9,false)) ?_
  simp only[rG,seval,AC,AF,AE,gd9]
  refine AG hsn 13 (some 52) (.pick (.tmp 48) (.const (Value.bool true)) (.tmp 51)) (some (6,true)) ?_
  simp only[rG,seval,AC,AF,AE,gd6]
  refine AG hsn 14 (some 53) (.pick (.tmp 45) (.tmp 52) (.const (Value.bool false))) none ?_
  simp only[rG,seval,AC,AF,AE]
  refine AG hsn 15 (some 54) (.move (.tmp 53)) none ?_
  simp only[rG,seval,AC,AF,AE]
  refine hk _ ?_ ?_
  ·simp only[Tr.get_put,if_true];first | rfl | simp[*]
  ·intro t ht
   simp only[JK ht,Nat.reduceLeDiff]
 ·skip
  refine AG hsn 6 (some 45) (.move (.tmp 44)) none ?_
  simp only[rG,seval,AC,AF,AE]
  refine AG hsn 7 (some 46) (.fieldAddr 115 (.tmp 9) 0) (some (6,true)) ?_
  simp only[rG,seval,AC,AF,AE,US,gd6,t9]
  refine AG hsn 8 (some 47) (.load 4 (.tmp 46)) (some (6,true)) ?_
  simp only[rG,seval,AC,AF,AE,E8,IW,JA,decide_true,false_implies,gd6,gb,hb]
  refine AG hsn 9 (some 48) (.move (.tmp 47)) (some (6,true)) ?_
  simp only[rG,seval,AC,AF,AE,gd6]
  cases nm
  ·skip
   refine AG hsn 10 (some 49) (.fieldAddr 61 (.tmp 8) 1) (some (9,false)) ?_
   simp only[rG,seval,AC,AF,AE,K9,gd9,t8]
   refine AG hsn 11 (some 50) (.load 9 (.tmp 49)) (some (9,false)) ?_
   simp only[rG,seval,AC,AF,AE,GE,RQ,JA,false_implies,gd9,ga]
   refine AG hsn 12 (some 51) (.binOp .eql 9 (.tmp 50) (.const (Value.string { data:=#[] })) 9) (some (9,false)) ?_
   simp only[rG,seval,AC,AF,AE,SL,gd9]
   cases q3:(x.name==⟨#[]⟩)
   ·skip
    refine AG hsn 13 (some 52) (.pick (.tmp 48) (.const (Value.bool true)) (.tmp 51)) (some (6,true)) ?_
    simp only[rG,seval,AC,AF,AE,gd6]
    refine AG hsn 14 (some 53) (.pick (.tmp 45) (.tmp 52) (.const (Value.bool false))) none ?_
    simp only[rG,seval,AC,AF,AE]
    refine AG hsn 15 (some 54) (.move (.tmp 53)) none ?_
    simp only[rG,seval,AC,AF,AE]
    refine hk _ ?_ ?_
    ·simp only[Tr.get_put,if_true];first | rfl | simp[*]
    ·intro t ht
     simp only[JK ht,Nat.reduceLeDiff]
   ·skip
    refine AG hsn 13 (some 52) (.pick (.tmp 48) (.const (Value.bool true)) (.tmp 51)) (some (6,true)) ?_
    simp only[rG,seval,AC,AF,AE,gd6]
    refine AG hsn 14 (some 53) (.pick (.tmp 45) (.tmp 52) (.const (Value.bool false))) none ?_
    simp only[rG,seval,AC,AF,AE]
    refine AG hsn 15 (some 54) (.move (.tmp 53)) none ?_
    simp only[rG,seval,AC,AF,AE]
    refine hk _ ?_ ?_
    ·simp only[Tr.get_put,if_true];first | rfl | simp[*]
    ·intro t ht
     simp only[JK ht,Nat.reduceLeDiff]
  ·skip
   refine AG hsn 10 (some 49) (.fieldAddr 61 (.tmp 8) 1) (some (9,false)) ?_
   simp only[rG,seval,AC,AF,AE,gd9]
   refine AG hsn 11 (some 50) (.load 9 (.tmp 49)) (some (9,false)) ?_
   simp only[rG,seval,AC,AF,AE,gd9]
   refine AG hsn 12 (some 51) (.binOp .eql 9 (.tmp 50) (.const (Value.string { data:=#[] })) 9) (some (9,false)) ?_
   simp only[rG,seval,AC,AF,AE,gd9]
   refine AG hsn 13 (some 52) (.pick (.tmp 48) (.const (Value.bool true)) (.tmp 51)) (some (6,true)) ?_
   simp only[rG,seval,AC,AF,AE,gd6]
   refine AG hsn 14 (some 53) (.pick (.tmp 45) (.tmp 52) (.const (Value.bool false))) none ?_
   simp only[rG,seval,AC,AF,AE]
   refine AG hsn 15 (some 54) (.move (.tmp 53)) none ?_
   simp only[rG,seval,AC,AF,AE]
   refine hk _ ?_ ?_
   ·simp only[Tr.get_put,if_true];first | rfl | simp[*]
   ·intro t ht
    simp only[JK ht,Nat.reduceLeDiff]
theorem iH {c:Bool} (t54:T.get 54=.bool c)
  (hk:∀ T',T'.get 68=.bool (c&&(x.ends==0||en&&x.ends==1))→(∀ t:Nat,t<55→T'.get t=T.get t)→CF Tryd.prog call n DD start (O_.drop 30) (DD.toList.drop 30) ⟨T',h⟩ k):CF Tryd.prog call n DD start (O_.drop 16) (DD.toList.drop 16) ⟨T,h⟩ k:=by
 have gd6:(DD[6]?).bind (·.dst)=some 45:=by kernel_rfl
 have gd9:(DD[9]?).bind (·.dst)=some 48:=by kernel_rfl
 have gd15:(DD[15]?).bind (·.dst)=some 54:=by kernel_rfl
 have gd19:(DD[19]?).bind (·.dst)=some 58:=by kernel_rfl
 have gd22:(DD[22]?).bind (·.dst)=some 61:=by kernel_rfl
 have gd29:(DD[29]?).bind (·.dst)=some 68:=by kernel_rfl
 have gd33:(DD[33]?).bind (·.dst)=some 72:=by kernel_rfl
 have gd36:(DD[36]?).bind (·.dst)=some 75:=by kernel_rfl
 have gd41:(DD[41]?).bind (·.dst)=some 80:=by kernel_rfl
 cases c
 ·skip
  refine AG hsn 16 (some 55) (.fieldAddr 61 (.tmp 8) 2) (some (15,true)) ?_
  simp only[rG,seval,AC,AF,AE,gd15,t54]
  refine AG hsn 17 (some 56) (.load 3 (.tmp 55)) (some (15,true)) ?_
  simp only[rG,seval,AC,AF,AE,gd15,t54]
  refine AG hsn 18 (some 57) (.binOp .eql 3 (.tmp 56) (.const (Value.int IntKind.i64 0)) 3) (some (15,true)) ?_
  simp only[rG,seval,AC,AF,AE,gd15,t54]
  refine AG hsn 19 (some 58) (.move (.tmp 57)) (some (15,true)) ?_
  simp only[rG,seval,AC,AF,AE,gd15,t54]
  refine AG hsn 20 (some 59) (.fieldAddr 115 (.tmp 9) 1) (some (19,false)) ?_
  simp only[rG,seval,AC,AF,AE,UT,gd19,t9]
  refine AG hsn 21 (some 60) (.load 4 (.tmp 59)) (some (19,false)) ?_
  simp only[rG,seval,AC,AF,AE,false_implies,gd19]
  refine AG hsn 22 (some 61) (.move (.tmp 60)) (some (19,false)) ?_
  simp only[rG,seval,AC,AF,AE,gd19]
  refine AG hsn 23 (some 62) (.fieldAddr 61 (.tmp 8) 2) (some (22,true)) ?_
  simp only[rG,seval,AC,AF,AE,RG,gd22,t8]
  refine AG hsn 24 (some 63) (.load 3 (.tmp 62)) (some (22,true)) ?_
  simp only[rG,seval,AC,AF,AE,false_implies,gd22]
  refine AG hsn 25 (some 64) (.binOp .eql 3 (.tmp 63) (.const (Value.int IntKind.i64 1)) 3) (some (22,true)) ?_
  simp only[rG,seval,AC,AF,AE,gd22]
  refine AG hsn 26 (some 65) (.pick (.tmp 61) (.tmp 64) (.const (Value.bool false))) (some (19,false)) ?_
  simp only[rG,seval,AC,AF,AE,gd19]
  refine AG hsn 27 (some 66) (.pick (.tmp 58) (.const (Value.bool true)) (.tmp 65)) (some (15,true)) ?_
  simp only[rG,seval,AC,AF,AE,gd15,t54]
  refine AG hsn 28 (some 67) (.pick (.tmp 54) (.tmp 66) (.const (Value.bool false))) none ?_
  simp only[rG,seval,AC,AF,AE,t54]
  refine AG hsn 29 (some 68) (.move (.tmp 67)) none ?_
  simp only[rG,seval,AC,AF,AE]
  refine hk _ ?_ ?_
  ·simp only[Tr.get_put,if_true];first | rfl | simp[*]
  ·intro t ht
   simp only[JK ht,Nat.reduceLeDiff]
 ·skip
  refine AG hsn 16 (some 55) (.fieldAddr 61 (.tmp 8) 2) (some (15,true)) ?_
  simp only[rG,seval,AC,AF,AE,RG,gd15,t8,t54]
  refine AG hsn 17 (some 56) (.load 3 (.tmp 55)) (some (15,true)) ?_
  simp only[rG,seval,AC,AF,AE,AU,SI,JA,false_implies,gd15,ga,t54]
  refine AG hsn 18 (some 57) (.binOp .eql 3 (.tmp 56) (.const (Value.int IntKind.i64 0)) 3) (some (15,true)) ?_
  simp only[rG,seval,AC,AF,AE,PT,gd15,t54]
  cases q1:(x.ends==0)
  ·skip
   refine AG hsn 19 (some 58) (.move (.tmp 57)) (some (15,true)) ?_
   simp only[rG,seval,AC,AF,AE,gd15,t54]
   refine AG hsn 20 (some 59) (.fieldAddr 115 (.tmp 9) 1) (some (19,false)) ?_
   simp only[rG,seval,AC,AF,AE,UT,gd19,t9]
   refine AG hsn 21 (some 60) (.load 4 (.tmp 59)) (some (19,false)) ?_
   simp only[rG,seval,AC,AF,AE,E8,RQ,JA,decide_true,false_implies,gd19,gb,hb]
   refine AG hsn 22 (some 61) (.move (.tmp 60)) (some (19,false)) ?_
   simp only[rG,seval,AC,AF,AE,gd19]
   cases en
   ·skip
    refine AG hsn 23 (some 62) (.fieldAddr 61 (.tmp 8) 2) (some (22,true)) ?_
    simp only[rG,seval,AC,AF,AE,gd22]
    refine AG hsn 24 (some 63) (.load 3 (.tmp 62)) (some (22,true)) ?_
    simp only[rG,seval,AC,AF,AE,gd22]
    refine AG hsn 25 (some 64) (.binOp .eql 3 (.tmp 63) (.const (Value.int IntKind.i64 1)) 3) (some (22,true)) ?_
    simp only[rG,seval,AC,AF,AE,gd22]
    refine AG hsn 26 (some 65) (.pick (.tmp 61) (.tmp 64) (.const (Value.bool false))) (some (19,false)) ?_
    simp only[rG,seval,AC,AF,AE,gd19]
    refine AG hsn 27 (some 66) (.pick (.tmp 58) (.const (Value.bool true)) (.tmp 65)) (some (15,true)) ?_
    simp only[rG,seval,AC,AF,AE,gd15,t54]
    refine AG hsn 28 (some 67) (.pick (.tmp 54) (.tmp 66) (.const (Value.bool false))) none ?_
    simp only[rG,seval,AC,AF,AE,t54]
    refine AG hsn 29 (some 68) (.move (.tmp 67)) none ?_
    simp only[rG,seval,AC,AF,AE]
    refine hk _ ?_ ?_
    ·simp only[Tr.get_put,if_true];first | rfl | simp[*]
    ·intro t ht
     simp only[JK ht,Nat.reduceLeDiff]
   ·skip
    refine AG hsn 23 (some 62) (.fieldAddr 61 (.tmp 8) 2) (some (22,true)) ?_
    simp only[rG,seval,AC,AF,AE,RG,gd22,t8]
    refine AG hsn 24 (some 63) (.load 3 (.tmp 62)) (some (22,true)) ?_
    simp only[rG,seval,AC,AF,AE,AU,SI,JA,false_implies,gd22,ga]
    refine AG hsn 25 (some 64) (.binOp .eql 3 (.tmp 63) (.const (Value.int IntKind.i64 1)) 3) (some (22,true)) ?_
    simp only[rG,seval,AC,AF,AE,PT,gd22]
    cases q3:(x.ends==1)
    ·skip
     refine AG hsn 26 (some 65) (.pick (.tmp 61) (.tmp 64) (.const (Value.bool false))) (some (19,false)) ?_
     simp only[rG,seval,AC,AF,AE,gd19]
     refine AG hsn 27 (some 66) (.pick (.tmp 58) (.const (Value.bool true)) (.tmp 65)) (some (15,true)) ?_
     simp only[rG,seval,AC,AF,AE,gd15,t54]
     refine AG hsn 28 (some 67) (.pick (.tmp 54) (.tmp 66) (.const (Value.bool false))) none ?_
     simp only[rG,seval,AC,AF,AE,t54]
     refine AG hsn 29 (some 68) (.move (.tmp 67)) none ?_
     simp only[rG,seval,AC,AF,AE]
     refine hk _ ?_ ?_
     ·simp only[Tr.get_put,if_true];first | rfl | simp[*]
     ·intro t ht
      simp only[JK ht,Nat.reduceLeDiff]
    ·skip
     refine AG hsn 26 (some 65) (.pick (.tmp 61) (.tmp 64) (.const (Value.bool false))) (some (19,false)) ?_
     simp only[rG,seval,AC,AF,AE,gd19]
     refine AG hsn 27 (some 66) (.pick (.tmp 58) (.const (Value.bool true)) (.tmp 65)) (some (15,true)) ?_
     simp only[rG,seval,AC,AF,AE,gd15,t54]
     refine AG hsn 28 (some 67) (.pick (.tmp 54) (.tmp 66) (.const (Value.bool false))) none ?_
     simp only[rG,seval,AC,AF,AE,t54]
     refine AG hsn 29 (some 68) (.move (.tmp 67)) none ?_
     simp only[rG,seval,AC,AF,AE]
     refine hk _ ?_ ?_
     ·simp only[Tr.get_put,if_true];first | rfl | simp[*]
     ·intro t ht
      simp only[JK ht,Nat.reduceLeDiff]
  ·skip
   refine AG hsn 19 (some 58) (.move (.tmp 57)) (some (15,true)) ?_
   simp only[rG,seval,AC,AF,AE,gd15,t54]
   refine AG hsn 20 (some 59) (.fieldAddr 115 (.tmp 9) 1) (some (19,false)) ?_
   simp only[rG,seval,AC,AF,AE,gd19]
   refine AG hsn 21 (some 60) (.load 4 (.tmp 59)) (some (19,false)) ?_
   simp only[rG,seval,AC,AF,AE,gd19]
   refine AG hsn 22 (some 61) (.move (.tmp 60)) (some (19,false)) ?_
   simp only[rG,seval,AC,AF,AE,gd19]
   refine AG hsn 23 (some 62) (.fieldAddr 61 (.tmp 8) 2) (some (22,true)) ?_
   simp only[rG,seval,AC,AF,AE,RG,gd22,t8]
   refine AG hsn 24 (some 63) (.load 3 (.tmp 62)) (some (22,true)) ?_
   simp only[rG,seval,AC,AF,AE,false_implies,gd22]
   refine AG hsn 25 (some 64) (.binOp .eql 3 (.tmp 63) (.const (Value.int IntKind.i64 1)) 3) (some (22,true)) ?_
   simp only[rG,seval,AC,AF,AE,gd22]
   refine AG hsn 26 (some 65) (.pick (.tmp 61) (.tmp 64) (.const (Value.bool false))) (some (19,false)) ?_
   simp only[rG,seval,AC,AF,AE,gd19]
   refine AG hsn 27 (some 66) (.pick (.tmp 58) (.const (Value.bool true)) (.tmp 65)) (some (15,true)) ?_
   simp only[rG,seval,AC,AF,AE,gd15,t54]
   refine AG hsn 28 (some 67) (.pick (.tmp 54) (.tmp 66) (.const (Value.bool false))) none ?_
   simp only[rG,seval,AC,AF,AE,t54]
   refine AG hsn 29 (some 68) (.move (.tmp 67)) none ?_
   simp only[rG,seval,AC,AF,AE]
   refine hk _ ?_ ?_
   ·simp only[Tr.get_put,if_true];first | rfl | simp[*]
   ·intro t ht
    simp only[JK ht,Nat.reduceLeDiff]
theorem kA {c:Bool} (t68:T.get 68=.bool c)
  (hk:∀ T',T'.get 10=.bool (c&&(x.n==0||nu&&decide (x.n>0)&&decide (x.n≤1073741824)))→(∀ t:Nat,t<10→T'.get t=T.get t)→CF Tryd.prog call n DD start (O_.drop 49) (DD.toList.drop 49) ⟨T',h⟩ k):CF Tryd.prog call n DD start (O_.drop 30) (DD.toList.drop 30) ⟨T,h⟩ k:=by
 have gd6:(DD[6]?).bind (·.dst)=some 45:=by kernel_rfl
 have gd9:(DD[9]?).bind (·.dst)=some 48:=by kernel_rfl
 have gd15:(DD[15]?).bind (·.dst)=some 54:=by kernel_rfl
 have gd19:(DD[19]?).bind (·.dst)=some 58:=by kernel_rfl
 have gd22:(DD[22]?).bind (·.dst)=some 61:=by kernel_rfl
 have gd29:(DD[29]?).bind (·.dst)=some 68:=by kernel_rfl
 have gd33:(DD[33]?).bind (·.dst)=some 72:=by kernel_rfl
 have gd36:(DD[36]?).bind (·.dst)=some 75:=by kernel_rfl
 have gd41:(DD[41]?).bind (·.dst)=some 80:=by kernel_rfl
 cases c
 ·skip
  refine AG hsn 30 (some 69) (.fieldAddr 61 (.tmp 8) 3) (some (29,true)) ?_
  simp only[rG,seval,AC,AF,AE,gd29,t68]
  refine AG hsn 31 (some 70) (.load 3 (.tmp 69)) (some (29,true)) ?_
  simp only[rG,seval,AC,AF,AE,gd29,t68]
  refine AG hsn 32 (some 71) (.binOp .eql 3 (.tmp 70) (.const (Value.int IntKind.i64 0)) 3) (some (29,true)) ?_
  simp only[rG,seval,AC,AF,AE,gd29,t68]
  refine AG hsn 33 (some 72) (.move (.tmp 71)) (some (29,true)) ?_
  simp only[rG,seval,AC,AF,AE,gd29,t68]
  refine AG hsn 34 (some 73) (.fieldAddr 115 (.tmp 9) 2) (some (33,false)) ?_
  simp only[rG,seval,AC,AF,AE,UX,gd33,t9]
  refine AG hsn 35 (some 74) (.load 4 (.tmp 73)) (some (33,false)) ?_
  simp only[rG,seval,AC,AF,AE,false_implies,gd33]
  refine AG hsn 36 (some 75) (.move (.tmp 74)) (some (33,false)) ?_
  simp only[rG,seval,AC,AF,AE,gd33]
  refine AG hsn 37 (some 76) (.fieldAddr 61 (.tmp 8) 3) (some (36,true)) ?_
  simp only[rG,seval,AC,AF,AE,F8,gd36,t8]
  refine AG hsn 38 (some 77) (.load 3 (.tmp 76)) (some (36,true)) ?_
  simp only[rG,seval,AC,AF,AE,false_implies,gd36]
  refine AG hsn 39 (some 78) (.binOp .gtr 3 (.tmp 77) (.const (Value.int IntKind.i64 0)) 3) (some (36,true)) ?_
  simp only[rG,seval,AC,AF,AE,gd36]
  refine AG hsn 40 (some 79) (.pick (.tmp 75) (.tmp 78) (.const (Value.bool false))) (some (33,false)) ?_
  simp only[rG,seval,AC,AF,AE,gd33]
  refine AG hsn 41 (some 80) (.move (.tmp 79)) (some (33,false)) ?_
  simp only[rG,seval,AC,AF,AE,gd33]
  refine AG hsn 42 (some 81) (.fieldAddr 61 (.tmp 8) 3) (some (41,true)) ?_
  simp only[rG,seval,AC,AF,AE,F8,gd41,t8]
  refine AG hsn 43 (some 82) (.load 3 (.tmp 81)) (some (41,true)) ?_
  simp only[rG,seval,AC,AF,AE,false_implies,gd41]
  refine AG hsn 44 (some 83) (.binOp .leq 3 (.tmp 82) (.const (Value.int IntKind.i64 1073741824)) 3) (some (41,true)) ?_
  simp only[rG,seval,AC,AF,AE,gd41]
  refine AG hsn 45 (some 84) (.pick (.tmp 80) (.tmp 83) (.const (Value.bool false))) (some (33,false)) ?_
  simp only[rG,seval,AC,AF,AE,gd33]
  refine AG hsn 46 (some 85) (.pick (.tmp 72) (.const (Value.bool true)) (.tmp 84)) (some (29,true)) ?_
  simp only[rG,seval,AC,AF,AE,gd29,t68]
  refine AG hsn 47 (some 86) (.pick (.tmp 68) (.tmp 85) (.const (Value.bool false))) none ?_
  simp only[rG,seval,AC,AF,AE,t68]
  refine AG hsn 48 (some 10) (.assign (.tmp 86)) none ?_
  simp only[rG,seval,AC,AF,AE]
  refine hk _ ?_ ?_
  ·simp only[Tr.get_put,if_true];first | rfl | simp[*]
  ·intro t ht
   simp only[JK ht,Nat.reduceLeDiff]
 ·skip
  refine AG hsn 30 (some 69) (.fieldAddr 61 (.tmp 8) 3) (some (29,true)) ?_
  simp only[rG,seval,AC,AF,AE,F8,gd29,t8,t68]
  refine AG hsn 31 (some 70) (.load 3 (.tmp 69)) (some (29,true)) ?_
  simp only[rG,seval,AC,AF,AE,AU,PV,JA,false_implies,gd29,ga,t68]
  refine AG hsn 32 (some 71) (.binOp .eql 3 (.tmp 70) (.const (Value.int IntKind.i64 0)) 3) (some (29,true)) ?_
  simp only[rG,seval,AC,AF,AE,PT,gd29,t68]
  cases q1:(x.n==0)
  ·skip
   refine AG hsn 33 (some 72) (.move (.tmp 71)) (some (29,true)) ?_
   simp only[rG,seval,AC,AF,AE,gd29,t68]
   refine AG hsn 34 (some 73) (.fieldAddr 115 (.tmp 9) 2) (some (33,false)) ?_
   simp only[rG,seval,AC,AF,AE,UX,gd33,t9]
   refine AG hsn 35 (some 74) (.load 4 (.tmp 73)) (some (33,false)) ?_
   simp only[rG,seval,AC,AF,AE,E8,SI,JA,decide_true,false_implies,gd33,gb,hb]
   refine AG hsn 36 (some 75) (.move (.tmp 74)) (some (33,false)) ?_
   simp only[rG,seval,AC,AF,AE,gd33]
   cases nu
   ·skip
    refine AG hsn 37 (some 76) (.fieldAddr 61 (.tmp 8) 3) (some (36,true)) ?_
    simp only[rG,seval,AC,AF,AE,gd36]
    refine AG hsn 38 (some 77) (.load 3 (.tmp 76)) (some (36,true)) ?_
    simp only[rG,seval,AC,AF,AE,gd36]
    refine AG hsn 39 (some 78) (.binOp .gtr 3 (.tmp 77) (.const (Value.int IntKind.i64 0)) 3) (some (36,true)) ?_
    simp only[rG,seval,AC,AF,AE,gd36]
    refine AG hsn 40 (some 79) (.pick (.tmp 75) (.tmp 78) (.const (Value.bool false))) (some (33,false)) ?_
    simp only[rG,seval,AC,AF,AE,gd33]
    refine AG hsn 41 (some 80) (.move (.tmp 79)) (some (33,false)) ?_
    simp only[rG,seval,AC,AF,AE,gd33]
    refine AG hsn 42 (some 81) (.fieldAddr 61 (.tmp 8) 3) (some (41,true)) ?_
    simp only[rG,seval,AC,AF,AE,gd41]
    refine AG hsn 43 (some 82) (.load 3 (.tmp 81)) (some (41,true)) ?_
    simp only[rG,seval,AC,AF,AE,gd41]
    refine AG hsn 44 (some 83) (.binOp .leq 3 (.tmp 82) (.const (Value.int IntKind.i64 1073741824)) 3) (some (41,true)) ?_
    simp only[rG,seval,AC,AF,AE,gd41]
    refine AG hsn 45 (some 84) (.pick (.tmp 80) (.tmp 83) (.const (Value.bool false))) (some (33,false)) ?_
    simp only[rG,seval,AC,AF,AE,gd33]
    refine AG hsn 46 (some 85) (.pick (.tmp 72) (.const (Value.bool true)) (.tmp 84)) (some (29,true)) ?_
    simp only[rG,seval,AC,AF,AE,gd29,t68]
    refine AG hsn 47 (some 86) (.pick (.tmp 68) (.tmp 85) (.const (Value.bool false))) none ?_
    simp only[rG,seval,AC,AF,AE,t68]
    refine AG hsn 48 (some 10) (.assign (.tmp 86)) none ?_
    simp only[rG,seval,AC,AF,AE]
    refine hk _ ?_ ?_
    ·simp only[Tr.get_put,if_true];first | rfl | simp[*]
    ·intro t ht
     simp only[JK ht,Nat.reduceLeDiff]
   ·skip
    refine AG hsn 37 (some 76) (.fieldAddr 61 (.tmp 8) 3) (some (36,true)) ?_
    simp only[rG,seval,AC,AF,AE,F8,gd36,t8]
    refine AG hsn 38 (some 77) (.load 3 (.tmp 76)) (some (36,true)) ?_
    simp only[rG,seval,AC,AF,AE,AU,PV,JA,false_implies,gd36,ga]
    refine AG hsn 39 (some 78) (.binOp .gtr 3 (.tmp 77) (.const (Value.int IntKind.i64 0)) 3) (some (36,true)) ?_
    simp only[rG,seval,AC,AF,AE,TH,gd36]
    cases q3:decide (x.n>0)
    ·skip
     refine AG hsn 40 (some 79) (.pick (.tmp 75) (.tmp 78) (.const (Value.bool false))) (some (33,false)) ?_
     simp only[rG,seval,AC,AF,AE,gd33]
     refine AG hsn 41 (some 80) (.move (.tmp 79)) (some (33,false)) ?_
     simp only[rG,seval,AC,AF,AE,gd33]
     refine AG hsn 42 (some 81) (.fieldAddr 61 (.tmp 8) 3) (some (41,true)) ?_
     simp only[rG,seval,AC,AF,AE,gd41]
     refine AG hsn 43 (some 82) (.load 3 (.tmp 81)) (some (41,true)) ?_
     simp only[rG,seval,AC,AF,AE,gd41]
     refine AG hsn 44 (some 83) (.binOp .leq 3 (.tmp 82) (.const (Value.int IntKind.i64 1073741824)) 3) (some (41,true)) ?_
     simp only[rG,seval,AC,AF,AE,gd41]
     refine AG hsn 45 (some 84) (.pick (.tmp 80) (.tmp 83) (.const (Value.bool false))) (some (33,false)) ?_
     simp only[rG,seval,AC,AF,AE,gd33]
     refine AG hsn 46 (some 85) (.pick (.tmp 72) (.const (Value.bool true)) (.tmp 84)) (some (29,true)) ?_
     simp only[rG,seval,AC,AF,AE,gd29,t68]
     refine AG hsn 47 (some 86) (.pick (.tmp 68) (.tmp 85) (.const (Value.bool false))) none ?_
     simp only[rG,seval,AC,AF,AE,t68]
     refine AG hsn 48 (some 10) (.assign (.tmp 86)) none ?_
     simp only[rG,seval,AC,AF,AE]
     refine hk _ ?_ ?_
     ·simp only[Tr.get_put,if_true];first | rfl | simp[*]
     ·intro t ht
      simp only[JK ht,Nat.reduceLeDiff]
    ·skip
     refine AG hsn 40 (some 79) (.pick (.tmp 75) (.tmp 78) (.const (Value.bool false))) (some (33,false)) ?_
     simp only[rG,seval,AC,AF,AE,gd33]
     refine AG hsn 41 (some 80) (.move (.tmp 79)) (some (33,false)) ?_
     simp only[rG,seval,AC,AF,AE,gd33]
     refine AG hsn 42 (some 81) (.fieldAddr 61 (.tmp 8) 3) (some (41,true)) ?_
     simp only[rG,seval,AC,AF,AE,F8,gd41,t8]
     refine AG hsn 43 (some 82) (.load 3 (.tmp 81)) (some (41,true)) ?_
     simp only[rG,seval,AC,AF,AE,AU,PV,JA,false_implies,gd41,ga]
     refine AG hsn 44 (some 83) (.binOp .leq 3 (.tmp 82) (.const (Value.int IntKind.i64 1073741824)) 3) (some (41,true)) ?_
     simp only[rG,seval,AC,AF,AE,S6,gd41]
     cases q4:decide (x.n≤1073741824)
     ·skip
      refine AG hsn 45 (some 84) (.pick (.tmp 80) (.tmp 83) (.const (Value.bool false))) (some (33,false)) ?_
      simp only[rG,seval,AC,AF,AE,gd33]
      refine AG hsn 46 (some 85) (.pick (.tmp 72) (.const (Value.bool true)) (.tmp 84)) (some (29,true)) ?_
      simp only[rG,seval,AC,AF,AE,gd29,t68]
      refine AG hsn 47 (some 86) (.pick (.tmp 68) (.tmp 85) (.const (Value.bool false))) none ?_
      simp only[rG,seval,AC,AF,AE,t68]
      refine AG hsn 48 (some 10) (.assign (.tmp 86)) none ?_
      simp only[rG,seval,AC,AF,AE]
      refine hk _ ?_ ?_
      ·simp only[Tr.get_put,if_true];first | rfl | simp[*]
      ·intro t ht
       simp only[JK ht,Nat.reduceLeDiff]
     ·skip
      refine AG hsn 45 (some 84) (.pick (.tmp 80) (.tmp 83) (.const (Value.bool false))) (some (33,false)) ?_
      simp only[rG,seval,AC,AF,AE,gd33]
      refine AG hsn 46 (some 85) (.pick (.tmp 72) (.const (Value.bool true)) (.tmp 84)) (some (29,true)) ?_
      simp only[rG,seval,AC,AF,AE,gd29,t68]
      refine AG hsn 47 (some 86) (.pick (.tmp 68) (.tmp 85) (.const (Value.bool false))) none ?_
      simp only[rG,seval,AC,AF,AE,t68]
      refine AG hsn 48 (some 10) (.assign (.tmp 86)) none ?_
      simp only[rG,seval,AC,AF,AE]
      refine hk _ ?_ ?_
      ·simp only[Tr.get_put,if_true];first | rfl | simp[*]
      ·intro t ht
       simp only[JK ht,Nat.reduceLeDiff]
  ·skip
   refine AG hsn 33 (some 72) (.move (.tmp 71)) (some (29,true)) ?_
   simp only[rG,seval,AC,AF,AE,gd29,t68]
   refine AG hsn 34 (some 73) (.fieldAddr 115 (.tmp 9) 2) (some (33,false)) ?_
   simp only[rG,seval,AC,AF,AE,gd33]
   refine AG hsn 35 (some 74) (.load 4 (.tmp 73)) (some (33,false)) ?_
   simp only[rG,seval,AC,AF,AE,gd33]
   refine AG hsn 36 (some 75) (.move (.tmp 74)) (some (33,false)) ?_
   simp only[rG,seval,AC,AF,AE,gd33]
   refine AG hsn 37 (some 76) (.fieldAddr 61 (.tmp 8) 3) (some (36,true)) ?_
   simp only[rG,seval,AC,AF,AE,F8,gd36,t8]
   refine AG hsn 38 (some 77) (.load 3 (.tmp 76)) (some (36,true)) ?_
   simp only[rG,seval,AC,AF,AE,false_implies,gd36]
   refine AG hsn 39 (some 78) (.binOp .gtr 3 (.tmp 77) (.const (Value.int IntKind.i64 0)) 3) (some (36,true)) ?_
   simp only[rG,seval,AC,AF,AE,gd36]
   refine AG hsn 40 (some 79) (.pick (.tmp 75) (.tmp 78) (.const (Value.bool false))) (some (33,false)) ?_
   simp only[rG,seval,AC,AF,AE,gd33]
   refine AG hsn 41 (some 80) (.move (.tmp 79)) (some (33,false)) ?_
   simp only[rG,seval,AC,AF,AE,gd33]
   refine AG hsn 42 (some 81) (.fieldAddr 61 (.tmp 8) 3) (some (41,true)) ?_
   simp only[rG,seval,AC,AF,AE,F8,gd41,t8]
   refine AG hsn 43 (some 82) (.load 3 (.tmp 81)) (some (41,true)) ?_
   simp only[rG,seval,AC,AF,AE,false_implies,gd41]
   refine AG hsn 44 (some 83) (.binOp .leq 3 (.tmp 82) (.const (Value.int IntKind.i64 1073741824)) 3) (some (41,true)) ?_
   simp only[rG,seval,AC,AF,AE,gd41]
   refine AG hsn 45 (some 84) (.pick (.tmp 80) (.tmp 83) (.const (Value.bool false))) (some (33,false)) ?_
   simp only[rG,seval,AC,AF,AE,gd33]
   refine AG hsn 46 (some 85) (.pick (.tmp 72) (.const (Value.bool true)) (.tmp 84)) (some (29,true)) ?_
   simp only[rG,seval,AC,AF,AE,gd29,t68]
   refine AG hsn 47 (some 86) (.pick (.tmp 68) (.tmp 85) (.const (Value.bool false))) none ?_
   simp only[rG,seval,AC,AF,AE,t68]
   refine AG hsn 48 (some 10) (.assign (.tmp 86)) none ?_
   simp only[rG,seval,AC,AF,AE]
   refine hk _ ?_ ?_
   ·simp only[Tr.get_put,if_true];first | rfl | simp[*]
   ·intro t ht
    simp only[JK ht,Nat.reduceLeDiff]
end
def rt:Code→Code
 | .seq _ b=>b
 | c=>c
def lf:Code→Code
 | .seq a _=>a
 | c=>c
noncomputable def RB:Code:=rt (rt (rt (Tryd.f46.body.getD .skip)))
theorem qE {what k:Int} (hw:what≠8) (h:BX what k=true):k≠1:=by
 intro e
 subst e
 unfold BX at h
 rw[if_neg hw] at h
 (repeat' split at h) <;> simp at h
theorem Di {k:Int} {j:Nat}:BD k j≠8:=V8.2
theorem P9 (k:Int):0≤Fsx k:=by unfold Fsx;(repeat' split) <;> omega
section
variable {call:AM} {n:Nat}
structure l7 (call:AM) (l:List AB) (v:Value) (m at_:Nat):Prop where
 asked:∀ (k:Int) (j:Nat) h,1≤k∧k≤54→(k=11∨(j:Int)<CM k)→call 64 [iv k,iv j] h=some (iv (BD k j),h)
 row:∀ (p:Nat) (w:Int) h,at_<p→p≤l.length→w≠8→A7 h v l→h.get 0=CW→0<h.next→h.floor≤h.next→call 46 [v,iv p,iv w] h=some (.tuple #[iv ((BE AT l m p w).1:Int),.bool (BE AT l m p w).2],h)
theorem yO (hsn:B8 call) {l:List AB} {v:Value} {m at_ a b:Nat} {x:AB} {T:Tr} {h:AA} {k:CG} {ga0 gb0:Bool} (hc:l7 call l v m at_) (hn:l.length+3<n) (hlen:l.length<30000000000000) (hat:at_<l.length)
  (h91:∀ h',h'.get 0=CW→call 62 [.string x.name] h'=some (.bool (AT x.name),h'))
  (hv:A7 h v l) (hg:h.get 0=CW) (hn0:0<h.next) (hfl:h.floor≤h.next) (hkind:1≤x.kind∧x.kind≤54) (hk1:x.kind≠1)
  (t0:T.get 0=v) (t1:T.get 1=iv at_) (t8:T.get 8=qP a 0) (t9:T.get 9=qP b 0)
  (ga:h.get a=.row [.int .i64 x.kind,.string x.name,.int .i64 x.ends,.int .i64 x.n,.int .i64 x.kids] 61 ga0 false)
  (gb:h.get b=.row [.bool (J3 x.kind),.bool (MC x.kind),.bool (x.kind==27),.int .i64 (Fsx x.kind),.int .i64 (CM x.kind)] 115 gb0 false) (hb:b<h.next)
  (hk:∀ T' (p:Nat) ok,(p,ok)=(if C8 AT x=true then D2 (fun k next=>BE AT l m next (BD x.kind k)) x.kids.toNat 0 (at_+1) else (at_,false))→T'.get 6=iv p→T'.get 7=.bool ok→k.ap Tryd.prog call n .ret ⟨T',h⟩) :
  WK Tryd.prog call n RB ⟨T,h⟩ k:=by
 show WK _ _ _ (.seq (.region _ _ true) _) _ _
 rw[KX]
 refine WK.flags (ops:=DD) iF ?_
 refine CF.begin ?_
 refine fQ hsn t8 t9 ga gb (by simpa using hb) (fun h' e=>h91 h' (by rw[e];exact hg)) fun T1 e1 k1=>?_
 refine iH hsn (by rw[k1 8 (by decide)];exact t8) (by rw[k1 9 (by decide)];exact t9) ga gb (by simpa using hb) e1 fun T2 e2 k2=>?_
 refine kA hsn (by rw[k2 8 (by decide),k1 8 (by decide)];exact t8) (by rw[k2 9 (by decide),k1 9 (by decide)];exact t9) ga gb (by simpa using hb) e2 fun T3 e3 k3=>?_
 refine CF.done (i:=49) (by kernel_rfl) ?_
 rw[RA]
 have kp:∀ t:Nat,t<10→T3.get t=T.get t:=fun t ht=>by rw[k3 t ht,k2 t (by omega),k1 t (by omega)]
 have u0:=(kp 0 (by decide)).trans t0
 have u1:=(kp 1 (by decide)).trans t1
 have u8:=(kp 8 (by decide)).trans t8
 have u9:=(kp 9 (by decide)).trans t9
 clear k1 k2 k3 kp e1 e2
 generalize hcc:(((AT x.name==J3 x.kind)&&(J3 x.kind||x.name==⟨#[]⟩))&&(x.ends==0||MC x.kind&&x.ends==1)&&(x.n==0||(x.kind==27)&&decide (x.n>0)&&decide (x.n≤1073741824)))=cc at e3
 have hfit:C8 AT x=(cc&&decide (x.kids≥Fsx x.kind)&&(decide (CM x.kind<0)||decide (x.kids≤CM x.kind))):=by
  rw[← hcc]
  rfl
 have bad:C8 AT x=false→∀ T',T'.get 6=iv at_→T'.get 7=.bool false→k.ap Tryd.prog call n .ret ⟨T',h⟩:=fun hf T' h6 h7=>hk T' at_ false (by rw[hf];rfl) h6 h7
 have e1:(x.kind==1)=false:=by simpa using hk1
 have hkids:C8 AT x=true→0≤x.kids∧(decide (CM x.kind<0)||decide (x.kids≤CM x.kind))=true:=fun hf=>by
  rw[hfit] at hf
  simp only[Bool.and_eq_true,decide_eq_true_eq] at hf
  have:=P9 x.kind
  exact⟨by omega,hf.2⟩
 have main:C8 AT x=true→∀ T',T'.get 0=v→T'.get 1=iv at_→T'.get 8=qP a 0→WK Tryd.prog call n (rt (rt RB)) ⟨T',h⟩ k:=by
  intro hf T' w0 w1 w8
  obtain⟨hk0,hkm⟩:=hkids hf
  have hkN:((x.kids.toNat:Nat):Int)=x.kids:=by omega
  have wat:=EU at_ (by omega)
  show WK _ _ _ (.seq _ _) _ _
  simp only[eE,seval,↓eP,rP,w1,w8,ga,e1]
  have res:∀ (p:Nat) ok,D2 (fun k next=>BE AT l m next (BD x.kind k)) x.kids.toNat 0 (at_+1)=(p,ok)→∀ T',T'.get 6=iv p→T'.get 7=.bool ok→k.ap Tryd.prog call n .ret ⟨T',h⟩:=fun p ok e T' h6 h7=>hk T' p ok (by rw[if_pos hf,e]) h6 h7
  generalize hg0:D2 (fun k next=>BE AT l m next (BD x.kind k)) x.kids.toNat 0 (at_+1)=R at res
  refine WK.loop (fun i s=>s.h=h∧s.T.get 0=v∧s.T.get 8=qP a 0∧s.T.get 13=iv i∧∃ p:Nat,∃ ok:Bool,s.T.get 11=iv p∧s.T.get 12=.bool ok∧p≤l.length∧i≤l.length+1 ∧
   ((ok=true∧i≤x.kids.toNat∧at_+1+i≤p∧D2 (fun k next=>BE AT l m next (BD x.kind k)) (x.kids.toNat-i) i p=R)∨(ok=false∧R=(p,false)))) (l.length+2) (by omega) ?_ ?_
  ·simp only[eE,↓reduceIte,Nat.reduceEqDiff,reduceCtorEq,↓eP,rP,Nat.reduceAdd,Nat.reduceLT,w0,w8]
   exact⟨rfl,at_+1,true,wat,rfl,by omega,.inl ⟨rfl,by omega,by rw[Nat.sub_zero];exact hg0⟩⟩
  ·rintro i ⟨T1,h1⟩ hi ⟨rfl,y0,y8,y13,p,ok,y11,y12,hp,hil,hcase⟩
   simp only at y0 y8 y13 y11 y12
   rcases hcase with⟨rfl,hik,hpi,hR⟩ | ⟨rfl,hR⟩
   ·by_cases hlt:i<x.kids.toNat
    ·have c1:decide ((i:Int)<x.kids)=true:=by simp only[decide_eq_true_eq];omega
     have hask:=fun hh=>hc.asked x.kind i hh hkind (by
      simp only[Bool.or_eq_true,decide_eq_true_eq] at hkm
      rcases hkm with h | h
      ·left
       unfold CM at h
       (repeat' split at h) <;> simp_all
      ·right;omega)
     have hrow:=fun hv' hg'=>hc.row p (BD x.kind i) h1 (by omega) hp Di hv' hg' hn0 hfl
     have hrow':=hrow hv hg
     have w5:=EU i (by omega)
     generalize hq:BE AT l m p (BD x.kind i)=q at hrow'
     have hstep:D2 (fun k next=>BE AT l m next (BD x.kind k)) (x.kids.toNat-i) i p=if q.2=true then D2 (fun k next=>BE AT l m next (BD x.kind k)) (x.kids.toNat-(i+1)) (i+1) q.1 else (q.1,false):=by
      obtain⟨r,hr⟩:∃ r,x.kids.toNat-i=r+1:=⟨x.kids.toNat-i-1,by omega⟩
      rw[hr,show x.kids.toNat-(i+1)=r by omega]
      simp only[D2,hq]
     have hq1:q.1≤l.length:=by rw[← hq];exact VQ m p _ hp
     have hq2:q.2=true→p<q.1:=fun h=>by
      have:=Q8 (isName:=AT) (l:=l) m p (BD x.kind i)
      rw[hq] at this
      exact(this h).1
     simp only[eE,seval,↓eP,rP,y0,y8,y13,y11,y12,ga,c1,hask,hrow']
     refine⟨by omega,w5,q.1,q.2,rfl,rfl,hq1,by omega,?_⟩
     cases hb2:q.2 with
     | true=>
      left
      have:=hq2 hb2
      rw[hb2,if_pos rfl] at hstep
      exact⟨rfl,by omega,by omega,by rw[← hstep];exact hR⟩
     | false=>
      right
      rw[hb2,if_neg (by simp)] at hstep
      exact⟨rfl,by rw[← hR,hstep]⟩
    ·have c1:decide ((i:Int)<x.kids)=false:=by simp only[decide_eq_false_iff_not];omega
     have hie:x.kids.toNat-i=0:=by omega
     rw[hie] at hR
     simp only[eE,seval,↓eP,rP,y8,y13,y11,y12,ga,c1]
     refine res p true (by rw[← hR];rfl) _ ?_ ?_
     ·simp only[eE,seval,↓eP,rP]
     ·simp only[eE,seval,↓eP,rP]
   ·cases c1:decide ((i:Int)<x.kids) with
    | true=>
     simp only[eE,seval,↓eP,rP,y8,y13,y11,y12,ga,c1]
     refine res p false hR _ ?_ ?_
     ·simp only[eE,seval,↓eP,rP]
     ·simp only[eE,seval,↓eP,rP]
    | false=>
     simp only[eE,seval,↓eP,rP,y8,y13,y11,y12,ga,c1]
     refine res p false hR _ ?_ ?_
     ·simp only[eE,seval,↓eP,rP]
     ·simp only[eE,seval,↓eP,rP]
 show WK _ _ _ (.seq _ (rt (rt RB))) _ _
 cases cc with
 | false=>
  simp only[eE,seval,↓eP,rP,e3,u1]
  refine bad (by rw[hfit];rfl) _ ?_ ?_
  ·simp only[eE,seval,↓eP,rP]
  ·simp only[eE,seval,↓eP,rP]
 | true=>
  cases d1:decide (x.kids<Fsx x.kind) with
  | true=>
   simp only[eE,seval,↓eP,rP,e3,u1,u8,u9,ga,gb,d1]
   refine bad (by rw[hfit,decide_eq_false (by simp only[decide_eq_true_eq] at d1;omega)];rfl) _ ?_ ?_
   ·simp only[eE,seval,↓eP,rP]
   ·simp only[eE,seval,↓eP,rP]
  | false=>
   have hl:decide (x.kids≥Fsx x.kind)=true:=by simp only[decide_eq_false_iff_not] at d1;simp only[decide_eq_true_eq];omega
   cases d2:decide (CM x.kind≥0) with
   | false=>
    have hm:decide (CM x.kind<0)=true:=by simp only[decide_eq_false_iff_not] at d2;simp only[decide_eq_true_eq];omega
    simp only[eE,seval,↓eP,rP,e3,u8,u9,ga,gb,d1,d2]
    refine main (by rw[hfit,hl,hm];rfl) _ ?_ ?_ ?_
    ·simp only[eE,seval,↓eP,rP,u0]
    ·simp only[eE,seval,↓eP,rP,u1]
    ·simp only[eE,seval,↓eP,rP,u8]
   | true=>
    cases d3:decide (x.kids>CM x.kind) with
    | true=>
     have hm:decide (CM x.kind<0)=false:=by simp only[decide_eq_true_eq] at d2;simp only[decide_eq_false_iff_not];omega
     have hm2:decide (x.kids≤CM x.kind)=false:=by simp only[decide_eq_true_eq] at d3;simp only[decide_eq_false_iff_not];omega
     simp only[eE,seval,↓eP,rP,e3,u1,u8,u9,ga,gb,d1,d2,d3]
     refine bad (by rw[hfit,hl,hm,hm2];rfl) _ ?_ ?_
     ·simp only[eE,seval,↓eP,rP]
     ·simp only[eE,seval,↓eP,rP]
    | false=>
     have hm2:decide (x.kids≤CM x.kind)=true:=by simp only[decide_eq_false_iff_not] at d3;simp only[decide_eq_true_eq];omega
     simp only[eE,seval,↓eP,rP,e3,u8,u9,ga,gb,d1,d2,d3]
     refine main (by rw[hfit,hl,hm2,Bool.or_true];rfl) _ ?_ ?_ ?_
     ·simp only[eE,seval,↓eP,rP,u0]
     ·simp only[eE,seval,↓eP,rP,u1]
     ·simp only[eE,seval,↓eP,rP,u8]
end
theorem O7 {a b:Value} (ha:flat a=true) (hb:flat b=true):EF (.tuple #[a,b])=true:=by simp[EF,ha,hb]
theorem WZ {l:List AB} {m at_:Nat} {what:Int} {x:AB} (hx:l[at_]?=some x):BE AT l (m+1) at_ what=if (BX what x.kind&&C8 AT x)=true then D2 (fun k next=>BE AT l m next (BD x.kind k)) x.kids.toNat 0 (at_+1) else (at_,false):=by
 rw[BE,hx]
theorem bN {l:List AB} {m at_:Nat} {what:Int} (hx:l[at_]?=none):BE AT l (m+1) at_ what=(at_,false):=by
 rw[BE,hx]
section
variable {call:AM} {n:Nat}
theorem kW (hsn:B8 call) {l:List AB} {v:Value} {m at_:Nat} {what:Int} {h:AA} (hc:l7 call l v m at_) (hn:l.length+3<n) (hlen:l.length<30000000000000) (hat:at_≤l.length) (hw:what≠8)
  (h89:∀ w k h,call 60 [iv w,iv k] h=some (.bool (BX w k),h))
  (h90':∀ k h,1≤k∧k≤54→call 61 [iv k] h=some (.agg #[.bool (J3 k),.bool (MC k),.bool (k==27),iv (Fsx k),iv (CM k)],h))
  (h91:∀ s h',h'.get 0=CW→call 62 [.string s] h'=some (.bool (AT s),h'))
  (hv:A7 h v l) (hg:h.get 0=CW) (hn0:0<h.next) (hfl:h.floor≤h.next) :
  ∃ h1,A8 Tryd.prog call n 46 [v,iv at_,iv what] h=some (.tuple #[iv ((BE AT l (m+1) at_ what).1:Int),.bool (BE AT l (m+1) at_ what).2],h1)∧∀ i,i<h.next→h1.get i=h.get i:=by
 refine EL (R:=fun h1=>∀ i,i<h.next→h1.get i=h.get i) Tryd.func46 rfl (by simp[Tryd.f46]) ?_
 have hr:Tryd.f46.results.toList=[.tmp 6,.tmp 7]:=rfl
 have hl22:∀ h',CX Tryd.prog h' 26 v=some (.int .i64 l.length):=fun h'=>hv.len
 cases hx:l[at_]? with
 | none=>
  rw[bN hx]
  have hge:l.length≤at_:=List.getElem?_eq_none_iff.1 hx
  have c1:decide ((at_:Int)≥(l.length:Int))=true:=by simp only[decide_eq_true_eq];omega
  simp only[eE,seval,↓eP,rP,hr,hl22,c1]
  exact fun i hi=>trivial
 | some x=>
  have hlt:at_<l.length:=(List.getElem?_eq_some_iff.1 hx).1
  have c1:decide ((at_:Int)≥(l.length:Int))=false:=by simp only[decide_eq_false_iff_not];omega
  obtain⟨id,p,e0,hid,l0,l1,l2,l3,l4,lr⟩:=hv.row hx
  rw[WZ hx]
  cases hs:BX what x.kind with
  | false=>
   simp only[eE,seval,↓eP,rP,hr,hl22,c1,e0,l0,h89,hs,Bool.false_and]
   exact fun i hi=>trivial
  | true=>
  have hkind:=PK hs
  have h90:=fun h=>h90' x.kind h hkind
  have hidT:(id<h.next)=True:=by simpa using hid
  have hne1:(h.next=h.next+1)=False:=by simp
  have hne2:(h.next+1=h.next)=False:=by simp
  have hfl1:(h.floor≤h.next)=True:=by simpa using hfl
  have hfl2:(h.floor≤h.next+1)=True:=by simp;omega
  have hlt1:(h.next<h.next+1+1)=True:=by simp;omega
  have hlt2:(h.next+1<h.next+1+1)=True:=by simp
  simp only[Bool.true_and]
  simp only[eE,seval,↓eP,rP,hr,hl22,c1,e0,l0,h89,hs]
  refine WK.flags (ops:=XF) kI ?_
  refine CF.begin ?_
  refine AG hsn 0 (some 29) (.move (.tmp 0)) none ?_
  simp only[eE,seval,↓eP,rP,AE,AC,AF,rF,hr,e0,l0,lr,hidT,h90,hne1,hne2,hfl1,hfl2,hlt1,hlt2]
  refine AG hsn 1 (some 30) (.move (.tmp 1)) none ?_
  simp only[eE,seval,↓eP,rP,AE,AC,AF,rF,hr,e0,l0,lr,hidT,h90,hne1,hne2,hfl1,hfl2,hlt1,hlt2]
  refine AG hsn 2 (some 31) (.indexAddr 26 (.tmp 29) (.tmp 30)) none ?_
  simp only[eE,seval,↓eP,rP,AE,AC,AF,rF,hr,e0,l0,lr,hidT,h90,hne1,hne2,hfl1,hfl2,hlt1,hlt2]
  refine AG hsn 3 (some 32) (.load 61 (.tmp 31)) none ?_
  simp only[eE,seval,↓eP,rP,AE,AC,AF,rF,hr,e0,l0,lr,hidT,h90,hne1,hne2,hfl1,hfl2,hlt1,hlt2]
  refine AG hsn 4 (some 33) (.move (.tmp 0)) none ?_
  simp only[eE,seval,↓eP,rP,AE,AC,AF,rF,hr,e0,l0,lr,hidT,h90,hne1,hne2,hfl1,hfl2,hlt1,hlt2]
  refine AG hsn 5 (some 34) (.move (.tmp 1)) none ?_
  simp only[eE,seval,↓eP,rP,AE,AC,AF,rF,hr,e0,l0,lr,hidT,h90,hne1,hne2,hfl1,hfl2,hlt1,hlt2]
  refine AG hsn 6 (some 35) (.indexAddr 26 (.tmp 33) (.tmp 34)) none ?_
  simp only[eE,seval,↓eP,rP,AE,AC,AF,rF,hr,e0,l0,lr,hidT,h90,hne1,hne2,hfl1,hfl2,hlt1,hlt2]
  refine AG hsn 7 (some 36) (.fieldAddr 61 (.tmp 35) 0) none ?_
  simp only[eE,seval,↓eP,rP,AE,AC,AF,rF,hr,e0,l0,lr,hidT,h90,hne1,hne2,hfl1,hfl2,hlt1,hlt2]
  refine AG hsn 8 (some 37) (.load 3 (.tmp 36)) none ?_
  simp only[eE,seval,↓eP,rP,AE,AC,AF,rF,hr,e0,l0,lr,hidT,h90,hne1,hne2,hfl1,hfl2,hlt1,hlt2]
  refine AG hsn 9 (some 38) (.call { callee:=.value (.func 61),args:=#[.tmp 37],argTypes:=#[3] }) none ?_
  simp only[eE,seval,↓eP,rP,AE,AC,AF,rF,hr,e0,l0,lr,hidT,h90,hne1,hne2,hfl1,hfl2,hlt1,hlt2]
  refine AG hsn 10 (some 8) (.alloc 61) none ?_
  simp only[eE,seval,↓eP,rP,AE,AC,AF,rF,hr,e0,l0,lr,hidT,h90,hne1,hne2,hfl1,hfl2,hlt1,hlt2]
  refine AG hsn 11 (some 9) (.alloc 115) none ?_
  simp only[eE,seval,↓eP,rP,AE,AC,AF,rF,hr,e0,l0,lr,hidT,h90,hne1,hne2,hfl1,hfl2,hlt1,hlt2]
  refine AG hsn 12 (none) (.store 61 (.tmp 8) (.tmp 32)) none ?_
  simp only[eE,seval,↓eP,rP,AE,AC,AF,rF,hr,e0,l0,lr,hidT,h90,hne1,hne2,hfl1,hfl2,hlt1,hlt2]
  refine AG hsn 13 (none) (.store 115 (.tmp 9) (.tmp 38)) none ?_
  simp only[eE,seval,↓eP,rP,AE,AC,AF,rF,hr,e0,l0,lr,hidT,h90,hne1,hne2,hfl1,hfl2,hlt1,hlt2]
  refine CF.done (i:=14) (by kernel_rfl) ?_
  rw[RA]
  have hold:∀ i,i<h.next→((((h.push (.row ER 61 false false)).push (.row [.bool false,.bool false,.bool false,.int .i64 0,.int .i64 0] 115 false false)).put h.next (.row [.int .i64 x.kind,.string x.name,.int .i64 x.ends,.int .i64 x.n,.int .i64 x.kids] 61 false false)).put (h.next+1)
    (.row [.bool (J3 x.kind),.bool (MC x.kind),.bool (x.kind==27),iv (Fsx x.kind),iv (CM x.kind)] 115 false false)).get i=h.get i:=fun i hi=>by
   rw[RW,if_neg (by omega),RW,if_neg (by omega),Q4,if_neg (by rw[CY];omega),Q4,if_neg (by omega)]
  refine yO hsn hc hn hlen hlt (h91 x.name) (hv.mono (by simp only[IS,CY];omega) hold) (by rw[hold 0 hn0];exact hg) (by simp only[IS,CY];omega) (by simp only[IS,CY,LM,IC];omega) hkind (qE hw hs) (a:=h.next) (b:=h.next+1) (ga0:=false) (gb0:=false) ?_ ?_ ?_ ?_ ?_ ?_ (by simp only[IS,CY];omega) ?_
  ·simp only[eE,seval,↓eP,rP]
  ·simp only[eE,seval,↓eP,rP]
  ·simp only[eE,seval,↓eP,rP]
  ·simp only[eE,seval,↓eP,rP]
  ·simp only[eE,seval,↓eP,rP,hne1,hlt1]
  ·simp only[eE,seval,↓eP,rP,hlt2]
  ·intro T' q ok hq h6 h7
   simp only[eE,seval,↓eP,rP,hr,h6,h7,← hq]
   intro i hi
   rw[if_neg (by omega),if_neg (by omega),if_neg (by omega),if_neg (by omega)]
end
theorem UI (k:Int) (h:AA) (hk:1≤k∧k≤54):L1 61 [iv k] h=some (.agg #[.bool (J3 k),.bool (MC k),.bool (k==27),iv (Fsx k),iv (CM k)],h):=
 KZ (J9 rfl rfl rfl rfl (M3 tM hk))
theorem wE (k:Int):CM k≤3:=by unfold CM;(repeat' split) <;> omega
theorem Bs {call:AM} {n:Nat} {h:AA} {j:Nat}:A8 Tryd.prog call n 64 [iv 11,iv j] h=some (iv (BD 11 j),h):=by
 refine DA Tryd.func64 rfl (by simp[Tryd.f64]) ?_
 have hr:Tryd.f64.results.toList=[.tmp 4]:=rfl
 simp only[eE,seval,↓eP,rP,hr]
 rfl
theorem iZ (k:Int) (j:Nat) (h:AA) (hk:1≤k∧k≤54) (hj:k=11∨(j:Int)<CM k):L1 64 [iv k,iv j] h=some (iv (BD k j),h):=by
 refine KZ (J9 rfl rfl rfl rfl ?_)
 rcases hj with rfl | hj
 ·exact⟨_,Bs⟩
 ·have:=wE k
  have h3:j=0∨j=1∨j=2:=by omega
  rcases h3 with rfl | rfl | rfl
  ·exact M3 Hp hk
  ·exact M3 Bi hk
  ·have h15:k≠15:=by
    rintro rfl
    revert hj
    decide
   have:=M3 Fv hk
   simp only[if_neg h15] at this
   exact this
theorem UE {l:List AB} {m:Nat} {x:AB} (hx:l[0]?=some x):FE AT l m=if (BX 8 x.kind&&C8 AT x)=true then DN AT l m x.kids.toNat false 1 else (0,false):=by
 rw[FE,hx]
theorem XK {l:List AB} {m:Nat} (hx:l[0]?=none):FE AT l m=(0,false):=by
 rw[FE,hx]
section
variable {call:AM} {n:Nat}
theorem tN (hsn:B8 call) {l:List AB} {v:Value} {m at_ a b:Nat} {x:AB} {T:Tr} {h:AA} {k:CG} {ga0 gb0:Bool} (h92:C8 AT x=true→call 63 [v,iv at_] h=some (.tuple #[iv ((DN AT l m x.kids.toNat false (at_+1)).1:Int),.bool (DN AT l m x.kids.toNat false (at_+1)).2],h)) (hn:l.length+3<n) (hlen:l.length<30000000000000) (hat:at_<l.length)
  (h91:∀ h',h'.get 0=CW→call 62 [.string x.name] h'=some (.bool (AT x.name),h'))
  (hv:A7 h v l) (hg:h.get 0=CW) (hn0:0<h.next) (hfl:h.floor≤h.next) (hkind:1≤x.kind∧x.kind≤54) (hk1:x.kind=1)
  (t0:T.get 0=v) (t1:T.get 1=iv at_) (t8:T.get 8=qP a 0) (t9:T.get 9=qP b 0)
  (ga:h.get a=.row [.int .i64 x.kind,.string x.name,.int .i64 x.ends,.int .i64 x.n,.int .i64 x.kids] 61 ga0 false)
  (gb:h.get b=.row [.bool (J3 x.kind),.bool (MC x.kind),.bool (x.kind==27),.int .i64 (Fsx x.kind),.int .i64 (CM x.kind)] 115 gb0 false) (hb:b<h.next)
  (hk:∀ T' (p:Nat) ok,(p,ok)=(if C8 AT x=true then DN AT l m x.kids.toNat false (at_+1) else (at_,false))→T'.get 6=iv p→T'.get 7=.bool ok→k.ap Tryd.prog call n .ret ⟨T',h⟩) :
  WK Tryd.prog call n RB ⟨T,h⟩ k:=by
 show WK _ _ _ (.seq (.region _ _ true) _) _ _
 rw[KX]
 refine WK.flags (ops:=DD) iF ?_
 refine CF.begin ?_
 refine fQ hsn t8 t9 ga gb (by simpa using hb) (fun h' e=>h91 h' (by rw[e];exact hg)) fun T1 e1 k1=>?_
 refine iH hsn (by rw[k1 8 (by decide)];exact t8) (by rw[k1 9 (by decide)];exact t9) ga gb (by simpa using hb) e1 fun T2 e2 k2=>?_
 refine kA hsn (by rw[k2 8 (by decide),k1 8 (by decide)];exact t8) (by rw[k2 9 (by decide),k1 9 (by decide)];exact t9) ga gb (by simpa using hb) e2 fun T3 e3 k3=>?_
 refine CF.done (i:=49) (by kernel_rfl) ?_
 rw[RA]
 have kp:∀ t:Nat,t<10→T3.get t=T.get t:=fun t ht=>by rw[k3 t ht,k2 t (by omega),k1 t (by omega)]
 have u0:=(kp 0 (by decide)).trans t0
 have u1:=(kp 1 (by decide)).trans t1
 have u8:=(kp 8 (by decide)).trans t8
 have u9:=(kp 9 (by decide)).trans t9
 clear k1 k2 k3 kp e1 e2
 generalize hcc:(((AT x.name==J3 x.kind)&&(J3 x.kind||x.name==⟨#[]⟩))&&(x.ends==0||MC x.kind&&x.ends==1)&&(x.n==0||(x.kind==27)&&decide (x.n>0)&&decide (x.n≤1073741824)))=cc at e3
 have hfit:C8 AT x=(cc&&decide (x.kids≥Fsx x.kind)&&(decide (CM x.kind<0)||decide (x.kids≤CM x.kind))):=by
  rw[← hcc]
  rfl
 have bad:C8 AT x=false→∀ T',T'.get 6=iv at_→T'.get 7=.bool false→k.ap Tryd.prog call n .ret ⟨T',h⟩:=fun hf T' h6 h7=>hk T' at_ false (by rw[hf];rfl) h6 h7
 have e1:(x.kind==1)=true:=by simpa using hk1
 have hkids:C8 AT x=true→0≤x.kids∧(decide (CM x.kind<0)||decide (x.kids≤CM x.kind))=true:=fun hf=>by
  rw[hfit] at hf
  simp only[Bool.and_eq_true,decide_eq_true_eq] at hf
  have:=P9 x.kind
  exact⟨by omega,hf.2⟩
 have main:C8 AT x=true→∀ T',T'.get 0=v→T'.get 1=iv at_→T'.get 8=qP a 0→WK Tryd.prog call n (rt (rt RB)) ⟨T',h⟩ k:=by
  intro hf T' w0 w1 w8
  have h92':=h92 hf
  show WK _ _ _ (.seq _ _) _ _
  simp only[eE,seval,↓eP,rP,w0,w1,w8,ga,e1,h92']
  refine hk _ _ _ (by rw[if_pos hf]) ?_ ?_
  ·simp only[eE,seval,↓eP,rP]
  ·simp only[eE,seval,↓eP,rP]
 show WK _ _ _ (.seq _ (rt (rt RB))) _ _
 cases cc with
 | false=>
  simp only[eE,seval,↓eP,rP,e3,u1]
  refine bad (by rw[hfit];rfl) _ ?_ ?_
  ·simp only[eE,seval,↓eP,rP]
  ·simp only[eE,seval,↓eP,rP]
 | true=>
  cases d1:decide (x.kids<Fsx x.kind) with
  | true=>
   simp only[eE,seval,↓eP,rP,e3,u1,u8,u9,ga,gb,d1]
   refine bad (by rw[hfit,decide_eq_false (by simp only[decide_eq_true_eq] at d1;omega)];rfl) _ ?_ ?_
   ·simp only[eE,seval,↓eP,rP]
   ·simp only[eE,seval,↓eP,rP]
  | false=>
   have hl:decide (x.kids≥Fsx x.kind)=true:=by simp only[decide_eq_false_iff_not] at d1;simp only[decide_eq_true_eq];omega
   cases d2:decide (CM x.kind≥0) with
   | false=>
    have hm:decide (CM x.kind<0)=true:=by simp only[decide_eq_false_iff_not] at d2;simp only[decide_eq_true_eq];omega
    simp only[eE,seval,↓eP,rP,e3,u8,u9,ga,gb,d1,d2]
    refine main (by rw[hfit,hl,hm];rfl) _ ?_ ?_ ?_
    ·simp only[eE,seval,↓eP,rP,u0]
    ·simp only[eE,seval,↓eP,rP,u1]
    ·simp only[eE,seval,↓eP,rP,u8]
   | true=>
    cases d3:decide (x.kids>CM x.kind) with
    | true=>
     have hm:decide (CM x.kind<0)=false:=by simp only[decide_eq_true_eq] at d2;simp only[decide_eq_false_iff_not];omega
     have hm2:decide (x.kids≤CM x.kind)=false:=by simp only[decide_eq_true_eq] at d3;simp only[decide_eq_false_iff_not];omega
     simp only[eE,seval,↓eP,rP,e3,u1,u8,u9,ga,gb,d1,d2,d3]
     refine bad (by rw[hfit,hl,hm,hm2];rfl) _ ?_ ?_
     ·simp only[eE,seval,↓eP,rP]
     ·simp only[eE,seval,↓eP,rP]
    | false=>
     have hm2:decide (x.kids≤CM x.kind)=true:=by simp only[decide_eq_false_iff_not] at d3;simp only[decide_eq_true_eq];omega
     simp only[eE,seval,↓eP,rP,e3,u8,u9,ga,gb,d1,d2,d3]
     refine main (by rw[hfit,hl,hm2,Bool.or_true];rfl) _ ?_ ?_ ?_
     ·simp only[eE,seval,↓eP,rP,u0]
     ·simp only[eE,seval,↓eP,rP,u1]
     ·simp only[eE,seval,↓eP,rP,u8]
theorem fJ (hsn:B8 call) {l:List AB} {v:Value} {m:Nat} {h:AA} (h92:∀ x h,l[0]?=some x→C8 AT x=true→x.kind=1→A7 h v l→h.get 0=CW→0<h.next→h.floor≤h.next→call 63 [v,iv 0] h=some (.tuple #[iv ((DN AT l m x.kids.toNat false 1).1:Int),.bool (DN AT l m x.kids.toNat false 1).2],h)) (hn:l.length+3<n) (hlen:l.length<30000000000000)
  (h89:∀ w k h,call 60 [iv w,iv k] h=some (.bool (BX w k),h))
  (h90':∀ k h,1≤k∧k≤54→call 61 [iv k] h=some (.agg #[.bool (J3 k),.bool (MC k),.bool (k==27),iv (Fsx k),iv (CM k)],h))
  (h91:∀ s h',h'.get 0=CW→call 62 [.string s] h'=some (.bool (AT s),h'))
  (hv:A7 h v l) (hg:h.get 0=CW) (hn0:0<h.next) (hfl:h.floor≤h.next) :
  ∃ h1,A8 Tryd.prog call n 46 [v,iv 0,iv 8] h=some (.tuple #[iv ((FE AT l m).1:Int),.bool (FE AT l m).2],h1)∧∀ i,i<h.next→h1.get i=h.get i:=by
 refine EL (R:=fun h1=>∀ i,i<h.next→h1.get i=h.get i) Tryd.func46 rfl (by simp[Tryd.f46]) ?_
 have hr:Tryd.f46.results.toList=[.tmp 6,.tmp 7]:=rfl
 have hl22:∀ h',CX Tryd.prog h' 26 v=some (.int .i64 l.length):=fun h'=>hv.len
 have e00:((0:Nat):Int)=0:=rfl
 cases hx:l[0]? with
 | none=>
  rw[XK hx]
  have hge:l.length≤0:=List.getElem?_eq_none_iff.1 hx
  have c1:decide ((0:Int)≥(l.length:Int))=true:=by simp only[decide_eq_true_eq];omega
  simp only[eE,↓reduceIte,Nat.reduceEqDiff,reduceCtorEq,↓eP,rP,Nat.reduceAdd,Nat.reduceLT,hr,hl22,c1]
  exact⟨rfl,fun i hi=>trivial⟩
 | some x=>
  have hlt:0<l.length:=(List.getElem?_eq_some_iff.1 hx).1
  have c1:decide ((0:Int)≥(l.length:Int))=false:=by simp only[decide_eq_false_iff_not];omega
  obtain⟨id,p,e0,hid,l0,l1,l2,l3,l4,lr⟩:=hv.row hx
  rw[UE hx]
  rw[e00] at e0
  cases hs:BX 8 x.kind with
  | false=>
   simp only[eE,↓reduceIte,Nat.reduceEqDiff,reduceCtorEq,↓eP,rP,Nat.reduceAdd,Nat.reduceLT,hr,hl22,c1,e0,l0,h89,hs,Bool.false_and]
   exact⟨rfl,fun i hi=>trivial⟩
  | true=>
  have hkind:=PK hs
  have hk1:x.kind=1:=by simpa [BX] using hs
  have h90:=fun h=>h90' x.kind h hkind
  have hidT:(id<h.next)=True:=by simpa using hid
  have hne1:(h.next=h.next+1)=False:=by simp
  have hne2:(h.next+1=h.next)=False:=by simp
  have hfl1:(h.floor≤h.next)=True:=by simpa using hfl
  have hfl2:(h.floor≤h.next+1)=True:=by simp;omega
  have hlt1:(h.next<h.next+1+1)=True:=by simp;omega
  have hlt2:(h.next+1<h.next+1+1)=True:=by simp
  simp only[Bool.true_and]
  simp only[eE,seval,↓eP,rP,hr,hl22,c1,e0,l0,h89,hs]
  refine WK.flags (ops:=XF) kI ?_
  refine CF.begin ?_
  refine AG hsn 0 (some 29) (.move (.tmp 0)) none ?_
  simp only[eE,seval,↓eP,rP,AE,AC,AF,rF]
  refine AG hsn 1 (some 30) (.move (.tmp 1)) none ?_
  simp only[eE,seval,↓eP,rP,AE,AC,AF,rF]
  refine AG hsn 2 (some 31) (.indexAddr 26 (.tmp 29) (.tmp 30)) none ?_
  simp only[eE,seval,↓eP,rP,AE,AC,AF,rF,e0]
  refine AG hsn 3 (some 32) (.load 61 (.tmp 31)) none ?_
  simp only[eE,seval,↓eP,rP,AE,AC,AF,rF,lr,hidT]
  refine AG hsn 4 (some 33) (.move (.tmp 0)) none ?_
  simp only[eE,seval,↓eP,rP,AE,AC,AF,rF]
  refine AG hsn 5 (some 34) (.move (.tmp 1)) none ?_
  simp only[eE,seval,↓eP,rP,AE,AC,AF,rF]
  refine AG hsn 6 (some 35) (.indexAddr 26 (.tmp 33) (.tmp 34)) none ?_
  simp only[eE,seval,↓eP,rP,AE,AC,AF,rF,e0]
  refine AG hsn 7 (some 36) (.fieldAddr 61 (.tmp 35) 0) none ?_
  simp only[eE,seval,↓eP,rP,AE,AC,AF,rF]
  refine AG hsn 8 (some 37) (.load 3 (.tmp 36)) none ?_
  simp only[eE,seval,↓eP,rP,AE,AC,AF,rF,l0,hidT]
  refine AG hsn 9 (some 38) (.call { callee:=.value (.func 61),args:=#[.tmp 37],argTypes:=#[3] }) none ?_
  simp only[eE,seval,↓eP,rP,AE,AC,AF,rF,h90]
  refine AG hsn 10 (some 8) (.alloc 61) none ?_
  simp only[eE,seval,↓eP,rP,AE,AC,AF,rF]
  refine AG hsn 11 (some 9) (.alloc 115) none ?_
  simp only[eE,seval,↓eP,rP,AE,AC,AF,rF]
  refine AG hsn 12 (none) (.store 61 (.tmp 8) (.tmp 32)) none ?_
  simp only[eE,seval,↓eP,rP,AE,AC,AF,rF,hne1,hfl1]
  refine AG hsn 13 (none) (.store 115 (.tmp 9) (.tmp 38)) none ?_
  simp only[eE,seval,↓eP,rP,AE,AC,AF,rF,hne2,hfl2]
  refine CF.done (i:=14) (by kernel_rfl) ?_
  rw[RA]
  have hold:∀ i,i<h.next→((((h.push (.row ER 61 false false)).push (.row [.bool false,.bool false,.bool false,.int .i64 0,.int .i64 0] 115 false false)).put h.next (.row [.int .i64 x.kind,.string x.name,.int .i64 x.ends,.int .i64 x.n,.int .i64 x.kids] 61 false false)).put (h.next+1)
    (.row [.bool (J3 x.kind),.bool (MC x.kind),.bool (x.kind==27),iv (Fsx x.kind),iv (CM x.kind)] 115 false false)).get i=h.get i:=fun i hi=>by
   rw[RW,if_neg (by omega),RW,if_neg (by omega),Q4,if_neg (by rw[CY];omega),Q4,if_neg (by omega)]
  refine tN hsn (m:=m) (at_:=0) (l:=l) (v:=v) (fun hf=>h92 x _ hx hf hk1 (hv.mono (by simp only[IS,CY];omega) hold) (by rw[hold 0 hn0];exact hg) (by simp only[IS,CY];omega) (by simp only[IS,CY,LM,IC];omega)) hn hlen hlt (h91 x.name) (hv.mono (by simp only[IS,CY];omega) hold) (by rw[hold 0 hn0];exact hg) (by simp only[IS,CY];omega) (by simp only[IS,CY,LM,IC];omega) hkind hk1 (a:=h.next) (b:=h.next+1) (ga0:=false) (gb0:=false) ?_ ?_ ?_ ?_ ?_ ?_ (by simp only[IS,CY];omega) ?_
  ·simp only[eE,seval,↓eP,rP]
  ·simp only[eE,↓reduceIte,Nat.reduceEqDiff,reduceCtorEq,↓eP,rP,Nat.reduceAdd,Nat.reduceLT]
   rfl
  ·simp only[eE,seval,↓eP,rP]
  ·simp only[eE,seval,↓eP,rP]
  ·simp only[eE,seval,↓eP,rP,hne1,hlt1]
  ·simp only[eE,seval,↓eP,rP,hlt2]
  ·intro T' q ok hq h6 h7
   simp only[eE,seval,↓eP,rP,h6,h7,← hq]
   intro i hi
   rw[if_neg (by omega),if_neg (by omega),if_neg (by omega),if_neg (by omega)]
def RF (ev:Bool):Int:=if ev=true then 1 else 0
theorem nO {l:List AB} {v:Value} {m:Nat} {x:AB} {h:AA} (hx:l[0]?=some x) (hk0:0≤x.kids) (hn:l.length+3<n) (hlen:l.length<30000000000000) (hv:A7 h v l)
  (h89:∀ w k h,call 60 [iv w,iv k] h=some (.bool (BX w k),h))
  (h73:∀ (p:Nat) (w:Int),0<p→p≤l.length→w≠8→call 46 [v,iv p,iv w] h=some (.tuple #[iv ((BE AT l m p w).1:Int),.bool (BE AT l m p w).2],h)) :
  A8 Tryd.prog call n 63 [v,iv 0] h=some (.tuple #[iv ((DN AT l m x.kids.toNat false 1).1:Int),.bool (DN AT l m x.kids.toNat false 1).2],h):=by
 refine DA Tryd.func63 rfl (by simp[Tryd.f63]) ?_
 have hr:Tryd.f63.results.toList=[.tmp 4,.tmp 5]:=rfl
 have hl22:∀ h',CX Tryd.prog h' 26 v=some (.int .i64 l.length):=fun h'=>hv.len
 have hlt0:0<l.length:=(List.getElem?_eq_some_iff.1 hx).1
 obtain⟨id,q,e0',hid,l0,l1,l2,l3,l4,lr⟩:=hv.row hx
 have e0:CL Tryd.prog 26 v (.int .i64 0)=some (qP id q):=e0'
 have w1:IntKind.i64.wrap (0+1)=((1:Nat):Int):=rfl
 simp only[eE,↓reduceIte,Nat.reduceEqDiff,reduceCtorEq,↓eP,rP,Nat.reduceAdd,Nat.reduceLT,hr,w1]
 generalize hg0:DN AT l m x.kids.toNat false 1=R
 refine WK.loop (fun i s=>s.h=h∧s.T.get 0=v∧s.T.get 1=iv 0∧s.T.get 9=iv i∧∃ p:Nat,∃ ok ev:Bool,s.T.get 6=iv p∧s.T.get 7=.bool ok∧s.T.get 8=iv (RF ev)∧p≤l.length∧0<p∧i≤l.length+1 ∧
  ((ok=true∧i≤x.kids.toNat∧1+i≤p∧DN AT l m (x.kids.toNat-i) ev p=R)∨(ok=false∧R=(p,false)))) (l.length+2) (by omega) ?_ ?_
 ·simp only[eE,↓reduceIte,Nat.reduceEqDiff,reduceCtorEq,↓eP,rP,Nat.reduceAdd,Nat.reduceLT]
  exact⟨rfl,1,true,false,rfl,rfl,rfl,by omega,by omega,.inl ⟨rfl,by omega,by rw[Nat.sub_zero];exact hg0⟩⟩
 ·rintro i ⟨T1,h1⟩ hi ⟨rfl,y0,y1,y9,p,ok,ev,y6,y7,y8,hp,hp0,hil,hcase⟩
  simp only at y0 y1 y9 y6 y7 y8
  rcases hcase with⟨rfl,hik,hpi,hR⟩ | ⟨rfl,hR⟩
  ·by_cases hlt:i<x.kids.toNat
   ·have c1:decide ((i:Int)<x.kids)=true:=by simp only[decide_eq_true_eq];omega
    have w5:=EU i (by omega)
    have hstep:DN AT l m (x.kids.toNat-i) ev p=if (BE AT l m p (F4 ev l[p]?)).2=true then DN AT l m (x.kids.toNat-(i+1)) (ev||LW l[p]?) (BE AT l m p (F4 ev l[p]?)).1 else ((BE AT l m p (F4 ev l[p]?)).1,false):=by
     obtain⟨r,hr⟩:∃ r,x.kids.toNat-i=r+1:=⟨x.kids.toNat-i-1,by omega⟩
     rw[hr,show x.kids.toNat-(i+1)=r by omega]
     rfl
    have hdw:F4 ev l[p]?≠8:=by unfold F4;split <;> decide
    have hrow:=h73 p (F4 ev l[p]?) hp0 hp hdw
    have hev':F4 ev l[p]?=RF (ev||LW l[p]?):=by unfold F4 RF;cases ev <;> cases LW l[p]? <;> rfl
    have fin:i<l.length+2∧∃ p1:Nat,∃ ok ev1:Bool,(((BE AT l m p (F4 ev l[p]?)).1:Nat):Int)=(p1:Int)∧Value.bool (BE AT l m p (F4 ev l[p]?)).2=.bool ok∧RF (ev||LW l[p]?)=RF ev1∧p1≤l.length∧0<p1∧i+1≤l.length+1 ∧
       ((ok=true∧i+1≤x.kids.toNat∧1+(i+1)≤p1∧DN AT l m (x.kids.toNat-(i+1)) ev1 p1=R)∨(ok=false∧R=(p1,false))):=by
     generalize hq:BE AT l m p (F4 ev l[p]?)=Q at *
     have hq1:Q.1≤l.length:=by rw[← hq];exact VQ m p _ hp
     have hq0:p≤Q.1:=by rw[← hq];exact PG m p _
     have hq2:Q.2=true→p<Q.1:=fun h=>by
      have:=Q8 (isName:=AT) (l:=l) m p (F4 ev l[p]?)
      rw[hq] at this
      exact(this h).1
     refine⟨by omega,Q.1,Q.2,(ev||LW l[p]?),rfl,rfl,rfl,hq1,by omega,by omega,?_⟩
     cases hb2:Q.2 with
     | true=>
      left
      have:=hq2 hb2
      rw[hb2,if_pos rfl] at hstep
      exact⟨rfl,by omega,by omega,by rw[← hstep];exact hR⟩
     | false=>
      right
      rw[hb2,if_neg (by simp)] at hstep
      exact⟨rfl,by rw[← hR,hstep]⟩
    cases hxp:l[p]? with
    | none=>
     have hge:l.length≤p:=List.getElem?_eq_none_iff.1 hxp
     have c2:decide ((p:Int)<(l.length:Int))=false:=by simp only[decide_eq_false_iff_not];omega
     have hie:LW (none:Option AB)=false:=rfl
     rw[hxp] at hrow fin hev'
     rw[hie,Bool.or_false] at hev' fin
     rw[hev'] at hrow fin
     simp only[eE,↓reduceIte,Nat.reduceEqDiff,reduceCtorEq,↓eP,rP,Nat.reduceAdd,Nat.reduceLT,y0,y1,y9,y6,y7,y8,e0,l4,c1,hl22,c2,hrow,w5]
     exact fin
    | some y=>
     have hlt2:p<l.length:=(List.getElem?_eq_some_iff.1 hxp).1
     have c2:decide ((p:Int)<(l.length:Int))=true:=by simp only[decide_eq_true_eq];omega
     obtain⟨id2,q2,f0,hid2,m0,m1,m2,m3,m4,mr⟩:=hv.row hxp
     have hie:LW (some y)=BX 1 y.kind:=rfl
     rw[hxp] at hrow fin hev'
     rw[hie] at hev' fin
     rw[hev'] at hrow fin
     cases hs:BX 1 y.kind with
     | false=>
      rw[hs,Bool.or_false] at hrow fin
      simp only[eE,↓reduceIte,Nat.reduceEqDiff,reduceCtorEq,↓eP,rP,Nat.reduceAdd,Nat.reduceLT,y0,y1,y9,y6,y7,y8,e0,l4,c1,hl22,c2,f0,m0,h89,hs,hrow,w5]
      exact fin
     | true=>
      have he1:RF true=1:=rfl
      rw[hs,Bool.or_true,he1] at hrow fin
      simp only[eE,↓reduceIte,Nat.reduceEqDiff,reduceCtorEq,↓eP,rP,Nat.reduceAdd,Nat.reduceLT,y0,y1,y9,y6,y7,e0,l4,c1,hl22,c2,f0,m0,h89,hs,hrow,w5]
      exact fin
   ·have c1:decide ((i:Int)<x.kids)=false:=by simp only[decide_eq_false_iff_not];omega
    have hie:x.kids.toNat-i=0:=by omega
    rw[hie] at hR
    have hR':R=(p,true):=by rw[← hR];rfl
    simp only[eE,seval,↓eP,rP,y0,y1,y9,y6,y7,e0,l4,c1,hR']
  ·cases c1:decide ((i:Int)<x.kids) <;> simp only[eE,seval,↓eP,rP,y0,y1,y9,y6,y7,e0,l4,c1,hR]
end
def RU (a b:Int) (k:Nat):Bool:=if b=0 then false else if 1≤a∧a≤5 then (decide (b<a)||(b==a&&((k:Int)==1||a==3))) else if a=6 then decide (b<6) else false
def GW (a b:Int) (k:Nat):Int:=if RU a b k=true then 1 else 0
def HT (g:Nat→Int × Nat) (l:List AB) (kind:Int):Nat→Nat→Int→Nat→Int × Nat
 | 0,_,most,next=>(most,next)
 | r+1,k,most,next=>match l[next]? with
  | none=>(most,next)
  | some y=>HT g l kind r (k+1) (if (g next).1+GW (CP kind) (CP y.kind) k>most then (g next).1+GW (CP kind) (CP y.kind) k else most) (g next).2
def CV (l:List AB):Nat→Nat→Int × Nat
 | 0,at_=>(0,at_)
 | m+1,at_=>match l[at_]? with
  | none=>(0,at_)
  | some x=>((HT (CV l m) l x.kind x.kids.toNat 0 0 (at_+1)).1+GS x.kind,(HT (CV l m) l x.kind x.kids.toNat 0 0 (at_+1)).2)
theorem W3 (k:Int):0≤GS k∧GS k≤1:=by unfold GS;split <;> omega
theorem bO (a b:Int) (k:Nat):0≤GW a b k∧GW a b k≤1:=by unfold GW;split <;> omega
theorem kL {g:Nat→Int × Nat} {l:List AB} {kind B:Int} (hg:∀ p,0≤(g p).1∧(g p).1≤B):∀ r k most next,0≤most→most≤B+1→0≤(HT g l kind r k most next).1∧(HT g l kind r k most next).1≤B+1:=by
 intro r
 induction r with
 | zero=>intro k most next h0 h1;exact⟨h0,h1⟩
 | succ r ih=>
  intro k most next h0 h1
  unfold HT
  split
  ·exact⟨h0,h1⟩
  ·rename_i y hy
   have:=hg next
   have:=bO (CP kind) (CP y.kind) k
   apply ih <;> split <;> omega
theorem kY {l:List AB}:∀ m at_,0≤(CV l m at_).1∧(CV l m at_).1≤2*(m:Int):=by
 intro m
 induction m with
 | zero=>intro at_;exact⟨Int.le_refl 0,by show (0:Int)≤_;omega⟩
 | succ m ih=>
  intro at_
  unfold CV
  split
  ·exact⟨Int.le_refl 0,by show (0:Int)≤_;omega⟩
  ·rename_i x hx
   have:=kL (g:=CV l m) (l:=l) (kind:=x.kind) (B:=2*(m:Int)) ih x.kids.toNat 0 0 (at_+1) (Int.le_refl 0) (by omega)
   have:=W3 x.kind
   constructor <;> simp only <;> omega
theorem wT {g:Nat→Int × Nat} {l:List AB} {kind:Int} (hg:∀ p,p<l.length→p≤(g p).2∧(g p).2≤l.length):∀ r k most next,next≤l.length→next≤(HT g l kind r k most next).2∧(HT g l kind r k most next).2≤l.length:=by
 intro r
 induction r with
 | zero=>intro k most next h;exact⟨Nat.le_refl _,h⟩
 | succ r ih=>
  intro k most next h
  unfold HT
  split
  ·exact⟨Nat.le_refl _,h⟩
  ·rename_i y hy
   have hlt:next<l.length:=(List.getElem?_eq_some_iff.1 hy).1
   have h1:=hg next hlt
   have h2:=ih (k+1) (if (g next).1+GW (CP kind) (CP y.kind) k>most then (g next).1+GW (CP kind) (CP y.kind) k else most) (g next).2 h1.2
   omega
theorem Aa {l:List AB}:∀ m at_,at_<l.length→at_≤(CV l m at_).2∧(CV l m at_).2≤l.length∧(0<m→at_<(CV l m at_).2):=by
 intro m
 induction m with
 | zero=>intro at_ h;exact⟨Nat.le_refl _,by show at_≤_;omega,fun h=>absurd h (by omega)⟩
 | succ m ih=>
  intro at_ h
  unfold CV
  rw[List.getElem?_eq_getElem h]
  have:=wT (g:=CV l m) (l:=l) (kind:=l[at_].kind) (fun p hp=>⟨(ih p hp).1,(ih p hp).2.1⟩) l[at_].kids.toNat 0 0 (at_+1) h
  simp only
  omega
section
variable {call:AM} {n:Nat} {h:AA}
theorem lU (k:Int) (h:AA) (hk:1≤k∧k≤54):L1 86 [iv k] h=some (iv (GS k),h):=KZ (J9 rfl rfl rfl rfl (M3 Fe hk))
theorem Fk {P K:Int} {k:Nat} {a b:Int} (ha:call 88 [iv P] h=some (iv a,h)) (hb:call 88 [iv K] h=some (iv b,h)):A8 Tryd.prog call n 85 [iv P,iv k,iv K] h=some (.bool (RU a b k),h):=by
 refine DA Tryd.func85 rfl (by simp[Tryd.f85]) ?_
 have hr:Tryd.f85.results.toList=[.tmp 6]:=rfl
 unfold RU
 by_cases b0:b=0
 ·subst b0
  simp only[eE,seval,↓eP,rP,hr,ha,hb]
 have c0:(b==0)=false:=by simpa using b0
 rw[if_neg b0]
 by_cases a15:1≤a∧a≤5
 ·rw[if_pos a15]
  have d1:decide (a≥1)=true:=decide_eq_true a15.1
  have d2:decide (a≤5)=true:=decide_eq_true a15.2
  cases d3:decide (b<a) with
  | true=>simp only[eE,seval,↓eP,rP,hr,ha,hb,c0,d1,d2,d3,Bool.true_or]
  | false=>
   cases d4:(b==a) with
   | false=>simp only[eE,seval,↓eP,rP,hr,ha,hb,c0,d1,d2,d3,d4,Bool.false_or,Bool.false_and]
   | true=>
    cases d5:((k:Int)==1) with
    | true=>simp only[eE,seval,↓eP,rP,hr,ha,hb,c0,d1,d2,d3,d4,d5,Bool.false_or,Bool.true_or]
    | false=>simp only[eE,seval,↓eP,rP,hr,ha,hb,c0,d1,d2,d3,d4,d5,Bool.false_or]
 ·rw[if_neg a15]
  cases d1:decide (a≥1) with
  | false=>
   simp only[decide_eq_false_iff_not] at d1
   have d1':decide (a≥1)=false:=decide_eq_false d1
   have c6:(a==6)=false:=by simp;omega
   rw[if_neg (by omega)]
   simp only[eE,seval,↓eP,rP,hr,ha,hb,c0,d1',c6]
  | true=>
   simp only[decide_eq_true_eq] at d1
   have d1':decide (a≥1)=true:=decide_eq_true d1
   have d2:decide (a≤5)=false:=decide_eq_false (by omega)
   by_cases a6:a=6
   ·subst a6
    simp only[eE,seval,↓eP,rP,hr,ha,hb,c0,d1',d2]
   ·have c6:(a==6)=false:=by simpa using a6
    rw[if_neg a6]
    simp only[eE,seval,↓eP,rP,hr,ha,hb,c0,d1',d2,c6]
noncomputable def iQ:Array Oper:=DT Tryd.f65 6
def yD:List (Bool × Bool × List Operand):=[AQ,AQ,AQ,AQ,AQ,AH [.tmp 30],AH [.tmp 30],AH [.tmp 30],AH [.tmp 30],AH [.tmp 30],AH [.tmp 30],AK]
theorem wI:DP iQ=yD:=by kernel_rfl
theorem lY (hsn:B8 call) {l:List AB} {v:Value} {m at_:Nat} (hn:l.length+3<n) (hlen:l.length<30000000000000) (hm:m<30000000000000) (hat:at_<l.length) (hmm:l.length<at_+1+m) (hv:A7 h v l) (hval:∀ (i:Nat) x,l[i]?=some x→1≤x.kind∧x.kind≤54)
  (h108:∀ P K (k:Nat) h,1≤P∧P≤54→1≤K∧K≤54→call 85 [iv P,iv k,iv K] h=some (.bool (RU (CP P) (CP K) k),h)) (h109:∀ k h,1≤k∧k≤54→call 86 [iv k] h=some (iv (GS k),h))
  (h94:∀ p:Nat,at_<p→p<l.length→call 65 [v,iv p] h=some (.tuple #[iv (CV l m p).1,iv ((CV l m p).2:Int)],h)) :
  A8 Tryd.prog call n 65 [v,iv at_] h=some (.tuple #[iv (CV l (m+1) at_).1,iv ((CV l (m+1) at_).2:Int)],h):=by
 refine DA Tryd.func65 rfl (by simp[Tryd.f65]) ?_
 have hr:Tryd.f65.results.toList=[.tmp 4,.tmp 5]:=rfl
 have hl22:∀ h',CX Tryd.prog h' 26 v=some (.int .i64 l.length):=fun h'=>hv.len
 obtain⟨x,hx⟩:∃ x,l[at_]?=some x:=⟨_,List.getElem?_eq_getElem hat⟩
 obtain⟨id,q,e0,hid,l0,l1,l2,l3,l4,lr⟩:=hv.row hx
 have hkx:=hval at_ x hx
 have w1:=EU at_ (by omega)
 have hres:CV l (m+1) at_=((HT (CV l m) l x.kind x.kids.toNat 0 0 (at_+1)).1+GS x.kind,(HT (CV l m) l x.kind x.kids.toNat 0 0 (at_+1)).2):=by rw[CV,hx]
 rw[hres]
 have hop:=fun h=>h109 x.kind h hkx
 have hopl:=W3 x.kind
 have hRle:=kL (g:=CV l m) (l:=l) (kind:=x.kind) (B:=2*(m:Int)) (kY m) x.kids.toNat 0 0 (at_+1) (Int.le_refl 0) (by omega)
 simp only[eE,seval,↓eP,rP,hr,w1]
 generalize hg0:HT (CV l m) l x.kind x.kids.toNat 0 0 (at_+1)=R at *
 refine WK.loop (fun i s=>s.h=h∧s.T.get 0=v∧s.T.get 1=iv at_∧s.T.get 6=iv i∧∃ (most:Int) (p:Nat),s.T.get 4=iv most∧s.T.get 5=iv p∧at_+1+i≤p∧p≤l.length∧0≤most∧most≤2*(m:Int)+1∧i≤x.kids.toNat∧HT (CV l m) l x.kind (x.kids.toNat-i) i most p=R) (l.length+2) (by omega) ?_ ?_
 ·simp only[eE,↓reduceIte,Nat.reduceEqDiff,reduceCtorEq,↓eP,rP,Nat.reduceAdd,Nat.reduceLT]
  exact⟨rfl,0,at_+1,rfl,rfl,by omega,by omega,by omega,by omega,by rw[Nat.sub_zero];exact hg0⟩
 ·rintro i ⟨T1,h1⟩ hi ⟨rfl,y0,y1,y6,most,p,y4,y5,hip,hp,hm0,hm1,hik,hR⟩
  simp only at y0 y1 y4 y5 y6
  have done:∀ T':Tr,T'.get 4=iv most→T'.get 5=iv p→R=(most,p)→True:=fun _ _ _ _=>trivial
  by_cases hlt:i<x.kids.toNat
  ·have c1:decide ((i:Int)<x.kids)=true:=by simp only[decide_eq_true_eq];omega
   obtain⟨r,hr1⟩:∃ r,x.kids.toNat-i=r+1:=⟨x.kids.toNat-i-1,by omega⟩
   rw[hr1] at hR
   by_cases hpl:p<l.length
   ·have c2:decide ((p:Int)<(l.length:Int))=true:=by simp only[decide_eq_true_eq];omega
    obtain⟨y,hy⟩:∃ y,l[p]?=some y:=⟨_,List.getElem?_eq_getElem hpl⟩
    obtain⟨id2,q2,f0,hid2,m0,m1,m2,m3,m4,mr⟩:=hv.row hy
    have hky:=hval p y hy
    have hL:=fun hh=>h108 x.kind y.kind i hh hkx hky
    have h94':=h94 p (by omega) hpl
    have hle:=kY (l:=l) m p
    have hnx:=Aa (l:=l) m p hpl
    have w5:=EU i (by omega)
    have hloI:=bO (CP x.kind) (CP y.kind) i
    have w6:IntKind.i64.wrap ((CV l m p).1+GW (CP x.kind) (CP y.kind) i)=(CV l m p).1+GW (CP x.kind) (CP y.kind) i:=C9 (by omega) (by omega)
    have hstep:HT (CV l m) l x.kind (x.kids.toNat-(i+1)) (i+1) (if (CV l m p).1+GW (CP x.kind) (CP y.kind) i>most then (CV l m p).1+GW (CP x.kind) (CP y.kind) i else most) (CV l m p).2=R:=by
     rw[← hR,show x.kids.toNat-(i+1)=r by omega]
     simp only[HT,hy]
    simp only[eE,seval,↓eP,rP,y0,y1,y4,y5,y6,e0,l0,l4,c1,hl22,c2]
    refine WK.flags (ops:=iQ) wI ?_
    refine CF.begin ?_
    refine AG hsn 0 (some 27) (.move (.tmp 0)) none ?_
    simp only[eE,seval,↓eP,rP,AE,AC,AF,rF,y0,y1,y4,y5,y6,e0,l0,f0,m0,hL]
    refine AG hsn 1 (some 28) (.move (.tmp 1)) none ?_
    simp only[eE,seval,↓eP,rP,AE,AC,AF,rF,y0,y1,y4,y5,y6,e0,l0,f0,m0,hL]
    refine AG hsn 2 (some 29) (.indexAddr 26 (.tmp 27) (.tmp 28)) none ?_
    simp only[eE,seval,↓eP,rP,AE,AC,AF,rF,y0,y1,y4,y5,y6,e0,l0,f0,m0,hL]
    refine AG hsn 3 (some 30) (.fieldAddr 61 (.tmp 29) 0) none ?_
    simp only[eE,seval,↓eP,rP,AE,AC,AF,rF,y0,y1,y4,y5,y6,e0,l0,f0,m0,hL]
    refine AG hsn 4 (some 31) (.load 3 (.tmp 30)) none ?_
    simp only[eE,seval,↓eP,rP,AE,AC,AF,rF,y0,y1,y4,y5,y6,e0,l0,f0,m0,hL]
    refine AG hsn 5 (some 32) (.move (.tmp 6)) none ?_
    simp only[eE,seval,↓eP,rP,AE,AC,AF,rF,y0,y1,y4,y5,y6,e0,l0,f0,m0,hL]
    refine AG hsn 6 (some 33) (.move (.tmp 0)) none ?_
    simp only[eE,seval,↓eP,rP,AE,AC,AF,rF,y0,y1,y4,y5,y6,e0,l0,f0,m0,hL]
    refine AG hsn 7 (some 34) (.move (.tmp 5)) none ?_
    simp only[eE,seval,↓eP,rP,AE,AC,AF,rF,y0,y1,y4,y5,y6,e0,l0,f0,m0,hL]
    refine AG hsn 8 (some 35) (.indexAddr 26 (.tmp 33) (.tmp 34)) none ?_
    simp only[eE,seval,↓eP,rP,AE,AC,AF,rF,y0,y1,y4,y5,y6,e0,l0,f0,m0,hL]
    refine AG hsn 9 (some 36) (.fieldAddr 61 (.tmp 35) 0) none ?_
    simp only[eE,seval,↓eP,rP,AE,AC,AF,rF,y0,y1,y4,y5,y6,e0,l0,f0,m0,hL]
    refine AG hsn 10 (some 37) (.load 3 (.tmp 36)) none ?_
    simp only[eE,seval,↓eP,rP,AE,AC,AF,rF,y0,y1,y4,y5,y6,e0,l0,f0,m0,hL]
    refine AG hsn 11 (some 38) (.call { callee:=.value (.func 85),args:=#[.tmp 31,.tmp 32,.tmp 37],argTypes:=#[3,3,3] }) none ?_
    simp only[eE,seval,↓eP,rP,AE,AC,AF,rF,y0,y1,y4,y5,y6,e0,l0,f0,m0,hL]
    refine CF.done (i:=12) (by kernel_rfl) ?_
    cases hlo:RU (CP x.kind) (CP y.kind) i with
    | false=>
     have hI:GW (CP x.kind) (CP y.kind) i=0:=by unfold GW;rw[hlo];rfl
     rw[hI] at w6 hstep
     simp only[eE,seval,↓eP,rP,y0,y1,y4,y5,y6,h94',w5,w6]
     exact⟨by omega,_,_,rfl,rfl,by omega,by omega,by split <;> omega,by split <;> omega,by omega,hstep⟩
    | true=>
     have hI:GW (CP x.kind) (CP y.kind) i=1:=by unfold GW;rw[hlo];rfl
     rw[hI] at w6 hstep
     simp only[eE,seval,↓eP,rP,y0,y1,y4,y5,y6,h94',w5,w6]
     exact⟨by omega,_,_,rfl,rfl,by omega,by omega,by split <;> omega,by split <;> omega,by omega,hstep⟩
   ·have c2:decide ((p:Int)<(l.length:Int))=false:=by simp only[decide_eq_false_iff_not];omega
    have hRe:R=(most,p):=by
     rw[← hR]
     simp only[HT,List.getElem?_eq_none (Nat.le_of_not_lt hpl)]
    subst hRe
    have w7:IntKind.i64.wrap (most+GS x.kind)=most+GS x.kind:=C9 (by omega) (by omega)
    simp only[eE,seval,↓eP,rP,hr,y0,y1,y4,y5,y6,e0,l0,l4,c1,hl22,c2,hop,w7]
  ·have c1:decide ((i:Int)<x.kids)=false:=by simp only[decide_eq_false_iff_not];omega
   have hRe:R=(most,p):=by
    rw[← hR,show x.kids.toNat-i=0 by omega]
    rfl
   subst hRe
   have w7:IntKind.i64.wrap (most+GS x.kind)=most+GS x.kind:=C9 (by omega) (by omega)
   simp only[eE,seval,↓eP,rP,hr,y0,y1,y4,y5,y6,e0,l0,l4,c1,hop,w7]
end
def ZJ (l:List AB) (i:Nat):Prop:=∃ x,l[i]?=some x∧1≤x.kind∧x.kind≤54
theorem Z2 {g:Nat→Nat→Nat × Bool} {V:Nat→Prop} (hg:∀ k p,(g k p).2=true→∀ i,p≤i→i<(g k p).1→V i):∀ r k p,(D2 g r k p).2=true→∀ i,p≤i→i<(D2 g r k p).1→V i:=by
 intro r
 induction r with
 | zero=>intro k p _ i h1 h2;exact absurd (show i<p from h2) (by omega)
 | succ r ih=>
  intro k p h i h1 h2
  unfold D2 at h h2
  split at h
  ·rename_i hc
   rw[if_pos hc] at h2
   rcases Nat.lt_or_ge i (g k p).1 with h3 | h3
   ·exact hg k p hc i h1 h3
   ·exact ih _ _ h i h3 h2
  ·cases h
theorem Jg {l:List AB}:∀ m at_ what,(BE AT l m at_ what).2=true→∀ i,at_≤i→i<(BE AT l m at_ what).1→ZJ l i:=by
 intro m
 induction m with
 | zero=>intro at_ what h;cases h
 | succ m ih=>
  intro at_ what
  unfold BE
  cases hx:l[at_]? with
  | none=>intro h;cases h
  | some x=>
   simp only
   split
   ·rename_i hc
    intro h i h1 h2
    rcases Nat.lt_or_ge at_ i with h3 | h3
    ·exact Z2 (V:=ZJ l) (fun k p hk i h1 h2=>ih p (BD x.kind k) hk i h1 h2) x.kids.toNat 0 (at_+1) h i h3 h2
    ·have:i=at_:=by omega
     subst this
     exact⟨x,hx,PK (Bool.and_eq_true_iff.1 hc).1⟩
   ·intro h;cases h
theorem Jk {l:List AB} {m:Nat}:∀ r ev p,(DN AT l m r ev p).2=true→∀ i,p≤i→i<(DN AT l m r ev p).1→ZJ l i:=by
 intro r
 induction r with
 | zero=>intro ev p _ i h1 h2;exact absurd (show i<p from h2) (by omega)
 | succ r ih=>
  intro ev p h i h1 h2
  unfold DN at h h2
  split at h
  ·rename_i hc
   rw[if_pos hc] at h2
   rcases Nat.lt_or_ge i (BE AT l m p (F4 ev l[p]?)).1 with h3 | h3
   ·exact Jg m p _ hc i h1 h3
   ·exact ih _ _ h i h3 h2
  ·cases h
theorem pT {l:List AB} (h:IJ AT l=none):∀ (i:Nat) x,l[i]?=some x→1≤x.kind∧x.kind≤54:=by
 unfold IJ at h
 split at h
 ·rename_i hc
  obtain⟨h1,h2⟩:=hc
  intro i x hx
  have hlt:=(List.getElem?_eq_some_iff.1 hx).1
  unfold FE at h1 h2
  cases h0:l[0]? with
  | none=>rw[h0] at h1;cases h1
  | some y=>
   rw[h0] at h1 h2
   simp only at h1 h2
   split at h1
   ·rename_i hc
    rw[if_pos hc] at h2
    rcases Nat.eq_zero_or_pos i with rfl | hp
    ·rw[h0] at hx
     cases hx
     exact PK (Bool.and_eq_true_iff.1 hc).1
    ·obtain⟨z,hz,hv⟩:=Jk y.kids.toNat false 1 h1 i hp (by omega)
     rw[hx] at hz
     cases hz
     exact hv
   ·cases h1
 ·cases h
theorem U8 {l:List AB} (h:IJ AT l=none):0<l.length:=by
 rcases Nat.eq_zero_or_pos l.length with h0 | h0
 ·have:l=[]:=List.length_eq_zero_iff.1 h0
  subst this
  revert h
  unfold IJ FE
  simp
 ·exact h0
theorem JS:BG Tryd.prog 36=some 2:=by kernel_rfl
theorem wR:E1 Tryd.prog 36=some true:=by kernel_rfl
theorem E2:CU Tryd.prog 36=some (.agg #[.int .i64 0,.int .i64 0]):=by kernel_rfl
theorem YN:H0 Tryd.prog (match Tryd.prog.underlying 36 with | some (.struct fs)=>fs.toList | _=>[])=some [(0,1),(1,1)]:=by kernel_rfl
abbrev CD (e a:Int):Value:=.agg #[.int .i64 e,.int .i64 a]
theorem EZ {e a:Int}:flat (CD e a)=true:=rfl
theorem I_ {e a:Int}:CZ Tryd.prog 36 [(0,.int .i64 e),(1,.int .i64 a)]=some (CD e a):=by
 have h:=YN
 rw[Tryd.underlying36] at h
 simp only at h
 simp only[CZ,E2,EZ,if_true,Tryd.underlying36,h]
 rfl
theorem RH {e:Int}:CZ Tryd.prog 36 [(0,.int .i64 e)]=some (CD e 0):=by
 have h:=YN
 rw[Tryd.underlying36] at h
 simp only at h
 simp only[CZ,E2,EZ,if_true,Tryd.underlying36,h]
 rfl
theorem MA:CZ Tryd.prog 36 []=some (CD 0 0):=by
 have h:=YN
 rw[Tryd.underlying36] at h
 simp only at h
 simp only[CZ,E2,EZ,if_true,Tryd.underlying36,h]
 rfl
noncomputable def aD (h:AA) (id:Nat) (a b:Int):A9→Option AA
 | .row [_,_] ty g false=>if h.floor≤id then some (h.put id (.row [.int .i64 a,.int .i64 b] ty g false)) else none
 | _=>A_ Tryd.prog h 36 (qP id 0) (CD a b)
theorem TV {h:AA} {id:Nat} {a b:Int}:A_ Tryd.prog h 36 (qP id 0) (CD a b)=aD h id a b (h.get id):=by
 cases hg:h.get id with
 | dead=>rfl
 | map _=>rfl
 | row cs ty g ro=>
  match cs,ro with
  | [c,d],false=>
   simp only[aD]
   split
   ·rename_i hf
    simp[A_,JS,FW,hg,hf,Go.Sx.lay,Value.cells,one]
   ·rename_i hf
    simp[A_,JS,FW,hg,hf,Go.Sx.lay,Value.cells,one]
  | [c,d],true=>rfl
  | [],ro=>rfl
  | [c],ro=>rfl
  | c :: d :: e :: l,ro=>rfl
theorem TZ {h:AA} {id:Nat} {a b:Int} {x y:Value} {ty:TypeId} {g:Bool}:aD h id a b (.row [x,y] ty g false)=if h.floor≤id then some (h.put id (.row [.int .i64 a,.int .i64 b] ty g false)) else none:=rfl
theorem EB {h:AA} {id off:Nat}:DY Tryd.prog h 36 (qP id off)=BF 2 off (h.get id):=LX wR JS
theorem V6 {a b:Value} {ty:TypeId} {g ro:Bool}:BF 2 0 (.row [a,b] ty g ro)=some (.agg #[a,b]):=rfl
theorem fX (k:Int) (h:AA) (hk:1≤k∧k≤54):L0 88 [iv k] h=some (iv (CP k),h):=J9 rfl rfl rfl rfl (M3 oP hk)
theorem jL (P Q:Int) (k:Nat) (h:AA) (hP:1≤P∧P≤54) (hQ:1≤Q∧Q≤54):L1 85 [iv P,iv k,iv Q] h=some (.bool (RU (CP P) (CP Q) k),h):=
 J9 (II rfl rfl) rfl rfl rfl ⟨_,Fk (HK (fX P _ hP)) (HK (fX Q _ hQ))⟩
theorem Gw {l:List AB} {m:Nat}:(FE AT l m).1≤l.length:=by
 unfold FE
 split
 ·exact Nat.zero_le _
 ·rename_i x hx
  have:=(List.getElem?_eq_some_iff.1 hx).1
  split
  ·exact mO _ _ _ this
  ·exact Nat.zero_le _
def CQ (l:List AB):Int × Int:=match IJ AT l with
 | some p=>(23,(p:Int))
 | none=>if (CV l (l.length+1) 0).1>64 then (22,0) else (0,0)
section
variable {call:AM} {n:Nat}
theorem mI {l:List AB} {v:Value} {h:AA} {m:Nat} (hv:A7 h v l) (hpos:0<l.length) (h94:call 65 [v,iv 0] h=some (.tuple #[iv (CV l m 0).1,iv ((CV l m 0).2:Int)],h)) :
  A8 Tryd.prog call n 47 [v] h=some (iv (CV l m 0).1,h):=by
 refine DA Tryd.func47 rfl (by simp[Tryd.f47]) ?_
 have hr:Tryd.f47.results.toList=[.tmp 2]:=rfl
 have hl22:∀ h',CX Tryd.prog h' 26 v=some (.int .i64 l.length):=fun h'=>hv.len
 have c0:((l.length:Int)==0)=false:=by rw[beq_eq_false_iff_ne];omega
 simp only[eE,seval,↓eP,rP,hr,hl22,c0,h94]
theorem mJ {l:List AB} {v:Value} {h:AA} (hv:A7 h v l) (hg:h.get 0=CW) (hn0:0<h.next) (hfl:h.floor≤h.next)
  (h73:∀ h',A7 h' v l→h'.get 0=CW→0<h'.next→h'.floor≤h'.next→call 46 [v,iv 0,iv 8] h'=some (.tuple #[iv ((FE AT l (l.length+1)).1:Int),.bool (FE AT l (l.length+1)).2],h'))
  (h74:IJ AT l=none→∀ h',A7 h' v l→call 47 [v] h'=some (iv (CV l (l.length+1) 0).1,h')) :
  ∃ h1,A8 Tryd.prog call n 27 [v] h=some (CD (CQ l).1 (CQ l).2,h1)∧∀ i,i<h.next→h1.get i=h.get i:=by
 refine EL (R:=fun h1=>∀ i,i<h.next→h1.get i=h.get i) Tryd.func27 rfl (by simp[Tryd.f27]) ?_
 have hr:Tryd.f27.results.toList=[.cell 2 36]:=rfl
 have hl22:∀ h',CX Tryd.prog h' 26 v=some (.int .i64 l.length):=fun h'=>hv.len
 have hold:∀ o:A9,∀ i,i<h.next→(h.push o).get i=h.get i:=fun o i hi=>AR hi
 have hvp:=hv.mono (h':=h.push (.row [.int .i64 0,.int .i64 0] 36 false false)) (by show h.next≤h.next+1;omega) (hold _)
 have h73':=h73 _ hvp (by rw[hold _ 0 hn0];exact hg) (by show 0<h.next+1;omega) (by show h.floor≤h.next+1;omega)
 have hflT:(h.floor≤h.next)=True:=by simpa using hfl
 have hltT:(h.next<h.next+1)=True:=by simp
 have hvq:=fun o=>(hvp.mono (h':=(h.push (.row [.int .i64 0,.int .i64 0] 36 false false)).put h.next o) (by show h.next+1≤h.next+1;omega))
 have hle:=Gw (l:=l) (m:=l.length+1)
 unfold CQ
 cases hs:IJ AT l with
 | some p=>
  unfold IJ at hs
  split at hs
  ·cases hs
  ·rename_i hc
   generalize FE AT l (l.length+1)=q at *
   cases hs
   cases q2:q.2 with
   | false=>
    rw[q2] at h73'
    simp only[eE,seval,↓eP,rP,hr,P8,E2,EZ,h73',I_,TV,TZ,EB,V6,hflT,hltT]
    intro i hi
    rw[if_neg (by omega),if_neg (by omega)]
   | true=>
    rw[q2] at h73' hc
    have c1:decide ((q.1:Int)<(l.length:Int))=true:=by
     simp only[decide_eq_true_eq]
     have:q.1≠l.length:=fun h=>hc ⟨rfl,h⟩
     omega
    simp only[eE,seval,↓eP,rP,hr,hl22,c1,P8,E2,EZ,h73',I_,TV,TZ,EB,V6,hflT,hltT]
    intro i hi
    rw[if_neg (by omega),if_neg (by omega)]
 | none=>
  have h74':=h74 hs _ hvp
  unfold IJ at hs
  split at hs
  ·rename_i hc
   generalize FE AT l (l.length+1)=q at *
   obtain⟨q2,q1⟩:=hc
   rw[q2] at h73'
   have c1:decide ((q.1:Int)<(l.length:Int))=false:=by simp only[decide_eq_false_iff_not];omega
   cases c2:decide ((CV l (l.length+1) 0).1>64) with
   | true=>
    rw[if_pos (by simpa using c2)]
    simp only[eE,seval,↓eP,rP,hr,hl22,c1,c2,P8,E2,EZ,h73',h74',RH,TV,TZ,EB,V6,hflT,hltT]
    intro i hi
    rw[if_neg (by omega),if_neg (by omega)]
   | false=>
    rw[if_neg (by simpa using c2)]
    simp only[eE,seval,↓eP,rP,hr,hl22,c1,c2,P8,E2,EZ,h73',h74',MA,TV,TZ,EB,V6,hflT,hltT]
    intro i hi
    rw[if_neg (by omega),if_neg (by omega)]
  ·cases hs
end
def DM (l:List AB) (at_ q:Nat):Prop:=(∃ m what,BE AT l m at_ what=(q,true))∨(at_=0∧∃ m,FE AT l m=(q,true))
def EH (l:List AB):Nat→Nat→Nat→Prop
 | 0,p,q=>p=q
 | r+1,p,q=>∃ p',DM l p p'∧p<p'∧p'≤l.length∧EH l r p' q
theorem Hh {l:List AB} {m:Nat} {κ:Int}:∀ r k p q,D2 (fun k next=>BE AT l m next (BD κ k)) r k p=(q,true)→EH l r p q:=by
 intro r
 induction r with
 | zero=>intro k p q h;exact congrArg (·.1) h
 | succ r ih=>
  intro k p q h
  unfold D2 at h
  split at h
  ·rename_i hc
   have hle:=Q8 (isName:=AT) (l:=l) m p (BD κ k) hc
   refine⟨(BE AT l m p (BD κ k)).1,.inl ⟨m,BD κ k,Prod.ext rfl hc⟩,hle.1,hle.2,ih _ _ _ h⟩
  ·cases h
theorem Bu {l:List AB} {m:Nat}:∀ r ev p q,DN AT l m r ev p=(q,true)→EH l r p q:=by
 intro r
 induction r with
 | zero=>intro ev p q h;exact congrArg (·.1) h
 | succ r ih=>
  intro ev p q h
  unfold DN at h
  split at h
  ·rename_i hc
   have hle:=Q8 (isName:=AT) (l:=l) m p (F4 ev l[p]?) hc
   exact⟨(BE AT l m p (F4 ev l[p]?)).1,.inl ⟨m,_,Prod.ext rfl hc⟩,hle.1,hle.2,ih _ _ _ h⟩
  ·cases h
theorem IF {l:List AB}:∀ r p q,EH l r p q→p+r≤q:=by
 intro r
 induction r with
 | zero=>intro p q h;have:p=q:=h;omega
 | succ r ih=>intro p q ⟨p',_,h1,_,h2⟩;have:=ih _ _ h2;omega
theorem wC {l:List AB}:∀ r p q,p≤l.length→EH l r p q→q≤l.length:=by
 intro r
 induction r with
 | zero=>intro p q hp h;have:p=q:=h;omega
 | succ r ih=>intro p q hp ⟨p',_,h1,h3,h2⟩;exact ih _ _ h3 h2
theorem DM.kids {l:List AB} {at_ q:Nat} (h:DM l at_ q):∃ x,l[at_]?=some x∧0≤x.kids∧(1≤x.kind∧x.kind≤54)∧EH l x.kids.toNat (at_+1) q:=by
 have kids0:∀ x,C8 AT x=true→0≤x.kids:=fun x hf=>by
  unfold C8 at hf
  simp only[Bool.and_eq_true,decide_eq_true_eq] at hf
  have:=P9 x.kind
  omega
 rcases h with⟨m,what,h⟩ | ⟨rfl,m,h⟩
 ·cases m with
  | zero=>cases h
  | succ m=>
   cases hx:l[at_]? with
   | none=>rw[bN hx] at h;cases h
   | some x=>
    rw[WZ hx] at h
    split at h
    ·rename_i hc
     simp only[Bool.and_eq_true] at hc
     exact⟨x,rfl,kids0 x hc.2,PK hc.1,Hh _ _ _ _ h⟩
    ·cases h
 ·cases hx:l[0]? with
  | none=>rw[XK hx] at h;cases h
  | some x=>
   rw[UE hx] at h
   split at h
   ·rename_i hc
    simp only[Bool.and_eq_true] at hc
    exact⟨x,rfl,kids0 x hc.2,PK hc.1,Bu _ _ _ _ h⟩
   ·cases h
theorem DM.lt {l:List AB} {at_ q:Nat} (h:DM l at_ q):at_<q∧q≤l.length:=by
 obtain⟨x,hx,_,_,hc⟩:=h.kids
 have hlt:=(List.getElem?_eq_some_iff.1 hx).1
 have:=IF _ _ _ hc
 exact⟨by omega,wC _ _ _ hlt hc⟩
theorem DM.unique {l:List AB}:∀ (n at_:Nat) {q q':Nat},l.length≤at_+n→DM l at_ q→DM l at_ q'→q=q':=by
 intro n
 induction n with
 | zero=>intro at_ q q' hn h h';have:=h.lt;omega
 | succ n ih=>
  intro at_ q q' hn h h'
  obtain⟨x,hx,_,_,hc⟩:=h.kids
  obtain⟨y,hy,_,_,hc'⟩:=h'.kids
  rw[hx] at hy
  cases hy
  have key:∀ r p a b,at_<p→EH l r p a→EH l r p b→a=b:=by
   intro r
   induction r with
   | zero=>intro p a b _ h1 h2;exact(show p=a from h1).symm.trans (show p=b from h2)
   | succ r ihr=>
    intro p a b hp ⟨p1,s1,_,_,c1⟩ ⟨p2,s2,_,_,c2⟩
    have:p1=p2:=ih p (by omega) s1 s2
    subst this
    have:=s1.lt
    exact ihr p1 a b (by omega) c1 c2
  exact key _ _ _ _ (by omega) hc hc'
theorem DM.cover {l:List AB}:∀ (n:Nat) {at_ q:Nat},q≤at_+n→DM l at_ q→∀ i,at_≤i→i<q→∃ qi,DM l i qi∧qi≤q:=by
 intro n
 induction n with
 | zero=>intro at_ q hn h;have:=h.lt;omega
 | succ n ih=>
  intro at_ q hn h i h1 h2
  rcases Nat.eq_or_lt_of_le h1 with rfl | h3
  ·exact⟨q,h,Nat.le_refl q⟩
  ·obtain⟨x,hx,_,_,hc⟩:=h.kids
   have key:∀ r p,at_<p→p≤i→EH l r p q→∃ qi,DM l i qi∧qi≤q:=by
    intro r
    induction r with
    | zero=>intro p _ hp hc;have:p=q:=hc;omega
    | succ r ihr=>
     intro p hp0 hp ⟨p',s,hlt,_,c⟩
     have hpq:=IF _ _ _ c
     rcases Nat.lt_or_ge i p' with h4 | h4
     ·obtain⟨qi,s1,s2⟩:=ih (by omega) s i hp h4
      exact⟨qi,s1,by omega⟩
     ·exact ihr p' (by omega) h4 c
   exact key _ _ (by omega) h3 hc
def CE (l:List AB):Prop:=DM l 0 l.length
theorem pH {l:List AB} (h:IJ AT l=none):CE l:=by
 unfold IJ at h
 split at h
 ·rename_i hc
  exact .inr ⟨rfl,l.length+1,Prod.ext hc.2 hc.1⟩
 ·cases h
theorem CE.pos {l:List AB} (h:CE l):0<l.length:=h.lt.1
theorem CE.sub {l:List AB} (h:CE l) {i:Nat} (hi:i<l.length):∃ q,DM l i q:=by
 obtain⟨q,hq,_⟩:=DM.cover l.length (by omega) h i (Nat.zero_le i) hi
 exact⟨q,hq⟩
open Classical in
noncomputable def AD (l:List AB) (i:Nat):Nat:=if h:∃ q,DM l i q then h.choose else 0
theorem ID {l:List AB} {i q:Nat} (h:DM l i q):AD l i=q:=by
 unfold AD
 have hx:∃ q,DM l i q:=⟨q,h⟩
 rw[dif_pos hx]
 exact DM.unique l.length i (by omega) hx.choose_spec h
theorem CE.end {l:List AB} (h:CE l) {i:Nat} (hi:i<l.length):DM l i (AD l i):=by
 obtain⟨q,hq⟩:=h.sub hi
 rw[ID hq]
 exact hq
noncomputable def BL (l:List AB):List Int:=(List.range l.length).map fun i=>(AD l i:Int)
theorem O6 {l:List AB} {i:Nat} (hi:i<l.length):(BL l)[i]?=some (AD l i:Int):=by simp[BL,hi]
theorem SP {l:List AB}:(BL l).length=l.length:=by simp[BL]
def ints (l:List Int):List Value:=l.map (.int .i64 ·)
theorem aT (l:List Int) (i:Nat):(ints l)[i]?=(l[i]?).map (.int .i64 ·):=by simp[ints]
theorem F9 (l:List Int):(ints l).length=l.length:=by simp[ints]
theorem OY (l:List Int):(ints l).all one=true:=by simp[ints,one]
theorem gI (l:List Int) (i:Nat) (x:Int):(ints l).set i (.int .i64 x)=ints (l.set i x):=by simp[ints,List.map_set]
theorem J1:GL Tryd.prog 3=some 8:=by kernel_rfl
theorem HZ:CU Tryd.prog 3=some (.int .i64 0):=by kernel_rfl
theorem QJ:∀ n,BQ [Value.int .i64 0] n=ints (List.replicate n 0)
 | 0=>rfl
 | n+1=>by rw[BQ,QJ n];simp[ints,List.replicate_succ]
theorem j9 {h:AA} {n:Nat} (hn:n<30000000000000):GO Tryd.prog h 27 (.int .i64 (n:Int)) (.int .i64 (n:Int))=some (qS h.next n n,h.push (.row (ints (List.replicate n 0)) 3 false false)):=by
 have hz:(Value.int .i64 0).cells=#[.int .i64 0]:=rfl
 simp only[GO,Tryd.underlying27,C4,HZ,J1,hz,WI]
 rw[if_pos (by simp;omega)]
 simp[QJ]
theorem FB {id n c i:Nat} (hi:i<n):CL Tryd.prog 27 (qS id n c) (.int .i64 (i:Int))=some (qP id i):=by
 simp only[CL,Tryd.underlying27,C4,CJ]
 rw[if_pos (by omega)]
 simp
theorem MM {l:List Int} {i:Nat} {x:Int} {ty:TypeId} {g ro:Bool} (hx:l[i]?=some x):AJ i (.row (ints l) ty g ro)=some (.int .i64 x):=by
 simp[AJ,aT,hx]
theorem YG {cs:List Value} {off:Nat} {v:Value} (h:off<cs.length):Go.Sx.lay cs off [v]=cs.set off v:=by
 apply List.ext_getElem?
 intro k
 rw[QQ (by simp;omega),List.getElem?_set]
 by_cases hk:off=k
 ·subst hk
  simp[h]
 ·rw[if_neg (by simp;omega),if_neg hk]
theorem MQ {h:AA} {id i:Nat} {l:List Int} {x:Int} {ty:TypeId} {g:Bool} (hg:h.get id=.row (ints l) ty g false) (hi:i<l.length) (hf:h.floor≤id):A_ Tryd.prog h 3 (qP id i) (.int .i64 x)=some (h.put id (.row (ints (l.set i x)) ty g false)):=by
 have hc:(Value.int .i64 x).cells=#[.int .i64 x]:=rfl
 simp only[A_,hc,C4,FW,hg]
 have hsz:(some 1:Option Nat)=some (#[Value.int .i64 x]:Array Value).size:=rfl
 rw[if_pos hsz,if_pos (by simp[one,F9];omega),YG (by rw[F9];exact hi),gI]
def MZ (L l:List AB):Prop:=L.length=l.length∧∀ (i:Nat) x,l[i]?=some x→∃ y,L[i]?=some y∧y.kids=x.kids
theorem Gf (l:List AB):MZ l l:=⟨rfl,fun i x h=>⟨x,h,rfl⟩⟩
section
variable {call:AM} {n:Nat}
theorem f_ {l L:List AB} {v:Value} {h:AA} (ht:CE l) (hsk:MZ L l) (hv:A7 h v L) (hlen:l.length<30000000000000) (hn:l.length+3<n) (hfl:h.floor≤h.next) :
  ∃ h',A8 Tryd.prog call n 29 [v] h=some (qS h.next l.length l.length,h')∧(h'.get h.next=.row (ints (BL l)) 3 false false∧h'.next=h.next+1∧h'.floor=h.floor∧∀ i,i<h.next→h'.get i=h.get i):=by
 refine EL (R:=fun h'=>h'.get h.next=.row (ints (BL l)) 3 false false∧h'.next=h.next+1∧h'.floor=h.floor∧∀ i,i<h.next→h'.get i=h.get i) Tryd.func29 rfl (by simp[Tryd.f29]) ?_
 have hr:Tryd.f29.results.toList=[.tmp 2]:=rfl
 have hl22:∀ h',CX Tryd.prog h' 26 v=some (.int .i64 l.length):=fun h'=>by rw[← hsk.1];exact hv.len
 have hpos:=ht.pos
 have w0:IntKind.i64.wrap ((l.length:Int)-1)=(l.length:Int)-1:=C9 (by omega) (by omega)
 simp only[eE,seval,↓eP,rP,hr,hl22,j9 hlen,w0]
 refine WK.loop (fun j s=>s.T.get 0=v∧s.T.get 3=qS h.next l.length l.length∧s.T.get 4=iv ((l.length:Int)-1-(j:Int))∧s.h.next=h.next+1∧s.h.floor=h.floor∧(∀ i,i<h.next→s.h.get i=h.get i) ∧
  ∃ E:List Int,E.length=l.length∧s.h.get h.next=.row (ints E) 3 false false∧∀ i,l.length-j≤i→i<l.length→E[i]?=some (AD l i:Int)) l.length (by omega) ?_ ?_
 ·simp only[eE,seval,↓eP,rP]
  refine⟨by omega,fun i hi=>by rw[if_neg (by omega)],List.replicate l.length 0,by simp,rfl,fun i h1 h2=>by omega⟩
 ·rintro j ⟨T1,h1⟩ hj ⟨t0,t3,t4,hnx,hf1,hold,E,hE,hgE,hEv⟩
  simp only at t0 t3 t4 hnx hf1 hold hgE
  by_cases hlt:j<l.length
  ·obtain⟨at_,hat⟩:∃ a:Nat,(l.length:Int)-1-(j:Int)=(a:Int):=⟨l.length-1-j,by omega⟩
   have hatl:at_<l.length:=by omega
   rw[hat] at t4
   have c1:decide ((at_:Int)≥0)=true:=by simp
   have w1:=EU at_ (by omega)
   have w2:IntKind.i64.wrap ((at_:Int)-1)=(l.length:Int)-1-((j+1:Nat):Int):=by rw[C9 (by omega) (by omega)];omega
   have hsub:=ht.end hatl
   obtain⟨x,hx,hk0,hkk,hchain⟩:=hsub.kids
   have hv1:A7 h1 v L:=hv.mono (by omega) hold
   obtain⟨y,hy,hyk⟩:=hsk.2 at_ x hx
   obtain⟨id,q,e0,hid,l0,l1,l2,l3,l4,lr⟩:=hv1.row hy
   rw[hyk] at l4
   have hcl:=IF _ _ _ hchain
   have hel:=hsub.lt
   simp only[eE,seval,↓eP,rP,t0,t3,t4,c1,w1,e0,l4]
   refine WK.loop (fun k s=>s.h=h1∧s.T.get 0=v∧s.T.get 3=qS h.next l.length l.length∧s.T.get 4=iv at_∧s.T.get 23=iv k∧s.T.get 22=.int .i64 x.kids∧∃ p:Nat,s.T.get 5=iv p∧at_<p∧k≤x.kids.toNat∧EH l (x.kids.toNat-k) p (AD l at_)) x.kids.toNat (by omega) ?_ ?_
   ·simp only[eE,↓reduceIte,Nat.reduceEqDiff,reduceCtorEq,↓eP,rP,Nat.reduceAdd,Nat.reduceLT,t0,t3,t4]
    refine⟨rfl,at_+1,rfl,by omega,by rw[Nat.sub_zero];exact hchain⟩
   ·rintro k ⟨T2,h2⟩ hk ⟨rfl,u0,u3,u4,u23,u22,p,u5,hp,hkk2,hch⟩
    simp only at u0 u3 u4 u23 u22 u5
    by_cases hlt2:k<x.kids.toNat
    ·have c2:decide ((k:Int)<x.kids)=true:=by simp only[decide_eq_true_eq];omega
     obtain⟨r,hr1⟩:∃ r,x.kids.toNat-k=r+1:=⟨x.kids.toNat-k-1,by omega⟩
     rw[hr1] at hch
     obtain⟨p',s1,s2,s3,s4⟩:=hch
     have hEp:=hEv p (by omega) (by omega)
     rw[ID s1] at hEp
     have w5:=EU k (by omega)
     simp only[eE,seval,↓eP,rP,u0,u3,u4,u23,u22,u5,c2,FB (show p<l.length by omega),hgE,MM hEp,w5]
     exact⟨hlt2,p',rfl,by omega,by omega,by rw[show x.kids.toNat-(k+1)=r by omega];exact s4⟩
    ·have c2:decide ((k:Int)<x.kids)=false:=by simp only[decide_eq_false_iff_not];omega
     rw[show x.kids.toNat-k=0 by omega] at hch
     have hpe:p=AD l at_:=hch
     have hst:=MQ (x:=(p:Int)) hgE (show at_<E.length by omega) (by rw[hf1];exact hfl)
     have hnx':h2.next=h.next+1:=hnx
     have hltT:(h.next<h2.next)=True:=by rw[hnx'];simp
     simp only[eE,seval,↓eP,rP,u0,u3,u4,u23,u22,u5,c2,FB hatl,hst,w2,hltT]
     refine⟨hlt,hnx,hf1,fun i hi=>by rw[if_neg (by omega)];exact hold i hi,E.set at_ (p:Int),by rw[List.length_set];exact hE,rfl,fun i h1 h2=>?_⟩
     rw[List.getElem?_set]
     by_cases hia:at_=i
     ·subst hia
      rw[if_pos rfl,if_pos (by omega),hpe]
     ·rw[if_neg hia]
      exact hEv i (by omega) h2
  ·have c1:decide ((l.length:Int)-1-(j:Int)≥0)=false:=by simp only[decide_eq_false_iff_not];omega
   have hEe:E=BL l:=by
    apply List.ext_getElem?
    intro i
    by_cases hi:i<l.length
    ·rw[hEv i (by omega) hi,O6 hi]
    ·rw[List.getElem?_eq_none (by omega),List.getElem?_eq_none (by rw[SP];omega)]
   subst hEe
   simp only[eE,seval,↓eP,rP,hr,t0,t3,t4,c1]
   exact⟨hgE,hnx,hf1,hold⟩
theorem xO {l:List AB} {v:Value} {h:AA} (ht:CE l) (hv:A7 h v l) (hlen:l.length<30000000000000) (hn:l.length+3<n) (hfl:h.floor≤h.next) :
  ∃ h',A8 Tryd.prog call n 29 [v] h=some (qS h.next l.length l.length,h')∧(h'.get h.next=.row (ints (BL l)) 3 false false∧h'.next=h.next+1∧h'.floor=h.floor∧∀ i,i<h.next→h'.get i=h.get i):=f_ ht (Gf l) hv hlen hn hfl
end
theorem W9 {l:List AB}:∀ k a b c,EH l k a b→DM l b c→EH l (k+1) a c
 | 0,a,b,c,h,hs=>by
  have:a=b:=h
  subst this
  exact⟨c,hs,hs.lt.1,hs.lt.2,rfl⟩
 | k+1,a,b,c,⟨p,h1,h2,h3,h4⟩,hs=>⟨p,h1,h2,h3,W9 k p b c h4 hs⟩
theorem SN {l:List AB}:∀ k r a q,EH l (k+r) a q→∃ b,EH l k a b∧EH l r b q
 | 0,r,a,q,h=>⟨a,rfl,by rwa [Nat.zero_add] at h⟩
 | k+1,r,a,q,h=>by
  rw[show k+1+r=(k+r)+1 by omega] at h
  obtain⟨p,h1,h2,h3,h4⟩:=h
  obtain⟨b,h5,h6⟩:=SN k r p q h4
  exact⟨b,⟨p,h1,h2,h3,h5⟩,h6⟩
theorem O5 {l:List AB}:∀ k a b c,EH l k a b→EH l k a c→b=c
 | 0,a,b,c,h,h'=>(show a=b from h).symm.trans (show a=c from h')
 | k+1,a,b,c,⟨p,h1,_,_,h4⟩,⟨p',g1,_,_,g4⟩=>by
  have:p=p':=DM.unique l.length a (by omega) h1 g1
  subst this
  exact O5 k p b c h4 g4
theorem UH {l:List AB} {a b c:Nat}:∀ k j,k<j→EH l k a b→EH l j a c→b<c:=fun k j hkj h h'=>by
 obtain⟨b',h1,h2⟩:=SN k (j-k) a c (by rw[show k+(j-k)=j by omega];exact h')
 have:=O5 k a b b' h h1
 subst this
 have:=IF _ _ _ h2
 omega
def IZ (l:List AB) (p k i:Nat):Prop:=∃ x,l[p]?=some x∧k<x.kids.toNat∧EH l k (p+1) i
theorem IZ.lt {l:List AB} {p k i:Nat} (h:IZ l p k i):p<i:=by
 obtain⟨x,_,_,h3⟩:=h
 have:=IF _ _ _ h3
 omega
theorem IZ.sub {l:List AB} (ht:CE l) {p k i:Nat} (h:IZ l p k i):∃ q,DM l i q∧q≤AD l p∧i<l.length:=by
 obtain⟨x,hx,hk,hc⟩:=h
 have hs:=ht.end (List.getElem?_eq_some_iff.1 hx).1
 obtain⟨y,hy,_,_,hch⟩:=hs.kids
 rw[hx] at hy
 cases hy
 obtain⟨r,hr⟩:∃ r,x.kids.toNat=k+(r+1):=⟨x.kids.toNat-k-1,by omega⟩
 rw[hr] at hch
 obtain⟨b,h1,q,h2,h3,h4,h5⟩:=SN _ _ _ _ hch
 have:=O5 _ _ _ _ hc h1
 subst this
 have:=IF _ _ _ h5
 exact⟨q,h2,by omega,by omega⟩
theorem XS {l:List AB}:∀ (r a q j:Nat),EH l r a q→a≤j→j<q→∃ k b c,k<r∧EH l k a b∧DM l b c∧b≤j∧j<c
 | 0,a,q,j,h,h1,h2=>by have:a=q:=h;omega
 | r+1,a,q,j,⟨p,s,h3,h4,h5⟩,h1,h2=>by
  rcases Nat.lt_or_ge j p with h6 | h6
  ·exact⟨0,a,p,by omega,rfl,s,h1,h6⟩
  ·obtain⟨k,b,c,k1,k2,k3,k4,k5⟩:=XS r p q j h5 h6 h2
   exact⟨k+1,b,c,by omega,⟨p,s,h3,h4,k2⟩,k3,k4,k5⟩
theorem IZ.unique {l:List AB} (ht:CE l) {p k i p' k':Nat} (h:IZ l p k i) (h':IZ l p' k' i):p=p'∧k=k':=by
 have key:∀ {p k i p' k':Nat},IZ l p k i→IZ l p' k' i→¬ p<p':=by
  intro p k i p' k' h h' hlt
  have hi:=h'.lt
  obtain⟨qi,si,hqi,_⟩:=h'.sub ht
  have hsi:=si.lt
  obtain⟨x,hx,hk,hc⟩:=h
  have hs:=ht.end (List.getElem?_eq_some_iff.1 hx).1
  obtain⟨y,hy,_,_,hch⟩:=hs.kids
  rw[hx] at hy
  cases hy
  have hp':p'<l.length:=by
   obtain⟨x',hx',_⟩:=h'
   exact(List.getElem?_eq_some_iff.1 hx').1
  have he':=(ht.end hp').lt
  obtain⟨r,hr⟩:∃ r,x.kids.toNat=k+(r+1):=⟨x.kids.toNat-k-1,by omega⟩
  have hkc:=hch
  rw[hr] at hkc
  obtain⟨b0,g1,g2⟩:=SN _ _ _ _ hkc
  have:=O5 _ _ _ _ hc g1
  subst this
  have hle:=IF _ _ _ g2
  obtain⟨j,b,c,j1,j2,j3,j4,j5⟩:=XS _ _ _ p' hch hlt (by omega)
  obtain⟨q',s1,s2⟩:=DM.cover (c-b) (by have:=j3.lt;omega) j3 p' j4 j5
  have hee:=ID s1
  -- i lies in (b, c), and is the start of the k-th kid
  rcases Nat.lt_trichotomy k j with hkj | hkj | hkj
  ·have:=UH k j hkj hc j2
   omega
  ·subst hkj
   have:=O5 _ _ _ _ hc j2
   omega
  ·have hj1:=W9 j _ _ _ j2 j3
   rcases Nat.lt_or_ge (j+1) k with h9 | h9
   ·have:=UH (j+1) k h9 hj1 hc
    omega
   ·have:j+1=k:=by omega
    subst this
    have:=O5 _ _ _ _ hj1 hc
    omega
 have hpp:p=p':=by
  have h1:=key h h'
  have h2:=key h' h
  omega
 subst hpp
 refine⟨rfl,?_⟩
 obtain⟨_,_,_,hc⟩:=h
 obtain⟨_,_,_,hc'⟩:=h'
 rcases Nat.lt_trichotomy k k' with h1 | h1 | h1
 ·have:=UH _ _ h1 hc hc';omega
 ·exact h1
 ·have:=UH _ _ h1 hc' hc;omega
theorem DM.parent {l:List AB}:∀ (n:Nat) {a q:Nat},q≤a+n→DM l a q→∀ i,a<i→i<q→∃ p k,IZ l p k i∧a≤p
 | 0,a,q,hn,h,i,h1,h2=>by have:=h.lt;omega
 | n+1,a,q,hn,h,i,h1,h2=>by
  obtain⟨x,hx,_,_,hc⟩:=h.kids
  obtain⟨k,b,c,k1,k2,k3,k4,k5⟩:=XS _ _ _ i hc h1 h2
  rcases Nat.eq_or_lt_of_le k4 with rfl | h6
  ·exact⟨a,k,⟨x,hx,k1,k2⟩,Nat.le_refl _⟩
  ·have hb:=IF _ _ _ k2
   obtain⟨r,hr⟩:∃ r,x.kids.toNat=(k+1)+r:=⟨x.kids.toNat-(k+1),by omega⟩
   rw[hr] at hc
   obtain⟨c',g1,g2⟩:=SN _ _ _ _ hc
   have:=O5 _ _ _ _ (W9 _ _ _ _ k2 k3) g1
   subst this
   have:=IF _ _ _ g2
   obtain⟨p,k',h7,h8⟩:=DM.parent n (by omega) k3 i h6 k5
   exact⟨p,k',h7,by omega⟩
theorem CE.parent {l:List AB} (ht:CE l) {i:Nat} (h0:0<i) (h1:i<l.length):∃ p k,IZ l p k i:=by
 obtain⟨p,k,h,_⟩:=DM.parent l.length (by omega) ht i h0 h1
 exact⟨p,k,h⟩
structure eB (l:List AB) (O:List Int):Prop where
 top:∀ x,l[0]?=some x→O[0]?=some (GS x.kind)
 kid:∀ p k i x y o,IZ l p k i→l[p]?=some x→l[i]?=some y→O[p]?=some o→O[i]?=some (o+GW (CP x.kind) (CP y.kind) k+GS y.kind)
def MD (O:List Int) (a b:Nat) (M:Int):Prop:=(∀ i x,a≤i→i<b→O[i]?=some x→x≤M)∧∃ i,a≤i∧i<b∧O[i]?=some M
theorem MD.join {O:List Int} {a b c:Nat} {M M':Int} (h:MD O a b M) (h':MD O b c M') (hab:a≤b) (hbc:b≤c):MD O a c (if M'>M then M' else M):=by
 obtain⟨h1,i,h2,h3,h4⟩:=h
 obtain⟨g1,j,g2,g3,g4⟩:=h'
 refine⟨fun t x t1 t2 t3=>?_,?_⟩
 ·rcases Nat.lt_or_ge t b with hb | hb
  ·have:=h1 t x t1 hb t3
   split <;> omega
  ·have:=g1 t x hb t2 t3
   split <;> omega
 ·split
  ·exact⟨j,by omega,g3,g4⟩
  ·exact⟨i,h2,by omega,h4⟩
theorem MD.unique {O:List Int} {a b:Nat} {M M':Int} (h:MD O a b M) (h':MD O a b M'):M=M':=by
 obtain⟨h1,i,h2,h3,h4⟩:=h
 obtain⟨g1,j,g2,g3,g4⟩:=h'
 have:=h1 j _ g2 g3 g4
 have:=g1 i _ h2 h3 h4
 omega
theorem rH {l:List AB} {O:List Int} (hO:eB l O):∀ (m at_ q:Nat) (x:AB) (o:Int),DM l at_ q→l.length<at_+m→l[at_]?=some x→O[at_]?=some o →
  MD O at_ q (o-GS x.kind+(CV l m at_).1)∧(CV l m at_).2=q:=by
 intro m
 induction m with
 | zero=>intro at_ q x o hs hm hx;have:=hs.lt;omega
 | succ m ih=>
  intro at_ q x o hs hm hx ho
  obtain⟨y,hy,_,_,hc⟩:=hs.kids
  rw[hx] at hy
  cases hy
  have key:∀ r k most next,k+r=x.kids.toNat→EH l k (at_+1) next→EH l r next q→MD O at_ next (o+most)→MD O at_ q (o+(HT (CV l m) l x.kind r k most next).1)∧(HT (CV l m) l x.kind r k most next).2=q:=by
   intro r
   induction r with
   | zero=>
    intro k most next hk h1 h2 h3
    have:next=q:=h2
    subst this
    exact⟨h3,rfl⟩
   | succ r ihr=>
    intro k most next hk h1 ⟨p',s1,s2,s3,s4⟩ h3
    have hn1:=IF _ _ _ h1
    obtain⟨z,hz,_,_,_⟩:=s1.kids
    have hz':=hO.kid at_ k next x z o ⟨x,hx,by omega,h1⟩ hx hz ho
    obtain⟨a1,a2⟩:=ih next p' z _ s1 (by omega) hz hz'
    unfold HT
    rw[hz]
    simp only
    rw[a2]
    refine ihr (k+1) _ p' (by omega) (W9 _ _ _ _ h1 s1) s4 ?_
    have h4:=h3.join a1 (by omega) (by omega)
    have e1:o+GW (CP x.kind) (CP z.kind) k+GS z.kind-GS z.kind+(CV l m next).1=o+((CV l m next).1+GW (CP x.kind) (CP z.kind) k):=by omega
    rw[e1] at h4
    refine cast ?_ h4
    congr 1
    split <;> split <;> omega
  have h0:=key x.kids.toNat 0 0 (at_+1) (by omega) rfl hc ⟨fun i v h1 h2 h3=>by
    have:i=at_:=by omega
    subst this
    rw[ho] at h3
    cases h3
    omega,at_,Nat.le_refl _,by omega,by rw[ho];congr 1;omega⟩
  unfold CV
  rw[hx]
  refine⟨?_,h0.2⟩
  refine cast ?_ h0.1
  congr 1
  simp only
  omega
theorem L7 {P:Program} {t:TypeId} {x y:Operand} {a b:ByteArray}:BR P .neq t x y (.string a) (.string b)=some (.bool (!(a==b))):=by
 have e:AZ P (do eqGuard .neq t x y (.string a) (.string b);binOp .neq t (.string a) (.string b))=some (.bool (!(a==b))):=by
  rw[B9]
  have g:AZ P (eqGuard .neq t x y (.string a) (.string b))=some ():=rfl
  rw[g,← jP]
  simp[binOp,Op.stringOp,Option.bind]
  rfl
 have hf:flat (.string a)=true:=rfl
 have hf2:flat (.string b)=true:=rfl
 simp only[BR,hf,hf2,JZ,Bool.and_self,if_true,e]
section
variable {call:AM} {n:Nat} {h:AA}
abbrev CA (x:AB):Value:=.agg #[iv x.kind,.string x.name,iv x.ends,iv x.n,iv x.kids]
end
def R7:List FuncId:=[31,32,33,30,999999,999999,999999,999999,999999,999999,999999,999999,999999,999999,999999,999999,23]
open Classical in
noncomputable def M6 (call:AM):AM:=fun f args h=>match call f args h with
 | some (v,h1)=>if R7.contains f=false∧EF v=true∧∀ i,i<h.next→h1.get i=h.get i then some (v,h) else some (v,h1)
 | none=>none
theorem gY {call:AM} {f:FuncId} {args:List Value} {h h':AA} {v:Value} (hs:M6 call f args h=some (v,h')):NB call f args h=some (v,h')∨call f args h=some (v,h'):=by
 unfold M6 at hs
 split at hs
 ·rename_i v' h1 he
  split at hs
  ·rename_i hc
   cases hs
   exact .inl (Y6 he hc.2.1 hc.2.2)
  ·cases hs
   exact .inr he
 ·cases hs
theorem xW {P:Program} {call:AM} (hc:CR P call∧B8 call):CR P (M6 call)∧B8 (M6 call):=by
 have hk:=YB hc.1
 refine⟨fun f args h v h' hs=>?_,fun f args h v h' hs=>?_⟩
 ·rcases gY hs with h1 | h1
  ·exact hk.1 _ _ _ _ _ h1
  ·exact hc.1 _ _ _ _ _ h1
 ·rcases gY hs with h1 | h1
  ·exact hk.2 _ _ _ _ _ h1
  ·exact hc.2 _ _ _ _ _ h1
section
variable {call:AM} {n:Nat} {h:AA}
noncomputable def L3:AM:=ML [999999] L2 12
theorem mR:CR Tryd.prog L3∧B8 L3:=X8 jF
end
noncomputable def AS:Nat→AM
 | 0=>L3
 | n+1=>F2 L3 (M6 (A8 Tryd.prog (AS n) n))
theorem FD:∀ n,CR Tryd.prog (AS n)∧B8 (AS n)
 | 0=>mR
 | n+1=>RN mR (xW (Q9 IU (FD n).1 (FD n).2 n))
section
variable {n:Nat} {f:FuncId} {args:List Value} {h h1:AA} {v:Value} {r:Value × AA}
theorem Fp (hb:L3 f args h=some r):AS n f args h=some r:=by
 cases n with
 | zero=>exact hb
 | succ n=>exact R5 hb
theorem YU (hb:L2 f args h=some r):AS n f args h=some r:=Fp (KZ hb)
theorem JI (hb:L1 f args h=some r):AS n f args h=some r:=YU (NG hb)
theorem BT (hf:([61,88,86,48,50,51,999999,999999,999999,
 999999,999999,999999,999999,999999,999999,999999,64,82,84,
 999999,999999,60]:List Nat).contains f=false∧([85,999999,999999,49,999999,53,999999]:List Nat).contains f=false∧([62,999999,999999]:List Nat).contains f=false):L3 f args h=none:=by
 have h3:=hf.2.2
 simp only[List.contains_cons,List.contains_nil,Bool.or_false,Bool.or_eq_false_iff] at h3
 refine II (OC (II (II rfl hf.1) hf.2.1) ?_) ?_
 ·simp only[List.contains_cons,List.contains_nil,Bool.or_false,Bool.or_eq_false_iff];exact⟨h3.1,h3.2.1⟩
 ·simp only[List.contains_cons,List.contains_nil,Bool.or_false];exact h3.2.2
theorem JQ (hb:L3 f args h=none) (hv:EF v=true) (hw:∃ h1,A8 Tryd.prog (AS n) n f args h=some (v,h1)∧∀ i,i<h.next→h1.get i=h.get i) (hf:R7.contains f=false:=by rfl):AS (n+1) f args h=some (v,h):=by
 obtain⟨h1,he,hk⟩:=hw
 unfold AS F2 M6
 rw[hb,he]
 simp only
 rw[if_pos ⟨hf,hv,hk⟩]
theorem EE (hb:L3 f args h=none) (hv:EF v=true) (hw:A8 Tryd.prog (AS n) n f args h=some (v,h)) (hf:R7.contains f=false:=by rfl):AS (n+1) f args h=some (v,h):=JQ hb hv ⟨h,hw,fun _ _=>rfl⟩ hf
theorem PX {R:AA→Prop} (hb:L3 f args h=none) (hv:EF v=false) (hw:∃ h1,A8 Tryd.prog (AS n) n f args h=some (v,h1)∧R h1):∃ h1,AS (n+1) f args h=some (v,h1)∧R h1:=by
 obtain⟨h1,he,hk⟩:=hw
 refine⟨h1,?_,hk⟩
 unfold AS F2 M6
 rw[hb,he]
 simp only
 rw[if_neg (fun hc=>by rw[hv] at hc;cases hc.2.1)]
theorem PN {R:Value→AA→Prop} (hb:L3 f args h=none) (hw:∃ v h1,A8 Tryd.prog (AS n) n f args h=some (v,h1)∧R v h1) (hf:∀ v h1,EF v=true→(∀ i,i<h.next→h1.get i=h.get i)→R v h1→R v h):∃ v h1,AS (n+1) f args h=some (v,h1)∧R v h1:=by
 obtain⟨v,h1,he,hk⟩:=hw
 by_cases hc:R7.contains f=false∧EF v=true∧∀ i,i<h.next→h1.get i=h.get i
 ·refine⟨v,h,?_,hf v h1 hc.2.1 hc.2.2 hk⟩
  unfold AS F2 M6
  rw[hb,he]
  simp only
  rw[if_pos hc]
 ·refine⟨v,h1,?_,hk⟩
  unfold AS F2 M6
  rw[hb,he]
  simp only
  rw[if_neg hc]
theorem WA {R:AA→Prop} (hb:L3 f args h=none) (hw:∃ h1,A8 Tryd.prog (AS n) n f args h=some (v,h1)∧R h1) (hf:R7.contains f=true:=by rfl):∃ h1,AS (n+1) f args h=some (v,h1)∧R h1:=by
 obtain⟨h1,he,hk⟩:=hw
 refine⟨h1,?_,hk⟩
 unfold AS F2 M6
 rw[hb,he]
 simp only
 rw[if_neg (fun hc=>by rw[hf] at hc;cases hc.1)]
end
theorem tL {l:List AB} {v:Value} (hlen:l.length<30000000000000):∀ m n (at_:Nat) (what:Int) h,at_≤l.length→l.length<at_+m→what≠8→A7 h v l→h.get 0=CW→0<h.next→h.floor≤h.next→l.length+4+m<n →
  AS n 46 [v,iv at_,iv what] h=some (.tuple #[iv ((BE AT l m at_ what).1:Int),.bool (BE AT l m at_ what).2],h):=by
 intro m
 induction m with
 | zero=>intro n at_ what h hat hm;omega
 | succ m ih=>
  intro n at_ what h hat hm hw hv hg hn0 hfl hn
  obtain⟨n,rfl⟩:∃ k,n=k+1:=⟨n-1,by omega⟩
  refine JQ (BT ⟨rfl,rfl,rfl⟩) (O7 rfl rfl) ?_
  exact kW (FD n).2 ⟨fun k j h hk hj=>JI (iZ k j h hk hj),fun p w h hp hpl hw hv hg hn0 hfl=>ih n p w h hpl (by omega) hw hv hg hn0 hfl (by omega)⟩
   (by omega) hlen hat hw (fun w k h=>JI (RZ w k h)) (fun k h hk=>JI (UI k h hk)) (fun s h' hg=>YU (VE hg s)) hv hg hn0 hfl
theorem Du {l:List AB} {v:Value} (hlen:l.length<30000000000000) {n m:Nat} (hm:l.length<1+m) (hn:l.length+7+m<n) {h:AA} (hv:A7 h v l) (hg:h.get 0=CW) (hn0:0<h.next) (hfl:h.floor≤h.next) :
  AS n 46 [v,iv 0,iv 8] h=some (.tuple #[iv ((FE AT l m).1:Int),.bool (FE AT l m).2],h):=by
 obtain⟨n,rfl⟩:∃ k,n=k+2:=⟨n-2,by omega⟩
 refine JQ (BT ⟨rfl,rfl,rfl⟩) (O7 rfl rfl) ?_
 refine fJ (FD (n+1)).2 ?_ (by omega) hlen (fun w k h=>JI (RZ w k h)) (fun k h hk=>JI (UI k h hk)) (fun s h' hg=>YU (VE hg s)) hv hg hn0 hfl
 intro x h' hx hf hk1 hv' hg' hn0' hfl'
 have hk0:0≤x.kids:=by
  unfold C8 at hf
  simp only[Bool.and_eq_true,decide_eq_true_eq] at hf
  have:=P9 x.kind
  omega
 refine EE (BT ⟨rfl,rfl,rfl⟩) (O7 rfl rfl) ?_
 refine nO hx hk0 (by omega) hlen hv' (fun w k h=>JI (RZ w k h)) fun p w hp hpl hw=>?_
 exact tL hlen m n p w h' hpl (by omega) hw hv' hg' hn0' hfl' (by omega)
theorem Gx {l:List AB} {v:Value} (hlen:l.length<30000000000000) (hval:∀ (i:Nat) x,l[i]?=some x→1≤x.kind∧x.kind≤54) {h:AA} (hv:A7 h v l):∀ m n (at_:Nat),m<30000000000000→at_<l.length→l.length<at_+m→l.length+4+m<n →
  AS n 65 [v,iv at_] h=some (.tuple #[iv (CV l m at_).1,iv ((CV l m at_).2:Int)],h):=by
 intro m
 induction m with
 | zero=>intro n at_ _ hat hm;omega
 | succ m ih=>
  intro n at_ hmm hat hm hn
  obtain⟨n,rfl⟩:∃ k,n=k+1:=⟨n-1,by omega⟩
  refine EE (BT ⟨rfl,rfl,rfl⟩) (O7 rfl rfl) ?_
  refine lY (FD n).2 (by omega) hlen (by omega) hat (by omega) hv hval (fun P Q k h hP hQ=>JI (jL P Q k h hP hQ)) (fun k h hk=>JI (lU k h hk)) fun p hp hpl=>?_
  exact ih n p (by omega) hpl (by omega) (by omega)
theorem Fw {n:Nat} {l:List AB} {v:Value} (hn:2*l.length+12<n) (hlen:l.length<2932031007403) {h:AA} (hv:A7 h v l) (hg:h.get 0=CW) (hn0:0<h.next) (hfl:h.floor≤h.next) :
  AS n 27 [v] h=some (CD (CQ l).1 (CQ l).2,h):=by
 obtain⟨n,rfl⟩:∃ k,n=k+2:=⟨n-2,by omega⟩
 refine JQ (BT ⟨rfl,rfl,rfl⟩) rfl ?_
 refine mJ hv hg hn0 hfl (fun h' hv' hg' hn' hfl'=>Du (by omega) (by omega) (by omega) hv' hg' hn' hfl') fun hs h' hv'=>?_
 refine EE (BT ⟨rfl,rfl,rfl⟩) rfl ?_
 exact mI (m:=l.length+1) hv' (U8 hs) (Gx (by omega) (pT hs) hv' (l.length+1) n 0 (by omega) (U8 hs) (by omega) (by omega))
theorem Bm {l:List AB} {v:Value} {h:AA} {n:Nat} (ht:CE l) (hv:A7 h v l) (hlen:l.length<30000000000000) (hn:l.length+4<n) (hfl:h.floor≤h.next) :
  ∃ h',AS n 29 [v] h=some (qS h.next l.length l.length,h')∧(h'.get h.next=.row (ints (BL l)) 3 false false∧h'.next=h.next+1∧h'.floor=h.floor∧∀ i,i<h.next→h'.get i=h.get i):=by
 obtain⟨n,rfl⟩:∃ k,n=k+1:=⟨n-1,by omega⟩
 exact PX (BT ⟨rfl,rfl,rfl⟩) rfl (xO ht hv hlen (by omega) hfl)
noncomputable def R0:AM:=NZ 8 CW
def d_:Option (Value × AA)→Bool
 | some (.bool b,_)=>b
 | _=>false
theorem Cz:d_ (FL Tryd.prog wO 200 8 [] JE)=true:=by kernel_rfl
theorem vK:CR Tryd.prog R0∧B8 R0:=by
 have h:=Cz
 unfold d_ at h
 split at h
 ·rename_i b h' hs
  cases h
  have ht:=RN (Gd (WB IU 200).1 Ex) (Dd (WB IU 200).1 Hj)
  exact lH (MV IU ht.1 ht.2 200).1 WV (by kernel_rfl) hs
 ·cases h
noncomputable def R3 (n:Nat):AM:=F2 R0 (AS n)
theorem bG (n:Nat):CR Tryd.prog (R3 n)∧B8 (R3 n):=RN vK (FD n)
section
variable {n:Nat} {f:FuncId} {args:List Value} {h:AA} {r:Value × AA}
theorem Hk (hg:h.get 0=CW):R3 n 8 [] h=some (.bool true,h):=by
 refine R5 ?_
 unfold R0 NZ
 rw[if_pos ⟨rfl,rfl,hg⟩]
theorem N5 (hf:f≠8) (hb:AS n f args h=some r):R3 n f args h=some r:=by
 unfold R3 F2
 have:R0 f args h=none:=by
  unfold R0 NZ
  rw[if_neg (fun hc=>hf hc.1)]
 rw[this]
 exact hb
end
section
variable {id off:Nat} {h:AA}
theorem yV {cs:List Value} {x:Int} {ty:TypeId} {g:Bool} (hg:h.get id=.row cs ty g false) (hi:off<cs.length) (hf:h.floor≤id):A_ Tryd.prog h 3 (qP id off) (iv x)=some (h.put id (.row (cs.set off (iv x)) ty g false)):=by
 have hc:(iv x).cells=#[iv x]:=rfl
 have hsz:(some 1:Option Nat)=some (#[iv x]:Array Value).size:=rfl
 simp only[A_,hc,C4,FW,hg]
 rw[if_pos hsz,if_pos (by simp[one];omega),YG hi]
end
structure FT where
 name:ByteArray
 kind:Int
 num:Int
 known:Int
structure AN where
 rows:List AB
 queues:List (ByteArray × Bool)
 vars:List ByteArray
 tags:List ByteArray
 rules:List Int
 on:List Int
 miss:Int
 things:List FT
def FQ (l:List FT) (x:ByteArray):Option FT:=l.find? fun t=>x==t.name
def BO (s:AN) (k:Int):Nat:=if k=1 then s.queues.length else if k=2 then s.vars.length else if k=3 then s.tags.length else s.rules.length
def IN (k:Int):Int:=if k=1 then 16 else if k=2 then 16 else if k=3 then 4 else 64
def GT (l:List AB) (at_:Nat) (n:Int):List AB:=match l[at_]? with
 | some x=>l.set at_ { x with n:=n }
 | none=>l
def EK (at_:Nat) (end_:Int) (x:AB) (s:AN):AN:=
 let k:=BS x.kind
 { rows:=GT s.rows at_ (BO s k)
   queues:=if k=1 then s.queues++[(x.name,x.kind==3)] else s.queues
   vars:=if k=2 then s.vars++[x.name] else s.vars
   tags:=if k=3 then s.tags++[x.name] else s.tags
   rules:=if k=4 then s.rules++[(at_:Int)+1] else s.rules
   on:=if k=1 then s.on++[-1] else s.on
   miss:=s.miss
   things:=s.things++[⟨x.name,k,BO s k,end_⟩] }
def ET (x:AB) (s:AN):Int:=
 if BS x.kind=0 then 0 else if (FQ s.things x.name).isSome=true then 31 else if (BO s (BS x.kind):Int)=IN (BS x.kind) then 3 else 0
def BN (at_:Nat) (end_:Int) (x:AB) (s:AN):AN:=if BS x.kind=0 then s else EK at_ end_ x s
def DJ (at_:Nat) (x:AB) (s:AN):Int:=
 if DZ x.kind=0 then 0 else match FQ s.things x.name with
  | none=>32
  | some t=>if t.known>at_ then 32 else if t.kind≠DZ x.kind then 33 else 0
def B7 (at_:Nat) (x:AB) (s:AN):AN:=
 if DZ x.kind=0 then s else match FQ s.things x.name with
  | none=>s
  | some t=>{ s with rows:=GT s.rows at_ t.num }
def EX (x:AB) (s:AN):Int:=
 if GY x.kind=false then 0 else if x.kind=10 then (if s.miss≥0 then 31 else 0) else match s.on[x.n.toNat]? with
  | some v=>if v≥0 then 31 else 0
  | none=>0
def EG (at_:Nat) (x:AB) (s:AN):AN:=
 if GY x.kind=false then s else if x.kind=10 then { s with miss:=(at_:Int)+1 } else { s with on:=s.on.set x.n.toNat ((at_:Int)+1) }
def C1 (l:List (ByteArray × Bool)):List Value:=l.flatMap fun q=>[.string q.1,.bool q.2]
def C7 (l:List ByteArray):List Value:=l.map (.string ·)
def I5 (t:FT):Value × Value:=(.string t.name,.agg #[iv t.kind,iv t.num,iv t.known])
theorem N_:∀ l,(C1 l).length=l.length*2
 | []=>rfl
 | q :: l=>by
  have:=N_ l
  simp only[C1,List.flatMap_cons,List.length_append,List.length_cons,List.length_nil] at *
  omega
theorem cF:∀ l,(C1 l).all one=true
 | []=>rfl
 | q :: l=>by
  have:=cF l
  simp only[C1,List.flatMap_cons,List.all_append] at *
  rw[this]
  rfl
theorem W6 (l:List ByteArray):(C7 l).all one=true:=by simp[C7,one]
theorem UO (l:List ByteArray):(C7 l).length=l.length:=by simp[C7]
theorem J2:∀ l:List AB,(l.flatMap AW).length=l.length*5
 | []=>rfl
 | r :: l=>by
  have:=J2 l
  rw[List.flatMap_cons,List.length_append,this]
  simp only[AW,List.length_cons,List.length_nil]
  omega
theorem VA:∀ (l:List AB) (k:Nat),(l.flatMap AW).drop (k*5)=(l.drop k).flatMap AW
 | l,0=>by simp
 | [],k+1=>by simp
 | r :: l,k+1=>by
  rw[List.flatMap_cons,List.drop_succ_cons,← VA l k,show (k+1)*5=5+k*5 by omega,← List.drop_drop]
  rfl
theorem PO {l:List AB} {k:Nat} {r:AB} (h:l[k]?=some r):((l.flatMap AW).drop (k*5)).take 5=AW r:=by
 obtain⟨hl,rfl⟩:=List.getElem?_eq_some_iff.1 h
 rw[VA,List.drop_eq_getElem_cons hl,List.flatMap_cons]
 rfl
theorem vG {h:AA} {r:Nat} {l:List AB} {c:Nat} (hg:h.get r=.row (l.flatMap AW) 61 true false) (hr:r<h.next):A7 h (qS r l.length c) l:=
 ⟨_,_,rfl,.inr ⟨r,0,_,_,_,_,rfl,hg,hr,fun k x hx=>by rw[Nat.zero_add];exact PO hx⟩⟩
theorem bE {l:List AB} {k:Nat} {x:AB} {n:Int} (hx:l[k]?=some x):(l.flatMap AW).set (k*5+3) (iv n)=(GT l k n).flatMap AW:=by
 unfold GT
 rw[hx]
 obtain⟨hl,rfl⟩:=List.getElem?_eq_some_iff.1 hx
 simp only
 clear hx
 induction l generalizing k with
 | nil=>simp at hl
 | cons a l ih=>
  cases k with
  | zero=>rfl
  | succ k=>
   simp only[List.length_cons,Nat.add_lt_add_iff_right] at hl
   have:=ih hl
   rw[List.flatMap_cons,List.set_cons_succ,List.flatMap_cons,List.getElem_cons_succ,← this]
   rw[List.set_append_right _ _ (by simp[AW];omega)]
   congr 2
   simp only[AW,List.length_cons,List.length_nil]
   omega
theorem VZ {l:List AB} {k:Nat} {n:Int}:(GT l k n).length=l.length:=by
 unfold GT
 split
 ·simp
 ·rfl
def E3 (h:AA) (lo:Nat) (tag:Nat→Nat) (j:Nat) (v:Value) (n:Nat) (cs:List Value) (ty:TypeId):Prop:=
 (n=0∧cs=[]∧v=Z0)∨∃ id ex,v=qS id n AO∧h.get id=.row (cs++ex) ty true false∧lo≤id∧id<h.next∧tag id=j
theorem E3.mono {h h':AA} {lo:Nat} {tag tag':Nat→Nat} {j:Nat} {v:Value} {n:Nat} {cs:List Value} {ty:TypeId} (hs:E3 h lo tag j v n cs ty) (hn:h.next≤h'.next) (ht:∀ i,i<h.next→tag' i=tag i)
  (hg:∀ i,lo≤i→i<h.next→tag i=j→h'.get i=h.get i):E3 h' lo tag' j v n cs ty:=by
 rcases hs with h1 | ⟨id,ex,h1,h2,h3,h4,h5⟩
 ·exact .inl h1
 ·exact .inr ⟨id,ex,h1,by rw[hg id h3 h4 h5];exact h2,h3,by omega,by rw[ht id h4];exact h5⟩
theorem E3.mono' {h:AA} {lo:Nat} {tag tag':Nat→Nat} {j:Nat} {v:Value} {n:Nat} {cs:List Value} {ty:TypeId} (hs:E3 h lo tag j v n cs ty) (ht:∀ i,i<h.next→tag' i=tag i∨tag i≠j):E3 h lo tag' j v n cs ty:=by
 rcases hs with h1 | ⟨id,ex,h1,h2,h3,h4,h5⟩
 ·exact .inl h1
 ·refine .inr ⟨id,ex,h1,h2,h3,h4,?_⟩
  rcases ht id h4 with h | h
  ·rw[h];exact h5
  ·exact absurd h5 h
theorem SZ {h:AA} {lo:Nat} {tag:Nat→Nat} {j:Nat} {ty:TypeId}:E3 h lo tag j (Z0) 0 [] ty:=.inl ⟨rfl,rfl,rfl⟩
theorem O8 {t et:TypeId} {w bb:Nat} {z:Value} (hu:Tryd.prog.underlying t=some (.slice et)) (hsz:BG Tryd.prog et=some w) (hby:GL Tryd.prog et=some bb) (hzo:CU Tryd.prog et=some z) (hz:z.cells.size=w) (hw:0<w) (hbb:bb≤48)
  {lo:Nat} {h:AA} {tag:Nat→Nat} {j:Nat} {v:Value} {n:Nat} {cs xs:List Value} {c:Nat} (hs:E3 h lo tag j v n cs et) (hcl:cs.length=n*w) (hco:cs.all one=true) (hxl:xs.length=c*w) (hxo:xs.all one=true) (hc:0<c) (hcb:c<2) (hnb:n<2932031007402)
  {src:Nat} {g ro:Bool} {sc:Nat} (hsrc:h.get src=.row xs et g ro) (hsl:src<h.next) (hfl:h.floor≤lo) (hts:¬ (lo≤src∧tag src=j)) :
  ∃ v' h',DL Tryd.prog h t v (qS src c sc)=some (v',h')∧(E3 h' lo (fun i=>if i=h.next then j else tag i) j v' (n+c) (cs++xs) et∨¬ lo≤h.next)∧h'.floor=h.floor∧h'.next=h.next+1∧one v'=true∧v'.cells=#[v']∧∀ i,i<h.next→¬ (lo≤i∧tag i=j)→h'.get i=h.get i:=by
 have hsc:DQ h w c (qS src c sc)=some xs:=by
  have hc0:c≠0:=by omega
  simp[DQ,hsrc,F1,hc0,hxl]
  rw[List.take_of_length_le (by omega)]
 have hbz:∀ m,m<2932031007403→m*bb≤140737488355328:=fun m hm=>by
  have h1:m*bb≤m*48:=Nat.mul_le_mul_left m hbb
  omega
 rcases hs with⟨rfl,rfl,rfl⟩ | ⟨id,ex,rfl,hg,hid,hidn,htid⟩
 ·refine⟨qS h.next c AO,h.push (.row xs et true false),?_,?_,rfl,rfl,rfl,rfl,fun i hi _=>AR hi⟩
  ·have hunk:(0:Nat)≠AO:=by unfold AO;omega
   have h0:DQ h w 0 (Z0)=some []:=by simp[DQ]
   have e1:¬ (c≤0):=by omega
   have e2:c*bb≤140737488355328:=hbz c (by omega)
   have e3:c≤140737488355328:=by omega
   simp only[DL,hu,hsz,hby,hzo,hz,hsc,hxo,hunk,h0,hw,e1,e2,e3,decide_true,beq_self_eq_true,Bool.and_self,if_true,if_false,Nat.le_refl,Nat.zero_add,Nat.zero_mul,Nat.zero_le,List.nil_append]
  ·by_cases hl:lo≤h.next
   ·refine .inl (.inr ⟨h.next,[],by rw[Nat.zero_add],?_,hl,by show h.next<h.next+1;omega,by simp⟩)
    rw[BM,List.append_nil,List.nil_append]
   ·exact .inr hl
 ·have e1:(n+c)*bb≤140737488355328:=hbz _ (by omega)
  have e2:n+c≤140737488355328:=by omega
  have e3:h.floor≤id:=by omega
  have e4:n≤AO:=by unfold AO;omega
  have e5:c≠0:=by omega
  have hcut:F1 (cs++ex) 0 (n*w)=some cs:=by
   simp only[F1,List.drop_zero]
   rw[List.take_append_of_le_length (by omega),List.take_of_length_le (by omega),if_pos hcl]
  refine⟨qS h.next (n+c) AO,(h.put id .dead).push (.row (cs++xs) et true false),?_,.inl (.inr ⟨h.next,[],rfl,?_,by omega,by show h.next<h.next+1;omega,by simp⟩),rfl,rfl,rfl,rfl,fun i hi hne=>?_⟩
  ·simp only[DL,hu,hsz,hby,hzo,hz,hsc,hxo,e1,e2,e3,e4,hg,hcut,hco,decide_true,Bool.and_self,beq_self_eq_true,hw,if_true,e5,if_false]
  ·rw[List.append_nil]
   exact BM
  ·rw[AR (by exact hi),AV (by omega) (fun e=>hne (by subst e;exact⟨hid,htid⟩))]
structure J0 (h:AA) (lo:Nat) (tag:Nat→Nat) (r n:Nat) (vq vv vt vu vo:Value) (s:AN):Prop where
 rows:h.get r=.row (s.rows.flatMap AW) 61 true false
 len:s.rows.length=n
 tr:tag r=1
 lr:lo≤r∧r<h.next
 q:E3 h lo tag 2 vq s.queues.length (C1 s.queues) 102
 v:E3 h lo tag 3 vv s.vars.length (C7 s.vars) 9
 t:E3 h lo tag 4 vt s.tags.length (C7 s.tags) 9
 u:E3 h lo tag 5 vu s.rules.length (ints s.rules) 3
 o:E3 h lo tag 6 vo s.on.length (ints s.on) 3
theorem J0.mono {h h':AA} {lo:Nat} {tag tag':Nat→Nat} {r n:Nat} {vq vv vt vu vo:Value} {s:AN} (hp:J0 h lo tag r n vq vv vt vu vo s) (hn:h.next≤h'.next) (ht:∀ i,i<h.next→tag' i=tag i)
  (hg:∀ i,lo≤i→i<h.next→1≤tag i→tag i≤6→h'.get i=h.get i):J0 h' lo tag' r n vq vv vt vu vo s where
 rows:=by rw[hg r hp.lr.1 hp.lr.2 (by rw[hp.tr];omega) (by rw[hp.tr];omega)];exact hp.rows
 len:=hp.len
 tr:=by rw[ht r hp.lr.2];exact hp.tr
 lr:=⟨hp.lr.1,by have:=hp.lr.2;omega⟩
 q:=hp.q.mono hn ht fun i h1 h2 h3=>hg i h1 h2 (by omega) (by omega)
 v:=hp.v.mono hn ht fun i h1 h2 h3=>hg i h1 h2 (by omega) (by omega)
 t:=hp.t.mono hn ht fun i h1 h2 h3=>hg i h1 h2 (by omega) (by omega)
 u:=hp.u.mono hn ht fun i h1 h2 h3=>hg i h1 h2 (by omega) (by omega)
 o:=hp.o.mono hn ht fun i h1 h2 h3=>hg i h1 h2 (by omega) (by omega)
theorem J0.at {h:AA} {lo:Nat} {tag:Nat→Nat} {r n:Nat} {vq vv vt vu vo:Value} {s:AN} (hp:J0 h lo tag r n vq vv vt vu vo s):A7 h (qS r n AO) s.rows:=by
 have:=vG (c:=AO) hp.rows hp.lr.2
 rw[hp.len] at this
 exact this
theorem bD:∀ (l:List FT) (x:ByteArray),I3 (.string x) (l.map I5)=some ((FQ l x).map fun t=>.agg #[iv t.kind,iv t.num,iv t.known])
 | [],x=>rfl
 | t :: l,x=>by
  simp only[List.map_cons,I3,I5,IP,FQ,List.find?_cons]
  cases hb:(x==t.name) with
  | true=>rfl
  | false=>exact bD l x
theorem oQ:∀ (l:List FT) (x:ByteArray) (v:Value),FQ l x=none→FR (.string x) v (l.map I5)=l.map I5++[(.string x,v)]
 | [],x,v,_=>rfl
 | t :: l,x,v,hf=>by
  simp only[FQ,List.find?_cons] at hf
  cases hb:(x==t.name) with
  | true=>rw[hb] at hf;cases hf
  | false=>
   rw[hb] at hf
   have:=oQ l x v hf
   simp only[List.map_cons,I5,FR,IP,hb,Option.some.injEq,Bool.false_eq_true,if_false,List.cons_append]
   rw[← this]
def U6 (es:List (Value × Value)):Prop:=∀ p∈es,∃ j:Int,p.1=iv j
theorem jX:∀ (es:List (Value × Value)) (k k':Int) (v:Value),U6 es→I3 (iv k) (FR (iv k') v es)=if k=k' then some (some v) else I3 (iv k) es
 | [],k,k',v,_=>by
  simp only[FR,I3,IP,if_true]
  by_cases hk:k=k'
  ·subst hk;simp
  ·have:(k==k')=false:=by simpa using hk
   rw[this,if_neg hk]
 | (x,u) :: es,k,k',v,hi=>by
  obtain⟨j,hj⟩:=hi (x,u) (by simp)
  simp only at hj
  subst hj
  have ih:=jX es k k' v fun p hp=>hi p (by simp[hp])
  simp only[FR,IP,if_true,Option.some.injEq,beq_iff_eq]
  by_cases hkj:k'=j
  ·subst hkj
   rw[if_pos rfl]
   simp only[I3,IP,if_true]
   by_cases hk:k=k'
   ·subst hk;simp
   ·have:(k==k')=false:=by simpa using hk
    rw[this,if_neg hk]
  ·rw[if_neg hkj]
   simp only[I3,IP,if_true]
   cases hb:(k==j) with
   | true=>
    have:k=j:=by simpa using hb
    subst this
    rw[if_neg (fun e=>hkj e.symm)]
   | false=>exact ih
theorem eD:∀ (es:List (Value × Value)) (k:Int) (v:Value),U6 es→U6 (FR (iv k) v es)
 | [],k,v,_=>by intro p hp;simp[FR] at hp;exact⟨k,by rw[hp]⟩
 | (x,u) :: es,k,v,hi=>by
  have ih:=eD es k v fun p hp=>hi p (by simp[hp])
  intro p hp
  simp only[FR] at hp
  split at hp
  ·simp only[List.mem_cons] at hp
   rcases hp with rfl | hp
   ·exact⟨k,rfl⟩
   ·exact hi p (by simp[hp])
  ·simp only[List.mem_cons] at hp
   rcases hp with rfl | hp
   ·exact hi _ (by simp)
   ·exact ih p hp
def QW (es:List (Value × Value)) (s:AN):Prop:=U6 es∧∀ k:Int,1≤k→k≤4→I3 (iv k) es=some (if BO s k=0 then none else some (iv (BO s k:Int)))
theorem mV:BG Tryd.prog 26=some 1:=by kernel_rfl
theorem aV:BG Tryd.prog 30=some 1:=by kernel_rfl
theorem QO:BG Tryd.prog 31=some 1:=by kernel_rfl
theorem LI:BG Tryd.prog 27=some 1:=by kernel_rfl
theorem HU:BG Tryd.prog 33=some 8:=by kernel_rfl
theorem O3:BG Tryd.prog 102=some 2:=by kernel_rfl
theorem Fy:BG Tryd.prog 65=some 1:=by kernel_rfl
theorem tZ:BG Tryd.prog 66=some 1:=by kernel_rfl
theorem Ez:BG Tryd.prog 67=some 1:=by kernel_rfl
theorem Aq:BG Tryd.prog 69=some 10:=by kernel_rfl
theorem fY:BG Tryd.prog 97=some 2:=by kernel_rfl
theorem kR:BG Tryd.prog 99=some 3:=by kernel_rfl
theorem sI:E1 Tryd.prog 26=some false:=by kernel_rfl
theorem zE:E1 Tryd.prog 30=some false:=by kernel_rfl
theorem xG:E1 Tryd.prog 31=some false:=by kernel_rfl
theorem Eo:E1 Tryd.prog 27=some false:=by kernel_rfl
theorem vV:E1 Tryd.prog 33=some true:=by kernel_rfl
theorem wZ:E1 Tryd.prog 65=some false:=by kernel_rfl
theorem x_:E1 Tryd.prog 66=some false:=by kernel_rfl
theorem Gv:E1 Tryd.prog 67=some false:=by kernel_rfl
theorem Fd:E1 Tryd.prog 97=some true:=by kernel_rfl
theorem VN:GL Tryd.prog 9=some 16:=by kernel_rfl
theorem QD:GL Tryd.prog 61=some 48:=by kernel_rfl
theorem j8:GL Tryd.prog 102=some 24:=by kernel_rfl
theorem SF:CU Tryd.prog 9=some (.string ByteArray.empty):=by kernel_rfl
theorem RS:CU Tryd.prog 102=some (.agg #[.string ByteArray.empty,.bool false]):=by kernel_rfl
theorem RC:CU Tryd.prog 99=some (.agg #[iv 0,iv 0,iv 0]):=by kernel_rfl
theorem Il:CU Tryd.prog 97=some (.agg #[iv 0,iv 0]):=by kernel_rfl
theorem vB:CU Tryd.prog 33=some (.agg #[.string ByteArray.empty,Z0,Z0,Z0,Z0,Z0,Z0,iv 0]):=by kernel_rfl
section
variable {h:AA} {id off:Nat}
theorem DK:DY Tryd.prog h 26 (qP id off)=AJ off (h.get id):=KN sI
theorem FY:DY Tryd.prog h 30 (qP id off)=AJ off (h.get id):=KN zE
theorem JR:DY Tryd.prog h 31 (qP id off)=AJ off (h.get id):=KN xG
theorem DV:DY Tryd.prog h 27 (qP id off)=AJ off (h.get id):=KN Eo
theorem S7:DY Tryd.prog h 65 (qP id off)=AJ off (h.get id):=KN wZ
theorem XR:DY Tryd.prog h 66 (qP id off)=AJ off (h.get id):=KN x_
theorem oJ:DY Tryd.prog h 67 (qP id off)=AJ off (h.get id):=KN Gv
theorem EM:DY Tryd.prog h 33 (qP id off)=BF 8 off (h.get id):=LX vV HU
theorem eO:DY Tryd.prog h 97 (qP id off)=BF 2 off (h.get id):=LX Fd fY
theorem IH:BJ Tryd.prog 69 (qP id off) 0=some (qP id off):=by simp[BJ,Tryd.underlying69,HU,CJ]
theorem ZC:BJ Tryd.prog 69 (qP id off) 1=some (qP id (off+8)):=by simp[BJ,Tryd.underlying69,tZ,CJ]
theorem iE:BJ Tryd.prog 69 (qP id off) 2=some (qP id (off+9)):=by simp[BJ,Tryd.underlying69,Ez,CJ]
theorem LQ:BJ Tryd.prog 33 (qP id off) 0=some (qP id off):=by simp[BJ,Tryd.underlying33,L_,CJ]
theorem DI:BJ Tryd.prog 33 (qP id off) 1=some (qP id (off+1)):=by simp[BJ,Tryd.underlying33,mV,CJ]
theorem FX:BJ Tryd.prog 33 (qP id off) 2=some (qP id (off+2)):=by simp[BJ,Tryd.underlying33,aV,CJ]
theorem K_:BJ Tryd.prog 33 (qP id off) 3=some (qP id (off+3)):=by simp[BJ,Tryd.underlying33,QO,CJ]
theorem LB:BJ Tryd.prog 33 (qP id off) 4=some (qP id (off+4)):=by simp[BJ,Tryd.underlying33,QO,CJ]
theorem KC:BJ Tryd.prog 33 (qP id off) 5=some (qP id (off+5)):=by simp[BJ,Tryd.underlying33,LI,CJ]
theorem KU:BJ Tryd.prog 33 (qP id off) 6=some (qP id (off+6)):=by simp[BJ,Tryd.underlying33,LI,CJ]
theorem J_:BJ Tryd.prog 33 (qP id off) 7=some (qP id (off+7)):=by simp[BJ,Tryd.underlying33,C4,CJ]
theorem dL:BJ Tryd.prog 99 (qP id off) 0=some (qP id off):=by simp[BJ,Tryd.underlying99,fY,CJ]
theorem aC:BJ Tryd.prog 99 (qP id off) 1=some (qP id (off+2)):=by simp[BJ,Tryd.underlying99,C4,CJ]
theorem fL:BJ Tryd.prog 97 (qP id off) 1=some (qP id (off+1)):=by simp[BJ,Tryd.underlying97,C4,CJ]
theorem MN:BJ Tryd.prog 102 (qP id off) 1=some (qP id (off+1)):=by simp[BJ,Tryd.underlying102,OR,CJ]
theorem ON {n c i:Nat} (hi:i<n):CL Tryd.prog 26 (qS id n c) (iv (i:Int))=some (.pointer (some ⟨id,i*5,none⟩)):=by
 simp only[CL,Tryd.underlying26,FV,CJ]
 rw[if_pos (by omega)]
 simp
theorem HW {t:TypeId} {v:Value} {cs:List Value} {ty:TypeId} {g:Bool} (ht:BG Tryd.prog t=some 1) (hv:v.cells=#[v]) (ho:one v=true) (hg:h.get id=.row cs ty g false) (hi:off<cs.length) (hf:h.floor≤id):A_ Tryd.prog h t (qP id off) v=some (h.put id (.row (cs.set off v) ty g false)):=by
 have hsz:(some 1:Option Nat)=some (#[v]:Array Value).size:=rfl
 simp only[A_,hv,ht,FW,hg]
 rw[if_pos hsz,if_pos (by simp[ho];omega),YG hi]
end
theorem aM:H0 Tryd.prog (match Tryd.prog.underlying 102 with | some (.struct fs)=>fs.toList | _=>[])=some [(0,1),(1,1)]:=by kernel_rfl
theorem rW:H0 Tryd.prog (match Tryd.prog.underlying 97 with | some (.struct fs)=>fs.toList | _=>[])=some [(0,1),(1,1)]:=by kernel_rfl
theorem Hx:H0 Tryd.prog (match Tryd.prog.underlying 99 with | some (.struct fs)=>fs.toList | _=>[])=some [(0,2),(2,1)]:=by kernel_rfl
theorem lT {a b:Value}:flat (.agg #[a,b])=(BI a&&(BI b&&true)):=by simp[flat]
theorem i_ {a b c:Value}:flat (.agg #[a,b,c])=(BI a&&(BI b&&(BI c&&true))):=by simp[flat]
theorem Gi {nm:ByteArray} {g:Bool}:CZ Tryd.prog 102 [(0,.string nm),(1,.bool g)]=some (.agg #[.string nm,.bool g]):=by
 have h:=aM
 rw[Tryd.underlying102] at h
 simp only at h
 simp only[CZ,RS,lT,qI,Gp,Bool.and_self,if_true,Tryd.underlying102,h]
 rfl
theorem YI {a b:Int}:CZ Tryd.prog 97 [(0,iv a),(1,iv b)]=some (.agg #[iv a,iv b]):=by
 have h:=rW
 rw[Tryd.underlying97] at h
 simp only at h
 simp only[CZ,Il,lT,P8,Bool.and_self,if_true,Tryd.underlying97,h]
 rfl
theorem vO {a b c:Int}:CZ Tryd.prog 99 [(0,.agg #[iv a,iv b]),(1,iv c)]=some (.agg #[iv a,iv b,iv c]):=by
 have h:=Hx
 rw[Tryd.underlying99] at h
 simp only at h
 simp only[CZ,RC,i_,P8,Bool.and_self,if_true,Tryd.underlying99,h]
 rfl
section
variable {h:AA}
theorem uC {nm:ByteArray} {g:Bool}:FC Tryd.prog h 30 1 [(0,.agg #[.string nm,.bool g])]=some (qS h.next 1 1,h.push (.row [.string nm,.bool g] 102 false false)):=by
 simp[FC,Tryd.underlying30,O3,RS,flat,BI,MI,IQ,BQ,Go.Sx.lay]
theorem nK {nm:ByteArray}:FC Tryd.prog h 31 1 [(0,.string nm)]=some (qS h.next 1 1,h.push (.row [.string nm] 9 false false)):=by
 have hc:∀ x,(Value.string x).cells=#[.string x]:=fun _=>rfl
 simp[FC,Tryd.underlying31,L_,SF,flat,BI,hc,IQ,BQ,Go.Sx.lay]
theorem NS {x:Int}:FC Tryd.prog h 27 1 [(0,iv x)]=some (qS h.next 1 1,h.push (.row [iv x] 3 false false)):=by
 have hc:∀ x:Int,(iv x).cells=#[iv x]:=fun _=>rfl
 simp[FC,Tryd.underlying27,C4,HZ,flat,BI,hc,IQ,BQ,Go.Sx.lay]
theorem nT {k:Nat} {l:List FT} {x:ByteArray} (hg:h.get k=.map (l.map I5)):OD Tryd.prog h 66 (.map (some k)) (.string x) true=some (match FQ l x with
  | some t=>.tuple #[.agg #[iv t.kind,iv t.num,iv t.known],.bool true]
  | none=>.tuple #[.agg #[iv 0,iv 0,iv 0],.bool false]):=by
 have hk:LC Tryd.prog 9 (.string x)=true:=by simp[LC,Tryd.underlying9]
 simp only[OD,Tryd.underlying66,hk,hg,bD,if_true]
 cases FQ l x with
 | some t=>rfl
 | none=>
  simp only[Option.map_none,RC,i_,P8,Bool.and_self,if_true]
theorem Ep {k:Nat} {l:List FT} {x:ByteArray} {a b c:Int} (hg:h.get k=.map (l.map I5)) (hf:FQ l x=none) (hfl:h.floor≤k):LH Tryd.prog h 66 (.map (some k)) (.string x) (.agg #[iv a,iv b,iv c])=some (h.put k (.map ((l++[(⟨x,a,b,c⟩:FT)]).map I5))):=by
 have hk:LC Tryd.prog 9 (.string x)=true:=by simp[LC,Tryd.underlying9]
 simp only[LH,Tryd.underlying66,hk,hg,bD,decide_eq_true hfl,Bool.and_self,if_true,oQ _ _ _ hf,List.map_append,List.map_cons,List.map_nil,I5]
theorem xA {c:Nat} {es:List (Value × Value)} {s:AN} {k:Int} (hg:h.get c=.map es) (hm:QW es s) (h1:1≤k) (h4:k≤4):OD Tryd.prog h 67 (.map (some c)) (iv k) false=some (iv (BO s k:Int)):=by
 have hk:LC Tryd.prog 3 (iv k)=true:=by simp[LC,Tryd.underlying3]
 simp only[OD,Tryd.underlying67,hk,hg,hm.2 k h1 h4,if_true]
 by_cases h0:BO s k=0
 ·rw[if_pos h0,h0]
  simp only[HZ,WI,if_true,Bool.false_eq_true,if_false]
  rfl
 ·rw[if_neg h0]
  simp only[Bool.false_eq_true,if_false]
theorem Fm {c:Nat} {es:List (Value × Value)} {s:AN} {k:Int} {v:Value} (hg:h.get c=.map es) (hm:QW es s) (h1:1≤k) (h4:k≤4) (hfl:h.floor≤c):LH Tryd.prog h 67 (.map (some c)) (iv k) v=some (h.put c (.map (FR (iv k) v es))):=by
 have hk:LC Tryd.prog 3 (iv k)=true:=by simp[LC,Tryd.underlying3]
 simp only[LH,Tryd.underlying67,hk,hg,hm.2 k h1 h4,decide_eq_true hfl,Bool.and_self,if_true]
end
structure BH (h:AA) (lo m k c e r n:Nat) (nm:ByteArray) (E:List Int) (tag:Nat→Nat) (vq vv vt vu vo:Value) (es:List (Value × Value)) (s:AN):Prop where
 cell:h.get m=.row [.string nm,qS r n AO,vq,vv,vt,vu,vo,iv s.miss,.map (some k),.map (some c)] 69 false false
 pol:J0 h lo tag r n vq vv vt vu vo s
 known:h.get k=.map (s.things.map I5)
 many:h.get c=.map es
 ends:h.get e=.row (ints E) 3 false false
 tm:tag m=0
 tk:tag k=8
 tc:tag c=9
 te:tag e=10
 lm:lo≤m∧m<h.next
 lk:lo≤k∧k<h.next
 lc:lo≤c∧c<h.next
 le:lo≤e∧e<h.next
 fl:h.floor≤lo
section
variable {h h':AA} {lo m k c e r n:Nat} {nm:ByteArray} {E:List Int} {tag tag':Nat→Nat} {vq vv vt vu vo:Value} {es:List (Value × Value)} {s s':AN}
theorem OG {a i:Nat} (hl:lo≤a) (ht:tag a≤10) (hi:i<lo∨(i<h.next∧11≤tag i)):a≠i:=by
 rintro rfl
 omega
theorem GB {a b:Nat} (h:tag a≠tag b):a≠b:=fun e=>h (by rw[e])
theorem BH.mono (hp:BH h lo m k c e r n nm E tag vq vv vt vu vo es s) (hn:h.next≤h'.next) (hf:h'.floor=h.floor) (ht:∀ i,i<h.next→tag' i=tag i)
  (hg:∀ i,lo≤i→i<h.next→h'.get i=h.get i):BH h' lo m k c e r n nm E tag' vq vv vt vu vo es s where
 cell:=by rw[hg m hp.lm.1 hp.lm.2];exact hp.cell
 pol:=hp.pol.mono hn ht fun i h1 h2 _ _=>hg i h1 h2
 known:=by rw[hg k hp.lk.1 hp.lk.2];exact hp.known
 many:=by rw[hg c hp.lc.1 hp.lc.2];exact hp.many
 ends:=by rw[hg e hp.le.1 hp.le.2];exact hp.ends
 tm:=by rw[ht m hp.lm.2];exact hp.tm
 tk:=by rw[ht k hp.lk.2];exact hp.tk
 tc:=by rw[ht c hp.lc.2];exact hp.tc
 te:=by rw[ht e hp.le.2];exact hp.te
 lm:=⟨hp.lm.1,by have:=hp.lm.2;omega⟩
 lk:=⟨hp.lk.1,by have:=hp.lk.2;omega⟩
 lc:=⟨hp.lc.1,by have:=hp.lc.2;omega⟩
 le:=⟨hp.le.1,by have:=hp.le.2;omega⟩
 fl:=by rw[hf];exact hp.fl
theorem BH.push (hp:BH h lo m k c e r n nm E tag vq vv vt vu vo es s) (o:A9):BH (h.push o) lo m k c e r n nm E tag vq vv vt vu vo es s:=
 hp.mono (by show h.next≤h.next+1;omega) rfl (fun _ _=>rfl) fun i _ hi=>AR hi
theorem BH.putNew (hp:BH h lo m k c e r n nm E tag vq vv vt vu vo es s) {o o':A9}:BH ((h.push o').put h.next o) lo m k c e r n nm E tag vq vv vt vu vo es s:=
 hp.mono (by show h.next≤h.next+1;omega) rfl (fun _ _=>rfl) fun i _ hi=>by rw[AV (by show h.next<h.next+1;omega) (by omega),AR hi]
theorem BH.putC (hp:BH h lo m k c e r n nm E tag vq vv vt vu vo es s) (es':List (Value × Value)):BH (h.put c (.map es')) lo m k c e r n nm E tag vq vv vt vu vo es' s where
 cell:=by rw[AV hp.lc.2 (GB (tag:=tag) (by rw[hp.tm,hp.tc];decide))];exact hp.cell
 pol:=hp.pol.mono (Nat.le_refl _) (fun _ _=>rfl) fun i _ _ h1 h2=>AV hp.lc.2 (GB (tag:=tag) (by rw[hp.tc];omega))
 known:=by rw[AV hp.lc.2 (GB (tag:=tag) (by rw[hp.tk,hp.tc];decide))];exact hp.known
 many:=B0 rfl hp.lc.2
 ends:=by rw[AV hp.lc.2 (GB (tag:=tag) (by rw[hp.te,hp.tc];decide))];exact hp.ends
 tm:=hp.tm
 tk:=hp.tk
 tc:=hp.tc
 te:=hp.te
 lm:=hp.lm
 lk:=hp.lk
 lc:=hp.lc
 le:=hp.le
 fl:=hp.fl
theorem BH.putK (hp:BH h lo m k c e r n nm E tag vq vv vt vu vo es s) (l:List FT):BH (h.put k (.map (l.map I5))) lo m k c e r n nm E tag vq vv vt vu vo es { s with things:=l } where
 cell:=by rw[AV hp.lk.2 (GB (tag:=tag) (by rw[hp.tm,hp.tk];decide))];exact hp.cell
 pol:=by
  have:=hp.pol.mono (h':=h.put k (.map (l.map I5))) (Nat.le_refl _) (fun _ _=>rfl) fun i _ _ h1 h2=>AV hp.lk.2 (GB (tag:=tag) (by rw[hp.tk];omega))
  exact⟨this.rows,this.len,this.tr,this.lr,this.q,this.v,this.t,this.u,this.o⟩
 known:=B0 rfl hp.lk.2
 many:=by rw[AV hp.lk.2 (GB (tag:=tag) (by rw[hp.tc,hp.tk];decide))];exact hp.many
 ends:=by rw[AV hp.lk.2 (GB (tag:=tag) (by rw[hp.te,hp.tk];decide))];exact hp.ends
 tm:=hp.tm
 tk:=hp.tk
 tc:=hp.tc
 te:=hp.te
 lm:=hp.lm
 lk:=hp.lk
 lc:=hp.lc
 le:=hp.le
 fl:=hp.fl
theorem BH.pol' (hp:BH h lo m k c e r n nm E tag vq vv vt vu vo es s) {vq' vv' vt' vu' vo':Value} (hn:h.next≤h'.next) (hf:h'.floor=h.floor) (ht:∀ i,i<h.next→tag' i=tag i)
  (hg:∀ i,lo≤i→i<h.next→8≤tag i→h'.get i=h.get i) (hc:h'.get m=.row [.string nm,qS r n AO,vq',vv',vt',vu',vo',iv s'.miss,.map (some k),.map (some c)] 69 false false)
  (hp':J0 h' lo tag' r n vq' vv' vt' vu' vo' s') (hth:s'.things=s.things):BH h' lo m k c e r n nm E tag' vq' vv' vt' vu' vo' es s' where
 cell:=hc
 pol:=hp'
 known:=by rw[hg k hp.lk.1 hp.lk.2 (by rw[hp.tk];omega),hth];exact hp.known
 many:=by rw[hg c hp.lc.1 hp.lc.2 (by rw[hp.tc];omega)];exact hp.many
 ends:=by rw[hg e hp.le.1 hp.le.2 (by rw[hp.te];omega)];exact hp.ends
 tm:=by rw[ht m hp.lm.2];exact hp.tm
 tk:=by rw[ht k hp.lk.2];exact hp.tk
 tc:=by rw[ht c hp.lc.2];exact hp.tc
 te:=by rw[ht e hp.le.2];exact hp.te
 lm:=⟨hp.lm.1,by have:=hp.lm.2;omega⟩
 lk:=⟨hp.lk.1,by have:=hp.lk.2;omega⟩
 lc:=⟨hp.lc.1,by have:=hp.lc.2;omega⟩
 le:=⟨hp.le.1,by have:=hp.le.2;omega⟩
 fl:=by rw[hf];exact hp.fl
theorem J0.putR (hp:J0 h lo tag r n vq vv vt vu vo s) {l:List AB} (hl:l.length=s.rows.length):J0 (h.put r (.row (l.flatMap AW) 61 true false)) lo tag r n vq vv vt vu vo { s with rows:=l }:=
 have hg:∀ i j,2≤j→tag i=j→(h.put r (.row (l.flatMap AW) 61 true false)).get i=h.get i:=fun i j hj hi=>AV hp.lr.2 (GB (tag:=tag) (by rw[hp.tr];omega))
 ⟨B0 rfl hp.lr.2,hl.trans hp.len,hp.tr,hp.lr,hp.q.mono (Nat.le_refl _) (fun _ _=>rfl) fun i _ _ h3=>hg i 2 (by omega) h3,hp.v.mono (Nat.le_refl _) (fun _ _=>rfl) fun i _ _ h3=>hg i 3 (by omega) h3,hp.t.mono (Nat.le_refl _) (fun _ _=>rfl) fun i _ _ h3=>hg i 4 (by omega) h3,hp.u.mono (Nat.le_refl _) (fun _ _=>rfl) fun i _ _ h3=>hg i 5 (by omega) h3,hp.o.mono (Nat.le_refl _) (fun _ _=>rfl) fun i _ _ h3=>hg i 6 (by omega) h3⟩
theorem BH.putR (hp:BH h lo m k c e r n nm E tag vq vv vt vu vo es s) {l:List AB} (hl:l.length=s.rows.length):BH (h.put r (.row (l.flatMap AW) 61 true false)) lo m k c e r n nm E tag vq vv vt vu vo es { s with rows:=l }:=
 hp.pol' (Nat.le_refl _) rfl (fun _ _=>rfl) (fun i _ _ h1=>AV hp.pol.lr.2 (GB (tag:=tag) (by rw[hp.pol.tr];omega))) (by rw[AV hp.pol.lr.2 (GB (tag:=tag) (by rw[hp.pol.tr,hp.tm];decide))];exact hp.cell) (hp.pol.putR hl) rfl
theorem BH.c1 (hp:BH h lo m k c e r n nm E tag vq vv vt vu vo es s):AJ 1 (h.get m)=some (qS r n AO):=by rw[hp.cell];rfl
theorem BH.c2 (hp:BH h lo m k c e r n nm E tag vq vv vt vu vo es s):AJ 2 (h.get m)=some vq:=by rw[hp.cell];rfl
theorem BH.c3 (hp:BH h lo m k c e r n nm E tag vq vv vt vu vo es s):AJ 3 (h.get m)=some vv:=by rw[hp.cell];rfl
theorem BH.c4 (hp:BH h lo m k c e r n nm E tag vq vv vt vu vo es s):AJ 4 (h.get m)=some vt:=by rw[hp.cell];rfl
theorem BH.c5 (hp:BH h lo m k c e r n nm E tag vq vv vt vu vo es s):AJ 5 (h.get m)=some vu:=by rw[hp.cell];rfl
theorem BH.c6 (hp:BH h lo m k c e r n nm E tag vq vv vt vu vo es s):AJ 6 (h.get m)=some vo:=by rw[hp.cell];rfl
theorem BH.c7 (hp:BH h lo m k c e r n nm E tag vq vv vt vu vo es s):AJ 7 (h.get m)=some (iv s.miss):=by rw[hp.cell];rfl
theorem BH.c8 (hp:BH h lo m k c e r n nm E tag vq vv vt vu vo es s):AJ 8 (h.get m)=some (.map (some k)):=by rw[hp.cell];rfl
theorem BH.c9 (hp:BH h lo m k c e r n nm E tag vq vv vt vu vo es s):AJ 9 (h.get m)=some (.map (some c)):=by rw[hp.cell];rfl
theorem BH.row (hp:BH h lo m k c e r n nm E tag vq vv vt vu vo es s) {at_:Nat} {x:AB} (hx:s.rows[at_]?=some x):at_<n∧AJ (at_*5) (h.get r)=some (iv x.kind)∧AJ (at_*5+1) (h.get r)=some (.string x.name)∧AJ (at_*5+2) (h.get r)=some (iv x.ends)∧AJ (at_*5+3) (h.get r)=some (iv x.n)∧AJ (at_*5+4) (h.get r)=some (iv x.kids) ∧
  BF 5 (at_*5) (h.get r)=some (.agg #[iv x.kind,.string x.name,iv x.ends,iv x.n,iv x.kids]):=by
 have hl:at_<n:=by rw[← hp.pol.len];exact(List.getElem?_eq_some_iff.1 hx).1
 obtain⟨id,q,e0,hid,l0,l1,l2,l3,l4,lr⟩:=hp.pol.at.row hx
 rw[ON hl] at e0
 simp only[Option.some.injEq,Value.pointer.injEq,Addr.mk.injEq,and_true] at e0
 obtain⟨rfl,rfl⟩:=e0
 exact⟨hl,l0,l1,l2,l3,l4,lr⟩
end
end Go.Proofs.YtdejoodfeljmkaaDoor
