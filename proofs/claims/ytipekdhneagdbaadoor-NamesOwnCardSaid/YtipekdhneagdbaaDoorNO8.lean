/- Part 8 of what the claim leans on: 18 texts laid one behind another. -/
import Derived.Test.YtipekdhneagdbaaDoorNO7
import Derived.Laws.Bits64b
import Derived.Lib.Mul64
import Derived.Test.YtipekdhneagdbaaDoorProg
namespace Go.Sx
open Go
set_option linter.unusedSimpArgs false
set_option linter.unusedVariables false
set_option maxHeartbeats 64000000
inductive BS where
 | top (Q:DB→St→Prop)
 | seq (b:Code) (k:BS)
 | block (id:Nat) (k:BS)
 | inv (J:St→Prop) (k:BS)
def BS.ap (P:Program) (call:AK) (n:Nat):BS→DB→St→Prop
 | .top Q,e,s=>Q e s
 | .seq b k,.normal,s=>WS P call n b s (k.ap P call n)
 | .seq _ k,e,s=>k.ap P call n e s
 | .block id k,.exit i,s=>if i=id then k.ap P call n .normal s else k.ap P call n (.exit i) s
 | .block _ k,e,s=>k.ap P call n e s
 | .inv J _,.normal,s=>J s
 | .inv _ k,e,s=>k.ap P call n e s
def WK (P:Program) (call:AK) (n:Nat) (c:Code) (s:St) (k:BS):Prop:=WS P call n c s (k.ap P call n)
def KL (P:Program) (call:AK) (n:Nat) (ops:Array Oper) (l:List Oper) (s:St) (k:BS):Prop:=WL P call ops l s (k.ap P call n .normal)
def N2 (P:Program) (call:AK) (n:Nat) (ops:Array Oper) (l:List Oper) (dst:Option Tmp) (T:Tr) (k:BS):Option (Value × AA)→Prop
 | some (v,h)=>KL P call n ops l ⟨T.put dst v,h⟩ k
 | none=>False
def TT (P:Program) (call:AK) (n:Nat) (ops:Array Oper) (l:List Oper) (dst:Option Tmp) (T:Tr) (h:AA) (k:BS):Option Value→Prop
 | some v=>KL P call n ops l ⟨T.put dst v,h⟩ k
 | none=>False
def i7 (P:Program) (call:AK) (n:Nat) (a b:Code) (s:St) (k:BS):Value→Prop
 | .bool t=>(t=true→WK P call n a s k)∧(t=false→WK P call n b s k)
 | _=>False
section
variable {P:Program} {call:AK} {n:Nat} {s:St} {k:BS} {Q:DB→St→Prop}
theorem kZ {e:DB}:(BS.top Q).ap P call n e s=Q e s:=rfl
theorem P4 {b:Code}:(BS.seq b k).ap P call n .normal s=WK P call n b s k:=rfl
theorem jP {b:Code} {i:Nat}:(BS.seq b k).ap P call n (.exit i) s=k.ap P call n (.exit i) s:=rfl
theorem jJ {b:Code}:(BS.seq b k).ap P call n .ret s=k.ap P call n .ret s:=rfl
theorem eS {id:Nat}:(BS.block id k).ap P call n .normal s=k.ap P call n .normal s:=rfl
theorem jQ {id i:Nat}:(BS.block id k).ap P call n (.exit i) s=if i=id then k.ap P call n .normal s else k.ap P call n (.exit i) s:=rfl
theorem mB {id:Nat}:(BS.block id k).ap P call n .ret s=k.ap P call n .ret s:=rfl
theorem fL {J:St→Prop}:(BS.inv J k).ap P call n .normal s=J s:=rfl
theorem lU {J:St→Prop} {i:Nat}:(BS.inv J k).ap P call n (.exit i) s=k.ap P call n (.exit i) s:=rfl
theorem iC {J:St→Prop}:(BS.inv J k).ap P call n .ret s=k.ap P call n .ret s:=rfl
theorem nM:WK P call n .skip s k=k.ap P call n .normal s:=by
 apply propext;simp only[WK,WS,B9,Option.some.injEq,Prod.mk.injEq]
 exact⟨fun ⟨_,_,⟨rfl,rfl⟩,h⟩=>h,fun h=>⟨_,_,⟨rfl,rfl⟩,h⟩⟩
theorem dL {id:Nat}:WK P call n (.exit id) s k=k.ap P call n (.exit id) s:=by
 apply propext;simp only[WK,WS,B9,Option.some.injEq,Prod.mk.injEq]
 exact⟨fun ⟨_,_,⟨rfl,rfl⟩,h⟩=>h,fun h=>⟨_,_,⟨rfl,rfl⟩,h⟩⟩
theorem kD:WK P call n .ret s k=k.ap P call n .ret s:=by
 apply propext;simp only[WK,WS,B9,Option.some.injEq,Prod.mk.injEq]
 exact⟨fun ⟨_,_,⟨rfl,rfl⟩,h⟩=>h,fun h=>⟨_,_,⟨rfl,rfl⟩,h⟩⟩
theorem KG {a b:Code}:WK P call n (.seq a b) s k=WK P call n a s (.seq b k):=by
 apply propext
 constructor
 ·rintro ⟨e,s',h1,h2⟩
  simp only[B9] at h1
  split at h1
  ·rename_i s1 h3
   exact⟨_,_,h3,_,_,h1,h2⟩
  ·rename_i hne
   refine⟨_,_,h1,?_⟩
   cases e with
   | normal=>exact absurd h1 (hne _)
   | exit id=>exact h2
   | ret=>exact h2
 ·rintro ⟨e,s',h1,h2⟩
  cases e with
  | normal=>
   obtain⟨e2,s2,h3,h4⟩:=h2
   exact⟨e2,s2,by simp only[B9,h1,h3],h4⟩
  | exit id=>exact⟨_,_,by simp only[B9,h1],h2⟩
  | ret=>exact⟨_,_,by simp only[B9,h1],h2⟩
theorem WR {id:Nat} {c:Code}:WK P call n (.block id c) s k=WK P call n c s (.block id k):=by
 apply propext
 constructor
 ·rintro ⟨e,s',h1,h2⟩
  simp only[B9] at h1
  split at h1
  ·rename_i i s1 h3
   refine⟨_,_,h3,?_⟩
   unfold BS.ap
   split at h1 <;> (cases h1;simp_all)
  ·rename_i hne
   refine⟨_,_,h1,?_⟩
   cases e with
   | normal=>exact h2
   | exit id=>exact absurd h1 (hne _ _)
   | ret=>exact h2
 ·rintro ⟨e,s',h1,h2⟩
  cases e with
  | normal=>exact⟨_,_,by simp only[B9,h1],h2⟩
  | exit i=>
   by_cases hi:i=id
   ·subst hi
    exact⟨.normal,s',by simp only[B9,h1,if_true],by simpa [BS.ap] using h2⟩
   ·exact⟨.exit i,s',by simp only[B9,h1,hi,if_false],by simpa [BS.ap,hi] using h2⟩
  | ret=>exact⟨_,_,by simp only[B9,h1],h2⟩
theorem nL {c:Operand} {a b:Code}:WK P call n (.cond c a b) s k=i7 P call n a b s k (ev s.T c):=by
 apply propext
 constructor
 ·rintro ⟨e,s',h1,h2⟩
  simp only[B9] at h1
  split at h1
  ·rename_i he;rw[he];exact⟨fun _=>⟨_,_,h1,h2⟩,fun h=>(by cases h)⟩
  ·rename_i he;rw[he];exact⟨fun h=>(by cases h),fun _=>⟨_,_,h1,h2⟩⟩
  ·cases h1
 ·intro h
  cases he:ev s.T c with
  | bool t=>rw[he] at h;exact .cond he h.1 h.2
  | _=>rw[he] at h;exact h.elim
theorem iS {a b:Code} {t:Bool}:i7 P call n a b s k (.bool t)=((t=true→WK P call n a s k)∧(t=false→WK P call n b s k)):=rfl
theorem fD {id:Nat} {ops:Array Oper}:WK P call n (.region id ops false) s k=KL P call n ops ops.toList s k:=by
 apply propext
 refine⟨fun ⟨e,s',h1,h2⟩=>?_,.region⟩
 simp only[B9,Bool.false_eq_true,if_false] at h1
 cases hs:HU P call ops ops.toList s with
 | none=>rw[hs] at h1;cases h1
 | some s1=>rw[hs] at h1;cases h1;exact⟨_,hs,h2⟩
theorem nE {ops:Array Oper}:KL P call n ops [] s k=k.ap P call n .normal s:=by
 simp[KL,WL,HU]
theorem gD {ops:Array Oper} {o:Oper} {l:List Oper}:KL P call n ops (o :: l) s k=if DD ops s.T o then N2 P call n ops l o.dst s.T k (AJ P call s.T s.h o.op) else KL P call n ops l ⟨s.T.put o.dst undef,s.h⟩ k:=by
 apply propext
 constructor
 ·rintro ⟨s',h1,h2⟩
  simp only[HU,E3] at h1
  by_cases hw:DD ops s.T o=true
  ·rw[if_pos hw] at h1 ⊢
   cases hs:AJ P call s.T s.h o.op with
   | none=>rw[hs] at h1;cases h1
   | some r=>
    obtain⟨v,h'⟩:=r
    rw[hs] at h1
    exact⟨s',h1,h2⟩
  ·rw[if_neg hw] at h1 ⊢
   exact⟨s',h1,h2⟩
 ·intro h
  by_cases hw:DD ops s.T o=true
  ·rw[if_pos hw] at h
   cases hs:AJ P call s.T s.h o.op with
   | none=>rw[hs] at h;exact h.elim
   | some r=>
    obtain⟨v,h'⟩:=r
    rw[hs] at h
    exact .step hw hs h
  ·rw[if_neg hw] at h
   exact .pass (by simpa using hw) h
section
variable {ops:Array Oper} {l:List Oper} {dst:Option Tmp} {T:Tr} {h:AA} {v:Value}
theorem mI:N2 P call n ops l dst T k (some (v,h))=KL P call n ops l ⟨T.put dst v,h⟩ k:=rfl
theorem c_ {r:Option Value}:N2 P call n ops l dst T k (r.map (·,h))=TT P call n ops l dst T h k r:=by cases r <;> rfl
theorem h_:TT P call n ops l dst T h k (some v)=KL P call n ops l ⟨T.put dst v,h⟩ k:=rfl
theorem N2.of {r:Option (Value × AA)} {h':AA} (hr:r=some (v,h')) (hk:KL P call n ops l ⟨T.put dst v,h'⟩ k):N2 P call n ops l dst T k r:=by rw[hr];exact hk
theorem TT.of {r:Option Value} (hr:r=some v) (hk:KL P call n ops l ⟨T.put dst v,h⟩ k):TT P call n ops l dst T h k r:=by rw[hr];exact hk
end
theorem WK.loop {c:Code} (I:Nat→St→Prop) (N:Nat) (hN:N<n) (h0:I 0 s)
  (hr:∀ i s,i≤N→I i s→WK P call n c s (.inv (fun s'=>i<N∧I (i+1) s') k)):WK P call n (.loop c) s k:=
 WS.loop I N hN h0 fun i s hi hI=>(hr i s hi hI).mono fun e s' he=>by cases e <;> exact he
theorem WM (t:Nat):Tr.leaf.get t=undef:=rfl
theorem V5 {ops:Array Oper} {T:Tr} {o:Oper} (h:o.guard=none):DD ops T o=true:=by simp[DD,h]
theorem WE {T:Tr} {t:Nat}:ev T (.tmp t)=T.get t:=rfl
theorem UD {T:Tr} {v:Value}:ev T (.const v)=v:=rfl
theorem Cw {T:Tr} {g:Nat}:ev T (.global g)=.pointer (some ⟨g,0,none⟩):=rfl
theorem WI {T:Tr} {f:Nat}:ev T (.func f)=.func (.func f) #[] #[]:=rfl
end
theorem max2 {k:IntKind} {x y:Int}:SI [.int k x,.int k y]=some (.int k (if y>x then y else x)):=rfl
theorem min2 {k:IntKind} {x y:Int}:SH [.int k x,.int k y]=some (.int k (if y<x then y else x)):=rfl
def NY:Value→Bool→Bool
 | .bool b,w=>b==w
 | _,_=>false
noncomputable def aI:Option Tmp→Tr→Bool→Bool
 | some d,T,w=>NY (T.get d) w
 | none,_,_=>false
theorem TN {ops:Array Oper} {T:Tr} {dst:Option Tmp} {op:Op} {type:TypeId} {pos:String} {after:Array Edge} {j:Nat} {w:Bool}:DD ops T ⟨dst,op,type,pos,after,some (j,w)⟩=aI ((ops[j]?).bind (·.dst)) T w:=by
 simp only[DD]
 cases (ops[j]?).bind (·.dst) with
 | none=>rfl
 | some d=>simp only[aI];cases T.get d <;> rfl
theorem TZ {d:Tmp} {T:Tr} {w:Bool}:aI (some d) T w=NY (T.get d) w:=rfl
theorem jU {w:Bool}:NY undef w=false:=by cases w <;> rfl
theorem UK {b:Bool}:NY (.bool b) true=b:=by simp[NY]
theorem XL {b:Bool}:NY (.bool b) false = !b:=by simp[NY]
theorem DW {P:Program} {call:AK} {n:Nat} {f:FuncId} {args:List Value} {h h':AA} {fn:Func} {c:Code} {V:Value} (hf:P.funcs[f]?=some fn) (hb:fn.body=some c) (hl:args.length≤fn.ntmps)
  (hw:WK P call n c ⟨GR 0 args .leaf,h⟩ (.top fun e s=>(e=.normal∨e=.ret)∧∃ vs,EV P s fn.results.toList=some vs∧F7 vs=V∧s.h=h')):AW P call n f args h=some (V,h'):=by
 obtain⟨v,h1,h2,rfl,rfl⟩:=ZW (R:=fun u h''=>u=V∧h''=h') hf hb hl hw
 exact h2
theorem E0 {P:Program} {call:AK} {n:Nat} {f:FuncId} {args:List Value} {h:AA} {fn:Func} {c:Code} {V:Value} {R:AA→Prop} (hf:P.funcs[f]?=some fn) (hb:fn.body=some c) (hl:args.length≤fn.ntmps)
  (hw:WK P call n c ⟨GR 0 args .leaf,h⟩ (.top fun e s=>(e=.normal∨e=.ret)∧∃ vs,EV P s fn.results.toList=some vs∧F7 vs=V∧R s.h)):∃ h',AW P call n f args h=some (V,h')∧R h':=by
 obtain⟨v,h1,h2,rfl,h3⟩:=ZW (R:=fun u h''=>u=V∧R h'') hf hb hl hw
 exact⟨h1,h2,h3⟩
def gP (P:Program) (ops:Array Oper):Bool:=(List.range ops.size).all fun k=>match ops[k]? with
 | none=>true
 | some o=>match AC o.op with
  | .read _=>!LK ops k
  | .act=>!LU ops k
  | .store=>(JX ops k).isEmpty
  | .new=>true
  | .pure=>match o.op with
   | .call c=>(match c.argTypes.toList with | [t]=>(match P.underlying t with | some (.map _ _)=>false | some (.array _ _)=>false | _=>true) | _=>true)
   | _=>true
theorem uB {P:Program} {call:AK} {ops:Array Oper} (hq:gP P ops=true) {start i:Nat} {o:Oper} (ho:ops[i]?=some o) {s s':St} (h:E3 P call ops o s=some s'):MP P call ops start i o s=some s':=by
 have hlt:i<ops.size:=(Array.getElem?_eq_some_iff.1 ho).1
 have hk:=List.all_eq_true.1 hq i (List.mem_range.2 hlt)
 simp only[ho] at hk
 unfold MP
 by_cases hw:DD ops s.T o=true
 ·rw [if_pos hw]
  cases hc:AC o.op with
  | read a=>
   rw[hc] at hk
   simp only[Bool.not_eq_true'] at hk
   simp[hk,h]
  | act=>
   rw[hc] at hk
   simp only[Bool.not_eq_true'] at hk
   simp[hk,h]
  | new=>exact h
  | store=>
   rw[hc] at hk
   simp only[List.isEmpty_iff] at hk
   simp only[hk,List.all_nil,if_true]
   split
   ·exact h
   ·exact h
   ·exact h
   ·rename_i h1 h1' h2
    cases hop:o.op with
    | store t a x=>exact absurd hop (h1 t a x)
    | mapUpdate t a k x=>exact absurd hop (h2 t a k x)
    | insert t a k x=>exact absurd hop (h1' t a k x)
    | call c=>
     rw[hop] at hc
     simp only[AC] at hc
     split at hc <;> cases hc
    | _=>rw[hop] at hc;simp[AC] at hc
  | pure=>
   rw[hc] at hk
   simp only at hk ⊢
   cases hop:o.op with
   | call c=>
    simp only[hop] at hk ⊢
    split
    ·rename_i r hargs
     exfalso
     obtain⟨v,h',hs,_⟩:=LC hw h
     rw[hop] at hs hc
     simp only[AC] at hc
     simp only[AJ,M1,HE,hargs] at hs
     split at hs
     ·split at hs
      ·rename_i t x h1 h2
       cases h2
       simp only[h1] at hk
       simp only[B_] at hs
       split at hk
       ·cases hk
       ·cases hk
       ·rename_i hne1 hne2
        cases hu:P.underlying t with
        | none=>simp[hu] at hs
        | some d=>cases d <;> (first | (simp[hu] at hs;done) | (exact hne1 _ _ hu) | (exact hne2 _ _ hu))
      ·cases hs
     all_goals first | (simp[SI,SH] at hs;done) | (simp_all;done)
    ·exact h
   | _=>exact h
 ·rw[if_neg hw]
  unfold E3 at h
  rw[if_neg hw] at h
  exact h
theorem WK.quiet {P:Program} {call:AK} {n id:Nat} {ops:Array Oper} {s:St} {k:BS} (hq:gP P ops=true) (h:KL P call n ops ops.toList s k):WK P call n (.region id ops true) s k:=by
 obtain⟨s',h1,h2⟩:=h
 have key:∀ (l:List Oper) (i:Nat) (s:St),(∀ k,l[k]?=ops[i+k]?)→HU P call ops l s=some s'→∀ start,JZ P call ops start i l s=some s':=by
  intro l
  induction l with
  | nil=>intro i s _ h start;exact h
  | cons o l ih=>
   intro i s hl h start
   simp only[HU] at h
   split at h
   ·rename_i s1 h3
    have ho:ops[i]?=some o:=by simpa using (hl 0).symm
    simp only[JZ,uB hq ho h3]
    exact ih (i+1) s1 (fun k=>by have:=hl (k+1);simpa [Nat.add_assoc,Nat.add_comm 1 k] using this) h start
   ·cases h
 exact .draw ⟨s',key _ 0 s (by simp) h1 _,h2⟩
theorem CG {x:Int} (h1:-9223372036854775808≤x) (h2:x<9223372036854775808):IntKind.i64.wrap x=x:=by
 simp[IntKind.wrap,IntKind.bits,IntKind.signed]
 omega
theorem eZ {p q:Prop}:((true=true→p)∧(true=false→q))=p:=by
 apply propext;exact⟨fun h=>h.1 rfl,fun h=>⟨fun _=>h,fun h=>(by cases h)⟩⟩
theorem i_ {p q:Prop}:((false=true→p)∧(false=false→q))=q:=by
 apply propext;exact⟨fun h=>h.2 rfl,fun h=>⟨fun h=>(by cases h),fun _=>h⟩⟩
theorem KF {b:Bool}:flat (.bool b)=true:=rfl
theorem U5 {k:IntKind} {x:Int}:flat (.int k x)=true:=rfl
theorem i5 {P:Program} {b:Bool}:BC P (Op.unary .not (.bool b))=some (.bool !b):=rfl
theorem iD {P:Program} {k:IntKind} {x:Int}:BC P (Op.unary .neg (.int k x))=some (.int k (k.wrap (0-x))):=rfl
theorem CW {P:Program} {α β:Type} (m:Sem α) (f:α→Sem β):BC P (m >>= f)=(BC P m).bind fun a=>BC P (f a):=by
 induction m with
 | pure a=>rfl
 | program k ih=>exact ih P
 | mark x k ih=>exact ih
 | _=>rfl
theorem M4 {P:Program} {t:TypeId} {d:TypeDesc} (h:P.underlying t=some d):BC P (underlying t)=some d:=by
 show BC P (Sem.bind program _)=_
 simp[program,Sem.bind,BC,h,Pure.pure]
theorem kT {P:Program} {t:TypeId} {a b:Bool} (h:P.underlying t=some .bool):BC P (Op.equal t (.bool a) (.bool b))=some (a==b):=by
 have key:∀ d,BC P (Op.equalIn (d+1) t (.bool a) (.bool b))=some (a==b):=by
  intro d
  rw[Op.equalIn,CW,M4 h]
  rfl
 exact key 9999
theorem Ce {P:Program} {t:TypeId} {x y:Operand} {a b:Bool} (h:P.underlying t=some .bool):B0 P .eql t x y (.bool a) (.bool b)=some (.bool (a==b)):=by
 have e:BC P (do eqGuard .eql t x y (.bool a) (.bool b);binOp .eql t (.bool a) (.bool b))=some (.bool (a==b)):=by
  show BC P ((do pure (.bool (← Op.equal t (.bool a) (.bool b)))):Sem Value)=_
  rw[CW,kT h]
  rfl
 simp only[B0,KF,Bool.and_self,if_true,e]
theorem pR {P:Program} {t:TypeId} {x y:Operand} {a b:Bool} (h:P.underlying t=some .bool):B0 P .neq t x y (.bool a) (.bool b)=some (.bool (a != b)):=by
 have e:BC P (do eqGuard .neq t x y (.bool a) (.bool b);binOp .neq t (.bool a) (.bool b))=some (.bool (a != b)):=by
  show BC P ((do pure (.bool (!(← Op.equal t (.bool a) (.bool b))))):Sem Value)=_
  rw[CW,kT h]
  rfl
 simp only[B0,KF,Bool.and_self,if_true,e]
def V8 (h:AA) (v:Value) (l:List Int):Prop:=∃ a c,v=.slice a l.length c∧(∀ b,a=some b→b.spot=none)∧∀ k x,l[k]?=some x→∃ id off cs ty g ro,a=some ⟨id,off,none⟩∧h.get id=.row cs ty g ro∧cs[off+k]?=some (.int .i64 x)
section
variable {P:Program} {h:AA} {v:Value} {l:List Int} {t e:TypeId}
theorem V8.len (hv:V8 h v l) (ht:P.underlying t=some (.slice e)):B_ P h t v=some (.int .i64 l.length):=by
 obtain⟨a,c,rfl,_,_⟩:=hv
 simp[B_,ht]
theorem V8.idx (hv:V8 h v l) (ht:P.underlying t=some (.slice e)) (he:BP P e=some 1) (ha:FK P e=some false) {k:Nat} {x:Int} (hk:l[k]?=some x) {kd:IntKind} :
  ∃ p,CY P t v (.int kd k)=some p∧EO P h e p=some (.int .i64 x):=by
 obtain⟨a,c,rfl,_,hall⟩:=hv
 obtain⟨id,off,cs,ty,g,ro,rfl,hg,hc⟩:=hall k x hk
 have hlt:k<l.length:=(List.getElem?_eq_some_iff.1 hk).1
 refine⟨.pointer (some ⟨id,off+k,none⟩),?_,?_⟩
 ·simp[CY,ht,he,hlt,Addr.add]
 ·simp[EO,hg,ha,hc]
end
section
variable {P:Program} {call:AK} {ops:Array Oper} {n:Nat}
theorem Ai (hcall:CR P call) {Q:Exit→Act→World→Prop} {l2:List Oper} {s1:St}:∀ (l:List Oper) (hok:∀ o∈l,HF P n o=true) {s:St} (hs:HU P call ops l s=some s1) {ρ:AX} {A:Act} {W:World} (hR:BK P ρ s.h W) (hT:EX ρ s.T A) (hn:A.tmps.size=n)
  (hQ:∀ A' W' ρ',Nx P ρ s.h W ρ' s1.h W'→EX ρ' s1.T A'→A'.tmps.size=n→A'.defers=A.defers→wpList P ops Q l2 A' W'),wpList P ops Q (l++l2) A W:=by
 intro l
 induction l with
 | nil=>
  intro hok s hs ρ A W hR hT hn hQ
  simp[HU] at hs
  subst hs
  exact hQ A W ρ (Nx.refl hR) hT hn rfl
 | cons o l ih=>
  intro hok s hs ρ A W hR hT hn hQ
  have hoo:=hok o (by simp)
  have hl:∀ o∈l,HF P n o=true:=fun x hx=>hok x (by simp[hx])
  have hd:PH n o.dst=true:=by simp only[HF,Bool.and_eq_true] at hoo;exact hoo.2
  have hop:∀ x∈o.op.operands,AH ρ (ev s.T x) (A.eval x):=fun x hx=>by
   simp only[HF,Bool.and_eq_true] at hoo
   exact OV hR hT (List.all_eq_true.1 hoo.1 x (by simpa using hx))
  simp only[HU] at hs
  split at hs
  ·rename_i s2 h1
   show wpList P ops Q (o :: (l++l2)) A W
   unfold wpList
   rw[XW (ops:=ops) (T:=s.T) (ρ:=ρ) fun t _=>hT t]
   by_cases hw:DD ops s.T o=true
   ·rw[if_pos hw]
    obtain⟨v,h',hv,rfl⟩:=LC hw h1
    refine .inl (PA hcall hR hop hv fun V W' ρ' hN hV=>?_)
    refine ih hl hs hN.rel ((hT.mono hN.ext).put hn hd hV) (by rw[KI];exact hn) fun A' W'' ρ'' hN' hT' hn' hd'=>?_
    exact hQ A' W'' ρ'' (hN.trans hR hN') hT' hn' (by rw[hd',JI])
   ·rw[if_neg hw]
    unfold E3 at h1
    rw[if_neg hw] at h1
    cases h1
    exact ih hl hs hR (hT.put hn hd MC) (by rw[KI];exact hn) fun A' W'' ρ'' hN' hT' hn' hd'=>hQ A' W'' ρ'' hN' hT' hn' (by rw[hd',JI])
  ·cases hs
theorem HW (hcall:CR P call) {m:Nat} {Q:Exit→Act→World→Prop} (F:St→Prop) (l1:List Oper) {l2:List Oper} {s:St} {ρ:AX} {A:Act} {W:World} (hok:l1.all (HF P n)=true) (hR:BK P ρ s.h W) (hT:EX ρ s.T A) (hn:A.tmps.size=n) (hw:KL P call m ops l1 s (.top fun _ s1=>F s1))
  (hQ:∀ s1 A' W' ρ',F s1→Nx P ρ s.h W ρ' s1.h W'→EX ρ' s1.T A'→A'.tmps.size=n→A'.defers=A.defers→wpList P ops Q l2 A' W'):wpList P ops Q (l1++l2) A W:=by
 obtain⟨s1,hs,hF⟩:=hw
 exact Ai hcall l1 (List.all_eq_true.1 hok) hs hR hT hn fun A' W' ρ'=>hQ s1 A' W' ρ' hF
theorem vM {ρ:AX} {args:List Value} {ARGS:Array Value} {k:Nat} (hargs:AY (AH ρ) args ARGS.toList) (hl:args.length≤k):EX ρ (GR 0 args .leaf) { tmps:=ARGS++Array.replicate (k-ARGS.size) undef,defers:=[] }:=by
 have hsz:ARGS.size=args.length:=by have:=hargs.length;simpa using this.symm
 intro t
 simp only[XZ]
 show AH ρ _ ((ARGS++Array.replicate (k-ARGS.size) undef).getD t undef)
 rw[Array.getD_eq_getD_getElem?,Array.getElem?_append]
 by_cases ht:t<args.length
 ·rw[if_pos (by omega),if_pos (by omega)]
  obtain⟨b,hb,hr⟩:=hargs.get (i:=t) (a:=args[t]) (by simp[ht])
  have hb':ARGS[t]?=some b:=by simpa using hb
  rw[hb']
  simpa [ht] using hr
 ·rw[if_neg (by omega),if_neg (by omega),Array.getElem?_replicate]
  have:(Tr.leaf).get t=undef:=rfl
  rw[this]
  split <;> exact MC
theorem O0 {Q:Exit→Act→World→Prop} {o:Oper} {l:List Oper} {A:Act} {W:World} (hg:o.guard=none) (h:o.wp P A W (wpList P ops Q l) Q):wpList P ops Q (o :: l) A W:=by
 unfold wpList
 have:Region.wanted o (yielded ops A.tmps)=true:=by unfold Region.wanted;rw[hg]
 rw[if_pos this]
 exact .inl h
end
section
variable {P:Program} {ρ:AX} {W:World} {A:Act} {s:St}
theorem Q2 (hR:BK P ρ s.h W) (hT:EX ρ s.T A) {o:Oper} {c:Call} {x y:Operand} {t e:TypeId} {w by_ len m id sc:Nat} {z:Value} {sb:Option Addr} {cs new:List Value} (hop:o.op=.call c) (hc:c.callee=.builtin .append) (ht:c.argTypes=#[t,t]) (ha:c.args=#[x,y]) (hox:N5 P x=true) (hoy:N5 P y=true)
  (hu:P.underlying t=some (.slice e)) (hsz:BP P e=some w) (hz:DI P e=some z) (hby:G_ P e=some by_) (hzs:z.cells.size=w) (hs0:0<w) (hx:ev s.T x=.slice (some ⟨id,0,none⟩) len AG) (hy:ev s.T y=.slice sb m sc)
  (hg:s.h.get id=.row cs e true false) (hcl:cs.length=len*w) (hf:s.h.floor≤id) (hnew:CL s.h w m (.slice sb m sc)=some new) (hone:new.all one=true) (hm0:0<m) (hb:(len+m)*by_≤140737488355328) (hl:len+m≤140737488355328)
  {K:Act→World→Prop} {Q:Exit→Act→World→Prop} (hK:∀ V W' ρ' L',Nx P ρ s.h W ρ' (s.h.push .dead) W'→AH ρ' (.slice (some ⟨s.h.next,0,none⟩) (len+m) AG) V→ρ' s.h.next=some L'→RP ρ' (s.h.push .dead) W' L' (len*w) ((len+m)*w)→(W.heap.size≤L'.b∨ρ id=some L')→K (A.put o.dst V) W'):o.wp P A W K Q:=by
 have hX:AH ρ (.slice (some ⟨id,0,none⟩) len AG) (A.eval x):=by rw[← hx];exact OV hR hT hox
 have hY:AH ρ (.slice sb m sc) (A.eval y):=by rw[← hy];exact OV hR hT hoy
 obtain⟨V,W',ρ',L',hV,hN,hv,h1,h2,h3⟩:=Cb (ty:=o.type) hR hu hsz hz hby hzs hs0 hg hcl hf hX hY hnew hone hm0 hb hl
 have hA2:c.args.map A.eval=#[A.eval x,A.eval y]:=by rw[ha];simp
 exact EZ (V:=V) (by simp[execOp,hop,resolve,hc,invoke,builtin,hA2,ht,hV]) (hK V W' ρ' L' hN hv h1 h2 h3)
theorem oW {o:BB} (h:wr o):live o:=by cases o <;> first | trivial | exact h.elim
theorem RP.keep {ρ':AX} {h h':AA} {W':World} {L:Loc} {m need:Nat} (hR:BK P ρ h W) (hN:Nx P ρ h W ρ' h' W') (hS:RP ρ h W L m need) (hk:∀ i,i<h.next→live (h.get i)→h'.get i=h.get i):RP ρ' h' W' L m need:=by
 obtain⟨⟨CS,ty,g1,g2⟩,⟨i,cs,ty2,g,e1,e2,e3⟩ | hno⟩:=hS
 ·have hil:=hR.lt e2
  have hg:=hk i hil (by rw[e1];trivial)
  rw[e1] at hg
  have e2':=hN.ext _ _ e2
  obtain⟨CS',ty',fr',b1,b2,b3⟩:=NM hN.rel hg e2'
  obtain⟨rfl,_,b4,_⟩:=b3 rfl
  obtain⟨CS0,ty0,fr0,a1,_,a3⟩:=NM hR e1 e2
  rw[g1] at a1
  cases a1
  obtain⟨_,_,a4,_⟩:=a3 rfl
  exact⟨⟨CS',ty',b1,by omega⟩,.inl ⟨i,cs,ty2,g,hg,e2',e3⟩⟩
 ·have hlt:L.b<W.heap.size:=(Array.getElem?_eq_some_iff.1 g1).1
  have hsame:=hN.fr.blk L.b hlt fun i L2 hw _ h2=>hno i L2 (oW hw) h2
  refine⟨⟨CS,ty,hsame.trans g1,g2⟩,.inr fun j L2 hj h2=>?_⟩
  rcases Nat.lt_or_ge j h.next with hjl | hjl
  ·rw[hN.old j hjl] at h2
   exact hno j L2 (hN.wasl j hjl hj) h2
  ·rcases hN.own j L2 hjl hj h2 with h9 | ⟨j0,L0,w1,_,w3,w4⟩
   ·omega
   ·rw[← w4]
    exact hno j0 L0 (oW w1) w3
theorem zM {ρ0:AX} {h0 H:AA} {W0:World} {L:Loc} {m need q:Nat} {V:Value} (hN:Nx P ρ0 h0 W0 ρ H W) (hS:RP ρ H W L m need) (ho:W0.heap.size≤L.b∨∃ id,ρ0 id=some L∧wr (h0.get id)∧h0.floor≤id) (hq1:m≤q) (hq2:q<need) (hV:V.oneCell'=true) :
  ∃ W',(storeCells ⟨L.b,L.d+q,none⟩ [V]).run P W=.ok () W'∧Nx P ρ0 h0 W0 ρ H W':=by
 obtain⟨⟨CS,ty,g1,g2⟩,hor⟩:=hS
 have hfit:L.d+q+[V].length≤CS.size:=by simp;omega
 have hrun:=run_storeCells_at P L.b (L.d+q) ty [V] 0 CS W g1 (by simpa using hfit) (fun v hv=>by rw[List.mem_singleton] at hv;rw[hv];exact hV)
 simp only[Nat.add_zero] at hrun
 have hnew:(W.setRow L.b (CS.toList.take (L.d+q)++[V]++CS.toList.drop (L.d+q+[V].length)).toArray).heap[L.b]?=some (.cells (lay CS.toList (L.d+q) [V]).toArray ty (0,0)):=setRow_heap W L.b CS _ ty _ g1
 generalize hW2:W.setRow L.b (CS.toList.take (L.d+q)++[V]++CS.toList.drop (L.d+q+[V].length)).toArray=W2 at *
 have hoth:∀ b,b≠L.b→W2.heap[b]?=W.heap[b]?:=fun b hb=>by rw[← hW2];exact setRow_other W L.b b _ hb
 have hsz:W2.heap.size=W.heap.size:=by rw[← hW2];simp
 have hos:W2.os=W.os∧W2.tape=W.tape∧W2.output=W.output:=by rw[← hW2];exact⟨rfl,rfl,rfl⟩
 have hobj:∀ i,FD P ρ W2 i (H.get i):=fun i=>by
  have hi:=hN.rel.obj i
  by_cases hb:∃ L2,ρ i=some L2∧live (H.get i)∧L2.b=L.b
  ·obtain⟨L2,h1,h2,h3⟩:=hb
   rcases hor with⟨i0,cs,ty2,g,e1,e2,e3⟩ | hno
   ·have:i=i0:=by
     by_cases hii:i=i0
     ·exact hii
     ·exact absurd h3.symm (hN.rel.inj i0 i L L2 (by rw[e1];rfl) h2 (fun e=>hii e.symm) e2 h1)
    subst this
    rw[e1] at hi ⊢
    obtain⟨L',CS',ty',fr',b1,b2,b3,b4⟩:=hi
    rw[e2] at b1
    cases b1
    rw[g1] at b2
    cases b2
    obtain⟨_,b5,b6,b7⟩:=b4 rfl
    refine⟨L,_,_,_,e2,hnew,fun k v hv=>?_,fun _=>⟨rfl,b5,?_,b7⟩⟩
    ·have hk:=(List.getElem?_eq_some_iff.1 hv).1
     obtain⟨U,hU,hr⟩:=b3 k v hv
     refine⟨U,?_,hr⟩
     simp only[List.getElem?_toArray]
     rw[MM (by simpa using hfit),if_neg (by omega)]
     simpa using hU
    ·simp only[List.size_toArray]
     rw[RS (by simpa using hfit)]
     simpa using b6
   ·exact absurd h3 (hno i L2 h2 h1)
  ·exact hi.mono (fun _ _ h=>h) fun L2 h1 h2=>hoth L2.b fun e=>hb ⟨L2,h1,h2,e⟩
 refine⟨W2,hrun,⟨hN.ext,hN.old,⟨rfl,hN.rel.dom,hN.rel.glob,hobj,hN.rel.inj⟩,⟨hos.1.trans hN.fr.os,hos.2.1.trans hN.fr.tape,hos.2.2.trans hN.fr.output,by rw[hsz];exact hN.fr.size,fun b hb hno=>?_⟩,hN.nx,hN.floor,hN.keep,hN.was,hN.wasl,hN.own⟩⟩
 have hne:b≠L.b:=by
  rintro rfl
  rcases ho with h9 | ⟨id,h1,h2,h3⟩
  ·omega
  ·exact hno id L h2 h3 h1 rfl
 rw[hoth b hne]
 exact hN.fr.blk b hb hno
theorem rU {ρ0:AX} {h0 H:AA} {W0:World} (hR:BK P ρ0 h0 W0) (hN:Nx P ρ0 h0 W0 ρ H W) (hk:∀ i,i<h0.next→H.get i=h0.get i):Nx P ρ0 h0 W0 ρ0 h0 W:=by
 refine⟨fun _ _ h=>h,fun _ _=>rfl,⟨hR.len,hR.dom,hR.glob,fun i=>?_,hR.inj⟩,hN.fr,Nat.le_refl _,rfl,fun _ _ _=>rfl,fun _ _ h=>h,fun _ _ h=>h,fun i L hi hw _=>by rw[F_ hi] at hw;exact hw.elim⟩
 rcases Nat.lt_or_ge i h0.next with hi | hi
 ·have h2:=hN.rel.obj i
  rw[hk i hi] at h2
  exact(hR.obj i).back hN.ext h2
 ·rw[F_ hi];trivial
end
def D9 (ops:Array Oper):List (Bool × Bool × List Operand):=(List.range ops.size).map fun k=>(LK ops k,LU ops k,JX ops k)
noncomputable def AE (op:Op) (T:Tr):Bool:=match op with
 | .call c=>(match c.args.toList.map (ev T) with | [.map _]=>false | _=>true)
 | _=>true
def DL:Op→Operand
 | .store _ a _=>a
 | .mapUpdate _ m _ _=>m
 | .insert _ m _ _=>m
 | _=>.const undef
section
variable (P:Program) (call:AK) (n:Nat) (ops:Array Oper) (start:Nat)
noncomputable def LG (f:Bool × Bool × List Operand) (o:Oper) (s:St):Option St:=
 if DD ops s.T o then match AC o.op with
  | .read a=>if f.1 && !ahead start (C7 (ev s.T a)) then none else E3 P call ops o s
  | .act=>if f.2.1 then match E3 P call ops o ⟨s.T,s.h.fl (max s.h.floor start)⟩ with
    | some s'=>some ⟨s'.T,s'.h.fl s.h.floor⟩
    | none=>none
   else E3 P call ops o s
  | .store=>if f.2.2.all (fun x=>C7 (ev s.T x) != C7 (ev s.T (DL o.op))) then E3 P call ops o s else none
  | .pure=>if AE o.op s.T then E3 P call ops o s else none
  | .new=>E3 P call ops o s
 else some ⟨s.T.put o.dst undef,s.h⟩
theorem Dl {i:Nat} {o:Oper} {s s':St} (h:LG P call ops start (LK ops i,LU ops i,JX ops i) o s=some s'):MP P call ops start i o s=some s':=by
 unfold LG at h
 unfold MP
 by_cases hw:DD ops s.T o=true
 ·rw [if_pos hw] at h ⊢
  cases hc:AC o.op with
  | read a=>rw[hc] at h;exact h
  | act=>rw[hc] at h;exact h
  | new=>rw[hc] at h;exact h
  | store=>
   rw[hc] at h
   cases hop:o.op with
   | store t a x=>rw[hop] at h;exact h
   | mapUpdate t a k x=>rw[hop] at h;exact h
   | insert t a k x=>rw[hop] at h;exact h
   | call c=>
    rw[hop] at hc
    simp only[AC] at hc
    split at hc <;> cases hc
   | _=>rw[hop] at hc;simp[AC] at hc
  | pure=>
   rw[hc] at h
   simp only at h ⊢
   cases hop:o.op with
   | call c=>
    simp only[hop,AE] at h ⊢
    split
    ·rename_i r hr
     rw[hr] at h
     simp at h
    ·rename_i hne
     split at h
     ·rename_i r hr;exact absurd hr (hne r)
     ·exact h
   | _=>simp only[hop,AE,if_true] at h ⊢;exact h
 ·rw[if_neg hw] at h ⊢
  exact h
noncomputable def QP:List (Bool × Bool × List Operand)→List Oper→St→Option St
 | _,[],s=>some s
 | f :: fs,o :: l,s=>match LG P call ops start f o s with
  | some s'=>QP fs l s'
  | none=>none
 | [],_ :: _,_=>none
def CN (fs:List (Bool × Bool × List Operand)) (l:List Oper) (s:St) (k:BS):Prop:=∃ s',QP P call ops start fs l s=some s'∧k.ap P call n .normal s'
def OG (fs:List (Bool × Bool × List Operand)) (l:List Oper) (dst:Option Tmp) (T:Tr) (fl:Nat) (k:BS):Option (Value × AA)→Prop
 | some (v,h)=>CN P call n ops start fs l ⟨T.put dst v,h.fl fl⟩ k
 | none=>False
def AD (lr la:Bool) (ls:List Operand) (fs:List (Bool × Bool × List Operand)) (o:Oper) (l:List Oper) (s:St) (k:BS):PR→Prop
 | .read a=>(lr=true→ahead start (C7 (ev s.T a))=true)∧OG P call n ops start fs l o.dst s.T s.h.floor k (AJ P call s.T s.h o.op)
 | .act=>OG P call n ops start fs l o.dst s.T s.h.floor k (AJ P call s.T (if la then s.h.fl (max s.h.floor start) else s.h) o.op)
 | .store=>(ls.all (fun x=>C7 (ev s.T x) != C7 (ev s.T (DL o.op)))=true)∧OG P call n ops start fs l o.dst s.T s.h.floor k (AJ P call s.T s.h o.op)
 | .pure=>AE o.op s.T=true∧OG P call n ops start fs l o.dst s.T s.h.floor k (AJ P call s.T s.h o.op)
 | .new=>OG P call n ops start fs l o.dst s.T s.h.floor k (AJ P call s.T s.h o.op)
end
section
variable {P:Program} {call:AK} {n:Nat} {ops:Array Oper} {start:Nat} {fs:List (Bool × Bool × List Operand)} {l:List Oper} {s:St} {k:BS}
theorem K0 (h:AA):h.fl h.floor=h:=rfl
theorem CN.cons {lr la:Bool} {ls:List Operand} {o:Oper} (hsn:∀ v h',∀ h:AA,AJ P call s.T h o.op=some (v,h')→h'.floor=h.floor)
  (h:if DD ops s.T o then AD P call n ops start lr la ls fs o l s k (AC o.op) else CN P call n ops start fs l ⟨s.T.put o.dst undef,s.h⟩ k):CN P call n ops start ((lr,la,ls) :: fs) (o :: l) s k:=by
 by_cases hw:DD ops s.T o=true
 ·rw [if_pos hw] at h
  have G3:OG P call n ops start fs l o.dst s.T s.h.floor k (AJ P call s.T s.h o.op)→∃ s',E3 P call ops o s=some s'∧CN P call n ops start fs l s' k:=by
   intro h
   cases hs:AJ P call s.T s.h o.op with
   | none=>rw[hs] at h;exact h.elim
   | some r=>
    obtain⟨v,h'⟩:=r
    rw[hs] at h
    have hf:=hsn v h' s.h hs
    refine⟨⟨s.T.put o.dst v,h'⟩,by simp only[E3,hw,if_true,hs],?_⟩
    have e:h'.fl s.h.floor=h':=by rw[← hf];rfl
    have h2:CN P call n ops start fs l ⟨s.T.put o.dst v,h'.fl s.h.floor⟩ k:=h
    rw[e] at h2
    exact h2
  have fin:∀ s',LG P call ops start (lr,la,ls) o s=some s'→CN P call n ops start fs l s' k→CN P call n ops start ((lr,la,ls) :: fs) (o :: l) s k:=by
   rintro s' h1 ⟨s2,h2,h3⟩
   exact⟨s2,by simp only[QP,h1,h2],h3⟩
  cases hc:AC o.op with
  | read a=>
   rw[hc] at h
   obtain⟨h0,h1⟩:=h
   obtain⟨s',h2,h3⟩:=G3 h1
   refine fin s' ?_ h3
   unfold LG
   rw[if_pos hw,hc]
   simp only
   cases lr with
   | false=>simpa using h2
   | true=>rw[h0 rfl];simpa using h2
  | new=>
   rw[hc] at h
   obtain⟨s',h2,h3⟩:=G3 h
   refine fin s' ?_ h3
   unfold LG
   rw[if_pos hw,hc]
   exact h2
  | pure=>
   rw[hc] at h
   obtain⟨h0,h1⟩:=h
   obtain⟨s',h2,h3⟩:=G3 h1
   refine fin s' ?_ h3
   unfold LG
   rw[if_pos hw,hc]
   simp only[h0,if_true]
   exact h2
  | store=>
   rw[hc] at h
   obtain⟨h0,h1⟩:=h
   obtain⟨s',h2,h3⟩:=G3 h1
   refine fin s' ?_ h3
   unfold LG
   rw[if_pos hw,hc]
   simp only[h0,if_true]
   exact h2
  | act=>
   rw[hc] at h
   cases la with
   | false=>
    obtain⟨s',h2,h3⟩:=G3 h
    refine fin s' ?_ h3
    unfold LG
    rw[if_pos hw,hc]
    simpa using h2
   | true=>
    have h:OG P call n ops start fs l o.dst s.T s.h.floor k (AJ P call s.T (s.h.fl (max s.h.floor start)) o.op):=h
    cases hs:AJ P call s.T (s.h.fl (max s.h.floor start)) o.op with
    | none=>rw[hs] at h;exact h.elim
    | some r=>
     obtain⟨v,h'⟩:=r
     rw[hs] at h
     refine fin ⟨s.T.put o.dst v,h'.fl s.h.floor⟩ ?_ h
     unfold LG
     rw[if_pos hw,hc]
     simp only[E3,hw,if_true,hs]
 ·rw[if_neg hw] at h
  obtain⟨s2,h2,h3⟩:=h
  refine⟨s2,?_,h3⟩
  simp only[QP,LG]
  rw[if_neg hw]
  exact h2
theorem U9 {dst:Option Tmp} {T:Tr} {fl:Nat} {v:Value} {h:AA}:OG P call n ops start fs l dst T fl k (some (v,h))=CN P call n ops start fs l ⟨T.put dst v,h.fl fl⟩ k:=rfl
theorem U3:CN P call n ops start fs [] s k=k.ap P call n .normal s:=by
 apply propext
 refine⟨fun ⟨s',h1,h2⟩=>?_,fun h=>⟨s,by cases fs <;> rfl,h⟩⟩
 cases fs <;> (cases h1;exact h2)
theorem LF {h:AA} {a b:Nat}:(h.fl a).fl b=h.fl b:=rfl
theorem XA {h:AA}:h.fl h.floor=h:=rfl
theorem NH {h:AA} {a:Nat}:(h.fl a).floor=a:=rfl
theorem WK.flags {id:Nat} {fs:List (Bool × Bool × List Operand)} (hf:D9 ops=fs) (h:CN P call n ops s.h.next fs ops.toList s k):WK P call n (.region id ops true) s k:=by
 obtain⟨s',h1,h2⟩:=h
 refine WS.draw ⟨s',?_,h2⟩
 have key:∀ (l:List Oper) (i:Nat) (s:St) (start:Nat),(∀ k,l[k]?=ops[i+k]?)→i+l.length=ops.size→QP P call ops start (fs.drop i) l s=some s'→JZ P call ops start i l s=some s':=by
  intro l
  induction l with
  | nil=>intro i s start _ _ h;cases hd:fs.drop i <;> (rw[hd] at h;exact h)
  | cons o l ih=>
   intro i s start hl hlen h
   have hi:i<ops.size:=by simp at hlen;omega
   have hfi:fs[i]?=some (LK ops i,LU ops i,JX ops i):=by
    rw[← hf]
    unfold D9
    rw[List.getElem?_map,List.getElem?_range hi]
    rfl
   have hlt:i<fs.length:=(List.getElem?_eq_some_iff.1 hfi).1
   rw[List.drop_eq_getElem_cons hlt] at h
   have he:fs[i]=(LK ops i,LU ops i,JX ops i):=by
    rw[List.getElem?_eq_getElem hlt] at hfi
    exact Option.some.inj hfi
   rw[he] at h
   simp only[QP] at h
   split at h
   ·rename_i s1 h3
    simp only[JZ,Dl P call ops start h3]
    exact ih (i+1) s1 start (fun k=>by have:=hl (k+1);simpa [Nat.add_assoc,Nat.add_comm 1 k] using this) (by simp at hlen;omega) h
   ·cases h
 exact key _ 0 s _ (by simp) (by simp) (by simpa using h1)
end
def PQ (r:Nat):Code→Option (Array Oper)
 | .region i ops _=>if i=r then some ops else none
 | .seq a b=>match PQ r a with
  | some o=>some o
  | none=>PQ r b
 | .cond _ a b=>match PQ r a with
  | some o=>some o
  | none=>PQ r b
 | .block _ c=>PQ r c
 | .loop c=>PQ r c
 | _=>none
def DY (fn:Func) (r:Nat):Array Oper:=match fn.body with
 | some c=>(PQ r c).getD #[]
 | none=>#[]
def seen (o:Oper):Option Tmp × Op × Option (Nat × Bool):=(o.dst,o.op,o.guard)
section
variable {P:Program} {call:AK} {n:Nat} {ops:Array Oper} {start:Nat} {F:List (Bool × Bool × List Operand)} {s:St} {k:BS}
theorem Jv {T:Tr} {o o':Oper} (h:seen o=seen o'):DD ops T o=DD ops T o':=by
 simp only[seen,Prod.mk.injEq] at h
 unfold DD
 rw[h.2.2]
theorem Ka {lr la:Bool} {ls:List Operand} {fs:List (Bool × Bool × List Operand)} {o o':Oper} {l:List Oper} {c:PR} (h:seen o=seen o') :
  AD P call n ops start lr la ls fs o l s k c=AD P call n ops start lr la ls fs o' l s k c:=by
 simp only[seen,Prod.mk.injEq] at h
 cases c <;> simp only[AD,h.1,h.2.1]
theorem CN.begin (h:CN P call n ops start (F.drop 0) (ops.toList.drop 0) s k):CN P call n ops start F ops.toList s k:=h
theorem CN.at (i:Nat) (dst:Option Tmp) (op:Op) (g:Option (Nat × Bool)) {lr la:Bool} {ls:List Operand} (hi:(ops[i]?).map seen=some (dst,op,g)) (hf:F[i]?=some (lr,la,ls))
  (hsn:∀ v h',∀ h:AA,AJ P call s.T h op=some (v,h')→h'.floor=h.floor)
  (h : if DD ops s.T ⟨dst, op, 0, "", #[], g⟩ then AD P call n ops start lr la ls (F.drop (i + 1)) ⟨dst, op, 0, "", #[], g⟩ (ops.toList.drop (i + 1)) s k (AC op)
   else CN P call n ops start (F.drop (i+1)) (ops.toList.drop (i+1)) ⟨s.T.put dst undef,s.h⟩ k):CN P call n ops start (F.drop i) (ops.toList.drop i) s k:=by
 cases ho:ops[i]? with
 | none=>rw[ho] at hi;cases hi
 | some o=>
  rw[ho] at hi
  have hs : seen o = seen ⟨dst, op, 0, "", #[], g⟩ := by simpa [seen] using hi
  have hop:o.op=op:=congrArg (·.2.1) hs
  have hdst:o.dst=dst:=congrArg (·.1) hs
  have e1:F.drop i=(lr,la,ls) :: F.drop (i+1):=by
   obtain⟨hl,he⟩:=List.getElem?_eq_some_iff.1 hf
   rw[List.drop_eq_getElem_cons hl,he]
  have ho':ops.toList[i]?=some o:=by simpa using ho
  have e2:ops.toList.drop i=o :: ops.toList.drop (i+1):=by
   obtain⟨hl,he⟩:=List.getElem?_eq_some_iff.1 ho'
   rw[List.drop_eq_getElem_cons hl,he]
  rw[e1,e2]
  refine CN.cons (by rw[hop];exact hsn) ?_
  rw[Jv hs,Ka hs,hop,hdst]
  exact h
theorem CN.done {i:Nat} (hl:ops.toList.drop i=[]) (h:k.ap P call n .normal s):CN P call n ops start (F.drop i) (ops.toList.drop i) s k:=by
 rw[hl,U3]
 exact h
end
end Go.Sx
namespace Go.Proofs.YtipekdhneagdbaaDoor
open Go Go.Sx
set_option maxRecDepth 100000
set_option linter.unusedSimpArgs false
set_option linter.unusedVariables false
set_option maxHeartbeats 64000000
theorem EH {cs:Array Value}:(Value.agg cs).cells=cs:=rfl
theorem NG {k:IntKind} {x:Int}:one (.int k x)=true:=rfl
theorem M7 {x:ByteArray}:one (.string x)=true:=rfl
theorem oC {x:Bool}:one (.bool x)=true:=rfl
theorem C6 {h:AA} {o:BB}:(h.push o).next=h.next+1:=rfl
theorem IL {h:AA} {o:BB}:(h.push o).floor=h.floor:=rfl
theorem ID {h:AA} {o:BB} {i:Nat}:(h.put i o).next=h.next:=rfl
theorem MR {h:AA} {o:BB} {i:Nat}:(h.put i o).floor=h.floor:=rfl
theorem nO {m f:Nat}:(DO m f).next=m:=rfl
theorem nI {m f:Nat}:(DO m f).floor=f:=rfl
theorem JF {h:AA} {o:BB} {i:Nat}:(h.push o).get i=if i=h.next then o else h.get i:=by
 split
 ·rename_i e;subst e;exact BL
 ·rename_i e;exact KO e
theorem RE {h:AA} {o:BB} {i j:Nat}:(h.put i o).get j=if j=i then (if i<h.next then o else .dead) else h.get j:=by
 by_cases hi:i<h.next
 ·split
  ·rename_i e;subst e;exact CE rfl hi
  ·rename_i e;exact AQ hi (Ne.symm e)
 ·split
  ·rename_i e;subst e;exact F_ (by show h.next≤j;omega)
  ·rename_i e
   by_cases hj:j<h.next
   ·unfold AA.get AA.put
    simp only[hj,if_true]
    rw[DP.get_set,if_neg e]
   ·rw[F_ (by show h.next≤j;omega),F_ (by omega)]
theorem MZ {h:AA} {o:BB} {f:Nat}:(h.push o).fl f=(h.fl f).push o:=rfl
theorem QL {h:AA} {o:BB} {i f:Nat}:(h.put i o).fl f=(h.fl f).put i o:=rfl
theorem mQ {m f f':Nat}:(DO m f').fl f=DO m f:=rfl
theorem JN {h:AA} {f:Nat}:(h.fl f).next=h.next:=rfl
theorem KN {h:AA} {f i:Nat}:(h.fl f).get i=h.get i:=rfl
theorem IQ {m id off:Nat}:Sx.ahead m (C7 (.pointer (some ⟨id,off,none⟩)))=decide (id<m):=rfl
theorem CI {id off n:Nat}:(⟨id,off,none⟩:Addr).add n=⟨id,off+n,none⟩:=by
 unfold Addr.add
 split
 ·rename_i e;subst e;rfl
 ·rfl
def AO (off:Nat):BB→Option Value
 | .row cs _ _ _=>cs[off]?
 | _=>none
def CD (n off:Nat):BB→Option Value
 | .row cs _ _ _=>match D1 cs off n with
  | some l=>some (.agg l.toArray)
  | none=>none
 | _=>none
theorem KJ {P:Program} {t:TypeId} {h:AA} {id off:Nat} (ha:FK P t=some false):EO P h t (.pointer (some ⟨id,off,none⟩))=AO off (h.get id):=by
 simp only[EO,ha]
 cases h.get id <;> rfl
theorem OC {P:Program} {t:TypeId} {n:Nat} {h:AA} {id off:Nat} (ha:FK P t=some true) (hs:BP P t=some n):EO P h t (.pointer (some ⟨id,off,none⟩))=CD n off (h.get id):=by
 simp only[EO,ha,hs]
 cases h.get id <;> rfl
theorem Kd:FK Tryd.prog 3=some false:=by kernel_rfl
theorem xS:FK Tryd.prog 9=some false:=by kernel_rfl
theorem rR:FK Tryd.prog 4=some false:=by kernel_rfl
theorem Dp:FK Tryd.prog 46=some true:=by kernel_rfl
theorem tX:FK Tryd.prog 123=some true:=by kernel_rfl
theorem CT:BP Tryd.prog 3=some 1:=by kernel_rfl
theorem HC:BP Tryd.prog 9=some 1:=by kernel_rfl
theorem WH:BP Tryd.prog 4=some 1:=by kernel_rfl
theorem FX:BP Tryd.prog 46=some 5:=by kernel_rfl
theorem m7:BP Tryd.prog 123=some 5:=by kernel_rfl
theorem F8:DI Tryd.prog 46=some (.agg #[.int .i64 0,.string ByteArray.empty,.int .i64 0,.int .i64 0,.int .i64 0]):=by kernel_rfl
theorem oG:DI Tryd.prog 123=some (.agg #[.bool false,.bool false,.bool false,.int .i64 0,.int .i64 0]):=by kernel_rfl
theorem DN {a b c d e:Value}:flat (.agg #[a,b,c,d,e])=(BO a&&(BO b&&(BO c&&(BO d&&(BO e&&true))))):=by simp[flat,Bool.and_assoc]
theorem PJ {k:IntKind} {x:Int}:BO (.int k x)=true:=rfl
theorem cW {x:ByteArray}:BO (.string x)=true:=rfl
theorem mW {x:Bool}:BO (.bool x)=true:=rfl
theorem CO {h:AA} {id off:Nat}:EO Tryd.prog h 3 (.pointer (some ⟨id,off,none⟩))=AO off (h.get id):=KJ Kd
theorem EC {h:AA} {id off:Nat}:EO Tryd.prog h 9 (.pointer (some ⟨id,off,none⟩))=AO off (h.get id):=KJ xS
theorem QK {h:AA} {id off:Nat}:EO Tryd.prog h 4 (.pointer (some ⟨id,off,none⟩))=AO off (h.get id):=KJ rR
theorem IU {h:AA} {id off:Nat}:EO Tryd.prog h 46 (.pointer (some ⟨id,off,none⟩))=CD 5 off (h.get id):=OC Dp FX
theorem fK {h:AA} {id off:Nat}:EO Tryd.prog h 123 (.pointer (some ⟨id,off,none⟩))=CD 5 off (h.get id):=OC tX m7
theorem IC {a:Value} {l:List Value} {ty:TypeId} {g ro:Bool}:AO 0 (.row (a :: l) ty g ro)=some a:=rfl
theorem QU {a b:Value} {l:List Value} {ty:TypeId} {g ro:Bool}:AO 1 (.row (a :: b :: l) ty g ro)=some b:=rfl
theorem SV {a b c:Value} {l:List Value} {ty:TypeId} {g ro:Bool}:AO 2 (.row (a :: b :: c :: l) ty g ro)=some c:=rfl
theorem OX {a b c d:Value} {l:List Value} {ty:TypeId} {g ro:Bool}:AO 3 (.row (a :: b :: c :: d :: l) ty g ro)=some d:=rfl
theorem dH {a b c d e:Value} {l:List Value} {ty:TypeId} {g ro:Bool}:AO 4 (.row (a :: b :: c :: d :: e :: l) ty g ro)=some e:=rfl
theorem oE {a b c d e:Value} {ty:TypeId} {g ro:Bool}:CD 5 0 (.row [a,b,c,d,e] ty g ro)=some (.agg #[a,b,c,d,e]):=rfl
noncomputable def R0 (t:TypeId) (h:AA) (id:Nat) (a b c d e:Value):BB→Option AA
 | .row [_,_,_,_,_] ty g false=>if h.floor≤id∧[a,b,c,d,e].all one=true then some (h.put id (.row [a,b,c,d,e] ty g false)) else BW Tryd.prog h t (.pointer (some ⟨id,0,none⟩)) (.agg #[a,b,c,d,e])
 | _=>BW Tryd.prog h t (.pointer (some ⟨id,0,none⟩)) (.agg #[a,b,c,d,e])
theorem e_ {t:TypeId} (ht:BP Tryd.prog t=some 5) {h:AA} {id:Nat} {a b c d e:Value}:BW Tryd.prog h t (.pointer (some ⟨id,0,none⟩)) (.agg #[a,b,c,d,e])=R0 t h id a b c d e (h.get id):=by
 unfold R0
 split
 ·rename_i v w x y z ty g hg
  split
  ·rename_i hc
   have hone:([a,b,c,d,e].all one)=true:=hc.2
   have hl:Go.Sx.lay [v,w,x,y,z] 0 [a,b,c,d,e]=[a,b,c,d,e]:=rfl
   have hcells:(Value.agg #[a,b,c,d,e]).cells=#[a,b,c,d,e]:=rfl
   simp only[BW,hcells,ht,GL,hg]
   have hsz:(some 5:Option Nat)=some (#[a,b,c,d,e]:Array Value).size:=rfl
   rw[if_pos hsz,if_pos (by simp only[List.length_cons,List.length_nil,hone];simp[hc.1])]
   rfl
  ·rfl
 ·rfl
theorem DC {h:AA} {id:Nat} {a b c d e:Value}:BW Tryd.prog h 46 (.pointer (some ⟨id,0,none⟩)) (.agg #[a,b,c,d,e])=R0 46 h id a b c d e (h.get id):=e_ FX
theorem dZ {h:AA} {id:Nat} {a b c d e:Value}:BW Tryd.prog h 123 (.pointer (some ⟨id,0,none⟩)) (.agg #[a,b,c,d,e])=R0 123 h id a b c d e (h.get id):=e_ m7
theorem PU {t:TypeId} {h:AA} {id:Nat} {a b c d e v w x y z:Value} {ty:TypeId} {g:Bool}:R0 t h id a b c d e (.row [v,w,x,y,z] ty g false) =
  if h.floor≤id∧[a,b,c,d,e].all one=true then some (h.put id (.row [a,b,c,d,e] ty g false)) else BW Tryd.prog h t (.pointer (some ⟨id,0,none⟩)) (.agg #[a,b,c,d,e]):=rfl
theorem dK {a b c d e:Value}:#[a,b,c,d,e].toList.all one=(one a&&(one b&&(one c&&(one d&&(one e&&true))))):=by simp[Bool.and_assoc]
section
variable {id off:Nat}
theorem F6:BH Tryd.prog 46 (.pointer (some ⟨id,off,none⟩)) 0=some (.pointer (some ⟨id,off,none⟩)):=by simp[BH,Tryd.underlying46,CT,CI]
theorem IH:BH Tryd.prog 46 (.pointer (some ⟨id,off,none⟩)) 1=some (.pointer (some ⟨id,off+1,none⟩)):=by simp[BH,Tryd.underlying46,HC,CI]
theorem QV:BH Tryd.prog 46 (.pointer (some ⟨id,off,none⟩)) 2=some (.pointer (some ⟨id,off+2,none⟩)):=by simp[BH,Tryd.underlying46,CT,CI]
theorem IX:BH Tryd.prog 46 (.pointer (some ⟨id,off,none⟩)) 3=some (.pointer (some ⟨id,off+3,none⟩)):=by simp[BH,Tryd.underlying46,CT,CI]
theorem nQ:BH Tryd.prog 46 (.pointer (some ⟨id,off,none⟩)) 4=some (.pointer (some ⟨id,off+4,none⟩)):=by simp[BH,Tryd.underlying46,CT,CI]
theorem TM:BH Tryd.prog 123 (.pointer (some ⟨id,off,none⟩)) 0=some (.pointer (some ⟨id,off,none⟩)):=by simp[BH,Tryd.underlying123,WH,CI]
theorem UG:BH Tryd.prog 123 (.pointer (some ⟨id,off,none⟩)) 1=some (.pointer (some ⟨id,off+1,none⟩)):=by simp[BH,Tryd.underlying123,WH,CI]
theorem UH:BH Tryd.prog 123 (.pointer (some ⟨id,off,none⟩)) 2=some (.pointer (some ⟨id,off+2,none⟩)):=by simp[BH,Tryd.underlying123,WH,CI]
theorem kQ:BH Tryd.prog 123 (.pointer (some ⟨id,off,none⟩)) 3=some (.pointer (some ⟨id,off+3,none⟩)):=by simp[BH,Tryd.underlying123,CT,CI]
theorem kJ:BH Tryd.prog 123 (.pointer (some ⟨id,off,none⟩)) 4=some (.pointer (some ⟨id,off+4,none⟩)):=by simp[BH,Tryd.underlying123,CT,CI]
end
theorem J1 (a:ByteArray):(a==a)=true:=by
 cases a with
 | mk d=>show (d==d)=true;simp
theorem jD (a b:ByteArray):(a.toList==b.toList)=(a==b):=by
 rw[ByteArray.toList_eq,ByteArray.toList_eq]
 apply Bool.eq_iff_iff.2
 constructor
 ·intro h
  have h1:a.data.toList=b.data.toList:=by simpa using h
  have h2:a=b:=by
   cases a;cases b
   simp only[ByteArray.mk.injEq]
   exact Array.toList_inj.1 h1
  subst h2
  exact J1 a
 ·intro h
  have:=JK h
  subst this
  simp
theorem p8 {P:Program} {t:TypeId} {x y:Operand} {a b:ByteArray}:B0 P .eql t x y (.string a) (.string b)=some (.bool (a==b)):=by
 have e:BC P (do eqGuard .eql t x y (.string a) (.string b);binOp .eql t (.string a) (.string b))=some (.bool (a==b)):=by
  rw[CW]
  have g:BC P (eqGuard .eql t x y (.string a) (.string b))=some ():=rfl
  rw[g,← jD]
  simp[binOp,Op.stringOp,Option.bind]
  rfl
 have hf:flat (.string a)=true:=rfl
 have hf2:flat (.string b)=true:=rfl
 simp only[B0,hf,hf2,KF,Bool.and_self,if_true,e]
theorem ND {x y:Operand} {a b:ByteArray}:B0 Tryd.prog .eql 9 x y (.string a) (.string b)=some (.bool (a==b)):=p8
theorem SQ {x y:Operand} {a b:Bool}:B0 Tryd.prog .eql 4 x y (.bool a) (.bool b)=some (.bool (a==b)):=Ce Tryd.underlying4
theorem mO {x y:Operand} {a b:Bool}:B0 Tryd.prog .neq 4 x y (.bool a) (.bool b)=some (.bool (a != b)):=pR Tryd.underlying4
def AP (r:AB):List Value:=[.int .i64 r.kind,.string r.name,.int .i64 r.ends,.int .i64 r.n,.int .i64 r.kids]
theorem OL {h:AA} {a:Option Addr} {n c:Nat}:B_ Tryd.prog h 22 (.slice a n c)=some (.int .i64 n):=by simp[B_,Tryd.underlying22]
def AL (h:AA) (v:Value) (l:List AB):Prop:=
 ∃ a c,v=.slice a l.length c∧((l=[]∧a=none)∨∃ id off cs ty g ro,a=some ⟨id,off,none⟩∧h.get id=.row cs ty g ro∧id<h.next∧∀ k r,l[k]?=some r→(cs.drop (off+k*5)).take 5=AP r)
theorem AL.row {h:AA} {v:Value} {l:List AB} (hv:AL h v l) {k:Nat} {r:AB} (hk:l[k]?=some r) :
  ∃ id p,CY Tryd.prog 22 v (.int .i64 (k:Int))=some (.pointer (some ⟨id,p,none⟩))∧id<h.next∧AO p (h.get id)=some (.int .i64 r.kind)∧AO (p+1) (h.get id)=some (.string r.name)∧AO (p+2) (h.get id)=some (.int .i64 r.ends) ∧
   AO (p+3) (h.get id)=some (.int .i64 r.n)∧AO (p+4) (h.get id)=some (.int .i64 r.kids)∧CD 5 p (h.get id)=some (.agg #[.int .i64 r.kind,.string r.name,.int .i64 r.ends,.int .i64 r.n,.int .i64 r.kids]):=by
 obtain⟨a,c,rfl,⟨rfl,_⟩ | ⟨id,off,cs,ty,g,ro,rfl,hg,hid,hc⟩⟩:=hv
 ·simp at hk
 ·have hlt:=(List.getElem?_eq_some_iff.1 hk).1
  have hcut:=hc k r hk
  have hat:∀ j,j<5→cs[off+k*5+j]?=(AP r)[j]?:=fun j hj=>by
   rw[← hcut,List.getElem?_take_of_lt hj,List.getElem?_drop]
  refine⟨id,off+k*5,?_,hid,?_,?_,?_,?_,?_,?_⟩
  ·simp only[CY,Tryd.underlying22,FX,CI]
   rw[if_pos (by omega)]
   simp
  ·rw[hg];exact hat 0 (by decide)
  ·rw[hg];exact hat 1 (by decide)
  ·rw[hg];exact hat 2 (by decide)
  ·rw[hg];exact hat 3 (by decide)
  ·rw[hg];exact hat 4 (by decide)
  ·rw[hg]
   simp only[CD,D1,hcut]
   rfl
theorem AL.len {h:AA} {v:Value} {l:List AB} (hv:AL h v l) {h':AA}:B_ Tryd.prog h' 22 v=some (.int .i64 l.length):=by
 obtain⟨a,c,rfl,_⟩:=hv
 exact OL
theorem AL.mono {h h':AA} {v:Value} {l:List AB} (hv:AL h v l) (hn:h.next≤h'.next) (hg:∀ i,i<h.next→h'.get i=h.get i):AL h' v l:=by
 obtain⟨a,c,rfl,h1 | ⟨id,off,cs,ty,g,ro,rfl,h1,hid,hc⟩⟩:=hv
 ·exact⟨_,_,rfl,.inl h1⟩
 ·exact⟨_,_,rfl,.inr ⟨id,off,cs,ty,g,ro,rfl,by rw[hg id hid];exact h1,by omega,hc⟩⟩
theorem TE:type_of% (And.intro @GR.eq_1 (And.intro @GR.eq_2 (And.intro @M1.eq_1 (And.intro @HE.eq_1 (And.intro @EV.eq_1 (And.intro @EV.eq_2 (And.intro @EV.eq_3 (And.intro @F7.eq_1 (And.intro @F7.eq_2 (And.intro @AJ.eq_1 (And.intro @AJ.eq_2 (And.intro @AJ.eq_3 (And.intro @AJ.eq_4 (And.intro @AJ.eq_5 (And.intro @AJ.eq_6 (And.intro @AJ.eq_7 (And.intro @AJ.eq_8 (And.intro @AJ.eq_9 (And.intro @AJ.eq_10 (And.intro @AJ.eq_11 (And.intro @AJ.eq_12 (And.intro @AJ.eq_13 (And.intro @AJ.eq_14 (And.intro @AJ.eq_15 (And.intro @AJ.eq_16 (And.intro @AJ.eq_17 (And.intro @AJ.eq_18 (And.intro @AJ.eq_19 (And.intro @AJ.eq_20 (And.intro @AJ.eq_21 (And.intro @AJ.eq_22 (And.intro @AJ.eq_23 (And.intro @AJ.eq_24 (And.intro @AJ.eq_25 (And.intro @AJ.eq_26 (And.intro @AJ.eq_27 @AJ.eq_28)))))))))))))))))))))))))))))))))))):=And.intro @GR.eq_1 (And.intro @GR.eq_2 (And.intro @M1.eq_1 (And.intro @HE.eq_1 (And.intro @EV.eq_1 (And.intro @EV.eq_2 (And.intro @EV.eq_3 (And.intro @F7.eq_1 (And.intro @F7.eq_2 (And.intro @AJ.eq_1 (And.intro @AJ.eq_2 (And.intro @AJ.eq_3 (And.intro @AJ.eq_4 (And.intro @AJ.eq_5 (And.intro @AJ.eq_6 (And.intro @AJ.eq_7 (And.intro @AJ.eq_8 (And.intro @AJ.eq_9 (And.intro @AJ.eq_10 (And.intro @AJ.eq_11 (And.intro @AJ.eq_12 (And.intro @AJ.eq_13 (And.intro @AJ.eq_14 (And.intro @AJ.eq_15 (And.intro @AJ.eq_16 (And.intro @AJ.eq_17 (And.intro @AJ.eq_18 (And.intro @AJ.eq_19 (And.intro @AJ.eq_20 (And.intro @AJ.eq_21 (And.intro @AJ.eq_22 (And.intro @AJ.eq_23 (And.intro @AJ.eq_24 (And.intro @AJ.eq_25 (And.intro @AJ.eq_26 (And.intro @AJ.eq_27 @AJ.eq_28)))))))))))))))))))))))))))))))))))
theorem QD:type_of% (And.intro TE (And.intro @KG (And.intro @fD (And.intro @nE (And.intro @gD (And.intro @nL (And.intro @iS (And.intro @nM (And.intro @dL (And.intro @kD (And.intro @kZ (And.intro @P4 (And.intro @jP (And.intro @jJ (And.intro @eS (And.intro @jQ (And.intro @mB (And.intro @fL (And.intro @lU (And.intro @iC (And.intro @V5 (And.intro @mI (And.intro @c_ (And.intro @h_ (And.intro @WE (And.intro @UD (And.intro @WI (And.intro @Tr.get_put (And.intro @Tr.get_set (And.intro @WM (And.intro @List.map_cons.{0,0} (And.intro @List.map_nil.{0,0} (And.intro @Option.some.injEq.{0} (And.intro @VL (And.intro @S7 (And.intro @SF (And.intro @XB (And.intro @OY (And.intro @QF (And.intro @UU (And.intro @TL (And.intro @oD (And.intro @max2 (And.intro @min2 (And.intro @decide_eq_true_eq (And.intro @decide_eq_false_iff_not (And.intro @beq_iff_eq.{0} (And.intro @true_and (And.intro @and_true (And.intro @or_true (And.intro @true_or (And.intro @exists_eq_left'.{1} (And.intro @Option.map_some.{0,0} (And.intro @Option.map_none.{0,0} (And.intro @TN (And.intro @Option.bind_some.{0,0} (And.intro @List.nil_append.{0} (And.intro @List.append_nil.{0} (And.intro @List.cons_append.{0} (And.intro @Value.int.injEq (And.intro @TZ (And.intro @List.getElem?_toArray.{0} (And.intro @List.getElem?_cons_succ.{0} (And.intro @List.getElem?_cons_zero.{0} (And.intro @decide_true (And.intro @decide_false (And.intro @beq_self_eq_true.{0} (And.intro @UK (And.intro @XL (And.intro @Bool.not_true (And.intro @Bool.not_false (And.intro @Bool.false_eq_true (And.intro @if_true.{1} (And.intro @if_false.{1} (And.intro @KF (And.intro @U5 (And.intro @i5 (And.intro @iD (And.intro @false_implies (And.intro @true_implies @jU)))))))))))))))))))))))))))))))))))))))))))))))))))))))))))))))))))))))))))))))):=And.intro TE (And.intro @KG (And.intro @fD (And.intro @nE (And.intro @gD (And.intro @nL (And.intro @iS (And.intro @nM (And.intro @dL (And.intro @kD (And.intro @kZ (And.intro @P4 (And.intro @jP (And.intro @jJ (And.intro @eS (And.intro @jQ (And.intro @mB (And.intro @fL (And.intro @lU (And.intro @iC (And.intro @V5 (And.intro @mI (And.intro @c_ (And.intro @h_ (And.intro @WE (And.intro @UD (And.intro @WI (And.intro @Tr.get_put (And.intro @Tr.get_set (And.intro @WM (And.intro @List.map_cons.{0,0} (And.intro @List.map_nil.{0,0} (And.intro @Option.some.injEq.{0} (And.intro @VL (And.intro @S7 (And.intro @SF (And.intro @XB (And.intro @OY (And.intro @QF (And.intro @UU (And.intro @TL (And.intro @oD (And.intro @max2 (And.intro @min2 (And.intro @decide_eq_true_eq (And.intro @decide_eq_false_iff_not (And.intro @beq_iff_eq.{0} (And.intro @true_and (And.intro @and_true (And.intro @or_true (And.intro @true_or (And.intro @exists_eq_left'.{1} (And.intro @Option.map_some.{0,0} (And.intro @Option.map_none.{0,0} (And.intro @TN (And.intro @Option.bind_some.{0,0} (And.intro @List.nil_append.{0} (And.intro @List.append_nil.{0} (And.intro @List.cons_append.{0} (And.intro @Value.int.injEq (And.intro @TZ (And.intro @List.getElem?_toArray.{0} (And.intro @List.getElem?_cons_succ.{0} (And.intro @List.getElem?_cons_zero.{0} (And.intro @decide_true (And.intro @decide_false (And.intro @beq_self_eq_true.{0} (And.intro @UK (And.intro @XL (And.intro @Bool.not_true (And.intro @Bool.not_false (And.intro @Bool.false_eq_true (And.intro @if_true.{1} (And.intro @if_false.{1} (And.intro @KF (And.intro @U5 (And.intro @i5 (And.intro @iD (And.intro @false_implies (And.intro @true_implies @jU)))))))))))))))))))))))))))))))))))))))))))))))))))))))))))))))))))))))))))))))
theorem eE:type_of% (And.intro @WR QD):=And.intro @WR QD
theorem eP:type_of% (And.intro @eZ @i_):=And.intro @eZ @i_
theorem DH:type_of% (And.intro @C6 (And.intro @IL (And.intro @ID (And.intro @MR (And.intro @nO (And.intro @nI (And.intro @CO (And.intro @EC (And.intro @QK (And.intro @IU (And.intro @fK (And.intro @IC (And.intro @QU (And.intro @SV (And.intro @OX (And.intro @dH (And.intro @oE (And.intro @dZ (And.intro @PU (And.intro @NG (And.intro @M7 (And.intro @oC (And.intro @F6 (And.intro @IH (And.intro @QV (And.intro @IX (And.intro @nQ (And.intro @TM (And.intro @UG (And.intro @UH (And.intro @kQ (And.intro @kJ (And.intro @F8 (And.intro @oG (And.intro @dK (And.intro @List.all_cons.{0} (And.intro @List.all_nil.{0} (And.intro @Bool.and_self (And.intro @Bool.true_and (And.intro @Bool.and_true (And.intro @Nat.zero_le (And.intro @LF (And.intro @XA (And.intro @SQ (And.intro @mO (And.intro @ND @OL)))))))))))))))))))))))))))))))))))))))))))))):=And.intro @C6 (And.intro @IL (And.intro @ID (And.intro @MR (And.intro @nO (And.intro @nI (And.intro @CO (And.intro @EC (And.intro @QK (And.intro @IU (And.intro @fK (And.intro @IC (And.intro @QU (And.intro @SV (And.intro @OX (And.intro @dH (And.intro @oE (And.intro @dZ (And.intro @PU (And.intro @NG (And.intro @M7 (And.intro @oC (And.intro @F6 (And.intro @IH (And.intro @QV (And.intro @IX (And.intro @nQ (And.intro @TM (And.intro @UG (And.intro @UH (And.intro @kQ (And.intro @kJ (And.intro @F8 (And.intro @oG (And.intro @dK (And.intro @List.all_cons.{0} (And.intro @List.all_nil.{0} (And.intro @Bool.and_self (And.intro @Bool.true_and (And.intro @Bool.and_true (And.intro @Nat.zero_le (And.intro @LF (And.intro @XA (And.intro @SQ (And.intro @mO (And.intro @ND @OL)))))))))))))))))))))))))))))))))))))))))))))
theorem rP:type_of% (And.intro @EH (And.intro @JF (And.intro @RE (And.intro @DC (And.intro @DN DH))))):=And.intro @EH (And.intro @JF (And.intro @RE (And.intro @DC (And.intro @DN DH))))
theorem rG:type_of% (And.intro TE (And.intro @Tr.get_set (And.intro @WM (And.intro @V5 (And.intro @TN (And.intro @TZ (And.intro @UK (And.intro @XL (And.intro @WE (And.intro @UD (And.intro @Tr.get_put (And.intro @Option.some.injEq.{0} (And.intro @if_true.{1} (And.intro @if_false.{1} (And.intro @U9 (And.intro @Option.map_some.{0,0} (And.intro @Bool.not_true (And.intro @Bool.not_false (And.intro @Bool.false_eq_true (And.intro @true_and @XA)))))))))))))))))))):=And.intro TE (And.intro @Tr.get_set (And.intro @WM (And.intro @V5 (And.intro @TN (And.intro @TZ (And.intro @UK (And.intro @XL (And.intro @WE (And.intro @UD (And.intro @Tr.get_put (And.intro @Option.some.injEq.{0} (And.intro @if_true.{1} (And.intro @if_false.{1} (And.intro @U9 (And.intro @Option.map_some.{0,0} (And.intro @Bool.not_true (And.intro @Bool.not_false (And.intro @Bool.false_eq_true (And.intro @true_and @XA)))))))))))))))))))
theorem DS:type_of% (And.intro @eq_self.{1} (And.intro @true_implies (And.intro @Option.map_none.{0,0} (And.intro @Option.map_some.{0,0} (And.intro @Nat.zero_add (And.intro @IQ (And.intro @decide_true (And.intro @false_implies @forall_const.{1})))))))):=And.intro @eq_self.{1} (And.intro @true_implies (And.intro @Option.map_none.{0,0} (And.intro @Option.map_some.{0,0} (And.intro @Nat.zero_add (And.intro @IQ (And.intro @decide_true (And.intro @false_implies @forall_const.{1})))))))
theorem FA:type_of% (And.intro @WI (And.intro @List.nil_append.{0} (And.intro @List.append_nil.{0} (And.intro @List.cons_append.{0} (And.intro @List.map_cons.{0,0} (And.intro @List.map_nil.{0,0} (And.intro @JN (And.intro @KN (And.intro @LF @NH))))))))):=And.intro @WI (And.intro @List.nil_append.{0} (And.intro @List.append_nil.{0} (And.intro @List.cons_append.{0} (And.intro @List.map_cons.{0,0} (And.intro @List.map_nil.{0,0} (And.intro @JN (And.intro @KN (And.intro @LF @NH))))))))
theorem EI:type_of% (And.intro @List.all_cons.{0} (And.intro @List.all_nil.{0} (And.intro @Bool.and_self (And.intro @MZ (And.intro @QL (And.intro @IL (And.intro @MR (And.intro @C6 @ID)))))))):=And.intro @List.all_cons.{0} (And.intro @List.all_nil.{0} (And.intro @Bool.and_self (And.intro @MZ (And.intro @QL (And.intro @IL (And.intro @MR (And.intro @C6 @ID)))))))
theorem XD:type_of% (And.intro @MZ (And.intro @QL (And.intro @IL (And.intro @MR (And.intro @C6 @ID))))):=And.intro @MZ (And.intro @QL (And.intro @IL (And.intro @MR (And.intro @C6 @ID))))
theorem FR:type_of% (And.intro @OY (And.intro @QF (And.intro @ND (And.intro @SQ (And.intro @SF (And.intro @XB (And.intro @VL (And.intro @S7 (And.intro @UU @TL))))))))):=And.intro @OY (And.intro @QF (And.intro @ND (And.intro @SQ (And.intro @SF (And.intro @XB (And.intro @VL (And.intro @S7 (And.intro @UU @TL))))))))
theorem AF {P:Program} {call:AK} {n:Nat} {ops:Array Oper} {start:Nat} {F:List (Bool × Bool × List Operand)} {s:St} {k:BS} (hsn:BZ call) (i:Nat) (dst:Option Tmp) (op:Op) (g:Option (Nat × Bool)) {lr la:Bool} {ls:List Operand}
  (h : if DD ops s.T ⟨dst, op, 0, "", #[], g⟩ then AD P call n ops start lr la ls (F.drop (i + 1)) ⟨dst, op, 0, "", #[], g⟩ (ops.toList.drop (i + 1)) s k (AC op)
   else CN P call n ops start (F.drop (i+1)) (ops.toList.drop (i+1)) ⟨s.T.put dst undef,s.h⟩ k)
  (hi:(ops[i]?).map Go.Sx.seen=some (dst,op,g):=by kernel_rfl) (hf:F[i]?=some (lr,la,ls):=by rfl):CN P call n ops start (F.drop i) (ops.toList.drop i) s k:=
 CN.at i dst op g hi hf (fun _ _ _ hs=>(ZZ hsn hs).floor) h
theorem FO {P:Program} {call:AK} {n:Nat} {ops:Array Oper} {start:Nat} {fs:List (Bool × Bool × List Operand)} {l:List Oper} {s:St} {k:BS} {lr la:Bool} {ls:List Operand} {o:Oper} (hsn:BZ call)
  (h:if DD ops s.T o then AD P call n ops start lr la ls fs o l s k (AC o.op) else CN P call n ops start fs l ⟨s.T.put o.dst undef,s.h⟩ k):CN P call n ops start ((lr,la,ls) :: fs) (o :: l) s k:=CN.cons (fun _ _ _ hs=>(ZZ hsn hs).floor) h
theorem FT {P:Program} {call:AK} {n:Nat} {ops:Array Oper} {start:Nat} {fs:List (Bool × Bool × List Operand)} {s:St} {k:BS} (h:k.ap P call n .normal s):CN P call n ops start fs [] s k:=by rw[U3];exact h
theorem rF:type_of% (And.intro @U9 (And.intro @U3 (And.intro @IQ (And.intro @MZ (And.intro @QL (And.intro @mQ (And.intro @JN @KN))))))):=And.intro @U9 (And.intro @U3 (And.intro @IQ (And.intro @MZ (And.intro @QL (And.intro @mQ (And.intro @JN @KN))))))
section
variable (h:AA) (a b c d:BB)
end
theorem ET {a n:Nat} (h:a<n):∃ j,n=j+1:=⟨n-1,by omega⟩
theorem CK (i:Nat) (h:i<9223372036854775807):IntKind.i64.wrap ((i:Int)+1)=((i+1:Nat):Int):=CG (by omega) (by omega)
theorem I9 (l:List Value):(Value.agg l.toArray).cells.toList=l:=rfl
theorem MV:(Value.agg #[.int .i64 0,.int .i64 0]).cells.toList=[.int .i64 0,.int .i64 0]:=rfl
theorem L6:(Value.agg #[.string ByteArray.empty,.slice none 0 0,.slice none 0 0,.slice none 0 0,.slice none 0 0,.slice none 0 0,.slice none 0 0,.int .i64 0]).cells.toList=[.string ByteArray.empty,.slice none 0 0,.slice none 0 0,.slice none 0 0,.slice none 0 0,.slice none 0 0,.slice none 0 0,.int .i64 0]:=rfl
def AT:Bool × Bool × List Operand:=(false,false,[])
def BI:Bool × Bool × List Operand:=(false,true,[])
def MU:Bool × Bool × List Operand:=(true,true,[])
def AS (l:List Operand):Bool × Bool × List Operand:=(false,true,l)
def IA (l:List Operand):Bool × Bool × List Operand:=(true,true,l)
abbrev Z0:Value:=.slice none 0 0
abbrev BR:List Value:=[.string ByteArray.empty,Z0,Z0,Z0,Z0,Z0,Z0,.int .i64 0]
abbrev CP:List Value:=[.int .i64 0,.string ByteArray.empty,.int .i64 0,.int .i64 0,.int .i64 0]
abbrev qP (a o:Nat):Value:=.pointer (some ⟨a,o,none⟩)
abbrev qS (a n c:Nat):Value:=.slice (some ⟨a,0,none⟩) n c
theorem yE:Tryd.prog.globals.size≤1:=by
 have:Tryd.prog.globals.size=1:=by kernel_rfl
 omega
noncomputable def NR (m:Nat) (call:AK):AK:=fun f args h=>
 if args.all LV then match call f args (DO m 0) with
  | some (v,_)=>if E_ v then some (v,h) else none
  | none=>none
 else none
theorem fS {m:Nat} {call:AK} {f:FuncId} {args:List Value} {h h':AA} {v:Value} (hs:NR m call f args h=some (v,h')) :
  args.all LV=true∧(∃ h1,call f args (DO m 0)=some (v,h1))∧E_ v=true∧h'=h:=by
 unfold NR at hs
 split at hs
 ·rename_i hc
  split at hs
  ·rename_i v' h1 he
   split at hs
   ·rename_i hf
    cases hs
    exact⟨hc,⟨h1,he⟩,hf,rfl⟩
   ·cases hs
  ·cases hs
 ·cases hs
theorem qE {m:Nat} {call:AK} {f:FuncId} {args:List Value} {h:AA} {v:Value} (ha:args.all LV=true) (hv:E_ v=true) (hc:∃ h1,call f args (DO m 0)=some (v,h1)) :
  NR m call f args h=some (v,h):=by
 obtain⟨h1,he⟩:=hc
 unfold NR
 rw[if_pos ha,he]
 simp only[hv,if_true]
theorem qG {P:Program} {call:AK} (hc:CR P call) {m:Nat} (hg:P.globals.size≤m):CR P (NR m call)∧BZ (NR m call):=by
 refine⟨fun f args h v h' hs=>?_,fun f args h v h' hs=>?_⟩
 ·obtain⟨ha,⟨h1,he⟩,hv,rfl⟩:=fS hs
  obtain⟨hfn,hc2⟩:=hc _ _ _ _ _ he
  refine⟨hfn,fun ρ W ARGS hR hargs=>?_⟩
  have hR0:BK P (B8 ρ m) (DO m 0) W:=YR (fun i hi=>by unfold B8;rw[if_neg (by omega)]) fun g hgl=>by
   rw[HG (by omega)]
   exact hR.glob g hgl
  have hnw:∀ i,¬ wr ((DO m 0).get i):=fun i hw=>by rw[LQ] at hw;exact hw
  refine(hc2 _ W ARGS hR0 (oO ha hargs)).mono fun e W' ⟨V,ρ',he',hN,hv'⟩=>⟨V,ρ,he',(Nx.refl hR).grow (hN.fr.gr hnw),?_⟩
  rw[ZU hv hv']
  exact XO hv
 ·obtain⟨_,_,_,rfl⟩:=fS hs
  exact .refl _
noncomputable def MI (fs:List FuncId) (base:AK) (k:Nat):AK:=FV base (KM fs (NR 1 (AW Tryd.prog (GB Tryd.prog base k) k)))
section
variable {fs:List FuncId} {k:Nat} {base:AK} {f:FuncId} {args:List Value} {h:AA} {v:Value} {r:Value × AA}
theorem bL (hb:CR Tryd.prog base∧BZ base):CR Tryd.prog (MI fs base k)∧BZ (MI fs base k):=
 O_ hb (YX (qG (PV JG (M9 JG hb.1 hb.2 k).1 (M9 JG hb.1 hb.2 k).2 k).1 yE))
theorem F4 (hb:base f args h=some r):MI fs base k f args h=some r:=Q5 hb
theorem F1 (hb:base f args h=none) (hf:fs.contains f=false):MI fs base k f args h=none:=by unfold MI FV KM;rw[hb,hf];rfl
theorem EG (hb:base f args h=none) (hf:fs.contains f=true) (ha:args.all LV=true) (hv:E_ v=true) (hw:∃ h1,AW Tryd.prog (GB Tryd.prog base k) k f args (DO 1 0)=some (v,h1)):MI fs base k f args h=some (v,h):=by
 have e:NR 1 (AW Tryd.prog (GB Tryd.prog base k) k) f args h=some (v,h):=qE ha hv hw
 unfold MI FV KM
 rw[hb,hf,if_pos rfl,e]
end
theorem qJ {α:Type} {p:α→Prop} {q:α→Prop} (h:∃ x,p x∧q x):∃ x,p x:=h.elim fun x hx=>⟨x,hx.1⟩
def RD:List Int:=(List.range 54).map fun (i:Nat)=>(i:Int)+1
theorem uK {k:Int} (h:1≤k∧k≤54):k∈RD:=List.mem_map.2 ⟨(k-1).toNat,by rw[List.mem_range];omega,by omega⟩
noncomputable def GZ (f:FuncId) (mk:Int→List Value) (spec:Int→Value):Bool:=RD.all fun k=>match AW Tryd.prog (GB Tryd.prog MY 12) 12 f (mk k) (DO 1 0) with
 | some (v,_)=>RA v (spec k)
 | none=>false
theorem HJ {f:FuncId} {mk:Int→List Value} {spec:Int→Value} (h:GZ f mk spec=true) {k:Int} (hk:1≤k∧k≤54):∃ h1,AW Tryd.prog (GB Tryd.prog MY 12) 12 f (mk k) (DO 1 0)=some (spec k,h1):=by
 have:=List.all_eq_true.1 h k (uK hk)
 split at this
 ·rename_i v h1 he
  rw[VI this] at he
  exact⟨h1,he⟩
 ·cases this
def CB (k:Int):Int:=if k=54 then 1 else if k=53 then 2 else if k≥47 then 3 else if k≥45 then 4 else if k≥43 then 5 else if k≥41 then 6 else if k≥27 then 7 else 0
def DZ (k:Int):Int:=if [1,11,26,31,32,35,36,37,38,39,40,41,42].contains k then 1 else 0
def BJ (k:Int):Int:=if [2,3].contains k then 1 else if k=4 then 2 else if k=5 then 3 else if k=7 then 4 else 0
def C8 (k:Int):Int:=if [8,9,16,17,19,20,21,24,26,31,32,35,36,37].contains k then 1 else if [14,28].contains k then 2 else if [15,38].contains k then 3 else if k=22 then 4 else 0
def DU (k:Int):Bool:=decide (k≥8)&&decide (k≤10)
def PI (k:Int) (j:Nat):Int:=if k=1 then 1 else BT k j
abbrev iv (x:Int):Value:=.int .i64 x
theorem Ew:GZ 90 (fun k=>[iv k]) (fun k=>.agg #[.bool (GH k),.bool (IE k),.bool (k==27),iv (E1 k),iv (CJ k)])=true:=by kernel_rfl
theorem pI:GZ 118 (fun k=>[iv k]) (fun k=>iv (CB k))=true:=by kernel_rfl
theorem Et:GZ 109 (fun k=>[iv k]) (fun k=>iv (DZ k))=true:=by kernel_rfl
theorem Bz:GZ 79 (fun k=>[iv k]) (fun k=>iv (BJ k))=true:=by kernel_rfl
theorem rK:GZ 81 (fun k=>[iv k]) (fun k=>iv (C8 k))=true:=by kernel_rfl
theorem uT:GZ 82 (fun k=>[iv k]) (fun k=>.bool (DU k))=true:=by kernel_rfl
theorem zK:GZ 31 (fun k=>[iv k]) (fun k=>iv (BJ k))=true:=by kernel_rfl
theorem u_:GZ 32 (fun k=>[iv k]) (fun k=>iv (C8 k))=true:=by kernel_rfl
theorem z7:GZ 59 (fun k=>[iv k]) (fun k=>.bool (DU k))=true:=by kernel_rfl
theorem Ee:GZ 116 (fun k=>[iv k]) (fun k=>iv (CB k))=true:=by kernel_rfl
theorem zV:GZ 113 (fun k=>[iv k]) (fun k=>.bool (GH k))=true:=by kernel_rfl
theorem Cd:GZ 112 (fun k=>[iv k]) (fun k=>.bool (IE k))=true:=by kernel_rfl
theorem qH:GZ 115 (fun k=>[iv k]) (fun k=>.tuple #[iv (E1 k),iv (CJ k)])=true:=by kernel_rfl
theorem zN:GZ 99 (fun k=>[iv k,iv 0]) (fun k=>iv (PI k 0))=true:=by kernel_rfl
theorem vQ:GZ 99 (fun k=>[iv k,iv 1]) (fun k=>iv (PI k 1))=true:=by kernel_rfl
theorem rY:GZ 99 (fun k=>[iv k,iv 2]) (fun k=>iv (PI k 2))=true:=by kernel_rfl
theorem Fb:GZ 93 (fun k=>[iv k,iv 0]) (fun k=>iv (BT k 0))=true:=by kernel_rfl
theorem yC:GZ 93 (fun k=>[iv k,iv 1]) (fun k=>iv (BT k 1))=true:=by kernel_rfl
theorem vR:GZ 93 (fun k=>if k=15 then [iv 1,iv 2] else [iv k,iv 2]) (fun k=>if k=15 then iv (BT 1 2) else iv (BT k 2))=true:=by kernel_rfl
def m9:List Int:=(List.range 256).map fun (i:Nat)=>(i:Int)
theorem Hj {k:Nat} (h:k<256):(k:Int)∈m9:=List.mem_map.2 ⟨k,by rw[List.mem_range];exact h,rfl⟩
noncomputable def RT (f:FuncId) (spec:Int→Bool):Bool:=m9.all fun k=>match AW Tryd.prog (GB Tryd.prog MY 12) 12 f [.int .u8 k] (DO 1 0) with
 | some (v,_)=>RA v (.bool (spec k))
 | none=>false
theorem VX {f:FuncId} {spec:Int→Bool} (h:RT f spec=true) (b:UInt8):∃ h1,AW Tryd.prog (GB Tryd.prog MY 12) 12 f [.int .u8 (b.toNat:Int)] (DO 1 0)=some (.bool (spec (b.toNat:Int)),h1):=by
 have:=List.all_eq_true.1 h _ (Hj (UInt8.toNat_lt b))
 split at this
 ·rename_i v h1 he
  rw[VI this] at he
  exact⟨h1,he⟩
 ·cases this
def EN (c:Int):Bool:=(decide (c≥97)&&decide (c≤122))||(decide (c≥65)&&decide (c≤90))||c==95
def F2 (c:Int):Bool:=decide (c≥48)&&decide (c≤57)
theorem zA:RT 105 EN=true:=by kernel_rfl
theorem Cr:RT 107 F2=true:=by kernel_rfl
theorem wR:RT 124 EN=true:=by kernel_rfl
theorem Dt:RT 125 F2=true:=by kernel_rfl
section
variable {call:AK} {n:Nat} {h:AA}
theorem rE {what kind:Int}:AW Tryd.prog call n 89 [iv what,iv kind] h=some (.bool (CC what kind),h):=by
 refine DW Tryd.func89 rfl (by simp[Tryd.f89]) ?_
 have hr:Tryd.f89.results.toList=[.tmp 4]:=rfl
 unfold CC
 by_cases w8:what=8
 ·subst w8;simp only[eE,seval,↓eP,rP,hr]
 have e8:(what==8)=false:=by simpa using w8
 by_cases w0:what=0
 ·subst w0
  cases d1:decide (kind≥2) <;> simp only[eE,seval,↓eP,rP,hr,e8,d1] <;> simp
 have e0:(what==0)=false:=by simpa using w0
 by_cases w1:what=1
 ·subst w1
  cases d1:decide (kind≥8) <;> simp only[eE,seval,↓eP,rP,hr,e8,e0,d1] <;> simp
 have e1:(what==1)=false:=by simpa using w1
 by_cases w2:what=2
 ·subst w2;simp only[eE,seval,↓eP,rP,hr,e8,e0,e1] <;> simp
 have e2:(what==2)=false:=by simpa using w2
 by_cases w3:what=3
 ·subst w3
  cases d1:decide (kind≥11) <;> simp only[eE,seval,↓eP,rP,hr,e8,e0,e1,e2,d1] <;> simp
 have e3:(what==3)=false:=by simpa using w3
 by_cases w4:what=4
 ·subst w4
  cases d1:(kind==11) <;> simp only[eE,seval,↓eP,rP,hr,e8,e0,e1,e2,e3,d1] <;> simp
 have e4:(what==4)=false:=by simpa using w4
 by_cases w5:what=5
 ·subst w5
  cases d1:(kind==25) <;> simp only[eE,seval,↓eP,rP,hr,e8,e0,e1,e2,e3,e4,d1] <;> simp
 have e5:(what==5)=false:=by simpa using w5
 by_cases w6:what=6
 ·subst w6;simp only[eE,seval,↓eP,rP,hr,e8,e0,e1,e2,e3,e4,e5] <;> simp
 have e6:(what==6)=false:=by simpa using w6
 rw[if_neg w8,if_neg w0,if_neg w1,if_neg w2,if_neg w3,if_neg w4,if_neg w5,if_neg w6]
 cases d1:decide (kind≥27) <;> simp only[eE,seval,↓eP,rP,hr,e8,e0,e1,e2,e3,e4,e5,e6,d1] <;> simp
end
def DK:BB:=.row KB 9 false true
def LJ (w:List UInt8):ByteArray:=⟨w.toArray⟩
def IF (s:ByteArray):Bool:=decide (GM.findIdx (fun w=>s==LJ w)<41)
theorem Q3:GM.length=41:=by decide
def AR (s:ByteArray):Bool:=match s.data.toList with
 | []=>false
 | c :: l=>decide ((c :: l).length≤64)&&EN c.toNat && !IF s&&(c :: l).all fun c=>EN c.toNat||F2 c.toNat
theorem JC {s:ByteArray}:flat (.string s)=true:=rfl
theorem G9 {h:AA} {s:ByteArray}:B_ Tryd.prog h 9 (.string s)=some (.int .i64 s.data.toList.length):=by simp[B_,Tryd.underlying9]
theorem PX {s:ByteArray} {i:Nat} {b:UInt8} (hb:s.data.toList[i]?=some b):BC Tryd.prog (Instr.index 9 (.string s) (.int .i64 (i:Int)))=some (.int .u8 (b.toNat:Int)):=by
 have hg:s[i]?=some b:=by
  obtain⟨hl,he⟩:=List.getElem?_eq_some_iff.1 hb
  have hl':i<s.size:=by simpa using hl
  rw[getElem?_pos s i hl']
  congr 1
 unfold Instr.index
 rw[CW]
 have e1:BC Tryd.prog (asIntOf (.int .i64 (i:Int)))=some (.i64,(i:Int)):=rfl
 rw[e1]
 simp only[Option.bind_some]
 rw[CW,M4 Tryd.underlying9]
 simp only[Option.bind_some,Int.toNat_natCast]
 rw[if_pos (by omega),hg]
 rfl
theorem xC {s:ByteArray} {b:UInt8} (hb:s.data.toList[0]?=some b):BC Tryd.prog (Instr.index 9 (.string s) (.int .i64 0))=some (.int .u8 (b.toNat:Int)):=PX (i:=0) hb
theorem pK {s:ByteArray}:(s==⟨#[]⟩)=s.data.toList.isEmpty:=by
 cases s with
 | mk d=>
  show (d == #[])=_
  cases d with
  | mk l=>cases l <;> rfl
section
variable {call:AK} {n:Nat} {h:AA} {s:ByteArray}
def SM (s:ByteArray):Int:=if GM.findIdx (fun w=>s==LJ w)<41 then GM.findIdx (fun w=>s==LJ w) else -1
theorem Fh {h:AA} {a:Option Addr} {n c:Nat}:B_ Tryd.prog h 27 (.slice a n c)=some (.int .i64 n):=by simp[B_,Tryd.underlying27]
theorem dO {i:Nat} (hi:i<41):CY Tryd.prog 27 (.slice (some ⟨0,0,none⟩) 41 41) (.int .i64 (i:Int))=some (.pointer (some ⟨0,i,none⟩)):=by
 simp only[CY,Tryd.underlying27,HC,CI]
 rw[if_pos (by omega)]
 simp
theorem n7 {i:Nat} (hi:i<41):AO i DK=some (.string (LJ (GM[i]'(by rw[Q3];exact hi)))):=by
 simp only[DK,AO,KB,List.getElem?_map]
 rw[List.getElem?_eq_getElem (by rw[Q3];exact hi)]
 rfl
theorem yD (hg:h.get 0=DK) (hn:41<n):AW Tryd.prog call n 123 [.slice (some ⟨0,0,none⟩) 41 41,.string s] h=some (iv (SM s),h):=by
 refine DW Tryd.func123 rfl (by simp[Tryd.f123]) ?_
 have hr:Tryd.f123.results.toList=[.tmp 4]:=rfl
 have hle:GM.findIdx (fun w=>s==LJ w)≤41:=by have:=List.findIdx_le_length (xs:=GM) (p:=fun w=>s==LJ w);rw[Q3] at this;exact this
 simp only[eE,↓reduceIte,Nat.reduceEqDiff,reduceCtorEq,↓eP,rP,Nat.reduceAdd,Nat.reduceLT,hr,Fh]
 refine WK.loop (fun i s'=>s'.h=h∧s'.T.get 0=.slice (some ⟨0,0,none⟩) 41 41∧s'.T.get 1=.string s∧s'.T.get 7=.int .i64 41∧s'.T.get 8=.int .i64 i) (GM.findIdx (fun w=>s==LJ w)) (by omega) ?_ ?_
 ·simp only[eE,↓reduceIte,Nat.reduceEqDiff,reduceCtorEq,↓eP,rP,Nat.reduceAdd,Nat.reduceLT]
  exact⟨rfl,rfl⟩
 ·rintro i ⟨T1,h1⟩ hi ⟨rfl,t0,t1,t7,t8⟩
  simp only at t0 t1 t7 t8
  unfold SM
  by_cases hlt:i<GM.findIdx (fun w=>s==LJ w)
  ·have hi41:i<41:=by omega
   have c1:decide ((i:Int)<41)=true:=by simp;omega
   have hne:=List.not_of_lt_findIdx hlt
   have w5:IntKind.i64.wrap ((i:Int)+1)=((i+1:Nat):Int):=CG (by omega) (by omega)
   simp only[eE,seval,↓eP,rP,t0,t1,t7,t8,c1,dO hi41,hg,n7 hi41,hne]
   exact⟨hlt,w5⟩
  ·have hie:i=GM.findIdx (fun w=>s==LJ w):=by omega
   by_cases h41:i<41
   ·have c1:decide ((i:Int)<41)=true:=by simp;omega
    have heq:(s==LJ (GM[i]'(by rw[Q3];exact h41)))=true:=by
     have:=List.findIdx_getElem (xs:=GM) (p:=fun w=>s==LJ w) (w:=by rw[← hie,Q3];exact h41)
     simp only[← hie] at this
     exact this
    rw[← hie,if_pos h41]
    simp only[eE,seval,↓eP,rP,hr,t0,t1,t7,t8,c1,dO h41,hg,n7 h41,heq]
   ·have c1:decide ((i:Int)<41)=false:=by simp;omega
    rw[← hie,if_neg h41]
    simp only[eE,seval,↓eP,rP,hr,t0,t1,t7,t8,c1]
theorem uH:decide (SM s≥0)=IF s:=by
 unfold SM IF
 split
 ·rename_i h
  rw[decide_eq_true h,decide_eq_true (by omega)]
 ·rename_i h
  rw[decide_eq_false h]
  rfl
theorem Hl (h123:call 123 [.slice (some ⟨0,0,none⟩) 41 41,.string s] h=some (iv (SM s),h)):AW Tryd.prog call n 117 [.slice (some ⟨0,0,none⟩) 41 41,.string s] h=some (.bool (IF s),h):=by
 refine DW Tryd.func117 rfl (by simp[Tryd.f117]) ?_
 have hr:Tryd.f117.results.toList=[.tmp 4]:=rfl
 simp only[eE,seval,↓eP,rP,hr,h123,uH]
theorem zC:G7 Tryd.prog h 145 (.pointer (some ⟨0,0,none⟩)) none none none=some (.slice (some ⟨0,0,none⟩) 41 41):=by
 simp[G7,Tryd.underlying145,F3,HC,CI]
theorem rB (h117:call 117 [.slice (some ⟨0,0,none⟩) 41 41,.string s] h=some (.bool (IF s),h)):AW Tryd.prog call n 106 [.string s] h=some (.bool (IF s),h):=by
 refine DW Tryd.func106 rfl (by simp[Tryd.f106]) ?_
 have hr:Tryd.f106.results.toList=[.tmp 2]:=rfl
 simp only[eE,seval,↓eP,rP,hr,Cw,zC,h117]
theorem zY (h105:∀ (b:UInt8) h,call 105 [.int .u8 (b.toNat:Int)] h=some (.bool (EN b.toNat),h)) (h107:∀ (b:UInt8) h,call 107 [.int .u8 (b.toNat:Int)] h=some (.bool (F2 b.toNat),h))
  (h106:call 106 [.string s] h=some (.bool (IF s),h)) (hn:64<n):AW Tryd.prog call n 91 [.string s] h=some (.bool (AR s),h):=by
 refine DW Tryd.func91 rfl (by simp[Tryd.f91]) ?_
 have hr:Tryd.f91.results.toList=[.tmp 2]:=rfl
 unfold AR
 cases hl:s.data.toList with
 | nil=>
  have e0:(s==⟨#[]⟩)=true:=by rw[pK,hl];rfl
  simp only[eE,seval,↓eP,rP,hr,e0]
 | cons c l=>
  have e0:(s==⟨#[]⟩)=false:=by rw[pK,hl];rfl
  have i0:=xC (s:=s) (b:=c) (by rw[hl];rfl)
  simp only
  generalize hA:(c :: l).all (fun c=>EN c.toNat||F2 c.toNat)=A
  by_cases hlen:(c :: l).length≤64
  ·have d1:decide (((c :: l).length:Int)>64)=false:=by simp only[decide_eq_false_iff_not];omega
   cases hc:EN c.toNat with
   | false=>simp only[eE,seval,↓eP,rP,hr,e0,G9,hl,d1,JC,i0,h105,hc,Bool.and_false,Bool.false_and]
   | true=>
    cases hw:IF s with
    | true=>simp only[eE,seval,↓eP,rP,hr,e0,G9,hl,d1,JC,i0,h105,hc,h106,hw,Bool.and_false,Bool.false_and]
    | false=>
     simp only[eE,↓reduceIte,Nat.reduceEqDiff,reduceCtorEq,↓eP,rP,Nat.reduceAdd,Nat.reduceLT,hr,e0,G9,hl,d1,JC,i0,h105,hc,h106,hw,decide_eq_true hlen]
     rw[← hl] at *
     generalize hL:s.data.toList=L at *
     refine WK.loop (fun i s'=>s'.h=h∧s'.T.get 0=.string s∧s'.T.get 22=.int .i64 L.length∧s'.T.get 23=.int .i64 i∧(L.take i).all (fun c=>EN c.toNat||F2 c.toNat)=true) L.length (by omega) ?_ ?_
     ·simp only[eE,↓reduceIte,Nat.reduceEqDiff,reduceCtorEq,↓eP,rP,Nat.reduceAdd,Nat.reduceLT]
      exact⟨rfl,rfl⟩
     ·rintro i ⟨T1,h1⟩ hi ⟨rfl,t0,t22,t23,hall⟩
      simp only at t0 t22 t23
      by_cases hlt:i<L.length
      ·have c1:decide ((i:Int)<(L.length:Int))=true:=by simp;omega
       obtain⟨b,hb⟩:∃ b,L[i]?=some b:=⟨_,List.getElem?_eq_getElem hlt⟩
       have ib:=PX (s:=s) (i:=i) (b:=b) (by rw[hL];exact hb)
       have w5:IntKind.i64.wrap ((i:Int)+1)=((i+1:Nat):Int):=CG (by omega) (by omega)
       have hst:(L.take (i+1)).all (fun c=>EN c.toNat||F2 c.toNat)=((L.take i).all (fun c=>EN c.toNat||F2 c.toNat)&&(EN b.toNat||F2 b.toNat)):=by
        rw[List.take_add_one,hb,List.all_append]
        simp
       have hbad:(EN b.toNat||F2 b.toNat)=false→L.all (fun c=>EN c.toNat||F2 c.toNat)=false:=fun h=>by
        rw[List.all_eq_false]
        exact⟨b,List.mem_of_getElem? hb,by rw[h];simp⟩
       cases q1:EN b.toNat with
       | true=>
        simp only[eE,seval,↓eP,rP,hr,t0,t22,t23,c1,JC,ib,h105,q1]
        exact⟨hlt,w5,by rw[hst,hall,q1];rfl⟩
       | false=>
        cases q2:F2 b.toNat with
        | true=>
         simp only[eE,seval,↓eP,rP,hr,t0,t22,t23,c1,JC,ib,h105,h107,q1,q2]
         exact⟨hlt,w5,by rw[hst,hall,q1,q2];rfl⟩
        | false=>
         simp only[eE,seval,↓eP,rP,hr,t0,t22,t23,c1,JC,ib,h105,h107,q1,q2]
         rw[← hA,hbad (by rw[q1,q2];rfl)]
      ·have c1:decide ((i:Int)<(L.length:Int))=false:=by simp;omega
       rw[List.take_of_length_le (by omega)] at hall
       rw[hall] at hA
       subst hA
       simp only[eE,seval,↓eP,rP,hr,t0,t22,t23,c1]
  ·have d1:decide (((c :: l).length:Int)>64)=true:=by simp only[decide_eq_true_eq];omega
   simp only[eE,seval,↓eP,rP,hr,e0,G9,hl,d1,decide_eq_false hlen,Bool.false_and]
def M6 (l:List UInt8):Bool:=match l with
 | []=>false
 | c :: r=>EN c.toNat&&(c :: r).all fun c=>EN c.toNat||F2 c.toNat
theorem Aq (h124:∀ (b:UInt8) h,call 124 [.int .u8 (b.toNat:Int)] h=some (.bool (EN b.toNat),h)) (h125:∀ (b:UInt8) h,call 125 [.int .u8 (b.toNat:Int)] h=some (.bool (F2 b.toNat),h))
  (hn:s.data.toList.length<n) (hmax:s.data.toList.length<1000):AW Tryd.prog call n 121 [.string s] h=some (.bool (M6 s.data.toList),h):=by
 refine DW Tryd.func121 rfl (by simp[Tryd.f121]) ?_
 have hr:Tryd.f121.results.toList=[.tmp 2]:=rfl
 simp only[eE,↓reduceIte,Nat.reduceEqDiff,reduceCtorEq,↓eP,rP,Nat.reduceAdd,Nat.reduceLT,hr]
 generalize hL:s.data.toList=L at *
 generalize hA:M6 L=A
 refine WK.loop (fun i s'=>s'.h=h∧s'.T.get 0=.string s∧s'.T.get 3=.int .i64 i∧(L.take i).all (fun c=>EN c.toNat||F2 c.toNat)=true∧(0<i→∃ c r,L=c :: r∧EN c.toNat=true)) L.length (by omega) ?_ ?_
 ·simp only[eE,↓reduceIte,Nat.reduceEqDiff,reduceCtorEq,↓eP,rP,Nat.reduceAdd,Nat.reduceLT]
  exact⟨rfl,rfl⟩
 ·rintro i ⟨T1,h1⟩ hi ⟨rfl,t0,t3,hall,hhd⟩
  simp only at t0 t3
  by_cases hlt:i<L.length
  ·have c1:decide ((i:Int)<(L.length:Int))=true:=by simp;omega
   obtain⟨b,hb⟩:∃ b,L[i]?=some b:=⟨_,List.getElem?_eq_getElem hlt⟩
   have ib:=PX (s:=s) (i:=i) (b:=b) (by rw[hL];exact hb)
   have w5:IntKind.i64.wrap ((i:Int)+1)=((i+1:Nat):Int):=CG (by omega) (by omega)
   have hst:(L.take (i+1)).all (fun c=>EN c.toNat||F2 c.toNat)=((L.take i).all (fun c=>EN c.toNat||F2 c.toNat)&&(EN b.toNat||F2 b.toNat)):=by
    rw[List.take_add_one,hb,List.all_append]
    simp
   cases q1:EN b.toNat with
   | true=>
    simp only[eE,↓reduceIte,Nat.reduceEqDiff,reduceCtorEq,↓eP,rP,Nat.reduceAdd,Nat.reduceLT,hr,t0,t3,G9,hL,c1,JC,ib,h124,q1]
    refine⟨hlt,w5,by rw[hst,hall,q1];rfl,fun _=>?_⟩
    by_cases hi0:i=0
    ·subst hi0
     cases L with
     | nil=>simp at hlt
     | cons c r=>simp at hb;subst hb;exact⟨_,_,rfl,q1⟩
    ·exact hhd (by omega)
   | false=>
    by_cases hi0:i=0
    ·subst hi0
     have e0:(((0:Nat):Int)==0)=true:=rfl
     have hf:A=false:=by
      rw[← hA]
      cases L with
      | nil=>simp at hlt
      | cons c r=>simp at hb;subst hb;simp[M6,q1]
     simp only[eE,↓reduceIte,Nat.reduceEqDiff,reduceCtorEq,↓eP,rP,Nat.reduceAdd,Nat.reduceLT,hr,t0,t3,G9,hL,c1,JC,ib,h124,q1,e0,hf]
    ·have e0:((i:Int)==0)=false:=by simp;omega
     cases q2:F2 b.toNat with
     | true=>
      simp only[eE,seval,↓eP,rP,hr,t0,t3,G9,hL,c1,JC,ib,h124,h125,q1,q2,e0]
      exact⟨hlt,w5,by rw[hst,hall,q1,q2];rfl,fun _=>hhd (by omega)⟩
     | false=>
      have hf:A=false:=by
       rw[← hA]
       obtain⟨c,r,rfl,hc⟩:=hhd (by omega)
       have:(c :: r).all (fun c=>EN c.toNat||F2 c.toNat)=false:=by
        rw[List.all_eq_false]
        exact⟨b,List.mem_of_getElem? hb,by rw[q1,q2];simp⟩
       show (EN c.toNat&&(c :: r).all fun c=>EN c.toNat||F2 c.toNat)=false
       rw[this,Bool.and_false]
      simp only[eE,seval,↓eP,rP,hr,t0,t3,G9,hL,c1,JC,ib,h124,h125,q1,q2,e0,hf]
  ·have c1:decide ((i:Int)<(L.length:Int))=false:=by simp;omega
   rw[List.take_of_length_le (by omega)] at hall
   have hf:A=decide ((L.length:Int)>0):=by
    rw[← hA]
    cases L with
    | nil=>rfl
    | cons c r=>
     obtain⟨c',r',he,hc⟩:=hhd (by simp at hlt;omega)
     cases he
     show (EN c.toNat&&(c :: r).all fun c=>EN c.toNat||F2 c.toNat)=_
     rw[hall,hc]
     simp
     try omega
   simp only[eE,seval,↓eP,rP,hr,t0,t3,G9,hL,c1,hf]
def KT (K s:ByteArray) (i:Nat):Bool:=(K.data.toList[i]? == some 32)&&((K.data.toList[i+s.data.toList.length+1]? == some 32)&&(K.extract (i+1) (i+s.data.toList.length+1)==s))
def VE (K s:ByteArray):Bool:=decide ((List.range (K.data.toList.length-(s.data.toList.length+1))).findIdx (KT K s)<K.data.toList.length-(s.data.toList.length+1))
theorem Er {h:AA} {K:ByteArray} {lo hi:Nat} (h1:lo≤hi) (h2:hi≤K.data.toList.length):G7 Tryd.prog h 9 (.string K) (some (.int .i64 (lo:Int))) (some (.int .i64 (hi:Int))) none=some (.string (K.extract lo hi)):=by
 have hs:K.size=K.data.toList.length:=by simp
 simp only[G7,Tryd.underlying9,Option.isSome_none,Bool.false_eq_true,if_false,F3,hs]
 rw[if_pos (by omega)]
 simp only[Int.toNat_natCast]
 rw[if_pos (by omega)]
theorem wV {K:ByteArray} (hK:K.data.toList.length<900) (hn:K.data.toList.length+s.data.toList.length<n) (hmax:s.data.toList.length<1000) (hne:s.data.toList≠[]) (hb:∀ b∈s.data.toList,b≠32) :
  AW Tryd.prog call n 126 [.string K,.string s] h=some (.bool (VE K s),h):=by
 refine DW Tryd.func126 rfl (by simp[Tryd.f126]) ?_
 have hr:Tryd.f126.results.toList=[.tmp 4]:=rfl
 have hpos:0<s.data.toList.length:=List.length_pos_iff.2 hne
 have w0:IntKind.i64.wrap ((s.data.toList.length:Int)+2)=((s.data.toList.length+2:Nat):Int):=CG (by omega) (by omega)
 simp only[eE,↓reduceIte,Nat.reduceEqDiff,reduceCtorEq,↓eP,rP,Nat.reduceAdd,Nat.reduceLT,hr,G9,w0]
 generalize hL:s.data.toList=L at *
 refine WK.loop (fun i s'=>s'.h=h∧s'.T.get 0=.string K∧s'.T.get 1=.string s∧s'.T.get 5=.int .i64 ((L.length+2:Nat):Int)∧s'.T.get 6=.int .i64 i) L.length (by omega) ?_ ?_
 ·simp only[eE,↓reduceIte,Nat.reduceEqDiff,reduceCtorEq,↓eP,rP,Nat.reduceAdd,Nat.reduceLT]
  rfl
 ·rintro i ⟨T1,h1⟩ hi ⟨rfl,t0,t1,t5,t6⟩
  simp only at t0 t1 t5 t6
  by_cases hlt:i<L.length
  ·have c1:decide ((i:Int)<(L.length:Int))=true:=by simp;omega
   obtain⟨b,hbi⟩:∃ b,L[i]?=some b:=⟨_,List.getElem?_eq_getElem hlt⟩
   have ib:=PX (s:=s) (i:=i) (b:=b) (by rw[hL];exact hbi)
   have hb32:((b.toNat:Int)==32)=false:=by
    have hx:=hb b (List.mem_of_getElem? hbi)
    simp only[beq_eq_false_iff_ne,ne_eq]
    intro e
    apply hx
    have e2:b.toNat=32:=by omega
    exact UInt8.toNat_inj.1 e2
   have w5:IntKind.i64.wrap ((i:Int)+1)=((i+1:Nat):Int):=CG (by omega) (by omega)
   simp only[eE,seval,↓eP,rP,hr,t0,t1,t5,t6,G9,hL,c1,JC,ib,hb32]
   exact⟨hlt,w5⟩
  ·have c1:decide ((i:Int)<(L.length:Int))=false:=by simp;omega
   simp only[eE,seval,↓eP,rP,hr,t0,t1,t5,t6,G9,hL,c1]
   unfold VE
   rw[hL]
   generalize hN:K.data.toList.length-(L.length+1)=N at *
   have hle:(List.range N).findIdx (KT K s)≤N:=by have:=List.findIdx_le_length (xs:=List.range N) (p:=KT K s);simpa using this
   generalize hq:(List.range N).findIdx (KT K s)=q at *
   refine WK.loop (fun i s'=>s'.h=h1∧s'.T.get 0=.string K∧s'.T.get 1=.string s∧s'.T.get 5=.int .i64 ((L.length+2:Nat):Int)∧s'.T.get 7=.int .i64 i) q (by omega) ?_ ?_
   ·simp only[eE,↓reduceIte,Nat.reduceEqDiff,reduceCtorEq,↓eP,rP,Nat.reduceAdd,Nat.reduceLT,t0,t1,t5]
    rfl
   ·rintro j ⟨T2,h2⟩ hj ⟨rfl,u0,u1,u5,u7⟩
    simp only at u0 u1 u5 u7
    have w1:IntKind.i64.wrap ((j:Int)+((L.length+2:Nat):Int))=((j+L.length+2:Nat):Int):=by rw[CG (by omega) (by omega)];omega
    have w2:IntKind.i64.wrap (((j+L.length+2:Nat):Int)-1)=((j+L.length+1:Nat):Int):=by rw[CG (by omega) (by omega)];omega
    have w3:IntKind.i64.wrap ((j:Int)+1)=((j+1:Nat):Int):=CG (by omega) (by omega)
    by_cases hjN:j<N
    ·have c2 : decide (((j + L.length + 2 : Nat):Int)≤(K.data.toList.length:Int))=true:=by simp only[decide_eq_true_eq];omega
     obtain⟨b1,hb1⟩:∃ b,K.data.toList[j]?=some b:=⟨_,List.getElem?_eq_getElem (by omega)⟩
     obtain⟨b2,hb2⟩:∃ b,K.data.toList[j+L.length+1]?=some b:=⟨_,List.getElem?_eq_getElem (by omega)⟩
     have i1:=PX hb1
     have i2:=PX hb2
     have s1:=Er (h:=h2) (K:=K) (lo:=j+1) (hi:=j+L.length+1) (by omega) (by omega)
     have x32:∀ b:UInt8,((b.toNat:Int)==32)=(some b==some (32:UInt8)):=fun b=>by
      apply Bool.eq_iff_iff.2
      simp only[beq_iff_eq,Option.some.injEq]
      constructor
      ·intro e; exact UInt8.toNat_inj.1 (by have:b.toNat=32:=by omega
                                            exact this)
      ·rintro rfl;rfl
     have hhit:KT K s j=((some b1==some (32:UInt8))&&((some b2==some (32:UInt8))&&(K.extract (j+1) (j+L.length+1)==s))):=by
      unfold KT
      rw[hL,hb1,hb2]
     have done:j<q→KT K s j=false:=fun hjq=>by
      have:=List.not_of_lt_findIdx (xs:=List.range N) (p:=KT K s) (i:=j) (by rw[hq];exact hjq)
      simpa using this
     have found:¬ j<q→KT K s j=true:=fun hjq=>by
      have hjq':j=q:=by omega
      have:=List.findIdx_getElem (xs:=List.range N) (p:=KT K s) (w:=by rw[hq];simp;omega)
      simp only[hq,List.getElem_range] at this
      rw[hjq']
      exact this
     have fin:¬ j<q→decide (q<N)=true:=fun _=>decide_eq_true (by omega)
     rw[hhit] at done found
     cases d1:(some b1==some (32:UInt8)) with
     | false=>
      have hlt:j<q:=by
       rcases Nat.lt_or_ge j q with h | h
       ·exact h
       ·have:=found (by omega);rw[d1] at this;cases this
      simp only[eE,seval,↓eP,rP,hr,u0,u1,u5,u7,G9,w1,c2,JC,i1,x32,d1]
      exact⟨hlt,w3⟩
     | true=>
      cases d2:(some b2==some (32:UInt8)) with
      | false=>
       have hlt:j<q:=by
        rcases Nat.lt_or_ge j q with h | h
        ·exact h
        ·have:=found (by omega);rw[d1,d2] at this;cases this
       simp only[eE,seval,↓eP,rP,hr,u0,u1,u5,u7,G9,w1,w2,c2,JC,i1,i2,x32,d1,d2]
       exact⟨hlt,w3⟩
      | true=>
       cases d3:(K.extract (j+1) (j+L.length+1)==s) with
       | false=>
        have hlt:j<q:=by
         rcases Nat.lt_or_ge j q with h | h
         ·exact h
         ·have:=found (by omega);rw[d1,d2,d3] at this;cases this
        simp only[eE,seval,↓eP,rP,hr,u0,u1,u5,u7,G9,w1,w2,w3,c2,JC,i1,i2,x32,d1,d2,s1,d3]
        exact hlt
       | true=>
        have hge:¬ j<q:=fun h=>by have:=done h;rw[d1,d2,d3] at this;cases this
        have l0:decide ((L.length:Int)>0)=true:=by simp;omega
        simp only[eE,seval,↓eP,rP,hr,u0,u1,u5,u7,G9,hL,w1,w2,w3,c2,JC,i1,i2,x32,d1,d2,s1,d3,fin hge,l0]
    ·have c2:decide (((j+L.length+2:Nat):Int)≤(K.data.toList.length:Int))=false:=by simp only[decide_eq_false_iff_not];omega
     have fin:decide (q<N)=false:=decide_eq_false (by omega)
     simp only[eE,seval,↓eP,rP,hr,u0,u1,u5,u7,G9,w1,c2,fin]
end
def I2:List UInt8:=32 :: GM.flatMap fun w=>w++[32]
def aR:ByteArray:=⟨I2.toArray⟩
theorem PO:aR.data.toList=I2:=rfl
def X_ (i:Nat):List UInt8:=(I2.drop (i+1)).takeWhile (· != 32)
theorem Ae:((List.range I2.length).all fun i=>!(I2[i]? == some 32)||decide (i+1=I2.length)||GM.contains (X_ i))=true:=by decide +kernel
theorem Ht:(GM.all fun w=>(List.range I2.length).any fun i=>(I2[i]? == some 32)&&((I2[i+w.length+1]? == some 32)&&((I2.drop (i+1)).take w.length==w)))=true:=by decide +kernel
theorem TV {a b:ByteArray}:(a==b)=true↔a.data.toList=b.data.toList:=by
 constructor
 ·intro h;rw[JK h]
 ·intro h
  have:a=b:=by
   cases a;cases b
   simp only[ByteArray.mk.injEq]
   exact Array.toList_inj.1 h
  subst this
  exact J1 a
theorem sL {s:ByteArray}:IF s=true↔s.data.toList∈GM:=by
 unfold IF
 rw[decide_eq_true_eq]
 have h41:(41:Nat)=GM.length:=Q3.symm
 rw[h41,List.findIdx_lt_length]
 constructor
 ·rintro ⟨w,hw,h⟩
  rw[TV] at h
  rw[h]
  exact hw
 ·intro h
  exact⟨_,h,by rw[TV];rfl⟩
theorem gZ {K:ByteArray} {lo n:Nat}:(K.extract lo (lo+n)).data.toList=(K.data.toList.drop lo).take n:=by
 rw[ByteArray.data_extract]
 simp[List.extract_eq_take_drop]
theorem xL {l m:List UInt8} {x:List UInt8} (h1:(m.take l.length)=l) (h2:m[l.length]?=some 32) (h3:∀ b∈l,b≠32):m.takeWhile (· != 32)=l:=by
 have hm:m=l++32 :: m.drop (l.length+1):=by
  have hlt:l.length<m.length:=(List.getElem?_eq_some_iff.1 h2).1
  have e1:m=m.take l.length++m.drop l.length:=(List.take_append_drop _ _).symm
  rw[h1,List.drop_eq_getElem_cons hlt] at e1
  have e2:m[l.length]=32:=by
   have:=List.getElem?_eq_getElem hlt
   rw[h2] at this
   exact(Option.some.inj this).symm
  rw[e2] at e1
  exact e1
 rw[hm,List.takeWhile_append_of_pos (fun b hb=>by simpa using h3 b hb)]
 simp
theorem Jp {p:Nat→Bool} {M:Nat}:(List.range M).findIdx p<M↔∃ i,i<M∧p i=true:=by
 have:=List.findIdx_lt_length (xs:=List.range M) (p:=p)
 rw[List.length_range] at this
 rw[this]
 simp[List.mem_range]
theorem Am {s:ByteArray} (hne:s.data.toList≠[]) (hb:∀ b∈s.data.toList,b≠32):VE aR s=IF s:=by
 apply Bool.eq_iff_iff.2
 rw[sL]
 unfold VE
 rw[decide_eq_true_eq,PO]
 generalize hl:s.data.toList=l at *
 rw[Jp]
 constructor
 ·rintro ⟨i,hi,hh⟩
  unfold KT at hh
  rw[hl,PO] at hh
  simp only[Bool.and_eq_true] at hh
  obtain⟨h1,h2,h3⟩:=hh
  rw[TV,hl,show i+l.length+1=(i+1)+l.length by omega,gZ,PO] at h3
  have hseg:X_ i=l:=by
   unfold X_
   refine xL (x:=[]) h3 ?_ hb
   rw[List.getElem?_drop]
   have:i+1+l.length=i+l.length+1:=by omega
   rw[this]
   simpa using h2
  have hlt:i<I2.length:=by omega
  have:=List.all_eq_true.1 Ae i (List.mem_range.2 hlt)
  rw[hseg] at this
  simp only[Bool.or_eq_true,Bool.not_eq_true',decide_eq_true_eq] at this
  rcases this with(h | h) | h
  ·rw[h] at h1;cases h1
  ·have:i+l.length+1<I2.length:=by
    have:=(List.getElem?_eq_some_iff.1 (show I2[i+l.length+1]?=some 32 by simpa using h2)).1
    exact this
   omega
  ·simpa using h
 ·intro h
  have:=List.all_eq_true.1 Ht l h
  obtain⟨i,hi,hh⟩:=List.any_eq_true.1 this
  simp only[Bool.and_eq_true] at hh
  obtain⟨h1,h2,h3⟩:=hh
  have hlt:i+l.length+1<I2.length:=(List.getElem?_eq_some_iff.1 (show I2[i+l.length+1]?=some 32 by simpa using h2)).1
  refine⟨i,by omega,?_⟩
  unfold KT
  rw[hl,PO,h1,h2]
  simp only[Bool.true_and]
  rw[TV,hl,show i+l.length+1=(i+1)+l.length by omega,gZ,PO]
  simpa using h3
theorem Cm:I2.length<900:=by decide
theorem Ci {s:ByteArray} (h:M6 s.data.toList=true):s.data.toList≠[]∧∀ b∈s.data.toList,b≠32:=by
 cases hl:s.data.toList with
 | nil=>rw[hl] at h;cases h
 | cons c r=>
  rw[hl] at h
  refine⟨by simp,fun b hb e=>?_⟩
  have h2:=(Bool.and_eq_true_iff.1 (show (EN c.toNat&&(c :: r).all fun c=>EN c.toNat||F2 c.toNat)=true from h)).2
  have:=List.all_eq_true.1 h2 b hb
  rw[e] at this
  revert this
  decide
theorem tN {s:ByteArray}:AR s=(decide (s.data.toList.length≤64)&&(M6 s.data.toList && !IF s)):=by
 unfold AR M6
 cases hl:s.data.toList with
 | nil=>simp
 | cons c r=>
  simp only
  cases EN c.toNat <;> cases IF s <;> cases (c :: r).all (fun c=>EN c.toNat||F2 c.toNat) <;> simp
noncomputable def j_:Value:=match (DY Tryd.f122 1)[1]? with
 | some o=>match o.op with
  | .call c=>match (c.args.toList.head? : Option Operand) with
   | some (Operand.const v)=>v
   | _=>undef
  | _=>undef
 | none=>undef
theorem Hs:j_=.string aR:=by kernel_rfl
section
variable {call:AK} {n:Nat} {h:AA} {s:ByteArray}
theorem Ck (h126:call 126 [j_,.string s] h=some (.bool (IF s),h)):AW Tryd.prog call n 122 [.string s] h=some (.bool (IF s),h):=by
 refine DW Tryd.func122 rfl (by simp[Tryd.f122]) ?_
 have hr:Tryd.f122.results.toList=[.tmp 2]:=rfl
 simp only[eE,seval,↓eP,rP,hr]
 refine N2.of (v:=.bool (IF s)) (h':=h) h126 ?_
 simp only[eE,seval,↓eP,rP,hr]
theorem vZ (h121:s.data.toList.length≤64→call 121 [.string s] h=some (.bool (M6 s.data.toList),h)) (h122:s.data.toList.length≤64→M6 s.data.toList=true→call 122 [.string s] h=some (.bool (IF s),h)) :
  AW Tryd.prog call n 114 [.string s] h=some (.bool (AR s),h):=by
 refine DW Tryd.func114 rfl (by simp[Tryd.f114]) ?_
 have hr:Tryd.f114.results.toList=[.tmp 2]:=rfl
 rw[tN]
 by_cases hlen:s.data.toList.length≤64
 ·have c1:decide ((s.data.toList.length:Int)≤64)=true:=by simp only[decide_eq_true_eq];omega
  have h121':=h121 hlen
  rw[decide_eq_true hlen]
  cases hs:M6 s.data.toList with
  | false=>rw[hs] at h121';simp only[eE,seval,↓eP,rP,hr,G9,c1,h121',Bool.false_and]
  | true=>
   have h122':=h122 hlen hs
   rw[hs] at h121'
   simp only[eE,seval,↓eP,rP,hr,G9,c1,h121',h122']
 ·have c1:decide ((s.data.toList.length:Int)≤64)=false:=by simp only[decide_eq_false_iff_not];omega
  rw[decide_eq_false hlen]
  simp only[eE,seval,↓eP,rP,hr,G9,c1,Bool.false_and]
end
noncomputable def L0:AK:=MI [90,118,109,79,81,82,31,32,59,
 116,113,112,101,102,115,99,93,105,107,
 124,125,89] MY 12
noncomputable def L1:AK:=MI [108,104,111,80,87,83,62] L0 12
noncomputable def L2:AK:=L_ [91,114] L1 2000
theorem Hv:CR Tryd.prog L0∧BZ L0:=bL HD
theorem Ev:CR Tryd.prog L1∧BZ L1:=bL Hv
theorem nD:CR Tryd.prog L2∧BZ L2:=aS Ev
theorem Ah (b:UInt8) (h:AA):L1 105 [.int .u8 (b.toNat:Int)] h=some (.bool (EN b.toNat),h):=F4 (EG rfl rfl rfl rfl (VX zA b))
theorem Aw (b:UInt8) (h:AA):L1 107 [.int .u8 (b.toNat:Int)] h=some (.bool (F2 b.toNat),h):=F4 (EG rfl rfl rfl rfl (VX Cr b))
theorem Ei (b:UInt8) (h:AA):L1 124 [.int .u8 (b.toNat:Int)] h=some (.bool (EN b.toNat),h):=F4 (EG rfl rfl rfl rfl (VX wR b))
theorem yJ (b:UInt8) (h:AA):L1 125 [.int .u8 (b.toNat:Int)] h=some (.bool (F2 b.toNat),h):=F4 (EG rfl rfl rfl rfl (VX Dt b))
theorem RM (what kind:Int) (h:AA):L1 89 [iv what,iv kind] h=some (.bool (CC what kind),h):=F4 (EG rfl rfl rfl rfl ⟨_,rE⟩)
theorem VK {h:AA} (hg:h.get 0=DK) (s:ByteArray):L2 91 [.string s] h=some (.bool (AR s),h):=by
 refine VW rfl rfl rfl ⟨h,zY (fun b h=>EY (Ah b h)) (fun b h=>EY (Aw b h)) ?_ (by decide),fun _ _=>rfl⟩
 rw[NE (n:=1999) rfl]
 refine rB ?_
 rw[NE (n:=1998) rfl]
 refine Hl ?_
 rw[NE (n:=1997) rfl]
 exact yD hg (by decide)
theorem Jn (h:AA) (s:ByteArray):L2 114 [.string s] h=some (.bool (AR s),h):=by
 refine VW rfl rfl rfl ⟨h,vZ (fun hl=>?_) (fun hl hs=>?_),fun _ _=>rfl⟩
 ·rw[NE (n:=1999) rfl]
  exact Aq (fun b h=>EY (Ei b h)) (fun b h=>EY (yJ b h)) (by omega) (by omega)
 ·obtain⟨n1,n2⟩:=Ci hs
  rw[NE (n:=1999) rfl]
  refine Ck ?_
  rw[Hs,NE (n:=1998) rfl,← Am n1 n2]
  have:=Cm
  exact wV (by rw[PO];exact this) (by rw[PO];omega) (by omega) n1 n2
noncomputable def ZG:Array Oper:=DY Tryd.f73 3
noncomputable def DF:Array Oper:=DY Tryd.f73 4
def Iu:List (Bool × Bool × List Operand):=[MU,MU,MU,MU,AS [.tmp 31],AS [.tmp 31],AS [.tmp 31],AS [.tmp 31],AS [.tmp 31],AS [.tmp 31],IA [.tmp 31,.tmp 36],IA [.tmp 31,.tmp 36],AT,AT]
def OU:List (Bool × Bool × List Operand):=[BI,BI,BI,IA [.tmp 39],IA [.tmp 39],AT,AT,AT,AT,AT,AT,AT,AT,AT,AT,AT,AT,AT,AT,AT,AT,AT,AT,AT,AT,AT,AT,AT,AT,AT,AT,AT,AT,AT,AT,AT,AT,AT,AT,AT,AT,AT,AT,AT,AT,AT,AT,AT,AT]
theorem jC:D9 ZG=Iu:=by kernel_rfl
theorem iW:D9 DF=OU:=by kernel_rfl
theorem JE {T:Tr} {d t b:Nat} {v:Value} (ht:t<b) (hd:b≤d):(T.put (some d) v).get t=T.get t:=by
 rw[Tr.get_put,if_neg]
 intro e
 have:d=t:=Option.some.inj e
 omega
theorem Hd {T:Tr} {d t b:Nat} {v:Value} (hd:b≤d) (ht:t<b):(T.put (some d) v).get t=T.get t:=by
 rw[Tr.get_put,if_neg]
 intro e
 have:d=t:=Option.some.inj e
 omega
section
variable {call:AK} {n start a b:Nat} {T:Tr} {h:AA} {k:BS} {x:AB} {nm en nu:Bool} {le mo:Int} {ga0 gb0:Bool}
 (hsn:BZ call) (t8:T.get 8=qP a 0) (t9:T.get 9=qP b 0) (ga:h.get a=.row [.int .i64 x.kind,.string x.name,.int .i64 x.ends,.int .i64 x.n,.int .i64 x.kids] 46 ga0 false)
 (gb:h.get b=.row [.bool nm,.bool en,.bool nu,.int .i64 le,.int .i64 mo] 123 gb0 false) (hb:(b<start)=True)
include hsn t8 t9 ga gb hb
theorem mP (h91:∀ h',h'.get 0=h.get 0→call 91 [.string x.name] h'=some (.bool (AR x.name),h'))
  (hk:∀ T',T'.get 54=.bool ((AR x.name==nm)&&(nm||x.name==⟨#[]⟩))→(∀ t:Nat,t<39→T'.get t=T.get t)→CN Tryd.prog call n DF start (OU.drop 16) (DF.toList.drop 16) ⟨T',h⟩ k):CN Tryd.prog call n DF start (OU.drop 0) (DF.toList.drop 0) ⟨T,h⟩ k:=by
 have gd6:(DF[6]?).bind (·.dst)=some 45:=by kernel_rfl
 have gd9:(DF[9]?).bind (·.dst)=some 48:=by kernel_rfl
 have gd15:(DF[15]?).bind (·.dst)=some 54:=by kernel_rfl
 have gd19:(DF[19]?).bind (·.dst)=some 58:=by kernel_rfl
 have gd22:(DF[22]?).bind (·.dst)=some 61:=by kernel_rfl
 have gd29:(DF[29]?).bind (·.dst)=some 68:=by kernel_rfl
 have gd33:(DF[33]?).bind (·.dst)=some 72:=by kernel_rfl
 have gd36:(DF[36]?).bind (·.dst)=some 75:=by kernel_rfl
 have gd41:(DF[41]?).bind (·.dst)=some 80:=by kernel_rfl
 have h91':=fun f=>h91 (h.fl f) rfl
 refine AF hsn 0 (some 39) (.fieldAddr 46 (.tmp 8) 1) none ?_
 simp only[rG,seval,AC,AE,AD,IH,t8]
 refine AF hsn 1 (some 40) (.load 9 (.tmp 39)) none ?_
 simp only[rG,seval,AC,AE,AD,EC,QU,IQ,false_implies,ga]
 refine AF hsn 2 (some 41) (.call { callee:=.value (.func 91),args:=#[.tmp 40],argTypes:=#[9] }) none ?_
 simp only[rG,seval,AC,AE,AD,FA,h91']
 refine AF hsn 3 (some 42) (.fieldAddr 123 (.tmp 9) 0) none ?_
 simp only[rG,seval,AC,AE,AD,TM,t9]
 refine AF hsn 4 (some 43) (.load 4 (.tmp 42)) none ?_
 simp only[rG,seval,AC,AE,AD,QK,IC,IQ,decide_true,forall_const,gb,hb]
 refine AF hsn 5 (some 44) (.binOp .eql 4 (.tmp 41) (.tmp 43) 4) none ?_
 simp only[rG,seval,AC,AE,AD,SQ]
 cases q1:(AR x.name==nm)
 ·skip
  refine AF hsn 6 (some 45) (.move (.tmp 44)) none ?_
  simp only[rG,seval,AC,AE,AD]
  refine AF hsn 7 (some 46) (.fieldAddr 123 (.tmp 9) 0) (some (6,true)) ?_
  simp only[rG,seval,AC,AE,AD,gd6]
  refine AF hsn 8 (some 47) (.load 4 (.tmp 46)) (some (6,true)) ?_
  simp only[rG,seval,AC,AE,AD,gd6]
  refine AF hsn 9 (some 48) (.move (.tmp 47)) (some (6,true)) ?_
  simp only[rG,seval,AC,AE,AD,gd6]
  refine AF hsn 10 (some 49) (.fieldAddr 46 (.tmp 8) 1) (some (9,false)) ?_
  simp only[rG,seval,AC,AE,AD,IH,gd9,t8]
  refine AF hsn 11 (some 50) (.load 9 (.tmp 49)) (some (9,false)) ?_
  simp only[rG,seval,AC,AE,AD,false_implies,gd9]
  refine AF hsn 12 (some 51) (.binOp .eql 9 (.tmp 50) (.const (Value.string { data:=#[] })) 9) (some (9,false)) ?_
  simp only[rG,seval,AC,AE,AD,gd9]
  refine AF hsn 13 (some 52) (.pick (.tmp 48) (.const (Value.bool true)) (.tmp 51)) (some (6,true)) ?_
  simp only[rG,seval,AC,AE,AD,gd6]
  refine AF hsn 14 (some 53) (.pick (.tmp 45) (.tmp 52) (.const (Value.bool false))) none ?_
  simp only[rG,seval,AC,AE,AD]
  refine AF hsn 15 (some 54) (.move (.tmp 53)) none ?_
  simp only[rG,seval,AC,AE,AD]
  refine hk _ ?_ ?_
  ·simp only[Tr.get_put,if_true];first | rfl | simp[*]
  ·intro t ht
   simp only[JE ht,Nat.reduceLeDiff]
 ·skip
  refine AF hsn 6 (some 45) (.move (.tmp 44)) none ?_
  simp only[rG,seval,AC,AE,AD]
  refine AF hsn 7 (some 46) (.fieldAddr 123 (.tmp 9) 0) (some (6,true)) ?_
  simp only[rG,seval,AC,AE,AD,TM,gd6,t9]
  refine AF hsn 8 (some 47) (.load 4 (.tmp 46)) (some (6,true)) ?_
  simp only[rG,seval,AC,AE,AD,QK,IC,IQ,decide_true,false_implies,gd6,gb,hb]
  refine AF hsn 9 (some 48) (.move (.tmp 47)) (some (6,true)) ?_
  simp only[rG,seval,AC,AE,AD,gd6]
  cases nm
  ·skip
   refine AF hsn 10 (some 49) (.fieldAddr 46 (.tmp 8) 1) (some (9,false)) ?_
   simp only[rG,seval,AC,AE,AD,IH,gd9,t8]
   refine AF hsn 11 (some 50) (.load 9 (.tmp 49)) (some (9,false)) ?_
   simp only[rG,seval,AC,AE,AD,EC,QU,IQ,false_implies,gd9,ga]
   refine AF hsn 12 (some 51) (.binOp .eql 9 (.tmp 50) (.const (Value.string { data:=#[] })) 9) (some (9,false)) ?_
   simp only[rG,seval,AC,AE,AD,ND,gd9]
   cases q3:(x.name==⟨#[]⟩)
   ·skip
    refine AF hsn 13 (some 52) (.pick (.tmp 48) (.const (Value.bool true)) (.tmp 51)) (some (6,true)) ?_
    simp only[rG,seval,AC,AE,AD,gd6]
    refine AF hsn 14 (some 53) (.pick (.tmp 45) (.tmp 52) (.const (Value.bool false))) none ?_
    simp only[rG,seval,AC,AE,AD]
    refine AF hsn 15 (some 54) (.move (.tmp 53)) none ?_
    simp only[rG,seval,AC,AE,AD]
    refine hk _ ?_ ?_
    ·simp only[Tr.get_put,if_true];first | rfl | simp[*]
    ·intro t ht
     simp only[JE ht,Nat.reduceLeDiff]
   ·skip
    refine AF hsn 13 (some 52) (.pick (.tmp 48) (.const (Value.bool true)) (.tmp 51)) (some (6,true)) ?_
    simp only[rG,seval,AC,AE,AD,gd6]
    refine AF hsn 14 (some 53) (.pick (.tmp 45) (.tmp 52) (.const (Value.bool false))) none ?_
    simp only[rG,seval,AC,AE,AD]
    refine AF hsn 15 (some 54) (.move (.tmp 53)) none ?_
    simp only[rG,seval,AC,AE,AD]
    refine hk _ ?_ ?_
    ·simp only[Tr.get_put,if_true];first | rfl | simp[*]
    ·intro t ht
     simp only[JE ht,Nat.reduceLeDiff]
  ·skip
   refine AF hsn 10 (some 49) (.fieldAddr 46 (.tmp 8) 1) (some (9,false)) ?_
   simp only[rG,seval,AC,AE,AD,gd9]
   refine AF hsn 11 (some 50) (.load 9 (.tmp 49)) (some (9,false)) ?_
   simp only[rG,seval,AC,AE,AD,gd9]
   refine AF hsn 12 (some 51) (.binOp .eql 9 (.tmp 50) (.const (Value.string { data:=#[] })) 9) (some (9,false)) ?_
   simp only[rG,seval,AC,AE,AD,gd9]
   refine AF hsn 13 (some 52) (.pick (.tmp 48) (.const (Value.bool true)) (.tmp 51)) (some (6,true)) ?_
   simp only[rG,seval,AC,AE,AD,gd6]
   refine AF hsn 14 (some 53) (.pick (.tmp 45) (.tmp 52) (.const (Value.bool false))) none ?_
   simp only[rG,seval,AC,AE,AD]
   refine AF hsn 15 (some 54) (.move (.tmp 53)) none ?_
   simp only[rG,seval,AC,AE,AD]
   refine hk _ ?_ ?_
   ·simp only[Tr.get_put,if_true];first | rfl | simp[*]
   ·intro t ht
    simp only[JE ht,Nat.reduceLeDiff]
theorem jB {c:Bool} (t54:T.get 54=.bool c)
  (hk:∀ T',T'.get 68=.bool (c&&(x.ends==0||en&&x.ends==1))→(∀ t:Nat,t<55→T'.get t=T.get t)→CN Tryd.prog call n DF start (OU.drop 30) (DF.toList.drop 30) ⟨T',h⟩ k):CN Tryd.prog call n DF start (OU.drop 16) (DF.toList.drop 16) ⟨T,h⟩ k:=by
 have gd6:(DF[6]?).bind (·.dst)=some 45:=by kernel_rfl
 have gd9:(DF[9]?).bind (·.dst)=some 48:=by kernel_rfl
 have gd15:(DF[15]?).bind (·.dst)=some 54:=by kernel_rfl
 have gd19:(DF[19]?).bind (·.dst)=some 58:=by kernel_rfl
 have gd22:(DF[22]?).bind (·.dst)=some 61:=by kernel_rfl
 have gd29:(DF[29]?).bind (·.dst)=some 68:=by kernel_rfl
 have gd33:(DF[33]?).bind (·.dst)=some 72:=by kernel_rfl
 have gd36:(DF[36]?).bind (·.dst)=some 75:=by kernel_rfl
 have gd41:(DF[41]?).bind (·.dst)=some 80:=by kernel_rfl
 cases c
 ·skip
  refine AF hsn 16 (some 55) (.fieldAddr 46 (.tmp 8) 2) (some (15,true)) ?_
  simp only[rG,seval,AC,AE,AD,gd15,t54]
  refine AF hsn 17 (some 56) (.load 3 (.tmp 55)) (some (15,true)) ?_
  simp only[rG,seval,AC,AE,AD,gd15,t54]
  refine AF hsn 18 (some 57) (.binOp .eql 3 (.tmp 56) (.const (Value.int IntKind.i64 0)) 3) (some (15,true)) ?_
  simp only[rG,seval,AC,AE,AD,gd15,t54]
  refine AF hsn 19 (some 58) (.move (.tmp 57)) (some (15,true)) ?_
  simp only[rG,seval,AC,AE,AD,gd15,t54]
  refine AF hsn 20 (some 59) (.fieldAddr 123 (.tmp 9) 1) (some (19,false)) ?_
  simp only[rG,seval,AC,AE,AD,UG,gd19,t9]
  refine AF hsn 21 (some 60) (.load 4 (.tmp 59)) (some (19,false)) ?_
  simp only[rG,seval,AC,AE,AD,false_implies,gd19]
  refine AF hsn 22 (some 61) (.move (.tmp 60)) (some (19,false)) ?_
  simp only[rG,seval,AC,AE,AD,gd19]
  refine AF hsn 23 (some 62) (.fieldAddr 46 (.tmp 8) 2) (some (22,true)) ?_
  simp only[rG,seval,AC,AE,AD,QV,gd22,t8]
  refine AF hsn 24 (some 63) (.load 3 (.tmp 62)) (some (22,true)) ?_
  simp only[rG,seval,AC,AE,AD,false_implies,gd22]
  refine AF hsn 25 (some 64) (.binOp .eql 3 (.tmp 63) (.const (Value.int IntKind.i64 1)) 3) (some (22,true)) ?_
  simp only[rG,seval,AC,AE,AD,gd22]
  refine AF hsn 26 (some 65) (.pick (.tmp 61) (.tmp 64) (.const (Value.bool false))) (some (19,false)) ?_
  simp only[rG,seval,AC,AE,AD,gd19]
  refine AF hsn 27 (some 66) (.pick (.tmp 58) (.const (Value.bool true)) (.tmp 65)) (some (15,true)) ?_
  simp only[rG,seval,AC,AE,AD,gd15,t54]
  refine AF hsn 28 (some 67) (.pick (.tmp 54) (.tmp 66) (.const (Value.bool false))) none ?_
  simp only[rG,seval,AC,AE,AD,t54]
  refine AF hsn 29 (some 68) (.move (.tmp 67)) none ?_
  simp only[rG,seval,AC,AE,AD]
  refine hk _ ?_ ?_
  ·simp only[Tr.get_put,if_true];first | rfl | simp[*]
  ·intro t ht
   simp only[JE ht,Nat.reduceLeDiff]
 ·skip
  refine AF hsn 16 (some 55) (.fieldAddr 46 (.tmp 8) 2) (some (15,true)) ?_
  simp only[rG,seval,AC,AE,AD,QV,gd15,t8,t54]
  refine AF hsn 17 (some 56) (.load 3 (.tmp 55)) (some (15,true)) ?_
  simp only[rG,seval,AC,AE,AD,CO,SV,IQ,false_implies,gd15,ga,t54]
  refine AF hsn 18 (some 57) (.binOp .eql 3 (.tmp 56) (.const (Value.int IntKind.i64 0)) 3) (some (15,true)) ?_
  simp only[rG,seval,AC,AE,AD,OY,gd15,t54]
  cases q1:(x.ends==0)
  ·skip
   refine AF hsn 19 (some 58) (.move (.tmp 57)) (some (15,true)) ?_
   simp only[rG,seval,AC,AE,AD,gd15,t54]
   refine AF hsn 20 (some 59) (.fieldAddr 123 (.tmp 9) 1) (some (19,false)) ?_
   simp only[rG,seval,AC,AE,AD,UG,gd19,t9]
   refine AF hsn 21 (some 60) (.load 4 (.tmp 59)) (some (19,false)) ?_
   simp only[rG,seval,AC,AE,AD,QK,QU,IQ,decide_true,false_implies,gd19,gb,hb]
   refine AF hsn 22 (some 61) (.move (.tmp 60)) (some (19,false)) ?_
   simp only[rG,seval,AC,AE,AD,gd19]
   cases en
   ·skip
    refine AF hsn 23 (some 62) (.fieldAddr 46 (.tmp 8) 2) (some (22,true)) ?_
    simp only[rG,seval,AC,AE,AD,gd22]
    refine AF hsn 24 (some 63) (.load 3 (.tmp 62)) (some (22,true)) ?_
    simp only[rG,seval,AC,AE,AD,gd22]
    refine AF hsn 25 (some 64) (.binOp .eql 3 (.tmp 63) (.const (Value.int IntKind.i64 1)) 3) (some (22,true)) ?_
    simp only[rG,seval,AC,AE,AD,gd22]
    refine AF hsn 26 (some 65) (.pick (.tmp 61) (.tmp 64) (.const (Value.bool false))) (some (19,false)) ?_
    simp only[rG,seval,AC,AE,AD,gd19]
    refine AF hsn 27 (some 66) (.pick (.tmp 58) (.const (Value.bool true)) (.tmp 65)) (some (15,true)) ?_
    simp only[rG,seval,AC,AE,AD,gd15,t54]
    refine AF hsn 28 (some 67) (.pick (.tmp 54) (.tmp 66) (.const (Value.bool false))) none ?_
    simp only[rG,seval,AC,AE,AD,t54]
    refine AF hsn 29 (some 68) (.move (.tmp 67)) none ?_
    simp only[rG,seval,AC,AE,AD]
    refine hk _ ?_ ?_
    ·simp only[Tr.get_put,if_true];first | rfl | simp[*]
    ·intro t ht
     simp only[JE ht,Nat.reduceLeDiff]
   ·skip
    refine AF hsn 23 (some 62) (.fieldAddr 46 (.tmp 8) 2) (some (22,true)) ?_
    simp only[rG,seval,AC,AE,AD,QV,gd22,t8]
    refine AF hsn 24 (some 63) (.load 3 (.tmp 62)) (some (22,true)) ?_
    simp only[rG,seval,AC,AE,AD,CO,SV,IQ,false_implies,gd22,ga]
    refine AF hsn 25 (some 64) (.binOp .eql 3 (.tmp 63) (.const (Value.int IntKind.i64 1)) 3) (some (22,true)) ?_
    simp only[rG,seval,AC,AE,AD,OY,gd22]
    cases q3:(x.ends==1)
    ·skip
     refine AF hsn 26 (some 65) (.pick (.tmp 61) (.tmp 64) (.const (Value.bool false))) (some (19,false)) ?_
     simp only[rG,seval,AC,AE,AD,gd19]
     refine AF hsn 27 (some 66) (.pick (.tmp 58) (.const (Value.bool true)) (.tmp 65)) (some (15,true)) ?_
     simp only[rG,seval,AC,AE,AD,gd15,t54]
     refine AF hsn 28 (some 67) (.pick (.tmp 54) (.tmp 66) (.const (Value.bool false))) none ?_
     simp only[rG,seval,AC,AE,AD,t54]
     refine AF hsn 29 (some 68) (.move (.tmp 67)) none ?_
     simp only[rG,seval,AC,AE,AD]
     refine hk _ ?_ ?_
     ·simp only[Tr.get_put,if_true];first | rfl | simp[*]
     ·intro t ht
      simp only[JE ht,Nat.reduceLeDiff]
    ·skip
     refine AF hsn 26 (some 65) (.pick (.tmp 61) (.tmp 64) (.const (Value.bool false))) (some (19,false)) ?_
     simp only[rG,seval,AC,AE,AD,gd19]
     refine AF hsn 27 (some 66) (.pick (.tmp 58) (.const (Value.bool true)) (.tmp 65)) (some (15,true)) ?_
     simp only[rG,seval,AC,AE,AD,gd15,t54]
     refine AF hsn 28 (some 67) (.pick (.tmp 54) (.tmp 66) (.const (Value.bool false))) none ?_
     simp only[rG,seval,AC,AE,AD,t54]
     refine AF hsn 29 (some 68) (.move (.tmp 67)) none ?_
     simp only[rG,seval,AC,AE,AD]
     refine hk _ ?_ ?_
     ·simp only[Tr.get_put,if_true];first | rfl | simp[*]
     ·intro t ht
      simp only[JE ht,Nat.reduceLeDiff]
  ·skip
   refine AF hsn 19 (some 58) (.move (.tmp 57)) (some (15,true)) ?_
   simp only[rG,seval,AC,AE,AD,gd15,t54]
   refine AF hsn 20 (some 59) (.fieldAddr 123 (.tmp 9) 1) (some (19,false)) ?_
   simp only[rG,seval,AC,AE,AD,gd19]
   refine AF hsn 21 (some 60) (.load 4 (.tmp 59)) (some (19,false)) ?_
   simp only[rG,seval,AC,AE,AD,gd19]
   refine AF hsn 22 (some 61) (.move (.tmp 60)) (some (19,false)) ?_
   simp only[rG,seval,AC,AE,AD,gd19]
   refine AF hsn 23 (some 62) (.fieldAddr 46 (.tmp 8) 2) (some (22,true)) ?_
   simp only[rG,seval,AC,AE,AD,QV,gd22,t8]
   refine AF hsn 24 (some 63) (.load 3 (.tmp 62)) (some (22,true)) ?_
   simp only[rG,seval,AC,AE,AD,false_implies,gd22]
   refine AF hsn 25 (some 64) (.binOp .eql 3 (.tmp 63) (.const (Value.int IntKind.i64 1)) 3) (some (22,true)) ?_
   simp only[rG,seval,AC,AE,AD,gd22]
   refine AF hsn 26 (some 65) (.pick (.tmp 61) (.tmp 64) (.const (Value.bool false))) (some (19,false)) ?_
   simp only[rG,seval,AC,AE,AD,gd19]
   refine AF hsn 27 (some 66) (.pick (.tmp 58) (.const (Value.bool true)) (.tmp 65)) (some (15,true)) ?_
   simp only[rG,seval,AC,AE,AD,gd15,t54]
   refine AF hsn 28 (some 67) (.pick (.tmp 54) (.tmp 66) (.const (Value.bool false))) none ?_
   simp only[rG,seval,AC,AE,AD,t54]
   refine AF hsn 29 (some 68) (.move (.tmp 67)) none ?_
   simp only[rG,seval,AC,AE,AD]
   refine hk _ ?_ ?_
   ·simp only[Tr.get_put,if_true];first | rfl | simp[*]
   ·intro t ht
    simp only[JE ht,Nat.reduceLeDiff]
theorem oI {c:Bool} (t68:T.get 68=.bool c)
  (hk:∀ T',T'.get 10=.bool (c&&(x.n==0||nu&&decide (x.n>0)&&decide (x.n≤1073741824)))→(∀ t:Nat,t<10→T'.get t=T.get t)→CN Tryd.prog call n DF start (OU.drop 49) (DF.toList.drop 49) ⟨T',h⟩ k):CN Tryd.prog call n DF start (OU.drop 30) (DF.toList.drop 30) ⟨T,h⟩ k:=by
 have gd6:(DF[6]?).bind (·.dst)=some 45:=by kernel_rfl
 have gd9:(DF[9]?).bind (·.dst)=some 48:=by kernel_rfl
 have gd15:(DF[15]?).bind (·.dst)=some 54:=by kernel_rfl
 have gd19:(DF[19]?).bind (·.dst)=some 58:=by kernel_rfl
 have gd22:(DF[22]?).bind (·.dst)=some 61:=by kernel_rfl
 have gd29:(DF[29]?).bind (·.dst)=some 68:=by kernel_rfl
 have gd33:(DF[33]?).bind (·.dst)=some 72:=by kernel_rfl
 have gd36:(DF[36]?).bind (·.dst)=some 75:=by kernel_rfl
 have gd41:(DF[41]?).bind (·.dst)=some 80:=by kernel_rfl
 cases c
 ·skip
  refine AF hsn 30 (some 69) (.fieldAddr 46 (.tmp 8) 3) (some (29,true)) ?_
  simp only[rG,seval,AC,AE,AD,gd29,t68]
  refine AF hsn 31 (some 70) (.load 3 (.tmp 69)) (some (29,true)) ?_
  simp only[rG,seval,AC,AE,AD,gd29,t68]
  refine AF hsn 32 (some 71) (.binOp .eql 3 (.tmp 70) (.const (Value.int IntKind.i64 0)) 3) (some (29,true)) ?_
  simp only[rG,seval,AC,AE,AD,gd29,t68]
  refine AF hsn 33 (some 72) (.move (.tmp 71)) (some (29,true)) ?_
  simp only[rG,seval,AC,AE,AD,gd29,t68]
  refine AF hsn 34 (some 73) (.fieldAddr 123 (.tmp 9) 2) (some (33,false)) ?_
  simp only[rG,seval,AC,AE,AD,UH,gd33,t9]
  refine AF hsn 35 (some 74) (.load 4 (.tmp 73)) (some (33,false)) ?_
  simp only[rG,seval,AC,AE,AD,false_implies,gd33]
  refine AF hsn 36 (some 75) (.move (.tmp 74)) (some (33,false)) ?_
  simp only[rG,seval,AC,AE,AD,gd33]
  refine AF hsn 37 (some 76) (.fieldAddr 46 (.tmp 8) 3) (some (36,true)) ?_
  simp only[rG,seval,AC,AE,AD,IX,gd36,t8]
  refine AF hsn 38 (some 77) (.load 3 (.tmp 76)) (some (36,true)) ?_
  simp only[rG,seval,AC,AE,AD,false_implies,gd36]
  refine AF hsn 39 (some 78) (.binOp .gtr 3 (.tmp 77) (.const (Value.int IntKind.i64 0)) 3) (some (36,true)) ?_
  simp only[rG,seval,AC,AE,AD,gd36]
  refine AF hsn 40 (some 79) (.pick (.tmp 75) (.tmp 78) (.const (Value.bool false))) (some (33,false)) ?_
  simp only[rG,seval,AC,AE,AD,gd33]
  refine AF hsn 41 (some 80) (.move (.tmp 79)) (some (33,false)) ?_
  simp only[rG,seval,AC,AE,AD,gd33]
  refine AF hsn 42 (some 81) (.fieldAddr 46 (.tmp 8) 3) (some (41,true)) ?_
  simp only[rG,seval,AC,AE,AD,IX,gd41,t8]
  refine AF hsn 43 (some 82) (.load 3 (.tmp 81)) (some (41,true)) ?_
  simp only[rG,seval,AC,AE,AD,false_implies,gd41]
  refine AF hsn 44 (some 83) (.binOp .leq 3 (.tmp 82) (.const (Value.int IntKind.i64 1073741824)) 3) (some (41,true)) ?_
  simp only[rG,seval,AC,AE,AD,gd41]
  refine AF hsn 45 (some 84) (.pick (.tmp 80) (.tmp 83) (.const (Value.bool false))) (some (33,false)) ?_
  simp only[rG,seval,AC,AE,AD,gd33]
  refine AF hsn 46 (some 85) (.pick (.tmp 72) (.const (Value.bool true)) (.tmp 84)) (some (29,true)) ?_
  simp only[rG,seval,AC,AE,AD,gd29,t68]
  refine AF hsn 47 (some 86) (.pick (.tmp 68) (.tmp 85) (.const (Value.bool false))) none ?_
  simp only[rG,seval,AC,AE,AD,t68]
  refine AF hsn 48 (some 10) (.assign (.tmp 86)) none ?_
  simp only[rG,seval,AC,AE,AD]
  refine hk _ ?_ ?_
  ·simp only[Tr.get_put,if_true];first | rfl | simp[*]
  ·intro t ht
   simp only[JE ht,Nat.reduceLeDiff]
 ·skip
  refine AF hsn 30 (some 69) (.fieldAddr 46 (.tmp 8) 3) (some (29,true)) ?_
  simp only[rG,seval,AC,AE,AD,IX,gd29,t8,t68]
  refine AF hsn 31 (some 70) (.load 3 (.tmp 69)) (some (29,true)) ?_
  simp only[rG,seval,AC,AE,AD,CO,OX,IQ,false_implies,gd29,ga,t68]
  refine AF hsn 32 (some 71) (.binOp .eql 3 (.tmp 70) (.const (Value.int IntKind.i64 0)) 3) (some (29,true)) ?_
  simp only[rG,seval,AC,AE,AD,OY,gd29,t68]
  cases q1:(x.n==0)
  ·skip
   refine AF hsn 33 (some 72) (.move (.tmp 71)) (some (29,true)) ?_
   simp only[rG,seval,AC,AE,AD,gd29,t68]
   refine AF hsn 34 (some 73) (.fieldAddr 123 (.tmp 9) 2) (some (33,false)) ?_
   simp only[rG,seval,AC,AE,AD,UH,gd33,t9]
   refine AF hsn 35 (some 74) (.load 4 (.tmp 73)) (some (33,false)) ?_
   simp only[rG,seval,AC,AE,AD,QK,SV,IQ,decide_true,false_implies,gd33,gb,hb]
   refine AF hsn 36 (some 75) (.move (.tmp 74)) (some (33,false)) ?_
   simp only[rG,seval,AC,AE,AD,gd33]
   cases nu
   ·skip
    refine AF hsn 37 (some 76) (.fieldAddr 46 (.tmp 8) 3) (some (36,true)) ?_
    simp only[rG,seval,AC,AE,AD,gd36]
    refine AF hsn 38 (some 77) (.load 3 (.tmp 76)) (some (36,true)) ?_
    simp only[rG,seval,AC,AE,AD,gd36]
    refine AF hsn 39 (some 78) (.binOp .gtr 3 (.tmp 77) (.const (Value.int IntKind.i64 0)) 3) (some (36,true)) ?_
    simp only[rG,seval,AC,AE,AD,gd36]
    refine AF hsn 40 (some 79) (.pick (.tmp 75) (.tmp 78) (.const (Value.bool false))) (some (33,false)) ?_
    simp only[rG,seval,AC,AE,AD,gd33]
    refine AF hsn 41 (some 80) (.move (.tmp 79)) (some (33,false)) ?_
    simp only[rG,seval,AC,AE,AD,gd33]
    refine AF hsn 42 (some 81) (.fieldAddr 46 (.tmp 8) 3) (some (41,true)) ?_
    simp only[rG,seval,AC,AE,AD,gd41]
    refine AF hsn 43 (some 82) (.load 3 (.tmp 81)) (some (41,true)) ?_
    simp only[rG,seval,AC,AE,AD,gd41]
    refine AF hsn 44 (some 83) (.binOp .leq 3 (.tmp 82) (.const (Value.int IntKind.i64 1073741824)) 3) (some (41,true)) ?_
    simp only[rG,seval,AC,AE,AD,gd41]
    refine AF hsn 45 (some 84) (.pick (.tmp 80) (.tmp 83) (.const (Value.bool false))) (some (33,false)) ?_
    simp only[rG,seval,AC,AE,AD,gd33]
    refine AF hsn 46 (some 85) (.pick (.tmp 72) (.const (Value.bool true)) (.tmp 84)) (some (29,true)) ?_
    simp only[rG,seval,AC,AE,AD,gd29,t68]
    refine AF hsn 47 (some 86) (.pick (.tmp 68) (.tmp 85) (.const (Value.bool false))) none ?_
    simp only[rG,seval,AC,AE,AD,t68]
    refine AF hsn 48 (some 10) (.assign (.tmp 86)) none ?_
    simp only[rG,seval,AC,AE,AD]
    refine hk _ ?_ ?_
    ·simp only[Tr.get_put,if_true];first | rfl | simp[*]
    ·intro t ht
     simp only[JE ht,Nat.reduceLeDiff]
   ·skip
    refine AF hsn 37 (some 76) (.fieldAddr 46 (.tmp 8) 3) (some (36,true)) ?_
    simp only[rG,seval,AC,AE,AD,IX,gd36,t8]
    refine AF hsn 38 (some 77) (.load 3 (.tmp 76)) (some (36,true)) ?_
    simp only[rG,seval,AC,AE,AD,CO,OX,IQ,false_implies,gd36,ga]
    refine AF hsn 39 (some 78) (.binOp .gtr 3 (.tmp 77) (.const (Value.int IntKind.i64 0)) 3) (some (36,true)) ?_
    simp only[rG,seval,AC,AE,AD,SF,gd36]
    cases q3:decide (x.n>0)
    ·skip
     refine AF hsn 40 (some 79) (.pick (.tmp 75) (.tmp 78) (.const (Value.bool false))) (some (33,false)) ?_
     simp only[rG,seval,AC,AE,AD,gd33]
     refine AF hsn 41 (some 80) (.move (.tmp 79)) (some (33,false)) ?_
     simp only[rG,seval,AC,AE,AD,gd33]
     refine AF hsn 42 (some 81) (.fieldAddr 46 (.tmp 8) 3) (some (41,true)) ?_
     simp only[rG,seval,AC,AE,AD,gd41]
     refine AF hsn 43 (some 82) (.load 3 (.tmp 81)) (some (41,true)) ?_
     simp only[rG,seval,AC,AE,AD,gd41]
     refine AF hsn 44 (some 83) (.binOp .leq 3 (.tmp 82) (.const (Value.int IntKind.i64 1073741824)) 3) (some (41,true)) ?_
     simp only[rG,seval,AC,AE,AD,gd41]
     refine AF hsn 45 (some 84) (.pick (.tmp 80) (.tmp 83) (.const (Value.bool false))) (some (33,false)) ?_
     simp only[rG,seval,AC,AE,AD,gd33]
     refine AF hsn 46 (some 85) (.pick (.tmp 72) (.const (Value.bool true)) (.tmp 84)) (some (29,true)) ?_
     simp only[rG,seval,AC,AE,AD,gd29,t68]
     refine AF hsn 47 (some 86) (.pick (.tmp 68) (.tmp 85) (.const (Value.bool false))) none ?_
     simp only[rG,seval,AC,AE,AD,t68]
     refine AF hsn 48 (some 10) (.assign (.tmp 86)) none ?_
     simp only[rG,seval,AC,AE,AD]
     refine hk _ ?_ ?_
     ·simp only[Tr.get_put,if_true];first | rfl | simp[*]
     ·intro t ht
      simp only[JE ht,Nat.reduceLeDiff]
    ·skip
     refine AF hsn 40 (some 79) (.pick (.tmp 75) (.tmp 78) (.const (Value.bool false))) (some (33,false)) ?_
     simp only[rG,seval,AC,AE,AD,gd33]
     refine AF hsn 41 (some 80) (.move (.tmp 79)) (some (33,false)) ?_
     simp only[rG,seval,AC,AE,AD,gd33]
     refine AF hsn 42 (some 81) (.fieldAddr 46 (.tmp 8) 3) (some (41,true)) ?_
     simp only[rG,seval,AC,AE,AD,IX,gd41,t8]
     refine AF hsn 43 (some 82) (.load 3 (.tmp 81)) (some (41,true)) ?_
     simp only[rG,seval,AC,AE,AD,CO,OX,IQ,false_implies,gd41,ga]
     refine AF hsn 44 (some 83) (.binOp .leq 3 (.tmp 82) (.const (Value.int IntKind.i64 1073741824)) 3) (some (41,true)) ?_
     simp only[rG,seval,AC,AE,AD,S7,gd41]
     cases q4:decide (x.n≤1073741824)
     ·skip
      refine AF hsn 45 (some 84) (.pick (.tmp 80) (.tmp 83) (.const (Value.bool false))) (some (33,false)) ?_
      simp only[rG,seval,AC,AE,AD,gd33]
      refine AF hsn 46 (some 85) (.pick (.tmp 72) (.const (Value.bool true)) (.tmp 84)) (some (29,true)) ?_
      simp only[rG,seval,AC,AE,AD,gd29,t68]
      refine AF hsn 47 (some 86) (.pick (.tmp 68) (.tmp 85) (.const (Value.bool false))) none ?_
      simp only[rG,seval,AC,AE,AD,t68]
      refine AF hsn 48 (some 10) (.assign (.tmp 86)) none ?_
      simp only[rG,seval,AC,AE,AD]
      refine hk _ ?_ ?_
      ·simp only[Tr.get_put,if_true];first | rfl | simp[*]
      ·intro t ht
       simp only[JE ht,Nat.reduceLeDiff]
     ·skip
      refine AF hsn 45 (some 84) (.pick (.tmp 80) (.tmp 83) (.const (Value.bool false))) (some (33,false)) ?_
      simp only[rG,seval,AC,AE,AD,gd33]
      refine AF hsn 46 (some 85) (.pick (.tmp 72) (.const (Value.bool true)) (.tmp 84)) (some (29,true)) ?_
      simp only[rG,seval,AC,AE,AD,gd29,t68]
      refine AF hsn 47 (some 86) (.pick (.tmp 68) (.tmp 85) (.const (Value.bool false))) none ?_
      simp only[rG,seval,AC,AE,AD,t68]
      refine AF hsn 48 (some 10) (.assign (.tmp 86)) none ?_
      simp only[rG,seval,AC,AE,AD]
      refine hk _ ?_ ?_
      ·simp only[Tr.get_put,if_true];first | rfl | simp[*]
      ·intro t ht
       simp only[JE ht,Nat.reduceLeDiff]
  ·skip
   refine AF hsn 33 (some 72) (.move (.tmp 71)) (some (29,true)) ?_
   simp only[rG,seval,AC,AE,AD,gd29,t68]
   refine AF hsn 34 (some 73) (.fieldAddr 123 (.tmp 9) 2) (some (33,false)) ?_
   simp only[rG,seval,AC,AE,AD,gd33]
   refine AF hsn 35 (some 74) (.load 4 (.tmp 73)) (some (33,false)) ?_
   simp only[rG,seval,AC,AE,AD,gd33]
   refine AF hsn 36 (some 75) (.move (.tmp 74)) (some (33,false)) ?_
   simp only[rG,seval,AC,AE,AD,gd33]
   refine AF hsn 37 (some 76) (.fieldAddr 46 (.tmp 8) 3) (some (36,true)) ?_
   simp only[rG,seval,AC,AE,AD,IX,gd36,t8]
   refine AF hsn 38 (some 77) (.load 3 (.tmp 76)) (some (36,true)) ?_
   simp only[rG,seval,AC,AE,AD,false_implies,gd36]
   refine AF hsn 39 (some 78) (.binOp .gtr 3 (.tmp 77) (.const (Value.int IntKind.i64 0)) 3) (some (36,true)) ?_
   simp only[rG,seval,AC,AE,AD,gd36]
   refine AF hsn 40 (some 79) (.pick (.tmp 75) (.tmp 78) (.const (Value.bool false))) (some (33,false)) ?_
   simp only[rG,seval,AC,AE,AD,gd33]
   refine AF hsn 41 (some 80) (.move (.tmp 79)) (some (33,false)) ?_
   simp only[rG,seval,AC,AE,AD,gd33]
   refine AF hsn 42 (some 81) (.fieldAddr 46 (.tmp 8) 3) (some (41,true)) ?_
   simp only[rG,seval,AC,AE,AD,IX,gd41,t8]
   refine AF hsn 43 (some 82) (.load 3 (.tmp 81)) (some (41,true)) ?_
   simp only[rG,seval,AC,AE,AD,false_implies,gd41]
   refine AF hsn 44 (some 83) (.binOp .leq 3 (.tmp 82) (.const (Value.int IntKind.i64 1073741824)) 3) (some (41,true)) ?_
   simp only[rG,seval,AC,AE,AD,gd41]
   refine AF hsn 45 (some 84) (.pick (.tmp 80) (.tmp 83) (.const (Value.bool false))) (some (33,false)) ?_
   simp only[rG,seval,AC,AE,AD,gd33]
   refine AF hsn 46 (some 85) (.pick (.tmp 72) (.const (Value.bool true)) (.tmp 84)) (some (29,true)) ?_
   simp only[rG,seval,AC,AE,AD,gd29,t68]
   refine AF hsn 47 (some 86) (.pick (.tmp 68) (.tmp 85) (.const (Value.bool false))) none ?_
   simp only[rG,seval,AC,AE,AD,t68]
   refine AF hsn 48 (some 10) (.assign (.tmp 86)) none ?_
   simp only[rG,seval,AC,AE,AD]
   refine hk _ ?_ ?_
   ·simp only[Tr.get_put,if_true];first | rfl | simp[*]
   ·intro t ht
    simp only[JE ht,Nat.reduceLeDiff]
end
def rt:Code→Code
 | .seq _ b=>b
 | c=>c
def lf:Code→Code
 | .seq a _=>a
 | c=>c
noncomputable def QI:Code:=rt (rt (rt (Tryd.f73.body.getD .skip)))
theorem Al {what k:Int} (hw:what≠8) (h:CC what k=true):k≠1:=by
 intro e
 subst e
 unfold CC at h
 rw[if_neg hw] at h
 (repeat' split at h) <;> simp at h
theorem Gs {k:Int} {j:Nat}:BT k j≠8:=VD.2
theorem O4 (k:Int):0≤E1 k:=by unfold E1;(repeat' split) <;> omega
section
variable {call:AK} {n:Nat}
structure gR (call:AK) (l:List AB) (v:Value) (m at_:Nat):Prop where
 asked:∀ (k:Int) (j:Nat) h,1≤k∧k≤54→(k=11∨(j:Int)<CJ k)→call 93 [iv k,iv j] h=some (iv (BT k j),h)
 row:∀ (p:Nat) (w:Int) h,at_<p→p≤l.length→w≠8→AL h v l→h.get 0=DK→0<h.next→h.floor≤h.next→call 73 [v,iv p,iv w] h=some (.tuple #[iv ((BQ AR l m p w).1:Int),.bool (BQ AR l m p w).2],h)
theorem qQ (hsn:BZ call) {l:List AB} {v:Value} {m at_ a b:Nat} {x:AB} {T:Tr} {h:AA} {k:BS} {ga0 gb0:Bool} (hc:gR call l v m at_) (hn:l.length+3<n) (hlen:l.length<30000000000000) (hat:at_<l.length)
  (h91:∀ h',h'.get 0=DK→call 91 [.string x.name] h'=some (.bool (AR x.name),h'))
  (hv:AL h v l) (hg:h.get 0=DK) (hn0:0<h.next) (hfl:h.floor≤h.next) (hkind:1≤x.kind∧x.kind≤54) (hk1:x.kind≠1)
  (t0:T.get 0=v) (t1:T.get 1=iv at_) (t8:T.get 8=qP a 0) (t9:T.get 9=qP b 0)
  (ga:h.get a=.row [.int .i64 x.kind,.string x.name,.int .i64 x.ends,.int .i64 x.n,.int .i64 x.kids] 46 ga0 false)
  (gb:h.get b=.row [.bool (GH x.kind),.bool (IE x.kind),.bool (x.kind==27),.int .i64 (E1 x.kind),.int .i64 (CJ x.kind)] 123 gb0 false) (hb:b<h.next)
  (hk:∀ T' (p:Nat) ok,(p,ok)=(if DE AR x=true then EF (fun k next=>BQ AR l m next (BT x.kind k)) x.kids.toNat 0 (at_+1) else (at_,false))→T'.get 6=iv p→T'.get 7=.bool ok→k.ap Tryd.prog call n .ret ⟨T',h⟩) :
  WK Tryd.prog call n QI ⟨T,h⟩ k:=by
 show WK _ _ _ (.seq (.region _ _ true) _) _ _
 rw[KG]
 refine WK.flags (ops:=DF) iW ?_
 refine CN.begin ?_
 refine mP hsn t8 t9 ga gb (by simpa using hb) (fun h' e=>h91 h' (by rw[e];exact hg)) fun T1 e1 k1=>?_
 refine jB hsn (by rw[k1 8 (by decide)];exact t8) (by rw[k1 9 (by decide)];exact t9) ga gb (by simpa using hb) e1 fun T2 e2 k2=>?_
 refine oI hsn (by rw[k2 8 (by decide),k1 8 (by decide)];exact t8) (by rw[k2 9 (by decide),k1 9 (by decide)];exact t9) ga gb (by simpa using hb) e2 fun T3 e3 k3=>?_
 refine CN.done (i:=49) (by kernel_rfl) ?_
 rw[P4]
 have kp:∀ t:Nat,t<10→T3.get t=T.get t:=fun t ht=>by rw[k3 t ht,k2 t (by omega),k1 t (by omega)]
 have u0:=(kp 0 (by decide)).trans t0
 have u1:=(kp 1 (by decide)).trans t1
 have u8:=(kp 8 (by decide)).trans t8
 have u9:=(kp 9 (by decide)).trans t9
 clear k1 k2 k3 kp e1 e2
 generalize hcc:(((AR x.name==GH x.kind)&&(GH x.kind||x.name==⟨#[]⟩))&&(x.ends==0||IE x.kind&&x.ends==1)&&(x.n==0||(x.kind==27)&&decide (x.n>0)&&decide (x.n≤1073741824)))=cc at e3
 have hfit:DE AR x=(cc&&decide (x.kids≥E1 x.kind)&&(decide (CJ x.kind<0)||decide (x.kids≤CJ x.kind))):=by
  rw[← hcc]
  rfl
 have bad:DE AR x=false→∀ T',T'.get 6=iv at_→T'.get 7=.bool false→k.ap Tryd.prog call n .ret ⟨T',h⟩:=fun hf T' h6 h7=>hk T' at_ false (by rw[hf];rfl) h6 h7
 have e1:(x.kind==1)=false:=by simpa using hk1
 have hkids:DE AR x=true→0≤x.kids∧(decide (CJ x.kind<0)||decide (x.kids≤CJ x.kind))=true:=fun hf=>by
  rw[hfit] at hf
  simp only[Bool.and_eq_true,decide_eq_true_eq] at hf
  have:=O4 x.kind
  exact⟨by omega,hf.2⟩
 have main:DE AR x=true→∀ T',T'.get 0=v→T'.get 1=iv at_→T'.get 8=qP a 0→WK Tryd.prog call n (rt (rt QI)) ⟨T',h⟩ k:=by
  intro hf T' w0 w1 w8
  obtain⟨hk0,hkm⟩:=hkids hf
  have hkN:((x.kids.toNat:Nat):Int)=x.kids:=by omega
  have wat:=CK at_ (by omega)
  show WK _ _ _ (.seq _ _) _ _
  simp only[eE,seval,↓eP,rP,w1,w8,ga,e1]
  have res:∀ (p:Nat) ok,EF (fun k next=>BQ AR l m next (BT x.kind k)) x.kids.toNat 0 (at_+1)=(p,ok)→∀ T',T'.get 6=iv p→T'.get 7=.bool ok→k.ap Tryd.prog call n .ret ⟨T',h⟩:=fun p ok e T' h6 h7=>hk T' p ok (by rw[if_pos hf,e]) h6 h7
  generalize hg0:EF (fun k next=>BQ AR l m next (BT x.kind k)) x.kids.toNat 0 (at_+1)=R at res
  refine WK.loop (fun i s=>s.h=h∧s.T.get 0=v∧s.T.get 8=qP a 0∧s.T.get 13=iv i∧∃ p:Nat,∃ ok:Bool,s.T.get 11=iv p∧s.T.get 12=.bool ok∧p≤l.length∧i≤l.length+1 ∧
   ((ok=true∧i≤x.kids.toNat∧at_+1+i≤p∧EF (fun k next=>BQ AR l m next (BT x.kind k)) (x.kids.toNat-i) i p=R)∨(ok=false∧R=(p,false)))) (l.length+2) (by omega) ?_ ?_
  ·simp only[eE,↓reduceIte,Nat.reduceEqDiff,reduceCtorEq,↓eP,rP,Nat.reduceAdd,Nat.reduceLT,w0,w8]
   exact⟨rfl,at_+1,true,wat,rfl,by omega,.inl ⟨rfl,by omega,by rw[Nat.sub_zero];exact hg0⟩⟩
  ·rintro i ⟨T1,h1⟩ hi ⟨rfl,y0,y8,y13,p,ok,y11,y12,hp,hil,hcase⟩
   simp only at y0 y8 y13 y11 y12
   rcases hcase with⟨rfl,hik,hpi,hR⟩ | ⟨rfl,hR⟩
   ·by_cases hlt:i<x.kids.toNat
    ·have c1:decide ((i:Int)<x.kids)=true:=by simp only[decide_eq_true_eq];omega
     have hask:=fun hh=>hc.asked x.kind i hh hkind (by
      simp only[Bool.or_eq_true,decide_eq_true_eq] at hkm
      rcases hkm with h | h
      ·left
       unfold CJ at h
       (repeat' split at h) <;> simp_all
      ·right;omega)
     have hrow:=fun hv' hg'=>hc.row p (BT x.kind i) h1 (by omega) hp Gs hv' hg' hn0 hfl
     have hrow':=hrow hv hg
     have w5:=CK i (by omega)
     generalize hq:BQ AR l m p (BT x.kind i)=q at hrow'
     have hstep:EF (fun k next=>BQ AR l m next (BT x.kind k)) (x.kids.toNat-i) i p=if q.2=true then EF (fun k next=>BQ AR l m next (BT x.kind k)) (x.kids.toNat-(i+1)) (i+1) q.1 else (q.1,false):=by
      obtain⟨r,hr⟩:∃ r,x.kids.toNat-i=r+1:=⟨x.kids.toNat-i-1,by omega⟩
      rw[hr,show x.kids.toNat-(i+1)=r by omega]
      simp only[EF,hq]
     have hq1:q.1≤l.length:=by rw[← hq];exact WC m p _ hp
     have hq2:q.2=true→p<q.1:=fun h=>by
      have:=QM (isName:=AR) (l:=l) m p (BT x.kind i)
      rw[hq] at this
      exact(this h).1
     simp only[eE,seval,↓eP,rP,y0,y8,y13,y11,y12,ga,c1,hask,hrow']
     refine⟨by omega,w5,q.1,q.2,rfl,rfl,hq1,by omega,?_⟩
     cases hb2:q.2 with
     | true=>
      left
      have:=hq2 hb2
      rw[hb2,if_pos rfl] at hstep
      exact⟨rfl,by omega,by omega,by rw[← hstep];exact hR⟩
     | false=>
      right
      rw[hb2,if_neg (by simp)] at hstep
      exact⟨rfl,by rw[← hR,hstep]⟩
    ·have c1:decide ((i:Int)<x.kids)=false:=by simp only[decide_eq_false_iff_not];omega
     have hie:x.kids.toNat-i=0:=by omega
     rw[hie] at hR
     simp only[eE,seval,↓eP,rP,y8,y13,y11,y12,ga,c1]
     refine res p true (by rw[← hR];rfl) _ ?_ ?_
     ·simp only[eE,seval,↓eP,rP]
     ·simp only[eE,seval,↓eP,rP]
   ·cases c1:decide ((i:Int)<x.kids) with
    | true=>
     simp only[eE,seval,↓eP,rP,y8,y13,y11,y12,ga,c1]
     refine res p false hR _ ?_ ?_
     ·simp only[eE,seval,↓eP,rP]
     ·simp only[eE,seval,↓eP,rP]
    | false=>
     simp only[eE,seval,↓eP,rP,y8,y13,y11,y12,ga,c1]
     refine res p false hR _ ?_ ?_
     ·simp only[eE,seval,↓eP,rP]
     ·simp only[eE,seval,↓eP,rP]
 show WK _ _ _ (.seq _ (rt (rt QI))) _ _
 cases cc with
 | false=>
  simp only[eE,seval,↓eP,rP,e3,u1]
  refine bad (by rw[hfit];rfl) _ ?_ ?_
  ·simp only[eE,seval,↓eP,rP]
  ·simp only[eE,seval,↓eP,rP]
 | true=>
  cases d1:decide (x.kids<E1 x.kind) with
  | true=>
   simp only[eE,seval,↓eP,rP,e3,u1,u8,u9,ga,gb,d1]
   refine bad (by rw[hfit,decide_eq_false (by simp only[decide_eq_true_eq] at d1;omega)];rfl) _ ?_ ?_
   ·simp only[eE,seval,↓eP,rP]
   ·simp only[eE,seval,↓eP,rP]
  | false=>
   have hl:decide (x.kids≥E1 x.kind)=true:=by simp only[decide_eq_false_iff_not] at d1;simp only[decide_eq_true_eq];omega
   cases d2:decide (CJ x.kind≥0) with
   | false=>
    have hm:decide (CJ x.kind<0)=true:=by simp only[decide_eq_false_iff_not] at d2;simp only[decide_eq_true_eq];omega
    simp only[eE,seval,↓eP,rP,e3,u8,u9,ga,gb,d1,d2]
    refine main (by rw[hfit,hl,hm];rfl) _ ?_ ?_ ?_
    ·simp only[eE,seval,↓eP,rP,u0]
    ·simp only[eE,seval,↓eP,rP,u1]
    ·simp only[eE,seval,↓eP,rP,u8]
   | true=>
    cases d3:decide (x.kids>CJ x.kind) with
    | true=>
     have hm:decide (CJ x.kind<0)=false:=by simp only[decide_eq_true_eq] at d2;simp only[decide_eq_false_iff_not];omega
     have hm2:decide (x.kids≤CJ x.kind)=false:=by simp only[decide_eq_true_eq] at d3;simp only[decide_eq_false_iff_not];omega
     simp only[eE,seval,↓eP,rP,e3,u1,u8,u9,ga,gb,d1,d2,d3]
     refine bad (by rw[hfit,hl,hm,hm2];rfl) _ ?_ ?_
     ·simp only[eE,seval,↓eP,rP]
     ·simp only[eE,seval,↓eP,rP]
    | false=>
     have hm2:decide (x.kids≤CJ x.kind)=true:=by simp only[decide_eq_false_iff_not] at d3;simp only[decide_eq_true_eq];omega
     simp only[eE,seval,↓eP,rP,e3,u8,u9,ga,gb,d1,d2,d3]
     refine main (by rw[hfit,hl,hm2,Bool.or_true];rfl) _ ?_ ?_ ?_
     ·simp only[eE,seval,↓eP,rP,u0]
     ·simp only[eE,seval,↓eP,rP,u1]
     ·simp only[eE,seval,↓eP,rP,u8]
end
theorem NU {a b:Value} (ha:flat a=true) (hb:flat b=true):E_ (.tuple #[a,b])=true:=by simp[E_,ha,hb]
theorem WT {l:List AB} {m at_:Nat} {what:Int} {x:AB} (hx:l[at_]?=some x):BQ AR l (m+1) at_ what=if (CC what x.kind&&DE AR x)=true then EF (fun k next=>BQ AR l m next (BT x.kind k)) x.kids.toNat 0 (at_+1) else (at_,false):=by
 rw[BQ,hx]
theorem YO {l:List AB} {m at_:Nat} {what:Int} (hx:l[at_]?=none):BQ AR l (m+1) at_ what=(at_,false):=by
 rw[BQ,hx]
section
variable {call:AK} {n:Nat}
theorem eQ (hsn:BZ call) {l:List AB} {v:Value} {m at_:Nat} {what:Int} {h:AA} (hc:gR call l v m at_) (hn:l.length+3<n) (hlen:l.length<30000000000000) (hat:at_≤l.length) (hw:what≠8)
  (h89:∀ w k h,call 89 [iv w,iv k] h=some (.bool (CC w k),h))
  (h90':∀ k h,1≤k∧k≤54→call 90 [iv k] h=some (.agg #[.bool (GH k),.bool (IE k),.bool (k==27),iv (E1 k),iv (CJ k)],h))
  (h91:∀ s h',h'.get 0=DK→call 91 [.string s] h'=some (.bool (AR s),h'))
  (hv:AL h v l) (hg:h.get 0=DK) (hn0:0<h.next) (hfl:h.floor≤h.next) :
  ∃ h1,AW Tryd.prog call n 73 [v,iv at_,iv what] h=some (.tuple #[iv ((BQ AR l (m+1) at_ what).1:Int),.bool (BQ AR l (m+1) at_ what).2],h1)∧∀ i,i<h.next→h1.get i=h.get i:=by
 refine E0 (R:=fun h1=>∀ i,i<h.next→h1.get i=h.get i) Tryd.func73 rfl (by simp[Tryd.f73]) ?_
 have hr:Tryd.f73.results.toList=[.tmp 6,.tmp 7]:=rfl
 have hl22:∀ h',B_ Tryd.prog h' 22 v=some (.int .i64 l.length):=fun h'=>hv.len
 cases hx:l[at_]? with
 | none=>
  rw[YO hx]
  have hge:l.length≤at_:=List.getElem?_eq_none_iff.1 hx
  have c1:decide ((at_:Int)≥(l.length:Int))=true:=by simp only[decide_eq_true_eq];omega
  simp only[eE,seval,↓eP,rP,hr,hl22,c1]
  exact fun i hi=>trivial
 | some x=>
  have hlt:at_<l.length:=(List.getElem?_eq_some_iff.1 hx).1
  have c1:decide ((at_:Int)≥(l.length:Int))=false:=by simp only[decide_eq_false_iff_not];omega
  obtain⟨id,p,e0,hid,l0,l1,l2,l3,l4,lr⟩:=hv.row hx
  rw[WT hx]
  cases hs:CC what x.kind with
  | false=>
   simp only[eE,seval,↓eP,rP,hr,hl22,c1,e0,l0,h89,hs,Bool.false_and]
   exact fun i hi=>trivial
  | true=>
  have hkind:=PK hs
  have h90:=fun h=>h90' x.kind h hkind
  have hidT:(id<h.next)=True:=by simpa using hid
  have hne1:(h.next=h.next+1)=False:=by simp
  have hne2:(h.next+1=h.next)=False:=by simp
  have hfl1:(h.floor≤h.next)=True:=by simpa using hfl
  have hfl2:(h.floor≤h.next+1)=True:=by simp;omega
  have hlt1:(h.next<h.next+1+1)=True:=by simp;omega
  have hlt2:(h.next+1<h.next+1+1)=True:=by simp
  simp only[Bool.true_and]
  simp only[eE,seval,↓eP,rP,hr,hl22,c1,e0,l0,h89,hs]
  refine WK.flags (ops:=ZG) jC ?_
  refine CN.begin ?_
  refine AF hsn 0 (some 29) (.move (.tmp 0)) none ?_
  simp only[eE,seval,↓eP,rP,AD,AC,AE,rF,hr,e0,l0,lr,hidT,h90,hne1,hne2,hfl1,hfl2,hlt1,hlt2]
  refine AF hsn 1 (some 30) (.move (.tmp 1)) none ?_
  simp only[eE,seval,↓eP,rP,AD,AC,AE,rF,hr,e0,l0,lr,hidT,h90,hne1,hne2,hfl1,hfl2,hlt1,hlt2]
  refine AF hsn 2 (some 31) (.indexAddr 22 (.tmp 29) (.tmp 30)) none ?_
  simp only[eE,seval,↓eP,rP,AD,AC,AE,rF,hr,e0,l0,lr,hidT,h90,hne1,hne2,hfl1,hfl2,hlt1,hlt2]
  refine AF hsn 3 (some 32) (.load 46 (.tmp 31)) none ?_
  simp only[eE,seval,↓eP,rP,AD,AC,AE,rF,hr,e0,l0,lr,hidT,h90,hne1,hne2,hfl1,hfl2,hlt1,hlt2]
  refine AF hsn 4 (some 33) (.move (.tmp 0)) none ?_
  simp only[eE,seval,↓eP,rP,AD,AC,AE,rF,hr,e0,l0,lr,hidT,h90,hne1,hne2,hfl1,hfl2,hlt1,hlt2]
  refine AF hsn 5 (some 34) (.move (.tmp 1)) none ?_
  simp only[eE,seval,↓eP,rP,AD,AC,AE,rF,hr,e0,l0,lr,hidT,h90,hne1,hne2,hfl1,hfl2,hlt1,hlt2]
  refine AF hsn 6 (some 35) (.indexAddr 22 (.tmp 33) (.tmp 34)) none ?_
  simp only[eE,seval,↓eP,rP,AD,AC,AE,rF,hr,e0,l0,lr,hidT,h90,hne1,hne2,hfl1,hfl2,hlt1,hlt2]
  refine AF hsn 7 (some 36) (.fieldAddr 46 (.tmp 35) 0) none ?_
  simp only[eE,seval,↓eP,rP,AD,AC,AE,rF,hr,e0,l0,lr,hidT,h90,hne1,hne2,hfl1,hfl2,hlt1,hlt2]
  refine AF hsn 8 (some 37) (.load 3 (.tmp 36)) none ?_
  simp only[eE,seval,↓eP,rP,AD,AC,AE,rF,hr,e0,l0,lr,hidT,h90,hne1,hne2,hfl1,hfl2,hlt1,hlt2]
  refine AF hsn 9 (some 38) (.call { callee:=.value (.func 90),args:=#[.tmp 37],argTypes:=#[3] }) none ?_
  simp only[eE,seval,↓eP,rP,AD,AC,AE,rF,hr,e0,l0,lr,hidT,h90,hne1,hne2,hfl1,hfl2,hlt1,hlt2]
  refine AF hsn 10 (some 8) (.alloc 46) none ?_
  simp only[eE,seval,↓eP,rP,AD,AC,AE,rF,hr,e0,l0,lr,hidT,h90,hne1,hne2,hfl1,hfl2,hlt1,hlt2]
  refine AF hsn 11 (some 9) (.alloc 123) none ?_
  simp only[eE,seval,↓eP,rP,AD,AC,AE,rF,hr,e0,l0,lr,hidT,h90,hne1,hne2,hfl1,hfl2,hlt1,hlt2]
  refine AF hsn 12 (none) (.store 46 (.tmp 8) (.tmp 32)) none ?_
  simp only[eE,seval,↓eP,rP,AD,AC,AE,rF,hr,e0,l0,lr,hidT,h90,hne1,hne2,hfl1,hfl2,hlt1,hlt2]
  refine AF hsn 13 (none) (.store 123 (.tmp 9) (.tmp 38)) none ?_
  simp only[eE,seval,↓eP,rP,AD,AC,AE,rF,hr,e0,l0,lr,hidT,h90,hne1,hne2,hfl1,hfl2,hlt1,hlt2]
  refine CN.done (i:=14) (by kernel_rfl) ?_
  rw[P4]
  have hold:∀ i,i<h.next→((((h.push (.row CP 46 false false)).push (.row [.bool false,.bool false,.bool false,.int .i64 0,.int .i64 0] 123 false false)).put h.next (.row [.int .i64 x.kind,.string x.name,.int .i64 x.ends,.int .i64 x.n,.int .i64 x.kids] 46 false false)).put (h.next+1)
    (.row [.bool (GH x.kind),.bool (IE x.kind),.bool (x.kind==27),iv (E1 x.kind),iv (CJ x.kind)] 123 false false)).get i=h.get i:=fun i hi=>by
   rw[RE,if_neg (by omega),RE,if_neg (by omega),JF,if_neg (by rw[C6];omega),JF,if_neg (by omega)]
  refine qQ hsn hc hn hlen hlt (h91 x.name) (hv.mono (by simp only[ID,C6];omega) hold) (by rw[hold 0 hn0];exact hg) (by simp only[ID,C6];omega) (by simp only[ID,C6,MR,IL];omega) hkind (Al hw hs) (a:=h.next) (b:=h.next+1) (ga0:=false) (gb0:=false) ?_ ?_ ?_ ?_ ?_ ?_ (by simp only[ID,C6];omega) ?_
  ·simp only[eE,seval,↓eP,rP]
  ·simp only[eE,seval,↓eP,rP]
  ·simp only[eE,seval,↓eP,rP]
  ·simp only[eE,seval,↓eP,rP]
  ·simp only[eE,seval,↓eP,rP,hne1,hlt1]
  ·simp only[eE,seval,↓eP,rP,hlt2]
  ·intro T' q ok hq h6 h7
   simp only[eE,seval,↓eP,rP,hr,h6,h7,← hq]
   intro i hi
   rw[if_neg (by omega),if_neg (by omega),if_neg (by omega),if_neg (by omega)]
end
theorem TC (k:Int) (h:AA) (hk:1≤k∧k≤54):L1 90 [iv k] h=some (.agg #[.bool (GH k),.bool (IE k),.bool (k==27),iv (E1 k),iv (CJ k)],h):=
 F4 (EG rfl rfl rfl rfl (HJ Ew hk))
theorem Da (k:Int):CJ k≤3:=by unfold CJ;(repeat' split) <;> omega
theorem Io {call:AK} {n:Nat} {h:AA} {j:Nat}:AW Tryd.prog call n 93 [iv 11,iv j] h=some (iv (BT 11 j),h):=by
 refine DW Tryd.func93 rfl (by simp[Tryd.f93]) ?_
 have hr:Tryd.f93.results.toList=[.tmp 4]:=rfl
 simp only[eE,seval,↓eP,rP,hr]
 rfl
theorem iI (k:Int) (j:Nat) (h:AA) (hk:1≤k∧k≤54) (hj:k=11∨(j:Int)<CJ k):L1 93 [iv k,iv j] h=some (iv (BT k j),h):=by
 refine F4 (EG rfl rfl rfl rfl ?_)
 rcases hj with rfl | hj
 ·exact⟨_,Io⟩
 ·have:=Da k
  have h3:j=0∨j=1∨j=2:=by omega
  rcases h3 with rfl | rfl | rfl
  ·exact HJ Fb hk
  ·exact HJ yC hk
  ·have h15:k≠15:=by
    rintro rfl
    revert hj
    decide
   have:=HJ vR hk
   simp only[if_neg h15] at this
   exact this
theorem TQ {l:List AB} {m:Nat} {x:AB} (hx:l[0]?=some x):GO AR l m=if (CC 8 x.kind&&DE AR x)=true then D7 AR l m x.kids.toNat false 1 else (0,false):=by
 rw[GO,hx]
theorem ZS {l:List AB} {m:Nat} (hx:l[0]?=none):GO AR l m=(0,false):=by
 rw[GO,hx]
section
variable {call:AK} {n:Nat}
theorem yV (hsn:BZ call) {l:List AB} {v:Value} {m at_ a b:Nat} {x:AB} {T:Tr} {h:AA} {k:BS} {ga0 gb0:Bool} (h92:DE AR x=true→call 92 [v,iv at_] h=some (.tuple #[iv ((D7 AR l m x.kids.toNat false (at_+1)).1:Int),.bool (D7 AR l m x.kids.toNat false (at_+1)).2],h)) (hn:l.length+3<n) (hlen:l.length<30000000000000) (hat:at_<l.length)
  (h91:∀ h',h'.get 0=DK→call 91 [.string x.name] h'=some (.bool (AR x.name),h'))
  (hv:AL h v l) (hg:h.get 0=DK) (hn0:0<h.next) (hfl:h.floor≤h.next) (hkind:1≤x.kind∧x.kind≤54) (hk1:x.kind=1)
  (t0:T.get 0=v) (t1:T.get 1=iv at_) (t8:T.get 8=qP a 0) (t9:T.get 9=qP b 0)
  (ga:h.get a=.row [.int .i64 x.kind,.string x.name,.int .i64 x.ends,.int .i64 x.n,.int .i64 x.kids] 46 ga0 false)
  (gb:h.get b=.row [.bool (GH x.kind),.bool (IE x.kind),.bool (x.kind==27),.int .i64 (E1 x.kind),.int .i64 (CJ x.kind)] 123 gb0 false) (hb:b<h.next)
  (hk:∀ T' (p:Nat) ok,(p,ok)=(if DE AR x=true then D7 AR l m x.kids.toNat false (at_+1) else (at_,false))→T'.get 6=iv p→T'.get 7=.bool ok→k.ap Tryd.prog call n .ret ⟨T',h⟩) :
  WK Tryd.prog call n QI ⟨T,h⟩ k:=by
 show WK _ _ _ (.seq (.region _ _ true) _) _ _
 rw[KG]
 refine WK.flags (ops:=DF) iW ?_
 refine CN.begin ?_
 refine mP hsn t8 t9 ga gb (by simpa using hb) (fun h' e=>h91 h' (by rw[e];exact hg)) fun T1 e1 k1=>?_
 refine jB hsn (by rw[k1 8 (by decide)];exact t8) (by rw[k1 9 (by decide)];exact t9) ga gb (by simpa using hb) e1 fun T2 e2 k2=>?_
 refine oI hsn (by rw[k2 8 (by decide),k1 8 (by decide)];exact t8) (by rw[k2 9 (by decide),k1 9 (by decide)];exact t9) ga gb (by simpa using hb) e2 fun T3 e3 k3=>?_
 refine CN.done (i:=49) (by kernel_rfl) ?_
 rw[P4]
 have kp:∀ t:Nat,t<10→T3.get t=T.get t:=fun t ht=>by rw[k3 t ht,k2 t (by omega),k1 t (by omega)]
 have u0:=(kp 0 (by decide)).trans t0
 have u1:=(kp 1 (by decide)).trans t1
 have u8:=(kp 8 (by decide)).trans t8
 have u9:=(kp 9 (by decide)).trans t9
 clear k1 k2 k3 kp e1 e2
 generalize hcc:(((AR x.name==GH x.kind)&&(GH x.kind||x.name==⟨#[]⟩))&&(x.ends==0||IE x.kind&&x.ends==1)&&(x.n==0||(x.kind==27)&&decide (x.n>0)&&decide (x.n≤1073741824)))=cc at e3
 have hfit:DE AR x=(cc&&decide (x.kids≥E1 x.kind)&&(decide (CJ x.kind<0)||decide (x.kids≤CJ x.kind))):=by
  rw[← hcc]
  rfl
 have bad:DE AR x=false→∀ T',T'.get 6=iv at_→T'.get 7=.bool false→k.ap Tryd.prog call n .ret ⟨T',h⟩:=fun hf T' h6 h7=>hk T' at_ false (by rw[hf];rfl) h6 h7
 have e1:(x.kind==1)=true:=by simpa using hk1
 have hkids:DE AR x=true→0≤x.kids∧(decide (CJ x.kind<0)||decide (x.kids≤CJ x.kind))=true:=fun hf=>by
  rw[hfit] at hf
  simp only[Bool.and_eq_true,decide_eq_true_eq] at hf
  have:=O4 x.kind
  exact⟨by omega,hf.2⟩
 have main:DE AR x=true→∀ T',T'.get 0=v→T'.get 1=iv at_→T'.get 8=qP a 0→WK Tryd.prog call n (rt (rt QI)) ⟨T',h⟩ k:=by
  intro hf T' w0 w1 w8
  have h92':=h92 hf
  show WK _ _ _ (.seq _ _) _ _
  simp only[eE,seval,↓eP,rP,w0,w1,w8,ga,e1,h92']
  refine hk _ _ _ (by rw[if_pos hf]) ?_ ?_
  ·simp only[eE,seval,↓eP,rP]
  ·simp only[eE,seval,↓eP,rP]
 show WK _ _ _ (.seq _ (rt (rt QI))) _ _
 cases cc with
 | false=>
  simp only[eE,seval,↓eP,rP,e3,u1]
  refine bad (by rw[hfit];rfl) _ ?_ ?_
  ·simp only[eE,seval,↓eP,rP]
  ·simp only[eE,seval,↓eP,rP]
 | true=>
  cases d1:decide (x.kids<E1 x.kind) with
  | true=>
   simp only[eE,seval,↓eP,rP,e3,u1,u8,u9,ga,gb,d1]
   refine bad (by rw[hfit,decide_eq_false (by simp only[decide_eq_true_eq] at d1;omega)];rfl) _ ?_ ?_
   ·simp only[eE,seval,↓eP,rP]
   ·simp only[eE,seval,↓eP,rP]
  | false=>
   have hl:decide (x.kids≥E1 x.kind)=true:=by simp only[decide_eq_false_iff_not] at d1;simp only[decide_eq_true_eq];omega
   cases d2:decide (CJ x.kind≥0) with
   | false=>
    have hm:decide (CJ x.kind<0)=true:=by simp only[decide_eq_false_iff_not] at d2;simp only[decide_eq_true_eq];omega
    simp only[eE,seval,↓eP,rP,e3,u8,u9,ga,gb,d1,d2]
    refine main (by rw[hfit,hl,hm];rfl) _ ?_ ?_ ?_
    ·simp only[eE,seval,↓eP,rP,u0]
    ·simp only[eE,seval,↓eP,rP,u1]
    ·simp only[eE,seval,↓eP,rP,u8]
   | true=>
    cases d3:decide (x.kids>CJ x.kind) with
    | true=>
     have hm:decide (CJ x.kind<0)=false:=by simp only[decide_eq_true_eq] at d2;simp only[decide_eq_false_iff_not];omega
     have hm2:decide (x.kids≤CJ x.kind)=false:=by simp only[decide_eq_true_eq] at d3;simp only[decide_eq_false_iff_not];omega
     simp only[eE,seval,↓eP,rP,e3,u1,u8,u9,ga,gb,d1,d2,d3]
     refine bad (by rw[hfit,hl,hm,hm2];rfl) _ ?_ ?_
     ·simp only[eE,seval,↓eP,rP]
     ·simp only[eE,seval,↓eP,rP]
    | false=>
     have hm2:decide (x.kids≤CJ x.kind)=true:=by simp only[decide_eq_false_iff_not] at d3;simp only[decide_eq_true_eq];omega
     simp only[eE,seval,↓eP,rP,e3,u8,u9,ga,gb,d1,d2,d3]
     refine main (by rw[hfit,hl,hm2,Bool.or_true];rfl) _ ?_ ?_ ?_
     ·simp only[eE,seval,↓eP,rP,u0]
     ·simp only[eE,seval,↓eP,rP,u1]
     ·simp only[eE,seval,↓eP,rP,u8]
theorem jH (hsn:BZ call) {l:List AB} {v:Value} {m:Nat} {h:AA} (h92:∀ x h,l[0]?=some x→DE AR x=true→x.kind=1→AL h v l→h.get 0=DK→0<h.next→h.floor≤h.next→call 92 [v,iv 0] h=some (.tuple #[iv ((D7 AR l m x.kids.toNat false 1).1:Int),.bool (D7 AR l m x.kids.toNat false 1).2],h)) (hn:l.length+3<n) (hlen:l.length<30000000000000)
  (h89:∀ w k h,call 89 [iv w,iv k] h=some (.bool (CC w k),h))
  (h90':∀ k h,1≤k∧k≤54→call 90 [iv k] h=some (.agg #[.bool (GH k),.bool (IE k),.bool (k==27),iv (E1 k),iv (CJ k)],h))
  (h91:∀ s h',h'.get 0=DK→call 91 [.string s] h'=some (.bool (AR s),h'))
  (hv:AL h v l) (hg:h.get 0=DK) (hn0:0<h.next) (hfl:h.floor≤h.next) :
  ∃ h1,AW Tryd.prog call n 73 [v,iv 0,iv 8] h=some (.tuple #[iv ((GO AR l m).1:Int),.bool (GO AR l m).2],h1)∧∀ i,i<h.next→h1.get i=h.get i:=by
 refine E0 (R:=fun h1=>∀ i,i<h.next→h1.get i=h.get i) Tryd.func73 rfl (by simp[Tryd.f73]) ?_
 have hr:Tryd.f73.results.toList=[.tmp 6,.tmp 7]:=rfl
 have hl22:∀ h',B_ Tryd.prog h' 22 v=some (.int .i64 l.length):=fun h'=>hv.len
 have e00:((0:Nat):Int)=0:=rfl
 cases hx:l[0]? with
 | none=>
  rw[ZS hx]
  have hge:l.length≤0:=List.getElem?_eq_none_iff.1 hx
  have c1:decide ((0:Int)≥(l.length:Int))=true:=by simp only[decide_eq_true_eq];omega
  simp only[eE,↓reduceIte,Nat.reduceEqDiff,reduceCtorEq,↓eP,rP,Nat.reduceAdd,Nat.reduceLT,hr,hl22,c1]
  exact⟨rfl,fun i hi=>trivial⟩
 | some x=>
  have hlt:0<l.length:=(List.getElem?_eq_some_iff.1 hx).1
  have c1:decide ((0:Int)≥(l.length:Int))=false:=by simp only[decide_eq_false_iff_not];omega
  obtain⟨id,p,e0,hid,l0,l1,l2,l3,l4,lr⟩:=hv.row hx
  rw[TQ hx]
  rw[e00] at e0
  cases hs:CC 8 x.kind with
  | false=>
   simp only[eE,↓reduceIte,Nat.reduceEqDiff,reduceCtorEq,↓eP,rP,Nat.reduceAdd,Nat.reduceLT,hr,hl22,c1,e0,l0,h89,hs,Bool.false_and]
   exact⟨rfl,fun i hi=>trivial⟩
  | true=>
  have hkind:=PK hs
  have hk1:x.kind=1:=by simpa [CC] using hs
  have h90:=fun h=>h90' x.kind h hkind
  have hidT:(id<h.next)=True:=by simpa using hid
  have hne1:(h.next=h.next+1)=False:=by simp
  have hne2:(h.next+1=h.next)=False:=by simp
  have hfl1:(h.floor≤h.next)=True:=by simpa using hfl
  have hfl2:(h.floor≤h.next+1)=True:=by simp;omega
  have hlt1:(h.next<h.next+1+1)=True:=by simp;omega
  have hlt2:(h.next+1<h.next+1+1)=True:=by simp
  simp only[Bool.true_and]
  simp only[eE,seval,↓eP,rP,hr,hl22,c1,e0,l0,h89,hs]
  refine WK.flags (ops:=ZG) jC ?_
  refine CN.begin ?_
  refine AF hsn 0 (some 29) (.move (.tmp 0)) none ?_
  simp only[eE,seval,↓eP,rP,AD,AC,AE,rF]
  refine AF hsn 1 (some 30) (.move (.tmp 1)) none ?_
  simp only[eE,seval,↓eP,rP,AD,AC,AE,rF]
  refine AF hsn 2 (some 31) (.indexAddr 22 (.tmp 29) (.tmp 30)) none ?_
  simp only[eE,seval,↓eP,rP,AD,AC,AE,rF,e0]
  refine AF hsn 3 (some 32) (.load 46 (.tmp 31)) none ?_
  simp only[eE,seval,↓eP,rP,AD,AC,AE,rF,lr,hidT]
  refine AF hsn 4 (some 33) (.move (.tmp 0)) none ?_
  simp only[eE,seval,↓eP,rP,AD,AC,AE,rF]
  refine AF hsn 5 (some 34) (.move (.tmp 1)) none ?_
  simp only[eE,seval,↓eP,rP,AD,AC,AE,rF]
  refine AF hsn 6 (some 35) (.indexAddr 22 (.tmp 33) (.tmp 34)) none ?_
  simp only[eE,seval,↓eP,rP,AD,AC,AE,rF,e0]
  refine AF hsn 7 (some 36) (.fieldAddr 46 (.tmp 35) 0) none ?_
  simp only[eE,seval,↓eP,rP,AD,AC,AE,rF]
  refine AF hsn 8 (some 37) (.load 3 (.tmp 36)) none ?_
  simp only[eE,seval,↓eP,rP,AD,AC,AE,rF,l0,hidT]
  refine AF hsn 9 (some 38) (.call { callee:=.value (.func 90),args:=#[.tmp 37],argTypes:=#[3] }) none ?_
  simp only[eE,seval,↓eP,rP,AD,AC,AE,rF,h90]
  refine AF hsn 10 (some 8) (.alloc 46) none ?_
  simp only[eE,seval,↓eP,rP,AD,AC,AE,rF]
  refine AF hsn 11 (some 9) (.alloc 123) none ?_
  simp only[eE,seval,↓eP,rP,AD,AC,AE,rF]
  refine AF hsn 12 (none) (.store 46 (.tmp 8) (.tmp 32)) none ?_
  simp only[eE,seval,↓eP,rP,AD,AC,AE,rF,hne1,hfl1]
  refine AF hsn 13 (none) (.store 123 (.tmp 9) (.tmp 38)) none ?_
  simp only[eE,seval,↓eP,rP,AD,AC,AE,rF,hne2,hfl2]
  refine CN.done (i:=14) (by kernel_rfl) ?_
  rw[P4]
  have hold:∀ i,i<h.next→((((h.push (.row CP 46 false false)).push (.row [.bool false,.bool false,.bool false,.int .i64 0,.int .i64 0] 123 false false)).put h.next (.row [.int .i64 x.kind,.string x.name,.int .i64 x.ends,.int .i64 x.n,.int .i64 x.kids] 46 false false)).put (h.next+1)
    (.row [.bool (GH x.kind),.bool (IE x.kind),.bool (x.kind==27),iv (E1 x.kind),iv (CJ x.kind)] 123 false false)).get i=h.get i:=fun i hi=>by
   rw[RE,if_neg (by omega),RE,if_neg (by omega),JF,if_neg (by rw[C6];omega),JF,if_neg (by omega)]
  refine yV hsn (m:=m) (at_:=0) (l:=l) (v:=v) (fun hf=>h92 x _ hx hf hk1 (hv.mono (by simp only[ID,C6];omega) hold) (by rw[hold 0 hn0];exact hg) (by simp only[ID,C6];omega) (by simp only[ID,C6,MR,IL];omega)) hn hlen hlt (h91 x.name) (hv.mono (by simp only[ID,C6];omega) hold) (by rw[hold 0 hn0];exact hg) (by simp only[ID,C6];omega) (by simp only[ID,C6,MR,IL];omega) hkind hk1 (a:=h.next) (b:=h.next+1) (ga0:=false) (gb0:=false) ?_ ?_ ?_ ?_ ?_ ?_ (by simp only[ID,C6];omega) ?_
  ·simp only[eE,seval,↓eP,rP]
  ·simp only[eE,↓reduceIte,Nat.reduceEqDiff,reduceCtorEq,↓eP,rP,Nat.reduceAdd,Nat.reduceLT]
   rfl
  ·simp only[eE,seval,↓eP,rP]
  ·simp only[eE,seval,↓eP,rP]
  ·simp only[eE,seval,↓eP,rP,hne1,hlt1]
  ·simp only[eE,seval,↓eP,rP,hlt2]
  ·intro T' q ok hq h6 h7
   simp only[eE,seval,↓eP,rP,h6,h7,← hq]
   intro i hi
   rw[if_neg (by omega),if_neg (by omega),if_neg (by omega),if_neg (by omega)]
def QQ (ev:Bool):Int:=if ev=true then 1 else 0
theorem kN {l:List AB} {v:Value} {m:Nat} {x:AB} {h:AA} (hx:l[0]?=some x) (hk0:0≤x.kids) (hn:l.length+3<n) (hlen:l.length<30000000000000) (hv:AL h v l)
  (h89:∀ w k h,call 89 [iv w,iv k] h=some (.bool (CC w k),h))
  (h73:∀ (p:Nat) (w:Int),0<p→p≤l.length→w≠8→call 73 [v,iv p,iv w] h=some (.tuple #[iv ((BQ AR l m p w).1:Int),.bool (BQ AR l m p w).2],h)) :
  AW Tryd.prog call n 92 [v,iv 0] h=some (.tuple #[iv ((D7 AR l m x.kids.toNat false 1).1:Int),.bool (D7 AR l m x.kids.toNat false 1).2],h):=by
 refine DW Tryd.func92 rfl (by simp[Tryd.f92]) ?_
 have hr:Tryd.f92.results.toList=[.tmp 4,.tmp 5]:=rfl
 have hl22:∀ h',B_ Tryd.prog h' 22 v=some (.int .i64 l.length):=fun h'=>hv.len
 have hlt0:0<l.length:=(List.getElem?_eq_some_iff.1 hx).1
 obtain⟨id,q,e0',hid,l0,l1,l2,l3,l4,lr⟩:=hv.row hx
 have e0:CY Tryd.prog 22 v (.int .i64 0)=some (qP id q):=e0'
 have w1:IntKind.i64.wrap (0+1)=((1:Nat):Int):=rfl
 simp only[eE,↓reduceIte,Nat.reduceEqDiff,reduceCtorEq,↓eP,rP,Nat.reduceAdd,Nat.reduceLT,hr,w1]
 generalize hg0:D7 AR l m x.kids.toNat false 1=R
 refine WK.loop (fun i s=>s.h=h∧s.T.get 0=v∧s.T.get 1=iv 0∧s.T.get 9=iv i∧∃ p:Nat,∃ ok ev:Bool,s.T.get 6=iv p∧s.T.get 7=.bool ok∧s.T.get 8=iv (QQ ev)∧p≤l.length∧0<p∧i≤l.length+1 ∧
  ((ok=true∧i≤x.kids.toNat∧1+i≤p∧D7 AR l m (x.kids.toNat-i) ev p=R)∨(ok=false∧R=(p,false)))) (l.length+2) (by omega) ?_ ?_
 ·simp only[eE,↓reduceIte,Nat.reduceEqDiff,reduceCtorEq,↓eP,rP,Nat.reduceAdd,Nat.reduceLT]
  exact⟨rfl,1,true,false,rfl,rfl,rfl,by omega,by omega,.inl ⟨rfl,by omega,by rw[Nat.sub_zero];exact hg0⟩⟩
 ·rintro i ⟨T1,h1⟩ hi ⟨rfl,y0,y1,y9,p,ok,ev,y6,y7,y8,hp,hp0,hil,hcase⟩
  simp only at y0 y1 y9 y6 y7 y8
  rcases hcase with⟨rfl,hik,hpi,hR⟩ | ⟨rfl,hR⟩
  ·by_cases hlt:i<x.kids.toNat
   ·have c1:decide ((i:Int)<x.kids)=true:=by simp only[decide_eq_true_eq];omega
    have w5:=CK i (by omega)
    have hstep:D7 AR l m (x.kids.toNat-i) ev p=if (BQ AR l m p (GX ev l[p]?)).2=true then D7 AR l m (x.kids.toNat-(i+1)) (ev||K3 l[p]?) (BQ AR l m p (GX ev l[p]?)).1 else ((BQ AR l m p (GX ev l[p]?)).1,false):=by
     obtain⟨r,hr⟩:∃ r,x.kids.toNat-i=r+1:=⟨x.kids.toNat-i-1,by omega⟩
     rw[hr,show x.kids.toNat-(i+1)=r by omega]
     rfl
    have hdw:GX ev l[p]?≠8:=by unfold GX;split <;> decide
    have hrow:=h73 p (GX ev l[p]?) hp0 hp hdw
    have hev':GX ev l[p]?=QQ (ev||K3 l[p]?):=by unfold GX QQ;cases ev <;> cases K3 l[p]? <;> rfl
    have fin:i<l.length+2∧∃ p1:Nat,∃ ok ev1:Bool,(((BQ AR l m p (GX ev l[p]?)).1:Nat):Int)=(p1:Int)∧Value.bool (BQ AR l m p (GX ev l[p]?)).2=.bool ok∧QQ (ev||K3 l[p]?)=QQ ev1∧p1≤l.length∧0<p1∧i+1≤l.length+1 ∧
       ((ok=true∧i+1≤x.kids.toNat∧1+(i+1)≤p1∧D7 AR l m (x.kids.toNat-(i+1)) ev1 p1=R)∨(ok=false∧R=(p1,false))):=by
     generalize hq:BQ AR l m p (GX ev l[p]?)=Q at *
     have hq1:Q.1≤l.length:=by rw[← hq];exact WC m p _ hp
     have hq0:p≤Q.1:=by rw[← hq];exact O9 m p _
     have hq2:Q.2=true→p<Q.1:=fun h=>by
      have:=QM (isName:=AR) (l:=l) m p (GX ev l[p]?)
      rw[hq] at this
      exact(this h).1
     refine⟨by omega,Q.1,Q.2,(ev||K3 l[p]?),rfl,rfl,rfl,hq1,by omega,by omega,?_⟩
     cases hb2:Q.2 with
     | true=>
      left
      have:=hq2 hb2
      rw[hb2,if_pos rfl] at hstep
      exact⟨rfl,by omega,by omega,by rw[← hstep];exact hR⟩
     | false=>
      right
      rw[hb2,if_neg (by simp)] at hstep
      exact⟨rfl,by rw[← hR,hstep]⟩
    cases hxp:l[p]? with
    | none=>
     have hge:l.length≤p:=List.getElem?_eq_none_iff.1 hxp
     have c2:decide ((p:Int)<(l.length:Int))=false:=by simp only[decide_eq_false_iff_not];omega
     have hie:K3 (none:Option AB)=false:=rfl
     rw[hxp] at hrow fin hev'
     rw[hie,Bool.or_false] at hev' fin
     rw[hev'] at hrow fin
     simp only[eE,↓reduceIte,Nat.reduceEqDiff,reduceCtorEq,↓eP,rP,Nat.reduceAdd,Nat.reduceLT,y0,y1,y9,y6,y7,y8,e0,l4,c1,hl22,c2,hrow,w5]
     exact fin
    | some y=>
     have hlt2:p<l.length:=(List.getElem?_eq_some_iff.1 hxp).1
     have c2:decide ((p:Int)<(l.length:Int))=true:=by simp only[decide_eq_true_eq];omega
     obtain⟨id2,q2,f0,hid2,m0,m1,m2,m3,m4,mr⟩:=hv.row hxp
     have hie:K3 (some y)=CC 1 y.kind:=rfl
     rw[hxp] at hrow fin hev'
     rw[hie] at hev' fin
     rw[hev'] at hrow fin
     cases hs:CC 1 y.kind with
     | false=>
      rw[hs,Bool.or_false] at hrow fin
      simp only[eE,↓reduceIte,Nat.reduceEqDiff,reduceCtorEq,↓eP,rP,Nat.reduceAdd,Nat.reduceLT,y0,y1,y9,y6,y7,y8,e0,l4,c1,hl22,c2,f0,m0,h89,hs,hrow,w5]
      exact fin
     | true=>
      have he1:QQ true=1:=rfl
      rw[hs,Bool.or_true,he1] at hrow fin
      simp only[eE,↓reduceIte,Nat.reduceEqDiff,reduceCtorEq,↓eP,rP,Nat.reduceAdd,Nat.reduceLT,y0,y1,y9,y6,y7,e0,l4,c1,hl22,c2,f0,m0,h89,hs,hrow,w5]
      exact fin
   ·have c1:decide ((i:Int)<x.kids)=false:=by simp only[decide_eq_false_iff_not];omega
    have hie:x.kids.toNat-i=0:=by omega
    rw[hie] at hR
    have hR':R=(p,true):=by rw[← hR];rfl
    simp only[eE,seval,↓eP,rP,y0,y1,y9,y6,y7,e0,l4,c1,hR']
  ·cases c1:decide ((i:Int)<x.kids) <;> simp only[eE,seval,↓eP,rP,y0,y1,y9,y6,y7,e0,l4,c1,hR]
end
def K6 (a b:Int) (k:Nat):Bool:=if b=0 then false else if 1≤a∧a≤5 then (decide (b<a)||(b==a&&((k:Int)==1||a==3))) else if a=6 then decide (b<6) else false
def GD (a b:Int) (k:Nat):Int:=if K6 a b k=true then 1 else 0
def HX (g:Nat→Int × Nat) (l:List AB) (kind:Int):Nat→Nat→Int→Nat→Int × Nat
 | 0,_,most,next=>(most,next)
 | r+1,k,most,next=>match l[next]? with
  | none=>(most,next)
  | some y=>HX g l kind r (k+1) (if (g next).1+GD (CB kind) (CB y.kind) k>most then (g next).1+GD (CB kind) (CB y.kind) k else most) (g next).2
def CX (l:List AB):Nat→Nat→Int × Nat
 | 0,at_=>(0,at_)
 | m+1,at_=>match l[at_]? with
  | none=>(0,at_)
  | some x=>((HX (CX l m) l x.kind x.kids.toNat 0 0 (at_+1)).1+DZ x.kind,(HX (CX l m) l x.kind x.kids.toNat 0 0 (at_+1)).2)
theorem SC (k:Int):0≤DZ k∧DZ k≤1:=by unfold DZ;split <;> omega
theorem Y1 (a b:Int) (k:Nat):0≤GD a b k∧GD a b k≤1:=by unfold GD;split <;> omega
theorem l7 {g:Nat→Int × Nat} {l:List AB} {kind B:Int} (hg:∀ p,0≤(g p).1∧(g p).1≤B):∀ r k most next,0≤most→most≤B+1→0≤(HX g l kind r k most next).1∧(HX g l kind r k most next).1≤B+1:=by
 intro r
 induction r with
 | zero=>intro k most next h0 h1;exact⟨h0,h1⟩
 | succ r ih=>
  intro k most next h0 h1
  unfold HX
  split
  ·exact⟨h0,h1⟩
  ·rename_i y hy
   have:=hg next
   have:=Y1 (CB kind) (CB y.kind) k
   apply ih <;> split <;> omega
theorem lV {l:List AB}:∀ m at_,0≤(CX l m at_).1∧(CX l m at_).1≤2*(m:Int):=by
 intro m
 induction m with
 | zero=>intro at_;exact⟨Int.le_refl 0,by show (0:Int)≤_;omega⟩
 | succ m ih=>
  intro at_
  unfold CX
  split
  ·exact⟨Int.le_refl 0,by show (0:Int)≤_;omega⟩
  ·rename_i x hx
   have:=l7 (g:=CX l m) (l:=l) (kind:=x.kind) (B:=2*(m:Int)) ih x.kids.toNat 0 0 (at_+1) (Int.le_refl 0) (by omega)
   have:=SC x.kind
   constructor <;> simp only <;> omega
theorem zU {g:Nat→Int × Nat} {l:List AB} {kind:Int} (hg:∀ p,p<l.length→p≤(g p).2∧(g p).2≤l.length):∀ r k most next,next≤l.length→next≤(HX g l kind r k most next).2∧(HX g l kind r k most next).2≤l.length:=by
 intro r
 induction r with
 | zero=>intro k most next h;exact⟨Nat.le_refl _,h⟩
 | succ r ih=>
  intro k most next h
  unfold HX
  split
  ·exact⟨Nat.le_refl _,h⟩
  ·rename_i y hy
   have hlt:next<l.length:=(List.getElem?_eq_some_iff.1 hy).1
   have h1:=hg next hlt
   have h2:=ih (k+1) (if (g next).1+GD (CB kind) (CB y.kind) k>most then (g next).1+GD (CB kind) (CB y.kind) k else most) (g next).2 h1.2
   omega
theorem Ju {l:List AB}:∀ m at_,at_<l.length→at_≤(CX l m at_).2∧(CX l m at_).2≤l.length∧(0<m→at_<(CX l m at_).2):=by
 intro m
 induction m with
 | zero=>intro at_ h;exact⟨Nat.le_refl _,by show at_≤_;omega,fun h=>absurd h (by omega)⟩
 | succ m ih=>
  intro at_ h
  unfold CX
  rw[List.getElem?_eq_getElem h]
  have:=zU (g:=CX l m) (l:=l) (kind:=l[at_].kind) (fun p hp=>⟨(ih p hp).1,(ih p hp).2.1⟩) l[at_].kids.toNat 0 0 (at_+1) h
  simp only
  omega
section
variable {call:AK} {n:Nat} {h:AA}
theorem pE (k:Int) (h:AA) (hk:1≤k∧k≤54):L1 109 [iv k] h=some (iv (DZ k),h):=F4 (EG rfl rfl rfl rfl (HJ Et hk))
theorem Ia {P K:Int} {k:Nat} {a b:Int} (ha:call 118 [iv P] h=some (iv a,h)) (hb:call 118 [iv K] h=some (iv b,h)):AW Tryd.prog call n 108 [iv P,iv k,iv K] h=some (.bool (K6 a b k),h):=by
 refine DW Tryd.func108 rfl (by simp[Tryd.f108]) ?_
 have hr:Tryd.f108.results.toList=[.tmp 6]:=rfl
 unfold K6
 by_cases b0:b=0
 ·subst b0
  simp only[eE,seval,↓eP,rP,hr,ha,hb]
 have c0:(b==0)=false:=by simpa using b0
 rw[if_neg b0]
 by_cases a15:1≤a∧a≤5
 ·rw[if_pos a15]
  have d1:decide (a≥1)=true:=decide_eq_true a15.1
  have d2:decide (a≤5)=true:=decide_eq_true a15.2
  cases d3:decide (b<a) with
  | true=>simp only[eE,seval,↓eP,rP,hr,ha,hb,c0,d1,d2,d3,Bool.true_or]
  | false=>
   cases d4:(b==a) with
   | false=>simp only[eE,seval,↓eP,rP,hr,ha,hb,c0,d1,d2,d3,d4,Bool.false_or,Bool.false_and]
   | true=>
    cases d5:((k:Int)==1) with
    | true=>simp only[eE,seval,↓eP,rP,hr,ha,hb,c0,d1,d2,d3,d4,d5,Bool.false_or,Bool.true_or]
    | false=>simp only[eE,seval,↓eP,rP,hr,ha,hb,c0,d1,d2,d3,d4,d5,Bool.false_or]
 ·rw[if_neg a15]
  cases d1:decide (a≥1) with
  | false=>
   simp only[decide_eq_false_iff_not] at d1
   have d1':decide (a≥1)=false:=decide_eq_false d1
   have c6:(a==6)=false:=by simp;omega
   rw[if_neg (by omega)]
   simp only[eE,seval,↓eP,rP,hr,ha,hb,c0,d1',c6]
  | true=>
   simp only[decide_eq_true_eq] at d1
   have d1':decide (a≥1)=true:=decide_eq_true d1
   have d2:decide (a≤5)=false:=decide_eq_false (by omega)
   by_cases a6:a=6
   ·subst a6
    simp only[eE,seval,↓eP,rP,hr,ha,hb,c0,d1',d2]
   ·have c6:(a==6)=false:=by simpa using a6
    rw[if_neg a6]
    simp only[eE,seval,↓eP,rP,hr,ha,hb,c0,d1',d2,c6]
noncomputable def iE:Array Oper:=DY Tryd.f94 6
def xZ:List (Bool × Bool × List Operand):=[BI,BI,BI,BI,BI,AS [.tmp 30],AS [.tmp 30],AS [.tmp 30],AS [.tmp 30],AS [.tmp 30],AS [.tmp 30],AT]
theorem qI:D9 iE=xZ:=by kernel_rfl
theorem eR (hsn:BZ call) {l:List AB} {v:Value} {m at_:Nat} (hn:l.length+3<n) (hlen:l.length<30000000000000) (hm:m<30000000000000) (hat:at_<l.length) (hmm:l.length<at_+1+m) (hv:AL h v l) (hval:∀ (i:Nat) x,l[i]?=some x→1≤x.kind∧x.kind≤54)
  (h108:∀ P K (k:Nat) h,1≤P∧P≤54→1≤K∧K≤54→call 108 [iv P,iv k,iv K] h=some (.bool (K6 (CB P) (CB K) k),h)) (h109:∀ k h,1≤k∧k≤54→call 109 [iv k] h=some (iv (DZ k),h))
  (h94:∀ p:Nat,at_<p→p<l.length→call 94 [v,iv p] h=some (.tuple #[iv (CX l m p).1,iv ((CX l m p).2:Int)],h)) :
  AW Tryd.prog call n 94 [v,iv at_] h=some (.tuple #[iv (CX l (m+1) at_).1,iv ((CX l (m+1) at_).2:Int)],h):=by
 refine DW Tryd.func94 rfl (by simp[Tryd.f94]) ?_
 have hr:Tryd.f94.results.toList=[.tmp 4,.tmp 5]:=rfl
 have hl22:∀ h',B_ Tryd.prog h' 22 v=some (.int .i64 l.length):=fun h'=>hv.len
 obtain⟨x,hx⟩:∃ x,l[at_]?=some x:=⟨_,List.getElem?_eq_getElem hat⟩
 obtain⟨id,q,e0,hid,l0,l1,l2,l3,l4,lr⟩:=hv.row hx
 have hkx:=hval at_ x hx
 have w1:=CK at_ (by omega)
 have hres:CX l (m+1) at_=((HX (CX l m) l x.kind x.kids.toNat 0 0 (at_+1)).1+DZ x.kind,(HX (CX l m) l x.kind x.kids.toNat 0 0 (at_+1)).2):=by rw[CX,hx]
 rw[hres]
 have hop:=fun h=>h109 x.kind h hkx
 have hopl:=SC x.kind
 have hRle:=l7 (g:=CX l m) (l:=l) (kind:=x.kind) (B:=2*(m:Int)) (lV m) x.kids.toNat 0 0 (at_+1) (Int.le_refl 0) (by omega)
 simp only[eE,seval,↓eP,rP,hr,w1]
 generalize hg0:HX (CX l m) l x.kind x.kids.toNat 0 0 (at_+1)=R at *
 refine WK.loop (fun i s=>s.h=h∧s.T.get 0=v∧s.T.get 1=iv at_∧s.T.get 6=iv i∧∃ (most:Int) (p:Nat),s.T.get 4=iv most∧s.T.get 5=iv p∧at_+1+i≤p∧p≤l.length∧0≤most∧most≤2*(m:Int)+1∧i≤x.kids.toNat∧HX (CX l m) l x.kind (x.kids.toNat-i) i most p=R) (l.length+2) (by omega) ?_ ?_
 ·simp only[eE,↓reduceIte,Nat.reduceEqDiff,reduceCtorEq,↓eP,rP,Nat.reduceAdd,Nat.reduceLT]
  exact⟨rfl,0,at_+1,rfl,rfl,by omega,by omega,by omega,by omega,by rw[Nat.sub_zero];exact hg0⟩
 ·rintro i ⟨T1,h1⟩ hi ⟨rfl,y0,y1,y6,most,p,y4,y5,hip,hp,hm0,hm1,hik,hR⟩
  simp only at y0 y1 y4 y5 y6
  have done:∀ T':Tr,T'.get 4=iv most→T'.get 5=iv p→R=(most,p)→True:=fun _ _ _ _=>trivial
  by_cases hlt:i<x.kids.toNat
  ·have c1:decide ((i:Int)<x.kids)=true:=by simp only[decide_eq_true_eq];omega
   obtain⟨r,hr1⟩:∃ r,x.kids.toNat-i=r+1:=⟨x.kids.toNat-i-1,by omega⟩
   rw[hr1] at hR
   by_cases hpl:p<l.length
   ·have c2:decide ((p:Int)<(l.length:Int))=true:=by simp only[decide_eq_true_eq];omega
    obtain⟨y,hy⟩:∃ y,l[p]?=some y:=⟨_,List.getElem?_eq_getElem hpl⟩
    obtain⟨id2,q2,f0,hid2,m0,m1,m2,m3,m4,mr⟩:=hv.row hy
    have hky:=hval p y hy
    have hL:=fun hh=>h108 x.kind y.kind i hh hkx hky
    have h94':=h94 p (by omega) hpl
    have hle:=lV (l:=l) m p
    have hnx:=Ju (l:=l) m p hpl
    have w5:=CK i (by omega)
    have hloI:=Y1 (CB x.kind) (CB y.kind) i
    have w6:IntKind.i64.wrap ((CX l m p).1+GD (CB x.kind) (CB y.kind) i)=(CX l m p).1+GD (CB x.kind) (CB y.kind) i:=CG (by omega) (by omega)
    have hstep:HX (CX l m) l x.kind (x.kids.toNat-(i+1)) (i+1) (if (CX l m p).1+GD (CB x.kind) (CB y.kind) i>most then (CX l m p).1+GD (CB x.kind) (CB y.kind) i else most) (CX l m p).2=R:=by
     rw[← hR,show x.kids.toNat-(i+1)=r by omega]
     simp only[HX,hy]
    simp only[eE,seval,↓eP,rP,y0,y1,y4,y5,y6,e0,l0,l4,c1,hl22,c2]
    refine WK.flags (ops:=iE) qI ?_
    refine CN.begin ?_
    refine AF hsn 0 (some 27) (.move (.tmp 0)) none ?_
    simp only[eE,seval,↓eP,rP,AD,AC,AE,rF,y0,y1,y4,y5,y6,e0,l0,f0,m0,hL]
    refine AF hsn 1 (some 28) (.move (.tmp 1)) none ?_
    simp only[eE,seval,↓eP,rP,AD,AC,AE,rF,y0,y1,y4,y5,y6,e0,l0,f0,m0,hL]
    refine AF hsn 2 (some 29) (.indexAddr 22 (.tmp 27) (.tmp 28)) none ?_
    simp only[eE,seval,↓eP,rP,AD,AC,AE,rF,y0,y1,y4,y5,y6,e0,l0,f0,m0,hL]
    refine AF hsn 3 (some 30) (.fieldAddr 46 (.tmp 29) 0) none ?_
    simp only[eE,seval,↓eP,rP,AD,AC,AE,rF,y0,y1,y4,y5,y6,e0,l0,f0,m0,hL]
    refine AF hsn 4 (some 31) (.load 3 (.tmp 30)) none ?_
    simp only[eE,seval,↓eP,rP,AD,AC,AE,rF,y0,y1,y4,y5,y6,e0,l0,f0,m0,hL]
    refine AF hsn 5 (some 32) (.move (.tmp 6)) none ?_
    simp only[eE,seval,↓eP,rP,AD,AC,AE,rF,y0,y1,y4,y5,y6,e0,l0,f0,m0,hL]
    refine AF hsn 6 (some 33) (.move (.tmp 0)) none ?_
    simp only[eE,seval,↓eP,rP,AD,AC,AE,rF,y0,y1,y4,y5,y6,e0,l0,f0,m0,hL]
    refine AF hsn 7 (some 34) (.move (.tmp 5)) none ?_
    simp only[eE,seval,↓eP,rP,AD,AC,AE,rF,y0,y1,y4,y5,y6,e0,l0,f0,m0,hL]
    refine AF hsn 8 (some 35) (.indexAddr 22 (.tmp 33) (.tmp 34)) none ?_
    simp only[eE,seval,↓eP,rP,AD,AC,AE,rF,y0,y1,y4,y5,y6,e0,l0,f0,m0,hL]
    refine AF hsn 9 (some 36) (.fieldAddr 46 (.tmp 35) 0) none ?_
    simp only[eE,seval,↓eP,rP,AD,AC,AE,rF,y0,y1,y4,y5,y6,e0,l0,f0,m0,hL]
    refine AF hsn 10 (some 37) (.load 3 (.tmp 36)) none ?_
    simp only[eE,seval,↓eP,rP,AD,AC,AE,rF,y0,y1,y4,y5,y6,e0,l0,f0,m0,hL]
    refine AF hsn 11 (some 38) (.call { callee:=.value (.func 108),args:=#[.tmp 31,.tmp 32,.tmp 37],argTypes:=#[3,3,3] }) none ?_
    simp only[eE,seval,↓eP,rP,AD,AC,AE,rF,y0,y1,y4,y5,y6,e0,l0,f0,m0,hL]
    refine CN.done (i:=12) (by kernel_rfl) ?_
    cases hlo:K6 (CB x.kind) (CB y.kind) i with
    | false=>
     have hI:GD (CB x.kind) (CB y.kind) i=0:=by unfold GD;rw[hlo];rfl
     rw[hI] at w6 hstep
     simp only[eE,seval,↓eP,rP,y0,y1,y4,y5,y6,h94',w5,w6]
     exact⟨by omega,_,_,rfl,rfl,by omega,by omega,by split <;> omega,by split <;> omega,by omega,hstep⟩
    | true=>
     have hI:GD (CB x.kind) (CB y.kind) i=1:=by unfold GD;rw[hlo];rfl
     rw[hI] at w6 hstep
     simp only[eE,seval,↓eP,rP,y0,y1,y4,y5,y6,h94',w5,w6]
     exact⟨by omega,_,_,rfl,rfl,by omega,by omega,by split <;> omega,by split <;> omega,by omega,hstep⟩
   ·have c2:decide ((p:Int)<(l.length:Int))=false:=by simp only[decide_eq_false_iff_not];omega
    have hRe:R=(most,p):=by
     rw[← hR]
     simp only[HX,List.getElem?_eq_none (Nat.le_of_not_lt hpl)]
    subst hRe
    have w7:IntKind.i64.wrap (most+DZ x.kind)=most+DZ x.kind:=CG (by omega) (by omega)
    simp only[eE,seval,↓eP,rP,hr,y0,y1,y4,y5,y6,e0,l0,l4,c1,hl22,c2,hop,w7]
  ·have c1:decide ((i:Int)<x.kids)=false:=by simp only[decide_eq_false_iff_not];omega
   have hRe:R=(most,p):=by
    rw[← hR,show x.kids.toNat-i=0 by omega]
    rfl
   subst hRe
   have w7:IntKind.i64.wrap (most+DZ x.kind)=most+DZ x.kind:=CG (by omega) (by omega)
   simp only[eE,seval,↓eP,rP,hr,y0,y1,y4,y5,y6,e0,l0,l4,c1,hop,w7]
end
def cG (l:List AB) (i:Nat):Prop:=∃ x,l[i]?=some x∧1≤x.kind∧x.kind≤54
theorem Y5 {g:Nat→Nat→Nat × Bool} {V:Nat→Prop} (hg:∀ k p,(g k p).2=true→∀ i,p≤i→i<(g k p).1→V i):∀ r k p,(EF g r k p).2=true→∀ i,p≤i→i<(EF g r k p).1→V i:=by
 intro r
 induction r with
 | zero=>intro k p _ i h1 h2;exact absurd (show i<p from h2) (by omega)
 | succ r ih=>
  intro k p h i h1 h2
  unfold EF at h h2
  split at h
  ·rename_i hc
   rw[if_pos hc] at h2
   rcases Nat.lt_or_ge i (g k p).1 with h3 | h3
   ·exact hg k p hc i h1 h3
   ·exact ih _ _ h i h3 h2
  ·cases h
theorem sB {l:List AB}:∀ m at_ what,(BQ AR l m at_ what).2=true→∀ i,at_≤i→i<(BQ AR l m at_ what).1→cG l i:=by
 intro m
 induction m with
 | zero=>intro at_ what h;cases h
 | succ m ih=>
  intro at_ what
  unfold BQ
  cases hx:l[at_]? with
  | none=>intro h;cases h
  | some x=>
   simp only
   split
   ·rename_i hc
    intro h i h1 h2
    rcases Nat.lt_or_ge at_ i with h3 | h3
    ·exact Y5 (V:=cG l) (fun k p hk i h1 h2=>ih p (BT x.kind k) hk i h1 h2) x.kids.toNat 0 (at_+1) h i h3 h2
    ·have:i=at_:=by omega
     subst this
     exact⟨x,hx,PK (Bool.and_eq_true_iff.1 hc).1⟩
   ·intro h;cases h
theorem xJ {l:List AB} {m:Nat}:∀ r ev p,(D7 AR l m r ev p).2=true→∀ i,p≤i→i<(D7 AR l m r ev p).1→cG l i:=by
 intro r
 induction r with
 | zero=>intro ev p _ i h1 h2;exact absurd (show i<p from h2) (by omega)
 | succ r ih=>
  intro ev p h i h1 h2
  unfold D7 at h h2
  split at h
  ·rename_i hc
   rw[if_pos hc] at h2
   rcases Nat.lt_or_ge i (BQ AR l m p (GX ev l[p]?)).1 with h3 | h3
   ·exact sB m p _ hc i h1 h3
   ·exact ih _ _ h i h3 h2
  ·cases h
theorem lX {l:List AB} (h:G8 AR l=none):∀ (i:Nat) x,l[i]?=some x→1≤x.kind∧x.kind≤54:=by
 unfold G8 at h
 split at h
 ·rename_i hc
  obtain⟨h1,h2⟩:=hc
  intro i x hx
  have hlt:=(List.getElem?_eq_some_iff.1 hx).1
  unfold GO at h1 h2
  cases h0:l[0]? with
  | none=>rw[h0] at h1;cases h1
  | some y=>
   rw[h0] at h1 h2
   simp only at h1 h2
   split at h1
   ·rename_i hc
    rw[if_pos hc] at h2
    rcases Nat.eq_zero_or_pos i with rfl | hp
    ·rw[h0] at hx
     cases hx
     exact PK (Bool.and_eq_true_iff.1 hc).1
    ·obtain⟨z,hz,hv⟩:=xJ y.kids.toNat false 1 h1 i hp (by omega)
     rw[hx] at hz
     cases hz
     exact hv
   ·cases h1
 ·cases h
theorem XH {l:List AB} (h:G8 AR l=none):0<l.length:=by
 rcases Nat.eq_zero_or_pos l.length with h0 | h0
 ·have:l=[]:=List.length_eq_zero_iff.1 h0
  subst this
  revert h
  unfold G8 GO
  simp
 ·exact h0
theorem NZ:BP Tryd.prog 33=some 2:=by kernel_rfl
theorem vJ:FK Tryd.prog 33=some true:=by kernel_rfl
theorem HT:DI Tryd.prog 33=some (.agg #[.int .i64 0,.int .i64 0]):=by kernel_rfl
theorem Y6:G6 Tryd.prog (match Tryd.prog.underlying 33 with | some (.struct fs)=>fs.toList | _=>[])=some [(0,1),(1,1)]:=by kernel_rfl
abbrev FI (e a:Int):Value:=.agg #[.int .i64 e,.int .i64 a]
theorem HP {e a:Int}:flat (FI e a)=true:=rfl
theorem OA {e a:Int}:DR Tryd.prog 33 [(0,.int .i64 e),(1,.int .i64 a)]=some (FI e a):=by
 have h:=Y6
 rw[Tryd.underlying33] at h
 simp only at h
 simp only[DR,HT,HP,if_true,Tryd.underlying33,h]
 rfl
theorem dM {e:Int}:DR Tryd.prog 33 [(0,.int .i64 e)]=some (FI e 0):=by
 have h:=Y6
 rw[Tryd.underlying33] at h
 simp only at h
 simp only[DR,HT,HP,if_true,Tryd.underlying33,h]
 rfl
theorem TJ:DR Tryd.prog 33 []=some (FI 0 0):=by
 have h:=Y6
 rw[Tryd.underlying33] at h
 simp only at h
 simp only[DR,HT,HP,if_true,Tryd.underlying33,h]
 rfl
noncomputable def cM (h:AA) (id:Nat) (a b:Int):BB→Option AA
 | .row [_,_] ty g false=>if h.floor≤id then some (h.put id (.row [.int .i64 a,.int .i64 b] ty g false)) else none
 | _=>BW Tryd.prog h 33 (qP id 0) (FI a b)
theorem PE {h:AA} {id:Nat} {a b:Int}:BW Tryd.prog h 33 (qP id 0) (FI a b)=cM h id a b (h.get id):=by
 cases hg:h.get id with
 | dead=>rfl
 | map _=>rfl
 | row cs ty g ro=>
  match cs,ro with
  | [c,d],false=>
   simp only[cM]
   split
   ·rename_i hf
    simp[BW,NZ,GL,hg,hf,Go.Sx.lay,Value.cells,one]
   ·rename_i hf
    simp[BW,NZ,GL,hg,hf,Go.Sx.lay,Value.cells,one]
  | [c,d],true=>rfl
  | [],ro=>rfl
  | [c],ro=>rfl
  | c :: d :: e :: l,ro=>rfl
theorem PM {h:AA} {id:Nat} {a b:Int} {x y:Value} {ty:TypeId} {g:Bool}:cM h id a b (.row [x,y] ty g false)=if h.floor≤id then some (h.put id (.row [.int .i64 a,.int .i64 b] ty g false)) else none:=rfl
theorem JT {h:AA} {id off:Nat}:EO Tryd.prog h 33 (qP id off)=CD 2 off (h.get id):=OC vJ NZ
theorem OO {a b:Value} {ty:TypeId} {g ro:Bool}:CD 2 0 (.row [a,b] ty g ro)=some (.agg #[a,b]):=rfl
theorem iT (k:Int) (h:AA) (hk:1≤k∧k≤54):L0 118 [iv k] h=some (iv (CB k),h):=EG rfl rfl rfl rfl (HJ pI hk)
theorem kA (P Q:Int) (k:Nat) (h:AA) (hP:1≤P∧P≤54) (hQ:1≤Q∧Q≤54):L1 108 [iv P,iv k,iv Q] h=some (.bool (K6 (CB P) (CB Q) k),h):=
 EG (F1 rfl rfl) rfl rfl rfl ⟨_,Ia (EY (iT P _ hP)) (EY (iT Q _ hQ))⟩
theorem z8 {l:List AB} {m:Nat}:(GO AR l m).1≤l.length:=by
 unfold GO
 split
 ·exact Nat.zero_le _
 ·rename_i x hx
  have:=(List.getElem?_eq_some_iff.1 hx).1
  split
  ·exact nR _ _ _ this
  ·exact Nat.zero_le _
def BF (l:List AB):Int × Int:=match G8 AR l with
 | some p=>(23,(p:Int))
 | none=>if (CX l (l.length+1) 0).1>64 then (22,0) else (0,0)
section
variable {call:AK} {n:Nat}
theorem cU {l:List AB} {v:Value} {h:AA} {m:Nat} (hv:AL h v l) (hpos:0<l.length) (h94:call 94 [v,iv 0] h=some (.tuple #[iv (CX l m 0).1,iv ((CX l m 0).2:Int)],h)) :
  AW Tryd.prog call n 74 [v] h=some (iv (CX l m 0).1,h):=by
 refine DW Tryd.func74 rfl (by simp[Tryd.f74]) ?_
 have hr:Tryd.f74.results.toList=[.tmp 2]:=rfl
 have hl22:∀ h',B_ Tryd.prog h' 22 v=some (.int .i64 l.length):=fun h'=>hv.len
 have c0:((l.length:Int)==0)=false:=by rw[beq_eq_false_iff_ne];omega
 simp only[eE,seval,↓eP,rP,hr,hl22,c0,h94]
theorem lC {l:List AB} {v:Value} {h:AA} (hv:AL h v l) (hg:h.get 0=DK) (hn0:0<h.next) (hfl:h.floor≤h.next)
  (h73:∀ h',AL h' v l→h'.get 0=DK→0<h'.next→h'.floor≤h'.next→call 73 [v,iv 0,iv 8] h'=some (.tuple #[iv ((GO AR l (l.length+1)).1:Int),.bool (GO AR l (l.length+1)).2],h'))
  (h74:G8 AR l=none→∀ h',AL h' v l→call 74 [v] h'=some (iv (CX l (l.length+1) 0).1,h')) :
  ∃ h1,AW Tryd.prog call n 30 [v] h=some (FI (BF l).1 (BF l).2,h1)∧∀ i,i<h.next→h1.get i=h.get i:=by
 refine E0 (R:=fun h1=>∀ i,i<h.next→h1.get i=h.get i) Tryd.func30 rfl (by simp[Tryd.f30]) ?_
 have hr:Tryd.f30.results.toList=[.cell 2 33]:=rfl
 have hl22:∀ h',B_ Tryd.prog h' 22 v=some (.int .i64 l.length):=fun h'=>hv.len
 have hold:∀ o:BB,∀ i,i<h.next→(h.push o).get i=h.get i:=fun o i hi=>AM hi
 have hvp:=hv.mono (h':=h.push (.row [.int .i64 0,.int .i64 0] 33 false false)) (by show h.next≤h.next+1;omega) (hold _)
 have h73':=h73 _ hvp (by rw[hold _ 0 hn0];exact hg) (by show 0<h.next+1;omega) (by show h.floor≤h.next+1;omega)
 have hflT:(h.floor≤h.next)=True:=by simpa using hfl
 have hltT:(h.next<h.next+1)=True:=by simp
 have hvq:=fun o=>(hvp.mono (h':=(h.push (.row [.int .i64 0,.int .i64 0] 33 false false)).put h.next o) (by show h.next+1≤h.next+1;omega))
 have hle:=z8 (l:=l) (m:=l.length+1)
 unfold BF
 cases hs:G8 AR l with
 | some p=>
  unfold G8 at hs
  split at hs
  ·cases hs
  ·rename_i hc
   generalize GO AR l (l.length+1)=q at *
   cases hs
   cases q2:q.2 with
   | false=>
    rw[q2] at h73'
    simp only[eE,seval,↓eP,rP,hr,PJ,HT,HP,h73',OA,PE,PM,JT,OO,hflT,hltT]
    intro i hi
    rw[if_neg (by omega),if_neg (by omega)]
   | true=>
    rw[q2] at h73' hc
    have c1:decide ((q.1:Int)<(l.length:Int))=true:=by
     simp only[decide_eq_true_eq]
     have:q.1≠l.length:=fun h=>hc ⟨rfl,h⟩
     omega
    simp only[eE,seval,↓eP,rP,hr,hl22,c1,PJ,HT,HP,h73',OA,PE,PM,JT,OO,hflT,hltT]
    intro i hi
    rw[if_neg (by omega),if_neg (by omega)]
 | none=>
  have h74':=h74 hs _ hvp
  unfold G8 at hs
  split at hs
  ·rename_i hc
   generalize GO AR l (l.length+1)=q at *
   obtain⟨q2,q1⟩:=hc
   rw[q2] at h73'
   have c1:decide ((q.1:Int)<(l.length:Int))=false:=by simp only[decide_eq_false_iff_not];omega
   cases c2:decide ((CX l (l.length+1) 0).1>64) with
   | true=>
    rw[if_pos (by simpa using c2)]
    simp only[eE,seval,↓eP,rP,hr,hl22,c1,c2,PJ,HT,HP,h73',h74',dM,PE,PM,JT,OO,hflT,hltT]
    intro i hi
    rw[if_neg (by omega),if_neg (by omega)]
   | false=>
    rw[if_neg (by simpa using c2)]
    simp only[eE,seval,↓eP,rP,hr,hl22,c1,c2,PJ,HT,HP,h73',h74',TJ,PE,PM,JT,OO,hflT,hltT]
    intro i hi
    rw[if_neg (by omega),if_neg (by omega)]
  ·cases hs
end
def D_ (l:List AB) (at_ q:Nat):Prop:=(∃ m what,BQ AR l m at_ what=(q,true))∨(at_=0∧∃ m,GO AR l m=(q,true))
def EU (l:List AB):Nat→Nat→Nat→Prop
 | 0,p,q=>p=q
 | r+1,p,q=>∃ p',D_ l p p'∧p<p'∧p'≤l.length∧EU l r p' q
theorem uL {l:List AB} {m:Nat} {κ:Int}:∀ r k p q,EF (fun k next=>BQ AR l m next (BT κ k)) r k p=(q,true)→EU l r p q:=by
 intro r
 induction r with
 | zero=>intro k p q h;exact congrArg (·.1) h
 | succ r ih=>
  intro k p q h
  unfold EF at h
  split at h
  ·rename_i hc
   have hle:=QM (isName:=AR) (l:=l) m p (BT κ k) hc
   refine⟨(BQ AR l m p (BT κ k)).1,.inl ⟨m,BT κ k,Prod.ext rfl hc⟩,hle.1,hle.2,ih _ _ _ h⟩
  ·cases h
theorem Bs {l:List AB} {m:Nat}:∀ r ev p q,D7 AR l m r ev p=(q,true)→EU l r p q:=by
 intro r
 induction r with
 | zero=>intro ev p q h;exact congrArg (·.1) h
 | succ r ih=>
  intro ev p q h
  unfold D7 at h
  split at h
  ·rename_i hc
   have hle:=QM (isName:=AR) (l:=l) m p (GX ev l[p]?) hc
   exact⟨(BQ AR l m p (GX ev l[p]?)).1,.inl ⟨m,_,Prod.ext rfl hc⟩,hle.1,hle.2,ih _ _ _ h⟩
  ·cases h
theorem H5 {l:List AB}:∀ r p q,EU l r p q→p+r≤q:=by
 intro r
 induction r with
 | zero=>intro p q h;have:p=q:=h;omega
 | succ r ih=>intro p q ⟨p',_,h1,_,h2⟩;have:=ih _ _ h2;omega
theorem Gk {l:List AB}:∀ r p q,p≤l.length→EU l r p q→q≤l.length:=by
 intro r
 induction r with
 | zero=>intro p q hp h;have:p=q:=h;omega
 | succ r ih=>intro p q hp ⟨p',_,h1,h3,h2⟩;exact ih _ _ h3 h2
theorem D_.kids {l:List AB} {at_ q:Nat} (h:D_ l at_ q):∃ x,l[at_]?=some x∧0≤x.kids∧(1≤x.kind∧x.kind≤54)∧EU l x.kids.toNat (at_+1) q:=by
 have kids0:∀ x,DE AR x=true→0≤x.kids:=fun x hf=>by
  unfold DE at hf
  simp only[Bool.and_eq_true,decide_eq_true_eq] at hf
  have:=O4 x.kind
  omega
 rcases h with⟨m,what,h⟩ | ⟨rfl,m,h⟩
 ·cases m with
  | zero=>cases h
  | succ m=>
   cases hx:l[at_]? with
   | none=>rw[YO hx] at h;cases h
   | some x=>
    rw[WT hx] at h
    split at h
    ·rename_i hc
     simp only[Bool.and_eq_true] at hc
     exact⟨x,rfl,kids0 x hc.2,PK hc.1,uL _ _ _ _ h⟩
    ·cases h
 ·cases hx:l[0]? with
  | none=>rw[ZS hx] at h;cases h
  | some x=>
   rw[TQ hx] at h
   split at h
   ·rename_i hc
    simp only[Bool.and_eq_true] at hc
    exact⟨x,rfl,kids0 x hc.2,PK hc.1,Bs _ _ _ _ h⟩
   ·cases h
theorem D_.lt {l:List AB} {at_ q:Nat} (h:D_ l at_ q):at_<q∧q≤l.length:=by
 obtain⟨x,hx,_,_,hc⟩:=h.kids
 have hlt:=(List.getElem?_eq_some_iff.1 hx).1
 have:=H5 _ _ _ hc
 exact⟨by omega,Gk _ _ _ hlt hc⟩
theorem D_.unique {l:List AB}:∀ (n at_:Nat) {q q':Nat},l.length≤at_+n→D_ l at_ q→D_ l at_ q'→q=q':=by
 intro n
 induction n with
 | zero=>intro at_ q q' hn h h';have:=h.lt;omega
 | succ n ih=>
  intro at_ q q' hn h h'
  obtain⟨x,hx,_,_,hc⟩:=h.kids
  obtain⟨y,hy,_,_,hc'⟩:=h'.kids
  rw[hx] at hy
  cases hy
  have key:∀ r p a b,at_<p→EU l r p a→EU l r p b→a=b:=by
   intro r
   induction r with
   | zero=>intro p a b _ h1 h2;exact(show p=a from h1).symm.trans (show p=b from h2)
   | succ r ihr=>
    intro p a b hp ⟨p1,s1,_,_,c1⟩ ⟨p2,s2,_,_,c2⟩
    have:p1=p2:=ih p (by omega) s1 s2
    subst this
    have:=s1.lt
    exact ihr p1 a b (by omega) c1 c2
  exact key _ _ _ _ (by omega) hc hc'
theorem D_.cover {l:List AB}:∀ (n:Nat) {at_ q:Nat},q≤at_+n→D_ l at_ q→∀ i,at_≤i→i<q→∃ qi,D_ l i qi∧qi≤q:=by
 intro n
 induction n with
 | zero=>intro at_ q hn h;have:=h.lt;omega
 | succ n ih=>
  intro at_ q hn h i h1 h2
  rcases Nat.eq_or_lt_of_le h1 with rfl | h3
  ·exact⟨q,h,Nat.le_refl q⟩
  ·obtain⟨x,hx,_,_,hc⟩:=h.kids
   have key:∀ r p,at_<p→p≤i→EU l r p q→∃ qi,D_ l i qi∧qi≤q:=by
    intro r
    induction r with
    | zero=>intro p _ hp hc;have:p=q:=hc;omega
    | succ r ihr=>
     intro p hp0 hp ⟨p',s,hlt,_,c⟩
     have hpq:=H5 _ _ _ c
     rcases Nat.lt_or_ge i p' with h4 | h4
     ·obtain⟨qi,s1,s2⟩:=ih (by omega) s i hp h4
      exact⟨qi,s1,by omega⟩
     ·exact ihr p' (by omega) h4 c
   exact key _ _ (by omega) h3 hc
def CU (l:List AB):Prop:=D_ l 0 l.length
theorem QS {l:List AB} (h:G8 AR l=none):CU l:=by
 unfold G8 at h
 split at h
 ·rename_i hc
  exact .inr ⟨rfl,l.length+1,Prod.ext hc.2 hc.1⟩
 ·cases h
theorem CU.pos {l:List AB} (h:CU l):0<l.length:=h.lt.1
theorem CU.sub {l:List AB} (h:CU l) {i:Nat} (hi:i<l.length):∃ q,D_ l i q:=by
 obtain⟨q,hq,_⟩:=D_.cover l.length (by omega) h i (Nat.zero_le i) hi
 exact⟨q,hq⟩
open Classical in
noncomputable def BV (l:List AB) (i:Nat):Nat:=if h:∃ q,D_ l i q then h.choose else 0
theorem OW {l:List AB} {i q:Nat} (h:D_ l i q):BV l i=q:=by
 unfold BV
 have hx:∃ q,D_ l i q:=⟨q,h⟩
 rw[dif_pos hx]
 exact D_.unique l.length i (by omega) hx.choose_spec h
theorem CU.end {l:List AB} (h:CU l) {i:Nat} (hi:i<l.length):D_ l i (BV l i):=by
 obtain⟨q,hq⟩:=h.sub hi
 rw[OW hq]
 exact hq
noncomputable def AI (l:List AB):List Int:=(List.range l.length).map fun i=>(BV l i:Int)
theorem MF {l:List AB} {i:Nat} (hi:i<l.length):(AI l)[i]?=some (BV l i:Int):=by simp[AI,hi]
theorem OM {l:List AB}:(AI l).length=l.length:=by simp[AI]
def ints (l:List Int):List Value:=l.map (.int .i64 ·)
theorem S4 (l:List Int) (i:Nat):(ints l)[i]?=(l[i]?).map (.int .i64 ·):=by simp[ints]
theorem FH (l:List Int):(ints l).length=l.length:=by simp[ints]
theorem RI (l:List Int):(ints l).all one=true:=by simp[ints,one]
theorem TH (l:List Int) (i:Nat) (x:Int):(ints l).set i (.int .i64 x)=ints (l.set i x):=by simp[ints,List.map_set]
theorem KH:G_ Tryd.prog 3=some 8:=by kernel_rfl
theorem I3:DI Tryd.prog 3=some (.int .i64 0):=by kernel_rfl
theorem kO:∀ n,ER [Value.int .i64 0] n=ints (List.replicate n 0)
 | 0=>rfl
 | n+1=>by rw[ER,kO n];simp[ints,List.replicate_succ]
theorem SA {h:AA} {n:Nat} (hn:n<30000000000000):MK Tryd.prog h 28 (.int .i64 (n:Int)) (.int .i64 (n:Int))=some (qS h.next n n,h.push (.row (ints (List.replicate n 0)) 3 false false)):=by
 have hz:(Value.int .i64 0).cells=#[.int .i64 0]:=rfl
 simp only[MK,Tryd.underlying28,CT,I3,KH,hz,U5]
 rw[if_pos (by simp;omega)]
 simp[kO]
theorem GJ {id n c i:Nat} (hi:i<n):CY Tryd.prog 28 (qS id n c) (.int .i64 (i:Int))=some (qP id i):=by
 simp only[CY,Tryd.underlying28,CT,CI]
 rw[if_pos (by omega)]
 simp
theorem JV {l:List Int} {i:Nat} {x:Int} {ty:TypeId} {g ro:Bool} (hx:l[i]?=some x):AO i (.row (ints l) ty g ro)=some (.int .i64 x):=by
 simp[AO,S4,hx]
theorem ZL {cs:List Value} {off:Nat} {v:Value} (h:off<cs.length):Go.Sx.lay cs off [v]=cs.set off v:=by
 apply List.ext_getElem?
 intro k
 rw[MM (by simp;omega),List.getElem?_set]
 by_cases hk:off=k
 ·subst hk
  simp[h]
 ·rw[if_neg (by simp;omega),if_neg hk]
theorem PP {h:AA} {id i:Nat} {l:List Int} {x:Int} {ty:TypeId} {g:Bool} (hg:h.get id=.row (ints l) ty g false) (hi:i<l.length) (hf:h.floor≤id):BW Tryd.prog h 3 (qP id i) (.int .i64 x)=some (h.put id (.row (ints (l.set i x)) ty g false)):=by
 have hc:(Value.int .i64 x).cells=#[.int .i64 x]:=rfl
 simp only[BW,hc,CT,GL,hg]
 have hsz:(some 1:Option Nat)=some (#[Value.int .i64 x]:Array Value).size:=rfl
 rw[if_pos hsz,if_pos (by simp[one,FH];omega),ZL (by rw[FH];exact hi),TH]
def LS (L l:List AB):Prop:=L.length=l.length∧∀ (i:Nat) x,l[i]?=some x→∃ y,L[i]?=some y∧y.kids=x.kids
theorem f8 (l:List AB):LS l l:=⟨rfl,fun i x h=>⟨x,h,rfl⟩⟩
section
variable {call:AK} {n:Nat}
theorem aX {l L:List AB} {v:Value} {h:AA} (ht:CU l) (hsk:LS L l) (hv:AL h v L) (hlen:l.length<30000000000000) (hn:l.length+3<n) (hfl:h.floor≤h.next) :
  ∃ h',AW Tryd.prog call n 49 [v] h=some (qS h.next l.length l.length,h')∧(h'.get h.next=.row (ints (AI l)) 3 false false∧h'.next=h.next+1∧h'.floor=h.floor∧∀ i,i<h.next→h'.get i=h.get i):=by
 refine E0 (R:=fun h'=>h'.get h.next=.row (ints (AI l)) 3 false false∧h'.next=h.next+1∧h'.floor=h.floor∧∀ i,i<h.next→h'.get i=h.get i) Tryd.func49 rfl (by simp[Tryd.f49]) ?_
 have hr:Tryd.f49.results.toList=[.tmp 2]:=rfl
 have hl22:∀ h',B_ Tryd.prog h' 22 v=some (.int .i64 l.length):=fun h'=>by rw[← hsk.1];exact hv.len
 have hpos:=ht.pos
 have w0:IntKind.i64.wrap ((l.length:Int)-1)=(l.length:Int)-1:=CG (by omega) (by omega)
 simp only[eE,seval,↓eP,rP,hr,hl22,SA hlen,w0]
 refine WK.loop (fun j s=>s.T.get 0=v∧s.T.get 3=qS h.next l.length l.length∧s.T.get 4=iv ((l.length:Int)-1-(j:Int))∧s.h.next=h.next+1∧s.h.floor=h.floor∧(∀ i,i<h.next→s.h.get i=h.get i) ∧
  ∃ E:List Int,E.length=l.length∧s.h.get h.next=.row (ints E) 3 false false∧∀ i,l.length-j≤i→i<l.length→E[i]?=some (BV l i:Int)) l.length (by omega) ?_ ?_
 ·simp only[eE,seval,↓eP,rP]
  refine⟨by omega,fun i hi=>by rw[if_neg (by omega)],List.replicate l.length 0,by simp,rfl,fun i h1 h2=>by omega⟩
 ·rintro j ⟨T1,h1⟩ hj ⟨t0,t3,t4,hnx,hf1,hold,E,hE,hgE,hEv⟩
  simp only at t0 t3 t4 hnx hf1 hold hgE
  by_cases hlt:j<l.length
  ·obtain⟨at_,hat⟩:∃ a:Nat,(l.length:Int)-1-(j:Int)=(a:Int):=⟨l.length-1-j,by omega⟩
   have hatl:at_<l.length:=by omega
   rw[hat] at t4
   have c1:decide ((at_:Int)≥0)=true:=by simp
   have w1:=CK at_ (by omega)
   have w2:IntKind.i64.wrap ((at_:Int)-1)=(l.length:Int)-1-((j+1:Nat):Int):=by rw[CG (by omega) (by omega)];omega
   have hsub:=ht.end hatl
   obtain⟨x,hx,hk0,hkk,hchain⟩:=hsub.kids
   have hv1:AL h1 v L:=hv.mono (by omega) hold
   obtain⟨y,hy,hyk⟩:=hsk.2 at_ x hx
   obtain⟨id,q,e0,hid,l0,l1,l2,l3,l4,lr⟩:=hv1.row hy
   rw[hyk] at l4
   have hcl:=H5 _ _ _ hchain
   have hel:=hsub.lt
   simp only[eE,seval,↓eP,rP,t0,t3,t4,c1,w1,e0,l4]
   refine WK.loop (fun k s=>s.h=h1∧s.T.get 0=v∧s.T.get 3=qS h.next l.length l.length∧s.T.get 4=iv at_∧s.T.get 23=iv k∧s.T.get 22=.int .i64 x.kids∧∃ p:Nat,s.T.get 5=iv p∧at_<p∧k≤x.kids.toNat∧EU l (x.kids.toNat-k) p (BV l at_)) x.kids.toNat (by omega) ?_ ?_
   ·simp only[eE,↓reduceIte,Nat.reduceEqDiff,reduceCtorEq,↓eP,rP,Nat.reduceAdd,Nat.reduceLT,t0,t3,t4]
    refine⟨rfl,at_+1,rfl,by omega,by rw[Nat.sub_zero];exact hchain⟩
   ·rintro k ⟨T2,h2⟩ hk ⟨rfl,u0,u3,u4,u23,u22,p,u5,hp,hkk2,hch⟩
    simp only at u0 u3 u4 u23 u22 u5
    by_cases hlt2:k<x.kids.toNat
    ·have c2:decide ((k:Int)<x.kids)=true:=by simp only[decide_eq_true_eq];omega
     obtain⟨r,hr1⟩:∃ r,x.kids.toNat-k=r+1:=⟨x.kids.toNat-k-1,by omega⟩
     rw[hr1] at hch
     obtain⟨p',s1,s2,s3,s4⟩:=hch
     have hEp:=hEv p (by omega) (by omega)
     rw[OW s1] at hEp
     have w5:=CK k (by omega)
     simp only[eE,seval,↓eP,rP,u0,u3,u4,u23,u22,u5,c2,GJ (show p<l.length by omega),hgE,JV hEp,w5]
     exact⟨hlt2,p',rfl,by omega,by omega,by rw[show x.kids.toNat-(k+1)=r by omega];exact s4⟩
    ·have c2:decide ((k:Int)<x.kids)=false:=by simp only[decide_eq_false_iff_not];omega
     rw[show x.kids.toNat-k=0 by omega] at hch
     have hpe:p=BV l at_:=hch
     have hst:=PP (x:=(p:Int)) hgE (show at_<E.length by omega) (by rw[hf1];exact hfl)
     have hnx':h2.next=h.next+1:=hnx
     have hltT:(h.next<h2.next)=True:=by rw[hnx'];simp
     simp only[eE,seval,↓eP,rP,u0,u3,u4,u23,u22,u5,c2,GJ hatl,hst,w2,hltT]
     refine⟨hlt,hnx,hf1,fun i hi=>by rw[if_neg (by omega)];exact hold i hi,E.set at_ (p:Int),by rw[List.length_set];exact hE,rfl,fun i h1 h2=>?_⟩
     rw[List.getElem?_set]
     by_cases hia:at_=i
     ·subst hia
      rw[if_pos rfl,if_pos (by omega),hpe]
     ·rw[if_neg hia]
      exact hEv i (by omega) h2
  ·have c1:decide ((l.length:Int)-1-(j:Int)≥0)=false:=by simp only[decide_eq_false_iff_not];omega
   have hEe:E=AI l:=by
    apply List.ext_getElem?
    intro i
    by_cases hi:i<l.length
    ·rw[hEv i (by omega) hi,MF hi]
    ·rw[List.getElem?_eq_none (by omega),List.getElem?_eq_none (by rw[OM];omega)]
   subst hEe
   simp only[eE,seval,↓eP,rP,hr,t0,t3,t4,c1]
   exact⟨hgE,hnx,hf1,hold⟩
theorem lK {l L:List AB} {v:Value} {h:AA} (ht:CU l) (hsk:LS L l) (hv:AL h v L) (hlen:l.length<30000000000000) (hn:l.length+3<n) (hfl:h.floor≤h.next) :
  ∃ h',AW Tryd.prog call n 56 [v] h=some (qS h.next l.length l.length,h')∧(h'.get h.next=.row (ints (AI l)) 3 false false∧h'.next=h.next+1∧h'.floor=h.floor∧∀ i,i<h.next→h'.get i=h.get i):=by
 refine E0 (R:=fun h'=>h'.get h.next=.row (ints (AI l)) 3 false false∧h'.next=h.next+1∧h'.floor=h.floor∧∀ i,i<h.next→h'.get i=h.get i) Tryd.func56 rfl (by simp[Tryd.f56]) ?_
 have hr:Tryd.f56.results.toList=[.tmp 2]:=rfl
 have hl22:∀ h',B_ Tryd.prog h' 22 v=some (.int .i64 l.length):=fun h'=>by rw[← hsk.1];exact hv.len
 have hpos:=ht.pos
 have w0:IntKind.i64.wrap ((l.length:Int)-1)=(l.length:Int)-1:=CG (by omega) (by omega)
 simp only[eE,seval,↓eP,rP,hr,hl22,SA hlen,w0]
 refine WK.loop (fun j s=>s.T.get 0=v∧s.T.get 3=qS h.next l.length l.length∧s.T.get 4=iv ((l.length:Int)-1-(j:Int))∧s.h.next=h.next+1∧s.h.floor=h.floor∧(∀ i,i<h.next→s.h.get i=h.get i) ∧
  ∃ E:List Int,E.length=l.length∧s.h.get h.next=.row (ints E) 3 false false∧∀ i,l.length-j≤i→i<l.length→E[i]?=some (BV l i:Int)) l.length (by omega) ?_ ?_
 ·simp only[eE,seval,↓eP,rP]
  refine⟨by omega,fun i hi=>by rw[if_neg (by omega)],List.replicate l.length 0,by simp,rfl,fun i h1 h2=>by omega⟩
 ·rintro j ⟨T1,h1⟩ hj ⟨t0,t3,t4,hnx,hf1,hold,E,hE,hgE,hEv⟩
  simp only at t0 t3 t4 hnx hf1 hold hgE
  by_cases hlt:j<l.length
  ·obtain⟨at_,hat⟩:∃ a:Nat,(l.length:Int)-1-(j:Int)=(a:Int):=⟨l.length-1-j,by omega⟩
   have hatl:at_<l.length:=by omega
   rw[hat] at t4
   have c1:decide ((at_:Int)≥0)=true:=by simp
   have w1:=CK at_ (by omega)
   have w2:IntKind.i64.wrap ((at_:Int)-1)=(l.length:Int)-1-((j+1:Nat):Int):=by rw[CG (by omega) (by omega)];omega
   have hsub:=ht.end hatl
   obtain⟨x,hx,hk0,hkk,hchain⟩:=hsub.kids
   have hv1:AL h1 v L:=hv.mono (by omega) hold
   obtain⟨y,hy,hyk⟩:=hsk.2 at_ x hx
   obtain⟨id,q,e0,hid,l0,l1,l2,l3,l4,lr⟩:=hv1.row hy
   rw[hyk] at l4
   have hcl:=H5 _ _ _ hchain
   have hel:=hsub.lt
   simp only[eE,↓reduceIte,Nat.reduceEqDiff,reduceCtorEq,↓eP,rP,Nat.reduceAdd,Nat.reduceLT,t0,t3,t4,c1,w1,e0,l4]
   refine WK.loop (fun k s=>s.h=h1∧s.T.get 0=v∧s.T.get 3=qS h.next l.length l.length∧s.T.get 4=iv at_∧s.T.get 6=iv k∧∃ p:Nat,s.T.get 5=iv p∧at_<p∧k≤x.kids.toNat∧EU l (x.kids.toNat-k) p (BV l at_)) x.kids.toNat (by omega) ?_ ?_
   ·simp only[eE,↓reduceIte,Nat.reduceEqDiff,reduceCtorEq,↓eP,rP,Nat.reduceAdd,Nat.reduceLT,t0,t3,t4]
    refine⟨rfl,at_+1,rfl,by omega,by rw[Nat.sub_zero];exact hchain⟩
   ·rintro k ⟨T2,h2⟩ hk ⟨rfl,u0,u3,u4,u6,p,u5,hp,hkk2,hch⟩
    simp only at u0 u3 u4 u6 u5
    by_cases hlt2:k<x.kids.toNat
    ·have c2:decide ((k:Int)<x.kids)=true:=by simp only[decide_eq_true_eq];omega
     obtain⟨r,hr1⟩:∃ r,x.kids.toNat-k=r+1:=⟨x.kids.toNat-k-1,by omega⟩
     rw[hr1] at hch
     obtain⟨p',s1,s2,s3,s4⟩:=hch
     have hEp:=hEv p (by omega) (by omega)
     rw[OW s1] at hEp
     have w5:=CK k (by omega)
     simp only[eE,seval,↓eP,rP,u0,u3,u4,u6,u5,c2,e0,l4,GJ (show p<l.length by omega),hgE,JV hEp,w5]
     exact⟨hlt2,p',rfl,by omega,by omega,by rw[show x.kids.toNat-(k+1)=r by omega];exact s4⟩
    ·have c2:decide ((k:Int)<x.kids)=false:=by simp only[decide_eq_false_iff_not];omega
     rw[show x.kids.toNat-k=0 by omega] at hch
     have hpe:p=BV l at_:=hch
     have hst:=PP (x:=(p:Int)) hgE (show at_<E.length by omega) (by rw[hf1];exact hfl)
     have hnx':h2.next=h.next+1:=hnx
     have hltT:(h.next<h2.next)=True:=by rw[hnx'];simp
     simp only[eE,seval,↓eP,rP,u0,u3,u4,u6,u5,c2,e0,l4,GJ hatl,hst,w2,hltT]
     refine⟨hlt,hnx,hf1,fun i hi=>by rw[if_neg (by omega)];exact hold i hi,E.set at_ (p:Int),by rw[List.length_set];exact hE,rfl,fun i h1 h2=>?_⟩
     rw[List.getElem?_set]
     by_cases hia:at_=i
     ·subst hia
      rw[if_pos rfl,if_pos (by omega),hpe]
     ·rw[if_neg hia]
      exact hEv i (by omega) h2
  ·have c1:decide ((l.length:Int)-1-(j:Int)≥0)=false:=by simp only[decide_eq_false_iff_not];omega
   have hEe:E=AI l:=by
    apply List.ext_getElem?
    intro i
    by_cases hi:i<l.length
    ·rw[hEv i (by omega) hi,MF hi]
    ·rw[List.getElem?_eq_none (by omega),List.getElem?_eq_none (by rw[OM];omega)]
   subst hEe
   simp only[eE,seval,↓eP,rP,hr,t0,t3,t4,c1]
   exact⟨hgE,hnx,hf1,hold⟩
theorem gX {l:List AB} {v:Value} {h:AA} (ht:CU l) (hv:AL h v l) (hlen:l.length<30000000000000) (hn:l.length+3<n) (hfl:h.floor≤h.next) :
  ∃ h',AW Tryd.prog call n 49 [v] h=some (qS h.next l.length l.length,h')∧(h'.get h.next=.row (ints (AI l)) 3 false false∧h'.next=h.next+1∧h'.floor=h.floor∧∀ i,i<h.next→h'.get i=h.get i):=aX ht (f8 l) hv hlen hn hfl
theorem Hz {l:List AB} {v:Value} {h:AA} (ht:CU l) (hv:AL h v l) (hlen:l.length<30000000000000) (hn:l.length+3<n) (hfl:h.floor≤h.next) :
  ∃ h',AW Tryd.prog call n 56 [v] h=some (qS h.next l.length l.length,h')∧(h'.get h.next=.row (ints (AI l)) 3 false false∧h'.next=h.next+1∧h'.floor=h.floor∧∀ i,i<h.next→h'.get i=h.get i):=lK ht (f8 l) hv hlen hn hfl
end
def GI (w:Int):Int:=if w=8 then 0 else if w=9 then 1 else w
def LD (w:Int):Prop:=w=8∨w=9∨w=2∨w=3∨w=4∨w=5∨w=6∨w=7
theorem oR {w k:Int} (h:EW w k=true):1≤k∧k≤54:=by
 unfold EW at h
 split at h
 ·simp at h;omega
 ·exact PK h
theorem HM {P:Program} {t:TypeId} {x y:Operand} {a b:ByteArray}:B0 P .neq t x y (.string a) (.string b)=some (.bool (!(a==b))):=by
 have e:BC P (do eqGuard .neq t x y (.string a) (.string b);binOp .neq t (.string a) (.string b))=some (.bool (!(a==b))):=by
  rw[CW]
  have g:BC P (eqGuard .neq t x y (.string a) (.string b))=some ():=rfl
  rw[g,← jD]
  simp[binOp,Op.stringOp,Option.bind]
  rfl
 have hf:flat (.string a)=true:=rfl
 have hf2:flat (.string b)=true:=rfl
 simp only[B0,hf,hf2,KF,Bool.and_self,if_true,e]
theorem Dn {s:ByteArray} (h:(s==⟨#[]⟩)=true):AR s=false:=by
 have:=JK h
 subst this
 rfl
section
variable {call:AK} {n:Nat} {h:AA}
theorem xW {k:Int}:AW Tryd.prog call n 101 [iv k] h=some (.bool (decide (k≥2)&&decide (k≤7)),h):=by
 refine DW Tryd.func101 rfl (by simp[Tryd.f101]) ?_
 have hr:Tryd.f101.results.toList=[.tmp 2]:=rfl
 cases d:decide (k≥2) <;> simp only[eE,seval,↓eP,rP,hr,d,Bool.false_and]
theorem wH {k:Int}:AW Tryd.prog call n 102 [iv k] h=some (.bool (DU k),h):=by
 refine DW Tryd.func102 rfl (by simp[Tryd.f102]) ?_
 have hr:Tryd.f102.results.toList=[.tmp 2]:=rfl
 unfold DU
 cases d:decide (k≥8) <;> simp only[eE,seval,↓eP,rP,hr,d,Bool.false_and]
theorem x8 {k:Int}:AW Tryd.prog call n 119 [iv k] h=some (.bool (decide (k≥11)&&decide (k≤23)),h):=by
 refine DW Tryd.func119 rfl (by simp[Tryd.f119]) ?_
 have hr:Tryd.f119.results.toList=[.tmp 2]:=rfl
 cases d:decide (k≥11) <;> simp only[eE,seval,↓eP,rP,hr,d,Bool.false_and]
theorem sT {k:Int}:AW Tryd.prog call n 120 [iv k] h=some (.bool (decide (k≥27)&&decide (k≤54)),h):=by
 refine DW Tryd.func120 rfl (by simp[Tryd.f120]) ?_
 have hr:Tryd.f120.results.toList=[.tmp 2]:=rfl
 cases d:decide (k≥27) <;> simp only[eE,seval,↓eP,rP,hr,d,Bool.false_and]
theorem wJ {w k:Int} (hw:LD w) (hD:call 101 [iv k] h=some (.bool (decide (k≥2)&&decide (k≤7)),h)) (hE:call 102 [iv k] h=some (.bool (DU k),h))
  (hG:call 119 [iv k] h=some (.bool (decide (k≥11)&&decide (k≤23)),h)) (hX:call 120 [iv k] h=some (.bool (decide (k≥27)&&decide (k≤54)),h)) :
  AW Tryd.prog call n 111 [iv k,iv (GI w)] h=some (.bool (EW w k),h):=by
 refine DW Tryd.func111 rfl (by simp[Tryd.f111]) ?_
 have hr:Tryd.f111.results.toList=[.tmp 4]:=rfl
 unfold DU at hE
 rcases hw with rfl | rfl | rfl | rfl | rfl | rfl | rfl | rfl
 ·have e:GI 8=0:=rfl
  have e2:EW 8 k=(k==1):=rfl
  rw[e,e2]
  simp only[eE,seval,↓eP,rP,Int.reduceBEq,hr]
 ·have e:GI 9=1:=rfl
  have e2:EW 9 k=(decide (k≥2)&&decide (k≤10)):=rfl
  rw[e,e2]
  cases d:(decide (k≥2)&&decide (k≤7)) with
  | true=>
   rw[d] at hD
   have:(decide (k≥2)&&decide (k≤10))=true:=by simp only[Bool.and_eq_true,decide_eq_true_eq] at d ⊢;omega
   simp only[eE,seval,↓eP,rP,Int.reduceBEq,hr,hD,this]
  | false=>
   rw[d] at hD
   have:(decide (k≥2)&&decide (k≤10))=(decide (k≥8)&&decide (k≤10)):=by
    simp only[Bool.and_eq_false_iff,decide_eq_false_iff_not] at d
    apply Bool.eq_iff_iff.2
    simp only[Bool.and_eq_true,decide_eq_true_eq]
    omega
   simp only[eE,seval,↓eP,rP,Int.reduceBEq,hr,hD,hE,this]
 ·have e:GI 2=2:=rfl
  have e2:EW 2 k=(k==11):=rfl
  rw[e,e2]
  simp only[eE,seval,↓eP,rP,Int.reduceBEq,hr]
 ·have e:GI 3=3:=rfl
  have e2:EW 3 k=(decide (k≥11)&&decide (k≤23)):=rfl
  rw[e,e2]
  simp only[eE,seval,↓eP,rP,Int.reduceBEq,hr,hG]
 ·have e:GI 4=4:=rfl
  have e2:EW 4 k=(k==11||k==12):=rfl
  rw[e,e2]
  cases d:(k==11) <;> simp only[eE,seval,↓eP,rP,Int.reduceBEq,hr,d,Bool.true_or,Bool.false_or]
 ·have e:GI 5=5:=rfl
  have e2:EW 5 k=(k==25||k==26):=rfl
  rw[e,e2]
  cases d:(k==25) <;> simp only[eE,seval,↓eP,rP,Int.reduceBEq,hr,d,Bool.true_or,Bool.false_or]
 ·have e:GI 6=6:=rfl
  have e2:EW 6 k=(k==24):=rfl
  rw[e,e2]
  simp only[eE,seval,↓eP,rP,Int.reduceBEq,hr]
 ·have e:GI 7=7:=rfl
  have e2:EW 7 k=(decide (k≥27)&&decide (k≤54)):=rfl
  rw[e,e2]
  simp only[eE,seval,↓eP,rP,Int.reduceBEq,hr,hX]
abbrev C_ (x:AB):Value:=.agg #[iv x.kind,.string x.name,iv x.ends,iv x.n,iv x.kids]
theorem QW {x:AB}:(C_ x).cells.toList=[iv x.kind,.string x.name,iv x.ends,iv x.n,iv x.kids]:=rfl
theorem pX {w:Int} {x:AB} (hS:∀ h,call 111 [iv x.kind,iv (GI w)] h=some (.bool (EW w x.kind),h))
  (hE:∀ h,1≤x.kind∧x.kind≤54→call 112 [iv x.kind] h=some (.bool (IE x.kind),h)) (hN:∀ h,1≤x.kind∧x.kind≤54→call 113 [iv x.kind] h=some (.bool (GH x.kind),h))
  (hI:∀ h,call 114 [.string x.name] h=some (.bool (AR x.name),h)) (hM:∀ h,1≤x.kind∧x.kind≤54→call 115 [iv x.kind] h=some (.tuple #[iv (E1 x.kind),iv (CJ x.kind)],h)) :
  ∃ h',AW Tryd.prog call n 100 [C_ x,iv (GI w)] (DO 1 0)=some (.bool (EW w x.kind&&DE AR x),h')∧True:=by
 refine E0 (R:=fun _=>True) Tryd.func100 rfl (by simp[Tryd.f100]) ?_
 have hr:Tryd.f100.results.toList=[.tmp 4]:=rfl
 have hone:([iv x.kind,.string x.name,iv x.ends,iv x.n,iv x.kids]:List Value).all one=true:=rfl
 generalize hV:(EW w x.kind&&DE AR x)=V
 cases hs:EW w x.kind with
 | false=>
  rw[hs] at hV hS
  rw[Bool.false_and] at hV
  subst hV
  simp only[eE,seval,↓eP,rP,hr,QW,hone,FX,hS]
 | true=>
  rw[hs] at hV hS
  rw[Bool.true_and] at hV
  have hk:=oR hs
  have hE':=fun h=>hE h hk
  have hN':=fun h=>hN h hk
  have hM':=fun h=>hM h hk
  clear hE hN hM
  have hq:(x.name==ByteArray.empty)=(x.name==⟨#[]⟩):=rfl
  unfold DE at hV
  rw[hq] at hV
  have hQe:(x.name==⟨#[]⟩)=true→AR x.name=false:=Dn
  generalize hKK:BS.top (fun e s=>(e=DB.normal∨e=DB.ret)∧∃ vs,EV Tryd.prog s Tryd.f100.results.toList=some vs∧F7 vs=Value.bool V∧True)=K
  have fin:∀ (T':Tr) H b,T'.get 4=.bool b→b=V→K.ap Tryd.prog call n .ret ⟨T',H⟩:=fun T' H b h4 hb=>by
   subst hb
   rw[← hKK]
   simp only[eE,seval,↓eP,rP,hr,h4]
  have retF:∀ (T':Tr) H,T'.get 4=.bool false→V=false→K.ap Tryd.prog call n .ret ⟨T',H⟩:=fun T' H h4 hb=>fin T' H false h4 hb.symm
  have VB:∀ T':Tr,T'.get 2=qP 1 0→(decide (x.kids≥E1 x.kind)&&(decide (CJ x.kind<0)||decide (x.kids≤CJ x.kind)))=V →
    WK Tryd.prog call n (rt (rt (rt (rt (Tryd.f100.body.getD .skip))))) ⟨T',(DO 1 0).push (.row [iv x.kind,.string x.name,iv x.ends,iv x.n,iv x.kids] 46 false false)⟩ K:=by
   intro T' t2 hv
   show WK _ _ _ (.seq _ _) _ _
   cases d1:decide (x.kids≥E1 x.kind) with
   | false=>
    rw[d1,Bool.false_and] at hv
    simp only[eE,seval,↓eP,rP,t2,hM',d1]
    exact fin _ _ false (by simp only[Tr.get_put,if_true]) hv
   | true=>
    rw[d1,Bool.true_and] at hv
    cases d2:decide (CJ x.kind<0) with
    | true=>
     rw[d2,Bool.true_or] at hv
     simp only[eE,seval,↓eP,rP,t2,hM',d1,d2]
     exact fin _ _ true (by simp only[Tr.get_put,if_true]) hv
    | false=>
     rw[d2,Bool.false_or] at hv
     simp only[eE,seval,↓eP,rP,t2,hM',d1,d2]
     exact fin _ _ _ (by simp only[Tr.get_put,if_true]) hv
  have TX:∀ T':Tr,T'.get 2=qP 1 0→((x.n==0||x.kind==27&&decide (x.n>0)&&decide (x.n≤1073741824))&&(decide (x.kids≥E1 x.kind)&&(decide (CJ x.kind<0)||decide (x.kids≤CJ x.kind))))=V →
    WK Tryd.prog call n (rt (rt (rt (Tryd.f100.body.getD .skip)))) ⟨T',(DO 1 0).push (.row [iv x.kind,.string x.name,iv x.ends,iv x.n,iv x.kids] 46 false false)⟩ K:=by
   intro T' t2 hv
   show WK _ _ _ (.seq _ (rt (rt (rt (rt (Tryd.f100.body.getD .skip)))))) _ _
   cases k27:(x.kind==27) with
   | true=>
    have k27':(x.kind != 27)=false:=by rw[bne,k27];rfl
    cases d1:decide (x.n<0) with
    | true=>
     have f0:(x.n==0)=false:=by rw[beq_eq_false_iff_ne];simp only[decide_eq_true_eq] at d1;omega
     have f1:decide (x.n>0)=false:=by simp only[decide_eq_true_eq] at d1;simp only[decide_eq_false_iff_not];omega
     rw[f0,f1] at hv
     simp only[eE,seval,↓eP,rP,t2,k27,k27',d1]
     exact retF _ _ (by simp only[Tr.get_put,if_true]) (by rw[← hv];simp)
    | false=>
     cases d2:decide (x.n>1073741824) with
     | true=>
      have f0:(x.n==0)=false:=by rw[beq_eq_false_iff_ne];simp only[decide_eq_true_eq] at d2;omega
      have f1:decide (x.n≤1073741824)=false:=by simp only[decide_eq_true_eq] at d2;simp only[decide_eq_false_iff_not];omega
      rw[f0,f1] at hv
      simp only[eE,seval,↓eP,rP,t2,k27,k27',d1,d2]
      exact retF _ _ (by simp only[Tr.get_put,if_true]) (by rw[← hv];simp)
     | false=>
      have f1:(x.n==0||decide (x.n>0)&&decide (x.n≤1073741824))=true:=by
       simp only[decide_eq_false_iff_not] at d1 d2
       simp only[Bool.or_eq_true,Bool.and_eq_true,decide_eq_true_eq,beq_iff_eq]
       omega
      rw[k27,Bool.true_and,f1,Bool.true_and] at hv
      simp only[eE,seval,↓eP,rP,t2,k27,k27',d1,d2]
      exact VB _ (by simp only[Tr.get_put,Option.some.injEq,Nat.reduceEqDiff,if_false,t2]) hv
   | false=>
    have k27':(x.kind != 27)=true:=by rw[bne,k27];rfl
    cases d1:(x.n==0) with
    | false=>
     have d1':(x.n != 0)=true:=by rw[bne,d1];rfl
     rw[d1,k27] at hv
     simp only[eE,seval,↓eP,rP,t2,k27,k27',d1']
     exact retF _ _ (by simp only[Tr.get_put,if_true]) (by rw[← hv];simp)
    | true=>
     have d1':(x.n != 0)=false:=by rw[bne,d1];rfl
     rw[d1,Bool.true_or,Bool.true_and] at hv
     simp only[eE,seval,↓eP,rP,t2,k27,k27',d1']
     exact VB _ (by simp only[Tr.get_put,Option.some.injEq,Nat.reduceEqDiff,if_false,t2]) hv
  have U_:∀ T':Tr,T'.get 2=qP 1 0→(((AR x.name==GH x.kind)&&(GH x.kind||x.name==⟨#[]⟩))&&((x.n==0||x.kind==27&&decide (x.n>0)&&decide (x.n≤1073741824))&&(decide (x.kids≥E1 x.kind)&&(decide (CJ x.kind<0)||decide (x.kids≤CJ x.kind)))))=V →
    WK Tryd.prog call n (rt (rt (Tryd.f100.body.getD .skip))) ⟨T',(DO 1 0).push (.row [iv x.kind,.string x.name,iv x.ends,iv x.n,iv x.kids] 46 false false)⟩ K:=by
   intro T' t2 hv
   show WK _ _ _ (.seq _ (rt (rt (rt (Tryd.f100.body.getD .skip))))) _ _
   cases nm:GH x.kind with
   | true=>
    rw[nm] at hv hN'
    cases ni:AR x.name with
    | true=>
     rw[ni] at hv hI
     simp only[eE,seval,↓eP,rP,t2,hN',hI]
     exact TX _ (by simp only[Tr.get_put,Option.some.injEq,Nat.reduceEqDiff,if_false,t2]) (by rw[← hv];simp)
    | false=>
     rw[ni] at hv hI
     simp only[eE,seval,↓eP,rP,t2,hN',hI]
     exact retF _ _ (by simp only[Tr.get_put,if_true]) (by rw[← hv];simp)
   | false=>
    rw[nm] at hv hN'
    cases q3:(x.name==⟨#[]⟩) with
    | true=>
     rw[q3,hQe q3] at hv
     simp only[eE,seval,↓eP,rP,t2,hN',HM,q3]
     exact TX _ (by simp only[Tr.get_put,Option.some.injEq,Nat.reduceEqDiff,if_false,t2]) (by rw[← hv];simp)
    | false=>
     rw[q3] at hv
     simp only[eE,seval,↓eP,rP,t2,hN',HM,q3]
     exact retF _ _ (by simp only[Tr.get_put,if_true]) (by rw[← hv];simp)
  have hv:((x.ends==0||IE x.kind&&x.ends==1)&&(((AR x.name==GH x.kind)&&(GH x.kind||x.name==⟨#[]⟩))&&((x.n==0||x.kind==27&&decide (x.n>0)&&decide (x.n≤1073741824))&&(decide (x.kids≥E1 x.kind)&&(decide (CJ x.kind<0)||decide (x.kids≤CJ x.kind))))))=V:=by
   rw[← hV]
   generalize (AR x.name==GH x.kind&&(GH x.kind||x.name == { data:=#[] }))=a
   generalize (x.ends==0||IE x.kind&&x.ends==1)=b
   generalize (x.n==0||x.kind==27&&decide (x.n>0)&&decide (x.n≤1073741824))=c
   cases a <;> cases b <;> cases c <;> simp
  show WK _ _ _ (.seq _ (.seq _ (rt (rt (Tryd.f100.body.getD .skip))))) _ _
  cases d1:decide (x.ends<0) with
  | true=>
   have f0:(x.ends==0)=false:=by rw[beq_eq_false_iff_ne];simp only[decide_eq_true_eq] at d1;omega
   have f1:(x.ends==1)=false:=by rw[beq_eq_false_iff_ne];simp only[decide_eq_true_eq] at d1;omega
   rw[f0,f1] at hv
   simp only[eE,seval,↓eP,rP,QW,hone,FX,hS,d1]
   exact retF _ _ (by simp only[Tr.get_put,if_true]) (by rw[← hv];simp)
  | false=>
   cases d2:decide (x.ends>1) with
   | true=>
    have f0:(x.ends==0)=false:=by rw[beq_eq_false_iff_ne];simp only[decide_eq_true_eq] at d2;omega
    have f1:(x.ends==1)=false:=by rw[beq_eq_false_iff_ne];simp only[decide_eq_true_eq] at d2;omega
    rw[f0,f1] at hv
    simp only[eE,seval,↓eP,rP,QW,hone,FX,hS,d1,d2]
    exact retF _ _ (by simp only[Tr.get_put,if_true]) (by rw[← hv];simp)
   | false=>
    simp only[decide_eq_false_iff_not] at d1 d2
    have d1':decide (x.ends<0)=false:=decide_eq_false d1
    have d2':decide (x.ends>1)=false:=decide_eq_false d2
    cases d3:(x.ends==1) with
    | false=>
     have f0:(x.ends==0)=true:=by rw[beq_iff_eq];rw[beq_eq_false_iff_ne] at d3;omega
     rw[f0,Bool.true_or,Bool.true_and] at hv
     simp only[eE,seval,↓eP,rP,QW,hone,FX,hS,d1',d2',d3]
     exact U_ _ (by simp only[Tr.get_put,Option.some.injEq,Nat.reduceEqDiff,if_false,if_true]) hv
    | true=>
     have f0:(x.ends==0)=false:=by rw[beq_eq_false_iff_ne];rw[beq_iff_eq] at d3;omega
     cases en:IE x.kind with
     | true=>
      rw[f0,d3,en] at hv
      rw[en] at hE'
      simp only[eE,seval,↓eP,rP,QW,hone,FX,hS,d1',d2',d3,hE']
      exact U_ _ (by simp only[Tr.get_put,Option.some.injEq,Nat.reduceEqDiff,if_false,if_true]) (by rw[← hv];simp)
     | false=>
      rw[f0,en] at hv
      rw[en] at hE'
      simp only[eE,seval,↓eP,rP,QW,hone,FX,hS,d1',d2',d3,hE']
      exact retF _ _ (by simp only[Tr.get_put,if_true]) (by rw[← hv];simp)
end
end Go.Proofs.YtipekdhneagdbaaDoor
