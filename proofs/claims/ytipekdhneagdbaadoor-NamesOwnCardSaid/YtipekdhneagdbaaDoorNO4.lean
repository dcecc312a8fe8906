/- Part 4 of what the claim leans on: 2 texts laid one behind another. -/
import Derived.Test.YtipekdhneagdbaaDoorNO3
import Derived.LoopN
namespace Go.Sx
open Go
set_option linter.unusedSimpArgs false
set_option linter.unusedVariables false
set_option maxHeartbeats 64000000
def I_ (P:Program) (n:Nat):Code→Bool
 | .region _ ops draw=>ops.toList.all (HF P n)&&(!draw||UY ops)
 | .seq a b=>I_ P n a&&I_ P n b
 | .cond c a b=>N5 P c&&(I_ P n a&&I_ P n b)
 | .block _ c=>I_ P n c
 | .loop c=>I_ P n c
 | _=>true
def DB.to:DB→Exit
 | .normal=>.normal
 | .exit id=>.exit id
 | .ret=>.ret
section
variable {P:Program} {call:AK}
theorem Ej (hcall:CR P call) {ops:Array Oper} {n:Nat} {Q:Exit→Act→World→Prop}:∀ (l:List Oper) (hok:∀ o∈l,HF P n o=true) {s s':St} (hs:HU P call ops l s=some s') {ρ:AX} {A:Act} {W:World}
  (hR:BK P ρ s.h W) (hT:EX ρ s.T A) (hn:A.tmps.size=n) (hQ:∀ A' W' ρ',Nx P ρ s.h W ρ' s'.h W'→EX ρ' s'.T A'→A'.tmps.size=n→A'.defers=A.defers→Q .normal A' W'),wpList P ops Q l A W:=by
 intro l
 induction l with
 | nil=>
  intro hok s s' hs ρ A W hR hT hn hQ
  simp[HU] at hs
  subst hs
  exact hQ A W ρ (Nx.refl hR) hT hn rfl
 | cons o l ih=>
  intro hok s s' hs ρ A W hR hT hn hQ
  have hoo:=hok o (by simp)
  have hl:∀ o∈l,HF P n o=true:=fun x hx=>hok x (by simp[hx])
  have hd:PH n o.dst=true:=by simp only[HF,Bool.and_eq_true] at hoo;exact hoo.2
  have hop:∀ x∈o.op.operands,AH ρ (ev s.T x) (A.eval x):=fun x hx=>by
   simp only[HF,Bool.and_eq_true] at hoo
   exact OV hR hT (List.all_eq_true.1 hoo.1 x (by simpa using hx))
  simp only[HU] at hs
  split at hs
  ·rename_i s1 h1
   unfold wpList
   rw[XW (ops:=ops) (T:=s.T) (ρ:=ρ) fun t _=>hT t]
   by_cases hw:DD ops s.T o=true
   ·rw[if_pos hw]
    obtain⟨v,h',hv,rfl⟩:=LC hw h1
    refine .inl (PA hcall hR hop hv fun V W' ρ' hN hV=>?_)
    refine ih hl hs hN.rel ((hT.mono hN.ext).put hn hd hV) (by rw[KI];exact hn) fun A' W'' ρ'' hN' hT' hn' hd'=>?_
    exact hQ A' W'' ρ'' (hN.trans hR hN') hT' hn' (by rw[hd',JI])
   ·rw[if_neg hw]
    unfold E3 at h1
    rw[if_neg hw] at h1
    cases h1
    exact ih hl hs hR (hT.put hn hd MC) (by rw[KI];exact hn) fun A' W'' ρ'' hN' hT' hn' hd'=>hQ A' W'' ρ'' hN' hT' hn' (by rw[hd',JI])
  ·cases hs
theorem gK (hcall:CR P call) (hsn:∀ f args h v h',call f args h=some (v,h')→DG h h') (hm:P.follows .mixedOrders=true) (fuel:Nat) {n:Nat}:∀ (c:Code) (hok:I_ P n c=true) {s s':St} {e:DB} (hs:B9 P call fuel c s=some (e,s')) {ρ:AX} {A:Act} {W:World}
  (hR:BK P ρ s.h W) (hT:EX ρ s.T A) (hn:A.tmps.size=n) {Q:Exit→Act→World→Prop} (hQ:∀ A' W' ρ',Nx P ρ s.h W ρ' s'.h W'→EX ρ' s'.T A'→A'.tmps.size=n→A'.defers=A.defers→Q e.to A' W'),c.wp P Q A W:=by
 intro c
 induction c with
 | skip=>
  intro hok s s' e hs ρ A W hR hT hn Q hQ
  simp[B9] at hs
  obtain⟨rfl,rfl⟩:=hs
  exact wp_skip (hQ A W ρ (Nx.refl hR) hT hn rfl)
 | region id ops draw=>
  intro hok s s' e hs ρ A W hR hT hn Q hQ
  simp only[I_,Bool.and_eq_true] at hok
  cases draw with
  | true=>
   simp only[B9,if_true,Option.map_eq_some_iff,Prod.mk.injEq] at hs
   obtain⟨s1,h1,rfl,rfl⟩:=hs
   refine rD hcall hsn hm (fun j oj hj=>List.all_eq_true.1 hok.1 oj ?_) (by simpa using hok.2) h1 hR hT hn hQ
   exact List.mem_of_getElem? (i:=j) (by simpa using hj)
  | false=>
   simp only[B9,Bool.false_eq_true,if_false,Option.map_eq_some_iff,Prod.mk.injEq] at hs
   obtain⟨s1,h1,rfl,rfl⟩:=hs
   exact wp_region_list (Ej hcall _ (List.all_eq_true.1 hok.1) h1 hR hT hn hQ)
 | seq a b iha ihb=>
  intro hok s s' e hs ρ A W hR hT hn Q hQ
  simp only[I_,Bool.and_eq_true] at hok
  simp only[B9] at hs
  split at hs
  ·rename_i s1 h1
   refine wp_seq (iha hok.1 h1 hR hT hn fun A1 W1 ρ1 hN1 hT1 hn1 hd1=>?_)
   exact ihb hok.2 hs hN1.rel hT1 hn1 fun A2 W2 ρ2 hN2 hT2 hn2 hd2=>hQ A2 W2 ρ2 (hN1.trans hR hN2) hT2 hn2 (hd2.trans hd1)
  ·rename_i hne
   refine wp_seq (iha hok.1 hs hR hT hn fun A1 W1 ρ1 hN1 hT1 hn1 hd1=>?_)
   have:=hQ A1 W1 ρ1 hN1 hT1 hn1 hd1
   cases e with
   | normal=>exact absurd hs (hne s')
   | exit id=>exact this
   | ret=>exact this
 | cond c a b iha ihb=>
  intro hok s s' e hs ρ A W hR hT hn Q hQ
  simp only[I_,Bool.and_eq_true] at hok
  have hc:=OV hR hT hok.1
  simp only[B9] at hs
  split at hs
  ·rename_i hb
   rw[hb] at hc
   exact wp_cond_true (O1 hc) (iha hok.2.1 hs hR hT hn hQ)
  ·rename_i hb
   rw[hb] at hc
   exact wp_cond_false (O1 hc) (ihb hok.2.2 hs hR hT hn hQ)
  ·cases hs
 | block id c ih=>
  intro hok s s' e hs ρ A W hR hT hn Q hQ
  simp only[I_] at hok
  simp only[B9] at hs
  split at hs
  ·rename_i i s1 h1
   refine wp_block (ih hok h1 hR hT hn fun A1 W1 ρ1 hN1 hT1 hn1 hd1=>?_)
   show Exit.inBlock id Q (.exit i) A1 W1
   unfold Exit.inBlock
   by_cases hi:i=id
   ·simp only[hi,if_true] at hs ⊢
    cases hs
    exact hQ A1 W1 ρ1 hN1 hT1 hn1 hd1
   ·simp only[hi,if_false] at hs ⊢
    cases hs
    exact hQ A1 W1 ρ1 hN1 hT1 hn1 hd1
  ·rename_i hne
   refine wp_block (ih hok hs hR hT hn fun A1 W1 ρ1 hN1 hT1 hn1 hd1=>?_)
   have:=hQ A1 W1 ρ1 hN1 hT1 hn1 hd1
   cases e with
   | normal=>exact this
   | exit i=>exact absurd hs (hne i s')
   | ret=>exact this
 | loop c ih=>
  intro hok s s' e hs ρ A W hR hT hn Q hQ
  simp only[I_] at hok
  simp only[B9] at hs
  have key:∀ (k:Nat) {s:St} (hs:J2 (B9 P call fuel c) k s=some (e,s')) {ρ:AX} {A:Act} {W:World} (hR:BK P ρ s.h W) (hT:EX ρ s.T A) (hn:A.tmps.size=n)
    (hQ:∀ A' W' ρ',Nx P ρ s.h W ρ' s'.h W'→EX ρ' s'.T A'→A'.tmps.size=n→A'.defers=A.defers→Q e.to A' W'),Code.rounds P c Q k A W:=by
   intro k
   induction k with
   | zero=>intro s hs;simp[J2] at hs
   | succ k ihk=>
    intro s hs ρ A W hR hT hn hQ
    rw[rounds_succ]
    simp only[J2] at hs
    split at hs
    ·rename_i s1 h1
     refine ih hok h1 hR hT hn fun A1 W1 ρ1 hN1 hT1 hn1 hd1=>?_
     exact ihk hs hN1.rel hT1 hn1 fun A2 W2 ρ2 hN2 hT2 hn2 hd2=>hQ A2 W2 ρ2 (hN1.trans hR hN2) hT2 hn2 (hd2.trans hd1)
    ·rename_i hne
     refine ih hok hs hR hT hn fun A1 W1 ρ1 hN1 hT1 hn1 hd1=>?_
     have:=hQ A1 W1 ρ1 hN1 hT1 hn1 hd1
     cases e with
     | normal=>exact absurd hs (hne s')
     | exit i=>exact this
     | ret=>exact this
  exact wp_loop_rounds fuel (key fuel hs hR hT hn hQ)
 | exit id=>
  intro hok s s' e hs ρ A W hR hT hn Q hQ
  simp[B9] at hs
  obtain⟨rfl,rfl⟩:=hs
  exact wp_exit (hQ A W ρ (Nx.refl hR) hT hn rfl)
 | ret=>
  intro hok s s' e hs ρ A W hR hT hn Q hQ
  simp[B9] at hs
  obtain⟨rfl,rfl⟩:=hs
  exact wp_ret (hQ A W ρ (Nx.refl hR) hT hn rfl)
 | _=>
  intro hok s s' e hs
  simp[B9] at hs
theorem yQ (hsn:∀ f args h v h',call f args h=some (v,h')→DG h h') {ops:Array Oper}:∀ (l:List Oper) {s s':St},HU P call ops l s=some s'→DG s.h s'.h:=by
 intro l
 induction l with
 | nil=>intro s s' hs;simp[HU] at hs;subst hs;exact .refl _
 | cons o l ih=>
  intro s s' hs
  simp only[HU] at hs
  split at hs
  ·rename_i s1 h1
   refine DG.trans ?_ (ih hs)
   unfold E3 at h1
   split at h1
   ·split at h1
    ·rename_i v h' hv
     cases h1
     exact ZZ hsn hv
    ·cases h1
   ·cases h1;exact .refl _
  ·cases hs
theorem tA (hsn:∀ f args h v h',call f args h=some (v,h')→DG h h') {ops:Array Oper} {start:Nat}:∀ (l:List Oper) (i:Nat) {s s':St},JZ P call ops start i l s=some s'→DG s.h s'.h:=by
 intro l
 induction l with
 | nil=>intro i s s' hs;simp[JZ] at hs;subst hs;exact .refl _
 | cons o l ih=>
  intro i s s' hs
  simp only[JZ] at hs
  split at hs
  ·rename_i s1 h1
   refine DG.trans ?_ (ih _ hs)
   cases jG hsn h1 with
   | off _ e=>rw[e];exact .refl _
   | pure v _ _ _ _ e=>rw[e];exact .refl _
   | read v a _ _ _ _ e=>rw[e];exact .refl _
   | new v ob _ _ _ _ e=>rw[e];exact .push _ _
   | act v h1 f _ hc hf _ hs e=>rw[e];exact DG.unfl hf (RV hsn hc hs)
   | store v a id ob _ _ _ _ h1 h2 _ _ e=>rw[e];exact .put h1 h2
  ·cases hs
theorem kB (hsn:∀ f args h v h',call f args h=some (v,h')→DG h h') (fuel:Nat):∀ (c:Code) {s s':St} {e:DB},B9 P call fuel c s=some (e,s')→DG s.h s'.h:=by
 intro c
 induction c with
 | skip=>intro s s' e hs;simp[B9] at hs;obtain⟨rfl,rfl⟩:=hs;exact .refl _
 | region id ops draw=>
  intro s s' e hs
  simp only[B9] at hs
  split at hs
  ·simp only[Option.map_eq_some_iff,Prod.mk.injEq] at hs
   obtain⟨s1,h1,rfl,rfl⟩:=hs
   exact tA hsn _ _ h1
  ·simp only[Option.map_eq_some_iff,Prod.mk.injEq] at hs
   obtain⟨s1,h1,rfl,rfl⟩:=hs
   exact yQ hsn _ h1
 | seq a b iha ihb=>
  intro s s' e hs
  simp only[B9] at hs
  split at hs
  ·rename_i s1 h1;exact(iha h1).trans (ihb hs)
  ·exact iha hs
 | cond c a b iha ihb=>
  intro s s' e hs
  simp only[B9] at hs
  split at hs
  ·exact iha hs
  ·exact ihb hs
  ·cases hs
 | block id c ih=>
  intro s s' e hs
  simp only[B9] at hs
  split at hs
  ·rename_i i s1 h1
   split at hs <;> (cases hs;exact ih h1)
  ·exact ih hs
 | loop c ih=>
  intro s s' e hs
  simp only[B9] at hs
  have key:∀ (k:Nat) {s:St},J2 (B9 P call fuel c) k s=some (e,s')→DG s.h s'.h:=by
   intro k
   induction k with
   | zero=>intro s hs;simp[J2] at hs
   | succ k ihk=>
    intro s hs
    simp only[J2] at hs
    split at hs
    ·rename_i s1 h1;exact(ih h1).trans (ihk hs)
    ·exact ih hs
  exact key fuel hs
 | exit id=>intro s s' e hs;simp[B9] at hs;obtain⟨rfl,rfl⟩:=hs;exact .refl _
 | ret=>intro s s' e hs;simp[B9] at hs;obtain⟨rfl,rfl⟩:=hs;exact .refl _
 | _=>intro s s' e hs;simp[B9] at hs
theorem zP {α β:Type} {f:α→Sem β} {W:World} {as:Array α} {R:Nat→β→Prop} (hf:∀ (i:Nat) a,as[i]?=some a→∃ v,(f a).run P W=.ok v W∧R i v) :
  ∃ vs:Array β,(as.mapM f).run P W=.ok vs W∧vs.size=as.size∧∀ (i:Nat) v,vs[i]?=some v→R i v:=by
 have key:∀ (l:List α) (R:Nat→β→Prop),(∀ (i:Nat) a,l[i]?=some a→∃ v,(f a).run P W=.ok v W∧R i v)→∃ vs:List β,(l.mapM f).run P W=.ok vs W∧vs.length=l.length∧∀ (i:Nat) v,vs[i]?=some v→R i v:=by
  intro l
  induction l with
  | nil=>intro R _;exact⟨[],by rw[List.mapM_nil];rfl,rfl,by simp⟩
  | cons a l ih=>
   intro R hl
   obtain⟨v,hv,hRv⟩:=hl 0 a rfl
   obtain⟨vs,h1,h2,h3⟩:=ih (fun i=>R (i+1)) (fun i b hb=>hl (i+1) b (by simpa using hb))
   refine⟨v :: vs,?_,by simp[h2],fun i u hu=>?_⟩
   ·rw[List.mapM_cons]
    show (Sem.bind (f a) fun y=>Sem.bind (l.mapM f) fun z=>pure (y :: z)).run P W=_
    rw[Sem.run_bind',hv]
    show (Sem.bind (l.mapM f) fun z=>pure (v :: z)).run P W=_
    rw[Sem.run_bind',h1]
    rfl
   ·cases i with
    | zero=>simp at hu;subst hu;exact hRv
    | succ i=>exact h3 i u (by simpa using hu)
 obtain⟨vs,h1,h2,h3⟩:=key as.toList R (fun i a ha=>hf i a (by simpa using ha))
 refine⟨vs.toArray,?_,by simpa using h2,fun i v hv=>h3 i v (by simpa using hv)⟩
 rw[Array.mapM_eq_mapM_toList]
 show (Sem.bind (as.toList.mapM f) fun x=>pure x.toArray).run P W=_
 rw[Sem.run_bind',h1]
 rfl
theorem Dk {s:St}:∀ {l:List ResultVar} {vs:List Value},EV P s l=some vs→vs.length=l.length∧∀ (i:Nat) r,l[i]?=some r→∃ v,vs[i]?=some v∧match r with
  | .tmp t=>v=s.T.get t
  | .cell a t=>EO P s.h t (s.T.get a)=some v:=by
 intro l
 induction l with
 | nil=>intro vs h;simp[EV] at h;subst h;simp
 | cons r l ih=>
  intro vs h
  cases r with
  | tmp t=>
   simp only[EV] at h
   split at h
   ·rename_i vs' h'
    cases h
    obtain⟨h1,h2⟩:=ih h'
    refine⟨by simp[h1],fun i r hr=>?_⟩
    cases i with
    | zero=>simp at hr;subst hr;exact⟨_,rfl,rfl⟩
    | succ i=>simpa using h2 i r (by simpa using hr)
   ·cases h
  | cell a t=>
   simp only[EV] at h
   split at h
   ·rename_i v vs' h0 h'
    cases h
    obtain⟨h1,h2⟩:=ih h'
    refine⟨by simp[h1],fun i r hr=>?_⟩
    cases i with
    | zero=>simp at hr;subst hr;exact⟨_,rfl,h0⟩
    | succ i=>simpa using h2 i r (by simpa using hr)
   ·cases h
def F7:List Value→Value
 | [v]=>v
 | vs=>.tuple vs.toArray
theorem z_ {ρ:AX} {vs:List Value} {VS:Array Value} (h:AY (AH ρ) vs VS.toList):AH ρ (F7 vs) (if h:VS.size=1 then VS[0] else .tuple VS):=by
 obtain⟨m⟩:=VS
 cases h with
 | nil=>exact .tuple .nil
 | cons h ht=>cases ht with
  | nil=>exact h
  | cons h2 ht2=>exact .tuple (.cons h (.cons h2 ht2))
theorem XX {o:Option (List Value)} {h h':AA} {v:Value} (hm:(match o with
        | some [v]=>some (v,h)
        | some vs=>some (.tuple vs.toArray,h)
        | none=>none)=some (v,h')):∃ vs,o=some vs∧v=F7 vs∧h'=h:=by
 cases o with
 | none=>cases hm
 | some vs=>
  match vs with
  | []=>cases hm;exact⟨_,rfl,rfl,rfl⟩
  | [u]=>cases hm;exact⟨_,rfl,rfl,rfl⟩
  | u :: u' :: us=>cases hm;exact⟨_,rfl,rfl,rfl⟩
theorem aD {s:St} {fn:Func} {vs:List Value} (hs:EV P s fn.results.toList=some vs) {ρ:AX} {A:Act} {W:World} (hR:BK P ρ s.h W) (hT:EX ρ s.T A) :
  ∃ V,(results fn A.tmps).run P W=.ok V W∧AH ρ (F7 vs) V:=by
 obtain⟨hlen,hget⟩:=Dk hs
 obtain⟨VS,h1,h2,h3⟩:=zP (P:=P) (W:=W) (as:=fn.results) (R:=fun i V=>∃ v,vs[i]?=some v∧AH ρ v V)
  (f:=fun r=>match r with
   | .tmp t=>pure (A.tmps.getD t undef)
   | .cell a t=>do loadVar t (← asAddr (A.tmps.getD a undef))) (by
  intro i r hr
  obtain⟨v,hv,hm⟩:=hget i r (by simpa using hr)
  cases r with
  | tmp t=>simp only at hm;subst hm;exact⟨_,rfl,_,hv,hT t⟩
  | cell a t=>
   simp only at hm
   obtain⟨V,hV,hr⟩:=iU hR (hT a) hm
   refine⟨V,?_,v,hv,hr⟩
   have ha:=hT a
   unfold EO at hm
   split at hm
   ·rename_i id off hid
    rw[hid] at ha
    obtain⟨L,_,hA⟩:=W_ ha
    rw[hA] at hV
    simpa [Instr.loadAt,Instr.sureAddr,asAddr,hA] using hV
   ·cases hm)
 have hall:AY (AH ρ) vs VS.toList:=AY.of_get (by simp[h2,hlen]) fun i a b ha hb=>by
  obtain⟨v,hv,hr⟩:=h3 i b (by simpa using hb)
  rw[ha] at hv
  cases hv
  exact hr
 have hrun:(results fn A.tmps).run P W=.ok (if h:VS.size=1 then VS[0] else .tuple VS) W:=by
  unfold results
  show (Sem.bind (fn.results.mapM _) _).run P W=_
  rw[Sem.run_bind']
  exact congrArg (fun r:Result (Array Value)=>r.andThen fun a w'=>Sem.run P (pure (if h:a.size=1 then a[0] else Value.tuple a)) w') h1
 exact⟨_,hrun,z_ hall⟩
theorem XZ:∀ (l:List Value) (i:Nat) (T:Tr) (t:Nat),(GR i l T).get t=if i≤t∧t<i+l.length then l.getD (t-i) undef else T.get t:=by
 intro l
 induction l with
 | nil=>intro i T t;simp[GR];omega
 | cons v l ih=>
  intro i T t
  simp only[GR]
  rw[ih,Tr.get_set]
  by_cases h:i+1≤t∧t<i+1+l.length
  ·rw[if_pos h,if_pos (by simp;omega)]
   have:t-i=(t-(i+1))+1:=by omega
   rw[this]
   simp
  ·rw[if_neg h]
   by_cases e:t=i
   ·subst e;rw[if_pos rfl,if_pos (by simp)];simp
   ·rw[if_neg e,if_neg (by simp;omega)]
def YQ (P:Program) (fn:Func):Bool:=match fn.body with
 | some c => I_ P fn.ntmps c && !(fn.name == "runtime.NumGoroutine")
 | none=>true
def NO (P:Program):Bool:=P.follows .mixedOrders&&P.funcs.toList.all (YQ P)
theorem dA (hP:NO P=true):∀ fuel,CR P (J8 P fuel)∧∀ f args h v h',J8 P fuel f args h=some (v,h')→DG h h':=by
 simp only[NO,Bool.and_eq_true] at hP
 obtain⟨hm,hall⟩:=hP
 intro fuel
 induction fuel with
 | zero=>exact⟨fun f args h v h' hs=>by simp[J8] at hs,fun f args h v h' hs=>by simp[J8] at hs⟩
 | succ fuel ih=>
  obtain⟨ih1,ih2⟩:=ih
  have key:∀ f args h v h',J8 P (fuel+1) f args h=some (v,h')→∃ fn c e s vs,P.funcs[f]?=some fn∧fn.body=some c∧args.length≤fn.ntmps∧(e=.normal∨e=.ret) ∧
        B9 P (J8 P fuel) fuel c ⟨GR 0 args .leaf,h⟩=some (e,s)∧EV P s fn.results.toList=some vs∧v=F7 vs∧h'=s.h:=by
   intro f args h v h' hs
   simp only[J8] at hs
   split at hs
   ·rename_i fn hfn
    split at hs
    ·rename_i c hc
     split at hs
     ·rename_i hlen
      have fin:∀ e s,(e=.normal∨e=.ret)→B9 P (J8 P fuel) fuel c ⟨GR 0 args .leaf,h⟩=some (e,s)→(match EV P s fn.results.toList with
        | some [v]=>some (v,s.h)
        | some vs=>some (.tuple vs.toArray,s.h)
        | none=>none)=some (v,h')→∃ fn c e s vs,P.funcs[f]?=some fn∧fn.body=some c∧args.length≤fn.ntmps∧(e=.normal∨e=.ret) ∧
        B9 P (J8 P fuel) fuel c ⟨GR 0 args .leaf,h⟩=some (e,s)∧EV P s fn.results.toList=some vs∧v=F7 vs∧h'=s.h:=by
       intro e s he hcode hm
       obtain⟨vs,h1,h2,h3⟩:=XX hm
       exact⟨fn,c,e,s,vs,hfn,hc,hlen,he,hcode,h1,h2,h3⟩
      split at hs
      ·rename_i s hcode
       exact fin .normal s (.inl rfl) hcode hs
      ·rename_i s hcode
       exact fin .ret s (.inr rfl) hcode hs
      ·cases hs
     ·cases hs
    ·cases hs
   ·cases hs
  have hfOK : ∀ (f : FuncId) (fn : Func) (c : Code), P.funcs[f]? = some fn → fn.body = some c → I_ P fn.ntmps c = true ∧ (fn.name == "runtime.NumGoroutine") = false := by
   intro f fn c hfn hc
   have:=List.all_eq_true.1 hall fn (List.mem_of_getElem? (i:=f) (by simpa using hfn))
   unfold YQ at this
   rw[hc] at this
   simp only[Bool.and_eq_true,Bool.not_eq_true'] at this
   exact this
  refine⟨fun f args h v h' hs=>?_,fun f args h v h' hs=>?_⟩
  ·obtain⟨fn,c,e,s,vs,hfn,hc,hlen,he,hcode,hres,hv,hh⟩:=key f args h v h' hs
   obtain⟨hcOK,hname⟩:=hfOK f fn c hfn hc
   refine⟨⟨fn,c,hfn,hc,hname⟩,fun ρ W ARGS hR hargs=>?_⟩
   have hsz:ARGS.size=args.length:=by have:=hargs.length;simpa using this.symm
   refine calls_of_wp hfn hc (gK ih1 ih2 hm fuel c hcOK hcode hR ?_ (by simp;omega) fun A' W' ρ' hN hT' hn' hd'=>?_)
   ·intro t
    simp only[XZ]
    show AH ρ _ ((ARGS++Array.replicate (fn.ntmps-ARGS.size) undef).getD t undef)
    rw[Array.getD_eq_getD_getElem?,Array.getElem?_append]
    by_cases ht:t<args.length
    ·rw[if_pos (by omega),if_pos (by omega)]
     obtain⟨b,hb,hr⟩:=hargs.get (i:=t) (a:=args[t]) (by simp[ht])
     have hb':ARGS[t]?=some b:=by simpa using hb
     rw[hb']
     simpa [ht] using hr
    ·rw[if_neg (by omega),if_neg (by omega),Array.getElem?_replicate]
     have:(Tr.leaf).get t=undef:=rfl
     rw[this]
     split <;> exact MC
   ·obtain⟨V,hV,hr⟩:=aD hres hN.rel hT'
    have hb:bodyPost P fn (fun e W'=>∃ V ρ',e=.returned V∧Nx P ρ h W ρ' h' W'∧AH ρ' v V) .normal A' W':=⟨hd',V,hV,V,ρ',rfl,by rw[hh];exact hN,by rw[hv];exact hr⟩
    rcases he with rfl | rfl
    ·exact hb
    ·exact hb
  ·obtain⟨fn,c,e,s,vs,hfn,hc,hlen,he,hcode,hres,hv,hh⟩:=key f args h v h' hs
   rw[hh]
   exact kB ih2 fuel c hcode
end
section
variable {P:Program} {ρ ρ':AX} {h h1 h2:AA} {W W':World}
theorem Nx.congr (hN:Nx P ρ h W ρ' h1 W') (hg:∀ j,h2.get j=h1.get j) (hn:h2.next=h1.next) (hf:h2.floor=h1.floor):Nx P ρ h W ρ' h2 W':=
 ⟨hN.ext,hN.old,⟨rfl,fun i hi=>hN.rel.dom i (by omega),hN.rel.glob,fun i=>by rw[hg];exact hN.rel.obj i,fun i j L L' hw hl=>by rw[hg] at hw hl;exact hN.rel.inj i j L L' hw hl⟩,hN.fr,by rw[hn];exact hN.nx,by rw[hf];exact hN.floor,fun i a b=>by rw[hg];exact hN.keep i a b,fun i a b=>by rw[hg] at b;exact hN.was i a b,fun i a b=>by rw[hg] at b;exact hN.wasl i a b,fun i L a b c=>by rw[hg] at b;exact hN.own i L a b c⟩
theorem HH (h:AA) (j:Nat):(h.push .dead).get j=h.get j:=by
 by_cases e:j=h.next
 ·subst e
  rw[BL,F_ (Nat.le_refl _)]
 ·rw[KO e]
theorem Fx (hR:BK P ρ h W) (L:Loc):Nx P ρ h W (C9 ρ h.next L) (h.push .dead) W:=by
 have hx:=hR.ext_upd (L:=L)
 have hnn:(h.push .dead).next=h.next+1:=rfl
 refine⟨hx,fun i hi=>GW (by omega),⟨rfl,fun i hi=>?_,fun g hg=>?_,fun i=>?_,fun i j L1 L2 hw hl hne h1 h2=>?_⟩,Fr.refl _ _ _,by omega,rfl,fun i _ _=>HH h i,fun i _ hw=>by rwa [HH] at hw,fun i _ hw=>by rwa [HH] at hw,fun i L1 hi hl _=>?_⟩
 ·rw[GW (by omega)]
  exact hR.dom i (by omega)
 ·obtain⟨L0,a,b⟩:=hR.glob g hg
  exact⟨L0,hx _ _ a,b⟩
 ·rw[HH]
  exact(hR.obj i).mono hx fun _ _ _=>rfl
 ·rw[HH] at hw hl
  have key:∀ k La,live (h.get k)→C9 ρ h.next L k=some La→ρ k=some La:=fun k La hk hu=>by
   by_cases e:k=h.next
   ·subst e
    rw[F_ (Nat.le_refl _)] at hk
    exact hk.elim
   ·rwa [GW e] at hu
  exact hR.inj i j L1 L2 hw hl hne (key i L1 (by cases hh:h.get i <;> rw[hh] at hw <;> first | trivial | exact hw.elim) h1) (key j L2 hl h2)
 ·rw[HH,F_ (by omega)] at hl
  exact hl.elim
theorem uV {o:BB} (hN:Nx P ρ h W ρ' (h.push o) W'):Nx P ρ h W ρ' (h.push .dead) W':=by
 have hge:∀ j,live ((h.push .dead).get j)→(h.push o).get j=(h.push .dead).get j:=fun j hl=>by
  rw[HH] at hl ⊢
  by_cases e:j=h.next
  ·subst e
   rw[F_ (Nat.le_refl _)] at hl
   exact hl.elim
  ·exact KO e
 have hlw:∀ j,wr ((h.push .dead).get j)→live ((h.push .dead).get j):=fun j hw=>by
  cases hh:(h.push .dead).get j <;> rw[hh] at hw <;> first | trivial | exact hw.elim
 refine⟨hN.ext,hN.old,⟨rfl,hN.rel.dom,hN.rel.glob,fun i=>?_,fun i j L1 L2 hw hl=>?_⟩,hN.fr,hN.nx,hN.floor,fun i _ _=>HH h i,fun i _ hw=>by rwa [HH] at hw,fun i _ hw=>by rwa [HH] at hw,fun i L1 hi hl _=>?_⟩
 ·by_cases hl:live ((h.push .dead).get i)
  ·rw[← hge i hl]
   exact hN.rel.obj i
  ·cases hh:(h.push .dead).get i with
   | dead=>trivial
   | row cs ty g ro=>rw[hh] at hl;exact absurd trivial hl
   | map es=>rw[hh] at hl;exact absurd trivial hl
 ·rw[← hge i (hlw i hw)] at hw
  rw[← hge j hl] at hl
  exact hN.rel.inj i j L1 L2 hw hl
 ·rw[HH,F_ (by omega)] at hl
  exact hl.elim
def RP (ρ:AX) (h:AA) (W:World) (L:Loc) (m need:Nat):Prop:=
 (∃ CS ty,W.heap[L.b]?=some (.cells CS ty (0,0))∧L.d+need≤CS.size)∧((∃ i cs ty g,h.get i=.row cs ty g false∧ρ i=some L∧cs.length≤m)∨∀ j L2,live (h.get j)→ρ j=some L2→L2.b≠L.b)
theorem Cb (hR:BK P ρ h W) {t e ty:TypeId} {s by_ len n id sc:Nat} {z:Value} {sb:Option Addr} {cs new:List Value} {X Y:Value} (hu:P.underlying t=some (.slice e)) (hsz:BP P e=some s) (hz:DI P e=some z) (hby:G_ P e=some by_) (hzs:z.cells.size=s) (hs0:0<s)
  (hg:h.get id=.row cs e true false) (hcl:cs.length=len*s) (hf:h.floor≤id) (hx:AH ρ (.slice (some ⟨id,0,none⟩) len AG) X) (hy:AH ρ (.slice sb n sc) Y) (hnew:CL h s n (.slice sb n sc)=some new) (hone:new.all one=true) (hn0:0<n)
  (hb:(len+n)*by_≤140737488355328) (hl:len+n≤140737488355328) :
  ∃ V W' ρ' L',(Builtin.append_ #[t,t] ty #[X,Y]).run P W=.ok V W'∧Nx P ρ h W ρ' (h.push .dead) W'∧AH ρ' (.slice (some ⟨h.next,0,none⟩) (len+n) AG) V∧ρ' h.next=some L'∧RP ρ' (h.push .dead) W' L' (len*s) ((len+n)*s)∧(W.heap.size≤L'.b∨ρ id=some L'):=by
 obtain⟨A',C',New,rfl,hN,hrn,hsrc⟩:=R1 hR hy (Nat.le_refl _) hnew
 rcases I4 hx with⟨h1,_⟩ | ⟨id',off',L,h1,hL,hlt,_⟩ | ⟨id',off',L,A,C,h1,hL,_,hC,rfl,hA⟩
 ·cases h1
 ·exact absurd hlt (Nat.lt_irrefl _)
 ·cases h1
  obtain⟨CS,ty2,fr,hb2,hcs,hown⟩:=NM hR hg hL
  obtain⟨rfl,rfl,hCS,hzz⟩:=hown rfl
  rw[hsz] at hzz
  cases hzz
  have hid:=hR.lt hL
  have hcut:D1 cs 0 (len*L.z)=some cs:=by
   unfold D1
   simp[List.take_of_length_le,hcl]
  obtain⟨Old,hO,hro,hOc⟩:=S1 hcut hcs
  have hwr:wr (h.get id):=by rw[hg];rfl
  have hmul:(len+n)*L.z=len*L.z+n*L.z:=Nat.add_mul _ _ _
  have hnz:0<n*L.z:=Nat.mul_pos hn0 hs0
  by_cases hroom:len+n≤C
  ·rcases hA with(rfl | ⟨rfl,hz0⟩) | ⟨rfl,he⟩
   ·omega
   ·omega
   have hmc:(len+n)*L.z≤C*L.z:=Nat.mul_le_mul_right _ hroom
   have hfit:L.d+(0+len*L.z)+New.length≤CS.size:=by omega
   have hNone:∀ v∈New,v.oneCell'=true:=by
    intro V hV
    obtain⟨k,hk⟩:=List.getElem?_of_mem hV
    obtain⟨v,hv,hr⟩:=hrn.getR hk
    rw[← ZI,YC hr]
    exact List.all_eq_true.1 hone v (List.mem_of_getElem? hv)
   have hst:=run_storeCells_at P L.b (L.d+(0+len*L.z)) _ New 0 CS W hb2 (by simpa using hfit) hNone
   have hrun:=aY (P:=P) (W:=W) (A:=⟨L.b,L.d+0,none⟩) (ty:=ty) (C':=C') hu hsz hN hsrc hroom (by rw[HZ,Nat.add_assoc];exact hst)
   simp only[Nat.add_zero] at hrun
   have hnewh:(W.setRow L.b (CS.toList.take (L.d+(0+len*L.z))++New++CS.toList.drop (L.d+(0+len*L.z)+New.length)).toArray).heap[L.b]?=some (.cells (lay CS.toList (L.d+(0+len*L.z)) New).toArray _ (0,0)):=setRow_heap W L.b CS _ _ _ hb2
   have hls:(lay CS.toList (L.d+(0+len*L.z)) New).length=CS.size:=by
    rw[RS (by simpa using hfit)]
    simp
   have hobj:FD P ρ (W.setRow L.b (CS.toList.take (L.d+(0+len*L.z))++New++CS.toList.drop (L.d+(0+len*L.z)+New.length)).toArray) id (.row cs ty2 true false):=by
    refine⟨L,_,_,_,hL,hnewh,fun k v hv=>?_,fun _=>⟨rfl,rfl,?_,hsz⟩⟩
    ·have hk:=(List.getElem?_eq_some_iff.1 hv).1
     obtain⟨V,hV,hr⟩:=hcs k v hv
     refine⟨V,?_,hr⟩
     simp only[List.getElem?_toArray]
     rw[MM (by simpa using hfit),if_neg (by omega)]
     simpa using hV
    ·simp only[List.size_toArray]
     omega
   have hN1:=U7 hR (W':=(W.setRow L.b (CS.toList.take (L.d+(0+len*L.z))++New++CS.toList.drop (L.d+(0+len*L.z)+New.length)).toArray)) (i:=id) (o:=.row cs ty2 true false) hwr hf hL rfl rfl rfl (by simp) (fun b _ hne=>setRow_other W L.b b _ hne) hobj
   have hN2:Nx P ρ h W ρ h (W.setRow L.b (CS.toList.take (L.d+(0+len*L.z))++New++CS.toList.drop (L.d+(0+len*L.z)+New.length)).toArray):=hN1.congr (h2:=h) (fun j=>by
    by_cases ej:id=j
    ·subst ej
     rw[CE rfl hid]
     exact hg
    ·rw[AQ hid ej]) rfl rfl
   refine⟨_,_,C9 ρ h.next L,L,hrun,hN2.trans hR (Fx hN2.rel L),?_,GS _ _ _,⟨⟨_,_,hnewh,?_⟩,.inl ⟨id,cs,ty2,true,?_,?_,by omega⟩⟩,.inr hL⟩
   ·exact AH.sliceU (GS _ _ _) hroom (.inr ⟨by simp,by omega⟩)
   ·simp only[List.size_toArray]
    omega
   ·rw[HH]
    exact hg
   ·exact hR.ext_upd _ _ hL
  ·have hOsrc:len=0∨∃ B:Addr,some A=some B∧∀ (j:Nat) (u:Value),Old[j]?=some u→W.cell? (B.add j)=some u:=by
    rcases hA with(rfl | ⟨rfl,hz0⟩) | ⟨rfl,_⟩
    ·left;omega
    ·left;rfl
    ·right
     refine⟨_,rfl,fun j u hu=>?_⟩
     rw[HZ,cell_of_row W L.b _ CS _ (0,0) hb2]
     exact hOc j u hu
   obtain⟨V,W',ρ',hrun,hN2,hv⟩:=ZB (ty:=ty) (C':=C') hR hu hsz hz hby hzs hO hOsrc (fun h=>by cases h) hN hsrc hro hrn (by omega) hC hb hl
   have hob:=hN2.rel.obj h.next
   rw[BL] at hob
   obtain⟨L',CS',ty',fr',g1,g2,g3,g4⟩:=hob
   obtain⟨rfl,_,g5,g6⟩:=g4 rfl
   have hnl:=hrn.length
   have hol:=hro.length
   have hfar:∀ j L2,live (h.get j)→ρ' j=some L2→L2.b≠L'.b:=fun j L2 hj h2=>by
    have hjn:j≠h.next:=by
     rintro rfl
     rw[F_ (Nat.le_refl _)] at hj
     exact hj
    exact(hN2.rel.inj h.next j L' L2 (by rw[BL];rfl) (by rw[KO hjn];exact hj) (Ne.symm hjn) g1 h2).symm
   refine⟨V,W',ρ',L',hrun,uV hN2,hv,g1,⟨⟨CS',ty',g2,?_⟩,.inr fun j L2 hj h2=>?_⟩,?_⟩
   ·obtain⟨v,hv9⟩:∃ v,(cs++new)[(len+n)*L.z-1]?=some v:=⟨_,List.getElem?_eq_getElem (by rw[List.length_append];omega)⟩
    obtain⟨V9,hV9,_⟩:=g3 _ v hv9
    have:=(Array.getElem?_eq_some_iff.1 hV9).1
    omega
   ·rw[HH] at hj
    exact hfar j L2 hj h2
   ·rcases hN2.own h.next L' (Nat.le_refl _) (by rw[BL];trivial) g1 with h9 | ⟨j,L0,w1,_,w3,w4⟩
    ·exact .inl h9
    ·have hlj:live (h.get j):=by
      cases hh:h.get j <;> rw[hh] at w1 <;> first | trivial | exact w1.elim
     exact absurd w4 (hfar j L0 hlj (hN2.ext _ _ w3))
end
end Go.Sx
