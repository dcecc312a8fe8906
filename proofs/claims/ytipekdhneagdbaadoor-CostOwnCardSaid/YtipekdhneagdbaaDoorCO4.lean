/- Part 4 of what the claim leans on: 1 texts laid one behind another. -/
import Derived.Test.YtipekdhneagdbaaDoorCO3
import Derived.LoopN
namespace Go.Sx
open Go
set_option linter.unusedSimpArgs false
set_option linter.unusedVariables false
set_option maxHeartbeats 64000000
def KP (P:Program) (n:Nat):Code→Bool
 | .region _ ops draw=>ops.toList.all (KO P n)&&(!draw||WT ops)
 | .seq a b=>KP P n a&&KP P n b
 | .cond c a b=>S9 P c&&(KP P n a&&KP P n b)
 | .block _ c=>KP P n c
 | .loop c=>KP P n c
 | _=>true
def DK.to:DK→Exit
 | .normal=>.normal
 | .exit id=>.exit id
 | .ret=>.ret
section
variable {P:Program} {call:AT}
theorem Dm (hcall:DO P call) {ops:Array Oper} {n:Nat} {Q:Exit→Act→World→Prop}:∀ (l:List Oper) (hok:∀ o∈l,KO P n o=true) {s s':St} (hs:J5 P call ops l s=some s') {ρ:BK} {A:Act} {W:World}
  (hR:CB P ρ s.h W) (hT:I3 ρ s.T A) (hn:A.tmps.size=n) (hQ:∀ A' W' ρ',Nx P ρ s.h W ρ' s'.h W'→I3 ρ' s'.T A'→A'.tmps.size=n→A'.defers=A.defers→Q .normal A' W'),wpList P ops Q l A W:=by
 intro l
 induction l with
 | nil=>
  intro hok s s' hs ρ A W hR hT hn hQ
  simp[J5] at hs
  subst hs
  exact hQ A W ρ (Nx.refl hR) hT hn rfl
 | cons o l ih=>
  intro hok s s' hs ρ A W hR hT hn hQ
  have hoo:=hok o (by simp)
  have hl:∀ o∈l,KO P n o=true:=fun x hx=>hok x (by simp[hx])
  have hd:RJ n o.dst=true:=by simp only[KO,Bool.and_eq_true] at hoo;exact hoo.2
  have hop:∀ x∈o.op.operands,AH ρ (ev s.T x) (A.eval x):=fun x hx=>by
   simp only[KO,Bool.and_eq_true] at hoo
   exact sT hR hT (List.all_eq_true.1 hoo.1 x (by simpa using hx))
  simp only[J5] at hs
  split at hs
  ·rename_i s1 h1
   unfold wpList
   rw[nT (ops:=ops) (T:=s.T) (ρ:=ρ) fun t _=>hT t]
   by_cases hw:D9 ops s.T o=true
   ·rw[if_pos hw]
    obtain⟨v,h',hv,rfl⟩:=NE hw h1
    refine .inl (SH hcall hR hop hv fun V W' ρ' hN hV=>?_)
    refine ih hl hs hN.rel ((hT.mono hN.ext).put hn hd hV) (by rw[UL];exact hn) fun A' W'' ρ'' hN' hT' hn' hd'=>?_
    exact hQ A' W'' ρ'' (hN.trans hR hN') hT' hn' (by rw[hd',UU])
   ·rw[if_neg hw]
    unfold FW at h1
    rw[if_neg hw] at h1
    cases h1
    exact ih hl hs hR (hT.put hn hd QC) (by rw[UL];exact hn) fun A' W'' ρ'' hN' hT' hn' hd'=>hQ A' W'' ρ'' hN' hT' hn' (by rw[hd',UU])
  ·cases hs
theorem oI (hcall:DO P call) (hsn:∀ f args h v h',call f args h=some (v,h')→EB h h') (hm:P.follows .mixedOrders=true) (fuel:Nat) {n:Nat}:∀ (c:Code) (hok:KP P n c=true) {s s':St} {e:DK} (hs:CQ P call fuel c s=some (e,s')) {ρ:BK} {A:Act} {W:World}
  (hR:CB P ρ s.h W) (hT:I3 ρ s.T A) (hn:A.tmps.size=n) {Q:Exit→Act→World→Prop} (hQ:∀ A' W' ρ',Nx P ρ s.h W ρ' s'.h W'→I3 ρ' s'.T A'→A'.tmps.size=n→A'.defers=A.defers→Q e.to A' W'),c.wp P Q A W:=by
 intro c
 induction c with
 | skip=>
  intro hok s s' e hs ρ A W hR hT hn Q hQ
  simp[CQ] at hs
  obtain⟨rfl,rfl⟩:=hs
  exact wp_skip (hQ A W ρ (Nx.refl hR) hT hn rfl)
 | region id ops draw=>
  intro hok s s' e hs ρ A W hR hT hn Q hQ
  simp only[KP,Bool.and_eq_true] at hok
  cases draw with
  | true=>
   simp only[CQ,if_true,Option.map_eq_some_iff,Prod.mk.injEq] at hs
   obtain⟨s1,h1,rfl,rfl⟩:=hs
   refine Kc hcall hsn hm (fun j oj hj=>List.all_eq_true.1 hok.1 oj ?_) (by simpa using hok.2) h1 hR hT hn hQ
   exact List.mem_of_getElem? (i:=j) (by simpa using hj)
  | false=>
   simp only[CQ,Bool.false_eq_true,if_false,Option.map_eq_some_iff,Prod.mk.injEq] at hs
   obtain⟨s1,h1,rfl,rfl⟩:=hs
   exact wp_region_list (Dm hcall _ (List.all_eq_true.1 hok.1) h1 hR hT hn hQ)
 | seq a b iha ihb=>
  intro hok s s' e hs ρ A W hR hT hn Q hQ
  simp only[KP,Bool.and_eq_true] at hok
  simp only[CQ] at hs
  split at hs
  ·rename_i s1 h1
   refine wp_seq (iha hok.1 h1 hR hT hn fun A1 W1 ρ1 hN1 hT1 hn1 hd1=>?_)
   exact ihb hok.2 hs hN1.rel hT1 hn1 fun A2 W2 ρ2 hN2 hT2 hn2 hd2=>hQ A2 W2 ρ2 (hN1.trans hR hN2) hT2 hn2 (hd2.trans hd1)
  ·rename_i hne
   refine wp_seq (iha hok.1 hs hR hT hn fun A1 W1 ρ1 hN1 hT1 hn1 hd1=>?_)
   have:=hQ A1 W1 ρ1 hN1 hT1 hn1 hd1
   cases e with
   | normal=>exact absurd hs (hne s')
   | exit id=>exact this
   | ret=>exact this
 | cond c a b iha ihb=>
  intro hok s s' e hs ρ A W hR hT hn Q hQ
  simp only[KP,Bool.and_eq_true] at hok
  have hc:=sT hR hT hok.1
  simp only[CQ] at hs
  split at hs
  ·rename_i hb
   rw[hb] at hc
   exact wp_cond_true (QT hc) (iha hok.2.1 hs hR hT hn hQ)
  ·rename_i hb
   rw[hb] at hc
   exact wp_cond_false (QT hc) (ihb hok.2.2 hs hR hT hn hQ)
  ·cases hs
 | block id c ih=>
  intro hok s s' e hs ρ A W hR hT hn Q hQ
  simp only[KP] at hok
  simp only[CQ] at hs
  split at hs
  ·rename_i i s1 h1
   refine wp_block (ih hok h1 hR hT hn fun A1 W1 ρ1 hN1 hT1 hn1 hd1=>?_)
   show Exit.inBlock id Q (.exit i) A1 W1
   unfold Exit.inBlock
   by_cases hi:i=id
   ·simp only[hi,if_true] at hs ⊢
    cases hs
    exact hQ A1 W1 ρ1 hN1 hT1 hn1 hd1
   ·simp only[hi,if_false] at hs ⊢
    cases hs
    exact hQ A1 W1 ρ1 hN1 hT1 hn1 hd1
  ·rename_i hne
   refine wp_block (ih hok hs hR hT hn fun A1 W1 ρ1 hN1 hT1 hn1 hd1=>?_)
   have:=hQ A1 W1 ρ1 hN1 hT1 hn1 hd1
   cases e with
   | normal=>exact this
   | exit i=>exact absurd hs (hne i s')
   | ret=>exact this
 | loop c ih=>
  intro hok s s' e hs ρ A W hR hT hn Q hQ
  simp only[KP] at hok
  simp only[CQ] at hs
  have key:∀ (k:Nat) {s:St} (hs:KS (CQ P call fuel c) k s=some (e,s')) {ρ:BK} {A:Act} {W:World} (hR:CB P ρ s.h W) (hT:I3 ρ s.T A) (hn:A.tmps.size=n)
    (hQ:∀ A' W' ρ',Nx P ρ s.h W ρ' s'.h W'→I3 ρ' s'.T A'→A'.tmps.size=n→A'.defers=A.defers→Q e.to A' W'),Code.rounds P c Q k A W:=by
   intro k
   induction k with
   | zero=>intro s hs;simp[KS] at hs
   | succ k ihk=>
    intro s hs ρ A W hR hT hn hQ
    rw[rounds_succ]
    simp only[KS] at hs
    split at hs
    ·rename_i s1 h1
     refine ih hok h1 hR hT hn fun A1 W1 ρ1 hN1 hT1 hn1 hd1=>?_
     exact ihk hs hN1.rel hT1 hn1 fun A2 W2 ρ2 hN2 hT2 hn2 hd2=>hQ A2 W2 ρ2 (hN1.trans hR hN2) hT2 hn2 (hd2.trans hd1)
    ·rename_i hne
     refine ih hok hs hR hT hn fun A1 W1 ρ1 hN1 hT1 hn1 hd1=>?_
     have:=hQ A1 W1 ρ1 hN1 hT1 hn1 hd1
     cases e with
     | normal=>exact absurd hs (hne s')
     | exit i=>exact this
     | ret=>exact this
  exact wp_loop_rounds fuel (key fuel hs hR hT hn hQ)
 | exit id=>
  intro hok s s' e hs ρ A W hR hT hn Q hQ
  simp[CQ] at hs
  obtain⟨rfl,rfl⟩:=hs
  exact wp_exit (hQ A W ρ (Nx.refl hR) hT hn rfl)
 | ret=>
  intro hok s s' e hs ρ A W hR hT hn Q hQ
  simp[CQ] at hs
  obtain⟨rfl,rfl⟩:=hs
  exact wp_ret (hQ A W ρ (Nx.refl hR) hT hn rfl)
 | _=>
  intro hok s s' e hs
  simp[CQ] at hs
theorem uY (hsn:∀ f args h v h',call f args h=some (v,h')→EB h h') {ops:Array Oper}:∀ (l:List Oper) {s s':St},J5 P call ops l s=some s'→EB s.h s'.h:=by
 intro l
 induction l with
 | nil=>intro s s' hs;simp[J5] at hs;subst hs;exact .refl _
 | cons o l ih=>
  intro s s' hs
  simp only[J5] at hs
  split at hs
  ·rename_i s1 h1
   refine EB.trans ?_ (ih hs)
   unfold FW at h1
   split at h1
   ·split at h1
    ·rename_i v h' hv
     cases h1
     exact Z6 hsn hv
    ·cases h1
   ·cases h1;exact .refl _
  ·cases hs
theorem Gv (hsn:∀ f args h v h',call f args h=some (v,h')→EB h h') {ops:Array Oper} {start:Nat}:∀ (l:List Oper) (i:Nat) {s s':St},KU P call ops start i l s=some s'→EB s.h s'.h:=by
 intro l
 induction l with
 | nil=>intro i s s' hs;simp[KU] at hs;subst hs;exact .refl _
 | cons o l ih=>
  intro i s s' hs
  simp only[KU] at hs
  split at hs
  ·rename_i s1 h1
   refine EB.trans ?_ (ih _ hs)
   cases j8 hsn h1 with
   | off _ e=>rw[e];exact .refl _
   | pure v _ _ _ _ e=>rw[e];exact .refl _
   | read v a _ _ _ _ e=>rw[e];exact .refl _
   | new v ob _ _ _ _ e=>rw[e];exact .push _ _
   | act v h1 f _ hc hf _ hs e=>rw[e];exact EB.unfl hf (UC hsn hc hs)
   | store v a id ob _ _ _ _ h1 h2 _ _ e=>rw[e];exact .put h1 h2
  ·cases hs
theorem qY (hsn:∀ f args h v h',call f args h=some (v,h')→EB h h') (fuel:Nat):∀ (c:Code) {s s':St} {e:DK},CQ P call fuel c s=some (e,s')→EB s.h s'.h:=by
 intro c
 induction c with
 | skip=>intro s s' e hs;simp[CQ] at hs;obtain⟨rfl,rfl⟩:=hs;exact .refl _
 | region id ops draw=>
  intro s s' e hs
  simp only[CQ] at hs
  split at hs
  ·simp only[Option.map_eq_some_iff,Prod.mk.injEq] at hs
   obtain⟨s1,h1,rfl,rfl⟩:=hs
   exact Gv hsn _ _ h1
  ·simp only[Option.map_eq_some_iff,Prod.mk.injEq] at hs
   obtain⟨s1,h1,rfl,rfl⟩:=hs
   exact uY hsn _ h1
 | seq a b iha ihb=>
  intro s s' e hs
  simp only[CQ] at hs
  split at hs
  ·rename_i s1 h1;exact(iha h1).trans (ihb hs)
  ·exact iha hs
 | cond c a b iha ihb=>
  intro s s' e hs
  simp only[CQ] at hs
  split at hs
  ·exact iha hs
  ·exact ihb hs
  ·cases hs
 | block id c ih=>
  intro s s' e hs
  simp only[CQ] at hs
  split at hs
  ·rename_i i s1 h1
   split at hs <;> (cases hs;exact ih h1)
  ·exact ih hs
 | loop c ih=>
  intro s s' e hs
  simp only[CQ] at hs
  have key:∀ (k:Nat) {s:St},KS (CQ P call fuel c) k s=some (e,s')→EB s.h s'.h:=by
   intro k
   induction k with
   | zero=>intro s hs;simp[KS] at hs
   | succ k ihk=>
    intro s hs
    simp only[KS] at hs
    split at hs
    ·rename_i s1 h1;exact(ih h1).trans (ihk hs)
    ·exact ih hs
  exact key fuel hs
 | exit id=>intro s s' e hs;simp[CQ] at hs;obtain⟨rfl,rfl⟩:=hs;exact .refl _
 | ret=>intro s s' e hs;simp[CQ] at hs;obtain⟨rfl,rfl⟩:=hs;exact .refl _
 | _=>intro s s' e hs;simp[CQ] at hs
theorem Ma {α β:Type} {f:α→Sem β} {W:World} {as:Array α} {R:Nat→β→Prop} (hf:∀ (i:Nat) a,as[i]?=some a→∃ v,(f a).run P W=.ok v W∧R i v) :
  ∃ vs:Array β,(as.mapM f).run P W=.ok vs W∧vs.size=as.size∧∀ (i:Nat) v,vs[i]?=some v→R i v:=by
 have key:∀ (l:List α) (R:Nat→β→Prop),(∀ (i:Nat) a,l[i]?=some a→∃ v,(f a).run P W=.ok v W∧R i v)→∃ vs:List β,(l.mapM f).run P W=.ok vs W∧vs.length=l.length∧∀ (i:Nat) v,vs[i]?=some v→R i v:=by
  intro l
  induction l with
  | nil=>intro R _;exact⟨[],by rw[List.mapM_nil];rfl,rfl,by simp⟩
  | cons a l ih=>
   intro R hl
   obtain⟨v,hv,hRv⟩:=hl 0 a rfl
   obtain⟨vs,h1,h2,h3⟩:=ih (fun i=>R (i+1)) (fun i b hb=>hl (i+1) b (by simpa using hb))
   refine⟨v :: vs,?_,by simp[h2],fun i u hu=>?_⟩
   ·rw[List.mapM_cons]
    show (Sem.bind (f a) fun y=>Sem.bind (l.mapM f) fun z=>pure (y :: z)).run P W=_
    rw[Sem.run_bind',hv]
    show (Sem.bind (l.mapM f) fun z=>pure (v :: z)).run P W=_
    rw[Sem.run_bind',h1]
    rfl
   ·cases i with
    | zero=>simp at hu;subst hu;exact hRv
    | succ i=>exact h3 i u (by simpa using hu)
 obtain⟨vs,h1,h2,h3⟩:=key as.toList R (fun i a ha=>hf i a (by simpa using ha))
 refine⟨vs.toArray,?_,by simpa using h2,fun i v hv=>h3 i v (by simpa using hv)⟩
 rw[Array.mapM_eq_mapM_toList]
 show (Sem.bind (as.toList.mapM f) fun x=>pure x.toArray).run P W=_
 rw[Sem.run_bind',h1]
 rfl
theorem Br {s:St}:∀ {l:List ResultVar} {vs:List Value},E8 P s l=some vs→vs.length=l.length∧∀ (i:Nat) r,l[i]?=some r→∃ v,vs[i]?=some v∧match r with
  | .tmp t=>v=s.T.get t
  | .cell a t=>EI P s.h t (s.T.get a)=some v:=by
 intro l
 induction l with
 | nil=>intro vs h;simp[E8] at h;subst h;simp
 | cons r l ih=>
  intro vs h
  cases r with
  | tmp t=>
   simp only[E8] at h
   split at h
   ·rename_i vs' h'
    cases h
    obtain⟨h1,h2⟩:=ih h'
    refine⟨by simp[h1],fun i r hr=>?_⟩
    cases i with
    | zero=>simp at hr;subst hr;exact⟨_,rfl,rfl⟩
    | succ i=>simpa using h2 i r (by simpa using hr)
   ·cases h
  | cell a t=>
   simp only[E8] at h
   split at h
   ·rename_i v vs' h0 h'
    cases h
    obtain⟨h1,h2⟩:=ih h'
    refine⟨by simp[h1],fun i r hr=>?_⟩
    cases i with
    | zero=>simp at hr;subst hr;exact⟨_,rfl,h0⟩
    | succ i=>simpa using h2 i r (by simpa using hr)
   ·cases h
def GR:List Value→Value
 | [v]=>v
 | vs=>.tuple vs.toArray
theorem vY {ρ:BK} {vs:List Value} {VS:Array Value} (h:BB (AH ρ) vs VS.toList):AH ρ (GR vs) (if h:VS.size=1 then VS[0] else .tuple VS):=by
 obtain⟨m⟩:=VS
 cases h with
 | nil=>exact .tuple .nil
 | cons h ht=>cases ht with
  | nil=>exact h
  | cons h2 ht2=>exact .tuple (.cons h (.cons h2 ht2))
theorem aI {o:Option (List Value)} {h h':AA} {v:Value} (hm:(match o with
        | some [v]=>some (v,h)
        | some vs=>some (.tuple vs.toArray,h)
        | none=>none)=some (v,h')):∃ vs,o=some vs∧v=GR vs∧h'=h:=by
 cases o with
 | none=>cases hm
 | some vs=>
  match vs with
  | []=>cases hm;exact⟨_,rfl,rfl,rfl⟩
  | [u]=>cases hm;exact⟨_,rfl,rfl,rfl⟩
  | u :: u' :: us=>cases hm;exact⟨_,rfl,rfl,rfl⟩
theorem mX {s:St} {fn:Func} {vs:List Value} (hs:E8 P s fn.results.toList=some vs) {ρ:BK} {A:Act} {W:World} (hR:CB P ρ s.h W) (hT:I3 ρ s.T A) :
  ∃ V,(results fn A.tmps).run P W=.ok V W∧AH ρ (GR vs) V:=by
 obtain⟨hlen,hget⟩:=Br hs
 obtain⟨VS,h1,h2,h3⟩:=Ma (P:=P) (W:=W) (as:=fn.results) (R:=fun i V=>∃ v,vs[i]?=some v∧AH ρ v V)
  (f:=fun r=>match r with
   | .tmp t=>pure (A.tmps.getD t undef)
   | .cell a t=>do loadVar t (← asAddr (A.tmps.getD a undef))) (by
  intro i r hr
  obtain⟨v,hv,hm⟩:=hget i r (by simpa using hr)
  cases r with
  | tmp t=>simp only at hm;subst hm;exact⟨_,rfl,_,hv,hT t⟩
  | cell a t=>
   simp only at hm
   obtain⟨V,hV,hr⟩:=rC hR (hT a) hm
   refine⟨V,?_,v,hv,hr⟩
   have ha:=hT a
   unfold EI at hm
   split at hm
   ·rename_i id off hid
    rw[hid] at ha
    obtain⟨L,_,hA⟩:=aN ha
    rw[hA] at hV
    simpa [Instr.loadAt,Instr.sureAddr,asAddr,hA] using hV
   ·cases hm)
 have hall:BB (AH ρ) vs VS.toList:=BB.of_get (by simp[h2,hlen]) fun i a b ha hb=>by
  obtain⟨v,hv,hr⟩:=h3 i b (by simpa using hb)
  rw[ha] at hv
  cases hv
  exact hr
 have hrun:(results fn A.tmps).run P W=.ok (if h:VS.size=1 then VS[0] else .tuple VS) W:=by
  unfold results
  show (Sem.bind (fn.results.mapM _) _).run P W=_
  rw[Sem.run_bind']
  exact congrArg (fun r:Result (Array Value)=>r.andThen fun a w'=>Sem.run P (pure (if h:a.size=1 then a[0] else Value.tuple a)) w') h1
 exact⟨_,hrun,vY hall⟩
theorem mQ:∀ (l:List Value) (i:Nat) (T:Tr) (t:Nat),(IU i l T).get t=if i≤t∧t<i+l.length then l.getD (t-i) undef else T.get t:=by
 intro l
 induction l with
 | nil=>intro i T t;simp[IU];omega
 | cons v l ih=>
  intro i T t
  simp only[IU]
  rw[ih,Tr.get_set]
  by_cases h:i+1≤t∧t<i+1+l.length
  ·rw[if_pos h,if_pos (by simp;omega)]
   have:t-i=(t-(i+1))+1:=by omega
   rw[this]
   simp
  ·rw[if_neg h]
   by_cases e:t=i
   ·subst e;rw[if_pos rfl,if_pos (by simp)];simp
   ·rw[if_neg e,if_neg (by simp;omega)]
def eA (P:Program) (fn:Func):Bool:=match fn.body with
 | some c => KP P fn.ntmps c && !(fn.name == "runtime.NumGoroutine")
 | none=>true
def PS (P:Program):Bool:=P.follows .mixedOrders&&P.funcs.toList.all (eA P)
theorem rI (hP:PS P=true):∀ fuel,DO P (LJ P fuel)∧∀ f args h v h',LJ P fuel f args h=some (v,h')→EB h h':=by
 simp only[PS,Bool.and_eq_true] at hP
 obtain⟨hm,hall⟩:=hP
 intro fuel
 induction fuel with
 | zero=>exact⟨fun f args h v h' hs=>by simp[LJ] at hs,fun f args h v h' hs=>by simp[LJ] at hs⟩
 | succ fuel ih=>
  obtain⟨ih1,ih2⟩:=ih
  have key:∀ f args h v h',LJ P (fuel+1) f args h=some (v,h')→∃ fn c e s vs,P.funcs[f]?=some fn∧fn.body=some c∧args.length≤fn.ntmps∧(e=.normal∨e=.ret) ∧
        CQ P (LJ P fuel) fuel c ⟨IU 0 args .leaf,h⟩=some (e,s)∧E8 P s fn.results.toList=some vs∧v=GR vs∧h'=s.h:=by
   intro f args h v h' hs
   simp only[LJ] at hs
   split at hs
   ·rename_i fn hfn
    split at hs
    ·rename_i c hc
     split at hs
     ·rename_i hlen
      have fin:∀ e s,(e=.normal∨e=.ret)→CQ P (LJ P fuel) fuel c ⟨IU 0 args .leaf,h⟩=some (e,s)→(match E8 P s fn.results.toList with
        | some [v]=>some (v,s.h)
        | some vs=>some (.tuple vs.toArray,s.h)
        | none=>none)=some (v,h')→∃ fn c e s vs,P.funcs[f]?=some fn∧fn.body=some c∧args.length≤fn.ntmps∧(e=.normal∨e=.ret) ∧
        CQ P (LJ P fuel) fuel c ⟨IU 0 args .leaf,h⟩=some (e,s)∧E8 P s fn.results.toList=some vs∧v=GR vs∧h'=s.h:=by
       intro e s he hcode hm
       obtain⟨vs,h1,h2,h3⟩:=aI hm
       exact⟨fn,c,e,s,vs,hfn,hc,hlen,he,hcode,h1,h2,h3⟩
      split at hs
      ·rename_i s hcode
       exact fin .normal s (.inl rfl) hcode hs
      ·rename_i s hcode
       exact fin .ret s (.inr rfl) hcode hs
      ·cases hs
     ·cases hs
    ·cases hs
   ·cases hs
  have hfOK : ∀ (f : FuncId) (fn : Func) (c : Code), P.funcs[f]? = some fn → fn.body = some c → KP P fn.ntmps c = true ∧ (fn.name == "runtime.NumGoroutine") = false := by
   intro f fn c hfn hc
   have:=List.all_eq_true.1 hall fn (List.mem_of_getElem? (i:=f) (by simpa using hfn))
   unfold eA at this
   rw[hc] at this
   simp only[Bool.and_eq_true,Bool.not_eq_true'] at this
   exact this
  refine⟨fun f args h v h' hs=>?_,fun f args h v h' hs=>?_⟩
  ·obtain⟨fn,c,e,s,vs,hfn,hc,hlen,he,hcode,hres,hv,hh⟩:=key f args h v h' hs
   obtain⟨hcOK,hname⟩:=hfOK f fn c hfn hc
   refine⟨⟨fn,c,hfn,hc,hname⟩,fun ρ W ARGS hR hargs=>?_⟩
   have hsz:ARGS.size=args.length:=by have:=hargs.length;simpa using this.symm
   refine calls_of_wp hfn hc (oI ih1 ih2 hm fuel c hcOK hcode hR ?_ (by simp;omega) fun A' W' ρ' hN hT' hn' hd'=>?_)
   ·intro t
    simp only[mQ]
    show AH ρ _ ((ARGS++Array.replicate (fn.ntmps-ARGS.size) undef).getD t undef)
    rw[Array.getD_eq_getD_getElem?,Array.getElem?_append]
    by_cases ht:t<args.length
    ·rw[if_pos (by omega),if_pos (by omega)]
     obtain⟨b,hb,hr⟩:=hargs.get (i:=t) (a:=args[t]) (by simp[ht])
     have hb':ARGS[t]?=some b:=by simpa using hb
     rw[hb']
     simpa [ht] using hr
    ·rw[if_neg (by omega),if_neg (by omega),Array.getElem?_replicate]
     have:(Tr.leaf).get t=undef:=rfl
     rw[this]
     split <;> exact QC
   ·obtain⟨V,hV,hr⟩:=mX hres hN.rel hT'
    have hb:bodyPost P fn (fun e W'=>∃ V ρ',e=.returned V∧Nx P ρ h W ρ' h' W'∧AH ρ' v V) .normal A' W':=⟨hd',V,hV,V,ρ',rfl,by rw[hh];exact hN,by rw[hv];exact hr⟩
    rcases he with rfl | rfl
    ·exact hb
    ·exact hb
  ·obtain⟨fn,c,e,s,vs,hfn,hc,hlen,he,hcode,hres,hv,hh⟩:=key f args h v h' hs
   rw[hh]
   exact qY ih2 fuel c hcode
end
end Go.Sx
