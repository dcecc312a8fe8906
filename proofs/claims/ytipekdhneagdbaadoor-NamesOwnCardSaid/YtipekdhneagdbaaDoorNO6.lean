/- Part 6 of what the claim leans on: 6 texts laid one behind another. -/
import Derived.Test.YtipekdhneagdbaaDoorNO5
import Derived.Below
import Derived.ChangeSame
import Derived.Lib.LaidTab
import Derived.ProofKit
namespace Go.Sx
open Go Go.RowKit Go.WideShapes Go.ChangeShapes
set_option linter.unusedSimpArgs false
set_option linter.unusedVariables false
set_option maxHeartbeats 64000000
section
variable {H:Type} {enc:TypeId × Value→H} {P:Program}
theorem xY {f:Func} {s:ChangeSpec} {apart fresh handsOn again:Bool} {W W':World} {args:Array Value} {v:Value} {ds gs:List (DataW H)} {before pa pv:List MemPlace}
  (hW:DataW.Whole enc P f.params.toList s.vars apart W args.toList ds gs before)
  (hres:∀ (b:Nat) (sp:Nat→Bool) (hd:Bool),DataW.TrodAll enc P W' b sp hd f.resultTypes.toList (v.resultList f.resultTypes.size) (s.fn H (ds++gs)).results [])
  (hargs:∀ sp:Nat→Bool,(∀ p∈before,sp p.block=true)→DataW.TrodAll enc P W' 0 sp true f.params.toList args.toList (s.fn H (ds++gs)).args pa)
  (hvars:∀ sp:Nat→Bool,(∀ p∈before,sp p.block=true)→DataW.TrodVars enc P W' sp s.vars (s.fn H (ds++gs)).vars pv)
  (hps:before=pa++pv) (hb:Below W.heap.size W W')
  (hok:∀ (j:Nat) (t:TypeId) (r:Value),f.resultTypes[j]?=some t→(v.resultList f.resultTypes.size)[j]?=some r→Value.okWide P W' .any 0 t r) :
  s.post enc P f apart fresh handsOn again W args v W':=by
 have hlt:∀ p∈before,p.block<W.heap.size:=fun p hp=>hW.lt p hp
 have hold:∀ p∈before,(fun b=>decide (b<W.heap.size)) p.block=true:=fun p hp=>by simpa using hlt p hp
 refine⟨ds,gs,before,[],pa,pv,hW,hres _ _ _,hargs _ hold,hvars _ hold,World.keptBut_mono (fun p hp=>⟨hp,?_⟩) (hb.frame (· ∈ before)),fun _=>?_⟩
 ·rw[hps,List.mem_append] at hp
  exact Or.inr hp
 ·obtain⟨_,_,_,_,_,hz,hn⟩:=hW
  refine⟨hok,_,_,([]++pa)++pv,⟨[]++pa,pv,trodAll_append (hargs _ (fun _ _=>rfl)) (hres _ _ _),hvars _ (fun _ _=>rfl),rfl,?_,?_⟩,?_⟩
  ·intro b off hp
   have hin:MemPlace.cell b off∈before:=by rw[hps];simpa using hp
   rw[hb.frozen (hlt _ hin)]
   exact hz b off hin
  ·intro ha
   have:=hn ha
   rw[hps] at this
   simpa using this
  ·intro p hp _
   rw[hps]
   simpa using hp
end
theorem wQ {H:Type} {enc:TypeId × Value→H} {P:Program} {w:World} {base:Nat} {sp:Nat→Bool} {held:Bool} {fuel:Nat} {t e:TypeId} {n:Nat} {cs:List Value} {zs:List (List UInt8)} {p:List MemPlace}
  (ht:P.underlying t=some (.array n e)) (he:P.underlying e=some .string) (hce:P.cellsOf e=1) (hct:P.cellsOf t=n)
  (h:DataW.trod enc P w base sp held fuel t cs=some (.agg (zs.map fun z=>.lit (.string z)),p)):cs=zs.map fun z=>Value.string ⟨z.toArray⟩:=by
 cases fuel with
 | zero=>simp[DataW.trod] at h
 | succ fuel=>
  simp only[DataW.trod,ht,hce,hct,Nat.mul_one] at h
  split at h
  ·rename_i hl
   obtain⟨xs,hm,hx⟩:=Option.map_eq_some_iff.1 h
   have hxs:xs.map (·.1)=zs.map fun z=>(DataW.lit (.string z):DataW H):=by
    have:=congrArg Prod.fst hx
    simpa using this
   have hxl:xs.length=n:=by simpa using Lib.mapM_length hm
   have hzl:zs.length=n:=by
    have:=congrArg List.length hxs
    simp at this
    omega
   apply List.ext_getElem?
   intro i
   by_cases hi:i<n
   ·obtain⟨b,hb,hf⟩:=Lib.mapM_at hm i i (by simp[hi])
    obtain⟨z,hc,rfl,_⟩:=DataW.trod_string he hf
    have h1:cs[i]?=some (.string z):=by
     have:=congrArg (·[0]?) hc
     simpa [List.getElem?_take,List.getElem?_drop] using this
    have h2:(xs.map (·.1))[i]?=some (DataW.lit (.string z.data.toList):DataW H):=by simp[hb]
    rw[hxs] at h2
    simp only[List.getElem?_map,Option.map_eq_some_iff,DataW.lit.injEq,Lit.string.injEq] at h2
    obtain⟨z',hz',hz⟩:=h2
    subst hz
    simp[h1,hz']
   ·rw[List.getElem?_eq_none (by omega),List.getElem?_eq_none (by simp;omega)]
  ·cases h
theorem VU {P:Program} {W:World} {name:String} {zs:List (List UInt8)} {rest:List (String × DataW Unit)} {g:Nat} {t e:TypeId} {n:Nat}
  (hg:P.globalNamed name=some g) (hty:(P.globals[g]?).map (·.type)=some t) (ht:P.underlying t=some (.array n e)) (he:P.underlying e=some .string) (hce:P.cellsOf e=1) (hct:P.cellsOf t=n)
  (h:laidMet P ((name,.agg (zs.map fun z=>.lit (.string z))) :: rest) W):∃ CS ty fr,W.heap[g]?=some (.cells CS ty fr)∧CS.toList=zs.map fun z=>Value.string ⟨z.toArray⟩:=by
 obtain⟨ps,⟨g',t',cs,fuel,p,q,hg',ht',hvar,hd,_,_⟩,_⟩:=h
 obtain rfl:=Option.some.inj (hg.symm.trans hg')
 obtain rfl:=Option.some.inj (hty.symm.trans ht')
 have hcs:=wQ ht he hce hct hd
 simp only[World.var?,hg,Option.bind_some] at hvar
 split at hvar
 ·rename_i CS ty fr hb
  cases hvar
  exact⟨_,_,_,hb,hcs⟩
 ·cases hvar
theorem SK {P:Program} {W:World} {ρ:AX} {h:AA} (hl:h.good) (hd:∀ i,h.next≤i→ρ i=none) (hg:∀ g,g<P.globals.size→∃ L,ρ g=some L∧L.b=g∧L.d=0)
  (ho:∀ i,i<h.next→∃ cs ty g L CS ty' fr,h.get i=.row cs ty g true∧ρ i=some L∧W.heap[L.b]?=some (.cells CS ty' fr)∧∀ (k:Nat) (v:Value),cs[k]?=some v→∃ V,CS[L.d+k]?=some V∧AH ρ v V) :
  BK P ρ h W∧∀ i,¬ wr (h.get i):=by
 have hw:∀ i,¬ wr (h.get i):=fun i hw=>by
  rcases Nat.lt_or_ge i h.next with hi | hi
  ·obtain⟨cs,ty,g,L,CS,ty',fr,h1,_⟩:=ho i hi
   rw[h1] at hw
   cases hw
  ·rw[F_ hi] at hw
   exact hw
 refine⟨⟨hl,hd,hg,fun i=>?_,fun i j L L' hwi=>absurd hwi (hw i)⟩,hw⟩
 rcases Nat.lt_or_ge i h.next with hi | hi
 ·obtain⟨cs,ty,g,L,CS,ty',fr,h1,h2,h3,h4⟩:=ho i hi
  rw[h1]
  exact⟨L,CS,ty',fr,h2,h3,h4,fun h=>by cases h⟩
 ·rw[F_ hi]
  trivial
theorem Gr.below {W W':World} (h:Gr W W'):Below W.heap.size W W':=⟨h.os,h.tape,h.output,h.size,h.blk⟩
end Go.Sx
namespace Go.Sx
open Go
set_option linter.unusedSimpArgs false
set_option linter.unusedVariables false
set_option maxHeartbeats 64000000
noncomputable def AW (P:Program) (call:AK) (n:Nat):AK:=fun f args h=>
 match P.funcs[f]? with
 | some fn=>match fn.body with
  | some c=>if args.length≤fn.ntmps then
    match B9 P call n c ⟨GR 0 args .leaf,h⟩ with
    | some (.normal,s) | some (.ret,s)=>match EV P s fn.results.toList with
     | some [v]=>some (v,s.h)
     | some vs=>some (.tuple vs.toArray,s.h)
     | none=>none
    | _=>none
   else none
  | none=>none
 | none=>none
noncomputable def GB (P:Program) (base:AK):Nat→AK
 | 0,_,_,_=>none
 | n+1,f,args,h=>match base f args h with
  | some r=>some r
  | none=>AW P (GB P base n) n f args h
def BZ (call:AK):Prop:=∀ f args h v h',call f args h=some (v,h')→DG h h'
theorem PV {P:Program} (hP:NO P=true) {call:AK} (ih1:CR P call) (ih2:BZ call) (fuel:Nat):CR P (AW P call fuel)∧BZ (AW P call fuel):=by
 simp only[NO,Bool.and_eq_true] at hP
 obtain⟨hm,hall⟩:=hP
 have key:∀ f args h v h',AW P call fuel f args h=some (v,h')→∃ fn c e s vs,P.funcs[f]?=some fn∧fn.body=some c∧args.length≤fn.ntmps∧(e=.normal∨e=.ret) ∧
   B9 P call fuel c ⟨GR 0 args .leaf,h⟩=some (e,s)∧EV P s fn.results.toList=some vs∧v=F7 vs∧h'=s.h:=by
  intro f args h v h' hs
  simp only[AW] at hs
  split at hs
  ·rename_i fn hfn
   split at hs
   ·rename_i c hc
    split at hs
    ·rename_i hlen
     split at hs
     ·rename_i s hcode
      obtain⟨vs,h1,h2,h3⟩:=XX hs
      exact⟨fn,c,.normal,s,vs,hfn,hc,hlen,.inl rfl,hcode,h1,h2,h3⟩
     ·rename_i s hcode
      obtain⟨vs,h1,h2,h3⟩:=XX hs
      exact⟨fn,c,.ret,s,vs,hfn,hc,hlen,.inr rfl,hcode,h1,h2,h3⟩
     ·cases hs
    ·cases hs
   ·cases hs
  ·cases hs
 have hfOK : ∀ (f : FuncId) (fn : Func) (c : Code), P.funcs[f]? = some fn → fn.body = some c → I_ P fn.ntmps c = true ∧ (fn.name == "runtime.NumGoroutine") = false := by
  intro f fn c hfn hc
  have:=List.all_eq_true.1 hall fn (List.mem_of_getElem? (i:=f) (by simpa using hfn))
  unfold YQ at this
  rw[hc] at this
  simp only[Bool.and_eq_true,Bool.not_eq_true'] at this
  exact this
 refine⟨fun f args h v h' hs=>?_,fun f args h v h' hs=>?_⟩
 ·obtain⟨fn,c,e,s,vs,hfn,hc,hlen,he,hcode,hres,hv,hh⟩:=key f args h v h' hs
  obtain⟨hcOK,hname⟩:=hfOK f fn c hfn hc
  refine⟨⟨fn,c,hfn,hc,hname⟩,fun ρ W ARGS hR hargs=>?_⟩
  have hsz:ARGS.size=args.length:=by have:=hargs.length;simpa using this.symm
  refine calls_of_wp hfn hc (gK ih1 ih2 hm fuel c hcOK hcode hR ?_ (by simp;omega) fun A' W' ρ' hN hT' hn' hd'=>?_)
  ·intro t
   simp only[XZ]
   show AH ρ _ ((ARGS++Array.replicate (fn.ntmps-ARGS.size) undef).getD t undef)
   rw[Array.getD_eq_getD_getElem?,Array.getElem?_append]
   by_cases ht:t<args.length
   ·rw[if_pos (by omega),if_pos (by omega)]
    obtain⟨b,hb,hr⟩:=hargs.get (i:=t) (a:=args[t]) (by simp[ht])
    have hb':ARGS[t]?=some b:=by simpa using hb
    rw[hb']
    simpa [ht] using hr
   ·rw[if_neg (by omega),if_neg (by omega),Array.getElem?_replicate]
    have:(Tr.leaf).get t=undef:=rfl
    rw[this]
    split <;> exact MC
  ·obtain⟨V,hV,hr⟩:=aD hres hN.rel hT'
   have hb:bodyPost P fn (fun e W'=>∃ V ρ',e=.returned V∧Nx P ρ h W ρ' h' W'∧AH ρ' v V) .normal A' W':=⟨hd',V,hV,V,ρ',rfl,by rw[hh];exact hN,by rw[hv];exact hr⟩
   rcases he with rfl | rfl
   ·exact hb
   ·exact hb
 ·obtain⟨fn,c,e,s,vs,hfn,hc,hlen,he,hcode,hres,hv,hh⟩:=key f args h v h' hs
  rw[hh]
  exact kB ih2 fuel c hcode
theorem M9 {P:Program} (hP:NO P=true) {base:AK} (hb:CR P base) (hs:BZ base):∀ fuel,CR P (GB P base fuel)∧BZ (GB P base fuel):=by
 intro fuel
 induction fuel with
 | zero=>exact⟨fun f args h v h' hs=>by simp[GB] at hs,fun f args h v h' hs=>by simp[GB] at hs⟩
 | succ fuel ih=>
  obtain⟨i1,i2⟩:=PV hP ih.1 ih.2 fuel
  refine⟨fun f args h v h' hh=>?_,fun f args h v h' hh=>?_⟩
  ·simp only[GB] at hh
   split at hh
   ·rename_i r hr;cases hh;exact hb f args h v h' hr
   ·exact i1 f args h v h' hh
  ·simp only[GB] at hh
   split at hh
   ·rename_i r hr;cases hh;exact hs f args h v h' hr
   ·exact i2 f args h v h' hh
noncomputable def LR (f0:FuncId) (o:BB):AK:=fun f args h=>by
 classical
 exact if f=f0∧args=[]∧h.get 0=o then some (.bool true,h) else none
theorem pN {P:Program} {call:AK} (hC:CR P call) {f0:FuncId} {cs:List Value} {ty:TypeId} {g:Bool} {h':AA} (hgl:P.globals.size=1) (hflat:cs.all BO=true)
  (hs:call f0 [] ⟨1,0,.node (.row cs ty g true) .leaf .leaf⟩=some (.bool true,h')):CR P (LR f0 (.row cs ty g true))∧BZ (LR f0 (.row cs ty g true)):=by
 have key:∀ f args h v h1,LR f0 (.row cs ty g true) f args h=some (v,h1)→f=f0∧args=[]∧h.get 0=.row cs ty g true∧v=.bool true∧h1=h:=by
  intro f args h v h1 he
  unfold LR at he
  split at he
  ·rename_i hc
   cases he
   exact⟨hc.1,hc.2.1,hc.2.2,rfl,rfl⟩
  ·cases he
 refine⟨fun f args h v h1 he=>?_,fun f args h v h1 he=>?_⟩
 ·obtain⟨rfl,rfl,hg,rfl,rfl⟩:=key f args h v h1 he
  obtain⟨hfn,hcall⟩:=hC f [] _ _ _ hs
  refine⟨hfn,fun ρ W ARGS hR hargs=>?_⟩
  obtain⟨L0,hL0,hb0,hd0⟩:=hR.glob 0 (by omega)
  have ho:=hR.obj 0
  rw[hg] at ho
  obtain⟨L,CS,ty',fr,hL,hW,hcs,_⟩:=ho
  have hro:=SK (P:=P) (W:=W) (ρ:=fun i=>if i=0 then some L0 else none) (h:=⟨1,0,.node (.row cs ty g true) .leaf .leaf⟩) rfl (fun i hi=>by
    have:1≤i:=hi
    rw[if_neg (by omega)]) (fun g hg=>by
    obtain rfl:g=0:=by omega
    exact⟨L0,rfl,hb0,hd0⟩) (fun i hi=>by
    have:i<1:=hi
    obtain rfl:i=0:=by omega
    rw[hL0] at hL
    cases hL
    exact⟨cs,ty,g,L0,CS,ty',fr,rfl,rfl,hW,fun k v hv=>by
     obtain⟨V,hV,hr⟩:=hcs k v hv
     have hf:=List.all_eq_true.1 hflat v (List.mem_of_getElem? hv)
     rw[HL hf hr] at hV
     exact⟨v,hV,.flat hf⟩⟩)
  refine(hcall _ W ARGS hro.1 (by rw[List.length_eq_zero_iff.1 hargs.length.symm];exact .nil)).mono fun e W' ⟨V,ρ',he,hN,hv⟩=>⟨V,ρ,he,(Nx.refl hR).grow (hN.fr.gr hro.2),?_⟩
  rw[O1 hv]
  exact .flat rfl
 ·obtain⟨rfl,rfl,hg,rfl,rfl⟩:=key f args h v h1 he
  exact .refl _
theorem y_ {P:Program} (hP:NO P=true) {fuel:Nat} {f0:FuncId} {cs:List Value} {ty:TypeId} {g:Bool} {h':AA} (hgl:P.globals.size=1) (hflat:cs.all BO=true)
  (hs:J8 P fuel f0 [] ⟨1,0,.node (.row cs ty g true) .leaf .leaf⟩=some (.bool true,h')):CR P (LR f0 (.row cs ty g true))∧BZ (LR f0 (.row cs ty g true)):=
 pN (dA hP fuel).1 hgl hflat hs
section
variable {P:Program} {call:AK} {n:Nat}
def WS (P:Program) (call:AK) (n:Nat) (c:Code) (s:St) (Q:DB→St→Prop):Prop:=∃ e s',B9 P call n c s=some (e,s')∧Q e s'
def WL (P:Program) (call:AK) (ops:Array Oper) (l:List Oper) (s:St) (Q:St→Prop):Prop:=∃ s',HU P call ops l s=some s'∧Q s'
def WD (P:Program) (call:AK) (ops:Array Oper) (start i:Nat) (l:List Oper) (s:St) (Q:St→Prop):Prop:=∃ s',JZ P call ops start i l s=some s'∧Q s'
def DB.on (K:St→Prop) (Q:DB→St→Prop):DB→St→Prop
 | .normal,s=>K s
 | e,s=>Q e s
def DB.inB (id:Nat) (Q:DB→St→Prop):DB→St→Prop
 | .exit i,s=>if i=id then Q .normal s else Q (.exit i) s
 | e,s=>Q e s
variable {s:St} {Q:DB→St→Prop}
theorem WS.skip (h:Q .normal s):WS P call n .skip s Q:=⟨_,_,rfl,h⟩
theorem WS.exit {id:Nat} (h:Q (.exit id) s):WS P call n (.exit id) s Q:=⟨_,_,rfl,h⟩
theorem WS.ret (h:Q .ret s):WS P call n .ret s Q:=⟨_,_,rfl,h⟩
theorem WS.seq {a b:Code} (h:WS P call n a s (DB.on (fun s'=>WS P call n b s' Q) Q)):WS P call n (.seq a b) s Q:=by
 obtain⟨e,s',h1,h2⟩:=h
 cases e with
 | normal=>
  obtain⟨e2,s2,h3,h4⟩:=h2
  exact⟨e2,s2,by simp only[B9,h1,h3],h4⟩
 | exit id=>exact⟨_,_,by simp only[B9,h1],h2⟩
 | ret=>exact⟨_,_,by simp only[B9,h1],h2⟩
theorem WS.cond {c:Operand} {a b:Code} {t:Bool} (hc:ev s.T c=.bool t) (h1:t=true→WS P call n a s Q) (h2:t=false→WS P call n b s Q):WS P call n (.cond c a b) s Q:=by
 cases t with
 | true=>
  obtain⟨e,s',h3,h4⟩:=h1 rfl
  exact⟨e,s',by simp only[B9,hc,h3],h4⟩
 | false=>
  obtain⟨e,s',h3,h4⟩:=h2 rfl
  exact⟨e,s',by simp only[B9,hc,h3],h4⟩
theorem WS.block {id:Nat} {c:Code} (h:WS P call n c s (DB.inB id Q)):WS P call n (.block id c) s Q:=by
 obtain⟨e,s',h1,h2⟩:=h
 cases e with
 | normal=>exact⟨_,_,by simp only[B9,h1],h2⟩
 | exit i=>
  by_cases hi:i=id
  ·subst hi
   exact⟨.normal,s',by simp only[B9,h1,if_true],by simpa [DB.inB] using h2⟩
  ·exact⟨.exit i,s',by simp only[B9,h1,hi,if_false],by simpa [DB.inB,hi] using h2⟩
 | ret=>exact⟨_,_,by simp only[B9,h1],h2⟩
theorem WS.region {id:Nat} {ops:Array Oper} (h:WL P call ops ops.toList s (Q .normal)):WS P call n (.region id ops false) s Q:=by
 obtain⟨s',h1,h2⟩:=h
 exact⟨_,_,by simp only[B9,h1];rfl,h2⟩
theorem WS.draw {id:Nat} {ops:Array Oper} (h:WD P call ops s.h.next 0 ops.toList s (Q .normal)):WS P call n (.region id ops true) s Q:=by
 obtain⟨s',h1,h2⟩:=h
 exact⟨_,_,by simp only[B9,h1];rfl,h2⟩
theorem WS.loop {c:Code} (I:Nat→St→Prop) (N:Nat) (hN:N<n) (h0:I 0 s)
  (hr:∀ k s,k≤N→I k s→WS P call n c s (DB.on (fun s'=>k<N∧I (k+1) s') Q)):WS P call n (.loop c) s Q:=by
 have key:∀ (m k:Nat) (s:St),k+m=N→I k s→∀ f,m<f→∃ e s',J2 (B9 P call n c) f s=some (e,s')∧Q e s':=by
  intro m
  induction m with
  | zero=>
   intro k s hk hI f hf
   obtain⟨f,rfl⟩:∃ f',f=f'+1:=⟨f-1,by omega⟩
   obtain⟨e,s',h1,h2⟩:=hr k s (by omega) hI
   cases e with
   | normal=>obtain⟨hk',_⟩:=h2;omega
   | exit id=>exact⟨_,_,by simp only[J2,h1],h2⟩
   | ret=>exact⟨_,_,by simp only[J2,h1],h2⟩
  | succ m ih=>
   intro k s hk hI f hf
   obtain⟨f,rfl⟩:∃ f',f=f'+1:=⟨f-1,by omega⟩
   obtain⟨e,s',h1,h2⟩:=hr k s (by omega) hI
   cases e with
   | normal=>
    obtain⟨hk',hI'⟩:=h2
    obtain⟨e2,s2,h3,h4⟩:=ih (k+1) s' (by omega) hI' f (by omega)
    exact⟨e2,s2,by simp only[J2,h1,h3],h4⟩
   | exit id=>exact⟨_,_,by simp only[J2,h1],h2⟩
   | ret=>exact⟨_,_,by simp only[J2,h1],h2⟩
 obtain⟨e,s',h1,h2⟩:=key N 0 s (by omega) h0 n hN
 exact⟨e,s',by simp only[B9,h1],h2⟩
theorem WS.mono {c:Code} {Q':DB→St→Prop} (h:WS P call n c s Q) (hq:∀ e s,Q e s→Q' e s):WS P call n c s Q':=by
 obtain⟨e,s',h1,h2⟩:=h
 exact⟨e,s',h1,hq _ _ h2⟩
theorem WL.nil {ops:Array Oper} {K:St→Prop} (h:K s):WL P call ops [] s K:=⟨s,rfl,h⟩
theorem WL.step {ops:Array Oper} {o:Oper} {l:List Oper} {K:St→Prop} {v:Value} {h':AA} (hw:DD ops s.T o=true) (hs:AJ P call s.T s.h o.op=some (v,h')) (h:WL P call ops l ⟨s.T.put o.dst v,h'⟩ K):WL P call ops (o :: l) s K:=by
 obtain⟨s',h1,h2⟩:=h
 refine⟨s',?_,h2⟩
 simp only[HU,E3,hw,if_true,hs,h1]
theorem WL.pass {ops:Array Oper} {o:Oper} {l:List Oper} {K:St→Prop} (hw:DD ops s.T o=false) (h:WL P call ops l ⟨s.T.put o.dst undef,s.h⟩ K):WL P call ops (o :: l) s K:=by
 obtain⟨s',h1,h2⟩:=h
 refine⟨s',?_,h2⟩
 simp[HU,E3,hw,h1]
theorem ZW {f:FuncId} {args:List Value} {h:AA} {fn:Func} {c:Code} (hf:P.funcs[f]?=some fn) (hb:fn.body=some c) (hl:args.length≤fn.ntmps) {R:Value→AA→Prop}
  (hw:WS P call n c ⟨GR 0 args .leaf,h⟩ (fun e s=>(e=.normal∨e=.ret)∧∃ vs,EV P s fn.results.toList=some vs∧R (F7 vs) s.h)):∃ v h',AW P call n f args h=some (v,h')∧R v h':=by
 obtain⟨e,s,h1,he,vs,h2,h3⟩:=hw
 refine⟨_,_,?_,h3⟩
 have hm:(match some vs with
     | some [v]=>some (v,s.h)
     | some vs=>some (.tuple vs.toArray,s.h)
     | none=>none)=some (F7 vs,s.h):=by
  match vs with
  | []=>rfl
  | [u]=>rfl
  | u :: u' :: us=>rfl
 rcases he with rfl | rfl <;> (simp only[AW,hf,hb,hl,if_true,h1,h2];exact hm)
end
section
variable {P:Program} {t:TypeId} {x y:Operand} {k:IntKind} {a b:Int}
theorem VL:B0 P .lss t x y (.int k a) (.int k b)=some (.bool (decide (a<b))):=by simp[B0,flat,BO,BC,Go.eqGuard,Go.binOp,Op.intCmp,Bind.bind,Sem.bind,Pure.pure]
theorem S7:B0 P .leq t x y (.int k a) (.int k b)=some (.bool (decide (a≤b))):=by simp[B0,flat,BO,BC,Go.eqGuard,Go.binOp,Op.intCmp,Bind.bind,Sem.bind,Pure.pure]
theorem SF:B0 P .gtr t x y (.int k a) (.int k b)=some (.bool (decide (a>b))):=by simp[B0,flat,BO,BC,Go.eqGuard,Go.binOp,Op.intCmp,Bind.bind,Sem.bind,Pure.pure]
theorem XB:B0 P .geq t x y (.int k a) (.int k b)=some (.bool (decide (a≥b))):=by simp[B0,flat,BO,BC,Go.eqGuard,Go.binOp,Op.intCmp,Bind.bind,Sem.bind,Pure.pure]
theorem OY:B0 P .eql t x y (.int k a) (.int k b)=some (.bool (a==b)):=by simp[B0,flat,BO,BC,Go.eqGuard,Go.binOp,Op.intCmp,Bind.bind,Sem.bind,Pure.pure]
theorem QF:B0 P .neq t x y (.int k a) (.int k b)=some (.bool (a != b)):=by simp[B0,flat,BO,BC,Go.eqGuard,Go.binOp,Op.intCmp,Bind.bind,Sem.bind,Pure.pure]
theorem UU:B0 P .add t x y (.int k a) (.int k b)=some (.int k (k.wrap (a+b))):=by simp[B0,flat,BO,BC,Go.eqGuard,Go.binOp,Op.intArith,Bind.bind,Sem.bind,Pure.pure]
theorem TL:B0 P .sub t x y (.int k a) (.int k b)=some (.int k (k.wrap (a-b))):=by simp[B0,flat,BO,BC,Go.eqGuard,Go.binOp,Op.intArith,Bind.bind,Sem.bind,Pure.pure]
theorem oD:B0 P .mul t x y (.int k a) (.int k b)=some (.int k (k.wrap (a*b))):=by simp[B0,flat,BO,BC,Go.eqGuard,Go.binOp,Op.intArith,Bind.bind,Sem.bind,Pure.pure]
theorem gI (hb:b≠0):B0 P .quo t x y (.int k a) (.int k b)=some (.int k (k.wrap (a.tdiv b))):=by simp[B0,flat,BO,BC,Go.eqGuard,Go.binOp,Op.intDiv,Bind.bind,Sem.bind,Pure.pure,hb]
theorem cD (hb:b≠0):B0 P .rem t x y (.int k a) (.int k b)=some (.int k (a.tmod b)):=by simp[B0,flat,BO,BC,Go.eqGuard,Go.binOp,Op.intDiv,Bind.bind,Sem.bind,Pure.pure,hb]
end
def V7:Value→Value→Bool
 | .bool a,.bool b=>a==b
 | .int k a,.int k' b=>decide (k=k')&&decide (a=b)
 | .string a,.string b=>decide (a=b)
 | .pointer none,.pointer none=>true
 | .pointer (some a),.pointer (some b)=>decide (a=b)
 | .slice none n c,.slice none n' c'=>Nat.beq n n'&&Nat.beq c c'
 | .slice (some a) n c,.slice (some b) n' c'=>decide (a=b)&&Nat.beq n n'&&Nat.beq c c'
 | .map none,.map none=>true
 | .map (some a),.map (some b)=>Nat.beq a b
 | .nilFunc,.nilFunc=>true
 | .nilIface,.nilIface=>true
 | _,_=>false
theorem f_ {a b:Value} (h:V7 a b=true):a=b:=by
 unfold V7 at h
 split at h <;> simp_all
def OI:List Value→List Value→Bool
 | [],[]=>true
 | a :: l,b :: m=>V7 a b&&OI l m
 | _,_=>false
theorem UT:∀ {l m:List Value},OI l m=true→l=m
 | [],[],_=>rfl
 | a :: l,b :: m,h=>by
  simp only[OI,Bool.and_eq_true] at h
  rw[f_ h.1,UT h.2]
 | [],_ :: _,h=>by simp[OI] at h
 | _ :: _,[],h=>by simp[OI] at h
def TI:Value→Value→Bool
 | .agg a,.agg b=>OI a.toList b.toList
 | a,b=>V7 a b
theorem fF {a b:Value} (h:TI a b=true):a=b:=by
 unfold TI at h
 split at h
 ·rw[Array.toList_inj.1 (UT h)]
 ·exact f_ h
def N7:List Value→List Value→Bool
 | [],[]=>true
 | a :: l,b :: m=>TI a b&&N7 l m
 | _,_=>false
theorem WB:∀ {l m:List Value},N7 l m=true→l=m
 | [],[],_=>rfl
 | a :: l,b :: m,h=>by
  simp only[N7,Bool.and_eq_true] at h
  rw[fF h.1,WB h.2]
 | [],_ :: _,h=>by simp[N7] at h
 | _ :: _,[],h=>by simp[N7] at h
def RA:Value→Value→Bool
 | .tuple a,.tuple b=>N7 a.toList b.toList
 | a,b=>TI a b
theorem VI {a b:Value} (h:RA a b=true):a=b:=by
 unfold RA at h
 split at h
 ·rw[Array.toList_inj.1 (WB h)]
 ·exact fF h
def ZD:BB→BB→Bool
 | _,.dead=>true
 | .row cs ty g ro,.row cs' ty' g' ro'=>OI cs cs'&&Nat.beq ty ty'&&(g==g')&&(ro==ro')
 | _,_=>false
def J6 (n:Nat):Value→Bool
 | .pointer (some a)=>decide (a.block<n)
 | .slice (some a) _ _=>decide (a.block<n)
 | .map (some i)=>decide (i<n)
 | v=>BO v
def below (n:Nat):Value→Bool
 | .agg cs=>cs.toList.all (J6 n)
 | v=>J6 n v
structure JD where
 f:FuncId
 args:List Value
 next:Nat
 need:List (Nat × BB)
 v:Value
 outs:List BB
noncomputable def S5 (t:DP):List (Nat × BB)→DP
 | []=>t
 | (i,o) :: l=>S5 (t.set i o) l
noncomputable def JD.hs (e:JD):AA:=⟨e.next,0,S5 .leaf e.need⟩
def SP:BB→Bool
 | .row _ _ _ ro=>ro
 | _=>false
noncomputable def T_ (h:AA) (i:Nat):List BB→Bool
 | []=>true
 | o :: l=>ZD (h.get i) o&&T_ h (i+1) l
noncomputable def JD.ok (call:AK) (e:JD):Bool:=
 (e.need.all fun x=>SP x.2)&&(match call e.f e.args e.hs with
  | some (v,h)=>RA v e.v&&Nat.beq h.next (e.next+e.outs.length)&&T_ h e.next e.outs
  | none=>false)
noncomputable def FV (a b:AK):AK:=fun f args h=>match a f args h with
 | some r=>some r
 | none=>b f args h
def MY:AK:=fun _ _ _=>none
theorem HD {P:Program}:CR P MY∧BZ MY:=⟨fun _ _ _ _ _ h=>by simp[MY] at h,fun _ _ _ _ _ h=>by simp[MY] at h⟩
theorem O_ {P:Program} {a b:AK} (ha:CR P a∧BZ a) (hb:CR P b∧BZ b):CR P (FV a b)∧BZ (FV a b):=by
 refine⟨fun f args h v h' hs=>?_,fun f args h v h' hs=>?_⟩
 ·unfold FV at hs
  split at hs
  ·rename_i r hr;cases hs;exact ha.1 _ _ _ _ _ hr
  ·exact hb.1 _ _ _ _ _ hs
 ·unfold FV at hs
  split at hs
  ·rename_i r hr;cases hs;exact ha.2 _ _ _ _ _ hr
  ·exact hb.2 _ _ _ _ _ hs
end Go.Sx
namespace Go.Sx
open Go
set_option linter.unusedSimpArgs false
set_option linter.unusedVariables false
theorem AH.back {ρ ρ':AX} (hx:∀ i L,ρ i=some L→ρ' i=some L) {v V0:Value} (h0:AH ρ v V0):∀ V,AH ρ' v V→AH ρ v V:=by
 refine AH.rec (motive_1:=fun v V0 _=>∀ V,AH ρ' v V→AH ρ v V) (motive_2:=fun l m _=>∀ n,AY (AH ρ') l n→AY (AH ρ) l n) ?_ ?_ ?_ ?_ ?_ ?_ ?_ ?_ ?_ ?_ ?_ h0
 ·intro v hv V h;rw[HL hv h];exact .flat hv
 ·intro id off L hL V h
  cases h with
  | flat hv=>exact .flat hv
  | ptr h=>rw[hx _ _ hL] at h;cases h;exact .ptr hL
 ·intro id off L n c hL hc V h
  cases h with
  | flat hv=>exact .flat hv
  | slice h hc=>rw[hx _ _ hL] at h;cases h;exact .slice hL hc
  | sliceU h hn ha=>rw[hx _ _ hL] at h;cases h;exact .sliceU hL hn ha
 ·intro id off L n c a hL hn ha V h
  cases h with
  | flat hv=>exact .flat hv
  | slice h hc=>rw[hx _ _ hL] at h;cases h;exact .slice hL hc
  | sliceU h hn ha=>rw[hx _ _ hL] at h;cases h;exact .sliceU hL hn ha
 ·intro id L hL V h
  cases h with
  | flat hv=>exact .flat hv
  | map h=>rw[hx _ _ hL] at h;cases h;exact .map hL
 ·intro fn f f' c c' _ _ h1 h2 V h
  cases h with
  | flat hv=>exact .flat hv
  | func a b=>exact .func (h1 _ a) (h2 _ b)
 ·intro t v v' _ h1 V h
  cases h with
  | flat hv=>exact .flat hv
  | iface a=>exact .iface (h1 _ a)
 ·intro cs cs' _ h1 V h
  cases h with
  | flat hv=>exact .flat hv
  | agg a=>exact .agg (h1 _ a)
 ·intro cs cs' _ h1 V h
  cases h with
  | flat hv=>exact .flat hv
  | tuple a=>exact .tuple (h1 _ a)
 ·intro n h;cases h;exact .nil
 ·intro a b l m _ _ h1 h2 n h
  cases h with
  | cons x y=>exact .cons (h1 _ x) (h2 _ y)
theorem FD.back {P:Program} {ρ ρ':AX} {W W':World} {i:Nat} {o:BB} (hx:∀ i L,ρ i=some L→ρ' i=some L) (h0:FD P ρ W i o) (h:FD P ρ' W' i o):FD P ρ W' i o:=by
 cases o with
 | dead=>trivial
 | row cs ty g ro=>
  obtain⟨L0,CS0,t0,f0,k1,k2,k3,k4⟩:=h0
  obtain⟨L,CS,t,f,l1,l2,l3,l4⟩:=h
  have e:L=L0:=by rw[hx _ _ k1] at l1;exact(Option.some.inj l1).symm
  subst e
  refine⟨L,CS,t,f,k1,l2,fun k v hv=>?_,l4⟩
  obtain⟨V0,_,hV0⟩:=k3 k v hv
  obtain⟨V,hV1,hV2⟩:=l3 k v hv
  exact⟨V,hV1,hV0.back hx _ hV2⟩
 | map es=>
  obtain⟨L0,ES0,c0,k1,k2,k3⟩:=h0
  obtain⟨L,ES,c,l1,l2,l3⟩:=h
  have e:L=L0:=by rw[hx _ _ k1] at l1;exact(Option.some.inj l1).symm
  subst e
  refine⟨L,ES,c,k1,l2,?_⟩
  have key:∀ {es:List (Value × Value)} {A B:List MapEntry},AY (fun (e:Value × Value) (E:MapEntry)=>AH ρ e.1 E.key∧AH ρ e.2 E.val) es A→AY (fun (e:Value × Value) (E:MapEntry)=>AH ρ' e.1 E.key∧AH ρ' e.2 E.val) es B→AY (fun (e:Value × Value) (E:MapEntry)=>AH ρ e.1 E.key∧AH ρ e.2 E.val) es B:=by
   intro es A B h1
   induction h1 generalizing B with
   | nil=>intro h2;cases h2;exact .nil
   | cons a _ ih=>
    intro h2
    cases h2 with
    | cons b c=>exact .cons ⟨a.1.back hx _ b.1,a.2.back hx _ b.2⟩ (ih c)
  exact key k3 l3
def E_:Value→Bool
 | .tuple cs=>cs.all flat
 | v=>flat v
theorem ZU {ρ:AX} {v V:Value} (hf:E_ v=true) (h:AH ρ v V):V=v:=by
 unfold E_ at hf
 split at hf
 ·rename_i cs
  cases h with
  | flat hv=>rfl
  | tuple h=>
   rename_i cs'
   have:∀ {l m:List Value},AY (AH ρ) l m→l.all flat=true→m=l:=by
    intro l m h
    induction h with
    | nil=>intro _;rfl
    | cons a _ ih=>
     intro hl
     simp only[List.all_cons,Bool.and_eq_true] at hl
     rw[MD hl.1 a,ih hl.2]
   have:=this h (by simpa using hf)
   congr 1
   exact Array.toList_inj.1 this
 ·exact MD hf h
theorem XO {ρ:AX} {v:Value} (hf:E_ v=true):AH ρ v v:=by
 unfold E_ at hf
 split at hf
 ·rename_i cs
  refine .tuple (AY.same fun a ha=>IS ?_)
  have:cs.toList.all flat=true:=by simpa using hf
  exact List.all_eq_true.1 this a ha
 ·exact IS hf
open Classical in
noncomputable def M0 (call:AK):AK:=fun f args h=>match call f args h with
 | some (v,h1)=>if E_ v=true∧∀ i,i<h.next→h1.get i=h.get i then some (v,h) else none
 | none=>none
theorem dW {call:AK} {f:FuncId} {args:List Value} {h h':AA} {v:Value} (hs:M0 call f args h=some (v,h')) :
  (∃ h1,call f args h=some (v,h1)∧∀ i,i<h.next→h1.get i=h.get i)∧E_ v=true∧h'=h:=by
 unfold M0 at hs
 split at hs
 ·rename_i v' h1 he
  split at hs
  ·rename_i hc
   cases hs
   exact⟨⟨h1,he,hc.2⟩,hc.1,rfl⟩
  ·cases hs
 ·cases hs
theorem YN {call:AK} {f:FuncId} {args:List Value} {h h1:AA} {v:Value} (hc:call f args h=some (v,h1)) (hv:E_ v=true) (hk:∀ i,i<h.next→h1.get i=h.get i):M0 call f args h=some (v,h):=by
 unfold M0
 rw[hc]
 simp only
 rw[if_pos ⟨hv,hk⟩]
theorem bU {P:Program} {call:AK} (hc:CR P call):CR P (M0 call)∧BZ (M0 call):=by
 refine⟨fun f args h v h' hs=>?_,fun f args h v h' hs=>?_⟩
 ·obtain⟨⟨h1,he,hk⟩,hv,rfl⟩:=dW hs
  obtain⟨hfn,hc2⟩:=hc _ _ _ _ _ he
  refine⟨hfn,fun ρ W ARGS hR hargs=>(hc2 ρ W ARGS hR hargs).mono fun e W' ⟨V,ρ',he',hN,hv'⟩=>?_⟩
  rw[ZU hv hv'] at he'
  refine⟨v,ρ,he',?_,XO hv⟩
  refine⟨fun _ _ h=>h,fun _ _=>rfl,⟨hR.len,hR.dom,hR.glob,fun i=>?_,hR.inj⟩,hN.fr,Nat.le_refl _,rfl,fun _ _ _=>rfl,fun _ _ h=>h,fun _ _ h=>h,fun i L hi hw _=>by rw[F_ hi] at hw;exact hw.elim⟩
  rcases Nat.lt_or_ge i h'.next with hi | hi
  ·have h2:=hN.rel.obj i
   rw[hk i hi] at h2
   exact(hR.obj i).back hN.ext h2
  ·rw[F_ hi];trivial
 ·obtain⟨_,_,rfl⟩:=dW hs
  exact .refl _
end Go.Sx
namespace Go.Proofs.YtipekdhneagdbaaDoor
open Go Go.Sx
noncomputable def KM (fs:List FuncId) (call:AK):AK:=fun f args h=>if fs.contains f then call f args h else none
theorem YX {P:Program} {fs:List FuncId} {call:AK} (hc:CR P call∧BZ call):CR P (KM fs call)∧BZ (KM fs call):=by
 refine⟨fun f args h v h' hs=>?_,fun f args h v h' hs=>?_⟩
 ·unfold KM at hs
  split at hs
  ·exact hc.1 _ _ _ _ _ hs
  ·cases hs
 ·unfold KM at hs
  split at hs
  ·exact hc.2 _ _ _ _ _ hs
  ·cases hs
noncomputable def L_ (fs:List FuncId) (base:AK) (k:Nat):AK:=FV base (KM fs (M0 (AW Tryd.prog (GB Tryd.prog base k) k)))
section
variable {fs:List FuncId} {k m:Nat} {base:AK} {f:FuncId} {args:List Value} {h h1:AA} {v:Value} {r:Value × AA}
theorem aS (hb:CR Tryd.prog base∧BZ base):CR Tryd.prog (L_ fs base k)∧BZ (L_ fs base k):=
 O_ hb (YX (bU (PV JG (M9 JG hb.1 hb.2 k).1 (M9 JG hb.1 hb.2 k).2 k).1))
theorem Q5 {a b:AK} (hb:a f args h=some r):FV a b f args h=some r:=by unfold FV;rw[hb]
theorem KE (hb:base f args h=some r):L_ fs base k f args h=some r:=Q5 hb
theorem MO (hb:base f args h=none) (hf:fs.contains f=false):L_ fs base k f args h=none:=by unfold L_ FV KM;rw[hb,hf];rfl
theorem EY {n:Nat} (hb:base f args h=some r):GB Tryd.prog base (n+1) f args h=some r:=by
 unfold GB
 rw[hb]
theorem NE {n:Nat} (hb:base f args h=none):GB Tryd.prog base (n+1) f args h=AW Tryd.prog (GB Tryd.prog base n) n f args h:=by
 rw[GB,hb]
theorem VW (hb:base f args h=none) (hf:fs.contains f=true) (hv:E_ v=true) (hw:∃ h1,AW Tryd.prog (GB Tryd.prog base k) k f args h=some (v,h1)∧∀ i,i<h.next→h1.get i=h.get i) :
  L_ fs base k f args h=some (v,h):=by
 obtain⟨h1,he,hk⟩:=hw
 have e:=YN he hv hk
 unfold L_ FV KM
 rw[hb,hf,if_pos rfl,e]
end
end Go.Proofs.YtipekdhneagdbaaDoor
namespace Go.Proofs.YtipekdhneagdbaaDoor
open Go Go.Sx
set_option linter.unusedSimpArgs false
set_option linter.unusedVariables false
set_option maxHeartbeats 64000000
structure AB where
 kind:Int
 name:ByteArray
 ends:Int
 n:Int
 kids:Int
def CC (what kind:Int):Bool:=
 if what=8 then kind==1
 else if what=0 then decide (kind≥2)&&decide (kind≤7)
 else if what=1 then decide (kind≥8)&&decide (kind≤10)
 else if what=2 then kind==11
 else if what=3 then decide (kind≥11)&&decide (kind≤23)
 else if what=4 then kind==11||kind==12
 else if what=5 then kind==25||kind==26
 else if what=6 then kind==24
 else decide (kind≥27)&&decide (kind≤54)
theorem PK {what kind:Int} (h:CC what kind=true):1≤kind∧kind≤54:=by
 unfold CC at h
 (repeat' split at h) <;> simp at h <;> omega
def GH (k:Int):Bool:=[1,2,3,4,5,7,8,9,14,15,16,17,19,20,21,22,24,26,28,31,32,35,36,37,38].contains k
def IE (k:Int):Bool:=[16,17,19,20,21,24,26].contains k
def E1 (k:Int):Int:=
 if [4,13].contains k then 3 else if [5,6,7,8,9,10,14,19,38,41,42].contains k then 1 else if [12,15,39,40].contains k||decide (k≥43) then 2 else 0
def CJ (k:Int):Int:=
 if [1,11].contains k then -1 else if [4,12,13].contains k then 3 else if [5,6,7,8,9,10,14,19,20,38,41,42].contains k then 1 else if [15,39,40].contains k||decide (k≥43) then 2 else 0
def BT (kind:Int) (kid:Nat):Int:=
 if kind=11 then 3 else if [7,8,9,10].contains kind then 2
 else if kind=12 then (if kid=0 then 7 else if kid=1 then 2 else 4)
 else if kind=13 then (if kid=2 then 2 else 7)
 else if kind=15 then (if kid=0 then 5 else 7)
 else if [19,20].contains kind then 6 else if kind=38 then 5 else 7
section
variable (isName:ByteArray→Bool)
def DE (x:AB):Bool:=
 (isName x.name==GH x.kind)&&(GH x.kind||x.name==ByteArray.empty)&&(x.ends==0||IE x.kind&&x.ends==1)&&(x.n==0||x.kind==27&&decide (x.n>0)&&decide (x.n≤1073741824)) &&
  decide (x.kids≥E1 x.kind)&&(decide (CJ x.kind<0)||decide (x.kids≤CJ x.kind))
def EF (g:Nat→Nat→Nat × Bool):Nat→Nat→Nat→Nat × Bool
 | 0,_,next=>(next,true)
 | r+1,k,next=>if (g k next).2=true then EF g r (k+1) (g k next).1 else ((g k next).1,false)
def BQ (l:List AB):Nat→Nat→Int→Nat × Bool
 | 0,at_,_=>(at_,false)
 | m+1,at_,what=>match l[at_]? with
  | none=>(at_,false)
  | some x=>if (CC what x.kind&&DE isName x)=true then EF (fun k next=>BQ l m next (BT x.kind k)) x.kids.toNat 0 (at_+1) else (at_,false)
def K3 (x:Option AB):Bool:=match x with
 | some x=>CC 1 x.kind
 | none=>false
def GX (ev:Bool) (x:Option AB):Int:=if (ev||K3 x)=true then 1 else 0
def D7 (l:List AB) (m:Nat):Nat→Bool→Nat→Nat × Bool
 | 0,_,next=>(next,true)
 | r+1,ev,next=>
  if (BQ isName l m next (GX ev l[next]?)).2=true then D7 l m r (ev||K3 l[next]?) (BQ isName l m next (GX ev l[next]?)).1
  else ((BQ isName l m next (GX ev l[next]?)).1,false)
def GO (l:List AB) (m:Nat):Nat × Bool:=match l[0]? with
 | none=>(0,false)
 | some x=>if (CC 8 x.kind&&DE isName x)=true then D7 isName l m x.kids.toNat false 1 else (0,false)
def G8 (l:List AB):Option Nat:=
 if (GO isName l (l.length+1)).2=true∧(GO isName l (l.length+1)).1=l.length then none else some (GO isName l (l.length+1)).1
variable {isName}
theorem qR {g:Nat→Nat→Nat × Bool} {b:Nat} (hg:∀ k p,p≤b→(g k p).2=true→p<(g k p).1∧(g k p).1≤b):∀ r k p,p≤b→(EF g r k p).2=true→p+r≤(EF g r k p).1∧(EF g r k p).1≤b:=by
 intro r
 induction r with
 | zero=>intro k p hp _;exact⟨Nat.le_refl _,hp⟩
 | succ r ih=>
  intro k p hp h
  unfold EF at h ⊢
  split at h
  ·rename_i hc
   rw[if_pos hc]
   have h1:=hg k p hp hc
   have h2:=ih (k+1) _ h1.2 h
   omega
  ·cases h
theorem QM {l:List AB}:∀ m at_ what,(BQ isName l m at_ what).2=true→at_<(BQ isName l m at_ what).1∧(BQ isName l m at_ what).1≤l.length:=by
 intro m
 induction m with
 | zero=>intro at_ what h;cases h
 | succ m ih=>
  intro at_ what
  unfold BQ
  cases hx:l[at_]? with
  | none=>intro h;cases h
  | some x=>
   simp only
   have hlt:at_<l.length:=(List.getElem?_eq_some_iff.1 hx).1
   split
   ·rename_i hc
    intro h
    have:=qR (b:=l.length) (fun k p _=>ih p (BT x.kind k)) x.kids.toNat 0 (at_+1) hlt h
    omega
   ·intro h;cases h
structure CF where
 kind:Int
 left:Nat
 next:Nat
def FC:List CF→List CF
 | []=>[]
 | f :: s=>if f.left=0 then FC s else f :: s
def I6:List CF→List CF
 | []=>[]
 | f :: s=>⟨f.kind,f.left-1,f.next+1⟩ :: s
theorem Q1 {f:CF} {s:List CF} (h:f.left≠0):FC (f :: s)=f :: s:=by unfold FC;rw[if_neg h]
theorem QE {f:CF} {s:List CF} (h:f.left=0):FC (f :: s)=FC s:=by
 show (if f.left=0 then FC s else f :: s)=FC s
 rw[if_pos h]
def K2:List CF→Int
 | []=>8
 | f :: _=>if f.kind=1 then 9 else BT f.kind f.next
def EW (what kind:Int):Bool:=if what=9 then decide (kind≥2)&&decide (kind≤10) else CC what kind
def JB (l:List AB) (at_:Nat) (s:List CF) (ev:Bool):Option Nat ⊕ (List CF × Bool):=
 match l[at_]? with
 | none=>.inl (some at_)
 | some x=>
  if (EW (K2 s) x.kind&&DE isName x)=true then
   if K2 s=9∧ev=true∧CC 0 x.kind=true then .inl (some at_)
   else .inr (FC (⟨x.kind,x.kids.toNat,0⟩ :: I6 s),if K2 s=9 then ev||CC 1 x.kind else ev)
  else .inl (some at_)
def F9 (l:List AB):Nat→Nat→List CF→Bool→Option Nat
 | 0,_,_,_=>none
 | m+1,at_,s,ev=>match JB (isName:=isName) l at_ s ev with
  | .inl r=>r
  | .inr (s',ev')=>if s'=[] then (if at_+1<l.length then some (at_+1) else none) else F9 l m (at_+1) s' ev'
def IK (l:List AB) (M at_:Nat) (s:List CF) (ev:Bool):Option Nat:=if s=[] then (if at_<l.length then some at_ else none) else F9 (isName:=isName) l M at_ s ev
theorem VO {g:Nat→Nat→Nat × Bool} (hg:∀ k p,p≤(g k p).1):∀ r k p,p≤(EF g r k p).1:=by
 intro r
 induction r with
 | zero=>intro k p;exact Nat.le_refl _
 | succ r ih=>
  intro k p
  unfold EF
  split
  ·exact Nat.le_trans (hg k p) (ih _ _)
  ·exact hg k p
theorem O9 {l:List AB}:∀ m at_ what,at_≤(BQ isName l m at_ what).1:=by
 intro m
 induction m with
 | zero=>intro at_ what;exact Nat.le_refl _
 | succ m ih=>
  intro at_ what
  unfold BQ
  split
  ·exact Nat.le_refl _
  ·split
   ·exact Nat.le_trans (Nat.le_succ _) (VO (fun k p=>ih p _) _ _ _)
   ·exact Nat.le_refl _
theorem VD {k:Int} {j:Nat}:BT k j≠9∧BT k j≠8:=by
 unfold BT
 (repeat' split) <;> decide
theorem tH {k:Int} {j:Nat} {q:Int} (h:CC (BT k j) q=true):q≠1:=by
 intro e
 subst e
 revert h
 unfold BT
 (repeat' split) <;> decide
def i6 (l:List AB) (m:Nat):Prop:=∀ (at_:Nat) (F:CF) (rest:List CF) (ev:Bool),F.kind≠1→l.length<at_+m →
 ((BQ isName l m at_ (BT F.kind F.next)).2=true→∀ M,F9 (isName:=isName) l (M+((BQ isName l m at_ (BT F.kind F.next)).1-at_)) at_ (F :: rest) ev=IK (isName:=isName) l M (BQ isName l m at_ (BT F.kind F.next)).1 (FC (I6 (F :: rest))) ev) ∧
 ((BQ isName l m at_ (BT F.kind F.next)).2=false→∀ M,(BQ isName l m at_ (BT F.kind F.next)).1-at_<M→F9 (isName:=isName) l M at_ (F :: rest) ev=some (BQ isName l m at_ (BT F.kind F.next)).1)
theorem mE {l:List AB} {m:Nat} (hm:i6 (isName:=isName) l m) {κ:Int} (hκ:κ≠1) (D:List CF) (ev:Bool):∀ r k p,l.length<p+m →
  ((EF (fun k next=>BQ isName l m next (BT κ k)) r k p).2=true→∀ M,IK (isName:=isName) l (M+((EF (fun k next=>BQ isName l m next (BT κ k)) r k p).1-p)) p (FC (⟨κ,r,k⟩ :: D)) ev=IK (isName:=isName) l M (EF (fun k next=>BQ isName l m next (BT κ k)) r k p).1 (FC D) ev) ∧
  ((EF (fun k next=>BQ isName l m next (BT κ k)) r k p).2=false→∀ M,(EF (fun k next=>BQ isName l m next (BT κ k)) r k p).1-p<M→IK (isName:=isName) l M p (FC (⟨κ,r,k⟩ :: D)) ev=some (EF (fun k next=>BQ isName l m next (BT κ k)) r k p).1):=by
 intro r
 induction r with
 | zero=>
  intro k p hp
  refine⟨fun _ M=>?_,fun h=>(by cases h)⟩
  rw[QE rfl]
  simp[EF]
 | succ r ih=>
  intro k p hp
  obtain⟨a1,a2⟩:=hm p ⟨κ,r+1,k⟩ D ev hκ hp
  simp only at a1 a2
  have hne:FC (⟨κ,r+1,k⟩ :: D)=⟨κ,r+1,k⟩ :: D:=Q1 (by simp)
  have hdec:I6 (⟨κ,r+1,k⟩ :: D)=⟨κ,r,k+1⟩ :: D:=rfl
  have hcont:∀ M,IK (isName:=isName) l M p (⟨κ,r+1,k⟩ :: D) ev=F9 (isName:=isName) l M p (⟨κ,r+1,k⟩ :: D) ev:=fun M=>by unfold IK;rw[if_neg (by simp)]
  have hge:=O9 (isName:=isName) (l:=l) m p (BT κ k)
  rw[hne]
  simp only[hcont]
  unfold EF
  generalize hq:BQ isName l m p (BT κ k)=q at a1 a2 hge
  cases hb:q.2 with
  | true=>
   simp only[if_true]
   have hq1:p<q.1∧q.1≤l.length:=by
    have:=QM (isName:=isName) (l:=l) m p (BT κ k)
    rw[hq] at this
    exact this hb
   obtain⟨b1,b2⟩:=ih (k+1) q.1 (by omega)
   have hge2:=VO (g:=fun k next=>BQ isName l m next (BT κ k)) (fun k p=>O9 m p _) r (k+1) q.1
   refine⟨fun h M=>?_,fun h M hM=>?_⟩
   ·have:=a1 hb (M+((EF (fun k next=>BQ isName l m next (BT κ k)) r (k+1) q.1).1-q.1))
    rw[hdec,b1 h M] at this
    rw[← this]
    congr 1
    omega
   ·have:=a1 hb (M-(q.1-p))
    rw[hdec,b2 h _ (by omega)] at this
    rw[← this]
    congr 1
    omega
  | false=>
   simp only[Bool.false_eq_true,if_false]
   exact⟨fun h=>(by cases h),fun _ M hM=>a2 hb M hM⟩
theorem tQ {F:CF} {rest:List CF} (hF:F.kind≠1):K2 (F :: rest)=BT F.kind F.next∧(∀ k,EW (BT F.kind F.next) k=CC (BT F.kind F.next) k)∧K2 (F :: rest)≠9:=by
 have h:K2 (F :: rest)=BT F.kind F.next:=by
  show (if F.kind=1 then 9 else BT F.kind F.next)=_
  rw[if_neg hF]
 refine⟨h,fun k=>?_,by rw[h];exact VD.1⟩
 unfold EW
 rw[if_neg VD.1]
theorem tW {l:List AB}:∀ m,i6 (isName:=isName) l m:=by
 intro m
 induction m with
 | zero=>
  intro at_ F rest ev hF hlen
  refine⟨fun h=>(by cases h),fun _ M hM=>?_⟩
  have hx:l[at_]?=none:=List.getElem?_eq_none (by omega)
  obtain⟨M,rfl⟩:∃ M',M=M'+1:=⟨M-1,by omega⟩
  simp[F9,JB,hx,BQ]
 | succ m ih=>
  intro at_ F rest ev hF hlen
  obtain⟨w1,w2,w3⟩:=tQ (rest:=rest) hF
  have hbad:∀ M,0<M→(l[at_]?=none∨∃ x,l[at_]?=some x∧(CC (BT F.kind F.next) x.kind&&DE isName x)=false)→F9 (isName:=isName) l M at_ (F :: rest) ev=some at_:=by
   intro M hM h
   obtain⟨M,rfl⟩:∃ M',M=M'+1:=⟨M-1,by omega⟩
   rcases h with h | ⟨x,hx,hb⟩
   ·simp[F9,JB,h]
   ·simp only[F9,JB,hx,w1,w2,hb,Bool.false_eq_true,if_false]
  unfold BQ
  cases hx:l[at_]? with
  | none=>
   simp only
   exact⟨fun h=>(by cases h),fun _ M hM=>hbad M (by omega) (.inl hx)⟩
  | some x=>
   simp only
   cases hb:(CC (BT F.kind F.next) x.kind&&DE isName x) with
   | false=>
    simp only[Bool.false_eq_true,if_false]
    exact⟨fun h=>(by cases h),fun _ M hM=>hbad M (by omega) (.inr ⟨x,hx,hb⟩)⟩
   | true=>
    simp only[if_true]
    have hk1:x.kind≠1:=tH (Bool.and_eq_true_iff.1 hb).1
    have hrun:∀ M,F9 (isName:=isName) l (M+1) at_ (F :: rest) ev=IK (isName:=isName) l M (at_+1) (FC (⟨x.kind,x.kids.toNat,0⟩ :: I6 (F :: rest))) ev:=by
     intro M
     simp only[F9,JB,hx,w1,w2,hb,if_true,VD.1,false_and,if_false]
     rfl
    obtain⟨b1,b2⟩:=mE ih hk1 (I6 (F :: rest)) ev x.kids.toNat 0 (at_+1) (by omega)
    have hge:=VO (g:=fun k next=>BQ isName l m next (BT x.kind k)) (fun k p=>O9 m p _) x.kids.toNat 0 (at_+1)
    refine⟨fun h M=>?_,fun h M hM=>?_⟩
    ·have:=b1 h M
     rw[← this,← hrun]
     congr 1
     omega
    ·obtain⟨M,rfl⟩:∃ M',M=M'+1:=⟨M-1,by omega⟩
     rw[hrun,b2 h M (by omega)]
theorem nU {l:List AB} {m:Nat}:∀ r ev p,p≤(D7 isName l m r ev p).1:=by
 intro r
 induction r with
 | zero=>intro ev p;exact Nat.le_refl _
 | succ r ih=>
  intro ev p
  unfold D7
  split
  ·exact Nat.le_trans (O9 m p _) (ih _ _)
  ·exact O9 m p _
theorem zR {l:List AB} {m:Nat}:∀ r ev p,p≤l.length→(D7 isName l m r ev p).2=true→p+r≤(D7 isName l m r ev p).1∧(D7 isName l m r ev p).1≤l.length:=by
 intro r
 induction r with
 | zero=>intro ev p hp _;exact⟨Nat.le_refl _,hp⟩
 | succ r ih=>
  intro ev p hp h
  unfold D7 at h ⊢
  split at h
  ·rename_i hc
   rw[if_pos hc]
   have h1:=QM (isName:=isName) (l:=l) m p _ hc
   have h2:=ih _ _ h1.2 h
   omega
  ·cases h
theorem TU {k:Int}:(CC 0 k=true→EW 9 k=true∧CC 1 k=false∧k≠1)∧(CC 1 k=true→EW 9 k=true∧CC 0 k=false∧k≠1)∧(EW 9 k=true→CC 0 k=true∨CC 1 k=true):=by
 unfold EW CC
 simp only[if_true,Int.reduceEq,if_false,Bool.and_eq_true,decide_eq_true_eq,Bool.and_eq_false_iff,decide_eq_false_iff_not]
 omega
theorem uY {l:List AB} {m:Nat}:∀ r ev k p,l.length<p+m →
  ((D7 isName l m r ev p).2=true→∀ M,IK (isName:=isName) l (M+((D7 isName l m r ev p).1-p)) p (FC [⟨1,r,k⟩]) ev=IK (isName:=isName) l M (D7 isName l m r ev p).1 [] false) ∧
  ((D7 isName l m r ev p).2=false→∀ M,(D7 isName l m r ev p).1-p<M→IK (isName:=isName) l M p (FC [⟨1,r,k⟩]) ev=some (D7 isName l m r ev p).1):=by
 intro r
 induction r with
 | zero=>
  intro ev k p hp
  refine⟨fun _ M=>?_,fun h=>(by cases h)⟩
  rw[QE rfl]
  show IK (isName:=isName) l (M+(p-p)) p [] ev=IK (isName:=isName) l M p [] false
  rw[Nat.sub_self]
  rfl
 | succ r ih=>
  intro ev k p hp
  have hne:FC [⟨1,r+1,k⟩]=[⟨1,r+1,k⟩]:=Q1 (by simp)
  have hdec:I6 [⟨1,r+1,k⟩]=[⟨1,r,k+1⟩]:=rfl
  have hcont:∀ M,IK (isName:=isName) l M p [⟨1,r+1,k⟩] ev=F9 (isName:=isName) l M p [⟨1,r+1,k⟩] ev:=fun M=>by unfold IK;rw[if_neg (by simp)]
  have hw:K2 [⟨1,r+1,k⟩]=9:=rfl
  rw[hne]
  simp only[hcont]
  unfold D7
  have bad:∀ M,0<M→(l[p]?=none∨∃ x,l[p]?=some x∧(CC (GX ev l[p]?) x.kind&&DE isName x)=false)→F9 (isName:=isName) l M p [⟨1,r+1,k⟩] ev=some p:=by
   intro M hM h
   obtain⟨M,rfl⟩:∃ M',M=M'+1:=⟨M-1,by omega⟩
   rcases h with h | ⟨x,hx,hb⟩
   ·simp[F9,JB,h]
   ·simp only[F9,JB,hx,hw]
    cases hf:DE isName x with
    | false=>simp
    | true=>
     rw[hf,Bool.and_true,hx] at hb
     simp only[GX,K3] at hb
     cases hs:EW 9 x.kind with
     | false=>simp
     | true=>
      rcases TU.2.2 hs with h0 | h1
      ·have hn:=(TU.1 h0).2.1
       simp only[hn,Bool.or_false] at hb
       cases ev with
       | false=>simp[h0] at hb
       | true=>simp[h0]
      ·simp[h1] at hb
  cases m with
  | zero=>
   have hx:l[p]?=none:=List.getElem?_eq_none (by omega)
   simp only[BQ,Bool.false_eq_true,if_false]
   exact⟨fun h=>(by cases h),fun _ M hM=>bad M (by omega) (.inl hx)⟩
  | succ m=>
   unfold BQ
   cases hx:l[p]? with
   | none=>
    simp only[Bool.false_eq_true,if_false]
    exact⟨fun h=>(by cases h),fun _ M hM=>bad M (by omega) (.inl hx)⟩
   | some x=>
    simp only
    rw[hx] at bad
    cases hb:(CC (GX ev (some x)) x.kind&&DE isName x) with
    | false=>
     simp only[Bool.false_eq_true,if_false]
     exact⟨fun h=>(by cases h),fun _ M hM=>bad M (by omega) (.inr ⟨x,rfl,hb⟩)⟩
    | true=>
     simp only[if_true]
     have hs:=(Bool.and_eq_true_iff.1 hb).1
     have hfit:=(Bool.and_eq_true_iff.1 hb).2
     have hev:K3 (some x)=CC 1 x.kind:=rfl
     have facts:EW 9 x.kind=true∧x.kind≠1∧¬ (ev=true∧CC 0 x.kind=true):=by
      unfold GX at hs
      split at hs
      ·rename_i hc
       have:=TU.2.1 hs
       exact⟨this.1,this.2.2,fun h=>by rw[this.2.1] at h;cases h.2⟩
      ·rename_i hc
       have:=TU.1 hs
       refine⟨this.1,this.2.2,fun h=>hc ?_⟩
       rw[h.1];rfl
     have hrun:∀ M,F9 (isName:=isName) l (M+1) p [⟨1,r+1,k⟩] ev=IK (isName:=isName) l M (p+1) (FC (⟨x.kind,x.kids.toNat,0⟩ :: [⟨1,r,k+1⟩])) (ev||CC 1 x.kind):=by
      intro M
      simp only[F9,JB,hx,hw,facts.1,hfit,Bool.and_self,if_true,true_and,hdec]
      rw[if_neg facts.2.2]
      rfl
     obtain⟨b1,b2⟩:=mE (tW (isName:=isName) (l:=l) m) facts.2.1 [⟨1,r,k+1⟩] (ev||CC 1 x.kind) x.kids.toNat 0 (p+1) (by omega)
     have hge:=VO (g:=fun k next=>BQ isName l m next (BT x.kind k)) (fun k p=>O9 m p _) x.kids.toNat 0 (p+1)
     generalize hq:EF (fun k next=>BQ isName l m next (BT x.kind k)) x.kids.toNat 0 (p+1)=q at b1 b2 hge
     cases hqb:q.2 with
     | false=>
      simp only[Bool.false_eq_true,if_false]
      refine⟨fun h=>(by cases h),fun _ M hM=>?_⟩
      obtain⟨M,rfl⟩:∃ M',M=M'+1:=⟨M-1,by omega⟩
      rw[hrun,b2 hqb M (by omega)]
     | true=>
      simp only[if_true]
      rw[hev]
      obtain⟨c1,c2⟩:=ih (ev||CC 1 x.kind) (k+1) q.1 (by omega)
      have hge2:=nU (isName:=isName) (l:=l) (m:=m+1) r (ev||CC 1 x.kind) q.1
      refine⟨fun h M=>?_,fun h M hM=>?_⟩
      ·have:=b1 hqb (M+((D7 isName l (m+1) r (ev||CC 1 x.kind) q.1).1-q.1))
       rw[c1 h M] at this
       rw[← this,← hrun]
       congr 1
       omega
      ·have:=b1 hqb (M-(q.1-p))
       rw[c2 h _ (by omega)] at this
       rw[← this,← hrun]
       congr 1
       omega
theorem Ft {g:Nat→Nat→Nat × Bool} {b:Nat} (hg:∀ k p,p≤b→(g k p).1≤b):∀ r k p,p≤b→(EF g r k p).1≤b:=by
 intro r
 induction r with
 | zero=>intro k p hp;exact hp
 | succ r ih=>
  intro k p hp
  unfold EF
  split
  ·exact ih _ _ (hg k p hp)
  ·exact hg k p hp
theorem WC {l:List AB}:∀ m at_ what,at_≤l.length→(BQ isName l m at_ what).1≤l.length:=by
 intro m
 induction m with
 | zero=>intro at_ what h;exact h
 | succ m ih=>
  intro at_ what h
  unfold BQ
  split
  ·exact h
  ·rename_i x hx
   have hlt:at_<l.length:=(List.getElem?_eq_some_iff.1 hx).1
   split
   ·exact Ft (fun k p hp=>ih p _ hp) _ _ _ hlt
   ·exact h
theorem nR {l:List AB} {m:Nat}:∀ r ev p,p≤l.length→(D7 isName l m r ev p).1≤l.length:=by
 intro r
 induction r with
 | zero=>intro ev p hp;exact hp
 | succ r ih=>
  intro ev p hp
  unfold D7
  split
  ·exact ih _ _ (WC m p _ hp)
  ·exact WC m p _ hp
theorem zE {l:List AB} {M:Nat} (hM:l.length<M):F9 (isName:=isName) l M 0 [] false=G8 isName l:=by
 obtain⟨M,rfl⟩:∃ M',M=M'+1:=⟨M-1,by omega⟩
 unfold G8 GO
 cases hx:l[0]? with
 | none=>simp[F9,JB,hx]
 | some x=>
  have hlt:0<l.length:=(List.getElem?_eq_some_iff.1 hx).1
  have h8:∀ k,EW 8 k=CC 8 k:=fun k=>rfl
  have hw:K2 []=8:=rfl
  simp only
  cases hb:(CC 8 x.kind&&DE isName x) with
  | false=>simp[F9,JB,hx,hw,h8,hb]
  | true=>
   simp only[if_true]
   have hk:x.kind=1:=by
    have:=(Bool.and_eq_true_iff.1 hb).1
    simpa [CC] using this
   have hrun:F9 (isName:=isName) l (M+1) 0 [] false=IK (isName:=isName) l M 1 (FC [⟨1,x.kids.toNat,0⟩]) false:=by
    simp only[F9,JB,hx,hw,h8,hb,if_true]
    simp only[hk,show ((8:Int)=9)=False by simp,false_and,if_false]
    rfl
   rw[hrun]
   obtain⟨c1,c2⟩:=uY (isName:=isName) (l:=l) (m:=l.length+1) x.kids.toNat false 0 1 (by omega)
   have hge:=nU (isName:=isName) (l:=l) (m:=l.length+1) x.kids.toNat false 1
   have hle:=zR (isName:=isName) (l:=l) (m:=l.length+1) x.kids.toNat false 1 (by omega)
   have hle':=nR (isName:=isName) (l:=l) (m:=l.length+1) x.kids.toNat false 1 (by omega)
   generalize D7 isName l (l.length+1) x.kids.toNat false 1=q at c1 c2 hge hle hle'
   cases hq:q.2 with
   | true=>
    have:=hle hq
    have h1:=c1 hq (M-(q.1-1))
    rw[show M-(q.1-1)+(q.1-1)=M by omega] at h1
    rw[h1]
    unfold IK
    rw[if_pos rfl]
    by_cases hl:q.1=l.length
    ·rw[if_neg (by omega),if_pos ⟨rfl,hl⟩]
    ·rw[if_pos (by omega),if_neg (fun h=>hl h.2)]
   | false=>
    rw[if_neg (fun h=>by cases h.1),c2 hq M (by omega)]
end
end Go.Proofs.YtipekdhneagdbaaDoor
namespace Go.Sx
open Go
set_option linter.unusedSimpArgs false
set_option linter.unusedVariables false
set_option maxHeartbeats 64000000
def LV:Value→Bool
 | .func (.func _) f c=>f.isEmpty&&c.isEmpty
 | v=>flat v
theorem Df {ρ ρ':AX} {v V:Value} (hp:LV v=true) (h:AH ρ v V):AH ρ' v V:=by
 unfold LV at hp
 split at hp
 ·rename_i k f c
  simp only[Bool.and_eq_true,Array.isEmpty_iff] at hp
  obtain⟨rfl,rfl⟩:=hp
  obtain⟨f',c',rfl,h1,h2⟩:=cL h
  have e1:f'=#[]:=by
   have:=h1.length
   simp at this
   exact Array.eq_empty_of_size_eq_zero this.symm
  have e2:c'=#[]:=by
   have:=h2.length
   simp at this
   exact Array.eq_empty_of_size_eq_zero this.symm
  subst e1
  subst e2
  exact .func .nil .nil
 ·rw[MD hp h]
  exact IS hp
theorem oO {ρ ρ':AX} {l:List Value} {m:List Value} (hp:l.all LV=true) (h:AY (AH ρ) l m):AY (AH ρ') l m:=by
 induction h with
 | nil=>exact .nil
 | cons h _ ih=>
  simp only[List.all_cons,Bool.and_eq_true] at hp
  exact .cons (Df hp.1 h) (ih hp.2)
end Go.Sx
