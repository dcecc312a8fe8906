/- Part 6 of what the claim leans on: 6 texts laid one behind another. -/
import Derived.Test.YtipekdhneagdbaaDoorCO5
import Derived.Below
import Derived.ChangeSame
import Derived.Lib.LaidTab
import Derived.ProofKit
namespace Go.Sx
open Go Go.RowKit Go.WideShapes Go.ChangeShapes
set_option linter.unusedSimpArgs false
set_option linter.unusedVariables false
set_option maxHeartbeats 64000000
section
variable {H:Type} {enc:TypeId × Value→H} {P:Program}
theorem Pw {f:Func} {s:ChangeSpec} {apart fresh handsOn again:Bool} {W W':World} {args:Array Value} {v:Value} {ds gs:List (DataW H)} {before pa pv:List MemPlace}
  (hW:DataW.Whole enc P f.params.toList s.vars apart W args.toList ds gs before)
  (hres:∀ (b:Nat) (sp:Nat→Bool) (hd:Bool),DataW.TrodAll enc P W' b sp hd f.resultTypes.toList (v.resultList f.resultTypes.size) (s.fn H (ds++gs)).results [])
  (hargs:∀ sp:Nat→Bool,(∀ p∈before,sp p.block=true)→DataW.TrodAll enc P W' 0 sp true f.params.toList args.toList (s.fn H (ds++gs)).args pa)
  (hvars:∀ sp:Nat→Bool,(∀ p∈before,sp p.block=true)→DataW.TrodVars enc P W' sp s.vars (s.fn H (ds++gs)).vars pv)
  (hps:before=pa++pv) (hb:Below W.heap.size W W')
  (hok:∀ (j:Nat) (t:TypeId) (r:Value),f.resultTypes[j]?=some t→(v.resultList f.resultTypes.size)[j]?=some r→Value.okWide P W' .any 0 t r) :
  s.post enc P f apart fresh handsOn again W args v W':=by
 have hlt:∀ p∈before,p.block<W.heap.size:=fun p hp=>hW.lt p hp
 have hold:∀ p∈before,(fun b=>decide (b<W.heap.size)) p.block=true:=fun p hp=>by simpa using hlt p hp
 refine⟨ds,gs,before,[],pa,pv,hW,hres _ _ _,hargs _ hold,hvars _ hold,World.keptBut_mono (fun p hp=>⟨hp,?_⟩) (hb.frame (· ∈ before)),fun _=>?_⟩
 ·rw[hps,List.mem_append] at hp
  exact Or.inr hp
 ·obtain⟨_,_,_,_,_,hz,hn⟩:=hW
  refine⟨hok,_,_,([]++pa)++pv,⟨[]++pa,pv,trodAll_append (hargs _ (fun _ _=>rfl)) (hres _ _ _),hvars _ (fun _ _=>rfl),rfl,?_,?_⟩,?_⟩
  ·intro b off hp
   have hin:MemPlace.cell b off∈before:=by rw[hps];simpa using hp
   rw[hb.frozen (hlt _ hin)]
   exact hz b off hin
  ·intro ha
   have:=hn ha
   rw[hps] at this
   simpa using this
  ·intro p hp _
   rw[hps]
   simpa using hp
end
theorem Be {H:Type} {enc:TypeId × Value→H} {P:Program} {w:World} {base:Nat} {sp:Nat→Bool} {held:Bool} {fuel:Nat} {t e:TypeId} {n:Nat} {cs:List Value} {zs:List (List UInt8)} {p:List MemPlace}
  (ht:P.underlying t=some (.array n e)) (he:P.underlying e=some .string) (hce:P.cellsOf e=1) (hct:P.cellsOf t=n)
  (h:DataW.trod enc P w base sp held fuel t cs=some (.agg (zs.map fun z=>.lit (.string z)),p)):cs=zs.map fun z=>Value.string ⟨z.toArray⟩:=by
 cases fuel with
 | zero=>simp[DataW.trod] at h
 | succ fuel=>
  simp only[DataW.trod,ht,hce,hct,Nat.mul_one] at h
  split at h
  ·rename_i hl
   obtain⟨xs,hm,hx⟩:=Option.map_eq_some_iff.1 h
   have hxs:xs.map (·.1)=zs.map fun z=>(DataW.lit (.string z):DataW H):=by
    have:=congrArg Prod.fst hx
    simpa using this
   have hxl:xs.length=n:=by simpa using Lib.mapM_length hm
   have hzl:zs.length=n:=by
    have:=congrArg List.length hxs
    simp at this
    omega
   apply List.ext_getElem?
   intro i
   by_cases hi:i<n
   ·obtain⟨b,hb,hf⟩:=Lib.mapM_at hm i i (by simp[hi])
    obtain⟨z,hc,rfl,_⟩:=DataW.trod_string he hf
    have h1:cs[i]?=some (.string z):=by
     have:=congrArg (·[0]?) hc
     simpa [List.getElem?_take,List.getElem?_drop] using this
    have h2:(xs.map (·.1))[i]?=some (DataW.lit (.string z.data.toList):DataW H):=by simp[hb]
    rw[hxs] at h2
    simp only[List.getElem?_map,Option.map_eq_some_iff,DataW.lit.injEq,Lit.string.injEq] at h2
    obtain⟨z',hz',hz⟩:=h2
    subst hz
    simp[h1,hz']
   ·rw[List.getElem?_eq_none (by omega),List.getElem?_eq_none (by simp;omega)]
  ·cases h
theorem VK {P:Program} {W:World} {name:String} {zs:List (List UInt8)} {rest:List (String × DataW Unit)} {g:Nat} {t e:TypeId} {n:Nat}
  (hg:P.globalNamed name=some g) (hty:(P.globals[g]?).map (·.type)=some t) (ht:P.underlying t=some (.array n e)) (he:P.underlying e=some .string) (hce:P.cellsOf e=1) (hct:P.cellsOf t=n)
  (h:laidMet P ((name,.agg (zs.map fun z=>.lit (.string z))) :: rest) W):∃ CS ty fr,W.heap[g]?=some (.cells CS ty fr)∧CS.toList=zs.map fun z=>Value.string ⟨z.toArray⟩:=by
 obtain⟨ps,⟨g',t',cs,fuel,p,q,hg',ht',hvar,hd,_,_⟩,_⟩:=h
 obtain rfl:=Option.some.inj (hg.symm.trans hg')
 obtain rfl:=Option.some.inj (hty.symm.trans ht')
 have hcs:=Be ht he hce hct hd
 simp only[World.var?,hg,Option.bind_some] at hvar
 split at hvar
 ·rename_i CS ty fr hb
  cases hvar
  exact⟨_,_,_,hb,hcs⟩
 ·cases hvar
theorem TP {P:Program} {W:World} {ρ:BK} {h:AA} (hl:h.good) (hd:∀ i,h.next≤i→ρ i=none) (hg:∀ g,g<P.globals.size→∃ L,ρ g=some L∧L.b=g∧L.d=0)
  (ho:∀ i,i<h.next→∃ cs ty g L CS ty' fr,h.get i=.row cs ty g true∧ρ i=some L∧W.heap[L.b]?=some (.cells CS ty' fr)∧∀ (k:Nat) (v:Value),cs[k]?=some v→∃ V,CS[L.d+k]?=some V∧AH ρ v V) :
  CB P ρ h W∧∀ i,¬ wr (h.get i):=by
 have hw:∀ i,¬ wr (h.get i):=fun i hw=>by
  rcases Nat.lt_or_ge i h.next with hi | hi
  ·obtain⟨cs,ty,g,L,CS,ty',fr,h1,_⟩:=ho i hi
   rw[h1] at hw
   cases hw
  ·rw[JU hi] at hw
   exact hw
 refine⟨⟨hl,hd,hg,fun i=>?_,fun i j L L' hwi=>absurd hwi (hw i)⟩,hw⟩
 rcases Nat.lt_or_ge i h.next with hi | hi
 ·obtain⟨cs,ty,g,L,CS,ty',fr,h1,h2,h3,h4⟩:=ho i hi
  rw[h1]
  exact⟨L,CS,ty',fr,h2,h3,h4,fun h=>by cases h⟩
 ·rw[JU hi]
  trivial
theorem Gr.below {W W':World} (h:Gr W W'):Below W.heap.size W W':=⟨h.os,h.tape,h.output,h.size,h.blk⟩
end Go.Sx
namespace Go.Sx
open Go
set_option linter.unusedSimpArgs false
set_option linter.unusedVariables false
set_option maxHeartbeats 64000000
noncomputable def A9 (P:Program) (call:AT) (n:Nat):AT:=fun f args h=>
 match P.funcs[f]? with
 | some fn=>match fn.body with
  | some c=>if args.length≤fn.ntmps then
    match CQ P call n c ⟨IU 0 args .leaf,h⟩ with
    | some (.normal,s) | some (.ret,s)=>match E8 P s fn.results.toList with
     | some [v]=>some (v,s.h)
     | some vs=>some (.tuple vs.toArray,s.h)
     | none=>none
    | _=>none
   else none
  | none=>none
 | none=>none
noncomputable def G4 (P:Program) (base:AT):Nat→AT
 | 0,_,_,_=>none
 | n+1,f,args,h=>match base f args h with
  | some r=>some r
  | none=>A9 P (G4 P base n) n f args h
def CK (call:AT):Prop:=∀ f args h v h',call f args h=some (v,h')→EB h h'
theorem S0 {P:Program} (hP:PS P=true) {call:AT} (ih1:DO P call) (ih2:CK call) (fuel:Nat):DO P (A9 P call fuel)∧CK (A9 P call fuel):=by
 simp only[PS,Bool.and_eq_true] at hP
 obtain⟨hm,hall⟩:=hP
 have key:∀ f args h v h',A9 P call fuel f args h=some (v,h')→∃ fn c e s vs,P.funcs[f]?=some fn∧fn.body=some c∧args.length≤fn.ntmps∧(e=.normal∨e=.ret) ∧
   CQ P call fuel c ⟨IU 0 args .leaf,h⟩=some (e,s)∧E8 P s fn.results.toList=some vs∧v=GR vs∧h'=s.h:=by
  intro f args h v h' hs
  simp only[A9] at hs
  split at hs
  ·rename_i fn hfn
   split at hs
   ·rename_i c hc
    split at hs
    ·rename_i hlen
     split at hs
     ·rename_i s hcode
      obtain⟨vs,h1,h2,h3⟩:=aI hs
      exact⟨fn,c,.normal,s,vs,hfn,hc,hlen,.inl rfl,hcode,h1,h2,h3⟩
     ·rename_i s hcode
      obtain⟨vs,h1,h2,h3⟩:=aI hs
      exact⟨fn,c,.ret,s,vs,hfn,hc,hlen,.inr rfl,hcode,h1,h2,h3⟩
     ·cases hs
    ·cases hs
   ·cases hs
  ·cases hs
 have hfOK : ∀ (f : FuncId) (fn : Func) (c : Code), P.funcs[f]? = some fn → fn.body = some c → KP P fn.ntmps c = true ∧ (fn.name == "runtime.NumGoroutine") = false := by
  intro f fn c hfn hc
  have:=List.all_eq_true.1 hall fn (List.mem_of_getElem? (i:=f) (by simpa using hfn))
  unfold eA at this
  rw[hc] at this
  simp only[Bool.and_eq_true,Bool.not_eq_true'] at this
  exact this
 refine⟨fun f args h v h' hs=>?_,fun f args h v h' hs=>?_⟩
 ·obtain⟨fn,c,e,s,vs,hfn,hc,hlen,he,hcode,hres,hv,hh⟩:=key f args h v h' hs
  obtain⟨hcOK,hname⟩:=hfOK f fn c hfn hc
  refine⟨⟨fn,c,hfn,hc,hname⟩,fun ρ W ARGS hR hargs=>?_⟩
  have hsz:ARGS.size=args.length:=by have:=hargs.length;simpa using this.symm
  refine calls_of_wp hfn hc (oI ih1 ih2 hm fuel c hcOK hcode hR ?_ (by simp;omega) fun A' W' ρ' hN hT' hn' hd'=>?_)
  ·intro t
   simp only[mQ]
   show AH ρ _ ((ARGS++Array.replicate (fn.ntmps-ARGS.size) undef).getD t undef)
   rw[Array.getD_eq_getD_getElem?,Array.getElem?_append]
   by_cases ht:t<args.length
   ·rw[if_pos (by omega),if_pos (by omega)]
    obtain⟨b,hb,hr⟩:=hargs.get (i:=t) (a:=args[t]) (by simp[ht])
    have hb':ARGS[t]?=some b:=by simpa using hb
    rw[hb']
    simpa [ht] using hr
   ·rw[if_neg (by omega),if_neg (by omega),Array.getElem?_replicate]
    have:(Tr.leaf).get t=undef:=rfl
    rw[this]
    split <;> exact QC
  ·obtain⟨V,hV,hr⟩:=mX hres hN.rel hT'
   have hb:bodyPost P fn (fun e W'=>∃ V ρ',e=.returned V∧Nx P ρ h W ρ' h' W'∧AH ρ' v V) .normal A' W':=⟨hd',V,hV,V,ρ',rfl,by rw[hh];exact hN,by rw[hv];exact hr⟩
   rcases he with rfl | rfl
   ·exact hb
   ·exact hb
 ·obtain⟨fn,c,e,s,vs,hfn,hc,hlen,he,hcode,hres,hv,hh⟩:=key f args h v h' hs
  rw[hh]
  exact qY ih2 fuel c hcode
theorem N2 {P:Program} (hP:PS P=true) {base:AT} (hb:DO P base) (hs:CK base):∀ fuel,DO P (G4 P base fuel)∧CK (G4 P base fuel):=by
 intro fuel
 induction fuel with
 | zero=>exact⟨fun f args h v h' hs=>by simp[G4] at hs,fun f args h v h' hs=>by simp[G4] at hs⟩
 | succ fuel ih=>
  obtain⟨i1,i2⟩:=S0 hP ih.1 ih.2 fuel
  refine⟨fun f args h v h' hh=>?_,fun f args h v h' hh=>?_⟩
  ·simp only[G4] at hh
   split at hh
   ·rename_i r hr;cases hh;exact hb f args h v h' hr
   ·exact i1 f args h v h' hh
  ·simp only[G4] at hh
   split at hh
   ·rename_i r hr;cases hh;exact hs f args h v h' hr
   ·exact i2 f args h v h' hh
noncomputable def NZ (f0:FuncId) (o:BF):AT:=fun f args h=>by
 classical
 exact if f=f0∧args=[]∧h.get 0=o then some (.bool true,h) else none
theorem Lp {P:Program} {call:AT} (hC:DO P call) {f0:FuncId} {cs:List Value} {ty:TypeId} {g:Bool} {h':AA} (hgl:P.globals.size=1) (hflat:cs.all B9=true)
  (hs:call f0 [] ⟨1,0,.node (.row cs ty g true) .leaf .leaf⟩=some (.bool true,h')):DO P (NZ f0 (.row cs ty g true))∧CK (NZ f0 (.row cs ty g true)):=by
 have key:∀ f args h v h1,NZ f0 (.row cs ty g true) f args h=some (v,h1)→f=f0∧args=[]∧h.get 0=.row cs ty g true∧v=.bool true∧h1=h:=by
  intro f args h v h1 he
  unfold NZ at he
  split at he
  ·rename_i hc
   cases he
   exact⟨hc.1,hc.2.1,hc.2.2,rfl,rfl⟩
  ·cases he
 refine⟨fun f args h v h1 he=>?_,fun f args h v h1 he=>?_⟩
 ·obtain⟨rfl,rfl,hg,rfl,rfl⟩:=key f args h v h1 he
  obtain⟨hfn,hcall⟩:=hC f [] _ _ _ hs
  refine⟨hfn,fun ρ W ARGS hR hargs=>?_⟩
  obtain⟨L0,hL0,hb0,hd0⟩:=hR.glob 0 (by omega)
  have ho:=hR.obj 0
  rw[hg] at ho
  obtain⟨L,CS,ty',fr,hL,hW,hcs,_⟩:=ho
  have hro:=TP (P:=P) (W:=W) (ρ:=fun i=>if i=0 then some L0 else none) (h:=⟨1,0,.node (.row cs ty g true) .leaf .leaf⟩) rfl (fun i hi=>by
    have:1≤i:=hi
    rw[if_neg (by omega)]) (fun g hg=>by
    obtain rfl:g=0:=by omega
    exact⟨L0,rfl,hb0,hd0⟩) (fun i hi=>by
    have:i<1:=hi
    obtain rfl:i=0:=by omega
    rw[hL0] at hL
    cases hL
    exact⟨cs,ty,g,L0,CS,ty',fr,rfl,rfl,hW,fun k v hv=>by
     obtain⟨V,hV,hr⟩:=hcs k v hv
     have hf:=List.all_eq_true.1 hflat v (List.mem_of_getElem? hv)
     rw[IY hf hr] at hV
     exact⟨v,hV,.flat hf⟩⟩)
  refine(hcall _ W ARGS hro.1 (by rw[List.length_eq_zero_iff.1 hargs.length.symm];exact .nil)).mono fun e W' ⟨V,ρ',he,hN,hv⟩=>⟨V,ρ,he,(Nx.refl hR).grow (hN.fr.gr hro.2),?_⟩
  rw[QT hv]
  exact .flat rfl
 ·obtain⟨rfl,rfl,hg,rfl,rfl⟩:=key f args h v h1 he
  exact .refl _
theorem Ki {P:Program} (hP:PS P=true) {fuel:Nat} {f0:FuncId} {cs:List Value} {ty:TypeId} {g:Bool} {h':AA} (hgl:P.globals.size=1) (hflat:cs.all B9=true)
  (hs:LJ P fuel f0 [] ⟨1,0,.node (.row cs ty g true) .leaf .leaf⟩=some (.bool true,h')):DO P (NZ f0 (.row cs ty g true))∧CK (NZ f0 (.row cs ty g true)):=
 Lp (rI hP fuel).1 hgl hflat hs
section
variable {P:Program} {call:AT} {n:Nat}
def WS (P:Program) (call:AT) (n:Nat) (c:Code) (s:St) (Q:DK→St→Prop):Prop:=∃ e s',CQ P call n c s=some (e,s')∧Q e s'
def WL (P:Program) (call:AT) (ops:Array Oper) (l:List Oper) (s:St) (Q:St→Prop):Prop:=∃ s',J5 P call ops l s=some s'∧Q s'
def WD (P:Program) (call:AT) (ops:Array Oper) (start i:Nat) (l:List Oper) (s:St) (Q:St→Prop):Prop:=∃ s',KU P call ops start i l s=some s'∧Q s'
def DK.on (K:St→Prop) (Q:DK→St→Prop):DK→St→Prop
 | .normal,s=>K s
 | e,s=>Q e s
def DK.inB (id:Nat) (Q:DK→St→Prop):DK→St→Prop
 | .exit i,s=>if i=id then Q .normal s else Q (.exit i) s
 | e,s=>Q e s
variable {s:St} {Q:DK→St→Prop}
theorem WS.skip (h:Q .normal s):WS P call n .skip s Q:=⟨_,_,rfl,h⟩
theorem WS.exit {id:Nat} (h:Q (.exit id) s):WS P call n (.exit id) s Q:=⟨_,_,rfl,h⟩
theorem WS.ret (h:Q .ret s):WS P call n .ret s Q:=⟨_,_,rfl,h⟩
theorem WS.seq {a b:Code} (h:WS P call n a s (DK.on (fun s'=>WS P call n b s' Q) Q)):WS P call n (.seq a b) s Q:=by
 obtain⟨e,s',h1,h2⟩:=h
 cases e with
 | normal=>
  obtain⟨e2,s2,h3,h4⟩:=h2
  exact⟨e2,s2,by simp only[CQ,h1,h3],h4⟩
 | exit id=>exact⟨_,_,by simp only[CQ,h1],h2⟩
 | ret=>exact⟨_,_,by simp only[CQ,h1],h2⟩
theorem WS.cond {c:Operand} {a b:Code} {t:Bool} (hc:ev s.T c=.bool t) (h1:t=true→WS P call n a s Q) (h2:t=false→WS P call n b s Q):WS P call n (.cond c a b) s Q:=by
 cases t with
 | true=>
  obtain⟨e,s',h3,h4⟩:=h1 rfl
  exact⟨e,s',by simp only[CQ,hc,h3],h4⟩
 | false=>
  obtain⟨e,s',h3,h4⟩:=h2 rfl
  exact⟨e,s',by simp only[CQ,hc,h3],h4⟩
theorem WS.block {id:Nat} {c:Code} (h:WS P call n c s (DK.inB id Q)):WS P call n (.block id c) s Q:=by
 obtain⟨e,s',h1,h2⟩:=h
 cases e with
 | normal=>exact⟨_,_,by simp only[CQ,h1],h2⟩
 | exit i=>
  by_cases hi:i=id
  ·subst hi
   exact⟨.normal,s',by simp only[CQ,h1,if_true],by simpa [DK.inB] using h2⟩
  ·exact⟨.exit i,s',by simp only[CQ,h1,hi,if_false],by simpa [DK.inB,hi] using h2⟩
 | ret=>exact⟨_,_,by simp only[CQ,h1],h2⟩
theorem WS.region {id:Nat} {ops:Array Oper} (h:WL P call ops ops.toList s (Q .normal)):WS P call n (.region id ops false) s Q:=by
 obtain⟨s',h1,h2⟩:=h
 exact⟨_,_,by simp only[CQ,h1];rfl,h2⟩
theorem WS.draw {id:Nat} {ops:Array Oper} (h:WD P call ops s.h.next 0 ops.toList s (Q .normal)):WS P call n (.region id ops true) s Q:=by
 obtain⟨s',h1,h2⟩:=h
 exact⟨_,_,by simp only[CQ,h1];rfl,h2⟩
theorem WS.loop {c:Code} (I:Nat→St→Prop) (N:Nat) (hN:N<n) (h0:I 0 s)
  (hr:∀ k s,k≤N→I k s→WS P call n c s (DK.on (fun s'=>k<N∧I (k+1) s') Q)):WS P call n (.loop c) s Q:=by
 have key:∀ (m k:Nat) (s:St),k+m=N→I k s→∀ f,m<f→∃ e s',KS (CQ P call n c) f s=some (e,s')∧Q e s':=by
  intro m
  induction m with
  | zero=>
   intro k s hk hI f hf
   obtain⟨f,rfl⟩:∃ f',f=f'+1:=⟨f-1,by omega⟩
   obtain⟨e,s',h1,h2⟩:=hr k s (by omega) hI
   cases e with
   | normal=>obtain⟨hk',_⟩:=h2;omega
   | exit id=>exact⟨_,_,by simp only[KS,h1],h2⟩
   | ret=>exact⟨_,_,by simp only[KS,h1],h2⟩
  | succ m ih=>
   intro k s hk hI f hf
   obtain⟨f,rfl⟩:∃ f',f=f'+1:=⟨f-1,by omega⟩
   obtain⟨e,s',h1,h2⟩:=hr k s (by omega) hI
   cases e with
   | normal=>
    obtain⟨hk',hI'⟩:=h2
    obtain⟨e2,s2,h3,h4⟩:=ih (k+1) s' (by omega) hI' f (by omega)
    exact⟨e2,s2,by simp only[KS,h1,h3],h4⟩
   | exit id=>exact⟨_,_,by simp only[KS,h1],h2⟩
   | ret=>exact⟨_,_,by simp only[KS,h1],h2⟩
 obtain⟨e,s',h1,h2⟩:=key N 0 s (by omega) h0 n hN
 exact⟨e,s',by simp only[CQ,h1],h2⟩
theorem WS.mono {c:Code} {Q':DK→St→Prop} (h:WS P call n c s Q) (hq:∀ e s,Q e s→Q' e s):WS P call n c s Q':=by
 obtain⟨e,s',h1,h2⟩:=h
 exact⟨e,s',h1,hq _ _ h2⟩
theorem WL.nil {ops:Array Oper} {K:St→Prop} (h:K s):WL P call ops [] s K:=⟨s,rfl,h⟩
theorem WL.step {ops:Array Oper} {o:Oper} {l:List Oper} {K:St→Prop} {v:Value} {h':AA} (hw:D9 ops s.T o=true) (hs:AQ P call s.T s.h o.op=some (v,h')) (h:WL P call ops l ⟨s.T.put o.dst v,h'⟩ K):WL P call ops (o :: l) s K:=by
 obtain⟨s',h1,h2⟩:=h
 refine⟨s',?_,h2⟩
 simp only[J5,FW,hw,if_true,hs,h1]
theorem WL.pass {ops:Array Oper} {o:Oper} {l:List Oper} {K:St→Prop} (hw:D9 ops s.T o=false) (h:WL P call ops l ⟨s.T.put o.dst undef,s.h⟩ K):WL P call ops (o :: l) s K:=by
 obtain⟨s',h1,h2⟩:=h
 refine⟨s',?_,h2⟩
 simp[J5,FW,hw,h1]
theorem e_ {f:FuncId} {args:List Value} {h:AA} {fn:Func} {c:Code} (hf:P.funcs[f]?=some fn) (hb:fn.body=some c) (hl:args.length≤fn.ntmps) {R:Value→AA→Prop}
  (hw:WS P call n c ⟨IU 0 args .leaf,h⟩ (fun e s=>(e=.normal∨e=.ret)∧∃ vs,E8 P s fn.results.toList=some vs∧R (GR vs) s.h)):∃ v h',A9 P call n f args h=some (v,h')∧R v h':=by
 obtain⟨e,s,h1,he,vs,h2,h3⟩:=hw
 refine⟨_,_,?_,h3⟩
 have hm:(match some vs with
     | some [v]=>some (v,s.h)
     | some vs=>some (.tuple vs.toArray,s.h)
     | none=>none)=some (GR vs,s.h):=by
  match vs with
  | []=>rfl
  | [u]=>rfl
  | u :: u' :: us=>rfl
 rcases he with rfl | rfl <;> (simp only[A9,hf,hb,hl,if_true,h1,h2];exact hm)
end
section
variable {P:Program} {t:TypeId} {x y:Operand} {k:IntKind} {a b:Int}
theorem YD:CJ P .lss t x y (.int k a) (.int k b)=some (.bool (decide (a<b))):=by simp[CJ,flat,B9,BE,Go.eqGuard,Go.binOp,Op.intCmp,Bind.bind,Sem.bind,Pure.pure]
theorem TV:CJ P .leq t x y (.int k a) (.int k b)=some (.bool (decide (a≤b))):=by simp[CJ,flat,B9,BE,Go.eqGuard,Go.binOp,Op.intCmp,Bind.bind,Sem.bind,Pure.pure]
theorem UG:CJ P .gtr t x y (.int k a) (.int k b)=some (.bool (decide (a>b))):=by simp[CJ,flat,B9,BE,Go.eqGuard,Go.binOp,Op.intCmp,Bind.bind,Sem.bind,Pure.pure]
theorem YM:CJ P .geq t x y (.int k a) (.int k b)=some (.bool (decide (a≥b))):=by simp[CJ,flat,B9,BE,Go.eqGuard,Go.binOp,Op.intCmp,Bind.bind,Sem.bind,Pure.pure]
theorem Q5:CJ P .eql t x y (.int k a) (.int k b)=some (.bool (a==b)):=by simp[CJ,flat,B9,BE,Go.eqGuard,Go.binOp,Op.intCmp,Bind.bind,Sem.bind,Pure.pure]
theorem S6:CJ P .neq t x y (.int k a) (.int k b)=some (.bool (a != b)):=by simp[CJ,flat,B9,BE,Go.eqGuard,Go.binOp,Op.intCmp,Bind.bind,Sem.bind,Pure.pure]
theorem WG:CJ P .add t x y (.int k a) (.int k b)=some (.int k (k.wrap (a+b))):=by simp[CJ,flat,B9,BE,Go.eqGuard,Go.binOp,Op.intArith,Bind.bind,Sem.bind,Pure.pure]
theorem WE:CJ P .sub t x y (.int k a) (.int k b)=some (.int k (k.wrap (a-b))):=by simp[CJ,flat,B9,BE,Go.eqGuard,Go.binOp,Op.intArith,Bind.bind,Sem.bind,Pure.pure]
theorem pW:CJ P .mul t x y (.int k a) (.int k b)=some (.int k (k.wrap (a*b))):=by simp[CJ,flat,B9,BE,Go.eqGuard,Go.binOp,Op.intArith,Bind.bind,Sem.bind,Pure.pure]
theorem Pc (hb:b≠0):CJ P .quo t x y (.int k a) (.int k b)=some (.int k (k.wrap (a.tdiv b))):=by simp[CJ,flat,B9,BE,Go.eqGuard,Go.binOp,Op.intDiv,Bind.bind,Sem.bind,Pure.pure,hb]
theorem Cp (hb:b≠0):CJ P .rem t x y (.int k a) (.int k b)=some (.int k (a.tmod b)):=by simp[CJ,flat,B9,BE,Go.eqGuard,Go.binOp,Op.intDiv,Bind.bind,Sem.bind,Pure.pure,hb]
end
def WZ:Value→Value→Bool
 | .bool a,.bool b=>a==b
 | .int k a,.int k' b=>decide (k=k')&&decide (a=b)
 | .string a,.string b=>decide (a=b)
 | .pointer none,.pointer none=>true
 | .pointer (some a),.pointer (some b)=>decide (a=b)
 | .slice none n c,.slice none n' c'=>Nat.beq n n'&&Nat.beq c c'
 | .slice (some a) n c,.slice (some b) n' c'=>decide (a=b)&&Nat.beq n n'&&Nat.beq c c'
 | .map none,.map none=>true
 | .map (some a),.map (some b)=>Nat.beq a b
 | .nilFunc,.nilFunc=>true
 | .nilIface,.nilIface=>true
 | _,_=>false
theorem iT {a b:Value} (h:WZ a b=true):a=b:=by
 unfold WZ at h
 split at h <;> simp_all
def PX:List Value→List Value→Bool
 | [],[]=>true
 | a :: l,b :: m=>WZ a b&&PX l m
 | _,_=>false
theorem WN:∀ {l m:List Value},PX l m=true→l=m
 | [],[],_=>rfl
 | a :: l,b :: m,h=>by
  simp only[PX,Bool.and_eq_true] at h
  rw[iT h.1,WN h.2]
 | [],_ :: _,h=>by simp[PX] at h
 | _ :: _,[],h=>by simp[PX] at h
def WM:Value→Value→Bool
 | .agg a,.agg b=>PX a.toList b.toList
 | a,b=>WZ a b
theorem n_ {a b:Value} (h:WM a b=true):a=b:=by
 unfold WM at h
 split at h
 ·rw[Array.toList_inj.1 (WN h)]
 ·exact iT h
def PZ:List Value→List Value→Bool
 | [],[]=>true
 | a :: l,b :: m=>WM a b&&PZ l m
 | _,_=>false
theorem Y3:∀ {l m:List Value},PZ l m=true→l=m
 | [],[],_=>rfl
 | a :: l,b :: m,h=>by
  simp only[PZ,Bool.and_eq_true] at h
  rw[n_ h.1,Y3 h.2]
 | [],_ :: _,h=>by simp[PZ] at h
 | _ :: _,[],h=>by simp[PZ] at h
def SJ:Value→Value→Bool
 | .tuple a,.tuple b=>PZ a.toList b.toList
 | a,b=>WM a b
theorem XP {a b:Value} (h:SJ a b=true):a=b:=by
 unfold SJ at h
 split at h
 ·rw[Array.toList_inj.1 (Y3 h)]
 ·exact n_ h
def aF:BF→BF→Bool
 | _,.dead=>true
 | .row cs ty g ro,.row cs' ty' g' ro'=>PX cs cs'&&Nat.beq ty ty'&&(g==g')&&(ro==ro')
 | _,_=>false
def K_ (n:Nat):Value→Bool
 | .pointer (some a)=>decide (a.block<n)
 | .slice (some a) _ _=>decide (a.block<n)
 | .map (some i)=>decide (i<n)
 | v=>B9 v
def below (n:Nat):Value→Bool
 | .agg cs=>cs.toList.all (K_ n)
 | v=>K_ n v
structure KG where
 f:FuncId
 args:List Value
 next:Nat
 need:List (Nat × BF)
 v:Value
 outs:List BF
noncomputable def US (t:EF):List (Nat × BF)→EF
 | []=>t
 | (i,o) :: l=>US (t.set i o) l
noncomputable def KG.hs (e:KG):AA:=⟨e.next,0,US .leaf e.need⟩
def UE:BF→Bool
 | .row _ _ _ ro=>ro
 | _=>false
noncomputable def YJ (h:AA) (i:Nat):List BF→Bool
 | []=>true
 | o :: l=>aF (h.get i) o&&YJ h (i+1) l
noncomputable def KG.ok (call:AT) (e:KG):Bool:=
 (e.need.all fun x=>UE x.2)&&(match call e.f e.args e.hs with
  | some (v,h)=>SJ v e.v&&Nat.beq h.next (e.next+e.outs.length)&&YJ h e.next e.outs
  | none=>false)
noncomputable def HN (a b:AT):AT:=fun f args h=>match a f args h with
 | some r=>some r
 | none=>b f args h
def N7:AT:=fun _ _ _=>none
theorem Bt {P:Program}:DO P N7∧CK N7:=⟨fun _ _ _ _ _ h=>by simp[N7] at h,fun _ _ _ _ _ h=>by simp[N7] at h⟩
theorem U8 {P:Program} {a b:AT} (ha:DO P a∧CK a) (hb:DO P b∧CK b):DO P (HN a b)∧CK (HN a b):=by
 refine⟨fun f args h v h' hs=>?_,fun f args h v h' hs=>?_⟩
 ·unfold HN at hs
  split at hs
  ·rename_i r hr;cases hs;exact ha.1 _ _ _ _ _ hr
  ·exact hb.1 _ _ _ _ _ hs
 ·unfold HN at hs
  split at hs
  ·rename_i r hr;cases hs;exact ha.2 _ _ _ _ _ hr
  ·exact hb.2 _ _ _ _ _ hs
end Go.Sx
namespace Go.Sx
open Go
set_option linter.unusedSimpArgs false
set_option linter.unusedVariables false
theorem AH.back {ρ ρ':BK} (hx:∀ i L,ρ i=some L→ρ' i=some L) {v V0:Value} (h0:AH ρ v V0):∀ V,AH ρ' v V→AH ρ v V:=by
 refine AH.rec (motive_1:=fun v V0 _=>∀ V,AH ρ' v V→AH ρ v V) (motive_2:=fun l m _=>∀ n,BB (AH ρ') l n→BB (AH ρ) l n) ?_ ?_ ?_ ?_ ?_ ?_ ?_ ?_ ?_ ?_ ?_ h0
 ·intro v hv V h;rw[IY hv h];exact .flat hv
 ·intro id off L hL V h
  cases h with
  | flat hv=>exact .flat hv
  | ptr h=>rw[hx _ _ hL] at h;cases h;exact .ptr hL
 ·intro id off L n c hL hc V h
  cases h with
  | flat hv=>exact .flat hv
  | slice h hc=>rw[hx _ _ hL] at h;cases h;exact .slice hL hc
  | sliceU h hn ha=>rw[hx _ _ hL] at h;cases h;exact .sliceU hL hn ha
 ·intro id off L n c a hL hn ha V h
  cases h with
  | flat hv=>exact .flat hv
  | slice h hc=>rw[hx _ _ hL] at h;cases h;exact .slice hL hc
  | sliceU h hn ha=>rw[hx _ _ hL] at h;cases h;exact .sliceU hL hn ha
 ·intro id L hL V h
  cases h with
  | flat hv=>exact .flat hv
  | map h=>rw[hx _ _ hL] at h;cases h;exact .map hL
 ·intro fn f f' c c' _ _ h1 h2 V h
  cases h with
  | flat hv=>exact .flat hv
  | func a b=>exact .func (h1 _ a) (h2 _ b)
 ·intro t v v' _ h1 V h
  cases h with
  | flat hv=>exact .flat hv
  | iface a=>exact .iface (h1 _ a)
 ·intro cs cs' _ h1 V h
  cases h with
  | flat hv=>exact .flat hv
  | agg a=>exact .agg (h1 _ a)
 ·intro cs cs' _ h1 V h
  cases h with
  | flat hv=>exact .flat hv
  | tuple a=>exact .tuple (h1 _ a)
 ·intro n h;cases h;exact .nil
 ·intro a b l m _ _ h1 h2 n h
  cases h with
  | cons x y=>exact .cons (h1 _ x) (h2 _ y)
theorem GD.back {P:Program} {ρ ρ':BK} {W W':World} {i:Nat} {o:BF} (hx:∀ i L,ρ i=some L→ρ' i=some L) (h0:GD P ρ W i o) (h:GD P ρ' W' i o):GD P ρ W' i o:=by
 cases o with
 | dead=>trivial
 | row cs ty g ro=>
  obtain⟨L0,CS0,t0,f0,k1,k2,k3,k4⟩:=h0
  obtain⟨L,CS,t,f,l1,l2,l3,l4⟩:=h
  have e:L=L0:=by rw[hx _ _ k1] at l1;exact(Option.some.inj l1).symm
  subst e
  refine⟨L,CS,t,f,k1,l2,fun k v hv=>?_,l4⟩
  obtain⟨V0,_,hV0⟩:=k3 k v hv
  obtain⟨V,hV1,hV2⟩:=l3 k v hv
  exact⟨V,hV1,hV0.back hx _ hV2⟩
 | map es=>
  obtain⟨L0,ES0,c0,k1,k2,k3⟩:=h0
  obtain⟨L,ES,c,l1,l2,l3⟩:=h
  have e:L=L0:=by rw[hx _ _ k1] at l1;exact(Option.some.inj l1).symm
  subst e
  refine⟨L,ES,c,k1,l2,?_⟩
  have key:∀ {es:List (Value × Value)} {A B:List MapEntry},BB (fun (e:Value × Value) (E:MapEntry)=>AH ρ e.1 E.key∧AH ρ e.2 E.val) es A→BB (fun (e:Value × Value) (E:MapEntry)=>AH ρ' e.1 E.key∧AH ρ' e.2 E.val) es B→BB (fun (e:Value × Value) (E:MapEntry)=>AH ρ e.1 E.key∧AH ρ e.2 E.val) es B:=by
   intro es A B h1
   induction h1 generalizing B with
   | nil=>intro h2;cases h2;exact .nil
   | cons a _ ih=>
    intro h2
    cases h2 with
    | cons b c=>exact .cons ⟨a.1.back hx _ b.1,a.2.back hx _ b.2⟩ (ih c)
  exact key k3 l3
def FP:Value→Bool
 | .tuple cs=>cs.all flat
 | v=>flat v
theorem pI {ρ:BK} {v V:Value} (hf:FP v=true) (h:AH ρ v V):V=v:=by
 unfold FP at hf
 split at hf
 ·rename_i cs
  cases h with
  | flat hv=>rfl
  | tuple h=>
   rename_i cs'
   have:∀ {l m:List Value},BB (AH ρ) l m→l.all flat=true→m=l:=by
    intro l m h
    induction h with
    | nil=>intro _;rfl
    | cons a _ ih=>
     intro hl
     simp only[List.all_cons,Bool.and_eq_true] at hl
     rw[NR hl.1 a,ih hl.2]
   have:=this h (by simpa using hf)
   congr 1
   exact Array.toList_inj.1 this
 ·exact NR hf h
theorem s_ {ρ:BK} {v:Value} (hf:FP v=true):AH ρ v v:=by
 unfold FP at hf
 split at hf
 ·rename_i cs
  refine .tuple (BB.same fun a ha=>JW ?_)
  have:cs.toList.all flat=true:=by simpa using hf
  exact List.all_eq_true.1 this a ha
 ·exact JW hf
open Classical in
noncomputable def OT (call:AT):AT:=fun f args h=>match call f args h with
 | some (v,h1)=>if FP v=true∧∀ i,i<h.next→h1.get i=h.get i then some (v,h) else none
 | none=>none
theorem rZ {call:AT} {f:FuncId} {args:List Value} {h h':AA} {v:Value} (hs:OT call f args h=some (v,h')) :
  (∃ h1,call f args h=some (v,h1)∧∀ i,i<h.next→h1.get i=h.get i)∧FP v=true∧h'=h:=by
 unfold OT at hs
 split at hs
 ·rename_i v' h1 he
  split at hs
  ·rename_i hc
   cases hs
   exact⟨⟨h1,he,hc.2⟩,hc.1,rfl⟩
  ·cases hs
 ·cases hs
theorem dJ {call:AT} {f:FuncId} {args:List Value} {h h1:AA} {v:Value} (hc:call f args h=some (v,h1)) (hv:FP v=true) (hk:∀ i,i<h.next→h1.get i=h.get i):OT call f args h=some (v,h):=by
 unfold OT
 rw[hc]
 simp only
 rw[if_pos ⟨hv,hk⟩]
theorem aE {P:Program} {call:AT} (hc:DO P call):DO P (OT call)∧CK (OT call):=by
 refine⟨fun f args h v h' hs=>?_,fun f args h v h' hs=>?_⟩
 ·obtain⟨⟨h1,he,hk⟩,hv,rfl⟩:=rZ hs
  obtain⟨hfn,hc2⟩:=hc _ _ _ _ _ he
  refine⟨hfn,fun ρ W ARGS hR hargs=>(hc2 ρ W ARGS hR hargs).mono fun e W' ⟨V,ρ',he',hN,hv'⟩=>?_⟩
  rw[pI hv hv'] at he'
  refine⟨v,ρ,he',?_,s_ hv⟩
  refine⟨fun _ _ h=>h,fun _ _=>rfl,⟨hR.len,hR.dom,hR.glob,fun i=>?_,hR.inj⟩,hN.fr,Nat.le_refl _,rfl,fun _ _ _=>rfl,fun _ _ h=>h,fun _ _ h=>h,fun i L hi hw _=>by rw[JU hi] at hw;exact hw.elim⟩
  rcases Nat.lt_or_ge i h'.next with hi | hi
  ·have h2:=hN.rel.obj i
   rw[hk i hi] at h2
   exact(hR.obj i).back hN.ext h2
  ·rw[JU hi];trivial
 ·obtain⟨_,_,rfl⟩:=rZ hs
  exact .refl _
end Go.Sx
namespace Go.Proofs.YtipekdhneagdbaaDoor
open Go Go.Sx
noncomputable def LI (fs:List FuncId) (call:AT):AT:=fun f args h=>if fs.contains f then call f args h else none
theorem d_ {P:Program} {fs:List FuncId} {call:AT} (hc:DO P call∧CK call):DO P (LI fs call)∧CK (LI fs call):=by
 refine⟨fun f args h v h' hs=>?_,fun f args h v h' hs=>?_⟩
 ·unfold LI at hs
  split at hs
  ·exact hc.1 _ _ _ _ _ hs
  ·cases hs
 ·unfold LI at hs
  split at hs
  ·exact hc.2 _ _ _ _ _ hs
  ·cases hs
noncomputable def NG (fs:List FuncId) (base:AT) (k:Nat):AT:=HN base (LI fs (OT (A9 Tryd.prog (G4 Tryd.prog base k) k)))
section
variable {fs:List FuncId} {k m:Nat} {base:AT} {f:FuncId} {args:List Value} {h h1:AA} {v:Value} {r:Value × AA}
theorem ZU (hb:DO Tryd.prog base∧CK base):DO Tryd.prog (NG fs base k)∧CK (NG fs base k):=
 U8 hb (d_ (aE (S0 KF (N2 KF hb.1 hb.2 k).1 (N2 KF hb.1 hb.2 k).2 k).1))
theorem UH {a b:AT} (hb:a f args h=some r):HN a b f args h=some r:=by unfold HN;rw[hb]
theorem LH (hb:base f args h=some r):NG fs base k f args h=some r:=UH hb
theorem N5 (hb:base f args h=none) (hf:fs.contains f=false):NG fs base k f args h=none:=by unfold NG HN LI;rw[hb,hf];rfl
theorem FO {n:Nat} (hb:base f args h=some r):G4 Tryd.prog base (n+1) f args h=some r:=by
 unfold G4
 rw[hb]
theorem OY {n:Nat} (hb:base f args h=none):G4 Tryd.prog base (n+1) f args h=A9 Tryd.prog (G4 Tryd.prog base n) n f args h:=by
 rw[G4,hb]
theorem VL (hb:base f args h=none) (hf:fs.contains f=true) (hv:FP v=true) (hw:∃ h1,A9 Tryd.prog (G4 Tryd.prog base k) k f args h=some (v,h1)∧∀ i,i<h.next→h1.get i=h.get i) :
  NG fs base k f args h=some (v,h):=by
 obtain⟨h1,he,hk⟩:=hw
 have e:=dJ he hv hk
 unfold NG HN LI
 rw[hb,hf,if_pos rfl,e]
end
end Go.Proofs.YtipekdhneagdbaaDoor
namespace Go.Proofs.YtipekdhneagdbaaDoor
open Go Go.Sx
set_option linter.unusedSimpArgs false
set_option linter.unusedVariables false
set_option maxHeartbeats 64000000
structure AE where
 kind:Int
 name:ByteArray
 ends:Int
 n:Int
 kids:Int
def CE (what kind:Int):Bool:=
 if what=8 then kind==1
 else if what=0 then decide (kind≥2)&&decide (kind≤7)
 else if what=1 then decide (kind≥8)&&decide (kind≤10)
 else if what=2 then kind==11
 else if what=3 then decide (kind≥11)&&decide (kind≤23)
 else if what=4 then kind==11||kind==12
 else if what=5 then kind==25||kind==26
 else if what=6 then kind==24
 else decide (kind≥27)&&decide (kind≤54)
theorem QS {what kind:Int} (h:CE what kind=true):1≤kind∧kind≤54:=by
 unfold CE at h
 (repeat' split at h) <;> simp at h <;> omega
def HE (k:Int):Bool:=[1,2,3,4,5,7,8,9,14,15,16,17,19,20,21,22,24,26,28,31,32,35,36,37,38].contains k
def JT (k:Int):Bool:=[16,17,19,20,21,24,26].contains k
def FG (k:Int):Int:=
 if [4,13].contains k then 3 else if [5,6,7,8,9,10,14,19,38,41,42].contains k then 1 else if [12,15,39,40].contains k||decide (k≥43) then 2 else 0
def CV (k:Int):Int:=
 if [1,11].contains k then -1 else if [4,12,13].contains k then 3 else if [5,6,7,8,9,10,14,19,20,38,41,42].contains k then 1 else if [15,39,40].contains k||decide (k≥43) then 2 else 0
def BW (kind:Int) (kid:Nat):Int:=
 if kind=11 then 3 else if [7,8,9,10].contains kind then 2
 else if kind=12 then (if kid=0 then 7 else if kid=1 then 2 else 4)
 else if kind=13 then (if kid=2 then 2 else 7)
 else if kind=15 then (if kid=0 then 5 else 7)
 else if [19,20].contains kind then 6 else if kind=38 then 5 else 7
section
variable (isName:ByteArray→Bool)
def DT (x:AE):Bool:=
 (isName x.name==HE x.kind)&&(HE x.kind||x.name==ByteArray.empty)&&(x.ends==0||JT x.kind&&x.ends==1)&&(x.n==0||x.kind==27&&decide (x.n>0)&&decide (x.n≤1073741824)) &&
  decide (x.kids≥FG x.kind)&&(decide (CV x.kind<0)||decide (x.kids≤CV x.kind))
def EQ (g:Nat→Nat→Nat × Bool):Nat→Nat→Nat→Nat × Bool
 | 0,_,next=>(next,true)
 | r+1,k,next=>if (g k next).2=true then EQ g r (k+1) (g k next).1 else ((g k next).1,false)
def BS (l:List AE):Nat→Nat→Int→Nat × Bool
 | 0,at_,_=>(at_,false)
 | m+1,at_,what=>match l[at_]? with
  | none=>(at_,false)
  | some x=>if (CE what x.kind&&DT isName x)=true then EQ (fun k next=>BS l m next (BW x.kind k)) x.kids.toNat 0 (at_+1) else (at_,false)
def M6 (x:Option AE):Bool:=match x with
 | some x=>CE 1 x.kind
 | none=>false
def HF (ev:Bool) (x:Option AE):Int:=if (ev||M6 x)=true then 1 else 0
def EG (l:List AE) (m:Nat):Nat→Bool→Nat→Nat × Bool
 | 0,_,next=>(next,true)
 | r+1,ev,next=>
  if (BS isName l m next (HF ev l[next]?)).2=true then EG l m r (ev||M6 l[next]?) (BS isName l m next (HF ev l[next]?)).1
  else ((BS isName l m next (HF ev l[next]?)).1,false)
def GZ (l:List AE) (m:Nat):Nat × Bool:=match l[0]? with
 | none=>(0,false)
 | some x=>if (CE 8 x.kind&&DT isName x)=true then EG isName l m x.kids.toNat false 1 else (0,false)
def IQ (l:List AE):Option Nat:=
 if (GZ isName l (l.length+1)).2=true∧(GZ isName l (l.length+1)).1=l.length then none else some (GZ isName l (l.length+1)).1
variable {isName}
theorem Cs {g:Nat→Nat→Nat × Bool} {b:Nat} (hg:∀ k p,p≤b→(g k p).2=true→p<(g k p).1∧(g k p).1≤b):∀ r k p,p≤b→(EQ g r k p).2=true→p+r≤(EQ g r k p).1∧(EQ g r k p).1≤b:=by
 intro r
 induction r with
 | zero=>intro k p hp _;exact⟨Nat.le_refl _,hp⟩
 | succ r ih=>
  intro k p hp h
  unfold EQ at h ⊢
  split at h
  ·rename_i hc
   rw[if_pos hc]
   have h1:=hg k p hp hc
   have h2:=ih (k+1) _ h1.2 h
   omega
  ·cases h
theorem SC {l:List AE}:∀ m at_ what,(BS isName l m at_ what).2=true→at_<(BS isName l m at_ what).1∧(BS isName l m at_ what).1≤l.length:=by
 intro m
 induction m with
 | zero=>intro at_ what h;cases h
 | succ m ih=>
  intro at_ what
  unfold BS
  cases hx:l[at_]? with
  | none=>intro h;cases h
  | some x=>
   simp only
   have hlt:at_<l.length:=(List.getElem?_eq_some_iff.1 hx).1
   split
   ·rename_i hc
    intro h
    have:=Cs (b:=l.length) (fun k p _=>ih p (BW x.kind k)) x.kids.toNat 0 (at_+1) hlt h
    omega
   ·intro h;cases h
structure CW where
 kind:Int
 left:Nat
 next:Nat
def F1:List CW→List CW
 | []=>[]
 | f :: s=>if f.left=0 then F1 s else f :: s
def KH:List CW→List CW
 | []=>[]
 | f :: s=>⟨f.kind,f.left-1,f.next+1⟩ :: s
theorem R9 {f:CW} {s:List CW} (h:f.left≠0):F1 (f :: s)=f :: s:=by unfold F1;rw[if_neg h]
theorem SG {f:CW} {s:List CW} (h:f.left=0):F1 (f :: s)=F1 s:=by
 show (if f.left=0 then F1 s else f :: s)=F1 s
 rw[if_pos h]
def MH:List CW→Int
 | []=>8
 | f :: _=>if f.kind=1 then 9 else BW f.kind f.next
def FL (what kind:Int):Bool:=if what=9 then decide (kind≥2)&&decide (kind≤10) else CE what kind
def KE (l:List AE) (at_:Nat) (s:List CW) (ev:Bool):Option Nat ⊕ (List CW × Bool):=
 match l[at_]? with
 | none=>.inl (some at_)
 | some x=>
  if (FL (MH s) x.kind&&DT isName x)=true then
   if MH s=9∧ev=true∧CE 0 x.kind=true then .inl (some at_)
   else .inr (F1 (⟨x.kind,x.kids.toNat,0⟩ :: KH s),if MH s=9 then ev||CE 1 x.kind else ev)
  else .inl (some at_)
def G9 (l:List AE):Nat→Nat→List CW→Bool→Option Nat
 | 0,_,_,_=>none
 | m+1,at_,s,ev=>match KE (isName:=isName) l at_ s ev with
  | .inl r=>r
  | .inr (s',ev')=>if s'=[] then (if at_+1<l.length then some (at_+1) else none) else G9 l m (at_+1) s' ev'
def JP (l:List AE) (M at_:Nat) (s:List CW) (ev:Bool):Option Nat:=if s=[] then (if at_<l.length then some at_ else none) else G9 (isName:=isName) l M at_ s ev
theorem VY {g:Nat→Nat→Nat × Bool} (hg:∀ k p,p≤(g k p).1):∀ r k p,p≤(EQ g r k p).1:=by
 intro r
 induction r with
 | zero=>intro k p;exact Nat.le_refl _
 | succ r ih=>
  intro k p
  unfold EQ
  split
  ·exact Nat.le_trans (hg k p) (ih _ _)
  ·exact hg k p
theorem QB {l:List AE}:∀ m at_ what,at_≤(BS isName l m at_ what).1:=by
 intro m
 induction m with
 | zero=>intro at_ what;exact Nat.le_refl _
 | succ m ih=>
  intro at_ what
  unfold BS
  split
  ·exact Nat.le_refl _
  ·split
   ·exact Nat.le_trans (Nat.le_succ _) (VY (fun k p=>ih p _) _ _ _)
   ·exact Nat.le_refl _
theorem X0 {k:Int} {j:Nat}:BW k j≠9∧BW k j≠8:=by
 unfold BW
 (repeat' split) <;> decide
theorem Lu {k:Int} {j:Nat} {q:Int} (h:CE (BW k j) q=true):q≠1:=by
 intro e
 subst e
 revert h
 unfold BW
 (repeat' split) <;> decide
def rT (l:List AE) (m:Nat):Prop:=∀ (at_:Nat) (F:CW) (rest:List CW) (ev:Bool),F.kind≠1→l.length<at_+m →
 ((BS isName l m at_ (BW F.kind F.next)).2=true→∀ M,G9 (isName:=isName) l (M+((BS isName l m at_ (BW F.kind F.next)).1-at_)) at_ (F :: rest) ev=JP (isName:=isName) l M (BS isName l m at_ (BW F.kind F.next)).1 (F1 (KH (F :: rest))) ev) ∧
 ((BS isName l m at_ (BW F.kind F.next)).2=false→∀ M,(BS isName l m at_ (BW F.kind F.next)).1-at_<M→G9 (isName:=isName) l M at_ (F :: rest) ev=some (BS isName l m at_ (BW F.kind F.next)).1)
theorem tU {l:List AE} {m:Nat} (hm:rT (isName:=isName) l m) {κ:Int} (hκ:κ≠1) (D:List CW) (ev:Bool):∀ r k p,l.length<p+m →
  ((EQ (fun k next=>BS isName l m next (BW κ k)) r k p).2=true→∀ M,JP (isName:=isName) l (M+((EQ (fun k next=>BS isName l m next (BW κ k)) r k p).1-p)) p (F1 (⟨κ,r,k⟩ :: D)) ev=JP (isName:=isName) l M (EQ (fun k next=>BS isName l m next (BW κ k)) r k p).1 (F1 D) ev) ∧
  ((EQ (fun k next=>BS isName l m next (BW κ k)) r k p).2=false→∀ M,(EQ (fun k next=>BS isName l m next (BW κ k)) r k p).1-p<M→JP (isName:=isName) l M p (F1 (⟨κ,r,k⟩ :: D)) ev=some (EQ (fun k next=>BS isName l m next (BW κ k)) r k p).1):=by
 intro r
 induction r with
 | zero=>
  intro k p hp
  refine⟨fun _ M=>?_,fun h=>(by cases h)⟩
  rw[SG rfl]
  simp[EQ]
 | succ r ih=>
  intro k p hp
  obtain⟨a1,a2⟩:=hm p ⟨κ,r+1,k⟩ D ev hκ hp
  simp only at a1 a2
  have hne:F1 (⟨κ,r+1,k⟩ :: D)=⟨κ,r+1,k⟩ :: D:=R9 (by simp)
  have hdec:KH (⟨κ,r+1,k⟩ :: D)=⟨κ,r,k+1⟩ :: D:=rfl
  have hcont:∀ M,JP (isName:=isName) l M p (⟨κ,r+1,k⟩ :: D) ev=G9 (isName:=isName) l M p (⟨κ,r+1,k⟩ :: D) ev:=fun M=>by unfold JP;rw[if_neg (by simp)]
  have hge:=QB (isName:=isName) (l:=l) m p (BW κ k)
  rw[hne]
  simp only[hcont]
  unfold EQ
  generalize hq:BS isName l m p (BW κ k)=q at a1 a2 hge
  cases hb:q.2 with
  | true=>
   simp only[if_true]
   have hq1:p<q.1∧q.1≤l.length:=by
    have:=SC (isName:=isName) (l:=l) m p (BW κ k)
    rw[hq] at this
    exact this hb
   obtain⟨b1,b2⟩:=ih (k+1) q.1 (by omega)
   have hge2:=VY (g:=fun k next=>BS isName l m next (BW κ k)) (fun k p=>QB m p _) r (k+1) q.1
   refine⟨fun h M=>?_,fun h M hM=>?_⟩
   ·have:=a1 hb (M+((EQ (fun k next=>BS isName l m next (BW κ k)) r (k+1) q.1).1-q.1))
    rw[hdec,b1 h M] at this
    rw[← this]
    congr 1
    omega
   ·have:=a1 hb (M-(q.1-p))
    rw[hdec,b2 h _ (by omega)] at this
    rw[← this]
    congr 1
    omega
  | false=>
   simp only[Bool.false_eq_true,if_false]
   exact⟨fun h=>(by cases h),fun _ M hM=>a2 hb M hM⟩
theorem Fx {F:CW} {rest:List CW} (hF:F.kind≠1):MH (F :: rest)=BW F.kind F.next∧(∀ k,FL (BW F.kind F.next) k=CE (BW F.kind F.next) k)∧MH (F :: rest)≠9:=by
 have h:MH (F :: rest)=BW F.kind F.next:=by
  show (if F.kind=1 then 9 else BW F.kind F.next)=_
  rw[if_neg hF]
 refine⟨h,fun k=>?_,by rw[h];exact X0.1⟩
 unfold FL
 rw[if_neg X0.1]
theorem Ij {l:List AE}:∀ m,rT (isName:=isName) l m:=by
 intro m
 induction m with
 | zero=>
  intro at_ F rest ev hF hlen
  refine⟨fun h=>(by cases h),fun _ M hM=>?_⟩
  have hx:l[at_]?=none:=List.getElem?_eq_none (by omega)
  obtain⟨M,rfl⟩:∃ M',M=M'+1:=⟨M-1,by omega⟩
  simp[G9,KE,hx,BS]
 | succ m ih=>
  intro at_ F rest ev hF hlen
  obtain⟨w1,w2,w3⟩:=Fx (rest:=rest) hF
  have hbad:∀ M,0<M→(l[at_]?=none∨∃ x,l[at_]?=some x∧(CE (BW F.kind F.next) x.kind&&DT isName x)=false)→G9 (isName:=isName) l M at_ (F :: rest) ev=some at_:=by
   intro M hM h
   obtain⟨M,rfl⟩:∃ M',M=M'+1:=⟨M-1,by omega⟩
   rcases h with h | ⟨x,hx,hb⟩
   ·simp[G9,KE,h]
   ·simp only[G9,KE,hx,w1,w2,hb,Bool.false_eq_true,if_false]
  unfold BS
  cases hx:l[at_]? with
  | none=>
   simp only
   exact⟨fun h=>(by cases h),fun _ M hM=>hbad M (by omega) (.inl hx)⟩
  | some x=>
   simp only
   cases hb:(CE (BW F.kind F.next) x.kind&&DT isName x) with
   | false=>
    simp only[Bool.false_eq_true,if_false]
    exact⟨fun h=>(by cases h),fun _ M hM=>hbad M (by omega) (.inr ⟨x,hx,hb⟩)⟩
   | true=>
    simp only[if_true]
    have hk1:x.kind≠1:=Lu (Bool.and_eq_true_iff.1 hb).1
    have hrun:∀ M,G9 (isName:=isName) l (M+1) at_ (F :: rest) ev=JP (isName:=isName) l M (at_+1) (F1 (⟨x.kind,x.kids.toNat,0⟩ :: KH (F :: rest))) ev:=by
     intro M
     simp only[G9,KE,hx,w1,w2,hb,if_true,X0.1,false_and,if_false]
     rfl
    obtain⟨b1,b2⟩:=tU ih hk1 (KH (F :: rest)) ev x.kids.toNat 0 (at_+1) (by omega)
    have hge:=VY (g:=fun k next=>BS isName l m next (BW x.kind k)) (fun k p=>QB m p _) x.kids.toNat 0 (at_+1)
    refine⟨fun h M=>?_,fun h M hM=>?_⟩
    ·have:=b1 h M
     rw[← this,← hrun]
     congr 1
     omega
    ·obtain⟨M,rfl⟩:∃ M',M=M'+1:=⟨M-1,by omega⟩
     rw[hrun,b2 h M (by omega)]
theorem mY {l:List AE} {m:Nat}:∀ r ev p,p≤(EG isName l m r ev p).1:=by
 intro r
 induction r with
 | zero=>intro ev p;exact Nat.le_refl _
 | succ r ih=>
  intro ev p
  unfold EG
  split
  ·exact Nat.le_trans (QB m p _) (ih _ _)
  ·exact QB m p _
theorem Ie {l:List AE} {m:Nat}:∀ r ev p,p≤l.length→(EG isName l m r ev p).2=true→p+r≤(EG isName l m r ev p).1∧(EG isName l m r ev p).1≤l.length:=by
 intro r
 induction r with
 | zero=>intro ev p hp _;exact⟨Nat.le_refl _,hp⟩
 | succ r ih=>
  intro ev p hp h
  unfold EG at h ⊢
  split at h
  ·rename_i hc
   rw[if_pos hc]
   have h1:=SC (isName:=isName) (l:=l) m p _ hc
   have h2:=ih _ _ h1.2 h
   omega
  ·cases h
theorem ZH {k:Int}:(CE 0 k=true→FL 9 k=true∧CE 1 k=false∧k≠1)∧(CE 1 k=true→FL 9 k=true∧CE 0 k=false∧k≠1)∧(FL 9 k=true→CE 0 k=true∨CE 1 k=true):=by
 unfold FL CE
 simp only[if_true,Int.reduceEq,if_false,Bool.and_eq_true,decide_eq_true_eq,Bool.and_eq_false_iff,decide_eq_false_iff_not]
 omega
theorem Md {l:List AE} {m:Nat}:∀ r ev k p,l.length<p+m →
  ((EG isName l m r ev p).2=true→∀ M,JP (isName:=isName) l (M+((EG isName l m r ev p).1-p)) p (F1 [⟨1,r,k⟩]) ev=JP (isName:=isName) l M (EG isName l m r ev p).1 [] false) ∧
  ((EG isName l m r ev p).2=false→∀ M,(EG isName l m r ev p).1-p<M→JP (isName:=isName) l M p (F1 [⟨1,r,k⟩]) ev=some (EG isName l m r ev p).1):=by
 intro r
 induction r with
 | zero=>
  intro ev k p hp
  refine⟨fun _ M=>?_,fun h=>(by cases h)⟩
  rw[SG rfl]
  show JP (isName:=isName) l (M+(p-p)) p [] ev=JP (isName:=isName) l M p [] false
  rw[Nat.sub_self]
  rfl
 | succ r ih=>
  intro ev k p hp
  have hne:F1 [⟨1,r+1,k⟩]=[⟨1,r+1,k⟩]:=R9 (by simp)
  have hdec:KH [⟨1,r+1,k⟩]=[⟨1,r,k+1⟩]:=rfl
  have hcont:∀ M,JP (isName:=isName) l M p [⟨1,r+1,k⟩] ev=G9 (isName:=isName) l M p [⟨1,r+1,k⟩] ev:=fun M=>by unfold JP;rw[if_neg (by simp)]
  have hw:MH [⟨1,r+1,k⟩]=9:=rfl
  rw[hne]
  simp only[hcont]
  unfold EG
  have bad:∀ M,0<M→(l[p]?=none∨∃ x,l[p]?=some x∧(CE (HF ev l[p]?) x.kind&&DT isName x)=false)→G9 (isName:=isName) l M p [⟨1,r+1,k⟩] ev=some p:=by
   intro M hM h
   obtain⟨M,rfl⟩:∃ M',M=M'+1:=⟨M-1,by omega⟩
   rcases h with h | ⟨x,hx,hb⟩
   ·simp[G9,KE,h]
   ·simp only[G9,KE,hx,hw]
    cases hf:DT isName x with
    | false=>simp
    | true=>
     rw[hf,Bool.and_true,hx] at hb
     simp only[HF,M6] at hb
     cases hs:FL 9 x.kind with
     | false=>simp
     | true=>
      rcases ZH.2.2 hs with h0 | h1
      ·have hn:=(ZH.1 h0).2.1
       simp only[hn,Bool.or_false] at hb
       cases ev with
       | false=>simp[h0] at hb
       | true=>simp[h0]
      ·simp[h1] at hb
  cases m with
  | zero=>
   have hx:l[p]?=none:=List.getElem?_eq_none (by omega)
   simp only[BS,Bool.false_eq_true,if_false]
   exact⟨fun h=>(by cases h),fun _ M hM=>bad M (by omega) (.inl hx)⟩
  | succ m=>
   unfold BS
   cases hx:l[p]? with
   | none=>
    simp only[Bool.false_eq_true,if_false]
    exact⟨fun h=>(by cases h),fun _ M hM=>bad M (by omega) (.inl hx)⟩
   | some x=>
    simp only
    rw[hx] at bad
    cases hb:(CE (HF ev (some x)) x.kind&&DT isName x) with
    | false=>
     simp only[Bool.false_eq_true,if_false]
     exact⟨fun h=>(by cases h),fun _ M hM=>bad M (by omega) (.inr ⟨x,rfl,hb⟩)⟩
    | true=>
     simp only[if_true]
     have hs:=(Bool.and_eq_true_iff.1 hb).1
     have hfit:=(Bool.and_eq_true_iff.1 hb).2
     have hev:M6 (some x)=CE 1 x.kind:=rfl
     have facts:FL 9 x.kind=true∧x.kind≠1∧¬ (ev=true∧CE 0 x.kind=true):=by
      unfold HF at hs
      split at hs
      ·rename_i hc
       have:=ZH.2.1 hs
       exact⟨this.1,this.2.2,fun h=>by rw[this.2.1] at h;cases h.2⟩
      ·rename_i hc
       have:=ZH.1 hs
       refine⟨this.1,this.2.2,fun h=>hc ?_⟩
       rw[h.1];rfl
     have hrun:∀ M,G9 (isName:=isName) l (M+1) p [⟨1,r+1,k⟩] ev=JP (isName:=isName) l M (p+1) (F1 (⟨x.kind,x.kids.toNat,0⟩ :: [⟨1,r,k+1⟩])) (ev||CE 1 x.kind):=by
      intro M
      simp only[G9,KE,hx,hw,facts.1,hfit,Bool.and_self,if_true,true_and,hdec]
      rw[if_neg facts.2.2]
      rfl
     obtain⟨b1,b2⟩:=tU (Ij (isName:=isName) (l:=l) m) facts.2.1 [⟨1,r,k+1⟩] (ev||CE 1 x.kind) x.kids.toNat 0 (p+1) (by omega)
     have hge:=VY (g:=fun k next=>BS isName l m next (BW x.kind k)) (fun k p=>QB m p _) x.kids.toNat 0 (p+1)
     generalize hq:EQ (fun k next=>BS isName l m next (BW x.kind k)) x.kids.toNat 0 (p+1)=q at b1 b2 hge
     cases hqb:q.2 with
     | false=>
      simp only[Bool.false_eq_true,if_false]
      refine⟨fun h=>(by cases h),fun _ M hM=>?_⟩
      obtain⟨M,rfl⟩:∃ M',M=M'+1:=⟨M-1,by omega⟩
      rw[hrun,b2 hqb M (by omega)]
     | true=>
      simp only[if_true]
      rw[hev]
      obtain⟨c1,c2⟩:=ih (ev||CE 1 x.kind) (k+1) q.1 (by omega)
      have hge2:=mY (isName:=isName) (l:=l) (m:=m+1) r (ev||CE 1 x.kind) q.1
      refine⟨fun h M=>?_,fun h M hM=>?_⟩
      ·have:=b1 hqb (M+((EG isName l (m+1) r (ev||CE 1 x.kind) q.1).1-q.1))
       rw[c1 h M] at this
       rw[← this,← hrun]
       congr 1
       omega
      ·have:=b1 hqb (M-(q.1-p))
       rw[c2 h _ (by omega)] at this
       rw[← this,← hrun]
       congr 1
       omega
theorem Kf {g:Nat→Nat→Nat × Bool} {b:Nat} (hg:∀ k p,p≤b→(g k p).1≤b):∀ r k p,p≤b→(EQ g r k p).1≤b:=by
 intro r
 induction r with
 | zero=>intro k p hp;exact hp
 | succ r ih=>
  intro k p hp
  unfold EQ
  split
  ·exact ih _ _ (hg k p hp)
  ·exact hg k p hp
theorem VI {l:List AE}:∀ m at_ what,at_≤l.length→(BS isName l m at_ what).1≤l.length:=by
 intro m
 induction m with
 | zero=>intro at_ what h;exact h
 | succ m ih=>
  intro at_ what h
  unfold BS
  split
  ·exact h
  ·rename_i x hx
   have hlt:at_<l.length:=(List.getElem?_eq_some_iff.1 hx).1
   split
   ·exact Kf (fun k p hp=>ih p _ hp) _ _ _ hlt
   ·exact h
theorem qD {l:List AE} {m:Nat}:∀ r ev p,p≤l.length→(EG isName l m r ev p).1≤l.length:=by
 intro r
 induction r with
 | zero=>intro ev p hp;exact hp
 | succ r ih=>
  intro ev p hp
  unfold EG
  split
  ·exact ih _ _ (VI m p _ hp)
  ·exact VI m p _ hp
theorem wQ {l:List AE} {M:Nat} (hM:l.length<M):G9 (isName:=isName) l M 0 [] false=IQ isName l:=by
 obtain⟨M,rfl⟩:∃ M',M=M'+1:=⟨M-1,by omega⟩
 unfold IQ GZ
 cases hx:l[0]? with
 | none=>simp[G9,KE,hx]
 | some x=>
  have hlt:0<l.length:=(List.getElem?_eq_some_iff.1 hx).1
  have h8:∀ k,FL 8 k=CE 8 k:=fun k=>rfl
  have hw:MH []=8:=rfl
  simp only
  cases hb:(CE 8 x.kind&&DT isName x) with
  | false=>simp[G9,KE,hx,hw,h8,hb]
  | true=>
   simp only[if_true]
   have hk:x.kind=1:=by
    have:=(Bool.and_eq_true_iff.1 hb).1
    simpa [CE] using this
   have hrun:G9 (isName:=isName) l (M+1) 0 [] false=JP (isName:=isName) l M 1 (F1 [⟨1,x.kids.toNat,0⟩]) false:=by
    simp only[G9,KE,hx,hw,h8,hb,if_true]
    simp only[hk,show ((8:Int)=9)=False by simp,false_and,if_false]
    rfl
   rw[hrun]
   obtain⟨c1,c2⟩:=Md (isName:=isName) (l:=l) (m:=l.length+1) x.kids.toNat false 0 1 (by omega)
   have hge:=mY (isName:=isName) (l:=l) (m:=l.length+1) x.kids.toNat false 1
   have hle:=Ie (isName:=isName) (l:=l) (m:=l.length+1) x.kids.toNat false 1 (by omega)
   have hle':=qD (isName:=isName) (l:=l) (m:=l.length+1) x.kids.toNat false 1 (by omega)
   generalize EG isName l (l.length+1) x.kids.toNat false 1=q at c1 c2 hge hle hle'
   cases hq:q.2 with
   | true=>
    have:=hle hq
    have h1:=c1 hq (M-(q.1-1))
    rw[show M-(q.1-1)+(q.1-1)=M by omega] at h1
    rw[h1]
    unfold JP
    rw[if_pos rfl]
    by_cases hl:q.1=l.length
    ·rw[if_neg (by omega),if_pos ⟨rfl,hl⟩]
    ·rw[if_pos (by omega),if_neg (fun h=>hl h.2)]
   | false=>
    rw[if_neg (fun h=>by cases h.1),c2 hq M (by omega)]
end
end Go.Proofs.YtipekdhneagdbaaDoor
namespace Go.Sx
open Go
set_option linter.unusedSimpArgs false
set_option linter.unusedVariables false
set_option maxHeartbeats 64000000
def NB:Value→Bool
 | .func (.func _) f c=>f.isEmpty&&c.isEmpty
 | v=>flat v
theorem Ad {ρ ρ':BK} {v V:Value} (hp:NB v=true) (h:AH ρ v V):AH ρ' v V:=by
 unfold NB at hp
 split at hp
 ·rename_i k f c
  simp only[Bool.and_eq_true,Array.isEmpty_iff] at hp
  obtain⟨rfl,rfl⟩:=hp
  obtain⟨f',c',rfl,h1,h2⟩:=aP h
  have e1:f'=#[]:=by
   have:=h1.length
   simp at this
   exact Array.eq_empty_of_size_eq_zero this.symm
  have e2:c'=#[]:=by
   have:=h2.length
   simp at this
   exact Array.eq_empty_of_size_eq_zero this.symm
  subst e1
  subst e2
  exact .func .nil .nil
 ·rw[NR hp h]
  exact JW hp
theorem iS {ρ ρ':BK} {l:List Value} {m:List Value} (hp:l.all NB=true) (h:BB (AH ρ) l m):BB (AH ρ') l m:=by
 induction h with
 | nil=>exact .nil
 | cons h _ ih=>
  simp only[List.all_cons,Bool.and_eq_true] at hp
  exact .cons (Ad hp.1 h) (ih hp.2)
end Go.Sx
