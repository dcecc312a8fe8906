/- Part 6 of what the claim leans on: 6 texts laid one behind another. -/
import Derived.Test.YtdejoodfeljmkaaGreatDoorTK5
import Derived.Below
import Derived.ChangeSame
import Derived.Lib.LaidTab
import Derived.ProofKit
namespace Go.Sx
open Go Go.RowKit Go.WideShapes Go.ChangeShapes
set_option linter.unusedSimpArgs false
set_option linter.unusedVariables false
set_option maxHeartbeats 64000000
section
variable {H:Type} {enc:TypeId × Value→H} {P:Program}
theorem Bz {f:Func} {s:ChangeSpec} {apart fresh handsOn again:Bool} {W W':World} {args:Array Value} {v:Value} {ds gs:List (DataW H)} {before pa pv:List MemPlace}
  (hW:DataW.Whole enc P f.params.toList s.vars apart W args.toList ds gs before)
  (hres:∀ (b:Nat) (sp:Nat→Bool) (hd:Bool),DataW.TrodAll enc P W' b sp hd f.resultTypes.toList (v.resultList f.resultTypes.size) (s.fn H (ds++gs)).results [])
  (hargs:∀ sp:Nat→Bool,(∀ p∈before,sp p.block=true)→DataW.TrodAll enc P W' 0 sp true f.params.toList args.toList (s.fn H (ds++gs)).args pa)
  (hvars:∀ sp:Nat→Bool,(∀ p∈before,sp p.block=true)→DataW.TrodVars enc P W' sp s.vars (s.fn H (ds++gs)).vars pv)
  (hps:before=pa++pv) (hb:Below W.heap.size W W')
  (hok:∀ (j:Nat) (t:TypeId) (r:Value),f.resultTypes[j]?=some t→(v.resultList f.resultTypes.size)[j]?=some r→Value.okWide P W' .any 0 t r) :
  s.post enc P f apart fresh handsOn again W args v W':=by
 have hlt:∀ p∈before,p.block<W.heap.size:=fun p hp=>hW.lt p hp
 have hold:∀ p∈before,(fun b=>decide (b<W.heap.size)) p.block=true:=fun p hp=>by simpa using hlt p hp
 refine⟨ds,gs,before,[],pa,pv,hW,hres _ _ _,hargs _ hold,hvars _ hold,World.keptBut_mono (fun p hp=>⟨hp,?_⟩) (hb.frame (· ∈ before)),fun _=>?_⟩
 ·rw[hps,List.mem_append] at hp
  exact Or.inr hp
 ·obtain⟨_,_,_,_,_,hz,hn⟩:=hW
  refine⟨hok,_,_,([]++pa)++pv,⟨[]++pa,pv,trodAll_append (hargs _ (fun _ _=>rfl)) (hres _ _ _),hvars _ (fun _ _=>rfl),rfl,?_,?_⟩,?_⟩
  ·intro b off hp
   have hin:MemPlace.cell b off∈before:=by rw[hps];simpa using hp
   rw[hb.frozen (hlt _ hin)]
   exact hz b off hin
  ·intro ha
   have:=hn ha
   rw[hps] at this
   simpa using this
  ·intro p hp _
   rw[hps]
   simpa using hp
end
theorem Nl {H:Type} {enc:TypeId × Value→H} {P:Program} {w:World} {base:Nat} {sp:Nat→Bool} {held:Bool} {fuel:Nat} {t e:TypeId} {n:Nat} {cs:List Value} {zs:List (List UInt8)} {p:List MemPlace}
  (ht:P.underlying t=some (.array n e)) (he:P.underlying e=some .string) (hce:P.cellsOf e=1) (hct:P.cellsOf t=n)
  (h:DataW.trod enc P w base sp held fuel t cs=some (.agg (zs.map fun z=>.lit (.string z)),p)):cs=zs.map fun z=>Value.string ⟨z.toArray⟩:=by
 cases fuel with
 | zero=>simp[DataW.trod] at h
 | succ fuel=>
  simp only[DataW.trod,ht,hce,hct,Nat.mul_one] at h
  split at h
  ·rename_i hl
   obtain⟨xs,hm,hx⟩:=Option.map_eq_some_iff.1 h
   have hxs:xs.map (·.1)=zs.map fun z=>(DataW.lit (.string z):DataW H):=by
    have:=congrArg Prod.fst hx
    simpa using this
   have hxl:xs.length=n:=by simpa using Lib.mapM_length hm
   have hzl:zs.length=n:=by
    have:=congrArg List.length hxs
    simp at this
    omega
   apply List.ext_getElem?
   intro i
   by_cases hi:i<n
   ·obtain⟨b,hb,hf⟩:=Lib.mapM_at hm i i (by simp[hi])
    obtain⟨z,hc,rfl,_⟩:=DataW.trod_string he hf
    have h1:cs[i]?=some (.string z):=by
     have:=congrArg (·[0]?) hc
     simpa [List.getElem?_take,List.getElem?_drop] using this
    have h2:(xs.map (·.1))[i]?=some (DataW.lit (.string z.data.toList):DataW H):=by simp[hb]
    rw[hxs] at h2
    simp only[List.getElem?_map,Option.map_eq_some_iff,DataW.lit.injEq,Lit.string.injEq] at h2
    obtain⟨z',hz',hz⟩:=h2
    subst hz
    simp[h1,hz']
   ·rw[List.getElem?_eq_none (by omega),List.getElem?_eq_none (by simp;omega)]
  ·cases h
theorem bP {P:Program} {W:World} {name:String} {zs:List (List UInt8)} {rest:List (String × DataW Unit)} {g:Nat} {t e:TypeId} {n:Nat}
  (hg:P.globalNamed name=some g) (hty:(P.globals[g]?).map (·.type)=some t) (ht:P.underlying t=some (.array n e)) (he:P.underlying e=some .string) (hce:P.cellsOf e=1) (hct:P.cellsOf t=n)
  (h:laidMet P ((name,.agg (zs.map fun z=>.lit (.string z))) :: rest) W):∃ CS ty fr,W.heap[g]?=some (.cells CS ty fr)∧CS.toList=zs.map fun z=>Value.string ⟨z.toArray⟩:=by
 obtain⟨ps,⟨g',t',cs,fuel,p,q,hg',ht',hvar,hd,_,_⟩,_⟩:=h
 obtain rfl:=Option.some.inj (hg.symm.trans hg')
 obtain rfl:=Option.some.inj (hty.symm.trans ht')
 have hcs:=Nl ht he hce hct hd
 simp only[World.var?,hg,Option.bind_some] at hvar
 split at hvar
 ·rename_i CS ty fr hb
  cases hvar
  exact⟨_,_,_,hb,hcs⟩
 ·cases hvar
theorem Y3 {P:Program} {W:World} {ρ:BK} {h:AA} (hl:h.good) (hd:∀ i,h.next≤i→ρ i=none) (hg:∀ g,g<P.globals.size→∃ L,ρ g=some L∧L.b=g∧L.d=0)
  (ho:∀ i,i<h.next→∃ cs ty g L CS ty' fr,h.get i=.row cs ty g true∧ρ i=some L∧W.heap[L.b]?=some (.cells CS ty' fr)∧∀ (k:Nat) (v:Value),cs[k]?=some v→∃ V,CS[L.d+k]?=some V∧AJ ρ v V) :
  CH P ρ h W∧∀ i,¬ wr (h.get i):=by
 have hw:∀ i,¬ wr (h.get i):=fun i hw=>by
  rcases Nat.lt_or_ge i h.next with hi | hi
  ·obtain⟨cs,ty,g,L,CS,ty',fr,h1,_⟩:=ho i hi
   rw[h1] at hw
   cases hw
  ·rw[KE hi] at hw
   exact hw
 refine⟨⟨hl,hd,hg,fun i=>?_,fun i j L L' hwi=>absurd hwi (hw i)⟩,hw⟩
 rcases Nat.lt_or_ge i h.next with hi | hi
 ·obtain⟨cs,ty,g,L,CS,ty',fr,h1,h2,h3,h4⟩:=ho i hi
  rw[h1]
  exact⟨L,CS,ty',fr,h2,h3,h4,fun h=>by cases h⟩
 ·rw[KE hi]
  trivial
theorem Gr.below {W W':World} (h:Gr W W'):Below W.heap.size W W':=⟨h.os,h.tape,h.output,h.size,h.blk⟩
end Go.Sx
namespace Go.Sx
open Go
set_option linter.unusedSimpArgs false
set_option linter.unusedVariables false
set_option maxHeartbeats 64000000
noncomputable def AY (P:Program) (call:AS) (n:Nat):AS:=fun f args h=>
 match P.funcs[f]? with
 | some fn=>match fn.body with
  | some c=>if args.length≤fn.ntmps then
    match C0 P call n c ⟨I_ 0 args .leaf,h⟩ with
    | some (.normal,s) | some (.ret,s)=>match F2 P s fn.results.toList with
     | some [v]=>some (v,s.h)
     | some vs=>some (.tuple vs.toArray,s.h)
     | none=>none
    | _=>none
   else none
  | none=>none
 | none=>none
noncomputable def GW (P:Program) (base:AS):Nat→AS
 | 0,_,_,_=>none
 | n+1,f,args,h=>match base f args h with
  | some r=>some r
  | none=>AY P (GW P base n) n f args h
def CK (call:AS):Prop:=∀ f args h v h',call f args h=some (v,h')→ET h h'
theorem SB {P:Program} (hP:PU P=true) {call:AS} (ih1:D7 P call) (ih2:CK call) (fuel:Nat):D7 P (AY P call fuel)∧CK (AY P call fuel):=by
 simp only[PU,Bool.and_eq_true] at hP
 obtain⟨hm,hall⟩:=hP
 have key:∀ f args h v h',AY P call fuel f args h=some (v,h')→∃ fn c e s vs,P.funcs[f]?=some fn∧fn.body=some c∧args.length≤fn.ntmps∧(e=.normal∨e=.ret) ∧
   C0 P call fuel c ⟨I_ 0 args .leaf,h⟩=some (e,s)∧F2 P s fn.results.toList=some vs∧v=HL vs∧h'=s.h:=by
  intro f args h v h' hs
  simp only[AY] at hs
  split at hs
  ·rename_i fn hfn
   split at hs
   ·rename_i c hc
    split at hs
    ·rename_i hlen
     split at hs
     ·rename_i s hcode
      obtain⟨vs,h1,h2,h3⟩:=bR hs
      exact⟨fn,c,.normal,s,vs,hfn,hc,hlen,.inl rfl,hcode,h1,h2,h3⟩
     ·rename_i s hcode
      obtain⟨vs,h1,h2,h3⟩:=bR hs
      exact⟨fn,c,.ret,s,vs,hfn,hc,hlen,.inr rfl,hcode,h1,h2,h3⟩
     ·cases hs
    ·cases hs
   ·cases hs
  ·cases hs
 have hfOK : ∀ (f : FuncId) (fn : Func) (c : Code), P.funcs[f]? = some fn → fn.body = some c → LG P fn.ntmps c = true ∧ (fn.name == "runtime.NumGoroutine") = false := by
  intro f fn c hfn hc
  have:=List.all_eq_true.1 hall fn (List.mem_of_getElem? (i:=f) (by simpa using hfn))
  unfold aN at this
  rw[hc] at this
  simp only[Bool.and_eq_true,Bool.not_eq_true'] at this
  exact this
 refine⟨fun f args h v h' hs=>?_,fun f args h v h' hs=>?_⟩
 ·obtain⟨fn,c,e,s,vs,hfn,hc,hlen,he,hcode,hres,hv,hh⟩:=key f args h v h' hs
  obtain⟨hcOK,hname⟩:=hfOK f fn c hfn hc
  refine⟨⟨fn,c,hfn,hc,hname⟩,fun ρ W ARGS hR hargs=>?_⟩
  have hsz:ARGS.size=args.length:=by have:=hargs.length;simpa using this.symm
  refine calls_of_wp hfn hc (oY ih1 ih2 hm fuel c hcOK hcode hR ?_ (by simp;omega) fun A' W' ρ' hN hT' hn' hd'=>?_)
  ·intro t
   simp only[rB]
   show AJ ρ _ ((ARGS++Array.replicate (fn.ntmps-ARGS.size) undef).getD t undef)
   rw[Array.getD_eq_getD_getElem?,Array.getElem?_append]
   by_cases ht:t<args.length
   ·rw[if_pos (by omega),if_pos (by omega)]
    obtain⟨b,hb,hr⟩:=hargs.get (i:=t) (a:=args[t]) (by simp[ht])
    have hb':ARGS[t]?=some b:=by simpa using hb
    rw[hb']
    simpa [ht] using hr
   ·rw[if_neg (by omega),if_neg (by omega),Array.getElem?_replicate]
    have:(Tr.leaf).get t=undef:=rfl
    rw[this]
    split <;> exact R3
  ·obtain⟨V,hV,hr⟩:=lR hres hN.rel hT'
   have hb:bodyPost P fn (fun e W'=>∃ V ρ',e=.returned V∧Nx P ρ h W ρ' h' W'∧AJ ρ' v V) .normal A' W':=⟨hd',V,hV,V,ρ',rfl,by rw[hh];exact hN,by rw[hv];exact hr⟩
   rcases he with rfl | rfl
   ·exact hb
   ·exact hb
 ·obtain⟨fn,c,e,s,vs,hfn,hc,hlen,he,hcode,hres,hv,hh⟩:=key f args h v h' hs
  rw[hh]
  exact uB ih2 fuel c hcode
theorem OH {P:Program} (hP:PU P=true) {base:AS} (hb:D7 P base) (hs:CK base):∀ fuel,D7 P (GW P base fuel)∧CK (GW P base fuel):=by
 intro fuel
 induction fuel with
 | zero=>exact⟨fun f args h v h' hs=>by simp[GW] at hs,fun f args h v h' hs=>by simp[GW] at hs⟩
 | succ fuel ih=>
  obtain⟨i1,i2⟩:=SB hP ih.1 ih.2 fuel
  refine⟨fun f args h v h' hh=>?_,fun f args h v h' hh=>?_⟩
  ·simp only[GW] at hh
   split at hh
   ·rename_i r hr;cases hh;exact hb f args h v h' hr
   ·exact i1 f args h v h' hh
  ·simp only[GW] at hh
   split at hh
   ·rename_i r hr;cases hh;exact hs f args h v h' hr
   ·exact i2 f args h v h' hh
noncomputable def PD (f0:FuncId) (o:BF):AS:=fun f args h=>by
 classical
 exact if f=f0∧args=[]∧h.get 0=o then some (.bool true,h) else none
theorem uO {P:Program} {call:AS} (hC:D7 P call) {f0:FuncId} {cs:List Value} {ty:TypeId} {g:Bool} {h':AA} (hgl:P.globals.size=1) (hflat:cs.all BS=true)
  (hs:call f0 [] ⟨1,0,.node (.row cs ty g true) .leaf .leaf⟩=some (.bool true,h')):D7 P (PD f0 (.row cs ty g true))∧CK (PD f0 (.row cs ty g true)):=by
 have key:∀ f args h v h1,PD f0 (.row cs ty g true) f args h=some (v,h1)→f=f0∧args=[]∧h.get 0=.row cs ty g true∧v=.bool true∧h1=h:=by
  intro f args h v h1 he
  unfold PD at he
  split at he
  ·rename_i hc
   cases he
   exact⟨hc.1,hc.2.1,hc.2.2,rfl,rfl⟩
  ·cases he
 refine⟨fun f args h v h1 he=>?_,fun f args h v h1 he=>?_⟩
 ·obtain⟨rfl,rfl,hg,rfl,rfl⟩:=key f args h v h1 he
  obtain⟨hfn,hcall⟩:=hC f [] _ _ _ hs
  refine⟨hfn,fun ρ W ARGS hR hargs=>?_⟩
  obtain⟨L0,hL0,hb0,hd0⟩:=hR.glob 0 (by omega)
  have ho:=hR.obj 0
  rw[hg] at ho
  obtain⟨L,CS,ty',fr,hL,hW,hcs,_⟩:=ho
  have hro:=Y3 (P:=P) (W:=W) (ρ:=fun i=>if i=0 then some L0 else none) (h:=⟨1,0,.node (.row cs ty g true) .leaf .leaf⟩) rfl (fun i hi=>by
    have:1≤i:=hi
    rw[if_neg (by omega)]) (fun g hg=>by
    obtain rfl:g=0:=by omega
    exact⟨L0,rfl,hb0,hd0⟩) (fun i hi=>by
    have:i<1:=hi
    obtain rfl:i=0:=by omega
    rw[hL0] at hL
    cases hL
    exact⟨cs,ty,g,L0,CS,ty',fr,rfl,rfl,hW,fun k v hv=>by
     obtain⟨V,hV,hr⟩:=hcs k v hv
     have hf:=List.all_eq_true.1 hflat v (List.mem_of_getElem? hv)
     rw[JT hf hr] at hV
     exact⟨v,hV,.flat hf⟩⟩)
  refine(hcall _ W ARGS hro.1 (by rw[List.length_eq_zero_iff.1 hargs.length.symm];exact .nil)).mono fun e W' ⟨V,ρ',he,hN,hv⟩=>⟨V,ρ,he,(Nx.refl hR).grow (hN.fr.gr hro.2),?_⟩
  rw[Q_ hv]
  exact .flat rfl
 ·obtain⟨rfl,rfl,hg,rfl,rfl⟩:=key f args h v h1 he
  exact .refl _
section
variable {P:Program} {call:AS} {n:Nat}
def WS (P:Program) (call:AS) (n:Nat) (c:Code) (s:St) (Q:ED→St→Prop):Prop:=∃ e s',C0 P call n c s=some (e,s')∧Q e s'
def WL (P:Program) (call:AS) (ops:Array Oper) (l:List Oper) (s:St) (Q:St→Prop):Prop:=∃ s',K6 P call ops l s=some s'∧Q s'
def WD (P:Program) (call:AS) (ops:Array Oper) (start i:Nat) (l:List Oper) (s:St) (Q:St→Prop):Prop:=∃ s',L8 P call ops start i l s=some s'∧Q s'
def ED.on (K:St→Prop) (Q:ED→St→Prop):ED→St→Prop
 | .normal,s=>K s
 | e,s=>Q e s
def ED.inB (id:Nat) (Q:ED→St→Prop):ED→St→Prop
 | .exit i,s=>if i=id then Q .normal s else Q (.exit i) s
 | e,s=>Q e s
variable {s:St} {Q:ED→St→Prop}
theorem WS.skip (h:Q .normal s):WS P call n .skip s Q:=⟨_,_,rfl,h⟩
theorem WS.exit {id:Nat} (h:Q (.exit id) s):WS P call n (.exit id) s Q:=⟨_,_,rfl,h⟩
theorem WS.ret (h:Q .ret s):WS P call n .ret s Q:=⟨_,_,rfl,h⟩
theorem WS.seq {a b:Code} (h:WS P call n a s (ED.on (fun s'=>WS P call n b s' Q) Q)):WS P call n (.seq a b) s Q:=by
 obtain⟨e,s',h1,h2⟩:=h
 cases e with
 | normal=>
  obtain⟨e2,s2,h3,h4⟩:=h2
  exact⟨e2,s2,by simp only[C0,h1,h3],h4⟩
 | exit id=>exact⟨_,_,by simp only[C0,h1],h2⟩
 | ret=>exact⟨_,_,by simp only[C0,h1],h2⟩
theorem WS.cond {c:Operand} {a b:Code} {t:Bool} (hc:ev s.T c=.bool t) (h1:t=true→WS P call n a s Q) (h2:t=false→WS P call n b s Q):WS P call n (.cond c a b) s Q:=by
 cases t with
 | true=>
  obtain⟨e,s',h3,h4⟩:=h1 rfl
  exact⟨e,s',by simp only[C0,hc,h3],h4⟩
 | false=>
  obtain⟨e,s',h3,h4⟩:=h2 rfl
  exact⟨e,s',by simp only[C0,hc,h3],h4⟩
theorem WS.block {id:Nat} {c:Code} (h:WS P call n c s (ED.inB id Q)):WS P call n (.block id c) s Q:=by
 obtain⟨e,s',h1,h2⟩:=h
 cases e with
 | normal=>exact⟨_,_,by simp only[C0,h1],h2⟩
 | exit i=>
  by_cases hi:i=id
  ·subst hi
   exact⟨.normal,s',by simp only[C0,h1,if_true],by simpa [ED.inB] using h2⟩
  ·exact⟨.exit i,s',by simp only[C0,h1,hi,if_false],by simpa [ED.inB,hi] using h2⟩
 | ret=>exact⟨_,_,by simp only[C0,h1],h2⟩
theorem WS.region {id:Nat} {ops:Array Oper} (h:WL P call ops ops.toList s (Q .normal)):WS P call n (.region id ops false) s Q:=by
 obtain⟨s',h1,h2⟩:=h
 exact⟨_,_,by simp only[C0,h1];rfl,h2⟩
theorem WS.draw {id:Nat} {ops:Array Oper} (h:WD P call ops s.h.next 0 ops.toList s (Q .normal)):WS P call n (.region id ops true) s Q:=by
 obtain⟨s',h1,h2⟩:=h
 exact⟨_,_,by simp only[C0,h1];rfl,h2⟩
theorem WS.loop {c:Code} (I:Nat→St→Prop) (N:Nat) (hN:N<n) (h0:I 0 s)
  (hr:∀ k s,k≤N→I k s→WS P call n c s (ED.on (fun s'=>k<N∧I (k+1) s') Q)):WS P call n (.loop c) s Q:=by
 have key:∀ (m k:Nat) (s:St),k+m=N→I k s→∀ f,m<f→∃ e s',MD (C0 P call n c) f s=some (e,s')∧Q e s':=by
  intro m
  induction m with
  | zero=>
   intro k s hk hI f hf
   obtain⟨f,rfl⟩:∃ f',f=f'+1:=⟨f-1,by omega⟩
   obtain⟨e,s',h1,h2⟩:=hr k s (by omega) hI
   cases e with
   | normal=>obtain⟨hk',_⟩:=h2;omega
   | exit id=>exact⟨_,_,by simp only[MD,h1],h2⟩
   | ret=>exact⟨_,_,by simp only[MD,h1],h2⟩
  | succ m ih=>
   intro k s hk hI f hf
   obtain⟨f,rfl⟩:∃ f',f=f'+1:=⟨f-1,by omega⟩
   obtain⟨e,s',h1,h2⟩:=hr k s (by omega) hI
   cases e with
   | normal=>
    obtain⟨hk',hI'⟩:=h2
    obtain⟨e2,s2,h3,h4⟩:=ih (k+1) s' (by omega) hI' f (by omega)
    exact⟨e2,s2,by simp only[MD,h1,h3],h4⟩
   | exit id=>exact⟨_,_,by simp only[MD,h1],h2⟩
   | ret=>exact⟨_,_,by simp only[MD,h1],h2⟩
 obtain⟨e,s',h1,h2⟩:=key N 0 s (by omega) h0 n hN
 exact⟨e,s',by simp only[C0,h1],h2⟩
theorem WS.mono {c:Code} {Q':ED→St→Prop} (h:WS P call n c s Q) (hq:∀ e s,Q e s→Q' e s):WS P call n c s Q':=by
 obtain⟨e,s',h1,h2⟩:=h
 exact⟨e,s',h1,hq _ _ h2⟩
theorem WL.nil {ops:Array Oper} {K:St→Prop} (h:K s):WL P call ops [] s K:=⟨s,rfl,h⟩
theorem WL.step {ops:Array Oper} {o:Oper} {l:List Oper} {K:St→Prop} {v:Value} {h':AA} (hw:EL ops s.T o=true) (hs:AT P call s.T s.h o.op=some (v,h')) (h:WL P call ops l ⟨s.T.put o.dst v,h'⟩ K):WL P call ops (o :: l) s K:=by
 obtain⟨s',h1,h2⟩:=h
 refine⟨s',?_,h2⟩
 simp only[K6,GE,hw,if_true,hs,h1]
theorem WL.pass {ops:Array Oper} {o:Oper} {l:List Oper} {K:St→Prop} (hw:EL ops s.T o=false) (h:WL P call ops l ⟨s.T.put o.dst undef,s.h⟩ K):WL P call ops (o :: l) s K:=by
 obtain⟨s',h1,h2⟩:=h
 refine⟨s',?_,h2⟩
 simp[K6,GE,hw,h1]
theorem g9 {f:FuncId} {args:List Value} {h:AA} {fn:Func} {c:Code} (hf:P.funcs[f]?=some fn) (hb:fn.body=some c) (hl:args.length≤fn.ntmps) {R:Value→AA→Prop}
  (hw:WS P call n c ⟨I_ 0 args .leaf,h⟩ (fun e s=>(e=.normal∨e=.ret)∧∃ vs,F2 P s fn.results.toList=some vs∧R (HL vs) s.h)):∃ v h',AY P call n f args h=some (v,h')∧R v h':=by
 obtain⟨e,s,h1,he,vs,h2,h3⟩:=hw
 refine⟨_,_,?_,h3⟩
 have hm:(match some vs with
     | some [v]=>some (v,s.h)
     | some vs=>some (.tuple vs.toArray,s.h)
     | none=>none)=some (HL vs,s.h):=by
  match vs with
  | []=>rfl
  | [u]=>rfl
  | u :: u' :: us=>rfl
 rcases he with rfl | rfl <;> (simp only[AY,hf,hb,hl,if_true,h1,h2];exact hm)
end
section
variable {P:Program} {t:TypeId} {x y:Operand} {k:IntKind} {a b:Int}
theorem YV:CP P .lss t x y (.int k a) (.int k b)=some (.bool (decide (a<b))):=by simp[CP,flat,BS,BH,Go.eqGuard,Go.binOp,Op.intCmp,Bind.bind,Sem.bind,Pure.pure]
theorem VO:CP P .leq t x y (.int k a) (.int k b)=some (.bool (decide (a≤b))):=by simp[CP,flat,BS,BH,Go.eqGuard,Go.binOp,Op.intCmp,Bind.bind,Sem.bind,Pure.pure]
theorem U9:CP P .gtr t x y (.int k a) (.int k b)=some (.bool (decide (a>b))):=by simp[CP,flat,BS,BH,Go.eqGuard,Go.binOp,Op.intCmp,Bind.bind,Sem.bind,Pure.pure]
theorem Z5:CP P .geq t x y (.int k a) (.int k b)=some (.bool (decide (a≥b))):=by simp[CP,flat,BS,BH,Go.eqGuard,Go.binOp,Op.intCmp,Bind.bind,Sem.bind,Pure.pure]
theorem QD:CP P .eql t x y (.int k a) (.int k b)=some (.bool (a==b)):=by simp[CP,flat,BS,BH,Go.eqGuard,Go.binOp,Op.intCmp,Bind.bind,Sem.bind,Pure.pure]
theorem RO:CP P .neq t x y (.int k a) (.int k b)=some (.bool (a != b)):=by simp[CP,flat,BS,BH,Go.eqGuard,Go.binOp,Op.intCmp,Bind.bind,Sem.bind,Pure.pure]
theorem W6:CP P .add t x y (.int k a) (.int k b)=some (.int k (k.wrap (a+b))):=by simp[CP,flat,BS,BH,Go.eqGuard,Go.binOp,Op.intArith,Bind.bind,Sem.bind,Pure.pure]
theorem W5:CP P .sub t x y (.int k a) (.int k b)=some (.int k (k.wrap (a-b))):=by simp[CP,flat,BS,BH,Go.eqGuard,Go.binOp,Op.intArith,Bind.bind,Sem.bind,Pure.pure]
theorem uT:CP P .mul t x y (.int k a) (.int k b)=some (.int k (k.wrap (a*b))):=by simp[CP,flat,BS,BH,Go.eqGuard,Go.binOp,Op.intArith,Bind.bind,Sem.bind,Pure.pure]
theorem QW (hb:b≠0):CP P .quo t x y (.int k a) (.int k b)=some (.int k (k.wrap (a.tdiv b))):=by simp[CP,flat,BS,BH,Go.eqGuard,Go.binOp,Op.intDiv,Bind.bind,Sem.bind,Pure.pure,hb]
theorem ZK (hb:b≠0):CP P .rem t x y (.int k a) (.int k b)=some (.int k (a.tmod b)):=by simp[CP,flat,BS,BH,Go.eqGuard,Go.binOp,Op.intDiv,Bind.bind,Sem.bind,Pure.pure,hb]
end
def W9:Value→Value→Bool
 | .bool a,.bool b=>a==b
 | .int k a,.int k' b=>decide (k=k')&&decide (a=b)
 | .string a,.string b=>decide (a=b)
 | .pointer none,.pointer none=>true
 | .pointer (some a),.pointer (some b)=>decide (a=b)
 | .slice none n c,.slice none n' c'=>Nat.beq n n'&&Nat.beq c c'
 | .slice (some a) n c,.slice (some b) n' c'=>decide (a=b)&&Nat.beq n n'&&Nat.beq c c'
 | .map none,.map none=>true
 | .map (some a),.map (some b)=>Nat.beq a b
 | .nilFunc,.nilFunc=>true
 | .nilIface,.nilIface=>true
 | _,_=>false
theorem kF {a b:Value} (h:W9 a b=true):a=b:=by
 unfold W9 at h
 split at h <;> simp_all
def QB:List Value→List Value→Bool
 | [],[]=>true
 | a :: l,b :: m=>W9 a b&&QB l m
 | _,_=>false
theorem YP:∀ {l m:List Value},QB l m=true→l=m
 | [],[],_=>rfl
 | a :: l,b :: m,h=>by
  simp only[QB,Bool.and_eq_true] at h
  rw[kF h.1,YP h.2]
 | [],_ :: _,h=>by simp[QB] at h
 | _ :: _,[],h=>by simp[QB] at h
def WY:Value→Value→Bool
 | .agg a,.agg b=>QB a.toList b.toList
 | a,b=>W9 a b
theorem kJ {a b:Value} (h:WY a b=true):a=b:=by
 unfold WY at h
 split at h
 ·rw[Array.toList_inj.1 (YP h)]
 ·exact kF h
def QL:List Value→List Value→Bool
 | [],[]=>true
 | a :: l,b :: m=>WY a b&&QL l m
 | _,_=>false
theorem W8:∀ {l m:List Value},QL l m=true→l=m
 | [],[],_=>rfl
 | a :: l,b :: m,h=>by
  simp only[QL,Bool.and_eq_true] at h
  rw[kJ h.1,W8 h.2]
 | [],_ :: _,h=>by simp[QL] at h
 | _ :: _,[],h=>by simp[QL] at h
def SO:Value→Value→Bool
 | .tuple a,.tuple b=>QL a.toList b.toList
 | a,b=>WY a b
theorem W4 {a b:Value} (h:SO a b=true):a=b:=by
 unfold SO at h
 split at h
 ·rw[Array.toList_inj.1 (W8 h)]
 ·exact kJ h
def Z6:BF→BF→Bool
 | _,.dead=>true
 | .row cs ty g ro,.row cs' ty' g' ro'=>QB cs cs'&&(ro'||(Nat.beq ty ty'&&(g==g')&&(ro==ro')))
 | _,_=>false
theorem o_ {P:Program} {ρ:BK} {W:World} {i:Nat} {o o':BF} (h:Z6 o o'=true) (ho:GQ P ρ W i o):GQ P ρ W i o':=by
 unfold Z6 at h
 split at h
 ·trivial
 ·simp only[Bool.and_eq_true,Bool.or_eq_true] at h
  obtain⟨h1,h2⟩:=h
  obtain rfl:=YP h1
  obtain⟨L,CS,ty2,fr,e1,e2,e3,e4⟩:=ho
  rcases h2 with rfl | h2
  ·exact⟨L,CS,ty2,fr,e1,e2,e3,fun h=>by cases h⟩
  ·simp only[Bool.and_eq_true,beq_iff_eq] at h2
   obtain⟨⟨h3,rfl⟩,rfl⟩:=h2
   obtain rfl:=Nat.eq_of_beq_eq_true h3
   exact⟨L,CS,ty2,fr,e1,e2,e3,e4⟩
 ·cases h
def jD:BF→BF→Bool
 | _,.dead=>true
 | .row cs ty g ro,.row cs' ty' g' ro'=>QB cs cs'&&Nat.beq ty ty'&&(g==g')&&(ro==ro')
 | _,_=>false
theorem Ob {o o':BF} (h:jD o o'=true):o'=.dead∨o'=o:=by
 unfold jD at h
 split at h
 ·exact .inl rfl
 ·simp only[Bool.and_eq_true,beq_iff_eq] at h
  obtain⟨⟨⟨h1,h2⟩,rfl⟩,rfl⟩:=h
  obtain rfl:=YP h1
  obtain rfl:=Nat.eq_of_beq_eq_true h2
  exact .inr rfl
 ·cases h
def MO (n:Nat):Value→Bool
 | .pointer (some a)=>decide (a.block<n)
 | .slice (some a) _ _=>decide (a.block<n)
 | .map (some i)=>decide (i<n)
 | v=>BS v
def below (n:Nat):Value→Bool
 | .agg cs=>cs.toList.all (MO n)
 | v=>MO n v
theorem aV {ρ:BK} {n:Nat} {v V:Value} (hb:MO n v=true) (h:AJ ρ v V):AJ (CX ρ n) v V:=by
 cases h with
 | flat hf=>exact .flat hf
 | ptr hL=>
  simp only[MO,decide_eq_true_eq] at hb
  exact .ptr (by rw[JC hb];exact hL)
 | slice hL hc=>
  simp only[MO,decide_eq_true_eq] at hb
  exact .slice (by rw[JC hb];exact hL) hc
 | sliceU hL h1 h2=>
  simp only[MO,decide_eq_true_eq] at hb
  exact .sliceU (by rw[JC hb];exact hL) h1 h2
 | map hL=>
  simp only[MO,decide_eq_true_eq] at hb
  exact .map (by rw[JC hb];exact hL)
 | func _ _=>simp[MO,BS] at hb
 | iface _=>simp[MO,BS] at hb
 | agg _=>simp[MO,BS] at hb
 | tuple _=>simp[MO,BS] at hb
theorem Nz {ρ:BK} {n:Nat} {l m:List Value} (h:BG (AJ ρ) l m) (hb:l.all (MO n)=true):BG (AJ (CX ρ n)) l m:=by
 induction h with
 | nil=>exact .nil
 | cons h _ ih=>
  simp only[List.all_cons,Bool.and_eq_true] at hb
  exact .cons (aV hb.1 h) (ih hb.2)
theorem Ff {ρ:BK} {n:Nat} {v V:Value} (hb:below n v=true) (h:AJ ρ v V):AJ (CX ρ n) v V:=by
 cases h with
 | agg h=>exact .agg (Nz h hb)
 | flat hf=>exact .flat hf
 | _=>first | (refine aV hb ?_;first | (exact .ptr ‹_›) | (exact .slice ‹_› ‹_›) | (exact .sliceU ‹_› ‹_› ‹_›) | (exact .map ‹_›) | (exact .func ‹_› ‹_›) | (exact .iface ‹_›) | (exact .tuple ‹_›))
theorem Bf {ρ:BK} {n:Nat} {l m:List Value} (h:BG (AJ ρ) l m) (hb:l.all (below n)=true):BG (AJ (CX ρ n)) l m:=by
 induction h with
 | nil=>exact .nil
 | cons h _ ih=>
  simp only[List.all_cons,Bool.and_eq_true] at hb
  exact .cons (Ff hb.1 h) (ih hb.2)
def bs (l:List Nat):ByteArray:=⟨(l.map UInt8.ofNat).toArray⟩
structure J_ where
 f:FuncId
 args:List Value
 next:Nat
 need:List (Nat × BF)
 v:Value
 outs:List BF
noncomputable def UQ (t:EX):List (Nat × BF)→EX
 | []=>t
 | (i,o) :: l=>UQ (t.set i o) l
noncomputable def J_.hs (e:J_):AA:=⟨e.next,0,UQ .leaf e.need⟩
noncomputable def MI (h:AA):List BF→AA
 | []=>h
 | o :: l=>MI (h.push o) l
theorem Ml:∀ (l:List (Nat × BF)) (t:EX) (i:Nat),(UQ t l).get i=t.get i∨∃ o,(i,o)∈l∧(UQ t l).get i=o:=by
 intro l
 induction l with
 | nil=>intro t i;exact .inl rfl
 | cons x l ih=>
  obtain⟨k,o⟩:=x
  intro t i
  simp only[UQ]
  rcases ih (t.set k o) i with h | ⟨o',h1,h2⟩
  ·rw[EX.get_set] at h
   by_cases e:i=k
   ·rw[if_pos e] at h
    exact .inr ⟨o,by rw[e];simp,h⟩
   ·rw[if_neg e] at h
    exact .inl h
  ·exact .inr ⟨o',by simp[h1],h2⟩
theorem J_.hs_get (e:J_) (i:Nat):e.hs.get i=.dead∨(i<e.next∧∃ o,(i,o)∈e.need∧e.hs.get i=o):=by
 unfold AA.get J_.hs
 simp only
 split
 ·rename_i hi
  rcases Ml e.need .leaf i with h | ⟨o,h1,h2⟩
  ·exact .inl (h.trans rfl)
  ·exact .inr ⟨hi,o,h1,h2⟩
 ·exact .inl rfl
theorem l_:∀ (l:List BF) (h:AA),(MI h l).next=h.next+l.length∧(MI h l).floor=h.floor:=by
 intro l
 induction l with
 | nil=>intro h;exact⟨rfl,rfl⟩
 | cons o l ih=>
  intro h
  simp only[MI]
  obtain⟨h1,h2⟩:=ih (h.push o)
  refine⟨by rw[h1];simp[AA.push];omega,by rw[h2];rfl⟩
theorem a_:∀ (l:List BF) (h:AA) (i:Nat),(MI h l).get i=if i<h.next then h.get i else l.getD (i-h.next) .dead:=by
 intro l
 induction l with
 | nil=>
  intro h i
  simp only[MI]
  split
  ·rfl
  ·rw[KE (by omega)];rfl
 | cons o l ih=>
  intro h i
  simp only[MI]
  rw[ih]
  have hn:(h.push o).next=h.next+1:=rfl
  rw[hn]
  by_cases h1:i<h.next
  ·rw[if_pos (by omega),if_pos h1,AU h1]
  ·rw[if_neg h1]
   by_cases h2:i=h.next
   ·subst h2
    rw[if_pos (by omega),BX]
    simp
   ·rw[if_neg (by omega)]
    have:i-h.next=(i-(h.next+1))+1:=by omega
    rw[this]
    rfl
def V1:BF→Bool
 | .row _ _ _ ro=>ro
 | _=>false
noncomputable def YL (h:AA) (i:Nat):List BF→Bool
 | []=>true
 | o :: l=>jD (h.get i) o&&YL h (i+1) l
theorem Ay {h:AA}:∀ {l:List BF} {i k:Nat},YL h i l=true→l.getD k .dead=.dead∨h.get (i+k)=l.getD k .dead:=by
 intro l
 induction l with
 | nil=>intro i k _;exact .inl (by simp)
 | cons o l ih=>
  intro i k hk
  simp only[YL,Bool.and_eq_true] at hk
  cases k with
  | zero=>
   rcases Ob hk.1 with h | h
   ·exact .inl (by simpa using h)
   ·exact .inr (by simpa using h.symm)
  | succ k=>
   rcases ih (k:=k) hk.2 with h | h
   ·exact .inl (by simpa using h)
   ·exact .inr (by rw[← Nat.add_assoc,Nat.add_right_comm];simpa using h)
noncomputable def RV (h:AA):List (Nat × BF)→Bool
 | []=>true
 | (i,o) :: l=>Z6 (h.get i) o&&RV h l
theorem m_ {h:AA}:∀ {l:List (Nat × BF)} {i:Nat} {o:BF},RV h l=true→(i,o)∈l→Z6 (h.get i) o=true:=by
 intro l
 induction l with
 | nil=>intro i o _ h;cases h
 | cons x l ih=>
  obtain⟨k,o'⟩:=x
  intro i o hl hm
  simp only[RV,Bool.and_eq_true] at hl
  rcases List.mem_cons.1 hm with h | h
  ·cases h;exact hl.1
  ·exact ih hl.2 h
noncomputable def J_.ok (call:AS) (e:J_):Bool:=
 (e.need.all fun x=>V1 x.2)&&(match call e.f e.args e.hs with
  | some (v,h)=>SO v e.v&&Nat.beq h.next (e.next+e.outs.length)&&YL h e.next e.outs
  | none=>false)
noncomputable def TR (e:J_):AS:=fun f args h=>
 match Nat.beq f e.f with
 | true=>if QL args e.args&&Nat.beq h.next e.next&&RV h e.need then some (e.v,MI h e.outs) else none
 | false=>none
noncomputable def J_.okF (P:Program) (call:AS) (e:J_):Bool:=
 (e.need.all fun x=>V1 x.2&&(match x.2 with | .row cs _ _ _=>cs.all (MO e.next) | _=>false))&&e.args.all (below e.next)&&flat e.v&&decide (P.globals.size≤e.next)&&(match call e.f e.args e.hs with
  | some (v,h)=>SO v e.v
  | none=>false)
noncomputable def WE (e:J_):AS:=fun f args h=>
 match Nat.beq f e.f with
 | true=>if QL args e.args&&Nat.ble e.next h.next&&RV h e.need then some (e.v,h) else none
 | false=>none
noncomputable def HM (a b:AS):AS:=fun f args h=>match a f args h with
 | some r=>some r
 | none=>b f args h
def O6:AS:=fun _ _ _=>none
theorem Qb {P:Program}:D7 P O6∧CK O6:=⟨fun _ _ _ _ _ h=>by simp[O6] at h,fun _ _ _ _ _ h=>by simp[O6] at h⟩
theorem SL {P:Program} {a b:AS} (ha:D7 P a∧CK a) (hb:D7 P b∧CK b):D7 P (HM a b)∧CK (HM a b):=by
 refine⟨fun f args h v h' hs=>?_,fun f args h v h' hs=>?_⟩
 ·unfold HM at hs
  split at hs
  ·rename_i r hr;cases hs;exact ha.1 _ _ _ _ _ hr
  ·exact hb.1 _ _ _ _ _ hs
 ·unfold HM at hs
  split at hs
  ·rename_i r hr;cases hs;exact ha.2 _ _ _ _ _ hr
  ·exact hb.2 _ _ _ _ _ hs
theorem Aa {P:Program} {call:AS} (hc:D7 P call) {e:J_} (he:e.ok call=true):D7 P (TR e)∧CK (TR e):=by
 have key:∀ f args h v h',TR e f args h=some (v,h')→f=e.f∧args=e.args∧h.next=e.next∧RV h e.need=true∧v=e.v∧h'=MI h e.outs:=by
  intro f args h v h' hs
  unfold TR at hs
  split at hs
  ·rename_i hf
   split at hs
   ·rename_i hh
    simp only[Bool.and_eq_true] at hh
    cases hs
    exact⟨Nat.eq_of_beq_eq_true hf,W8 hh.1.1,Nat.eq_of_beq_eq_true hh.1.2,hh.2,rfl,rfl⟩
   ·cases hs
  ·cases hs
 refine⟨fun f args h v h' hs=>?_,fun f args h v h' hs=>?_⟩
 ·obtain⟨rfl,rfl,hnx,hneed,rfl,rfl⟩:=key f args h v h' hs
  unfold J_.ok at he
  simp only[Bool.and_eq_true] at he
  obtain⟨hro,he⟩:=he
  split at he
  ·rename_i v0 h0 hcall
   simp only[Bool.and_eq_true] at he
   obtain⟨⟨h1,h2⟩,h3⟩:=he
   obtain rfl:=W4 h1
   have h2:=Nat.eq_of_beq_eq_true h2
   obtain⟨hfn,hc2⟩:=hc _ _ _ _ _ hcall
   refine⟨hfn,fun ρ W ARGS hR hargs=>?_⟩
   have hnw:∀ i,¬ wr (e.hs.get i):=fun i hw=>by
    rcases e.hs_get i with h4 | ⟨_,o,h4,h5⟩
    ·rw[h4] at hw;exact hw
    ·have:=List.all_eq_true.1 hro _ h4
     rw[h5] at hw
     cases o <;> simp_all [V1,wr]
   have hR0:CH P ρ e.hs W:=by
    refine⟨rfl,fun i hi=>hR.dom i (by rw[hnx];exact hi),hR.glob,fun i=>?_,fun i j L L' hw=>absurd hw (hnw i)⟩
    rcases e.hs_get i with h4 | ⟨_,o,h4,h5⟩
    ·rw[h4];trivial
    ·rw[h5];exact o_ (m_ hneed h4) (hR.obj i)
   refine(hc2 ρ W ARGS hR0 hargs).mono fun e' W' ⟨V,ρ',he',hN,hv⟩=>⟨V,ρ',he',?_,hv⟩
   have hg:=hN.fr.gr hnw
   have hsn:e.hs.next=h.next:=hnx.symm
   obtain⟨p1,p2⟩:=l_ e.outs h
   have old:∀ i,i<h.next→(MI h e.outs).get i=h.get i:=fun i hi=>by rw[a_,if_pos hi]
   have new:∀ i,h.next≤i→(MI h e.outs).get i=.dead∨(MI h e.outs).get i=h0.get i:=fun i hi=>by
    rw[a_,if_neg (by omega)]
    rcases Ay (k:=i-h.next) h3 with h4 | h4
    ·exact .inl h4
    ·right
     rw[← h4]
     congr 1
     omega
   have hown:∀ i L,h.next≤i→live ((MI h e.outs).get i)→ρ' i=some L→W.heap.size≤L.b:=fun i L hi hl hL=>by
    rcases new i hi with h4 | h4
    ·rw[h4] at hl;exact hl.elim
    ·rw[h4] at hl
     rcases hN.own i L (by rw[hsn];exact hi) hl hL with h5 | ⟨j,_,hw,_⟩
     ·exact h5
     ·exact absurd hw (hnw j)
   have hold:∀ i L,i<h.next→live (h.get i)→ρ' i=some L→L.b<W.heap.size:=fun i L hi hl hL=>by
    obtain⟨L0,h4,h5⟩:=(hR.obj i).at_ hl
    rw[hN.old i (by rw[hsn];exact hi),h4] at hL
    cases hL
    exact h5
   refine⟨hN.ext,fun i hi=>hN.old i (by rw[hsn];exact hi),⟨rfl,fun i hi=>hN.rel.dom i (by rw[h2,← hnx,← p1];exact hi),hN.rel.glob,fun i=>?_,fun i j L L' hw hl hne hL hL'=>?_⟩,
    ⟨hg.os,hg.tape,hg.output,hg.size,fun b hb _=>hg.blk b hb⟩,by rw[p1];omega,p2,fun i hi _=>old i hi,fun i hi hw=>by rw[old i hi] at hw;exact hw,fun i hi hw=>by rw[old i hi] at hw;exact hw,
    fun i L hi hl hL=>.inl (hown i L hi hl hL)⟩
   ·rcases Nat.lt_or_ge i h.next with hi | hi
    ·rw[old i hi]
     exact((hR.obj i).grow hg).mono hN.ext (fun _ _ _=>rfl)
    ·rcases new i hi with h4 | h4
     ·rw[h4];trivial
     ·rw[h4];exact hN.rel.obj i
   ·rcases Nat.lt_or_ge i h.next with hi | hi <;> rcases Nat.lt_or_ge j h.next with hj | hj
    ·rw[old i hi] at hw
     rw[old j hj] at hl
     rw[hN.old i (by rw[hsn];exact hi)] at hL
     rw[hN.old j (by rw[hsn];exact hj)] at hL'
     exact hR.inj i j L L' hw hl hne hL hL'
    ·have e1:=hown j L' hj hl hL'
     rw[old i hi] at hw
     have e2:=hold i L hi hw.live hL
     omega
    ·have e1:=hown i L hi hw.live hL
     rw[old j hj] at hl
     have e2:=hold j L' hj hl hL'
     omega
    ·rcases new i hi with h4 | h4
     ·rw[h4] at hw;exact hw.elim
     ·rcases new j hj with h5 | h5
      ·rw[h5] at hl;exact hl.elim
      ·rw[h4] at hw;rw[h5] at hl
       exact hN.rel.inj i j L L' hw hl hne hL hL'
  ·cases he
 ·obtain⟨rfl,rfl,hnx,hneed,rfl,rfl⟩:=key f args h v h' hs
  obtain⟨p1,p2⟩:=l_ e.outs h
  exact⟨by rw[p1];omega,p2,fun i hi _=>by rw[a_,if_pos hi]⟩
theorem Ie {P:Program} {call:AS} (hc:D7 P call) {e:J_} (he:e.okF P call=true):D7 P (WE e)∧CK (WE e):=by
 have key:∀ f args h v h',WE e f args h=some (v,h')→f=e.f∧args=e.args∧e.next≤h.next∧RV h e.need=true∧v=e.v∧h'=h:=by
  intro f args h v h' hs
  unfold WE at hs
  split at hs
  ·rename_i hf
   split at hs
   ·rename_i hh
    simp only[Bool.and_eq_true] at hh
    cases hs
    exact⟨Nat.eq_of_beq_eq_true hf,W8 hh.1.1,Nat.le_of_ble_eq_true hh.1.2,hh.2,rfl,rfl⟩
   ·cases hs
  ·cases hs
 refine⟨fun f args h v h' hs=>?_,fun f args h v h' hs=>?_⟩
 ·obtain⟨rfl,rfl,hnx,hneed,rfl,rfl⟩:=key f args h v h' hs
  unfold J_.okF at he
  simp only[Bool.and_eq_true,decide_eq_true_eq] at he
  obtain⟨⟨⟨⟨hro,hargB⟩,hflat⟩,hgl⟩,he⟩:=he
  split at he
  ·rename_i v0 h0 hcall
   obtain rfl:=W4 he
   obtain⟨hfn,hc2⟩:=hc _ _ _ _ _ hcall
   refine⟨hfn,fun ρ W ARGS hR hargs=>?_⟩
   have hnw:∀ i,¬ wr (e.hs.get i):=fun i hw=>by
    rcases e.hs_get i with h4 | ⟨_,o,h4,h5⟩
    ·rw[h4] at hw;exact hw
    ·have:=List.all_eq_true.1 hro _ h4
     simp only[Bool.and_eq_true] at this
     have:=this.1
     rw[h5] at hw
     cases o <;> simp_all [V1,wr]
   have hR0:CH P (CX ρ e.next) e.hs W:=by
    refine⟨rfl,fun i hi=>?_,fun g hg=>?_,fun i=>?_,fun i j L L' hw=>absurd hw (hnw i)⟩
    ·unfold CX
     have:e.next≤i:=hi
     rw[if_neg (by omega)]
    ·rw[JC (by omega)];exact hR.glob g hg
    ·rcases e.hs_get i with h4 | ⟨hi,o,h4,h5⟩
     ·rw[h4];trivial
     ·rw[h5]
      have h6:=o_ (m_ hneed h4) (hR.obj i)
      have h7:=List.all_eq_true.1 hro _ h4
      simp only[Bool.and_eq_true] at h7
      cases o with
      | dead=>trivial
      | map es=>simp[V1] at h7
      | row cs ty g ro=>
       obtain⟨L,CS,ty',fr,e1,e2,e3,e4⟩:=h6
       refine⟨L,CS,ty',fr,by rw[JC hi];exact e1,e2,fun k v hv=>?_,e4⟩
       obtain⟨V,hV,hr⟩:=e3 k v hv
       exact⟨V,hV,aV (List.all_eq_true.1 h7.2 v (List.mem_of_getElem? hv)) hr⟩
   refine(hc2 _ W ARGS hR0 (Bf hargs hargB)).mono fun e' W' ⟨V,ρ',he',hN,hv⟩=>⟨V,ρ,he',(Nx.refl hR).grow (hN.fr.gr hnw),?_⟩
   rw[OJ hflat hv]
   exact K0 hflat
  ·cases he
 ·obtain⟨rfl,rfl,hnx,hneed,rfl,rfl⟩:=key f args h v h' hs
  exact .refl _
end Go.Sx
namespace Go.Sx
open Go
set_option linter.unusedSimpArgs false
set_option linter.unusedVariables false
theorem AJ.back {ρ ρ':BK} (hx:∀ i L,ρ i=some L→ρ' i=some L) {v V0:Value} (h0:AJ ρ v V0):∀ V,AJ ρ' v V→AJ ρ v V:=by
 refine AJ.rec (motive_1:=fun v V0 _=>∀ V,AJ ρ' v V→AJ ρ v V) (motive_2:=fun l m _=>∀ n,BG (AJ ρ') l n→BG (AJ ρ) l n) ?_ ?_ ?_ ?_ ?_ ?_ ?_ ?_ ?_ ?_ ?_ h0
 ·intro v hv V h;rw[JT hv h];exact .flat hv
 ·intro id off L hL V h
  cases h with
  | flat hv=>exact .flat hv
  | ptr h=>rw[hx _ _ hL] at h;cases h;exact .ptr hL
 ·intro id off L n c hL hc V h
  cases h with
  | flat hv=>exact .flat hv
  | slice h hc=>rw[hx _ _ hL] at h;cases h;exact .slice hL hc
  | sliceU h hn ha=>rw[hx _ _ hL] at h;cases h;exact .sliceU hL hn ha
 ·intro id off L n c a hL hn ha V h
  cases h with
  | flat hv=>exact .flat hv
  | slice h hc=>rw[hx _ _ hL] at h;cases h;exact .slice hL hc
  | sliceU h hn ha=>rw[hx _ _ hL] at h;cases h;exact .sliceU hL hn ha
 ·intro id L hL V h
  cases h with
  | flat hv=>exact .flat hv
  | map h=>rw[hx _ _ hL] at h;cases h;exact .map hL
 ·intro fn f f' c c' _ _ h1 h2 V h
  cases h with
  | flat hv=>exact .flat hv
  | func a b=>exact .func (h1 _ a) (h2 _ b)
 ·intro t v v' _ h1 V h
  cases h with
  | flat hv=>exact .flat hv
  | iface a=>exact .iface (h1 _ a)
 ·intro cs cs' _ h1 V h
  cases h with
  | flat hv=>exact .flat hv
  | agg a=>exact .agg (h1 _ a)
 ·intro cs cs' _ h1 V h
  cases h with
  | flat hv=>exact .flat hv
  | tuple a=>exact .tuple (h1 _ a)
 ·intro n h;cases h;exact .nil
 ·intro a b l m _ _ h1 h2 n h
  cases h with
  | cons x y=>exact .cons (h1 _ x) (h2 _ y)
theorem GQ.back {P:Program} {ρ ρ':BK} {W W':World} {i:Nat} {o:BF} (hx:∀ i L,ρ i=some L→ρ' i=some L) (h0:GQ P ρ W i o) (h:GQ P ρ' W' i o):GQ P ρ W' i o:=by
 cases o with
 | dead=>trivial
 | row cs ty g ro=>
  obtain⟨L0,CS0,t0,f0,k1,k2,k3,k4⟩:=h0
  obtain⟨L,CS,t,f,l1,l2,l3,l4⟩:=h
  have e:L=L0:=by rw[hx _ _ k1] at l1;exact(Option.some.inj l1).symm
  subst e
  refine⟨L,CS,t,f,k1,l2,fun k v hv=>?_,l4⟩
  obtain⟨V0,_,hV0⟩:=k3 k v hv
  obtain⟨V,hV1,hV2⟩:=l3 k v hv
  exact⟨V,hV1,hV0.back hx _ hV2⟩
 | map es=>
  obtain⟨L0,ES0,c0,k1,k2,k3⟩:=h0
  obtain⟨L,ES,c,l1,l2,l3⟩:=h
  have e:L=L0:=by rw[hx _ _ k1] at l1;exact(Option.some.inj l1).symm
  subst e
  refine⟨L,ES,c,k1,l2,?_⟩
  have key:∀ {es:List (Value × Value)} {A B:List MapEntry},BG (fun (e:Value × Value) (E:MapEntry)=>AJ ρ e.1 E.key∧AJ ρ e.2 E.val) es A→BG (fun (e:Value × Value) (E:MapEntry)=>AJ ρ' e.1 E.key∧AJ ρ' e.2 E.val) es B→BG (fun (e:Value × Value) (E:MapEntry)=>AJ ρ e.1 E.key∧AJ ρ e.2 E.val) es B:=by
   intro es A B h1
   induction h1 generalizing B with
   | nil=>intro h2;cases h2;exact .nil
   | cons a _ ih=>
    intro h2
    cases h2 with
    | cons b c=>exact .cons ⟨a.1.back hx _ b.1,a.2.back hx _ b.2⟩ (ih c)
  exact key k3 l3
def E9:Value→Bool
 | .tuple cs=>cs.all flat
 | v=>flat v
theorem tC {ρ:BK} {v V:Value} (hf:E9 v=true) (h:AJ ρ v V):V=v:=by
 unfold E9 at hf
 split at hf
 ·rename_i cs
  cases h with
  | flat hv=>rfl
  | tuple h=>
   rename_i cs'
   have:∀ {l m:List Value},BG (AJ ρ) l m→l.all flat=true→m=l:=by
    intro l m h
    induction h with
    | nil=>intro _;rfl
    | cons a _ ih=>
     intro hl
     simp only[List.all_cons,Bool.and_eq_true] at hl
     rw[OJ hl.1 a,ih hl.2]
   have:=this h (by simpa using hf)
   congr 1
   exact Array.toList_inj.1 this
 ·exact OJ hf h
theorem qQ {ρ:BK} {v:Value} (hf:E9 v=true):AJ ρ v v:=by
 unfold E9 at hf
 split at hf
 ·rename_i cs
  refine .tuple (BG.same fun a ha=>K0 ?_)
  have:cs.toList.all flat=true:=by simpa using hf
  exact List.all_eq_true.1 this a ha
 ·exact K0 hf
open Classical in
noncomputable def PL (call:AS):AS:=fun f args h=>match call f args h with
 | some (v,h1)=>if E9 v=true∧∀ i,i<h.next→h1.get i=h.get i then some (v,h) else none
 | none=>none
theorem sA {call:AS} {f:FuncId} {args:List Value} {h h':AA} {v:Value} (hs:PL call f args h=some (v,h')) :
  (∃ h1,call f args h=some (v,h1)∧∀ i,i<h.next→h1.get i=h.get i)∧E9 v=true∧h'=h:=by
 unfold PL at hs
 split at hs
 ·rename_i v' h1 he
  split at hs
  ·rename_i hc
   cases hs
   exact⟨⟨h1,he,hc.2⟩,hc.1,rfl⟩
  ·cases hs
 ·cases hs
theorem cD {call:AS} {f:FuncId} {args:List Value} {h h1:AA} {v:Value} (hc:call f args h=some (v,h1)) (hv:E9 v=true) (hk:∀ i,i<h.next→h1.get i=h.get i):PL call f args h=some (v,h):=by
 unfold PL
 rw[hc]
 simp only
 rw[if_pos ⟨hv,hk⟩]
theorem eV {P:Program} {call:AS} (hc:D7 P call):D7 P (PL call)∧CK (PL call):=by
 refine⟨fun f args h v h' hs=>?_,fun f args h v h' hs=>?_⟩
 ·obtain⟨⟨h1,he,hk⟩,hv,rfl⟩:=sA hs
  obtain⟨hfn,hc2⟩:=hc _ _ _ _ _ he
  refine⟨hfn,fun ρ W ARGS hR hargs=>(hc2 ρ W ARGS hR hargs).mono fun e W' ⟨V,ρ',he',hN,hv'⟩=>?_⟩
  rw[tC hv hv'] at he'
  refine⟨v,ρ,he',?_,qQ hv⟩
  refine⟨fun _ _ h=>h,fun _ _=>rfl,⟨hR.len,hR.dom,hR.glob,fun i=>?_,hR.inj⟩,hN.fr,Nat.le_refl _,rfl,fun _ _ _=>rfl,fun _ _ h=>h,fun _ _ h=>h,fun i L hi hw _=>by rw[KE hi] at hw;exact hw.elim⟩
  rcases Nat.lt_or_ge i h'.next with hi | hi
  ·have h2:=hN.rel.obj i
   rw[hk i hi] at h2
   exact(hR.obj i).back hN.ext h2
  ·rw[KE hi];trivial
 ·obtain⟨_,_,rfl⟩:=sA hs
  exact .refl _
end Go.Sx
namespace Go.Proofs.YtdejoodfeljmkaaGreatDoor
open Go Go.Sx
noncomputable def MS (fs:List FuncId) (call:AS):AS:=fun f args h=>if fs.contains f then call f args h else none
theorem j8 {P:Program} {fs:List FuncId} {call:AS} (hc:D7 P call∧CK call):D7 P (MS fs call)∧CK (MS fs call):=by
 refine⟨fun f args h v h' hs=>?_,fun f args h v h' hs=>?_⟩
 ·unfold MS at hs
  split at hs
  ·exact hc.1 _ _ _ _ _ hs
  ·cases hs
 ·unfold MS at hs
  split at hs
  ·exact hc.2 _ _ _ _ _ hs
  ·cases hs
noncomputable def OL (fs:List FuncId) (base:AS) (k:Nat):AS:=HM base (MS fs (PL (AY Tryz.prog (GW Tryz.prog base k) k)))
section
variable {fs:List FuncId} {k m:Nat} {base:AS} {f:FuncId} {args:List Value} {h h1:AA} {v:Value} {r:Value × AA}
theorem aW (hb:D7 Tryz.prog base∧CK base):D7 Tryz.prog (OL fs base k)∧CK (OL fs base k):=
 SL hb (j8 (eV (SB KC (OH KC hb.1 hb.2 k).1 (OH KC hb.1 hb.2 k).2 k).1))
theorem VP {a b:AS} (hb:a f args h=some r):HM a b f args h=some r:=by unfold HM;rw[hb]
theorem ML (hb:base f args h=some r):OL fs base k f args h=some r:=VP hb
theorem OX (hb:base f args h=none) (hf:fs.contains f=false):OL fs base k f args h=none:=by unfold OL HM MS;rw[hb,hf];rfl
theorem F7 {n:Nat} (hb:base f args h=some r):GW Tryz.prog base (n+1) f args h=some r:=by
 unfold GW
 rw[hb]
theorem PM {n:Nat} (hb:base f args h=none):GW Tryz.prog base (n+1) f args h=AY Tryz.prog (GW Tryz.prog base n) n f args h:=by
 rw[GW,hb]
theorem YB (hb:base f args h=none) (hf:fs.contains f=true) (hv:E9 v=true) (hw:∃ h1,AY Tryz.prog (GW Tryz.prog base k) k f args h=some (v,h1)∧∀ i,i<h.next→h1.get i=h.get i) :
  OL fs base k f args h=some (v,h):=by
 obtain⟨h1,he,hk⟩:=hw
 have e:=cD he hv hk
 unfold OL HM MS
 rw[hb,hf,if_pos rfl,e]
end
end Go.Proofs.YtdejoodfeljmkaaGreatDoor
namespace Go.Proofs.YtdejoodfeljmkaaGreatDoor
open Go Go.Sx
set_option linter.unusedSimpArgs false
set_option linter.unusedVariables false
set_option maxHeartbeats 64000000
structure AB where
 kind:Int
 name:ByteArray
 ends:Int
 n:Int
 kids:Int
def CA (what kind:Int):Bool:=
 if what=8 then kind==1
 else if what=0 then decide (kind≥2)&&decide (kind≤7)
 else if what=1 then decide (kind≥8)&&decide (kind≤10)
 else if what=2 then kind==11
 else if what=3 then decide (kind≥11)&&decide (kind≤23)
 else if what=4 then kind==11||kind==12
 else if what=5 then kind==25||kind==26
 else if what=6 then kind==24
 else decide (kind≥27)&&decide (kind≤54)
theorem QZ {what kind:Int} (h:CA what kind=true):1≤kind∧kind≤54:=by
 unfold CA at h
 (repeat' split at h) <;> simp at h <;> omega
def HQ (k:Int):Bool:=[1,2,3,4,5,7,8,9,14,15,16,17,19,20,21,22,24,26,28,31,32,35,36,37,38].contains k
def KJ (k:Int):Bool:=[16,17,19,20,21,24,26].contains k
def FT (k:Int):Int:=
 if [4,13].contains k then 3 else if [5,6,7,8,9,10,14,19,38,41,42].contains k then 1 else if [12,15,39,40].contains k||decide (k≥43) then 2 else 0
def CZ (k:Int):Int:=
 if [1,11].contains k then -1 else if [4,12,13].contains k then 3 else if [5,6,7,8,9,10,14,19,20,38,41,42].contains k then 1 else if [15,39,40].contains k||decide (k≥43) then 2 else 0
def BV (kind:Int) (kid:Nat):Int:=
 if kind=11 then 3 else if [7,8,9,10].contains kind then 2
 else if kind=12 then (if kid=0 then 7 else if kid=1 then 2 else 4)
 else if kind=13 then (if kid=2 then 2 else 7)
 else if kind=15 then (if kid=0 then 5 else 7)
 else if [19,20].contains kind then 6 else if kind=38 then 5 else 7
section
variable (isName:ByteArray→Bool)
def DR (x:AB):Bool:=
 (isName x.name==HQ x.kind)&&(HQ x.kind||x.name==ByteArray.empty)&&(x.ends==0||KJ x.kind&&x.ends==1)&&(x.n==0||x.kind==27&&decide (x.n>0)&&decide (x.n≤1073741824)) &&
  decide (x.kids≥FT x.kind)&&(decide (CZ x.kind<0)||decide (x.kids≤CZ x.kind))
def E6 (g:Nat→Nat→Nat × Bool):Nat→Nat→Nat→Nat × Bool
 | 0,_,next=>(next,true)
 | r+1,k,next=>if (g k next).2=true then E6 g r (k+1) (g k next).1 else ((g k next).1,false)
def BW (l:List AB):Nat→Nat→Int→Nat × Bool
 | 0,at_,_=>(at_,false)
 | m+1,at_,what=>match l[at_]? with
  | none=>(at_,false)
  | some x=>if (CA what x.kind&&DR isName x)=true then E6 (fun k next=>BW l m next (BV x.kind k)) x.kids.toNat 0 (at_+1) else (at_,false)
def NV (x:Option AB):Bool:=match x with
 | some x=>CA 1 x.kind
 | none=>false
def HV (ev:Bool) (x:Option AB):Int:=if (ev||NV x)=true then 1 else 0
def EV (l:List AB) (m:Nat):Nat→Bool→Nat→Nat × Bool
 | 0,_,next=>(next,true)
 | r+1,ev,next=>
  if (BW isName l m next (HV ev l[next]?)).2=true then EV l m r (ev||NV l[next]?) (BW isName l m next (HV ev l[next]?)).1
  else ((BW isName l m next (HV ev l[next]?)).1,false)
def GT (l:List AB) (m:Nat):Nat × Bool:=match l[0]? with
 | none=>(0,false)
 | some x=>if (CA 8 x.kind&&DR isName x)=true then EV isName l m x.kids.toNat false 1 else (0,false)
def HY (l:List AB):Option Nat:=
 if (GT isName l (l.length+1)).2=true∧(GT isName l (l.length+1)).1=l.length then none else some (GT isName l (l.length+1)).1
variable {isName}
theorem Fz {g:Nat→Nat→Nat × Bool} {b:Nat} (hg:∀ k p,p≤b→(g k p).2=true→p<(g k p).1∧(g k p).1≤b):∀ r k p,p≤b→(E6 g r k p).2=true→p+r≤(E6 g r k p).1∧(E6 g r k p).1≤b:=by
 intro r
 induction r with
 | zero=>intro k p hp _;exact⟨Nat.le_refl _,hp⟩
 | succ r ih=>
  intro k p hp h
  unfold E6 at h ⊢
  split at h
  ·rename_i hc
   rw[if_pos hc]
   have h1:=hg k p hp hc
   have h2:=ih (k+1) _ h1.2 h
   omega
  ·cases h
theorem S5 {l:List AB}:∀ m at_ what,(BW isName l m at_ what).2=true→at_<(BW isName l m at_ what).1∧(BW isName l m at_ what).1≤l.length:=by
 intro m
 induction m with
 | zero=>intro at_ what h;cases h
 | succ m ih=>
  intro at_ what
  unfold BW
  cases hx:l[at_]? with
  | none=>intro h;cases h
  | some x=>
   simp only
   have hlt:at_<l.length:=(List.getElem?_eq_some_iff.1 hx).1
   split
   ·rename_i hc
    intro h
    have:=Fz (b:=l.length) (fun k p _=>ih p (BV x.kind k)) x.kids.toNat 0 (at_+1) hlt h
    omega
   ·intro h;cases h
structure DA where
 kind:Int
 left:Nat
 next:Nat
def GI:List DA→List DA
 | []=>[]
 | f :: s=>if f.left=0 then GI s else f :: s
def LD:List DA→List DA
 | []=>[]
 | f :: s=>⟨f.kind,f.left-1,f.next+1⟩ :: s
theorem TM {f:DA} {s:List DA} (h:f.left≠0):GI (f :: s)=f :: s:=by unfold GI;rw[if_neg h]
theorem TA {f:DA} {s:List DA} (h:f.left=0):GI (f :: s)=GI s:=by
 show (if f.left=0 then GI s else f :: s)=GI s
 rw[if_pos h]
def M9:List DA→Int
 | []=>8
 | f :: _=>if f.kind=1 then 9 else BV f.kind f.next
def FV (what kind:Int):Bool:=if what=9 then decide (kind≥2)&&decide (kind≤10) else CA what kind
def LM (l:List AB) (at_:Nat) (s:List DA) (ev:Bool):Option Nat ⊕ (List DA × Bool):=
 match l[at_]? with
 | none=>.inl (some at_)
 | some x=>
  if (FV (M9 s) x.kind&&DR isName x)=true then
   if M9 s=9∧ev=true∧CA 0 x.kind=true then .inl (some at_)
   else .inr (GI (⟨x.kind,x.kids.toNat,0⟩ :: LD s),if M9 s=9 then ev||CA 1 x.kind else ev)
  else .inl (some at_)
def G0 (l:List AB):Nat→Nat→List DA→Bool→Option Nat
 | 0,_,_,_=>none
 | m+1,at_,s,ev=>match LM (isName:=isName) l at_ s ev with
  | .inl r=>r
  | .inr (s',ev')=>if s'=[] then (if at_+1<l.length then some (at_+1) else none) else G0 l m (at_+1) s' ev'
def KI (l:List AB) (M at_:Nat) (s:List DA) (ev:Bool):Option Nat:=if s=[] then (if at_<l.length then some at_ else none) else G0 (isName:=isName) l M at_ s ev
theorem ZQ {g:Nat→Nat→Nat × Bool} (hg:∀ k p,p≤(g k p).1):∀ r k p,p≤(E6 g r k p).1:=by
 intro r
 induction r with
 | zero=>intro k p;exact Nat.le_refl _
 | succ r ih=>
  intro k p
  unfold E6
  split
  ·exact Nat.le_trans (hg k p) (ih _ _)
  ·exact hg k p
theorem R1 {l:List AB}:∀ m at_ what,at_≤(BW isName l m at_ what).1:=by
 intro m
 induction m with
 | zero=>intro at_ what;exact Nat.le_refl _
 | succ m ih=>
  intro at_ what
  unfold BW
  split
  ·exact Nat.le_refl _
  ·split
   ·exact Nat.le_trans (Nat.le_succ _) (ZQ (fun k p=>ih p _) _ _ _)
   ·exact Nat.le_refl _
theorem X0 {k:Int} {j:Nat}:BV k j≠9∧BV k j≠8:=by
 unfold BV
 (repeat' split) <;> decide
theorem Th {k:Int} {j:Nat} {q:Int} (h:CA (BV k j) q=true):q≠1:=by
 intro e
 subst e
 revert h
 unfold BV
 (repeat' split) <;> decide
def oS (l:List AB) (m:Nat):Prop:=∀ (at_:Nat) (F:DA) (rest:List DA) (ev:Bool),F.kind≠1→l.length<at_+m →
 ((BW isName l m at_ (BV F.kind F.next)).2=true→∀ M,G0 (isName:=isName) l (M+((BW isName l m at_ (BV F.kind F.next)).1-at_)) at_ (F :: rest) ev=KI (isName:=isName) l M (BW isName l m at_ (BV F.kind F.next)).1 (GI (LD (F :: rest))) ev) ∧
 ((BW isName l m at_ (BV F.kind F.next)).2=false→∀ M,(BW isName l m at_ (BV F.kind F.next)).1-at_<M→G0 (isName:=isName) l M at_ (F :: rest) ev=some (BW isName l m at_ (BV F.kind F.next)).1)
theorem wK {l:List AB} {m:Nat} (hm:oS (isName:=isName) l m) {κ:Int} (hκ:κ≠1) (D:List DA) (ev:Bool):∀ r k p,l.length<p+m →
  ((E6 (fun k next=>BW isName l m next (BV κ k)) r k p).2=true→∀ M,KI (isName:=isName) l (M+((E6 (fun k next=>BW isName l m next (BV κ k)) r k p).1-p)) p (GI (⟨κ,r,k⟩ :: D)) ev=KI (isName:=isName) l M (E6 (fun k next=>BW isName l m next (BV κ k)) r k p).1 (GI D) ev) ∧
  ((E6 (fun k next=>BW isName l m next (BV κ k)) r k p).2=false→∀ M,(E6 (fun k next=>BW isName l m next (BV κ k)) r k p).1-p<M→KI (isName:=isName) l M p (GI (⟨κ,r,k⟩ :: D)) ev=some (E6 (fun k next=>BW isName l m next (BV κ k)) r k p).1):=by
 intro r
 induction r with
 | zero=>
  intro k p hp
  refine⟨fun _ M=>?_,fun h=>(by cases h)⟩
  rw[TA rfl]
  simp[E6]
 | succ r ih=>
  intro k p hp
  obtain⟨a1,a2⟩:=hm p ⟨κ,r+1,k⟩ D ev hκ hp
  simp only at a1 a2
  have hne:GI (⟨κ,r+1,k⟩ :: D)=⟨κ,r+1,k⟩ :: D:=TM (by simp)
  have hdec:LD (⟨κ,r+1,k⟩ :: D)=⟨κ,r,k+1⟩ :: D:=rfl
  have hcont:∀ M,KI (isName:=isName) l M p (⟨κ,r+1,k⟩ :: D) ev=G0 (isName:=isName) l M p (⟨κ,r+1,k⟩ :: D) ev:=fun M=>by unfold KI;rw[if_neg (by simp)]
  have hge:=R1 (isName:=isName) (l:=l) m p (BV κ k)
  rw[hne]
  simp only[hcont]
  unfold E6
  generalize hq:BW isName l m p (BV κ k)=q at a1 a2 hge
  cases hb:q.2 with
  | true=>
   simp only[if_true]
   have hq1:p<q.1∧q.1≤l.length:=by
    have:=S5 (isName:=isName) (l:=l) m p (BV κ k)
    rw[hq] at this
    exact this hb
   obtain⟨b1,b2⟩:=ih (k+1) q.1 (by omega)
   have hge2:=ZQ (g:=fun k next=>BW isName l m next (BV κ k)) (fun k p=>R1 m p _) r (k+1) q.1
   refine⟨fun h M=>?_,fun h M hM=>?_⟩
   ·have:=a1 hb (M+((E6 (fun k next=>BW isName l m next (BV κ k)) r (k+1) q.1).1-q.1))
    rw[hdec,b1 h M] at this
    rw[← this]
    congr 1
    omega
   ·have:=a1 hb (M-(q.1-p))
    rw[hdec,b2 h _ (by omega)] at this
    rw[← this]
    congr 1
    omega
  | false=>
   simp only[Bool.false_eq_true,if_false]
   exact⟨fun h=>(by cases h),fun _ M hM=>a2 hb M hM⟩
theorem Sh {F:DA} {rest:List DA} (hF:F.kind≠1):M9 (F :: rest)=BV F.kind F.next∧(∀ k,FV (BV F.kind F.next) k=CA (BV F.kind F.next) k)∧M9 (F :: rest)≠9:=by
 have h:M9 (F :: rest)=BV F.kind F.next:=by
  show (if F.kind=1 then 9 else BV F.kind F.next)=_
  rw[if_neg hF]
 refine⟨h,fun k=>?_,by rw[h];exact X0.1⟩
 unfold FV
 rw[if_neg X0.1]
theorem Fk {l:List AB}:∀ m,oS (isName:=isName) l m:=by
 intro m
 induction m with
 | zero=>
  intro at_ F rest ev hF hlen
  refine⟨fun h=>(by cases h),fun _ M hM=>?_⟩
  have hx:l[at_]?=none:=List.getElem?_eq_none (by omega)
  obtain⟨M,rfl⟩:∃ M',M=M'+1:=⟨M-1,by omega⟩
  simp[G0,LM,hx,BW]
 | succ m ih=>
  intro at_ F rest ev hF hlen
  obtain⟨w1,w2,w3⟩:=Sh (rest:=rest) hF
  have hbad:∀ M,0<M→(l[at_]?=none∨∃ x,l[at_]?=some x∧(CA (BV F.kind F.next) x.kind&&DR isName x)=false)→G0 (isName:=isName) l M at_ (F :: rest) ev=some at_:=by
   intro M hM h
   obtain⟨M,rfl⟩:∃ M',M=M'+1:=⟨M-1,by omega⟩
   rcases h with h | ⟨x,hx,hb⟩
   ·simp[G0,LM,h]
   ·simp only[G0,LM,hx,w1,w2,hb,Bool.false_eq_true,if_false]
  unfold BW
  cases hx:l[at_]? with
  | none=>
   simp only
   exact⟨fun h=>(by cases h),fun _ M hM=>hbad M (by omega) (.inl hx)⟩
  | some x=>
   simp only
   cases hb:(CA (BV F.kind F.next) x.kind&&DR isName x) with
   | false=>
    simp only[Bool.false_eq_true,if_false]
    exact⟨fun h=>(by cases h),fun _ M hM=>hbad M (by omega) (.inr ⟨x,hx,hb⟩)⟩
   | true=>
    simp only[if_true]
    have hk1:x.kind≠1:=Th (Bool.and_eq_true_iff.1 hb).1
    have hrun:∀ M,G0 (isName:=isName) l (M+1) at_ (F :: rest) ev=KI (isName:=isName) l M (at_+1) (GI (⟨x.kind,x.kids.toNat,0⟩ :: LD (F :: rest))) ev:=by
     intro M
     simp only[G0,LM,hx,w1,w2,hb,if_true,X0.1,false_and,if_false]
     rfl
    obtain⟨b1,b2⟩:=wK ih hk1 (LD (F :: rest)) ev x.kids.toNat 0 (at_+1) (by omega)
    have hge:=ZQ (g:=fun k next=>BW isName l m next (BV x.kind k)) (fun k p=>R1 m p _) x.kids.toNat 0 (at_+1)
    refine⟨fun h M=>?_,fun h M hM=>?_⟩
    ·have:=b1 h M
     rw[← this,← hrun]
     congr 1
     omega
    ·obtain⟨M,rfl⟩:∃ M',M=M'+1:=⟨M-1,by omega⟩
     rw[hrun,b2 h M (by omega)]
theorem kE {l:List AB} {m:Nat}:∀ r ev p,p≤(EV isName l m r ev p).1:=by
 intro r
 induction r with
 | zero=>intro ev p;exact Nat.le_refl _
 | succ r ih=>
  intro ev p
  unfold EV
  split
  ·exact Nat.le_trans (R1 m p _) (ih _ _)
  ·exact R1 m p _
theorem Ee {l:List AB} {m:Nat}:∀ r ev p,p≤l.length→(EV isName l m r ev p).2=true→p+r≤(EV isName l m r ev p).1∧(EV isName l m r ev p).1≤l.length:=by
 intro r
 induction r with
 | zero=>intro ev p hp _;exact⟨Nat.le_refl _,hp⟩
 | succ r ih=>
  intro ev p hp h
  unfold EV at h ⊢
  split at h
  ·rename_i hc
   rw[if_pos hc]
   have h1:=S5 (isName:=isName) (l:=l) m p _ hc
   have h2:=ih _ _ h1.2 h
   omega
  ·cases h
theorem YQ {k:Int}:(CA 0 k=true→FV 9 k=true∧CA 1 k=false∧k≠1)∧(CA 1 k=true→FV 9 k=true∧CA 0 k=false∧k≠1)∧(FV 9 k=true→CA 0 k=true∨CA 1 k=true):=by
 unfold FV CA
 simp only[if_true,Int.reduceEq,if_false,Bool.and_eq_true,decide_eq_true_eq,Bool.and_eq_false_iff,decide_eq_false_iff_not]
 omega
theorem Fw {l:List AB} {m:Nat}:∀ r ev k p,l.length<p+m →
  ((EV isName l m r ev p).2=true→∀ M,KI (isName:=isName) l (M+((EV isName l m r ev p).1-p)) p (GI [⟨1,r,k⟩]) ev=KI (isName:=isName) l M (EV isName l m r ev p).1 [] false) ∧
  ((EV isName l m r ev p).2=false→∀ M,(EV isName l m r ev p).1-p<M→KI (isName:=isName) l M p (GI [⟨1,r,k⟩]) ev=some (EV isName l m r ev p).1):=by
 intro r
 induction r with
 | zero=>
  intro ev k p hp
  refine⟨fun _ M=>?_,fun h=>(by cases h)⟩
  rw[TA rfl]
  show KI (isName:=isName) l (M+(p-p)) p [] ev=KI (isName:=isName) l M p [] false
  rw[Nat.sub_self]
  rfl
 | succ r ih=>
  intro ev k p hp
  have hne:GI [⟨1,r+1,k⟩]=[⟨1,r+1,k⟩]:=TM (by simp)
  have hdec:LD [⟨1,r+1,k⟩]=[⟨1,r,k+1⟩]:=rfl
  have hcont:∀ M,KI (isName:=isName) l M p [⟨1,r+1,k⟩] ev=G0 (isName:=isName) l M p [⟨1,r+1,k⟩] ev:=fun M=>by unfold KI;rw[if_neg (by simp)]
  have hw:M9 [⟨1,r+1,k⟩]=9:=rfl
  rw[hne]
  simp only[hcont]
  unfold EV
  have bad:∀ M,0<M→(l[p]?=none∨∃ x,l[p]?=some x∧(CA (HV ev l[p]?) x.kind&&DR isName x)=false)→G0 (isName:=isName) l M p [⟨1,r+1,k⟩] ev=some p:=by
   intro M hM h
   obtain⟨M,rfl⟩:∃ M',M=M'+1:=⟨M-1,by omega⟩
   rcases h with h | ⟨x,hx,hb⟩
   ·simp[G0,LM,h]
   ·simp only[G0,LM,hx,hw]
    cases hf:DR isName x with
    | false=>simp
    | true=>
     rw[hf,Bool.and_true,hx] at hb
     simp only[HV,NV] at hb
     cases hs:FV 9 x.kind with
     | false=>simp
     | true=>
      rcases YQ.2.2 hs with h0 | h1
      ·have hn:=(YQ.1 h0).2.1
       simp only[hn,Bool.or_false] at hb
       cases ev with
       | false=>simp[h0] at hb
       | true=>simp[h0]
      ·simp[h1] at hb
  cases m with
  | zero=>
   have hx:l[p]?=none:=List.getElem?_eq_none (by omega)
   simp only[BW,Bool.false_eq_true,if_false]
   exact⟨fun h=>(by cases h),fun _ M hM=>bad M (by omega) (.inl hx)⟩
  | succ m=>
   unfold BW
   cases hx:l[p]? with
   | none=>
    simp only[Bool.false_eq_true,if_false]
    exact⟨fun h=>(by cases h),fun _ M hM=>bad M (by omega) (.inl hx)⟩
   | some x=>
    simp only
    rw[hx] at bad
    cases hb:(CA (HV ev (some x)) x.kind&&DR isName x) with
    | false=>
     simp only[Bool.false_eq_true,if_false]
     exact⟨fun h=>(by cases h),fun _ M hM=>bad M (by omega) (.inr ⟨x,rfl,hb⟩)⟩
    | true=>
     simp only[if_true]
     have hs:=(Bool.and_eq_true_iff.1 hb).1
     have hfit:=(Bool.and_eq_true_iff.1 hb).2
     have hev:NV (some x)=CA 1 x.kind:=rfl
     have facts:FV 9 x.kind=true∧x.kind≠1∧¬ (ev=true∧CA 0 x.kind=true):=by
      unfold HV at hs
      split at hs
      ·rename_i hc
       have:=YQ.2.1 hs
       exact⟨this.1,this.2.2,fun h=>by rw[this.2.1] at h;cases h.2⟩
      ·rename_i hc
       have:=YQ.1 hs
       refine⟨this.1,this.2.2,fun h=>hc ?_⟩
       rw[h.1];rfl
     have hrun:∀ M,G0 (isName:=isName) l (M+1) p [⟨1,r+1,k⟩] ev=KI (isName:=isName) l M (p+1) (GI (⟨x.kind,x.kids.toNat,0⟩ :: [⟨1,r,k+1⟩])) (ev||CA 1 x.kind):=by
      intro M
      simp only[G0,LM,hx,hw,facts.1,hfit,Bool.and_self,if_true,true_and,hdec]
      rw[if_neg facts.2.2]
      rfl
     obtain⟨b1,b2⟩:=wK (Fk (isName:=isName) (l:=l) m) facts.2.1 [⟨1,r,k+1⟩] (ev||CA 1 x.kind) x.kids.toNat 0 (p+1) (by omega)
     have hge:=ZQ (g:=fun k next=>BW isName l m next (BV x.kind k)) (fun k p=>R1 m p _) x.kids.toNat 0 (p+1)
     generalize hq:E6 (fun k next=>BW isName l m next (BV x.kind k)) x.kids.toNat 0 (p+1)=q at b1 b2 hge
     cases hqb:q.2 with
     | false=>
      simp only[Bool.false_eq_true,if_false]
      refine⟨fun h=>(by cases h),fun _ M hM=>?_⟩
      obtain⟨M,rfl⟩:∃ M',M=M'+1:=⟨M-1,by omega⟩
      rw[hrun,b2 hqb M (by omega)]
     | true=>
      simp only[if_true]
      rw[hev]
      obtain⟨c1,c2⟩:=ih (ev||CA 1 x.kind) (k+1) q.1 (by omega)
      have hge2:=kE (isName:=isName) (l:=l) (m:=m+1) r (ev||CA 1 x.kind) q.1
      refine⟨fun h M=>?_,fun h M hM=>?_⟩
      ·have:=b1 hqb (M+((EV isName l (m+1) r (ev||CA 1 x.kind) q.1).1-q.1))
       rw[c1 h M] at this
       rw[← this,← hrun]
       congr 1
       omega
      ·have:=b1 hqb (M-(q.1-p))
       rw[c2 h _ (by omega)] at this
       rw[← this,← hrun]
       congr 1
       omega
theorem Sm {g:Nat→Nat→Nat × Bool} {b:Nat} (hg:∀ k p,p≤b→(g k p).1≤b):∀ r k p,p≤b→(E6 g r k p).1≤b:=by
 intro r
 induction r with
 | zero=>intro k p hp;exact hp
 | succ r ih=>
  intro k p hp
  unfold E6
  split
  ·exact ih _ _ (hg k p hp)
  ·exact hg k p hp
theorem YE {l:List AB}:∀ m at_ what,at_≤l.length→(BW isName l m at_ what).1≤l.length:=by
 intro m
 induction m with
 | zero=>intro at_ what h;exact h
 | succ m ih=>
  intro at_ what h
  unfold BW
  split
  ·exact h
  ·rename_i x hx
   have hlt:at_<l.length:=(List.getElem?_eq_some_iff.1 hx).1
   split
   ·exact Sm (fun k p hp=>ih p _ hp) _ _ _ hlt
   ·exact h
theorem oL {l:List AB} {m:Nat}:∀ r ev p,p≤l.length→(EV isName l m r ev p).1≤l.length:=by
 intro r
 induction r with
 | zero=>intro ev p hp;exact hp
 | succ r ih=>
  intro ev p hp
  unfold EV
  split
  ·exact ih _ _ (YE m p _ hp)
  ·exact YE m p _ hp
theorem Ui {l:List AB} {M:Nat} (hM:l.length<M):G0 (isName:=isName) l M 0 [] false=HY isName l:=by
 obtain⟨M,rfl⟩:∃ M',M=M'+1:=⟨M-1,by omega⟩
 unfold HY GT
 cases hx:l[0]? with
 | none=>simp[G0,LM,hx]
 | some x=>
  have hlt:0<l.length:=(List.getElem?_eq_some_iff.1 hx).1
  have h8:∀ k,FV 8 k=CA 8 k:=fun k=>rfl
  have hw:M9 []=8:=rfl
  simp only
  cases hb:(CA 8 x.kind&&DR isName x) with
  | false=>simp[G0,LM,hx,hw,h8,hb]
  | true=>
   simp only[if_true]
   have hk:x.kind=1:=by
    have:=(Bool.and_eq_true_iff.1 hb).1
    simpa [CA] using this
   have hrun:G0 (isName:=isName) l (M+1) 0 [] false=KI (isName:=isName) l M 1 (GI [⟨1,x.kids.toNat,0⟩]) false:=by
    simp only[G0,LM,hx,hw,h8,hb,if_true]
    simp only[hk,show ((8:Int)=9)=False by simp,false_and,if_false]
    rfl
   rw[hrun]
   obtain⟨c1,c2⟩:=Fw (isName:=isName) (l:=l) (m:=l.length+1) x.kids.toNat false 0 1 (by omega)
   have hge:=kE (isName:=isName) (l:=l) (m:=l.length+1) x.kids.toNat false 1
   have hle:=Ee (isName:=isName) (l:=l) (m:=l.length+1) x.kids.toNat false 1 (by omega)
   have hle':=oL (isName:=isName) (l:=l) (m:=l.length+1) x.kids.toNat false 1 (by omega)
   generalize EV isName l (l.length+1) x.kids.toNat false 1=q at c1 c2 hge hle hle'
   cases hq:q.2 with
   | true=>
    have:=hle hq
    have h1:=c1 hq (M-(q.1-1))
    rw[show M-(q.1-1)+(q.1-1)=M by omega] at h1
    rw[h1]
    unfold KI
    rw[if_pos rfl]
    by_cases hl:q.1=l.length
    ·rw[if_neg (by omega),if_pos ⟨rfl,hl⟩]
    ·rw[if_pos (by omega),if_neg (fun h=>hl h.2)]
   | false=>
    rw[if_neg (fun h=>by cases h.1),c2 hq M (by omega)]
end
end Go.Proofs.YtdejoodfeljmkaaGreatDoor
namespace Go.Sx
open Go
set_option linter.unusedSimpArgs false
set_option linter.unusedVariables false
set_option maxHeartbeats 64000000
def NK:Value→Bool
 | .func (.func _) f c=>f.isEmpty&&c.isEmpty
 | v=>flat v
theorem Jl {ρ ρ':BK} {v V:Value} (hp:NK v=true) (h:AJ ρ v V):AJ ρ' v V:=by
 unfold NK at hp
 split at hp
 ·rename_i k f c
  simp only[Bool.and_eq_true,Array.isEmpty_iff] at hp
  obtain⟨rfl,rfl⟩:=hp
  obtain⟨f',c',rfl,h1,h2⟩:=jJ h
  have e1:f'=#[]:=by
   have:=h1.length
   simp at this
   exact Array.eq_empty_of_size_eq_zero this.symm
  have e2:c'=#[]:=by
   have:=h2.length
   simp at this
   exact Array.eq_empty_of_size_eq_zero this.symm
  subst e1
  subst e2
  exact .func .nil .nil
 ·rw[OJ hp h]
  exact K0 hp
theorem pQ {ρ ρ':BK} {l:List Value} {m:List Value} (hp:l.all NK=true) (h:BG (AJ ρ) l m):BG (AJ ρ') l m:=by
 induction h with
 | nil=>exact .nil
 | cons h _ ih=>
  simp only[List.all_cons,Bool.and_eq_true] at hp
  exact .cons (Jl hp.1 h) (ih hp.2)
end Go.Sx
