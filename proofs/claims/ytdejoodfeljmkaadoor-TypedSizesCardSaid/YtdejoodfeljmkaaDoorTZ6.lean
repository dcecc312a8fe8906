/- Part 6 of what the claim leans on: 6 texts laid one behind another. -/
import Derived.Test.YtdejoodfeljmkaaDoorTZ5
import Derived.Below
import Derived.ChangeSame
import Derived.Lib.LaidTab
import Derived.ProofKit
namespace Go.Sx
open Go Go.RowKit Go.WideShapes Go.ChangeShapes
set_option linter.unusedSimpArgs false
set_option linter.unusedVariables false
set_option maxHeartbeats 64000000
section
variable {H:Type} {enc:TypeId × Value→H} {P:Program}
theorem q_ {f:Func} {s:ChangeSpec} {apart fresh handsOn again:Bool} {W W':World} {args:Array Value} {v:Value} {ds gs:List (DataW H)} {before pa pv:List MemPlace}
  (hW:DataW.Whole enc P f.params.toList s.vars apart W args.toList ds gs before)
  (hres:∀ (b:Nat) (sp:Nat→Bool) (hd:Bool),DataW.TrodAll enc P W' b sp hd f.resultTypes.toList (v.resultList f.resultTypes.size) (s.fn H (ds++gs)).results [])
  (hargs:∀ sp:Nat→Bool,(∀ p∈before,sp p.block=true)→DataW.TrodAll enc P W' 0 sp true f.params.toList args.toList (s.fn H (ds++gs)).args pa)
  (hvars:∀ sp:Nat→Bool,(∀ p∈before,sp p.block=true)→DataW.TrodVars enc P W' sp s.vars (s.fn H (ds++gs)).vars pv)
  (hps:before=pa++pv) (hb:Below W.heap.size W W')
  (hok:∀ (j:Nat) (t:TypeId) (r:Value),f.resultTypes[j]?=some t→(v.resultList f.resultTypes.size)[j]?=some r→Value.okWide P W' .any 0 t r) :
  s.post enc P f apart fresh handsOn again W args v W':=by
 have hlt:∀ p∈before,p.block<W.heap.size:=fun p hp=>hW.lt p hp
 have hold:∀ p∈before,(fun b=>decide (b<W.heap.size)) p.block=true:=fun p hp=>by simpa using hlt p hp
 refine⟨ds,gs,before,[],pa,pv,hW,hres _ _ _,hargs _ hold,hvars _ hold,World.keptBut_mono (fun p hp=>⟨hp,?_⟩) (hb.frame (· ∈ before)),fun _=>?_⟩
 ·rw[hps,List.mem_append] at hp
  exact Or.inr hp
 ·obtain⟨_,_,_,_,_,hz,hn⟩:=hW
  refine⟨hok,_,_,([]++pa)++pv,⟨[]++pa,pv,trodAll_append (hargs _ (fun _ _=>rfl)) (hres _ _ _),hvars _ (fun _ _=>rfl),rfl,?_,?_⟩,?_⟩
  ·intro b off hp
   have hin:MemPlace.cell b off∈before:=by rw[hps];simpa using hp
   rw[hb.frozen (hlt _ hin)]
   exact hz b off hin
  ·intro ha
   have:=hn ha
   rw[hps] at this
   simpa using this
  ·intro p hp _
   rw[hps]
   simpa using hp
end
theorem vU {H:Type} {enc:TypeId × Value→H} {P:Program} {w:World} {base:Nat} {sp:Nat→Bool} {held:Bool} {fuel:Nat} {t e:TypeId} {n:Nat} {cs:List Value} {zs:List (List UInt8)} {p:List MemPlace}
  (ht:P.underlying t=some (.array n e)) (he:P.underlying e=some .string) (hce:P.cellsOf e=1) (hct:P.cellsOf t=n)
  (h:DataW.trod enc P w base sp held fuel t cs=some (.agg (zs.map fun z=>.lit (.string z)),p)):cs=zs.map fun z=>Value.string ⟨z.toArray⟩:=by
 cases fuel with
 | zero=>simp[DataW.trod] at h
 | succ fuel=>
  simp only[DataW.trod,ht,hce,hct,Nat.mul_one] at h
  split at h
  ·rename_i hl
   obtain⟨xs,hm,hx⟩:=Option.map_eq_some_iff.1 h
   have hxs:xs.map (·.1)=zs.map fun z=>(DataW.lit (.string z):DataW H):=by
    have:=congrArg Prod.fst hx
    simpa using this
   have hxl:xs.length=n:=by simpa using Lib.mapM_length hm
   have hzl:zs.length=n:=by
    have:=congrArg List.length hxs
    simp at this
    omega
   apply List.ext_getElem?
   intro i
   by_cases hi:i<n
   ·obtain⟨b,hb,hf⟩:=Lib.mapM_at hm i i (by simp[hi])
    obtain⟨z,hc,rfl,_⟩:=DataW.trod_string he hf
    have h1:cs[i]?=some (.string z):=by
     have:=congrArg (·[0]?) hc
     simpa [List.getElem?_take,List.getElem?_drop] using this
    have h2:(xs.map (·.1))[i]?=some (DataW.lit (.string z.data.toList):DataW H):=by simp[hb]
    rw[hxs] at h2
    simp only[List.getElem?_map,Option.map_eq_some_iff,DataW.lit.injEq,Lit.string.injEq] at h2
    obtain⟨z',hz',hz⟩:=h2
    subst hz
    simp[h1,hz']
   ·rw[List.getElem?_eq_none (by omega),List.getElem?_eq_none (by simp;omega)]
  ·cases h
theorem aA {P:Program} {W:World} {name:String} {zs:List (List UInt8)} {rest:List (String × DataW Unit)} {g:Nat} {t e:TypeId} {n:Nat}
  (hg:P.globalNamed name=some g) (hty:(P.globals[g]?).map (·.type)=some t) (ht:P.underlying t=some (.array n e)) (he:P.underlying e=some .string) (hce:P.cellsOf e=1) (hct:P.cellsOf t=n)
  (h:laidMet P ((name,.agg (zs.map fun z=>.lit (.string z))) :: rest) W):∃ CS ty fr,W.heap[g]?=some (.cells CS ty fr)∧CS.toList=zs.map fun z=>Value.string ⟨z.toArray⟩:=by
 obtain⟨ps,⟨g',t',cs,fuel,p,q,hg',ht',hvar,hd,_,_⟩,_⟩:=h
 obtain rfl:=Option.some.inj (hg.symm.trans hg')
 obtain rfl:=Option.some.inj (hty.symm.trans ht')
 have hcs:=vU ht he hce hct hd
 simp only[World.var?,hg,Option.bind_some] at hvar
 split at hvar
 ·rename_i CS ty fr hb
  cases hvar
  exact⟨_,_,_,hb,hcs⟩
 ·cases hvar
theorem UP {P:Program} {W:World} {ρ:BA} {h:AA} (hl:h.good) (hd:∀ i,h.next≤i→ρ i=none) (hg:∀ g,g<P.globals.size→∃ L,ρ g=some L∧L.b=g∧L.d=0)
  (ho:∀ i,i<h.next→∃ cs ty g L CS ty' fr,h.get i=.row cs ty g true∧ρ i=some L∧W.heap[L.b]?=some (.cells CS ty' fr)∧∀ (k:Nat) (v:Value),cs[k]?=some v→∃ V,CS[L.d+k]?=some V∧AI ρ v V) :
  BP P ρ h W∧∀ i,¬ wr (h.get i):=by
 have hw:∀ i,¬ wr (h.get i):=fun i hw=>by
  rcases Nat.lt_or_ge i h.next with hi | hi
  ·obtain⟨cs,ty,g,L,CS,ty',fr,h1,_⟩:=ho i hi
   rw[h1] at hw
   cases hw
  ·rw[IT hi] at hw
   exact hw
 refine⟨⟨hl,hd,hg,fun i=>?_,fun i j L L' hwi=>absurd hwi (hw i)⟩,hw⟩
 rcases Nat.lt_or_ge i h.next with hi | hi
 ·obtain⟨cs,ty,g,L,CS,ty',fr,h1,h2,h3,h4⟩:=ho i hi
  rw[h1]
  exact⟨L,CS,ty',fr,h2,h3,h4,fun h=>by cases h⟩
 ·rw[IT hi]
  trivial
theorem Gr.below {W W':World} (h:Gr W W'):Below W.heap.size W W':=⟨h.os,h.tape,h.output,h.size,h.blk⟩
end Go.Sx
namespace Go.Sx
open Go
set_option linter.unusedSimpArgs false
set_option linter.unusedVariables false
set_option maxHeartbeats 64000000
noncomputable def A8 (P:Program) (call:AM) (n:Nat):AM:=fun f args h=>
 match P.funcs[f]? with
 | some fn=>match fn.body with
  | some c=>if args.length≤fn.ntmps then
    match BW P call n c ⟨HX 0 args .leaf,h⟩ with
    | some (.normal,s) | some (.ret,s)=>match FH P s fn.results.toList with
     | some [v]=>some (v,s.h)
     | some vs=>some (.tuple vs.toArray,s.h)
     | none=>none
    | _=>none
   else none
  | none=>none
 | none=>none
noncomputable def FL (P:Program) (base:AM):Nat→AM
 | 0,_,_,_=>none
 | n+1,f,args,h=>match base f args h with
  | some r=>some r
  | none=>A8 P (FL P base n) n f args h
def B8 (call:AM):Prop:=∀ f args h v h',call f args h=some (v,h')→DF h h'
theorem Q9 {P:Program} (hP:OK P=true) {call:AM} (ih1:CR P call) (ih2:B8 call) (fuel:Nat):CR P (A8 P call fuel)∧B8 (A8 P call fuel):=by
 simp only[OK,Bool.and_eq_true] at hP
 obtain⟨hm,hall⟩:=hP
 have key:∀ f args h v h',A8 P call fuel f args h=some (v,h')→∃ fn c e s vs,P.funcs[f]?=some fn∧fn.body=some c∧args.length≤fn.ntmps∧(e=.normal∨e=.ret) ∧
   BW P call fuel c ⟨HX 0 args .leaf,h⟩=some (e,s)∧FH P s fn.results.toList=some vs∧v=HV vs∧h'=s.h:=by
  intro f args h v h' hs
  simp only[A8] at hs
  split at hs
  ·rename_i fn hfn
   split at hs
   ·rename_i c hc
    split at hs
    ·rename_i hlen
     split at hs
     ·rename_i s hcode
      obtain⟨vs,h1,h2,h3⟩:=bY hs
      exact⟨fn,c,.normal,s,vs,hfn,hc,hlen,.inl rfl,hcode,h1,h2,h3⟩
     ·rename_i s hcode
      obtain⟨vs,h1,h2,h3⟩:=bY hs
      exact⟨fn,c,.ret,s,vs,hfn,hc,hlen,.inr rfl,hcode,h1,h2,h3⟩
     ·cases hs
    ·cases hs
   ·cases hs
  ·cases hs
 have hfOK : ∀ (f : FuncId) (fn : Func) (c : Code), P.funcs[f]? = some fn → fn.body = some c → JD P fn.ntmps c = true ∧ (fn.name == "runtime.NumGoroutine") = false := by
  intro f fn c hfn hc
  have:=List.all_eq_true.1 hall fn (List.mem_of_getElem? (i:=f) (by simpa using hfn))
  unfold YE at this
  rw[hc] at this
  simp only[Bool.and_eq_true,Bool.not_eq_true'] at this
  exact this
 refine⟨fun f args h v h' hs=>?_,fun f args h v h' hs=>?_⟩
 ·obtain⟨fn,c,e,s,vs,hfn,hc,hlen,he,hcode,hres,hv,hh⟩:=key f args h v h' hs
  obtain⟨hcOK,hname⟩:=hfOK f fn c hfn hc
  refine⟨⟨fn,c,hfn,hc,hname⟩,fun ρ W ARGS hR hargs=>?_⟩
  have hsz:ARGS.size=args.length:=by have:=hargs.length;simpa using this.symm
  refine calls_of_wp hfn hc (h_ ih1 ih2 hm fuel c hcOK hcode hR ?_ (by simp;omega) fun A' W' ρ' hN hT' hn' hd'=>?_)
  ·intro t
   simp only[dT]
   show AI ρ _ ((ARGS++Array.replicate (fn.ntmps-ARGS.size) undef).getD t undef)
   rw[Array.getD_eq_getD_getElem?,Array.getElem?_append]
   by_cases ht:t<args.length
   ·rw[if_pos (by omega),if_pos (by omega)]
    obtain⟨b,hb,hr⟩:=hargs.get (i:=t) (a:=args[t]) (by simp[ht])
    have hb':ARGS[t]?=some b:=by simpa using hb
    rw[hb']
    simpa [ht] using hr
   ·rw[if_neg (by omega),if_neg (by omega),Array.getElem?_replicate]
    have:(Tr.leaf).get t=undef:=rfl
    rw[this]
    split <;> exact PJ
  ·obtain⟨V,hV,hr⟩:=n_ hres hN.rel hT'
   have hb:bodyPost P fn (fun e W'=>∃ V ρ',e=.returned V∧Nx P ρ h W ρ' h' W'∧AI ρ' v V) .normal A' W':=⟨hd',V,hV,V,ρ',rfl,by rw[hh];exact hN,by rw[hv];exact hr⟩
   rcases he with rfl | rfl
   ·exact hb
   ·exact hb
 ·obtain⟨fn,c,e,s,vs,hfn,hc,hlen,he,hcode,hres,hv,hh⟩:=key f args h v h' hs
  rw[hh]
  exact oX ih2 fuel c hcode
theorem MV {P:Program} (hP:OK P=true) {base:AM} (hb:CR P base) (hs:B8 base):∀ fuel,CR P (FL P base fuel)∧B8 (FL P base fuel):=by
 intro fuel
 induction fuel with
 | zero=>exact⟨fun f args h v h' hs=>by simp[FL] at hs,fun f args h v h' hs=>by simp[FL] at hs⟩
 | succ fuel ih=>
  obtain⟨i1,i2⟩:=Q9 hP ih.1 ih.2 fuel
  refine⟨fun f args h v h' hh=>?_,fun f args h v h' hh=>?_⟩
  ·simp only[FL] at hh
   split at hh
   ·rename_i r hr;cases hh;exact hb f args h v h' hr
   ·exact i1 f args h v h' hh
  ·simp only[FL] at hh
   split at hh
   ·rename_i r hr;cases hh;exact hs f args h v h' hr
   ·exact i2 f args h v h' hh
noncomputable def NZ (f0:FuncId) (o:A9):AM:=fun f args h=>by
 classical
 exact if f=f0∧args=[]∧h.get 0=o then some (.bool true,h) else none
theorem lH {P:Program} {call:AM} (hC:CR P call) {f0:FuncId} {cs:List Value} {ty:TypeId} {g:Bool} {h':AA} (hgl:P.globals.size=1) (hflat:cs.all BI=true)
  (hs:call f0 [] ⟨1,0,.node (.row cs ty g true) .leaf .leaf⟩=some (.bool true,h')):CR P (NZ f0 (.row cs ty g true))∧B8 (NZ f0 (.row cs ty g true)):=by
 have key:∀ f args h v h1,NZ f0 (.row cs ty g true) f args h=some (v,h1)→f=f0∧args=[]∧h.get 0=.row cs ty g true∧v=.bool true∧h1=h:=by
  intro f args h v h1 he
  unfold NZ at he
  split at he
  ·rename_i hc
   cases he
   exact⟨hc.1,hc.2.1,hc.2.2,rfl,rfl⟩
  ·cases he
 refine⟨fun f args h v h1 he=>?_,fun f args h v h1 he=>?_⟩
 ·obtain⟨rfl,rfl,hg,rfl,rfl⟩:=key f args h v h1 he
  obtain⟨hfn,hcall⟩:=hC f [] _ _ _ hs
  refine⟨hfn,fun ρ W ARGS hR hargs=>?_⟩
  obtain⟨L0,hL0,hb0,hd0⟩:=hR.glob 0 (by omega)
  have ho:=hR.obj 0
  rw[hg] at ho
  obtain⟨L,CS,ty',fr,hL,hW,hcs,_⟩:=ho
  have hro:=UP (P:=P) (W:=W) (ρ:=fun i=>if i=0 then some L0 else none) (h:=⟨1,0,.node (.row cs ty g true) .leaf .leaf⟩) rfl (fun i hi=>by
    have:1≤i:=hi
    rw[if_neg (by omega)]) (fun g hg=>by
    obtain rfl:g=0:=by omega
    exact⟨L0,rfl,hb0,hd0⟩) (fun i hi=>by
    have:i<1:=hi
    obtain rfl:i=0:=by omega
    rw[hL0] at hL
    cases hL
    exact⟨cs,ty,g,L0,CS,ty',fr,rfl,rfl,hW,fun k v hv=>by
     obtain⟨V,hV,hr⟩:=hcs k v hv
     have hf:=List.all_eq_true.1 hflat v (List.mem_of_getElem? hv)
     rw[H9 hf hr] at hV
     exact⟨v,hV,.flat hf⟩⟩)
  refine(hcall _ W ARGS hro.1 (by rw[List.length_eq_zero_iff.1 hargs.length.symm];exact .nil)).mono fun e W' ⟨V,ρ',he,hN,hv⟩=>⟨V,ρ,he,(Nx.refl hR).grow (hN.fr.gr hro.2),?_⟩
  rw[O9 hv]
  exact .flat rfl
 ·obtain⟨rfl,rfl,hg,rfl,rfl⟩:=key f args h v h1 he
  exact .refl _
section
variable {P:Program} {call:AM} {n:Nat}
def WS (P:Program) (call:AM) (n:Nat) (c:Code) (s:St) (Q:D7→St→Prop):Prop:=∃ e s',BW P call n c s=some (e,s')∧Q e s'
def WL (P:Program) (call:AM) (ops:Array Oper) (l:List Oper) (s:St) (Q:St→Prop):Prop:=∃ s',JB P call ops l s=some s'∧Q s'
def WD (P:Program) (call:AM) (ops:Array Oper) (start i:Nat) (l:List Oper) (s:St) (Q:St→Prop):Prop:=∃ s',JU P call ops start i l s=some s'∧Q s'
def D7.on (K:St→Prop) (Q:D7→St→Prop):D7→St→Prop
 | .normal,s=>K s
 | e,s=>Q e s
def D7.inB (id:Nat) (Q:D7→St→Prop):D7→St→Prop
 | .exit i,s=>if i=id then Q .normal s else Q (.exit i) s
 | e,s=>Q e s
variable {s:St} {Q:D7→St→Prop}
theorem WS.skip (h:Q .normal s):WS P call n .skip s Q:=⟨_,_,rfl,h⟩
theorem WS.exit {id:Nat} (h:Q (.exit id) s):WS P call n (.exit id) s Q:=⟨_,_,rfl,h⟩
theorem WS.ret (h:Q .ret s):WS P call n .ret s Q:=⟨_,_,rfl,h⟩
theorem WS.seq {a b:Code} (h:WS P call n a s (D7.on (fun s'=>WS P call n b s' Q) Q)):WS P call n (.seq a b) s Q:=by
 obtain⟨e,s',h1,h2⟩:=h
 cases e with
 | normal=>
  obtain⟨e2,s2,h3,h4⟩:=h2
  exact⟨e2,s2,by simp only[BW,h1,h3],h4⟩
 | exit id=>exact⟨_,_,by simp only[BW,h1],h2⟩
 | ret=>exact⟨_,_,by simp only[BW,h1],h2⟩
theorem WS.cond {c:Operand} {a b:Code} {t:Bool} (hc:ev s.T c=.bool t) (h1:t=true→WS P call n a s Q) (h2:t=false→WS P call n b s Q):WS P call n (.cond c a b) s Q:=by
 cases t with
 | true=>
  obtain⟨e,s',h3,h4⟩:=h1 rfl
  exact⟨e,s',by simp only[BW,hc,h3],h4⟩
 | false=>
  obtain⟨e,s',h3,h4⟩:=h2 rfl
  exact⟨e,s',by simp only[BW,hc,h3],h4⟩
theorem WS.block {id:Nat} {c:Code} (h:WS P call n c s (D7.inB id Q)):WS P call n (.block id c) s Q:=by
 obtain⟨e,s',h1,h2⟩:=h
 cases e with
 | normal=>exact⟨_,_,by simp only[BW,h1],h2⟩
 | exit i=>
  by_cases hi:i=id
  ·subst hi
   exact⟨.normal,s',by simp only[BW,h1,if_true],by simpa [D7.inB] using h2⟩
  ·exact⟨.exit i,s',by simp only[BW,h1,hi,if_false],by simpa [D7.inB,hi] using h2⟩
 | ret=>exact⟨_,_,by simp only[BW,h1],h2⟩
theorem WS.region {id:Nat} {ops:Array Oper} (h:WL P call ops ops.toList s (Q .normal)):WS P call n (.region id ops false) s Q:=by
 obtain⟨s',h1,h2⟩:=h
 exact⟨_,_,by simp only[BW,h1];rfl,h2⟩
theorem WS.draw {id:Nat} {ops:Array Oper} (h:WD P call ops s.h.next 0 ops.toList s (Q .normal)):WS P call n (.region id ops true) s Q:=by
 obtain⟨s',h1,h2⟩:=h
 exact⟨_,_,by simp only[BW,h1];rfl,h2⟩
theorem WS.loop {c:Code} (I:Nat→St→Prop) (N:Nat) (hN:N<n) (h0:I 0 s)
  (hr:∀ k s,k≤N→I k s→WS P call n c s (D7.on (fun s'=>k<N∧I (k+1) s') Q)):WS P call n (.loop c) s Q:=by
 have key:∀ (m k:Nat) (s:St),k+m=N→I k s→∀ f,m<f→∃ e s',JW (BW P call n c) f s=some (e,s')∧Q e s':=by
  intro m
  induction m with
  | zero=>
   intro k s hk hI f hf
   obtain⟨f,rfl⟩:∃ f',f=f'+1:=⟨f-1,by omega⟩
   obtain⟨e,s',h1,h2⟩:=hr k s (by omega) hI
   cases e with
   | normal=>obtain⟨hk',_⟩:=h2;omega
   | exit id=>exact⟨_,_,by simp only[JW,h1],h2⟩
   | ret=>exact⟨_,_,by simp only[JW,h1],h2⟩
  | succ m ih=>
   intro k s hk hI f hf
   obtain⟨f,rfl⟩:∃ f',f=f'+1:=⟨f-1,by omega⟩
   obtain⟨e,s',h1,h2⟩:=hr k s (by omega) hI
   cases e with
   | normal=>
    obtain⟨hk',hI'⟩:=h2
    obtain⟨e2,s2,h3,h4⟩:=ih (k+1) s' (by omega) hI' f (by omega)
    exact⟨e2,s2,by simp only[JW,h1,h3],h4⟩
   | exit id=>exact⟨_,_,by simp only[JW,h1],h2⟩
   | ret=>exact⟨_,_,by simp only[JW,h1],h2⟩
 obtain⟨e,s',h1,h2⟩:=key N 0 s (by omega) h0 n hN
 exact⟨e,s',by simp only[BW,h1],h2⟩
theorem WS.mono {c:Code} {Q':D7→St→Prop} (h:WS P call n c s Q) (hq:∀ e s,Q e s→Q' e s):WS P call n c s Q':=by
 obtain⟨e,s',h1,h2⟩:=h
 exact⟨e,s',h1,hq _ _ h2⟩
theorem WL.nil {ops:Array Oper} {K:St→Prop} (h:K s):WL P call ops [] s K:=⟨s,rfl,h⟩
theorem WL.step {ops:Array Oper} {o:Oper} {l:List Oper} {K:St→Prop} {v:Value} {h':AA} (hw:DC ops s.T o=true) (hs:AL P call s.T s.h o.op=some (v,h')) (h:WL P call ops l ⟨s.T.put o.dst v,h'⟩ K):WL P call ops (o :: l) s K:=by
 obtain⟨s',h1,h2⟩:=h
 refine⟨s',?_,h2⟩
 simp only[JB,E5,hw,if_true,hs,h1]
theorem WL.pass {ops:Array Oper} {o:Oper} {l:List Oper} {K:St→Prop} (hw:DC ops s.T o=false) (h:WL P call ops l ⟨s.T.put o.dst undef,s.h⟩ K):WL P call ops (o :: l) s K:=by
 obtain⟨s',h1,h2⟩:=h
 refine⟨s',?_,h2⟩
 simp[JB,E5,hw,h1]
theorem bX {f:FuncId} {args:List Value} {h:AA} {fn:Func} {c:Code} (hf:P.funcs[f]?=some fn) (hb:fn.body=some c) (hl:args.length≤fn.ntmps) {R:Value→AA→Prop}
  (hw:WS P call n c ⟨HX 0 args .leaf,h⟩ (fun e s=>(e=.normal∨e=.ret)∧∃ vs,FH P s fn.results.toList=some vs∧R (HV vs) s.h)):∃ v h',A8 P call n f args h=some (v,h')∧R v h':=by
 obtain⟨e,s,h1,he,vs,h2,h3⟩:=hw
 refine⟨_,_,?_,h3⟩
 have hm:(match some vs with
     | some [v]=>some (v,s.h)
     | some vs=>some (.tuple vs.toArray,s.h)
     | none=>none)=some (HV vs,s.h):=by
  match vs with
  | []=>rfl
  | [u]=>rfl
  | u :: u' :: us=>rfl
 rcases he with rfl | rfl <;> (simp only[A8,hf,hb,hl,if_true,h1,h2];exact hm)
end
section
variable {P:Program} {t:TypeId} {x y:Operand} {k:IntKind} {a b:Int}
theorem XA:BR P .lss t x y (.int k a) (.int k b)=some (.bool (decide (a<b))):=by simp[BR,flat,BI,AZ,Go.eqGuard,Go.binOp,Op.intCmp,Bind.bind,Sem.bind,Pure.pure]
theorem S6:BR P .leq t x y (.int k a) (.int k b)=some (.bool (decide (a≤b))):=by simp[BR,flat,BI,AZ,Go.eqGuard,Go.binOp,Op.intCmp,Bind.bind,Sem.bind,Pure.pure]
theorem TH:BR P .gtr t x y (.int k a) (.int k b)=some (.bool (decide (a>b))):=by simp[BR,flat,BI,AZ,Go.eqGuard,Go.binOp,Op.intCmp,Bind.bind,Sem.bind,Pure.pure]
theorem VJ:BR P .geq t x y (.int k a) (.int k b)=some (.bool (decide (a≥b))):=by simp[BR,flat,BI,AZ,Go.eqGuard,Go.binOp,Op.intCmp,Bind.bind,Sem.bind,Pure.pure]
theorem PT:BR P .eql t x y (.int k a) (.int k b)=some (.bool (a==b)):=by simp[BR,flat,BI,AZ,Go.eqGuard,Go.binOp,Op.intCmp,Bind.bind,Sem.bind,Pure.pure]
theorem QM:BR P .neq t x y (.int k a) (.int k b)=some (.bool (a != b)):=by simp[BR,flat,BI,AZ,Go.eqGuard,Go.binOp,Op.intCmp,Bind.bind,Sem.bind,Pure.pure]
theorem U2:BR P .add t x y (.int k a) (.int k b)=some (.int k (k.wrap (a+b))):=by simp[BR,flat,BI,AZ,Go.eqGuard,Go.binOp,Op.intArith,Bind.bind,Sem.bind,Pure.pure]
theorem XE:BR P .sub t x y (.int k a) (.int k b)=some (.int k (k.wrap (a-b))):=by simp[BR,flat,BI,AZ,Go.eqGuard,Go.binOp,Op.intArith,Bind.bind,Sem.bind,Pure.pure]
theorem gM:BR P .mul t x y (.int k a) (.int k b)=some (.int k (k.wrap (a*b))):=by simp[BR,flat,BI,AZ,Go.eqGuard,Go.binOp,Op.intArith,Bind.bind,Sem.bind,Pure.pure]
theorem P7 (hb:b≠0):BR P .quo t x y (.int k a) (.int k b)=some (.int k (k.wrap (a.tdiv b))):=by simp[BR,flat,BI,AZ,Go.eqGuard,Go.binOp,Op.intDiv,Bind.bind,Sem.bind,Pure.pure,hb]
theorem VC (hb:b≠0):BR P .rem t x y (.int k a) (.int k b)=some (.int k (a.tmod b)):=by simp[BR,flat,BI,AZ,Go.eqGuard,Go.binOp,Op.intDiv,Bind.bind,Sem.bind,Pure.pure,hb]
end
def WO:Value→Value→Bool
 | .bool a,.bool b=>a==b
 | .int k a,.int k' b=>decide (k=k')&&decide (a=b)
 | .string a,.string b=>decide (a=b)
 | .pointer none,.pointer none=>true
 | .pointer (some a),.pointer (some b)=>decide (a=b)
 | .slice none n c,.slice none n' c'=>Nat.beq n n'&&Nat.beq c c'
 | .slice (some a) n c,.slice (some b) n' c'=>decide (a=b)&&Nat.beq n n'&&Nat.beq c c'
 | .map none,.map none=>true
 | .map (some a),.map (some b)=>Nat.beq a b
 | .nilFunc,.nilFunc=>true
 | .nilIface,.nilIface=>true
 | _,_=>false
theorem pP {a b:Value} (h:WO a b=true):a=b:=by
 unfold WO at h
 split at h <;> simp_all
def N6:List Value→List Value→Bool
 | [],[]=>true
 | a :: l,b :: m=>WO a b&&N6 l m
 | _,_=>false
theorem UZ:∀ {l m:List Value},N6 l m=true→l=m
 | [],[],_=>rfl
 | a :: l,b :: m,h=>by
  simp only[N6,Bool.and_eq_true] at h
  rw[pP h.1,UZ h.2]
 | [],_ :: _,h=>by simp[N6] at h
 | _ :: _,[],h=>by simp[N6] at h
def UV:Value→Value→Bool
 | .agg a,.agg b=>N6 a.toList b.toList
 | a,b=>WO a b
theorem eU {a b:Value} (h:UV a b=true):a=b:=by
 unfold UV at h
 split at h
 ·rw[Array.toList_inj.1 (UZ h)]
 ·exact pP h
def OM:List Value→List Value→Bool
 | [],[]=>true
 | a :: l,b :: m=>UV a b&&OM l m
 | _,_=>false
theorem TX:∀ {l m:List Value},OM l m=true→l=m
 | [],[],_=>rfl
 | a :: l,b :: m,h=>by
  simp only[OM,Bool.and_eq_true] at h
  rw[eU h.1,TX h.2]
 | [],_ :: _,h=>by simp[OM] at h
 | _ :: _,[],h=>by simp[OM] at h
def QS:Value→Value→Bool
 | .tuple a,.tuple b=>OM a.toList b.toList
 | a,b=>UV a b
theorem W_ {a b:Value} (h:QS a b=true):a=b:=by
 unfold QS at h
 split at h
 ·rw[Array.toList_inj.1 (TX h)]
 ·exact eU h
def V4:A9→A9→Bool
 | _,.dead=>true
 | .row cs ty g ro,.row cs' ty' g' ro'=>N6 cs cs'&&(ro'||(Nat.beq ty ty'&&(g==g')&&(ro==ro')))
 | _,_=>false
theorem kS {P:Program} {ρ:BA} {W:World} {i:Nat} {o o':A9} (h:V4 o o'=true) (ho:FG P ρ W i o):FG P ρ W i o':=by
 unfold V4 at h
 split at h
 ·trivial
 ·simp only[Bool.and_eq_true,Bool.or_eq_true] at h
  obtain⟨h1,h2⟩:=h
  obtain rfl:=UZ h1
  obtain⟨L,CS,ty2,fr,e1,e2,e3,e4⟩:=ho
  rcases h2 with rfl | h2
  ·exact⟨L,CS,ty2,fr,e1,e2,e3,fun h=>by cases h⟩
  ·simp only[Bool.and_eq_true,beq_iff_eq] at h2
   obtain⟨⟨h3,rfl⟩,rfl⟩:=h2
   obtain rfl:=Nat.eq_of_beq_eq_true h3
   exact⟨L,CS,ty2,fr,e1,e2,e3,e4⟩
 ·cases h
def ZP:A9→A9→Bool
 | _,.dead=>true
 | .row cs ty g ro,.row cs' ty' g' ro'=>N6 cs cs'&&Nat.beq ty ty'&&(g==g')&&(ro==ro')
 | _,_=>false
theorem tC {o o':A9} (h:ZP o o'=true):o'=.dead∨o'=o:=by
 unfold ZP at h
 split at h
 ·exact .inl rfl
 ·simp only[Bool.and_eq_true,beq_iff_eq] at h
  obtain⟨⟨⟨h1,h2⟩,rfl⟩,rfl⟩:=h
  obtain rfl:=UZ h1
  obtain rfl:=Nat.eq_of_beq_eq_true h2
  exact .inr rfl
 ·cases h
def KG (n:Nat):Value→Bool
 | .pointer (some a)=>decide (a.block<n)
 | .slice (some a) _ _=>decide (a.block<n)
 | .map (some i)=>decide (i<n)
 | v=>BI v
def below (n:Nat):Value→Bool
 | .agg cs=>cs.toList.all (KG n)
 | v=>KG n v
theorem aZ {ρ:BA} {n:Nat} {v V:Value} (hb:KG n v=true) (h:AI ρ v V):AI (BV ρ n) v V:=by
 cases h with
 | flat hf=>exact .flat hf
 | ptr hL=>
  simp only[KG,decide_eq_true_eq] at hb
  exact .ptr (by rw[G_ hb];exact hL)
 | slice hL hc=>
  simp only[KG,decide_eq_true_eq] at hb
  exact .slice (by rw[G_ hb];exact hL) hc
 | sliceU hL h1 h2=>
  simp only[KG,decide_eq_true_eq] at hb
  exact .sliceU (by rw[G_ hb];exact hL) h1 h2
 | map hL=>
  simp only[KG,decide_eq_true_eq] at hb
  exact .map (by rw[G_ hb];exact hL)
 | func _ _=>simp[KG,BI] at hb
 | iface _=>simp[KG,BI] at hb
 | agg _=>simp[KG,BI] at hb
 | tuple _=>simp[KG,BI] at hb
theorem qX {ρ:BA} {n:Nat} {l m:List Value} (h:AY (AI ρ) l m) (hb:l.all (KG n)=true):AY (AI (BV ρ n)) l m:=by
 induction h with
 | nil=>exact .nil
 | cons h _ ih=>
  simp only[List.all_cons,Bool.and_eq_true] at hb
  exact .cons (aZ hb.1 h) (ih hb.2)
theorem Aw {ρ:BA} {n:Nat} {v V:Value} (hb:below n v=true) (h:AI ρ v V):AI (BV ρ n) v V:=by
 cases h with
 | agg h=>exact .agg (qX h hb)
 | flat hf=>exact .flat hf
 | _=>first | (refine aZ hb ?_;first | (exact .ptr ‹_›) | (exact .slice ‹_› ‹_›) | (exact .sliceU ‹_› ‹_› ‹_›) | (exact .map ‹_›) | (exact .func ‹_› ‹_›) | (exact .iface ‹_›) | (exact .tuple ‹_›))
theorem wW {ρ:BA} {n:Nat} {l m:List Value} (h:AY (AI ρ) l m) (hb:l.all (below n)=true):AY (AI (BV ρ n)) l m:=by
 induction h with
 | nil=>exact .nil
 | cons h _ ih=>
  simp only[List.all_cons,Bool.and_eq_true] at hb
  exact .cons (Aw hb.1 h) (ih hb.2)
def bs (l:List Nat):ByteArray:=⟨(l.map UInt8.ofNat).toArray⟩
structure IV where
 f:FuncId
 args:List Value
 next:Nat
 need:List (Nat × A9)
 v:Value
 outs:List A9
noncomputable def SU (t:DO):List (Nat × A9)→DO
 | []=>t
 | (i,o) :: l=>SU (t.set i o) l
noncomputable def IV.hs (e:IV):AA:=⟨e.next,0,SU .leaf e.need⟩
noncomputable def KL (h:AA):List A9→AA
 | []=>h
 | o :: l=>KL (h.push o) l
theorem Fa:∀ (l:List (Nat × A9)) (t:DO) (i:Nat),(SU t l).get i=t.get i∨∃ o,(i,o)∈l∧(SU t l).get i=o:=by
 intro l
 induction l with
 | nil=>intro t i;exact .inl rfl
 | cons x l ih=>
  obtain⟨k,o⟩:=x
  intro t i
  simp only[SU]
  rcases ih (t.set k o) i with h | ⟨o',h1,h2⟩
  ·rw[DO.get_set] at h
   by_cases e:i=k
   ·rw[if_pos e] at h
    exact .inr ⟨o,by rw[e];simp,h⟩
   ·rw[if_neg e] at h
    exact .inl h
  ·exact .inr ⟨o',by simp[h1],h2⟩
theorem IV.hs_get (e:IV) (i:Nat):e.hs.get i=.dead∨(i<e.next∧∃ o,(i,o)∈e.need∧e.hs.get i=o):=by
 unfold AA.get IV.hs
 simp only
 split
 ·rename_i hi
  rcases Fa e.need .leaf i with h | ⟨o,h1,h2⟩
  ·exact .inl (h.trans rfl)
  ·exact .inr ⟨hi,o,h1,h2⟩
 ·exact .inl rfl
theorem cM:∀ (l:List A9) (h:AA),(KL h l).next=h.next+l.length∧(KL h l).floor=h.floor:=by
 intro l
 induction l with
 | nil=>intro h;exact⟨rfl,rfl⟩
 | cons o l ih=>
  intro h
  simp only[KL]
  obtain⟨h1,h2⟩:=ih (h.push o)
  refine⟨by rw[h1];simp[AA.push];omega,by rw[h2];rfl⟩
theorem Y2:∀ (l:List A9) (h:AA) (i:Nat),(KL h l).get i=if i<h.next then h.get i else l.getD (i-h.next) .dead:=by
 intro l
 induction l with
 | nil=>
  intro h i
  simp only[KL]
  split
  ·rfl
  ·rw[IT (by omega)];rfl
 | cons o l ih=>
  intro h i
  simp only[KL]
  rw[ih]
  have hn:(h.push o).next=h.next+1:=rfl
  rw[hn]
  by_cases h1:i<h.next
  ·rw[if_pos (by omega),if_pos h1,AR h1]
  ·rw[if_neg h1]
   by_cases h2:i=h.next
   ·subst h2
    rw[if_pos (by omega),BM]
    simp
   ·rw[if_neg (by omega)]
    have:i-h.next=(i-(h.next+1))+1:=by omega
    rw[this]
    rfl
def TQ:A9→Bool
 | .row _ _ _ ro=>ro
 | _=>false
noncomputable def UN (h:AA) (i:Nat):List A9→Bool
 | []=>true
 | o :: l=>ZP (h.get i) o&&UN h (i+1) l
theorem zO {h:AA}:∀ {l:List A9} {i k:Nat},UN h i l=true→l.getD k .dead=.dead∨h.get (i+k)=l.getD k .dead:=by
 intro l
 induction l with
 | nil=>intro i k _;exact .inl (by simp)
 | cons o l ih=>
  intro i k hk
  simp only[UN,Bool.and_eq_true] at hk
  cases k with
  | zero=>
   rcases tC hk.1 with h | h
   ·exact .inl (by simpa using h)
   ·exact .inr (by simpa using h.symm)
  | succ k=>
   rcases ih (k:=k) hk.2 with h | h
   ·exact .inl (by simpa using h)
   ·exact .inr (by rw[← Nat.add_assoc,Nat.add_right_comm];simpa using h)
noncomputable def PC (h:AA):List (Nat × A9)→Bool
 | []=>true
 | (i,o) :: l=>V4 (h.get i) o&&PC h l
theorem oY {h:AA}:∀ {l:List (Nat × A9)} {i:Nat} {o:A9},PC h l=true→(i,o)∈l→V4 (h.get i) o=true:=by
 intro l
 induction l with
 | nil=>intro i o _ h;cases h
 | cons x l ih=>
  obtain⟨k,o'⟩:=x
  intro i o hl hm
  simp only[PC,Bool.and_eq_true] at hl
  rcases List.mem_cons.1 hm with h | h
  ·cases h;exact hl.1
  ·exact ih hl.2 h
noncomputable def IV.ok (call:AM) (e:IV):Bool:=
 (e.need.all fun x=>TQ x.2)&&(match call e.f e.args e.hs with
  | some (v,h)=>QS v e.v&&Nat.beq h.next (e.next+e.outs.length)&&UN h e.next e.outs
  | none=>false)
noncomputable def QK (e:IV):AM:=fun f args h=>
 match Nat.beq f e.f with
 | true=>if OM args e.args&&Nat.beq h.next e.next&&PC h e.need then some (e.v,KL h e.outs) else none
 | false=>none
noncomputable def IV.okF (P:Program) (call:AM) (e:IV):Bool:=
 (e.need.all fun x=>TQ x.2&&(match x.2 with | .row cs _ _ _=>cs.all (KG e.next) | _=>false))&&e.args.all (below e.next)&&flat e.v&&decide (P.globals.size≤e.next)&&(match call e.f e.args e.hs with
  | some (v,h)=>QS v e.v
  | none=>false)
noncomputable def SO (e:IV):AM:=fun f args h=>
 match Nat.beq f e.f with
 | true=>if OM args e.args&&Nat.ble e.next h.next&&PC h e.need then some (e.v,h) else none
 | false=>none
noncomputable def F2 (a b:AM):AM:=fun f args h=>match a f args h with
 | some r=>some r
 | none=>b f args h
def ND:AM:=fun _ _ _=>none
theorem uM {P:Program}:CR P ND∧B8 ND:=⟨fun _ _ _ _ _ h=>by simp[ND] at h,fun _ _ _ _ _ h=>by simp[ND] at h⟩
theorem RN {P:Program} {a b:AM} (ha:CR P a∧B8 a) (hb:CR P b∧B8 b):CR P (F2 a b)∧B8 (F2 a b):=by
 refine⟨fun f args h v h' hs=>?_,fun f args h v h' hs=>?_⟩
 ·unfold F2 at hs
  split at hs
  ·rename_i r hr;cases hs;exact ha.1 _ _ _ _ _ hr
  ·exact hb.1 _ _ _ _ _ hs
 ·unfold F2 at hs
  split at hs
  ·rename_i r hr;cases hs;exact ha.2 _ _ _ _ _ hr
  ·exact hb.2 _ _ _ _ _ hs
theorem Gd {P:Program} {call:AM} (hc:CR P call) {e:IV} (he:e.ok call=true):CR P (QK e)∧B8 (QK e):=by
 have key:∀ f args h v h',QK e f args h=some (v,h')→f=e.f∧args=e.args∧h.next=e.next∧PC h e.need=true∧v=e.v∧h'=KL h e.outs:=by
  intro f args h v h' hs
  unfold QK at hs
  split at hs
  ·rename_i hf
   split at hs
   ·rename_i hh
    simp only[Bool.and_eq_true] at hh
    cases hs
    exact⟨Nat.eq_of_beq_eq_true hf,TX hh.1.1,Nat.eq_of_beq_eq_true hh.1.2,hh.2,rfl,rfl⟩
   ·cases hs
  ·cases hs
 refine⟨fun f args h v h' hs=>?_,fun f args h v h' hs=>?_⟩
 ·obtain⟨rfl,rfl,hnx,hneed,rfl,rfl⟩:=key f args h v h' hs
  unfold IV.ok at he
  simp only[Bool.and_eq_true] at he
  obtain⟨hro,he⟩:=he
  split at he
  ·rename_i v0 h0 hcall
   simp only[Bool.and_eq_true] at he
   obtain⟨⟨h1,h2⟩,h3⟩:=he
   obtain rfl:=W_ h1
   have h2:=Nat.eq_of_beq_eq_true h2
   obtain⟨hfn,hc2⟩:=hc _ _ _ _ _ hcall
   refine⟨hfn,fun ρ W ARGS hR hargs=>?_⟩
   have hnw:∀ i,¬ wr (e.hs.get i):=fun i hw=>by
    rcases e.hs_get i with h4 | ⟨_,o,h4,h5⟩
    ·rw[h4] at hw;exact hw
    ·have:=List.all_eq_true.1 hro _ h4
     rw[h5] at hw
     cases o <;> simp_all [TQ,wr]
   have hR0:BP P ρ e.hs W:=by
    refine⟨rfl,fun i hi=>hR.dom i (by rw[hnx];exact hi),hR.glob,fun i=>?_,fun i j L L' hw=>absurd hw (hnw i)⟩
    rcases e.hs_get i with h4 | ⟨_,o,h4,h5⟩
    ·rw[h4];trivial
    ·rw[h5];exact kS (oY hneed h4) (hR.obj i)
   refine(hc2 ρ W ARGS hR0 hargs).mono fun e' W' ⟨V,ρ',he',hN,hv⟩=>⟨V,ρ',he',?_,hv⟩
   have hg:=hN.fr.gr hnw
   have hsn:e.hs.next=h.next:=hnx.symm
   obtain⟨p1,p2⟩:=cM e.outs h
   have old:∀ i,i<h.next→(KL h e.outs).get i=h.get i:=fun i hi=>by rw[Y2,if_pos hi]
   have new:∀ i,h.next≤i→(KL h e.outs).get i=.dead∨(KL h e.outs).get i=h0.get i:=fun i hi=>by
    rw[Y2,if_neg (by omega)]
    rcases zO (k:=i-h.next) h3 with h4 | h4
    ·exact .inl h4
    ·right
     rw[← h4]
     congr 1
     omega
   have hown:∀ i L,h.next≤i→live ((KL h e.outs).get i)→ρ' i=some L→W.heap.size≤L.b:=fun i L hi hl hL=>by
    rcases new i hi with h4 | h4
    ·rw[h4] at hl;exact hl.elim
    ·rw[h4] at hl
     rcases hN.own i L (by rw[hsn];exact hi) hl hL with h5 | ⟨j,_,hw,_⟩
     ·exact h5
     ·exact absurd hw (hnw j)
   have hold:∀ i L,i<h.next→live (h.get i)→ρ' i=some L→L.b<W.heap.size:=fun i L hi hl hL=>by
    obtain⟨L0,h4,h5⟩:=(hR.obj i).at_ hl
    rw[hN.old i (by rw[hsn];exact hi),h4] at hL
    cases hL
    exact h5
   refine⟨hN.ext,fun i hi=>hN.old i (by rw[hsn];exact hi),⟨rfl,fun i hi=>hN.rel.dom i (by rw[h2,← hnx,← p1];exact hi),hN.rel.glob,fun i=>?_,fun i j L L' hw hl hne hL hL'=>?_⟩,
    ⟨hg.os,hg.tape,hg.output,hg.size,fun b hb _=>hg.blk b hb⟩,by rw[p1];omega,p2,fun i hi _=>old i hi,fun i hi hw=>by rw[old i hi] at hw;exact hw,fun i hi hw=>by rw[old i hi] at hw;exact hw,
    fun i L hi hl hL=>.inl (hown i L hi hl hL)⟩
   ·rcases Nat.lt_or_ge i h.next with hi | hi
    ·rw[old i hi]
     exact((hR.obj i).grow hg).mono hN.ext (fun _ _ _=>rfl)
    ·rcases new i hi with h4 | h4
     ·rw[h4];trivial
     ·rw[h4];exact hN.rel.obj i
   ·rcases Nat.lt_or_ge i h.next with hi | hi <;> rcases Nat.lt_or_ge j h.next with hj | hj
    ·rw[old i hi] at hw
     rw[old j hj] at hl
     rw[hN.old i (by rw[hsn];exact hi)] at hL
     rw[hN.old j (by rw[hsn];exact hj)] at hL'
     exact hR.inj i j L L' hw hl hne hL hL'
    ·have e1:=hown j L' hj hl hL'
     rw[old i hi] at hw
     have e2:=hold i L hi hw.live hL
     omega
    ·have e1:=hown i L hi hw.live hL
     rw[old j hj] at hl
     have e2:=hold j L' hj hl hL'
     omega
    ·rcases new i hi with h4 | h4
     ·rw[h4] at hw;exact hw.elim
     ·rcases new j hj with h5 | h5
      ·rw[h5] at hl;exact hl.elim
      ·rw[h4] at hw;rw[h5] at hl
       exact hN.rel.inj i j L L' hw hl hne hL hL'
  ·cases he
 ·obtain⟨rfl,rfl,hnx,hneed,rfl,rfl⟩:=key f args h v h' hs
  obtain⟨p1,p2⟩:=cM e.outs h
  exact⟨by rw[p1];omega,p2,fun i hi _=>by rw[Y2,if_pos hi]⟩
theorem Dd {P:Program} {call:AM} (hc:CR P call) {e:IV} (he:e.okF P call=true):CR P (SO e)∧B8 (SO e):=by
 have key:∀ f args h v h',SO e f args h=some (v,h')→f=e.f∧args=e.args∧e.next≤h.next∧PC h e.need=true∧v=e.v∧h'=h:=by
  intro f args h v h' hs
  unfold SO at hs
  split at hs
  ·rename_i hf
   split at hs
   ·rename_i hh
    simp only[Bool.and_eq_true] at hh
    cases hs
    exact⟨Nat.eq_of_beq_eq_true hf,TX hh.1.1,Nat.le_of_ble_eq_true hh.1.2,hh.2,rfl,rfl⟩
   ·cases hs
  ·cases hs
 refine⟨fun f args h v h' hs=>?_,fun f args h v h' hs=>?_⟩
 ·obtain⟨rfl,rfl,hnx,hneed,rfl,rfl⟩:=key f args h v h' hs
  unfold IV.okF at he
  simp only[Bool.and_eq_true,decide_eq_true_eq] at he
  obtain⟨⟨⟨⟨hro,hargB⟩,hflat⟩,hgl⟩,he⟩:=he
  split at he
  ·rename_i v0 h0 hcall
   obtain rfl:=W_ he
   obtain⟨hfn,hc2⟩:=hc _ _ _ _ _ hcall
   refine⟨hfn,fun ρ W ARGS hR hargs=>?_⟩
   have hnw:∀ i,¬ wr (e.hs.get i):=fun i hw=>by
    rcases e.hs_get i with h4 | ⟨_,o,h4,h5⟩
    ·rw[h4] at hw;exact hw
    ·have:=List.all_eq_true.1 hro _ h4
     simp only[Bool.and_eq_true] at this
     have:=this.1
     rw[h5] at hw
     cases o <;> simp_all [TQ,wr]
   have hR0:BP P (BV ρ e.next) e.hs W:=by
    refine⟨rfl,fun i hi=>?_,fun g hg=>?_,fun i=>?_,fun i j L L' hw=>absurd hw (hnw i)⟩
    ·unfold BV
     have:e.next≤i:=hi
     rw[if_neg (by omega)]
    ·rw[G_ (by omega)];exact hR.glob g hg
    ·rcases e.hs_get i with h4 | ⟨hi,o,h4,h5⟩
     ·rw[h4];trivial
     ·rw[h5]
      have h6:=kS (oY hneed h4) (hR.obj i)
      have h7:=List.all_eq_true.1 hro _ h4
      simp only[Bool.and_eq_true] at h7
      cases o with
      | dead=>trivial
      | map es=>simp[TQ] at h7
      | row cs ty g ro=>
       obtain⟨L,CS,ty',fr,e1,e2,e3,e4⟩:=h6
       refine⟨L,CS,ty',fr,by rw[G_ hi];exact e1,e2,fun k v hv=>?_,e4⟩
       obtain⟨V,hV,hr⟩:=e3 k v hv
       exact⟨V,hV,aZ (List.all_eq_true.1 h7.2 v (List.mem_of_getElem? hv)) hr⟩
   refine(hc2 _ W ARGS hR0 (wW hargs hargB)).mono fun e' W' ⟨V,ρ',he',hN,hv⟩=>⟨V,ρ,he',(Nx.refl hR).grow (hN.fr.gr hnw),?_⟩
   rw[MO hflat hv]
   exact I2 hflat
  ·cases he
 ·obtain⟨rfl,rfl,hnx,hneed,rfl,rfl⟩:=key f args h v h' hs
  exact .refl _
end Go.Sx
namespace Go.Sx
open Go
set_option linter.unusedSimpArgs false
set_option linter.unusedVariables false
theorem AI.back {ρ ρ':BA} (hx:∀ i L,ρ i=some L→ρ' i=some L) {v V0:Value} (h0:AI ρ v V0):∀ V,AI ρ' v V→AI ρ v V:=by
 refine AI.rec (motive_1:=fun v V0 _=>∀ V,AI ρ' v V→AI ρ v V) (motive_2:=fun l m _=>∀ n,AY (AI ρ') l n→AY (AI ρ) l n) ?_ ?_ ?_ ?_ ?_ ?_ ?_ ?_ ?_ ?_ ?_ h0
 ·intro v hv V h;rw[H9 hv h];exact .flat hv
 ·intro id off L hL V h
  cases h with
  | flat hv=>exact .flat hv
  | ptr h=>rw[hx _ _ hL] at h;cases h;exact .ptr hL
 ·intro id off L n c hL hc V h
  cases h with
  | flat hv=>exact .flat hv
  | slice h hc=>rw[hx _ _ hL] at h;cases h;exact .slice hL hc
  | sliceU h hn ha=>rw[hx _ _ hL] at h;cases h;exact .sliceU hL hn ha
 ·intro id off L n c a hL hn ha V h
  cases h with
  | flat hv=>exact .flat hv
  | slice h hc=>rw[hx _ _ hL] at h;cases h;exact .slice hL hc
  | sliceU h hn ha=>rw[hx _ _ hL] at h;cases h;exact .sliceU hL hn ha
 ·intro id L hL V h
  cases h with
  | flat hv=>exact .flat hv
  | map h=>rw[hx _ _ hL] at h;cases h;exact .map hL
 ·intro fn f f' c c' _ _ h1 h2 V h
  cases h with
  | flat hv=>exact .flat hv
  | func a b=>exact .func (h1 _ a) (h2 _ b)
 ·intro t v v' _ h1 V h
  cases h with
  | flat hv=>exact .flat hv
  | iface a=>exact .iface (h1 _ a)
 ·intro cs cs' _ h1 V h
  cases h with
  | flat hv=>exact .flat hv
  | agg a=>exact .agg (h1 _ a)
 ·intro cs cs' _ h1 V h
  cases h with
  | flat hv=>exact .flat hv
  | tuple a=>exact .tuple (h1 _ a)
 ·intro n h;cases h;exact .nil
 ·intro a b l m _ _ h1 h2 n h
  cases h with
  | cons x y=>exact .cons (h1 _ x) (h2 _ y)
theorem FG.back {P:Program} {ρ ρ':BA} {W W':World} {i:Nat} {o:A9} (hx:∀ i L,ρ i=some L→ρ' i=some L) (h0:FG P ρ W i o) (h:FG P ρ' W' i o):FG P ρ W' i o:=by
 cases o with
 | dead=>trivial
 | row cs ty g ro=>
  obtain⟨L0,CS0,t0,f0,k1,k2,k3,k4⟩:=h0
  obtain⟨L,CS,t,f,l1,l2,l3,l4⟩:=h
  have e:L=L0:=by rw[hx _ _ k1] at l1;exact(Option.some.inj l1).symm
  subst e
  refine⟨L,CS,t,f,k1,l2,fun k v hv=>?_,l4⟩
  obtain⟨V0,_,hV0⟩:=k3 k v hv
  obtain⟨V,hV1,hV2⟩:=l3 k v hv
  exact⟨V,hV1,hV0.back hx _ hV2⟩
 | map es=>
  obtain⟨L0,ES0,c0,k1,k2,k3⟩:=h0
  obtain⟨L,ES,c,l1,l2,l3⟩:=h
  have e:L=L0:=by rw[hx _ _ k1] at l1;exact(Option.some.inj l1).symm
  subst e
  refine⟨L,ES,c,k1,l2,?_⟩
  have key:∀ {es:List (Value × Value)} {A B:List MapEntry},AY (fun (e:Value × Value) (E:MapEntry)=>AI ρ e.1 E.key∧AI ρ e.2 E.val) es A→AY (fun (e:Value × Value) (E:MapEntry)=>AI ρ' e.1 E.key∧AI ρ' e.2 E.val) es B→AY (fun (e:Value × Value) (E:MapEntry)=>AI ρ e.1 E.key∧AI ρ e.2 E.val) es B:=by
   intro es A B h1
   induction h1 generalizing B with
   | nil=>intro h2;cases h2;exact .nil
   | cons a _ ih=>
    intro h2
    cases h2 with
    | cons b c=>exact .cons ⟨a.1.back hx _ b.1,a.2.back hx _ b.2⟩ (ih c)
  exact key k3 l3
def EF:Value→Bool
 | .tuple cs=>cs.all flat
 | v=>flat v
theorem mW {ρ:BA} {v V:Value} (hf:EF v=true) (h:AI ρ v V):V=v:=by
 unfold EF at hf
 split at hf
 ·rename_i cs
  cases h with
  | flat hv=>rfl
  | tuple h=>
   rename_i cs'
   have:∀ {l m:List Value},AY (AI ρ) l m→l.all flat=true→m=l:=by
    intro l m h
    induction h with
    | nil=>intro _;rfl
    | cons a _ ih=>
     intro hl
     simp only[List.all_cons,Bool.and_eq_true] at hl
     rw[MO hl.1 a,ih hl.2]
   have:=this h (by simpa using hf)
   congr 1
   exact Array.toList_inj.1 this
 ·exact MO hf h
theorem eN {ρ:BA} {v:Value} (hf:EF v=true):AI ρ v v:=by
 unfold EF at hf
 split at hf
 ·rename_i cs
  refine .tuple (AY.same fun a ha=>I2 ?_)
  have:cs.toList.all flat=true:=by simpa using hf
  exact List.all_eq_true.1 this a ha
 ·exact I2 hf
open Classical in
noncomputable def NB (call:AM):AM:=fun f args h=>match call f args h with
 | some (v,h1)=>if EF v=true∧∀ i,i<h.next→h1.get i=h.get i then some (v,h) else none
 | none=>none
theorem nZ {call:AM} {f:FuncId} {args:List Value} {h h':AA} {v:Value} (hs:NB call f args h=some (v,h')) :
  (∃ h1,call f args h=some (v,h1)∧∀ i,i<h.next→h1.get i=h.get i)∧EF v=true∧h'=h:=by
 unfold NB at hs
 split at hs
 ·rename_i v' h1 he
  split at hs
  ·rename_i hc
   cases hs
   exact⟨⟨h1,he,hc.2⟩,hc.1,rfl⟩
  ·cases hs
 ·cases hs
theorem Y6 {call:AM} {f:FuncId} {args:List Value} {h h1:AA} {v:Value} (hc:call f args h=some (v,h1)) (hv:EF v=true) (hk:∀ i,i<h.next→h1.get i=h.get i):NB call f args h=some (v,h):=by
 unfold NB
 rw[hc]
 simp only
 rw[if_pos ⟨hv,hk⟩]
theorem YB {P:Program} {call:AM} (hc:CR P call):CR P (NB call)∧B8 (NB call):=by
 refine⟨fun f args h v h' hs=>?_,fun f args h v h' hs=>?_⟩
 ·obtain⟨⟨h1,he,hk⟩,hv,rfl⟩:=nZ hs
  obtain⟨hfn,hc2⟩:=hc _ _ _ _ _ he
  refine⟨hfn,fun ρ W ARGS hR hargs=>(hc2 ρ W ARGS hR hargs).mono fun e W' ⟨V,ρ',he',hN,hv'⟩=>?_⟩
  rw[mW hv hv'] at he'
  refine⟨v,ρ,he',?_,eN hv⟩
  refine⟨fun _ _ h=>h,fun _ _=>rfl,⟨hR.len,hR.dom,hR.glob,fun i=>?_,hR.inj⟩,hN.fr,Nat.le_refl _,rfl,fun _ _ _=>rfl,fun _ _ h=>h,fun _ _ h=>h,fun i L hi hw _=>by rw[IT hi] at hw;exact hw.elim⟩
  rcases Nat.lt_or_ge i h'.next with hi | hi
  ·have h2:=hN.rel.obj i
   rw[hk i hi] at h2
   exact(hR.obj i).back hN.ext h2
  ·rw[IT hi];trivial
 ·obtain⟨_,_,rfl⟩:=nZ hs
  exact .refl _
end Go.Sx
namespace Go.Proofs.YtdejoodfeljmkaaDoor
open Go Go.Sx
noncomputable def KJ (fs:List FuncId) (call:AM):AM:=fun f args h=>if fs.contains f then call f args h else none
theorem bP {P:Program} {fs:List FuncId} {call:AM} (hc:CR P call∧B8 call):CR P (KJ fs call)∧B8 (KJ fs call):=by
 refine⟨fun f args h v h' hs=>?_,fun f args h v h' hs=>?_⟩
 ·unfold KJ at hs
  split at hs
  ·exact hc.1 _ _ _ _ _ hs
  ·cases hs
 ·unfold KJ at hs
  split at hs
  ·exact hc.2 _ _ _ _ _ hs
  ·cases hs
noncomputable def MH (fs:List FuncId) (base:AM) (k:Nat):AM:=F2 base (KJ fs (NB (A8 Tryd.prog (FL Tryd.prog base k) k)))
section
variable {fs:List FuncId} {k m:Nat} {base:AM} {f:FuncId} {args:List Value} {h h1:AA} {v:Value} {r:Value × AA}
theorem ZD (hb:CR Tryd.prog base∧B8 base):CR Tryd.prog (MH fs base k)∧B8 (MH fs base k):=
 RN hb (bP (YB (Q9 IU (MV IU hb.1 hb.2 k).1 (MV IU hb.1 hb.2 k).2 k).1))
theorem R5 {a b:AM} (hb:a f args h=some r):F2 a b f args h=some r:=by unfold F2;rw[hb]
theorem NG (hb:base f args h=some r):MH fs base k f args h=some r:=R5 hb
theorem OC (hb:base f args h=none) (hf:fs.contains f=false):MH fs base k f args h=none:=by unfold MH F2 KJ;rw[hb,hf];rfl
theorem HK {n:Nat} (hb:base f args h=some r):FL Tryd.prog base (n+1) f args h=some r:=by
 unfold FL
 rw[hb]
theorem VG {n:Nat} (hb:base f args h=none):FL Tryd.prog base (n+1) f args h=A8 Tryd.prog (FL Tryd.prog base n) n f args h:=by
 rw[FL,hb]
theorem X9 (hb:base f args h=none) (hf:fs.contains f=true) (hv:EF v=true) (hw:∃ h1,A8 Tryd.prog (FL Tryd.prog base k) k f args h=some (v,h1)∧∀ i,i<h.next→h1.get i=h.get i) :
  MH fs base k f args h=some (v,h):=by
 obtain⟨h1,he,hk⟩:=hw
 have e:=Y6 he hv hk
 unfold MH F2 KJ
 rw[hb,hf,if_pos rfl,e]
end
end Go.Proofs.YtdejoodfeljmkaaDoor
namespace Go.Proofs.YtdejoodfeljmkaaDoor
open Go Go.Sx
set_option linter.unusedSimpArgs false
set_option linter.unusedVariables false
set_option maxHeartbeats 64000000
structure AB where
 kind:Int
 name:ByteArray
 ends:Int
 n:Int
 kids:Int
def BX (what kind:Int):Bool:=
 if what=8 then kind==1
 else if what=0 then decide (kind≥2)&&decide (kind≤7)
 else if what=1 then decide (kind≥8)&&decide (kind≤10)
 else if what=2 then kind==11
 else if what=3 then decide (kind≥11)&&decide (kind≤23)
 else if what=4 then kind==11||kind==12
 else if what=5 then kind==25||kind==26
 else if what=6 then kind==24
 else decide (kind≥27)&&decide (kind≤54)
theorem PK {what kind:Int} (h:BX what kind=true):1≤kind∧kind≤54:=by
 unfold BX at h
 (repeat' split at h) <;> simp at h <;> omega
def J3 (k:Int):Bool:=[1,2,3,4,5,7,8,9,14,15,16,17,19,20,21,22,24,26,28,31,32,35,36,37,38].contains k
def MC (k:Int):Bool:=[16,17,19,20,21,24,26].contains k
def Fsx (k:Int):Int:=
 if [4,13].contains k then 3 else if [5,6,7,8,9,10,14,19,38,41,42].contains k then 1 else if [12,15,39,40].contains k||decide (k≥43) then 2 else 0
def CM (k:Int):Int:=
 if [1,11].contains k then -1 else if [4,12,13].contains k then 3 else if [5,6,7,8,9,10,14,19,20,38,41,42].contains k then 1 else if [15,39,40].contains k||decide (k≥43) then 2 else 0
def BD (kind:Int) (kid:Nat):Int:=
 if kind=11 then 3 else if [7,8,9,10].contains kind then 2
 else if kind=12 then (if kid=0 then 7 else if kid=1 then 2 else 4)
 else if kind=13 then (if kid=2 then 2 else 7)
 else if kind=15 then (if kid=0 then 5 else 7)
 else if [19,20].contains kind then 6 else if kind=38 then 5 else 7
section
variable (isName:ByteArray→Bool)
def C8 (x:AB):Bool:=
 (isName x.name==J3 x.kind)&&(J3 x.kind||x.name==ByteArray.empty)&&(x.ends==0||MC x.kind&&x.ends==1)&&(x.n==0||x.kind==27&&decide (x.n>0)&&decide (x.n≤1073741824)) &&
  decide (x.kids≥Fsx x.kind)&&(decide (CM x.kind<0)||decide (x.kids≤CM x.kind))
def D2 (g:Nat→Nat→Nat × Bool):Nat→Nat→Nat→Nat × Bool
 | 0,_,next=>(next,true)
 | r+1,k,next=>if (g k next).2=true then D2 g r (k+1) (g k next).1 else ((g k next).1,false)
def BE (l:List AB):Nat→Nat→Int→Nat × Bool
 | 0,at_,_=>(at_,false)
 | m+1,at_,what=>match l[at_]? with
  | none=>(at_,false)
  | some x=>if (BX what x.kind&&C8 isName x)=true then D2 (fun k next=>BE l m next (BD x.kind k)) x.kids.toNat 0 (at_+1) else (at_,false)
def LW (x:Option AB):Bool:=match x with
 | some x=>BX 1 x.kind
 | none=>false
def F4 (ev:Bool) (x:Option AB):Int:=if (ev||LW x)=true then 1 else 0
def DN (l:List AB) (m:Nat):Nat→Bool→Nat→Nat × Bool
 | 0,_,next=>(next,true)
 | r+1,ev,next=>
  if (BE isName l m next (F4 ev l[next]?)).2=true then DN l m r (ev||LW l[next]?) (BE isName l m next (F4 ev l[next]?)).1
  else ((BE isName l m next (F4 ev l[next]?)).1,false)
def FE (l:List AB) (m:Nat):Nat × Bool:=match l[0]? with
 | none=>(0,false)
 | some x=>if (BX 8 x.kind&&C8 isName x)=true then DN isName l m x.kids.toNat false 1 else (0,false)
def IJ (l:List AB):Option Nat:=
 if (FE isName l (l.length+1)).2=true∧(FE isName l (l.length+1)).1=l.length then none else some (FE isName l (l.length+1)).1
variable {isName}
theorem rX {g:Nat→Nat→Nat × Bool} {b:Nat} (hg:∀ k p,p≤b→(g k p).2=true→p<(g k p).1∧(g k p).1≤b):∀ r k p,p≤b→(D2 g r k p).2=true→p+r≤(D2 g r k p).1∧(D2 g r k p).1≤b:=by
 intro r
 induction r with
 | zero=>intro k p hp _;exact⟨Nat.le_refl _,hp⟩
 | succ r ih=>
  intro k p hp h
  unfold D2 at h ⊢
  split at h
  ·rename_i hc
   rw[if_pos hc]
   have h1:=hg k p hp hc
   have h2:=ih (k+1) _ h1.2 h
   omega
  ·cases h
theorem Q8 {l:List AB}:∀ m at_ what,(BE isName l m at_ what).2=true→at_<(BE isName l m at_ what).1∧(BE isName l m at_ what).1≤l.length:=by
 intro m
 induction m with
 | zero=>intro at_ what h;cases h
 | succ m ih=>
  intro at_ what
  unfold BE
  cases hx:l[at_]? with
  | none=>intro h;cases h
  | some x=>
   simp only
   have hlt:at_<l.length:=(List.getElem?_eq_some_iff.1 hx).1
   split
   ·rename_i hc
    intro h
    have:=rX (b:=l.length) (fun k p _=>ih p (BD x.kind k)) x.kids.toNat 0 (at_+1) hlt h
    omega
   ·intro h;cases h
theorem UG {g:Nat→Nat→Nat × Bool} (hg:∀ k p,p≤(g k p).1):∀ r k p,p≤(D2 g r k p).1:=by
 intro r
 induction r with
 | zero=>intro k p;exact Nat.le_refl _
 | succ r ih=>
  intro k p
  unfold D2
  split
  ·exact Nat.le_trans (hg k p) (ih _ _)
  ·exact hg k p
theorem PG {l:List AB}:∀ m at_ what,at_≤(BE isName l m at_ what).1:=by
 intro m
 induction m with
 | zero=>intro at_ what;exact Nat.le_refl _
 | succ m ih=>
  intro at_ what
  unfold BE
  split
  ·exact Nat.le_refl _
  ·split
   ·exact Nat.le_trans (Nat.le_succ _) (UG (fun k p=>ih p _) _ _ _)
   ·exact Nat.le_refl _
theorem V8 {k:Int} {j:Nat}:BD k j≠9∧BD k j≠8:=by
 unfold BD
 (repeat' split) <;> decide
theorem wD {g:Nat→Nat→Nat × Bool} {b:Nat} (hg:∀ k p,p≤b→(g k p).1≤b):∀ r k p,p≤b→(D2 g r k p).1≤b:=by
 intro r
 induction r with
 | zero=>intro k p hp;exact hp
 | succ r ih=>
  intro k p hp
  unfold D2
  split
  ·exact ih _ _ (hg k p hp)
  ·exact hg k p hp
theorem VQ {l:List AB}:∀ m at_ what,at_≤l.length→(BE isName l m at_ what).1≤l.length:=by
 intro m
 induction m with
 | zero=>intro at_ what h;exact h
 | succ m ih=>
  intro at_ what h
  unfold BE
  split
  ·exact h
  ·rename_i x hx
   have hlt:at_<l.length:=(List.getElem?_eq_some_iff.1 hx).1
   split
   ·exact wD (fun k p hp=>ih p _ hp) _ _ _ hlt
   ·exact h
theorem mO {l:List AB} {m:Nat}:∀ r ev p,p≤l.length→(DN isName l m r ev p).1≤l.length:=by
 intro r
 induction r with
 | zero=>intro ev p hp;exact hp
 | succ r ih=>
  intro ev p hp
  unfold DN
  split
  ·exact ih _ _ (VQ m p _ hp)
  ·exact VQ m p _ hp
end
end Go.Proofs.YtdejoodfeljmkaaDoor
namespace Go.Sx
open Go
set_option linter.unusedSimpArgs false
set_option linter.unusedVariables false
set_option maxHeartbeats 64000000
def M0:Value→Bool
 | .func (.func _) f c=>f.isEmpty&&c.isEmpty
 | v=>flat v
theorem rK {ρ ρ':BA} {v V:Value} (hp:M0 v=true) (h:AI ρ v V):AI ρ' v V:=by
 unfold M0 at hp
 split at hp
 ·rename_i k f c
  simp only[Bool.and_eq_true,Array.isEmpty_iff] at hp
  obtain⟨rfl,rfl⟩:=hp
  obtain⟨f',c',rfl,h1,h2⟩:=aG h
  have e1:f'=#[]:=by
   have:=h1.length
   simp at this
   exact Array.eq_empty_of_size_eq_zero this.symm
  have e2:c'=#[]:=by
   have:=h2.length
   simp at this
   exact Array.eq_empty_of_size_eq_zero this.symm
  subst e1
  subst e2
  exact .func .nil .nil
 ·rw[MO hp h]
  exact I2 hp
theorem oA {ρ ρ':BA} {l:List Value} {m:List Value} (hp:l.all M0=true) (h:AY (AI ρ) l m):AY (AI ρ') l m:=by
 induction h with
 | nil=>exact .nil
 | cons h _ ih=>
  simp only[List.all_cons,Bool.and_eq_true] at hp
  exact .cons (rK hp.1 h) (ih hp.2)
end Go.Sx
