/- Part 6 of what the claim leans on: 6 texts laid one behind another. -/
import Derived.Test.YtipekdhneagdbaaDoorCG5
import Derived.Below
import Derived.ChangeSame
import Derived.Lib.LaidTab
import Derived.ProofKit
namespace Go.Sx
open Go Go.RowKit Go.WideShapes Go.ChangeShapes
set_option linter.unusedSimpArgs false
set_option linter.unusedVariables false
set_option maxHeartbeats 64000000
section
variable {H:Type} {enc:TypeId × Value→H} {P:Program}
theorem Gd {f:Func} {s:ChangeSpec} {apart fresh handsOn again:Bool} {W W':World} {args:Array Value} {v:Value} {ds gs:List (DataW H)} {before pa pv:List MemPlace}
  (hW:DataW.Whole enc P f.params.toList s.vars apart W args.toList ds gs before)
  (hres:∀ (b:Nat) (sp:Nat→Bool) (hd:Bool),DataW.TrodAll enc P W' b sp hd f.resultTypes.toList (v.resultList f.resultTypes.size) (s.fn H (ds++gs)).results [])
  (hargs:∀ sp:Nat→Bool,(∀ p∈before,sp p.block=true)→DataW.TrodAll enc P W' 0 sp true f.params.toList args.toList (s.fn H (ds++gs)).args pa)
  (hvars:∀ sp:Nat→Bool,(∀ p∈before,sp p.block=true)→DataW.TrodVars enc P W' sp s.vars (s.fn H (ds++gs)).vars pv)
  (hps:before=pa++pv) (hb:Below W.heap.size W W')
  (hok:∀ (j:Nat) (t:TypeId) (r:Value),f.resultTypes[j]?=some t→(v.resultList f.resultTypes.size)[j]?=some r→Value.okWide P W' .any 0 t r) :
  s.post enc P f apart fresh handsOn again W args v W':=by
 have hlt:∀ p∈before,p.block<W.heap.size:=fun p hp=>hW.lt p hp
 have hold:∀ p∈before,(fun b=>decide (b<W.heap.size)) p.block=true:=fun p hp=>by simpa using hlt p hp
 refine⟨ds,gs,before,[],pa,pv,hW,hres _ _ _,hargs _ hold,hvars _ hold,World.keptBut_mono (fun p hp=>⟨hp,?_⟩) (hb.frame (· ∈ before)),fun _=>?_⟩
 ·rw[hps,List.mem_append] at hp
  exact Or.inr hp
 ·obtain⟨_,_,_,_,_,hz,hn⟩:=hW
  refine⟨hok,_,_,([]++pa)++pv,⟨[]++pa,pv,trodAll_append (hargs _ (fun _ _=>rfl)) (hres _ _ _),hvars _ (fun _ _=>rfl),rfl,?_,?_⟩,?_⟩
  ·intro b off hp
   have hin:MemPlace.cell b off∈before:=by rw[hps];simpa using hp
   rw[hb.frozen (hlt _ hin)]
   exact hz b off hin
  ·intro ha
   have:=hn ha
   rw[hps] at this
   simpa using this
  ·intro p hp _
   rw[hps]
   simpa using hp
end
theorem xU {H:Type} {enc:TypeId × Value→H} {P:Program} {w:World} {base:Nat} {sp:Nat→Bool} {held:Bool} {fuel:Nat} {t e:TypeId} {n:Nat} {cs:List Value} {zs:List (List UInt8)} {p:List MemPlace}
  (ht:P.underlying t=some (.array n e)) (he:P.underlying e=some .string) (hce:P.cellsOf e=1) (hct:P.cellsOf t=n)
  (h:DataW.trod enc P w base sp held fuel t cs=some (.agg (zs.map fun z=>.lit (.string z)),p)):cs=zs.map fun z=>Value.string ⟨z.toArray⟩:=by
 cases fuel with
 | zero=>simp[DataW.trod] at h
 | succ fuel=>
  simp only[DataW.trod,ht,hce,hct,Nat.mul_one] at h
  split at h
  ·rename_i hl
   obtain⟨xs,hm,hx⟩:=Option.map_eq_some_iff.1 h
   have hxs:xs.map (·.1)=zs.map fun z=>(DataW.lit (.string z):DataW H):=by
    have:=congrArg Prod.fst hx
    simpa using this
   have hxl:xs.length=n:=by simpa using Lib.mapM_length hm
   have hzl:zs.length=n:=by
    have:=congrArg List.length hxs
    simp at this
    omega
   apply List.ext_getElem?
   intro i
   by_cases hi:i<n
   ·obtain⟨b,hb,hf⟩:=Lib.mapM_at hm i i (by simp[hi])
    obtain⟨z,hc,rfl,_⟩:=DataW.trod_string he hf
    have h1:cs[i]?=some (.string z):=by
     have:=congrArg (·[0]?) hc
     simpa [List.getElem?_take,List.getElem?_drop] using this
    have h2:(xs.map (·.1))[i]?=some (DataW.lit (.string z.data.toList):DataW H):=by simp[hb]
    rw[hxs] at h2
    simp only[List.getElem?_map,Option.map_eq_some_iff,DataW.lit.injEq,Lit.string.injEq] at h2
    obtain⟨z',hz',hz⟩:=h2
    subst hz
    simp[h1,hz']
   ·rw[List.getElem?_eq_none (by omega),List.getElem?_eq_none (by simp;omega)]
  ·cases h
theorem ZF {P:Program} {W:World} {name:String} {zs:List (List UInt8)} {rest:List (String × DataW Unit)} {g:Nat} {t e:TypeId} {n:Nat}
  (hg:P.globalNamed name=some g) (hty:(P.globals[g]?).map (·.type)=some t) (ht:P.underlying t=some (.array n e)) (he:P.underlying e=some .string) (hce:P.cellsOf e=1) (hct:P.cellsOf t=n)
  (h:laidMet P ((name,.agg (zs.map fun z=>.lit (.string z))) :: rest) W):∃ CS ty fr,W.heap[g]?=some (.cells CS ty fr)∧CS.toList=zs.map fun z=>Value.string ⟨z.toArray⟩:=by
 obtain⟨ps,⟨g',t',cs,fuel,p,q,hg',ht',hvar,hd,_,_⟩,_⟩:=h
 obtain rfl:=Option.some.inj (hg.symm.trans hg')
 obtain rfl:=Option.some.inj (hty.symm.trans ht')
 have hcs:=xU ht he hce hct hd
 simp only[World.var?,hg,Option.bind_some] at hvar
 split at hvar
 ·rename_i CS ty fr hb
  cases hvar
  exact⟨_,_,_,hb,hcs⟩
 ·cases hvar
theorem XZ {P:Program} {W:World} {ρ:BK} {h:AA} (hl:h.good) (hd:∀ i,h.next≤i→ρ i=none) (hg:∀ g,g<P.globals.size→∃ L,ρ g=some L∧L.b=g∧L.d=0)
  (ho:∀ i,i<h.next→∃ cs ty g L CS ty' fr,h.get i=.row cs ty g true∧ρ i=some L∧W.heap[L.b]?=some (.cells CS ty' fr)∧∀ (k:Nat) (v:Value),cs[k]?=some v→∃ V,CS[L.d+k]?=some V∧AH ρ v V) :
  CA P ρ h W∧∀ i,¬ wr (h.get i):=by
 have hw:∀ i,¬ wr (h.get i):=fun i hw=>by
  rcases Nat.lt_or_ge i h.next with hi | hi
  ·obtain⟨cs,ty,g,L,CS,ty',fr,h1,_⟩:=ho i hi
   rw[h1] at hw
   cases hw
  ·rw[JF hi] at hw
   exact hw
 refine⟨⟨hl,hd,hg,fun i=>?_,fun i j L L' hwi=>absurd hwi (hw i)⟩,hw⟩
 rcases Nat.lt_or_ge i h.next with hi | hi
 ·obtain⟨cs,ty,g,L,CS,ty',fr,h1,h2,h3,h4⟩:=ho i hi
  rw[h1]
  exact⟨L,CS,ty',fr,h2,h3,h4,fun h=>by cases h⟩
 ·rw[JF hi]
  trivial
theorem Gr.below {W W':World} (h:Gr W W'):Below W.heap.size W W':=⟨h.os,h.tape,h.output,h.size,h.blk⟩
end Go.Sx
namespace Go.Sx
open Go
set_option linter.unusedSimpArgs false
set_option linter.unusedVariables false
set_option maxHeartbeats 64000000
noncomputable def A8 (P:Program) (call:AQ) (n:Nat):AQ:=fun f args h=>
 match P.funcs[f]? with
 | some fn=>match fn.body with
  | some c=>if args.length≤fn.ntmps then
    match CM P call n c ⟨IS 0 args .leaf,h⟩ with
    | some (.normal,s) | some (.ret,s)=>match FA P s fn.results.toList with
     | some [v]=>some (v,s.h)
     | some vs=>some (.tuple vs.toArray,s.h)
     | none=>none
    | _=>none
   else none
  | none=>none
 | none=>none
noncomputable def GZ (P:Program) (base:AQ):Nat→AQ
 | 0,_,_,_=>none
 | n+1,f,args,h=>match base f args h with
  | some r=>some r
  | none=>A8 P (GZ P base n) n f args h
def CH (call:AQ):Prop:=∀ f args h v h',call f args h=some (v,h')→EC h h'
theorem QG {P:Program} (hP:PH P=true) {call:AQ} (ih1:DM P call) (ih2:CH call) (fuel:Nat):DM P (A8 P call fuel)∧CH (A8 P call fuel):=by
 simp only[PH,Bool.and_eq_true] at hP
 obtain⟨hm,hall⟩:=hP
 have key:∀ f args h v h',A8 P call fuel f args h=some (v,h')→∃ fn c e s vs,P.funcs[f]?=some fn∧fn.body=some c∧args.length≤fn.ntmps∧(e=.normal∨e=.ret) ∧
   CM P call fuel c ⟨IS 0 args .leaf,h⟩=some (e,s)∧FA P s fn.results.toList=some vs∧v=GW vs∧h'=s.h:=by
  intro f args h v h' hs
  simp only[A8] at hs
  split at hs
  ·rename_i fn hfn
   split at hs
   ·rename_i c hc
    split at hs
    ·rename_i hlen
     split at hs
     ·rename_i s hcode
      obtain⟨vs,h1,h2,h3⟩:=bY hs
      exact⟨fn,c,.normal,s,vs,hfn,hc,hlen,.inl rfl,hcode,h1,h2,h3⟩
     ·rename_i s hcode
      obtain⟨vs,h1,h2,h3⟩:=bY hs
      exact⟨fn,c,.ret,s,vs,hfn,hc,hlen,.inr rfl,hcode,h1,h2,h3⟩
     ·cases hs
    ·cases hs
   ·cases hs
  ·cases hs
 have hfOK : ∀ (f : FuncId) (fn : Func) (c : Code), P.funcs[f]? = some fn → fn.body = some c → KG P fn.ntmps c = true ∧ (fn.name == "runtime.NumGoroutine") = false := by
  intro f fn c hfn hc
  have:=List.all_eq_true.1 hall fn (List.mem_of_getElem? (i:=f) (by simpa using hfn))
  unfold fI at this
  rw[hc] at this
  simp only[Bool.and_eq_true,Bool.not_eq_true'] at this
  exact this
 refine⟨fun f args h v h' hs=>?_,fun f args h v h' hs=>?_⟩
 ·obtain⟨fn,c,e,s,vs,hfn,hc,hlen,he,hcode,hres,hv,hh⟩:=key f args h v h' hs
  obtain⟨hcOK,hname⟩:=hfOK f fn c hfn hc
  refine⟨⟨fn,c,hfn,hc,hname⟩,fun ρ W ARGS hR hargs=>?_⟩
  have hsz:ARGS.size=args.length:=by have:=hargs.length;simpa using this.symm
  refine calls_of_wp hfn hc (o9 ih1 ih2 hm fuel c hcOK hcode hR ?_ (by simp;omega) fun A' W' ρ' hN hT' hn' hd'=>?_)
  ·intro t
   simp only[nI]
   show AH ρ _ ((ARGS++Array.replicate (fn.ntmps-ARGS.size) undef).getD t undef)
   rw[Array.getD_eq_getD_getElem?,Array.getElem?_append]
   by_cases ht:t<args.length
   ·rw[if_pos (by omega),if_pos (by omega)]
    obtain⟨b,hb,hr⟩:=hargs.get (i:=t) (a:=args[t]) (by simp[ht])
    have hb':ARGS[t]?=some b:=by simpa using hb
    rw[hb']
    simpa [ht] using hr
   ·rw[if_neg (by omega),if_neg (by omega),Array.getElem?_replicate]
    have:(Tr.leaf).get t=undef:=rfl
    rw[this]
    split <;> exact P_
  ·obtain⟨V,hV,hr⟩:=uF hres hN.rel hT'
   have hb:bodyPost P fn (fun e W'=>∃ V ρ',e=.returned V∧Nx P ρ h W ρ' h' W'∧AH ρ' v V) .normal A' W':=⟨hd',V,hV,V,ρ',rfl,by rw[hh];exact hN,by rw[hv];exact hr⟩
   rcases he with rfl | rfl
   ·exact hb
   ·exact hb
 ·obtain⟨fn,c,e,s,vs,hfn,hc,hlen,he,hcode,hres,hv,hh⟩:=key f args h v h' hs
  rw[hh]
  exact kD ih2 fuel c hcode
theorem N3 {P:Program} (hP:PH P=true) {base:AQ} (hb:DM P base) (hs:CH base):∀ fuel,DM P (GZ P base fuel)∧CH (GZ P base fuel):=by
 intro fuel
 induction fuel with
 | zero=>exact⟨fun f args h v h' hs=>by simp[GZ] at hs,fun f args h v h' hs=>by simp[GZ] at hs⟩
 | succ fuel ih=>
  obtain⟨i1,i2⟩:=QG hP ih.1 ih.2 fuel
  refine⟨fun f args h v h' hh=>?_,fun f args h v h' hh=>?_⟩
  ·simp only[GZ] at hh
   split at hh
   ·rename_i r hr;cases hh;exact hb f args h v h' hr
   ·exact i1 f args h v h' hh
  ·simp only[GZ] at hh
   split at hh
   ·rename_i r hr;cases hh;exact hs f args h v h' hr
   ·exact i2 f args h v h' hh
noncomputable def N1 (f0:FuncId) (o:BE):AQ:=fun f args h=>by
 classical
 exact if f=f0∧args=[]∧h.get 0=o then some (.bool true,h) else none
theorem Fy {P:Program} {call:AQ} (hC:DM P call) {f0:FuncId} {cs:List Value} {ty:TypeId} {g:Bool} {h':AA} (hgl:P.globals.size=1) (hflat:cs.all B7=true)
  (hs:call f0 [] ⟨1,0,.node (.row cs ty g true) .leaf .leaf⟩=some (.bool true,h')):DM P (N1 f0 (.row cs ty g true))∧CH (N1 f0 (.row cs ty g true)):=by
 have key:∀ f args h v h1,N1 f0 (.row cs ty g true) f args h=some (v,h1)→f=f0∧args=[]∧h.get 0=.row cs ty g true∧v=.bool true∧h1=h:=by
  intro f args h v h1 he
  unfold N1 at he
  split at he
  ·rename_i hc
   cases he
   exact⟨hc.1,hc.2.1,hc.2.2,rfl,rfl⟩
  ·cases he
 refine⟨fun f args h v h1 he=>?_,fun f args h v h1 he=>?_⟩
 ·obtain⟨rfl,rfl,hg,rfl,rfl⟩:=key f args h v h1 he
  obtain⟨hfn,hcall⟩:=hC f [] _ _ _ hs
  refine⟨hfn,fun ρ W ARGS hR hargs=>?_⟩
  obtain⟨L0,hL0,hb0,hd0⟩:=hR.glob 0 (by omega)
  have ho:=hR.obj 0
  rw[hg] at ho
  obtain⟨L,CS,ty',fr,hL,hW,hcs,_⟩:=ho
  have hro:=XZ (P:=P) (W:=W) (ρ:=fun i=>if i=0 then some L0 else none) (h:=⟨1,0,.node (.row cs ty g true) .leaf .leaf⟩) rfl (fun i hi=>by
    have:1≤i:=hi
    rw[if_neg (by omega)]) (fun g hg=>by
    obtain rfl:g=0:=by omega
    exact⟨L0,rfl,hb0,hd0⟩) (fun i hi=>by
    have:i<1:=hi
    obtain rfl:i=0:=by omega
    rw[hL0] at hL
    cases hL
    exact⟨cs,ty,g,L0,CS,ty',fr,rfl,rfl,hW,fun k v hv=>by
     obtain⟨V,hV,hr⟩:=hcs k v hv
     have hf:=List.all_eq_true.1 hflat v (List.mem_of_getElem? hv)
     rw[IZ hf hr] at hV
     exact⟨v,hV,.flat hf⟩⟩)
  refine(hcall _ W ARGS hro.1 (by rw[List.length_eq_zero_iff.1 hargs.length.symm];exact .nil)).mono fun e W' ⟨V,ρ',he,hN,hv⟩=>⟨V,ρ,he,(Nx.refl hR).grow (hN.fr.gr hro.2),?_⟩
  rw[Q5 hv]
  exact .flat rfl
 ·obtain⟨rfl,rfl,hg,rfl,rfl⟩:=key f args h v h1 he
  exact .refl _
theorem vI {P:Program} (hP:PH P=true) {fuel:Nat} {f0:FuncId} {cs:List Value} {ty:TypeId} {g:Bool} {h':AA} (hgl:P.globals.size=1) (hflat:cs.all B7=true)
  (hs:LF P fuel f0 [] ⟨1,0,.node (.row cs ty g true) .leaf .leaf⟩=some (.bool true,h')):DM P (N1 f0 (.row cs ty g true))∧CH (N1 f0 (.row cs ty g true)):=
 Fy (pW hP fuel).1 hgl hflat hs
section
variable {P:Program} {call:AQ} {n:Nat}
def WS (P:Program) (call:AQ) (n:Nat) (c:Code) (s:St) (Q:DT→St→Prop):Prop:=∃ e s',CM P call n c s=some (e,s')∧Q e s'
def WL (P:Program) (call:AQ) (ops:Array Oper) (l:List Oper) (s:St) (Q:St→Prop):Prop:=∃ s',JW P call ops l s=some s'∧Q s'
def WD (P:Program) (call:AQ) (ops:Array Oper) (start i:Nat) (l:List Oper) (s:St) (Q:St→Prop):Prop:=∃ s',KW P call ops start i l s=some s'∧Q s'
def DT.on (K:St→Prop) (Q:DT→St→Prop):DT→St→Prop
 | .normal,s=>K s
 | e,s=>Q e s
def DT.inB (id:Nat) (Q:DT→St→Prop):DT→St→Prop
 | .exit i,s=>if i=id then Q .normal s else Q (.exit i) s
 | e,s=>Q e s
variable {s:St} {Q:DT→St→Prop}
theorem WS.skip (h:Q .normal s):WS P call n .skip s Q:=⟨_,_,rfl,h⟩
theorem WS.exit {id:Nat} (h:Q (.exit id) s):WS P call n (.exit id) s Q:=⟨_,_,rfl,h⟩
theorem WS.ret (h:Q .ret s):WS P call n .ret s Q:=⟨_,_,rfl,h⟩
theorem WS.seq {a b:Code} (h:WS P call n a s (DT.on (fun s'=>WS P call n b s' Q) Q)):WS P call n (.seq a b) s Q:=by
 obtain⟨e,s',h1,h2⟩:=h
 cases e with
 | normal=>
  obtain⟨e2,s2,h3,h4⟩:=h2
  exact⟨e2,s2,by simp only[CM,h1,h3],h4⟩
 | exit id=>exact⟨_,_,by simp only[CM,h1],h2⟩
 | ret=>exact⟨_,_,by simp only[CM,h1],h2⟩
theorem WS.cond {c:Operand} {a b:Code} {t:Bool} (hc:ev s.T c=.bool t) (h1:t=true→WS P call n a s Q) (h2:t=false→WS P call n b s Q):WS P call n (.cond c a b) s Q:=by
 cases t with
 | true=>
  obtain⟨e,s',h3,h4⟩:=h1 rfl
  exact⟨e,s',by simp only[CM,hc,h3],h4⟩
 | false=>
  obtain⟨e,s',h3,h4⟩:=h2 rfl
  exact⟨e,s',by simp only[CM,hc,h3],h4⟩
theorem WS.block {id:Nat} {c:Code} (h:WS P call n c s (DT.inB id Q)):WS P call n (.block id c) s Q:=by
 obtain⟨e,s',h1,h2⟩:=h
 cases e with
 | normal=>exact⟨_,_,by simp only[CM,h1],h2⟩
 | exit i=>
  by_cases hi:i=id
  ·subst hi
   exact⟨.normal,s',by simp only[CM,h1,if_true],by simpa [DT.inB] using h2⟩
  ·exact⟨.exit i,s',by simp only[CM,h1,hi,if_false],by simpa [DT.inB,hi] using h2⟩
 | ret=>exact⟨_,_,by simp only[CM,h1],h2⟩
theorem WS.region {id:Nat} {ops:Array Oper} (h:WL P call ops ops.toList s (Q .normal)):WS P call n (.region id ops false) s Q:=by
 obtain⟨s',h1,h2⟩:=h
 exact⟨_,_,by simp only[CM,h1];rfl,h2⟩
theorem WS.draw {id:Nat} {ops:Array Oper} (h:WD P call ops s.h.next 0 ops.toList s (Q .normal)):WS P call n (.region id ops true) s Q:=by
 obtain⟨s',h1,h2⟩:=h
 exact⟨_,_,by simp only[CM,h1];rfl,h2⟩
theorem WS.loop {c:Code} (I:Nat→St→Prop) (N:Nat) (hN:N<n) (h0:I 0 s)
  (hr:∀ k s,k≤N→I k s→WS P call n c s (DT.on (fun s'=>k<N∧I (k+1) s') Q)):WS P call n (.loop c) s Q:=by
 have key:∀ (m k:Nat) (s:St),k+m=N→I k s→∀ f,m<f→∃ e s',KZ (CM P call n c) f s=some (e,s')∧Q e s':=by
  intro m
  induction m with
  | zero=>
   intro k s hk hI f hf
   obtain⟨f,rfl⟩:∃ f',f=f'+1:=⟨f-1,by omega⟩
   obtain⟨e,s',h1,h2⟩:=hr k s (by omega) hI
   cases e with
   | normal=>obtain⟨hk',_⟩:=h2;omega
   | exit id=>exact⟨_,_,by simp only[KZ,h1],h2⟩
   | ret=>exact⟨_,_,by simp only[KZ,h1],h2⟩
  | succ m ih=>
   intro k s hk hI f hf
   obtain⟨f,rfl⟩:∃ f',f=f'+1:=⟨f-1,by omega⟩
   obtain⟨e,s',h1,h2⟩:=hr k s (by omega) hI
   cases e with
   | normal=>
    obtain⟨hk',hI'⟩:=h2
    obtain⟨e2,s2,h3,h4⟩:=ih (k+1) s' (by omega) hI' f (by omega)
    exact⟨e2,s2,by simp only[KZ,h1,h3],h4⟩
   | exit id=>exact⟨_,_,by simp only[KZ,h1],h2⟩
   | ret=>exact⟨_,_,by simp only[KZ,h1],h2⟩
 obtain⟨e,s',h1,h2⟩:=key N 0 s (by omega) h0 n hN
 exact⟨e,s',by simp only[CM,h1],h2⟩
theorem WS.mono {c:Code} {Q':DT→St→Prop} (h:WS P call n c s Q) (hq:∀ e s,Q e s→Q' e s):WS P call n c s Q':=by
 obtain⟨e,s',h1,h2⟩:=h
 exact⟨e,s',h1,hq _ _ h2⟩
theorem WL.nil {ops:Array Oper} {K:St→Prop} (h:K s):WL P call ops [] s K:=⟨s,rfl,h⟩
theorem WL.step {ops:Array Oper} {o:Oper} {l:List Oper} {K:St→Prop} {v:Value} {h':AA} (hw:D9 ops s.T o=true) (hs:AO P call s.T s.h o.op=some (v,h')) (h:WL P call ops l ⟨s.T.put o.dst v,h'⟩ K):WL P call ops (o :: l) s K:=by
 obtain⟨s',h1,h2⟩:=h
 refine⟨s',?_,h2⟩
 simp only[JW,F4,hw,if_true,hs,h1]
theorem WL.pass {ops:Array Oper} {o:Oper} {l:List Oper} {K:St→Prop} (hw:D9 ops s.T o=false) (h:WL P call ops l ⟨s.T.put o.dst undef,s.h⟩ K):WL P call ops (o :: l) s K:=by
 obtain⟨s',h1,h2⟩:=h
 refine⟨s',?_,h2⟩
 simp[JW,F4,hw,h1]
theorem fV {f:FuncId} {args:List Value} {h:AA} {fn:Func} {c:Code} (hf:P.funcs[f]?=some fn) (hb:fn.body=some c) (hl:args.length≤fn.ntmps) {R:Value→AA→Prop}
  (hw:WS P call n c ⟨IS 0 args .leaf,h⟩ (fun e s=>(e=.normal∨e=.ret)∧∃ vs,FA P s fn.results.toList=some vs∧R (GW vs) s.h)):∃ v h',A8 P call n f args h=some (v,h')∧R v h':=by
 obtain⟨e,s,h1,he,vs,h2,h3⟩:=hw
 refine⟨_,_,?_,h3⟩
 have hm:(match some vs with
     | some [v]=>some (v,s.h)
     | some vs=>some (.tuple vs.toArray,s.h)
     | none=>none)=some (GW vs,s.h):=by
  match vs with
  | []=>rfl
  | [u]=>rfl
  | u :: u' :: us=>rfl
 rcases he with rfl | rfl <;> (simp only[A8,hf,hb,hl,if_true,h1,h2];exact hm)
end
section
variable {P:Program} {t:TypeId} {x y:Operand} {k:IntKind} {a b:Int}
theorem VX:CR P .lss t x y (.int k a) (.int k b)=some (.bool (decide (a<b))):=by simp[CR,flat,B7,BH,Go.eqGuard,Go.binOp,Op.intCmp,Bind.bind,Sem.bind,Pure.pure]
theorem UL:CR P .leq t x y (.int k a) (.int k b)=some (.bool (decide (a≤b))):=by simp[CR,flat,B7,BH,Go.eqGuard,Go.binOp,Op.intCmp,Bind.bind,Sem.bind,Pure.pure]
theorem RF:CR P .gtr t x y (.int k a) (.int k b)=some (.bool (decide (a>b))):=by simp[CR,flat,B7,BH,Go.eqGuard,Go.binOp,Op.intCmp,Bind.bind,Sem.bind,Pure.pure]
theorem Y1:CR P .geq t x y (.int k a) (.int k b)=some (.bool (decide (a≥b))):=by simp[CR,flat,B7,BH,Go.eqGuard,Go.binOp,Op.intCmp,Bind.bind,Sem.bind,Pure.pure]
theorem PZ:CR P .eql t x y (.int k a) (.int k b)=some (.bool (a==b)):=by simp[CR,flat,B7,BH,Go.eqGuard,Go.binOp,Op.intCmp,Bind.bind,Sem.bind,Pure.pure]
theorem RS:CR P .neq t x y (.int k a) (.int k b)=some (.bool (a != b)):=by simp[CR,flat,B7,BH,Go.eqGuard,Go.binOp,Op.intCmp,Bind.bind,Sem.bind,Pure.pure]
theorem WM:CR P .add t x y (.int k a) (.int k b)=some (.int k (k.wrap (a+b))):=by simp[CR,flat,B7,BH,Go.eqGuard,Go.binOp,Op.intArith,Bind.bind,Sem.bind,Pure.pure]
theorem VV:CR P .sub t x y (.int k a) (.int k b)=some (.int k (k.wrap (a-b))):=by simp[CR,flat,B7,BH,Go.eqGuard,Go.binOp,Op.intArith,Bind.bind,Sem.bind,Pure.pure]
theorem m8:CR P .mul t x y (.int k a) (.int k b)=some (.int k (k.wrap (a*b))):=by simp[CR,flat,B7,BH,Go.eqGuard,Go.binOp,Op.intArith,Bind.bind,Sem.bind,Pure.pure]
theorem WH (hb:b≠0):CR P .rem t x y (.int k a) (.int k b)=some (.int k (a.tmod b)):=by simp[CR,flat,B7,BH,Go.eqGuard,Go.binOp,Op.intDiv,Bind.bind,Sem.bind,Pure.pure,hb]
end
def YI:Value→Value→Bool
 | .bool a,.bool b=>a==b
 | .int k a,.int k' b=>decide (k=k')&&decide (a=b)
 | .string a,.string b=>decide (a=b)
 | .pointer none,.pointer none=>true
 | .pointer (some a),.pointer (some b)=>decide (a=b)
 | .slice none n c,.slice none n' c'=>Nat.beq n n'&&Nat.beq c c'
 | .slice (some a) n c,.slice (some b) n' c'=>decide (a=b)&&Nat.beq n n'&&Nat.beq c c'
 | .map none,.map none=>true
 | .map (some a),.map (some b)=>Nat.beq a b
 | .nilFunc,.nilFunc=>true
 | .nilIface,.nilIface=>true
 | _,_=>false
theorem pE {a b:Value} (h:YI a b=true):a=b:=by
 unfold YI at h
 split at h <;> simp_all
def O1:List Value→List Value→Bool
 | [],[]=>true
 | a :: l,b :: m=>YI a b&&O1 l m
 | _,_=>false
theorem WY:∀ {l m:List Value},O1 l m=true→l=m
 | [],[],_=>rfl
 | a :: l,b :: m,h=>by
  simp only[O1,Bool.and_eq_true] at h
  rw[pE h.1,WY h.2]
 | [],_ :: _,h=>by simp[O1] at h
 | _ :: _,[],h=>by simp[O1] at h
def W8:Value→Value→Bool
 | .agg a,.agg b=>O1 a.toList b.toList
 | a,b=>YI a b
theorem oN {a b:Value} (h:W8 a b=true):a=b:=by
 unfold W8 at h
 split at h
 ·rw[Array.toList_inj.1 (WY h)]
 ·exact pE h
def O9:List Value→List Value→Bool
 | [],[]=>true
 | a :: l,b :: m=>W8 a b&&O9 l m
 | _,_=>false
theorem WX:∀ {l m:List Value},O9 l m=true→l=m
 | [],[],_=>rfl
 | a :: l,b :: m,h=>by
  simp only[O9,Bool.and_eq_true] at h
  rw[oN h.1,WX h.2]
 | [],_ :: _,h=>by simp[O9] at h
 | _ :: _,[],h=>by simp[O9] at h
def SI:Value→Value→Bool
 | .tuple a,.tuple b=>O9 a.toList b.toList
 | a,b=>W8 a b
theorem Y6 {a b:Value} (h:SI a b=true):a=b:=by
 unfold SI at h
 split at h
 ·rw[Array.toList_inj.1 (WX h)]
 ·exact oN h
def aR:BE→BE→Bool
 | _,.dead=>true
 | .row cs ty g ro,.row cs' ty' g' ro'=>O1 cs cs'&&Nat.beq ty ty'&&(g==g')&&(ro==ro')
 | _,_=>false
def LR (n:Nat):Value→Bool
 | .pointer (some a)=>decide (a.block<n)
 | .slice (some a) _ _=>decide (a.block<n)
 | .map (some i)=>decide (i<n)
 | v=>B7 v
def below (n:Nat):Value→Bool
 | .agg cs=>cs.toList.all (LR n)
 | v=>LR n v
structure KO where
 f:FuncId
 args:List Value
 next:Nat
 need:List (Nat × BE)
 v:Value
 outs:List BE
noncomputable def TQ (t:EH):List (Nat × BE)→EH
 | []=>t
 | (i,o) :: l=>TQ (t.set i o) l
noncomputable def KO.hs (e:KO):AA:=⟨e.next,0,TQ .leaf e.need⟩
def TJ:BE→Bool
 | .row _ _ _ ro=>ro
 | _=>false
noncomputable def Y5 (h:AA) (i:Nat):List BE→Bool
 | []=>true
 | o :: l=>aR (h.get i) o&&Y5 h (i+1) l
noncomputable def KO.ok (call:AQ) (e:KO):Bool:=
 (e.need.all fun x=>TJ x.2)&&(match call e.f e.args e.hs with
  | some (v,h)=>SI v e.v&&Nat.beq h.next (e.next+e.outs.length)&&Y5 h e.next e.outs
  | none=>false)
noncomputable def G_ (a b:AQ):AQ:=fun f args h=>match a f args h with
 | some r=>some r
 | none=>b f args h
def NW:AQ:=fun _ _ _=>none
theorem wZ {P:Program}:DM P NW∧CH NW:=⟨fun _ _ _ _ _ h=>by simp[NW] at h,fun _ _ _ _ _ h=>by simp[NW] at h⟩
theorem ST {P:Program} {a b:AQ} (ha:DM P a∧CH a) (hb:DM P b∧CH b):DM P (G_ a b)∧CH (G_ a b):=by
 refine⟨fun f args h v h' hs=>?_,fun f args h v h' hs=>?_⟩
 ·unfold G_ at hs
  split at hs
  ·rename_i r hr;cases hs;exact ha.1 _ _ _ _ _ hr
  ·exact hb.1 _ _ _ _ _ hs
 ·unfold G_ at hs
  split at hs
  ·rename_i r hr;cases hs;exact ha.2 _ _ _ _ _ hr
  ·exact hb.2 _ _ _ _ _ hs
end Go.Sx
namespace Go.Sx
open Go
set_option linter.unusedSimpArgs false
set_option linter.unusedVariables false
theorem AH.back {ρ ρ':BK} (hx:∀ i L,ρ i=some L→ρ' i=some L) {v V0:Value} (h0:AH ρ v V0):∀ V,AH ρ' v V→AH ρ v V:=by
 refine AH.rec (motive_1:=fun v V0 _=>∀ V,AH ρ' v V→AH ρ v V) (motive_2:=fun l m _=>∀ n,BB (AH ρ') l n→BB (AH ρ) l n) ?_ ?_ ?_ ?_ ?_ ?_ ?_ ?_ ?_ ?_ ?_ h0
 ·intro v hv V h;rw[IZ hv h];exact .flat hv
 ·intro id off L hL V h
  cases h with
  | flat hv=>exact .flat hv
  | ptr h=>rw[hx _ _ hL] at h;cases h;exact .ptr hL
 ·intro id off L n c hL hc V h
  cases h with
  | flat hv=>exact .flat hv
  | slice h hc=>rw[hx _ _ hL] at h;cases h;exact .slice hL hc
  | sliceU h hn ha=>rw[hx _ _ hL] at h;cases h;exact .sliceU hL hn ha
 ·intro id off L n c a hL hn ha V h
  cases h with
  | flat hv=>exact .flat hv
  | slice h hc=>rw[hx _ _ hL] at h;cases h;exact .slice hL hc
  | sliceU h hn ha=>rw[hx _ _ hL] at h;cases h;exact .sliceU hL hn ha
 ·intro id L hL V h
  cases h with
  | flat hv=>exact .flat hv
  | map h=>rw[hx _ _ hL] at h;cases h;exact .map hL
 ·intro fn f f' c c' _ _ h1 h2 V h
  cases h with
  | flat hv=>exact .flat hv
  | func a b=>exact .func (h1 _ a) (h2 _ b)
 ·intro t v v' _ h1 V h
  cases h with
  | flat hv=>exact .flat hv
  | iface a=>exact .iface (h1 _ a)
 ·intro cs cs' _ h1 V h
  cases h with
  | flat hv=>exact .flat hv
  | agg a=>exact .agg (h1 _ a)
 ·intro cs cs' _ h1 V h
  cases h with
  | flat hv=>exact .flat hv
  | tuple a=>exact .tuple (h1 _ a)
 ·intro n h;cases h;exact .nil
 ·intro a b l m _ _ h1 h2 n h
  cases h with
  | cons x y=>exact .cons (h1 _ x) (h2 _ y)
theorem GD.back {P:Program} {ρ ρ':BK} {W W':World} {i:Nat} {o:BE} (hx:∀ i L,ρ i=some L→ρ' i=some L) (h0:GD P ρ W i o) (h:GD P ρ' W' i o):GD P ρ W' i o:=by
 cases o with
 | dead=>trivial
 | row cs ty g ro=>
  obtain⟨L0,CS0,t0,f0,k1,k2,k3,k4⟩:=h0
  obtain⟨L,CS,t,f,l1,l2,l3,l4⟩:=h
  have e:L=L0:=by rw[hx _ _ k1] at l1;exact(Option.some.inj l1).symm
  subst e
  refine⟨L,CS,t,f,k1,l2,fun k v hv=>?_,l4⟩
  obtain⟨V0,_,hV0⟩:=k3 k v hv
  obtain⟨V,hV1,hV2⟩:=l3 k v hv
  exact⟨V,hV1,hV0.back hx _ hV2⟩
 | map es=>
  obtain⟨L0,ES0,c0,k1,k2,k3⟩:=h0
  obtain⟨L,ES,c,l1,l2,l3⟩:=h
  have e:L=L0:=by rw[hx _ _ k1] at l1;exact(Option.some.inj l1).symm
  subst e
  refine⟨L,ES,c,k1,l2,?_⟩
  have key:∀ {es:List (Value × Value)} {A B:List MapEntry},BB (fun (e:Value × Value) (E:MapEntry)=>AH ρ e.1 E.key∧AH ρ e.2 E.val) es A→BB (fun (e:Value × Value) (E:MapEntry)=>AH ρ' e.1 E.key∧AH ρ' e.2 E.val) es B→BB (fun (e:Value × Value) (E:MapEntry)=>AH ρ e.1 E.key∧AH ρ e.2 E.val) es B:=by
   intro es A B h1
   induction h1 generalizing B with
   | nil=>intro h2;cases h2;exact .nil
   | cons a _ ih=>
    intro h2
    cases h2 with
    | cons b c=>exact .cons ⟨a.1.back hx _ b.1,a.2.back hx _ b.2⟩ (ih c)
  exact key k3 l3
def FO:Value→Bool
 | .tuple cs=>cs.all flat
 | v=>flat v
theorem mG {ρ:BK} {v V:Value} (hf:FO v=true) (h:AH ρ v V):V=v:=by
 unfold FO at hf
 split at hf
 ·rename_i cs
  cases h with
  | flat hv=>rfl
  | tuple h=>
   rename_i cs'
   have:∀ {l m:List Value},BB (AH ρ) l m→l.all flat=true→m=l:=by
    intro l m h
    induction h with
    | nil=>intro _;rfl
    | cons a _ ih=>
     intro hl
     simp only[List.all_cons,Bool.and_eq_true] at hl
     rw[NE hl.1 a,ih hl.2]
   have:=this h (by simpa using hf)
   congr 1
   exact Array.toList_inj.1 this
 ·exact NE hf h
theorem uG {ρ:BK} {v:Value} (hf:FO v=true):AH ρ v v:=by
 unfold FO at hf
 split at hf
 ·rename_i cs
  refine .tuple (BB.same fun a ha=>J1 ?_)
  have:cs.toList.all flat=true:=by simpa using hf
  exact List.all_eq_true.1 this a ha
 ·exact J1 hf
open Classical in
noncomputable def NP (call:AQ):AQ:=fun f args h=>match call f args h with
 | some (v,h1)=>if FO v=true∧∀ i,i<h.next→h1.get i=h.get i then some (v,h) else none
 | none=>none
theorem mU {call:AQ} {f:FuncId} {args:List Value} {h h':AA} {v:Value} (hs:NP call f args h=some (v,h')) :
  (∃ h1,call f args h=some (v,h1)∧∀ i,i<h.next→h1.get i=h.get i)∧FO v=true∧h'=h:=by
 unfold NP at hs
 split at hs
 ·rename_i v' h1 he
  split at hs
  ·rename_i hc
   cases hs
   exact⟨⟨h1,he,hc.2⟩,hc.1,rfl⟩
  ·cases hs
 ·cases hs
theorem YK {call:AQ} {f:FuncId} {args:List Value} {h h1:AA} {v:Value} (hc:call f args h=some (v,h1)) (hv:FO v=true) (hk:∀ i,i<h.next→h1.get i=h.get i):NP call f args h=some (v,h):=by
 unfold NP
 rw[hc]
 simp only
 rw[if_pos ⟨hv,hk⟩]
theorem VT {P:Program} {call:AQ} (hc:DM P call):DM P (NP call)∧CH (NP call):=by
 refine⟨fun f args h v h' hs=>?_,fun f args h v h' hs=>?_⟩
 ·obtain⟨⟨h1,he,hk⟩,hv,rfl⟩:=mU hs
  obtain⟨hfn,hc2⟩:=hc _ _ _ _ _ he
  refine⟨hfn,fun ρ W ARGS hR hargs=>(hc2 ρ W ARGS hR hargs).mono fun e W' ⟨V,ρ',he',hN,hv'⟩=>?_⟩
  rw[mG hv hv'] at he'
  refine⟨v,ρ,he',?_,uG hv⟩
  refine⟨fun _ _ h=>h,fun _ _=>rfl,⟨hR.len,hR.dom,hR.glob,fun i=>?_,hR.inj⟩,hN.fr,Nat.le_refl _,rfl,fun _ _ _=>rfl,fun _ _ h=>h,fun _ _ h=>h,fun i L hi hw _=>by rw[JF hi] at hw;exact hw.elim⟩
  rcases Nat.lt_or_ge i h'.next with hi | hi
  ·have h2:=hN.rel.obj i
   rw[hk i hi] at h2
   exact(hR.obj i).back hN.ext h2
  ·rw[JF hi];trivial
 ·obtain⟨_,_,rfl⟩:=mU hs
  exact .refl _
end Go.Sx
namespace Go.Proofs.YtipekdhneagdbaaDoor
open Go Go.Sx
noncomputable def J9 (fs:List FuncId) (call:AQ):AQ:=fun f args h=>if fs.contains f then call f args h else none
theorem XQ {P:Program} {fs:List FuncId} {call:AQ} (hc:DM P call∧CH call):DM P (J9 fs call)∧CH (J9 fs call):=by
 refine⟨fun f args h v h' hs=>?_,fun f args h v h' hs=>?_⟩
 ·unfold J9 at hs
  split at hs
  ·exact hc.1 _ _ _ _ _ hs
  ·cases hs
 ·unfold J9 at hs
  split at hs
  ·exact hc.2 _ _ _ _ _ hs
  ·cases hs
noncomputable def ND (fs:List FuncId) (base:AQ) (k:Nat):AQ:=G_ base (J9 fs (NP (A8 Tryd.prog (GZ Tryd.prog base k) k)))
section
variable {fs:List FuncId} {k m:Nat} {base:AQ} {f:FuncId} {args:List Value} {h h1:AA} {v:Value} {r:Value × AA}
theorem ZU (hb:DM Tryd.prog base∧CH base):DM Tryd.prog (ND fs base k)∧CH (ND fs base k):=
 ST hb (XQ (VT (QG J2 (N3 J2 hb.1 hb.2 k).1 (N3 J2 hb.1 hb.2 k).2 k).1))
theorem S9 {a b:AQ} (hb:a f args h=some r):G_ a b f args h=some r:=by unfold G_;rw[hb]
theorem LJ (hb:base f args h=some r):ND fs base k f args h=some r:=S9 hb
theorem N8 (hb:base f args h=none) (hf:fs.contains f=false):ND fs base k f args h=none:=by unfold ND G_ J9;rw[hb,hf];rfl
theorem FR {n:Nat} (hb:base f args h=some r):GZ Tryd.prog base (n+1) f args h=some r:=by
 unfold GZ
 rw[hb]
theorem N_ {n:Nat} (hb:base f args h=none):GZ Tryd.prog base (n+1) f args h=A8 Tryd.prog (GZ Tryd.prog base n) n f args h:=by
 rw[GZ,hb]
theorem VQ (hb:base f args h=none) (hf:fs.contains f=true) (hv:FO v=true) (hw:∃ h1,A8 Tryd.prog (GZ Tryd.prog base k) k f args h=some (v,h1)∧∀ i,i<h.next→h1.get i=h.get i) :
  ND fs base k f args h=some (v,h):=by
 obtain⟨h1,he,hk⟩:=hw
 have e:=YK he hv hk
 unfold ND G_ J9
 rw[hb,hf,if_pos rfl,e]
end
end Go.Proofs.YtipekdhneagdbaaDoor
namespace Go.Proofs.YtipekdhneagdbaaDoor
open Go Go.Sx
set_option linter.unusedSimpArgs false
set_option linter.unusedVariables false
set_option maxHeartbeats 64000000
structure AC where
 kind:Int
 name:ByteArray
 ends:Int
 n:Int
 kids:Int
def CD (what kind:Int):Bool:=
 if what=8 then kind==1
 else if what=0 then decide (kind≥2)&&decide (kind≤7)
 else if what=1 then decide (kind≥8)&&decide (kind≤10)
 else if what=2 then kind==11
 else if what=3 then decide (kind≥11)&&decide (kind≤23)
 else if what=4 then kind==11||kind==12
 else if what=5 then kind==25||kind==26
 else if what=6 then kind==24
 else decide (kind≥27)&&decide (kind≤54)
theorem QF {what kind:Int} (h:CD what kind=true):1≤kind∧kind≤54:=by
 unfold CD at h
 (repeat' split at h) <;> simp at h <;> omega
def HG (k:Int):Bool:=[1,2,3,4,5,7,8,9,14,15,16,17,19,20,21,22,24,26,28,31,32,35,36,37,38].contains k
def JR (k:Int):Bool:=[16,17,19,20,21,24,26].contains k
def FC (k:Int):Int:=
 if [4,13].contains k then 3 else if [5,6,7,8,9,10,14,19,38,41,42].contains k then 1 else if [12,15,39,40].contains k||decide (k≥43) then 2 else 0
def CT (k:Int):Int:=
 if [1,11].contains k then -1 else if [4,12,13].contains k then 3 else if [5,6,7,8,9,10,14,19,20,38,41,42].contains k then 1 else if [15,39,40].contains k||decide (k≥43) then 2 else 0
def BY (kind:Int) (kid:Nat):Int:=
 if kind=11 then 3 else if [7,8,9,10].contains kind then 2
 else if kind=12 then (if kid=0 then 7 else if kid=1 then 2 else 4)
 else if kind=13 then (if kid=2 then 2 else 7)
 else if kind=15 then (if kid=0 then 5 else 7)
 else if [19,20].contains kind then 6 else if kind=38 then 5 else 7
section
variable (isName:ByteArray→Bool)
def DU (x:AC):Bool:=
 (isName x.name==HG x.kind)&&(HG x.kind||x.name==ByteArray.empty)&&(x.ends==0||JR x.kind&&x.ends==1)&&(x.n==0||x.kind==27&&decide (x.n>0)&&decide (x.n≤1073741824)) &&
  decide (x.kids≥FC x.kind)&&(decide (CT x.kind<0)||decide (x.kids≤CT x.kind))
def EQ (g:Nat→Nat→Nat × Bool):Nat→Nat→Nat→Nat × Bool
 | 0,_,next=>(next,true)
 | r+1,k,next=>if (g k next).2=true then EQ g r (k+1) (g k next).1 else ((g k next).1,false)
def BS (l:List AC):Nat→Nat→Int→Nat × Bool
 | 0,at_,_=>(at_,false)
 | m+1,at_,what=>match l[at_]? with
  | none=>(at_,false)
  | some x=>if (CD what x.kind&&DU isName x)=true then EQ (fun k next=>BS l m next (BY x.kind k)) x.kids.toNat 0 (at_+1) else (at_,false)
def MU (x:Option AC):Bool:=match x with
 | some x=>CD 1 x.kind
 | none=>false
def HH (ev:Bool) (x:Option AC):Int:=if (ev||MU x)=true then 1 else 0
def EG (l:List AC) (m:Nat):Nat→Bool→Nat→Nat × Bool
 | 0,_,next=>(next,true)
 | r+1,ev,next=>
  if (BS isName l m next (HH ev l[next]?)).2=true then EG l m r (ev||MU l[next]?) (BS isName l m next (HH ev l[next]?)).1
  else ((BS isName l m next (HH ev l[next]?)).1,false)
def G5 (l:List AC) (m:Nat):Nat × Bool:=match l[0]? with
 | none=>(0,false)
 | some x=>if (CD 8 x.kind&&DU isName x)=true then EG isName l m x.kids.toNat false 1 else (0,false)
def IT (l:List AC):Option Nat:=
 if (G5 isName l (l.length+1)).2=true∧(G5 isName l (l.length+1)).1=l.length then none else some (G5 isName l (l.length+1)).1
variable {isName}
theorem yD {g:Nat→Nat→Nat × Bool} {b:Nat} (hg:∀ k p,p≤b→(g k p).2=true→p<(g k p).1∧(g k p).1≤b):∀ r k p,p≤b→(EQ g r k p).2=true→p+r≤(EQ g r k p).1∧(EQ g r k p).1≤b:=by
 intro r
 induction r with
 | zero=>intro k p hp _;exact⟨Nat.le_refl _,hp⟩
 | succ r ih=>
  intro k p hp h
  unfold EQ at h ⊢
  split at h
  ·rename_i hc
   rw[if_pos hc]
   have h1:=hg k p hp hc
   have h2:=ih (k+1) _ h1.2 h
   omega
  ·cases h
theorem S_ {l:List AC}:∀ m at_ what,(BS isName l m at_ what).2=true→at_<(BS isName l m at_ what).1∧(BS isName l m at_ what).1≤l.length:=by
 intro m
 induction m with
 | zero=>intro at_ what h;cases h
 | succ m ih=>
  intro at_ what
  unfold BS
  cases hx:l[at_]? with
  | none=>intro h;cases h
  | some x=>
   simp only
   have hlt:at_<l.length:=(List.getElem?_eq_some_iff.1 hx).1
   split
   ·rename_i hc
    intro h
    have:=yD (b:=l.length) (fun k p _=>ih p (BY x.kind k)) x.kids.toNat 0 (at_+1) hlt h
    omega
   ·intro h;cases h
structure CW where
 kind:Int
 left:Nat
 next:Nat
def F6:List CW→List CW
 | []=>[]
 | f :: s=>if f.left=0 then F6 s else f :: s
def KE:List CW→List CW
 | []=>[]
 | f :: s=>⟨f.kind,f.left-1,f.next+1⟩ :: s
theorem R1 {f:CW} {s:List CW} (h:f.left≠0):F6 (f :: s)=f :: s:=by unfold F6;rw[if_neg h]
theorem SK {f:CW} {s:List CW} (h:f.left=0):F6 (f :: s)=F6 s:=by
 show (if f.left=0 then F6 s else f :: s)=F6 s
 rw[if_pos h]
def LZ:List CW→Int
 | []=>8
 | f :: _=>if f.kind=1 then 9 else BY f.kind f.next
def FK (what kind:Int):Bool:=if what=9 then decide (kind≥2)&&decide (kind≤10) else CD what kind
def KL (l:List AC) (at_:Nat) (s:List CW) (ev:Bool):Option Nat ⊕ (List CW × Bool):=
 match l[at_]? with
 | none=>.inl (some at_)
 | some x=>
  if (FK (LZ s) x.kind&&DU isName x)=true then
   if LZ s=9∧ev=true∧CD 0 x.kind=true then .inl (some at_)
   else .inr (F6 (⟨x.kind,x.kids.toNat,0⟩ :: KE s),if LZ s=9 then ev||CD 1 x.kind else ev)
  else .inl (some at_)
def GS (l:List AC):Nat→Nat→List CW→Bool→Option Nat
 | 0,_,_,_=>none
 | m+1,at_,s,ev=>match KL (isName:=isName) l at_ s ev with
  | .inl r=>r
  | .inr (s',ev')=>if s'=[] then (if at_+1<l.length then some (at_+1) else none) else GS l m (at_+1) s' ev'
def JE (l:List AC) (M at_:Nat) (s:List CW) (ev:Bool):Option Nat:=if s=[] then (if at_<l.length then some at_ else none) else GS (isName:=isName) l M at_ s ev
theorem Y8 {g:Nat→Nat→Nat × Bool} (hg:∀ k p,p≤(g k p).1):∀ r k p,p≤(EQ g r k p).1:=by
 intro r
 induction r with
 | zero=>intro k p;exact Nat.le_refl _
 | succ r ih=>
  intro k p
  unfold EQ
  split
  ·exact Nat.le_trans (hg k p) (ih _ _)
  ·exact hg k p
theorem Q0 {l:List AC}:∀ m at_ what,at_≤(BS isName l m at_ what).1:=by
 intro m
 induction m with
 | zero=>intro at_ what;exact Nat.le_refl _
 | succ m ih=>
  intro at_ what
  unfold BS
  split
  ·exact Nat.le_refl _
  ·split
   ·exact Nat.le_trans (Nat.le_succ _) (Y8 (fun k p=>ih p _) _ _ _)
   ·exact Nat.le_refl _
theorem W3 {k:Int} {j:Nat}:BY k j≠9∧BY k j≠8:=by
 unfold BY
 (repeat' split) <;> decide
theorem Rl {k:Int} {j:Nat} {q:Int} (h:CD (BY k j) q=true):q≠1:=by
 intro e
 subst e
 revert h
 unfold BY
 (repeat' split) <;> decide
def oW (l:List AC) (m:Nat):Prop:=∀ (at_:Nat) (F:CW) (rest:List CW) (ev:Bool),F.kind≠1→l.length<at_+m →
 ((BS isName l m at_ (BY F.kind F.next)).2=true→∀ M,GS (isName:=isName) l (M+((BS isName l m at_ (BY F.kind F.next)).1-at_)) at_ (F :: rest) ev=JE (isName:=isName) l M (BS isName l m at_ (BY F.kind F.next)).1 (F6 (KE (F :: rest))) ev) ∧
 ((BS isName l m at_ (BY F.kind F.next)).2=false→∀ M,(BS isName l m at_ (BY F.kind F.next)).1-at_<M→GS (isName:=isName) l M at_ (F :: rest) ev=some (BS isName l m at_ (BY F.kind F.next)).1)
theorem mA {l:List AC} {m:Nat} (hm:oW (isName:=isName) l m) {κ:Int} (hκ:κ≠1) (D:List CW) (ev:Bool):∀ r k p,l.length<p+m →
  ((EQ (fun k next=>BS isName l m next (BY κ k)) r k p).2=true→∀ M,JE (isName:=isName) l (M+((EQ (fun k next=>BS isName l m next (BY κ k)) r k p).1-p)) p (F6 (⟨κ,r,k⟩ :: D)) ev=JE (isName:=isName) l M (EQ (fun k next=>BS isName l m next (BY κ k)) r k p).1 (F6 D) ev) ∧
  ((EQ (fun k next=>BS isName l m next (BY κ k)) r k p).2=false→∀ M,(EQ (fun k next=>BS isName l m next (BY κ k)) r k p).1-p<M→JE (isName:=isName) l M p (F6 (⟨κ,r,k⟩ :: D)) ev=some (EQ (fun k next=>BS isName l m next (BY κ k)) r k p).1):=by
 intro r
 induction r with
 | zero=>
  intro k p hp
  refine⟨fun _ M=>?_,fun h=>(by cases h)⟩
  rw[SK rfl]
  simp[EQ]
 | succ r ih=>
  intro k p hp
  obtain⟨a1,a2⟩:=hm p ⟨κ,r+1,k⟩ D ev hκ hp
  simp only at a1 a2
  have hne:F6 (⟨κ,r+1,k⟩ :: D)=⟨κ,r+1,k⟩ :: D:=R1 (by simp)
  have hdec:KE (⟨κ,r+1,k⟩ :: D)=⟨κ,r,k+1⟩ :: D:=rfl
  have hcont:∀ M,JE (isName:=isName) l M p (⟨κ,r+1,k⟩ :: D) ev=GS (isName:=isName) l M p (⟨κ,r+1,k⟩ :: D) ev:=fun M=>by unfold JE;rw[if_neg (by simp)]
  have hge:=Q0 (isName:=isName) (l:=l) m p (BY κ k)
  rw[hne]
  simp only[hcont]
  unfold EQ
  generalize hq:BS isName l m p (BY κ k)=q at a1 a2 hge
  cases hb:q.2 with
  | true=>
   simp only[if_true]
   have hq1:p<q.1∧q.1≤l.length:=by
    have:=S_ (isName:=isName) (l:=l) m p (BY κ k)
    rw[hq] at this
    exact this hb
   obtain⟨b1,b2⟩:=ih (k+1) q.1 (by omega)
   have hge2:=Y8 (g:=fun k next=>BS isName l m next (BY κ k)) (fun k p=>Q0 m p _) r (k+1) q.1
   refine⟨fun h M=>?_,fun h M hM=>?_⟩
   ·have:=a1 hb (M+((EQ (fun k next=>BS isName l m next (BY κ k)) r (k+1) q.1).1-q.1))
    rw[hdec,b1 h M] at this
    rw[← this]
    congr 1
    omega
   ·have:=a1 hb (M-(q.1-p))
    rw[hdec,b2 h _ (by omega)] at this
    rw[← this]
    congr 1
    omega
  | false=>
   simp only[Bool.false_eq_true,if_false]
   exact⟨fun h=>(by cases h),fun _ M hM=>a2 hb M hM⟩
theorem Ag {F:CW} {rest:List CW} (hF:F.kind≠1):LZ (F :: rest)=BY F.kind F.next∧(∀ k,FK (BY F.kind F.next) k=CD (BY F.kind F.next) k)∧LZ (F :: rest)≠9:=by
 have h:LZ (F :: rest)=BY F.kind F.next:=by
  show (if F.kind=1 then 9 else BY F.kind F.next)=_
  rw[if_neg hF]
 refine⟨h,fun k=>?_,by rw[h];exact W3.1⟩
 unfold FK
 rw[if_neg W3.1]
theorem Rc {l:List AC}:∀ m,oW (isName:=isName) l m:=by
 intro m
 induction m with
 | zero=>
  intro at_ F rest ev hF hlen
  refine⟨fun h=>(by cases h),fun _ M hM=>?_⟩
  have hx:l[at_]?=none:=List.getElem?_eq_none (by omega)
  obtain⟨M,rfl⟩:∃ M',M=M'+1:=⟨M-1,by omega⟩
  simp[GS,KL,hx,BS]
 | succ m ih=>
  intro at_ F rest ev hF hlen
  obtain⟨w1,w2,w3⟩:=Ag (rest:=rest) hF
  have hbad:∀ M,0<M→(l[at_]?=none∨∃ x,l[at_]?=some x∧(CD (BY F.kind F.next) x.kind&&DU isName x)=false)→GS (isName:=isName) l M at_ (F :: rest) ev=some at_:=by
   intro M hM h
   obtain⟨M,rfl⟩:∃ M',M=M'+1:=⟨M-1,by omega⟩
   rcases h with h | ⟨x,hx,hb⟩
   ·simp[GS,KL,h]
   ·simp only[GS,KL,hx,w1,w2,hb,Bool.false_eq_true,if_false]
  unfold BS
  cases hx:l[at_]? with
  | none=>
   simp only
   exact⟨fun h=>(by cases h),fun _ M hM=>hbad M (by omega) (.inl hx)⟩
  | some x=>
   simp only
   cases hb:(CD (BY F.kind F.next) x.kind&&DU isName x) with
   | false=>
    simp only[Bool.false_eq_true,if_false]
    exact⟨fun h=>(by cases h),fun _ M hM=>hbad M (by omega) (.inr ⟨x,hx,hb⟩)⟩
   | true=>
    simp only[if_true]
    have hk1:x.kind≠1:=Rl (Bool.and_eq_true_iff.1 hb).1
    have hrun:∀ M,GS (isName:=isName) l (M+1) at_ (F :: rest) ev=JE (isName:=isName) l M (at_+1) (F6 (⟨x.kind,x.kids.toNat,0⟩ :: KE (F :: rest))) ev:=by
     intro M
     simp only[GS,KL,hx,w1,w2,hb,if_true,W3.1,false_and,if_false]
     rfl
    obtain⟨b1,b2⟩:=mA ih hk1 (KE (F :: rest)) ev x.kids.toNat 0 (at_+1) (by omega)
    have hge:=Y8 (g:=fun k next=>BS isName l m next (BY x.kind k)) (fun k p=>Q0 m p _) x.kids.toNat 0 (at_+1)
    refine⟨fun h M=>?_,fun h M hM=>?_⟩
    ·have:=b1 h M
     rw[← this,← hrun]
     congr 1
     omega
    ·obtain⟨M,rfl⟩:∃ M',M=M'+1:=⟨M-1,by omega⟩
     rw[hrun,b2 h M (by omega)]
theorem mW {l:List AC} {m:Nat}:∀ r ev p,p≤(EG isName l m r ev p).1:=by
 intro r
 induction r with
 | zero=>intro ev p;exact Nat.le_refl _
 | succ r ih=>
  intro ev p
  unfold EG
  split
  ·exact Nat.le_trans (Q0 m p _) (ih _ _)
  ·exact Q0 m p _
theorem Kf {l:List AC} {m:Nat}:∀ r ev p,p≤l.length→(EG isName l m r ev p).2=true→p+r≤(EG isName l m r ev p).1∧(EG isName l m r ev p).1≤l.length:=by
 intro r
 induction r with
 | zero=>intro ev p hp _;exact⟨Nat.le_refl _,hp⟩
 | succ r ih=>
  intro ev p hp h
  unfold EG at h ⊢
  split at h
  ·rename_i hc
   rw[if_pos hc]
   have h1:=S_ (isName:=isName) (l:=l) m p _ hc
   have h2:=ih _ _ h1.2 h
   omega
  ·cases h
theorem X7 {k:Int}:(CD 0 k=true→FK 9 k=true∧CD 1 k=false∧k≠1)∧(CD 1 k=true→FK 9 k=true∧CD 0 k=false∧k≠1)∧(FK 9 k=true→CD 0 k=true∨CD 1 k=true):=by
 unfold FK CD
 simp only[if_true,Int.reduceEq,if_false,Bool.and_eq_true,decide_eq_true_eq,Bool.and_eq_false_iff,decide_eq_false_iff_not]
 omega
theorem Fx {l:List AC} {m:Nat}:∀ r ev k p,l.length<p+m →
  ((EG isName l m r ev p).2=true→∀ M,JE (isName:=isName) l (M+((EG isName l m r ev p).1-p)) p (F6 [⟨1,r,k⟩]) ev=JE (isName:=isName) l M (EG isName l m r ev p).1 [] false) ∧
  ((EG isName l m r ev p).2=false→∀ M,(EG isName l m r ev p).1-p<M→JE (isName:=isName) l M p (F6 [⟨1,r,k⟩]) ev=some (EG isName l m r ev p).1):=by
 intro r
 induction r with
 | zero=>
  intro ev k p hp
  refine⟨fun _ M=>?_,fun h=>(by cases h)⟩
  rw[SK rfl]
  show JE (isName:=isName) l (M+(p-p)) p [] ev=JE (isName:=isName) l M p [] false
  rw[Nat.sub_self]
  rfl
 | succ r ih=>
  intro ev k p hp
  have hne:F6 [⟨1,r+1,k⟩]=[⟨1,r+1,k⟩]:=R1 (by simp)
  have hdec:KE [⟨1,r+1,k⟩]=[⟨1,r,k+1⟩]:=rfl
  have hcont:∀ M,JE (isName:=isName) l M p [⟨1,r+1,k⟩] ev=GS (isName:=isName) l M p [⟨1,r+1,k⟩] ev:=fun M=>by unfold JE;rw[if_neg (by simp)]
  have hw:LZ [⟨1,r+1,k⟩]=9:=rfl
  rw[hne]
  simp only[hcont]
  unfold EG
  have bad:∀ M,0<M→(l[p]?=none∨∃ x,l[p]?=some x∧(CD (HH ev l[p]?) x.kind&&DU isName x)=false)→GS (isName:=isName) l M p [⟨1,r+1,k⟩] ev=some p:=by
   intro M hM h
   obtain⟨M,rfl⟩:∃ M',M=M'+1:=⟨M-1,by omega⟩
   rcases h with h | ⟨x,hx,hb⟩
   ·simp[GS,KL,h]
   ·simp only[GS,KL,hx,hw]
    cases hf:DU isName x with
    | false=>simp
    | true=>
     rw[hf,Bool.and_true,hx] at hb
     simp only[HH,MU] at hb
     cases hs:FK 9 x.kind with
     | false=>simp
     | true=>
      rcases X7.2.2 hs with h0 | h1
      ·have hn:=(X7.1 h0).2.1
       simp only[hn,Bool.or_false] at hb
       cases ev with
       | false=>simp[h0] at hb
       | true=>simp[h0]
      ·simp[h1] at hb
  cases m with
  | zero=>
   have hx:l[p]?=none:=List.getElem?_eq_none (by omega)
   simp only[BS,Bool.false_eq_true,if_false]
   exact⟨fun h=>(by cases h),fun _ M hM=>bad M (by omega) (.inl hx)⟩
  | succ m=>
   unfold BS
   cases hx:l[p]? with
   | none=>
    simp only[Bool.false_eq_true,if_false]
    exact⟨fun h=>(by cases h),fun _ M hM=>bad M (by omega) (.inl hx)⟩
   | some x=>
    simp only
    rw[hx] at bad
    cases hb:(CD (HH ev (some x)) x.kind&&DU isName x) with
    | false=>
     simp only[Bool.false_eq_true,if_false]
     exact⟨fun h=>(by cases h),fun _ M hM=>bad M (by omega) (.inr ⟨x,rfl,hb⟩)⟩
    | true=>
     simp only[if_true]
     have hs:=(Bool.and_eq_true_iff.1 hb).1
     have hfit:=(Bool.and_eq_true_iff.1 hb).2
     have hev:MU (some x)=CD 1 x.kind:=rfl
     have facts:FK 9 x.kind=true∧x.kind≠1∧¬ (ev=true∧CD 0 x.kind=true):=by
      unfold HH at hs
      split at hs
      ·rename_i hc
       have:=X7.2.1 hs
       exact⟨this.1,this.2.2,fun h=>by rw[this.2.1] at h;cases h.2⟩
      ·rename_i hc
       have:=X7.1 hs
       refine⟨this.1,this.2.2,fun h=>hc ?_⟩
       rw[h.1];rfl
     have hrun:∀ M,GS (isName:=isName) l (M+1) p [⟨1,r+1,k⟩] ev=JE (isName:=isName) l M (p+1) (F6 (⟨x.kind,x.kids.toNat,0⟩ :: [⟨1,r,k+1⟩])) (ev||CD 1 x.kind):=by
      intro M
      simp only[GS,KL,hx,hw,facts.1,hfit,Bool.and_self,if_true,true_and,hdec]
      rw[if_neg facts.2.2]
      rfl
     obtain⟨b1,b2⟩:=mA (Rc (isName:=isName) (l:=l) m) facts.2.1 [⟨1,r,k+1⟩] (ev||CD 1 x.kind) x.kids.toNat 0 (p+1) (by omega)
     have hge:=Y8 (g:=fun k next=>BS isName l m next (BY x.kind k)) (fun k p=>Q0 m p _) x.kids.toNat 0 (p+1)
     generalize hq:EQ (fun k next=>BS isName l m next (BY x.kind k)) x.kids.toNat 0 (p+1)=q at b1 b2 hge
     cases hqb:q.2 with
     | false=>
      simp only[Bool.false_eq_true,if_false]
      refine⟨fun h=>(by cases h),fun _ M hM=>?_⟩
      obtain⟨M,rfl⟩:∃ M',M=M'+1:=⟨M-1,by omega⟩
      rw[hrun,b2 hqb M (by omega)]
     | true=>
      simp only[if_true]
      rw[hev]
      obtain⟨c1,c2⟩:=ih (ev||CD 1 x.kind) (k+1) q.1 (by omega)
      have hge2:=mW (isName:=isName) (l:=l) (m:=m+1) r (ev||CD 1 x.kind) q.1
      refine⟨fun h M=>?_,fun h M hM=>?_⟩
      ·have:=b1 hqb (M+((EG isName l (m+1) r (ev||CD 1 x.kind) q.1).1-q.1))
       rw[c1 h M] at this
       rw[← this,← hrun]
       congr 1
       omega
      ·have:=b1 hqb (M-(q.1-p))
       rw[c2 h _ (by omega)] at this
       rw[← this,← hrun]
       congr 1
       omega
theorem Je {g:Nat→Nat→Nat × Bool} {b:Nat} (hg:∀ k p,p≤b→(g k p).1≤b):∀ r k p,p≤b→(EQ g r k p).1≤b:=by
 intro r
 induction r with
 | zero=>intro k p hp;exact hp
 | succ r ih=>
  intro k p hp
  unfold EQ
  split
  ·exact ih _ _ (hg k p hp)
  ·exact hg k p hp
theorem XW {l:List AC}:∀ m at_ what,at_≤l.length→(BS isName l m at_ what).1≤l.length:=by
 intro m
 induction m with
 | zero=>intro at_ what h;exact h
 | succ m ih=>
  intro at_ what h
  unfold BS
  split
  ·exact h
  ·rename_i x hx
   have hlt:at_<l.length:=(List.getElem?_eq_some_iff.1 hx).1
   split
   ·exact Je (fun k p hp=>ih p _ hp) _ _ _ hlt
   ·exact h
theorem qO {l:List AC} {m:Nat}:∀ r ev p,p≤l.length→(EG isName l m r ev p).1≤l.length:=by
 intro r
 induction r with
 | zero=>intro ev p hp;exact hp
 | succ r ih=>
  intro ev p hp
  unfold EG
  split
  ·exact ih _ _ (XW m p _ hp)
  ·exact XW m p _ hp
theorem Hy {l:List AC} {M:Nat} (hM:l.length<M):GS (isName:=isName) l M 0 [] false=IT isName l:=by
 obtain⟨M,rfl⟩:∃ M',M=M'+1:=⟨M-1,by omega⟩
 unfold IT G5
 cases hx:l[0]? with
 | none=>simp[GS,KL,hx]
 | some x=>
  have hlt:0<l.length:=(List.getElem?_eq_some_iff.1 hx).1
  have h8:∀ k,FK 8 k=CD 8 k:=fun k=>rfl
  have hw:LZ []=8:=rfl
  simp only
  cases hb:(CD 8 x.kind&&DU isName x) with
  | false=>simp[GS,KL,hx,hw,h8,hb]
  | true=>
   simp only[if_true]
   have hk:x.kind=1:=by
    have:=(Bool.and_eq_true_iff.1 hb).1
    simpa [CD] using this
   have hrun:GS (isName:=isName) l (M+1) 0 [] false=JE (isName:=isName) l M 1 (F6 [⟨1,x.kids.toNat,0⟩]) false:=by
    simp only[GS,KL,hx,hw,h8,hb,if_true]
    simp only[hk,show ((8:Int)=9)=False by simp,false_and,if_false]
    rfl
   rw[hrun]
   obtain⟨c1,c2⟩:=Fx (isName:=isName) (l:=l) (m:=l.length+1) x.kids.toNat false 0 1 (by omega)
   have hge:=mW (isName:=isName) (l:=l) (m:=l.length+1) x.kids.toNat false 1
   have hle:=Kf (isName:=isName) (l:=l) (m:=l.length+1) x.kids.toNat false 1 (by omega)
   have hle':=qO (isName:=isName) (l:=l) (m:=l.length+1) x.kids.toNat false 1 (by omega)
   generalize EG isName l (l.length+1) x.kids.toNat false 1=q at c1 c2 hge hle hle'
   cases hq:q.2 with
   | true=>
    have:=hle hq
    have h1:=c1 hq (M-(q.1-1))
    rw[show M-(q.1-1)+(q.1-1)=M by omega] at h1
    rw[h1]
    unfold JE
    rw[if_pos rfl]
    by_cases hl:q.1=l.length
    ·rw[if_neg (by omega),if_pos ⟨rfl,hl⟩]
    ·rw[if_pos (by omega),if_neg (fun h=>hl h.2)]
   | false=>
    rw[if_neg (fun h=>by cases h.1),c2 hq M (by omega)]
end
end Go.Proofs.YtipekdhneagdbaaDoor
namespace Go.Sx
open Go
set_option linter.unusedSimpArgs false
set_option linter.unusedVariables false
set_option maxHeartbeats 64000000
def M2:Value→Bool
 | .func (.func _) f c=>f.isEmpty&&c.isEmpty
 | v=>flat v
theorem Ip {ρ ρ':BK} {v V:Value} (hp:M2 v=true) (h:AH ρ v V):AH ρ' v V:=by
 unfold M2 at hp
 split at hp
 ·rename_i k f c
  simp only[Bool.and_eq_true,Array.isEmpty_iff] at hp
  obtain⟨rfl,rfl⟩:=hp
  obtain⟨f',c',rfl,h1,h2⟩:=ZH h
  have e1:f'=#[]:=by
   have:=h1.length
   simp at this
   exact Array.eq_empty_of_size_eq_zero this.symm
  have e2:c'=#[]:=by
   have:=h2.length
   simp at this
   exact Array.eq_empty_of_size_eq_zero this.symm
  subst e1
  subst e2
  exact .func .nil .nil
 ·rw[NE hp h]
  exact J1 hp
theorem tM {ρ ρ':BK} {l:List Value} {m:List Value} (hp:l.all M2=true) (h:BB (AH ρ) l m):BB (AH ρ') l m:=by
 induction h with
 | nil=>exact .nil
 | cons h _ ih=>
  simp only[List.all_cons,Bool.and_eq_true] at hp
  exact .cons (Ip hp.1 h) (ih hp.2)
end Go.Sx
