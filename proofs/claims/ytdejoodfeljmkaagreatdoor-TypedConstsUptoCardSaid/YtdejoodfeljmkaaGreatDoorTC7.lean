/- Part 7 of what the claim leans on: 6 texts laid one behind another. -/
import Derived.Test.YtdejoodfeljmkaaGreatDoorTC6
import Derived.Below
import Derived.ChangeSame
import Derived.Lib.LaidTab
import Derived.ProofKit
namespace Go.Sx
open Go Go.RowKit Go.WideShapes Go.ChangeShapes
set_option linter.unusedSimpArgs false
set_option linter.unusedVariables false
set_option maxHeartbeats 64000000
section
variable {H:Type} {enc:TypeId × Value→H} {P:Program}
theorem J87 {f:Func} {s:ChangeSpec} {apart fresh handsOn again:Bool} {W W':World} {args:Array Value} {v:Value} {ds gs:List (DataW H)} {before pa pv:List MemPlace}
  (hW:DataW.Whole enc P f.params.toList s.vars apart W args.toList ds gs before)
  (hres:∀ (b:Nat) (sp:Nat→Bool) (hd:Bool),DataW.TrodAll enc P W' b sp hd f.resultTypes.toList (v.resultList f.resultTypes.size) (s.fn H (ds++gs)).results [])
  (hargs:∀ sp:Nat→Bool,(∀ p∈before,sp p.block=true)→DataW.TrodAll enc P W' 0 sp true f.params.toList args.toList (s.fn H (ds++gs)).args pa)
  (hvars:∀ sp:Nat→Bool,(∀ p∈before,sp p.block=true)→DataW.TrodVars enc P W' sp s.vars (s.fn H (ds++gs)).vars pv)
  (hps:before=pa++pv) (hb:Below W.heap.size W W')
  (hok:∀ (j:Nat) (t:TypeId) (r:Value),f.resultTypes[j]?=some t→(v.resultList f.resultTypes.size)[j]?=some r→Value.okWide P W' .any 0 t r) :
  s.post enc P f apart fresh handsOn again W args v W':=by
 have hlt:∀ p∈before,p.block<W.heap.size:=fun p hp=>hW.lt p hp
 have hold:∀ p∈before,(fun b=>decide (b<W.heap.size)) p.block=true:=fun p hp=>by simpa using hlt p hp
 refine⟨ds,gs,before,[],pa,pv,hW,hres _ _ _,hargs _ hold,hvars _ hold,World.keptBut_mono (fun p hp=>⟨hp,?_⟩) (hb.frame (· ∈ before)),fun _=>?_⟩
 ·rw[hps,List.mem_append] at hp
  exact Or.inr hp
 ·obtain⟨_,_,_,_,_,hz,hn⟩:=hW
  refine⟨hok,_,_,([]++pa)++pv,⟨[]++pa,pv,trodAll_append (hargs _ (fun _ _=>rfl)) (hres _ _ _),hvars _ (fun _ _=>rfl),rfl,?_,?_⟩,?_⟩
  ·intro b off hp
   have hin:MemPlace.cell b off∈before:=by rw[hps];simpa using hp
   rw[hb.frozen (hlt _ hin)]
   exact hz b off hin
  ·intro ha
   have:=hn ha
   rw[hps] at this
   simpa using this
  ·intro p hp _
   rw[hps]
   simpa using hp
end
theorem J89 {H:Type} {enc:TypeId × Value→H} {P:Program} {w:World} {base:Nat} {sp:Nat→Bool} {held:Bool} {fuel:Nat} {t e:TypeId} {n:Nat} {cs:List Value} {zs:List (List UInt8)} {p:List MemPlace}
  (ht:P.underlying t=some (.array n e)) (he:P.underlying e=some .string) (hce:P.cellsOf e=1) (hct:P.cellsOf t=n)
  (h:DataW.trod enc P w base sp held fuel t cs=some (.agg (zs.map fun z=>.lit (.string z)),p)):cs=zs.map fun z=>Value.string ⟨z.toArray⟩:=by
 cases fuel with
 | zero=>simp[DataW.trod] at h
 | succ fuel=>
  simp only[DataW.trod,ht,hce,hct,Nat.mul_one] at h
  split at h
  ·rename_i hl
   obtain⟨xs,hm,hx⟩:=Option.map_eq_some_iff.1 h
   have hxs:xs.map (·.1)=zs.map fun z=>(DataW.lit (.string z):DataW H):=by
    have:=congrArg Prod.fst hx
    simpa using this
   have hxl:xs.length=n:=by simpa using Lib.mapM_length hm
   have hzl:zs.length=n:=by
    have:=congrArg List.length hxs
    simp at this
    omega
   apply List.ext_getElem?
   intro i
   by_cases hi:i<n
   ·obtain⟨b,hb,hf⟩:=Lib.mapM_at hm i i (by simp[hi])
    obtain⟨z,hc,rfl,_⟩:=DataW.trod_string he hf
    have h1:cs[i]?=some (.string z):=by
     have:=congrArg (·[0]?) hc
     simpa [List.getElem?_take,List.getElem?_drop] using this
    have h2:(xs.map (·.1))[i]?=some (DataW.lit (.string z.data.toList):DataW H):=by simp[hb]
    rw[hxs] at h2
    simp only[List.getElem?_map,Option.map_eq_some_iff,DataW.lit.injEq,Lit.string.injEq] at h2
    obtain⟨z',hz',hz⟩:=h2
    subst hz
    simp[h1,hz']
   ·rw[List.getElem?_eq_none (by omega),List.getElem?_eq_none (by simp;omega)]
  ·cases h
theorem J5Q {P:Program} {W:World} {name:String} {zs:List (List UInt8)} {rest:List (String × DataW Unit)} {g:Nat} {t e:TypeId} {n:Nat}
  (hg:P.globalNamed name=some g) (hty:(P.globals[g]?).map (·.type)=some t) (ht:P.underlying t=some (.array n e)) (he:P.underlying e=some .string) (hce:P.cellsOf e=1) (hct:P.cellsOf t=n)
  (h:laidMet P ((name,.agg (zs.map fun z=>.lit (.string z))) :: rest) W):∃ CS ty fr,W.heap[g]?=some (.cells CS ty fr)∧CS.toList=zs.map fun z=>Value.string ⟨z.toArray⟩:=by
 obtain⟨ps,⟨g',t',cs,fuel,p,q,hg',ht',hvar,hd,_,_⟩,_⟩:=h
 obtain rfl:=Option.some.inj (hg.symm.trans hg')
 obtain rfl:=Option.some.inj (hty.symm.trans ht')
 have hcs:=J89 ht he hce hct hd
 simp only[World.var?,hg,Option.bind_some] at hvar
 split at hvar
 ·rename_i CS ty fr hb
  cases hvar
  exact⟨_,_,_,hb,hcs⟩
 ·cases hvar
theorem Jcz {P:Program} {W:World} {ρ:Map} {h:SHeap} (hl:h.good) (hd:∀ i,h.next≤i→ρ i=none) (hg:∀ g,g<P.globals.size→∃ L,ρ g=some L∧L.b=g∧L.d=0)
  (ho:∀ i,i<h.next→∃ cs ty g L CS ty' fr,h.get i=.row cs ty g true∧ρ i=some L∧W.heap[L.b]?=some (.cells CS ty' fr)∧∀ (k:Nat) (v:Value),cs[k]?=some v→∃ V,CS[L.d+k]?=some V∧vrel ρ v V) :
  Rel P ρ h W∧∀ i,¬ wr (h.get i):=by
 have hw:∀ i,¬ wr (h.get i):=fun i hw=>by
  rcases Nat.lt_or_ge i h.next with hi | hi
  ·obtain⟨cs,ty,g,L,CS,ty',fr,h1,_⟩:=ho i hi
   rw[h1] at hw
   cases hw
  ·rw[J3j hi] at hw
   exact hw
 refine⟨⟨hl,hd,hg,fun i=>?_,fun i j L L' hwi=>absurd hwi (hw i)⟩,hw⟩
 rcases Nat.lt_or_ge i h.next with hi | hi
 ·obtain⟨cs,ty,g,L,CS,ty',fr,h1,h2,h3,h4⟩:=ho i hi
  rw[h1]
  exact⟨L,CS,ty',fr,h2,h3,h4,fun h=>by cases h⟩
 ·rw[J3j hi]
  trivial
theorem Gr.below {W W':World} (h:Gr W W'):Below W.heap.size W W':=⟨h.os,h.tape,h.output,h.size,h.blk⟩
end Go.Sx
namespace Go.Sx
open Go
set_option linter.unusedSimpArgs false
set_option linter.unusedVariables false
set_option maxHeartbeats 64000000
noncomputable def J0L (P:Program) (call:J0r) (n:Nat):J0r:=fun f args h=>
 match P.funcs[f]? with
 | some fn=>match fn.body with
  | some c=>if args.length≤fn.ntmps then
    match J1e P call n c ⟨J00 0 args .leaf,h⟩ with
    | some (.normal,s) | some (.ret,s)=>match resS P s fn.results.toList with
     | some [v]=>some (v,s.h)
     | some vs=>some (.tuple vs.toArray,s.h)
     | none=>none
    | _=>none
   else none
  | none=>none
 | none=>none
noncomputable def J3U (P:Program) (base:J0r):Nat→J0r
 | 0,_,_,_=>none
 | n+1,f,args,h=>match base f args h with
  | some r=>some r
  | none=>J0L P (J3U P base n) n f args h
def J1G (call:J0r):Prop:=∀ f args h v h',call f args h=some (v,h')→SNx h h'
theorem J6m {P:Program} (hP:J5Y P=true) {call:J0r} (ih1:J1x P call) (ih2:J1G call) (fuel:Nat):J1x P (J0L P call fuel)∧J1G (J0L P call fuel):=by
 simp only[J5Y,Bool.and_eq_true] at hP
 obtain⟨hm,hall⟩:=hP
 have key:∀ f args h v h',J0L P call fuel f args h=some (v,h')→∃ fn c e s vs,P.funcs[f]?=some fn∧fn.body=some c∧args.length≤fn.ntmps∧(e=.normal∨e=.ret) ∧
   J1e P call fuel c ⟨J00 0 args .leaf,h⟩=some (e,s)∧resS P s fn.results.toList=some vs∧v=resV vs∧h'=s.h:=by
  intro f args h v h' hs
  simp only[J0L] at hs
  split at hs
  ·rename_i fn hfn
   split at hs
   ·rename_i c hc
    split at hs
    ·rename_i hlen
     split at hs
     ·rename_i s hcode
      obtain⟨vs,h1,h2,h3⟩:=J8h hs
      exact⟨fn,c,.normal,s,vs,hfn,hc,hlen,.inl rfl,hcode,h1,h2,h3⟩
     ·rename_i s hcode
      obtain⟨vs,h1,h2,h3⟩:=J8h hs
      exact⟨fn,c,.ret,s,vs,hfn,hc,hlen,.inr rfl,hcode,h1,h2,h3⟩
     ·cases hs
    ·cases hs
   ·cases hs
  ·cases hs
 have hfOK : ∀ (f : FuncId) (fn : Func) (c : Code), P.funcs[f]? = some fn → fn.body = some c → J3v P fn.ntmps c = true ∧ (fn.name == "runtime.NumGoroutine") = false := by
  intro f fn c hfn hc
  have:=List.all_eq_true.1 hall fn (List.mem_of_getElem? (i:=f) (by simpa using hfn))
  unfold Je1 at this
  rw[hc] at this
  simp only[Bool.and_eq_true,Bool.not_eq_true'] at this
  exact this
 refine⟨fun f args h v h' hs=>?_,fun f args h v h' hs=>?_⟩
 ·obtain⟨fn,c,e,s,vs,hfn,hc,hlen,he,hcode,hres,hv,hh⟩:=key f args h v h' hs
  obtain⟨hcOK,hname⟩:=hfOK f fn c hfn hc
  refine⟨⟨fn,c,hfn,hc,hname⟩,fun ρ W ARGS hR hargs=>?_⟩
  have hsz:ARGS.size=args.length:=by have:=hargs.length;simpa using this.symm
  refine calls_of_wp hfn hc (JcG ih1 ih2 hm fuel c hcOK hcode hR ?_ (by simp;omega) fun A' W' ρ' hN hT' hn' hd'=>?_)
  ·intro t
   simp only[J8H]
   show vrel ρ _ ((ARGS++Array.replicate (fn.ntmps-ARGS.size) undef).getD t undef)
   rw[Array.getD_eq_getD_getElem?,Array.getElem?_append]
   by_cases ht:t<args.length
   ·rw[if_pos (by omega),if_pos (by omega)]
    obtain⟨b,hb,hr⟩:=hargs.get (i:=t) (a:=args[t]) (by simp[ht])
    have hb':ARGS[t]?=some b:=by simpa using hb
    rw[hb']
    simpa [ht] using hr
   ·rw[if_neg (by omega),if_neg (by omega),Array.getElem?_replicate]
    have:(Tr.leaf).get t=undef:=rfl
    rw[this]
    split <;> exact J32
  ·obtain⟨V,hV,hr⟩:=J7f hres hN.rel hT'
   have hb:bodyPost P fn (fun e W'=>∃ V ρ',e=.returned V∧Nx P ρ h W ρ' h' W'∧vrel ρ' v V) .normal A' W':=⟨hd',V,hV,V,ρ',rfl,by rw[hh];exact hN,by rw[hv];exact hr⟩
   rcases he with rfl | rfl
   ·exact hb
   ·exact hb
 ·obtain⟨fn,c,e,s,vs,hfn,hc,hlen,he,hcode,hres,hv,hh⟩:=key f args h v h' hs
  rw[hh]
  exact Ja7 ih2 fuel c hcode
theorem J6f {P:Program} (hP:J5Y P=true) {base:J0r} (hb:J1x P base) (hs:J1G base):∀ fuel,J1x P (J3U P base fuel)∧J1G (J3U P base fuel):=by
 intro fuel
 induction fuel with
 | zero=>exact⟨fun f args h v h' hs=>by simp[J3U] at hs,fun f args h v h' hs=>by simp[J3U] at hs⟩
 | succ fuel ih=>
  obtain⟨i1,i2⟩:=J6m hP ih.1 ih.2 fuel
  refine⟨fun f args h v h' hh=>?_,fun f args h v h' hh=>?_⟩
  ·simp only[J3U] at hh
   split at hh
   ·rename_i r hr;cases hh;exact hb f args h v h' hr
   ·exact i1 f args h v h' hh
  ·simp only[J3U] at hh
   split at hh
   ·rename_i r hr;cases hh;exact hs f args h v h' hr
   ·exact i2 f args h v h' hh
noncomputable def J4e (f0:FuncId) (o:SObj):J0r:=fun f args h=>by
 classical
 exact if f=f0∧args=[]∧h.get 0=o then some (.bool true,h) else none
theorem Jc4 {P:Program} {call:J0r} (hC:J1x P call) {f0:FuncId} {cs:List Value} {ty:TypeId} {g:Bool} {h':SHeap} (hgl:P.globals.size=1) (hflat:cs.all J1i=true)
  (hs:call f0 [] ⟨1,0,.node (.row cs ty g true) .leaf .leaf⟩=some (.bool true,h')):J1x P (J4e f0 (.row cs ty g true))∧J1G (J4e f0 (.row cs ty g true)):=by
 have key:∀ f args h v h1,J4e f0 (.row cs ty g true) f args h=some (v,h1)→f=f0∧args=[]∧h.get 0=.row cs ty g true∧v=.bool true∧h1=h:=by
  intro f args h v h1 he
  unfold J4e at he
  split at he
  ·rename_i hc
   cases he
   exact⟨hc.1,hc.2.1,hc.2.2,rfl,rfl⟩
  ·cases he
 refine⟨fun f args h v h1 he=>?_,fun f args h v h1 he=>?_⟩
 ·obtain⟨rfl,rfl,hg,rfl,rfl⟩:=key f args h v h1 he
  obtain⟨hfn,hcall⟩:=hC f [] _ _ _ hs
  refine⟨hfn,fun ρ W ARGS hR hargs=>?_⟩
  obtain⟨L0,hL0,hb0,hd0⟩:=hR.glob 0 (by omega)
  have ho:=hR.obj 0
  rw[hg] at ho
  obtain⟨L,CS,ty',fr,hL,hW,hcs,_⟩:=ho
  have hro:=Jcz (P:=P) (W:=W) (ρ:=fun i=>if i=0 then some L0 else none) (h:=⟨1,0,.node (.row cs ty g true) .leaf .leaf⟩) rfl (fun i hi=>by
    have:1≤i:=hi
    rw[if_neg (by omega)]) (fun g hg=>by
    obtain rfl:g=0:=by omega
    exact⟨L0,rfl,hb0,hd0⟩) (fun i hi=>by
    have:i<1:=hi
    obtain rfl:i=0:=by omega
    rw[hL0] at hL
    cases hL
    exact⟨cs,ty,g,L0,CS,ty',fr,rfl,rfl,hW,fun k v hv=>by
     obtain⟨V,hV,hr⟩:=hcs k v hv
     have hf:=List.all_eq_true.1 hflat v (List.mem_of_getElem? hv)
     rw[J1Q hf hr] at hV
     exact⟨v,hV,.flat hf⟩⟩)
  refine(hcall _ W ARGS hro.1 (by rw[List.length_eq_zero_iff.1 hargs.length.symm];exact .nil)).mono fun e W' ⟨V,ρ',he,hN,hv⟩=>⟨V,ρ,he,(Nx.refl hR).grow (hN.fr.gr hro.2),?_⟩
  rw[J3G hv]
  exact .flat rfl
 ·obtain⟨rfl,rfl,hg,rfl,rfl⟩:=key f args h v h1 he
  exact .refl _
section
variable {P:Program} {call:J0r} {n:Nat}
def WS (P:Program) (call:J0r) (n:Nat) (c:Code) (s:St) (Q:SExit→St→Prop):Prop:=∃ e s',J1e P call n c s=some (e,s')∧Q e s'
def WL (P:Program) (call:J0r) (ops:Array Oper) (l:List Oper) (s:St) (Q:St→Prop):Prop:=∃ s',seqS P call ops l s=some s'∧Q s'
def WD (P:Program) (call:J0r) (ops:Array Oper) (start i:Nat) (l:List Oper) (s:St) (Q:St→Prop):Prop:=∃ s',seqD P call ops start i l s=some s'∧Q s'
def SExit.on (K:St→Prop) (Q:SExit→St→Prop):SExit→St→Prop
 | .normal,s=>K s
 | e,s=>Q e s
def SExit.inB (id:Nat) (Q:SExit→St→Prop):SExit→St→Prop
 | .exit i,s=>if i=id then Q .normal s else Q (.exit i) s
 | e,s=>Q e s
variable {s:St} {Q:SExit→St→Prop}
theorem WS.skip (h:Q .normal s):WS P call n .skip s Q:=⟨_,_,rfl,h⟩
theorem WS.exit {id:Nat} (h:Q (.exit id) s):WS P call n (.exit id) s Q:=⟨_,_,rfl,h⟩
theorem WS.ret (h:Q .ret s):WS P call n .ret s Q:=⟨_,_,rfl,h⟩
theorem WS.seq {a b:Code} (h:WS P call n a s (SExit.on (fun s'=>WS P call n b s' Q) Q)):WS P call n (.seq a b) s Q:=by
 obtain⟨e,s',h1,h2⟩:=h
 cases e with
 | normal=>
  obtain⟨e2,s2,h3,h4⟩:=h2
  exact⟨e2,s2,by simp only[J1e,h1,h3],h4⟩
 | exit id=>exact⟨_,_,by simp only[J1e,h1],h2⟩
 | ret=>exact⟨_,_,by simp only[J1e,h1],h2⟩
theorem WS.cond {c:Operand} {a b:Code} {t:Bool} (hc:ev s.T c=.bool t) (h1:t=true→WS P call n a s Q) (h2:t=false→WS P call n b s Q):WS P call n (.cond c a b) s Q:=by
 cases t with
 | true=>
  obtain⟨e,s',h3,h4⟩:=h1 rfl
  exact⟨e,s',by simp only[J1e,hc,h3],h4⟩
 | false=>
  obtain⟨e,s',h3,h4⟩:=h2 rfl
  exact⟨e,s',by simp only[J1e,hc,h3],h4⟩
theorem WS.block {id:Nat} {c:Code} (h:WS P call n c s (SExit.inB id Q)):WS P call n (.block id c) s Q:=by
 obtain⟨e,s',h1,h2⟩:=h
 cases e with
 | normal=>exact⟨_,_,by simp only[J1e,h1],h2⟩
 | exit i=>
  by_cases hi:i=id
  ·subst hi
   exact⟨.normal,s',by simp only[J1e,h1,if_true],by simpa [SExit.inB] using h2⟩
  ·exact⟨.exit i,s',by simp only[J1e,h1,hi,if_false],by simpa [SExit.inB,hi] using h2⟩
 | ret=>exact⟨_,_,by simp only[J1e,h1],h2⟩
theorem WS.region {id:Nat} {ops:Array Oper} (h:WL P call ops ops.toList s (Q .normal)):WS P call n (.region id ops false) s Q:=by
 obtain⟨s',h1,h2⟩:=h
 exact⟨_,_,by simp only[J1e,h1];rfl,h2⟩
theorem WS.draw {id:Nat} {ops:Array Oper} (h:WD P call ops s.h.next 0 ops.toList s (Q .normal)):WS P call n (.region id ops true) s Q:=by
 obtain⟨s',h1,h2⟩:=h
 exact⟨_,_,by simp only[J1e,h1];rfl,h2⟩
theorem WS.loop {c:Code} (I:Nat→St→Prop) (N:Nat) (hN:N<n) (h0:I 0 s)
  (hr:∀ k s,k≤N→I k s→WS P call n c s (SExit.on (fun s'=>k<N∧I (k+1) s') Q)):WS P call n (.loop c) s Q:=by
 have key:∀ (m k:Nat) (s:St),k+m=N→I k s→∀ f,m<f→∃ e s',J5m (J1e P call n c) f s=some (e,s')∧Q e s':=by
  intro m
  induction m with
  | zero=>
   intro k s hk hI f hf
   obtain⟨f,rfl⟩:∃ f',f=f'+1:=⟨f-1,by omega⟩
   obtain⟨e,s',h1,h2⟩:=hr k s (by omega) hI
   cases e with
   | normal=>obtain⟨hk',_⟩:=h2;omega
   | exit id=>exact⟨_,_,by simp only[J5m,h1],h2⟩
   | ret=>exact⟨_,_,by simp only[J5m,h1],h2⟩
  | succ m ih=>
   intro k s hk hI f hf
   obtain⟨f,rfl⟩:∃ f',f=f'+1:=⟨f-1,by omega⟩
   obtain⟨e,s',h1,h2⟩:=hr k s (by omega) hI
   cases e with
   | normal=>
    obtain⟨hk',hI'⟩:=h2
    obtain⟨e2,s2,h3,h4⟩:=ih (k+1) s' (by omega) hI' f (by omega)
    exact⟨e2,s2,by simp only[J5m,h1,h3],h4⟩
   | exit id=>exact⟨_,_,by simp only[J5m,h1],h2⟩
   | ret=>exact⟨_,_,by simp only[J5m,h1],h2⟩
 obtain⟨e,s',h1,h2⟩:=key N 0 s (by omega) h0 n hN
 exact⟨e,s',by simp only[J1e,h1],h2⟩
theorem WS.mono {c:Code} {Q':SExit→St→Prop} (h:WS P call n c s Q) (hq:∀ e s,Q e s→Q' e s):WS P call n c s Q':=by
 obtain⟨e,s',h1,h2⟩:=h
 exact⟨e,s',h1,hq _ _ h2⟩
theorem WL.nil {ops:Array Oper} {K:St→Prop} (h:K s):WL P call ops [] s K:=⟨s,rfl,h⟩
theorem WL.step {ops:Array Oper} {o:Oper} {l:List Oper} {K:St→Prop} {v:Value} {h':SHeap} (hw:J27 ops s.T o=true) (hs:sop P call s.T s.h o.op=some (v,h')) (h:WL P call ops l ⟨s.T.put o.dst v,h'⟩ K):WL P call ops (o :: l) s K:=by
 obtain⟨s',h1,h2⟩:=h
 refine⟨s',?_,h2⟩
 simp only[seqS,J2P,hw,if_true,hs,h1]
theorem WL.pass {ops:Array Oper} {o:Oper} {l:List Oper} {K:St→Prop} (hw:J27 ops s.T o=false) (h:WL P call ops l ⟨s.T.put o.dst undef,s.h⟩ K):WL P call ops (o :: l) s K:=by
 obtain⟨s',h1,h2⟩:=h
 refine⟨s',?_,h2⟩
 simp[seqS,J2P,hw,h1]
theorem J6D {f:FuncId} {args:List Value} {h:SHeap} {fn:Func} {c:Code} (hf:P.funcs[f]?=some fn) (hb:fn.body=some c) (hl:args.length≤fn.ntmps) {R:Value→SHeap→Prop}
  (hw:WS P call n c ⟨J00 0 args .leaf,h⟩ (fun e s=>(e=.normal∨e=.ret)∧∃ vs,resS P s fn.results.toList=some vs∧R (resV vs) s.h)):∃ v h',J0L P call n f args h=some (v,h')∧R v h':=by
 obtain⟨e,s,h1,he,vs,h2,h3⟩:=hw
 refine⟨_,_,?_,h3⟩
 have hm:(match some vs with
     | some [v]=>some (v,s.h)
     | some vs=>some (.tuple vs.toArray,s.h)
     | none=>none)=some (resV vs,s.h):=by
  match vs with
  | []=>rfl
  | [u]=>rfl
  | u :: u' :: us=>rfl
 rcases he with rfl | rfl <;> (simp only[J0L,hf,hb,hl,if_true,h1,h2];exact hm)
end
section
variable {P:Program} {t:TypeId} {x y:Operand} {k:IntKind} {a b:Int}
theorem Jjl:binS P .lss t x y (.int k a) (.int k b)=some (.bool (decide (a<b))):=by simp[binS,flat,J1i,J0k,Go.eqGuard,Go.binOp,Op.intCmp,Bind.bind,Sem.bind,Pure.pure]
theorem J21:binS P .leq t x y (.int k a) (.int k b)=some (.bool (decide (a≤b))):=by simp[binS,flat,J1i,J0k,Go.eqGuard,Go.binOp,Op.intCmp,Bind.bind,Sem.bind,Pure.pure]
theorem J23:binS P .gtr t x y (.int k a) (.int k b)=some (.bool (decide (a>b))):=by simp[binS,flat,J1i,J0k,Go.eqGuard,Go.binOp,Op.intCmp,Bind.bind,Sem.bind,Pure.pure]
theorem Jji:binS P .geq t x y (.int k a) (.int k b)=some (.bool (decide (a≥b))):=by simp[binS,flat,J1i,J0k,Go.eqGuard,Go.binOp,Op.intCmp,Bind.bind,Sem.bind,Pure.pure]
theorem J24:binS P .eql t x y (.int k a) (.int k b)=some (.bool (a==b)):=by simp[binS,flat,J1i,J0k,Go.eqGuard,Go.binOp,Op.intCmp,Bind.bind,Sem.bind,Pure.pure]
theorem J4h:binS P .neq t x y (.int k a) (.int k b)=some (.bool (a != b)):=by simp[binS,flat,J1i,J0k,Go.eqGuard,Go.binOp,Op.intCmp,Bind.bind,Sem.bind,Pure.pure]
theorem J22:binS P .add t x y (.int k a) (.int k b)=some (.int k (k.wrap (a+b))):=by simp[binS,flat,J1i,J0k,Go.eqGuard,Go.binOp,Op.intArith,Bind.bind,Sem.bind,Pure.pure]
theorem JjE:binS P .sub t x y (.int k a) (.int k b)=some (.int k (k.wrap (a-b))):=by simp[binS,flat,J1i,J0k,Go.eqGuard,Go.binOp,Op.intArith,Bind.bind,Sem.bind,Pure.pure]
theorem Jjt:binS P .mul t x y (.int k a) (.int k b)=some (.int k (k.wrap (a*b))):=by simp[binS,flat,J1i,J0k,Go.eqGuard,Go.binOp,Op.intArith,Bind.bind,Sem.bind,Pure.pure]
theorem JjO (hb:b≠0):binS P .quo t x y (.int k a) (.int k b)=some (.int k (k.wrap (a.tdiv b))):=by simp[binS,flat,J1i,J0k,Go.eqGuard,Go.binOp,Op.intDiv,Bind.bind,Sem.bind,Pure.pure,hb]
theorem Jjy (hb:b≠0):binS P .rem t x y (.int k a) (.int k b)=some (.int k (a.tmod b)):=by simp[binS,flat,J1i,J0k,Go.eqGuard,Go.binOp,Op.intDiv,Bind.bind,Sem.bind,Pure.pure,hb]
end
def eqV1:Value→Value→Bool
 | .bool a,.bool b=>a==b
 | .int k a,.int k' b=>decide (k=k')&&decide (a=b)
 | .string a,.string b=>decide (a=b)
 | .pointer none,.pointer none=>true
 | .pointer (some a),.pointer (some b)=>decide (a=b)
 | .slice none n c,.slice none n' c'=>Nat.beq n n'&&Nat.beq c c'
 | .slice (some a) n c,.slice (some b) n' c'=>decide (a=b)&&Nat.beq n n'&&Nat.beq c c'
 | .map none,.map none=>true
 | .map (some a),.map (some b)=>Nat.beq a b
 | .nilFunc,.nilFunc=>true
 | .nilIface,.nilIface=>true
 | _,_=>false
theorem JdE {a b:Value} (h:eqV1 a b=true):a=b:=by
 unfold eqV1 at h
 split at h <;> simp_all
def Jc1:List Value→List Value→Bool
 | [],[]=>true
 | a :: l,b :: m=>eqV1 a b&&Jc1 l m
 | _,_=>false
theorem JaM:∀ {l m:List Value},Jc1 l m=true→l=m
 | [],[],_=>rfl
 | a :: l,b :: m,h=>by
  simp only[Jc1,Bool.and_eq_true] at h
  rw[JdE h.1,JaM h.2]
 | [],_ :: _,h=>by simp[Jc1] at h
 | _ :: _,[],h=>by simp[Jc1] at h
def eqV2:Value→Value→Bool
 | .agg a,.agg b=>Jc1 a.toList b.toList
 | a,b=>eqV1 a b
theorem JcL {a b:Value} (h:eqV2 a b=true):a=b:=by
 unfold eqV2 at h
 split at h
 ·rw[Array.toList_inj.1 (JaM h)]
 ·exact JdE h
def JbY:List Value→List Value→Bool
 | [],[]=>true
 | a :: l,b :: m=>eqV2 a b&&JbY l m
 | _,_=>false
theorem JaF:∀ {l m:List Value},JbY l m=true→l=m
 | [],[],_=>rfl
 | a :: l,b :: m,h=>by
  simp only[JbY,Bool.and_eq_true] at h
  rw[JcL h.1,JaF h.2]
 | [],_ :: _,h=>by simp[JbY] at h
 | _ :: _,[],h=>by simp[JbY] at h
def eqV:Value→Value→Bool
 | .tuple a,.tuple b=>JbY a.toList b.toList
 | a,b=>eqV2 a b
theorem Jfz {a b:Value} (h:eqV a b=true):a=b:=by
 unfold eqV at h
 split at h
 ·rw[Array.toList_inj.1 (JaF h)]
 ·exact JcL h
def eqO:SObj→SObj→Bool
 | _,.dead=>true
 | .row cs ty g ro,.row cs' ty' g' ro'=>Jc1 cs cs'&&(ro'||(Nat.beq ty ty'&&(g==g')&&(ro==ro')))
 | _,_=>false
theorem Jlr {P:Program} {ρ:Map} {W:World} {i:Nat} {o o':SObj} (h:eqO o o'=true) (ho:objR P ρ W i o):objR P ρ W i o':=by
 unfold eqO at h
 split at h
 ·trivial
 ·simp only[Bool.and_eq_true,Bool.or_eq_true] at h
  obtain⟨h1,h2⟩:=h
  obtain rfl:=JaM h1
  obtain⟨L,CS,ty2,fr,e1,e2,e3,e4⟩:=ho
  rcases h2 with rfl | h2
  ·exact⟨L,CS,ty2,fr,e1,e2,e3,fun h=>by cases h⟩
  ·simp only[Bool.and_eq_true,beq_iff_eq] at h2
   obtain⟨⟨h3,rfl⟩,rfl⟩:=h2
   obtain rfl:=Nat.eq_of_beq_eq_true h3
   exact⟨L,CS,ty2,fr,e1,e2,e3,e4⟩
 ·cases h
def JmK:SObj→SObj→Bool
 | _,.dead=>true
 | .row cs ty g ro,.row cs' ty' g' ro'=>Jc1 cs cs'&&Nat.beq ty ty'&&(g==g')&&(ro==ro')
 | _,_=>false
theorem Jme {o o':SObj} (h:JmK o o'=true):o'=.dead∨o'=o:=by
 unfold JmK at h
 split at h
 ·exact .inl rfl
 ·simp only[Bool.and_eq_true,beq_iff_eq] at h
  obtain⟨⟨⟨h1,h2⟩,rfl⟩,rfl⟩:=h
  obtain rfl:=JaM h1
  obtain rfl:=Nat.eq_of_beq_eq_true h2
  exact .inr rfl
 ·cases h
def Jkh (n:Nat):Value→Bool
 | .pointer (some a)=>decide (a.block<n)
 | .slice (some a) _ _=>decide (a.block<n)
 | .map (some i)=>decide (i<n)
 | v=>J1i v
def below (n:Nat):Value→Bool
 | .agg cs=>cs.toList.all (Jkh n)
 | v=>Jkh n v
theorem Jky {ρ:Map} {n:Nat} {v V:Value} (hb:Jkh n v=true) (h:vrel ρ v V):vrel (cutm ρ n) v V:=by
 cases h with
 | flat hf=>exact .flat hf
 | ptr hL=>
  simp only[Jkh,decide_eq_true_eq] at hb
  exact .ptr (by rw[J33 hb];exact hL)
 | slice hL hc=>
  simp only[Jkh,decide_eq_true_eq] at hb
  exact .slice (by rw[J33 hb];exact hL) hc
 | sliceU hL h1 h2=>
  simp only[Jkh,decide_eq_true_eq] at hb
  exact .sliceU (by rw[J33 hb];exact hL) h1 h2
 | map hL=>
  simp only[Jkh,decide_eq_true_eq] at hb
  exact .map (by rw[J33 hb];exact hL)
 | func _ _=>simp[Jkh,J1i] at hb
 | iface _=>simp[Jkh,J1i] at hb
 | agg _=>simp[Jkh,J1i] at hb
 | tuple _=>simp[Jkh,J1i] at hb
theorem Jlx {ρ:Map} {n:Nat} {l m:List Value} (h:All2 (vrel ρ) l m) (hb:l.all (Jkh n)=true):All2 (vrel (cutm ρ n)) l m:=by
 induction h with
 | nil=>exact .nil
 | cons h _ ih=>
  simp only[List.all_cons,Bool.and_eq_true] at hb
  exact .cons (Jky hb.1 h) (ih hb.2)
theorem JlX {ρ:Map} {n:Nat} {v V:Value} (hb:below n v=true) (h:vrel ρ v V):vrel (cutm ρ n) v V:=by
 cases h with
 | agg h=>exact .agg (Jlx h hb)
 | flat hf=>exact .flat hf
 | _=>first | (refine Jky hb ?_;first | (exact .ptr ‹_›) | (exact .slice ‹_› ‹_›) | (exact .sliceU ‹_› ‹_› ‹_›) | (exact .map ‹_›) | (exact .func ‹_› ‹_›) | (exact .iface ‹_›) | (exact .tuple ‹_›))
theorem JlC {ρ:Map} {n:Nat} {l m:List Value} (h:All2 (vrel ρ) l m) (hb:l.all (below n)=true):All2 (vrel (cutm ρ n)) l m:=by
 induction h with
 | nil=>exact .nil
 | cons h _ ih=>
  simp only[List.all_cons,Bool.and_eq_true] at hb
  exact .cons (JlX hb.1 h) (ih hb.2)
def bs (l:List Nat):ByteArray:=⟨(l.map UInt8.ofNat).toArray⟩
structure Ent where
 f:FuncId
 args:List Value
 next:Nat
 need:List (Nat × SObj)
 v:Value
 outs:List SObj
noncomputable def layO (t:OTr):List (Nat × SObj)→OTr
 | []=>t
 | (i,o) :: l=>layO (t.set i o) l
noncomputable def Ent.hs (e:Ent):SHeap:=⟨e.next,0,layO .leaf e.need⟩
noncomputable def Jkx (h:SHeap):List SObj→SHeap
 | []=>h
 | o :: l=>Jkx (h.push o) l
theorem Jmb:∀ (l:List (Nat × SObj)) (t:OTr) (i:Nat),(layO t l).get i=t.get i∨∃ o,(i,o)∈l∧(layO t l).get i=o:=by
 intro l
 induction l with
 | nil=>intro t i;exact .inl rfl
 | cons x l ih=>
  obtain⟨k,o⟩:=x
  intro t i
  simp only[layO]
  rcases ih (t.set k o) i with h | ⟨o',h1,h2⟩
  ·rw[OTr.get_set] at h
   by_cases e:i=k
   ·rw[if_pos e] at h
    exact .inr ⟨o,by rw[e];simp,h⟩
   ·rw[if_neg e] at h
    exact .inl h
  ·exact .inr ⟨o',by simp[h1],h2⟩
theorem Ent.hs_get (e:Ent) (i:Nat):e.hs.get i=.dead∨(i<e.next∧∃ o,(i,o)∈e.need∧e.hs.get i=o):=by
 unfold SHeap.get Ent.hs
 simp only
 split
 ·rename_i hi
  rcases Jmb e.need .leaf i with h | ⟨o,h1,h2⟩
  ·exact .inl (h.trans rfl)
  ·exact .inr ⟨hi,o,h1,h2⟩
 ·exact .inl rfl
theorem Jl1:∀ (l:List SObj) (h:SHeap),(Jkx h l).next=h.next+l.length∧(Jkx h l).floor=h.floor:=by
 intro l
 induction l with
 | nil=>intro h;exact⟨rfl,rfl⟩
 | cons o l ih=>
  intro h
  simp only[Jkx]
  obtain⟨h1,h2⟩:=ih (h.push o)
  refine⟨by rw[h1];simp[SHeap.push];omega,by rw[h2];rfl⟩
theorem JkR:∀ (l:List SObj) (h:SHeap) (i:Nat),(Jkx h l).get i=if i<h.next then h.get i else l.getD (i-h.next) .dead:=by
 intro l
 induction l with
 | nil=>
  intro h i
  simp only[Jkx]
  split
  ·rfl
  ·rw[J3j (by omega)];rfl
 | cons o l ih=>
  intro h i
  simp only[Jkx]
  rw[ih]
  have hn:(h.push o).next=h.next+1:=rfl
  rw[hn]
  by_cases h1:i<h.next
  ·rw[if_pos (by omega),if_pos h1,J06 h1]
  ·rw[if_neg h1]
   by_cases h2:i=h.next
   ·subst h2
    rw[if_pos (by omega),J0h]
    simp
   ·rw[if_neg (by omega)]
    have:i-h.next=(i-(h.next+1))+1:=by omega
    rw[this]
    rfl
def JlT:SObj→Bool
 | .row _ _ _ ro=>ro
 | _=>false
noncomputable def Jlq (h:SHeap) (i:Nat):List SObj→Bool
 | []=>true
 | o :: l=>JmK (h.get i) o&&Jlq h (i+1) l
theorem JlH {h:SHeap}:∀ {l:List SObj} {i k:Nat},Jlq h i l=true→l.getD k .dead=.dead∨h.get (i+k)=l.getD k .dead:=by
 intro l
 induction l with
 | nil=>intro i k _;exact .inl (by simp)
 | cons o l ih=>
  intro i k hk
  simp only[Jlq,Bool.and_eq_true] at hk
  cases k with
  | zero=>
   rcases Jme hk.1 with h | h
   ·exact .inl (by simpa using h)
   ·exact .inr (by simpa using h.symm)
  | succ k=>
   rcases ih (k:=k) hk.2 with h | h
   ·exact .inl (by simpa using h)
   ·exact .inr (by rw[← Nat.add_assoc,Nat.add_right_comm];simpa using h)
noncomputable def JkT (h:SHeap):List (Nat × SObj)→Bool
 | []=>true
 | (i,o) :: l=>eqO (h.get i) o&&JkT h l
theorem JkY {h:SHeap}:∀ {l:List (Nat × SObj)} {i:Nat} {o:SObj},JkT h l=true→(i,o)∈l→eqO (h.get i) o=true:=by
 intro l
 induction l with
 | nil=>intro i o _ h;cases h
 | cons x l ih=>
  obtain⟨k,o'⟩:=x
  intro i o hl hm
  simp only[JkT,Bool.and_eq_true] at hl
  rcases List.mem_cons.1 hm with h | h
  ·cases h;exact hl.1
  ·exact ih hl.2 h
noncomputable def Ent.ok (call:J0r) (e:Ent):Bool:=
 (e.need.all fun x=>JlT x.2)&&(match call e.f e.args e.hs with
  | some (v,h)=>eqV v e.v&&Nat.beq h.next (e.next+e.outs.length)&&Jlq h e.next e.outs
  | none=>false)
noncomputable def entS (e:Ent):J0r:=fun f args h=>
 match Nat.beq f e.f with
 | true=>if JbY args e.args&&Nat.beq h.next e.next&&JkT h e.need then some (e.v,Jkx h e.outs) else none
 | false=>none
noncomputable def Ent.okF (P:Program) (call:J0r) (e:Ent):Bool:=
 (e.need.all fun x=>JlT x.2&&(match x.2 with | .row cs _ _ _=>cs.all (Jkh e.next) | _=>false))&&e.args.all (below e.next)&&flat e.v&&decide (P.globals.size≤e.next)&&(match call e.f e.args e.hs with
  | some (v,h)=>eqV v e.v
  | none=>false)
noncomputable def entF (e:Ent):J0r:=fun f args h=>
 match Nat.beq f e.f with
 | true=>if JbY args e.args&&Nat.ble e.next h.next&&JkT h e.need then some (e.v,h) else none
 | false=>none
noncomputable def orS (a b:J0r):J0r:=fun f args h=>match a f args h with
 | some r=>some r
 | none=>b f args h
def noS:J0r:=fun _ _ _=>none
theorem Jhq {P:Program}:J1x P noS∧J1G noS:=⟨fun _ _ _ _ _ h=>by simp[noS] at h,fun _ _ _ _ _ h=>by simp[noS] at h⟩
theorem Jav {P:Program} {a b:J0r} (ha:J1x P a∧J1G a) (hb:J1x P b∧J1G b):J1x P (orS a b)∧J1G (orS a b):=by
 refine⟨fun f args h v h' hs=>?_,fun f args h v h' hs=>?_⟩
 ·unfold orS at hs
  split at hs
  ·rename_i r hr;cases hs;exact ha.1 _ _ _ _ _ hr
  ·exact hb.1 _ _ _ _ _ hs
 ·unfold orS at hs
  split at hs
  ·rename_i r hr;cases hs;exact ha.2 _ _ _ _ _ hr
  ·exact hb.2 _ _ _ _ _ hs
theorem JnD {P:Program} {call:J0r} (hc:J1x P call) {e:Ent} (he:e.ok call=true):J1x P (entS e)∧J1G (entS e):=by
 have key:∀ f args h v h',entS e f args h=some (v,h')→f=e.f∧args=e.args∧h.next=e.next∧JkT h e.need=true∧v=e.v∧h'=Jkx h e.outs:=by
  intro f args h v h' hs
  unfold entS at hs
  split at hs
  ·rename_i hf
   split at hs
   ·rename_i hh
    simp only[Bool.and_eq_true] at hh
    cases hs
    exact⟨Nat.eq_of_beq_eq_true hf,JaF hh.1.1,Nat.eq_of_beq_eq_true hh.1.2,hh.2,rfl,rfl⟩
   ·cases hs
  ·cases hs
 refine⟨fun f args h v h' hs=>?_,fun f args h v h' hs=>?_⟩
 ·obtain⟨rfl,rfl,hnx,hneed,rfl,rfl⟩:=key f args h v h' hs
  unfold Ent.ok at he
  simp only[Bool.and_eq_true] at he
  obtain⟨hro,he⟩:=he
  split at he
  ·rename_i v0 h0 hcall
   simp only[Bool.and_eq_true] at he
   obtain⟨⟨h1,h2⟩,h3⟩:=he
   obtain rfl:=Jfz h1
   have h2:=Nat.eq_of_beq_eq_true h2
   obtain⟨hfn,hc2⟩:=hc _ _ _ _ _ hcall
   refine⟨hfn,fun ρ W ARGS hR hargs=>?_⟩
   have hnw:∀ i,¬ wr (e.hs.get i):=fun i hw=>by
    rcases e.hs_get i with h4 | ⟨_,o,h4,h5⟩
    ·rw[h4] at hw;exact hw
    ·have:=List.all_eq_true.1 hro _ h4
     rw[h5] at hw
     cases o <;> simp_all [JlT,wr]
   have hR0:Rel P ρ e.hs W:=by
    refine⟨rfl,fun i hi=>hR.dom i (by rw[hnx];exact hi),hR.glob,fun i=>?_,fun i j L L' hw=>absurd hw (hnw i)⟩
    rcases e.hs_get i with h4 | ⟨_,o,h4,h5⟩
    ·rw[h4];trivial
    ·rw[h5];exact Jlr (JkY hneed h4) (hR.obj i)
   refine(hc2 ρ W ARGS hR0 hargs).mono fun e' W' ⟨V,ρ',he',hN,hv⟩=>⟨V,ρ',he',?_,hv⟩
   have hg:=hN.fr.gr hnw
   have hsn:e.hs.next=h.next:=hnx.symm
   obtain⟨p1,p2⟩:=Jl1 e.outs h
   have old:∀ i,i<h.next→(Jkx h e.outs).get i=h.get i:=fun i hi=>by rw[JkR,if_pos hi]
   have new:∀ i,h.next≤i→(Jkx h e.outs).get i=.dead∨(Jkx h e.outs).get i=h0.get i:=fun i hi=>by
    rw[JkR,if_neg (by omega)]
    rcases JlH (k:=i-h.next) h3 with h4 | h4
    ·exact .inl h4
    ·right
     rw[← h4]
     congr 1
     omega
   have hown:∀ i L,h.next≤i→live ((Jkx h e.outs).get i)→ρ' i=some L→W.heap.size≤L.b:=fun i L hi hl hL=>by
    rcases new i hi with h4 | h4
    ·rw[h4] at hl;exact hl.elim
    ·rw[h4] at hl
     rcases hN.own i L (by rw[hsn];exact hi) hl hL with h5 | ⟨j,_,hw,_⟩
     ·exact h5
     ·exact absurd hw (hnw j)
   have hold:∀ i L,i<h.next→live (h.get i)→ρ' i=some L→L.b<W.heap.size:=fun i L hi hl hL=>by
    obtain⟨L0,h4,h5⟩:=(hR.obj i).at_ hl
    rw[hN.old i (by rw[hsn];exact hi),h4] at hL
    cases hL
    exact h5
   refine⟨hN.ext,fun i hi=>hN.old i (by rw[hsn];exact hi),⟨rfl,fun i hi=>hN.rel.dom i (by rw[h2,← hnx,← p1];exact hi),hN.rel.glob,fun i=>?_,fun i j L L' hw hl hne hL hL'=>?_⟩,
    ⟨hg.os,hg.tape,hg.output,hg.size,fun b hb _=>hg.blk b hb⟩,by rw[p1];omega,p2,fun i hi _=>old i hi,fun i hi hw=>by rw[old i hi] at hw;exact hw,fun i hi hw=>by rw[old i hi] at hw;exact hw,
    fun i L hi hl hL=>.inl (hown i L hi hl hL)⟩
   ·rcases Nat.lt_or_ge i h.next with hi | hi
    ·rw[old i hi]
     exact((hR.obj i).grow hg).mono hN.ext (fun _ _ _=>rfl)
    ·rcases new i hi with h4 | h4
     ·rw[h4];trivial
     ·rw[h4];exact hN.rel.obj i
   ·rcases Nat.lt_or_ge i h.next with hi | hi <;> rcases Nat.lt_or_ge j h.next with hj | hj
    ·rw[old i hi] at hw
     rw[old j hj] at hl
     rw[hN.old i (by rw[hsn];exact hi)] at hL
     rw[hN.old j (by rw[hsn];exact hj)] at hL'
     exact hR.inj i j L L' hw hl hne hL hL'
    ·have e1:=hown j L' hj hl hL'
     rw[old i hi] at hw
     have e2:=hold i L hi hw.live hL
     omega
    ·have e1:=hown i L hi hw.live hL
     rw[old j hj] at hl
     have e2:=hold j L' hj hl hL'
     omega
    ·rcases new i hi with h4 | h4
     ·rw[h4] at hw;exact hw.elim
     ·rcases new j hj with h5 | h5
      ·rw[h5] at hl;exact hl.elim
      ·rw[h4] at hw;rw[h5] at hl
       exact hN.rel.inj i j L L' hw hl hne hL hL'
  ·cases he
 ·obtain⟨rfl,rfl,hnx,hneed,rfl,rfl⟩:=key f args h v h' hs
  obtain⟨p1,p2⟩:=Jl1 e.outs h
  exact⟨by rw[p1];omega,p2,fun i hi _=>by rw[JkR,if_pos hi]⟩
theorem Jng {P:Program} {call:J0r} (hc:J1x P call) {e:Ent} (he:e.okF P call=true):J1x P (entF e)∧J1G (entF e):=by
 have key:∀ f args h v h',entF e f args h=some (v,h')→f=e.f∧args=e.args∧e.next≤h.next∧JkT h e.need=true∧v=e.v∧h'=h:=by
  intro f args h v h' hs
  unfold entF at hs
  split at hs
  ·rename_i hf
   split at hs
   ·rename_i hh
    simp only[Bool.and_eq_true] at hh
    cases hs
    exact⟨Nat.eq_of_beq_eq_true hf,JaF hh.1.1,Nat.le_of_ble_eq_true hh.1.2,hh.2,rfl,rfl⟩
   ·cases hs
  ·cases hs
 refine⟨fun f args h v h' hs=>?_,fun f args h v h' hs=>?_⟩
 ·obtain⟨rfl,rfl,hnx,hneed,rfl,rfl⟩:=key f args h v h' hs
  unfold Ent.okF at he
  simp only[Bool.and_eq_true,decide_eq_true_eq] at he
  obtain⟨⟨⟨⟨hro,hargB⟩,hflat⟩,hgl⟩,he⟩:=he
  split at he
  ·rename_i v0 h0 hcall
   obtain rfl:=Jfz he
   obtain⟨hfn,hc2⟩:=hc _ _ _ _ _ hcall
   refine⟨hfn,fun ρ W ARGS hR hargs=>?_⟩
   have hnw:∀ i,¬ wr (e.hs.get i):=fun i hw=>by
    rcases e.hs_get i with h4 | ⟨_,o,h4,h5⟩
    ·rw[h4] at hw;exact hw
    ·have:=List.all_eq_true.1 hro _ h4
     simp only[Bool.and_eq_true] at this
     have:=this.1
     rw[h5] at hw
     cases o <;> simp_all [JlT,wr]
   have hR0:Rel P (cutm ρ e.next) e.hs W:=by
    refine⟨rfl,fun i hi=>?_,fun g hg=>?_,fun i=>?_,fun i j L L' hw=>absurd hw (hnw i)⟩
    ·unfold cutm
     have:e.next≤i:=hi
     rw[if_neg (by omega)]
    ·rw[J33 (by omega)];exact hR.glob g hg
    ·rcases e.hs_get i with h4 | ⟨hi,o,h4,h5⟩
     ·rw[h4];trivial
     ·rw[h5]
      have h6:=Jlr (JkY hneed h4) (hR.obj i)
      have h7:=List.all_eq_true.1 hro _ h4
      simp only[Bool.and_eq_true] at h7
      cases o with
      | dead=>trivial
      | map es=>simp[JlT] at h7
      | row cs ty g ro=>
       obtain⟨L,CS,ty',fr,e1,e2,e3,e4⟩:=h6
       refine⟨L,CS,ty',fr,by rw[J33 hi];exact e1,e2,fun k v hv=>?_,e4⟩
       obtain⟨V,hV,hr⟩:=e3 k v hv
       exact⟨V,hV,Jky (List.all_eq_true.1 h7.2 v (List.mem_of_getElem? hv)) hr⟩
   refine(hc2 _ W ARGS hR0 (JlC hargs hargB)).mono fun e' W' ⟨V,ρ',he',hN,hv⟩=>⟨V,ρ,he',(Nx.refl hR).grow (hN.fr.gr hnw),?_⟩
   rw[J4F hflat hv]
   exact J1X hflat
  ·cases he
 ·obtain⟨rfl,rfl,hnx,hneed,rfl,rfl⟩:=key f args h v h' hs
  exact .refl _
end Go.Sx
namespace Go.Sx
open Go
set_option linter.unusedSimpArgs false
set_option linter.unusedVariables false
theorem vrel.back {ρ ρ':Map} (hx:∀ i L,ρ i=some L→ρ' i=some L) {v V0:Value} (h0:vrel ρ v V0):∀ V,vrel ρ' v V→vrel ρ v V:=by
 refine vrel.rec (motive_1:=fun v V0 _=>∀ V,vrel ρ' v V→vrel ρ v V) (motive_2:=fun l m _=>∀ n,All2 (vrel ρ') l n→All2 (vrel ρ) l n) ?_ ?_ ?_ ?_ ?_ ?_ ?_ ?_ ?_ ?_ ?_ h0
 ·intro v hv V h;rw[J1Q hv h];exact .flat hv
 ·intro id off L hL V h
  cases h with
  | flat hv=>exact .flat hv
  | ptr h=>rw[hx _ _ hL] at h;cases h;exact .ptr hL
 ·intro id off L n c hL hc V h
  cases h with
  | flat hv=>exact .flat hv
  | slice h hc=>rw[hx _ _ hL] at h;cases h;exact .slice hL hc
  | sliceU h hn ha=>rw[hx _ _ hL] at h;cases h;exact .sliceU hL hn ha
 ·intro id off L n c a hL hn ha V h
  cases h with
  | flat hv=>exact .flat hv
  | slice h hc=>rw[hx _ _ hL] at h;cases h;exact .slice hL hc
  | sliceU h hn ha=>rw[hx _ _ hL] at h;cases h;exact .sliceU hL hn ha
 ·intro id L hL V h
  cases h with
  | flat hv=>exact .flat hv
  | map h=>rw[hx _ _ hL] at h;cases h;exact .map hL
 ·intro fn f f' c c' _ _ h1 h2 V h
  cases h with
  | flat hv=>exact .flat hv
  | func a b=>exact .func (h1 _ a) (h2 _ b)
 ·intro t v v' _ h1 V h
  cases h with
  | flat hv=>exact .flat hv
  | iface a=>exact .iface (h1 _ a)
 ·intro cs cs' _ h1 V h
  cases h with
  | flat hv=>exact .flat hv
  | agg a=>exact .agg (h1 _ a)
 ·intro cs cs' _ h1 V h
  cases h with
  | flat hv=>exact .flat hv
  | tuple a=>exact .tuple (h1 _ a)
 ·intro n h;cases h;exact .nil
 ·intro a b l m _ _ h1 h2 n h
  cases h with
  | cons x y=>exact .cons (h1 _ x) (h2 _ y)
theorem objR.back {P:Program} {ρ ρ':Map} {W W':World} {i:Nat} {o:SObj} (hx:∀ i L,ρ i=some L→ρ' i=some L) (h0:objR P ρ W i o) (h:objR P ρ' W' i o):objR P ρ W' i o:=by
 cases o with
 | dead=>trivial
 | row cs ty g ro=>
  obtain⟨L0,CS0,t0,f0,k1,k2,k3,k4⟩:=h0
  obtain⟨L,CS,t,f,l1,l2,l3,l4⟩:=h
  have e:L=L0:=by rw[hx _ _ k1] at l1;exact(Option.some.inj l1).symm
  subst e
  refine⟨L,CS,t,f,k1,l2,fun k v hv=>?_,l4⟩
  obtain⟨V0,_,hV0⟩:=k3 k v hv
  obtain⟨V,hV1,hV2⟩:=l3 k v hv
  exact⟨V,hV1,hV0.back hx _ hV2⟩
 | map es=>
  obtain⟨L0,ES0,c0,k1,k2,k3⟩:=h0
  obtain⟨L,ES,c,l1,l2,l3⟩:=h
  have e:L=L0:=by rw[hx _ _ k1] at l1;exact(Option.some.inj l1).symm
  subst e
  refine⟨L,ES,c,k1,l2,?_⟩
  have key:∀ {es:List (Value × Value)} {A B:List MapEntry},All2 (fun (e:Value × Value) (E:MapEntry)=>vrel ρ e.1 E.key∧vrel ρ e.2 E.val) es A→All2 (fun (e:Value × Value) (E:MapEntry)=>vrel ρ' e.1 E.key∧vrel ρ' e.2 E.val) es B→All2 (fun (e:Value × Value) (E:MapEntry)=>vrel ρ e.1 E.key∧vrel ρ e.2 E.val) es B:=by
   intro es A B h1
   induction h1 generalizing B with
   | nil=>intro h2;cases h2;exact .nil
   | cons a _ ih=>
    intro h2
    cases h2 with
    | cons b c=>exact .cons ⟨a.1.back hx _ b.1,a.2.back hx _ b.2⟩ (ih c)
  exact key k3 l3
def J3m:Value→Bool
 | .tuple cs=>cs.all flat
 | v=>flat v
theorem Jar {ρ:Map} {v V:Value} (hf:J3m v=true) (h:vrel ρ v V):V=v:=by
 unfold J3m at hf
 split at hf
 ·rename_i cs
  cases h with
  | flat hv=>rfl
  | tuple h=>
   rename_i cs'
   have:∀ {l m:List Value},All2 (vrel ρ) l m→l.all flat=true→m=l:=by
    intro l m h
    induction h with
    | nil=>intro _;rfl
    | cons a _ ih=>
     intro hl
     simp only[List.all_cons,Bool.and_eq_true] at hl
     rw[J4F hl.1 a,ih hl.2]
   have:=this h (by simpa using hf)
   congr 1
   exact Array.toList_inj.1 this
 ·exact J4F hf h
theorem J7p {ρ:Map} {v:Value} (hf:J3m v=true):vrel ρ v v:=by
 unfold J3m at hf
 split at hf
 ·rename_i cs
  refine .tuple (All2.same fun a ha=>J1X ?_)
  have:cs.toList.all flat=true:=by simpa using hf
  exact List.all_eq_true.1 this a ha
 ·exact J1X hf
open Classical in
noncomputable def J8V (call:J0r):J0r:=fun f args h=>match call f args h with
 | some (v,h1)=>if J3m v=true∧∀ i,i<h.next→h1.get i=h.get i then some (v,h) else none
 | none=>none
theorem J7k {call:J0r} {f:FuncId} {args:List Value} {h h':SHeap} {v:Value} (hs:J8V call f args h=some (v,h')) :
  (∃ h1,call f args h=some (v,h1)∧∀ i,i<h.next→h1.get i=h.get i)∧J3m v=true∧h'=h:=by
 unfold J8V at hs
 split at hs
 ·rename_i v' h1 he
  split at hs
  ·rename_i hc
   cases hs
   exact⟨⟨h1,he,hc.2⟩,hc.1,rfl⟩
  ·cases hs
 ·cases hs
theorem Ja6 {call:J0r} {f:FuncId} {args:List Value} {h h1:SHeap} {v:Value} (hc:call f args h=some (v,h1)) (hv:J3m v=true) (hk:∀ i,i<h.next→h1.get i=h.get i):J8V call f args h=some (v,h):=by
 unfold J8V
 rw[hc]
 simp only
 rw[if_pos ⟨hv,hk⟩]
theorem JaL {P:Program} {call:J0r} (hc:J1x P call):J1x P (J8V call)∧J1G (J8V call):=by
 refine⟨fun f args h v h' hs=>?_,fun f args h v h' hs=>?_⟩
 ·obtain⟨⟨h1,he,hk⟩,hv,rfl⟩:=J7k hs
  obtain⟨hfn,hc2⟩:=hc _ _ _ _ _ he
  refine⟨hfn,fun ρ W ARGS hR hargs=>(hc2 ρ W ARGS hR hargs).mono fun e W' ⟨V,ρ',he',hN,hv'⟩=>?_⟩
  rw[Jar hv hv'] at he'
  refine⟨v,ρ,he',?_,J7p hv⟩
  refine⟨fun _ _ h=>h,fun _ _=>rfl,⟨hR.len,hR.dom,hR.glob,fun i=>?_,hR.inj⟩,hN.fr,Nat.le_refl _,rfl,fun _ _ _=>rfl,fun _ _ h=>h,fun _ _ h=>h,fun i L hi hw _=>by rw[J3j hi] at hw;exact hw.elim⟩
  rcases Nat.lt_or_ge i h'.next with hi | hi
  ·have h2:=hN.rel.obj i
   rw[hk i hi] at h2
   exact(hR.obj i).back hN.ext h2
  ·rw[J3j hi];trivial
 ·obtain⟨_,_,rfl⟩:=J7k hs
  exact .refl _
end Go.Sx
namespace Go.Proofs.YtdejoodfeljmkaaGreatDoor
open Go Go.Sx
noncomputable def J70 (fs:List FuncId) (call:J0r):J0r:=fun f args h=>if fs.contains f then call f args h else none
theorem Jaz {P:Program} {fs:List FuncId} {call:J0r} (hc:J1x P call∧J1G call):J1x P (J70 fs call)∧J1G (J70 fs call):=by
 refine⟨fun f args h v h' hs=>?_,fun f args h v h' hs=>?_⟩
 ·unfold J70 at hs
  split at hs
  ·exact hc.1 _ _ _ _ _ hs
  ·cases hs
 ·unfold J70 at hs
  split at hs
  ·exact hc.2 _ _ _ _ _ hs
  ·cases hs
noncomputable def layK (fs:List FuncId) (base:J0r) (k:Nat):J0r:=orS base (J70 fs (J8V (J0L Tryz.prog (J3U Tryz.prog base k) k)))
section
variable {fs:List FuncId} {k m:Nat} {base:J0r} {f:FuncId} {args:List Value} {h h1:SHeap} {v:Value} {r:Value × SHeap}
theorem Jh4 (hb:J1x Tryz.prog base∧J1G base):J1x Tryz.prog (layK fs base k)∧J1G (layK fs base k):=
 Jav hb (Jaz (JaL (J6m J2f (J6f J2f hb.1 hb.2 k).1 (J6f J2f hb.1 hb.2 k).2 k).1))
theorem Ja4 {a b:J0r} (hb:a f args h=some r):orS a b f args h=some r:=by unfold orS;rw[hb]
theorem J6k (hb:base f args h=some r):layK fs base k f args h=some r:=Ja4 hb
theorem J8X (hb:base f args h=none) (hf:fs.contains f=false):layK fs base k f args h=none:=by unfold layK orS J70;rw[hb,hf];rfl
theorem J55 {n:Nat} (hb:base f args h=some r):J3U Tryz.prog base (n+1) f args h=some r:=by
 unfold J3U
 rw[hb]
theorem J4u {n:Nat} (hb:base f args h=none):J3U Tryz.prog base (n+1) f args h=J0L Tryz.prog (J3U Tryz.prog base n) n f args h:=by
 rw[J3U,hb]
theorem Jap (hb:base f args h=none) (hf:fs.contains f=true) (hv:J3m v=true) (hw:∃ h1,J0L Tryz.prog (J3U Tryz.prog base k) k f args h=some (v,h1)∧∀ i,i<h.next→h1.get i=h.get i) :
  layK fs base k f args h=some (v,h):=by
 obtain⟨h1,he,hk⟩:=hw
 have e:=Ja6 he hv hk
 unfold layK orS J70
 rw[hb,hf,if_pos rfl,e]
end
end Go.Proofs.YtdejoodfeljmkaaGreatDoor
namespace Go.Proofs.YtdejoodfeljmkaaGreatDoor
open Go Go.Sx
set_option linter.unusedSimpArgs false
set_option linter.unusedVariables false
set_option maxHeartbeats 64000000
structure RowN where
 kind:Int
 name:ByteArray
 ends:Int
 n:Int
 kids:Int
def J1l (what kind:Int):Bool:=
 if what=8 then kind==1
 else if what=0 then decide (kind≥2)&&decide (kind≤7)
 else if what=1 then decide (kind≥8)&&decide (kind≤10)
 else if what=2 then kind==11
 else if what=3 then decide (kind≥11)&&decide (kind≤23)
 else if what=4 then kind==11||kind==12
 else if what=5 then kind==25||kind==26
 else if what=6 then kind==24
 else decide (kind≥27)&&decide (kind≤54)
theorem J2H {what kind:Int} (h:J1l what kind=true):1≤kind∧kind≤54:=by
 unfold J1l at h
 (repeat' split at h) <;> simp at h <;> omega
def J3l (k:Int):Bool:=[1,2,3,4,5,7,8,9,14,15,16,17,19,20,21,22,24,26,28,31,32,35,36,37,38].contains k
def endK (k:Int):Bool:=[16,17,19,20,21,24,26].contains k
def J1U (k:Int):Int:=
 if [4,13].contains k then 3 else if [5,6,7,8,9,10,14,19,38,41,42].contains k then 1 else if [12,15,39,40].contains k||decide (k≥43) then 2 else 0
def J1r (k:Int):Int:=
 if [1,11].contains k then -1 else if [4,12,13].contains k then 3 else if [5,6,7,8,9,10,14,19,20,38,41,42].contains k then 1 else if [15,39,40].contains k||decide (k≥43) then 2 else 0
def J0A (kind:Int) (kid:Nat):Int:=
 if kind=11 then 3 else if [7,8,9,10].contains kind then 2
 else if kind=12 then (if kid=0 then 7 else if kid=1 then 2 else 4)
 else if kind=13 then (if kid=2 then 2 else 7)
 else if kind=15 then (if kid=0 then 5 else 7)
 else if [19,20].contains kind then 6 else if kind=38 then 5 else 7
section
variable (isName:ByteArray→Bool)
def fitN (x:RowN):Bool:=
 (isName x.name==J3l x.kind)&&(J3l x.kind||x.name==ByteArray.empty)&&(x.ends==0||endK x.kind&&x.ends==1)&&(x.n==0||x.kind==27&&decide (x.n>0)&&decide (x.n≤1073741824)) &&
  decide (x.kids≥J1U x.kind)&&(decide (J1r x.kind<0)||decide (x.kids≤J1r x.kind))
def J2r (g:Nat→Nat→Nat × Bool):Nat→Nat→Nat→Nat × Bool
 | 0,_,next=>(next,true)
 | r+1,k,next=>if (g k next).2=true then J2r g r (k+1) (g k next).1 else ((g k next).1,false)
def rowN (l:List RowN):Nat→Nat→Int→Nat × Bool
 | 0,at_,_=>(at_,false)
 | m+1,at_,what=>match l[at_]? with
  | none=>(at_,false)
  | some x=>if (J1l what x.kind&&fitN isName x)=true then J2r (fun k next=>rowN l m next (J0A x.kind k)) x.kids.toNat 0 (at_+1) else (at_,false)
def isEv (x:Option RowN):Bool:=match x with
 | some x=>J1l 1 x.kind
 | none=>false
def J3J (ev:Bool) (x:Option RowN):Int:=if (ev||isEv x)=true then 1 else 0
def polN (l:List RowN) (m:Nat):Nat→Bool→Nat→Nat × Bool
 | 0,_,next=>(next,true)
 | r+1,ev,next=>
  if (rowN isName l m next (J3J ev l[next]?)).2=true then polN l m r (ev||isEv l[next]?) (rowN isName l m next (J3J ev l[next]?)).1
  else ((rowN isName l m next (J3J ev l[next]?)).1,false)
def topN (l:List RowN) (m:Nat):Nat × Bool:=match l[0]? with
 | none=>(0,false)
 | some x=>if (J1l 8 x.kind&&fitN isName x)=true then polN isName l m x.kids.toNat false 1 else (0,false)
def J2L (l:List RowN):Option Nat:=
 if (topN isName l (l.length+1)).2=true∧(topN isName l (l.length+1)).1=l.length then none else some (topN isName l (l.length+1)).1
variable {isName}
theorem Jef {g:Nat→Nat→Nat × Bool} {b:Nat} (hg:∀ k p,p≤b→(g k p).2=true→p<(g k p).1∧(g k p).1≤b):∀ r k p,p≤b→(J2r g r k p).2=true→p+r≤(J2r g r k p).1∧(J2r g r k p).1≤b:=by
 intro r
 induction r with
 | zero=>intro k p hp _;exact⟨Nat.le_refl _,hp⟩
 | succ r ih=>
  intro k p hp h
  unfold J2r at h ⊢
  split at h
  ·rename_i hc
   rw[if_pos hc]
   have h1:=hg k p hp hc
   have h2:=ih (k+1) _ h1.2 h
   omega
  ·cases h
theorem J5D {l:List RowN}:∀ m at_ what,(rowN isName l m at_ what).2=true→at_<(rowN isName l m at_ what).1∧(rowN isName l m at_ what).1≤l.length:=by
 intro m
 induction m with
 | zero=>intro at_ what h;cases h
 | succ m ih=>
  intro at_ what
  unfold rowN
  cases hx:l[at_]? with
  | none=>intro h;cases h
  | some x=>
   simp only
   have hlt:at_<l.length:=(List.getElem?_eq_some_iff.1 hx).1
   split
   ·rename_i hc
    intro h
    have:=Jef (b:=l.length) (fun k p _=>ih p (J0A x.kind k)) x.kids.toNat 0 (at_+1) hlt h
    omega
   ·intro h;cases h
structure Frame where
 kind:Int
 left:Nat
 next:Nat
def popF:List Frame→List Frame
 | []=>[]
 | f :: s=>if f.left=0 then popF s else f :: s
def decF:List Frame→List Frame
 | []=>[]
 | f :: s=>⟨f.kind,f.left-1,f.next+1⟩ :: s
theorem J4X {f:Frame} {s:List Frame} (h:f.left≠0):popF (f :: s)=f :: s:=by unfold popF;rw[if_neg h]
theorem J43 {f:Frame} {s:List Frame} (h:f.left=0):popF (f :: s)=popF s:=by
 show (if f.left=0 then popF s else f :: s)=popF s
 rw[if_pos h]
def J60:List Frame→Int
 | []=>8
 | f :: _=>if f.kind=1 then 9 else J0A f.kind f.next
def J1c (what kind:Int):Bool:=if what=9 then decide (kind≥2)&&decide (kind≤10) else J1l what kind
def J5e (l:List RowN) (at_:Nat) (s:List Frame) (ev:Bool):Option Nat ⊕ (List Frame × Bool):=
 match l[at_]? with
 | none=>.inl (some at_)
 | some x=>
  if (J1c (J60 s) x.kind&&fitN isName x)=true then
   if J60 s=9∧ev=true∧J1l 0 x.kind=true then .inl (some at_)
   else .inr (popF (⟨x.kind,x.kids.toNat,0⟩ :: decF s),if J60 s=9 then ev||J1l 1 x.kind else ev)
  else .inl (some at_)
def runM (l:List RowN):Nat→Nat→List Frame→Bool→Option Nat
 | 0,_,_,_=>none
 | m+1,at_,s,ev=>match J5e (isName:=isName) l at_ s ev with
  | .inl r=>r
  | .inr (s',ev')=>if s'=[] then (if at_+1<l.length then some (at_+1) else none) else runM l m (at_+1) s' ev'
def J4E (l:List RowN) (M at_:Nat) (s:List Frame) (ev:Bool):Option Nat:=if s=[] then (if at_<l.length then some at_ else none) else runM (isName:=isName) l M at_ s ev
theorem J63 {g:Nat→Nat→Nat × Bool} (hg:∀ k p,p≤(g k p).1):∀ r k p,p≤(J2r g r k p).1:=by
 intro r
 induction r with
 | zero=>intro k p;exact Nat.le_refl _
 | succ r ih=>
  intro k p
  unfold J2r
  split
  ·exact Nat.le_trans (hg k p) (ih _ _)
  ·exact hg k p
theorem J57 {l:List RowN}:∀ m at_ what,at_≤(rowN isName l m at_ what).1:=by
 intro m
 induction m with
 | zero=>intro at_ what;exact Nat.le_refl _
 | succ m ih=>
  intro at_ what
  unfold rowN
  split
  ·exact Nat.le_refl _
  ·split
   ·exact Nat.le_trans (Nat.le_succ _) (J63 (fun k p=>ih p _) _ _ _)
   ·exact Nat.le_refl _
theorem J5w {k:Int} {j:Nat}:J0A k j≠9∧J0A k j≠8:=by
 unfold J0A
 (repeat' split) <;> decide
theorem Jdv {k:Int} {j:Nat} {q:Int} (h:J1l (J0A k j) q=true):q≠1:=by
 intro e
 subst e
 revert h
 unfold J0A
 (repeat' split) <;> decide
def JfQ (l:List RowN) (m:Nat):Prop:=∀ (at_:Nat) (F:Frame) (rest:List Frame) (ev:Bool),F.kind≠1→l.length<at_+m →
 ((rowN isName l m at_ (J0A F.kind F.next)).2=true→∀ M,runM (isName:=isName) l (M+((rowN isName l m at_ (J0A F.kind F.next)).1-at_)) at_ (F :: rest) ev=J4E (isName:=isName) l M (rowN isName l m at_ (J0A F.kind F.next)).1 (popF (decF (F :: rest))) ev) ∧
 ((rowN isName l m at_ (J0A F.kind F.next)).2=false→∀ M,(rowN isName l m at_ (J0A F.kind F.next)).1-at_<M→runM (isName:=isName) l M at_ (F :: rest) ev=some (rowN isName l m at_ (J0A F.kind F.next)).1)
theorem Jak {l:List RowN} {m:Nat} (hm:JfQ (isName:=isName) l m) {κ:Int} (hκ:κ≠1) (D:List Frame) (ev:Bool):∀ r k p,l.length<p+m →
  ((J2r (fun k next=>rowN isName l m next (J0A κ k)) r k p).2=true→∀ M,J4E (isName:=isName) l (M+((J2r (fun k next=>rowN isName l m next (J0A κ k)) r k p).1-p)) p (popF (⟨κ,r,k⟩ :: D)) ev=J4E (isName:=isName) l M (J2r (fun k next=>rowN isName l m next (J0A κ k)) r k p).1 (popF D) ev) ∧
  ((J2r (fun k next=>rowN isName l m next (J0A κ k)) r k p).2=false→∀ M,(J2r (fun k next=>rowN isName l m next (J0A κ k)) r k p).1-p<M→J4E (isName:=isName) l M p (popF (⟨κ,r,k⟩ :: D)) ev=some (J2r (fun k next=>rowN isName l m next (J0A κ k)) r k p).1):=by
 intro r
 induction r with
 | zero=>
  intro k p hp
  refine⟨fun _ M=>?_,fun h=>(by cases h)⟩
  rw[J43 rfl]
  simp[J2r]
 | succ r ih=>
  intro k p hp
  obtain⟨a1,a2⟩:=hm p ⟨κ,r+1,k⟩ D ev hκ hp
  simp only at a1 a2
  have hne:popF (⟨κ,r+1,k⟩ :: D)=⟨κ,r+1,k⟩ :: D:=J4X (by simp)
  have hdec:decF (⟨κ,r+1,k⟩ :: D)=⟨κ,r,k+1⟩ :: D:=rfl
  have hcont:∀ M,J4E (isName:=isName) l M p (⟨κ,r+1,k⟩ :: D) ev=runM (isName:=isName) l M p (⟨κ,r+1,k⟩ :: D) ev:=fun M=>by unfold J4E;rw[if_neg (by simp)]
  have hge:=J57 (isName:=isName) (l:=l) m p (J0A κ k)
  rw[hne]
  simp only[hcont]
  unfold J2r
  generalize hq:rowN isName l m p (J0A κ k)=q at a1 a2 hge
  cases hb:q.2 with
  | true=>
   simp only[if_true]
   have hq1:p<q.1∧q.1≤l.length:=by
    have:=J5D (isName:=isName) (l:=l) m p (J0A κ k)
    rw[hq] at this
    exact this hb
   obtain⟨b1,b2⟩:=ih (k+1) q.1 (by omega)
   have hge2:=J63 (g:=fun k next=>rowN isName l m next (J0A κ k)) (fun k p=>J57 m p _) r (k+1) q.1
   refine⟨fun h M=>?_,fun h M hM=>?_⟩
   ·have:=a1 hb (M+((J2r (fun k next=>rowN isName l m next (J0A κ k)) r (k+1) q.1).1-q.1))
    rw[hdec,b1 h M] at this
    rw[← this]
    congr 1
    omega
   ·have:=a1 hb (M-(q.1-p))
    rw[hdec,b2 h _ (by omega)] at this
    rw[← this]
    congr 1
    omega
  | false=>
   simp only[Bool.false_eq_true,if_false]
   exact⟨fun h=>(by cases h),fun _ M hM=>a2 hb M hM⟩
theorem J8m {F:Frame} {rest:List Frame} (hF:F.kind≠1):J60 (F :: rest)=J0A F.kind F.next∧(∀ k,J1c (J0A F.kind F.next) k=J1l (J0A F.kind F.next) k)∧J60 (F :: rest)≠9:=by
 have h:J60 (F :: rest)=J0A F.kind F.next:=by
  show (if F.kind=1 then 9 else J0A F.kind F.next)=_
  rw[if_neg hF]
 refine⟨h,fun k=>?_,by rw[h];exact J5w.1⟩
 unfold J1c
 rw[if_neg J5w.1]
theorem Jh1 {l:List RowN}:∀ m,JfQ (isName:=isName) l m:=by
 intro m
 induction m with
 | zero=>
  intro at_ F rest ev hF hlen
  refine⟨fun h=>(by cases h),fun _ M hM=>?_⟩
  have hx:l[at_]?=none:=List.getElem?_eq_none (by omega)
  obtain⟨M,rfl⟩:∃ M',M=M'+1:=⟨M-1,by omega⟩
  simp[runM,J5e,hx,rowN]
 | succ m ih=>
  intro at_ F rest ev hF hlen
  obtain⟨w1,w2,w3⟩:=J8m (rest:=rest) hF
  have hbad:∀ M,0<M→(l[at_]?=none∨∃ x,l[at_]?=some x∧(J1l (J0A F.kind F.next) x.kind&&fitN isName x)=false)→runM (isName:=isName) l M at_ (F :: rest) ev=some at_:=by
   intro M hM h
   obtain⟨M,rfl⟩:∃ M',M=M'+1:=⟨M-1,by omega⟩
   rcases h with h | ⟨x,hx,hb⟩
   ·simp[runM,J5e,h]
   ·simp only[runM,J5e,hx,w1,w2,hb,Bool.false_eq_true,if_false]
  unfold rowN
  cases hx:l[at_]? with
  | none=>
   simp only
   exact⟨fun h=>(by cases h),fun _ M hM=>hbad M (by omega) (.inl hx)⟩
  | some x=>
   simp only
   cases hb:(J1l (J0A F.kind F.next) x.kind&&fitN isName x) with
   | false=>
    simp only[Bool.false_eq_true,if_false]
    exact⟨fun h=>(by cases h),fun _ M hM=>hbad M (by omega) (.inr ⟨x,hx,hb⟩)⟩
   | true=>
    simp only[if_true]
    have hk1:x.kind≠1:=Jdv (Bool.and_eq_true_iff.1 hb).1
    have hrun:∀ M,runM (isName:=isName) l (M+1) at_ (F :: rest) ev=J4E (isName:=isName) l M (at_+1) (popF (⟨x.kind,x.kids.toNat,0⟩ :: decF (F :: rest))) ev:=by
     intro M
     simp only[runM,J5e,hx,w1,w2,hb,if_true,J5w.1,false_and,if_false]
     rfl
    obtain⟨b1,b2⟩:=Jak ih hk1 (decF (F :: rest)) ev x.kids.toNat 0 (at_+1) (by omega)
    have hge:=J63 (g:=fun k next=>rowN isName l m next (J0A x.kind k)) (fun k p=>J57 m p _) x.kids.toNat 0 (at_+1)
    refine⟨fun h M=>?_,fun h M hM=>?_⟩
    ·have:=b1 h M
     rw[← this,← hrun]
     congr 1
     omega
    ·obtain⟨M,rfl⟩:∃ M',M=M'+1:=⟨M-1,by omega⟩
     rw[hrun,b2 h M (by omega)]
theorem JcJ {l:List RowN} {m:Nat}:∀ r ev p,p≤(polN isName l m r ev p).1:=by
 intro r
 induction r with
 | zero=>intro ev p;exact Nat.le_refl _
 | succ r ih=>
  intro ev p
  unfold polN
  split
  ·exact Nat.le_trans (J57 m p _) (ih _ _)
  ·exact J57 m p _
theorem Jgx {l:List RowN} {m:Nat}:∀ r ev p,p≤l.length→(polN isName l m r ev p).2=true→p+r≤(polN isName l m r ev p).1∧(polN isName l m r ev p).1≤l.length:=by
 intro r
 induction r with
 | zero=>intro ev p hp _;exact⟨Nat.le_refl _,hp⟩
 | succ r ih=>
  intro ev p hp h
  unfold polN at h ⊢
  split at h
  ·rename_i hc
   rw[if_pos hc]
   have h1:=J5D (isName:=isName) (l:=l) m p _ hc
   have h2:=ih _ _ h1.2 h
   omega
  ·cases h
theorem Ja8 {k:Int}:(J1l 0 k=true→J1c 9 k=true∧J1l 1 k=false∧k≠1)∧(J1l 1 k=true→J1c 9 k=true∧J1l 0 k=false∧k≠1)∧(J1c 9 k=true→J1l 0 k=true∨J1l 1 k=true):=by
 unfold J1c J1l
 simp only[if_true,Int.reduceEq,if_false,Bool.and_eq_true,decide_eq_true_eq,Bool.and_eq_false_iff,decide_eq_false_iff_not]
 omega
theorem Jg2 {l:List RowN} {m:Nat}:∀ r ev k p,l.length<p+m →
  ((polN isName l m r ev p).2=true→∀ M,J4E (isName:=isName) l (M+((polN isName l m r ev p).1-p)) p (popF [⟨1,r,k⟩]) ev=J4E (isName:=isName) l M (polN isName l m r ev p).1 [] false) ∧
  ((polN isName l m r ev p).2=false→∀ M,(polN isName l m r ev p).1-p<M→J4E (isName:=isName) l M p (popF [⟨1,r,k⟩]) ev=some (polN isName l m r ev p).1):=by
 intro r
 induction r with
 | zero=>
  intro ev k p hp
  refine⟨fun _ M=>?_,fun h=>(by cases h)⟩
  rw[J43 rfl]
  show J4E (isName:=isName) l (M+(p-p)) p [] ev=J4E (isName:=isName) l M p [] false
  rw[Nat.sub_self]
  rfl
 | succ r ih=>
  intro ev k p hp
  have hne:popF [⟨1,r+1,k⟩]=[⟨1,r+1,k⟩]:=J4X (by simp)
  have hdec:decF [⟨1,r+1,k⟩]=[⟨1,r,k+1⟩]:=rfl
  have hcont:∀ M,J4E (isName:=isName) l M p [⟨1,r+1,k⟩] ev=runM (isName:=isName) l M p [⟨1,r+1,k⟩] ev:=fun M=>by unfold J4E;rw[if_neg (by simp)]
  have hw:J60 [⟨1,r+1,k⟩]=9:=rfl
  rw[hne]
  simp only[hcont]
  unfold polN
  have bad:∀ M,0<M→(l[p]?=none∨∃ x,l[p]?=some x∧(J1l (J3J ev l[p]?) x.kind&&fitN isName x)=false)→runM (isName:=isName) l M p [⟨1,r+1,k⟩] ev=some p:=by
   intro M hM h
   obtain⟨M,rfl⟩:∃ M',M=M'+1:=⟨M-1,by omega⟩
   rcases h with h | ⟨x,hx,hb⟩
   ·simp[runM,J5e,h]
   ·simp only[runM,J5e,hx,hw]
    cases hf:fitN isName x with
    | false=>simp
    | true=>
     rw[hf,Bool.and_true,hx] at hb
     simp only[J3J,isEv] at hb
     cases hs:J1c 9 x.kind with
     | false=>simp
     | true=>
      rcases Ja8.2.2 hs with h0 | h1
      ·have hn:=(Ja8.1 h0).2.1
       simp only[hn,Bool.or_false] at hb
       cases ev with
       | false=>simp[h0] at hb
       | true=>simp[h0]
      ·simp[h1] at hb
  cases m with
  | zero=>
   have hx:l[p]?=none:=List.getElem?_eq_none (by omega)
   simp only[rowN,Bool.false_eq_true,if_false]
   exact⟨fun h=>(by cases h),fun _ M hM=>bad M (by omega) (.inl hx)⟩
  | succ m=>
   unfold rowN
   cases hx:l[p]? with
   | none=>
    simp only[Bool.false_eq_true,if_false]
    exact⟨fun h=>(by cases h),fun _ M hM=>bad M (by omega) (.inl hx)⟩
   | some x=>
    simp only
    rw[hx] at bad
    cases hb:(J1l (J3J ev (some x)) x.kind&&fitN isName x) with
    | false=>
     simp only[Bool.false_eq_true,if_false]
     exact⟨fun h=>(by cases h),fun _ M hM=>bad M (by omega) (.inr ⟨x,rfl,hb⟩)⟩
    | true=>
     simp only[if_true]
     have hs:=(Bool.and_eq_true_iff.1 hb).1
     have hfit:=(Bool.and_eq_true_iff.1 hb).2
     have hev:isEv (some x)=J1l 1 x.kind:=rfl
     have facts:J1c 9 x.kind=true∧x.kind≠1∧¬ (ev=true∧J1l 0 x.kind=true):=by
      unfold J3J at hs
      split at hs
      ·rename_i hc
       have:=Ja8.2.1 hs
       exact⟨this.1,this.2.2,fun h=>by rw[this.2.1] at h;cases h.2⟩
      ·rename_i hc
       have:=Ja8.1 hs
       refine⟨this.1,this.2.2,fun h=>hc ?_⟩
       rw[h.1];rfl
     have hrun:∀ M,runM (isName:=isName) l (M+1) p [⟨1,r+1,k⟩] ev=J4E (isName:=isName) l M (p+1) (popF (⟨x.kind,x.kids.toNat,0⟩ :: [⟨1,r,k+1⟩])) (ev||J1l 1 x.kind):=by
      intro M
      simp only[runM,J5e,hx,hw,facts.1,hfit,Bool.and_self,if_true,true_and,hdec]
      rw[if_neg facts.2.2]
      rfl
     obtain⟨b1,b2⟩:=Jak (Jh1 (isName:=isName) (l:=l) m) facts.2.1 [⟨1,r,k+1⟩] (ev||J1l 1 x.kind) x.kids.toNat 0 (p+1) (by omega)
     have hge:=J63 (g:=fun k next=>rowN isName l m next (J0A x.kind k)) (fun k p=>J57 m p _) x.kids.toNat 0 (p+1)
     generalize hq:J2r (fun k next=>rowN isName l m next (J0A x.kind k)) x.kids.toNat 0 (p+1)=q at b1 b2 hge
     cases hqb:q.2 with
     | false=>
      simp only[Bool.false_eq_true,if_false]
      refine⟨fun h=>(by cases h),fun _ M hM=>?_⟩
      obtain⟨M,rfl⟩:∃ M',M=M'+1:=⟨M-1,by omega⟩
      rw[hrun,b2 hqb M (by omega)]
     | true=>
      simp only[if_true]
      rw[hev]
      obtain⟨c1,c2⟩:=ih (ev||J1l 1 x.kind) (k+1) q.1 (by omega)
      have hge2:=JcJ (isName:=isName) (l:=l) (m:=m+1) r (ev||J1l 1 x.kind) q.1
      refine⟨fun h M=>?_,fun h M hM=>?_⟩
      ·have:=b1 hqb (M+((polN isName l (m+1) r (ev||J1l 1 x.kind) q.1).1-q.1))
       rw[c1 h M] at this
       rw[← this,← hrun]
       congr 1
       omega
      ·have:=b1 hqb (M-(q.1-p))
       rw[c2 h _ (by omega)] at this
       rw[← this,← hrun]
       congr 1
       omega
theorem Jdu {g:Nat→Nat→Nat × Bool} {b:Nat} (hg:∀ k p,p≤b→(g k p).1≤b):∀ r k p,p≤b→(J2r g r k p).1≤b:=by
 intro r
 induction r with
 | zero=>intro k p hp;exact hp
 | succ r ih=>
  intro k p hp
  unfold J2r
  split
  ·exact ih _ _ (hg k p hp)
  ·exact hg k p hp
theorem J6h {l:List RowN}:∀ m at_ what,at_≤l.length→(rowN isName l m at_ what).1≤l.length:=by
 intro m
 induction m with
 | zero=>intro at_ what h;exact h
 | succ m ih=>
  intro at_ what h
  unfold rowN
  split
  ·exact h
  ·rename_i x hx
   have hlt:at_<l.length:=(List.getElem?_eq_some_iff.1 hx).1
   split
   ·exact Jdu (fun k p hp=>ih p _ hp) _ _ _ hlt
   ·exact h
theorem Jas {l:List RowN} {m:Nat}:∀ r ev p,p≤l.length→(polN isName l m r ev p).1≤l.length:=by
 intro r
 induction r with
 | zero=>intro ev p hp;exact hp
 | succ r ih=>
  intro ev p hp
  unfold polN
  split
  ·exact ih _ _ (J6h m p _ hp)
  ·exact J6h m p _ hp
theorem Jdd {l:List RowN} {M:Nat} (hM:l.length<M):runM (isName:=isName) l M 0 [] false=J2L isName l:=by
 obtain⟨M,rfl⟩:∃ M',M=M'+1:=⟨M-1,by omega⟩
 unfold J2L topN
 cases hx:l[0]? with
 | none=>simp[runM,J5e,hx]
 | some x=>
  have hlt:0<l.length:=(List.getElem?_eq_some_iff.1 hx).1
  have h8:∀ k,J1c 8 k=J1l 8 k:=fun k=>rfl
  have hw:J60 []=8:=rfl
  simp only
  cases hb:(J1l 8 x.kind&&fitN isName x) with
  | false=>simp[runM,J5e,hx,hw,h8,hb]
  | true=>
   simp only[if_true]
   have hk:x.kind=1:=by
    have:=(Bool.and_eq_true_iff.1 hb).1
    simpa [J1l] using this
   have hrun:runM (isName:=isName) l (M+1) 0 [] false=J4E (isName:=isName) l M 1 (popF [⟨1,x.kids.toNat,0⟩]) false:=by
    simp only[runM,J5e,hx,hw,h8,hb,if_true]
    simp only[hk,show ((8:Int)=9)=False by simp,false_and,if_false]
    rfl
   rw[hrun]
   obtain⟨c1,c2⟩:=Jg2 (isName:=isName) (l:=l) (m:=l.length+1) x.kids.toNat false 0 1 (by omega)
   have hge:=JcJ (isName:=isName) (l:=l) (m:=l.length+1) x.kids.toNat false 1
   have hle:=Jgx (isName:=isName) (l:=l) (m:=l.length+1) x.kids.toNat false 1 (by omega)
   have hle':=Jas (isName:=isName) (l:=l) (m:=l.length+1) x.kids.toNat false 1 (by omega)
   generalize polN isName l (l.length+1) x.kids.toNat false 1=q at c1 c2 hge hle hle'
   cases hq:q.2 with
   | true=>
    have:=hle hq
    have h1:=c1 hq (M-(q.1-1))
    rw[show M-(q.1-1)+(q.1-1)=M by omega] at h1
    rw[h1]
    unfold J4E
    rw[if_pos rfl]
    by_cases hl:q.1=l.length
    ·rw[if_neg (by omega),if_pos ⟨rfl,hl⟩]
    ·rw[if_pos (by omega),if_neg (fun h=>hl h.2)]
   | false=>
    rw[if_neg (fun h=>by cases h.1),c2 hq M (by omega)]
end
end Go.Proofs.YtdejoodfeljmkaaGreatDoor
namespace Go.Sx
open Go
set_option linter.unusedSimpArgs false
set_option linter.unusedVariables false
set_option maxHeartbeats 64000000
def J3Q:Value→Bool
 | .func (.func _) f c=>f.isEmpty&&c.isEmpty
 | v=>flat v
theorem J8s {ρ ρ':Map} {v V:Value} (hp:J3Q v=true) (h:vrel ρ v V):vrel ρ' v V:=by
 unfold J3Q at hp
 split at hp
 ·rename_i k f c
  simp only[Bool.and_eq_true,Array.isEmpty_iff] at hp
  obtain⟨rfl,rfl⟩:=hp
  obtain⟨f',c',rfl,h1,h2⟩:=J6O h
  have e1:f'=#[]:=by
   have:=h1.length
   simp at this
   exact Array.eq_empty_of_size_eq_zero this.symm
  have e2:c'=#[]:=by
   have:=h2.length
   simp at this
   exact Array.eq_empty_of_size_eq_zero this.symm
  subst e1
  subst e2
  exact .func .nil .nil
 ·rw[J4F hp h]
  exact J1X hp
theorem J7W {ρ ρ':Map} {l:List Value} {m:List Value} (hp:l.all J3Q=true) (h:All2 (vrel ρ) l m):All2 (vrel ρ') l m:=by
 induction h with
 | nil=>exact .nil
 | cons h _ ih=>
  simp only[List.all_cons,Bool.and_eq_true] at hp
  exact .cons (J8s hp.1 h) (ih hp.2)
end Go.Sx
