/- Part 3 of what the claim leans on: 4 texts laid one behind another. -/
import Derived.Test.YtdejoodfeljmkaaGreatDoorTC2
import Derived.Laws.BytesArg
namespace Go.Sx
open Go
set_option linter.unusedSimpArgs false
set_option linter.unusedVariables false
set_option maxHeartbeats 64000000
section
variable {P:Program} {ρ:Map} {h:SHeap} {W:World}
theorem nmin (a b:Nat):Nat.min a b=min a b:=rfl
theorem Jfn (hR:Rel P ρ h W) {t ty:TypeId} {x X y Y v:Value} {h':SHeap} (hx:vrel ρ x X) (hy:vrel ρ y Y) (hs:J8N P h t x y=some (v,h')) :
  ∃ V W' ρ',(Builtin.copy_ #[t,t] ty #[X,Y]).run P W=.ok V W'∧Nx P ρ h W ρ' h' W'∧vrel ρ' v V:=by
 unfold J8N at hs
 split at hs
 ·rename_i e base len cap sb n sc hu
  split at hs
  ·rename_i s hsz
   simp only at hs
   split at hs
   ·rename_i new hnew
    obtain⟨A',C',New,rfl,hN,hrn,hsrc⟩:=J4d hR hy (Nat.min_le_left n len) hnew
    have hf:=J6l (P:=P) (m:=n) (C:=C') hN hsrc
    split at hs
    ·rename_i id off
     split at hs
     ·rename_i hm0
      cases hs
      have hNn:New=[]:=List.eq_nil_of_length_eq_zero (by rw[hN,hm0];simp)
      rw[hNn] at hf
      have hr:∃ B C,X=.slice (some B) len C:=by
       rcases J1u hx with⟨h1,_⟩ | ⟨_,_,L,_,_,_,rfl⟩ | ⟨_,_,L,A,C,_,_,_,_,rfl,_⟩
       ·cases h1
       ·exact⟨_,_,rfl⟩
       ·exact⟨_,_,rfl⟩
      obtain⟨B,C,rfl⟩:=hr
      refine⟨.int .i64 (min n len:Nat),W,ρ,?_,Nx.refl hR,.flat rfl⟩
      simp[Builtin.copy_,nmin,run_underlying hu,Builtin.lenOf,J12 hsz,hf,storeCells,goInt]
     ·rename_i hm0
      split at hs
      ·rename_i h2 hst
       cases hs
       rcases J1u hx with⟨h1,_⟩ | ⟨_,_,L,h1,hL,hlt,rfl⟩ | ⟨_,_,L,A,C,h1,hL,_,hC,rfl,hA⟩
       ·cases h1
       ·cases h1
        obtain⟨W',hrun,hN2⟩:=J4l hR hrn hL hst
        refine⟨.int .i64 (min n len:Nat),W',ρ,?_,hN2,.flat rfl⟩
        simp[Builtin.copy_,nmin,run_underlying hu,Builtin.lenOf,J12 hsz,hf,hrun,goInt]
       ·cases h1
        rcases hA with rfl | ⟨rfl,_⟩
        ·have:min n len=0:=by omega
         exact absurd this hm0
        ·obtain⟨W',hrun,hN2⟩:=J4l hR hrn hL hst
         refine⟨.int .i64 (min n len:Nat),W',ρ,?_,hN2,.flat rfl⟩
         simp[Builtin.copy_,nmin,run_underlying hu,Builtin.lenOf,J12 hsz,hf,hrun,goInt]
      ·cases hs
    ·cases hs
     rcases J1u hx with⟨_,rfl,rfl,rfl⟩ | ⟨_,_,L,h1,_⟩ | ⟨_,_,L,A,C,h1,_⟩
     ·refine⟨.int .i64 (min n 0:Nat),W,ρ,?_,Nx.refl hR,.flat rfl⟩
      simp only[Nat.min_zero] at hf
      simp[Builtin.copy_,nmin,run_underlying hu,Builtin.lenOf,J12 hsz,hf,goInt]
     ·cases h1
     ·cases h1
    ·cases hs
   ·cases hs
  ·cases hs
 ·cases hs
theorem J3o {a b:ByteArray} (h:(a==b)=true):a=b:=by
 have:a.data==b.data:=h
 cases a;cases b;simp at this;simp[this]
theorem J5s {k x X:Value} {b:Bool} {kt:TypeDesc} (hk:(∃ j,kt=.int j∧∃ n i,k=.int n i)∨(kt=.string∧∃ s,k=.string s)) (hx:vrel ρ x X) (h:J4s k x=some b):Instr.sameNow kt k X=some b:=by
 rcases hk with⟨j,rfl,n,i,rfl⟩ | ⟨rfl,s,rfl⟩
 ·cases x <;> simp[J4s] at h
  obtain rfl:=J2G hx
  simp[Instr.sameNow,h]
 ·cases x <;> simp[J4s] at h
  obtain rfl:=J4U hx
  simp[Instr.sameNow,h]
theorem J9t {k:Value} {kt:TypeDesc} (hk:(∃ j,kt=.int j∧∃ n i,k=.int n i)∨(kt=.string∧∃ s,k=.string s)) {es:List (Value × Value)} {ES:List MapEntry}
  (he:All2 (fun e E=>vrel ρ e.1 E.key∧vrel ρ e.2 E.val) es ES):∀ {r:Option Value} (i:Nat),J2y k es=some r →
  ∃ R,Instr.findNow kt k ES i=some R∧(match r,R with
   | none,none=>True
   | some v,some (j,V)=>vrel ρ v V∧i≤j∧(∃ x u,es[j-i]?=some (x,u)∧J4s k x=some true∧∀ m x' u',m<j-i→es[m]?=some (x',u')→J4s k x'=some false)
   | _,_=>False):=by
 induction he with
 | nil=>
  intro r i hf
  simp[J2y] at hf
  subst hf
  exact⟨none,rfl,trivial⟩
 | cons hh _ ih=>
  intro r i hf
  rename_i a b l m _
  obtain⟨x,v⟩:=a
  simp only[J2y] at hf
  split at hf
  ·rename_i hq
   cases hf
   refine⟨some (i,b.val),?_,hh.2,Nat.le_refl _,x,v,by simp,hq,fun m x' u' hm=>by omega⟩
   simp[Instr.findNow,J5s hk hh.1 hq]
  ·rename_i hq
   obtain⟨R,hR,hm⟩:=ih (i+1) hf
   refine⟨R,by simp[Instr.findNow,J5s hk hh.1 hq,hR],?_⟩
   cases r with
   | none=>cases R with
    | none=>trivial
    | some R=>exact hm.elim
   | some w=>cases R with
    | none=>exact hm.elim
    | some R=>
     obtain⟨h1,h2,x',u',h3,h4,h5⟩:=hm
     refine⟨h1,by omega,x',u',?_,h4,?_⟩
     ·rw[show R.1-i=(R.1-(i+1))+1 by omega]
      simpa using h3
     ·intro m x2 u2 hm2 hg
      cases m with
      | zero=>simp at hg;obtain⟨rfl,rfl⟩:=hg;exact hq
      | succ m=>exact h5 m x2 u2 (by omega) (by simpa using hg)
  ·cases hf
theorem J76 {kt:TypeId} {k:Value} (h:J61 P kt k=true):∃ d,P.underlying kt=some d∧((∃ j,d=.int j∧∃ n i,k=.int n i)∨(d=.string∧∃ s,k=.string s)):=by
 unfold J61 at h
 split at h
 ·rename_i j n i hu
  exact⟨_,hu,.inl ⟨_,rfl,_,_,rfl⟩⟩
 ·rename_i s hu
  exact⟨_,hu,.inr ⟨rfl,_,rfl⟩⟩
 ·cases h
theorem J5X {kt:TypeId} {k:Value} {d:TypeDesc} (hu:P.underlying kt=some d) (hd:(∃ j,d=.int j∧∃ n i,k=.int n i)∨(d=.string∧∃ s,k=.string s)) (b:Bool) (n:Nat):(Instr.checkKey b (n+1) kt k).run P W=.ok () W:=by
 rcases hd with⟨j,rfl,m,i,rfl⟩ | ⟨rfl,s,rfl⟩ <;> simp[Instr.checkKey,run_underlying hu]
theorem Ja1 {d:TypeDesc} {k K:Value} (hd:(∃ j,d=.int j∧∃ n i,k=.int n i)∨(d=.string∧∃ s,k=.string s)) (hk:vrel ρ k K):K=k:=by
 rcases hd with⟨_,_,n,i,rfl⟩ | ⟨_,s,rfl⟩
 ·exact J2G hk
 ·exact J4U hk
theorem J9L {id:Nat} {es:List (Value × Value)} (hR:Rel P ρ h W) (hg:h.get id=.map es) {L:Loc} (hL:ρ id=some L) :
  ∃ ES clk,W.heap[L.b]?=some (.map ES clk)∧All2 (fun e E=>vrel ρ e.1 E.key∧vrel ρ e.2 E.val) es ES.toList:=by
 have:=hR.obj id
 rw[hg] at this
 obtain⟨L',ES,clk,h1,h2,h3⟩:=this
 rw[hL] at h1
 cases h1
 exact⟨ES,clk,h2,h3⟩
theorem Jbi (hR:Rel P ρ h W) {t:TypeId} {m M k K v:Value} {ok:Bool} (hm:vrel ρ m M) (hk:vrel ρ k K) (hs:J4D P h t m k ok=some v) :
  ∃ V,(Instr.lookup t M K ok).run P W=.ok V W∧vrel ρ v V:=by
 unfold J4D at hs
 split at hs
 ·rename_i kt et hu
  split at hs
  ·rename_i hko
   obtain⟨d,hd,hdk⟩:=J76 hko
   have hKk:K=k:=Ja1 hdk hk
   subst hKk
   split at hs
   ·rename_i es hes
    have hck:∀ b,(Instr.checkKey b 10000 kt K).run P W=.ok () W:=fun b=>J5X hd hdk b 9999
    -- the entries on the other side
    have hent:∃ ES:Array MapEntry,All2 (fun e E=>vrel ρ e.1 E.key∧vrel ρ e.2 E.val) es ES.toList ∧
      ∀ (f:Array MapEntry→Sem Value),((do
       let es ← match M with
        | .map none=>pure #[]
        | .map (some r)=>do
         let .map es _ ← getObj r | stuck "Lookup: map expected"
         pure es
        | _ => stuck "Lookup: map expected"
       f es:Sem Value)).run P W=(f ES).run P W:=by
     split at hes
     ·cases hes
      obtain rfl:M=.map none:=J1Q rfl hm
      exact⟨#[],.nil,fun f=>by simp⟩
     ·rename_i id
      split at hes
      ·rename_i es' hg
       cases hes
       obtain⟨L,hL,rfl⟩:=J7T hm
       obtain⟨ES,clk,hb,hall⟩:=J9L hR hg hL
       refine⟨ES,hall,fun f=>?_⟩
       simp[getObj,Sem.run,hb]
      ·cases hes
     ·cases hes
    obtain⟨ES,hall,hrunM⟩:=hent
    have hrun0:(Instr.lookup t M K ok).run P W=(do
       Instr.checkKey ES.isEmpty 10000 kt K
       let (v,ok') ← match ← Instr.findKey kt K ES.toList with
        | some (_,v)=>pure (v,true)
        | none=>pure (← zeroValue et,false)
       pure (if ok then .tuple #[v,.bool ok'] else v):Sem Value).run P W:=by
     unfold Instr.lookup
     rw[Sem.run_bind,run_underlying hu]
     exact hrunM _
    split at hs
    ·rename_i r hf
     cases hs
     obtain⟨R,hR2,hmatch⟩:=J9t hdk hall 0 hf
     cases R with
     | none=>exact hmatch.elim
     | some jv=>
      obtain⟨j,V⟩:=jv
      obtain⟨hv,_⟩:=hmatch
      refine⟨if ok then .tuple #[V,.bool true] else V,?_,?_⟩
      ·rw[hrun0]
       simp[hck,Instr.findKey,run_underlying hd,hR2]
      ·cases ok
       ·exact hv
       ·exact .tuple (.cons hv (.cons (.flat rfl) .nil))
    ·rename_i hf
     split at hs
     ·rename_i z hz
      split at hs
      ·rename_i hfl
       cases hs
       obtain⟨R,hR2,hmatch⟩:=J9t hdk hall 0 hf
       cases R with
       | some _=>exact hmatch.elim
       | none=>
        refine⟨if ok then .tuple #[z,.bool false] else z,?_,?_⟩
        ·rw[hrun0]
         simp[hck,Instr.findKey,run_underlying hd,hR2,J1Z hz]
        ·cases ok
         ·exact J1X hfl
         ·exact .tuple (.cons (J1X hfl) (.cons (.flat rfl) .nil))
      ·cases hs
     ·cases hs
    ·cases hs
   ·cases hs
  ·cases hs
 ·cases hs
theorem J8R {k v:Value}:∀ {es:List (Value × Value)} {j:Nat} {x u:Value},es[j]?=some (x,u)→J4s k x=some true→(∀ (m:Nat) (x' u':Value),m<j→es[m]?=some (x',u')→J4s k x'=some false)→J2h k v es=es.set j (k,v):=by
 intro es
 induction es with
 | nil=>intro j x u h;simp at h
 | cons e es ih=>
  intro j x u hj hk hno
  obtain⟨x0,u0⟩:=e
  cases j with
  | zero=>
   simp at hj
   obtain⟨rfl,rfl⟩:=hj
   simp[J2h,hk]
  | succ j=>
   have h0:=hno 0 x0 u0 (by omega) rfl
   simp only[J2h,h0]
   rw[if_neg (by simp)]
   rw[ih (j:=j) (by simpa using hj) hk (fun m x' u' hm hg=>hno (m+1) x' u' (by omega) (by simpa using hg))]
   rfl
theorem J9q {k v:Value}:∀ {es:List (Value × Value)},J2y k es=some none→J2h k v es=es++[(k,v)]:=by
 intro es
 induction es with
 | nil=>intro _;rfl
 | cons e es ih=>
  intro h
  obtain⟨x0,u0⟩:=e
  simp only[J2y] at h
  split at h
  ·cases h
  ·rename_i hq
   simp only[J2h,hq]
   rw[if_neg (by simp),ih h]
   rfl
  ·cases h
theorem J7s (hR:Rel P ρ h W) {t:TypeId} {m M k K v V:Value} {h':SHeap} (hm:vrel ρ m M) (hk:vrel ρ k K) (hv:vrel ρ v V) (hs:J3h P h t m k v=some h') :
  ∃ W',(Instr.mapUpdate t M K V).run P W=.ok () W'∧Nx P ρ h W ρ h' W':=by
 unfold J3h at hs
 split at hs
 ·rename_i kt et id hu
  split at hs
  ·rename_i hc
   simp only[Bool.and_eq_true,decide_eq_true_eq] at hc
   obtain⟨hko,hf⟩:=hc
   obtain⟨d,hd,hdk⟩:=J76 hko
   have hKk:K=k:=Ja1 hdk hk
   subst hKk
   split at hs
   ·rename_i es hg
    obtain⟨L,hL,rfl⟩:=J7T hm
    obtain⟨ES,clk,hb,hall⟩:=J9L hR hg hL
    have hck:(Instr.checkKey false 10000 kt K).run P W=.ok () W:=J5X hd hdk false 9999
    have hlt:L.b<W.heap.size:=(Array.getElem?_eq_some_iff.1 hb).1
    have hwr:wr (h.get id):=by rw[hg];trivial
    have hput:∀ ES' clk',All2 (fun e E=>vrel ρ e.1 E.key∧vrel ρ e.2 E.val) (J2h K v es) ES'.toList →
      Nx P ρ h W ρ (h.put id (.map (J2h K v es))) { W with heap:=W.heap.setIfInBounds L.b (.map ES' clk') }:=by
     intro ES' clk' ha
     refine Je6 hR (L:=L) hwr hf hL rfl rfl rfl (by simp) (fun b _ hne=>by simp[Array.getElem?_setIfInBounds,Ne.symm hne]) ?_
     exact⟨L,ES',clk',hL,by simp[Array.getElem?_setIfInBounds,hlt],ha⟩
    split at hs
    ·rename_i r hf2
     cases hs
     obtain⟨R,hR2,hmatch⟩:=J9t hdk hall 0 hf2
     cases R with
     | none=>
      cases r with
      | some _=>exact hmatch.elim
      | none=>
       refine⟨_,?_,hput (ES.push { key:=K,val:=V,born:=clk }) (clk+1) ?_⟩
       ·simp[Instr.mapUpdate,run_underlying hu,getObj,setObj,Sem.run,hb,hck,Instr.findKey,run_underlying hd,hR2]
       ·rw[J9q hf2,Array.toList_push]
        exact hall.append (.cons ⟨J1X (by rcases hdk with⟨_,_,_,_,rfl⟩ | ⟨_,_,rfl⟩ <;> rfl),hv⟩ .nil)
     | some jv=>
      cases r with
      | none=>exact hmatch.elim
      | some r=>
       obtain⟨j,V0⟩:=jv
       obtain⟨_,_,x,u,hj,hq,hno⟩:=hmatch
       simp only[Nat.sub_zero] at hj hno
       obtain⟨E,hE,hEk,hEv⟩:=hall.get hj
       have hE2:ES[j]?=some E:=by simpa using hE
       have hkey:E.key=x∧Instr.sameBits 10000 E.key K=true:=by
        rcases hdk with⟨i,_,n,y,rfl⟩ | ⟨_,s,rfl⟩
        ·cases x <;> simp[J4s] at hq
         obtain⟨rfl,rfl⟩:=hq
         have:=J2G hEk
         rw[this]
         exact⟨rfl,by simp[Instr.sameBits]⟩
        ·cases x <;> simp[J4s] at hq
         have hq2:=J3o hq
         subst hq2
         have:=J4U hEk
         rw[this]
         exact⟨rfl,by simp only[Instr.sameBits];exact hq⟩
       refine⟨_,?_,hput (ES.modify j fun e=>{ e with key:=K,val:=V }) clk ?_⟩
       ·simp[Instr.mapUpdate,run_underlying hu,getObj,setObj,Sem.run,hb,hck,Instr.findKey,run_underlying hd,hR2,Instr.keyThatStays,hE2,hkey.2]
       ·rw[J8R hj hq hno]
        have hjl:j<ES.toList.length:=(List.getElem?_eq_some_iff.1 hE).1
        have e1:(ES.modify j fun e=>{ e with key:=K,val:=V }).toList=ES.toList.set j { E with key:=K,val:=V }:=by
         rw[Array.toList_modify]
         apply List.ext_getElem?
         intro i
         rw[List.getElem?_modify,List.getElem?_set]
         by_cases hij:j=i
         ·subst hij;simp[hE];simpa using hjl
         ·simp[hij]
        rw[e1]
        exact hall.set ⟨J1X (by rcases hdk with⟨_,_,_,_,rfl⟩ | ⟨_,_,rfl⟩ <;> rfl),hv⟩
    ·cases hs
   ·cases hs
  ·cases hs
 ·cases hs
theorem JgJ (hR:Rel P ρ h W) {t ty:TypeId} {x X v:Value} (hx:vrel ρ x X) (hs:lenS P h t x=some v):∃ V,(Builtin.len_ #[t] ty #[X]).run P W=.ok V W∧vrel ρ v V:=by
 unfold lenS at hs
 split at hs
 ·rename_i s hu
  cases hs
  obtain rfl:=J4U hx
  exact⟨_,by simp[Builtin.len_,run_underlying hu,goInt],.flat rfl⟩
 ·rename_i e a n c hu
  cases hs
  have:∃ A C,X=.slice A n C:=by
   rcases J1u hx with⟨_,rfl,rfl,rfl⟩ | ⟨_,_,L,_,_,_,rfl⟩ | ⟨_,_,L,A,C,_,_,_,_,rfl,_⟩
   ·exact⟨_,_,rfl⟩
   ·exact⟨_,_,rfl⟩
   ·exact⟨_,_,rfl⟩
  obtain⟨A,C,rfl⟩:=this
  exact⟨_,by simp[Builtin.len_,run_underlying hu,goInt],.flat rfl⟩
 ·rename_i n e hu
  cases hs
  exact⟨.int .i64 n,by simp[Builtin.len_,run_underlying hu,goInt],.flat rfl⟩
 ·rename_i kt e hu
  cases hs
  obtain rfl:X=.map none:=J1Q rfl hx
  exact⟨_,by simp[Builtin.len_,run_underlying hu,goInt],.flat rfl⟩
 ·rename_i kt e id hu
  split at hs
  ·rename_i es hg
   cases hs
   obtain⟨L,hL,rfl⟩:=J7T hx
   obtain⟨ES,clk,hb,hall⟩:=J9L hR hg hL
   have hl:es.length=ES.size:=by simpa using hall.length
   exact⟨.int .i64 ES.size,by simp[Builtin.len_,run_underlying hu,goInt,getObj,Sem.run,hb],by rw[hl];exact .flat rfl⟩
  ·cases hs
 ·cases hs
theorem J8E {g:Int→Int→Int} {f:Value→Value→Option Value} {F:Value→Value→Sem Value} (hf:∀ a b c,f a b=some c→∃ k x j y,a=.int k x∧b=.int j y∧c=.int k (g x y))
  (hF:∀ k x j y,F (.int k x) (.int j y)=pure (.int k (g x y))):∀ {l L:List Value} {a v:Value},All2 (vrel ρ) l L→(∃ k x,a=.int k x)→l.foldlM f a=some v→(L.foldlM F a).run P W=.ok v W∧∃ k x,v=.int k x:=by
 intro l
 induction l with
 | nil=>
  intro L a v hl ha hs
  cases hl
  simp at hs
  subst hs
  exact⟨by simp,ha⟩
 | cons b l ih=>
  intro L a v hl ha hs
  cases hl with
  | cons hb hl=>
  rw[List.foldlM_cons] at hs
  cases hfa:f a b with
  | none=>rw[hfa] at hs;simp at hs
  | some c=>
   rw[hfa] at hs
   obtain⟨k,x,j,y,rfl,rfl,rfl⟩:=hf a b c hfa
   obtain rfl:=J2G hb
   have:=ih hl ⟨k,g x y,rfl⟩ hs
   rw[List.foldlM_cons,hF]
   simpa using this
theorem JfW {ty:TypeId} {at_:Array TypeId} {l:List Value} {L:Array Value} {v:Value} (hl:All2 (vrel ρ) l L.toList) (hs:maxS l=some v):(Builtin.max_ at_ ty L).run P W=.ok v W∧vrel ρ v v:=by
 unfold maxS at hs
 split at hs
 ·rename_i k x rest
  unfold Builtin.max_
  cases hL:L.toList with
  | nil=>rw[hL] at hl;cases hl
  | cons X REST=>
   rw[hL] at hl
   cases hl with
   | cons hx hr=>
   obtain rfl:=J2G hx
   have:=J8E (P:=P) (W:=W) (g:=fun x y=>if y>x then y else x) (F:=Builtin.max2) (fun a b c h=>by
    split at h
    ·cases h;exact⟨_,_,_,_,rfl,rfl,rfl⟩
    ·cases h) (fun _ _ _ _=>rfl) hr ⟨k,x,rfl⟩ hs
   obtain⟨h1,k2,x2,rfl⟩:=this
   exact⟨h1,.flat rfl⟩
 ·cases hs
theorem JgQ {ty:TypeId} {at_:Array TypeId} {l:List Value} {L:Array Value} {v:Value} (hl:All2 (vrel ρ) l L.toList) (hs:minS l=some v):(Builtin.min_ at_ ty L).run P W=.ok v W∧vrel ρ v v:=by
 unfold minS at hs
 split at hs
 ·rename_i k x rest
  unfold Builtin.min_
  cases hL:L.toList with
  | nil=>rw[hL] at hl;cases hl
  | cons X REST=>
   rw[hL] at hl
   cases hl with
   | cons hx hr=>
   obtain rfl:=J2G hx
   have:=J8E (P:=P) (W:=W) (g:=fun x y=>if y<x then y else x) (F:=Builtin.min2) (fun a b c h=>by
    split at h
    ·cases h;exact⟨_,_,_,_,rfl,rfl,rfl⟩
    ·cases h) (fun _ _ _ _=>rfl) hr ⟨k,x,rfl⟩ hs
   obtain⟨h1,k2,x2,rfl⟩:=this
   exact⟨h1,.flat rfl⟩
 ·cases hs
section
variable {t:TypeId} {e:TypeId}
theorem J49 (hu:P.underlying t=some (.pointer e)) (a:Addr):(Op.equal t (.pointer (some a)) (.pointer none)).run P W=.ok false W:=by
 have h:∀ d,(Op.equalIn (d+1) t (.pointer (some a)) (.pointer none)).run P W=.ok false W:=fun d=>by simp[Op.equalIn,run_underlying hu]
 exact h 9999
theorem J45 (hu:P.underlying t=some (.pointer e)) (a:Addr):(Op.equal t (.pointer none) (.pointer (some a))).run P W=.ok false W:=by
 have h:∀ d,(Op.equalIn (d+1) t (.pointer none) (.pointer (some a))).run P W=.ok false W:=fun d=>by simp[Op.equalIn,run_underlying hu]
 exact h 9999
theorem J3F (hu:P.underlying t=some (.slice e)) (a:Addr) (n c:Nat):(Op.equal t (.slice (some a) n c) (.slice none 0 0)).run P W=.ok false W:=by
 have h:∀ d,(Op.equalIn (d+1) t (.slice (some a) n c) (.slice none 0 0)).run P W=.ok false W:=fun d=>by simp[Op.equalIn,run_underlying hu]
 exact h 9999
end
theorem J5L {t:TypeId} {A B:Value} {r:Bool} (hA:(∃ a,A=.pointer a)∨(∃ a n c,A=.slice a n c)) (hB:(∃ a,B=.pointer a)∨(∃ a n c,B=.slice a n c)) (hr:(Op.equal t A B).run P W=.ok r W) (x y:Operand) :
  (do eqGuard .eql t x y A B;binOp .eql t A B:Sem Value).run P W=.ok (.bool r) W∧(do eqGuard .neq t x y A B;binOp .neq t A B:Sem Value).run P W=.ok (.bool !r) W:=by
 have e1:∀ op,eqGuard op t x y A B=pure ():=by
  intro op
  rcases hA with⟨a,rfl⟩ | ⟨a,n,c,rfl⟩
  ·exact eqGuard_at_pointer op t x y B a
  ·exact eqGuard_at_slice op t x y B a n c
 have e2:binOp .eql t A B=(do pure (.bool (← Op.equal t A B))):=by
  rcases hA with⟨a,rfl⟩ | ⟨a,n,c,rfl⟩ <;> rcases hB with⟨b,rfl⟩ | ⟨b,n',c',rfl⟩ <;> rfl
 have e3:binOp .neq t A B=(do pure (.bool (!(← Op.equal t A B)))):=by
  rcases hA with⟨a,rfl⟩ | ⟨a,n,c,rfl⟩ <;> rcases hB with⟨b,rfl⟩ | ⟨b,n',c',rfl⟩ <;> rfl
 rw[e1,e1,e2,e3]
 simp only[Sem.run_bind,Sem.run_pure,Result.andThen_ok,hr,and_self]
theorem J3s {t:TypeId} {v V:Value} (h:vrel ρ (.iface t v) V):∃ V',V=.iface t V'∧vrel ρ v V':=by
 cases h with
 | flat hf=>simp[J1i] at hf
 | iface h=>exact⟨_,rfl,h⟩
theorem J3u {t:TypeId} {ms:Array (String × TypeId)} (hu:P.underlying t=some (.interface ms)) (ty:TypeId) (v:Value):(Op.equal t (.iface ty v) .nilIface).run P W=.ok false W:=by
 unfold Op.equal Op.maxDepth Op.equalIn
 simp[run_underlying hu]
theorem J3E {t:TypeId} {ms:Array (String × TypeId)} (hu:P.underlying t=some (.interface ms)) (ty:TypeId) (v:Value):(Op.equal t .nilIface (.iface ty v)).run P W=.ok false W:=by
 unfold Op.equal Op.maxDepth Op.equalIn
 simp[run_underlying hu]
theorem J3p {t:TypeId} {A B:Value} {r:Bool} (hAB:(∃ ty v,A=.iface ty v∧B=.nilIface)∨(∃ ty v,B=.iface ty v∧A=.nilIface)) (hr:(Op.equal t A B).run P W=.ok r W) (x y:Operand) :
  (do eqGuard .eql t x y A B;binOp .eql t A B:Sem Value).run P W=.ok (.bool r) W∧(do eqGuard .neq t x y A B;binOp .neq t A B:Sem Value).run P W=.ok (.bool (!r)) W:=by
 have e1:∀ op,eqGuard op t x y A B=(pure ():Sem Unit):=by
  intro op
  rcases hAB with⟨_,_,rfl,rfl⟩ | ⟨_,_,rfl,rfl⟩ <;> cases op <;> rfl
 have e2:binOp .eql t A B=(do pure (.bool (← Op.equal t A B))):=by
  rcases hAB with⟨_,_,rfl,rfl⟩ | ⟨_,_,rfl,rfl⟩ <;> rfl
 have e3:binOp .neq t A B=(do pure (.bool (!(← Op.equal t A B)))):=by
  rcases hAB with⟨_,_,rfl,rfl⟩ | ⟨_,_,rfl,rfl⟩ <;> rfl
 rw[e1,e1,e2,e3]
 simp only[Sem.run_bind,Sem.run_pure,Result.andThen_ok,hr,and_self]
theorem JgI {op:BinOp} {t:TypeId} {x y:Operand} {a b A B v:Value} (ha:vrel ρ a A) (hb:vrel ρ b B) (hs:binS P op t x y a b=some v) :
  ∃ V,(do eqGuard op t x y A B;binOp op t A B:Sem Value).run P W=.ok V W∧vrel ρ v V:=by
 unfold binS at hs
 split at hs
 ·rename_i hf
  simp only[Bool.and_eq_true] at hf
  obtain rfl:=J4F hf.1 ha
  obtain rfl:=J4F hf.2 hb
  cases hp:J0k P (do eqGuard op t x y A B;binOp op t A B) with
  | none=>rw[hp] at hs;cases hs
  | some u=>
   rw[hp] at hs
   simp only at hs
   split at hs
   ·cases hs
    exact⟨v,J56 hp,J1X ‹_›⟩
   ·cases hs
 ·split at hs
  ·cases hs
   have hu:=‹P.underlying t=some (.pointer _)›
   obtain⟨L,hL,_,rfl⟩:=J3D ha
   obtain rfl:B=.pointer none:=J1Q rfl hb
   exact⟨_,(J5L (.inl ⟨_,rfl⟩) (.inl ⟨_,rfl⟩) (J49 hu _) x y).1,.flat rfl⟩
  ·cases hs
   have hu:=‹P.underlying t=some (.pointer _)›
   obtain⟨L,hL,_,rfl⟩:=J3D hb
   obtain rfl:A=.pointer none:=J1Q rfl ha
   exact⟨_,(J5L (.inl ⟨_,rfl⟩) (.inl ⟨_,rfl⟩) (J45 hu _) x y).1,.flat rfl⟩
  ·cases hs
   have hu:=‹P.underlying t=some (.pointer _)›
   obtain⟨L,hL,_,rfl⟩:=J3D ha
   obtain rfl:B=.pointer none:=J1Q rfl hb
   exact⟨_,(J5L (.inl ⟨_,rfl⟩) (.inl ⟨_,rfl⟩) (J49 hu _) x y).2,.flat rfl⟩
  ·cases hs
   have hu:=‹P.underlying t=some (.pointer _)›
   obtain⟨L,hL,_,rfl⟩:=J3D hb
   obtain rfl:A=.pointer none:=J1Q rfl ha
   exact⟨_,(J5L (.inl ⟨_,rfl⟩) (.inl ⟨_,rfl⟩) (J45 hu _) x y).2,.flat rfl⟩
  ·cases hs
   have hu:=‹P.underlying t=some (.slice _)›
   obtain rfl:B=.slice none 0 0:=J1Q rfl hb
   have:∃ A' n C,A=.slice (some A') n C:=by
    rcases J1u ha with⟨h1,_⟩ | ⟨_,_,L,_,_,_,rfl⟩ | ⟨_,_,L,A,C,_,_,_,_,rfl,_⟩
    ·cases h1
    ·exact⟨_,_,_,rfl⟩
    ·exact⟨_,_,_,rfl⟩
   obtain⟨A',n,C,rfl⟩:=this
   exact⟨_,(J5L (.inr ⟨_,_,_,rfl⟩) (.inr ⟨_,_,_,rfl⟩) (J3F hu _ _ _) x y).1,.flat rfl⟩
  ·cases hs
   have hu:=‹P.underlying t=some (.slice _)›
   obtain rfl:B=.slice none 0 0:=J1Q rfl hb
   have:∃ A' n C,A=.slice (some A') n C:=by
    rcases J1u ha with⟨h1,_⟩ | ⟨_,_,L,_,_,_,rfl⟩ | ⟨_,_,L,A,C,_,_,_,_,rfl,_⟩
    ·cases h1
    ·exact⟨_,_,_,rfl⟩
    ·exact⟨_,_,_,rfl⟩
   obtain⟨A',n,C,rfl⟩:=this
   exact⟨_,(J5L (.inr ⟨_,_,_,rfl⟩) (.inr ⟨_,_,_,rfl⟩) (J3F hu _ _ _) x y).2,.flat rfl⟩
  ·cases hs
   have hu:=‹P.underlying t=some (.interface _)›
   obtain⟨A',rfl,_⟩:=J3s ha
   obtain rfl:B=.nilIface:=J1Q rfl hb
   exact⟨_,(J3p (.inl ⟨_,_,rfl,rfl⟩) (J3u hu _ _) x y).1,.flat rfl⟩
  ·cases hs
   have hu:=‹P.underlying t=some (.interface _)›
   obtain⟨B',rfl,_⟩:=J3s hb
   obtain rfl:A=.nilIface:=J1Q rfl ha
   exact⟨_,(J3p (.inr ⟨_,_,rfl,rfl⟩) (J3E hu _ _) x y).1,.flat rfl⟩
  ·cases hs
   have hu:=‹P.underlying t=some (.interface _)›
   obtain⟨A',rfl,_⟩:=J3s ha
   obtain rfl:B=.nilIface:=J1Q rfl hb
   exact⟨_,(J3p (.inl ⟨_,_,rfl,rfl⟩) (J3u hu _ _) x y).2,.flat rfl⟩
  ·cases hs
   have hu:=‹P.underlying t=some (.interface _)›
   obtain⟨B',rfl,_⟩:=J3s hb
   obtain rfl:A=.nilIface:=J1Q rfl ha
   exact⟨_,(J3p (.inr ⟨_,_,rfl,rfl⟩) (J3E hu _ _) x y).2,.flat rfl⟩
  ·cases hs
theorem J3r {t:TypeId} {i:TypeInfo} (h:P.info? t=some i):(typeInfo t).run P W=.ok i W:=by
 simp[typeInfo,Sem.run_bind,h]
theorem J9g {d:TypeDesc} {x X:Value} {xt asserted:TypeId} {ok:Bool} {r:Option Value} (hu:P.underlying asserted=some d) (hx:vrel ρ x X) (ha:J37 P d asserted x=some r) :
  (∀ u,r=some u→∃ U,vrel ρ u U∧(Instr.typeAssert X xt asserted ok).run P W=.ok (if ok then .tuple #[U,.bool true] else U) W) ∧
  (r=none→∀ z,ok=true→J1w P asserted=some z→(Instr.typeAssert X xt asserted ok).run P W=.ok (.tuple #[z,.bool false]) W):=by
 cases x with
 | nilIface=>
  obtain rfl:X=.nilIface:=J1Q rfl hx
  have:r=none:=by cases d <;> (simp[J37] at ha;exact ha.symm)
  subst this
  refine⟨fun u h=>(by cases h),fun _ z hok hz=>?_⟩
  subst hok
  cases d <;> simp[Instr.typeAssert,run_underlying hu,J1Z hz]
 | iface t v=>
  obtain⟨V,rfl,hv⟩:=J3s hx
  by_cases hd:∃ want,d=.interface want
  ·obtain⟨want,rfl⟩:=hd
   cases hi:P.info? t with
   | none=>simp[J37,hi] at ha
   | some i=>
    cases hm:Instr.missingMethod want i.methods with
    | none=>
     have:r=some (.iface t v):=by simp[J37,hi,hm] at ha;exact ha.symm
     subst this
     refine⟨fun u h=>?_,fun h=>(by cases h)⟩
     cases h
     exact⟨_,hx,by cases ok <;> simp[Instr.typeAssert,run_underlying hu,J3r hi,hm]⟩
    | some m=>
     have:r=none:=by simp[J37,hi,hm] at ha;exact ha.symm
     subst this
     refine⟨fun u h=>(by cases h),fun _ z hok hz=>?_⟩
     subst hok
     simp[Instr.typeAssert,run_underlying hu,J3r hi,hm,J1Z hz]
  ·by_cases ht:t=asserted
   ·subst ht
    have:r=some v:=by cases d <;> first | (exact absurd ⟨_,rfl⟩ hd) | (simp[J37] at ha;exact ha.symm)
    subst this
    refine⟨fun u h=>?_,fun h=>(by cases h)⟩
    cases h
    exact⟨_,hv,by cases d <;> first | (exact absurd ⟨_,rfl⟩ hd) | (cases ok <;> simp[Instr.typeAssert,run_underlying hu])⟩
   ·have:r=none:=by cases d <;> first | (exact absurd ⟨_,rfl⟩ hd) | (simp[J37,ht] at ha;exact ha.symm)
    subst this
    refine⟨fun u h=>(by cases h),fun _ z hok hz=>?_⟩
    subst hok
    cases d <;> first | (exact absurd ⟨_,rfl⟩ hd) | (simp[Instr.typeAssert,run_underlying hu,ht,J1Z hz])
 | _=>cases d <;> simp[J37] at ha
theorem Jbl {x X v:Value} {xt asserted:TypeId} {ok:Bool} (hx:vrel ρ x X) (hs:J9C P x asserted ok=some v) :
  ∃ V,(Instr.typeAssert X xt asserted ok).run P W=.ok V W∧vrel ρ v V:=by
 unfold J9C at hs
 cases hu:P.underlying asserted with
 | none=>rw[hu] at hs;cases hs
 | some d=>
  rw[hu] at hs
  simp only at hs
  cases ha:J37 P d asserted x with
  | none=>rw[ha] at hs;cases hs
  | some r=>
   have hh:=J9g (xt:=xt) (ok:=ok) (W:=W) hu hx ha
   rw[ha] at hs
   cases r with
   | some u=>
    simp only at hs
    cases hs
    obtain⟨U,hU,hr⟩:=hh.1 u rfl
    refine⟨_,hr,?_⟩
    cases ok
    ·exact hU
    ·exact .tuple (.cons hU (.cons (.flat rfl) .nil))
   | none=>
    simp only at hs
    split at hs
    ·rename_i hok
     cases hz:J1w P asserted with
     | none=>rw[hz] at hs;cases hs
     | some z=>
      rw[hz] at hs
      simp only at hs
      split at hs
      ·rename_i hf
       cases hs
       exact⟨_,hh.2 rfl z hok hz,.tuple (.cons (J1X hf) (.cons (.flat rfl) .nil))⟩
      ·cases hs
    ·cases hs
theorem JbI {t:TypeId} {v v' V:Value} {name:String} {k:FuncId} {n:Nat} (hv:vrel ρ v V) (hs:J9j P t v name=some (k,v')) :
  v'=v∧(method (n+1) t V name).run P W=.ok (k,V) W:=by
 unfold J9j at hs
 cases hi:P.info? t with
 | none=>rw[hi] at hs;cases hs
 | some i=>
  rw[hi] at hs
  simp only at hs
  cases hm:i.methods.find? (·.name==name) with
  | none=>rw[hm] at hs;cases hs
  | some m=>
   rw[hm] at hs
   simp only at hs
   split at hs
   ·rename_i hp
    have hp':m.path=#[]:=by simpa [Array.isEmpty_iff] using hp
    cases hf:m.func with
    | none=>rw[hf] at hs;simp at hs
    | some fp=>
     obtain⟨f,pr⟩:=fp
     cases hu:P.underlying t with
     | none=>rw[hf,hu] at hs;cases pr <;> simp at hs
     | some d=>
      rw[hf,hu] at hs
      have key:(f,v)=(k,v')∧(pr=true→∃ e,d=.pointer e)∧(pr=false→∀ e,d≠.pointer e):=by
       cases pr <;> cases d <;> simp_all
      obtain⟨h1,h2,h3⟩:=key
      cases h1
      refine⟨rfl,?_⟩
      cases pr with
      | true=>
       obtain⟨e,rfl⟩:=h2 rfl
       simp[method,J3r hi,hm,hp',hf,follow,receiverAt,run_underlying hu,Place.get]
      | false=>
       have h3:=h3 rfl
       cases d <;> first | (exact absurd rfl (h3 _)) | (simp[method,J3r hi,hm,hp',hf,follow,receiverAt,run_underlying hu,Place.get])
   ·cases hs
theorem J7Y:∀ {cs:List Value} {l:List UInt8},J5f cs=some l→∃ ns:List Int,cs=ns.map (Value.int .u8)∧l=ns.map fun n=>UInt8.ofNat n.toNat:=by
 intro cs
 induction cs with
 | nil=>intro l h;simp[J5f] at h;subst h;exact⟨[],rfl,rfl⟩
 | cons c cs ih=>
  intro l h
  unfold J5f at h
  split at h
  ·cases ‹_=[]›
  ·rename_i n r heq
   cases heq
   split at h
   ·rename_i l' hl
    cases h
    obtain⟨ns,rfl,rfl⟩:=ih hl
    exact⟨n :: ns,rfl,rfl⟩
   ·cases h
  ·cases h
theorem Jfp (hR:Rel P ρ h W) {src dst:TypeId} {x X v:Value} (hx:vrel ρ x X) (hs:Jbc P h src dst x=some v):∃ V,(convert src dst X).run P W=.ok V W∧vrel ρ v V:=by
 unfold Jbc at hs
 split at hs
 ·rename_i d k k' n hd hk
  cases hs
  obtain rfl:=J2G hx
  exact⟨_,by simp[convert,run_underlying hd,run_underlying hk,Conv.intToInt],.flat rfl⟩
 ·rename_i d s hd hk
  cases hs
  obtain rfl:=J4U hx
  exact⟨_,by simp[convert,run_underlying hd,run_underlying hk],.flat rfl⟩
 ·rename_i e a n c hd hk
  split at hs
  ·rename_i he
   split at hs
   ·rename_i cs hcs
    split at hs
    ·rename_i l hl
     cases hs
     obtain⟨A,C,New,rfl,hN,hrn,hsrc⟩:=J4d hR hx (Nat.le_refl _) hcs
     obtain⟨ns,rfl,rfl⟩:=J7Y hl
     have hNe:New=ns.map (Value.int .u8):=J91 hrn (by simp[J1i])
     subst hNe
     refine⟨_,?_,.flat rfl⟩
     rw[run_convert_bytes_string W src dst e A n C hd he hk]
     simp only[Nat.mul_one] at hN
     cases A with
     | none=>
      rcases hsrc with rfl | ⟨B,h1,_⟩
      ·have:ns=[]:=by simpa using hN
       subst this
       simp[Conv.bytesToString]
       rfl
      ·cases h1
     | some B=>
      have hload:(loadCells B n).run P W=.ok (ns.map (Value.int .u8)).toArray W:=by
       rcases hsrc with rfl | ⟨B',h1,h2⟩
       ·have:ns=[]:=by simpa using hN
        subst this
        simp[loadCells,loadCellsFrom]
       ·cases h1
        have:=run_loadCells_list (P:=P) W B (ns.map (Value.int .u8)) h2
        rwa [hN] at this
      rw[run_bytesToString W B n C ns hload,foldl_push_bytes]
      simp[ByteArray.empty,ByteArray.emptyWithCapacity]
      rfl
    ·cases hs
   ·cases hs
  ·cases hs
 ·cases hs
end
def J7u (P:Program):Operand→Bool
 | .const v=>flat v
 | .global g=>decide (g<P.globals.size)
 | _=>true
def Jca (n:Nat):Option Tmp→Bool
 | some d=>decide (d<n)
 | none=>true
def J3A (P:Program) (n:Nat) (o:Oper):Bool:=o.op.operands.toList.all (J7u P)&&Jca n o.dst
def trel (ρ:Map) (T:Tr) (A:Act):Prop:=∀ t,vrel ρ (T.get t) (A.tmps.getD t undef)
def J1x (P:Program) (call:J0r):Prop:=∀ f args h v h',call f args h=some (v,h') →
 (∃ fn c, P.funcs[f]? = some fn ∧ fn.body = some c ∧ (fn.name == "runtime.NumGoroutine") = false) ∧
 ∀ ρ W (ARGS:Array Value),Rel P ρ h W→All2 (vrel ρ) args ARGS.toList→Calls P f ARGS W (fun e W'=>∃ V ρ',e=.returned V∧Nx P ρ h W ρ' h' W'∧vrel ρ' v V)
section
variable {P:Program} {ρ:Map} {h:SHeap} {W:World} {T:Tr} {A:Act}
theorem JfK (hR:Rel P ρ h W) (hT:trel ρ T A) {x:Operand} (hx:J7u P x=true):vrel ρ (ev T x) (A.eval x):=by
 cases x with
 | tmp t=>exact hT t
 | const v=>exact J1X hx
 | global g=>
  simp only[J7u,decide_eq_true_eq] at hx
  obtain⟨L,hL,hb,hd⟩:=hR.glob g hx
  have:=vrel.ptr (ρ:=ρ) (id:=g) (off:=0) hL
  simp only[hb,hd,Nat.zero_add] at this
  exact this
 | func f=>exact .func .nil .nil
theorem trel.mono {ρ':Map} (hT:trel ρ T A) (hx:∀ i L,ρ i=some L→ρ' i=some L):trel ρ' T A:=fun t=>(hT t).mono hx
theorem Tr.get_put (T:Tr) (dst:Option Tmp) (v:Value) (t:Nat):(T.put dst v).get t=if dst=some t then v else T.get t:=by
 cases dst with
 | none=>simp[Tr.put]
 | some d=>
  simp only[Tr.put,Tr.get_set]
  by_cases e:t=d
  ·simp[e]
  ·rw[if_neg e,if_neg (by simpa using Ne.symm e)]
theorem J7U (A:Act) (dst:Option Tmp) (V:Value) (n:Nat) (hn:A.tmps.size=n) (hd:Jca n dst=true) (t:Nat):(A.put dst V).tmps.getD t undef=if dst=some t then V else A.tmps.getD t undef:=by
 cases dst with
 | none=>simp[Act.put]
 | some d=>
  simp only[Jca,decide_eq_true_eq] at hd
  simp only[Act.put,Array.getD_eq_getD_getElem?,Array.getElem?_setIfInBounds]
  by_cases e:d=t
  ·subst e
   simp[hn,hd]
  ·rw[if_neg e,if_neg (by simpa using e)]
theorem J5i (A:Act) (dst:Option Tmp) (V:Value):(A.put dst V).tmps.size=A.tmps.size:=by
 cases dst <;> simp[Act.put]
theorem J44 (A:Act) (dst:Option Tmp) (V:Value):(A.put dst V).defers=A.defers:=by
 cases dst <;> rfl
theorem trel.put {n:Nat} (hT:trel ρ T A) (hn:A.tmps.size=n) {dst:Option Tmp} (hd:Jca n dst=true) {v V:Value} (hv:vrel ρ v V):trel ρ (T.put dst v) (A.put dst V):=by
 intro t
 rw[Tr.get_put,J7U A dst V n hn hd]
 split
 ·exact hv
 ·exact hT t
theorem J10 {o:Oper} {K:Act→World→Prop} {Q:Exit→Act→World→Prop} {V:Value} {W':World} (hr:(execOp A.eval o).run P W=.ok (.value V) W') (hk:K (A.put o.dst V) W'):o.wp P A W K Q:=by
 unfold Oper.wp;rw[hr];exact hk
theorem J99 {o:Oper} {K:Act→World→Prop} {Q:Exit→Act→World→Prop} {W':World} (hr:(execOp A.eval o).run P W=.ok .skip W') (hk:K (A.put o.dst undef) W'):o.wp P A W K Q:=by
 unfold Oper.wp;rw[hr];exact hk
theorem J9v {l:Array Operand} (hl:∀ x∈l,vrel ρ (ev T x) (A.eval x)):All2 (vrel ρ) (evs T l) (l.map A.eval).toList:=by
 unfold evs
 rw[Array.toList_map]
 have hl':∀ x∈l.toList,vrel ρ (ev T x) (A.eval x):=fun x hx=>hl x (by simpa using hx)
 generalize l.toList=l at hl'
 induction l with
 | nil=>exact .nil
 | cons x l ih=>exact .cons (hl' x (by simp)) (ih fun y hy=>hl' y (by simp[hy]))
theorem J95 {l:Array (Nat × Operand)} (hl:∀ i x,(i,x)∈l→vrel ρ (ev T x) (A.eval x)) :
  All2 (fun a b=>a.1=b.1∧vrel ρ a.2 b.2) (l.toList.map fun (i,x)=>(i,ev T x)) (l.map fun (i,x)=>(i,A.eval x)).toList:=by
 rw[Array.toList_map]
 have hl':∀ i x,(i,x)∈l.toList→vrel ρ (ev T x) (A.eval x):=fun i x hx=>hl i x (by simpa using hx)
 generalize l.toList=l at hl'
 induction l with
 | nil=>exact .nil
 | cons x l ih=>
  obtain⟨i,x⟩:=x
  exact .cons ⟨rfl,hl' i x (by simp)⟩ (ih fun j y hy=>hl' j y (by simp[hy]))
theorem J9b {x:Option Operand} (hx:∀ y,x=some y→vrel ρ (ev T y) (A.eval y)):All2 (vrel ρ) (x.map (ev T)).toList (x.map A.eval).toList:=by
 cases x with
 | none=>exact .nil
 | some x=>exact .cons (hx x rfl) .nil
theorem J7i {call:J0r} (hcall:J1x P call) (hR:Rel P ρ h W) {o:Oper} (ho:∀ x∈o.op.operands,vrel ρ (ev T x) (A.eval x)) {v:Value} {h':SHeap} (hs:sop P call T h o.op=some (v,h'))
  {K:Act→World→Prop} {Q:Exit→Act→World→Prop} (hK:∀ V W' ρ',Nx P ρ h W ρ' h' W'→vrel ρ' v V→K (A.put o.dst V) W'):o.wp P A W K Q:=by
 cases hop:o.op with
 | move x=>
  rw[hop] at hs ho
  simp[sop] at hs
  obtain⟨rfl,rfl⟩:=hs
  simp[Op.operands] at ho
  exact J10 (by simp only[execOp,hop];rfl) (hK _ _ ρ (Nx.refl hR) ho)
 | assign x=>
  rw[hop] at hs ho
  simp[sop] at hs
  obtain⟨rfl,rfl⟩:=hs
  simp[Op.operands] at ho
  exact J10 (by simp only[execOp,hop];rfl) (hK _ _ ρ (Nx.refl hR) ho)
 | pick c a b=>
  rw[hop] at hs ho
  simp[Op.operands] at ho
  simp only[sop] at hs
  split at hs
  ·rename_i t hc
   simp at hs
   obtain⟨rfl,rfl⟩:=hs
   have h1:=ho.1
   rw[hc] at h1
   have h2:=J3G h1
   refine J10 (V:=if t then A.eval a else A.eval b) (by simp[execOp,hop,h2,asBool]) (hK _ _ ρ (Nx.refl hR) ?_)
   cases t
   ·exact ho.2.2
   ·exact ho.2.1
  ·cases hs
 | alloc e=>
  rw[hop] at hs ho
  simp only[sop] at hs
  split at hs
  ·rename_i z hz
   split at hs
   ·rename_i hf
    simp at hs
    obtain⟨rfl,rfl⟩:=hs
    have hsz:∃ s,szOf P e=some s:=by
     unfold J1w at hz
     unfold szOf
     cases hq:P.info? e with
     | none=>simp[hq] at hz
     | some i=>exact⟨_,rfl⟩
    obtain⟨s,hs⟩:=hsz
    refine J10 (V:=.pointer (some ⟨W.heap.size,0,none⟩)) (W':=W.alloc (.cells z.cells e)) (by simp[execOp,hop,Instr.alloc,J1Z hz,newVar,newRow]) (hK _ _ _ (J98 hR rfl rfl rfl rfl hs (J7E (J5o hf))) ?_)
    have:=vrel.ptr (ρ:=upd ρ h.next ⟨W.heap.size,0,z.cells.size,s⟩) (id:=h.next) (off:=0) (J1J _ _ _)
    simpa using this
   ·cases hs
  ·cases hs
 | box e x=>
  rw[hop] at hs ho
  simp[Op.operands] at ho
  simp only[sop] at hs
  split at hs
  ·rename_i hone
   split at hs
   ·rename_i s hsz
    simp at hs
    obtain⟨rfl,rfl⟩:=hs
    have hx:=ho
    refine J10 (V:=.pointer (some ⟨W.heap.size,0,none⟩)) (W':=W.alloc (.cells (A.eval x).cells e)) (by simp[execOp,hop,Instr.box,newVar,newRow]) (hK _ _ _ (J98 hR rfl rfl rfl rfl hsz (J7E (J4O hx))) ?_)
    have:=vrel.ptr (ρ:=upd ρ h.next ⟨W.heap.size,0,(A.eval x).cells.size,s⟩) (id:=h.next) (off:=0) (J1J _ _ _)
    simpa using this
   ·cases hs
  ·cases hs
 | build t parts=>
  rw[hop] at hs ho
  simp[Op.operands] at ho
  simp only[sop,Option.map_eq_some_iff,Prod.mk.injEq] at hs
  obtain⟨u,hu,rfl,rfl⟩:=hs
  obtain⟨V,hV,hr⟩:=JdP (W:=W) (J95 (A:=A) fun i x h=>ho x i h) hu
  exact J10 (by simp[execOp,hop,hV]) (hK _ _ ρ (Nx.refl hR) hr)
 | buildSlice t len parts=>
  rw[hop] at hs ho
  simp[Op.operands] at ho
  simp only[sop] at hs
  obtain⟨V,W',ρ',hV,hN,hr⟩:=J75 hR (J95 (A:=A) fun i x h=>ho x i h) hs
  exact J10 (by simp[execOp,hop,hV]) (hK _ _ ρ' hN hr)
 | load t a=>
  rw[hop] at hs ho
  simp[Op.operands] at ho
  simp only[sop,Option.map_eq_some_iff,Prod.mk.injEq] at hs
  obtain⟨u,hu,rfl,rfl⟩:=hs
  obtain⟨V,hV,hr⟩:=Jal hR ho hu
  exact J10 (by simp[execOp,hop,hV]) (hK _ _ ρ (Nx.refl hR) hr)
 | store t a x=>
  rw[hop] at hs ho
  simp[Op.operands] at ho
  simp only[sop,Option.map_eq_some_iff,Prod.mk.injEq] at hs
  obtain⟨u,hu,rfl,rfl⟩:=hs
  obtain⟨W',hW,hN⟩:=Jd5 hR ho.1 ho.2 hu
  exact J99 (by simp[execOp,hop,hW]) (hK _ _ ρ hN J32)
 | nilCheck x=>
  rw[hop] at hs ho
  simp[Op.operands] at ho
  simp only[sop] at hs
  have hx:=ho
  split at hs
  ·rename_i a ha
   simp at hs
   obtain⟨rfl,rfl⟩:=hs
   rw[ha] at hx
   obtain⟨L,hL,_,hV⟩:=J3D hx
   rw[hV] at hx
   exact J10 (by simp[execOp,hop,hV]) (hK _ _ ρ (Nx.refl hR) hx)
  ·rename_i k first captured ha
   simp at hs
   obtain⟨rfl,rfl⟩:=hs
   rw[ha] at hx
   obtain⟨f',c',hV,_,_⟩:=J6O hx
   rw[hV] at hx
   exact J10 (by simp[execOp,hop,hV]) (hK _ _ ρ (Nx.refl hR) hx)
  ·cases hs
 | binOp op t x y yt=>
  rw[hop] at hs ho
  simp[Op.operands] at ho
  simp only[sop,Option.map_eq_some_iff,Prod.mk.injEq] at hs
  obtain⟨u,hu,rfl,rfl⟩:=hs
  obtain⟨V,hV,hr⟩:=JgI (W:=W) ho.1 ho.2 hu
  refine J10 (V:=V) (W':=W) ?_ (hK _ _ ρ (Nx.refl hR) hr)
  simp only[execOp,hop]
  rw[Sem.run_bind,hV]
  rfl
 | unOp op t x=>
  rw[hop] at hs ho
  simp[Op.operands] at ho
  simp only[sop] at hs
  split at hs
  ·rename_i hf
   split at hs
   ·rename_i u hu
    split at hs
    ·rename_i hfu
     simp at hs
     obtain⟨rfl,rfl⟩:=hs
     have hx:=J4F hf ho
     exact J10 (V:=u) (by simp[execOp,hop,hx,J56 hu]) (hK _ _ ρ (Nx.refl hR) (J1X hfu))
    ·cases hs
   ·cases hs
  ·cases hs
 | convert src dst x=>
  rw[hop] at hs ho
  simp[Op.operands] at ho
  simp only[sop,Option.map_eq_some_iff,Prod.mk.injEq] at hs
  obtain⟨u,hu,rfl,rfl⟩:=hs
  obtain⟨V,hV,hr⟩:=Jfp hR ho hu
  exact J10 (by simp[execOp,hop,hV]) (hK _ _ ρ (Nx.refl hR) hr)
 | makeFunc fn first captured=>
  rw[hop] at hs ho
  simp only[Op.operands,Array.mem_append] at ho
  simp only[sop,Option.some.injEq,Prod.mk.injEq] at hs
  obtain⟨rfl,rfl⟩:=hs
  refine J10 (V:=.func fn (first.map A.eval) (captured.map A.eval)) (by simp[execOp,hop,Instr.makeFunc]) (hK _ _ ρ (Nx.refl hR) (.func ?_ ?_))
  ·rw[Array.toList_map];exact J9v fun x hx=>ho x (.inl hx)
  ·rw[Array.toList_map];exact J9v fun x hx=>ho x (.inr hx)
 | makeMap t r=>
  rw[hop] at hs ho
  cases r with
  | some _=>simp[sop] at hs
  | none=>
   simp only[sop,Option.some.injEq,Prod.mk.injEq] at hs
   obtain⟨rfl,rfl⟩:=hs
   refine J10 (V:=.map (some W.heap.size)) (W':=W.alloc (.map #[] 0)) (by simp[execOp,hop,Instr.makeMap]) (hK _ _ (upd ρ h.next ⟨W.heap.size,0,0,0⟩) (Jco hR rfl rfl rfl rfl rfl ?_) ?_)
   ·exact⟨_,#[],0,J1J _ _ _,heap_alloc_new W _,.nil⟩
   ·have:=vrel.map (ρ:=upd ρ h.next ⟨W.heap.size,0,0,0⟩) (id:=h.next) (J1J _ _ _)
    exact this
 | makeSlice t l c=>
  rw[hop] at hs ho
  simp[Op.operands] at ho
  simp only[sop] at hs
  obtain⟨V,W',ρ',hV,hN,hr⟩:=J86 hR ho.1 ho.2 hs
  exact J10 (by simp[execOp,hop,hV]) (hK _ _ ρ' hN hr)
 | slice t x lo hi mx=>
  rw[hop] at hs ho
  simp only[sop,Option.map_eq_some_iff,Prod.mk.injEq] at hs
  obtain⟨u,hu,rfl,rfl⟩:=hs
  obtain⟨V,hV,hr⟩:=Jcx hR (ho x (by simp[Op.operands])) (J9b (A:=A) fun y hy=>ho y (by simp[Op.operands,hy])) (J9b (A:=A) fun y hy=>ho y (by simp[Op.operands,hy])) (J9b (A:=A) fun y hy=>ho y (by simp[Op.operands,hy])) hu
  exact J10 (by simp[execOp,hop,hV]) (hK _ _ ρ (Nx.refl hR) hr)
 | fieldAddr s x f=>
  rw[hop] at hs ho
  simp[Op.operands] at ho
  simp only[sop,Option.map_eq_some_iff,Prod.mk.injEq] at hs
  obtain⟨u,hu,rfl,rfl⟩:=hs
  obtain⟨V,hV,hr⟩:=J85 (W:=W) ho hu
  exact J10 (by simp[execOp,hop,hV]) (hK _ _ ρ (Nx.refl hR) hr)
 | field s x f=>
  rw[hop] at hs ho
  simp[Op.operands] at ho
  simp only[sop,Option.map_eq_some_iff,Prod.mk.injEq] at hs
  obtain⟨u,hu,rfl,rfl⟩:=hs
  obtain⟨V,hV,hr⟩:=Jcg (W:=W) ho hu
  exact J10 (by simp[execOp,hop,hV]) (hK _ _ ρ (Nx.refl hR) hr)
 | indexAddr t x i=>
  rw[hop] at hs ho
  simp[Op.operands] at ho
  simp only[sop,Option.map_eq_some_iff,Prod.mk.injEq] at hs
  obtain⟨u,hu,rfl,rfl⟩:=hs
  obtain⟨V,hV,hr⟩:=Jb7 (W:=W) ho.1 ho.2 hu
  exact J10 (by simp[execOp,hop,hV]) (hK _ _ ρ (Nx.refl hR) hr)
 | index t x i=>
  rw[hop] at hs ho
  simp[Op.operands] at ho
  simp only[sop] at hs
  split at hs
  ·rename_i hf
   simp only[Bool.and_eq_true] at hf
   split at hs
   ·rename_i u hu
    split at hs
    ·rename_i hfu
     simp at hs
     obtain⟨rfl,rfl⟩:=hs
     have hx:=J4F hf.1 ho.1
     have hi:=J4F hf.2 ho.2
     exact J10 (V:=u) (by simp[execOp,hop,hx,hi,J56 hu]) (hK _ _ ρ (Nx.refl hR) (J1X hfu))
    ·cases hs
   ·cases hs
  ·cases hs
 | lookup t m k ok=>
  rw[hop] at hs ho
  simp[Op.operands] at ho
  simp only[sop,Option.map_eq_some_iff,Prod.mk.injEq] at hs
  obtain⟨u,hu,rfl,rfl⟩:=hs
  obtain⟨V,hV,hr⟩:=Jbi hR ho.1 ho.2 hu
  exact J10 (by simp[execOp,hop,hV]) (hK _ _ ρ (Nx.refl hR) hr)
 | mapUpdate t m k x=>
  rw[hop] at hs ho
  simp[Op.operands] at ho
  simp only[sop,Option.map_eq_some_iff,Prod.mk.injEq] at hs
  obtain⟨u,hu,rfl,rfl⟩:=hs
  obtain⟨W',hW,hN⟩:=J7s hR ho.1 ho.2.1 ho.2.2 hu
  exact J99 (by simp[execOp,hop,hW]) (hK _ _ ρ hN J32)
 | insert t m k x=>
  rw[hop] at hs ho
  simp[Op.operands] at ho
  simp only[sop,Option.map_eq_some_iff,Prod.mk.injEq] at hs
  obtain⟨u,hu,rfl,rfl⟩:=hs
  obtain⟨W',hW,hN⟩:=J7s hR ho.1 ho.2.1 ho.2.2 hu
  exact J99 (by simp[execOp,hop,hW]) (hK _ _ ρ hN J32)
 | extract t i=>
  rw[hop] at hs ho
  simp[Op.operands] at ho
  simp only[sop] at hs
  have hx:=ho
  split at hs
  ·rename_i vs hvs
   simp only[Option.map_eq_some_iff,Prod.mk.injEq] at hs
   obtain⟨u,hu,rfl,rfl⟩:=hs
   rw[hvs] at hx
   obtain⟨cs',hV,hall⟩:=Jbv hx
   obtain⟨V,hV2,hr⟩:=hall.get (i:=i) (by simpa using hu)
   simp at hV2
   exact J10 (V:=V) (by simp[execOp,hop,hV,Instr.extract,hV2]) (hK _ _ ρ (Nx.refl hR) hr)
  ·cases hs
 | call c=>
  rw[hop] at hs ho
  simp only[sop] at hs
  have hargs:=J9v (ρ:=ρ) (T:=T) (A:=A) (l:=c.args) fun x hx=>ho x (by simp[Op.operands,Call.operands,hx])
  unfold J01 at hs
  split at hs
  ·rename_i hc
   split at hs
   ·rename_i t x ht hx
    simp only[Option.map_eq_some_iff,Prod.mk.injEq] at hs
    obtain⟨u,hu,rfl,rfl⟩:=hs
    rw[hx] at hargs
    cases hA:(c.args.map A.eval).toList with
    | nil=>rw[hA] at hargs;cases hargs
    | cons X L=>
     rw[hA] at hargs
     cases hargs with
     | cons hX hL=>
     cases hL
     have hA2:c.args.map A.eval=#[X]:=Array.toList_inj.1 hA
     have ht2:c.argTypes=#[t]:=Array.toList_inj.1 ht
     obtain⟨V,hV,hr⟩:=JgJ (ty:=o.type) hR hX hu
     exact J10 (V:=V) (by simp[execOp,hop,resolve,hc,invoke,builtin,hA2,ht2,hV]) (hK _ _ ρ (Nx.refl hR) hr)
   ·cases hs
  ·rename_i hc
   split at hs
   ·rename_i t t' d s ht hx
    split at hs
    ·rename_i htt
     subst htt
     rw[hx] at hargs
     cases hA:(c.args.map A.eval).toList with
     | nil=>rw[hA] at hargs;cases hargs
     | cons X L=>
      rw[hA] at hargs
      cases hargs with
      | cons hX hL=>
      cases L with
      | nil=>cases hL
      | cons Y L=>
      cases hL with
      | cons hY hL=>
      cases hL
      have hA2:c.args.map A.eval=#[X,Y]:=Array.toList_inj.1 hA
      have ht2:c.argTypes=#[t,t]:=Array.toList_inj.1 ht
      obtain⟨V,W',ρ',hV,hN,hr⟩:=JbB (ty:=o.type) hR hX hY hs
      exact J10 (V:=V) (by simp[execOp,hop,resolve,hc,invoke,builtin,hA2,ht2,hV]) (hK _ _ ρ' hN hr)
    ·cases hs
   ·cases hs
  ·rename_i hc
   split at hs
   ·rename_i t t' d s ht hx
    split at hs
    ·rename_i htt
     subst htt
     rw[hx] at hargs
     cases hA:(c.args.map A.eval).toList with
     | nil=>rw[hA] at hargs;cases hargs
     | cons X L=>
      rw[hA] at hargs
      cases hargs with
      | cons hX hL=>
      cases L with
      | nil=>cases hL
      | cons Y L=>
      cases hL with
      | cons hY hL=>
      cases hL
      have hA2:c.args.map A.eval=#[X,Y]:=Array.toList_inj.1 hA
      have ht2:c.argTypes=#[t,t]:=Array.toList_inj.1 ht
      obtain⟨V,W',ρ',hV,hN,hr⟩:=Jfn (ty:=o.type) hR hX hY hs
      exact J10 (V:=V) (by simp[execOp,hop,resolve,hc,invoke,builtin,hA2,ht2,hV]) (hK _ _ ρ' hN hr)
    ·cases hs
   ·cases hs
  ·rename_i hc
   simp only[Option.map_eq_some_iff,Prod.mk.injEq] at hs
   obtain⟨u,hu,rfl,rfl⟩:=hs
   obtain⟨hV,hr⟩:=JfW (P:=P) (W:=W) (ty:=o.type) (at_:=c.argTypes) hargs hu
   exact J10 (V:=u) (by simp[execOp,hop,resolve,hc,invoke,builtin,hV]) (hK _ _ ρ (Nx.refl hR) hr)
  ·rename_i hc
   simp only[Option.map_eq_some_iff,Prod.mk.injEq] at hs
   obtain⟨u,hu,rfl,rfl⟩:=hs
   obtain⟨hV,hr⟩:=JgQ (P:=P) (W:=W) (ty:=o.type) (at_:=c.argTypes) hargs hu
   exact J10 (V:=u) (by simp[execOp,hop,resolve,hc,invoke,builtin,hV]) (hK _ _ ρ (Nx.refl hR) hr)
  ·rename_i f hc
   split at hs
   ·rename_i k first captured hf
    have hfr:=ho f (by simp[Op.operands,Call.operands,hc])
    rw[hf] at hfr
    obtain⟨f',c',hV,h1,h2⟩:=J6O hfr
    obtain⟨⟨fn,body,hfn,hbody,hname⟩,hc2⟩:=hcall _ _ _ _ _ hs
    have hall:All2 (vrel ρ) (first.toList++evs T c.args++captured.toList) (f'++c.args.map A.eval++c').toList:=by
     simp only[Array.toList_append]
     exact(h1.append hargs).append h2
    have hcalls:=hc2 ρ W _ hR hall
    have hrun:(execOp A.eval o).run P W=.ok (.enter k (f'++c.args.map A.eval++c')) W:=by
     have hname' : ¬ fn.name = "runtime.NumGoroutine" := beq_eq_false_iff_ne.1 hname
     simp[execOp,hop,resolve,hc,hV,Deferred.ofValue,invoke,callFunc,program,Sem.run,hfn,hname',hbody]
    unfold Oper.wp
    rw[hrun,Oper.upon_enter]
    refine hcalls.mono fun e W' ⟨V,ρ',he,hN,hr⟩=>?_
    subst he
    exact hK V W' ρ' hN hr
   ·cases hs
  ·rename_i r m hc
   split at hs
   ·rename_i t u hf
    have hfr:=ho r (by simp[Op.operands,Call.operands,hc])
    rw[hf] at hfr
    obtain⟨U,hV,hu⟩:=J3s hfr
    split at hs
    ·rename_i k u' hm
     obtain⟨rfl,hmr⟩:=JbI (W:=W) (n:=P.types.size+Made.depth-1) hu hm
     obtain⟨⟨fn,body,hfn,hbody,hname⟩,hc2⟩:=hcall _ _ _ _ _ hs
     have hall:All2 (vrel ρ) (u' :: evs T c.args) (#[U]++c.args.map A.eval).toList:=by
      simp only[Array.toList_append]
      exact .cons hu hargs
     have hcalls:=hc2 ρ W _ hR hall
     have hn:P.types.size+Made.depth-1+1=P.types.size+Made.depth:=Nat.sub_add_cancel (by unfold Made.depth;omega)
     rw[hn] at hmr
     have hrun:(execOp A.eval o).run P W=.ok (.enter k (#[U]++c.args.map A.eval)) W:=by
      have hname' : ¬ fn.name = "runtime.NumGoroutine" := beq_eq_false_iff_ne.1 hname
      have hget:(#[A.eval r]++c.args.map A.eval)[0]?=some (A.eval r):=by rw[Array.getElem?_append_left (by simp)];rfl
      have hext:(#[A.eval r]++c.args.map A.eval).extract 1 (#[A.eval r]++c.args.map A.eval).size=c.args.map A.eval:=by
       apply Array.toList_inj.1
       simp
       exact List.take_of_length_le (by simp)
      simp only[execOp,hop,resolve,hc,Sem.run_bind,Sem.run_pure,Result.andThen_ok,invoke,hget,hext]
      rw[hV]
      simp[callMethod,Sem.run_bind,hmr,callFunc,hfn,hname',hbody]
     unfold Oper.wp
     rw[hrun,Oper.upon_enter]
     refine hcalls.mono fun e W' ⟨V,ρ',he,hN,hr⟩=>?_
     subst he
     exact hK V W' ρ' hN hr
    ·cases hs
   ·cases hs
  ·cases hs
 | makeInterface t x=>
  rw[hop] at hs ho
  simp[Op.operands] at ho
  simp only[sop] at hs
  split at hs
  ·cases hs
  ·rename_i d hne hu
   cases hs
   refine J10 (V:=.iface t (A.eval x)) (W':=W) ?_ (hK _ _ ρ (Nx.refl hR) (.iface ho))
   cases d <;> first | (exact(hne _ rfl).elim) | (simp[execOp,hop,Instr.makeInterface,run_underlying hu])
  ·cases hs
 | typeAssert x xt asserted ok=>
  rw[hop] at hs ho
  simp[Op.operands] at ho
  simp only[sop,Option.map_eq_some_iff,Prod.mk.injEq] at hs
  obtain⟨u,hu,rfl,rfl⟩:=hs
  obtain⟨V,hV,hr⟩:=Jbl (W:=W) (xt:=xt) ho hu
  exact J10 (by simp[execOp,hop,hV]) (hK _ _ ρ (Nx.refl hR) hr)
 | _=>
  rw[hop] at hs
  simp[sop] at hs
end
structure SNx (h h':SHeap):Prop where
 nx:h.next≤h'.next
 floor:h'.floor=h.floor
 keep:∀ i,i<h.next→i<h.floor→h'.get i=h.get i
theorem SNx.refl (h:SHeap):SNx h h:=⟨Nat.le_refl _,rfl,fun _ _ _=>rfl⟩
theorem SNx.trans {a b c:SHeap} (h:SNx a b) (k:SNx b c):SNx a c:=
 ⟨Nat.le_trans h.nx k.nx,k.floor.trans h.floor,fun i hi hf=>(k.keep i (Nat.lt_of_lt_of_le hi h.nx) (by rw[h.floor];exact hf)).trans (h.keep i hi hf)⟩
theorem SNx.push (h:SHeap) (o:SObj):SNx h (h.push o):=⟨by simp[SHeap.push],rfl,fun i hi _=>J06 hi⟩
theorem SNx.put {h:SHeap} {i:Nat} {o:SObj} (hi:i<h.next) (hf:h.floor≤i):SNx h (h.put i o):=⟨Nat.le_refl _,rfl,fun j _ hj=>J05 hi (by omega)⟩
theorem SNx.unfl {h h':SHeap} {f:Nat} (hf:h.floor≤f) (hn:SNx (h.fl f) h'):SNx h (h'.fl h.floor):=
 ⟨hn.nx,rfl,fun i hi hl=>hn.keep i hi (Nat.lt_of_lt_of_le hl hf)⟩
section
variable {P:Program} {call:J0r}
theorem J4v {h h':SHeap} {id off:Nat} {new:List Value} (hs:J1q h id off new=some h'):∃ o,h'=h.put id o∧id<h.next∧h.floor≤id∧wr (h.get id)∧∀ h2:SHeap,h2.get id=h.get id→h2.floor=h.floor→J1q h2 id off new=some (h2.put id o):=by
 unfold J1q at hs
 split at hs
 ·rename_i cs ty g hg
  split at hs
  ·rename_i hc
   simp only[Bool.and_eq_true,decide_eq_true_eq] at hc
   cases hs
   refine⟨_,rfl,Jdx (by rw[hg];simp),hc.1.1,by rw[hg];rfl,fun h2 he hf=>?_⟩
   unfold J1q
   rw[he,hg]
   simp only[hf,hc.1.1,hc.1.2,hc.2,decide_true,Bool.and_self,if_true]
  ·cases hs
 ·cases hs
theorem Jbw {h h':SHeap} {t:TypeId} {a v:Value} (hs:J0K P h t a v=some h'):∃ id o,idOf a=some id∧h'=h.put id o∧id<h.next∧h.floor≤id∧wr (h.get id)∧∀ h2:SHeap,h2.get id=h.get id→h2.floor=h.floor→J0K P h2 t a v=some (h2.put id o):=by
 unfold J0K at hs
 split at hs
 ·split at hs
  ·rename_i hsz
   obtain⟨o,h1,h2,h3,h4,h5⟩:=J4v hs
   refine⟨_,o,rfl,h1,h2,h3,h4,fun h2 he hf=>?_⟩
   unfold J0K
   simp only[hsz,if_true]
   exact h5 h2 he hf
  ·cases hs
 ·cases hs
theorem J6R {h h':SHeap} {t:TypeId} {m k v:Value} (hs:J3h P h t m k v=some h'):∃ id o,idOf m=some id∧h'=h.put id o∧id<h.next∧h.floor≤id∧wr (h.get id)∧∀ h2:SHeap,h2.get id=h.get id→h2.floor=h.floor→J3h P h2 t m k v=some (h2.put id o):=by
 unfold J3h at hs
 split at hs
 ·split at hs
  ·rename_i hc
   simp only[Bool.and_eq_true,decide_eq_true_eq] at hc
   split at hs
   ·rename_i es hg
    split at hs
    ·rename_i r hf2
     cases hs
     refine⟨_,_,rfl,rfl,Jdx (by rw[hg];simp),hc.2,by rw[hg];trivial,fun h2 he hf=>?_⟩
     have hu:=‹P.underlying t=some (.map _ _)›
     unfold J3h
     rw[hu]
     simp only[hf,hc.1,hc.2,decide_true,Bool.and_self,if_true,he,hg,hf2]
    ·cases hs
   ·cases hs
  ·cases hs
 ·cases hs
theorem J9B {h h':SHeap} {t:TypeId} {x y v:Value} (hs:J1o P h t x y=some (v,h')):SNx h h':=by
 unfold J1o at hs
 split at hs
 ·split at hs
  ·split at hs
   ·split at hs
    ·split at hs
     ·split at hs
      ·split at hs
       ·split at hs
        ·rename_i hc1
         simp only[Bool.and_eq_true,decide_eq_true_eq] at hc1
         split at hs
         ·cases hs;exact .refl _
         ·split at hs
          ·rename_i hg
           split at hs
           ·split at hs
            ·split at hs
             ·cases hs
              exact(SNx.put (Jdx (by rw[hg];simp)) hc1.2).trans (.push _ _)
             ·cases hs
            ·cases hs
           ·cases hs
          ·cases hs
        ·cases hs
       ·cases hs
      ·split at hs
       ·split at hs
        ·cases hs;exact .refl _
        ·split at hs
         ·split at hs
          ·rename_i hst
           cases hs
           obtain⟨o,rfl,h2,h3,_⟩:=J4v hst
           exact .put h2 h3
          ·cases hs
         ·cases hs
       ·split at hs
        ·split at hs
         ·cases hs;exact .push _ _
         ·cases hs
        ·cases hs
     ·cases hs
    ·cases hs
   ·cases hs
  ·cases hs
 ·cases hs
theorem JdO {h h':SHeap} {t:TypeId} {x y v:Value} (hs:J8N P h t x y=some (v,h')):SNx h h':=by
 unfold J8N at hs
 split at hs
 ·split at hs
  ·simp only at hs
   split at hs
   ·split at hs
    ·split at hs
     ·cases hs;exact .refl _
     ·split at hs
      ·rename_i hst
       cases hs
       obtain⟨o,rfl,h2,h3,_⟩:=J4v hst
       exact .put h2 h3
      ·cases hs
    ·cases hs;exact .refl _
    ·cases hs
   ·cases hs
  ·cases hs
 ·cases hs
theorem J8J (hcall:∀ f args h v h',call f args h=some (v,h')→SNx h h') {T:Tr} {h h':SHeap} {c:Call} {v:Value} (hs:J01 P call T h c=some (v,h')):SNx h h':=by
 unfold J01 at hs
 split at hs
 ·split at hs
  ·simp only[Option.map_eq_some_iff,Prod.mk.injEq] at hs
   obtain⟨u,_,_,rfl⟩:=hs
   exact .refl _
  ·cases hs
 ·split at hs
  ·split at hs
   ·exact J9B hs
   ·cases hs
  ·cases hs
 ·split at hs
  ·split at hs
   ·exact JdO hs
   ·cases hs
  ·cases hs
 ·simp only[Option.map_eq_some_iff,Prod.mk.injEq] at hs
  obtain⟨u,_,_,rfl⟩:=hs
  exact .refl _
 ·simp only[Option.map_eq_some_iff,Prod.mk.injEq] at hs
  obtain⟨u,_,_,rfl⟩:=hs
  exact .refl _
 ·split at hs
  ·exact hcall _ _ _ _ _ hs
  ·cases hs
 ·split at hs
  ·split at hs
   ·exact hcall _ _ _ _ _ hs
   ·cases hs
  ·cases hs
 ·cases hs
theorem J8b {T:Tr} {h h':SHeap} {op:Op} {v:Value} (hc:J04 op=.pure) (hm:∀ c,op=.call c→∀ r,c.args.toList.map (ev T)≠[.map r]) (hs:sop P call T h op=some (v,h')):h'=h∧∀ h2,sop P call T h2 op=some (v,h2):=by
 cases op with
 | call c=>
  simp only[J04] at hc
  simp only[sop] at hs ⊢
  unfold J01 at hs ⊢
  split at hc
  ·rename_i hcc
   simp only[hcc] at hs ⊢
   split at hs
   ·rename_i t x ht hx
    simp only[Option.map_eq_some_iff,Prod.mk.injEq] at hs
    obtain⟨u,hu,rfl,rfl⟩:=hs
    refine⟨rfl,fun h2=>?_⟩
    have hne:∀ r,x≠.map r:=fun r e=>hm c rfl r (by unfold evs at hx;rw[hx,e])
    have:lenS P h2 t x=some u:=by
     rw[← hu]
     unfold lenS
     split <;> simp_all
    simp[this]
   ·cases hs
  ·rename_i hcc
   simp only[hcc] at hs ⊢
   simp only[Option.map_eq_some_iff,Prod.mk.injEq] at hs
   obtain⟨u,hu,rfl,rfl⟩:=hs
   exact⟨rfl,fun h2=>by simp[hu]⟩
  ·rename_i hcc
   simp only[hcc] at hs ⊢
   simp only[Option.map_eq_some_iff,Prod.mk.injEq] at hs
   obtain⟨u,hu,rfl,rfl⟩:=hs
   exact⟨rfl,fun h2=>by simp[hu]⟩
  ·cases hc
 | pick c a b=>
  simp only[sop] at hs ⊢
  split at hs
  ·simp at hs;obtain⟨rfl,rfl⟩:=hs;exact⟨rfl,fun _=>rfl⟩
  ·cases hs
 | nilCheck x=>
  simp only[sop] at hs ⊢
  split at hs
  ·simp at hs;obtain⟨rfl,rfl⟩:=hs;exact⟨rfl,fun _=>rfl⟩
  ·simp at hs;obtain⟨rfl,rfl⟩:=hs;exact⟨rfl,fun _=>rfl⟩
  ·cases hs
 | unOp a b x=>
  simp only[sop] at hs ⊢
  split at hs
  ·rename_i h1
   split at hs
   ·rename_i u h2
    split at hs
    ·rename_i h3
     simp at hs;obtain⟨rfl,rfl⟩:=hs;exact⟨rfl,fun _=>by rw[if_pos h1,if_pos h3]⟩
    ·cases hs
   ·cases hs
  ·cases hs
 | index a b x=>
  simp only[sop] at hs ⊢
  split at hs
  ·rename_i h1
   split at hs
   ·rename_i u h2
    split at hs
    ·rename_i h3
     simp at hs;obtain⟨rfl,rfl⟩:=hs;exact⟨rfl,fun _=>by rw[if_pos h1,if_pos h3]⟩
    ·cases hs
   ·cases hs
  ·cases hs
 | extract a b=>
  simp only[sop] at hs ⊢
  split at hs
  ·simp only[Option.map_eq_some_iff,Prod.mk.injEq] at hs
   obtain⟨u,hu,rfl,rfl⟩:=hs
   exact⟨rfl,fun h2=>by simp[hu]⟩
  ·cases hs
 | move x=>simp[sop] at hs ⊢;exact⟨hs.2.symm,fun _=>hs.1⟩
 | assign x=>simp[sop] at hs ⊢;exact⟨hs.2.symm,fun _=>hs.1⟩
 | makeFunc fn a b=>simp[sop] at hs ⊢;exact⟨hs.2.symm,fun _=>hs.1⟩
 | build t parts=>
  simp only[sop,Option.map_eq_some_iff,Prod.mk.injEq] at hs ⊢
  obtain⟨u,hu,rfl,rfl⟩:=hs
  exact⟨rfl,fun h2=>⟨_,hu,rfl,trivial⟩⟩
 | binOp a b c d e=>
  simp only[sop,Option.map_eq_some_iff,Prod.mk.injEq] at hs ⊢
  obtain⟨u,hu,rfl,rfl⟩:=hs
  exact⟨rfl,fun h2=>⟨_,hu,rfl,trivial⟩⟩
 | fieldAddr a b c=>
  simp only[sop,Option.map_eq_some_iff,Prod.mk.injEq] at hs ⊢
  obtain⟨u,hu,rfl,rfl⟩:=hs
  exact⟨rfl,fun h2=>⟨_,hu,rfl,trivial⟩⟩
 | field a b c=>
  simp only[sop,Option.map_eq_some_iff,Prod.mk.injEq] at hs ⊢
  obtain⟨u,hu,rfl,rfl⟩:=hs
  exact⟨rfl,fun h2=>⟨_,hu,rfl,trivial⟩⟩
 | indexAddr a b c=>
  simp only[sop,Option.map_eq_some_iff,Prod.mk.injEq] at hs ⊢
  obtain⟨u,hu,rfl,rfl⟩:=hs
  exact⟨rfl,fun h2=>⟨_,hu,rfl,trivial⟩⟩
 | makeInterface t x=>
  simp only[sop] at hs ⊢
  split at hs
  ·cases hs
  ·simp at hs;obtain⟨rfl,rfl⟩:=hs;exact⟨rfl,fun _=>rfl⟩
  ·cases hs
 | typeAssert a b c d=>
  simp only[sop,Option.map_eq_some_iff,Prod.mk.injEq] at hs ⊢
  obtain⟨u,hu,rfl,rfl⟩:=hs
  exact⟨rfl,fun h2=>⟨_,hu,rfl,trivial⟩⟩
 | makeMap t r=>simp[J04] at hc
 | load t r=>simp[J04] at hc
 | _=>first | (simp[J04] at hc;done) | (simp[sop] at hs;done)
theorem J80 {h h':SHeap} {t:TypeId} {l c v:Value} (hs:J2l P h t l c=some (v,h')):∃ o,wr o∧h'=h.push o∧∀ h2:SHeap,h2.next=h.next→J2l P h2 t l c=some (v,h2.push o):=by
 unfold J2l at hs ⊢
 split at hs
 ·split at hs
  ·split at hs
   ·rename_i hc
    cases hs
    exact⟨.row _ _ _ false,rfl,rfl,fun h2 hn=>by simp only[hc,if_true,hn]⟩
   ·cases hs
  ·cases hs
 ·cases hs
theorem J74 {h h':SHeap} {t:TypeId} {n:Nat} {l:List (Nat × Value)} {v:Value} (hs:J0Q P h t n l=some (v,h')):∃ o,wr o∧h'=h.push o∧∀ h2:SHeap,h2.next=h.next→J0Q P h2 t n l=some (v,h2.push o):=by
 unfold J0Q at hs ⊢
 split at hs
 ·split at hs
  ·split at hs
   ·rename_i hc
    split at hs
    ·rename_i cs hcs
     cases hs
     exact⟨.row _ _ _ false,rfl,rfl,fun h2 hn=>by simp only[hc,if_true,hcs,hn]⟩
    ·cases hs
   ·cases hs
  ·cases hs
 ·cases hs
theorem J9a {T:Tr} {h h':SHeap} {op:Op} {v:Value} (hc:J04 op=.new) (hs:sop P call T h op=some (v,h')):∃ o,wr o∧h'=h.push o∧∀ h2:SHeap,h2.next=h.next→sop P call T h2 op=some (v,h2.push o):=by
 cases op with
 | alloc e=>
  simp only[sop] at hs ⊢
  split at hs
  ·split at hs
   ·rename_i hf
    simp at hs
    obtain⟨rfl,rfl⟩:=hs
    exact⟨.row _ _ _ false,rfl,rfl,fun h2 hn=>by simp[hn,hf]⟩
   ·cases hs
  ·cases hs
 | box e x=>
  simp only[sop] at hs ⊢
  split at hs
  ·rename_i hone
   split at hs
   ·simp at hs
    obtain⟨rfl,rfl⟩:=hs
    exact⟨.row _ _ _ false,rfl,rfl,fun h2 hn=>by simp[hn,hone]⟩
   ·cases hs
  ·cases hs
 | makeMap t r=>
  cases r with
  | some r=>simp[sop] at hs
  | none=>
   simp only[sop,Option.some.injEq,Prod.mk.injEq] at hs ⊢
   obtain⟨rfl,rfl⟩:=hs
   exact⟨.map [],trivial,rfl,fun h2 hn=>by simp[hn]⟩
 | makeSlice t l c=>simp only[sop] at hs ⊢;exact J80 hs
 | buildSlice t n l=>simp only[sop] at hs ⊢;exact J74 hs
 | call c=>
  simp only[J04] at hc
  split at hc <;> cases hc
 | _=>first | (simp[J04] at hc;done) | (simp[sop] at hs;done)
theorem J84 {h h2:SHeap} {s n:Nat} {x:Value} (he:∀ id,idOf x=some id→h2.get id=h.get id):J16 h2 s n x=J16 h s n x:=by
 unfold J16
 split
 ·rfl
 ·rename_i id off _ _
  rw[he id rfl]
 ·rfl
theorem J9s {h h2:SHeap} {t:TypeId} {x:Value} {lo hi mx:Option Value} (he:∀ id,idOf x=some id→h2.get id=h.get id):J2M P h2 t x lo hi mx=J2M P h t x lo hi mx:=by
 unfold J2M
 cases x with
 | slice b n c=>
  cases P.underlying t with
  | none=>rfl
  | some d=>
   cases d with
   | slice e=>
    simp only
    cases szOf P e with
    | none=>rfl
    | some s=>
     simp only
     by_cases hc:c=unk
     ·rw [if_pos hc,if_pos hc]
      cases mx with
      | some m=>rfl
      | none=>
       cases J3a hi n 0 n with
       | none=>rfl
       | some hh=>
        simp only
        cases J3a lo 0 0 hh with
        | none=>rfl
        | some l=>
         cases b with
         | none=>rfl
         | some b=>
          obtain⟨b,o,sp⟩:=b
          cases sp with
          | some sp=>rfl
          | none=>simp only[he b rfl]
     ·rw[if_neg hc,if_neg hc]
   | _=>rfl
 | pointer a=>cases P.underlying t with
  | none=>rfl
  | some d=>cases d <;> (first | rfl | (cases a <;> rfl))
 | _=>cases P.underlying t with
  | none=>rfl
  | some d=>cases d <;> rfl
theorem J7D {T:Tr} {h h':SHeap} {op:Op} {v:Value} {a:Operand} (hc:J04 op=.read a) (hs:sop P call T h op=some (v,h')) :
  h'=h∧∀ h2:SHeap,(∀ id,idOf (ev T a)=some id→h2.get id=h.get id)→sop P call T h2 op=some (v,h2):=by
 cases op with
 | load t x=>
  simp only[J04,Cls.read.injEq] at hc
  subst hc
  simp only[sop,Option.map_eq_some_iff,Prod.mk.injEq] at hs ⊢
  obtain⟨u,hu,rfl,rfl⟩:=hs
  refine⟨rfl,fun h2 he=>⟨_,?_,rfl,trivial⟩⟩
  rw[← hu]
  unfold J2x
  split
  ·rename_i id off hid
   rw[he id (by rw[hid];rfl)]
  ·rfl
 | lookup t m k ok=>
  simp only[J04,Cls.read.injEq] at hc
  subst hc
  simp only[sop,Option.map_eq_some_iff,Prod.mk.injEq] at hs ⊢
  obtain⟨u,hu,rfl,rfl⟩:=hs
  refine⟨rfl,fun h2 he=>⟨_,?_,rfl,trivial⟩⟩
  rw[← hu]
  unfold J4D
  cases hm:ev T m with
  | map r=>
   cases r with
   | none=>rfl
   | some id=>simp only[he id (by rw[hm];rfl)]
  | _=>rfl
 | convert s d x=>
  simp only[J04,Cls.read.injEq] at hc
  subst hc
  simp only[sop,Option.map_eq_some_iff,Prod.mk.injEq] at hs ⊢
  obtain⟨u,hu,rfl,rfl⟩:=hs
  refine⟨rfl,fun h2 he=>⟨_,?_,rfl,trivial⟩⟩
  rw[← hu]
  unfold Jbc
  split
  ·rfl
  ·rfl
  ·rename_i e b n c _ _ hx
   rw[hx] at he
   rw[J84 he]
  ·rfl
 | slice t x lo hi mx=>
  simp only[J04,Cls.read.injEq] at hc
  subst hc
  simp only[sop,Option.map_eq_some_iff,Prod.mk.injEq] at hs ⊢
  obtain⟨u,hu,rfl,rfl⟩:=hs
  refine⟨rfl,fun h2 he=>⟨_,?_,rfl,trivial⟩⟩
  rw[← hu]
  exact J9s he
 | call c=>
  simp only[J04] at hc
  split at hc <;> cases hc
 | _=>first | (simp[J04] at hc;done) | (simp[sop] at hs;done)
theorem J4x {T:Tr} {h h':SHeap} {op:Op} {v:Value} (hc:J04 op=.store) (hs:sop P call T h op=some (v,h')) :
  ∃ a id o,((∃ t x,op=.store t a x)∨(∃ t k x,op=.mapUpdate t a k x∨op=.insert t a k x))∧idOf (ev T a)=some id∧h'=h.put id o∧id<h.next∧h.floor≤id∧wr (h.get id) ∧
   ∀ h2:SHeap,h2.get id=h.get id→h2.floor=h.floor→sop P call T h2 op=some (v,h2.put id o):=by
 cases op with
 | store t a x=>
  simp only[sop,Option.map_eq_some_iff,Prod.mk.injEq] at hs
  obtain⟨u,hu,rfl,rfl⟩:=hs
  obtain⟨id,o,h1,h2,h3,h4,h5,h6⟩:=Jbw hu
  exact⟨a,id,o,.inl ⟨_,_,rfl⟩,h1,h2,h3,h4,h5,fun h2 he hf=>by simp only[sop,h6 h2 he hf,Option.map_some]⟩
 | mapUpdate t m k x=>
  simp only[sop,Option.map_eq_some_iff,Prod.mk.injEq] at hs
  obtain⟨u,hu,rfl,rfl⟩:=hs
  obtain⟨id,o,h1,h2,h3,h4,h5,h6⟩:=J6R hu
  exact⟨m,id,o,.inr ⟨_,_,_,.inl rfl⟩,h1,h2,h3,h4,h5,fun h2 he hf=>by simp only[sop,h6 h2 he hf,Option.map_some]⟩
 | insert t m k x=>
  simp only[sop,Option.map_eq_some_iff,Prod.mk.injEq] at hs
  obtain⟨u,hu,rfl,rfl⟩:=hs
  obtain⟨id,o,h1,h2,h3,h4,h5,h6⟩:=J6R hu
  exact⟨m,id,o,.inr ⟨_,_,_,.inr rfl⟩,h1,h2,h3,h4,h5,fun h2 he hf=>by simp only[sop,h6 h2 he hf,Option.map_some]⟩
 | call c=>
  simp only[J04] at hc
  split at hc <;> cases hc
 | _=>first | (simp[J04] at hc;done) | (simp[sop] at hs;done)
theorem J6o {T:Tr} {h h':SHeap} {op:Op} {v:Value} (hcall:∀ f args h v h',call f args h=some (v,h')→SNx h h') (hc:J04 op=.act) (hs:sop P call T h op=some (v,h')):SNx h h':=by
 cases op with
 | call c=>simp only[sop] at hs;exact J8J hcall hs
 | _=>first | (simp[J04] at hc;done) | (simp[sop] at hs;done)
theorem Je5 {T:Tr} {h h':SHeap} {op:Op} {v:Value} (hcall:∀ f args h v h',call f args h=some (v,h')→SNx h h') (hs:sop P call T h op=some (v,h')):SNx h h':=by
 cases hc:J04 op with
 | pure=>
  cases op with
  | call c=>simp only[sop] at hs;exact J8J hcall hs
  | _=>
   first
   | (obtain⟨rfl,_⟩:=J8b hc (by intro c hcc;cases hcc) hs;exact .refl _)
 | read a=>obtain⟨rfl,_⟩:=J7D hc hs;exact .refl _
 | new=>obtain⟨o,_,rfl,_⟩:=J9a hc hs;exact .push _ _
 | act=>exact J6o hcall hc hs
 | store=>
  obtain⟨a,id,o,_,_,rfl,h1,h2,_⟩:=J4x hc hs
  exact .put h1 h2
end
def JbG (acc:Array Nat) (o:Oper):Nat:=o.after.foldl (fun s e=>if Region.binds .any e then s ||| 2 ^ e.on ||| acc.getD e.on 0 else s) 0
theorem J9u (l:List Oper):∀ acc:Array Nat,let r:=l.foldl (fun acc o=>acc.push (JbG acc o)) acc
  r.size=acc.size+l.length∧(∀ k,k<acc.size→r.getD k 0=acc.getD k 0) ∧
  ∀ m o,l[m]?=some o→∃ acc':Array Nat,acc'.size=acc.size+m∧(∀ k,k<acc'.size→acc'.getD k 0=r.getD k 0)∧r.getD (acc.size+m) 0=JbG acc' o:=by
 induction l with
 | nil=>intro acc;simp
 | cons o l ih=>
  intro acc
  obtain⟨h1,h2,h3⟩:=ih (acc.push (JbG acc o))
  simp only[List.foldl_cons]
  simp only[Array.size_push] at h1 h2 h3
  refine⟨by rw[h1];simp;omega,fun k hk=>?_,fun m o' hm=>?_⟩
  ·rw[h2 k (by omega)]
   simp[Array.getD_eq_getD_getElem?,Array.getElem?_push,Nat.ne_of_lt hk]
  ·cases m with
   | zero=>
    simp at hm
    subst hm
    refine⟨acc,rfl,fun k hk=>?_,?_⟩
    ·rw[h2 k (by omega)]
     simp[Array.getD_eq_getD_getElem?,Array.getElem?_push,Nat.ne_of_lt hk]
    ·rw[Nat.add_zero,h2 _ (by omega)]
     simp
   | succ m=>
    obtain⟨acc',ha,hb,hc⟩:=h3 m o' (by simpa using hm)
    exact⟨acc',by omega,hb,by rw[← hc];congr 1;omega⟩
theorem Jdf {acc:Array Nat} {o:Oper} {i:Nat} (h:(JbG acc o).testBit i=true):∃ e∈o.after,Region.binds .any e=true∧(e.on=i∨(acc.getD e.on 0).testBit i=true):=by
 unfold JbG at h
 rw[← Array.foldl_toList] at h
 have key:∀ (l:List Edge) (s:Nat),(l.foldl (fun s e=>if Region.binds .any e then s ||| 2 ^ e.on ||| acc.getD e.on 0 else s) s).testBit i=true→s.testBit i=true∨∃ e∈l,Region.binds .any e=true∧(e.on=i∨(acc.getD e.on 0).testBit i=true):=by
  intro l
  induction l with
  | nil=>intro s h;exact .inl h
  | cons e l ih=>
   intro s h
   rw[List.foldl_cons] at h
   rcases ih _ h with h1 | ⟨e',he',h2⟩
   ·split at h1
    ·rename_i hb
     simp only[Nat.testBit_or,Bool.or_eq_true] at h1
     rcases h1 with(h1 | h1) | h1
     ·exact .inl h1
     ·rw[Nat.testBit_two_pow] at h1
      exact .inr ⟨e,by simp,hb,.inl (by simpa using h1)⟩
     ·exact .inr ⟨e,by simp,hb,.inr h1⟩
    ·exact .inl h1
   ·exact .inr ⟨e',by simp[he'],h2⟩
 rcases key _ 0 h with h1 | ⟨e,he,h2⟩
 ·simp at h1
 ·exact⟨e,by simpa using he,h2⟩
theorem J5x {ops:Array Oper} {j i:Nat} (h:((Region.before ops).getD j 0).testBit i=true) :
  ∃ o,ops[j]?=some o∧∃ e∈o.after,Region.binds .any e=true∧(e.on=i∨(e.on<j∧((Region.before ops).getD e.on 0).testBit i=true)):=by
 have hb:Region.before ops=ops.toList.foldl (fun acc o=>acc.push (JbG acc o)) #[]:=by
  unfold Region.before
  rw[← Array.foldl_toList]
  rfl
 obtain⟨h1,_,h3⟩:=J9u ops.toList #[]
 simp only[← hb] at h1 h3
 simp only[List.size_toArray,List.length_nil,Nat.zero_add] at h1 h3
 cases ho:ops[j]? with
 | none=>
  have hge:ops.size≤j:=by simpa using ho
  have:(Region.before ops).getD j 0=0:=by
   rw[Array.getD_eq_getD_getElem?,Array.getElem?_eq_none (by rw[h1];simpa using hge)]
   rfl
  rw[this] at h
  simp at h
 | some o=>
  obtain⟨acc',ha,hbb,hc⟩:=h3 j o (by simpa using ho)
  rw[hc] at h
  obtain⟨e,he,hbd,hor⟩:=Jdf h
  refine⟨o,rfl,e,he,hbd,hor.imp id fun hbit=>?_⟩
  have hlt:e.on<acc'.size:=by
   rcases Nat.lt_or_ge e.on acc'.size with hl | hl
   ·exact hl
   ·rw[Array.getD_eq_getD_getElem?,Array.getElem?_eq_none hl] at hbit
    simp at hbit
  exact⟨by omega,by rw[← hbb _ hlt];exact hbit⟩
def JaP (ops:Array Oper):Bool:=
 let b:=Region.before ops
 (List.range ops.size).all fun j=>match ops[j]? with
  | none=>false
  | some oj=>
   oj.after.toList.all (fun e=>!Region.binds .any e||decide (e.on<j)) &&
   (List.range ops.size).all fun i=>match ops[i]? with
    | none=>false
    | some oi=>
     (!((J2w oj||J11 oj)&&(J2w oi||J11 oi||J50 oi)&&decide (i<j))||(b.getD j 0).testBit i) &&
     (!(J11 oj&&J6C oi&&decide (j<i))||(b.getD i 0).testBit j) &&
     (!(i != j&&(match oi.dst with | some d=>(oj.looksAt ops).contains d||oj.dst==some d | none=>false))||((b.getD j 0).testBit i||(b.getD i 0).testBit j)) &&
     (!(J11 oj&&decide (i<j))||(match J04 oi.op with
      | .read a=>!(J4n b i j)||(List.range ops.size).all (fun k=>!(decide (i≤k)&&decide (k<j))||(match ops[k]? with | some ok=>(match ok.dst,a with | some d,.tmp t=>d != t | _,_=>true) | none=>true))
      | _=>true))
structure DOK (ops:Array Oper):Prop where
 edge:∀ j oj,ops[j]?=some oj→∀ e∈oj.after,Region.binds .any e=true→e.on<j
 s2:∀ j i oj oi,ops[j]?=some oj→ops[i]?=some oi→(J2w oj=true∨J11 oj=true)→(J2w oi=true∨J11 oi=true∨J50 oi=true)→i<j→((Region.before ops).getD j 0).testBit i=true
 s4:∀ j i oj oi,ops[j]?=some oj→ops[i]?=some oi→J11 oj=true→J6C oi=true→j<i→((Region.before ops).getD i 0).testBit j=true
 s6:∀ j i oj oi d,ops[j]?=some oj→ops[i]?=some oi→i≠j→oi.dst=some d→(d∈oj.looksAt ops∨oj.dst=some d)→((Region.before ops).getD j 0).testBit i=true∨((Region.before ops).getD i 0).testBit j=true
 s5:∀ j i k oj oi ok t,ops[j]?=some oj→ops[i]?=some oi→ops[k]?=some ok→J11 oj=true→i<j→J04 oi.op=.read (.tmp t)→J4n (Region.before ops) i j=true→i≤k→k<j→ok.dst≠some t
theorem J9P {ops:Array Oper} (h:JaP ops=true):DOK ops:=by
 unfold JaP at h
 simp only[List.all_eq_true,List.mem_range] at h
 have get:∀ j oj,ops[j]?=some oj→j<ops.size:=fun j oj hj=>(Array.getElem?_eq_some_iff.1 hj).1
 have key:∀ j oj,ops[j]?=some oj→(oj.after.toList.all (fun e=>!Region.binds .any e||decide (e.on<j))=true)∧∀ i oi,ops[i]?=some oi →
   (!((J2w oj||J11 oj)&&(J2w oi||J11 oi||J50 oi)&&decide (i<j))||((Region.before ops).getD j 0).testBit i)=true ∧
   (!(J11 oj&&J6C oi&&decide (j<i))||((Region.before ops).getD i 0).testBit j)=true ∧
   (!(i != j&&(match oi.dst with | some d=>(oj.looksAt ops).contains d||oj.dst==some d | none=>false))||(((Region.before ops).getD j 0).testBit i||((Region.before ops).getD i 0).testBit j))=true ∧
   (!(J11 oj&&decide (i<j))||(match J04 oi.op with
      | .read a=>!(J4n (Region.before ops) i j)||(List.range ops.size).all (fun k=>!(decide (i≤k)&&decide (k<j))||(match ops[k]? with | some ok=>(match ok.dst,a with | some d,.tmp t=>d != t | _,_=>true) | none=>true))
      | _=>true))=true:=by
  intro j oj hj
  have:=h j (get j oj hj)
  rw[hj] at this
  simp only[Bool.and_eq_true] at this
  refine⟨this.1,fun i oi hi=>?_⟩
  have h2:=List.all_eq_true.1 this.2 i (List.mem_range.2 (get i oi hi))
  rw[hi] at h2
  simp only[Bool.and_eq_true] at h2
  exact⟨h2.1.1.1,h2.1.1.2,h2.1.2,h2.2⟩
 refine⟨?_,?_,?_,?_,?_⟩
 ·intro j oj hj e he hb
  have:=List.all_eq_true.1 (key j oj hj).1 e (by simpa using he)
  simpa [hb] using this
 ·intro j i oj oi hj hi h1 h2 hlt
  have:=((key j oj hj).2 i oi hi).1
  have e1:(J2w oj||J11 oj)=true:=by simpa using h1
  have e2:(J2w oi||J11 oi||J50 oi)=true:=by simpa [or_assoc] using h2
  simpa [e1,e2,hlt] using this
 ·intro j i oj oi hj hi h1 h2 hlt
  have:=((key j oj hj).2 i oi hi).2.1
  simpa [h1,h2,hlt] using this
 ·intro j i oj oi d hj hi hne hd hn
  have:=((key j oj hj).2 i oi hi).2.2.1
  rw[hd] at this
  have e1:((oj.looksAt ops).contains d||oj.dst==some d)=true:=by simpa using hn
  simp only[e1,Bool.and_true] at this
  simpa [hne] using this
 ·intro j i k oj oi ok t hj hi hk h1 hlt hc hu hik hkj
  have:=((key j oj hj).2 i oi hi).2.2.2
  rw[hc] at this
  simp only[h1,hlt,decide_true,Bool.and_self,Bool.not_true,Bool.false_or,hu] at this
  have h2:=List.all_eq_true.1 this k (List.mem_range.2 (get k ok hk))
  simp only[hik,hkj,decide_true,Bool.and_self,Bool.not_true,Bool.false_or,hk] at h2
  intro hd
  rw[hd] at h2
  simp at h2
theorem J8C {ops:Array Oper} (hD:DOK ops):∀ (j i:Nat),((Region.before ops).getD j 0).testBit i=true→i<j:=by
 intro j
 induction j using Nat.strongRecOn with
 | _ j ih=>
  intro i h
  obtain⟨o,ho,e,he,hb,hor⟩:=J5x h
  have hlt:=hD.edge j o ho e he hb
  rcases hor with rfl | ⟨h1,h2⟩
  ·exact hlt
  ·exact Nat.lt_trans (ih e.on h1 i h2) h1
def J6y (ops:Array Oper) (listed:Array Bool):Prop:=∀ j o,listed.getD j false=true→ops[j]?=some o→∀ e∈o.after,Region.binds .any e=true→listed.getD e.on false=true
theorem J6y.bit {ops:Array Oper} {listed:Array Bool} (hC:J6y ops listed):∀ (j i:Nat),listed.getD j false=true→((Region.before ops).getD j 0).testBit i=true→listed.getD i false=true:=by
 intro j
 induction j using Nat.strongRecOn with
 | _ j ih=>
  intro i hl h
  obtain⟨o,ho,e,he,hb,hor⟩:=J5x h
  have h1:=hC j o hl ho e he hb
  rcases hor with rfl | ⟨h2,h3⟩
  ·exact h1
  ·exact ih e.on h2 i h1 h3
theorem J3b {ops:Array Oper} {listed:Array Bool} (hC:J6y ops listed) {j i:Nat} (hj:j∈Region.ready .any ops listed) (h:((Region.before ops).getD j 0).testBit i=true):listed.getD i false=true:=by
 obtain⟨o,ho,e,he,hb,hor⟩:=J5x h
 obtain⟨_,o',ho',hall⟩:=mem_ready.1 hj
 rw[ho] at ho'
 cases ho'
 have h1:=hall e he hb
 rcases hor with rfl | ⟨h2,h3⟩
 ·exact h1
 ·exact hC.bit _ _ h1 h3
theorem J6y.set {ops:Array Oper} {listed:Array Bool} (hC:J6y ops listed) {j:Nat} (hj:j∈Region.ready .any ops listed):J6y ops (listed.setIfInBounds j true):=by
 intro k o hk ho e he hb
 by_cases e1:j=k
 ·subst e1
  obtain⟨_,o',ho',hall⟩:=mem_ready.1 hj
  rw[ho] at ho'
  cases ho'
  exact getD_set_true (hall e he hb)
 ·rw[getD_set_ne false e1] at hk
  exact getD_set_true (hC k o hk ho e he hb)
theorem Jbx {P:Program} {call:J0r} {ops:Array Oper} {start:Nat}:∀ (l:List Oper) (i:Nat) (s s':St),seqD P call ops start i l s=some s' →
  ∃ S:Nat→St,S i=s∧S (i+l.length)=s'∧∀ k o,l[k]?=some o→J7X P call ops start (i+k) o (S (i+k))=some (S (i+k+1)):=by
 intro l
 induction l with
 | nil=>intro i s s' h;simp[seqD] at h;subst h;exact⟨fun _=>s,rfl,rfl,by simp⟩
 | cons o l ih=>
  intro i s s' h
  simp only[seqD] at h
  split at h
  ·rename_i s1 h1
   obtain⟨S,hS1,hS2,hS3⟩:=ih (i+1) s1 s' h
   refine⟨fun k=>if k≤i then s else S k,by simp,?_,?_⟩
   ·dsimp only
    rw[if_neg (by simp),← hS2]
    congr 1
    simp
    omega
   ·intro k o' hk
    cases k with
    | zero=>
     simp at hk
     subst hk
     simp only[Nat.add_zero,Nat.le_refl,if_true]
     rw[if_neg (by omega),hS1]
     exact h1
    | succ k=>
     dsimp only
     rw[if_neg (by omega),if_neg (by omega)]
     have:=hS3 k o' (by simpa using hk)
     rwa [show i+1+k=i+(k+1) by omega] at this
  ·cases h
inductive StepK (P:Program) (call:J0r) (ops:Array Oper) (start k:Nat) (o:Oper) (s s':St):Prop
 | off:J27 ops s.T o=false→s'=⟨s.T.put o.dst undef,s.h⟩→StepK P call ops start k o s s'
 | pure (v):J27 ops s.T o=true→J04 o.op=.pure→(∀ c,o.op=.call c→∀ r,c.args.toList.map (ev s.T)≠[.map r])→sop P call s.T s.h o.op=some (v,s.h)→s'=⟨s.T.put o.dst v,s.h⟩→StepK P call ops start k o s s'
 | read (v a):J27 ops s.T o=true→J04 o.op=.read a→(J2p ops k=true→∀ id,idOf (ev s.T a)=some id→id<start)→sop P call s.T s.h o.op=some (v,s.h)→s'=⟨s.T.put o.dst v,s.h⟩→StepK P call ops start k o s s'
 | new (v ob):J27 ops s.T o=true→J04 o.op=.new→wr ob→sop P call s.T s.h o.op=some (v,s.h.push ob)→s'=⟨s.T.put o.dst v,s.h.push ob⟩→StepK P call ops start k o s s'
 | act (v h1 f):J27 ops s.T o=true→J04 o.op=.act→s.h.floor≤f→(J2S ops k=true→start≤f)→sop P call s.T (s.h.fl f) o.op=some (v,h1)→s'=⟨s.T.put o.dst v,h1.fl s.h.floor⟩→StepK P call ops start k o s s'
 | store (v a id ob):J27 ops s.T o=true→J04 o.op=.store→idOf (ev s.T a)=some id→(∀ x∈J1H ops k,idOf (ev s.T x)≠some id)→id<s.h.next→s.h.floor≤id →
   ((∃ t x,o.op=.store t a x)∨(∃ t k x,o.op=.mapUpdate t a k x∨o.op=.insert t a k x))→sop P call s.T s.h o.op=some (v,s.h.put id ob)→s'=⟨s.T.put o.dst v,s.h.put id ob⟩→StepK P call ops start k o s s'
theorem J2m {P:Program} {call:J0r} {ops:Array Oper} {o:Oper} {s s':St} (hw:J27 ops s.T o=true) (h:J2P P call ops o s=some s'):∃ v h',sop P call s.T s.h o.op=some (v,h')∧s'=⟨s.T.put o.dst v,h'⟩:=by
 unfold J2P at h
 rw[if_pos hw] at h
 split at h
 ·rename_i v h' hs
  cases h
  exact⟨v,h',hs,rfl⟩
 ·cases h
theorem Jin {P:Program} {call:J0r} (hcall:∀ f args h v h',call f args h=some (v,h')→SNx h h') {ops:Array Oper} {start k:Nat} {o:Oper} {s s':St} (h:J7X P call ops start k o s=some s'):StepK P call ops start k o s s':=by
 unfold J7X at h
 split at h
 ·rename_i hw
  cases hc:J04 o.op with
  | pure=>
   simp only[hc] at h
   have key:∀ (hm:∀ c,o.op=.call c→∀ r,c.args.toList.map (ev s.T)≠[.map r]),J2P P call ops o s=some s'→StepK P call ops start k o s s':=by
    intro hm h
    obtain⟨v,h',hs,rfl⟩:=J2m hw h
    obtain⟨rfl,_⟩:=J8b hc hm hs
    exact .pure v hw hc hm hs rfl
   split at h
   ·rename_i c hop
    split at h
    ·cases h
    ·rename_i hne
     refine key (fun c' hc' r hr=>?_) h
     rw[hop] at hc'
     cases hc'
     exact hne r hr
   ·rename_i hop
    exact key (fun c' hc'=>absurd hc' (hop c')) h
  | read a=>
   simp only[hc] at h
   by_cases hcond:(J2p ops k && !ahead start (idOf (ev s.T a)))=true
   ·rw[if_pos hcond] at h;cases h
   ·rw[if_neg hcond] at h
    obtain⟨v,h',hs,rfl⟩:=J2m hw h
    obtain⟨rfl,_⟩:=J7D hc hs
    refine .read v a hw hc (fun hl id hid=>?_) hs rfl
    rw[hl,hid] at hcond
    simpa [ahead] using hcond
  | new=>
   simp only[hc] at h
   obtain⟨v,h',hs,rfl⟩:=J2m hw h
   obtain⟨ob,hwr,rfl,_⟩:=J9a hc hs
   exact .new v ob hw hc hwr hs rfl
  | act=>
   simp only[hc] at h
   split at h
   ·rename_i hl
    split at h
    ·rename_i s1 h1
     cases h
     obtain⟨v,h',hs,rfl⟩:=J2m (s:=⟨s.T,s.h.fl (max s.h.floor start)⟩) hw h1
     exact .act v h' (max s.h.floor start) hw hc (by omega) (fun _=>by omega) hs rfl
    ·cases h
   ·rename_i hl
    obtain⟨v,h',hs,rfl⟩:=J2m hw h
    refine .act v h' s.h.floor hw hc (Nat.le_refl _) (fun hl'=>absurd hl' hl) hs ?_
    have:=(J6o hcall hc hs).floor
    obtain⟨n,f,l⟩:=h'
    simp only at this
    subst this
    rfl
  | store=>
   simp only[hc] at h
   split at h
   ·rename_i t a x hop
    split at h
    ·rename_i hall
     obtain⟨v,h',hs,rfl⟩:=J2m hw h
     obtain⟨a',id,ob,hor,hid,rfl,h1,h2,_⟩:=J4x hc hs
     have ha:a'=a:=by
      rcases hor with⟨_,_,e⟩ | ⟨_,_,_,e | e⟩
      ·rw[hop] at e;cases e;rfl
      ·rw[hop] at e;cases e
      ·rw[hop] at e;cases e
     subst ha
     refine .store v a' id ob hw hc hid (fun y hy=>?_) h1 h2 hor hs rfl
     have:=List.all_eq_true.1 hall y hy
     rw[hid] at this
     simpa using this
    ·cases h
   ·rename_i t a y x hop
    split at h
    ·rename_i hall
     obtain⟨v,h',hs,rfl⟩:=J2m hw h
     obtain⟨a',id,ob,hor,hid,rfl,h1,h2,_⟩:=J4x hc hs
     have ha:a'=a:=by
      rcases hor with⟨_,_,e⟩ | ⟨_,_,_,e | e⟩
      ·rw[hop] at e;cases e
      ·rw[hop] at e;cases e
      ·rw[hop] at e;cases e;rfl
     subst ha
     refine .store v a' id ob hw hc hid (fun y hy=>?_) h1 h2 hor hs rfl
     have:=List.all_eq_true.1 hall y hy
     rw[hid] at this
     simpa using this
    ·cases h
   ·rename_i t a y x hop
    split at h
    ·rename_i hall
     obtain⟨v,h',hs,rfl⟩:=J2m hw h
     obtain⟨a',id,ob,hor,hid,rfl,h1,h2,_⟩:=J4x hc hs
     have ha:a'=a:=by
      rcases hor with⟨_,_,e⟩ | ⟨_,_,_,e | e⟩
      ·rw[hop] at e;cases e
      ·rw[hop] at e;cases e;rfl
      ·rw[hop] at e;cases e
     subst ha
     refine .store v a' id ob hw hc hid (fun y hy=>?_) h1 h2 hor hs rfl
     have:=List.all_eq_true.1 hall y hy
     rw[hid] at this
     simpa using this
    ·cases h
   ·cases h
 ·rename_i hw
  cases h
  exact .off (by simpa using hw) rfl
end Go.Sx
