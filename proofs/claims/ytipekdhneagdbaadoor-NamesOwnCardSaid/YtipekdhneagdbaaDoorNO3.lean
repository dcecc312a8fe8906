/- Part 3 of what the claim leans on: 8 texts laid one behind another. -/
import Derived.Test.YtipekdhneagdbaaDoorNO2
import Derived.Laws.BytesArg
namespace Go.Sx
open Go
set_option linter.unusedSimpArgs false
set_option linter.unusedVariables false
set_option maxHeartbeats 64000000
section
variable {P:Program} {ρ:AX} {h:AA} {W:World}
theorem UQ (a b:Nat):Nat.min a b=min a b:=rfl
theorem Af (hR:BK P ρ h W) {t ty:TypeId} {x X y Y v:Value} {h':AA} (hx:AH ρ x X) (hy:AH ρ y Y) (hs:NT P h t x y=some (v,h')) :
  ∃ V W' ρ',(Builtin.copy_ #[t,t] ty #[X,Y]).run P W=.ok V W'∧Nx P ρ h W ρ' h' W'∧AH ρ' v V:=by
 unfold NT at hs
 split at hs
 ·rename_i e base len cap sb n sc hu
  split at hs
  ·rename_i s hsz
   simp only at hs
   split at hs
   ·rename_i new hnew
    obtain⟨A',C',New,rfl,hN,hrn,hsrc⟩:=R1 hR hy (Nat.min_le_left n len) hnew
    have hf:=Y8 (P:=P) (m:=n) (C:=C') hN hsrc
    split at hs
    ·rename_i id off
     split at hs
     ·rename_i hm0
      cases hs
      have hNn:New=[]:=List.eq_nil_of_length_eq_zero (by rw[hN,hm0];simp)
      rw[hNn] at hf
      have hr:∃ B C,X=.slice (some B) len C:=by
       rcases I4 hx with⟨h1,_⟩ | ⟨_,_,L,_,_,_,rfl⟩ | ⟨_,_,L,A,C,_,_,_,_,rfl,_⟩
       ·cases h1
       ·exact⟨_,_,rfl⟩
       ·exact⟨_,_,rfl⟩
      obtain⟨B,C,rfl⟩:=hr
      refine⟨.int .i64 (min n len:Nat),W,ρ,?_,Nx.refl hR,.flat rfl⟩
      simp[Builtin.copy_,UQ,run_underlying hu,Builtin.lenOf,run_sizeOf hsz,hf,storeCells,goInt]
     ·rename_i hm0
      split at hs
      ·rename_i h2 hst
       cases hs
       rcases I4 hx with⟨h1,_⟩ | ⟨_,_,L,h1,hL,hlt,rfl⟩ | ⟨_,_,L,A,C,h1,hL,_,hC,rfl,hA⟩
       ·cases h1
       ·cases h1
        obtain⟨W',hrun,hN2⟩:=XM hR hrn hL hst
        refine⟨.int .i64 (min n len:Nat),W',ρ,?_,hN2,.flat rfl⟩
        simp[Builtin.copy_,UQ,run_underlying hu,Builtin.lenOf,run_sizeOf hsz,hf,hrun,goInt]
       ·cases h1
        rcases hA with(rfl | ⟨rfl,_⟩) | ⟨rfl,_⟩
        ·have:min n len=0:=by omega
         exact absurd this hm0
        ·exact absurd (Nat.min_zero n) hm0
        ·obtain⟨W',hrun,hN2⟩:=XM hR hrn hL hst
         refine⟨.int .i64 (min n len:Nat),W',ρ,?_,hN2,.flat rfl⟩
         simp[Builtin.copy_,UQ,run_underlying hu,Builtin.lenOf,run_sizeOf hsz,hf,hrun,goInt]
      ·cases hs
    ·cases hs
     rcases I4 hx with⟨_,rfl,rfl,rfl⟩ | ⟨_,_,L,h1,_⟩ | ⟨_,_,L,A,C,h1,_⟩
     ·refine⟨.int .i64 (min n 0:Nat),W,ρ,?_,Nx.refl hR,.flat rfl⟩
      simp only[Nat.min_zero] at hf
      simp[Builtin.copy_,UQ,run_underlying hu,Builtin.lenOf,run_sizeOf hsz,hf,goInt]
     ·cases h1
     ·cases h1
    ·cases hs
   ·cases hs
  ·cases hs
 ·cases hs
theorem JK {a b:ByteArray} (h:(a==b)=true):a=b:=by
 have:a.data==b.data:=h
 cases a;cases b;simp at this;simp[this]
theorem fO {k x X:Value} {b:Bool} {kt:TypeDesc} (hk:(∃ j,kt=.int j∧∃ n i,k=.int n i)∨(kt=.string∧∃ s,k=.string s)) (hx:AH ρ x X) (h:IM k x=some b):Instr.sameNow kt k X=some b:=by
 rcases hk with⟨j,rfl,n,i,rfl⟩ | ⟨rfl,s,rfl⟩
 ·cases x <;> simp[IM] at h
  obtain rfl:=KC hx
  simp[Instr.sameNow,h]
 ·cases x <;> simp[IM] at h
  obtain rfl:=Q0 hx
  simp[Instr.sameNow,h]
theorem Y3 {k:Value} {kt:TypeDesc} (hk:(∃ j,kt=.int j∧∃ n i,k=.int n i)∨(kt=.string∧∃ s,k=.string s)) {es:List (Value × Value)} {ES:List MapEntry}
  (he:AY (fun e E=>AH ρ e.1 E.key∧AH ρ e.2 E.val) es ES):∀ {r:Option Value} (i:Nat),I5 k es=some r →
  ∃ R,Instr.findNow kt k ES i=some R∧(match r,R with
   | none,none=>True
   | some v,some (j,V)=>AH ρ v V∧i≤j∧(∃ x u,es[j-i]?=some (x,u)∧IM k x=some true∧∀ m x' u',m<j-i→es[m]?=some (x',u')→IM k x'=some false)
   | _,_=>False):=by
 induction he with
 | nil=>
  intro r i hf
  simp[I5] at hf
  subst hf
  exact⟨none,rfl,trivial⟩
 | cons hh _ ih=>
  intro r i hf
  rename_i a b l m _
  obtain⟨x,v⟩:=a
  simp only[I5] at hf
  split at hf
  ·rename_i hq
   cases hf
   refine⟨some (i,b.val),?_,hh.2,Nat.le_refl _,x,v,by simp,hq,fun m x' u' hm=>by omega⟩
   simp[Instr.findNow,fO hk hh.1 hq]
  ·rename_i hq
   obtain⟨R,hR,hm⟩:=ih (i+1) hf
   refine⟨R,by simp[Instr.findNow,fO hk hh.1 hq,hR],?_⟩
   cases r with
   | none=>cases R with
    | none=>trivial
    | some R=>exact hm.elim
   | some w=>cases R with
    | none=>exact hm.elim
    | some R=>
     obtain⟨h1,h2,x',u',h3,h4,h5⟩:=hm
     refine⟨h1,by omega,x',u',?_,h4,?_⟩
     ·rw[show R.1-i=(R.1-(i+1))+1 by omega]
      simpa using h3
     ·intro m x2 u2 hm2 hg
      cases m with
      | zero=>simp at hg;obtain⟨rfl,rfl⟩:=hg;exact hq
      | succ m=>exact h5 m x2 u2 (by omega) (by simpa using hg)
  ·cases hf
theorem jI {kt:TypeId} {k:Value} (h:KS P kt k=true):∃ d,P.underlying kt=some d∧((∃ j,d=.int j∧∃ n i,k=.int n i)∨(d=.string∧∃ s,k=.string s)):=by
 unfold KS at h
 split at h
 ·rename_i j n i hu
  exact⟨_,hu,.inl ⟨_,rfl,_,_,rfl⟩⟩
 ·rename_i s hu
  exact⟨_,hu,.inr ⟨rfl,_,rfl⟩⟩
 ·cases h
theorem jW {kt:TypeId} {k:Value} {d:TypeDesc} (hu:P.underlying kt=some d) (hd:(∃ j,d=.int j∧∃ n i,k=.int n i)∨(d=.string∧∃ s,k=.string s)) (b:Bool) (n:Nat):(Instr.checkKey b (n+1) kt k).run P W=.ok () W:=by
 rcases hd with⟨j,rfl,m,i,rfl⟩ | ⟨rfl,s,rfl⟩ <;> simp[Instr.checkKey,run_underlying hu]
theorem jA {d:TypeDesc} {k K:Value} (hd:(∃ j,d=.int j∧∃ n i,k=.int n i)∨(d=.string∧∃ s,k=.string s)) (hk:AH ρ k K):K=k:=by
 rcases hd with⟨_,_,n,i,rfl⟩ | ⟨_,s,rfl⟩
 ·exact KC hk
 ·exact Q0 hk
theorem cO {id:Nat} {es:List (Value × Value)} (hR:BK P ρ h W) (hg:h.get id=.map es) {L:Loc} (hL:ρ id=some L) :
  ∃ ES clk,W.heap[L.b]?=some (.map ES clk)∧AY (fun e E=>AH ρ e.1 E.key∧AH ρ e.2 E.val) es ES.toList:=by
 have:=hR.obj id
 rw[hg] at this
 obtain⟨L',ES,clk,h1,h2,h3⟩:=this
 rw[hL] at h1
 cases h1
 exact⟨ES,clk,h2,h3⟩
theorem vU (hR:BK P ρ h W) {t:TypeId} {m M k K v:Value} {ok:Bool} (hm:AH ρ m M) (hk:AH ρ k K) (hs:NV P h t m k ok=some v) :
  ∃ V,(Instr.lookup t M K ok).run P W=.ok V W∧AH ρ v V:=by
 unfold NV at hs
 split at hs
 ·rename_i kt et hu
  split at hs
  ·rename_i hko
   obtain⟨d,hd,hdk⟩:=jI hko
   have hKk:K=k:=jA hdk hk
   subst hKk
   split at hs
   ·rename_i es hes
    have hck:∀ b,(Instr.checkKey b 10000 kt K).run P W=.ok () W:=fun b=>jW hd hdk b 9999
    -- the entries on the other side
    have hent:∃ ES:Array MapEntry,AY (fun e E=>AH ρ e.1 E.key∧AH ρ e.2 E.val) es ES.toList ∧
      ∀ (f:Array MapEntry→Sem Value),((do
       let es ← match M with
        | .map none=>pure #[]
        | .map (some r)=>do
         let .map es _ ← getObj r | stuck "Lookup: map expected"
         pure es
        | _ => stuck "Lookup: map expected"
       f es:Sem Value)).run P W=(f ES).run P W:=by
     split at hes
     ·cases hes
      obtain rfl:M=.map none:=HL rfl hm
      exact⟨#[],.nil,fun f=>by simp⟩
     ·rename_i id
      split at hes
      ·rename_i es' hg
       cases hes
       obtain⟨L,hL,rfl⟩:=Y0 hm
       obtain⟨ES,clk,hb,hall⟩:=cO hR hg hL
       refine⟨ES,hall,fun f=>?_⟩
       simp[getObj,Sem.run,hb]
      ·cases hes
     ·cases hes
    obtain⟨ES,hall,hrunM⟩:=hent
    have hrun0:(Instr.lookup t M K ok).run P W=(do
       Instr.checkKey ES.isEmpty 10000 kt K
       let (v,ok') ← match ← Instr.findKey kt K ES.toList with
        | some (_,v)=>pure (v,true)
        | none=>pure (← zeroValue et,false)
       pure (if ok then .tuple #[v,.bool ok'] else v):Sem Value).run P W:=by
     unfold Instr.lookup
     rw[Sem.run_bind,run_underlying hu]
     exact hrunM _
    split at hs
    ·rename_i r hf
     cases hs
     obtain⟨R,hR2,hmatch⟩:=Y3 hdk hall 0 hf
     cases R with
     | none=>exact hmatch.elim
     | some jv=>
      obtain⟨j,V⟩:=jv
      obtain⟨hv,_⟩:=hmatch
      refine⟨if ok then .tuple #[V,.bool true] else V,?_,?_⟩
      ·rw[hrun0]
       simp[hck,Instr.findKey,run_underlying hd,hR2]
      ·cases ok
       ·exact hv
       ·exact .tuple (.cons hv (.cons (.flat rfl) .nil))
    ·rename_i hf
     split at hs
     ·rename_i z hz
      split at hs
      ·rename_i hfl
       cases hs
       obtain⟨R,hR2,hmatch⟩:=Y3 hdk hall 0 hf
       cases R with
       | some _=>exact hmatch.elim
       | none=>
        refine⟨if ok then .tuple #[z,.bool false] else z,?_,?_⟩
        ·rw[hrun0]
         simp[hck,Instr.findKey,run_underlying hd,hR2,OF hz]
        ·cases ok
         ·exact IS hfl
         ·exact .tuple (.cons (IS hfl) (.cons (.flat rfl) .nil))
      ·cases hs
     ·cases hs
    ·cases hs
   ·cases hs
  ·cases hs
 ·cases hs
theorem Cs {k v:Value}:∀ {es:List (Value × Value)} {j:Nat} {x u:Value},es[j]?=some (x,u)→IM k x=some true→(∀ (m:Nat) (x' u':Value),m<j→es[m]?=some (x',u')→IM k x'=some false)→F5 k v es=es.set j (k,v):=by
 intro es
 induction es with
 | nil=>intro j x u h;simp at h
 | cons e es ih=>
  intro j x u hj hk hno
  obtain⟨x0,u0⟩:=e
  cases j with
  | zero=>
   simp at hj
   obtain⟨rfl,rfl⟩:=hj
   simp[F5,hk]
  | succ j=>
   have h0:=hno 0 x0 u0 (by omega) rfl
   simp only[F5,h0]
   rw[if_neg (by simp)]
   rw[ih (j:=j) (by simpa using hj) hk (fun m x' u' hm hg=>hno (m+1) x' u' (by omega) (by simpa using hg))]
   rfl
theorem vL {k v:Value}:∀ {es:List (Value × Value)},I5 k es=some none→F5 k v es=es++[(k,v)]:=by
 intro es
 induction es with
 | nil=>intro _;rfl
 | cons e es ih=>
  intro h
  obtain⟨x0,u0⟩:=e
  simp only[I5] at h
  split at h
  ·cases h
  ·rename_i hq
   simp only[F5,hq]
   rw[if_neg (by simp),ih h]
   rfl
  ·cases h
theorem mD (hR:BK P ρ h W) {t:TypeId} {m M k K v V:Value} {h':AA} (hm:AH ρ m M) (hk:AH ρ k K) (hv:AH ρ v V) (hs:KY P h t m k v=some h') :
  ∃ W',(Instr.mapUpdate t M K V).run P W=.ok () W'∧Nx P ρ h W ρ h' W':=by
 unfold KY at hs
 split at hs
 ·rename_i kt et id hu
  split at hs
  ·rename_i hc
   simp only[Bool.and_eq_true,decide_eq_true_eq] at hc
   obtain⟨hko,hf⟩:=hc
   obtain⟨d,hd,hdk⟩:=jI hko
   have hKk:K=k:=jA hdk hk
   subst hKk
   split at hs
   ·rename_i es hg
    obtain⟨L,hL,rfl⟩:=Y0 hm
    obtain⟨ES,clk,hb,hall⟩:=cO hR hg hL
    have hck:(Instr.checkKey false 10000 kt K).run P W=.ok () W:=jW hd hdk false 9999
    have hlt:L.b<W.heap.size:=(Array.getElem?_eq_some_iff.1 hb).1
    have hwr:wr (h.get id):=by rw[hg];trivial
    have hput:∀ ES' clk',AY (fun e E=>AH ρ e.1 E.key∧AH ρ e.2 E.val) (F5 K v es) ES'.toList →
      Nx P ρ h W ρ (h.put id (.map (F5 K v es))) { W with heap:=W.heap.setIfInBounds L.b (.map ES' clk') }:=by
     intro ES' clk' ha
     refine U7 hR (L:=L) hwr hf hL rfl rfl rfl (by simp) (fun b _ hne=>by simp[Array.getElem?_setIfInBounds,Ne.symm hne]) ?_
     exact⟨L,ES',clk',hL,by simp[Array.getElem?_setIfInBounds,hlt],ha⟩
    split at hs
    ·rename_i r hf2
     cases hs
     obtain⟨R,hR2,hmatch⟩:=Y3 hdk hall 0 hf2
     cases R with
     | none=>
      cases r with
      | some _=>exact hmatch.elim
      | none=>
       refine⟨_,?_,hput (ES.push { key:=K,val:=V,born:=clk }) (clk+1) ?_⟩
       ·simp[Instr.mapUpdate,run_underlying hu,getObj,setObj,Sem.run,hb,hck,Instr.findKey,run_underlying hd,hR2]
       ·rw[vL hf2,Array.toList_push]
        exact hall.append (.cons ⟨IS (by rcases hdk with⟨_,_,_,_,rfl⟩ | ⟨_,_,rfl⟩ <;> rfl),hv⟩ .nil)
     | some jv=>
      cases r with
      | none=>exact hmatch.elim
      | some r=>
       obtain⟨j,V0⟩:=jv
       obtain⟨_,_,x,u,hj,hq,hno⟩:=hmatch
       simp only[Nat.sub_zero] at hj hno
       obtain⟨E,hE,hEk,hEv⟩:=hall.get hj
       have hE2:ES[j]?=some E:=by simpa using hE
       have hkey:E.key=x∧Instr.sameBits 10000 E.key K=true:=by
        rcases hdk with⟨i,_,n,y,rfl⟩ | ⟨_,s,rfl⟩
        ·cases x <;> simp[IM] at hq
         obtain⟨rfl,rfl⟩:=hq
         have:=KC hEk
         rw[this]
         exact⟨rfl,by simp[Instr.sameBits]⟩
        ·cases x <;> simp[IM] at hq
         have hq2:=JK hq
         subst hq2
         have:=Q0 hEk
         rw[this]
         exact⟨rfl,by simp only[Instr.sameBits];exact hq⟩
       refine⟨_,?_,hput (ES.modify j fun e=>{ e with key:=K,val:=V }) clk ?_⟩
       ·simp[Instr.mapUpdate,run_underlying hu,getObj,setObj,Sem.run,hb,hck,Instr.findKey,run_underlying hd,hR2,Instr.keyThatStays,hE2,hkey.2]
       ·rw[Cs hj hq hno]
        have hjl:j<ES.toList.length:=(List.getElem?_eq_some_iff.1 hE).1
        have e1:(ES.modify j fun e=>{ e with key:=K,val:=V }).toList=ES.toList.set j { E with key:=K,val:=V }:=by
         rw[Array.toList_modify]
         apply List.ext_getElem?
         intro i
         rw[List.getElem?_modify,List.getElem?_set]
         by_cases hij:j=i
         ·subst hij;simp[hE];simpa using hjl
         ·simp[hij]
        rw[e1]
        exact hall.set ⟨IS (by rcases hdk with⟨_,_,_,_,rfl⟩ | ⟨_,_,rfl⟩ <;> rfl),hv⟩
    ·cases hs
   ·cases hs
  ·cases hs
 ·cases hs
theorem Bn (hR:BK P ρ h W) {t ty:TypeId} {x X v:Value} (hx:AH ρ x X) (hs:B_ P h t x=some v):∃ V,(Builtin.len_ #[t] ty #[X]).run P W=.ok V W∧AH ρ v V:=by
 unfold B_ at hs
 split at hs
 ·rename_i s hu
  cases hs
  obtain rfl:=Q0 hx
  exact⟨_,by simp[Builtin.len_,run_underlying hu,goInt],.flat rfl⟩
 ·rename_i e a n c hu
  cases hs
  have:∃ A C,X=.slice A n C:=by
   rcases I4 hx with⟨_,rfl,rfl,rfl⟩ | ⟨_,_,L,_,_,_,rfl⟩ | ⟨_,_,L,A,C,_,_,_,_,rfl,_⟩
   ·exact⟨_,_,rfl⟩
   ·exact⟨_,_,rfl⟩
   ·exact⟨_,_,rfl⟩
  obtain⟨A,C,rfl⟩:=this
  exact⟨_,by simp[Builtin.len_,run_underlying hu,goInt],.flat rfl⟩
 ·rename_i n e hu
  cases hs
  exact⟨.int .i64 n,by simp[Builtin.len_,run_underlying hu,goInt],.flat rfl⟩
 ·rename_i kt e hu
  cases hs
  obtain rfl:X=.map none:=HL rfl hx
  exact⟨_,by simp[Builtin.len_,run_underlying hu,goInt],.flat rfl⟩
 ·rename_i kt e id hu
  split at hs
  ·rename_i es hg
   cases hs
   obtain⟨L,hL,rfl⟩:=Y0 hx
   obtain⟨ES,clk,hb,hall⟩:=cO hR hg hL
   have hl:es.length=ES.size:=by simpa using hall.length
   exact⟨.int .i64 ES.size,by simp[Builtin.len_,run_underlying hu,goInt,getObj,Sem.run,hb],by rw[hl];exact .flat rfl⟩
  ·cases hs
 ·cases hs
theorem iP {g:Int→Int→Int} {f:Value→Value→Option Value} {F:Value→Value→Sem Value} (hf:∀ a b c,f a b=some c→∃ k x j y,a=.int k x∧b=.int j y∧c=.int k (g x y))
  (hF:∀ k x j y,F (.int k x) (.int j y)=pure (.int k (g x y))):∀ {l L:List Value} {a v:Value},AY (AH ρ) l L→(∃ k x,a=.int k x)→l.foldlM f a=some v→(L.foldlM F a).run P W=.ok v W∧∃ k x,v=.int k x:=by
 intro l
 induction l with
 | nil=>
  intro L a v hl ha hs
  cases hl
  simp at hs
  subst hs
  exact⟨by simp,ha⟩
 | cons b l ih=>
  intro L a v hl ha hs
  cases hl with
  | cons hb hl=>
  rw[List.foldlM_cons] at hs
  cases hfa:f a b with
  | none=>rw[hfa] at hs;simp at hs
  | some c=>
   rw[hfa] at hs
   obtain⟨k,x,j,y,rfl,rfl,rfl⟩:=hf a b c hfa
   obtain rfl:=KC hb
   have:=ih hl ⟨k,g x y,rfl⟩ hs
   rw[List.foldlM_cons,hF]
   simpa using this
theorem tO {ty:TypeId} {at_:Array TypeId} {l:List Value} {L:Array Value} {v:Value} (hl:AY (AH ρ) l L.toList) (hs:SI l=some v):(Builtin.max_ at_ ty L).run P W=.ok v W∧AH ρ v v:=by
 unfold SI at hs
 split at hs
 ·rename_i k x rest
  unfold Builtin.max_
  cases hL:L.toList with
  | nil=>rw[hL] at hl;cases hl
  | cons X REST=>
   rw[hL] at hl
   cases hl with
   | cons hx hr=>
   obtain rfl:=KC hx
   have:=iP (P:=P) (W:=W) (g:=fun x y=>if y>x then y else x) (F:=Builtin.max2) (fun a b c h=>by
    split at h
    ·cases h;exact⟨_,_,_,_,rfl,rfl,rfl⟩
    ·cases h) (fun _ _ _ _=>rfl) hr ⟨k,x,rfl⟩ hs
   obtain⟨h1,k2,x2,rfl⟩:=this
   exact⟨h1,.flat rfl⟩
 ·cases hs
theorem Av {ty:TypeId} {at_:Array TypeId} {l:List Value} {L:Array Value} {v:Value} (hl:AY (AH ρ) l L.toList) (hs:SH l=some v):(Builtin.min_ at_ ty L).run P W=.ok v W∧AH ρ v v:=by
 unfold SH at hs
 split at hs
 ·rename_i k x rest
  unfold Builtin.min_
  cases hL:L.toList with
  | nil=>rw[hL] at hl;cases hl
  | cons X REST=>
   rw[hL] at hl
   cases hl with
   | cons hx hr=>
   obtain rfl:=KC hx
   have:=iP (P:=P) (W:=W) (g:=fun x y=>if y<x then y else x) (F:=Builtin.min2) (fun a b c h=>by
    split at h
    ·cases h;exact⟨_,_,_,_,rfl,rfl,rfl⟩
    ·cases h) (fun _ _ _ _=>rfl) hr ⟨k,x,rfl⟩ hs
   obtain⟨h1,k2,x2,rfl⟩:=this
   exact⟨h1,.flat rfl⟩
 ·cases hs
section
variable {t:TypeId} {e:TypeId}
theorem dR (hu:P.underlying t=some (.pointer e)) (a:Addr):(Op.equal t (.pointer (some a)) (.pointer none)).run P W=.ok false W:=by
 have h:∀ d,(Op.equalIn (d+1) t (.pointer (some a)) (.pointer none)).run P W=.ok false W:=fun d=>by simp[Op.equalIn,run_underlying hu]
 exact h 9999
theorem lW (hu:P.underlying t=some (.pointer e)) (a:Addr):(Op.equal t (.pointer none) (.pointer (some a))).run P W=.ok false W:=by
 have h:∀ d,(Op.equalIn (d+1) t (.pointer none) (.pointer (some a))).run P W=.ok false W:=fun d=>by simp[Op.equalIn,run_underlying hu]
 exact h 9999
theorem oK (hu:P.underlying t=some (.slice e)) (a:Addr) (n c:Nat):(Op.equal t (.slice (some a) n c) (.slice none 0 0)).run P W=.ok false W:=by
 have h:∀ d,(Op.equalIn (d+1) t (.slice (some a) n c) (.slice none 0 0)).run P W=.ok false W:=fun d=>by simp[Op.equalIn,run_underlying hu]
 exact h 9999
end
theorem QN {t:TypeId} {A B:Value} {r:Bool} (hA:(∃ a,A=.pointer a)∨(∃ a n c,A=.slice a n c)) (hB:(∃ a,B=.pointer a)∨(∃ a n c,B=.slice a n c)) (hr:(Op.equal t A B).run P W=.ok r W) (x y:Operand) :
  (do eqGuard .eql t x y A B;binOp .eql t A B:Sem Value).run P W=.ok (.bool r) W∧(do eqGuard .neq t x y A B;binOp .neq t A B:Sem Value).run P W=.ok (.bool !r) W:=by
 have e1:∀ op,eqGuard op t x y A B=pure ():=by
  intro op
  rcases hA with⟨a,rfl⟩ | ⟨a,n,c,rfl⟩
  ·exact eqGuard_at_pointer op t x y B a
  ·exact eqGuard_at_slice op t x y B a n c
 have e2:binOp .eql t A B=(do pure (.bool (← Op.equal t A B))):=by
  rcases hA with⟨a,rfl⟩ | ⟨a,n,c,rfl⟩ <;> rcases hB with⟨b,rfl⟩ | ⟨b,n',c',rfl⟩ <;> rfl
 have e3:binOp .neq t A B=(do pure (.bool (!(← Op.equal t A B)))):=by
  rcases hA with⟨a,rfl⟩ | ⟨a,n,c,rfl⟩ <;> rcases hB with⟨b,rfl⟩ | ⟨b,n',c',rfl⟩ <;> rfl
 rw[e1,e1,e2,e3]
 simp only[Sem.run_bind,Sem.run_pure,Result.andThen_ok,hr,and_self]
theorem RQ {t:TypeId} {v V:Value} (h:AH ρ (.iface t v) V):∃ V',V=.iface t V'∧AH ρ v V':=by
 cases h with
 | flat hf=>simp[BO] at hf
 | iface h=>exact⟨_,rfl,h⟩
theorem nN {t:TypeId} {ms:Array (String × TypeId)} (hu:P.underlying t=some (.interface ms)) (ty:TypeId) (v:Value):(Op.equal t (.iface ty v) .nilIface).run P W=.ok false W:=by
 unfold Op.equal Op.maxDepth Op.equalIn
 simp[run_underlying hu]
theorem jT {t:TypeId} {ms:Array (String × TypeId)} (hu:P.underlying t=some (.interface ms)) (ty:TypeId) (v:Value):(Op.equal t .nilIface (.iface ty v)).run P W=.ok false W:=by
 unfold Op.equal Op.maxDepth Op.equalIn
 simp[run_underlying hu]
theorem UO {t:TypeId} {A B:Value} {r:Bool} (hAB:(∃ ty v,A=.iface ty v∧B=.nilIface)∨(∃ ty v,B=.iface ty v∧A=.nilIface)) (hr:(Op.equal t A B).run P W=.ok r W) (x y:Operand) :
  (do eqGuard .eql t x y A B;binOp .eql t A B:Sem Value).run P W=.ok (.bool r) W∧(do eqGuard .neq t x y A B;binOp .neq t A B:Sem Value).run P W=.ok (.bool (!r)) W:=by
 have e1:∀ op,eqGuard op t x y A B=(pure ():Sem Unit):=by
  intro op
  rcases hAB with⟨_,_,rfl,rfl⟩ | ⟨_,_,rfl,rfl⟩ <;> cases op <;> rfl
 have e2:binOp .eql t A B=(do pure (.bool (← Op.equal t A B))):=by
  rcases hAB with⟨_,_,rfl,rfl⟩ | ⟨_,_,rfl,rfl⟩ <;> rfl
 have e3:binOp .neq t A B=(do pure (.bool (!(← Op.equal t A B)))):=by
  rcases hAB with⟨_,_,rfl,rfl⟩ | ⟨_,_,rfl,rfl⟩ <;> rfl
 rw[e1,e1,e2,e3]
 simp only[Sem.run_bind,Sem.run_pure,Result.andThen_ok,hr,and_self]
theorem uP {op:BinOp} {t:TypeId} {x y:Operand} {a b A B v:Value} (ha:AH ρ a A) (hb:AH ρ b B) (hs:B0 P op t x y a b=some v) :
  ∃ V,(do eqGuard op t x y A B;binOp op t A B:Sem Value).run P W=.ok V W∧AH ρ v V:=by
 unfold B0 at hs
 split at hs
 ·rename_i hf
  simp only[Bool.and_eq_true] at hf
  obtain rfl:=MD hf.1 ha
  obtain rfl:=MD hf.2 hb
  cases hp:BC P (do eqGuard op t x y A B;binOp op t A B) with
  | none=>rw[hp] at hs;cases hs
  | some u=>
   rw[hp] at hs
   simp only at hs
   split at hs
   ·cases hs
    exact⟨v,YB hp,IS ‹_›⟩
   ·cases hs
 ·split at hs
  ·cases hs
   have hu:=‹P.underlying t=some (.pointer _)›
   obtain⟨L,hL,_,rfl⟩:=O8 ha
   obtain rfl:B=.pointer none:=HL rfl hb
   exact⟨_,(QN (.inl ⟨_,rfl⟩) (.inl ⟨_,rfl⟩) (dR hu _) x y).1,.flat rfl⟩
  ·cases hs
   have hu:=‹P.underlying t=some (.pointer _)›
   obtain⟨L,hL,_,rfl⟩:=O8 hb
   obtain rfl:A=.pointer none:=HL rfl ha
   exact⟨_,(QN (.inl ⟨_,rfl⟩) (.inl ⟨_,rfl⟩) (lW hu _) x y).1,.flat rfl⟩
  ·cases hs
   have hu:=‹P.underlying t=some (.pointer _)›
   obtain⟨L,hL,_,rfl⟩:=O8 ha
   obtain rfl:B=.pointer none:=HL rfl hb
   exact⟨_,(QN (.inl ⟨_,rfl⟩) (.inl ⟨_,rfl⟩) (dR hu _) x y).2,.flat rfl⟩
  ·cases hs
   have hu:=‹P.underlying t=some (.pointer _)›
   obtain⟨L,hL,_,rfl⟩:=O8 hb
   obtain rfl:A=.pointer none:=HL rfl ha
   exact⟨_,(QN (.inl ⟨_,rfl⟩) (.inl ⟨_,rfl⟩) (lW hu _) x y).2,.flat rfl⟩
  ·cases hs
   have hu:=‹P.underlying t=some (.slice _)›
   obtain rfl:B=.slice none 0 0:=HL rfl hb
   have:∃ A' n C,A=.slice (some A') n C:=by
    rcases I4 ha with⟨h1,_⟩ | ⟨_,_,L,_,_,_,rfl⟩ | ⟨_,_,L,A,C,_,_,_,_,rfl,_⟩
    ·cases h1
    ·exact⟨_,_,_,rfl⟩
    ·exact⟨_,_,_,rfl⟩
   obtain⟨A',n,C,rfl⟩:=this
   exact⟨_,(QN (.inr ⟨_,_,_,rfl⟩) (.inr ⟨_,_,_,rfl⟩) (oK hu _ _ _) x y).1,.flat rfl⟩
  ·cases hs
   have hu:=‹P.underlying t=some (.slice _)›
   obtain rfl:B=.slice none 0 0:=HL rfl hb
   have:∃ A' n C,A=.slice (some A') n C:=by
    rcases I4 ha with⟨h1,_⟩ | ⟨_,_,L,_,_,_,rfl⟩ | ⟨_,_,L,A,C,_,_,_,_,rfl,_⟩
    ·cases h1
    ·exact⟨_,_,_,rfl⟩
    ·exact⟨_,_,_,rfl⟩
   obtain⟨A',n,C,rfl⟩:=this
   exact⟨_,(QN (.inr ⟨_,_,_,rfl⟩) (.inr ⟨_,_,_,rfl⟩) (oK hu _ _ _) x y).2,.flat rfl⟩
  ·cases hs
   have hu:=‹P.underlying t=some (.interface _)›
   obtain⟨A',rfl,_⟩:=RQ ha
   obtain rfl:B=.nilIface:=HL rfl hb
   exact⟨_,(UO (.inl ⟨_,_,rfl,rfl⟩) (nN hu _ _) x y).1,.flat rfl⟩
  ·cases hs
   have hu:=‹P.underlying t=some (.interface _)›
   obtain⟨B',rfl,_⟩:=RQ hb
   obtain rfl:A=.nilIface:=HL rfl ha
   exact⟨_,(UO (.inr ⟨_,_,rfl,rfl⟩) (jT hu _ _) x y).1,.flat rfl⟩
  ·cases hs
   have hu:=‹P.underlying t=some (.interface _)›
   obtain⟨A',rfl,_⟩:=RQ ha
   obtain rfl:B=.nilIface:=HL rfl hb
   exact⟨_,(UO (.inl ⟨_,_,rfl,rfl⟩) (nN hu _ _) x y).2,.flat rfl⟩
  ·cases hs
   have hu:=‹P.underlying t=some (.interface _)›
   obtain⟨B',rfl,_⟩:=RQ hb
   obtain rfl:A=.nilIface:=HL rfl ha
   exact⟨_,(UO (.inr ⟨_,_,rfl,rfl⟩) (jT hu _ _) x y).2,.flat rfl⟩
  ·cases hs
theorem UN {t:TypeId} {i:TypeInfo} (h:P.info? t=some i):(typeInfo t).run P W=.ok i W:=by
 simp[typeInfo,Sem.run_bind,h]
theorem Aa {d:TypeDesc} {x X:Value} {xt asserted:TypeId} {ok:Bool} {r:Option Value} (hu:P.underlying asserted=some d) (hx:AH ρ x X) (ha:L5 P d asserted x=some r) :
  (∀ u,r=some u→∃ U,AH ρ u U∧(Instr.typeAssert X xt asserted ok).run P W=.ok (if ok then .tuple #[U,.bool true] else U) W) ∧
  (r=none→∀ z,ok=true→DI P asserted=some z→(Instr.typeAssert X xt asserted ok).run P W=.ok (.tuple #[z,.bool false]) W):=by
 cases x with
 | nilIface=>
  obtain rfl:X=.nilIface:=HL rfl hx
  have:r=none:=by cases d <;> (simp[L5] at ha;exact ha.symm)
  subst this
  refine⟨fun u h=>(by cases h),fun _ z hok hz=>?_⟩
  subst hok
  cases d <;> simp[Instr.typeAssert,run_underlying hu,OF hz]
 | iface t v=>
  obtain⟨V,rfl,hv⟩:=RQ hx
  by_cases hd:∃ want,d=.interface want
  ·obtain⟨want,rfl⟩:=hd
   cases hi:P.info? t with
   | none=>simp[L5,hi] at ha
   | some i=>
    cases hm:Instr.missingMethod want i.methods with
    | none=>
     have:r=some (.iface t v):=by simp[L5,hi,hm] at ha;exact ha.symm
     subst this
     refine⟨fun u h=>?_,fun h=>(by cases h)⟩
     cases h
     exact⟨_,hx,by cases ok <;> simp[Instr.typeAssert,run_underlying hu,UN hi,hm]⟩
    | some m=>
     have:r=none:=by simp[L5,hi,hm] at ha;exact ha.symm
     subst this
     refine⟨fun u h=>(by cases h),fun _ z hok hz=>?_⟩
     subst hok
     simp[Instr.typeAssert,run_underlying hu,UN hi,hm,OF hz]
  ·by_cases ht:t=asserted
   ·subst ht
    have:r=some v:=by cases d <;> first | (exact absurd ⟨_,rfl⟩ hd) | (simp[L5] at ha;exact ha.symm)
    subst this
    refine⟨fun u h=>?_,fun h=>(by cases h)⟩
    cases h
    exact⟨_,hv,by cases d <;> first | (exact absurd ⟨_,rfl⟩ hd) | (cases ok <;> simp[Instr.typeAssert,run_underlying hu])⟩
   ·have:r=none:=by cases d <;> first | (exact absurd ⟨_,rfl⟩ hd) | (simp[L5,ht] at ha;exact ha.symm)
    subst this
    refine⟨fun u h=>(by cases h),fun _ z hok hz=>?_⟩
    subst hok
    cases d <;> first | (exact absurd ⟨_,rfl⟩ hd) | (simp[Instr.typeAssert,run_underlying hu,ht,OF hz])
 | _=>cases d <;> simp[L5] at ha
theorem pO {x X v:Value} {xt asserted:TypeId} {ok:Bool} (hx:AH ρ x X) (hs:YL P x asserted ok=some v) :
  ∃ V,(Instr.typeAssert X xt asserted ok).run P W=.ok V W∧AH ρ v V:=by
 unfold YL at hs
 cases hu:P.underlying asserted with
 | none=>rw[hu] at hs;cases hs
 | some d=>
  rw[hu] at hs
  simp only at hs
  cases ha:L5 P d asserted x with
  | none=>rw[ha] at hs;cases hs
  | some r=>
   have hh:=Aa (xt:=xt) (ok:=ok) (W:=W) hu hx ha
   rw[ha] at hs
   cases r with
   | some u=>
    simp only at hs
    cases hs
    obtain⟨U,hU,hr⟩:=hh.1 u rfl
    refine⟨_,hr,?_⟩
    cases ok
    ·exact hU
    ·exact .tuple (.cons hU (.cons (.flat rfl) .nil))
   | none=>
    simp only at hs
    split at hs
    ·rename_i hok
     cases hz:DI P asserted with
     | none=>rw[hz] at hs;cases hs
     | some z=>
      rw[hz] at hs
      simp only at hs
      split at hs
      ·rename_i hf
       cases hs
       exact⟨_,hh.2 rfl z hok hz,.tuple (.cons (IS hf) (.cons (.flat rfl) .nil))⟩
      ·cases hs
    ·cases hs
theorem Gg {t:TypeId} {v v' V:Value} {name:String} {k:FuncId} {n:Nat} (hv:AH ρ v V) (hs:aH P t v name=some (k,v')) :
  v'=v∧(method (n+1) t V name).run P W=.ok (k,V) W:=by
 unfold aH at hs
 cases hi:P.info? t with
 | none=>rw[hi] at hs;cases hs
 | some i=>
  rw[hi] at hs
  simp only at hs
  cases hm:i.methods.find? (·.name==name) with
  | none=>rw[hm] at hs;cases hs
  | some m=>
   rw[hm] at hs
   simp only at hs
   split at hs
   ·rename_i hp
    have hp':m.path=#[]:=by simpa [Array.isEmpty_iff] using hp
    cases hf:m.func with
    | none=>rw[hf] at hs;simp at hs
    | some fp=>
     obtain⟨f,pr⟩:=fp
     cases hu:P.underlying t with
     | none=>rw[hf,hu] at hs;cases pr <;> simp at hs
     | some d=>
      rw[hf,hu] at hs
      have key:(f,v)=(k,v')∧(pr=true→∃ e,d=.pointer e)∧(pr=false→∀ e,d≠.pointer e):=by
       cases pr <;> cases d <;> simp_all
      obtain⟨h1,h2,h3⟩:=key
      cases h1
      refine⟨rfl,?_⟩
      cases pr with
      | true=>
       obtain⟨e,rfl⟩:=h2 rfl
       simp[method,UN hi,hm,hp',hf,follow,receiverAt,run_underlying hu,Place.get]
      | false=>
       have h3:=h3 rfl
       cases d <;> first | (exact absurd rfl (h3 _)) | (simp[method,UN hi,hm,hp',hf,follow,receiverAt,run_underlying hu,Place.get])
   ·cases hs
theorem xO:∀ {cs:List Value} {l:List UInt8},P9 cs=some l→∃ ns:List Int,cs=ns.map (Value.int .u8)∧l=ns.map fun n=>UInt8.ofNat n.toNat:=by
 intro cs
 induction cs with
 | nil=>intro l h;simp[P9] at h;subst h;exact⟨[],rfl,rfl⟩
 | cons c cs ih=>
  intro l h
  unfold P9 at h
  split at h
  ·cases ‹_=[]›
  ·rename_i n r heq
   cases heq
   split at h
   ·rename_i l' hl
    cases h
    obtain⟨ns,rfl,rfl⟩:=ih hl
    exact⟨n :: ns,rfl,rfl⟩
   ·cases h
  ·cases h
theorem yR (hR:BK P ρ h W) {src dst:TypeId} {x X v:Value} (hx:AH ρ x X) (hs:MH P h src dst x=some v):∃ V,(convert src dst X).run P W=.ok V W∧AH ρ v V:=by
 unfold MH at hs
 split at hs
 ·rename_i d k k' n hd hk
  cases hs
  obtain rfl:=KC hx
  exact⟨_,by simp[convert,run_underlying hd,run_underlying hk,Conv.intToInt],.flat rfl⟩
 ·rename_i d s hd hk
  cases hs
  obtain rfl:=Q0 hx
  exact⟨_,by simp[convert,run_underlying hd,run_underlying hk],.flat rfl⟩
 ·rename_i e a n c hd hk
  split at hs
  ·rename_i he
   split at hs
   ·rename_i cs hcs
    split at hs
    ·rename_i l hl
     cases hs
     obtain⟨A,C,New,rfl,hN,hrn,hsrc⟩:=R1 hR hx (Nat.le_refl _) hcs
     obtain⟨ns,rfl,rfl⟩:=xO hl
     have hNe:New=ns.map (Value.int .u8):=fN hrn (by simp[BO])
     subst hNe
     refine⟨_,?_,.flat rfl⟩
     rw[run_convert_bytes_string W src dst e A n C hd he hk]
     simp only[Nat.mul_one] at hN
     cases A with
     | none=>
      rcases hsrc with rfl | ⟨B,h1,_⟩
      ·have:ns=[]:=by simpa using hN
       subst this
       simp[Conv.bytesToString]
       rfl
      ·cases h1
     | some B=>
      have hload:(loadCells B n).run P W=.ok (ns.map (Value.int .u8)).toArray W:=by
       rcases hsrc with rfl | ⟨B',h1,h2⟩
       ·have:ns=[]:=by simpa using hN
        subst this
        simp[loadCells,loadCellsFrom]
       ·cases h1
        have:=run_loadCells_list (P:=P) W B (ns.map (Value.int .u8)) h2
        rwa [hN] at this
      rw[run_bytesToString W B n C ns hload,foldl_push_bytes]
      simp[ByteArray.empty,ByteArray.emptyWithCapacity]
      rfl
    ·cases hs
   ·cases hs
  ·cases hs
 ·cases hs
end
def N5 (P:Program):Operand→Bool
 | .const v=>flat v
 | .global g=>decide (g<P.globals.size)
 | _=>true
def PH (n:Nat):Option Tmp→Bool
 | some d=>decide (d<n)
 | none=>true
def HF (P:Program) (n:Nat) (o:Oper):Bool:=o.op.operands.toList.all (N5 P)&&PH n o.dst
def EX (ρ:AX) (T:Tr) (A:Act):Prop:=∀ t,AH ρ (T.get t) (A.tmps.getD t undef)
def CR (P:Program) (call:AK):Prop:=∀ f args h v h',call f args h=some (v,h') →
 (∃ fn c, P.funcs[f]? = some fn ∧ fn.body = some c ∧ (fn.name == "runtime.NumGoroutine") = false) ∧
 ∀ ρ W (ARGS:Array Value),BK P ρ h W→AY (AH ρ) args ARGS.toList→Calls P f ARGS W (fun e W'=>∃ V ρ',e=.returned V∧Nx P ρ h W ρ' h' W'∧AH ρ' v V)
section
variable {P:Program} {ρ:AX} {h:AA} {W:World} {T:Tr} {A:Act}
theorem OV (hR:BK P ρ h W) (hT:EX ρ T A) {x:Operand} (hx:N5 P x=true):AH ρ (ev T x) (A.eval x):=by
 cases x with
 | tmp t=>exact hT t
 | const v=>exact IS hx
 | global g=>
  simp only[N5,decide_eq_true_eq] at hx
  obtain⟨L,hL,hb,hd⟩:=hR.glob g hx
  have:=AH.ptr (ρ:=ρ) (id:=g) (off:=0) hL
  simp only[hb,hd,Nat.zero_add] at this
  exact this
 | func f=>exact .func .nil .nil
theorem EX.mono {ρ':AX} (hT:EX ρ T A) (hx:∀ i L,ρ i=some L→ρ' i=some L):EX ρ' T A:=fun t=>(hT t).mono hx
theorem Tr.get_put (T:Tr) (dst:Option Tmp) (v:Value) (t:Nat):(T.put dst v).get t=if dst=some t then v else T.get t:=by
 cases dst with
 | none=>simp[Tr.put]
 | some d=>
  simp only[Tr.put,Tr.get_set]
  by_cases e:t=d
  ·simp[e]
  ·rw[if_neg e,if_neg (by simpa using Ne.symm e)]
theorem aJ (A:Act) (dst:Option Tmp) (V:Value) (n:Nat) (hn:A.tmps.size=n) (hd:PH n dst=true) (t:Nat):(A.put dst V).tmps.getD t undef=if dst=some t then V else A.tmps.getD t undef:=by
 cases dst with
 | none=>simp[Act.put]
 | some d=>
  simp only[PH,decide_eq_true_eq] at hd
  simp only[Act.put,Array.getD_eq_getD_getElem?,Array.getElem?_setIfInBounds]
  by_cases e:d=t
  ·subst e
   simp[hn,hd]
  ·rw[if_neg e,if_neg (by simpa using e)]
theorem KI (A:Act) (dst:Option Tmp) (V:Value):(A.put dst V).tmps.size=A.tmps.size:=by
 cases dst <;> simp[Act.put]
theorem JI (A:Act) (dst:Option Tmp) (V:Value):(A.put dst V).defers=A.defers:=by
 cases dst <;> rfl
theorem EX.put {n:Nat} (hT:EX ρ T A) (hn:A.tmps.size=n) {dst:Option Tmp} (hd:PH n dst=true) {v V:Value} (hv:AH ρ v V):EX ρ (T.put dst v) (A.put dst V):=by
 intro t
 rw[Tr.get_put,aJ A dst V n hn hd]
 split
 ·exact hv
 ·exact hT t
theorem EZ {o:Oper} {K:Act→World→Prop} {Q:Exit→Act→World→Prop} {V:Value} {W':World} (hr:(execOp A.eval o).run P W=.ok (.value V) W') (hk:K (A.put o.dst V) W'):o.wp P A W K Q:=by
 unfold Oper.wp;rw[hr];exact hk
theorem VY {o:Oper} {K:Act→World→Prop} {Q:Exit→Act→World→Prop} {W':World} (hr:(execOp A.eval o).run P W=.ok .skip W') (hk:K (A.put o.dst undef) W'):o.wp P A W K Q:=by
 unfold Oper.wp;rw[hr];exact hk
theorem YM {l:Array Operand} (hl:∀ x∈l,AH ρ (ev T x) (A.eval x)):AY (AH ρ) (HE T l) (l.map A.eval).toList:=by
 unfold HE
 rw[Array.toList_map]
 have hl':∀ x∈l.toList,AH ρ (ev T x) (A.eval x):=fun x hx=>hl x (by simpa using hx)
 generalize l.toList=l at hl'
 induction l with
 | nil=>exact .nil
 | cons x l ih=>exact .cons (hl' x (by simp)) (ih fun y hy=>hl' y (by simp[hy]))
theorem eD {l:Array (Nat × Operand)} (hl:∀ i x,(i,x)∈l→AH ρ (ev T x) (A.eval x)) :
  AY (fun a b=>a.1=b.1∧AH ρ a.2 b.2) (l.toList.map fun (i,x)=>(i,ev T x)) (l.map fun (i,x)=>(i,A.eval x)).toList:=by
 rw[Array.toList_map]
 have hl':∀ i x,(i,x)∈l.toList→AH ρ (ev T x) (A.eval x):=fun i x hx=>hl i x (by simpa using hx)
 generalize l.toList=l at hl'
 induction l with
 | nil=>exact .nil
 | cons x l ih=>
  obtain⟨i,x⟩:=x
  exact .cons ⟨rfl,hl' i x (by simp)⟩ (ih fun j y hy=>hl' j y (by simp[hy]))
theorem XU {x:Option Operand} (hx:∀ y,x=some y→AH ρ (ev T y) (A.eval y)):AY (AH ρ) (x.map (ev T)).toList (x.map A.eval).toList:=by
 cases x with
 | none=>exact .nil
 | some x=>exact .cons (hx x rfl) .nil
theorem PA {call:AK} (hcall:CR P call) (hR:BK P ρ h W) {o:Oper} (ho:∀ x∈o.op.operands,AH ρ (ev T x) (A.eval x)) {v:Value} {h':AA} (hs:AJ P call T h o.op=some (v,h'))
  {K:Act→World→Prop} {Q:Exit→Act→World→Prop} (hK:∀ V W' ρ',Nx P ρ h W ρ' h' W'→AH ρ' v V→K (A.put o.dst V) W'):o.wp P A W K Q:=by
 cases hop:o.op with
 | move x=>
  rw[hop] at hs ho
  simp[AJ] at hs
  obtain⟨rfl,rfl⟩:=hs
  simp[Op.operands] at ho
  exact EZ (by simp only[execOp,hop];rfl) (hK _ _ ρ (Nx.refl hR) ho)
 | assign x=>
  rw[hop] at hs ho
  simp[AJ] at hs
  obtain⟨rfl,rfl⟩:=hs
  simp[Op.operands] at ho
  exact EZ (by simp only[execOp,hop];rfl) (hK _ _ ρ (Nx.refl hR) ho)
 | pick c a b=>
  rw[hop] at hs ho
  simp[Op.operands] at ho
  simp only[AJ] at hs
  split at hs
  ·rename_i t hc
   simp at hs
   obtain⟨rfl,rfl⟩:=hs
   have h1:=ho.1
   rw[hc] at h1
   have h2:=O1 h1
   refine EZ (V:=if t then A.eval a else A.eval b) (by simp[execOp,hop,h2,asBool]) (hK _ _ ρ (Nx.refl hR) ?_)
   cases t
   ·exact ho.2.2
   ·exact ho.2.1
  ·cases hs
 | alloc e=>
  rw[hop] at hs ho
  simp only[AJ] at hs
  split at hs
  ·rename_i z hz
   split at hs
   ·rename_i hf
    simp at hs
    obtain⟨rfl,rfl⟩:=hs
    have hsz:∃ s,BP P e=some s:=by
     unfold DI at hz
     unfold BP
     cases hq:P.info? e with
     | none=>simp[hq] at hz
     | some i=>exact⟨_,rfl⟩
    obtain⟨s,hs⟩:=hsz
    refine EZ (V:=.pointer (some ⟨W.heap.size,0,none⟩)) (W':=W.alloc (.cells z.cells e)) (by simp[execOp,hop,Instr.alloc,OF hz,newVar,newRow]) (hK _ _ _ (R5 hR rfl rfl rfl rfl hs (UC (R7 hf))) ?_)
    have:=AH.ptr (ρ:=C9 ρ h.next ⟨W.heap.size,0,z.cells.size,s⟩) (id:=h.next) (off:=0) (GS _ _ _)
    simpa using this
   ·cases hs
  ·cases hs
 | box e x=>
  rw[hop] at hs ho
  simp[Op.operands] at ho
  simp only[AJ] at hs
  split at hs
  ·rename_i hone
   split at hs
   ·rename_i s hsz
    simp at hs
    obtain⟨rfl,rfl⟩:=hs
    have hx:=ho
    refine EZ (V:=.pointer (some ⟨W.heap.size,0,none⟩)) (W':=W.alloc (.cells (A.eval x).cells e)) (by simp[execOp,hop,Instr.box,newVar,newRow]) (hK _ _ _ (R5 hR rfl rfl rfl rfl hsz (UC (UW hx))) ?_)
    have:=AH.ptr (ρ:=C9 ρ h.next ⟨W.heap.size,0,(A.eval x).cells.size,s⟩) (id:=h.next) (off:=0) (GS _ _ _)
    simpa using this
   ·cases hs
  ·cases hs
 | build t parts=>
  rw[hop] at hs ho
  simp[Op.operands] at ho
  simp only[AJ,Option.map_eq_some_iff,Prod.mk.injEq] at hs
  obtain⟨u,hu,rfl,rfl⟩:=hs
  obtain⟨V,hV,hr⟩:=yN (W:=W) (eD (A:=A) fun i x h=>ho x i h) hu
  exact EZ (by simp[execOp,hop,hV]) (hK _ _ ρ (Nx.refl hR) hr)
 | buildSlice t len parts=>
  rw[hop] at hs ho
  simp[Op.operands] at ho
  simp only[AJ] at hs
  obtain⟨V,W',ρ',hV,hN,hr⟩:=yO hR (eD (A:=A) fun i x h=>ho x i h) hs
  exact EZ (by simp[execOp,hop,hV]) (hK _ _ ρ' hN hr)
 | load t a=>
  rw[hop] at hs ho
  simp[Op.operands] at ho
  simp only[AJ,Option.map_eq_some_iff,Prod.mk.injEq] at hs
  obtain⟨u,hu,rfl,rfl⟩:=hs
  obtain⟨V,hV,hr⟩:=iU hR ho hu
  exact EZ (by simp[execOp,hop,hV]) (hK _ _ ρ (Nx.refl hR) hr)
 | store t a x=>
  rw[hop] at hs ho
  simp[Op.operands] at ho
  simp only[AJ,Option.map_eq_some_iff,Prod.mk.injEq] at hs
  obtain⟨u,hu,rfl,rfl⟩:=hs
  obtain⟨W',hW,hN⟩:=sS hR ho.1 ho.2 hu
  exact VY (by simp[execOp,hop,hW]) (hK _ _ ρ hN MC)
 | nilCheck x=>
  rw[hop] at hs ho
  simp[Op.operands] at ho
  simp only[AJ] at hs
  have hx:=ho
  split at hs
  ·rename_i a ha
   simp at hs
   obtain⟨rfl,rfl⟩:=hs
   rw[ha] at hx
   obtain⟨L,hL,_,hV⟩:=O8 hx
   rw[hV] at hx
   exact EZ (by simp[execOp,hop,hV]) (hK _ _ ρ (Nx.refl hR) hx)
  ·rename_i k first captured ha
   simp at hs
   obtain⟨rfl,rfl⟩:=hs
   rw[ha] at hx
   obtain⟨f',c',hV,_,_⟩:=cL hx
   rw[hV] at hx
   exact EZ (by simp[execOp,hop,hV]) (hK _ _ ρ (Nx.refl hR) hx)
  ·cases hs
 | binOp op t x y yt=>
  rw[hop] at hs ho
  simp[Op.operands] at ho
  simp only[AJ,Option.map_eq_some_iff,Prod.mk.injEq] at hs
  obtain⟨u,hu,rfl,rfl⟩:=hs
  obtain⟨V,hV,hr⟩:=uP (W:=W) ho.1 ho.2 hu
  refine EZ (V:=V) (W':=W) ?_ (hK _ _ ρ (Nx.refl hR) hr)
  simp only[execOp,hop]
  rw[Sem.run_bind,hV]
  rfl
 | unOp op t x=>
  rw[hop] at hs ho
  simp[Op.operands] at ho
  simp only[AJ] at hs
  split at hs
  ·rename_i hf
   split at hs
   ·rename_i u hu
    split at hs
    ·rename_i hfu
     simp at hs
     obtain⟨rfl,rfl⟩:=hs
     have hx:=MD hf ho
     exact EZ (V:=u) (by simp[execOp,hop,hx,YB hu]) (hK _ _ ρ (Nx.refl hR) (IS hfu))
    ·cases hs
   ·cases hs
  ·cases hs
 | convert src dst x=>
  rw[hop] at hs ho
  simp[Op.operands] at ho
  simp only[AJ,Option.map_eq_some_iff,Prod.mk.injEq] at hs
  obtain⟨u,hu,rfl,rfl⟩:=hs
  obtain⟨V,hV,hr⟩:=yR hR ho hu
  exact EZ (by simp[execOp,hop,hV]) (hK _ _ ρ (Nx.refl hR) hr)
 | makeFunc fn first captured=>
  rw[hop] at hs ho
  simp only[Op.operands,Array.mem_append] at ho
  simp only[AJ,Option.some.injEq,Prod.mk.injEq] at hs
  obtain⟨rfl,rfl⟩:=hs
  refine EZ (V:=.func fn (first.map A.eval) (captured.map A.eval)) (by simp[execOp,hop,Instr.makeFunc]) (hK _ _ ρ (Nx.refl hR) (.func ?_ ?_))
  ·rw[Array.toList_map];exact YM fun x hx=>ho x (.inl hx)
  ·rw[Array.toList_map];exact YM fun x hx=>ho x (.inr hx)
 | makeMap t r=>
  rw[hop] at hs ho
  cases r with
  | some _=>simp[AJ] at hs
  | none=>
   simp only[AJ,Option.some.injEq,Prod.mk.injEq] at hs
   obtain⟨rfl,rfl⟩:=hs
   refine EZ (V:=.map (some W.heap.size)) (W':=W.alloc (.map #[] 0)) (by simp[execOp,hop,Instr.makeMap]) (hK _ _ (C9 ρ h.next ⟨W.heap.size,0,0,0⟩) (iX hR rfl rfl rfl rfl rfl ?_) ?_)
   ·exact⟨_,#[],0,GS _ _ _,heap_alloc_new W _,.nil⟩
   ·have:=AH.map (ρ:=C9 ρ h.next ⟨W.heap.size,0,0,0⟩) (id:=h.next) (GS _ _ _)
    exact this
 | makeSlice t l c=>
  rw[hop] at hs ho
  simp[Op.operands] at ho
  simp only[AJ] at hs
  obtain⟨V,W',ρ',hV,hN,hr⟩:=Ca hR ho.1 ho.2 hs
  exact EZ (by simp[execOp,hop,hV]) (hK _ _ ρ' hN hr)
 | slice t x lo hi mx=>
  rw[hop] at hs ho
  simp only[AJ,Option.map_eq_some_iff,Prod.mk.injEq] at hs
  obtain⟨u,hu,rfl,rfl⟩:=hs
  obtain⟨V,hV,hr⟩:=Eo hR (ho x (by simp[Op.operands])) (XU (A:=A) fun y hy=>ho y (by simp[Op.operands,hy])) (XU (A:=A) fun y hy=>ho y (by simp[Op.operands,hy])) (XU (A:=A) fun y hy=>ho y (by simp[Op.operands,hy])) hu
  exact EZ (by simp[execOp,hop,hV]) (hK _ _ ρ (Nx.refl hR) hr)
 | fieldAddr s x f=>
  rw[hop] at hs ho
  simp[Op.operands] at ho
  simp only[AJ,Option.map_eq_some_iff,Prod.mk.injEq] at hs
  obtain⟨u,hu,rfl,rfl⟩:=hs
  obtain⟨V,hV,hr⟩:=zS (W:=W) ho hu
  exact EZ (by simp[execOp,hop,hV]) (hK _ _ ρ (Nx.refl hR) hr)
 | field s x f=>
  rw[hop] at hs ho
  simp[Op.operands] at ho
  simp only[AJ,Option.map_eq_some_iff,Prod.mk.injEq] at hs
  obtain⟨u,hu,rfl,rfl⟩:=hs
  obtain⟨V,hV,hr⟩:=Gw (W:=W) ho hu
  exact EZ (by simp[execOp,hop,hV]) (hK _ _ ρ (Nx.refl hR) hr)
 | indexAddr t x i=>
  rw[hop] at hs ho
  simp[Op.operands] at ho
  simp only[AJ,Option.map_eq_some_iff,Prod.mk.injEq] at hs
  obtain⟨u,hu,rfl,rfl⟩:=hs
  obtain⟨V,hV,hr⟩:=sY (W:=W) ho.1 ho.2 hu
  exact EZ (by simp[execOp,hop,hV]) (hK _ _ ρ (Nx.refl hR) hr)
 | index t x i=>
  rw[hop] at hs ho
  simp[Op.operands] at ho
  simp only[AJ] at hs
  split at hs
  ·rename_i hf
   simp only[Bool.and_eq_true] at hf
   split at hs
   ·rename_i u hu
    split at hs
    ·rename_i hfu
     simp at hs
     obtain⟨rfl,rfl⟩:=hs
     have hx:=MD hf.1 ho.1
     have hi:=MD hf.2 ho.2
     exact EZ (V:=u) (by simp[execOp,hop,hx,hi,YB hu]) (hK _ _ ρ (Nx.refl hR) (IS hfu))
    ·cases hs
   ·cases hs
  ·cases hs
 | lookup t m k ok=>
  rw[hop] at hs ho
  simp[Op.operands] at ho
  simp only[AJ,Option.map_eq_some_iff,Prod.mk.injEq] at hs
  obtain⟨u,hu,rfl,rfl⟩:=hs
  obtain⟨V,hV,hr⟩:=vU hR ho.1 ho.2 hu
  exact EZ (by simp[execOp,hop,hV]) (hK _ _ ρ (Nx.refl hR) hr)
 | mapUpdate t m k x=>
  rw[hop] at hs ho
  simp[Op.operands] at ho
  simp only[AJ,Option.map_eq_some_iff,Prod.mk.injEq] at hs
  obtain⟨u,hu,rfl,rfl⟩:=hs
  obtain⟨W',hW,hN⟩:=mD hR ho.1 ho.2.1 ho.2.2 hu
  exact VY (by simp[execOp,hop,hW]) (hK _ _ ρ hN MC)
 | insert t m k x=>
  rw[hop] at hs ho
  simp[Op.operands] at ho
  simp only[AJ,Option.map_eq_some_iff,Prod.mk.injEq] at hs
  obtain⟨u,hu,rfl,rfl⟩:=hs
  obtain⟨W',hW,hN⟩:=mD hR ho.1 ho.2.1 ho.2.2 hu
  exact VY (by simp[execOp,hop,hW]) (hK _ _ ρ hN MC)
 | extract t i=>
  rw[hop] at hs ho
  simp[Op.operands] at ho
  simp only[AJ] at hs
  have hx:=ho
  split at hs
  ·rename_i vs hvs
   simp only[Option.map_eq_some_iff,Prod.mk.injEq] at hs
   obtain⟨u,hu,rfl,rfl⟩:=hs
   rw[hvs] at hx
   obtain⟨cs',hV,hall⟩:=Gn hx
   obtain⟨V,hV2,hr⟩:=hall.get (i:=i) (by simpa using hu)
   simp at hV2
   exact EZ (V:=V) (by simp[execOp,hop,hV,Instr.extract,hV2]) (hK _ _ ρ (Nx.refl hR) hr)
  ·cases hs
 | call c=>
  rw[hop] at hs ho
  simp only[AJ] at hs
  have hargs:=YM (ρ:=ρ) (T:=T) (A:=A) (l:=c.args) fun x hx=>ho x (by simp[Op.operands,Call.operands,hx])
  unfold M1 at hs
  split at hs
  ·rename_i hc
   split at hs
   ·rename_i t x ht hx
    simp only[Option.map_eq_some_iff,Prod.mk.injEq] at hs
    obtain⟨u,hu,rfl,rfl⟩:=hs
    rw[hx] at hargs
    cases hA:(c.args.map A.eval).toList with
    | nil=>rw[hA] at hargs;cases hargs
    | cons X L=>
     rw[hA] at hargs
     cases hargs with
     | cons hX hL=>
     cases hL
     have hA2:c.args.map A.eval=#[X]:=Array.toList_inj.1 hA
     have ht2:c.argTypes=#[t]:=Array.toList_inj.1 ht
     obtain⟨V,hV,hr⟩:=Bn (ty:=o.type) hR hX hu
     exact EZ (V:=V) (by simp[execOp,hop,resolve,hc,invoke,builtin,hA2,ht2,hV]) (hK _ _ ρ (Nx.refl hR) hr)
   ·cases hs
  ·rename_i hc
   split at hs
   ·rename_i t t' d s ht hx
    split at hs
    ·rename_i htt
     subst htt
     rw[hx] at hargs
     cases hA:(c.args.map A.eval).toList with
     | nil=>rw[hA] at hargs;cases hargs
     | cons X L=>
      rw[hA] at hargs
      cases hargs with
      | cons hX hL=>
      cases L with
      | nil=>cases hL
      | cons Y L=>
      cases hL with
      | cons hY hL=>
      cases hL
      have hA2:c.args.map A.eval=#[X,Y]:=Array.toList_inj.1 hA
      have ht2:c.argTypes=#[t,t]:=Array.toList_inj.1 ht
      obtain⟨V,W',ρ',hV,hN,hr⟩:=q_ (ty:=o.type) hR hX hY hs
      exact EZ (V:=V) (by simp[execOp,hop,resolve,hc,invoke,builtin,hA2,ht2,hV]) (hK _ _ ρ' hN hr)
    ·cases hs
   ·cases hs
  ·rename_i hc
   split at hs
   ·rename_i t t' d s ht hx
    split at hs
    ·rename_i htt
     subst htt
     rw[hx] at hargs
     cases hA:(c.args.map A.eval).toList with
     | nil=>rw[hA] at hargs;cases hargs
     | cons X L=>
      rw[hA] at hargs
      cases hargs with
      | cons hX hL=>
      cases L with
      | nil=>cases hL
      | cons Y L=>
      cases hL with
      | cons hY hL=>
      cases hL
      have hA2:c.args.map A.eval=#[X,Y]:=Array.toList_inj.1 hA
      have ht2:c.argTypes=#[t,t]:=Array.toList_inj.1 ht
      obtain⟨V,W',ρ',hV,hN,hr⟩:=Af (ty:=o.type) hR hX hY hs
      exact EZ (V:=V) (by simp[execOp,hop,resolve,hc,invoke,builtin,hA2,ht2,hV]) (hK _ _ ρ' hN hr)
    ·cases hs
   ·cases hs
  ·rename_i hc
   simp only[Option.map_eq_some_iff,Prod.mk.injEq] at hs
   obtain⟨u,hu,rfl,rfl⟩:=hs
   obtain⟨hV,hr⟩:=tO (P:=P) (W:=W) (ty:=o.type) (at_:=c.argTypes) hargs hu
   exact EZ (V:=u) (by simp[execOp,hop,resolve,hc,invoke,builtin,hV]) (hK _ _ ρ (Nx.refl hR) hr)
  ·rename_i hc
   simp only[Option.map_eq_some_iff,Prod.mk.injEq] at hs
   obtain⟨u,hu,rfl,rfl⟩:=hs
   obtain⟨hV,hr⟩:=Av (P:=P) (W:=W) (ty:=o.type) (at_:=c.argTypes) hargs hu
   exact EZ (V:=u) (by simp[execOp,hop,resolve,hc,invoke,builtin,hV]) (hK _ _ ρ (Nx.refl hR) hr)
  ·rename_i f hc
   split at hs
   ·rename_i k first captured hf
    have hfr:=ho f (by simp[Op.operands,Call.operands,hc])
    rw[hf] at hfr
    obtain⟨f',c',hV,h1,h2⟩:=cL hfr
    obtain⟨⟨fn,body,hfn,hbody,hname⟩,hc2⟩:=hcall _ _ _ _ _ hs
    have hall:AY (AH ρ) (first.toList++HE T c.args++captured.toList) (f'++c.args.map A.eval++c').toList:=by
     simp only[Array.toList_append]
     exact(h1.append hargs).append h2
    have hcalls:=hc2 ρ W _ hR hall
    have hrun:(execOp A.eval o).run P W=.ok (.enter k (f'++c.args.map A.eval++c')) W:=by
     have hname' : ¬ fn.name = "runtime.NumGoroutine" := beq_eq_false_iff_ne.1 hname
     simp[execOp,hop,resolve,hc,hV,Deferred.ofValue,invoke,callFunc,program,Sem.run,hfn,hname',hbody]
    unfold Oper.wp
    rw[hrun,Oper.upon_enter]
    refine hcalls.mono fun e W' ⟨V,ρ',he,hN,hr⟩=>?_
    subst he
    exact hK V W' ρ' hN hr
   ·cases hs
  ·rename_i r m hc
   split at hs
   ·rename_i t u hf
    have hfr:=ho r (by simp[Op.operands,Call.operands,hc])
    rw[hf] at hfr
    obtain⟨U,hV,hu⟩:=RQ hfr
    split at hs
    ·rename_i k u' hm
     obtain⟨rfl,hmr⟩:=Gg (W:=W) (n:=P.types.size+Made.depth-1) hu hm
     obtain⟨⟨fn,body,hfn,hbody,hname⟩,hc2⟩:=hcall _ _ _ _ _ hs
     have hall:AY (AH ρ) (u' :: HE T c.args) (#[U]++c.args.map A.eval).toList:=by
      simp only[Array.toList_append]
      exact .cons hu hargs
     have hcalls:=hc2 ρ W _ hR hall
     have hn:P.types.size+Made.depth-1+1=P.types.size+Made.depth:=Nat.sub_add_cancel (by unfold Made.depth;omega)
     rw[hn] at hmr
     have hrun:(execOp A.eval o).run P W=.ok (.enter k (#[U]++c.args.map A.eval)) W:=by
      have hname' : ¬ fn.name = "runtime.NumGoroutine" := beq_eq_false_iff_ne.1 hname
      have hget:(#[A.eval r]++c.args.map A.eval)[0]?=some (A.eval r):=by rw[Array.getElem?_append_left (by simp)];rfl
      have hext:(#[A.eval r]++c.args.map A.eval).extract 1 (#[A.eval r]++c.args.map A.eval).size=c.args.map A.eval:=by
       apply Array.toList_inj.1
       simp
       exact List.take_of_length_le (by simp)
      simp only[execOp,hop,resolve,hc,Sem.run_bind,Sem.run_pure,Result.andThen_ok,invoke,hget,hext]
      rw[hV]
      simp[callMethod,Sem.run_bind,hmr,callFunc,hfn,hname',hbody]
     unfold Oper.wp
     rw[hrun,Oper.upon_enter]
     refine hcalls.mono fun e W' ⟨V,ρ',he,hN,hr⟩=>?_
     subst he
     exact hK V W' ρ' hN hr
    ·cases hs
   ·cases hs
  ·cases hs
 | makeInterface t x=>
  rw[hop] at hs ho
  simp[Op.operands] at ho
  simp only[AJ] at hs
  split at hs
  ·cases hs
  ·rename_i d hne hu
   cases hs
   refine EZ (V:=.iface t (A.eval x)) (W':=W) ?_ (hK _ _ ρ (Nx.refl hR) (.iface ho))
   cases d <;> first | (exact(hne _ rfl).elim) | (simp[execOp,hop,Instr.makeInterface,run_underlying hu])
  ·cases hs
 | typeAssert x xt asserted ok=>
  rw[hop] at hs ho
  simp[Op.operands] at ho
  simp only[AJ,Option.map_eq_some_iff,Prod.mk.injEq] at hs
  obtain⟨u,hu,rfl,rfl⟩:=hs
  obtain⟨V,hV,hr⟩:=pO (W:=W) (xt:=xt) ho hu
  exact EZ (by simp[execOp,hop,hV]) (hK _ _ ρ (Nx.refl hR) hr)
 | _=>
  rw[hop] at hs
  simp[AJ] at hs
end
structure DG (h h':AA):Prop where
 nx:h.next≤h'.next
 floor:h'.floor=h.floor
 keep:∀ i,i<h.next→i<h.floor→h'.get i=h.get i
theorem DG.refl (h:AA):DG h h:=⟨Nat.le_refl _,rfl,fun _ _ _=>rfl⟩
theorem DG.trans {a b c:AA} (h:DG a b) (k:DG b c):DG a c:=
 ⟨Nat.le_trans h.nx k.nx,k.floor.trans h.floor,fun i hi hf=>(k.keep i (Nat.lt_of_lt_of_le hi h.nx) (by rw[h.floor];exact hf)).trans (h.keep i hi hf)⟩
theorem DG.push (h:AA) (o:BB):DG h (h.push o):=⟨by simp[AA.push],rfl,fun i hi _=>AM hi⟩
theorem DG.put {h:AA} {i:Nat} {o:BB} (hi:i<h.next) (hf:h.floor≤i):DG h (h.put i o):=⟨Nat.le_refl _,rfl,fun j _ hj=>AQ hi (by omega)⟩
theorem DG.unfl {h h':AA} {f:Nat} (hf:h.floor≤f) (hn:DG (h.fl f) h'):DG h (h'.fl h.floor):=
 ⟨hn.nx,rfl,fun i hi hl=>hn.keep i hi (Nat.lt_of_lt_of_le hl hf)⟩
section
variable {P:Program} {call:AK}
theorem YT {h h':AA} {id off:Nat} {new:List Value} (hs:GL h id off new=some h'):∃ o,h'=h.put id o∧id<h.next∧h.floor≤id∧wr (h.get id)∧∀ h2:AA,h2.get id=h.get id→h2.floor=h.floor→GL h2 id off new=some (h2.put id o):=by
 unfold GL at hs
 split at hs
 ·rename_i cs ty g hg
  split at hs
  ·rename_i hc
   simp only[Bool.and_eq_true,decide_eq_true_eq] at hc
   cases hs
   refine⟨_,rfl,Z8 (by rw[hg];simp),hc.1.1,by rw[hg];rfl,fun h2 he hf=>?_⟩
   unfold GL
   rw[he,hg]
   simp only[hf,hc.1.1,hc.1.2,hc.2,decide_true,Bool.and_self,if_true]
  ·cases hs
 ·cases hs
theorem rN {h h':AA} {t:TypeId} {a v:Value} (hs:BW P h t a v=some h'):∃ id o,C7 a=some id∧h'=h.put id o∧id<h.next∧h.floor≤id∧wr (h.get id)∧∀ h2:AA,h2.get id=h.get id→h2.floor=h.floor→BW P h2 t a v=some (h2.put id o):=by
 unfold BW at hs
 split at hs
 ·split at hs
  ·rename_i hsz
   obtain⟨o,h1,h2,h3,h4,h5⟩:=YT hs
   refine⟨_,o,rfl,h1,h2,h3,h4,fun h2 he hf=>?_⟩
   unfold BW
   simp only[hsz,if_true]
   exact h5 h2 he hf
  ·cases hs
 ·cases hs
theorem mM {h h':AA} {t:TypeId} {m k v:Value} (hs:KY P h t m k v=some h'):∃ id o,C7 m=some id∧h'=h.put id o∧id<h.next∧h.floor≤id∧wr (h.get id)∧∀ h2:AA,h2.get id=h.get id→h2.floor=h.floor→KY P h2 t m k v=some (h2.put id o):=by
 unfold KY at hs
 split at hs
 ·split at hs
  ·rename_i hc
   simp only[Bool.and_eq_true,decide_eq_true_eq] at hc
   split at hs
   ·rename_i es hg
    split at hs
    ·rename_i r hf2
     cases hs
     refine⟨_,_,rfl,rfl,Z8 (by rw[hg];simp),hc.2,by rw[hg];trivial,fun h2 he hf=>?_⟩
     have hu:=‹P.underlying t=some (.map _ _)›
     unfold KY
     rw[hu]
     simp only[hf,hc.1,hc.2,decide_true,Bool.and_self,if_true,he,hg,hf2]
    ·cases hs
   ·cases hs
  ·cases hs
 ·cases hs
theorem xN {h h':AA} {t:TypeId} {x y v:Value} (hs:C4 P h t x y=some (v,h')):DG h h':=by
 unfold C4 at hs
 split at hs
 ·split at hs
  ·split at hs
   ·split at hs
    ·split at hs
     ·split at hs
      ·split at hs
       ·split at hs
        ·rename_i hc1
         simp only[Bool.and_eq_true,decide_eq_true_eq] at hc1
         split at hs
         ·cases hs;exact .refl _
         ·split at hs
          ·rename_i hg
           split at hs
           ·split at hs
            ·split at hs
             ·cases hs
              exact(DG.put (Z8 (by rw[hg];simp)) hc1.2).trans (.push _ _)
             ·cases hs
            ·cases hs
           ·cases hs
          ·cases hs
        ·cases hs
       ·cases hs
      ·split at hs
       ·split at hs
        ·cases hs;exact .refl _
        ·split at hs
         ·split at hs
          ·rename_i hst
           cases hs
           obtain⟨o,rfl,h2,h3,_⟩:=YT hst
           exact .put h2 h3
          ·cases hs
         ·cases hs
       ·split at hs
        ·split at hs
         ·cases hs;exact .push _ _
         ·cases hs
        ·cases hs
     ·cases hs
    ·cases hs
   ·cases hs
  ·cases hs
 ·cases hs
theorem rS {h h':AA} {t:TypeId} {x y v:Value} (hs:NT P h t x y=some (v,h')):DG h h':=by
 unfold NT at hs
 split at hs
 ·split at hs
  ·simp only at hs
   split at hs
   ·split at hs
    ·split at hs
     ·cases hs;exact .refl _
     ·split at hs
      ·rename_i hst
       cases hs
       obtain⟨o,rfl,h2,h3,_⟩:=YT hst
       exact .put h2 h3
      ·cases hs
    ·cases hs;exact .refl _
    ·cases hs
   ·cases hs
  ·cases hs
 ·cases hs
theorem jN (hcall:∀ f args h v h',call f args h=some (v,h')→DG h h') {T:Tr} {h h':AA} {c:Call} {v:Value} (hs:M1 P call T h c=some (v,h')):DG h h':=by
 unfold M1 at hs
 split at hs
 ·split at hs
  ·simp only[Option.map_eq_some_iff,Prod.mk.injEq] at hs
   obtain⟨u,_,_,rfl⟩:=hs
   exact .refl _
  ·cases hs
 ·split at hs
  ·split at hs
   ·exact xN hs
   ·cases hs
  ·cases hs
 ·split at hs
  ·split at hs
   ·exact rS hs
   ·cases hs
  ·cases hs
 ·simp only[Option.map_eq_some_iff,Prod.mk.injEq] at hs
  obtain⟨u,_,_,rfl⟩:=hs
  exact .refl _
 ·simp only[Option.map_eq_some_iff,Prod.mk.injEq] at hs
  obtain⟨u,_,_,rfl⟩:=hs
  exact .refl _
 ·split at hs
  ·exact hcall _ _ _ _ _ hs
  ·cases hs
 ·split at hs
  ·split at hs
   ·exact hcall _ _ _ _ _ hs
   ·cases hs
  ·cases hs
 ·cases hs
theorem bT {T:Tr} {h h':AA} {op:Op} {v:Value} (hc:AC op=.pure) (hm:∀ c,op=.call c→∀ r,c.args.toList.map (ev T)≠[.map r]) (hs:AJ P call T h op=some (v,h')):h'=h∧∀ h2,AJ P call T h2 op=some (v,h2):=by
 cases op with
 | call c=>
  simp only[AC] at hc
  simp only[AJ] at hs ⊢
  unfold M1 at hs ⊢
  split at hc
  ·rename_i hcc
   simp only[hcc] at hs ⊢
   split at hs
   ·rename_i t x ht hx
    simp only[Option.map_eq_some_iff,Prod.mk.injEq] at hs
    obtain⟨u,hu,rfl,rfl⟩:=hs
    refine⟨rfl,fun h2=>?_⟩
    have hne:∀ r,x≠.map r:=fun r e=>hm c rfl r (by unfold HE at hx;rw[hx,e])
    have:B_ P h2 t x=some u:=by
     rw[← hu]
     unfold B_
     split <;> simp_all
    simp[this]
   ·cases hs
  ·rename_i hcc
   simp only[hcc] at hs ⊢
   simp only[Option.map_eq_some_iff,Prod.mk.injEq] at hs
   obtain⟨u,hu,rfl,rfl⟩:=hs
   exact⟨rfl,fun h2=>by simp[hu]⟩
  ·rename_i hcc
   simp only[hcc] at hs ⊢
   simp only[Option.map_eq_some_iff,Prod.mk.injEq] at hs
   obtain⟨u,hu,rfl,rfl⟩:=hs
   exact⟨rfl,fun h2=>by simp[hu]⟩
  ·cases hc
 | pick c a b=>
  simp only[AJ] at hs ⊢
  split at hs
  ·simp at hs;obtain⟨rfl,rfl⟩:=hs;exact⟨rfl,fun _=>rfl⟩
  ·cases hs
 | nilCheck x=>
  simp only[AJ] at hs ⊢
  split at hs
  ·simp at hs;obtain⟨rfl,rfl⟩:=hs;exact⟨rfl,fun _=>rfl⟩
  ·simp at hs;obtain⟨rfl,rfl⟩:=hs;exact⟨rfl,fun _=>rfl⟩
  ·cases hs
 | unOp a b x=>
  simp only[AJ] at hs ⊢
  split at hs
  ·rename_i h1
   split at hs
   ·rename_i u h2
    split at hs
    ·rename_i h3
     simp at hs;obtain⟨rfl,rfl⟩:=hs;exact⟨rfl,fun _=>by rw[if_pos h1,if_pos h3]⟩
    ·cases hs
   ·cases hs
  ·cases hs
 | index a b x=>
  simp only[AJ] at hs ⊢
  split at hs
  ·rename_i h1
   split at hs
   ·rename_i u h2
    split at hs
    ·rename_i h3
     simp at hs;obtain⟨rfl,rfl⟩:=hs;exact⟨rfl,fun _=>by rw[if_pos h1,if_pos h3]⟩
    ·cases hs
   ·cases hs
  ·cases hs
 | extract a b=>
  simp only[AJ] at hs ⊢
  split at hs
  ·simp only[Option.map_eq_some_iff,Prod.mk.injEq] at hs
   obtain⟨u,hu,rfl,rfl⟩:=hs
   exact⟨rfl,fun h2=>by simp[hu]⟩
  ·cases hs
 | move x=>simp[AJ] at hs ⊢;exact⟨hs.2.symm,fun _=>hs.1⟩
 | assign x=>simp[AJ] at hs ⊢;exact⟨hs.2.symm,fun _=>hs.1⟩
 | makeFunc fn a b=>simp[AJ] at hs ⊢;exact⟨hs.2.symm,fun _=>hs.1⟩
 | build t parts=>
  simp only[AJ,Option.map_eq_some_iff,Prod.mk.injEq] at hs ⊢
  obtain⟨u,hu,rfl,rfl⟩:=hs
  exact⟨rfl,fun h2=>⟨_,hu,rfl,trivial⟩⟩
 | binOp a b c d e=>
  simp only[AJ,Option.map_eq_some_iff,Prod.mk.injEq] at hs ⊢
  obtain⟨u,hu,rfl,rfl⟩:=hs
  exact⟨rfl,fun h2=>⟨_,hu,rfl,trivial⟩⟩
 | fieldAddr a b c=>
  simp only[AJ,Option.map_eq_some_iff,Prod.mk.injEq] at hs ⊢
  obtain⟨u,hu,rfl,rfl⟩:=hs
  exact⟨rfl,fun h2=>⟨_,hu,rfl,trivial⟩⟩
 | field a b c=>
  simp only[AJ,Option.map_eq_some_iff,Prod.mk.injEq] at hs ⊢
  obtain⟨u,hu,rfl,rfl⟩:=hs
  exact⟨rfl,fun h2=>⟨_,hu,rfl,trivial⟩⟩
 | indexAddr a b c=>
  simp only[AJ,Option.map_eq_some_iff,Prod.mk.injEq] at hs ⊢
  obtain⟨u,hu,rfl,rfl⟩:=hs
  exact⟨rfl,fun h2=>⟨_,hu,rfl,trivial⟩⟩
 | makeInterface t x=>
  simp only[AJ] at hs ⊢
  split at hs
  ·cases hs
  ·simp at hs;obtain⟨rfl,rfl⟩:=hs;exact⟨rfl,fun _=>rfl⟩
  ·cases hs
 | typeAssert a b c d=>
  simp only[AJ,Option.map_eq_some_iff,Prod.mk.injEq] at hs ⊢
  obtain⟨u,hu,rfl,rfl⟩:=hs
  exact⟨rfl,fun h2=>⟨_,hu,rfl,trivial⟩⟩
 | makeMap t r=>simp[AC] at hc
 | load t r=>simp[AC] at hc
 | _=>first | (simp[AC] at hc;done) | (simp[AJ] at hs;done)
theorem vP {h h':AA} {t:TypeId} {l c v:Value} (hs:MK P h t l c=some (v,h')):∃ o,wr o∧h'=h.push o∧∀ h2:AA,h2.next=h.next→MK P h2 t l c=some (v,h2.push o):=by
 unfold MK at hs ⊢
 split at hs
 ·split at hs
  ·split at hs
   ·rename_i hc
    cases hs
    exact⟨.row _ _ _ false,rfl,rfl,fun h2 hn=>by simp only[hc,if_true,hn]⟩
   ·cases hs
  ·cases hs
 ·cases hs
theorem Ay {h h':AA} {t:TypeId} {n:Nat} {l:List (Nat × Value)} {v:Value} (hs:EA P h t n l=some (v,h')):∃ o,wr o∧h'=h.push o∧∀ h2:AA,h2.next=h.next→EA P h2 t n l=some (v,h2.push o):=by
 unfold EA at hs ⊢
 split at hs
 ·split at hs
  ·split at hs
   ·rename_i hc
    split at hs
    ·rename_i cs hcs
     cases hs
     exact⟨.row _ _ _ false,rfl,rfl,fun h2 hn=>by simp only[hc,if_true,hcs,hn]⟩
    ·cases hs
   ·cases hs
  ·cases hs
 ·cases hs
theorem XT {T:Tr} {h h':AA} {op:Op} {v:Value} (hc:AC op=.new) (hs:AJ P call T h op=some (v,h')):∃ o,wr o∧h'=h.push o∧∀ h2:AA,h2.next=h.next→AJ P call T h2 op=some (v,h2.push o):=by
 cases op with
 | alloc e=>
  simp only[AJ] at hs ⊢
  split at hs
  ·split at hs
   ·rename_i hf
    simp at hs
    obtain⟨rfl,rfl⟩:=hs
    exact⟨.row _ _ _ false,rfl,rfl,fun h2 hn=>by simp[hn,hf]⟩
   ·cases hs
  ·cases hs
 | box e x=>
  simp only[AJ] at hs ⊢
  split at hs
  ·rename_i hone
   split at hs
   ·simp at hs
    obtain⟨rfl,rfl⟩:=hs
    exact⟨.row _ _ _ false,rfl,rfl,fun h2 hn=>by simp[hn,hone]⟩
   ·cases hs
  ·cases hs
 | makeMap t r=>
  cases r with
  | some r=>simp[AJ] at hs
  | none=>
   simp only[AJ,Option.some.injEq,Prod.mk.injEq] at hs ⊢
   obtain⟨rfl,rfl⟩:=hs
   exact⟨.map [],trivial,rfl,fun h2 hn=>by simp[hn]⟩
 | makeSlice t l c=>simp only[AJ] at hs ⊢;exact vP hs
 | buildSlice t n l=>simp only[AJ] at hs ⊢;exact Ay hs
 | call c=>
  simp only[AC] at hc
  split at hc <;> cases hc
 | _=>first | (simp[AC] at hc;done) | (simp[AJ] at hs;done)
theorem Ik {h h2:AA} {s n:Nat} {x:Value} (he:∀ id,C7 x=some id→h2.get id=h.get id):CL h2 s n x=CL h s n x:=by
 unfold CL
 split
 ·rfl
 ·rename_i id off _ _
  rw[he id rfl]
 ·rfl
theorem rT {h h2:AA} {t:TypeId} {x:Value} {lo hi mx:Option Value} (he:∀ id,C7 x=some id→h2.get id=h.get id):G7 P h2 t x lo hi mx=G7 P h t x lo hi mx:=by
 unfold G7
 cases x with
 | slice b n c=>
  cases P.underlying t with
  | none=>rfl
  | some d=>
   cases d with
   | slice e=>
    simp only
    cases BP P e with
    | none=>rfl
    | some s=>
     simp only
     by_cases hc:c=AG
     ·rw [if_pos hc,if_pos hc]
      cases mx with
      | some m=>rfl
      | none=>
       cases F3 hi n 0 n with
       | none=>rfl
       | some hh=>
        simp only
        cases F3 lo 0 0 hh with
        | none=>rfl
        | some l=>
         cases b with
         | none=>rfl
         | some b=>
          obtain⟨b,o,sp⟩:=b
          cases sp with
          | some sp=>rfl
          | none=>simp only[he b rfl]
     ·rw[if_neg hc,if_neg hc]
   | _=>rfl
 | pointer a=>cases P.underlying t with
  | none=>rfl
  | some d=>cases d <;> (first | rfl | (cases a <;> rfl))
 | _=>cases P.underlying t with
  | none=>rfl
  | some d=>cases d <;> rfl
theorem ZF {T:Tr} {h h':AA} {op:Op} {v:Value} {a:Operand} (hc:AC op=.read a) (hs:AJ P call T h op=some (v,h')) :
  h'=h∧∀ h2:AA,(∀ id,C7 (ev T a)=some id→h2.get id=h.get id)→AJ P call T h2 op=some (v,h2):=by
 cases op with
 | load t x=>
  simp only[AC,PR.read.injEq] at hc
  subst hc
  simp only[AJ,Option.map_eq_some_iff,Prod.mk.injEq] at hs ⊢
  obtain⟨u,hu,rfl,rfl⟩:=hs
  refine⟨rfl,fun h2 he=>⟨_,?_,rfl,trivial⟩⟩
  rw[← hu]
  unfold EO
  split
  ·rename_i id off hid
   rw[he id (by rw[hid];rfl)]
  ·rfl
 | lookup t m k ok=>
  simp only[AC,PR.read.injEq] at hc
  subst hc
  simp only[AJ,Option.map_eq_some_iff,Prod.mk.injEq] at hs ⊢
  obtain⟨u,hu,rfl,rfl⟩:=hs
  refine⟨rfl,fun h2 he=>⟨_,?_,rfl,trivial⟩⟩
  rw[← hu]
  unfold NV
  cases hm:ev T m with
  | map r=>
   cases r with
   | none=>rfl
   | some id=>simp only[he id (by rw[hm];rfl)]
  | _=>rfl
 | convert s d x=>
  simp only[AC,PR.read.injEq] at hc
  subst hc
  simp only[AJ,Option.map_eq_some_iff,Prod.mk.injEq] at hs ⊢
  obtain⟨u,hu,rfl,rfl⟩:=hs
  refine⟨rfl,fun h2 he=>⟨_,?_,rfl,trivial⟩⟩
  rw[← hu]
  unfold MH
  split
  ·rfl
  ·rfl
  ·rename_i e b n c _ _ hx
   rw[hx] at he
   rw[Ik he]
  ·rfl
 | slice t x lo hi mx=>
  simp only[AC,PR.read.injEq] at hc
  subst hc
  simp only[AJ,Option.map_eq_some_iff,Prod.mk.injEq] at hs ⊢
  obtain⟨u,hu,rfl,rfl⟩:=hs
  refine⟨rfl,fun h2 he=>⟨_,?_,rfl,trivial⟩⟩
  rw[← hu]
  exact rT he
 | call c=>
  simp only[AC] at hc
  split at hc <;> cases hc
 | _=>first | (simp[AC] at hc;done) | (simp[AJ] at hs;done)
theorem SS {T:Tr} {h h':AA} {op:Op} {v:Value} (hc:AC op=.store) (hs:AJ P call T h op=some (v,h')) :
  ∃ a id o,((∃ t x,op=.store t a x)∨(∃ t k x,op=.mapUpdate t a k x∨op=.insert t a k x))∧C7 (ev T a)=some id∧h'=h.put id o∧id<h.next∧h.floor≤id∧wr (h.get id) ∧
   ∀ h2:AA,h2.get id=h.get id→h2.floor=h.floor→AJ P call T h2 op=some (v,h2.put id o):=by
 cases op with
 | store t a x=>
  simp only[AJ,Option.map_eq_some_iff,Prod.mk.injEq] at hs
  obtain⟨u,hu,rfl,rfl⟩:=hs
  obtain⟨id,o,h1,h2,h3,h4,h5,h6⟩:=rN hu
  exact⟨a,id,o,.inl ⟨_,_,rfl⟩,h1,h2,h3,h4,h5,fun h2 he hf=>by simp only[AJ,h6 h2 he hf,Option.map_some]⟩
 | mapUpdate t m k x=>
  simp only[AJ,Option.map_eq_some_iff,Prod.mk.injEq] at hs
  obtain⟨u,hu,rfl,rfl⟩:=hs
  obtain⟨id,o,h1,h2,h3,h4,h5,h6⟩:=mM hu
  exact⟨m,id,o,.inr ⟨_,_,_,.inl rfl⟩,h1,h2,h3,h4,h5,fun h2 he hf=>by simp only[AJ,h6 h2 he hf,Option.map_some]⟩
 | insert t m k x=>
  simp only[AJ,Option.map_eq_some_iff,Prod.mk.injEq] at hs
  obtain⟨u,hu,rfl,rfl⟩:=hs
  obtain⟨id,o,h1,h2,h3,h4,h5,h6⟩:=mM hu
  exact⟨m,id,o,.inr ⟨_,_,_,.inr rfl⟩,h1,h2,h3,h4,h5,fun h2 he hf=>by simp only[AJ,h6 h2 he hf,Option.map_some]⟩
 | call c=>
  simp only[AC] at hc
  split at hc <;> cases hc
 | _=>first | (simp[AC] at hc;done) | (simp[AJ] at hs;done)
theorem RV {T:Tr} {h h':AA} {op:Op} {v:Value} (hcall:∀ f args h v h',call f args h=some (v,h')→DG h h') (hc:AC op=.act) (hs:AJ P call T h op=some (v,h')):DG h h':=by
 cases op with
 | call c=>simp only[AJ] at hs;exact jN hcall hs
 | _=>first | (simp[AC] at hc;done) | (simp[AJ] at hs;done)
theorem ZZ {T:Tr} {h h':AA} {op:Op} {v:Value} (hcall:∀ f args h v h',call f args h=some (v,h')→DG h h') (hs:AJ P call T h op=some (v,h')):DG h h':=by
 cases hc:AC op with
 | pure=>
  cases op with
  | call c=>simp only[AJ] at hs;exact jN hcall hs
  | _=>
   first
   | (obtain⟨rfl,_⟩:=bT hc (by intro c hcc;cases hcc) hs;exact .refl _)
 | read a=>obtain⟨rfl,_⟩:=ZF hc hs;exact .refl _
 | new=>obtain⟨o,_,rfl,_⟩:=XT hc hs;exact .push _ _
 | act=>exact RV hcall hc hs
 | store=>
  obtain⟨a,id,o,_,_,rfl,h1,h2,_⟩:=SS hc hs
  exact .put h1 h2
end
def OZ (acc:Array Nat) (o:Oper):Nat:=o.after.foldl (fun s e=>if Region.binds .any e then s ||| 2 ^ e.on ||| acc.getD e.on 0 else s) 0
theorem Bo (l:List Oper):∀ acc:Array Nat,let r:=l.foldl (fun acc o=>acc.push (OZ acc o)) acc
  r.size=acc.size+l.length∧(∀ k,k<acc.size→r.getD k 0=acc.getD k 0) ∧
  ∀ m o,l[m]?=some o→∃ acc':Array Nat,acc'.size=acc.size+m∧(∀ k,k<acc'.size→acc'.getD k 0=r.getD k 0)∧r.getD (acc.size+m) 0=OZ acc' o:=by
 induction l with
 | nil=>intro acc;simp
 | cons o l ih=>
  intro acc
  obtain⟨h1,h2,h3⟩:=ih (acc.push (OZ acc o))
  simp only[List.foldl_cons]
  simp only[Array.size_push] at h1 h2 h3
  refine⟨by rw[h1];simp;omega,fun k hk=>?_,fun m o' hm=>?_⟩
  ·rw[h2 k (by omega)]
   simp[Array.getD_eq_getD_getElem?,Array.getElem?_push,Nat.ne_of_lt hk]
  ·cases m with
   | zero=>
    simp at hm
    subst hm
    refine⟨acc,rfl,fun k hk=>?_,?_⟩
    ·rw[h2 k (by omega)]
     simp[Array.getD_eq_getD_getElem?,Array.getElem?_push,Nat.ne_of_lt hk]
    ·rw[Nat.add_zero,h2 _ (by omega)]
     simp
   | succ m=>
    obtain⟨acc',ha,hb,hc⟩:=h3 m o' (by simpa using hm)
    exact⟨acc',by omega,hb,by rw[← hc];congr 1;omega⟩
theorem uX {acc:Array Nat} {o:Oper} {i:Nat} (h:(OZ acc o).testBit i=true):∃ e∈o.after,Region.binds .any e=true∧(e.on=i∨(acc.getD e.on 0).testBit i=true):=by
 unfold OZ at h
 rw[← Array.foldl_toList] at h
 have key:∀ (l:List Edge) (s:Nat),(l.foldl (fun s e=>if Region.binds .any e then s ||| 2 ^ e.on ||| acc.getD e.on 0 else s) s).testBit i=true→s.testBit i=true∨∃ e∈l,Region.binds .any e=true∧(e.on=i∨(acc.getD e.on 0).testBit i=true):=by
  intro l
  induction l with
  | nil=>intro s h;exact .inl h
  | cons e l ih=>
   intro s h
   rw[List.foldl_cons] at h
   rcases ih _ h with h1 | ⟨e',he',h2⟩
   ·split at h1
    ·rename_i hb
     simp only[Nat.testBit_or,Bool.or_eq_true] at h1
     rcases h1 with(h1 | h1) | h1
     ·exact .inl h1
     ·rw[Nat.testBit_two_pow] at h1
      exact .inr ⟨e,by simp,hb,.inl (by simpa using h1)⟩
     ·exact .inr ⟨e,by simp,hb,.inr h1⟩
    ·exact .inl h1
   ·exact .inr ⟨e',by simp[he'],h2⟩
 rcases key _ 0 h with h1 | ⟨e,he,h2⟩
 ·simp at h1
 ·exact⟨e,by simpa using he,h2⟩
theorem cB {ops:Array Oper} {j i:Nat} (h:((Region.before ops).getD j 0).testBit i=true) :
  ∃ o,ops[j]?=some o∧∃ e∈o.after,Region.binds .any e=true∧(e.on=i∨(e.on<j∧((Region.before ops).getD e.on 0).testBit i=true)):=by
 have hb:Region.before ops=ops.toList.foldl (fun acc o=>acc.push (OZ acc o)) #[]:=by
  unfold Region.before
  rw[← Array.foldl_toList]
  rfl
 obtain⟨h1,_,h3⟩:=Bo ops.toList #[]
 simp only[← hb] at h1 h3
 simp only[List.size_toArray,List.length_nil,Nat.zero_add] at h1 h3
 cases ho:ops[j]? with
 | none=>
  have hge:ops.size≤j:=by simpa using ho
  have:(Region.before ops).getD j 0=0:=by
   rw[Array.getD_eq_getD_getElem?,Array.getElem?_eq_none (by rw[h1];simpa using hge)]
   rfl
  rw[this] at h
  simp at h
 | some o=>
  obtain⟨acc',ha,hbb,hc⟩:=h3 j o (by simpa using ho)
  rw[hc] at h
  obtain⟨e,he,hbd,hor⟩:=uX h
  refine⟨o,rfl,e,he,hbd,hor.imp id fun hbit=>?_⟩
  have hlt:e.on<acc'.size:=by
   rcases Nat.lt_or_ge e.on acc'.size with hl | hl
   ·exact hl
   ·rw[Array.getD_eq_getD_getElem?,Array.getElem?_eq_none hl] at hbit
    simp at hbit
  exact⟨by omega,by rw[← hbb _ hlt];exact hbit⟩
def UY (ops:Array Oper):Bool:=
 let b:=Region.before ops
 (List.range ops.size).all fun j=>match ops[j]? with
  | none=>false
  | some oj=>
   oj.after.toList.all (fun e=>!Region.binds .any e||decide (e.on<j)) &&
   (List.range ops.size).all fun i=>match ops[i]? with
    | none=>false
    | some oi=>
     (!((EK oj||EB oj)&&(EK oi||EB oi||IR oi)&&decide (i<j))||(b.getD j 0).testBit i) &&
     (!(EB oj&&O3 oi&&decide (j<i))||(b.getD i 0).testBit j) &&
     (!(i != j&&(match oi.dst with | some d=>(oj.looksAt ops).contains d||oj.dst==some d | none=>false))||((b.getD j 0).testBit i||(b.getD i 0).testBit j)) &&
     (!(EB oj&&decide (i<j))||(match AC oi.op with
      | .read a=>!(H7 b i j)||(List.range ops.size).all (fun k=>!(decide (i≤k)&&decide (k<j))||(match ops[k]? with | some ok=>(match ok.dst,a with | some d,.tmp t=>d != t | _,_=>true) | none=>true))
      | _=>true))
structure VR (ops:Array Oper):Prop where
 edge:∀ j oj,ops[j]?=some oj→∀ e∈oj.after,Region.binds .any e=true→e.on<j
 s2:∀ j i oj oi,ops[j]?=some oj→ops[i]?=some oi→(EK oj=true∨EB oj=true)→(EK oi=true∨EB oi=true∨IR oi=true)→i<j→((Region.before ops).getD j 0).testBit i=true
 s4:∀ j i oj oi,ops[j]?=some oj→ops[i]?=some oi→EB oj=true→O3 oi=true→j<i→((Region.before ops).getD i 0).testBit j=true
 s6:∀ j i oj oi d,ops[j]?=some oj→ops[i]?=some oi→i≠j→oi.dst=some d→(d∈oj.looksAt ops∨oj.dst=some d)→((Region.before ops).getD j 0).testBit i=true∨((Region.before ops).getD i 0).testBit j=true
 s5:∀ j i k oj oi ok t,ops[j]?=some oj→ops[i]?=some oi→ops[k]?=some ok→EB oj=true→i<j→AC oi.op=.read (.tmp t)→H7 (Region.before ops) i j=true→i≤k→k<j→ok.dst≠some t
theorem xF {ops:Array Oper} (h:UY ops=true):VR ops:=by
 unfold UY at h
 simp only[List.all_eq_true,List.mem_range] at h
 have get:∀ j oj,ops[j]?=some oj→j<ops.size:=fun j oj hj=>(Array.getElem?_eq_some_iff.1 hj).1
 have key:∀ j oj,ops[j]?=some oj→(oj.after.toList.all (fun e=>!Region.binds .any e||decide (e.on<j))=true)∧∀ i oi,ops[i]?=some oi →
   (!((EK oj||EB oj)&&(EK oi||EB oi||IR oi)&&decide (i<j))||((Region.before ops).getD j 0).testBit i)=true ∧
   (!(EB oj&&O3 oi&&decide (j<i))||((Region.before ops).getD i 0).testBit j)=true ∧
   (!(i != j&&(match oi.dst with | some d=>(oj.looksAt ops).contains d||oj.dst==some d | none=>false))||(((Region.before ops).getD j 0).testBit i||((Region.before ops).getD i 0).testBit j))=true ∧
   (!(EB oj&&decide (i<j))||(match AC oi.op with
      | .read a=>!(H7 (Region.before ops) i j)||(List.range ops.size).all (fun k=>!(decide (i≤k)&&decide (k<j))||(match ops[k]? with | some ok=>(match ok.dst,a with | some d,.tmp t=>d != t | _,_=>true) | none=>true))
      | _=>true))=true:=by
  intro j oj hj
  have:=h j (get j oj hj)
  rw[hj] at this
  simp only[Bool.and_eq_true] at this
  refine⟨this.1,fun i oi hi=>?_⟩
  have h2:=List.all_eq_true.1 this.2 i (List.mem_range.2 (get i oi hi))
  rw[hi] at h2
  simp only[Bool.and_eq_true] at h2
  exact⟨h2.1.1.1,h2.1.1.2,h2.1.2,h2.2⟩
 refine⟨?_,?_,?_,?_,?_⟩
 ·intro j oj hj e he hb
  have:=List.all_eq_true.1 (key j oj hj).1 e (by simpa using he)
  simpa [hb] using this
 ·intro j i oj oi hj hi h1 h2 hlt
  have:=((key j oj hj).2 i oi hi).1
  have e1:(EK oj||EB oj)=true:=by simpa using h1
  have e2:(EK oi||EB oi||IR oi)=true:=by simpa [or_assoc] using h2
  simpa [e1,e2,hlt] using this
 ·intro j i oj oi hj hi h1 h2 hlt
  have:=((key j oj hj).2 i oi hi).2.1
  simpa [h1,h2,hlt] using this
 ·intro j i oj oi d hj hi hne hd hn
  have:=((key j oj hj).2 i oi hi).2.2.1
  rw[hd] at this
  have e1:((oj.looksAt ops).contains d||oj.dst==some d)=true:=by simpa using hn
  simp only[e1,Bool.and_true] at this
  simpa [hne] using this
 ·intro j i k oj oi ok t hj hi hk h1 hlt hc hu hik hkj
  have:=((key j oj hj).2 i oi hi).2.2.2
  rw[hc] at this
  simp only[h1,hlt,decide_true,Bool.and_self,Bool.not_true,Bool.false_or,hu] at this
  have h2:=List.all_eq_true.1 this k (List.mem_range.2 (get k ok hk))
  simp only[hik,hkj,decide_true,Bool.and_self,Bool.not_true,Bool.false_or,hk] at h2
  intro hd
  rw[hd] at h2
  simp at h2
theorem SB {ops:Array Oper} (hD:VR ops):∀ (j i:Nat),((Region.before ops).getD j 0).testBit i=true→i<j:=by
 intro j
 induction j using Nat.strongRecOn with
 | _ j ih=>
  intro i h
  obtain⟨o,ho,e,he,hb,hor⟩:=cB h
  have hlt:=hD.edge j o ho e he hb
  rcases hor with rfl | ⟨h1,h2⟩
  ·exact hlt
  ·exact Nat.lt_trans (ih e.on h1 i h2) h1
def PB (ops:Array Oper) (listed:Array Bool):Prop:=∀ j o,listed.getD j false=true→ops[j]?=some o→∀ e∈o.after,Region.binds .any e=true→listed.getD e.on false=true
theorem PB.bit {ops:Array Oper} {listed:Array Bool} (hC:PB ops listed):∀ (j i:Nat),listed.getD j false=true→((Region.before ops).getD j 0).testBit i=true→listed.getD i false=true:=by
 intro j
 induction j using Nat.strongRecOn with
 | _ j ih=>
  intro i hl h
  obtain⟨o,ho,e,he,hb,hor⟩:=cB h
  have h1:=hC j o hl ho e he hb
  rcases hor with rfl | ⟨h2,h3⟩
  ·exact h1
  ·exact ih e.on h2 i h1 h3
theorem OK {ops:Array Oper} {listed:Array Bool} (hC:PB ops listed) {j i:Nat} (hj:j∈Region.ready .any ops listed) (h:((Region.before ops).getD j 0).testBit i=true):listed.getD i false=true:=by
 obtain⟨o,ho,e,he,hb,hor⟩:=cB h
 obtain⟨_,o',ho',hall⟩:=mem_ready.1 hj
 rw[ho] at ho'
 cases ho'
 have h1:=hall e he hb
 rcases hor with rfl | ⟨h2,h3⟩
 ·exact h1
 ·exact hC.bit _ _ h1 h3
theorem PB.set {ops:Array Oper} {listed:Array Bool} (hC:PB ops listed) {j:Nat} (hj:j∈Region.ready .any ops listed):PB ops (listed.setIfInBounds j true):=by
 intro k o hk ho e he hb
 by_cases e1:j=k
 ·subst e1
  obtain⟨_,o',ho',hall⟩:=mem_ready.1 hj
  rw[ho] at ho'
  cases ho'
  exact getD_set_true (hall e he hb)
 ·rw[getD_set_ne false e1] at hk
  exact getD_set_true (hC k o hk ho e he hb)
theorem w_ {P:Program} {call:AK} {ops:Array Oper} {start:Nat}:∀ (l:List Oper) (i:Nat) (s s':St),JZ P call ops start i l s=some s' →
  ∃ S:Nat→St,S i=s∧S (i+l.length)=s'∧∀ k o,l[k]?=some o→MP P call ops start (i+k) o (S (i+k))=some (S (i+k+1)):=by
 intro l
 induction l with
 | nil=>intro i s s' h;simp[JZ] at h;subst h;exact⟨fun _=>s,rfl,rfl,by simp⟩
 | cons o l ih=>
  intro i s s' h
  simp only[JZ] at h
  split at h
  ·rename_i s1 h1
   obtain⟨S,hS1,hS2,hS3⟩:=ih (i+1) s1 s' h
   refine⟨fun k=>if k≤i then s else S k,by simp,?_,?_⟩
   ·dsimp only
    rw[if_neg (by simp),← hS2]
    congr 1
    simp
    omega
   ·intro k o' hk
    cases k with
    | zero=>
     simp at hk
     subst hk
     simp only[Nat.add_zero,Nat.le_refl,if_true]
     rw[if_neg (by omega),hS1]
     exact h1
    | succ k=>
     dsimp only
     rw[if_neg (by omega),if_neg (by omega)]
     have:=hS3 k o' (by simpa using hk)
     rwa [show i+1+k=i+(k+1) by omega] at this
  ·cases h
inductive NI (P:Program) (call:AK) (ops:Array Oper) (start k:Nat) (o:Oper) (s s':St):Prop
 | off:DD ops s.T o=false→s'=⟨s.T.put o.dst undef,s.h⟩→NI P call ops start k o s s'
 | pure (v):DD ops s.T o=true→AC o.op=.pure→(∀ c,o.op=.call c→∀ r,c.args.toList.map (ev s.T)≠[.map r])→AJ P call s.T s.h o.op=some (v,s.h)→s'=⟨s.T.put o.dst v,s.h⟩→NI P call ops start k o s s'
 | read (v a):DD ops s.T o=true→AC o.op=.read a→(LK ops k=true→∀ id,C7 (ev s.T a)=some id→id<start)→AJ P call s.T s.h o.op=some (v,s.h)→s'=⟨s.T.put o.dst v,s.h⟩→NI P call ops start k o s s'
 | new (v ob):DD ops s.T o=true→AC o.op=.new→wr ob→AJ P call s.T s.h o.op=some (v,s.h.push ob)→s'=⟨s.T.put o.dst v,s.h.push ob⟩→NI P call ops start k o s s'
 | act (v h1 f):DD ops s.T o=true→AC o.op=.act→s.h.floor≤f→(LU ops k=true→start≤f)→AJ P call s.T (s.h.fl f) o.op=some (v,h1)→s'=⟨s.T.put o.dst v,h1.fl s.h.floor⟩→NI P call ops start k o s s'
 | store (v a id ob):DD ops s.T o=true→AC o.op=.store→C7 (ev s.T a)=some id→(∀ x∈JX ops k,C7 (ev s.T x)≠some id)→id<s.h.next→s.h.floor≤id →
   ((∃ t x,o.op=.store t a x)∨(∃ t k x,o.op=.mapUpdate t a k x∨o.op=.insert t a k x))→AJ P call s.T s.h o.op=some (v,s.h.put id ob)→s'=⟨s.T.put o.dst v,s.h.put id ob⟩→NI P call ops start k o s s'
theorem LC {P:Program} {call:AK} {ops:Array Oper} {o:Oper} {s s':St} (hw:DD ops s.T o=true) (h:E3 P call ops o s=some s'):∃ v h',AJ P call s.T s.h o.op=some (v,h')∧s'=⟨s.T.put o.dst v,h'⟩:=by
 unfold E3 at h
 rw[if_pos hw] at h
 split at h
 ·rename_i v h' hs
  cases h
  exact⟨v,h',hs,rfl⟩
 ·cases h
theorem jG {P:Program} {call:AK} (hcall:∀ f args h v h',call f args h=some (v,h')→DG h h') {ops:Array Oper} {start k:Nat} {o:Oper} {s s':St} (h:MP P call ops start k o s=some s'):NI P call ops start k o s s':=by
 unfold MP at h
 split at h
 ·rename_i hw
  cases hc:AC o.op with
  | pure=>
   simp only[hc] at h
   have key:∀ (hm:∀ c,o.op=.call c→∀ r,c.args.toList.map (ev s.T)≠[.map r]),E3 P call ops o s=some s'→NI P call ops start k o s s':=by
    intro hm h
    obtain⟨v,h',hs,rfl⟩:=LC hw h
    obtain⟨rfl,_⟩:=bT hc hm hs
    exact .pure v hw hc hm hs rfl
   split at h
   ·rename_i c hop
    split at h
    ·cases h
    ·rename_i hne
     refine key (fun c' hc' r hr=>?_) h
     rw[hop] at hc'
     cases hc'
     exact hne r hr
   ·rename_i hop
    exact key (fun c' hc'=>absurd hc' (hop c')) h
  | read a=>
   simp only[hc] at h
   by_cases hcond:(LK ops k && !ahead start (C7 (ev s.T a)))=true
   ·rw[if_pos hcond] at h;cases h
   ·rw[if_neg hcond] at h
    obtain⟨v,h',hs,rfl⟩:=LC hw h
    obtain⟨rfl,_⟩:=ZF hc hs
    refine .read v a hw hc (fun hl id hid=>?_) hs rfl
    rw[hl,hid] at hcond
    simpa [ahead] using hcond
  | new=>
   simp only[hc] at h
   obtain⟨v,h',hs,rfl⟩:=LC hw h
   obtain⟨ob,hwr,rfl,_⟩:=XT hc hs
   exact .new v ob hw hc hwr hs rfl
  | act=>
   simp only[hc] at h
   split at h
   ·rename_i hl
    split at h
    ·rename_i s1 h1
     cases h
     obtain⟨v,h',hs,rfl⟩:=LC (s:=⟨s.T,s.h.fl (max s.h.floor start)⟩) hw h1
     exact .act v h' (max s.h.floor start) hw hc (by omega) (fun _=>by omega) hs rfl
    ·cases h
   ·rename_i hl
    obtain⟨v,h',hs,rfl⟩:=LC hw h
    refine .act v h' s.h.floor hw hc (Nat.le_refl _) (fun hl'=>absurd hl' hl) hs ?_
    have:=(RV hcall hc hs).floor
    obtain⟨n,f,l⟩:=h'
    simp only at this
    subst this
    rfl
  | store=>
   simp only[hc] at h
   split at h
   ·rename_i t a x hop
    split at h
    ·rename_i hall
     obtain⟨v,h',hs,rfl⟩:=LC hw h
     obtain⟨a',id,ob,hor,hid,rfl,h1,h2,_⟩:=SS hc hs
     have ha:a'=a:=by
      rcases hor with⟨_,_,e⟩ | ⟨_,_,_,e | e⟩
      ·rw[hop] at e;cases e;rfl
      ·rw[hop] at e;cases e
      ·rw[hop] at e;cases e
     subst ha
     refine .store v a' id ob hw hc hid (fun y hy=>?_) h1 h2 hor hs rfl
     have:=List.all_eq_true.1 hall y hy
     rw[hid] at this
     simpa using this
    ·cases h
   ·rename_i t a y x hop
    split at h
    ·rename_i hall
     obtain⟨v,h',hs,rfl⟩:=LC hw h
     obtain⟨a',id,ob,hor,hid,rfl,h1,h2,_⟩:=SS hc hs
     have ha:a'=a:=by
      rcases hor with⟨_,_,e⟩ | ⟨_,_,_,e | e⟩
      ·rw[hop] at e;cases e
      ·rw[hop] at e;cases e
      ·rw[hop] at e;cases e;rfl
     subst ha
     refine .store v a' id ob hw hc hid (fun y hy=>?_) h1 h2 hor hs rfl
     have:=List.all_eq_true.1 hall y hy
     rw[hid] at this
     simpa using this
    ·cases h
   ·rename_i t a y x hop
    split at h
    ·rename_i hall
     obtain⟨v,h',hs,rfl⟩:=LC hw h
     obtain⟨a',id,ob,hor,hid,rfl,h1,h2,_⟩:=SS hc hs
     have ha:a'=a:=by
      rcases hor with⟨_,_,e⟩ | ⟨_,_,_,e | e⟩
      ·rw[hop] at e;cases e
      ·rw[hop] at e;cases e;rfl
      ·rw[hop] at e;cases e
     subst ha
     refine .store v a' id ob hw hc hid (fun y hy=>?_) h1 h2 hor hs rfl
     have:=List.all_eq_true.1 hall y hy
     rw[hid] at this
     simpa using this
    ·cases h
   ·cases h
 ·rename_i hw
  cases h
  exact .off (by simpa using hw) rfl
def B8 (ρ:AX) (m:Nat):AX:=fun id=>if id<m then ρ id else none
theorem LP {ρ:AX} {m id:Nat} {L:Loc} (h:B8 ρ m id=some L):id<m∧ρ id=some L:=by
 unfold B8 at h
 split at h
 ·exact⟨‹_›,h⟩
 ·cases h
theorem HG {ρ:AX} {m id:Nat} (h:id<m):B8 ρ m id=ρ id:=by unfold B8;rw[if_pos h]
theorem SL {ρ:AX} {m m':Nat} (h:m≤m'):∀ i L,B8 ρ m i=some L→B8 ρ m' i=some L:=fun i L hi=>by
 obtain⟨h1,h2⟩:=LP hi
 rw[HG (by omega)]
 exact h2
theorem WG {ρ ρ':AX} (hρ:∀ i L,ρ i=some L→ρ' i=some L) (m:Nat):∀ i L,B8 ρ m i=some L→B8 ρ' m i=some L:=fun i L hi=>by
 obtain⟨h1,h2⟩:=LP hi
 rw[HG h1]
 exact hρ _ _ h2
def DO (m f:Nat):AA:=⟨m,f,.leaf⟩
theorem LQ (m f i:Nat):(DO m f).get i=.dead:=by
 unfold AA.get DO
 simp only
 split <;> rfl
theorem TY (m f:Nat):(DO m f).good:=rfl
section
variable {P:Program} {ρ:AX} {W:World}
theorem YR {m f:Nat} (hd:∀ i,m≤i→ρ i=none) (hg:∀ g,g<P.globals.size→∃ L,ρ g=some L∧L.b=g∧L.d=0):BK P ρ (DO m f) W:=
 ⟨TY m f,hd,hg,fun i=>by rw[LQ];trivial,fun i j L L' hw=>by rw[LQ] at hw;exact hw.elim⟩
theorem QO {m f id i:Nat} {o:BB} (hid:id<m):((DO m f).put id o).get i=if id=i then o else .dead:=by
 by_cases e:id=i
 ·subst e;rw[if_pos rfl,CE (TY m f) hid]
 ·rw[if_neg e,AQ (h:=DO m f) hid e,LQ]
theorem gC {m f id:Nat} {o:BB} (hid:id<m) (ho:FD P ρ W id o) (hd:∀ i,m≤i→ρ i=none) (hg:∀ g,g<P.globals.size→∃ L,ρ g=some L∧L.b=g∧L.d=0):BK P ρ ((DO m f).put id o) W:=
 ⟨R_ (TY m f),hd,hg,fun i=>by
  rw[QO hid]
  split
  ·rename_i e;subst e;exact ho
  ·trivial,fun i j L L' hw hl hne _ _=>by
  rw[QO hid] at hw hl
  split at hw
  ·split at hl
   ·omega
   ·exact hl.elim
  ·exact hw.elim⟩
structure Gr (W W':World):Prop where
 os:W'.os=W.os
 tape:W'.tape=W.tape
 output:W'.output=W.output
 size:W.heap.size≤W'.heap.size
 blk:∀ b,b<W.heap.size→W'.heap[b]?=W.heap[b]?
theorem FD.grow {W':World} {i:Nat} {o:BB} (hg:Gr W W') (h:FD P ρ W i o):FD P ρ W' i o:=
 h.mono (fun _ _ h=>h) fun L hL hl=>by
  obtain⟨L2,e2,hlt⟩:=h.at_ hl
  rw[hL] at e2
  cases e2
  exact hg.blk _ hlt
theorem BK.grow {h:AA} {W':World} (hg:Gr W W') (hR:BK P ρ h W):BK P ρ h W':=⟨hR.len,hR.dom,hR.glob,fun i=>(hR.obj i).grow hg,hR.inj⟩
theorem Nx.grow {ρ':AX} {h h':AA} {W' W'':World} (hg:Gr W' W'') (hn:Nx P ρ h W ρ' h' W'):Nx P ρ h W ρ' h' W'':=
 ⟨hn.ext,hn.old,hn.rel.grow hg,⟨hg.os.trans hn.fr.os,hg.tape.trans hn.fr.tape,hg.output.trans hn.fr.output,Nat.le_trans hn.fr.size hg.size,
  fun b hb hno=>(hg.blk b (Nat.lt_of_lt_of_le hb hn.fr.size)).trans (hn.fr.blk b hb hno)⟩,hn.nx,hn.floor,hn.keep,hn.was,hn.wasl,hn.own⟩
theorem Fr.gr {h:AA} {W':World} (hf:Fr ρ h W W') (hno:∀ i,¬ wr (h.get i)):Gr W W':=
 ⟨hf.os,hf.tape,hf.output,hf.size,fun b hb=>hf.blk b hb fun i _ hw=>absurd hw (hno i)⟩
theorem BK.fl {h:AA} (hR:BK P ρ h W) (f:Nat):BK P ρ (h.fl f) W:=⟨hR.len,hR.dom,hR.glob,hR.obj,hR.inj⟩
theorem Nx.unfl {ρ':AX} {h h':AA} {W':World} {f:Nat} (hf:h.floor≤f) (hn:Nx P ρ (h.fl f) W ρ' h' W'):Nx P ρ h W ρ' (h'.fl h.floor) W':=
 ⟨hn.ext,hn.old,hn.rel.fl _,⟨hn.fr.os,hn.fr.tape,hn.fr.output,hn.fr.size,fun b hb hno=>hn.fr.blk b hb fun i L hw hfi hL=>hno i L hw (Nat.le_trans hf hfi) hL⟩,hn.nx,rfl,
  fun i hi hfi=>hn.keep i hi (Nat.lt_of_lt_of_le hfi hf),hn.was,hn.wasl,fun i L hi hw hL=>(hn.own i L hi hw hL).imp id fun ⟨j,L0,h1,h2,h3,h4⟩=>⟨j,L0,h1,Nat.le_trans hf h2,h3,h4⟩⟩
theorem Nx.adopt {ρ':AX} {h h':AA} {W':World} {o:BB} {L:Loc} (hR:BK P ρ h W) (hn:Nx P ρ h W (B8 ρ' h'.next) h' W') (hL:ρ' h'.next=some L) (ho:FD P (B8 ρ' (h'.next+1)) W' h'.next o)
  (hb:W.heap.size≤L.b) (hdis:∀ id L',id<h'.next→ρ' id=some L'→live (h'.get id)→L'.b≠L.b):Nx P ρ h W (B8 ρ' (h'.next+1)) (h'.push o) W':=by
 have hget:∀ i,(h'.push o).get i=if i=h'.next then o else h'.get i:=fun i=>by
  by_cases e:i=h'.next
  ·subst e;rw[if_pos rfl,BL]
  ·rw[if_neg e,KO e]
 have hup:∀ i L',B8 ρ' h'.next i=some L'→B8 ρ' (h'.next+1) i=some L':=SL (Nat.le_succ _)
 refine⟨fun i L' hi=>hup _ _ (hn.ext i L' hi),fun i hi=>?_,⟨aB hn.rel.len,?_,?_,?_,?_⟩,hn.fr,Nat.le_trans hn.nx (by simp[AA.push]),hn.floor,?_,?_,?_,?_⟩
 ·have h1:=hn.nx
  rw[← hn.old i hi,HG (by omega),HG (by omega)]
 ·intro i hi
  have hi':h'.next+1≤i:=hi
  unfold B8
  rw[if_neg (by omega)]
 ·intro g hg
  obtain⟨L',h1,h2,h3⟩:=hn.rel.glob g hg
  exact⟨L',hup _ _ h1,h2,h3⟩
 ·intro i
  rw[hget]
  split
  ·rename_i e;subst e;exact ho
  ·exact(hn.rel.obj i).mono hup fun _ _ _=>rfl
 ·intro i j Li Lj hw hl hne hi hj
  rw[hget] at hw hl
  obtain⟨hi1,hi2⟩:=LP hi
  obtain⟨hj1,hj2⟩:=LP hj
  by_cases ei:i=h'.next
  ·subst ei
   rw[if_neg (Ne.symm hne)] at hl
   rw[hL] at hi2
   cases hi2
   exact Ne.symm (hdis j Lj (by omega) hj2 hl)
  ·rw[if_neg ei] at hw
   by_cases ej:j=h'.next
   ·subst ej
    rw[hL] at hj2
    cases hj2
    exact hdis i Li (by omega) hi2 hw.live
   ·rw[if_neg ej] at hl
    exact hn.rel.inj i j Li Lj hw hl hne (by rw[HG (by omega)];exact hi2) (by rw[HG (by omega)];exact hj2)
 ·intro i hi hf
  have h1:=hn.nx
  rw[hget,if_neg (by omega)]
  exact hn.keep i hi hf
 ·intro i hi hw
  have h1:=hn.nx
  rw[hget,if_neg (by omega)] at hw
  exact hn.was i hi hw
 ·intro i hi hw
  have h1:=hn.nx
  rw[hget,if_neg (by omega)] at hw
  exact hn.wasl i hi hw
 ·intro i L' hi hw hL'
  obtain⟨h1,h2⟩:=LP hL'
  rw[hget] at hw
  by_cases e:i=h'.next
  ·subst e
   rw[hL] at h2
   cases h2
   exact .inl hb
  ·rw[if_neg e] at hw
   exact hn.own i L' hi hw (by rw[HG (by omega)];exact h2)
end
structure D3 (P:Program) (call:AK) (ops:Array Oper) (S:Nat→St):Prop where
 sn:∀ f args h v h',call f args h=some (v,h')→DG h h'
 ok:CR P call
 dok:VR ops
 step:∀ k o,ops[k]?=some o→NI P call ops (S 0).h.next k o (S k) (S (k+1))
section
variable {P:Program} {call:AK} {ops:Array Oper} {S:Nat→St}
def WW (ops:Array Oper) (S:Nat→St) (k:Nat):Prop:=∃ o,ops[k]?=some o∧DD ops (S k).T o=true∧(EK o=true∨EB o=true)
def NN (ops:Array Oper) (S:Nat→St) (k:Nat):Prop:=∃ o,ops[k]?=some o∧DD ops (S k).T o=true∧IR o=true
theorem D3.snx1 (hr:D3 P call ops S) {k:Nat} {o:Oper} (ho:ops[k]?=some o):DG (S k).h (S (k+1)).h:=by
 cases hr.step k o ho with
 | off _ e=>rw[e];exact .refl _
 | pure v _ _ _ _ e=>rw[e];exact .refl _
 | read v a _ _ _ _ e=>rw[e];exact .refl _
 | new v ob _ _ _ _ e=>rw[e];exact .push _ _
 | act v h1 f _ hc hf _ hs e=>rw[e];exact DG.unfl hf (RV hr.sn hc hs)
 | store v a id ob _ _ _ _ h1 h2 _ _ e=>rw[e];exact .put h1 h2
theorem D3.snx (hr:D3 P call ops S) {i j:Nat} (hij:i≤j) (hj:j≤ops.size):DG (S i).h (S j).h:=by
 induction j with
 | zero => have:i=0:=by omega
           subst this;exact .refl _
 | succ j ih=>
  rcases Nat.lt_or_ge j i with h1 | h1
  ·have:i=j+1:=by omega
   subst this;exact .refl _
  ·have hlt:j<ops.size:=by omega
   exact(ih h1 (by omega)).trans (hr.snx1 (Array.getElem?_eq_getElem hlt))
theorem D3.T1 (hr:D3 P call ops S) {k:Nat} {o:Oper} (ho:ops[k]?=some o):∃ v,(S (k+1)).T=(S k).T.put o.dst v:=by
 cases hr.step k o ho with
 | off _ e=>exact⟨_,by rw[e]⟩
 | pure v _ _ _ _ e=>exact⟨_,by rw[e]⟩
 | read v a _ _ _ _ e=>exact⟨_,by rw[e]⟩
 | new v ob _ _ _ _ e=>exact⟨_,by rw[e]⟩
 | act v h1 f _ hc hf _ hs e=>exact⟨_,by rw[e]⟩
 | store v a id ob _ _ _ _ h1 h2 _ _ e=>exact⟨_,by rw[e]⟩
theorem D3.Tsame (hr:D3 P call ops S) {t i j:Nat} (hij:i≤j) (hj:j≤ops.size) (hno:∀ m o,i≤m→m<j→ops[m]?=some o→o.dst≠some t):(S j).T.get t=(S i).T.get t:=by
 induction j with
 | zero => have:i=0:=by omega
           subst this;rfl
 | succ j ih=>
  rcases Nat.lt_or_ge j i with h1 | h1
  ·have:i=j+1:=by omega
   subst this;rfl
  ·have hlt:j<ops.size:=by omega
   have ho:=Array.getElem?_eq_getElem hlt
   obtain⟨v,hv⟩:=hr.T1 ho
   rw[hv,Tr.get_put,if_neg (hno j _ h1 (by omega) ho)]
   exact ih h1 (by omega) fun m o h2 h3=>hno m o h2 (by omega)
theorem D3.keep1 (hr:D3 P call ops S) {k id:Nat} (hk:k<ops.size) (hid:id<(S k).h.next) (hw:¬ WW ops S k):(S (k+1)).h.get id=(S k).h.get id:=by
 have ho:=Array.getElem?_eq_getElem hk
 cases hr.step k _ ho with
 | off _ e=>rw[e]
 | pure v _ _ _ _ e=>rw[e]
 | read v a _ _ _ _ e=>rw[e]
 | new v ob _ _ _ _ e=>rw[e];exact AM hid
 | act v h1 f hwant hc _ _ _ _=>exact absurd ⟨_,ho,hwant,.inl (by simp[EK,hc])⟩ hw
 | store v a id' ob hwant hc _ _ _ _ _ _ _=>exact absurd ⟨_,ho,hwant,.inr (by simp[EB,hc])⟩ hw
theorem D3.same (hr:D3 P call ops S) {i j id:Nat} (hij:i≤j) (hj:j≤ops.size) (hid:id<(S i).h.next) (hw:∀ w,i≤w→w<j→WW ops S w→(S (w+1)).h.get id=(S w).h.get id):(S j).h.get id=(S i).h.get id:=by
 induction j with
 | zero => have:i=0:=by omega
           subst this;rfl
 | succ j ih=>
  rcases Nat.lt_or_ge j i with h1 | h1
  ·have:i=j+1:=by omega
   subst this;rfl
  ·rw[← ih h1 (by omega) fun w h2 h3=>hw w h2 (by omega)]
   by_cases h2:WW ops S j
   ·exact hw j h1 (by omega) h2
   ·exact hr.keep1 (by omega) (Nat.lt_of_lt_of_le hid (hr.snx h1 (by omega)).nx) h2
theorem D3.new1 (hr:D3 P call ops S) {k:Nat} (hn:NN ops S k):k<ops.size∧(S (k+1)).h.next=(S k).h.next+1∧∃ ob,wr ob∧(S (k+1)).h=(S k).h.push ob∧(S (k+1)).h.get (S k).h.next=ob:=by
 obtain⟨o,ho,hw,hc⟩:=hn
 have hk:k<ops.size:=(Array.getElem?_eq_some_iff.1 ho).1
 refine⟨hk,?_⟩
 cases hr.step k o ho with
 | off h _=>rw[hw] at h;cases h
 | pure v _ hc' _ _ e=>simp[IR,hc'] at hc
 | read v a _ hc' _ _ e=>simp[IR,hc'] at hc
 | new v ob _ _ hwr _ e=>rw[e];exact⟨rfl,ob,hwr,rfl,BL⟩
 | act v h1 f _ hc' _ _ _ e=>simp[IR,hc'] at hc
 | store v a id ob _ hc' _ _ h1 h2 _ _ e=>simp[IR,hc'] at hc
theorem D3.new_lt (hr:D3 P call ops S) {i k:Nat} (hn:NN ops S i) (hik:i<k) (hk:k≤ops.size):(S i).h.next<(S k).h.next:=by
 obtain⟨h1,h2,_⟩:=hr.new1 hn
 have:=(hr.snx (i:=i+1) (j:=k) (by omega) hk).nx
 omega
theorem D3.new_ne (hr:D3 P call ops S) {i k:Nat} (hi:NN ops S i) (hk:NN ops S k) (hne:i≠k):(S i).h.next≠(S k).h.next:=by
 have h1:=(hr.new1 hi).1
 have h2:=(hr.new1 hk).1
 rcases Nat.lt_or_gt_of_ne hne with h | h
 ·have:=hr.new_lt hi h (by omega);omega
 ·have:=hr.new_lt hk h (by omega);omega
end
structure DV (P:Program) (ops:Array Oper) (S:Nat→St) (n:Nat) (ρ0:AX) (W0:World) (D:List Deferred) (listed:Array Bool) (A:Act) (W:World) (ρ:AX) (p:Nat):Prop where
 lsz:listed.size=ops.size
 cl:PB ops listed
 ple:p≤ops.size
 pw:∀ i,i<p→(WW ops S i∨NN ops S i)→listed.getD i false=true
 ph:∀ i,p≤i→WW ops S i→¬ listed.getD i false=true
 nx:Nx P ρ0 (S 0).h W0 (B8 ρ (S p).h.next) (S p).h W
 dom:∀ id L,(S p).h.next≤id→ρ id=some L→∃ i,p≤i∧NN ops S i∧listed.getD i false=true∧id=(S i).h.next
 ext:∀ i,p≤i→NN ops S i→listed.getD i false=true→∃ Lc,ρ (S i).h.next=some Lc∧FD P (B8 ρ ((S i).h.next+1)) W (S i).h.next ((S (i+1)).h.get (S i).h.next)∧W0.heap.size≤Lc.b∧Lc.b<W.heap.size
 dis:∀ i,p≤i→NN ops S i→listed.getD i false=true→∀ Lc,ρ (S i).h.next=some Lc→∀ id L',id≠(S i).h.next→ρ id=some L'→(id<(S p).h.next→live ((S p).h.get id))→L'.b≠Lc.b
 pend:∀ j,j<p→¬ listed.getD j false=true→∀ o a id,ops[j]?=some o→DD ops (S j).T o=true→AC o.op=.read a→C7 (ev (S j).T a)=some id→FD P (B8 ρ (S j).h.next) W id ((S j).h.get id)
 tm:∀ t,∃ m,m≤ops.size∧(m=0∨∃ o,ops[m-1]?=some o∧o.dst=some t∧listed.getD (m-1) false=true)∧(∀ i o,ops[i]?=some o→o.dst=some t→(listed.getD i false=true↔i<m)) ∧
   AH (B8 ρ (S m).h.next) ((S m).T.get t) (A.tmps.getD t undef)
 sz:A.tmps.size=n
 df:A.defers=D
section
variable {P:Program} {call:AK} {ops:Array Oper} {S:Nat→St} {n:Nat} {ρ0:AX} {W0:World} {D:List Deferred} {listed:Array Bool} {A:Act} {W:World} {ρ:AX} {p:Nat}
theorem GQ {listed:Array Bool} {j i:Nat} (hj:j<listed.size):(listed.setIfInBounds j true).getD i false=true↔(i=j∨listed.getD i false=true):=by
 by_cases e:j=i
 ·subst e
  simp[hj]
 ·rw[getD_set_ne false e]
  constructor
  ·exact .inr
  ·rintro (h | h)
   ·exact absurd h.symm e
   ·exact h
theorem DV.writers (hr:D3 P call ops S) (hI:DV P ops S n ρ0 W0 D listed A W ρ p) {j:Nat} (hj:j∈Region.ready .any ops listed) {oj:Oper} (hoj:ops[j]?=some oj) {t:Tmp} (ht:t∈oj.looksAt ops∨oj.dst=some t)
  {i:Nat} {oi:Oper} (hoi:ops[i]?=some oi) (hd:oi.dst=some t) (hne:i≠j):(listed.getD i false=true↔i<j):=by
 have hnl:¬ listed.getD j false=true:=by
  have:=(mem_ready.1 hj).1
  intro h
  have:listed.getD j false=false:=by
   rcases Nat.lt_or_ge j listed.size with hlt | hge
   ·simp[hlt] at this ⊢;exact this
   ·simp[Array.getElem?_eq_none hge] at this
  rw[this] at h
  cases h
 rcases hr.dok.s6 j i oj oi t hoj hoi hne hd ht with hb | hb
 ·have h1:=OK hI.cl hj hb
  have h2:=SB hr.dok j i hb
  exact⟨fun _=>h2,fun _=>h1⟩
 ·have h2:=SB hr.dok i j hb
  constructor
  ·intro hl;exact absurd (hI.cl.bit i j hl hb) hnl
  ·intro hlt;omega
theorem DV.unlisted (hI:DV P ops S n ρ0 W0 D listed A W ρ p) {j:Nat} (hj:j∈Region.ready .any ops listed):¬ listed.getD j false=true∧j<ops.size:=by
 obtain⟨h1,o,ho,_⟩:=mem_ready.1 hj
 have hlt:j<ops.size:=(Array.getElem?_eq_some_iff.1 ho).1
 refine⟨fun h=>?_,hlt⟩
 have hl:j<listed.size:=by rw[hI.lsz];exact hlt
 simp[hl] at h1 h
 rw[h1] at h
 cases h
theorem DV.slot (hr:D3 P call ops S) (hI:DV P ops S n ρ0 W0 D listed A W ρ p) {j:Nat} (hj:j∈Region.ready .any ops listed) {oj:Oper} (hoj:ops[j]?=some oj) {t:Tmp} (ht:t∈oj.looksAt ops) :
  AH (B8 ρ (S j).h.next) ((S j).T.get t) (A.tmps.getD t undef):=by
 obtain⟨hnl,hlt⟩:=hI.unlisted hj
 obtain⟨m,hm,hm0,hmw,hv⟩:=hI.tm t
 have hmj:m≤j:=by
  rcases hm0 with rfl | ⟨o,ho,hd,hl⟩
  ·omega
  ·have hne:m-1≠j:=fun e=>hnl (e▸hl)
   have:=(hI.writers hr hj hoj (.inl ht) ho hd hne).1 hl
   omega
 rw[hr.Tsame hmj (by omega) fun i o h1 h2 ho hd=>?_]
 ·exact hv.mono (SL (hr.snx hmj (by omega)).nx)
 ·have hl:=(hI.writers hr hj hoj (.inl ht) ho hd (by omega)).2 h2
  have:=(hmw i o ho hd).1 hl
  omega
theorem DV.glob (hr:D3 P call ops S) (hR0:BK P ρ0 (S 0).h W0) (hI:DV P ops S n ρ0 W0 D listed A W ρ p) {j:Nat} (hj:j≤ops.size):∀ g,g<P.globals.size→∃ L,B8 ρ (S j).h.next g=some L∧L.b=g∧L.d=0:=by
 intro g hg
 obtain⟨L,h1,h2,h3⟩:=hI.nx.rel.glob g hg
 obtain⟨L0,h4,_,_⟩:=hR0.glob g hg
 have hlt:=hR0.lt h4
 have:=(hr.snx (i:=0) (j:=j) (by omega) hj).nx
 exact⟨L,by rw[HG (by omega)];exact(LP h1).2,h2,h3⟩
theorem DV.operand (hr:D3 P call ops S) (hR0:BK P ρ0 (S 0).h W0) (hI:DV P ops S n ρ0 W0 D listed A W ρ p) {j:Nat} (hj:j∈Region.ready .any ops listed) {oj:Oper} (hoj:ops[j]?=some oj) (hok:HF P n oj=true) :
  ∀ x∈oj.op.operands,AH (B8 ρ (S j).h.next) (ev (S j).T x) (A.eval x):=by
 intro x hx
 have hlt:=(hI.unlisted hj).2
 simp only[HF,Bool.and_eq_true] at hok
 have hxo:N5 P x=true:=List.all_eq_true.1 hok.1 x (by simpa using hx)
 cases x with
 | tmp t=>
  refine hI.slot hr hj hoj ?_
  unfold Oper.looksAt
  rw[List.mem_append]
  left
  rw[List.mem_filterMap]
  exact⟨.tmp t,by simpa using hx,rfl⟩
 | const v=>exact IS hxo
 | global g=>
  simp only[N5,decide_eq_true_eq] at hxo
  obtain⟨L,hL,hb,hd⟩:=hI.glob hr hR0 (j:=j) (by omega) g hxo
  have:=AH.ptr (ρ:=B8 ρ (S j).h.next) (id:=g) (off:=0) hL
  simp only[hb,hd,Nat.zero_add] at this
  exact this
 | func f=>exact .func .nil .nil
theorem XW {T:Tr} {o:Oper} {ρ:AX} (h:∀ t,t∈o.looksAt ops→AH ρ (T.get t) (A.tmps.getD t undef)):Region.wanted o (yielded ops A.tmps)=DD ops T o:=by
 unfold Region.wanted DD
 cases hg:o.guard with
 | none=>rfl
 | some jw=>
  obtain⟨j,w⟩:=jw
  simp only
  unfold yielded
  cases hd:(ops[j]?).bind (·.dst) with
  | none=>rfl
  | some d=>
   have hin:d∈o.looksAt ops:=by
    unfold Oper.looksAt
    rw[List.mem_append]
    right
    simp[hg,hd]
   have hv:=h d hin
   simp only[Option.bind_some]
   rw[Array.getD_eq_getD_getElem?] at hv
   cases hA:A.tmps[d]? with
   | none=>
    rw[hA] at hv
    simp only[Option.getD_none] at hv
    cases hT:T.get d with
    | bool b=>rw[hT] at hv;have:=O1 hv;simp[undef] at this
    | _=>rfl
   | some V=>
    rw[hA] at hv
    simp only[Option.getD_some] at hv
    cases hT:T.get d with
    | bool b=>rw[hT] at hv;have:=O1 hv;subst this;rfl
    | _=>
     rw[hT] at hv
     cases V with
     | bool b=>cases hv
     | _=>rfl
end
section
variable {P:Program} {call:AK} {ops:Array Oper} {S:Nat→St} {n:Nat} {ρ0:AX} {W0:World} {D:List Deferred} {listed:Array Bool} {A:Act} {W:World} {ρ:AX} {p:Nat}
theorem DV.tm' (hr:D3 P call ops S) (hI:DV P ops S n ρ0 W0 D listed A W ρ p) {j:Nat} (hj:j∈Region.ready .any ops listed) {oj:Oper} (hoj:ops[j]?=some oj) (hok:HF P n oj=true)
  {ρ':AX} (hρ:∀ i L,ρ i=some L→ρ' i=some L) {v V:Value} (hT:(S (j+1)).T=(S j).T.put oj.dst v) (hv:AH (B8 ρ' (S (j+1)).h.next) v V) :
  ∀ t,∃ m,m≤ops.size∧(m=0∨∃ o,ops[m-1]?=some o∧o.dst=some t∧(listed.setIfInBounds j true).getD (m-1) false=true) ∧
   (∀ i o,ops[i]?=some o→o.dst=some t→((listed.setIfInBounds j true).getD i false=true↔i<m))∧AH (B8 ρ' (S m).h.next) ((S m).T.get t) ((A.put oj.dst V).tmps.getD t undef):=by
 intro t
 obtain⟨hnl,hlt⟩:=hI.unlisted hj
 have hls:j<listed.size:=by rw[hI.lsz];exact hlt
 have hdst:PH n oj.dst=true:=by simp only[HF,Bool.and_eq_true] at hok;exact hok.2
 by_cases e:oj.dst=some t
 ·refine⟨j+1,by omega,.inr ⟨oj,hoj,e,(GQ hls).2 (.inl rfl)⟩,fun i oi hoi hd=>?_,?_⟩
  ·rw[GQ hls]
   by_cases hij:i=j
   ·subst hij;simp
   ·have:=hI.writers hr hj hoj (.inr e) hoi hd hij
    constructor
    ·rintro (h | h)
     ·exact absurd h hij
     ·have:=this.1 h;omega
    ·intro h;exact .inr (this.2 (by omega))
  ·rw[hT,Tr.get_put,if_pos e,aJ A oj.dst V n hI.sz hdst,if_pos e]
   exact hv
 ·obtain⟨m,hm,hm0,hmw,hvm⟩:=hI.tm t
  refine⟨m,hm,hm0.imp id fun ⟨o,h1,h2,h3⟩=>⟨o,h1,h2,(GQ hls).2 (.inr h3)⟩,fun i oi hoi hd=>?_,?_⟩
  ·rw[GQ hls]
   have hij:i≠j:=by
    rintro rfl
    rw[hoj] at hoi
    cases hoi
    exact e hd
   rw[← hmw i oi hoi hd]
   exact⟨fun h=>h.resolve_left hij,.inr⟩
  ·rw[aJ A oj.dst V n hI.sz hdst,if_neg e]
   exact hvm.mono (WG hρ _)
theorem DV.quiet (hr:D3 P call ops S) (hI:DV P ops S n ρ0 W0 D listed A W ρ p) {j:Nat} (hj:j∈Region.ready .any ops listed) {oj:Oper} (hoj:ops[j]?=some oj) (hok:HF P n oj=true)
  (hnw:¬ WW ops S j) (hnn:¬ NN ops S j) {W':World} (hg:Gr W W') {v V:Value} (hT:(S (j+1)).T=(S j).T.put oj.dst v) (hv:AH (B8 ρ (S (j+1)).h.next) v V) :
  DV P ops S n ρ0 W0 D (listed.setIfInBounds j true) (A.put oj.dst V) W' ρ p:=by
 obtain⟨hnl,hlt⟩:=hI.unlisted hj
 have hls:j<listed.size:=by rw[hI.lsz];exact hlt
 have back:∀ i,NN ops S i→(listed.setIfInBounds j true).getD i false=true→listed.getD i false=true:=fun i hn hl=>
  ((GQ hls).1 hl).resolve_left fun e=>hnn (e▸hn)
 refine⟨by simp[hI.lsz],hI.cl.set hj,hI.ple,?_,?_,hI.nx.grow hg,?_,?_,?_,?_,hI.tm' hr hj hoj hok (fun _ _ h=>h) hT hv,by rw[KI];exact hI.sz,by rw[JI];exact hI.df⟩
 ·intro i hi hwn;exact(GQ hls).2 (.inr (hI.pw i hi hwn))
 ·intro i hi hw hl
  rcases(GQ hls).1 hl with e | hl
  ·exact hnw (e▸hw)
  ·exact hI.ph i hi hw hl
 ·intro id L hid hL
  obtain⟨i,h1,h2,h3,h4⟩:=hI.dom id L hid hL
  exact⟨i,h1,h2,(GQ hls).2 (.inr h3),h4⟩
 ·intro i hi hn hl
  obtain⟨Lc,h1,h2,h3,h4⟩:=hI.ext i hi hn (back i hn hl)
  exact⟨Lc,h1,h2.grow hg,h3,Nat.lt_of_lt_of_le h4 hg.size⟩
 ·intro i hi hn hl;exact hI.dis i hi hn (back i hn hl)
 ·intro i hi hl o a id h1 h2 h3 h4
  exact(hI.pend i hi (fun h=>hl ((GQ hls).2 (.inr h))) o a id h1 h2 h3 h4).grow hg
theorem DV.fresh (hr:D3 P call ops S) (hI:DV P ops S n ρ0 W0 D listed A W ρ p) {j:Nat} (hj:j∈Region.ready .any ops listed) {oj:Oper} (hoj:ops[j]?=some oj) (hok:HF P n oj=true)
  (hnw:¬ WW ops S j) (hn:NN ops S j) {W':World} (hg:Gr W W') {L:Loc} (hLb:W.heap.size≤L.b) (hLb':L.b<W'.heap.size)
  (ho:FD P (B8 (C9 ρ (S j).h.next L) ((S j).h.next+1)) W' (S j).h.next ((S (j+1)).h.get (S j).h.next))
  {v V:Value} (hT:(S (j+1)).T=(S j).T.put oj.dst v) (hv:AH (B8 (C9 ρ (S j).h.next L) (S (j+1)).h.next) v V) :
  DV P ops S n ρ0 W0 D (listed.setIfInBounds j true) (A.put oj.dst V) W' (C9 ρ (S j).h.next L) p:=by
 obtain⟨hnl,hlt⟩:=hI.unlisted hj
 have hls:j<listed.size:=by rw[hI.lsz];exact hlt
 have hpj:p≤j:=by
  rcases Nat.lt_or_ge j p with h | h
  ·exact absurd (hI.pw j h (.inr hn)) hnl
  ·exact h
 have hnx:(S p).h.next≤(S j).h.next:=(hr.snx hpj (by omega)).nx
 have hnone:ρ (S j).h.next=none:=by
  cases h:ρ (S j).h.next with
  | none=>rfl
  | some L'=>
   obtain⟨i,h1,h2,h3,h4⟩:=hI.dom _ _ hnx h
   have:i≠j:=fun e=>hnl (e▸h3)
   exact absurd h4.symm (hr.new_ne h2 hn this)
 have hup:∀ i L',ρ i=some L'→C9 ρ (S j).h.next L i=some L':=fun i L' hi=>by
  rw[GW]
  ·exact hi
  ·rintro rfl;rw[hnone] at hi;cases hi
 have hcut:∀ m,m≤(S j).h.next→B8 (C9 ρ (S j).h.next L) m=B8 ρ m:=fun m hm=>by
  funext id
  unfold B8
  split
  ·rw[GW (by omega)]
  ·rfl
 have hblt:∀ id L',ρ id=some L'→(id<(S p).h.next→live ((S p).h.get id))→L'.b<W.heap.size:=by
  intro id L' hid hlv
  rcases Nat.lt_or_ge id (S p).h.next with h | h
  ·obtain⟨L2,e2,hb⟩:=(hI.nx.rel.obj id).at_ (hlv h)
   rw[HG h,hid] at e2
   cases e2
   exact hb
  ·obtain⟨i,h1,h2,h3,rfl⟩:=hI.dom id L' h hid
   obtain⟨Lc,h4,_,_,h5⟩:=hI.ext i h1 h2 h3
   rw[hid] at h4
   cases h4
   exact h5
 refine⟨by simp[hI.lsz],hI.cl.set hj,hI.ple,?_,?_,?_,?_,?_,?_,?_,hI.tm' hr hj hoj hok hup hT hv,by rw[KI];exact hI.sz,by rw[JI];exact hI.df⟩
 ·intro i hi hwn;exact(GQ hls).2 (.inr (hI.pw i hi hwn))
 ·intro i hi hw hl
  rcases(GQ hls).1 hl with e | hl
  ·exact hnw (e▸hw)
  ·exact hI.ph i hi hw hl
 ·rw[hcut _ hnx];exact hI.nx.grow hg
 ·intro id L' hid hL
  by_cases e:id=(S j).h.next
  ·exact⟨j,hpj,hn,(GQ hls).2 (.inl rfl),e⟩
  ·rw[GW e] at hL
   obtain⟨i,h1,h2,h3,h4⟩:=hI.dom id L' hid hL
   exact⟨i,h1,h2,(GQ hls).2 (.inr h3),h4⟩
 ·intro i hi hni hl
  by_cases e:i=j
  ·subst e
   exact⟨L,GS _ _ _,ho,Nat.le_trans hI.nx.fr.size hLb,hLb'⟩
  ·have hl':=((GQ hls).1 hl).resolve_left e
   obtain⟨Lc,h1,h2,h3,h4⟩:=hI.ext i hi hni hl'
   exact⟨Lc,hup _ _ h1,(h2.grow hg).mono (WG hup _) fun _ _ _=>rfl,h3,Nat.lt_of_lt_of_le h4 hg.size⟩
 ·intro i hi hni hl Lc hLc id L' hne hL' hlv
  by_cases e:i=j
  ·subst e
   rw[GS] at hLc
   cases hLc
   rw[GW hne] at hL'
   have:=hblt id L' hL' hlv
   omega
  ·have hl':=((GQ hls).1 hl).resolve_left e
   have hine:=hr.new_ne hni hn e
   rw[GW hine] at hLc
   by_cases e2:id=(S j).h.next
   ·subst e2
    rw[GS] at hL'
    cases hL'
    obtain⟨Lc',h1,_,_,h4⟩:=hI.ext i hi hni hl'
    rw[hLc] at h1
    cases h1
    omega
   ·rw[GW e2] at hL'
    exact hI.dis i hi hni hl' Lc hLc id L' hne hL' hlv
 ·intro i hi hl o a id h1 h2 h3 h4
  have hij:(S i).h.next≤(S j).h.next:=(hr.snx (by omega) (by omega)).nx
  rw[hcut _ hij]
  exact(hI.pend i hi (fun h=>hl ((GQ hls).2 (.inr h))) o a id h1 h2 h3 h4).grow hg
theorem DV.upto (hr:D3 P call ops S) (hR0:BK P ρ0 (S 0).h W0) (hI:DV P ops S n ρ0 W0 D listed A W ρ p) {q:Nat} (hpq:p≤q) (hq:q≤ops.size) (hw:∀ i,p≤i→i<q→¬ WW ops S i) (hn:∀ i,p≤i→i<q→NN ops S i→listed.getD i false=true) :
  Nx P ρ0 (S 0).h W0 (B8 ρ (S q).h.next) (S q).h W:=by
 induction q with
 | zero => have:p=0:=by omega
           subst this;exact hI.nx
 | succ q ih=>
  rcases Nat.lt_or_ge q p with h1 | h1
  ·have:p=q+1:=by omega
   subst this;exact hI.nx
  ·have ih':=ih h1 (by omega) (fun i h2 h3=>hw i h2 (by omega)) (fun i h2 h3=>hn i h2 (by omega))
   have ho:=Array.getElem?_eq_getElem (show q<ops.size by omega)
   have hnw:=hw q h1 (by omega)
   cases hr.step q _ ho with
   | off _ e=>rw[e];exact ih'
   | pure v _ _ _ _ e=>rw[e];exact ih'
   | read v a _ _ _ _ e=>rw[e];exact ih'
   | act v h1 f hwant hc _ _ _ _=>exact absurd ⟨_,ho,hwant,.inl (by simp[EK,hc])⟩ hnw
   | store v a id' ob hwant hc _ _ _ _ _ _ _=>exact absurd ⟨_,ho,hwant,.inr (by simp[EB,hc])⟩ hnw
   | new v ob hwant hc hwr hs e=>
    have hnn:NN ops S q:=⟨_,ho,hwant,by simp[IR,hc]⟩
    have hl:=hn q h1 (by omega) hnn
    obtain⟨Lc,hL,hob,hb0,hbW⟩:=hI.ext q h1 hnn hl
    have hpq':(S p).h.next≤(S q).h.next:=(hr.snx h1 (by omega)).nx
    have e1:(S (q+1)).h=(S q).h.push ob:=by rw[e]
    have e2:(S (q+1)).h.next=(S q).h.next+1:=by rw[e1];rfl
    rw[e2,e1]
    refine ih'.adopt hR0 hL ?_ hb0 fun id L' hid hL' hlv=>?_
    ·rw[e1,BL] at hob;exact hob
    ·refine hI.dis q h1 hnn hl Lc hL id L' (by omega) hL' fun hidp=>?_
     rw[← hr.same h1 (by omega) hidp fun w h2 h3 hww=>absurd hww (hw w h2 (by omega))]
     exact hlv
end
section
variable {P:Program} {call:AK} {ops:Array Oper} {S:Nat→St} {n:Nat} {ρ0:AX} {W0:World} {D:List Deferred} {listed:Array Bool} {A:Act} {W:World} {ρ:AX} {p:Nat}
theorem YA {o:Oper} {a:Operand} (h:AC o.op=.read a):O3 o=true:=by simp[O3,h]
theorem bO {b:Array Nat} {i j:Nat} (hne:i≠j) (h1:¬ (b.getD i 0).testBit j=true) (h2:¬ (b.getD j 0).testBit i=true):H7 b i j=true:=by
 simp only[H7,Bool.and_eq_true,bne_iff_ne,ne_eq,Bool.not_eq_true']
 exact⟨⟨hne,by simpa using h1⟩,by simpa using h2⟩
theorem aP {ops:Array Oper} {i:Nat} {o:Oper} (h:ops[i]?=some o):(o,i)∈ops.toList.zipIdx:=by
 rw[List.mk_mem_zipIdx_iff_getElem?]
 simpa using h
theorem bF {ops:Array Oper} {i j:Nat} {o:Oper} (ho:ops[j]?=some o) (h:EK o=true∨(IR o=true∧j<i)) (hu:H7 (Region.before ops) j i=true):LK ops i=true:=by
 unfold LK
 simp only[List.any_eq_true]
 refine⟨(o,j),aP ho,?_⟩
 simp only[Bool.and_eq_true,Bool.or_eq_true,decide_eq_true_eq]
 exact⟨h,hu⟩
theorem nJ {ops:Array Oper} {i j:Nat} {o:Oper} (ho:ops[i]?=some o) (h:O3 o=true) (hu:H7 (Region.before ops) i j=true):LU ops j=true:=by
 unfold LU
 simp only[List.any_eq_true]
 exact⟨(o,i),aP ho,by simp only[Bool.and_eq_true];exact⟨h,hu⟩⟩
theorem Gi {ops:Array Oper} {i j:Nat} {o:Oper} {a:Operand} (ho:ops[i]?=some o) (h:AC o.op=.read a) (hij:i<j) (hu:H7 (Region.before ops) i j=true):a∈JX ops j:=by
 unfold JX
 simp only[List.mem_filterMap]
 exact⟨(o,i),aP ho,by simp[h,hij,hu]⟩
theorem D3.shield (hr:D3 P call ops S) {i w:Nat} (hiw:i≠w) {oi:Oper} {a:Operand} {id:Nat} (hoi:ops[i]?=some oi) (hwi:DD ops (S i).T oi=true) (hc:AC oi.op=.read a) (hid:C7 (ev (S i).T a)=some id)
  {ow:Oper} (how:ops[w]?=some ow) (hww:DD ops (S w).T ow=true) (hact:EK ow=true∨EB ow=true) (hu:H7 (Region.before ops) i w=true) :
  (EK ow=true→id<(S 0).h.next∧LU ops w=true)∧(EB ow=true→i<w∧∀ id',(∀ x∈JX ops w,C7 (ev (S w).T x)≠some id')→id≠id') ∧
  (id<(S w).h.next→(S (w+1)).h.get id=(S w).h.get id):=by
 have hu':H7 (Region.before ops) w i=true:=by
  simp only[H7,Bool.and_eq_true,bne_iff_ne,ne_eq,Bool.not_eq_true'] at hu ⊢
  exact⟨⟨Ne.symm hu.1.1,hu.2⟩,hu.1.2⟩
 have hw:w<ops.size:=(Array.getElem?_eq_some_iff.1 how).1
 have hid0:EK ow=true→id<(S 0).h.next:=fun ha=>by
  have hl:=bF how (.inl ha) hu'
  cases hr.step i oi hoi with
  | off h _=>rw[hwi] at h;cases h
  | pure v _ hc' _ _ _=>rw[hc] at hc';cases hc'
  | read v a' _ hc' hlr _ _=>rw[hc] at hc';cases hc';exact hlr hl id hid
  | new v ob _ hc' _ _ _=>rw[hc] at hc';cases hc'
  | act v h1 f _ hc' _ _ _ _=>rw[hc] at hc';cases hc'
  | store v a id ob _ hc' _ _ _ _ _ _ _=>rw[hc] at hc';cases hc'
 have hst:EB ow=true→i<w∧∀ id',(∀ x∈JX ops w,C7 (ev (S w).T x)≠some id')→id≠id':=fun hs=>by
  have hlt:i<w:=by
   rcases Nat.lt_or_gt_of_ne hiw with h | h
   ·exact h
   ·have:=hr.dok.s4 w i ow oi how hoi hs (YA hc) h
    simp only[H7,Bool.and_eq_true,bne_iff_ne,ne_eq,Bool.not_eq_true'] at hu
    rw[this] at hu
    simp at hu
  refine⟨hlt,fun id' hall e=>?_⟩
  subst e
  have hmem:=Gi hoi hc hlt hu
  refine hall a hmem ?_
  cases a with
  | tmp t=>
   have:(S w).T.get t=(S i).T.get t:=hr.Tsame (by omega) (by omega) fun m o h1 h2 ho=>hr.dok.s5 w i m ow oi o t how hoi ho hs hlt hc hu h1 h2
   show C7 ((S w).T.get t)=some id
   rw[this]
   exact hid
  | const v=>exact hid
  | global g=>exact hid
  | func f=>exact hid
 refine⟨fun ha=>⟨hid0 ha,nJ hoi (YA hc) hu⟩,hst,fun hlt=>?_⟩
 cases hr.step w ow how with
 | off h _=>rw[hww] at h;cases h
 | pure v _ hc' _ _ _=>simp[EK,EB,hc'] at hact
 | read v a' _ hc' hlr _ _=>simp[EK,EB,hc'] at hact
 | new v ob _ hc' _ _ _=>simp[EK,EB,hc'] at hact
 | act v h1 f _ hc' hf hl hs e=>
  have ha:EK ow=true:=by simp[EK,hc']
  have hsf:=hl (nJ hoi (YA hc) hu)
  have hk:=(RV hr.sn hc' hs).keep id hlt (Nat.lt_of_lt_of_le (hid0 ha) hsf)
  rw[e]
  exact hk
 | store v a' id' ob _ hc' hid' hall h1 h2 _ _ e=>
  have hs:EB ow=true:=by simp[EB,hc']
  have hne:=(hst hs).2 id' hall
  rw[e]
  exact AQ h1 (Ne.symm hne)
theorem DV.act (hr:D3 P call ops S) (hR0:BK P ρ0 (S 0).h W0) (hI:DV P ops S n ρ0 W0 D listed A W ρ p) {j:Nat} (hj:j∈Region.ready .any ops listed) {oj:Oper} (hoj:ops[j]?=some oj) (hok:HF P n oj=true)
  (hwant:DD ops (S j).T oj=true) (hact:EK oj=true∨EB oj=true) {ρ':AX} {W':World}
  (hN:Nx P (B8 ρ (S j).h.next) (S j).h W ρ' (S (j+1)).h W')
  (hblk:∀ id L,B8 ρ (S j).h.next id=some L→live ((S j).h.get id) →
   (EK oj=true→LU ops j=true∧id<(S 0).h.next)→(EB oj=true→∀ id',(∀ x∈JX ops j,C7 (ev (S j).T x)≠some id')→id≠id')→W'.heap[L.b]?=W.heap[L.b]?)
  {v V:Value} (hT:(S (j+1)).T=(S j).T.put oj.dst v) (hv:AH ρ' v V) :
  ∃ ρ'',DV P ops S n ρ0 W0 D (listed.setIfInBounds j true) (A.put oj.dst V) W' ρ'' (j+1):=by
 obtain⟨hnl,hlt⟩:=hI.unlisted hj
 have hls:j<listed.size:=by rw[hI.lsz];exact hlt
 have hWW:WW ops S j:=⟨oj,hoj,hwant,hact⟩
 have hpj:p≤j:=by
  rcases Nat.lt_or_ge j p with h | h
  ·exact absurd (hI.pw j h (.inl hWW)) hnl
  ·exact h
 have hahead:∀ i,i<j→(WW ops S i∨NN ops S i)→listed.getD i false=true:=by
  rintro i hi (⟨oi,hoi,_,h⟩ | ⟨oi,hoi,_,h⟩)
  ·exact OK hI.cl hj (hr.dok.s2 j i oj oi hoj hoi hact (by rcases h with h | h;exact .inl h;exact .inr (.inl h)) hi)
  ·exact OK hI.cl hj (hr.dok.s2 j i oj oi hoj hoi hact (.inr (.inr h)) hi)
 have hnoW:∀ i,p≤i→i<j→¬ WW ops S i:=fun i h1 h2 hw=>hI.ph i h1 hw (hahead i h2 (.inl hw))
 have hup:=hI.upto hr hR0 hpj (by omega) hnoW (fun i h1 h2 hn=>hahead i h2 (.inr hn))
 have hnx1:(S j).h.next≤(S (j+1)).h.next:=(hr.snx (i:=j) (j:=j+1) (by omega) (by omega)).nx
 have hpn:(S p).h.next≤(S j).h.next:=(hr.snx hpj (by omega)).nx
 -- nothing is known yet of the numbers that it takes
 have hgap:∀ id,(S j).h.next≤id→id<(S (j+1)).h.next→ρ id=none:=by
  intro id h1 h2
  cases h:ρ id with
  | none=>rfl
  | some L=>
   obtain⟨i,hi1,hi2,hi3,rfl⟩:=hI.dom id L (by omega) h
   have hij:i≠j:=fun e=>hnl (e▸hi3)
   rcases Nat.lt_or_gt_of_ne hij with hlt' | hgt
   ·have:=hr.new_lt hi2 hlt' (by omega);omega
   ·have h3:=(hr.snx (i:=j+1) (j:=i) (by omega) (by have:=(hr.new1 hi2).1;omega)).nx
    omega
 let ρ2:AX:=fun id=>if id<(S (j+1)).h.next then ρ' id else ρ id
 have h2lt:∀ id,id<(S (j+1)).h.next→ρ2 id=ρ' id:=fun id h=>if_pos h
 have h2ge:∀ id,(S (j+1)).h.next≤id→ρ2 id=ρ id:=fun id h=>if_neg (by omega)
 have hold:∀ id,id<(S j).h.next→ρ' id=ρ id:=fun id h=>by rw[hN.old id h,HG h]
 have hup2:∀ i L,ρ i=some L→ρ2 i=some L:=by
  intro i L hi
  rcases Nat.lt_or_ge i (S (j+1)).h.next with h | h
  ·rcases Nat.lt_or_ge i (S j).h.next with h' | h'
   ·rw[h2lt i h,hold i h'];exact hi
   ·rw[hgap i h' h] at hi;cases hi
  ·rw[h2ge i h];exact hi
 have hcut2:B8 ρ2 (S (j+1)).h.next=ρ':=by
  funext id
  unfold B8
  split
  ·rename_i h;exact h2lt id h
  ·rename_i h;exact(hN.rel.dom id (by omega)).symm
 have hlive:∀ id,id<(S p).h.next→(S j).h.get id=(S p).h.get id:=fun id h=>hr.same hpj (by omega) h fun w h1 h2 hw=>absurd hw (hnoW w h1 h2)
 -- blocks of objects apart
 have hext:∀ i,p≤i→NN ops S i→listed.getD i false=true→j<i→∀ Lc,ρ (S i).h.next=some Lc→Lc.b<W.heap.size→W'.heap[Lc.b]?=W.heap[Lc.b]?:=by
  intro i hi hn hl hji Lc hLc hb
  refine hN.fr.blk _ hb fun id L' hw _ hL'=>?_
  obtain⟨h1,h2⟩:=LP hL'
  have hlt':(S j).h.next≤(S i).h.next:=(hr.snx (by omega) (by have:=(hr.new1 hn).1;omega)).nx
  exact hI.dis i hi hn hl Lc hLc id L' (by omega) h2 fun hp=>by rw[← hlive id hp];exact hw.live
 refine⟨ρ2,⟨by simp[hI.lsz],hI.cl.set hj,by omega,?_,?_,?_,?_,?_,?_,?_,hI.tm' hr hj hoj hok hup2 hT (by rw[hcut2];exact hv),by rw[KI];exact hI.sz,by rw[JI];exact hI.df⟩⟩
 ·intro i hi hwn
  rw[GQ hls]
  by_cases e:i=j
  ·exact .inl e
  ·exact .inr (hahead i (by omega) hwn)
 ·intro i hi hw hl
  rcases(GQ hls).1 hl with e | hl
  ·omega
  ·exact hI.ph i (by omega) hw hl
 ·rw[hcut2];exact hup.trans hR0 hN
 ·intro id L hid hL
  rw[h2ge id hid] at hL
  obtain⟨i,h1,h2,h3,rfl⟩:=hI.dom id L (by omega) hL
  refine⟨i,?_,h2,(GQ hls).2 (.inr h3),rfl⟩
  have hij:i≠j:=fun e=>hnl (e▸h3)
  rcases Nat.lt_or_gt_of_ne hij with h | h
  ·have:=hr.new_lt h2 h (by omega);omega
  ·omega
 ·intro i hi hn hl
  have hl':=((GQ hls).1 hl).resolve_left (by omega)
  obtain⟨Lc,h1,h2,h3,h4⟩:=hI.ext i (by omega) hn hl'
  refine⟨Lc,hup2 _ _ h1,?_,h3,Nat.lt_of_lt_of_le h4 hN.fr.size⟩
  refine h2.mono (WG hup2 _) fun L hL hlv=>?_
  obtain⟨_,hL2⟩:=LP hL
  rw[h1] at hL2
  cases hL2
  exact hext i (by omega) hn hl' (by omega) Lc h1 h4
 ·intro i hi hn hl Lc hLc id L' hne hL' hlv
  have hl':=((GQ hls).1 hl).resolve_left (by omega)
  have hin:(S (j+1)).h.next≤(S i).h.next:=(hr.snx (by omega) (by have:=(hr.new1 hn).1;omega)).nx
  rw[h2ge _ hin] at hLc
  obtain⟨Lc',e1,_,_,hbW⟩:=hI.ext i (by omega) hn hl'
  rw[hLc] at e1
  cases e1
  rcases Nat.lt_or_ge id (S (j+1)).h.next with h | h
  ·have hlv':=hlv h
   rw[h2lt id h] at hL'
   rcases Nat.lt_or_ge id (S j).h.next with h' | h'
   ·have hl0:=hN.wasl id h' hlv'
    rw[hold id h'] at hL'
    exact hI.dis i (by omega) hn hl' Lc hLc id L' hne hL' fun hp=>by rw[← hlive id hp];exact hl0
   ·rcases hN.own id L' h' hlv' hL' with hb | ⟨k,L0,hw,_,hk,e⟩
    ·omega
    ·obtain⟨hk1,hk2⟩:=LP hk
     rw[← e]
     exact hI.dis i (by omega) hn hl' Lc hLc k L0 (by omega) hk2 fun hp=>by rw[← hlive k hp];exact hw.live
  ·rw[h2ge id h] at hL'
   exact hI.dis i (by omega) hn hl' Lc hLc id L' hne hL' fun hp=>by omega
 ·intro i hi hl o a id ho hw hc hid
  have hl':¬ listed.getD i false=true:=fun h=>hl ((GQ hls).2 (.inr h))
  have hij:i≠j:=fun e=>hl ((GQ hls).2 (.inl e))
  have hlt':i<j:=by omega
  have hun:∀ w,(listed.getD w false=true∨w=j)→i<w→H7 (Region.before ops) i w=true:=by
   intro w hlw hlt
   refine bO (by omega) (fun hb=>?_) (fun hb=>?_)
   ·have:=SB hr.dok i w hb;omega
   ·rcases hlw with hlw | rfl
    ·exact hl' (hI.cl.bit w i hlw hb)
    ·exact hl' (OK hI.cl hj hb)
  have hobj:FD P (B8 ρ (S i).h.next) W id ((S i).h.get id):=by
   rcases Nat.lt_or_ge i p with h | h
   ·exact hI.pend i h hl' o a id ho hw hc hid
   ·exact(hI.upto hr hR0 h (by omega) (fun k h1 h2=>hnoW k h1 (by omega)) (fun k h1 h2 hn=>hahead k (by omega) (.inr hn))).rel.obj id
  refine hobj.mono (WG hup2 _) fun L hL hlv=>?_
  obtain⟨hidi,hL2⟩:=LP hL
  have hij2:(S i).h.next≤(S j).h.next:=(hr.snx (by omega) (by omega)).nx
  have hsame:(S j).h.get id=(S i).h.get id:=hr.same (by omega) (by omega) hidi fun w h1 h2 hw'=>by
   obtain⟨ow,how,hww,hact'⟩:=hw'
   have hne:i≠w:=by
    rintro rfl
    rw[ho] at how
    cases how
    simp[EK,EB,hc] at hact'
   have hlw:=hahead w h2 (.inl ⟨ow,how,hww,hact'⟩)
   refine(hr.shield hne ho hw hc hid how hww hact' (hun w (.inl hlw) (by omega))).2.2 (Nat.lt_of_lt_of_le hidi (hr.snx (by omega) (by omega)).nx)
  have hsh:=hr.shield (w:=j) (by omega) ho hw hc hid hoj hwant hact (hun j (.inr rfl) hlt')
  refine hblk id L (by rw[HG (by omega)];exact hL2) (by rw[hsame];exact hlv) (fun ha=>⟨(hsh.1 ha).2,(hsh.1 ha).1⟩) (fun hs=>(hsh.2.1 hs).2)
end
section
variable {P:Program} {call:AK} {ops:Array Oper} {S:Nat→St} {n:Nat} {ρ0:AX} {W0:World} {D:List Deferred} {listed:Array Bool} {A:Act} {W:World} {ρ:AX} {p:Nat}
theorem Gr.refl (W:World):Gr W W:=⟨rfl,rfl,rfl,Nat.le_refl _,fun _ _=>rfl⟩
theorem DV.meet (hr:D3 P call ops S) (hR0:BK P ρ0 (S 0).h W0) (hI:DV P ops S n ρ0 W0 D listed A W ρ p) {j:Nat} (hj:j∈Region.ready .any ops listed) {oj:Oper} (hoj:ops[j]?=some oj)
  (hwant:DD ops (S j).T oj=true) (hact:EK oj=true∨EB oj=true):Nx P ρ0 (S 0).h W0 (B8 ρ (S j).h.next) (S j).h W:=by
 obtain⟨hnl,hlt⟩:=hI.unlisted hj
 have hWW:WW ops S j:=⟨oj,hoj,hwant,hact⟩
 have hpj:p≤j:=by
  rcases Nat.lt_or_ge j p with h | h
  ·exact absurd (hI.pw j h (.inl hWW)) hnl
  ·exact h
 have hahead:∀ i,i<j→(WW ops S i∨NN ops S i)→listed.getD i false=true:=by
  rintro i hi (⟨oi,hoi,_,h⟩ | ⟨oi,hoi,_,h⟩)
  ·exact OK hI.cl hj (hr.dok.s2 j i oj oi hoj hoi hact (by rcases h with h | h;exact .inl h;exact .inr (.inl h)) hi)
  ·exact OK hI.cl hj (hr.dok.s2 j i oj oi hoj hoi hact (.inr (.inr h)) hi)
 have hnoW:∀ i,p≤i→i<j→¬ WW ops S i:=fun i h1 h2 hw=>hI.ph i h1 hw (hahead i h2 (.inl hw))
 exact hI.upto hr hR0 hpj (by omega) hnoW (fun i h1 h2 hn=>hahead i h2 (.inr hn))
theorem D3.taken (hr:D3 P call ops S) {p j id:Nat} (hpj:p≤j) (hj:j≤ops.size) (h1:(S p).h.next≤id) (h2:id<(S j).h.next) :
  ∃ i,p≤i∧i<j∧((NN ops S i∧id=(S i).h.next)∨∃ o,ops[i]?=some o∧DD ops (S i).T o=true∧EK o=true):=by
 induction j with
 | zero => have:p=0:=by omega
           subst this;omega
 | succ j ih=>
  rcases Nat.lt_or_ge id (S j).h.next with h | h
  ·rcases Nat.lt_or_ge j p with h3 | h3
   ·have:p=j+1:=by omega
    subst this;omega
   ·obtain⟨i,hi1,hi2,hi3⟩:=ih h3 (by omega) h
    exact⟨i,hi1,by omega,hi3⟩
  ·have hpj':p≤j:=by
    rcases Nat.lt_or_ge j p with h3 | h3
    ·have:p=j+1:=by omega
     subst this;omega
    ·exact h3
   have ho:=Array.getElem?_eq_getElem (show j<ops.size by omega)
   refine⟨j,hpj',by omega,?_⟩
   cases hr.step j _ ho with
   | off _ e=>rw[e] at h2;exact absurd h2 (by simp;omega)
   | pure v _ _ _ _ e=>rw[e] at h2;exact absurd h2 (by simp;omega)
   | read v a _ _ _ _ e=>rw[e] at h2;exact absurd h2 (by simp;omega)
   | new v ob hw hc _ _ e=>
    rw[e] at h2
    have:id<(S j).h.next+1:=h2
    exact .inl ⟨⟨_,ho,hw,by simp[IR,hc]⟩,by omega⟩
   | act v h1 f hw hc _ _ _ e=>exact .inr ⟨_,ho,hw,by simp[EK,hc]⟩
   | store v a id' ob _ _ _ _ _ _ _ _ e=>
    rw[e] at h2
    have:id<(S j).h.next:=h2
    omega
theorem DV.seen (hr:D3 P call ops S) (hR0:BK P ρ0 (S 0).h W0) (hI:DV P ops S n ρ0 W0 D listed A W ρ p) {j:Nat} (hj:j∈Region.ready .any ops listed) {oj:Oper} (hoj:ops[j]?=some oj)
  (hwant:DD ops (S j).T oj=true) {a:Operand} (hc:AC oj.op=.read a) {id:Nat} (hid:C7 (ev (S j).T a)=some id) (hidj:id<(S j).h.next) :
  FD P (B8 ρ (S j).h.next) W id ((S j).h.get id):=by
 obtain⟨hnl,hlt⟩:=hI.unlisted hj
 rcases Nat.lt_or_ge j p with hjp | hpj
 ·exact hI.pend j hjp hnl oj a id hoj hwant hc hid
 have hloose:LK ops j=true→id<(S 0).h.next:=fun hl=>by
  cases hr.step j oj hoj with
  | off h _=>rw[hwant] at h;cases h
  | pure v _ hc' _ _ _=>rw[hc] at hc';cases hc'
  | read v a' _ hc' hlr _ _=>rw[hc] at hc';cases hc';exact hlr hl id hid
  | new v ob _ hc' _ _ _=>rw[hc] at hc';cases hc'
  | act v h1 f _ hc' _ _ _ _=>rw[hc] at hc';cases hc'
  | store v a id ob _ hc' _ _ _ _ _ _ _=>rw[hc] at hc';cases hc'
 have hun:∀ w,w<j→¬ listed.getD w false=true→H7 (Region.before ops) j w=true:=by
  intro w hw hlw
  refine bO (by omega) (fun hb=>hlw (OK hI.cl hj hb)) (fun hb=>?_)
  have:=SB hr.dok w j hb;omega
 have hun':∀ w,w<j→¬ listed.getD w false=true→H7 (Region.before ops) w j=true:=by
  intro w hw hlw
  refine bO (by omega) (fun hb=>?_) (fun hb=>hlw (OK hI.cl hj hb))
  have:=SB hr.dok w j hb;omega
 have hkeep:∀ q,p≤q→q≤j→id<(S q).h.next→(S j).h.get id=(S q).h.get id:=fun q hq hqj hidq=>hr.same hqj (by omega) hidq fun w h1 h2 hww=>by
  have hl:=hI.ph w (by omega) hww
  obtain⟨ow,how,hww',hact'⟩:=hww
  have hne:j≠w:=by omega
  exact(hr.shield hne hoj hwant hc hid how hww' hact' (hun w (by omega) hl)).2.2 (Nat.lt_of_lt_of_le hidq (hr.snx h1 (by omega)).nx)
 have hpn:(S p).h.next≤(S j).h.next:=(hr.snx hpj (by omega)).nx
 have h0p:(S 0).h.next≤(S p).h.next:=(hr.snx (Nat.zero_le _) (by omega)).nx
 rcases Nat.lt_or_ge id (S p).h.next with h | h
 ·rw[hkeep p (Nat.le_refl _) hpj h]
  exact(hI.nx.rel.obj id).mono (SL hpn) fun _ _ _=>rfl
 ·obtain⟨i,hi1,hi2,hor⟩:=hr.taken hpj (by omega) h hidj
  rcases hor with⟨hn,rfl⟩ | ⟨o,ho,hw,ha⟩
  ·by_cases hl:listed.getD i false=true
   ·obtain⟨Lc,h1,h2,_,_⟩:=hI.ext i hi1 hn hl
    have hlt':=(hr.new1 hn).2.1
    have hij:(S (i+1)).h.next≤(S j).h.next:=(hr.snx (by omega) (by omega)).nx
    rw[hkeep (i+1) (by omega) (by omega) (by omega)]
    exact h2.mono (SL (by omega)) fun _ _ _=>rfl
   ·obtain⟨o,ho,_,hnw⟩:=hn
    have:=hloose (bF ho (.inr ⟨hnw,hi2⟩) (hun' i hi2 hl))
    omega
  ·have hl:=hI.ph i hi1 ⟨o,ho,hw,.inl ha⟩
   have:=hloose (bF ho (.inl ha) (hun' i hi2 hl))
   omega
theorem Cl {h:AA} {a b:BB} (e:h.push a=h.push b):a=b:=by
 have h1:=BL (h:=h) (o:=a)
 rw[e,BL] at h1
 exact h1.symm
theorem bQ {h h':AA} {ρ ρ':AX} {W W':World} (hN:Nx P ρ h W ρ' h' W') (hd:∀ i,h.next≤i→ρ i=none) (hn:h'.next=h.next):ρ'=ρ:=by
 funext i
 rcases Nat.lt_or_ge i h.next with hi | hi
 ·exact hN.old i hi
 ·rw[hd i hi,hN.rel.dom i (by omega)]
theorem DV.one (hr:D3 P call ops S) (hR0:BK P ρ0 (S 0).h W0) (hI:DV P ops S n ρ0 W0 D listed A W ρ p) {j:Nat} (hj:j∈Region.ready .any ops listed) {oj:Oper} (hoj:ops[j]?=some oj) (hok:HF P n oj=true)
  {K:Act→World→Prop} {Q:Exit→Act→World→Prop} (hK:∀ A' W' ρ' p',DV P ops S n ρ0 W0 D (listed.setIfInBounds j true) A' W' ρ' p'→K A' W'):wpOp P ops Q j K A W:=by
 obtain⟨hnl,hlt⟩:=hI.unlisted hj
 unfold wpOp
 simp only[hoj]
 rw[XW (ops:=ops) (T:=(S j).T) (ρ:=B8 ρ (S j).h.next) fun t ht=>hI.slot hr hj hoj ht]
 have hdomj:∀ i,(S j).h.next≤i→B8 ρ (S j).h.next i=none:=fun i hi=>by unfold B8;rw[if_neg (by omega)]
 have hglobj:=hI.glob hr hR0 (j:=j) (by omega)
 have hopd:=hI.operand hr hR0 hj hoj hok
 have hdead:∀ f,BK P (B8 ρ (S j).h.next) (DO (S j).h.next f) W:=fun f=>YR hdomj hglobj
 have hstep:=hr.step j oj hoj
 by_cases hw:DD ops (S j).T oj=true
 ·rw [if_pos hw]
  refine .inl ?_
  cases hstep with
  | off h _=>rw[hw] at h;cases h
  | pure v _ hc hm hs e=>
   obtain⟨_,hall⟩:=bT hc hm hs
   refine PA hr.ok (hdead 0) hopd (hall (DO (S j).h.next 0)) fun V W' ρ' hN hv=>?_
   have e1:ρ'=B8 ρ (S j).h.next:=bQ hN hdomj rfl
   subst e1
   have hnw:¬ WW ops S j:=by rintro ⟨o,ho,_,h⟩;rw[hoj] at ho;cases ho;simp[EK,EB,hc] at h
   have hnn:¬ NN ops S j:=by rintro ⟨o,ho,_,h⟩;rw[hoj] at ho;cases ho;simp[IR,hc] at h
   refine hK _ _ ρ p (hI.quiet hr hj hoj hok hnw hnn (hN.fr.gr fun i=>by rw[LQ];exact id) (v:=v) (V:=V) (by rw[e]) (by rw[e];exact hv))
  | read v a _ hc hlr hs e=>
   obtain⟨_,hall⟩:=ZF hc hs
   have hnw:¬ WW ops S j:=by rintro ⟨o,ho,_,h⟩;rw[hoj] at ho;cases ho;simp[EK,EB,hc] at h
   have hnn:¬ NN ops S j:=by rintro ⟨o,ho,_,h⟩;rw[hoj] at ho;cases ho;simp[IR,hc] at h
   have key:∃ h2:AA,h2.next=(S j).h.next∧BK P (B8 ρ (S j).h.next) h2 W∧(∀ i,wr (h2.get i)→h2.floor≤i→False)∧∀ id,C7 (ev (S j).T a)=some id→h2.get id=(S j).h.get id:=by
    cases hid:C7 (ev (S j).T a) with
    | none=>exact⟨DO (S j).h.next 0,rfl,hdead 0,fun i hw=>by rw[LQ] at hw;exact hw.elim,fun id h=>by cases h⟩
    | some id=>
     by_cases hidj:id<(S j).h.next
     ·refine⟨(DO (S j).h.next (S j).h.next).put id ((S j).h.get id),rfl,gC hidj (hI.seen hr hR0 hj hoj hw hc hid hidj) hdomj hglobj,fun i hw hf=>?_,fun id' h=>?_⟩
      ·rw[QO hidj] at hw
       split at hw
       ·rename_i e;subst e
        have:(S j).h.next≤id:=hf
        omega
       ·exact hw.elim
      ·cases h;rw[QO hidj,if_pos rfl]
     ·exact⟨DO (S j).h.next 0,rfl,hdead 0,fun i hw=>by rw[LQ] at hw;exact hw.elim,fun id' h=>by cases h;rw[LQ,F_ (by omega)]⟩
   obtain⟨h2,e2,hR2,hno,hget⟩:=key
   refine PA hr.ok hR2 hopd (hall h2 hget) fun V W' ρ' hN hv=>?_
   have e1:ρ'=B8 ρ (S j).h.next:=bQ hN (by rw[e2];exact hdomj) rfl
   subst e1
   have hg:Gr W W':=⟨hN.fr.os,hN.fr.tape,hN.fr.output,hN.fr.size,fun b hb=>hN.fr.blk b hb fun i _ hw hf=>absurd hf fun hf=>hno i hw hf⟩
   refine hK _ _ ρ p (hI.quiet hr hj hoj hok hnw hnn hg (v:=v) (V:=V) (by rw[e]) (by rw[e];exact hv))
  | new v ob _ hc hwr hs e=>
   obtain⟨o',_,he,hall⟩:=XT hc hs
   have:=Cl he
   subst this
   have hnw:¬ WW ops S j:=by rintro ⟨o,ho,_,h⟩;rw[hoj] at ho;cases ho;simp[EK,EB,hc] at h
   have hnn:NN ops S j:=⟨oj,hoj,hw,by simp[IR,hc]⟩
   refine PA hr.ok (hdead 0) hopd (hall (DO (S j).h.next 0) rfl) fun V W' ρ' hN hv=>?_
   have hg:Gr W W':=hN.fr.gr fun i=>by rw[LQ];exact id
   have hob:=hN.rel.obj (S j).h.next
   have hgn:((DO (S j).h.next 0).push ob).get (S j).h.next=ob:=BL (h:=DO (S j).h.next 0)
   rw[hgn] at hob
   obtain⟨L,hL,hLb⟩:=hob.at_ hwr.live
   have hLn:W.heap.size≤L.b:=by
    rcases hN.own (S j).h.next L (Nat.le_refl _) (by rw[hgn];exact hwr.live) hL with h | ⟨k,L0,hk,_⟩
    ·exact h
    ·rw[LQ] at hk;exact hk.elim
   have e1:ρ'=B8 (C9 ρ (S j).h.next L) ((S j).h.next+1):=by
    funext i
    unfold B8
    by_cases h1:i<(S j).h.next
    ·rw[if_pos (by omega),GW (by omega),hN.old i h1,HG h1]
    ·by_cases h2:i=(S j).h.next
     ·subst h2;rw[if_pos (by omega),GS,hL]
     ·rw[if_neg (by omega)]
      exact hN.rel.dom i (by show (S j).h.next+1≤i;omega)
   subst e1
   have hnext:(S (j+1)).h.next=(S j).h.next+1:=by rw[e];rfl
   have hgetn:(S (j+1)).h.get (S j).h.next=ob:=by rw[e];exact BL
   refine hK _ _ _ p (hI.fresh hr hj hoj hok hnw hnn hg hLn hLb (by rw[hgetn];exact hob) (v:=v) (V:=V) (by rw[e]) (by rw[hnext];exact hv))
  | act v h1 f _ hc hf hl hs e=>
   have ha:EK oj=true:=by simp[EK,hc]
   have hup:=hI.meet hr hR0 hj hoj hw (.inl ha)
   have hs':EB oj≠true:=by simp[EB,hc]
   refine PA hr.ok (hup.rel.fl f) hopd hs fun V W' ρ' hN hv=>?_
   have hN':=hN.unfl hf
   have e1:(S (j+1)).h=h1.fl (S j).h.floor:=by rw[e]
   obtain⟨ρ2,hI2⟩:=hI.act hr hR0 hj hoj hok hw (.inl ha) (by rw[e1];exact hN') (fun id L hL hlv hca _=>by
    obtain⟨hla,hst⟩:=hca ha
    obtain⟨L2,e2,hb⟩:=(hup.rel.obj id).at_ hlv
    rw[hL] at e2
    cases e2
    refine hN.fr.blk _ hb fun i L' hwi hfi hL'=>?_
    have hfl:f≤i:=hfi
    have:=hl hla
    exact hup.rel.inj i id L' L hwi hlv (by omega) hL' hL) (v:=v) (V:=V) (by rw[e]) hv
   exact hK _ _ ρ2 _ hI2
  | store v a id ob _ hc hid hall h1 h2 hor hs e=>
   have hst:EB oj=true:=by simp[EB,hc]
   have hna:EK oj≠true:=by simp[EK,hc]
   have hup:=hI.meet hr hR0 hj hoj hw (.inr hst)
   obtain⟨a',id',ob',hor',hid',he,hlt',hfl',hwr',hall'⟩:=SS hc hs
   have ha:a'=a:=by
    rcases hor with⟨_,_,e⟩ | ⟨_,_,_,e | e⟩ <;> rcases hor' with⟨_,_,e'⟩ | ⟨_,_,_,e' | e'⟩ <;> rw[e] at e' <;> cases e' <;> rfl
   subst ha
   rw[hid] at hid'
   cases hid'
   have hob:ob'=ob:=by
    have:=congrArg (fun h:AA=>h.get id) he
    simp only[CE hup.rel.len hlt'] at this
    exact this.symm
   subst hob
   obtain⟨L,hL,hLW⟩:=(hup.rel.obj id).at_ hwr'.live
   have hRo:BK P (B8 ρ (S j).h.next) ((DO (S j).h.next (S j).h.floor).put id ((S j).h.get id)) W:=gC hlt' (hup.rel.obj id) hdomj hglobj
   refine PA hr.ok hRo hopd (hall' _ (by rw[QO hlt',if_pos rfl]) rfl) fun V W' ρ' hN hv=>?_
   have e1:ρ'=B8 ρ (S j).h.next:=bQ hN hdomj rfl
   subst e1
   have hblk:∀ b,b<W.heap.size→b≠L.b→W'.heap[b]?=W.heap[b]?:=fun b hb hne=>hN.fr.blk b hb fun i L' hwi _ hL'=>by
    rw[QO hlt'] at hwi
    split at hwi
    ·rename_i e;subst e;rw[hL] at hL';cases hL';exact Ne.symm hne
    ·exact hwi.elim
   have hobn:=hN.rel.obj id
   rw[CE (R_ (TY _ _)) hlt'] at hobn
   have hN2:=U7 hup.rel hwr' h2 hL hN.fr.os hN.fr.tape hN.fr.output hN.fr.size hblk hobn
   have e2:(S (j+1)).h=(S j).h.put id ob':=by rw[e]
   obtain⟨ρ2,hI2⟩:=hI.act hr hR0 hj hoj hok hw (.inr hst) (by rw[e2];exact hN2) (fun id0 L0 hL0 hlv _ hcs=>by
    obtain⟨L2,e3,hb⟩:=(hup.rel.obj id0).at_ hlv
    rw[hL0] at e3
    cases e3
    refine hblk _ hb ?_
    have hne:=hcs hst id hall
    exact Ne.symm (hup.rel.inj id id0 L L0 hwr' hlv (Ne.symm hne) hL hL0)) (v:=v) (V:=V) (by rw[e]) hv
   exact hK _ _ ρ2 _ hI2
 ·rw[if_neg hw]
  cases hstep with
  | off _ e=>
   have hnw:¬ WW ops S j:=by rintro ⟨o,ho,h,_⟩;rw[hoj] at ho;cases ho;exact hw h
   have hnn:¬ NN ops S j:=by rintro ⟨o,ho,h,_⟩;rw[hoj] at ho;cases ho;exact hw h
   exact hK _ _ ρ p (hI.quiet hr hj hoj hok hnw hnn (Gr.refl W) (v:=undef) (V:=undef) (by rw[e]) MC)
  | pure v h _ _ _ _=>exact absurd h hw
  | read v a h _ _ _ _=>exact absurd h hw
  | new v ob h _ _ _ _=>exact absurd h hw
  | act v h1 f h _ _ _ _ _=>exact absurd h hw
  | store v a id ob h _ _ _ _ _ _ _ _=>exact absurd h hw
theorem DV.done (hr:D3 P call ops S) (hR0:BK P ρ0 (S 0).h W0) (hI:DV P ops S n ρ0 W0 D listed A W ρ p) (hall:∀ i,i<ops.size→listed.getD i false=true) :
  Nx P ρ0 (S 0).h W0 (B8 ρ (S ops.size).h.next) (S ops.size).h W∧EX (B8 ρ (S ops.size).h.next) (S ops.size).T A:=by
 refine⟨hI.upto hr hR0 hI.ple (Nat.le_refl _) (fun i h1 h2 hw=>hI.ph i h1 hw (hall i h2)) (fun i _ h2 _=>hall i h2),fun t=>?_⟩
 obtain⟨m,hm,_,hmw,hv⟩:=hI.tm t
 rw[hr.Tsame hm (Nat.le_refl _) fun i o h1 h2 ho hd=>?_]
 ·exact hv.mono (SL (hr.snx hm (Nat.le_refl _)).nx)
 ·have:=(hmw i o ho hd).1 (hall i h2)
  omega
theorem r8 {ops:Array Oper} (hD:VR ops) {listed:Array Bool} (hs:listed.size=ops.size) (hn:Region.ready .any ops listed=[]):∀ i,i<ops.size→listed.getD i false=true:=by
 intro i
 induction i using Nat.strongRecOn with
 | _ i ih=>
  intro hi
  cases hl:listed.getD i false with
  | true=>rfl
  | false=>
   have ho:=Array.getElem?_eq_getElem hi
   have:i∈Region.ready .any ops listed:=mem_ready.2 ⟨by
    have hl':i<listed.size:=by omega
    simp[hl'] at hl ⊢
    exact hl,ops[i],ho,fun e he hb=>ih e.on (hD.edge i _ ho e he hb) (Nat.lt_trans (hD.edge i _ ho e he hb) hi)⟩
   rw[hn] at this
   cases this
theorem eU {listed:Array Bool} {j k:Nat} (hj:j<listed.size) (hl:listed.getD j false=false) (hc:listed.toList.count false≤k+1):(listed.setIfInBounds j true).toList.count false≤k:=by
 rw[Array.toList_setIfInBounds,List.count_set (by simpa using hj)]
 have:listed.toList[j]'(by simpa using hj)=false:=by simpa [hj] using hl
 simp[this]
 simp at hc
 omega
theorem DV.any (hr:D3 P call ops S) (hR0:BK P ρ0 (S 0).h W0) (hok:∀ (j:Nat) oj,ops[j]?=some oj→HF P n oj=true) {Q:Exit→Act→World→Prop}
  (hQ:∀ A W ρ',Nx P ρ0 (S 0).h W0 ρ' (S ops.size).h W→EX ρ' (S ops.size).T A→A.tmps.size=n→A.defers=D→Q .normal A W) :
  ∀ (fuel:Nat) (listed:Array Bool) (A:Act) (W:World) (ρ:AX) (p:Nat),listed.toList.count false≤fuel→DV P ops S n ρ0 W0 D listed A W ρ p→wpAny P .any ops Q fuel listed A W:=by
 intro fuel
 induction fuel with
 | zero=>
  intro listed A W ρ p hc hI
  have hall:∀ i,i<ops.size→listed.getD i false=true:=fun i hi=>by
   cases hl:listed.getD i false with
   | true=>rfl
   | false=>
    have hi':i<listed.size:=by rw[hI.lsz];exact hi
    have h0:listed.toList.count false=0:=by omega
    have hmem:false∈listed.toList:=by
     have:listed[i]=false:=by simpa [hi'] using hl
     rw[← this]
     simp
    exact absurd hmem (List.count_eq_zero.1 h0)
  refine⟨?_,?_⟩
  ·cases hn:Region.ready .any ops listed with
   | nil=>rfl
   | cons i r=>
    have hi:i∈Region.ready .any ops listed:=by rw[hn];simp
    obtain⟨h1,h2⟩:=hI.unlisted hi
    exact absurd (hall i h2) h1
  ·obtain⟨h1,h2⟩:=hI.done hr hR0 hall
   exact hQ _ _ _ h1 h2 hI.sz hI.df
 | succ fuel ih=>
  intro listed A W ρ p hc hI
  refine⟨fun hn=>?_,fun i hi=>?_⟩
  ·obtain⟨h1,h2⟩:=hI.done hr hR0 (r8 hr.dok hI.lsz hn)
   exact hQ _ _ _ h1 h2 hI.sz hI.df
  ·obtain⟨hnl,hlt⟩:=hI.unlisted hi
   have ho:=Array.getElem?_eq_getElem hlt
   exact hI.one hr hR0 hi ho (hok _ _ ho) fun A' W' ρ' p' hI'=>ih _ _ _ _ _ (eU (by rw[hI.lsz];exact hlt) (by simpa using hnl) hc) hI'
theorem DV.start (hR0:BK P ρ0 (S 0).h W0) (hT:EX ρ0 (S 0).T A) (hn:A.tmps.size=n):DV P ops S n ρ0 W0 A.defers (Array.replicate ops.size false) A W0 ρ0 0:=by
 have hcut:B8 ρ0 (S 0).h.next=ρ0:=by
  funext i
  unfold B8
  split
  ·rfl
  ·rename_i h;exact(hR0.dom i (by omega)).symm
 have hno:∀ i,¬ (Array.replicate ops.size false).getD i false=true:=fun i=>by
  rw[Array.getD_eq_getD_getElem?,Array.getElem?_replicate]
  split <;> simp
 refine⟨by simp,fun j o hl=>absurd hl (hno j),Nat.zero_le _,fun i hi=>absurd hi (by omega),fun i _ _=>hno i,by rw[hcut];exact Nx.refl hR0,fun id L h1 h2=>?_,fun i _ _ hl=>absurd hl (hno i),fun i _ _ hl=>absurd hl (hno i),
  fun j hj=>absurd hj (by omega),fun t=>⟨0,Nat.zero_le _,.inl rfl,fun i o _ _=>⟨fun h=>absurd h (hno i),fun h=>by omega⟩,by rw[hcut];exact hT t⟩,hn,rfl⟩
 rw[hR0.dom id h1] at h2
 cases h2
end
theorem rD {P:Program} {call:AK} (hcall:CR P call) (hsn:∀ f args h v h',call f args h=some (v,h')→DG h h') (hm:P.follows .mixedOrders=true) {id:Nat} {ops:Array Oper} {n:Nat}
  (hok:∀ (j:Nat) oj,ops[j]?=some oj→HF P n oj=true) (hd:UY ops=true) {s s':St} (hs:JZ P call ops s.h.next 0 ops.toList s=some s') {ρ:AX} {A:Act} {W:World} (hR:BK P ρ s.h W) (hT:EX ρ s.T A) (hn:A.tmps.size=n)
  {Q:Exit→Act→World→Prop} (hQ:∀ A' W' ρ',Nx P ρ s.h W ρ' s'.h W'→EX ρ' s'.T A'→A'.tmps.size=n→A'.defers=A.defers→Q .normal A' W'):(Code.region id ops true).wp P Q A W:=by
 obtain⟨S,h0,h1,hstep⟩:=w_ _ _ _ _ hs
 simp only[Nat.zero_add,Array.length_toList] at h1 hstep
 have hr:D3 P call ops S:=⟨hsn,hcall,xF hd,fun k o ho=>by
  have:=hstep k o (by simpa using ho)
  rw[← h0] at this
  exact jG hsn this⟩
 refine wp_region_any hm ?_
 have hg:Gr W { W with drawn:=W.drawn+1 }:=⟨rfl,rfl,rfl,Nat.le_refl _,fun _ _=>rfl⟩
 have hR':BK P ρ (S 0).h { W with drawn:=W.drawn+1 }:=by rw[h0];exact hR.grow hg
 refine DV.any hr hR' hok (D:=A.defers) (n:=n) (fun A' W' ρ' hN hT' hn' hd'=>hQ A' W' ρ' ?_ ?_ hn' hd') _ _ _ _ ρ 0 ?_ (DV.start hR' (by rw[h0];exact hT) hn)
 ·rw[← h1]
  have hN0:Nx P ρ s.h W ρ s.h { W with drawn:=W.drawn+1 }:=(Nx.refl hR).grow hg
  rw[h0] at hN
  exact hN0.trans hR hN
 ·rw[← h1];exact hT'
 ·rw[Array.toList_replicate,List.count_replicate]
  simp
end Go.Sx
