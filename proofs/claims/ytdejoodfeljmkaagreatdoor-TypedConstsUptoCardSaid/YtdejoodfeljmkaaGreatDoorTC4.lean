/- Part 4 of what the claim leans on: 4 texts laid one behind another. -/
import Derived.Test.YtdejoodfeljmkaaGreatDoorTC3
namespace Go.Sx
open Go
set_option linter.unusedSimpArgs false
set_option linter.unusedVariables false
set_option maxHeartbeats 64000000
def cutm (ρ:Map) (m:Nat):Map:=fun id=>if id<m then ρ id else none
theorem J2u {ρ:Map} {m id:Nat} {L:Loc} (h:cutm ρ m id=some L):id<m∧ρ id=some L:=by
 unfold cutm at h
 split at h
 ·exact⟨‹_›,h⟩
 ·cases h
theorem J33 {ρ:Map} {m id:Nat} (h:id<m):cutm ρ m id=ρ id:=by unfold cutm;rw[if_pos h]
theorem J4K {ρ:Map} {m m':Nat} (h:m≤m'):∀ i L,cutm ρ m i=some L→cutm ρ m' i=some L:=fun i L hi=>by
 obtain⟨h1,h2⟩:=J2u hi
 rw[J33 (by omega)]
 exact h2
theorem J7N {ρ ρ':Map} (hρ:∀ i L,ρ i=some L→ρ' i=some L) (m:Nat):∀ i L,cutm ρ m i=some L→cutm ρ' m i=some L:=fun i L hi=>by
 obtain⟨h1,h2⟩:=J2u hi
 rw[J33 h1]
 exact hρ _ _ h2
def J2v (m f:Nat):SHeap:=⟨m,f,.leaf⟩
theorem J2C (m f i:Nat):(J2v m f).get i=.dead:=by
 unfold SHeap.get J2v
 simp only
 split <;> rfl
theorem J5t (m f:Nat):(J2v m f).good:=rfl
section
variable {P:Program} {ρ:Map} {W:World}
theorem Jb1 {m f:Nat} (hd:∀ i,m≤i→ρ i=none) (hg:∀ g,g<P.globals.size→∃ L,ρ g=some L∧L.b=g∧L.d=0):Rel P ρ (J2v m f) W:=
 ⟨J5t m f,hd,hg,fun i=>by rw[J2C];trivial,fun i j L L' hw=>by rw[J2C] at hw;exact hw.elim⟩
theorem J4V {m f id i:Nat} {o:SObj} (hid:id<m):((J2v m f).put id o).get i=if id=i then o else .dead:=by
 by_cases e:id=i
 ·subst e;rw[if_pos rfl,J0b (J5t m f) hid]
 ·rw[if_neg e,J05 (h:=J2v m f) hid e,J2C]
theorem Jcl {m f id:Nat} {o:SObj} (hid:id<m) (ho:objR P ρ W id o) (hd:∀ i,m≤i→ρ i=none) (hg:∀ g,g<P.globals.size→∃ L,ρ g=some L∧L.b=g∧L.d=0):Rel P ρ ((J2v m f).put id o) W:=
 ⟨J6u (J5t m f),hd,hg,fun i=>by
  rw[J4V hid]
  split
  ·rename_i e;subst e;exact ho
  ·trivial,fun i j L L' hw hl hne _ _=>by
  rw[J4V hid] at hw hl
  split at hw
  ·split at hl
   ·omega
   ·exact hl.elim
  ·exact hw.elim⟩
structure Gr (W W':World):Prop where
 os:W'.os=W.os
 tape:W'.tape=W.tape
 output:W'.output=W.output
 size:W.heap.size≤W'.heap.size
 blk:∀ b,b<W.heap.size→W'.heap[b]?=W.heap[b]?
theorem objR.grow {W':World} {i:Nat} {o:SObj} (hg:Gr W W') (h:objR P ρ W i o):objR P ρ W' i o:=
 h.mono (fun _ _ h=>h) fun L hL hl=>by
  obtain⟨L2,e2,hlt⟩:=h.at_ hl
  rw[hL] at e2
  cases e2
  exact hg.blk _ hlt
theorem Rel.grow {h:SHeap} {W':World} (hg:Gr W W') (hR:Rel P ρ h W):Rel P ρ h W':=⟨hR.len,hR.dom,hR.glob,fun i=>(hR.obj i).grow hg,hR.inj⟩
theorem Nx.grow {ρ':Map} {h h':SHeap} {W' W'':World} (hg:Gr W' W'') (hn:Nx P ρ h W ρ' h' W'):Nx P ρ h W ρ' h' W'':=
 ⟨hn.ext,hn.old,hn.rel.grow hg,⟨hg.os.trans hn.fr.os,hg.tape.trans hn.fr.tape,hg.output.trans hn.fr.output,Nat.le_trans hn.fr.size hg.size,
  fun b hb hno=>(hg.blk b (Nat.lt_of_lt_of_le hb hn.fr.size)).trans (hn.fr.blk b hb hno)⟩,hn.nx,hn.floor,hn.keep,hn.was,hn.wasl,hn.own⟩
theorem Fr.gr {h:SHeap} {W':World} (hf:Fr ρ h W W') (hno:∀ i,¬ wr (h.get i)):Gr W W':=
 ⟨hf.os,hf.tape,hf.output,hf.size,fun b hb=>hf.blk b hb fun i _ hw=>absurd hw (hno i)⟩
theorem Rel.fl {h:SHeap} (hR:Rel P ρ h W) (f:Nat):Rel P ρ (h.fl f) W:=⟨hR.len,hR.dom,hR.glob,hR.obj,hR.inj⟩
theorem Nx.unfl {ρ':Map} {h h':SHeap} {W':World} {f:Nat} (hf:h.floor≤f) (hn:Nx P ρ (h.fl f) W ρ' h' W'):Nx P ρ h W ρ' (h'.fl h.floor) W':=
 ⟨hn.ext,hn.old,hn.rel.fl _,⟨hn.fr.os,hn.fr.tape,hn.fr.output,hn.fr.size,fun b hb hno=>hn.fr.blk b hb fun i L hw hfi hL=>hno i L hw (Nat.le_trans hf hfi) hL⟩,hn.nx,rfl,
  fun i hi hfi=>hn.keep i hi (Nat.lt_of_lt_of_le hfi hf),hn.was,hn.wasl,fun i L hi hw hL=>(hn.own i L hi hw hL).imp id fun ⟨j,L0,h1,h2,h3,h4⟩=>⟨j,L0,h1,Nat.le_trans hf h2,h3,h4⟩⟩
theorem Nx.adopt {ρ':Map} {h h':SHeap} {W':World} {o:SObj} {L:Loc} (hR:Rel P ρ h W) (hn:Nx P ρ h W (cutm ρ' h'.next) h' W') (hL:ρ' h'.next=some L) (ho:objR P (cutm ρ' (h'.next+1)) W' h'.next o)
  (hb:W.heap.size≤L.b) (hdis:∀ id L',id<h'.next→ρ' id=some L'→live (h'.get id)→L'.b≠L.b):Nx P ρ h W (cutm ρ' (h'.next+1)) (h'.push o) W':=by
 have hget:∀ i,(h'.push o).get i=if i=h'.next then o else h'.get i:=fun i=>by
  by_cases e:i=h'.next
  ·subst e;rw[if_pos rfl,J0h]
  ·rw[if_neg e,J3n e]
 have hup:∀ i L',cutm ρ' h'.next i=some L'→cutm ρ' (h'.next+1) i=some L':=J4K (Nat.le_succ _)
 refine⟨fun i L' hi=>hup _ _ (hn.ext i L' hi),fun i hi=>?_,⟨J8c hn.rel.len,?_,?_,?_,?_⟩,hn.fr,Nat.le_trans hn.nx (by simp[SHeap.push]),hn.floor,?_,?_,?_,?_⟩
 ·have h1:=hn.nx
  rw[← hn.old i hi,J33 (by omega),J33 (by omega)]
 ·intro i hi
  have hi':h'.next+1≤i:=hi
  unfold cutm
  rw[if_neg (by omega)]
 ·intro g hg
  obtain⟨L',h1,h2,h3⟩:=hn.rel.glob g hg
  exact⟨L',hup _ _ h1,h2,h3⟩
 ·intro i
  rw[hget]
  split
  ·rename_i e;subst e;exact ho
  ·exact(hn.rel.obj i).mono hup fun _ _ _=>rfl
 ·intro i j Li Lj hw hl hne hi hj
  rw[hget] at hw hl
  obtain⟨hi1,hi2⟩:=J2u hi
  obtain⟨hj1,hj2⟩:=J2u hj
  by_cases ei:i=h'.next
  ·subst ei
   rw[if_neg (Ne.symm hne)] at hl
   rw[hL] at hi2
   cases hi2
   exact Ne.symm (hdis j Lj (by omega) hj2 hl)
  ·rw[if_neg ei] at hw
   by_cases ej:j=h'.next
   ·subst ej
    rw[hL] at hj2
    cases hj2
    exact hdis i Li (by omega) hi2 hw.live
   ·rw[if_neg ej] at hl
    exact hn.rel.inj i j Li Lj hw hl hne (by rw[J33 (by omega)];exact hi2) (by rw[J33 (by omega)];exact hj2)
 ·intro i hi hf
  have h1:=hn.nx
  rw[hget,if_neg (by omega)]
  exact hn.keep i hi hf
 ·intro i hi hw
  have h1:=hn.nx
  rw[hget,if_neg (by omega)] at hw
  exact hn.was i hi hw
 ·intro i hi hw
  have h1:=hn.nx
  rw[hget,if_neg (by omega)] at hw
  exact hn.wasl i hi hw
 ·intro i L' hi hw hL'
  obtain⟨h1,h2⟩:=J2u hL'
  rw[hget] at hw
  by_cases e:i=h'.next
  ·subst e
   rw[hL] at h2
   cases h2
   exact .inl hb
  ·rw[if_neg e] at hw
   exact hn.own i L' hi hw (by rw[J33 (by omega)];exact h2)
end
structure Run (P:Program) (call:J0r) (ops:Array Oper) (S:Nat→St):Prop where
 sn:∀ f args h v h',call f args h=some (v,h')→SNx h h'
 ok:J1x P call
 dok:DOK ops
 step:∀ k o,ops[k]?=some o→StepK P call ops (S 0).h.next k o (S k) (S (k+1))
section
variable {P:Program} {call:J0r} {ops:Array Oper} {S:Nat→St}
def WW (ops:Array Oper) (S:Nat→St) (k:Nat):Prop:=∃ o,ops[k]?=some o∧J27 ops (S k).T o=true∧(J2w o=true∨J11 o=true)
def NN (ops:Array Oper) (S:Nat→St) (k:Nat):Prop:=∃ o,ops[k]?=some o∧J27 ops (S k).T o=true∧J50 o=true
theorem Run.snx1 (hr:Run P call ops S) {k:Nat} {o:Oper} (ho:ops[k]?=some o):SNx (S k).h (S (k+1)).h:=by
 cases hr.step k o ho with
 | off _ e=>rw[e];exact .refl _
 | pure v _ _ _ _ e=>rw[e];exact .refl _
 | read v a _ _ _ _ e=>rw[e];exact .refl _
 | new v ob _ _ _ _ e=>rw[e];exact .push _ _
 | act v h1 f _ hc hf _ hs e=>rw[e];exact SNx.unfl hf (J6o hr.sn hc hs)
 | store v a id ob _ _ _ _ h1 h2 _ _ e=>rw[e];exact .put h1 h2
theorem Run.snx (hr:Run P call ops S) {i j:Nat} (hij:i≤j) (hj:j≤ops.size):SNx (S i).h (S j).h:=by
 induction j with
 | zero => have:i=0:=by omega
           subst this;exact .refl _
 | succ j ih=>
  rcases Nat.lt_or_ge j i with h1 | h1
  ·have:i=j+1:=by omega
   subst this;exact .refl _
  ·have hlt:j<ops.size:=by omega
   exact(ih h1 (by omega)).trans (hr.snx1 (Array.getElem?_eq_getElem hlt))
theorem Run.T1 (hr:Run P call ops S) {k:Nat} {o:Oper} (ho:ops[k]?=some o):∃ v,(S (k+1)).T=(S k).T.put o.dst v:=by
 cases hr.step k o ho with
 | off _ e=>exact⟨_,by rw[e]⟩
 | pure v _ _ _ _ e=>exact⟨_,by rw[e]⟩
 | read v a _ _ _ _ e=>exact⟨_,by rw[e]⟩
 | new v ob _ _ _ _ e=>exact⟨_,by rw[e]⟩
 | act v h1 f _ hc hf _ hs e=>exact⟨_,by rw[e]⟩
 | store v a id ob _ _ _ _ h1 h2 _ _ e=>exact⟨_,by rw[e]⟩
theorem Run.Tsame (hr:Run P call ops S) {t i j:Nat} (hij:i≤j) (hj:j≤ops.size) (hno:∀ m o,i≤m→m<j→ops[m]?=some o→o.dst≠some t):(S j).T.get t=(S i).T.get t:=by
 induction j with
 | zero => have:i=0:=by omega
           subst this;rfl
 | succ j ih=>
  rcases Nat.lt_or_ge j i with h1 | h1
  ·have:i=j+1:=by omega
   subst this;rfl
  ·have hlt:j<ops.size:=by omega
   have ho:=Array.getElem?_eq_getElem hlt
   obtain⟨v,hv⟩:=hr.T1 ho
   rw[hv,Tr.get_put,if_neg (hno j _ h1 (by omega) ho)]
   exact ih h1 (by omega) fun m o h2 h3=>hno m o h2 (by omega)
theorem Run.keep1 (hr:Run P call ops S) {k id:Nat} (hk:k<ops.size) (hid:id<(S k).h.next) (hw:¬ WW ops S k):(S (k+1)).h.get id=(S k).h.get id:=by
 have ho:=Array.getElem?_eq_getElem hk
 cases hr.step k _ ho with
 | off _ e=>rw[e]
 | pure v _ _ _ _ e=>rw[e]
 | read v a _ _ _ _ e=>rw[e]
 | new v ob _ _ _ _ e=>rw[e];exact J06 hid
 | act v h1 f hwant hc _ _ _ _=>exact absurd ⟨_,ho,hwant,.inl (by simp[J2w,hc])⟩ hw
 | store v a id' ob hwant hc _ _ _ _ _ _ _=>exact absurd ⟨_,ho,hwant,.inr (by simp[J11,hc])⟩ hw
theorem Run.same (hr:Run P call ops S) {i j id:Nat} (hij:i≤j) (hj:j≤ops.size) (hid:id<(S i).h.next) (hw:∀ w,i≤w→w<j→WW ops S w→(S (w+1)).h.get id=(S w).h.get id):(S j).h.get id=(S i).h.get id:=by
 induction j with
 | zero => have:i=0:=by omega
           subst this;rfl
 | succ j ih=>
  rcases Nat.lt_or_ge j i with h1 | h1
  ·have:i=j+1:=by omega
   subst this;rfl
  ·rw[← ih h1 (by omega) fun w h2 h3=>hw w h2 (by omega)]
   by_cases h2:WW ops S j
   ·exact hw j h1 (by omega) h2
   ·exact hr.keep1 (by omega) (Nat.lt_of_lt_of_le hid (hr.snx h1 (by omega)).nx) h2
theorem Run.new1 (hr:Run P call ops S) {k:Nat} (hn:NN ops S k):k<ops.size∧(S (k+1)).h.next=(S k).h.next+1∧∃ ob,wr ob∧(S (k+1)).h=(S k).h.push ob∧(S (k+1)).h.get (S k).h.next=ob:=by
 obtain⟨o,ho,hw,hc⟩:=hn
 have hk:k<ops.size:=(Array.getElem?_eq_some_iff.1 ho).1
 refine⟨hk,?_⟩
 cases hr.step k o ho with
 | off h _=>rw[hw] at h;cases h
 | pure v _ hc' _ _ e=>simp[J50,hc'] at hc
 | read v a _ hc' _ _ e=>simp[J50,hc'] at hc
 | new v ob _ _ hwr _ e=>rw[e];exact⟨rfl,ob,hwr,rfl,J0h⟩
 | act v h1 f _ hc' _ _ _ e=>simp[J50,hc'] at hc
 | store v a id ob _ hc' _ _ h1 h2 _ _ e=>simp[J50,hc'] at hc
theorem Run.new_lt (hr:Run P call ops S) {i k:Nat} (hn:NN ops S i) (hik:i<k) (hk:k≤ops.size):(S i).h.next<(S k).h.next:=by
 obtain⟨h1,h2,_⟩:=hr.new1 hn
 have:=(hr.snx (i:=i+1) (j:=k) (by omega) hk).nx
 omega
theorem Run.new_ne (hr:Run P call ops S) {i k:Nat} (hi:NN ops S i) (hk:NN ops S k) (hne:i≠k):(S i).h.next≠(S k).h.next:=by
 have h1:=(hr.new1 hi).1
 have h2:=(hr.new1 hk).1
 rcases Nat.lt_or_gt_of_ne hne with h | h
 ·have:=hr.new_lt hi h (by omega);omega
 ·have:=hr.new_lt hk h (by omega);omega
end
structure Inv (P:Program) (ops:Array Oper) (S:Nat→St) (n:Nat) (ρ0:Map) (W0:World) (D:List Deferred) (listed:Array Bool) (A:Act) (W:World) (ρ:Map) (p:Nat):Prop where
 lsz:listed.size=ops.size
 cl:J6y ops listed
 ple:p≤ops.size
 pw:∀ i,i<p→(WW ops S i∨NN ops S i)→listed.getD i false=true
 ph:∀ i,p≤i→WW ops S i→¬ listed.getD i false=true
 nx:Nx P ρ0 (S 0).h W0 (cutm ρ (S p).h.next) (S p).h W
 dom:∀ id L,(S p).h.next≤id→ρ id=some L→∃ i,p≤i∧NN ops S i∧listed.getD i false=true∧id=(S i).h.next
 ext:∀ i,p≤i→NN ops S i→listed.getD i false=true→∃ Lc,ρ (S i).h.next=some Lc∧objR P (cutm ρ ((S i).h.next+1)) W (S i).h.next ((S (i+1)).h.get (S i).h.next)∧W0.heap.size≤Lc.b∧Lc.b<W.heap.size
 dis:∀ i,p≤i→NN ops S i→listed.getD i false=true→∀ Lc,ρ (S i).h.next=some Lc→∀ id L',id≠(S i).h.next→ρ id=some L'→(id<(S p).h.next→live ((S p).h.get id))→L'.b≠Lc.b
 pend:∀ j,j<p→¬ listed.getD j false=true→∀ o a id,ops[j]?=some o→J27 ops (S j).T o=true→J04 o.op=.read a→idOf (ev (S j).T a)=some id→objR P (cutm ρ (S j).h.next) W id ((S j).h.get id)
 tm:∀ t,∃ m,m≤ops.size∧(m=0∨∃ o,ops[m-1]?=some o∧o.dst=some t∧listed.getD (m-1) false=true)∧(∀ i o,ops[i]?=some o→o.dst=some t→(listed.getD i false=true↔i<m)) ∧
   vrel (cutm ρ (S m).h.next) ((S m).T.get t) (A.tmps.getD t undef)
 sz:A.tmps.size=n
 df:A.defers=D
section
variable {P:Program} {call:J0r} {ops:Array Oper} {S:Nat→St} {n:Nat} {ρ0:Map} {W0:World} {D:List Deferred} {listed:Array Bool} {A:Act} {W:World} {ρ:Map} {p:Nat}
theorem J0x {listed:Array Bool} {j i:Nat} (hj:j<listed.size):(listed.setIfInBounds j true).getD i false=true↔(i=j∨listed.getD i false=true):=by
 by_cases e:j=i
 ·subst e
  simp[hj]
 ·rw[getD_set_ne false e]
  constructor
  ·exact .inr
  ·rintro (h | h)
   ·exact absurd h.symm e
   ·exact h
theorem Inv.writers (hr:Run P call ops S) (hI:Inv P ops S n ρ0 W0 D listed A W ρ p) {j:Nat} (hj:j∈Region.ready .any ops listed) {oj:Oper} (hoj:ops[j]?=some oj) {t:Tmp} (ht:t∈oj.looksAt ops∨oj.dst=some t)
  {i:Nat} {oi:Oper} (hoi:ops[i]?=some oi) (hd:oi.dst=some t) (hne:i≠j):(listed.getD i false=true↔i<j):=by
 have hnl:¬ listed.getD j false=true:=by
  have:=(mem_ready.1 hj).1
  intro h
  have:listed.getD j false=false:=by
   rcases Nat.lt_or_ge j listed.size with hlt | hge
   ·simp[hlt] at this ⊢;exact this
   ·simp[Array.getElem?_eq_none hge] at this
  rw[this] at h
  cases h
 rcases hr.dok.s6 j i oj oi t hoj hoi hne hd ht with hb | hb
 ·have h1:=J3b hI.cl hj hb
  have h2:=J8C hr.dok j i hb
  exact⟨fun _=>h2,fun _=>h1⟩
 ·have h2:=J8C hr.dok i j hb
  constructor
  ·intro hl;exact absurd (hI.cl.bit i j hl hb) hnl
  ·intro hlt;omega
theorem Inv.unlisted (hI:Inv P ops S n ρ0 W0 D listed A W ρ p) {j:Nat} (hj:j∈Region.ready .any ops listed):¬ listed.getD j false=true∧j<ops.size:=by
 obtain⟨h1,o,ho,_⟩:=mem_ready.1 hj
 have hlt:j<ops.size:=(Array.getElem?_eq_some_iff.1 ho).1
 refine⟨fun h=>?_,hlt⟩
 have hl:j<listed.size:=by rw[hI.lsz];exact hlt
 simp[hl] at h1 h
 rw[h1] at h
 cases h
theorem Inv.slot (hr:Run P call ops S) (hI:Inv P ops S n ρ0 W0 D listed A W ρ p) {j:Nat} (hj:j∈Region.ready .any ops listed) {oj:Oper} (hoj:ops[j]?=some oj) {t:Tmp} (ht:t∈oj.looksAt ops) :
  vrel (cutm ρ (S j).h.next) ((S j).T.get t) (A.tmps.getD t undef):=by
 obtain⟨hnl,hlt⟩:=hI.unlisted hj
 obtain⟨m,hm,hm0,hmw,hv⟩:=hI.tm t
 have hmj:m≤j:=by
  rcases hm0 with rfl | ⟨o,ho,hd,hl⟩
  ·omega
  ·have hne:m-1≠j:=fun e=>hnl (e▸hl)
   have:=(hI.writers hr hj hoj (.inl ht) ho hd hne).1 hl
   omega
 rw[hr.Tsame hmj (by omega) fun i o h1 h2 ho hd=>?_]
 ·exact hv.mono (J4K (hr.snx hmj (by omega)).nx)
 ·have hl:=(hI.writers hr hj hoj (.inl ht) ho hd (by omega)).2 h2
  have:=(hmw i o ho hd).1 hl
  omega
theorem Inv.glob (hr:Run P call ops S) (hR0:Rel P ρ0 (S 0).h W0) (hI:Inv P ops S n ρ0 W0 D listed A W ρ p) {j:Nat} (hj:j≤ops.size):∀ g,g<P.globals.size→∃ L,cutm ρ (S j).h.next g=some L∧L.b=g∧L.d=0:=by
 intro g hg
 obtain⟨L,h1,h2,h3⟩:=hI.nx.rel.glob g hg
 obtain⟨L0,h4,_,_⟩:=hR0.glob g hg
 have hlt:=hR0.lt h4
 have:=(hr.snx (i:=0) (j:=j) (by omega) hj).nx
 exact⟨L,by rw[J33 (by omega)];exact(J2u h1).2,h2,h3⟩
theorem Inv.operand (hr:Run P call ops S) (hR0:Rel P ρ0 (S 0).h W0) (hI:Inv P ops S n ρ0 W0 D listed A W ρ p) {j:Nat} (hj:j∈Region.ready .any ops listed) {oj:Oper} (hoj:ops[j]?=some oj) (hok:J3A P n oj=true) :
  ∀ x∈oj.op.operands,vrel (cutm ρ (S j).h.next) (ev (S j).T x) (A.eval x):=by
 intro x hx
 have hlt:=(hI.unlisted hj).2
 simp only[J3A,Bool.and_eq_true] at hok
 have hxo:J7u P x=true:=List.all_eq_true.1 hok.1 x (by simpa using hx)
 cases x with
 | tmp t=>
  refine hI.slot hr hj hoj ?_
  unfold Oper.looksAt
  rw[List.mem_append]
  left
  rw[List.mem_filterMap]
  exact⟨.tmp t,by simpa using hx,rfl⟩
 | const v=>exact J1X hxo
 | global g=>
  simp only[J7u,decide_eq_true_eq] at hxo
  obtain⟨L,hL,hb,hd⟩:=hI.glob hr hR0 (j:=j) (by omega) g hxo
  have:=vrel.ptr (ρ:=cutm ρ (S j).h.next) (id:=g) (off:=0) hL
  simp only[hb,hd,Nat.zero_add] at this
  exact this
 | func f=>exact .func .nil .nil
theorem JaH {T:Tr} {o:Oper} {ρ:Map} (h:∀ t,t∈o.looksAt ops→vrel ρ (T.get t) (A.tmps.getD t undef)):Region.wanted o (yielded ops A.tmps)=J27 ops T o:=by
 unfold Region.wanted J27
 cases hg:o.guard with
 | none=>rfl
 | some jw=>
  obtain⟨j,w⟩:=jw
  simp only
  unfold yielded
  cases hd:(ops[j]?).bind (·.dst) with
  | none=>rfl
  | some d=>
   have hin:d∈o.looksAt ops:=by
    unfold Oper.looksAt
    rw[List.mem_append]
    right
    simp[hg,hd]
   have hv:=h d hin
   simp only[Option.bind_some]
   rw[Array.getD_eq_getD_getElem?] at hv
   cases hA:A.tmps[d]? with
   | none=>
    rw[hA] at hv
    simp only[Option.getD_none] at hv
    cases hT:T.get d with
    | bool b=>rw[hT] at hv;have:=J3G hv;simp[undef] at this
    | _=>rfl
   | some V=>
    rw[hA] at hv
    simp only[Option.getD_some] at hv
    cases hT:T.get d with
    | bool b=>rw[hT] at hv;have:=J3G hv;subst this;rfl
    | _=>
     rw[hT] at hv
     cases V with
     | bool b=>cases hv
     | _=>rfl
end
section
variable {P:Program} {call:J0r} {ops:Array Oper} {S:Nat→St} {n:Nat} {ρ0:Map} {W0:World} {D:List Deferred} {listed:Array Bool} {A:Act} {W:World} {ρ:Map} {p:Nat}
theorem Inv.tm' (hr:Run P call ops S) (hI:Inv P ops S n ρ0 W0 D listed A W ρ p) {j:Nat} (hj:j∈Region.ready .any ops listed) {oj:Oper} (hoj:ops[j]?=some oj) (hok:J3A P n oj=true)
  {ρ':Map} (hρ:∀ i L,ρ i=some L→ρ' i=some L) {v V:Value} (hT:(S (j+1)).T=(S j).T.put oj.dst v) (hv:vrel (cutm ρ' (S (j+1)).h.next) v V) :
  ∀ t,∃ m,m≤ops.size∧(m=0∨∃ o,ops[m-1]?=some o∧o.dst=some t∧(listed.setIfInBounds j true).getD (m-1) false=true) ∧
   (∀ i o,ops[i]?=some o→o.dst=some t→((listed.setIfInBounds j true).getD i false=true↔i<m))∧vrel (cutm ρ' (S m).h.next) ((S m).T.get t) ((A.put oj.dst V).tmps.getD t undef):=by
 intro t
 obtain⟨hnl,hlt⟩:=hI.unlisted hj
 have hls:j<listed.size:=by rw[hI.lsz];exact hlt
 have hdst:Jca n oj.dst=true:=by simp only[J3A,Bool.and_eq_true] at hok;exact hok.2
 by_cases e:oj.dst=some t
 ·refine⟨j+1,by omega,.inr ⟨oj,hoj,e,(J0x hls).2 (.inl rfl)⟩,fun i oi hoi hd=>?_,?_⟩
  ·rw[J0x hls]
   by_cases hij:i=j
   ·subst hij;simp
   ·have:=hI.writers hr hj hoj (.inr e) hoi hd hij
    constructor
    ·rintro (h | h)
     ·exact absurd h hij
     ·have:=this.1 h;omega
    ·intro h;exact .inr (this.2 (by omega))
  ·rw[hT,Tr.get_put,if_pos e,J7U A oj.dst V n hI.sz hdst,if_pos e]
   exact hv
 ·obtain⟨m,hm,hm0,hmw,hvm⟩:=hI.tm t
  refine⟨m,hm,hm0.imp id fun ⟨o,h1,h2,h3⟩=>⟨o,h1,h2,(J0x hls).2 (.inr h3)⟩,fun i oi hoi hd=>?_,?_⟩
  ·rw[J0x hls]
   have hij:i≠j:=by
    rintro rfl
    rw[hoj] at hoi
    cases hoi
    exact e hd
   rw[← hmw i oi hoi hd]
   exact⟨fun h=>h.resolve_left hij,.inr⟩
  ·rw[J7U A oj.dst V n hI.sz hdst,if_neg e]
   exact hvm.mono (J7N hρ _)
theorem Inv.quiet (hr:Run P call ops S) (hI:Inv P ops S n ρ0 W0 D listed A W ρ p) {j:Nat} (hj:j∈Region.ready .any ops listed) {oj:Oper} (hoj:ops[j]?=some oj) (hok:J3A P n oj=true)
  (hnw:¬ WW ops S j) (hnn:¬ NN ops S j) {W':World} (hg:Gr W W') {v V:Value} (hT:(S (j+1)).T=(S j).T.put oj.dst v) (hv:vrel (cutm ρ (S (j+1)).h.next) v V) :
  Inv P ops S n ρ0 W0 D (listed.setIfInBounds j true) (A.put oj.dst V) W' ρ p:=by
 obtain⟨hnl,hlt⟩:=hI.unlisted hj
 have hls:j<listed.size:=by rw[hI.lsz];exact hlt
 have back:∀ i,NN ops S i→(listed.setIfInBounds j true).getD i false=true→listed.getD i false=true:=fun i hn hl=>
  ((J0x hls).1 hl).resolve_left fun e=>hnn (e▸hn)
 refine⟨by simp[hI.lsz],hI.cl.set hj,hI.ple,?_,?_,hI.nx.grow hg,?_,?_,?_,?_,hI.tm' hr hj hoj hok (fun _ _ h=>h) hT hv,by rw[J5i];exact hI.sz,by rw[J44];exact hI.df⟩
 ·intro i hi hwn;exact(J0x hls).2 (.inr (hI.pw i hi hwn))
 ·intro i hi hw hl
  rcases(J0x hls).1 hl with e | hl
  ·exact hnw (e▸hw)
  ·exact hI.ph i hi hw hl
 ·intro id L hid hL
  obtain⟨i,h1,h2,h3,h4⟩:=hI.dom id L hid hL
  exact⟨i,h1,h2,(J0x hls).2 (.inr h3),h4⟩
 ·intro i hi hn hl
  obtain⟨Lc,h1,h2,h3,h4⟩:=hI.ext i hi hn (back i hn hl)
  exact⟨Lc,h1,h2.grow hg,h3,Nat.lt_of_lt_of_le h4 hg.size⟩
 ·intro i hi hn hl;exact hI.dis i hi hn (back i hn hl)
 ·intro i hi hl o a id h1 h2 h3 h4
  exact(hI.pend i hi (fun h=>hl ((J0x hls).2 (.inr h))) o a id h1 h2 h3 h4).grow hg
theorem Inv.fresh (hr:Run P call ops S) (hI:Inv P ops S n ρ0 W0 D listed A W ρ p) {j:Nat} (hj:j∈Region.ready .any ops listed) {oj:Oper} (hoj:ops[j]?=some oj) (hok:J3A P n oj=true)
  (hnw:¬ WW ops S j) (hn:NN ops S j) {W':World} (hg:Gr W W') {L:Loc} (hLb:W.heap.size≤L.b) (hLb':L.b<W'.heap.size)
  (ho:objR P (cutm (upd ρ (S j).h.next L) ((S j).h.next+1)) W' (S j).h.next ((S (j+1)).h.get (S j).h.next))
  {v V:Value} (hT:(S (j+1)).T=(S j).T.put oj.dst v) (hv:vrel (cutm (upd ρ (S j).h.next L) (S (j+1)).h.next) v V) :
  Inv P ops S n ρ0 W0 D (listed.setIfInBounds j true) (A.put oj.dst V) W' (upd ρ (S j).h.next L) p:=by
 obtain⟨hnl,hlt⟩:=hI.unlisted hj
 have hls:j<listed.size:=by rw[hI.lsz];exact hlt
 have hpj:p≤j:=by
  rcases Nat.lt_or_ge j p with h | h
  ·exact absurd (hI.pw j h (.inr hn)) hnl
  ·exact h
 have hnx:(S p).h.next≤(S j).h.next:=(hr.snx hpj (by omega)).nx
 have hnone:ρ (S j).h.next=none:=by
  cases h:ρ (S j).h.next with
  | none=>rfl
  | some L'=>
   obtain⟨i,h1,h2,h3,h4⟩:=hI.dom _ _ hnx h
   have:i≠j:=fun e=>hnl (e▸h3)
   exact absurd h4.symm (hr.new_ne h2 hn this)
 have hup:∀ i L',ρ i=some L'→upd ρ (S j).h.next L i=some L':=fun i L' hi=>by
  rw[J2V]
  ·exact hi
  ·rintro rfl;rw[hnone] at hi;cases hi
 have hcut:∀ m,m≤(S j).h.next→cutm (upd ρ (S j).h.next L) m=cutm ρ m:=fun m hm=>by
  funext id
  unfold cutm
  split
  ·rw[J2V (by omega)]
  ·rfl
 have hblt:∀ id L',ρ id=some L'→(id<(S p).h.next→live ((S p).h.get id))→L'.b<W.heap.size:=by
  intro id L' hid hlv
  rcases Nat.lt_or_ge id (S p).h.next with h | h
  ·obtain⟨L2,e2,hb⟩:=(hI.nx.rel.obj id).at_ (hlv h)
   rw[J33 h,hid] at e2
   cases e2
   exact hb
  ·obtain⟨i,h1,h2,h3,rfl⟩:=hI.dom id L' h hid
   obtain⟨Lc,h4,_,_,h5⟩:=hI.ext i h1 h2 h3
   rw[hid] at h4
   cases h4
   exact h5
 refine⟨by simp[hI.lsz],hI.cl.set hj,hI.ple,?_,?_,?_,?_,?_,?_,?_,hI.tm' hr hj hoj hok hup hT hv,by rw[J5i];exact hI.sz,by rw[J44];exact hI.df⟩
 ·intro i hi hwn;exact(J0x hls).2 (.inr (hI.pw i hi hwn))
 ·intro i hi hw hl
  rcases(J0x hls).1 hl with e | hl
  ·exact hnw (e▸hw)
  ·exact hI.ph i hi hw hl
 ·rw[hcut _ hnx];exact hI.nx.grow hg
 ·intro id L' hid hL
  by_cases e:id=(S j).h.next
  ·exact⟨j,hpj,hn,(J0x hls).2 (.inl rfl),e⟩
  ·rw[J2V e] at hL
   obtain⟨i,h1,h2,h3,h4⟩:=hI.dom id L' hid hL
   exact⟨i,h1,h2,(J0x hls).2 (.inr h3),h4⟩
 ·intro i hi hni hl
  by_cases e:i=j
  ·subst e
   exact⟨L,J1J _ _ _,ho,Nat.le_trans hI.nx.fr.size hLb,hLb'⟩
  ·have hl':=((J0x hls).1 hl).resolve_left e
   obtain⟨Lc,h1,h2,h3,h4⟩:=hI.ext i hi hni hl'
   exact⟨Lc,hup _ _ h1,(h2.grow hg).mono (J7N hup _) fun _ _ _=>rfl,h3,Nat.lt_of_lt_of_le h4 hg.size⟩
 ·intro i hi hni hl Lc hLc id L' hne hL' hlv
  by_cases e:i=j
  ·subst e
   rw[J1J] at hLc
   cases hLc
   rw[J2V hne] at hL'
   have:=hblt id L' hL' hlv
   omega
  ·have hl':=((J0x hls).1 hl).resolve_left e
   have hine:=hr.new_ne hni hn e
   rw[J2V hine] at hLc
   by_cases e2:id=(S j).h.next
   ·subst e2
    rw[J1J] at hL'
    cases hL'
    obtain⟨Lc',h1,_,_,h4⟩:=hI.ext i hi hni hl'
    rw[hLc] at h1
    cases h1
    omega
   ·rw[J2V e2] at hL'
    exact hI.dis i hi hni hl' Lc hLc id L' hne hL' hlv
 ·intro i hi hl o a id h1 h2 h3 h4
  have hij:(S i).h.next≤(S j).h.next:=(hr.snx (by omega) (by omega)).nx
  rw[hcut _ hij]
  exact(hI.pend i hi (fun h=>hl ((J0x hls).2 (.inr h))) o a id h1 h2 h3 h4).grow hg
theorem Inv.upto (hr:Run P call ops S) (hR0:Rel P ρ0 (S 0).h W0) (hI:Inv P ops S n ρ0 W0 D listed A W ρ p) {q:Nat} (hpq:p≤q) (hq:q≤ops.size) (hw:∀ i,p≤i→i<q→¬ WW ops S i) (hn:∀ i,p≤i→i<q→NN ops S i→listed.getD i false=true) :
  Nx P ρ0 (S 0).h W0 (cutm ρ (S q).h.next) (S q).h W:=by
 induction q with
 | zero => have:p=0:=by omega
           subst this;exact hI.nx
 | succ q ih=>
  rcases Nat.lt_or_ge q p with h1 | h1
  ·have:p=q+1:=by omega
   subst this;exact hI.nx
  ·have ih':=ih h1 (by omega) (fun i h2 h3=>hw i h2 (by omega)) (fun i h2 h3=>hn i h2 (by omega))
   have ho:=Array.getElem?_eq_getElem (show q<ops.size by omega)
   have hnw:=hw q h1 (by omega)
   cases hr.step q _ ho with
   | off _ e=>rw[e];exact ih'
   | pure v _ _ _ _ e=>rw[e];exact ih'
   | read v a _ _ _ _ e=>rw[e];exact ih'
   | act v h1 f hwant hc _ _ _ _=>exact absurd ⟨_,ho,hwant,.inl (by simp[J2w,hc])⟩ hnw
   | store v a id' ob hwant hc _ _ _ _ _ _ _=>exact absurd ⟨_,ho,hwant,.inr (by simp[J11,hc])⟩ hnw
   | new v ob hwant hc hwr hs e=>
    have hnn:NN ops S q:=⟨_,ho,hwant,by simp[J50,hc]⟩
    have hl:=hn q h1 (by omega) hnn
    obtain⟨Lc,hL,hob,hb0,hbW⟩:=hI.ext q h1 hnn hl
    have hpq':(S p).h.next≤(S q).h.next:=(hr.snx h1 (by omega)).nx
    have e1:(S (q+1)).h=(S q).h.push ob:=by rw[e]
    have e2:(S (q+1)).h.next=(S q).h.next+1:=by rw[e1];rfl
    rw[e2,e1]
    refine ih'.adopt hR0 hL ?_ hb0 fun id L' hid hL' hlv=>?_
    ·rw[e1,J0h] at hob;exact hob
    ·refine hI.dis q h1 hnn hl Lc hL id L' (by omega) hL' fun hidp=>?_
     rw[← hr.same h1 (by omega) hidp fun w h2 h3 hww=>absurd hww (hw w h2 (by omega))]
     exact hlv
end
section
variable {P:Program} {call:J0r} {ops:Array Oper} {S:Nat→St} {n:Nat} {ρ0:Map} {W0:World} {D:List Deferred} {listed:Array Bool} {A:Act} {W:World} {ρ:Map} {p:Nat}
theorem J6z {o:Oper} {a:Operand} (h:J04 o.op=.read a):J6C o=true:=by simp[J6C,h]
theorem J88 {b:Array Nat} {i j:Nat} (hne:i≠j) (h1:¬ (b.getD i 0).testBit j=true) (h2:¬ (b.getD j 0).testBit i=true):J4n b i j=true:=by
 simp only[J4n,Bool.and_eq_true,bne_iff_ne,ne_eq,Bool.not_eq_true']
 exact⟨⟨hne,by simpa using h1⟩,by simpa using h2⟩
theorem J9f {ops:Array Oper} {i:Nat} {o:Oper} (h:ops[i]?=some o):(o,i)∈ops.toList.zipIdx:=by
 rw[List.mk_mem_zipIdx_iff_getElem?]
 simpa using h
theorem J4H {ops:Array Oper} {i j:Nat} {o:Oper} (ho:ops[j]?=some o) (h:J2w o=true∨(J50 o=true∧j<i)) (hu:J4n (Region.before ops) j i=true):J2p ops i=true:=by
 unfold J2p
 simp only[List.any_eq_true]
 refine⟨(o,j),J9f ho,?_⟩
 simp only[Bool.and_eq_true,Bool.or_eq_true,decide_eq_true_eq]
 exact⟨h,hu⟩
theorem J6K {ops:Array Oper} {i j:Nat} {o:Oper} (ho:ops[i]?=some o) (h:J6C o=true) (hu:J4n (Region.before ops) i j=true):J2S ops j=true:=by
 unfold J2S
 simp only[List.any_eq_true]
 exact⟨(o,i),J9f ho,by simp only[Bool.and_eq_true];exact⟨h,hu⟩⟩
theorem J7S {ops:Array Oper} {i j:Nat} {o:Oper} {a:Operand} (ho:ops[i]?=some o) (h:J04 o.op=.read a) (hij:i<j) (hu:J4n (Region.before ops) i j=true):a∈J1H ops j:=by
 unfold J1H
 simp only[List.mem_filterMap]
 exact⟨(o,i),J9f ho,by simp[h,hij,hu]⟩
theorem Run.shield (hr:Run P call ops S) {i w:Nat} (hiw:i≠w) {oi:Oper} {a:Operand} {id:Nat} (hoi:ops[i]?=some oi) (hwi:J27 ops (S i).T oi=true) (hc:J04 oi.op=.read a) (hid:idOf (ev (S i).T a)=some id)
  {ow:Oper} (how:ops[w]?=some ow) (hww:J27 ops (S w).T ow=true) (hact:J2w ow=true∨J11 ow=true) (hu:J4n (Region.before ops) i w=true) :
  (J2w ow=true→id<(S 0).h.next∧J2S ops w=true)∧(J11 ow=true→i<w∧∀ id',(∀ x∈J1H ops w,idOf (ev (S w).T x)≠some id')→id≠id') ∧
  (id<(S w).h.next→(S (w+1)).h.get id=(S w).h.get id):=by
 have hu':J4n (Region.before ops) w i=true:=by
  simp only[J4n,Bool.and_eq_true,bne_iff_ne,ne_eq,Bool.not_eq_true'] at hu ⊢
  exact⟨⟨Ne.symm hu.1.1,hu.2⟩,hu.1.2⟩
 have hw:w<ops.size:=(Array.getElem?_eq_some_iff.1 how).1
 have hid0:J2w ow=true→id<(S 0).h.next:=fun ha=>by
  have hl:=J4H how (.inl ha) hu'
  cases hr.step i oi hoi with
  | off h _=>rw[hwi] at h;cases h
  | pure v _ hc' _ _ _=>rw[hc] at hc';cases hc'
  | read v a' _ hc' hlr _ _=>rw[hc] at hc';cases hc';exact hlr hl id hid
  | new v ob _ hc' _ _ _=>rw[hc] at hc';cases hc'
  | act v h1 f _ hc' _ _ _ _=>rw[hc] at hc';cases hc'
  | store v a id ob _ hc' _ _ _ _ _ _ _=>rw[hc] at hc';cases hc'
 have hst:J11 ow=true→i<w∧∀ id',(∀ x∈J1H ops w,idOf (ev (S w).T x)≠some id')→id≠id':=fun hs=>by
  have hlt:i<w:=by
   rcases Nat.lt_or_gt_of_ne hiw with h | h
   ·exact h
   ·have:=hr.dok.s4 w i ow oi how hoi hs (J6z hc) h
    simp only[J4n,Bool.and_eq_true,bne_iff_ne,ne_eq,Bool.not_eq_true'] at hu
    rw[this] at hu
    simp at hu
  refine⟨hlt,fun id' hall e=>?_⟩
  subst e
  have hmem:=J7S hoi hc hlt hu
  refine hall a hmem ?_
  cases a with
  | tmp t=>
   have:(S w).T.get t=(S i).T.get t:=hr.Tsame (by omega) (by omega) fun m o h1 h2 ho=>hr.dok.s5 w i m ow oi o t how hoi ho hs hlt hc hu h1 h2
   show idOf ((S w).T.get t)=some id
   rw[this]
   exact hid
  | const v=>exact hid
  | global g=>exact hid
  | func f=>exact hid
 refine⟨fun ha=>⟨hid0 ha,J6K hoi (J6z hc) hu⟩,hst,fun hlt=>?_⟩
 cases hr.step w ow how with
 | off h _=>rw[hww] at h;cases h
 | pure v _ hc' _ _ _=>simp[J2w,J11,hc'] at hact
 | read v a' _ hc' hlr _ _=>simp[J2w,J11,hc'] at hact
 | new v ob _ hc' _ _ _=>simp[J2w,J11,hc'] at hact
 | act v h1 f _ hc' hf hl hs e=>
  have ha:J2w ow=true:=by simp[J2w,hc']
  have hsf:=hl (J6K hoi (J6z hc) hu)
  have hk:=(J6o hr.sn hc' hs).keep id hlt (Nat.lt_of_lt_of_le (hid0 ha) hsf)
  rw[e]
  exact hk
 | store v a' id' ob _ hc' hid' hall h1 h2 _ _ e=>
  have hs:J11 ow=true:=by simp[J11,hc']
  have hne:=(hst hs).2 id' hall
  rw[e]
  exact J05 h1 (Ne.symm hne)
theorem Inv.act (hr:Run P call ops S) (hR0:Rel P ρ0 (S 0).h W0) (hI:Inv P ops S n ρ0 W0 D listed A W ρ p) {j:Nat} (hj:j∈Region.ready .any ops listed) {oj:Oper} (hoj:ops[j]?=some oj) (hok:J3A P n oj=true)
  (hwant:J27 ops (S j).T oj=true) (hact:J2w oj=true∨J11 oj=true) {ρ':Map} {W':World}
  (hN:Nx P (cutm ρ (S j).h.next) (S j).h W ρ' (S (j+1)).h W')
  (hblk:∀ id L,cutm ρ (S j).h.next id=some L→live ((S j).h.get id) →
   (J2w oj=true→J2S ops j=true∧id<(S 0).h.next)→(J11 oj=true→∀ id',(∀ x∈J1H ops j,idOf (ev (S j).T x)≠some id')→id≠id')→W'.heap[L.b]?=W.heap[L.b]?)
  {v V:Value} (hT:(S (j+1)).T=(S j).T.put oj.dst v) (hv:vrel ρ' v V) :
  ∃ ρ'',Inv P ops S n ρ0 W0 D (listed.setIfInBounds j true) (A.put oj.dst V) W' ρ'' (j+1):=by
 obtain⟨hnl,hlt⟩:=hI.unlisted hj
 have hls:j<listed.size:=by rw[hI.lsz];exact hlt
 have hWW:WW ops S j:=⟨oj,hoj,hwant,hact⟩
 have hpj:p≤j:=by
  rcases Nat.lt_or_ge j p with h | h
  ·exact absurd (hI.pw j h (.inl hWW)) hnl
  ·exact h
 have hahead:∀ i,i<j→(WW ops S i∨NN ops S i)→listed.getD i false=true:=by
  rintro i hi (⟨oi,hoi,_,h⟩ | ⟨oi,hoi,_,h⟩)
  ·exact J3b hI.cl hj (hr.dok.s2 j i oj oi hoj hoi hact (by rcases h with h | h;exact .inl h;exact .inr (.inl h)) hi)
  ·exact J3b hI.cl hj (hr.dok.s2 j i oj oi hoj hoi hact (.inr (.inr h)) hi)
 have hnoW:∀ i,p≤i→i<j→¬ WW ops S i:=fun i h1 h2 hw=>hI.ph i h1 hw (hahead i h2 (.inl hw))
 have hup:=hI.upto hr hR0 hpj (by omega) hnoW (fun i h1 h2 hn=>hahead i h2 (.inr hn))
 have hnx1:(S j).h.next≤(S (j+1)).h.next:=(hr.snx (i:=j) (j:=j+1) (by omega) (by omega)).nx
 have hpn:(S p).h.next≤(S j).h.next:=(hr.snx hpj (by omega)).nx
 -- nothing is known yet of the numbers that it takes
 have hgap:∀ id,(S j).h.next≤id→id<(S (j+1)).h.next→ρ id=none:=by
  intro id h1 h2
  cases h:ρ id with
  | none=>rfl
  | some L=>
   obtain⟨i,hi1,hi2,hi3,rfl⟩:=hI.dom id L (by omega) h
   have hij:i≠j:=fun e=>hnl (e▸hi3)
   rcases Nat.lt_or_gt_of_ne hij with hlt' | hgt
   ·have:=hr.new_lt hi2 hlt' (by omega);omega
   ·have h3:=(hr.snx (i:=j+1) (j:=i) (by omega) (by have:=(hr.new1 hi2).1;omega)).nx
    omega
 let ρ2:Map:=fun id=>if id<(S (j+1)).h.next then ρ' id else ρ id
 have h2lt:∀ id,id<(S (j+1)).h.next→ρ2 id=ρ' id:=fun id h=>if_pos h
 have h2ge:∀ id,(S (j+1)).h.next≤id→ρ2 id=ρ id:=fun id h=>if_neg (by omega)
 have hold:∀ id,id<(S j).h.next→ρ' id=ρ id:=fun id h=>by rw[hN.old id h,J33 h]
 have hup2:∀ i L,ρ i=some L→ρ2 i=some L:=by
  intro i L hi
  rcases Nat.lt_or_ge i (S (j+1)).h.next with h | h
  ·rcases Nat.lt_or_ge i (S j).h.next with h' | h'
   ·rw[h2lt i h,hold i h'];exact hi
   ·rw[hgap i h' h] at hi;cases hi
  ·rw[h2ge i h];exact hi
 have hcut2:cutm ρ2 (S (j+1)).h.next=ρ':=by
  funext id
  unfold cutm
  split
  ·rename_i h;exact h2lt id h
  ·rename_i h;exact(hN.rel.dom id (by omega)).symm
 have hlive:∀ id,id<(S p).h.next→(S j).h.get id=(S p).h.get id:=fun id h=>hr.same hpj (by omega) h fun w h1 h2 hw=>absurd hw (hnoW w h1 h2)
 -- blocks of objects apart
 have hext:∀ i,p≤i→NN ops S i→listed.getD i false=true→j<i→∀ Lc,ρ (S i).h.next=some Lc→Lc.b<W.heap.size→W'.heap[Lc.b]?=W.heap[Lc.b]?:=by
  intro i hi hn hl hji Lc hLc hb
  refine hN.fr.blk _ hb fun id L' hw _ hL'=>?_
  obtain⟨h1,h2⟩:=J2u hL'
  have hlt':(S j).h.next≤(S i).h.next:=(hr.snx (by omega) (by have:=(hr.new1 hn).1;omega)).nx
  exact hI.dis i hi hn hl Lc hLc id L' (by omega) h2 fun hp=>by rw[← hlive id hp];exact hw.live
 refine⟨ρ2,⟨by simp[hI.lsz],hI.cl.set hj,by omega,?_,?_,?_,?_,?_,?_,?_,hI.tm' hr hj hoj hok hup2 hT (by rw[hcut2];exact hv),by rw[J5i];exact hI.sz,by rw[J44];exact hI.df⟩⟩
 ·intro i hi hwn
  rw[J0x hls]
  by_cases e:i=j
  ·exact .inl e
  ·exact .inr (hahead i (by omega) hwn)
 ·intro i hi hw hl
  rcases(J0x hls).1 hl with e | hl
  ·omega
  ·exact hI.ph i (by omega) hw hl
 ·rw[hcut2];exact hup.trans hR0 hN
 ·intro id L hid hL
  rw[h2ge id hid] at hL
  obtain⟨i,h1,h2,h3,rfl⟩:=hI.dom id L (by omega) hL
  refine⟨i,?_,h2,(J0x hls).2 (.inr h3),rfl⟩
  have hij:i≠j:=fun e=>hnl (e▸h3)
  rcases Nat.lt_or_gt_of_ne hij with h | h
  ·have:=hr.new_lt h2 h (by omega);omega
  ·omega
 ·intro i hi hn hl
  have hl':=((J0x hls).1 hl).resolve_left (by omega)
  obtain⟨Lc,h1,h2,h3,h4⟩:=hI.ext i (by omega) hn hl'
  refine⟨Lc,hup2 _ _ h1,?_,h3,Nat.lt_of_lt_of_le h4 hN.fr.size⟩
  refine h2.mono (J7N hup2 _) fun L hL hlv=>?_
  obtain⟨_,hL2⟩:=J2u hL
  rw[h1] at hL2
  cases hL2
  exact hext i (by omega) hn hl' (by omega) Lc h1 h4
 ·intro i hi hn hl Lc hLc id L' hne hL' hlv
  have hl':=((J0x hls).1 hl).resolve_left (by omega)
  have hin:(S (j+1)).h.next≤(S i).h.next:=(hr.snx (by omega) (by have:=(hr.new1 hn).1;omega)).nx
  rw[h2ge _ hin] at hLc
  obtain⟨Lc',e1,_,_,hbW⟩:=hI.ext i (by omega) hn hl'
  rw[hLc] at e1
  cases e1
  rcases Nat.lt_or_ge id (S (j+1)).h.next with h | h
  ·have hlv':=hlv h
   rw[h2lt id h] at hL'
   rcases Nat.lt_or_ge id (S j).h.next with h' | h'
   ·have hl0:=hN.wasl id h' hlv'
    rw[hold id h'] at hL'
    exact hI.dis i (by omega) hn hl' Lc hLc id L' hne hL' fun hp=>by rw[← hlive id hp];exact hl0
   ·rcases hN.own id L' h' hlv' hL' with hb | ⟨k,L0,hw,_,hk,e⟩
    ·omega
    ·obtain⟨hk1,hk2⟩:=J2u hk
     rw[← e]
     exact hI.dis i (by omega) hn hl' Lc hLc k L0 (by omega) hk2 fun hp=>by rw[← hlive k hp];exact hw.live
  ·rw[h2ge id h] at hL'
   exact hI.dis i (by omega) hn hl' Lc hLc id L' hne hL' fun hp=>by omega
 ·intro i hi hl o a id ho hw hc hid
  have hl':¬ listed.getD i false=true:=fun h=>hl ((J0x hls).2 (.inr h))
  have hij:i≠j:=fun e=>hl ((J0x hls).2 (.inl e))
  have hlt':i<j:=by omega
  have hun:∀ w,(listed.getD w false=true∨w=j)→i<w→J4n (Region.before ops) i w=true:=by
   intro w hlw hlt
   refine J88 (by omega) (fun hb=>?_) (fun hb=>?_)
   ·have:=J8C hr.dok i w hb;omega
   ·rcases hlw with hlw | rfl
    ·exact hl' (hI.cl.bit w i hlw hb)
    ·exact hl' (J3b hI.cl hj hb)
  have hobj:objR P (cutm ρ (S i).h.next) W id ((S i).h.get id):=by
   rcases Nat.lt_or_ge i p with h | h
   ·exact hI.pend i h hl' o a id ho hw hc hid
   ·exact(hI.upto hr hR0 h (by omega) (fun k h1 h2=>hnoW k h1 (by omega)) (fun k h1 h2 hn=>hahead k (by omega) (.inr hn))).rel.obj id
  refine hobj.mono (J7N hup2 _) fun L hL hlv=>?_
  obtain⟨hidi,hL2⟩:=J2u hL
  have hij2:(S i).h.next≤(S j).h.next:=(hr.snx (by omega) (by omega)).nx
  have hsame:(S j).h.get id=(S i).h.get id:=hr.same (by omega) (by omega) hidi fun w h1 h2 hw'=>by
   obtain⟨ow,how,hww,hact'⟩:=hw'
   have hne:i≠w:=by
    rintro rfl
    rw[ho] at how
    cases how
    simp[J2w,J11,hc] at hact'
   have hlw:=hahead w h2 (.inl ⟨ow,how,hww,hact'⟩)
   refine(hr.shield hne ho hw hc hid how hww hact' (hun w (.inl hlw) (by omega))).2.2 (Nat.lt_of_lt_of_le hidi (hr.snx (by omega) (by omega)).nx)
  have hsh:=hr.shield (w:=j) (by omega) ho hw hc hid hoj hwant hact (hun j (.inr rfl) hlt')
  refine hblk id L (by rw[J33 (by omega)];exact hL2) (by rw[hsame];exact hlv) (fun ha=>⟨(hsh.1 ha).2,(hsh.1 ha).1⟩) (fun hs=>(hsh.2.1 hs).2)
end
section
variable {P:Program} {call:J0r} {ops:Array Oper} {S:Nat→St} {n:Nat} {ρ0:Map} {W0:World} {D:List Deferred} {listed:Array Bool} {A:Act} {W:World} {ρ:Map} {p:Nat}
theorem Gr.refl (W:World):Gr W W:=⟨rfl,rfl,rfl,Nat.le_refl _,fun _ _=>rfl⟩
theorem Inv.meet (hr:Run P call ops S) (hR0:Rel P ρ0 (S 0).h W0) (hI:Inv P ops S n ρ0 W0 D listed A W ρ p) {j:Nat} (hj:j∈Region.ready .any ops listed) {oj:Oper} (hoj:ops[j]?=some oj)
  (hwant:J27 ops (S j).T oj=true) (hact:J2w oj=true∨J11 oj=true):Nx P ρ0 (S 0).h W0 (cutm ρ (S j).h.next) (S j).h W:=by
 obtain⟨hnl,hlt⟩:=hI.unlisted hj
 have hWW:WW ops S j:=⟨oj,hoj,hwant,hact⟩
 have hpj:p≤j:=by
  rcases Nat.lt_or_ge j p with h | h
  ·exact absurd (hI.pw j h (.inl hWW)) hnl
  ·exact h
 have hahead:∀ i,i<j→(WW ops S i∨NN ops S i)→listed.getD i false=true:=by
  rintro i hi (⟨oi,hoi,_,h⟩ | ⟨oi,hoi,_,h⟩)
  ·exact J3b hI.cl hj (hr.dok.s2 j i oj oi hoj hoi hact (by rcases h with h | h;exact .inl h;exact .inr (.inl h)) hi)
  ·exact J3b hI.cl hj (hr.dok.s2 j i oj oi hoj hoi hact (.inr (.inr h)) hi)
 have hnoW:∀ i,p≤i→i<j→¬ WW ops S i:=fun i h1 h2 hw=>hI.ph i h1 hw (hahead i h2 (.inl hw))
 exact hI.upto hr hR0 hpj (by omega) hnoW (fun i h1 h2 hn=>hahead i h2 (.inr hn))
theorem Run.taken (hr:Run P call ops S) {p j id:Nat} (hpj:p≤j) (hj:j≤ops.size) (h1:(S p).h.next≤id) (h2:id<(S j).h.next) :
  ∃ i,p≤i∧i<j∧((NN ops S i∧id=(S i).h.next)∨∃ o,ops[i]?=some o∧J27 ops (S i).T o=true∧J2w o=true):=by
 induction j with
 | zero => have:p=0:=by omega
           subst this;omega
 | succ j ih=>
  rcases Nat.lt_or_ge id (S j).h.next with h | h
  ·rcases Nat.lt_or_ge j p with h3 | h3
   ·have:p=j+1:=by omega
    subst this;omega
   ·obtain⟨i,hi1,hi2,hi3⟩:=ih h3 (by omega) h
    exact⟨i,hi1,by omega,hi3⟩
  ·have hpj':p≤j:=by
    rcases Nat.lt_or_ge j p with h3 | h3
    ·have:p=j+1:=by omega
     subst this;omega
    ·exact h3
   have ho:=Array.getElem?_eq_getElem (show j<ops.size by omega)
   refine⟨j,hpj',by omega,?_⟩
   cases hr.step j _ ho with
   | off _ e=>rw[e] at h2;exact absurd h2 (by simp;omega)
   | pure v _ _ _ _ e=>rw[e] at h2;exact absurd h2 (by simp;omega)
   | read v a _ _ _ _ e=>rw[e] at h2;exact absurd h2 (by simp;omega)
   | new v ob hw hc _ _ e=>
    rw[e] at h2
    have:id<(S j).h.next+1:=h2
    exact .inl ⟨⟨_,ho,hw,by simp[J50,hc]⟩,by omega⟩
   | act v h1 f hw hc _ _ _ e=>exact .inr ⟨_,ho,hw,by simp[J2w,hc]⟩
   | store v a id' ob _ _ _ _ _ _ _ _ e=>
    rw[e] at h2
    have:id<(S j).h.next:=h2
    omega
theorem Inv.seen (hr:Run P call ops S) (hR0:Rel P ρ0 (S 0).h W0) (hI:Inv P ops S n ρ0 W0 D listed A W ρ p) {j:Nat} (hj:j∈Region.ready .any ops listed) {oj:Oper} (hoj:ops[j]?=some oj)
  (hwant:J27 ops (S j).T oj=true) {a:Operand} (hc:J04 oj.op=.read a) {id:Nat} (hid:idOf (ev (S j).T a)=some id) (hidj:id<(S j).h.next) :
  objR P (cutm ρ (S j).h.next) W id ((S j).h.get id):=by
 obtain⟨hnl,hlt⟩:=hI.unlisted hj
 rcases Nat.lt_or_ge j p with hjp | hpj
 ·exact hI.pend j hjp hnl oj a id hoj hwant hc hid
 have hloose:J2p ops j=true→id<(S 0).h.next:=fun hl=>by
  cases hr.step j oj hoj with
  | off h _=>rw[hwant] at h;cases h
  | pure v _ hc' _ _ _=>rw[hc] at hc';cases hc'
  | read v a' _ hc' hlr _ _=>rw[hc] at hc';cases hc';exact hlr hl id hid
  | new v ob _ hc' _ _ _=>rw[hc] at hc';cases hc'
  | act v h1 f _ hc' _ _ _ _=>rw[hc] at hc';cases hc'
  | store v a id ob _ hc' _ _ _ _ _ _ _=>rw[hc] at hc';cases hc'
 have hun:∀ w,w<j→¬ listed.getD w false=true→J4n (Region.before ops) j w=true:=by
  intro w hw hlw
  refine J88 (by omega) (fun hb=>hlw (J3b hI.cl hj hb)) (fun hb=>?_)
  have:=J8C hr.dok w j hb;omega
 have hun':∀ w,w<j→¬ listed.getD w false=true→J4n (Region.before ops) w j=true:=by
  intro w hw hlw
  refine J88 (by omega) (fun hb=>?_) (fun hb=>hlw (J3b hI.cl hj hb))
  have:=J8C hr.dok w j hb;omega
 have hkeep:∀ q,p≤q→q≤j→id<(S q).h.next→(S j).h.get id=(S q).h.get id:=fun q hq hqj hidq=>hr.same hqj (by omega) hidq fun w h1 h2 hww=>by
  have hl:=hI.ph w (by omega) hww
  obtain⟨ow,how,hww',hact'⟩:=hww
  have hne:j≠w:=by omega
  exact(hr.shield hne hoj hwant hc hid how hww' hact' (hun w (by omega) hl)).2.2 (Nat.lt_of_lt_of_le hidq (hr.snx h1 (by omega)).nx)
 have hpn:(S p).h.next≤(S j).h.next:=(hr.snx hpj (by omega)).nx
 have h0p:(S 0).h.next≤(S p).h.next:=(hr.snx (Nat.zero_le _) (by omega)).nx
 rcases Nat.lt_or_ge id (S p).h.next with h | h
 ·rw[hkeep p (Nat.le_refl _) hpj h]
  exact(hI.nx.rel.obj id).mono (J4K hpn) fun _ _ _=>rfl
 ·obtain⟨i,hi1,hi2,hor⟩:=hr.taken hpj (by omega) h hidj
  rcases hor with⟨hn,rfl⟩ | ⟨o,ho,hw,ha⟩
  ·by_cases hl:listed.getD i false=true
   ·obtain⟨Lc,h1,h2,_,_⟩:=hI.ext i hi1 hn hl
    have hlt':=(hr.new1 hn).2.1
    have hij:(S (i+1)).h.next≤(S j).h.next:=(hr.snx (by omega) (by omega)).nx
    rw[hkeep (i+1) (by omega) (by omega) (by omega)]
    exact h2.mono (J4K (by omega)) fun _ _ _=>rfl
   ·obtain⟨o,ho,_,hnw⟩:=hn
    have:=hloose (J4H ho (.inr ⟨hnw,hi2⟩) (hun' i hi2 hl))
    omega
  ·have hl:=hI.ph i hi1 ⟨o,ho,hw,.inl ha⟩
   have:=hloose (J4H ho (.inl ha) (hun' i hi2 hl))
   omega
theorem Jfq {h:SHeap} {a b:SObj} (e:h.push a=h.push b):a=b:=by
 have h1:=J0h (h:=h) (o:=a)
 rw[e,J0h] at h1
 exact h1.symm
theorem Jdn {h h':SHeap} {ρ ρ':Map} {W W':World} (hN:Nx P ρ h W ρ' h' W') (hd:∀ i,h.next≤i→ρ i=none) (hn:h'.next=h.next):ρ'=ρ:=by
 funext i
 rcases Nat.lt_or_ge i h.next with hi | hi
 ·exact hN.old i hi
 ·rw[hd i hi,hN.rel.dom i (by omega)]
theorem Inv.one (hr:Run P call ops S) (hR0:Rel P ρ0 (S 0).h W0) (hI:Inv P ops S n ρ0 W0 D listed A W ρ p) {j:Nat} (hj:j∈Region.ready .any ops listed) {oj:Oper} (hoj:ops[j]?=some oj) (hok:J3A P n oj=true)
  {K:Act→World→Prop} {Q:Exit→Act→World→Prop} (hK:∀ A' W' ρ' p',Inv P ops S n ρ0 W0 D (listed.setIfInBounds j true) A' W' ρ' p'→K A' W'):wpOp P ops Q j K A W:=by
 obtain⟨hnl,hlt⟩:=hI.unlisted hj
 unfold wpOp
 simp only[hoj]
 rw[JaH (ops:=ops) (T:=(S j).T) (ρ:=cutm ρ (S j).h.next) fun t ht=>hI.slot hr hj hoj ht]
 have hdomj:∀ i,(S j).h.next≤i→cutm ρ (S j).h.next i=none:=fun i hi=>by unfold cutm;rw[if_neg (by omega)]
 have hglobj:=hI.glob hr hR0 (j:=j) (by omega)
 have hopd:=hI.operand hr hR0 hj hoj hok
 have hdead:∀ f,Rel P (cutm ρ (S j).h.next) (J2v (S j).h.next f) W:=fun f=>Jb1 hdomj hglobj
 have hstep:=hr.step j oj hoj
 by_cases hw:J27 ops (S j).T oj=true
 ·rw [if_pos hw]
  refine .inl ?_
  cases hstep with
  | off h _=>rw[hw] at h;cases h
  | pure v _ hc hm hs e=>
   obtain⟨_,hall⟩:=J8b hc hm hs
   refine J7i hr.ok (hdead 0) hopd (hall (J2v (S j).h.next 0)) fun V W' ρ' hN hv=>?_
   have e1:ρ'=cutm ρ (S j).h.next:=Jdn hN hdomj rfl
   subst e1
   have hnw:¬ WW ops S j:=by rintro ⟨o,ho,_,h⟩;rw[hoj] at ho;cases ho;simp[J2w,J11,hc] at h
   have hnn:¬ NN ops S j:=by rintro ⟨o,ho,_,h⟩;rw[hoj] at ho;cases ho;simp[J50,hc] at h
   refine hK _ _ ρ p (hI.quiet hr hj hoj hok hnw hnn (hN.fr.gr fun i=>by rw[J2C];exact id) (v:=v) (V:=V) (by rw[e]) (by rw[e];exact hv))
  | read v a _ hc hlr hs e=>
   obtain⟨_,hall⟩:=J7D hc hs
   have hnw:¬ WW ops S j:=by rintro ⟨o,ho,_,h⟩;rw[hoj] at ho;cases ho;simp[J2w,J11,hc] at h
   have hnn:¬ NN ops S j:=by rintro ⟨o,ho,_,h⟩;rw[hoj] at ho;cases ho;simp[J50,hc] at h
   have key:∃ h2:SHeap,h2.next=(S j).h.next∧Rel P (cutm ρ (S j).h.next) h2 W∧(∀ i,wr (h2.get i)→h2.floor≤i→False)∧∀ id,idOf (ev (S j).T a)=some id→h2.get id=(S j).h.get id:=by
    cases hid:idOf (ev (S j).T a) with
    | none=>exact⟨J2v (S j).h.next 0,rfl,hdead 0,fun i hw=>by rw[J2C] at hw;exact hw.elim,fun id h=>by cases h⟩
    | some id=>
     by_cases hidj:id<(S j).h.next
     ·refine⟨(J2v (S j).h.next (S j).h.next).put id ((S j).h.get id),rfl,Jcl hidj (hI.seen hr hR0 hj hoj hw hc hid hidj) hdomj hglobj,fun i hw hf=>?_,fun id' h=>?_⟩
      ·rw[J4V hidj] at hw
       split at hw
       ·rename_i e;subst e
        have:(S j).h.next≤id:=hf
        omega
       ·exact hw.elim
      ·cases h;rw[J4V hidj,if_pos rfl]
     ·exact⟨J2v (S j).h.next 0,rfl,hdead 0,fun i hw=>by rw[J2C] at hw;exact hw.elim,fun id' h=>by cases h;rw[J2C,J3j (by omega)]⟩
   obtain⟨h2,e2,hR2,hno,hget⟩:=key
   refine J7i hr.ok hR2 hopd (hall h2 hget) fun V W' ρ' hN hv=>?_
   have e1:ρ'=cutm ρ (S j).h.next:=Jdn hN (by rw[e2];exact hdomj) rfl
   subst e1
   have hg:Gr W W':=⟨hN.fr.os,hN.fr.tape,hN.fr.output,hN.fr.size,fun b hb=>hN.fr.blk b hb fun i _ hw hf=>absurd hf fun hf=>hno i hw hf⟩
   refine hK _ _ ρ p (hI.quiet hr hj hoj hok hnw hnn hg (v:=v) (V:=V) (by rw[e]) (by rw[e];exact hv))
  | new v ob _ hc hwr hs e=>
   obtain⟨o',_,he,hall⟩:=J9a hc hs
   have:=Jfq he
   subst this
   have hnw:¬ WW ops S j:=by rintro ⟨o,ho,_,h⟩;rw[hoj] at ho;cases ho;simp[J2w,J11,hc] at h
   have hnn:NN ops S j:=⟨oj,hoj,hw,by simp[J50,hc]⟩
   refine J7i hr.ok (hdead 0) hopd (hall (J2v (S j).h.next 0) rfl) fun V W' ρ' hN hv=>?_
   have hg:Gr W W':=hN.fr.gr fun i=>by rw[J2C];exact id
   have hob:=hN.rel.obj (S j).h.next
   have hgn:((J2v (S j).h.next 0).push ob).get (S j).h.next=ob:=J0h (h:=J2v (S j).h.next 0)
   rw[hgn] at hob
   obtain⟨L,hL,hLb⟩:=hob.at_ hwr.live
   have hLn:W.heap.size≤L.b:=by
    rcases hN.own (S j).h.next L (Nat.le_refl _) (by rw[hgn];exact hwr.live) hL with h | ⟨k,L0,hk,_⟩
    ·exact h
    ·rw[J2C] at hk;exact hk.elim
   have e1:ρ'=cutm (upd ρ (S j).h.next L) ((S j).h.next+1):=by
    funext i
    unfold cutm
    by_cases h1:i<(S j).h.next
    ·rw[if_pos (by omega),J2V (by omega),hN.old i h1,J33 h1]
    ·by_cases h2:i=(S j).h.next
     ·subst h2;rw[if_pos (by omega),J1J,hL]
     ·rw[if_neg (by omega)]
      exact hN.rel.dom i (by show (S j).h.next+1≤i;omega)
   subst e1
   have hnext:(S (j+1)).h.next=(S j).h.next+1:=by rw[e];rfl
   have hgetn:(S (j+1)).h.get (S j).h.next=ob:=by rw[e];exact J0h
   refine hK _ _ _ p (hI.fresh hr hj hoj hok hnw hnn hg hLn hLb (by rw[hgetn];exact hob) (v:=v) (V:=V) (by rw[e]) (by rw[hnext];exact hv))
  | act v h1 f _ hc hf hl hs e=>
   have ha:J2w oj=true:=by simp[J2w,hc]
   have hup:=hI.meet hr hR0 hj hoj hw (.inl ha)
   have hs':J11 oj≠true:=by simp[J11,hc]
   refine J7i hr.ok (hup.rel.fl f) hopd hs fun V W' ρ' hN hv=>?_
   have hN':=hN.unfl hf
   have e1:(S (j+1)).h=h1.fl (S j).h.floor:=by rw[e]
   obtain⟨ρ2,hI2⟩:=hI.act hr hR0 hj hoj hok hw (.inl ha) (by rw[e1];exact hN') (fun id L hL hlv hca _=>by
    obtain⟨hla,hst⟩:=hca ha
    obtain⟨L2,e2,hb⟩:=(hup.rel.obj id).at_ hlv
    rw[hL] at e2
    cases e2
    refine hN.fr.blk _ hb fun i L' hwi hfi hL'=>?_
    have hfl:f≤i:=hfi
    have:=hl hla
    exact hup.rel.inj i id L' L hwi hlv (by omega) hL' hL) (v:=v) (V:=V) (by rw[e]) hv
   exact hK _ _ ρ2 _ hI2
  | store v a id ob _ hc hid hall h1 h2 hor hs e=>
   have hst:J11 oj=true:=by simp[J11,hc]
   have hna:J2w oj≠true:=by simp[J2w,hc]
   have hup:=hI.meet hr hR0 hj hoj hw (.inr hst)
   obtain⟨a',id',ob',hor',hid',he,hlt',hfl',hwr',hall'⟩:=J4x hc hs
   have ha:a'=a:=by
    rcases hor with⟨_,_,e⟩ | ⟨_,_,_,e | e⟩ <;> rcases hor' with⟨_,_,e'⟩ | ⟨_,_,_,e' | e'⟩ <;> rw[e] at e' <;> cases e' <;> rfl
   subst ha
   rw[hid] at hid'
   cases hid'
   have hob:ob'=ob:=by
    have:=congrArg (fun h:SHeap=>h.get id) he
    simp only[J0b hup.rel.len hlt'] at this
    exact this.symm
   subst hob
   obtain⟨L,hL,hLW⟩:=(hup.rel.obj id).at_ hwr'.live
   have hRo:Rel P (cutm ρ (S j).h.next) ((J2v (S j).h.next (S j).h.floor).put id ((S j).h.get id)) W:=Jcl hlt' (hup.rel.obj id) hdomj hglobj
   refine J7i hr.ok hRo hopd (hall' _ (by rw[J4V hlt',if_pos rfl]) rfl) fun V W' ρ' hN hv=>?_
   have e1:ρ'=cutm ρ (S j).h.next:=Jdn hN hdomj rfl
   subst e1
   have hblk:∀ b,b<W.heap.size→b≠L.b→W'.heap[b]?=W.heap[b]?:=fun b hb hne=>hN.fr.blk b hb fun i L' hwi _ hL'=>by
    rw[J4V hlt'] at hwi
    split at hwi
    ·rename_i e;subst e;rw[hL] at hL';cases hL';exact Ne.symm hne
    ·exact hwi.elim
   have hobn:=hN.rel.obj id
   rw[J0b (J6u (J5t _ _)) hlt'] at hobn
   have hN2:=Je6 hup.rel hwr' h2 hL hN.fr.os hN.fr.tape hN.fr.output hN.fr.size hblk hobn
   have e2:(S (j+1)).h=(S j).h.put id ob':=by rw[e]
   obtain⟨ρ2,hI2⟩:=hI.act hr hR0 hj hoj hok hw (.inr hst) (by rw[e2];exact hN2) (fun id0 L0 hL0 hlv _ hcs=>by
    obtain⟨L2,e3,hb⟩:=(hup.rel.obj id0).at_ hlv
    rw[hL0] at e3
    cases e3
    refine hblk _ hb ?_
    have hne:=hcs hst id hall
    exact Ne.symm (hup.rel.inj id id0 L L0 hwr' hlv (Ne.symm hne) hL hL0)) (v:=v) (V:=V) (by rw[e]) hv
   exact hK _ _ ρ2 _ hI2
 ·rw[if_neg hw]
  cases hstep with
  | off _ e=>
   have hnw:¬ WW ops S j:=by rintro ⟨o,ho,h,_⟩;rw[hoj] at ho;cases ho;exact hw h
   have hnn:¬ NN ops S j:=by rintro ⟨o,ho,h,_⟩;rw[hoj] at ho;cases ho;exact hw h
   exact hK _ _ ρ p (hI.quiet hr hj hoj hok hnw hnn (Gr.refl W) (v:=undef) (V:=undef) (by rw[e]) J32)
  | pure v h _ _ _ _=>exact absurd h hw
  | read v a h _ _ _ _=>exact absurd h hw
  | new v ob h _ _ _ _=>exact absurd h hw
  | act v h1 f h _ _ _ _ _=>exact absurd h hw
  | store v a id ob h _ _ _ _ _ _ _ _=>exact absurd h hw
theorem Inv.done (hr:Run P call ops S) (hR0:Rel P ρ0 (S 0).h W0) (hI:Inv P ops S n ρ0 W0 D listed A W ρ p) (hall:∀ i,i<ops.size→listed.getD i false=true) :
  Nx P ρ0 (S 0).h W0 (cutm ρ (S ops.size).h.next) (S ops.size).h W∧trel (cutm ρ (S ops.size).h.next) (S ops.size).T A:=by
 refine⟨hI.upto hr hR0 hI.ple (Nat.le_refl _) (fun i h1 h2 hw=>hI.ph i h1 hw (hall i h2)) (fun i _ h2 _=>hall i h2),fun t=>?_⟩
 obtain⟨m,hm,_,hmw,hv⟩:=hI.tm t
 rw[hr.Tsame hm (Nat.le_refl _) fun i o h1 h2 ho hd=>?_]
 ·exact hv.mono (J4K (hr.snx hm (Nat.le_refl _)).nx)
 ·have:=(hmw i o ho hd).1 (hall i h2)
  omega
theorem Jd1 {ops:Array Oper} (hD:DOK ops) {listed:Array Bool} (hs:listed.size=ops.size) (hn:Region.ready .any ops listed=[]):∀ i,i<ops.size→listed.getD i false=true:=by
 intro i
 induction i using Nat.strongRecOn with
 | _ i ih=>
  intro hi
  cases hl:listed.getD i false with
  | true=>rfl
  | false=>
   have ho:=Array.getElem?_eq_getElem hi
   have:i∈Region.ready .any ops listed:=mem_ready.2 ⟨by
    have hl':i<listed.size:=by omega
    simp[hl'] at hl ⊢
    exact hl,ops[i],ho,fun e he hb=>ih e.on (hD.edge i _ ho e he hb) (Nat.lt_trans (hD.edge i _ ho e he hb) hi)⟩
   rw[hn] at this
   cases this
theorem JcZ {listed:Array Bool} {j k:Nat} (hj:j<listed.size) (hl:listed.getD j false=false) (hc:listed.toList.count false≤k+1):(listed.setIfInBounds j true).toList.count false≤k:=by
 rw[Array.toList_setIfInBounds,List.count_set (by simpa using hj)]
 have:listed.toList[j]'(by simpa using hj)=false:=by simpa [hj] using hl
 simp[this]
 simp at hc
 omega
theorem Inv.any (hr:Run P call ops S) (hR0:Rel P ρ0 (S 0).h W0) (hok:∀ (j:Nat) oj,ops[j]?=some oj→J3A P n oj=true) {Q:Exit→Act→World→Prop}
  (hQ:∀ A W ρ',Nx P ρ0 (S 0).h W0 ρ' (S ops.size).h W→trel ρ' (S ops.size).T A→A.tmps.size=n→A.defers=D→Q .normal A W) :
  ∀ (fuel:Nat) (listed:Array Bool) (A:Act) (W:World) (ρ:Map) (p:Nat),listed.toList.count false≤fuel→Inv P ops S n ρ0 W0 D listed A W ρ p→wpAny P .any ops Q fuel listed A W:=by
 intro fuel
 induction fuel with
 | zero=>
  intro listed A W ρ p hc hI
  have hall:∀ i,i<ops.size→listed.getD i false=true:=fun i hi=>by
   cases hl:listed.getD i false with
   | true=>rfl
   | false=>
    have hi':i<listed.size:=by rw[hI.lsz];exact hi
    have h0:listed.toList.count false=0:=by omega
    have hmem:false∈listed.toList:=by
     have:listed[i]=false:=by simpa [hi'] using hl
     rw[← this]
     simp
    exact absurd hmem (List.count_eq_zero.1 h0)
  refine⟨?_,?_⟩
  ·cases hn:Region.ready .any ops listed with
   | nil=>rfl
   | cons i r=>
    have hi:i∈Region.ready .any ops listed:=by rw[hn];simp
    obtain⟨h1,h2⟩:=hI.unlisted hi
    exact absurd (hall i h2) h1
  ·obtain⟨h1,h2⟩:=hI.done hr hR0 hall
   exact hQ _ _ _ h1 h2 hI.sz hI.df
 | succ fuel ih=>
  intro listed A W ρ p hc hI
  refine⟨fun hn=>?_,fun i hi=>?_⟩
  ·obtain⟨h1,h2⟩:=hI.done hr hR0 (Jd1 hr.dok hI.lsz hn)
   exact hQ _ _ _ h1 h2 hI.sz hI.df
  ·obtain⟨hnl,hlt⟩:=hI.unlisted hi
   have ho:=Array.getElem?_eq_getElem hlt
   exact hI.one hr hR0 hi ho (hok _ _ ho) fun A' W' ρ' p' hI'=>ih _ _ _ _ _ (JcZ (by rw[hI.lsz];exact hlt) (by simpa using hnl) hc) hI'
theorem Inv.start (hR0:Rel P ρ0 (S 0).h W0) (hT:trel ρ0 (S 0).T A) (hn:A.tmps.size=n):Inv P ops S n ρ0 W0 A.defers (Array.replicate ops.size false) A W0 ρ0 0:=by
 have hcut:cutm ρ0 (S 0).h.next=ρ0:=by
  funext i
  unfold cutm
  split
  ·rfl
  ·rename_i h;exact(hR0.dom i (by omega)).symm
 have hno:∀ i,¬ (Array.replicate ops.size false).getD i false=true:=fun i=>by
  rw[Array.getD_eq_getD_getElem?,Array.getElem?_replicate]
  split <;> simp
 refine⟨by simp,fun j o hl=>absurd hl (hno j),Nat.zero_le _,fun i hi=>absurd hi (by omega),fun i _ _=>hno i,by rw[hcut];exact Nx.refl hR0,fun id L h1 h2=>?_,fun i _ _ hl=>absurd hl (hno i),fun i _ _ hl=>absurd hl (hno i),
  fun j hj=>absurd hj (by omega),fun t=>⟨0,Nat.zero_le _,.inl rfl,fun i o _ _=>⟨fun h=>absurd h (hno i),fun h=>by omega⟩,by rw[hcut];exact hT t⟩,hn,rfl⟩
 rw[hR0.dom id h1] at h2
 cases h2
end
theorem Jgz {P:Program} {call:J0r} (hcall:J1x P call) (hsn:∀ f args h v h',call f args h=some (v,h')→SNx h h') (hm:P.follows .mixedOrders=true) {id:Nat} {ops:Array Oper} {n:Nat}
  (hok:∀ (j:Nat) oj,ops[j]?=some oj→J3A P n oj=true) (hd:JaP ops=true) {s s':St} (hs:seqD P call ops s.h.next 0 ops.toList s=some s') {ρ:Map} {A:Act} {W:World} (hR:Rel P ρ s.h W) (hT:trel ρ s.T A) (hn:A.tmps.size=n)
  {Q:Exit→Act→World→Prop} (hQ:∀ A' W' ρ',Nx P ρ s.h W ρ' s'.h W'→trel ρ' s'.T A'→A'.tmps.size=n→A'.defers=A.defers→Q .normal A' W'):(Code.region id ops true).wp P Q A W:=by
 obtain⟨S,h0,h1,hstep⟩:=Jbx _ _ _ _ hs
 simp only[Nat.zero_add,Array.length_toList] at h1 hstep
 have hr:Run P call ops S:=⟨hsn,hcall,J9P hd,fun k o ho=>by
  have:=hstep k o (by simpa using ho)
  rw[← h0] at this
  exact Jin hsn this⟩
 refine wp_region_any hm ?_
 have hg:Gr W { W with drawn:=W.drawn+1 }:=⟨rfl,rfl,rfl,Nat.le_refl _,fun _ _=>rfl⟩
 have hR':Rel P ρ (S 0).h { W with drawn:=W.drawn+1 }:=by rw[h0];exact hR.grow hg
 refine Inv.any hr hR' hok (D:=A.defers) (n:=n) (fun A' W' ρ' hN hT' hn' hd'=>hQ A' W' ρ' ?_ ?_ hn' hd') _ _ _ _ ρ 0 ?_ (Inv.start hR' (by rw[h0];exact hT) hn)
 ·rw[← h1]
  have hN0:Nx P ρ s.h W ρ s.h { W with drawn:=W.drawn+1 }:=(Nx.refl hR).grow hg
  rw[h0] at hN
  exact hN0.trans hR hN
 ·rw[← h1];exact hT'
 ·rw[Array.toList_replicate,List.count_replicate]
  simp
end Go.Sx
