/- Part 2 of what the claim leans on: 4 texts laid one behind another. -/
import Derived.Test.YtipekdhneagdbaaDoorNO1
import Derived.Laws.Cells
import Derived.Laws.CopyRow
import Derived.Laws.AppendOwn
import Derived.Laws.MakeOwn
namespace Go.Sx
open Go
set_option linter.unusedSimpArgs false
set_option maxHeartbeats 64000000
section runs
variable {P:Program} {W:World}
theorem YB {α:Type} {m:Sem α} {a:α} (h:BC P m=some a):m.run P W=.ok a W:=by
 induction m with
 | pure b=>simp[BC] at h;subst h;rfl
 | program k ih=>simp only[BC] at h;simp only[Sem.run];exact ih _ h
 | mark m k ih=>simp only[BC] at h;simp only[Sem.run];exact ih h
 | _=>simp[BC] at h
theorem run_sizeOf {t:TypeId} {n:Nat} (h:BP P t=some n):(sizeOf t).run P W=.ok n W:=by
 unfold BP at h
 cases hi:P.info? t with
 | none=>simp[hi] at h
 | some i=>simp[hi] at h;simp[sizeOf,typeInfo,hi,h]
theorem OF {t:TypeId} {z:Value} (h:DI P t=some z):(zeroValue t).run P W=.ok z W:=by
 unfold DI at h
 cases hi:P.info? t with
 | none=>simp[hi] at h
 | some i=>simp[hi] at h;simp[zeroValue,typeInfo,hi,h]
theorem VT {t:TypeId} {b:Bool} (h:FK P t=some b):(isAgg t).run P W=.ok b W:=by
 unfold FK at h
 cases hu:P.underlying t with
 | none=>simp[hu] at h
 | some d=>cases d <;> simp[hu] at h <;> subst h <;> simp[isAgg,run_underlying hu]
theorem HZ (b o n:Nat):(⟨b,o,none⟩:Addr).add n=⟨b,o+n,none⟩:=by
 unfold Addr.add;split <;> simp_all
theorem wP {b off:Nat} {CS:Array Value} {ty:TypeId} {fr:Nat × Nat} (hb:W.heap[b]?=some (.cells CS ty fr)) {l:List Value} {n:Nat} (hn:l.length=n) (hl:∀ (k:Nat) (v:Value),l[k]?=some v→CS[off+k]?=some v) :
  (loadCells ⟨b,off,none⟩ n).run P W=.ok l.toArray W:=by
 subst hn
 refine run_loadCells_list W _ l fun j v hv=>?_
 rw[HZ,cell_of_row W b (off+j) CS ty fr hb]
 exact hl j v hv
theorem ZI (v:Value):one v=v.oneCell':=by cases v <;> rfl
end runs
def C9 (ρ:AX) (i:Nat) (L:Loc):AX:=fun j=>if j=i then some L else ρ j
theorem GS (ρ:AX) (i:Nat) (L:Loc):C9 ρ i L i=some L:=by simp[C9]
theorem GW {ρ:AX} {i j:Nat} {L:Loc} (h:j≠i):C9 ρ i L j=ρ j:=by simp[C9,h]
section
variable {P:Program} {ρ:AX} {h:AA} {W:World}
theorem BK.ext_upd (hR:BK P ρ h W) {L:Loc}:∀ i L',ρ i=some L'→C9 ρ h.next L i=some L':=by
 intro i L' hi
 rw[GW]
 ·exact hi
 ·rintro rfl
  rw[hR.dom _ (Nat.le_refl _)] at hi
  cases hi
theorem BK.lt (hR:BK P ρ h W) {i:Nat} {L:Loc} (hi:ρ i=some L):i<h.next:=by
 rcases Nat.lt_or_ge i h.next with hlt | hge
 ·exact hlt
 ·rw[hR.dom _ hge] at hi;cases hi
theorem iX (hR:BK P ρ h W) {o:BB} {O:Obj} {L:Loc} {W1:World} (h1:W1.heap=W.heap) (hos:W1.os=W.os) (htp:W1.tape=W.tape) (hout:W1.output=W.output)
  (hb:L.b=W.heap.size) (ho:FD P (C9 ρ h.next L) (W1.alloc O) h.next o):Nx P ρ h W (C9 ρ h.next L) (h.push o) (W1.alloc O):=by
 have hx:=hR.ext_upd (L:=L)
 have hsz:(W1.alloc O).heap.size=W.heap.size+1:=by simp[h1]
 have hold:∀ b,b<W.heap.size→(W1.alloc O).heap[b]?=W.heap[b]?:=fun b hb=>by rw[heap_alloc_old W1 O b (by rw[h1];exact hb),h1]
 have hkeep:∀ i,i≠h.next→FD P (C9 ρ h.next L) (W1.alloc O) i (h.get i):=fun i hi=>
  (hR.obj i).mono hx fun L' hL' hl=>by
   obtain⟨L2,e2,hlt⟩:=(hR.obj i).at_ hl
   rw[hL'] at e2
   cases e2
   exact hold _ hlt
 refine⟨hx,fun i hi=>GW (by omega),⟨aB hR.len,?_,?_,?_,?_⟩,⟨hos,htp,hout,by omega,fun b hb' _=>hold b hb'⟩,by simp[AA.push],rfl,?_,?_,?_,?_⟩
 ·intro i hi
  simp only[AA.push] at hi
  rw[GW (by omega)]
  exact hR.dom i (by omega)
 ·intro g hg
  obtain⟨L',h1,h2,h3⟩:=hR.glob g hg
  exact⟨L',hx _ _ h1,h2,h3⟩
 ·intro i
  by_cases hi:i=h.next
  ·subst hi;rw[BL];exact ho
  ·rw[KO hi];exact hkeep i hi
 ·intro i j Li Lj hw hl hne hi hj
  by_cases ei:i=h.next
  ·subst ei
   rw[GS] at hi
   cases hi
   rw[GW (Ne.symm hne)] at hj
   rw[KO (Ne.symm hne)] at hl
   obtain⟨L2,e2,hlt⟩:=(hR.obj j).at_ hl
   rw[hj] at e2
   cases e2
   omega
  ·by_cases ej:j=h.next
   ·subst ej
    rw[GS] at hj
    cases hj
    rw[GW hne] at hi
    rw[KO hne] at hw
    obtain⟨L2,e2,hlt⟩:=(hR.obj i).at_ hw.live
    rw[hi] at e2
    cases e2
    omega
   ·rw[GW ei] at hi
    rw[GW ej] at hj
    rw[KO ei] at hw
    rw[KO ej] at hl
    exact hR.inj i j Li Lj hw hl hne hi hj
 ·intro i hi _;exact AM hi
 ·intro i hi hw;rwa [AM hi] at hw
 ·intro i hi hw;rwa [AM hi] at hw
 ·intro i L' hi hw hL'
  left
  by_cases ei:i=h.next
  ·subst ei
   rw[GS] at hL'
   cases hL'
   omega
  ·rw[F_ (by simp[AA.push];omega)] at hw
   exact hw.elim
theorem U7 (hR:BK P ρ h W) {i:Nat} {o:BB} {W':World} {L:Loc} (hw:wr (h.get i)) (hf:h.floor≤i) (hL:ρ i=some L)
  (hos:W'.os=W.os) (htp:W'.tape=W.tape) (hout:W'.output=W.output) (hsz:W.heap.size≤W'.heap.size)
  (hblk:∀ b,b<W.heap.size→b≠L.b→W'.heap[b]?=W.heap[b]?) (ho:FD P ρ W' i o):Nx P ρ h W ρ (h.put i o) W':=by
 have hi:i<h.next:=hR.lt hL
 refine⟨fun _ _ h=>h,fun _ _=>rfl,⟨R_ hR.len,?_,hR.glob,?_,?_⟩,⟨hos,htp,hout,hsz,?_⟩,Nat.le_refl _,rfl,?_,?_,?_,?_⟩
 ·intro j hj;exact hR.dom j hj
 ·intro j
  by_cases e:i=j
  ·subst e;rw[CE hR.len hi];exact ho
  ·rw[AQ hi e]
   exact(hR.obj j).mono (fun _ _ h=>h) fun L' hL' hl=>by
    obtain⟨L2,e2,hlt⟩:=(hR.obj j).at_ hl
    rw[hL'] at e2
    cases e2
    exact hblk _ hlt (Ne.symm (hR.inj i j L L' hw hl e hL hL'))
 ·intro a b La Lb hwa hlb hne hLa hLb
  have ha:wr (h.get a):=by
   by_cases e:i=a
   ·subst e;exact hw
   ·rwa [AQ hi e] at hwa
  have hb:live (h.get b):=by
   by_cases e:i=b
   ·subst e;exact hw.live
   ·rwa [AQ hi e] at hlb
  exact hR.inj a b La Lb ha hb hne hLa hLb
 ·intro b hb hno
  exact hblk b hb (Ne.symm (hno i L hw hf hL))
 ·intro j hj hjf
  exact AQ hi (by omega)
 ·intro j hj hwj
  by_cases e:i=j
  ·subst e;exact hw
  ·rwa [AQ hi e] at hwj
 ·intro j hj hwj
  by_cases e:i=j
  ·subst e;exact hw.live
  ·rwa [AQ hi e] at hwj
 ·intro j L' hj hwj _
  rw[F_ (by simpa [AA.put] using hj)] at hwj
  exact hwj.elim
theorem NM {id:Nat} {cs:List Value} {ty:TypeId} {g ro:Bool} (hR:BK P ρ h W) (hg:h.get id=.row cs ty g ro) {L:Loc} (hL:ρ id=some L) :
  ∃ CS ty' fr,W.heap[L.b]?=some (.cells CS ty' fr)∧(∀ (k:Nat) (v:Value),cs[k]?=some v→∃ V,CS[L.d+k]?=some V∧AH ρ v V) ∧
   (ro=false→fr=(0,0)∧ty'=ty∧L.d+L.e=CS.size∧BP P ty=some L.z):=by
 have:=hR.obj id
 rw[hg] at this
 obtain⟨L',CS,ty',fr,h1,h2,h3,h4⟩:=this
 rw[hL] at h1
 cases h1
 exact⟨CS,ty',fr,h2,h3,h4⟩
theorem fT {cs l:List Value} {off n:Nat} (hc:D1 cs off n=some l):l.length=n∧∀ (k:Nat) (v:Value),l[k]?=some v→cs[off+k]?=some v:=by
 unfold D1 at hc
 simp only at hc
 split at hc
 ·rename_i hl
  cases hc
  refine⟨hl,fun k v hv=>?_⟩
  rw[List.getElem?_take] at hv
  split at hv
  ·rw[List.getElem?_drop] at hv;exact hv
  ·cases hv
 ·cases hc
theorem S1 {cs l:List Value} {off n d:Nat} {CS:Array Value} (hc:D1 cs off n=some l) (hcs:∀ (k:Nat) (v:Value),cs[k]?=some v→∃ V,CS[d+k]?=some V∧AH ρ v V) :
  ∃ m:List Value,m.length=n∧AY (AH ρ) l m∧∀ (k:Nat) (V:Value),m[k]?=some V→CS[d+off+k]?=some V:=by
 obtain⟨hl,hg⟩:=fT hc
 clear hc
 subst hl
 induction l generalizing off with
 | nil=>exact⟨[],rfl,.nil,by simp⟩
 | cons a l ih=>
  obtain⟨V,hV,hr⟩:=hcs off a (by simpa using hg 0 a rfl)
  obtain⟨m,hm,h2,h3⟩:=ih (off:=off+1) (fun k v hv=>by have:=hg (k+1) v (by simpa using hv);rwa [show off+(k+1)=off+1+k by omega] at this)
  refine⟨V :: m,by simp[hm],.cons hr h2,fun k X hk=>?_⟩
  cases k with
  | zero=>simp at hk;subst hk;simpa using hV
  | succ k=>have:=h3 k X (by simpa using hk);rwa [show d+(off+1)+k=d+off+(k+1) by omega] at this
theorem iU (hR:BK P ρ h W) {t:TypeId} {a A v:Value} (ha:AH ρ a A) (hs:EO P h t a=some v) :
  ∃ V,(Instr.loadAt t A).run P W=.ok V W∧AH ρ v V:=by
 unfold EO at hs
 split at hs
 ·rename_i id off
  split at hs
  ·rename_i cs ty g ro hg
   obtain⟨L,hL,rfl⟩:=W_ ha
   obtain⟨CS,ty',fr,hb,hcs,_⟩:=NM hR hg hL
   split at hs
   ·rename_i hagg
    split at hs
    ·rename_i n hn
     split at hs
     ·rename_i l hcut
      cases hs
      obtain⟨m,hm,h2,h3⟩:=S1 hcut hcs
      refine⟨.agg m.toArray,?_,.agg (by simpa using h2)⟩
      simp[Instr.loadAt,Instr.sureAddr,loadVar,VT hagg,run_sizeOf hn,wP hb hm h3]
     ·cases hs
    ·cases hs
   ·rename_i hagg
    obtain⟨V,hV,hr⟩:=hcs off v hs
    refine⟨V,?_,hr⟩
    have hcell:W.cell? ⟨L.b,L.d+off,none⟩=some V:=by rw[cell_of_row W L.b _ CS ty' fr hb];exact hV
    simp[Instr.loadAt,Instr.sureAddr,loadVar,VT hagg,hcell]
   ·cases hs
  ·cases hs
 ·cases hs
theorem RS {cs new:List Value} {off:Nat} (h:off+new.length≤cs.length):(lay cs off new).length=cs.length:=by
 simp[lay];omega
theorem MM {cs new:List Value} {off k:Nat} (h:off+new.length≤cs.length):(lay cs off new)[k]?=if off≤k∧k<off+new.length then new[k-off]? else cs[k]?:=by
 unfold lay
 have hlt:(cs.take off).length=off:=by simp;omega
 by_cases h1:k<off
 ·rw[if_neg (by omega),List.append_assoc,List.getElem?_append_left (by omega),List.getElem?_take,if_pos h1]
 ·by_cases h2:k<off+new.length
  ·rw[if_pos ⟨by omega,h2⟩,List.append_assoc,List.getElem?_append_right (by omega),hlt,List.getElem?_append_left (by omega)]
  ·rw[if_neg (by omega),List.getElem?_append_right (by simp;omega),List.getElem?_drop]
   congr 1
   simp
   omega
theorem XM (hR:BK P ρ h W) {id off:Nat} {new New:List Value} {h':AA} (hn:AY (AH ρ) new New) {L:Loc} (hL:ρ id=some L) (hs:GL h id off new=some h') :
  ∃ W',(storeCells ⟨L.b,L.d+off,none⟩ New).run P W=.ok () W'∧Nx P ρ h W ρ h' W':=by
 unfold GL at hs
 split at hs
 ·rename_i cs ty g hg
  split at hs
  ·rename_i hc
   simp only[Bool.and_eq_true,decide_eq_true_eq] at hc
   obtain⟨⟨hf,hlen⟩,hone⟩:=hc
   cases hs
   obtain⟨CS,ty',fr,hb,hcs,hown⟩:=NM hR hg hL
   obtain⟨rfl,rfl,hsz,hz⟩:=hown rfl
   have hNl:New.length=new.length:=hn.length.symm
   have hfit:L.d+off+New.length≤CS.size:=by
    rcases Nat.eq_zero_or_pos New.length with h0 | h0
    ·rcases Nat.eq_zero_or_pos cs.length with hc0 | hc0
     ·have:off=0:=by omega
      omega
     ·have hlast:=hcs (cs.length-1) cs[cs.length-1] (List.getElem?_eq_getElem (by omega))
      obtain⟨V,hV,_⟩:=hlast
      have:=(Array.getElem?_eq_some_iff.1 hV).1
      omega
    ·obtain⟨V,hV,_⟩:=hcs (off+new.length-1) cs[off+new.length-1] (List.getElem?_eq_getElem (by omega))
     have:=(Array.getElem?_eq_some_iff.1 hV).1
     omega
   have h1:∀ v∈New,v.oneCell'=true:=by
    intro V hV
    obtain⟨k,hk⟩:=List.getElem?_of_mem hV
    obtain⟨v,hv,hr⟩:=hn.getR hk
    rw[← ZI,YC hr]
    exact List.all_eq_true.1 hone v (List.mem_of_getElem? hv)
   have hrun:=run_storeCells_at P L.b (L.d+off) ty' New 0 CS W hb (by simpa using hfit) h1
   refine⟨_,hrun,?_⟩
   simp only[Nat.add_zero]
   have hnew:(W.setRow L.b (CS.toList.take (L.d+off)++New++CS.toList.drop (L.d+off+New.length)).toArray).heap[L.b]?=some (.cells (lay CS.toList (L.d+off) New).toArray ty' (0,0)):=setRow_heap W L.b CS _ ty' _ hb
   refine U7 hR (L:=L) (by rw[hg];rfl) hf hL rfl rfl rfl (by simp) (fun b _ hne=>setRow_other W L.b b _ hne) ?_
   refine⟨L,_,_,_,hL,hnew,?_,fun _=>⟨rfl,rfl,?_,hz⟩⟩
   ·intro k v hv
    rw[MM hlen] at hv
    have hg2:=MM (cs:=CS.toList) (new:=New) (off:=L.d+off) (k:=L.d+k) (by simpa using hfit)
    simp only[List.getElem?_toArray]
    rw[hg2]
    split at hv
    ·rename_i hk
     obtain⟨V,hV,hr⟩:=hn.get hv
     refine⟨V,?_,hr⟩
     rw[if_pos ⟨by omega,by omega⟩,show L.d+k-(L.d+off)=k-off by omega]
     exact hV
    ·rename_i hk
     obtain⟨V,hV,hr⟩:=hcs k v hv
     refine⟨V,?_,hr⟩
     rw[if_neg (by omega)]
     simpa using hV
   ·rw[hsz]
    simp[RS (cs:=CS.toList) (new:=New) (off:=L.d+off) (by simpa using hfit)]
  ·cases hs
 ·cases hs
theorem sS (hR:BK P ρ h W) {t:TypeId} {a A v V:Value} {h':AA} (ha:AH ρ a A) (hv:AH ρ v V) (hs:BW P h t a v=some h') :
  ∃ W',(Instr.storeAt t A V).run P W=.ok () W'∧Nx P ρ h W ρ h' W':=by
 unfold BW at hs
 split at hs
 ·rename_i id off
  split at hs
  ·rename_i hsz
   obtain⟨L,hL,rfl⟩:=W_ ha
   have hc:=UW hv
   have hcl:V.cells.size=v.cells.size:=by simpa using hc.length.symm
   obtain⟨W',hrun,hN⟩:=XM hR hc hL hs
   refine⟨W',?_,hN⟩
   simp[Instr.storeAt,Instr.sureAddr,storeVar,run_sizeOf hsz,hcl,hrun]
  ·cases hs
 ·cases hs
end
set_option linter.unusedVariables false
section
variable {P:Program} {ρ:AX} {h:AA} {W:World}
theorem pA {a:Addr} {A:Value} (ha:AH ρ (.pointer (some a)) A) (n:Nat):∃ B:Addr,A=.pointer (some B)∧AH ρ (.pointer (some (a.add n))) (.pointer (some (B.add n))):=by
 obtain⟨L,hL,hs,rfl⟩:=O8 ha
 obtain⟨b,o,s⟩:=a
 simp only at hs
 subst hs
 refine⟨_,rfl,?_⟩
 rw[HZ,HZ,Nat.add_assoc]
 exact .ptr hL
theorem I4 {a:Option Addr} {n c:Nat} {V:Value} (hv:AH ρ (.slice a n c) V) :
  (a=none∧n=0∧c=0∧V=.slice none 0 0) ∨
  (∃ id off L,a=some ⟨id,off,none⟩∧ρ id=some L∧c<AG∧V=.slice (some ⟨L.b,L.d+off,none⟩) n c) ∨
  (∃ id off L A C,a=some ⟨id,off,none⟩∧ρ id=some L∧c=AG∧n≤C∧V=.slice (some A) n C∧((C=0∨(n=0∧L.z=0))∨(A=⟨L.b,L.d+off,none⟩∧off+C*L.z=L.e))):=by
 cases hv with
 | flat hf=>
  left
  cases a with
  | none=>cases n <;> cases c <;> simp_all [BO]
  | some a=>simp[BO] at hf
 | slice hL hc=>exact .inr (.inl ⟨_,_,_,rfl,hL,hc,rfl⟩)
 | sliceU hL hn hA=>exact .inr (.inr ⟨_,_,_,_,_,rfl,hL,rfl,hn,rfl,hA⟩)
theorem sY {t:TypeId} {x X i I v:Value} (hx:AH ρ x X) (hi:AH ρ i I) (hs:CY P t x i=some v) :
  ∃ V,(Instr.indexAt t X I).run P W=.ok V W∧AH ρ v V:=by
 unfold CY at hs
 split at hs
 ·rename_i e a len cap k n hu
  split at hs
  ·rename_i hb
   split at hs
   ·rename_i s hz
    cases hs
    obtain rfl:=KC hi
    rcases I4 hx with⟨h1,_⟩ | ⟨id,off,L,h1,hL,_,rfl⟩ | ⟨id,off,L,A,C,h1,hL,_,hC,rfl,hA⟩
    ·cases h1
    ·cases h1
     refine⟨.pointer (some ((⟨L.b,L.d+off,none⟩:Addr).add (n.toNat*s))),?_,?_⟩
     ·simp[Instr.indexAt,run_underlying hu,asIntOf,hb.1,hb.2,run_sizeOf hz]
     ·rw[HZ,HZ,Nat.add_assoc];exact .ptr hL
    ·cases h1
     rcases hA with(rfl | ⟨rfl,_⟩) | ⟨rfl,_⟩
     ·omega
     ·omega
     ·refine⟨.pointer (some ((⟨L.b,L.d+off,none⟩:Addr).add (n.toNat*s))),?_,?_⟩
      ·simp[Instr.indexAt,run_underlying hu,asIntOf,hb.1,hb.2,run_sizeOf hz]
      ·rw[HZ,HZ,Nat.add_assoc];exact .ptr hL
   ·cases hs
  ·cases hs
 ·rename_i len e a k n hu
  split at hs
  ·rename_i hb
   split at hs
   ·rename_i s hz
    cases hs
    obtain rfl:=KC hi
    obtain⟨B,rfl,hr⟩:=pA hx (n.toNat*s)
    exact⟨_,by simp[Instr.indexAt,run_underlying hu,asIntOf,Instr.sureAddr,hb.1,hb.2,run_sizeOf hz],hr⟩
   ·cases hs
  ·cases hs
 ·cases hs
theorem QZ {x X:Option Value} {d hi m:Nat} {code:BoundsCode} (hx:AY (AH ρ) x.toList X.toList) (hs:F3 x d 0 hi=some m) :
  (x=none∧X=none∧m=d)∨(∃ v,X=some v∧(∃ w,x=some w)∧m≤hi∧∀ hi' code,hi≤hi'→(Instr.sliceBound v hi' code).run P W=.ok m W):=by
 cases x with
 | none=>
  cases X with
  | none=>simp[F3] at hs;exact .inl ⟨rfl,rfl,hs.symm⟩
  | some V=>cases hx
 | some v=>
  cases X with
  | none=>cases hx
  | some V=>
   simp at hx
   cases hx with
   | cons hr _=>
   unfold F3 at hs
   split at hs
   ·cases ‹some v=none›
   ·rename_i k n hv
    cases hv
    obtain rfl:=KC hr
    split at hs
    ·rename_i hb
     cases hs
     refine .inr ⟨_,rfl,⟨_,rfl⟩,by omega,fun hi' code hh=>?_⟩
     have h1:0≤n:=by omega
     have h2:n≤(hi':Int):=by omega
     simp[Instr.sliceBound,asIntOf,h1,h2]
    ·cases hs
   ·cases hs
theorem cN {t e:TypeId} {s:Nat} (hu:P.underlying t=some (.slice e)) (hz:BP P e=some s) {A:Option Addr} {len cap l hh m:Nat} {LO HI MX:Option Value}
  (hb:(Instr.sliceBounds true len cap LO HI MX).run P W=.ok (l,hh,m) W) :
  (Instr.sliceAt t (.slice A len cap) LO HI MX).run P W=.ok (.slice (if m=l then A else A.map (·.add (l*s))) (hh-l) (m-l)) W:=by
 simp[Instr.sliceAt,Instr.slice,run_underlying hu,hb,run_sizeOf hz]
theorem XC {len cap l hh m:Nat} {lo hi mx LO HI MX:Option Value} (hlo:AY (AH ρ) lo.toList LO.toList) (hhi:AY (AH ρ) hi.toList HI.toList) (hmx:AY (AH ρ) mx.toList MX.toList)
  {top tp:Nat} (htop:top≤m)
  (h1:(mx=none∧m=cap)∨(∃ v,mx=some v∧F3 mx 0 0 cap=some m∧∃ w,hi=some w)) (h2:F3 hi len 0 top=some hh)
  (h3:F3 lo 0 0 hh=some l) (sl:Bool) :
  (Instr.sliceBounds sl len cap LO HI MX).run P W=.ok (l,hh,m) W:=by
 rcases h1 with⟨rfl,rfl⟩ | ⟨v,rfl,h1,⟨w,rfl⟩⟩
 ·have:MX=none:=by cases MX with | none=>rfl | some _=>cases hmx
  subst this
  rcases QZ (P:=P) (W:=W) (code:=.index) hhi h2 with⟨rfl,rfl,rfl⟩ | ⟨V,rfl,⟨w,rfl⟩,hm,hr⟩
  ·rcases QZ (P:=P) (W:=W) (code:=.index) hlo h3 with⟨rfl,rfl,rfl⟩ | ⟨V,rfl,_,hm,hr⟩
   ·simp[Instr.sliceBounds]
   ·simp[Instr.sliceBounds,hr _ _ (Nat.le_refl _)]
  ·rcases QZ (P:=P) (W:=W) (code:=.index) hlo h3 with⟨rfl,rfl,rfl⟩ | ⟨V,rfl,_,hm',hr'⟩
   ·simp[Instr.sliceBounds,hr _ _ htop]
   ·simp[Instr.sliceBounds,hr _ _ htop,hr' _ _ (Nat.le_refl _)]
 ·rcases QZ (P:=P) (W:=W) (code:=.index) hmx h1 with⟨h,_⟩ | ⟨VM,rfl,_,hm0,hrm⟩
  ·cases h
  ·rcases QZ (P:=P) (W:=W) (code:=.index) hhi h2 with⟨h,_⟩ | ⟨VH,rfl,_,hm1,hrh⟩
   ·cases h
   ·rcases QZ (P:=P) (W:=W) (code:=.index) hlo h3 with⟨rfl,rfl,rfl⟩ | ⟨V,rfl,_,hm',hr'⟩
    ·simp[Instr.sliceBounds,hrm _ _ (Nat.le_refl _),hrh _ _ htop]
    ·simp[Instr.sliceBounds,hrm _ _ (Nat.le_refl _),hrh _ _ htop,hr' _ _ (Nat.le_refl _)]
theorem U6 {x:Option Value} {d hi m:Nat} (hs:F3 x d 0 hi=some m):m=d∨m≤hi:=by
 unfold F3 at hs
 split at hs
 ·cases hs;exact .inl rfl
 ·split at hs
  ·cases hs;right;omega
  ·cases hs
 ·cases hs
theorem Eo (hR:BK P ρ h W) {t:TypeId} {x X v:Value} {lo hi mx LO HI MX:Option Value} (hx:AH ρ x X) (hlo:AY (AH ρ) lo.toList LO.toList) (hhi:AY (AH ρ) hi.toList HI.toList)
  (hmx:AY (AH ρ) mx.toList MX.toList) (hs:G7 P h t x lo hi mx=some v):∃ V,(Instr.sliceAt t X LO HI MX).run P W=.ok V W∧AH ρ v V:=by
 unfold G7 at hs
 split at hs
 ·rename_i e a len cap hu
  split at hs
  ·rename_i s hz
   split at hs
   ·rename_i hc
    subst hc
    split at hs
    ·rename_i hh hbh
     split at hs
     ·rename_i l id off hbl
      rcases I4 hx with⟨h1,_⟩ | ⟨id',off',L,h1,hL,hlt,_⟩ | ⟨id',off',L,A,C,h1,hL,_,hC,rfl,hA⟩
      ·cases h1
      ·omega
      ·cases h1
       have hrun:=XC (P:=P) (W:=W) (len:=len) (cap:=C) (m:=C) (top:=len) (tp:=0) hlo hhi hmx hC (.inl ⟨rfl,rfl⟩) hbh hbl true
       have hhl:hh≤len:=by rcases U6 hbh with h | h <;> omega
       have hll:l≤hh:=by rcases U6 hbl with h | h <;> omega
       refine⟨_,cN hu hz hrun,?_⟩
       split at hs
       ·rename_i hl0
        cases hs
        subst hl0
        simp only[Nat.sub_zero,Nat.zero_mul]
        have hadd:(Option.map (fun x:Addr=>x.add 0) (some A))=some A:=by simp[Addr.add]
        rw[hadd]
        have:(if C=0 then some A else some A)=some A:=by split <;> rfl
        rw[this]
        exact .sliceU hL (by omega) (hA.imp_left (Or.imp_right fun ⟨h8,h9⟩=>⟨by omega,h9⟩))
       ·rename_i hl0
        split at hs
        ·rename_i cs ty gr hg
         split at hs
         ·rename_i hty
          cases hs
          obtain⟨CS,ty',fr,hb,hcs,hown⟩:=NM hR hg hL
          obtain⟨_,rfl,_,hzz⟩:=hown rfl
          rw[hty] at hzz
          cases hzz
          by_cases hcl:C=l
          ·rw[if_pos hcl]
           exact .sliceU hL (by omega) (.inl (.inl (by omega)))
          ·rw[if_neg hcl]
           rcases hA with(rfl | ⟨rfl,hz0⟩) | ⟨rfl,he⟩
           ·omega
           ·omega
           ·simp only[Option.map_some,HZ]
            refine .sliceU hL (by omega) (.inr ⟨by rw[Nat.add_assoc],?_⟩)
            rw[← he,Nat.add_assoc,← Nat.add_mul]
            congr 2
            omega
         ·cases hs
        ·cases hs
     ·cases hs
    ·cases hs
   ·rename_i hc
    split at hs
    ·rename_i m hm
     split at hs
     ·rename_i hh hbh
      split at hs
      ·rename_i l hbl
       cases hs
       have hmc:m≤cap:=by
        cases mx with
        | none=>simp at hm;omega
        | some w=>
         simp only at hm
         split at hm
         ·rcases U6 hm with h | h <;> omega
         ·cases hm
       have h1:(mx=none∧m=cap)∨(∃ v,mx=some v∧F3 mx 0 0 cap=some m∧∃ w,hi=some w):=by
        cases mx with
        | none=>simp at hm;exact .inl ⟨rfl,hm.symm⟩
        | some w=>
         simp only at hm
         split at hm
         ·rename_i w2
          exact .inr ⟨_,rfl,hm,⟨_,rfl⟩⟩
         ·cases hm
       have hrun:=XC (P:=P) (W:=W) (len:=len) (cap:=cap) (m:=m) (top:=m) (tp:=0) hlo hhi hmx (Nat.le_refl _) h1 hbh hbl true
       rcases I4 hx with⟨rfl,rfl,rfl,rfl⟩ | ⟨id',off',L,rfl,hL,hlt,rfl⟩ | ⟨id',off',L,A,C,h1,hL,hcu,hC,rfl,hA⟩
       ·refine⟨_,cN hu hz hrun,?_⟩
        have:m-l=0:=by omega
        have hh0:hh-l=0:=by
         rcases U6 hbh with h | h <;> omega
        rw[this,hh0]
        have e:(if m=l then (none:Option Addr) else Option.map (fun x:Addr=>x.add (l*s)) none)=none:=by split <;> rfl
        rw[e]
        exact .flat rfl
       ·refine⟨_,cN hu hz hrun,?_⟩
        by_cases hml:m=l
        ·rw[if_pos hml,if_pos hml]
         exact .slice hL (by omega)
        ·rw[if_neg hml,if_neg hml]
         simp only[Option.map_some,HZ]
         rw[Nat.add_assoc]
         exact .slice hL (by omega)
       ·exact absurd hcu hc
      ·cases hs
     ·cases hs
    ·cases hs
  ·cases hs
 ·rename_i s hu
  split at hs
  ·cases hs
  ·rename_i hm
   split at hs
   ·rename_i hh hbh
    split at hs
    ·rename_i l hbl
     cases hs
     obtain rfl:=Q0 hx
     have hmn:mx=none:=by cases mx <;> simp_all
     subst hmn
     have:MX=none:=by cases MX with | none=>rfl | some _=>cases hmx
     subst this
     have hrun:=XC (P:=P) (W:=W) (len:=s.size) (cap:=s.size) (m:=s.size) (top:=s.size) (tp:=0) hlo hhi hmx (Nat.le_refl _) (.inl ⟨rfl,rfl⟩) hbh hbl false
     exact⟨_,by simp[Instr.sliceAt,Instr.slice,run_underlying hu,hrun],.flat rfl⟩
    ·cases hs
   ·cases hs
 ·rename_i n e a hu
  split at hs
  ·cases hs
  ·rename_i hm
   split at hs
   ·rename_i hh hbh
    split at hs
    ·rename_i l hbl
     split at hs
     ·rename_i s hz
      cases hs
      simp only[Bool.or_eq_true,decide_eq_true_eq,not_or] at hm
      have hmn:mx=none:=by cases mx <;> simp_all
      subst hmn
      have:MX=none:=by cases MX with | none=>rfl | some _=>cases hmx
      subst this
      have hrun:=XC (P:=P) (W:=W) (len:=n) (cap:=n) (m:=n) (top:=n) (tp:=0) hlo hhi hmx (Nat.le_refl _) (.inl ⟨rfl,rfl⟩) hbh hbl false
      obtain⟨L,hL,hsp,rfl⟩:=O8 hx
      obtain⟨b,o,sp⟩:=a
      simp only at hsp
      subst hsp
      refine⟨.slice (some (if n=l then ⟨L.b,L.d+o,none⟩ else (⟨L.b,L.d+o,none⟩:Addr).add (l*s))) (hh-l) (n-l),?_,?_⟩
      ·simp[Instr.sliceAt,run_underlying hu,Instr.sureAddr,hrun,run_sizeOf hz]
      ·have hlt:n-l<AG:=by unfold AG;omega
       split
       ·exact .slice hL hlt
       ·rw[HZ,HZ,Nat.add_assoc];exact .slice hL hlt
     ·cases hs
    ·cases hs
   ·cases hs
 ·cases hs
theorem zS {s:TypeId} {x X v:Value} {f:Nat} (hx:AH ρ x X) (hs:BH P s x f=some v):∃ V,(Instr.fieldAt s X f).run P W=.ok V W∧AH ρ v V:=by
 unfold BH at hs
 split at hs
 ·rename_i fs a hu
  split at hs
  ·rename_i fd hf
   split at hs
   ·cases hs
   ·rename_i n h0 hz
    cases hs
    obtain⟨B,rfl,hr⟩:=pA hx fd.offset
    refine⟨_,?_,hr⟩
    simp[Instr.fieldAt,run_underlying hu,hf,Instr.sureAddr,fieldPlace,run_sizeOf hz]
    intro h;exact absurd h h0
   ·cases hs
  ·cases hs
 ·cases hs
theorem uM {cs CS:Array Value} (hc:AY (AH ρ) cs.toList CS.toList) (a b:Nat):AY (AH ρ) (cs.extract a b).toList (CS.extract a b).toList:=by
 simp only[Array.toList_extract,List.extract_eq_take_drop]
 exact(hc.drop a).take (b-a)
theorem Gw {s:TypeId} {x X v:Value} {f:Nat} (hx:AH ρ x X) (hs:bB P s x f=some v):∃ V,(Instr.field s X f).run P W=.ok V W∧AH ρ v V:=by
 unfold bB at hs
 split at hs
 ·rename_i fs cs hu
  obtain⟨CS,rfl,hcs⟩:=Ec hx
  split at hs
  ·rename_i fd hf
   split at hs
   ·rename_i hag
    split at hs
    ·rename_i n hz
     cases hs
     exact⟨_,by simp[Instr.field,run_underlying hu,hf,asAgg,part,VT hag,run_sizeOf hz],.agg (uM hcs _ _)⟩
    ·cases hs
   ·rename_i hag
    obtain⟨V,hV,hr⟩:=hcs.get (i:=fd.offset) (a:=v) (by simpa using hs)
    simp at hV
    exact⟨V,by simp[Instr.field,run_underlying hu,hf,asAgg,part,VT hag,hV],hr⟩
   ·cases hs
  ·cases hs
 ·cases hs
end
section
variable {P:Program} {ρ:AX} {h:AA} {W:World}
theorem Gq (new:List Value):∀ (off j:Nat) (C:Array Value),off+j+new.length≤C.size →
  ((new.zipIdx j).foldl (fun cs (x:Value × Nat)=>cs.setIfInBounds (off+x.2) x.1) C)=(lay C.toList (off+j) new).toArray:=by
 induction new with
 | nil=>intro off j C _;simp[lay]
 | cons v rest ih=>
  intro off j C hl
  simp only[List.length_cons] at hl
  rw[List.zipIdx_cons,List.foldl_cons,ih off (j+1) _ (by simp;omega)]
  congr 1
  apply List.ext_getElem?
  intro k
  rw[MM (by simp;omega),MM (by simp;omega)]
  simp only[Array.toList_setIfInBounds,List.getElem?_set,List.length_cons]
  by_cases h1:k=off+j
  ·subst h1
   have hb1:¬ (off+(j+1)≤off+j∧off+j<off+(j+1)+rest.length):=by omega
   have hb2:off+j≤off+j∧off+j<off+j+(rest.length+1):=by omega
   rw[if_neg hb1,if_pos hb2]
   simp
   omega
  ·by_cases h2:off+j≤k∧k<off+j+(rest.length+1)
   ·rw[if_pos ⟨by omega,by omega⟩,if_pos h2,show k-(off+j)=(k-(off+(j+1)))+1 by omega]
    simp
   ·rw[if_neg (by omega),if_neg h2,if_neg (by omega)]
theorem Gl (A:Array Value) (off:Nat) (C:Array Value) (hl:off+A.size≤C.size) :
  (A.zipIdx.foldl (fun cs (x:Value × Nat)=>cs.setIfInBounds (off+x.2) x.1) C)=(lay C.toList off A.toList).toArray:=by
 rw[← Array.foldl_toList,Array.toList_zipIdx,Gq A.toList off 0 C (by simpa using hl)]
 rfl
theorem yU {cs new CS New:List Value} (hc:AY (AH ρ) cs CS) (hn:AY (AH ρ) new New) (off:Nat):AY (AH ρ) (lay cs off new) (lay CS off New):=by
 unfold lay
 rw[hn.length]
 exact((hc.take off).append hn).append (hc.drop _)
theorem Z7 (place:Nat→Option (Nat × Nat)) {parts PARTS:List (Nat × Value)} (hp:AY (fun a b=>a.1=b.1∧AH ρ a.2 b.2) parts PARTS):∀ {cs r:List Value} {CS:Array Value},
  AY (AH ρ) cs CS.toList→GU place cs parts=some r→∃ R,Instr.fill place CS PARTS=some R∧AY (AH ρ) r R.toList:=by
 induction hp with
 | nil=>
  intro cs r CS hc hs
  simp only[GU] at hs
  cases hs
  exact⟨CS,rfl,hc⟩
 | cons hh _ ih=>
  intro cs r CS hc hs
  rename_i a b l m _
  obtain⟨i,v⟩:=a
  obtain⟨i',V⟩:=b
  obtain⟨rfl,hv⟩:=hh
  simp only[GU] at hs
  simp only[Instr.fill]
  cases hpl:place i with
  | none=>simp[hpl] at hs
  | some x=>
   obtain⟨off,size⟩:=x
   simp only[hpl] at hs ⊢
   have hcl:=UW hv
   have hsz:V.cells.size=v.cells.size:=by simpa using hcl.length.symm
   have hCS:CS.size=cs.length:=by simpa using hc.length.symm
   split at hs
   ·cases hs
   ·rename_i hno
    rw[hsz,hCS,if_neg hno]
    simp only[Bool.or_eq_true,decide_eq_true_eq,not_or,Nat.not_lt] at hno
    rw[Gl _ _ _ (by rw[hsz,hCS];exact hno.2)]
    exact ih (by simpa using yU hc hcl off) hs
theorem Ar {l:List Field} {pl:List (Nat × Nat)} (hs:G6 P l=some pl):(l.mapM (fun f=>(do pure (f.offset,← sizeOf f.type):Sem (Nat × Nat)))).run P W=.ok pl W:=by
 induction l generalizing pl with
 | nil=>simp[G6] at hs;subst hs;simp
 | cons f fs ih=>
  simp only[G6] at hs
  split at hs
  ·rename_i n hz
   split at hs
   ·rename_i l hl
    cases hs
    have ih':=ih hl
    rw[List.mapM_cons]
    simp only[Sem.run_bind,run_sizeOf hz,Result.andThen_ok,Sem.run_pure,ih']
   ·cases hs
  ·cases hs
theorem Dg {l:Array Field} {pl:List (Nat × Nat)} (hs:G6 P l.toList=some pl):(l.mapM (fun f=>(do pure (f.offset,← sizeOf f.type):Sem (Nat × Nat)))).run P W=.ok pl.toArray W:=by
 rw[Array.mapM_eq_mapM_toList,Sem.run_map,Ar hs]
 rfl
theorem R7 {z:Value} (hf:flat z=true):AY (AH ρ) z.cells.toList z.cells.toList:=UW (IS hf)
theorem yN {t:TypeId} {parts:List (Nat × Value)} {PARTS:Array (Nat × Value)} {v:Value} (hp:AY (fun a b=>a.1=b.1∧AH ρ a.2 b.2) parts PARTS.toList) (hs:DR P t parts=some v) :
  ∃ V,(Instr.build t PARTS).run P W=.ok V W∧AH ρ v V:=by
 unfold DR at hs
 split at hs
 ·rename_i z hz
  split at hs
  ·rename_i hf
   split at hs
   ·rename_i fs hu
    split at hs
    ·rename_i pl hpl
     split at hs
     ·rename_i cs hcs
      cases hs
      obtain⟨R,hR,hrel⟩:=Z7 _ hp (R7 hf) hcs
      refine⟨.agg R,?_,.agg (by simpa using hrel)⟩
      have hm:=Dg (W:=W) hpl
      simp only[bind_pure_comp] at hm
      simp[Instr.build,OF hz,run_underlying hu,hm,hR]
     ·cases hs
    ·cases hs
   ·rename_i n e hu
    split at hs
    ·rename_i s hsz
     split at hs
     ·rename_i cs hcs
      cases hs
      obtain⟨R,hR,hrel⟩:=Z7 _ hp (R7 hf) hcs
      exact⟨.agg R,by simp[Instr.build,OF hz,run_underlying hu,run_sizeOf hsz,hR],.agg (by simpa using hrel)⟩
     ·cases hs
    ·cases hs
   ·cases hs
  ·cases hs
 ·cases hs
theorem YD (z:List Value) (n:Nat):(ER z n).length=n*z.length:=by
 induction n with
 | zero=>simp[ER]
 | succ n ih=>simp[ER,ih,Nat.succ_mul];omega
theorem aM (z:List Value) (n k:Nat) (hk:k<n*z.length):(ER z n)[k]?=z[k%z.length]?:=by
 induction n generalizing k with
 | zero=>simp at hk
 | succ n ih=>
  simp only[ER]
  by_cases h1:k<z.length
  ·rw[List.getElem?_append_left h1,Nat.mod_eq_of_lt h1]
  ·rw[List.getElem?_append_right (by omega),ih _ (by rw[Nat.succ_mul] at hk;omega)]
   congr 1
   rw[← Nat.mod_eq_sub_mod (by omega)]
theorem kI {z:Array Value} (hz:0<z.size) (n:Nat):(ER z.toList n).toArray=(Array.range (n*z.size)).map (z[· % z.size]!):=by
 apply Array.ext'
 apply List.ext_getElem?
 intro k
 simp only[Array.toList_map,Array.toList_range,List.getElem?_map]
 by_cases hk:k<n*z.size
 ·rw[aM _ _ _ (by simpa using hk)]
  have hm:k%z.size<z.size:=Nat.mod_lt _ hz
  simp[hk,hm,getElem!_pos z (k%z.size) hm]
 ·rw[List.getElem?_eq_none (by rw[YD];simpa using hk)]
  simp[hk]
theorem R5 (hR:BK P ρ h W) {cs:List Value} {CS:Array Value} {ty:TypeId} {g:Bool} {s:Nat} {W1:World} (h1:W1.heap=W.heap) (hos:W1.os=W.os) (htp:W1.tape=W.tape) (hout:W1.output=W.output)
  (hz:BP P ty=some s) (hc:∀ (k:Nat) (v:Value),cs[k]?=some v→∃ V,CS[k]?=some V∧AH ρ v V) :
  Nx P ρ h W (C9 ρ h.next ⟨W.heap.size,0,CS.size,s⟩) (h.push (.row cs ty g false)) (W1.alloc (.cells CS ty)):=by
 refine iX hR h1 hos htp hout rfl ?_
 refine⟨_,CS,ty,(0,0),GS _ _ _,?_,?_,fun _=>⟨rfl,rfl,by simp,hz⟩⟩
 ·have:=heap_alloc_new W1 (.cells CS ty)
  rw[h1] at this
  exact this
 ·intro k v hv
  obtain⟨V,hV,hr⟩:=hc k v hv
  exact⟨V,by simpa using hV,hr.mono hR.ext_upd⟩
theorem UC {cs:List Value} {CS:Array Value} (hc:AY (AH ρ) cs CS.toList):∀ (k:Nat) (v:Value),cs[k]?=some v→∃ V,CS[k]?=some V∧AH ρ v V:=fun k v hv=>by
 obtain⟨V,hV,hr⟩:=hc.get hv
 exact⟨V,by simpa using hV,hr⟩
theorem yO (hR:BK P ρ h W) {t:TypeId} {len:Nat} {parts:List (Nat × Value)} {PARTS:Array (Nat × Value)} {v:Value} {h':AA} (hp:AY (fun a b=>a.1=b.1∧AH ρ a.2 b.2) parts PARTS.toList)
  (hs:EA P h t len parts=some (v,h')):∃ V W' ρ',(Instr.buildSlice t len PARTS).run P W=.ok V W'∧Nx P ρ h W ρ' h' W'∧AH ρ' v V:=by
 unfold EA at hs
 split at hs
 ·rename_i e hu
  split at hs
  ·rename_i s z hsz hz
   split at hs
   ·rename_i hc
    simp only[Bool.and_eq_true,decide_eq_true_eq,beq_iff_eq] at hc
    obtain⟨⟨⟨hf,hzs⟩,hs0⟩,hlim⟩:=hc
    split at hs
    ·rename_i cs hcs
     cases hs
     have hz2:0<z.cells.size:=by omega
     have hrel:AY (AH ρ) (ER z.cells.toList len) ((Array.range (len*s)).map (z.cells[· % z.cells.size]!)).toList:=by
      have:=kI hz2 len
      rw[hzs] at this
      rw[hzs,← this]
      refine AY.same fun a ha=>?_
      obtain⟨k,hk⟩:=List.getElem?_of_mem ha
      have hlt:k<(ER z.cells.toList len).length:=(List.getElem?_eq_some_iff.1 hk).1
      rw[YD] at hlt
      rw[aM _ _ _ hlt] at hk
      obtain⟨b,hb,hr⟩:=(R7 (ρ:=ρ) hf).get hk
      rw[hk] at hb
      cases hb
      exact hr
     obtain⟨R,hRr,hrr⟩:=Z7 _ hp hrel hcs
     have hlen:len<AG:=by unfold AG;have:=Nat.le_mul_of_pos_right len hs0;omega
     refine⟨.slice (some ⟨W.heap.size,0,none⟩) len len,W.alloc (.cells R e),_,?_,R5 hR rfl rfl rfl rfl hsz (UC hrr),?_⟩
     ·have hlim':¬ (16777216<len*s):=by omega
      by_cases h0:len*s=0
      ·simp only[h0,Array.range_zero',Array.map_empty] at hRr
       simp[Instr.buildSlice,run_underlying hu,run_sizeOf hsz,h0,hRr,newRow,Array.range_zero']
      ·simp[Instr.buildSlice,run_underlying hu,run_sizeOf hsz,hlim',h0,OF hz,hRr,newRow]
     ·have:=AH.slice (ρ:=C9 ρ h.next ⟨W.heap.size,0,R.size,s⟩) (id:=h.next) (off:=0) (n:=len) (c:=len) (GS _ _ _) hlen
      simpa using this
    ·cases hs
   ·cases hs
  ·cases hs
 ·cases hs
theorem Ca (hR:BK P ρ h W) {t:TypeId} {l c L C v:Value} {h':AA} (hl:AH ρ l L) (hc:AH ρ c C)
  (hs:MK P h t l c=some (v,h')):∃ V W' ρ',(Instr.makeSlice t L C).run P W=.ok V W'∧Nx P ρ h W ρ' h' W'∧AH ρ' v V:=by
 unfold MK at hs
 split at hs
 ·rename_i e kl l kc c hu
  split at hs
  ·rename_i s z by_ hsz hz hby
   split at hs
   ·rename_i hcond
    simp only[Bool.and_eq_true,decide_eq_true_eq,beq_iff_eq] at hcond
    obtain⟨⟨⟨⟨⟨⟨hf,hzs⟩,hs0⟩,hl0⟩,hlc⟩,hb⟩,hc48⟩:=hcond
    cases hs
    obtain rfl:=KC hl
    obtain rfl:=KC hc
    have hi:∃ i,P.info? e=some i∧i.size=s∧i.zero=some z∧i.bytes=by_:=by
     unfold BP at hsz
     unfold DI at hz
     unfold G_ at hby
     cases hq:P.info? e with
     | none=>simp[hq] at hsz
     | some i=>simp[hq] at hsz hz hby;exact⟨i,rfl,hsz,hz,hby⟩
    obtain⟨i,hi,rfl,hiz,rfl⟩:=hi
    have hz2:0<z.cells.size:=by omega
    have hrun:=run_make (P:=P) W t e i z hu hi hiz kl kc l c hl0 hlc hb (by omega)
    have hm:=kI hz2 c.toNat
    rw[hzs] at hm
    have hmade:madeCells z.cells (c.toNat*i.size)=(ER z.cells.toList c.toNat).toArray:=by
     unfold madeCells;rw[hzs];exact hm.symm
    rw[hmade] at hrun
    refine⟨_,_,_,hrun,R5 hR rfl rfl rfl rfl hsz (UC ?_),?_⟩
    ·refine AY.same fun a ha=>?_
     obtain⟨k,hk⟩:=List.getElem?_of_mem ha
     have hlt:k<(ER z.cells.toList c.toNat).length:=(List.getElem?_eq_some_iff.1 hk).1
     rw[YD] at hlt
     rw[aM _ _ _ hlt] at hk
     obtain⟨b,hb,hr⟩:=(R7 (ρ:=ρ) hf).get hk
     rw[hk] at hb
     cases hb
     exact hr
    ·have:=AH.slice (ρ:=C9 ρ h.next ⟨W.heap.size,0,(ER z.cells.toList c.toNat).toArray.size,i.size⟩) (id:=h.next) (off:=0) (n:=l.toNat) (c:=c.toNat) (GS _ _ _) (by unfold AG;omega)
     simpa using this
   ·cases hs
  ·cases hs
 ·cases hs
end
section
variable {P:Program} {ρ:AX} {h:AA} {W:World}
theorem Ax (hR:BK P ρ h W) {i:Nat} (hi:i<h.next) (hf:h.floor≤i):Nx P ρ h W ρ (h.put i .dead) W:=by
 have hget:∀ j,(h.put i .dead).get j=if i=j then .dead else h.get j:=fun j=>by
  by_cases e:i=j
  ·subst e;rw[if_pos rfl,CE hR.len hi]
  ·rw[if_neg e,AQ hi e]
 refine⟨fun _ _ h=>h,fun _ _=>rfl,⟨R_ hR.len,hR.dom,hR.glob,?_,?_⟩,Fr.refl _ _ _,Nat.le_refl _,rfl,?_,?_,?_,?_⟩
 ·intro j
  rw[hget]
  split
  ·trivial
  ·exact hR.obj j
 ·intro a b La Lb hwa hlb hne hLa hLb
  rw[hget] at hwa hlb
  split at hwa
  ·exact hwa.elim
  ·split at hlb
   ·exact hlb.elim
   ·exact hR.inj a b La Lb hwa hlb hne hLa hLb
 ·intro j hj hjf
  rw[hget,if_neg (by omega)]
 ·intro j hj hwj
  rw[hget] at hwj
  split at hwj
  ·exact hwj.elim
  ·exact hwj
 ·intro j hj hwj
  rw[hget] at hwj
  split at hwj
  ·exact hwj.elim
  ·exact hwj
 ·intro j L' hj hwj _
  rw[F_ (by simpa [AA.put] using hj)] at hwj
  exact hwj.elim
theorem Co (hR:BK P ρ h W) {i:Nat} {o:BB} {W':World} {L L':Loc} (hw:wr (h.get i)) (hf:h.floor≤i) (hL:ρ i=some L) (hLb:L'.b=L.b)
  (hos:W'.os=W.os) (htp:W'.tape=W.tape) (hout:W'.output=W.output) (hsz:W'.heap.size=W.heap.size)
  (hblk:∀ b,b≠L.b→W'.heap[b]?=W.heap[b]?) (ho:FD P (C9 ρ h.next L') W' h.next o):Nx P ρ h W (C9 ρ h.next L') ((h.put i .dead).push o) W':=by
 have hi:i<h.next:=hR.lt hL
 have hx:=hR.ext_upd (L:=L')
 have hget:∀ j,((h.put i .dead).push o).get j=if j=h.next then o else if i=j then .dead else h.get j:=fun j=>by
  by_cases e:j=h.next
  ·subst e
   rw[if_pos rfl]
   exact BL (h:=h.put i .dead)
  ·rw[if_neg e,KO (h:=h.put i .dead) e]
   by_cases e2:i=j
   ·subst e2;rw[if_pos rfl,CE hR.len hi]
   ·rw[if_neg e2,AQ hi e2]
 have hkeep:∀ j,j≠h.next→i≠j→FD P (C9 ρ h.next L') W' j (h.get j):=fun j _ hj=>
  (hR.obj j).mono hx fun L2 hL2 hl=>hblk _ (Ne.symm (hR.inj i j L L2 hw hl hj hL hL2))
 refine⟨hx,fun i hi=>GW (by omega),⟨aB (R_ hR.len),?_,?_,?_,?_⟩,⟨hos,htp,hout,by omega,?_⟩,by simp[AA.push,AA.put],rfl,?_,?_,?_,?_⟩
 ·intro j hj
  have hj':h.next+1≤j:=hj
  rw[GW (by omega)]
  exact hR.dom j (by omega)
 ·intro g hg
  obtain⟨L2,h1,h2,h3⟩:=hR.glob g hg
  exact⟨L2,hx _ _ h1,h2,h3⟩
 ·intro j
  rw[hget]
  split
  ·rename_i e;subst e;exact ho
  ·split
   ·trivial
   ·exact hkeep j ‹_› ‹_›
 ·intro a b La Lb hwa hlb hne hLa hLb'
  rw[hget] at hwa hlb
  by_cases ea:a=h.next
  ·subst ea
   rw[GS] at hLa
   cases hLa
   rw[if_neg (Ne.symm hne)] at hlb
   rw[GW (Ne.symm hne)] at hLb'
   split at hlb
   ·exact hlb.elim
   ·rw[hLb];exact hR.inj i b L Lb hw hlb ‹_› hL hLb'
  ·rw[if_neg ea] at hwa
   rw[GW ea] at hLa
   split at hwa
   ·exact hwa.elim
   ·by_cases eb:b=h.next
    ·subst eb
     rw[GS] at hLb'
     cases hLb'
     rw[hLb]
     exact hR.inj a i La L hwa hw.live (Ne.symm ‹_›) hLa hL
    ·rw[if_neg eb] at hlb
     rw[GW eb] at hLb'
     split at hlb
     ·exact hlb.elim
     ·exact hR.inj a b La Lb hwa hlb hne hLa hLb'
 ·intro b _ hno
  exact hblk b (Ne.symm (hno i L hw hf hL))
 ·intro j hj hjf
  rw[hget,if_neg (by omega),if_neg (by omega)]
 ·intro j hj hwj
  rw[hget,if_neg (by omega)] at hwj
  split at hwj
  ·exact hwj.elim
  ·exact hwj
 ·intro j hj hwj
  rw[hget,if_neg (by omega)] at hwj
  split at hwj
  ·exact hwj.elim
  ·exact hwj
 ·intro j L2 hj hwj hL2
  rw[hget] at hwj
  split at hwj
  ·rename_i e
   subst e
   rw[GS] at hL2
   cases hL2
   exact .inr ⟨i,L,hw,hf,hL,hLb.symm⟩
  ·split at hwj
   ·exact hwj.elim
   ·rw[F_ hj] at hwj;exact hwj.elim
theorem R1 (hR:BK P ρ h W) {s n m c:Nat} {a:Option Addr} {SRC:Value} {new:List Value} (hx:AH ρ (.slice a m c) SRC) (hnm:n≤m) (hs:CL h s n (.slice a m c)=some new) :
  ∃ (A:Option Addr) (C:Nat) (New:List Value),SRC=.slice A m C∧New.length=n*s∧AY (AH ρ) new New∧(n=0∨∃ B:Addr,A=some B∧∀ (j:Nat) (u:Value),New[j]?=some u→W.cell? (B.add j)=some u):=by
 rcases I4 hx with⟨rfl,rfl,rfl,rfl⟩ | ⟨id,off,L,rfl,hL,hlt,rfl⟩ | ⟨id,off,L,A,C,rfl,hL,rfl,hC,rfl,hA⟩
 ·have hn:n=0:=by omega
  subst hn
  simp[CL] at hs
  subst hs
  exact⟨none,0,[],rfl,by simp,.nil,.inl rfl⟩
 ·simp only[CL] at hs
  by_cases h0:n=0
  ·rw[if_pos h0] at hs
   cases hs
   subst h0
   exact⟨_,_,[],rfl,by simp,.nil,.inl rfl⟩
  ·rw[if_neg h0] at hs
   split at hs
   ·rename_i cs ty g ro hg
    obtain⟨CS,ty',fr,hb,hcs,_⟩:=NM hR hg hL
    obtain⟨New,hN,h2,h3⟩:=S1 hs hcs
    refine⟨_,_,New,rfl,hN,h2,.inr ⟨_,rfl,fun j u hu=>?_⟩⟩
    rw[HZ,cell_of_row W L.b _ CS ty' fr hb]
    exact h3 j u hu
   ·cases hs
 ·simp only[CL] at hs
  by_cases h0:n=0
  ·rw[if_pos h0] at hs
   cases hs
   subst h0
   exact⟨_,_,[],rfl,by simp,.nil,.inl rfl⟩
  ·rw[if_neg h0] at hs
   split at hs
   ·rename_i cs ty g ro hg
    obtain⟨CS,ty',fr,hb,hcs,_⟩:=NM hR hg hL
    obtain⟨New,hN,h2,h3⟩:=S1 hs hcs
    rcases hA with(rfl | ⟨rfl,_⟩) | ⟨rfl,_⟩
    ·omega
    ·omega
    ·refine⟨_,_,New,rfl,hN,h2,.inr ⟨_,rfl,fun j u hu=>?_⟩⟩
     rw[HZ,cell_of_row W L.b _ CS ty' fr hb]
     exact h3 j u hu
   ·cases hs
theorem Y8 {s n m C:Nat} {A:Option Addr} {New:List Value} (hN:New.length=n*s) (h:n=0∨∃ B:Addr,A=some B∧∀ (j:Nat) (u:Value),New[j]?=some u→W.cell? (B.add j)=some u) :
  (Builtin.firstCells s n (.slice A m C)).run P W=.ok New.toArray W:=by
 rcases h with rfl | ⟨B,rfl,hc⟩
 ·have:New=[]:=List.eq_nil_of_length_eq_zero (by simpa using hN)
  subst this
  cases A with
  | none=>simp[Builtin.firstCells]
  | some B=>simp[Builtin.firstCells,loadCells,loadCellsFrom]
 ·exact run_firstCells_some W s n B m C New hN hc
theorem aY {t e ty:TypeId} {s n len C C':Nat} {A:Addr} {A':Option Addr} {New:List Value} {W':World} (hu:P.underlying t=some (.slice e)) (hz:BP P e=some s)
  (hN:New.length=n*s) (hsrc:n=0∨∃ B:Addr,A'=some B∧∀ (j:Nat) (u:Value),New[j]?=some u→W.cell? (B.add j)=some u) (hroom:len+n≤C)
  (hst:(storeCells (A.add (len*s)) New).run P W=.ok () W') :
  (Builtin.append_ #[t,t] ty #[.slice (some A) len C,.slice A' n C']).run P W=.ok (.slice (some A) (len+n) C) W':=by
 have hf:=Y8 (P:=P) (m:=n) (C:=C') hN hsrc
 simp[Builtin.append_,run_underlying hu,run_sizeOf hz,Builtin.lenOf,hroom,hf,hst]
theorem YS {t e ty:TypeId} {s len C C':Nat} {A A':Option Addr} (hu:P.underlying t=some (.slice e)) (hz:BP P e=some s) (hroom:len≤C) :
  (Builtin.append_ #[t,t] ty #[.slice A len C,.slice A' 0 C']).run P W=.ok (.slice A len C) W:=by
 have hf:=Y8 (P:=P) (W:=W) (s:=s) (n:=0) (m:=0) (C:=C') (A:=A') (New:=[]) (by simp) (.inl rfl)
 cases A with
 | none=>simp[Builtin.append_,run_underlying hu,run_sizeOf hz,Builtin.lenOf,hroom,hf]
 | some A=>simp[Builtin.append_,run_underlying hu,run_sizeOf hz,Builtin.lenOf,hroom,hf,storeCells]
theorem Ad {e:TypeId} {s by_:Nat} {z:Value} (hsz:BP P e=some s) (hz:DI P e=some z) (hby:G_ P e=some by_):∃ i,P.info? e=some i∧i.size=s∧i.zero=some z∧i.bytes=by_:=by
 unfold BP at hsz
 unfold DI at hz
 unfold G_ at hby
 cases hq:P.info? e with
 | none=>simp[hq] at hsz
 | some i=>simp[hq] at hsz hz hby;exact⟨i,rfl,hsz,hz,hby⟩
theorem ZB (hR:BK P ρ h W) {t e ty:TypeId} {s by_ len n C C':Nat} {z:Value} {A A':Option Addr} {old new Old New:List Value} (hu:P.underlying t=some (.slice e)) (hsz:BP P e=some s) (hz:DI P e=some z) (hby:G_ P e=some by_)
  (hzs:z.cells.size=s) (hO:Old.length=len*s) (hold:len=0∨∃ B:Addr,A=some B∧∀ (j:Nat) (u:Value),Old[j]?=some u→W.cell? (B.add j)=some u) (hAn:A=none→C=0)
  (hN:New.length=n*s) (hnew:n=0∨∃ B:Addr,A'=some B∧∀ (j:Nat) (u:Value),New[j]?=some u→W.cell? (B.add j)=some u) (hro:AY (AH ρ) old Old) (hrn:AY (AH ρ) new New)
  (hgr:C<len+n) (hle:len≤C) (hb:(len+n)*by_≤140737488355328) (hl:len+n≤140737488355328) :
  ∃ V W' ρ',(Builtin.append_ #[t,t] ty #[.slice A len C,.slice A' n C']).run P W=.ok V W'∧Nx P ρ h W ρ' (h.push (.row (old++new) e true false)) W'∧AH ρ' (.slice (some ⟨h.next,0,none⟩) (len+n) AG) V:=by
 obtain⟨i,hi,rfl,hiz,rfl⟩:=Ad hsz hz hby
 have hn:n≠0:=by omega
 obtain⟨B',rfl,hB'⟩:∃ B:Addr,A'=some B∧∀ (j:Nat) (u:Value),New[j]?=some u→W.cell? (B.add j)=some u:=hnew.resolve_left hn
 have key:∃ cp,len+n≤cp∧(Builtin.append_ #[t,t] ty #[.slice A len C,.slice (some B') n C']).run P W=.ok (.slice (some ⟨W.heap.size,0,none⟩) (len+n) cp) (W.drew.alloc (.cells (Old.toArray++New.toArray++Builtin.zeroCells z.cells (cp-(len+n))) e)):=by
  cases A with
  | none=>
   have hC:=hAn rfl
   subst hC
   have hl0:len=0:=by omega
   subst hl0
   have hOn:Old=[]:=List.eq_nil_of_length_eq_zero (by simpa using hO)
   subst hOn
   have hr:=run_append_nil (P:=P) W t ty e i z hu hi hiz B' n C' New hN hB' (by omega) (by omega) (by simp only[Nat.zero_add] at hb;omega)
   exact⟨grownCap W n 0 e,by simpa using grownCap_ge W n 0 e,by simpa using hr⟩
  | some B=>
   have hfit:=growslice_fits (need:=len+n) (old:=C) (bytes:=i.bytes) hgr hb
   have hOB:∀ (j:Nat) (u:Value),Old[j]?=some u→W.cell? (B.add j)=some u:=by
    rcases hold with rfl | ⟨B2,e2,h2⟩
    ·have:Old=[]:=List.eq_nil_of_length_eq_zero (by simpa using hO)
     subst this
     simp
    ·cases e2;exact h2
   have hr:=run_append_grow (P:=P) W t ty e i z hu hi hiz B len C Old hO hOB B' n C' New hN hB' hgr (by omega) hfit
   exact⟨grownCap W (len+n) C e,grownCap_ge W (len+n) C e,hr⟩
 obtain⟨cp,hcp,hrun⟩:=key
 refine⟨_,_,_,hrun,R5 hR (W1:=W.drew) rfl rfl rfl rfl hsz ?_,?_⟩
 ·intro k v hv
  have hall:=hro.append hrn
  obtain⟨V,hV,hr⟩:=hall.get hv
  refine⟨V,?_,hr⟩
  have hlt:k<(Old++New).length:=(List.getElem?_eq_some_iff.1 hV).1
  rw[Array.getElem?_append_left (by simpa using hlt)]
  simpa using hV
 ·refine AH.sliceU (GS _ _ _) hcp (.inr ⟨by simp,?_⟩)
  simp only[Array.size_append,List.size_toArray,size_zeroCells,hO,hN,hzs,Nat.zero_add,← Nat.add_mul]
  congr 1
  omega
theorem q_ (hR : BK P ρ h W) {t ty:TypeId} {x X y Y v:Value} {h':AA} (hx:AH ρ x X) (hy:AH ρ y Y) (hs:C4 P h t x y=some (v,h')) :
  ∃ V W' ρ',(Builtin.append_ #[t,t] ty #[X,Y]).run P W=.ok V W'∧Nx P ρ h W ρ' h' W'∧AH ρ' v V:=by
 unfold C4 at hs
 split at hs
 ·rename_i e base len cap sb n sc hu
  split at hs
  ·rename_i s by_ z hsz hby hz
   split at hs
   ·rename_i hc0
    simp only[Bool.and_eq_true,decide_eq_true_eq,beq_iff_eq] at hc0
    obtain⟨⟨hs0,hzs⟩,hlc⟩:=hc0
    split at hs
    ·rename_i new hnew
     split at hs
     ·rename_i hone
      obtain⟨A',C',New,rfl,hN,hrn,hsrc⟩:=R1 hR hy (Nat.le_refl _) hnew
      split at hs
      ·rename_i hcu
       subst hcu
       split at hs
       ·rename_i id off
        rcases I4 hx with⟨h1,_⟩ | ⟨id',off',L,h1,hL,hlt,_⟩ | ⟨id',off',L,A,C,h1,hL,_,hC,rfl,hA⟩
        ·cases h1
        ·exact absurd hlt (Nat.lt_irrefl _)
        ·cases h1
         split at hs
         ·rename_i hc1
          simp only[Bool.and_eq_true,decide_eq_true_eq] at hc1
          obtain⟨⟨hb,hl⟩,hf⟩:=hc1
          split at hs
          ·rename_i hn0
           cases hs
           subst hn0
           exact⟨_,_,ρ,YS hu hsz hC,Nx.refl hR,hx⟩
          ·rename_i hn0
           split at hs
           ·rename_i cs ty' hg
            split at hs
            ·rename_i hty
             subst hty
             split at hs
             ·rename_i old hcut
              split at hs
              ·rename_i hoone
               cases hs
               obtain⟨CS,ty2,fr,hb2,hcs,hown⟩:=NM hR hg hL
               obtain⟨rfl,rfl,hCS,hzz⟩:=hown rfl
               rw[hsz] at hzz
               cases hzz
               obtain⟨Old,hO,hro,hOc⟩:=S1 hcut hcs
               have hwr:wr (h.get id):=by rw[hg];rfl
               by_cases hroom:len+n≤C
               ·rcases hA with(rfl | ⟨rfl,hz0⟩) | ⟨rfl,he⟩
                ·omega
                ·omega
                ·have hmul:(len+n)*L.z≤C*L.z:=Nat.mul_le_mul_right _ hroom
                 rw[Nat.add_mul] at hmul
                 have hfit:L.d+(off+len*L.z)+New.length≤CS.size:=by omega
                 have hNone:∀ v∈New,v.oneCell'=true:=by
                  intro V hV
                  obtain⟨k,hk⟩:=List.getElem?_of_mem hV
                  obtain⟨v,hv,hr⟩:=hrn.getR hk
                  rw[← ZI,YC hr]
                  exact List.all_eq_true.1 hone v (List.mem_of_getElem? hv)
                 have hst:=run_storeCells_at P L.b (L.d+(off+len*L.z)) _ New 0 CS W hb2 (by simpa using hfit) hNone
                 have hrun:=aY (P:=P) (W:=W) (A:=⟨L.b,L.d+off,none⟩) (ty:=ty) (C':=C') hu hsz hN hsrc hroom (by rw[HZ,Nat.add_assoc];exact hst)
                 simp only[Nat.add_zero] at hrun
                 refine⟨_,_,C9 ρ h.next ⟨L.b,L.d+off,L.e-off,L.z⟩,hrun,?_,?_⟩
                 ·have hnewh:(W.setRow L.b (CS.toList.take (L.d+(off+len*L.z))++New++CS.toList.drop (L.d+(off+len*L.z)+New.length)).toArray).heap[L.b]?=some (.cells (lay CS.toList (L.d+(off+len*L.z)) New).toArray _ (0,0)):=setRow_heap W L.b CS _ _ _ hb2
                  refine Co hR (L:=L) hwr hf hL rfl rfl rfl rfl (by simp) (fun b hne=>setRow_other W L.b b _ hne) ?_
                  refine⟨_,_,_,_,GS _ _ _,hnewh,?_,fun _=>⟨rfl,rfl,?_,hsz⟩⟩
                  ·intro k v hv
                   simp only[List.getElem?_toArray]
                   rw[MM (by simpa using hfit)]
                   have hol:old.length=len*L.z:=(fT hcut).1
                   by_cases hk:k<old.length
                   ·rw[List.getElem?_append_left hk] at hv
                    obtain⟨V,hV,hr⟩:=hro.get hv
                    refine⟨V,?_,hr.mono hR.ext_upd⟩
                    rw[if_neg (by omega)]
                    have:=hOc k V hV
                    simpa using this
                   ·rw[List.getElem?_append_right (by omega)] at hv
                    obtain⟨V,hV,hr⟩:=hrn.get hv
                    refine⟨V,?_,hr.mono hR.ext_upd⟩
                    have hk2:k-old.length<New.length:=(List.getElem?_eq_some_iff.1 hV).1
                    rw[if_pos ⟨by omega,by omega⟩,show L.d+off+k-(L.d+(off+len*L.z))=k-old.length by omega]
                    exact hV
                  ·simp only[List.size_toArray]
                   rw[RS (by simpa using hfit)]
                   simp only[Array.length_toList]
                   omega
                 ·refine AH.sliceU (GS _ _ _) hroom (.inr ⟨by simp,?_⟩)
                  simp only[Nat.zero_add]
                  omega
               ·have hkill:=Ax hR (hR.lt hL) hf
                have hOsrc:len=0∨∃ B:Addr,some A=some B∧∀ (j:Nat) (u:Value),Old[j]?=some u→W.cell? (B.add j)=some u:=by
                 rcases hA with(rfl | ⟨rfl,hz0⟩) | ⟨rfl,_⟩
                 ·left;omega
                 ·left;rfl
                 ·right
                  refine⟨_,rfl,fun j u hu=>?_⟩
                  rw[HZ,cell_of_row W L.b _ CS _ (0,0) hb2]
                  exact hOc j u hu
                obtain⟨V,W',ρ',hrun,hN2,hv⟩:=ZB (ty:=ty) (C':=C') hkill.rel hu hsz hz hby hzs hO hOsrc (fun h=>by cases h) hN hsrc hro hrn (by omega) hC hb hl
                exact⟨V,W',ρ',hrun,hkill.trans hR hN2,hv⟩
              ·cases hs
             ·cases hs
            ·cases hs
           ·cases hs
         ·cases hs
       ·cases hs
      ·rename_i hcu
       split at hs
       ·rename_i hroom
        split at hs
        ·rename_i hn0
         cases hs
         subst hn0
         rcases I4 hx with⟨rfl,rfl,rfl,rfl⟩ | ⟨id',off',L,rfl,hL,hlt,rfl⟩ | ⟨id',off',L,A,C,_,hL,h1,_⟩
         ·exact⟨_,_,ρ,YS hu hsz (by omega),Nx.refl hR,hx⟩
         ·exact⟨_,_,ρ,YS hu hsz (by omega),Nx.refl hR,hx⟩
         ·exact absurd h1 hcu
        ·rename_i hn0
         split at hs
         ·rename_i id off
          split at hs
          ·rename_i h2 hst
           cases hs
           rcases I4 hx with⟨h1,_⟩ | ⟨id',off',L,h1,hL,hlt,rfl⟩ | ⟨id',off',L,A,C,_,hL,h1,_⟩
           ·cases h1
           ·cases h1
            obtain⟨W',hrun,hN2⟩:=XM hR hrn hL hst
            refine⟨_,_,ρ,aY (P:=P) (W:=W) hu hsz hN hsrc hroom (by rw[HZ,Nat.add_assoc];exact hrun),hN2,.slice hL hlt⟩
           ·exact absurd h1 hcu
          ·cases hs
         ·cases hs
       ·rename_i hroom
        split at hs
        ·rename_i hc1
         simp only[Bool.and_eq_true,decide_eq_true_eq] at hc1
         obtain⟨⟨⟨hb,hb2⟩,hl⟩,hl2⟩:=hc1
         split at hs
         ·rename_i old hold
          cases hs
          obtain⟨A,C,Old,hX,hO,hro,hOs⟩:=R1 hR hx (Nat.le_refl _) hold
          subst hX
          have hCc:C=cap:=by
           rcases I4 hx with⟨rfl,rfl,rfl,e1⟩ | ⟨id',off',L,rfl,hL,hlt,e1⟩ | ⟨id',off',L,A,C,_,hL,h1,_⟩
           ·cases e1;rfl
           ·cases e1;rfl
           ·exact absurd h1 hcu
          subst hCc
          have hAn:A=none→C=0:=by
           rintro rfl
           rcases I4 hx with⟨rfl,rfl,rfl,e1⟩ | ⟨id',off',L,rfl,hL,hlt,e1⟩ | ⟨id',off',L,A,C,_,hL,h1,_⟩
           ·rfl
           ·cases e1
           ·exact absurd h1 hcu
          exact ZB hR hu hsz hz hby hzs hO hOs hAn hN hsrc hro hrn (by omega) (by omega) hb hl
         ·cases hs
        ·cases hs
     ·cases hs
    ·cases hs
   ·cases hs
  ·cases hs
 ·cases hs
end
end Go.Sx
