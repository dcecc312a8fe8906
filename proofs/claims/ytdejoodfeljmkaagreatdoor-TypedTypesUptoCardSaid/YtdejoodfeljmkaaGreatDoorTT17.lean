/- Part 17 of what the claim leans on: 4 texts laid one behind another. -/
import Derived.Test.YtdejoodfeljmkaaGreatDoorTT16
namespace Go.Proofs.YtdejoodfeljmkaaGreatDoor
open Go Go.Sx
set_option maxRecDepth 100000
set_option linter.unusedSimpArgs false
set_option linter.unusedVariables false
theorem J9E {a:Nat} {H:SHeap} {cs:List Value} {ty:TypeId} {g ro:Bool} (h:H.get a=.row cs ty g ro) (hl:cs.length=8):ldN 8 0 (H.get a)=some (.agg cs.toArray):=by
 rw[h]
 have:cs.take 8=cs:=List.take_of_length_le (by omega)
 simp only[ldN,cut,List.drop_zero,this,hl,if_true]
theorem J5d {l:List RowN} (h:(J0v l).1=0):J2L J09 l=none:=by
 unfold J0v at h
 cases hs:J2L J09 l with
 | none=>rfl
 | some p=>
  rw[hs] at h
  simp at h
def Told (h:SHeap) (l:List RowN) (v:Value) (h':SHeap):Prop:=
 ∃ pv,v=.tuple #[pv,J2k (resN l).1.1 (resN l).1.2]∧J3x h.next h' pv (outN l).1 (outN l).2∧h'.floor=h.floor∧h.next≤h'.next∧∀ i,i<h.next→h'.get i=h.get i
theorem J0p.flat {lo:Nat} {h:SHeap} {v:Value} {n w:Nat} {cs:List Value} (hc:J0p lo h v n w cs) (hf:J1i v=true) (lo':Nat) (h':SHeap):J0p lo' h' v n w cs:=by
 obtain⟨hl,a,c,rfl,⟨h0,rfl⟩ | ⟨id,off,row,ty,g,ro,rfl,g1,g2,g3⟩⟩:=hc
 ·exact⟨hl,_,_,rfl,.inl ⟨h0,rfl⟩⟩
 ·cases hf
theorem J92 {h h1:SHeap} {l:List RowN} {v:Value} (hf:J3m v=true) (ht:Told h l v h1):Told h l v h:=by
 obtain⟨pv,rfl,⟨vr,vq,vv,vt,vu,vo,rfl,h2,h3,h4,h5,h6,h7⟩,_⟩:=ht
 have hf':flat (.agg #[.string (outN l).1,vr,vq,vv,vt,vu,vo,iv (outN l).2.miss])=true:=by
  simp only[J3m,List.all_toArray,List.all_cons,Bool.and_eq_true] at hf
  exact hf.1
 simp only[flat,List.all_cons,Bool.and_eq_true] at hf'
 obtain⟨_,f1,f2,f3,f4,f5,f6,_⟩:=hf'
 exact⟨_,rfl,⟨vr,vq,vv,vt,vu,vo,rfl,J3P.of (h2.2.flat f1 _ _),h3.flat f2 _ _,h4.flat f3 _ _,h5.flat f4 _ _,J0p.flat h6 f5 _ _,J0p.flat h7 f6 _ _⟩,rfl,Nat.le_refl _,fun _ _=>rfl⟩
def Jlg (lo:Nat) (h:SHeap) (pv:Value) (nm:ByteArray) (s:StN):Prop:=(pv=zPol∧nm=ByteArray.empty∧s=sZ)∨OwnS lo h pv nm s
theorem Jlg.pol {lo:Nat} {h:SHeap} {pv:Value} {nm:ByteArray} {s:StN} (hp:Jlg lo h pv nm s):J3x lo h pv nm s:=by
 rcases hp with⟨rfl,rfl,rfl⟩ | hp
 ·exact JcV lo h
 ·exact hp.pol
def Jld (h:SHeap) (l:List RowN) (v:Value) (h':SHeap):Prop:=
 ∃ pv,v=.tuple #[pv,J2k (resN l).1.1 (resN l).1.2]∧Jlg h.next h' pv (outN l).1 (outN l).2∧h'.floor=h.floor∧h.next≤h'.next∧∀ i,i<h.next→h'.get i=h.get i
theorem Jld.told {h h':SHeap} {l:List RowN} {v:Value} (ht:Jld h l v h'):Told h l v h':=by
 obtain⟨pv,h1,h2,h3⟩:=ht
 exact⟨pv,h1,h2.pol,h3⟩
theorem Jlz {h h1:SHeap} {l:List RowN} {v:Value} (hf:J3m v=true) (ht:Jld h l v h1):Jld h l v h:=by
 obtain⟨pv,rfl,h2,_⟩:=ht
 refine⟨pv,rfl,?_,rfl,Nat.le_refl _,fun _ _=>rfl⟩
 rcases h2 with h2 | ⟨tag,r,vq,vv,vt,vu,vo,rfl,_⟩
 ·exact .inl h2
 ·have hf':flat (.agg #[.string (outN l).1,.slice (some ⟨r,0,none⟩) (outN l).2.rows.length unk,vq,vv,vt,vu,vo,iv (outN l).2.miss])=true:=by
   simp only[J3m,List.all_toArray,List.all_cons,Bool.and_eq_true] at hf
   exact hf.1
  simp only[flat,List.all_cons,Bool.and_eq_true] at hf'
  exact absurd hf'.2.1 (by simp[J1i])
section
variable {n N:Nat}
set_option maxHeartbeats 4000000 in
theorem JcB {l:List RowN} {v:Value} {h:SHeap} (hfl:h.floor≤h.next) (hg:h.get 0=J14) (hn0:0<h.next) (hv:J0l h v l) (hL:l.length<900000000) (hn:2*l.length+100<n) (hN:l.length+3<N) :
  ∃ v' h',J0L Tryz.prog (J0T n) N 22 [v] h=some (v',h')∧Jld h l v' h':=by
 refine J65 (R:=Jld h l) Tryz.func22 rfl (by simp[Tryz.f22]) ?_
 have hr:Tryz.f22.results.toList=[.cell 2 27,.cell 3 32]:=rfl
 generalize hKK:Kont.top (fun e s=>(e=SExit.normal∨e=SExit.ret)∧∃ vs,resS Tryz.prog s Tryz.f22.results.toList=some vs∧Jld h l (resV vs) s.h)=K
 have fin:∀ (T':Tr) (H':SHeap) cs e p nm s,T'.get 2=.pointer (some ⟨h.next,0,none⟩)→T'.get 3=.pointer (some ⟨h.next+1,0,none⟩)→cs.length=8→Out2 h.next H' cs e p→Jlg h.next H' (.agg cs.toArray) nm s→(resN l).1=(e,p)→outN l=(nm,s)→h.next≤H'.next→H'.floor=h.floor→(∀ i,i<h.next→H'.get i=h.get i)→K.ap Tryz.prog (J0T n) N .ret ⟨T',H'⟩:=by
  intro T' H' cs e p nm s t2 t3 hl ho hp he hout hnx hf hold
  have l30:=J9E ho.1 hl
  have l33:ldN 2 0 (H'.get (h.next+1))=some (J2k e p):=by rw[ho.2];rfl
  rw[← hKK]
  simp only[evC,seval,↓evP,hr,t2,t3,J1b,J2n,l30,l33]
  exact⟨_,by rw[he],by rw[hout];exact hp,hf,hnx,hold⟩
 have hz:∀ H',Jlg h.next H' zPol ByteArray.empty sZ:=fun H'=>.inl ⟨rfl,rfl,rfl⟩
 refine Je0 (J1z n).2 hfl hv hg hn0 (fun H hv' hg' hn' hfl'=>JgM (by omega) (by omega) hv' hg' hn' hfl') ?_ ?_
 ·intro hc T' H t2 t3 ho hnx hf hold
  refine fin T' H _ _ _ ByteArray.empty sZ t2 t3 rfl ho (hz H) ?_ ?_ (by omega) hf hold
  ·unfold resN
   rw[if_pos hc]
  ·unfold outN
   have:(resN l).1.1≠0:=by unfold resN;rw[if_pos hc];exact hc
   rw[if_pos this]
 ·intro hc T' H t0 t2 t3 ho hnx hf hold
  have ht:=J8d (J5d hc)
  have hvH:J0l H v l:=hv.mono (by omega) hold
  have hcw:=fun H' (hv':J0l H' v l)=>Jc0 (n:=n-1) (J13 (f:=49) (args:=[v]) (h:=H') ⟨rfl,rfl,rfl⟩) rfl (Jby (call:=J0T (n-1)) (N:=n-1) hv' ht.pos (by omega))
  rw[show n-1+1=n by omega] at hcw
  refine Jdt (J1z n).2 ht hL (by omega) hvH t0 hcw (fun H' hv' hf'=>JhY ht hv' (by omega) (by omega) hf') ?_
  intro T1 H1 m k c e r c5 c6 fl u0 u2 u3 u5 u6 u7 hp hcl hnx1 hf1 hold1
  have ho1:Out2 h.next H1 [.string ByteArray.empty,.slice none 0 0,.slice none 0 0,.slice none 0 0,.slice none 0 0,.slice none 0 0,.slice none 0 0,iv 0] 0 0:=ho.mono (hold1 _ (by omega)) (hold1 _ (by omega))
  refine Jbf (a:=h.next) ht hL (by omega) hN u0 (u2.trans t2) (u3.trans t3) u7 (hvH.mono hnx1 hold1) hp hcl (by simp) (by simp) (by simp) (by omega) (by omega) ho1 (by omega) ?_ ?_
  ·intro hgo T2 H2 w2 w3 ho2 hnx2 hf2 hold2
   refine fin T2 H2 _ _ _ ByteArray.empty sZ w2 w3 rfl ho2 (hz H2) ?_ ?_ (by omega) (by omega) fun i hi=>by rw[hold2 i hi,hold1 i (by omega),hold i hi]
   ·unfold resN
    rw[if_neg (by rw[hc];simp)]
    simp only
    rw[if_pos hgo]
   ·unfold outN
    have:(resN l).1.1≠0:=by
     unfold resN
     rw[if_neg (by rw[hc];simp)]
     simp only
     rw[if_pos hgo]
     exact hgo
    rw[if_pos this]
  ·intro hgo T2 H2 hk2 hp2 hin2 haf
   have g5:=(haf.1 c5 (.inr (by simp))).trans hcl.h5
   have g6:=(haf.1 c6 (.inr (by simp))).trans hcl.h6
   have ho2:Out2 h.next H2 [.string ByteArray.empty,.slice none 0 0,.slice none 0 0,.slice none 0 0,.slice none 0 0,.slice none 0 0,.slice none 0 0,iv 0] 0 0:=ho1.mono (haf.1 _ (.inl (by omega))) (haf.1 _ (.inl (by omega)))
   have hf2:=haf.2.2
   have hn2:=haf.2.1
   refine JbM (a:=h.next) ht hL (by omega) ((hk2 2 (by omega)).trans (u2.trans t2)) ((hk2 3 (by omega)).trans (u3.trans t3)) ((hk2 5 (by omega)).trans u5) ((hk2 6 (by omega)).trans u6) hp2 hin2 g5 g6 (by omega) (by omega) ho2 (by omega) ?_ ?_
   ·intro hlg T3 H3 x2 x3 ho3 hnx3 hf3 hold3
    have hres:(resN l).1=(34,J2K (goN (J0o l) l.length 0 (s0N l)).2.2.rows (J0o l) (goN (J0o l) l.length 0 (s0N l)).2.2.rules):=by
     unfold resN
     rw[if_neg (by rw[hc];simp)]
     simp only
     rw[if_neg (by rw[hgo];simp),if_pos hlg]
    refine fin T3 H3 _ _ _ ByteArray.empty sZ x2 x3 rfl ho3 (hz H3) hres ?_ (by omega) (by omega) fun i hi=>by rw[hold3 i hi,haf.1 i (.inl (by omega)),hold1 i (by omega),hold i hi]
    unfold outN
    rw[if_pos (by rw[hres];simp)]
   ·intro hlg T3 H3 cs x2 x3 hcs ho3 hpol hnx3 hf3 hold3
    have hres:resN l=((0,0),(goN (J0o l) l.length 0 (s0N l)).2.2):=by
     unfold resN
     rw[if_neg (by rw[hc];simp)]
     simp only
     rw[if_neg (by rw[hgo];simp),if_neg hlg]
    refine fin T3 H3 cs _ _ (J52 l) (goN (J0o l) l.length 0 (s0N l)).2.2 x2 x3 hcs ho3 (.inr (hpol.weak (by omega))) (by rw[hres]) ?_ (by omega) (by omega) fun i hi=>by rw[hold3 i hi,haf.1 i (.inl (by omega)),hold1 i (by omega),hold i hi]
    unfold outN
    rw[hres]
    simp
theorem JmO {l:List RowN} {v:Value} {h:SHeap} (hfl:h.floor≤h.next) (hg:h.get 0=J14) (hn0:0<h.next) (hv:J0l h v l) (hL:l.length<900000000) (hn:2*l.length+110<n) :
  ∃ v' h',J0T n 22 [v] h=some (v',h')∧Jld h l v' h':=by
 obtain⟨n,rfl⟩:∃ j,n=j+1:=⟨n-1,by omega⟩
 exact k_ex (J13 ⟨rfl,rfl,rfl⟩) (JcB (n:=n) (N:=n) hfl hg hn0 hv hL (by omega) (by omega)) fun v' h1 hf _ ht=>Jlz hf ht
theorem Jia {l:List RowN} {v:Value} {h:SHeap} (hfl:h.floor≤h.next) (hg:h.get 0=J14) (hn0:0<h.next) (hv:J0l h v l) (hL:l.length<900000000) (hn:2*l.length+110<n) :
  ∃ v' h',J0T n 22 [v] h=some (v',h')∧Told h l v' h':=by
 obtain⟨v',h',h1,h2⟩:=JmO (n:=n) hfl hg hn0 hv hL hn
 exact⟨v',h',h1,h2.told⟩
end
def InvT (s:StN):Prop:=s.things.length=s.queues.length+s.vars.length+s.tags.length+s.rules.length
theorem Jj2 (l:List RowN):InvT (s0N l):=rfl
theorem JgA {at_:Nat} {end_:Int} {x:RowN} {s:StN} (h:InvT s):InvT (J0W at_ end_ x s):=by
 unfold J0W
 split
 ·exact h
 ·rename_i hd
  have hk:=J3c x.kind
  unfold InvT at h ⊢
  simp only[addN,List.length_append,List.length_cons,List.length_nil]
  obtain h1 | h1 | h1 | h1:J0j x.kind=1∨J0j x.kind=2∨J0j x.kind=3∨J0j x.kind=4:=by omega
  all_goals (rw[h1];simp;omega)
theorem Jet {at_:Nat} {x:RowN} {s:StN} (h:InvT s):InvT (J0D at_ x s):=by
 unfold J0D
 split
 ·exact h
 ·split <;> exact h
theorem JiX {at_:Nat} {x:RowN} {s:StN} (h:InvT s):InvT (evS at_ x s):=by
 unfold evS
 split
 ·exact h
 ·split <;> exact h
theorem Jio {E:List Int} {at_:Nat} {s:StN} (h:InvT s):InvT (J31 E at_ s).2:=by
 unfold J31
 (repeat' split) <;> first | exact h | exact JiX (Jet (JgA h))
theorem Jd6 {s:StN} (h:InvT s) (hw:WfS s):s.things.length<100000:=by
 have:=hw.q;have:=hw.v;have:=hw.t;have:=hw.u
 unfold InvT at h
 omega
theorem Jcq {S Z:List Int} {k:Int} (h0:0≤k) (h1:k<S.length):J5y (S++Z) k=J5y S k:=by
 unfold J5y
 rw[List.getElem?_append_left (by omega)]
theorem J7y {S Z:List Int}:∀ (l:List RowN) (a:Int),(∀ x∈l,x.kind=22→0≤x.n∧x.n<S.length)→J2j (S++Z) l a=J2j S l a
 | [],a,_=>rfl
 | x :: l,a,h=>by
  have ih:=fun b=>J7y (S:=S) (Z:=Z) l b fun y hy=>h y (List.mem_cons_of_mem _ hy)
  unfold J2j
  rw[ih]
  by_cases h22:x.kind=22
  ·rw[if_pos h22,if_pos h22,Jcq (h x (.head _) h22).1 (h x (.head _) h22).2]
  ·rw[if_neg h22,if_neg h22]
theorem JgL {rows:List RowN} {E rules:List Int} (hL:LayR rows E rules):J4Y rows E rules []=J42 rows E rules:=by
 have key:∀ (r S:List Int),(∃ pre,rules=pre++r∧pre.length=S.length)→J8r rows E r S.length (S++List.replicate r.length 0)=J4Y rows E r S:=by
  intro r
  induction r with
  | nil=>intro S _;simp[J8r,J4Y]
  | cons ru r ih=>
   rintro S ⟨pre,hp,hl⟩
   have hru:rules[S.length]?=some ru:=by rw[hp,← hl,List.getElem?_append_right (Nat.le_refl _),Nat.sub_self];rfl
   have hrl:=hL.lay.rl ru (List.mem_of_getElem? hru)
   have hc:cAt rows E (S++List.replicate (ru :: r).length 0) ru.toNat=cAt rows E S ru.toNat:=by
    unfold cAt
    refine J7y _ _ fun x hx h22=>?_
    have h1:=hL.ahead _ _ hru x hx h22
    have h2:=hL.lay.calls x (List.mem_of_mem_drop (List.mem_of_mem_take hx)) h22
    exact⟨h2.1,h1⟩
   unfold J8r J4Y
   rw[hc]
   have:(S++List.replicate (ru :: r).length 0).set S.length (cAt rows E S ru.toNat)=(S++[cAt rows E S ru.toNat])++List.replicate r.length 0:=by
    rw[List.set_append_right _ _ (Nat.le_refl _),Nat.sub_self,List.length_cons,List.replicate_succ,List.set_cons_zero,List.append_assoc]
    rfl
   rw[this]
   have:=ih (S++[cAt rows E S ru.toNat]) ⟨pre++[ru],by rw[hp];simp,by simp[hl]⟩
   rw[List.length_append,List.length_cons,List.length_nil] at this
   exact this
 have:=key rules [] ⟨[],rfl,rfl⟩
 exact this.symm
theorem AftR.trans {h H H':SHeap} {lo:Nat} (a:AftR h H lo) (b:AftR H H' lo):AftR h H' lo:=⟨fun i hi=>(b.1 i hi).trans (a.1 i hi),Nat.le_trans a.2.1 b.2.1,b.2.2.trans a.2.2⟩
theorem AftR.refl (h:SHeap) (lo:Nat):AftR h h lo:=⟨fun _ _=>rfl,Nat.le_refl _,rfl⟩
noncomputable def XB17:Code:=inB (J81 Tryz.f61 1)
noncomputable def XE17:Code:=rt (rt (rt (rt XB17)))
section
variable {n N:Nat}
set_option maxHeartbeats 8000000 in
theorem J4w {T:Tr} {H:SHeap} {K:Kont} {a lo m e r L at_:Nat} {nm:ByteArray} {E:List Int} {s:StN} {x:RowN} {e1 κ:Int} (hκ:1≤κ∧κ≤54) (hn:100020<n) (hat:at_<900000000)
  (t2:T.get 2=.pointer (some ⟨a,0,none⟩)) (t3:T.get 3=.pointer (some ⟨a+1,0,none⟩)) (t5:T.get 5=.pointer (some ⟨m,0,none⟩)) (t6:T.get 6=iv at_) (t7:T.get 7=iv e1) (t8:T.get 8=iv κ)
  (hp:e1=0→MkRE H lo m e r L nm E s∧s.rows[at_]?=some x∧x.kind=κ∧(J0E x.kind=true→x.kind≠10→0≤x.n∧x.n<s.on.length)) (ha:a+1<lo) (hlo:lo≤H.next) (hout:Out2 a H [.string ByteArray.empty,.slice none 0 0,.slice none 0 0,.slice none 0 0,.slice none 0 0,.slice none 0 0,.slice none 0 0,iv 0] 0 0) (hfa:H.floor≤a)
  (hbad:∀ e',e'≠0→((e1≠0∧e'=e1)∨(e1=0∧e'=evE x s))→∀ T' H',T'.get 2=.pointer (some ⟨a,0,none⟩)→T'.get 3=.pointer (some ⟨a+1,0,none⟩)→Out2 a H' [.string ByteArray.empty,.slice none 0 0,.slice none 0 0,.slice none 0 0,.slice none 0 0,.slice none 0 0,.slice none 0 0,iv 0] e' at_→H.next≤H'.next→H'.floor=H.floor→(∀ i,i<a→H'.get i=H.get i)→K.ap Tryz.prog (J0T n) N .ret ⟨T',H'⟩)
  (hgood:e1=0→evE x s=0→∀ T' H',(∀ t:Nat,t≤6→T'.get t=T.get t)→MkRE H' lo m e r L nm E (evS at_ x s)→AftR H H' lo→K.ap Tryz.prog (J0T n) N .normal ⟨T',H'⟩) :
  WK Tryz.prog (J0T n) N XE17 ⟨T,H⟩ K:=by
 show WK _ _ _ (.seq (.seq _ _) (.seq _ _)) _ _
 cases d:(e1 != 0) with
 | true=>
  have d1:(e1==0)=false:=by simpa using d
  have e0:e1≠0:=by simpa using d
  obtain⟨H',s1,s2,r1,r2,r3,r4⟩:=J4J hout rfl (by omega) (by omega) (cs':=[.string ByteArray.empty,.slice none 0 0,.slice none 0 0,.slice none 0 0,.slice none 0 0,.slice none 0 0,.slice none 0 0,iv 0]) rfl rfl (e':=e1) (p':=at_)
  simp only[evC,seval,↓evP,t2,t3,t5,t6,t7,t8,d,d1,J28,J4G,s1,s2]
  refine hbad e1 e0 (.inl ⟨e0,rfl⟩) _ _ ?_ ?_ r1 (by omega) r3 fun i hi=>r4 i (by omega) (by omega)
  ·simp only[evC,seval,↓evP,rpC,t2]
  ·simp only[evC,seval,↓evP,rpC,t3]
 | false=>
  have e0:e1=0:=by simpa using d
  subst e0
  obtain⟨hp1,hx,hk,hxn⟩:=hp rfl
  have hV:=J2Z (n:=n) (J1M (k:=12) (Jgw κ H hκ))
  have z0:((0:Int)==0)=true:=rfl
  cases dv:J0E κ with
  | false=>
   rw[dv] at hV
   rw[← hk] at dv
   have h1:evE x s=0:=by unfold evE;rw[if_pos dv]
   have h2:evS at_ x s=s:=by unfold evS;rw[if_pos dv]
   simp only[evC,seval,↓evP,t2,t3,t5,t6,t7,t8,d,z0,hV]
   refine hgood rfl h1 _ _ (fun t ht=>?_) (by rw[h2];exact hp1) (AftR.refl _ _)
   simp only[Tr.get_put,Option.some.injEq]
   repeat rw[if_neg (by omega)]
  | true=>
   rw[dv] at hV
   rw[← hk] at dv
   obtain⟨H2,q1,q2,q3⟩:=Jf5 (n:=n) (at_:=at_) hp1 hx dv (by omega) (hxn dv) (by omega)
   have n2:=q2.2.1
   have f2:=q2.2.2
   have hout2:Out2 a H2 [.string ByteArray.empty,.slice none 0 0,.slice none 0 0,.slice none 0 0,.slice none 0 0,.slice none 0 0,.slice none 0 0,iv 0] 0 0:=hout.mono (q2.1 a (by omega)) (q2.1 (a+1) ha)
   cases d2:(evE x s != 0) with
   | true=>
    have e2:evE x s≠0:=by simpa using d2
    obtain⟨H',s1,s2,r1,r2,r3,r4⟩:=J4J hout2 rfl (by omega) (by omega) (cs':=[.string ByteArray.empty,.slice none 0 0,.slice none 0 0,.slice none 0 0,.slice none 0 0,.slice none 0 0,.slice none 0 0,iv 0]) rfl rfl (e':=evE x s) (p':=at_)
    simp only[evC,seval,↓evP,t2,t3,t5,t6,t7,t8,d,z0,hV,q1,d2,J28,J4G,s1,s2]
    refine hbad _ e2 (.inr ⟨rfl,rfl⟩) _ _ ?_ ?_ r1 (by omega) (by omega) fun i hi=>by rw[r4 i (by omega) (by omega),q2.1 i (by omega)]
    ·simp only[evC,seval,↓evP,rpC,t2]
    ·simp only[evC,seval,↓evP,rpC,t3]
   | false=>
    have e2:evE x s=0:=by simpa using d2
    simp only[evC,seval,↓evP,t2,t3,t5,t6,t7,t8,d,z0,hV,q1,d2]
    refine hgood rfl e2 _ _ (fun t ht=>?_) (q3 e2) q2
    simp only[Tr.get_put,Option.some.injEq]
    repeat rw[if_neg (by omega)]
set_option maxHeartbeats 16000000 in
theorem Jde {l:List RowN} {v:Value} {T:Tr} {H:SHeap} {K:Kont} {a lo m e r at_:Nat} {nm:ByteArray} {s:StN} {x:RowN} (ht:J2c l) (hL:l.length<900000000) (hn:100020<n) (hat:at_<l.length)
  (t0:T.get 0=v) (t2:T.get 2=.pointer (some ⟨a,0,none⟩)) (t3:T.get 3=.pointer (some ⟨a+1,0,none⟩)) (t5:T.get 5=.pointer (some ⟨m,0,none⟩)) (t6:T.get 6=iv at_) (hv:J0l H v l)
  (hp:MkRE H lo m e r l.length nm (J0o l) s) (hi:InvR l at_ s) (hT:InvT s) (hx:s.rows[at_]?=some x) (ha:a+1<lo) (hlo:lo≤H.next) (hout:Out2 a H [.string ByteArray.empty,.slice none 0 0,.slice none 0 0,.slice none 0 0,.slice none 0 0,.slice none 0 0,.slice none 0 0,iv 0] 0 0) (hfa:H.floor≤a)
  (hbad:(J31 (J0o l) at_ s).1≠0→∀ T' H',T'.get 2=.pointer (some ⟨a,0,none⟩)→T'.get 3=.pointer (some ⟨a+1,0,none⟩)→Out2 a H' [.string ByteArray.empty,.slice none 0 0,.slice none 0 0,.slice none 0 0,.slice none 0 0,.slice none 0 0,.slice none 0 0,iv 0] (J31 (J0o l) at_ s).1 at_→H.next≤H'.next→H'.floor=H.floor→(∀ i,i<a→H'.get i=H.get i)→K.ap Tryz.prog (J0T n) N .ret ⟨T',H'⟩)
  (hgood:(J31 (J0o l) at_ s).1=0→∀ T' H',(∀ t:Nat,t≤6→T'.get t=T.get t)→MkRE H' lo m e r l.length nm (J0o l) (J31 (J0o l) at_ s).2→AftR H H' lo→K.ap Tryz.prog (J0T n) N .normal ⟨T',H'⟩) :
  WK Tryz.prog (J0T n) N XB17 ⟨T,H⟩ K:=by
 have hkind:=J68 ht hi x (List.mem_of_getElem? hx)
 have hxl:l[at_]?=some x:=by rw[← hi.later at_ (Nat.le_refl _)];exact hx
 have hth:=Jd6 hT hi.wf
 have hEat:(J0o l)[at_]?=some (endN l at_:Int):=J2B hat
 have hEd:((J0o l)[at_]?).getD 0=(endN l at_:Int):=by rw[hEat];rfl
 have hD:=fun H=>J2Z (n:=n) (J1M (k:=12) (Jgc x.kind H hkind))
 have hC:=fun H=>J2Z (n:=n) (J1M (k:=12) (Jfb x.kind H hkind))
 have hV:=fun H=>J2Z (n:=n) (J1M (k:=12) (Jgw x.kind H hkind))
 have z0:((0:Int) != 0)=false:=rfl
 have hnx:=hi.wf
 obtain⟨rid,p,e0,hid,l0,l1,l2,l3,l4,lr⟩:=hv.row hxl
 show WK _ _ _ (.seq _ (.seq _ (.seq (.seq _ _) (.seq (.seq _ _) XE17)))) _ _
 by_cases hd:J0j x.kind=0
 ·rw [hd] at hD
  rw[J8B hx hd] at hbad hgood
  have hxn:∀ x2 s2,J1v at_ x s=0→(J0D at_ x s).rows[at_]?=some x2→s2=J0D at_ x s→WfS s2→x2.kind=x.kind→J0E x2.kind=true→x2.kind≠10→0≤x2.n∧x2.n<s2.on.length:=by
   intro x2 s2 hc hx2 hs2 hw hk2 hev h10
   obtain⟨n2,a1,a2,a3,a4,a5,a6⟩:=J6j hx hc
   rw[a1] at hx2
   cases hx2
   have hdd:=J6v (k:=x.kind) hev h10
   rcases a6 with⟨b1,_⟩ | ⟨t,b1,b2,b3,_⟩
   ·rw[hdd.1] at b1
    cases b1
   ·rw[hdd.1] at b2
    rw[← a5,← hs2] at b1
    obtain⟨_,_,q1,q2,_⟩:=hw.th t b1
    rw[b2] at q2
    have q3:t.num<(s2.queues.length:Int):=q2
    rw[← hw.o] at q3
    simp only
    rw[b3]
    exact⟨q1,q3⟩
  by_cases hc:J1O x.kind=0
  ·rw[hc] at hC
   have h1:J1v at_ x s=0:=by unfold J1v;rw[if_pos hc]
   have h2:J0D at_ x s=s:=by unfold J0D;rw[if_pos hc]
   rw[h1,h2] at hbad hgood
   rw[if_neg (by simp),hx] at hbad hgood
   simp only at hbad hgood
   simp only[evC,seval,↓evP,t0,t6,e0,J0t,J0m,l0,hD,hC,z0]
   refine J4w (e1:=0) (κ:=x.kind) (x:=x) (s:=s) (E:=J0o l) (lo:=lo) (m:=m) hkind hn (by omega) (by simp only[evC,seval,↓evP,rpC,t2]) (by simp only[evC,seval,↓evP,rpC,t3]) (by simp only[evC,seval,↓evP,rpC,t5]) (by simp only[evC,seval,↓evP,rpC,t6]) (by simp only[evC,seval,↓evP,rpC]) (by simp only[evC,seval,↓evP,rpC]) (fun _=>⟨hp,hx,rfl,fun hev h10=>hxn x s h1 (by rw[h2];exact hx) h2.symm hi.wf rfl hev h10⟩) ha hlo hout hfa ?_ ?_
   ·rintro e' he' (⟨h,_⟩ | ⟨_,rfl⟩)
    ·exact absurd rfl h
    ·rw[if_pos he'] at hbad
     exact hbad he'
   ·intro _ hev T' H' hk' hp' ha'
    rw[if_neg (by rw[hev];simp)] at hgood
    refine hgood rfl T' H' (fun t ht=>?_) hp' ha'
    rw[hk' t ht]
    simp only[Tr.get_put,Option.some.injEq]
    repeat rw[if_neg (by omega)]
  ·have d2:(J1O x.kind != 0)=true:=by simpa using hc
   obtain⟨H2,q1,q2,q3⟩:=Jez (n:=n) (at_:=at_) hp hx hc (by omega) hth (by omega)
   have n2:=q2.2.1
   have f2:=q2.2.2
   have hout2:=hout.mono (q2.1 a (by omega)) (q2.1 (a+1) ha)
   simp only[evC,seval,↓evP,t0,t5,t6,e0,J0t,J0m,l0,hD,hC,z0,d2,q1]
   by_cases h1:J1v at_ x s=0
   ·obtain⟨n1,a1,_⟩:=J6j hx h1
    have hp2:=q3 h1
    have hw2:WfS (J0D at_ x s):=by
     obtain⟨_,_,_,hw⟩:=id hp2
     exact hw
    rw[if_neg (by rw[h1];simp),a1] at hbad hgood
    simp only at hbad hgood
    rw[h1]
    refine J4w (e1:=0) (κ:=x.kind) (x:={ x with n:=n1 }) (s:=J0D at_ x s) (E:=J0o l) (lo:=lo) (m:=m) hkind hn (by omega) (by simp only[evC,seval,↓evP,rpC,t2]) (by simp only[evC,seval,↓evP,rpC,t3]) (by simp only[evC,seval,↓evP,rpC,t5]) (by simp only[evC,seval,↓evP,rpC,t6]) (by simp only[evC,seval,↓evP,rpC]) (by simp only[evC,seval,↓evP,rpC]) (fun _=>⟨hp2,a1,rfl,fun hev h10=>hxn _ _ h1 a1 rfl hw2 rfl hev h10⟩) ha (by omega) hout2 (by omega) ?_ ?_
    ·rintro e' he' (⟨h,_⟩ | ⟨_,rfl⟩)
     ·exact absurd rfl h
     ·rw[if_pos he'] at hbad
      exact fun T' H' w2 w3 ho hnx hfx hox=>hbad he' T' H' w2 w3 ho (by omega) (by omega) fun i hi=>by rw[hox i hi,q2.1 i (by omega)]
    ·intro _ hev T' H' hk' hp' ha'
     rw[if_neg (by rw[hev];simp)] at hgood
     refine hgood rfl T' H' (fun t ht=>?_) hp' (q2.trans ha')
     rw[hk' t ht]
     simp only[Tr.get_put,Option.some.injEq]
     repeat rw[if_neg (by omega)]
   ·rw[if_pos h1] at hbad
    refine J4w (e1:=J1v at_ x s) (κ:=x.kind) (x:=x) (s:=s) (E:=J0o l) (lo:=lo) (m:=m) (e:=e) (r:=r) (nm:=nm) (L:=l.length) (at_:=at_) hkind hn (by omega) (by simp only[evC,seval,↓evP,rpC,t2]) (by simp only[evC,seval,↓evP,rpC,t3]) (by simp only[evC,seval,↓evP,rpC,t5]) (by simp only[evC,seval,↓evP,rpC,t6]) (by simp only[evC,seval,↓evP,rpC]) (by simp only[evC,seval,↓evP,rpC]) (fun h=>absurd h h1) ha (by omega) hout2 (by omega) ?_ (fun h=>absurd h h1)
    rintro e' he' (⟨_,rfl⟩ | ⟨h,_⟩)
    ·exact fun T' H' w2 w3 ho hnx hfx hox=>hbad he' T' H' w2 w3 ho (by omega) (by omega) fun i hi=>by rw[hox i hi,q2.1 i (by omega)]
    ·exact absurd h h1
 ·have d1:(J0j x.kind != 0)=true:=by simpa using hd
  obtain⟨hc0,hv0⟩:=excl hd
  rw[hc0] at hC
  rw[J8t hx hd,hEd] at hbad hgood
  obtain⟨H2,q1,q2,q3⟩:=JgC (n:=n) (at_:=at_) hp hx hd (by omega) hEat (by omega) hth (by omega)
  have n2:=q2.2.1
  have f2:=q2.2.2
  have hout2:=hout.mono (q2.1 a (by omega)) (q2.1 (a+1) ha)
  simp only[evC,seval,↓evP,t0,t5,t6,e0,J0t,J0m,l0,hD,hC,z0,d1,q1]
  by_cases h1:J25 x s=0
  ·obtain⟨n1,a1⟩:=J7P (end_:=(endN l at_:Int)) hx
   have hp2:=q3 h1
   have hev:J0E ({ x with n:=n1 }:RowN).kind=false:=hv0
   have g1:evE { x with n:=n1 } (J0W at_ (endN l at_) x s)=0:=by unfold evE;rw[if_pos hev]
   have g2:evS at_ { x with n:=n1 } (J0W at_ (endN l at_) x s)=J0W at_ (endN l at_) x s:=by unfold evS;rw[if_pos hev]
   rw[if_neg (by rw[h1];simp)] at hbad hgood
   rw[h1]
   refine J4w (e1:=0) (κ:=x.kind) (x:={ x with n:=n1 }) (s:=J0W at_ (endN l at_) x s) (E:=J0o l) (lo:=lo) (m:=m) hkind hn (by omega) (by simp only[evC,seval,↓evP,rpC,t2]) (by simp only[evC,seval,↓evP,rpC,t3]) (by simp only[evC,seval,↓evP,rpC,t5]) (by simp only[evC,seval,↓evP,rpC,t6]) (by simp only[evC,seval,↓evP,rpC]) (by simp only[evC,seval,↓evP,rpC]) (fun _=>⟨hp2,a1,rfl,fun h=>by rw[hev] at h;cases h⟩) ha (by omega) hout2 (by omega) ?_ ?_
   ·rintro e' he' (⟨h,_⟩ | ⟨_,rfl⟩)
    ·exact absurd rfl h
    ·exact absurd g1 he'
   ·intro _ _ T' H' hk' hp' ha'
    rw[g2] at hp'
    refine hgood rfl T' H' (fun t ht=>?_) hp' (q2.trans ha')
    rw[hk' t ht]
    simp only[Tr.get_put,Option.some.injEq]
    repeat rw[if_neg (by omega)]
  ·rw[if_pos h1] at hbad
   refine J4w (e1:=J25 x s) (κ:=x.kind) (x:=x) (s:=s) (E:=J0o l) (lo:=lo) (m:=m) (e:=e) (r:=r) (nm:=nm) (L:=l.length) (at_:=at_) hkind hn (by omega) (by simp only[evC,seval,↓evP,rpC,t2]) (by simp only[evC,seval,↓evP,rpC,t3]) (by simp only[evC,seval,↓evP,rpC,t5]) (by simp only[evC,seval,↓evP,rpC,t6]) (by simp only[evC,seval,↓evP,rpC]) (by simp only[evC,seval,↓evP,rpC]) (fun h=>absurd h h1) ha (by omega) hout2 (by omega) ?_ (fun h=>absurd h h1)
   rintro e' he' (⟨_,rfl⟩ | ⟨h,_⟩)
   ·exact fun T' H' w2 w3 ho hnx hfx hox=>hbad he' T' H' w2 w3 ho (by omega) (by omega) fun i hi=>by rw[hox i hi,q2.1 i (by omega)]
   ·exact absurd h h1
end
noncomputable def Jai:Array Oper:=J18 Tryz.f61 19
def Jh2:List (Bool × Bool × List Operand):=[(false,true,[]),(false,true,[]),(false,true,[]),(false,true,[]),(false,true,[.tmp 83]),(false,true,[.tmp 83]),(false,true,[.tmp 83]),(false,true,[.tmp 83]),(false,false,[]),(false,false,[])]
theorem Jb2:J1E Jai=Jh2:=by kernel_rfl
noncomputable def Ja0:Array Oper:=J18 Tryz.f61 25
def Jh0:List (Bool × Bool × List Operand):=[(true,true,[]),(false,true,[]),(false,true,[]),(false,true,[]),(false,true,[]),(false,true,[.tmp 105]),(false,true,[.tmp 105]),(false,true,[.tmp 105]),(false,true,[.tmp 105]),(false,true,[.tmp 105,.tmp 109]),(false,true,[.tmp 105,.tmp 109]),(false,true,[.tmp 105,.tmp 109]),(false,false,[]),(false,false,[]),(false,false,[])]
theorem JbU:J1E Ja0=Jh0:=by kernel_rfl
theorem J1n {T:Tr} {d t:Nat} {v:Value} (h:t<d):(T.put (some d) v).get t=T.get t:=by
 rw[Tr.get_put,if_neg (fun h9=>by have h8:d=t:=Option.some.inj h9;omega)]
section
variable {n N:Nat}
set_option maxHeartbeats 4000000 in
theorem Jbm {l:List RowN} {v:Value} {T:Tr} {H:SHeap} {K:Kont} {a lo m e r:Nat} {nm:ByteArray} (ht:J2c l) (hL:l.length<900000000) (hn:100020<n) (hN:l.length+3<N)
  (t0:T.get 0=v) (t2:T.get 2=.pointer (some ⟨a,0,none⟩)) (t3:T.get 3=.pointer (some ⟨a+1,0,none⟩)) (t5:T.get 5=.pointer (some ⟨m,0,none⟩)) (hv:J0l H v l) (hvl:∀ H',(∀ i,i<lo→H'.get i=H.get i)→H.next≤H'.next→J0l H' v l)
  (hp:MkRE H lo m e r l.length nm (J0o l) (s0N l)) (ha:a+1<lo) (hlo:lo≤H.next) (hout:Out2 a H [.string ByteArray.empty,.slice none 0 0,.slice none 0 0,.slice none 0 0,.slice none 0 0,.slice none 0 0,.slice none 0 0,iv 0] 0 0) (hfa:H.floor≤a)
  (hbad:(goN (J0o l) l.length 0 (s0N l)).1≠0→∀ T' H',T'.get 2=.pointer (some ⟨a,0,none⟩)→T'.get 3=.pointer (some ⟨a+1,0,none⟩)→Out2 a H' [.string ByteArray.empty,.slice none 0 0,.slice none 0 0,.slice none 0 0,.slice none 0 0,.slice none 0 0,.slice none 0 0,iv 0] (goN (J0o l) l.length 0 (s0N l)).1 (goN (J0o l) l.length 0 (s0N l)).2.1→H.next≤H'.next→H'.floor=H.floor→(∀ i,i<a→H'.get i=H.get i)→K.ap Tryz.prog (J0T n) N .ret ⟨T',H'⟩)
  (hgood:(goN (J0o l) l.length 0 (s0N l)).1=0→∀ T' H',(∀ t,t≤5→T'.get t=T.get t)→MkRE H' lo m e r l.length nm (J0o l) (goN (J0o l) l.length 0 (s0N l)).2.2→InvR l l.length (goN (J0o l) l.length 0 (s0N l)).2.2→AftR H H' lo→WK Tryz.prog (J0T n) N RR19 ⟨T',H'⟩ K) :
  WK Tryz.prog (J0T n) N RR6 ⟨T,H⟩ K:=by
 show WK _ _ _ (.seq (.seq _ (.block 0 (.loop (.seq _ (.seq (.block 1 XB17) _))))) RR19) _ _
 simp only[evC,seval,↓evP]
 refine WK.loop (fun i s'=>s'.T.get 6=iv i∧i≤l.length∧(∀ t,t≤5→s'.T.get t=T.get t)∧AftR H s'.h lo∧∃ s,MkRE s'.h lo m e r l.length nm (J0o l) s∧InvR l i s∧InvT s∧goN (J0o l) (l.length-i) i s=goN (J0o l) l.length 0 (s0N l)) l.length (by omega) ?_ ?_
 ·refine⟨by simp only[evC,↓reduceIte,Nat.reduceEqDiff,reduceCtorEq,↓evP,rpC,Nat.reduceAdd,Nat.reduceLT];rfl,by omega,fun t ht=>?_,AftR.refl _ _,s0N l,hp,inv0 l,Jj2 l,rfl⟩
  simp only[Tr.get_put,Option.some.injEq]
  repeat rw[if_neg (by omega)]
 ·rintro i ⟨T1,H1⟩ hi ⟨t6,hil,hkeep,haf,s,hp1,hin,hT,hgo⟩
  simp only at t6 hkeep haf hp1
  have u0:=(hkeep 0 (by omega)).trans t0
  have hv1:=hvl H1 haf.1 haf.2.1
  have hlen:=fun h'=>hv1.len (h':=h')
  by_cases hlt:i<l.length
  ·have c1:decide ((i:Int)<(l.length:Int))=true:=by simp;omega
   obtain⟨x,hx⟩:∃ x,s.rows[i]?=some x:=⟨_,List.getElem?_eq_getElem (by rw[hin.len];exact hlt)⟩
   have hr:l.length-i=(l.length-(i+1))+1:=by omega
   rw[hr] at hgo
   have hout1:Out2 a H1 [.string ByteArray.empty,.slice none 0 0,.slice none 0 0,.slice none 0 0,.slice none 0 0,.slice none 0 0,.slice none 0 0,iv 0] 0 0:=hout.mono (haf.1 a (by omega)) (haf.1 (a+1) ha)
   have hn1:=haf.2.1
   have hf1:=haf.2.2
   have w1:IntKind.i64.wrap ((i:Int)+1)=((i+1:Nat):Int):=J0s (by omega) (by omega)
   have hkp:∀ t:Nat,t≤6→((((T1.put (some 39) (iv i)).put (some 40) v).put (some 41) (iv l.length)).put (some 42) (Value.bool true)).get t=T1.get t:=fun t ht=>by
    rw[J1n (by omega),J1n (by omega),J1n (by omega),J1n (by omega)]
   simp only[evC,seval,↓evP,u0,t6,hlen,c1]
   refine Jde (a:=a) (at_:=i) (s:=s) (x:=x) ht hL hn hlt ((hkp 0 (by omega)).trans u0) ((hkp 2 (by omega)).trans ((hkeep 2 (by omega)).trans t2)) ((hkp 3 (by omega)).trans ((hkeep 3 (by omega)).trans t3)) ((hkp 5 (by omega)).trans ((hkeep 5 (by omega)).trans t5)) ((hkp 6 (by omega)).trans t6) hv1 hp1 hin hT hx ha (by omega) hout1 (by omega) ?_ ?_
   ·intro he T' H' g2 g3 ho hnx hfx hox
    have hg:goN (J0o l) l.length 0 (s0N l)=((J31 (J0o l) i s).1,i,s):=by
     rw[← hgo]
     unfold goN
     rw[if_pos he]
    simp only[evC,seval,↓evP]
    refine hbad (by rw[hg];exact he) T' H' g2 g3 (by rw[hg];exact ho) (by omega) (by omega) fun q hq=>(hox q hq).trans (haf.1 q (by omega))
   ·intro he T' H' hk' hp' haf'
    have hin':=J6b ht (J3T i) hlt hin he
    have hg:goN (J0o l) (l.length-(i+1)) (i+1) (J31 (J0o l) i s).2=goN (J0o l) l.length 0 (s0N l):=by
     rw[← hgo]
     conv=>rhs;unfold goN
     rw[if_neg (by rw[he];simp)]
    have u6:=(hk' 6 (by omega)).trans ((hkp 6 (by omega)).trans t6)
    simp only[evC,seval,↓evP,u6,w1]
    refine⟨hlt,by omega,fun t ht=>?_,haf.trans haf',_,hp',hin',Jio hT,hg⟩
    repeat rw[if_neg (by omega)]
    exact(hk' t (by omega)).trans ((hkp t (by omega)).trans (hkeep t ht))
  ·have c1:decide ((i:Int)<(l.length:Int))=false:=by simp;omega
   have:i=l.length:=by omega
   subst this
   have hg:goN (J0o l) l.length 0 (s0N l)=(0,l.length,s):=by
    rw[← hgo,Nat.sub_self]
    rfl
   simp only[evC,seval,↓evP,u0,t6,hlen,c1]
   refine hgood (by rw[hg]) _ _ (fun t ht=>?_) (by rw[hg];exact hp1) (by rw[hg];exact hin) haf
   simp only[Tr.get_put,Option.some.injEq]
   repeat rw[if_neg (by omega)]
   exact hkeep t ht
theorem MkR.polAt {h:SHeap} {lo m e r n:Nat} {nm:ByteArray} {E:List Int} {tag:Nat→Nat} {V:Nat→Value} {C:List Int} {s:StN} (hp:MkR h lo m e r n nm E tag V C s) :
  J3x lo h (.agg #[.string nm,.slice (some ⟨r,0,none⟩) n unk,V 2,V 3,V 4,V 5,V 6,iv s.miss]) nm s:=by
 have hs:=fun j h2 h8=>hp.sl j h2 h8
 refine⟨_,V 2,V 3,V 4,V 5,V 6,rfl,J3P.of ?_,(hs 2 (by omega) (by omega)).cells (J2J _),(hs 3 (by omega) (by omega)).cells (by simp[slC,slN,strs]),(hs 4 (by omega) (by omega)).cells (by simp[slC,slN,strs]),(hs 5 (by omega) (by omega)).cells (by simp[slC,slN,J1h]),(hs 6 (by omega) (by omega)).cells (by simp[slC,slN,J1h])⟩
 have hl:=hp.len
 subst hl
 exact J0p.row (ex:=[]) (by rw[List.append_nil];exact hp.rows) hp.lr (J0N _)
set_option maxHeartbeats 8000000 in
theorem Jc7 (hsn:J1G (J0T n)) {l:List RowN} {v:Value} {T:Tr} {H:SHeap} {K:Kont} {a lo m e r:Nat} {nm:ByteArray} {s:StN} (ht:J2c l) (hL:l.length<900000000) (hn:l.length+200<n) (hN:l.length+3<N)
  (t0:T.get 0=v) (t2:T.get 2=.pointer (some ⟨a,0,none⟩)) (t3:T.get 3=.pointer (some ⟨a+1,0,none⟩)) (t5:T.get 5=.pointer (some ⟨m,0,none⟩)) (hv:J0l H v l)
  (hp:MkRE H lo m e r l.length nm (J0o l) s) (hin:InvR l l.length s) (hLR:LayR s.rows (J0o l) s.rules) (ha:a+1<lo) (hlo:lo≤H.next) (hout:Out2 a H [.string ByteArray.empty,.slice none 0 0,.slice none 0 0,.slice none 0 0,.slice none 0 0,.slice none 0 0,.slice none 0 0,iv 0] 0 0) (hfa:H.floor≤a)
  (hbad:J2K s.rows (J0o l) s.rules≥0→∀ T' H',T'.get 2=.pointer (some ⟨a,0,none⟩)→T'.get 3=.pointer (some ⟨a+1,0,none⟩)→Out2 a H' [.string ByteArray.empty,.slice none 0 0,.slice none 0 0,.slice none 0 0,.slice none 0 0,.slice none 0 0,.slice none 0 0,iv 0] 34 (J2K s.rows (J0o l) s.rules)→H.next≤H'.next→H'.floor=H.floor→(∀ i,i<a→H'.get i=H.get i)→K.ap Tryz.prog (J0T n) N .ret ⟨T',H'⟩)
  (hgood:¬ J2K s.rows (J0o l) s.rules≥0→∀ T' H' cs,T'.get 2=.pointer (some ⟨a,0,none⟩)→T'.get 3=.pointer (some ⟨a+1,0,none⟩)→cs.length=8→Out2 a H' cs 0 0→J3x lo H' (.agg cs.toArray) nm s→H.next≤H'.next→H'.floor=H.floor→(∀ i,i<a→H'.get i=H.get i)→K.ap Tryz.prog (J0T n) N .ret ⟨T',H'⟩) :
  WK Tryz.prog (J0T n) N RR19 ⟨T,H⟩ K:=by
 show WK _ _ _ (.seq (.region _ _ true) (.seq _ (.seq (.seq _ (.block 2 (.loop (.seq _ (.seq (.block 3 (.seq _ (.cond _ (.seq (.region _ _ true) _) _))) _))))) (.seq _ _)))) _ _
 obtain⟨tag,V,hp',hw⟩:=id hp
 have hLy:=hLR.lay
 have hsl:s.rows.length=l.length:=hin.len
 have hu:=hin.wf.u
 have hml:=hp'.lm
 have l8:ldN 8 0 (H.get m)=some (.agg #[.string nm,.slice (some ⟨r,0,none⟩) l.length unk,V 2,V 3,V 4,V 5,V 6,iv s.miss]):=by rw[hp'.cell];rfl
 have c8:=hp'.c8
 have hpol:=hp'.polAt
 have cR:=fun j h2 h8=>hp'.sl j h2 h8
 have q2:=((cR 2 (by omega) (by omega)).cells (w:=2) (J2J _)).one
 have q3:=((cR 3 (by omega) (by omega)).cells (w:=1) (by simp[slC,slN,strs])).one
 have q4:=((cR 4 (by omega) (by omega)).cells (w:=1) (by simp[slC,slN,strs])).one
 have C5:J1S lo H (V 5) s.rules:=(cR 5 (by omega) (by omega)).cells (w:=1) (by simp[slC,slN,J1h])
 have q5:=J0p.one C5
 have q6:=((cR 6 (by omega) (by omega)).cells (w:=1) (by simp[slC,slN,J1h])).one
 have hE:(J0o l).length=l.length:=J39
 have hCE:J1S lo H (.slice (some ⟨e,0,none⟩) (J0o l).length (J0o l).length) (J0o l):=J1S.row' hp'.ends hp'.le rfl
 have hrv:J0l H (.slice (some ⟨r,0,none⟩) l.length unk) s.rows:=by rw[← hsl];exact J6F hp'.rows hp'.lr.2
 have hfx:∀ (f i:Nat),(H.fl f).get i=H.get i:=fun _ _=>rfl
 obtain⟨vS,H2,hS,hI,f2,n2,o2⟩:=JgX (n:=n) (h:=H) (v0:=.string nm) (vr:=.slice (some ⟨r,0,none⟩) l.length unk) (vq:=V 2) (vv:=V 3) (vt:=V 4) (vu:=V 5) (vo:=V 6) (v7:=iv s.miss) (rows:=s.rows) (rules:=s.rules) ⟨rfl,q2,q3,q4,q6,rfl⟩ hrv hCE C5 hLR (by omega) (by omega)
 rw[JgL hLR] at hI
 have hmT:(m<H.next)=True:=by simp;omega
 rw[J4p]
 refine WK.flags (ops:=Jai) Jb2 ?_
 refine WKF.begin ?_
 have FF:=aQ @t5 (aQ @hmT (aQ @J0z (aQ @J19 (aQ @J1b (aQ @J0n (aQ @l8 (aQ @c8 @hS)))))))
 refine wst hsn 0 (some 81) (.move (.tmp 5)) none ?_
 simp only[rgC,seval,J04,J02,WKFC,FF]
 refine wst hsn 1 (some 82) (.nilCheck (.tmp 81)) none ?_
 simp only[rgC,seval,J04,J02,WKFC,FF]
 refine wst hsn 2 (some 83) (.fieldAddr 120 (.tmp 82) 0) none ?_
 simp only[rgC,seval,J04,J02,WKFC,Nat.zero_add,FF]
 refine wst hsn 3 (some 84) (.load 27 (.tmp 83)) none ?_
 simp only[rgC,seval,J04,J02,WKFC,rgL,FF]
 refine wst hsn 4 (some 85) (.move (.tmp 5)) none ?_
 simp only[rgC,seval,J04,J02,WKFC,FF]
 refine wst hsn 5 (some 86) (.nilCheck (.tmp 85)) none ?_
 simp only[rgC,seval,J04,J02,WKFC,FF]
 refine wst hsn 6 (some 87) (.fieldAddr 120 (.tmp 86) 1) none ?_
 simp only[rgC,seval,J04,J02,WKFC,Nat.zero_add,FF]
 refine wst hsn 7 (some 88) (.load 25 (.tmp 87)) none ?_
 simp only[rgC,seval,J04,J02,WKFC,rgL,FF]
 refine wst hsn 8 (some 89) (.call { callee:=.value (.func 86),args:=#[.tmp 84,.tmp 88],argTypes:=#[27,25] }) none ?_
 simp only[rgC,seval,J04,J02,WKFC,rgK,FF]
 refine wst hsn 9 (some 9) (.assign (.tmp 89)) none ?_
 simp only[rgC,seval,J04,J02,WKFC,FF]
 refine WKF.done (i:=10) (by kernel_rfl) ?_
 clear FF
 have oA:∀ i,i<H.next→(H2.fl H.floor).get i=H.get i:=o2
 have nA:H.next≤(H2.fl H.floor).next:=n2
 have fA:(H2.fl H.floor).floor=H.floor:=rfl
 have hIA:J1S H.next (H2.fl H.floor) vS (J42 s.rows (J0o l) s.rules):=hI.mono (Nat.le_refl _) fun _ _ _=>rfl
 generalize H2.fl H.floor=A at *
 have l8A:ldN 8 0 (A.get m)=some (.agg #[.string nm,.slice (some ⟨r,0,none⟩) l.length unk,V 2,V 3,V 4,V 5,V 6,iv s.miss]):=by rw[oA m hml.2];exact l8
 have c8A:ld1 8 (A.get m)=some (.slice (some ⟨e,0,none⟩) (J0o l).length (J0o l).length):=by rw[oA m hml.2];exact c8
 have hvA:J0l A v l:=hv.mono nA oA
 have hrvA:J0l A (.slice (some ⟨r,0,none⟩) l.length unk) s.rows:=hrv.mono nA oA
 have hCEA:J1S lo A (.slice (some ⟨e,0,none⟩) (J0o l).length (J0o l).length) (J0o l):=hCE.mono nA fun i _ hi=>oA i hi
 have houtA:Out2 a A [.string ByteArray.empty,.slice none 0 0,.slice none 0 0,.slice none 0 0,.slice none 0 0,.slice none 0 0,.slice none 0 0,iv 0] 0 0:=hout.mono (oA a (by omega)) (oA (a+1) (by omega))
 have hmA:(m<A.next)=True:=by simp;omega
 have hSum:=(J6d (rows:=s.rows) (E:=J0o l) (rules:=s.rules))
 have hlenA:=fun h'=>hvA.len (h':=h')
 simp only[evC,seval,↓evP]
 refine WK.loop (fun i s'=>s'.T.get 9=vS∧s'.T.get 11=iv i∧i≤l.length∧(∀ t:Nat,t≤5→s'.T.get t=T.get t)∧s'.h=A∧∃ a0:Int,s'.T.get 10=iv a0∧0≤a0∧a0≤4611686018427387904∧J5r s.rows (J0o l) (J42 s.rows (J0o l) s.rules) (s.rows.drop i) i a0=J2K s.rows (J0o l) s.rules) l.length (by omega) ?_ ?_
 ·refine⟨by simp only[evC,↓reduceIte,Nat.reduceEqDiff,reduceCtorEq,↓evP,rpC,Nat.reduceAdd,Nat.reduceLT],by simp only[evC,↓reduceIte,Nat.reduceEqDiff,reduceCtorEq,↓evP,rpC,Nat.reduceAdd,Nat.reduceLT];rfl,by omega,fun t ht=>?_,rfl,0,by simp only[evC,↓reduceIte,Nat.reduceEqDiff,reduceCtorEq,↓evP,rpC,Nat.reduceAdd,Nat.reduceLT],by omega,by omega,rfl⟩
  rw[J1n (by omega),J1n (by omega),J1n (by omega),J1n (by omega),J1n (by omega),J1n (by omega),J1n (by omega),J1n (by omega),J1n (by omega),J1n (by omega),J1n (by omega),J1n (by omega)]
 ·rintro i ⟨T1,H1⟩ hi ⟨t9,t11,hil,hkeep,hh,a0,t10,ha0,haB,hcn⟩
  simp only at t9 t11 hkeep hh t10
  subst hh
  have u0:=(hkeep 0 (by omega)).trans t0
  have u2:=(hkeep 2 (by omega)).trans t2
  have u3:=(hkeep 3 (by omega)).trans t3
  have u5:=(hkeep 5 (by omega)).trans t5
  by_cases hlt:i<l.length
  ·have c1:decide ((i:Int)<(l.length:Int))=true:=by simp;omega
   obtain⟨y,hy⟩:∃ y,l[i]?=some y:=⟨_,List.getElem?_eq_getElem hlt⟩
   obtain⟨x,hx⟩:∃ x,s.rows[i]?=some x:=⟨_,List.getElem?_eq_getElem (by omega)⟩
   have hxy:x.kind=y.kind:=by
    obtain⟨y',hy',he⟩:=hin.same i x hx
    rw[hy] at hy'
    cases hy'
    rw[he]
   obtain⟨rid,p,e0,hid,l0,l1,l2,l3,l4,lr⟩:=hvA.row hy
   have hkx:=J68 ht hin x (List.mem_of_getElem? hx)
   rw[hxy] at hkx
   have hV:=J2Z (n:=n) (J1M (k:=12) (Jgw y.kind H1 hkx))
   have w1:IntKind.i64.wrap ((i:Int)+1)=((i+1:Nat):Int):=J0s (by omega) (by omega)
   have hdr:s.rows.drop i=x :: s.rows.drop (i+1):=by
    obtain⟨hl,rfl⟩:=List.getElem?_eq_some_iff.1 hx
    exact List.drop_eq_getElem_cons hl
   rw[hdr] at hcn
   change (if J0E x.kind=false then J5r s.rows (J0o l) (J42 s.rows (J0o l) s.rules) (s.rows.drop (i+1)) (i+1) a0 else if J2I a0 (cAt s.rows (J0o l) (J42 s.rows (J0o l) s.rules) (i+1))>16384 then (i:Int) else J5r s.rows (J0o l) (J42 s.rows (J0o l) s.rules) (s.rows.drop (i+1)) (i+1) (J2I a0 (cAt s.rows (J0o l) (J42 s.rows (J0o l) s.rules) (i+1))))=_ at hcn
   cases dv:J0E y.kind with
   | false=>
    rw[dv] at hV
    rw[if_pos (by rw[hxy];exact dv)] at hcn
    simp only[evC,seval,↓evP,Nat.reduceAdd,Nat.zero_add,u0,t9,t10,t11,hlenA,c1,e0,J0t,J0m,l0,hV,w1]
    refine⟨by omega,by omega,fun t ht=>?_,ha0,haB,hcn⟩
    repeat rw[if_neg (by omega)]
    exact hkeep t ht
   | true=>
    rw[dv] at hV
    rw[if_neg (by rw[hxy,dv];simp)] at hcn
    have hi1:=Jfw ht hin i x hx (by rw[hxy];exact dv)
    have hlaid:=JdU (n:=n) (h:=H1) (v0:=.string nm) (vr:=.slice (some ⟨r,0,none⟩) l.length unk) (vq:=V 2) (vv:=V 3) (vt:=V 4) (vu:=V 5) (vo:=V 6) (v7:=iv s.miss) (row:=i+1) ⟨rfl,q2,q3,q4,q5,q6,rfl⟩ hrvA hCEA hIA hSum.1 hLy hi1 (by omega) (fun z hz h22=>by
     rw[hSum.2]
     exact hLy.calls z (List.mem_of_mem_drop (List.mem_of_mem_take hz)) h22)
    have hcA:=J7q (rows:=s.rows) (E:=J0o l) hSum.1 (i+1)
    have hpl:=J2Z (n:=n) (JaD H1 hcA ⟨ha0,haB⟩)
    have hpn:=J3O ha0 hcA.1 hcA.2
    simp only[evC,seval,↓evP,Nat.reduceAdd,Nat.zero_add,u0,t9,t10,t11,hlenA,c1,e0,J0t,J0m,l0,hV]
    refine WK.flags (ops:=Ja0) JbU ?_
    refine WKF.begin ?_
    have FF:=aQ @u5 (aQ @t10 (aQ @t11 (aQ @hmA (aQ @J0z (aQ @J19 (aQ @J1b (aQ @J0n (aQ @l8A (aQ @c8A (aQ @w1 (aQ @hlaid @hpl)))))))))))
    refine wst hsn 0 (some 102) (.move (.tmp 10)) none ?_
    simp only[rgC,seval,J04,J02,WKFC,t9,FF]
    refine wst hsn 1 (some 103) (.move (.tmp 5)) none ?_
    simp only[rgC,seval,J04,J02,WKFC,t9,FF]
    refine wst hsn 2 (some 104) (.nilCheck (.tmp 103)) none ?_
    simp only[rgC,seval,J04,J02,WKFC,t9,FF]
    refine wst hsn 3 (some 105) (.fieldAddr 120 (.tmp 104) 0) none ?_
    simp only[rgC,seval,J04,J02,WKFC,Nat.zero_add,t9,FF]
    refine wst hsn 4 (some 106) (.load 27 (.tmp 105)) none ?_
    simp only[rgC,seval,J04,J02,WKFC,rgL,t9,FF]
    refine wst hsn 5 (some 107) (.move (.tmp 5)) none ?_
    simp only[rgC,seval,J04,J02,WKFC,t9,FF]
    refine wst hsn 6 (some 108) (.nilCheck (.tmp 107)) none ?_
    simp only[rgC,seval,J04,J02,WKFC,t9,FF]
    refine wst hsn 7 (some 109) (.fieldAddr 120 (.tmp 108) 1) none ?_
    simp only[rgC,seval,J04,J02,WKFC,Nat.zero_add,t9,FF]
    refine wst hsn 8 (some 110) (.load 25 (.tmp 109)) none ?_
    simp only[rgC,seval,J04,J02,WKFC,rgL,t9,FF]
    refine wst hsn 9 (some 111) (.move (.tmp 9)) none ?_
    simp only[rgC,seval,J04,J02,WKFC,t9,FF]
    refine wst hsn 10 (some 112) (.move (.tmp 11)) none ?_
    simp only[rgC,seval,J04,J02,WKFC,t9,FF]
    refine wst hsn 11 (some 113) (.binOp .add 3 (.tmp 112) (.const (Value.int IntKind.i64 1)) 3) none ?_
    simp only[rgC,seval,J04,J02,WKFC,rgB,t9,FF]
    refine wst hsn 12 (some 114) (.call { callee:=.value (.func 88),args:=#[.tmp 106,.tmp 110,.tmp 111,.tmp 113],argTypes:=#[27,25,25,3] }) none ?_
    simp only[rgC,seval,J04,J02,WKFC,rgK,t9,FF]
    refine wst hsn 13 (some 115) (.call { callee:=.value (.func 87),args:=#[.tmp 102,.tmp 114],argTypes:=#[3,3] }) none ?_
    simp only[rgC,seval,J04,J02,WKFC,rgK,t9,FF]
    refine wst hsn 14 (some 10) (.assign (.tmp 115)) none ?_
    simp only[rgC,seval,J04,J02,WKFC,t9,FF]
    refine WKF.done (i:=15) (by kernel_rfl) ?_
    clear FF
    cases dg:decide (J2I a0 (cAt s.rows (J0o l) (J42 s.rows (J0o l) s.rules) (i+1))>16384) with
    | true=>
     rw[if_pos (by simpa using dg)] at hcn
     obtain⟨H',s1,s2,r1,r2,r3,r4⟩:=J4J houtA rfl (by omega) (by omega) (cs':=[.string ByteArray.empty,.slice none 0 0,.slice none 0 0,.slice none 0 0,.slice none 0 0,.slice none 0 0,.slice none 0 0,iv 0]) rfl rfl (e':=34) (p':=(i:Int))
     simp only[evC,seval,↓evP,u2,u3,t11,dg,J28,J4G,s1,s2]
     refine hbad (by rw[← hcn];omega) _ _ ?_ ?_ (by rw[← hcn];exact r1) (by omega) (by omega) fun i hi=>by rw[r4 i (by omega) (by omega),oA i (by omega)]
     ·simp only[evC,seval,↓evP,rpC,u2]
     ·simp only[evC,seval,↓evP,rpC,u3]
    | false=>
     rw[if_neg (by simpa using dg)] at hcn
     simp only[evC,seval,↓evP,t9,t11,dg,w1]
     refine⟨by omega,by omega,fun t ht=>?_,hpn.1,hpn.2,hcn⟩
     have hne:∀ d:Nat,5<d→¬ (d=t):=fun d hd=>by omega
     repeat rw[if_neg (hne _ (by decide))]
     exact hkeep t ht
  ·have c1:decide ((i:Int)<(l.length:Int))=false:=by simp;omega
   have hneg:¬ J2K s.rows (J0o l) s.rules≥0:=by
    rw[← hcn,List.drop_of_length_le (by omega)]
    show ¬ ((-1:Int)≥0)
    omega
   obtain⟨H',s1,s2,r1,r2,r3,r4⟩:=J4J houtA rfl (by omega) (by omega) (cs':=[.string nm,.slice (some ⟨r,0,none⟩) l.length unk,V 2,V 3,V 4,V 5,V 6,iv s.miss]) rfl (by
    simp only[List.all_cons,List.all_nil,q2,q3,q4,q5,q6,J5J,J5K,Bool.and_self]
    rfl) (e':=0) (p':=0)
   simp only[evC,seval,↓evP,u0,u2,u3,u5,t11,hlenA,c1,J0z,J1b,l8A,J5n,s1,s2]
   refine hgood hneg _ _ _ ?_ ?_ rfl r1 (hpol.mono (by omega) fun i h1 h2=>by rw[r4 i (by omega) (by omega),oA i h2]) (by omega) (by omega) fun i hi=>by rw[r4 i (by omega) (by omega),oA i (by omega)]
   ·simp only[evC,seval,↓evP,rpC,u2]
   ·simp only[evC,seval,↓evP,rpC,u3]
end
section
variable {n N:Nat}
set_option maxHeartbeats 4000000 in
theorem Je8 {l:List RowN} {v:Value} {h:SHeap} (hfl:h.floor≤h.next) (hv:J0l h v l) (hL:l.length<900000000) (h64:∀ x∈l,x.kids≤9223372036854775807) (hn:l.length+100100<n) (hN:l.length+3<N) :
  ∃ v' h',J0L Tryz.prog (J0T n) N 61 [v] h=some (v',h')∧Told h l v' h':=by
 refine J65 (R:=Told h l) Tryz.func61 rfl (by simp[Tryz.f61]) ?_
 have hr:Tryz.f61.results.toList=[.cell 2 27,.cell 3 32]:=rfl
 generalize hKK:Kont.top (fun e s=>(e=SExit.normal∨e=SExit.ret)∧∃ vs,resS Tryz.prog s Tryz.f61.results.toList=some vs∧Told h l (resV vs) s.h)=K
 have fin:∀ (T':Tr) (H':SHeap) cs e p nm s,T'.get 2=.pointer (some ⟨h.next,0,none⟩)→T'.get 3=.pointer (some ⟨h.next+1,0,none⟩)→cs.length=8→Out2 h.next H' cs e p→J3x h.next H' (.agg cs.toArray) nm s→(resN l).1=(e,p)→outN l=(nm,s)→h.next≤H'.next→H'.floor=h.floor→(∀ i,i<h.next→H'.get i=h.get i)→K.ap Tryz.prog (J0T n) N .ret ⟨T',H'⟩:=by
  intro T' H' cs e p nm s t2 t3 hl ho hp he hout hnx hf hold
  have l30:=J9E ho.1 hl
  have l33:ldN 2 0 (H'.get (h.next+1))=some (J2k e p):=by rw[ho.2];rfl
  rw[← hKK]
  simp only[evC,seval,↓evP,hr,t2,t3,J1b,J2n,l30,l33]
  exact⟨_,by rw[he],by rw[hout];exact hp,hf,hnx,hold⟩
 have hz:∀ H',J3x h.next H' zPol ByteArray.empty sZ:=fun H'=>JcV h.next H'
 refine Jf3 (J1z n).2 hfl hv (fun H hv' hfl'=>Jfa (by omega) hL h64 hv' hfl') ?_ ?_
 ·intro hc T' H t2 t3 ho hnx hf hold
  refine fin T' H _ _ _ ByteArray.empty sZ t2 t3 rfl ho (hz H) ?_ ?_ (by omega) hf hold
  ·unfold resN
   rw[if_pos hc]
  ·unfold outN
   have:(resN l).1.1≠0:=by unfold resN;rw[if_pos hc];exact hc
   rw[if_pos this]
 ·intro hc T' H t0 t2 t3 ho hnx hf hold
  have ht:=J8d (J5d hc)
  have hvH:J0l H v l:=hv.mono (by omega) hold
  refine JeX (J1z n).2 ht hL (by omega) hvH t0 (fun H' hv' hf'=>JcD ht hv' (by omega) (by omega) hf') ?_
  intro T1 H1 m e r u0 u2 u3 u5 hp hnx1 hf1 hold1
  have ho1:Out2 h.next H1 [.string ByteArray.empty,.slice none 0 0,.slice none 0 0,.slice none 0 0,.slice none 0 0,.slice none 0 0,.slice none 0 0,iv 0] 0 0:=ho.mono (hold1 _ (by omega)) (hold1 _ (by omega))
  have hv1:=hvH.mono hnx1 hold1
  refine Jbm (a:=h.next) ht hL (by omega) hN u0 (u2.trans t2) (u3.trans t3) u5 hv1 (fun H' a b=>hvH.mono (by omega) fun i hi=>(a i hi).trans (hold1 i hi)) hp (by omega) (by omega) ho1 (by omega) ?_ ?_
  ·intro hgo T2 H2 w2 w3 ho2 hnx2 hf2 hold2
   refine fin T2 H2 _ _ _ ByteArray.empty sZ w2 w3 rfl ho2 (hz H2) ?_ ?_ (by omega) (by omega) fun i hi=>by rw[hold2 i hi,hold1 i (by omega),hold i hi]
   ·unfold resN
    rw[if_neg (by rw[hc];simp)]
    simp only
    rw[if_pos hgo]
   ·unfold outN
    have:(resN l).1.1≠0:=by
     unfold resN
     rw[if_neg (by rw[hc];simp)]
     simp only
     rw[if_pos hgo]
     exact hgo
    rw[if_pos this]
  ·intro hgo T2 H2 hk2 hp2 hin2 haf
   have ho2:Out2 h.next H2 [.string ByteArray.empty,.slice none 0 0,.slice none 0 0,.slice none 0 0,.slice none 0 0,.slice none 0 0,.slice none 0 0,iv 0] 0 0:=ho1.mono (haf.1 _ (by omega)) (haf.1 _ (by omega))
   have hf2:=haf.2.2
   have hn2:=haf.2.1
   have hLR:=JgY ht (by omega) hin2 (JdQ ht l.length 0 (s0N l) (by omega) (inv0 l) (JjD l) hgo)
   refine Jc7 (a:=h.next) (J1z n).2 ht hL (by omega) hN ((hk2 0 (by omega)).trans u0) ((hk2 2 (by omega)).trans (u2.trans t2)) ((hk2 3 (by omega)).trans (u3.trans t3)) ((hk2 5 (by omega)).trans u5) (hvH.mono (by omega) fun i hi=>(haf.1 i hi).trans (hold1 i hi)) hp2 hin2 hLR (by omega) (by omega) ho2 (by omega) ?_ ?_
   ·intro hlg T3 H3 x2 x3 ho3 hnx3 hf3 hold3
    have hres:(resN l).1=(34,J2K (goN (J0o l) l.length 0 (s0N l)).2.2.rows (J0o l) (goN (J0o l) l.length 0 (s0N l)).2.2.rules):=by
     unfold resN
     rw[if_neg (by rw[hc];simp)]
     simp only
     rw[if_neg (by rw[hgo];simp),if_pos hlg]
    refine fin T3 H3 _ _ _ ByteArray.empty sZ x2 x3 rfl ho3 (hz H3) hres ?_ (by omega) (by omega) fun i hi=>by rw[hold3 i hi,haf.1 i (by omega),hold1 i (by omega),hold i hi]
    unfold outN
    rw[if_pos (by rw[hres];simp)]
   ·intro hlg T3 H3 cs x2 x3 hcs ho3 hpol hnx3 hf3 hold3
    have hres:resN l=((0,0),(goN (J0o l) l.length 0 (s0N l)).2.2):=by
     unfold resN
     rw[if_neg (by rw[hc];simp)]
     simp only
     rw[if_neg (by rw[hgo];simp),if_neg hlg]
    refine fin T3 H3 cs _ _ (J52 l) (goN (J0o l) l.length 0 (s0N l)).2.2 x2 x3 hcs ho3 (hpol.weak (by omega)) (by rw[hres]) ?_ (by omega) (by omega) fun i hi=>by rw[hold3 i hi,haf.1 i (by omega),hold1 i (by omega),hold i hi]
    unfold outN
    rw[hres]
    simp
theorem Jij {l:List RowN} {v:Value} {h:SHeap} (hfl:h.floor≤h.next) (hv:J0l h v l) (hL:l.length<900000000) (h64:∀ x∈l,x.kids≤9223372036854775807) (hn:l.length+100110<n) :
  ∃ v' h',J0T n 61 [v] h=some (v',h')∧Told h l v' h':=by
 obtain⟨n,rfl⟩:∃ j,n=j+1:=⟨n-1,by omega⟩
 exact k_ex (J13 ⟨rfl,rfl,rfl⟩) (Je8 (n:=n) (N:=n) hfl hv hL h64 (by omega) (by omega)) fun v' h1 hf _ ht=>J92 hf ht
end
end Go.Proofs.YtdejoodfeljmkaaGreatDoor
