/- Part 6. -/
import Derived.Test.YtjailoenloejbaaGreatDoorDV5
import Derived.LoopN
set_option linter.all false
namespace Go.Sx
open Go
set_option maxHeartbeats 0
def KO(P:Program)(n:Nat):Code->Bool
 |.region _ d e=>d.toList.all (LK P n)&&(!e||mD d)|.seq a b=>KO P n a&&KO P n b|.cond c a b=>YL P c&&(KO P n a&&KO P n b)|.block _ c=>KO P n c|.loop c=>KO P n c|_=>true
def FJ.b:FJ->Exit|.normal=>.normal|.exit a=>.exit a|.ret=>.ret
section
variable {P:Program} {call:AY}
theorem mg(hcall:EN P call){ops:Array Oper}{n:Nat}{Q:Exit->Act->World->Prop}:∀(l:List Oper)(b:∀o∈l,LK P n o=true){s s':St}(c:NV P call ops l s=some s'){ρ:B8}{A:Act}{W:World}(i:CV P ρ s.h W)(j:HZ ρ s.T A)(k:A.tmps.size=n)(y:∀e C m,Nx P ρ s.h W m s'.h C->HZ m s'.T e->e.tmps.size=n->e.defers=A.defers->Q .normal e C),wpList P ops Q l A W:=by
 intro l;induction l with
 |nil=>
  intro b s s' c ρ A W i j k y;simp[NV]at c;subst c;exact y A W ρ (Nx.a i) j k rfl|cons o l G=>
  intro b s s' c ρ A W i j k y;have d:=b o (by simp);have H:∀o∈l,LK P n o=true:=fun x D=>b x (by simp[D]);have I:SZ n o.dst=true:=by simp only[LK,ah]at d;exact d.2
  have E:∀x∈o.op.operands,AR ρ (ev s.T x) (A.eval x):=fun x D=>by simp only[LK,ah]at d;exact mG i j (bm.1 d.1 x (by simpa using D))
  simp only[NV]at c;split at c
  .rename_i L z;unfold wpList;rw[qA (ops:=ops) (T:=s.T) (ρ:=ρ) fun t _=>j t];by_cases B:FT ops s.T o=true
   .rw[ag B];obtain⟨v,M,J,rfl⟩:=QU B z;refine .inl (U9 hcall i E J fun V C m F K=>?_);refine G H c F.b ((j.b F.e).a k I K) (by rw[QG];exact k) fun e p a q r u w=>?_;exact y e p a (F.d i q) r u (by rw[w,RO])
   .rw[ad B];unfold HK at z;rw[ad B]at z;cases z;exact G H c i (j.a k I R2) (by rw[QG];exact k) fun e p a q r u w=>y e p a q r u (by rw[w,RO])
  .cases c
theorem rW(z:EN P call)(Z:∀f N h v h',call f N h=some (v,h')->E_ h h')(hm:P.follows .mixedOrders=true)(y:Nat){n:Nat}:∀(c:Code)(d:KO P n c=true){s s':St}{e:FJ}(g:D4 P call y c s=some (e,s')){x:B8}{A:Act}{W:World}(m:CV P x s.h W)(o:HZ x s.T A)(u:A.tmps.size=n){Q:Exit->Act->World->Prop}(p:∀E O B,Nx P x s.h W B s'.h O->HZ B s'.T E->E.tmps.size=n->E.defers=A.defers->Q e.b E O),c.wp P Q A W:=by
 intro c;induction c with
 |skip=>intro d s s' e g x A W m o u Q p;simp[D4]at g;obtain⟨rfl,rfl⟩:=g;exact wp_skip (p A W x (Nx.a m) o u rfl)|region R h3 S=>
  intro d s s' e g x A W m o u Q p;simp only[KO,ah]at d;cases S with
  |true=>simp only[D4,ai,aq,aO]at g;obtain⟨X,F,rfl,rfl⟩:=g;refine Qe z Z hm (fun j oj hj=>bm.1 d.1 oj ?_) (by grind) F m o u p;grind|false=>simp only[D4,aV,bi,aq,aO]at g;obtain⟨X,F,rfl,rfl⟩:=g;exact wp_region_list (mg z _ (bm.1 d.1) F m o u p)
 |seq a b G H=>
  intro d s s' e g x A W m o u Q p;simp only[KO,ah]at d;simp only[D4]at g;split at g
  .rename_i X F;refine wp_seq (G d.1 F m o u fun C D w l q r t=>?_);exact H d.2 g l.b q r fun A2 W2 I J K L M=>p A2 W2 I (l.d m J) K L (M.trans t)
  .rename_i U;refine wp_seq (G d.1 g m o u fun C D w l q r t=>?_);have:=p C D w l q r t;cases e with
   |normal=>grind|exit R=>exact this|ret=>exact this
 |cond c a b G H=>
  intro d s s' e g x A W m o u Q p;simp only[KO,ah]at d;have Y:=mG m o d.1;simp only[D4]at g;split at g
  .rename_i hb;rw[hb]at Y;exact wp_cond_true (UH Y) (G d.2.1 g m o u p)
  .rename_i hb;rw[hb]at Y;exact wp_cond_false (UH Y) (H d.2.2 g m o u p)
  grind|block R c V=>
  intro d s s' e g x A W m o u Q p;simp only[KO]at d;simp only[D4]at g;split at g
  .rename_i i X F;refine wp_block (V d F m o u fun C D w l q r t=>?_);show Exit.inBlock R Q (.exit i) C D;unfold Exit.inBlock;by_cases hi:i=R
   .simp only[hi,ai]at g⊢;cases g;exact p C D w l q r t
   .simp only[hi,bi]at g⊢;cases g;exact p C D w l q r t
  .rename_i U;refine wp_block (V d g m o u fun C D w l q r t=>?_);have:=p C D w l q r t;cases e with|normal=>exact this|exit i=>grind|ret=>exact this
 |loop c V=>
  intro d s s' e g x A W m o u Q p;simp only[KO]at d;simp only[D4]at g;have h0:∀(k:Nat){s:St}(g:PD (D4 P call y c) k s=some (e,s')){x:B8}{A:Act}{W:World}(m:CV P x s.h W)(o:HZ x s.T A)(u:A.tmps.size=n)(p:∀E O B,Nx P x s.h W B s'.h O->HZ B s'.T E->E.tmps.size=n->E.defers=A.defers->Q e.b E O),Code.rounds P c Q k A W:=by intro k;induction k with
   |zero=>intro s g;simp[PD]at g|succ k h2=>
    intro s g x A W m o u p;rw[rounds_succ];simp only[PD]at g;split at g
    .rename_i X F;refine V d F m o u fun C D w l q r t=>?_;exact h2 g l.b q r fun A2 W2 I J K L M=>p A2 W2 I (l.d m J) K L (M.trans t)
    .rename_i U;refine V d g m o u fun C D w l q r t=>?_;have:=p C D w l q r t;cases e with
     |normal=>grind|exit i=>exact this|ret=>exact this
  exact wp_loop_rounds y (h0 y g m o u p)|exit R=>
  intro d s s' e g x A W m o u Q p;simp[D4]at g;obtain⟨rfl,rfl⟩:=g;exact wp_exit (p A W x (Nx.a m) o u rfl)|ret=>intro d s s' e g x A W m o u Q p;simp[D4]at g;obtain⟨rfl,rfl⟩:=g;exact wp_ret (p A W x (Nx.a m) o u rfl)|_=>intro d s s' e g;simp[D4]at g
theorem mh(d:∀f b h v e,call f b h=some (v,e)->E_ h e){ops:Array Oper}:∀(l:List Oper){s s':St},NV P call ops l s=some s'->E_ s.h s'.h:=by
 intro l;induction l with
 |nil=>intro s s' a;simp[NV]at a;subst a;exact .a _|cons o l g=>
  intro s s' a;simp only[NV]at a;split at a
  .rename_i j c;refine E_.b ?_ (g a);unfold HK at c;split at c
   .split at c
    .rename_i v e i;cases c;exact jI d i
    grind
   .cases c;exact .a _
  grind
theorem Gx(c:∀f g h v n,call f g h=some (v,n)->E_ h n){ops:Array Oper}{d:Nat}:∀(l:List Oper)(i:Nat){s s':St},OM P call ops d i l s=some s'->E_ s.h s'.h:=by intro l;induction l with
 |nil=>intro i s s' b;simp[OM]at b;subst b;exact .a _|cons o l q=>
  intro i s s' b;simp only[OM]at b;split at b
  .rename_i x j;refine E_.b ?_ (q _ b);cases Lt c j with
   |off _ e=>rw[e];exact .a _|pure v _ _ _ _ e=>rw[e];exact .a _|read v a _ _ _ _ e=>rw[e];exact .a _|new v r _ _ _ _ e=>rw[e];exact .f _ _|act v j f _ k t _ b e=>rw[e];exact E_.h t (V7 c k b)|actF v j m _ k _ _ u b e=>rw[e];exact yU m (fun p h=>(u p h).1) (V7 c k b)|store v a p r _ _ _ _ j w _ _ e=>rw[e];exact .g j w
  grind
theorem vJ(j:∀f l h v q,call f l h=some (v,q)->E_ h q)(g:Nat):∀(c:Code){s s':St}{e:FJ},D4 P call g c s=some (e,s')->E_ s.h s'.h:=by
 intro c;induction c with
 |skip=>intro s s' e d;simp[D4]at d;obtain⟨rfl,rfl⟩:=d;exact .a _|region r w t=>
  intro s s' e d;simp only[D4]at d;split at d
  .simp only[aq,aO]at d;obtain⟨o,i,rfl,rfl⟩:=d;exact Gx j _ _ i
  .simp only[aq,aO]at d;obtain⟨o,i,rfl,rfl⟩:=d;exact mh j _ i|seq a b m n=>
  intro s s' e d;simp only[D4]at d;split at d;.rename_i o i;exact(m i).b (n d)
  grind|cond c a b m n=>intro s s' e d;simp only[D4]at d;grind|block r c u=>intro s s' e d;simp only[D4]at d;grind|loop c u=>
  intro s s' e d;simp only[D4]at d;have x:∀(k:Nat){s:St},PD (D4 P call g c) k s=some (e,s')->E_ s.h s'.h:=by intro k;induction k with|zero=>intro s d;simp[PD]at d|succ k p=>
    intro s d;simp only[PD]at d;split at d;.rename_i o i;exact(u i).b (p d)
    grind
  grind|exit r=>intro s s' e d;simp[D4]at d;obtain⟨rfl,rfl⟩:=d;exact .a _|ret=>intro s s' e d;simp[D4]at d;obtain⟨rfl,rfl⟩:=d;exact .a _|_=>intro s s' e d;simp[D4]at d
theorem mi{e d:Type}{f:e->Sem d}{W:World}{as:Array e}{R:Nat->d->Prop}(m:∀(i:Nat)a,as[i]?=some a->∃v,(f a).run P W=.ok v W/\R i v):∃c:Array d,(as.mapM f).run P W=.ok c W/\c.size=as.size/\∀(i:Nat)v,c[i]?=some v->R i v:=by
 have g:∀(l:List e)(R:Nat->d->Prop),(∀(i:Nat)a,l[i]?=some a->∃v,(f a).run P W=.ok v W/\R i v)->∃c:List d,(l.mapM f).run P W=.ok c W/\c.length=l.length/\∀(i:Nat)v,c[i]?=some v->R i v:=by
  intro l;induction l with
  |nil=>simp|cons a l n=>
   intro R h;obtain⟨v,o,p⟩:=h 0 a rfl;obtain⟨c,q,j,k⟩:=n (fun i=>R (i+1)) (fun i b r=>h (i+1) b (by assumption));refine⟨v::c,?_,by simp[j],fun i u s=>?_⟩;·simp_all
   grind
 obtain⟨c,q,j,k⟩:=g as.toList R (fun i a t=>m i a (by grind));refine⟨c.toArray,?_,by assumption,fun i v o=>k i v (by grind)⟩;rw[Array.mapM_eq_mapM_toList];simp_all
theorem mj{s:St}:∀{l:List ResultVar}{vs:List Value},F5 P s l=some vs->vs.length=l.length/\∀(i:Nat)r,l[i]?=some r->∃v,vs[i]?=some v/\match r with|.tmp t=>v=s.T.a t|.cell a t=>EP P s.h t (s.T.a a)=some v:=by intro l;induction l with
 |nil=>intro vs h;simp[F5]at h;grind|cons r l c=>
  intro vs h;cases r with
  |tmp t=>
   simp only[F5]at h;split at h
   .rename_i d e;cases h;obtain⟨f,g⟩:=c e;refine⟨by simp[f],fun i r b=>?_⟩;cases i with
    |zero=>simp at b;subst b;simp|succ i=>grind
   .cases h|cell a t=>simp only[F5]at h;grind
def GU:List Value->Value|[v]=>v|a=>.tuple a.toArray
theorem ml{c:B8}{vs:List Value}{a:Array Value}(h:BQ (AR c) vs a.toList):AR c (GU vs) (if h:a.size=1 then a[0]else .tuple a):=by
 obtain⟨m⟩:=a;cases h with
 |nil=>exact .tuple .nil|cons h d=>cases d with
  |nil=>exact h|cons e b=>exact .tuple (.cons h (.cons e b))
theorem zX{o:Option (List Value)}{h h':AA}{v:Value}(b:(match o with|some [v]=>some (v,h)|some a=>some (.tuple a.toArray,h)|none=>none)=some (v,h')):∃a,o=some a/\v=GU a/\h'=h:=by cases o with|none=>cases b|some a=>match a with|[]=>cases b;exact⟨_,rfl,rfl,rfl⟩|[u]=>cases b;exact⟨_,rfl,rfl,rfl⟩|u::c::d=>cases b;exact⟨_,rfl,rfl,rfl⟩
theorem sU{s:St}{fn:Func}{vs:List Value}(y:F5 P s fn.results.toList=some vs){d:B8}{A:Act}{W:World}(z:CV P d s.h W)(q:HZ d s.T A):∃V,(results fn A.tmps).run P W=.ok V W/\AR d (GU vs) V:=by
 obtain⟨e,g⟩:=mj y;obtain⟨o,B,C,D⟩:=mi (P:=P) (W:=W) (as:=fn.results) (R:=fun i V=>∃v,vs[i]?=some v/\AR d v V)
  (f:=fun r=>match r with|.tmp t=>pure (A.tmps.getD t undef)|.cell a t=>do loadVar t (<-asAddr (A.tmps.getD a undef))) (by
  intro i r j;obtain⟨v,k,c⟩:=g i r (by simpa using j);cases r with
  |tmp t=>simp only at c;subst c;exact⟨_,rfl,_,k,q t⟩|cell a t=>
   simp only at c;obtain⟨V,w,j⟩:=Di z (q a) c;refine⟨V,?_,v,k,j⟩;have p:=q a;unfold EP at c;split at c
   ·rename_i H E u;rw[u]at p;obtain⟨L,_,x⟩:=tQ p;rw[x]at w;simpa[Instr.loadAt,Instr.sureAddr,asAddr,x]using w
   ·cases c);have l:BQ (AR d) vs o.toList:=BQ.Zi (by simp[C,e]) fun i a b p F=>by
  obtain⟨v,k,j⟩:=D i b (by simpa using F);rw[p]at k;cases k;exact j
 have hrun:(results fn A.tmps).run P W=.ok (if h:o.size=1 then o[0]else .tuple o) W:=by
  unfold results;show(Sem.bind (fn.results.mapM _) _).run P W=_;rw[Sem.run_bind'];exact jj (fun r:Result (Array Value)=>r.andThen fun a G=>Sem.run P (pure (if h:a.size=1 then a[0]else Value.tuple a)) G) B
 exact⟨_,hrun,ml l⟩
theorem jL:∀(l:List Value)(i:Nat)(T:Tr)(t:Nat),(JX i l T).a t=if i<=t/\t<i+l.length then l.getD (t-i) undef else T.a t:=by intro l;induction l with|nil=>intro i T t;simp[JX];omega|cons v l a=>
  intro i T t;simp only[JX];rw[a,Tr.d];grind
def cI(P:Program)(a:Func):Bool:=match a.body with|some c=>KO P a.ntmps c&&!(a.name== "runtime.NumGoroutine")|none=>true
def M6(P:Program):Bool:=P.follows .mixedOrders&&P.funcs.toList.all (cI P)
end
end Go.Sx




