/- Part 10. -/
import Derived.Test.YtjailoenloejbaaGreatDoorDV9
import Derived.Recover
set_option linter.all false
namespace Go.Sx
open Go
set_option maxHeartbeats 0
inductive iF where
 | ret (v:Value)
 | pan (v:Value)
abbrev NK:=FuncId->List Value->AA->Option (iF×AA)
def ND(b:NK):AY:=fun f a h=>match b f a h with|some (.ret v,c)=>some (v,c)|_=>none
inductive TN where
 | normal | exit (id:Nat) | ret | pan (v:Value)
structure O2 where
 s:St
 a:List (FuncId × List Value)
noncomputable def sJ(P:Program)(T:Tr)(c:Call):Option (FuncId×List Value):=match c.callee with
 |.value f=>match ev T f with
  |.func (.func k) b a=>some (k,b.toList++evs T c.args++a.toList)|_=>none
 |.invoke r m=>match ev T r with
  |.iface t v=>match V_ P t v m with
   |some (k,d)=>some (k,d::evs T c.args)|none=>none
  |_=>none
 |_=>none
noncomputable def TB(P:Program)(a:NK)(T:Tr)(h:AA):Op->Option (Value×AA)
 |.panic x=>match ev T x with
  |.iface t v=>some (.iface t v,h)|_=>none
 |.call c=>match sJ P T c with
  |some (k,l)=>match a k l h with
   |some (.pan v,b)=>some (v,b)|_=>none
  |none=>none
 |_=>none
noncomputable def iE(T:Tr):Op->Option (FuncId×List Value)
 |.defer c=>match c.callee with
  |.value f=>match ev T f with
   |.func (.func k) b a=>some (k,b.toList++evs T c.args++a.toList)|_=>none
  |_=>none
 |_=>none
noncomputable def TW(P:Program)(b:NK)(ops:Array Oper):List Oper->O2->Option (TN×O2)|[],s=>some (.normal,s)|o::a,s=>match HK P (ND b) ops o s.s with|some c=>TW P b ops a ⟨c,s.a⟩|none=>if FT ops s.s.T o then match iE s.s.T o.op with|some d=>TW P b ops a ⟨⟨s.s.T.c o.dst undef,s.s.h⟩,d::s.a⟩|none=>match TB P b s.s.T s.s.h o.op with|some (v,e)=>some (.pan v,⟨⟨s.s.T,e⟩,s.a⟩)|none=>none else none
def UY(f:O2->Option (TN×O2)):Nat->O2->Option (TN×O2)|0,_=>none|n+1,s=>match f s with|some (.normal,a)=>UY f n a|r=>r
noncomputable def IF(P:Program)(e:NK)(n:Nat):Code->O2->Option (TN×O2)
 |.skip,s=>some (.normal,s)|.region _ d g,s=>if g then(OM P (ND e) d s.s.h.a 0 d.toList s.s).map fun f=>(.normal,⟨f,s.a⟩)else TW P e d d.toList s|.seq a b,s=>match IF P e n a s with
  |some (.normal,f)=>IF P e n b f|r=>r
 |.cond c a b,s=>match ev s.s.T c with|.bool true=>IF P e n a s|.bool false=>IF P e n b s|_=>none
 |.block h c,s=>match IF P e n c s with
  |some (.exit i,f)=>if i=h then some (.normal,f)else some (.exit i,f)|r=>r
 |.loop c,s=>UY (IF P e n c) n s|.exit h,s=>some (.exit h,s)|.ret,s=>some (.ret,s)|_,_=>none
def cX(o:Oper):Option Tmp:=match o.op,o.dst,o.guard with
 |.call c,some d,none=>match c.callee with
  |.builtin .recover=>if c.args.isEmpty then some d else none|_=>none
 |_,_,_=>none
def bC(d:Tmp)(o:Oper):Option Tmp:=match o.op,o.dst,o.guard with|.assign (.tmp t),some a,none=>if t=d then some a else none|_,_,_=>none
noncomputable def aC(d:Tmp)(a:Value):List Oper->Tr->Option Tr
 |[],T=>some T|[o],T=>match bC d o with|some b=>some (T.c (some b) a)|none=>none
 |_,_=>none
noncomputable def UU(P:Program)(call:AY)(n:Nat)(k:FuncId)(args:List Value)(h:AA)(e:Value):Option AA:=match P.funcs[k]? with
 |some b=>match b.body with
  |some (.seq (.region _ c false) a)=>match c.toList with
   |o::f=>match cX o with
    |some d=>if args.length<=b.ntmps&&b.results.isEmpty&&decide (d<b.ntmps)then match aC d e f ((JX 0 args .leaf).c (some d) e)with
      |some g=>match D4 P call n a ⟨g,h⟩with|some (.normal,s)|some (.ret,s)=>some s.h|_=>none
      |none=>none else none|none=>none
   |_=>none
  |_=>none
 |none=>none
noncomputable def eD(P:Program)(j:NK)(n:Nat):NK:=fun f b h=>match P.funcs[f]? with
 |some d=>match d.body with
  |some c=>if b.length<=d.ntmps then match IF P j n c ⟨⟨JX 0 b .leaf,h⟩,[]⟩with
    |some (e,s)=>match(match e with|.normal|.ret=>some none|.pan v=>some (some v)|_=>none)with
     |some none=>match s.a with
      |[]=>match F5 P s.s d.results.toList with
       |some g=>some (.ret (GU g),s.s.h)|none=>none
      |[(k,a)]=>match UU P (ND j) n k a s.s.h .nilIface with
       |some i=>match F5 P ⟨s.s.T,i⟩ d.results.toList with
        |some g=>some (.ret (GU g),i)|none=>none
       |none=>none
      |_=>none
     |some (some v)=>match s.a with
      |[]=>some (.pan v,s.s.h)|[(k,a)]=>match UU P (ND j) n k a s.s.h v with
       |some i=>match F5 P ⟨s.s.T,i⟩ d.results.toList with
        |some g=>some (.ret (GU g),i)|none=>none
       |none=>none
      |_=>none
     |none=>none
    |none=>none else none|none=>none
 |none=>none
noncomputable def PF(P:Program)(base:AY):Nat->NK|0,_,_,_=>none|n+1,f,a,h=>match base f a h with|some (v,b)=>some (.ret v,b)|none=>eD P (PF P base n) n f a h
def mF(a:B8):iF->Ending->Prop|.ret v,e=>∃V,e=.returned V/\AR a v V|.pan v,e=>∃V,e=.panicked [{v:=V,recovered:=false}]/\AR a v V
def X9(P:Program)(k:NK):Prop:=∀f a h o j,k f a h=some (o,j)->(∃g c,P.funcs[f]?=some g/\g.body=some c/\(g.name== "runtime.NumGoroutine")=false)/\∀i W(b:Array Value),CV P i h W->BQ (AR i) a b.toList->Calls P f b W (fun e l=>∃d,Nx P i h W d j l/\mF d o e)
def UR(c:NK):Prop:=∀f a h o b,c f a h=some (o,b)->E_ h b
theorem Mi{a:NK}{f:FuncId}{args:List Value}{h:AA}{v:Value}{h':AA}(b:ND a f args h=some (v,h')):a f args h=some (.ret v,h'):=by unfold ND at b;grind
theorem VV{P:Program}{d:NK}(h:X9 P d):EN P (ND d):=fun f a g v r i=>by obtain⟨j,k⟩:=h f a g _ _ (Mi i);exact⟨j,fun l W b m n=>(k l W b m n).mono fun e s⟨c,o,V,p,q⟩=>⟨V,c,p,o,q⟩⟩
theorem dK{a:NK}(h:UR a):C_ (ND a):=fun f b d v e c=>h _ _ _ _ _ (Mi c)
section
variable {P:Program} {pc:NK} {ρ:B8} {h:AA} {W:World} {T:Tr} {A:Act}
theorem nb{o:Oper}{c:Call}(j:o.op=.call c)(D:∀x∈o.op.operands,AR ρ (ev T x) (A.eval x)){k:FuncId}{l:List Value}(p:sJ P T c=some (k,l))(v:∃E b,P.funcs[k]?=some E/\E.body=some b/\(E.name== "runtime.NumGoroutine")=false):∃i:Array Value,(execOp A.eval o).run P W=.ok (.enter k i) W/\BQ (AR ρ) l i.toList:=by
 rw[j]at D;obtain⟨E,H,w,d,q⟩:=v;have a:=ax.1 q;have e:=aT (ρ:=ρ) (T:=T) (A:=A) (l:=c.args) fun x J=>D x (by simp[Op.operands,Call.operands,J]);unfold sJ at p;split at p
 .rename_i f y;split at p
  .rename_i K F s v;cases p;have g:=D f (by simp[Op.operands,Call.operands,y]);rw[v]at g;obtain⟨L,M,G,N,O⟩:=aY g;refine⟨L++c.args.map A.eval++M,?_,?_⟩;.simp[execOp,j,resolve,y,G,Deferred.ofValue,invoke,callFunc,program,Sem.run,w,a,d]
   .simp only[je];exact(N.ZC e).ZC O
  grind
 .rename_i r m y;split at p
  .rename_i t u v;have g:=D r (by simp[Op.operands,Call.operands,y]);rw[v]at g;obtain⟨U,G,I⟩:=VC g;split at p
   .rename_i K S Q;cases p;obtain⟨rfl,z⟩:=En (W:=W) (n:=P.types.size+Made.depth-1) I Q;have R:P.types.size+Made.depth-1+1=P.types.size+Made.depth:=Nat.sub_add_cancel (by unfold Made.depth;omega);rw[R]at z;refine⟨#[U]++c.args.map A.eval,?_,?_⟩
    .have B:(#[A.eval r]++c.args.map A.eval)[0]?=some (A.eval r):=by grind
     have C:(#[A.eval r]++c.args.map A.eval).extract 1 (#[A.eval r]++c.args.map A.eval).size=c.args.map A.eval:=by simp
     simp only[execOp,j,resolve,y,ja,Sem.run_pure,Result.andThen_ok,invoke,B,C];rw[G];simp[callMethod,ja,z,callFunc,w,a,d]
    .simp only[je];exact .cons I e
   grind
  grind
 grind
def dR(ρ:B8)(d:FuncId×List Value)(D:Deferred):Prop:=∃a,D.target=.fn (.func d.1) a/\BQ (AR ρ) d.2 (D.args++a).toList
theorem dR.a{a:B8}{d:FuncId×List Value}{D:Deferred}(c:∀i L,ρ i=some L->a i=some L)(e:dR ρ d D):dR a d D:=by obtain⟨b,f,g⟩:=e;exact⟨b,f,g.Y9 fun _ _ h=>h.a c⟩
def vQ(Q:Exit->Act->World->Prop)(ρ:B8)(A:Act)(W:World):TN->Prop|.normal=>Q .normal A W|.exit i=>Q (.exit i) A W|.ret=>Q .ret A W|.pan v=>∀V,AR ρ v V->Q (.panic [{v:=V,recovered:=false}]) A W
theorem Ye{o:Oper}{d:FuncId×List Value}(m:∀x∈o.op.operands,AR ρ (ev T x) (A.eval x))(a:iE T o.op=some d){K:Act->World->Prop}{Q:Exit->Act->World->Prop}(r:∀D,dR ρ d D->K ({A with defers:=D::A.defers}.put o.dst undef) W):o.wp P A W K Q:=by cases b:o.op with
 |defer c=>
  rw[b]at a m;simp only[iE]at a;have e:=aT (ρ:=ρ) (T:=T) (A:=A) (l:=c.args) fun x s=>m x (by simp[Op.operands,Call.operands,s]);split at a
  .rename_i f p;split at a
   .rename_i k n g t;cases a;have i:=m f (by simp[Op.operands,Call.operands,p]);rw[t]at i;obtain⟨u,q,v,w,y⟩:=aY i;have j:(execOp A.eval o).run P W=.ok (.defer {target:=.fn (.func k) q,args:=u++c.args.map A.eval}) W:=by simp[execOp,b,resolve,p,v,Deferred.ofValue]
    unfold Oper.wp;rw[j,Oper.upon_defer];refine r _ ⟨q,rfl,?_⟩;simp only[je];exact(w.ZC e).ZC y
   grind
  grind|_=>rw[b]at a;simp[iE]at a
theorem nc(n:X9 P pc)(w:CV P ρ h W){o:Oper}(p:∀x∈o.op.operands,AR ρ (ev T x) (A.eval x)){v:Value}{h':AA}(a:TB P pc T h o.op=some (v,h')){K:Act->World->Prop}{Q:Exit->Act->World->Prop}(y:∀V q f,Nx P ρ h W f h' q->AR f v V->Q (.panic [{v:=V,recovered:=false}]) A q):o.wp P A W K Q:=by cases b:o.op with
 |panic x=>
  rw[b]at a p;simp only[TB]at a;split at a
  .rename_i t u z;cases a;have i:=p x (by simp[Op.operands]);rw[z]at i;obtain⟨U,B,C⟩:=VC i;have d:(execOp A.eval o).run P W=.halt (.panic (.iface t U)) W:=by simp[execOp,b,B,Instr.panic,goPanic]
   unfold Oper.wp;rw[d,Oper.upon_panic];exact y _ W ρ (Nx.a w) (.iface C)
  grind|call c=>
  rw[b]at a;simp only[TB]at a;split at a
  .rename_i k l D;split at a
   .rename_i E F g;cases a;obtain⟨r,s⟩:=n _ _ _ _ _ g;obtain⟨j,d,m⟩:=nb (W:=W) b p D r;unfold Oper.wp;rw[d,Oper.upon_enter];refine(s ρ W j w m).mono fun e q⟨f,G,V,H,I⟩=>?_;grind
   grind
  grind|_=>rw[b]at a;simp[TB]at a
theorem BQ.a{a:B8}{b:List (FuncId×List Value)}{D:List Deferred}(c:∀i L,ρ i=some L->a i=some L)(d:BQ (dR ρ) b D):BQ (dR a) b D:=d.Y9 fun _ _ h=>h.a c
theorem nd(F:X9 P pc){ops:Array Oper}{n:Nat}{Q:Exit->Act->World->Prop}:∀(l:List Oper)(w:∀o∈l,LK P n o=true){s s':O2}{e:TN}(c:TW P pc ops l s=some (e,s')){ρ:B8}{A:Act}{W:World}(q:CV P ρ s.s.h W)(r:HZ ρ s.s.T A)(m:A.tmps.size=n)(y:BQ (dR ρ) s.a A.defers)(z:∀p G b,Nx P ρ s.s.h W b s'.s.h G->HZ b s'.s.T p->p.tmps.size=n->BQ (dR b) s'.a p.defers->vQ Q b p G e),wpList P ops Q l A W:=by intro l;induction l with
 |nil=>
  intro w s s' e c ρ A W q r m y z;simp[TW]at c;obtain⟨rfl,rfl⟩:=c;exact z A W ρ (Nx.a q) r m y|cons o l I=>
  intro w s s' e c ρ A W q r m y z;have B:=w o (by simp);have J:∀o∈l,LK P n o=true:=by grind
  have K:SZ n o.dst=true:=by simp only[LK,ah]at B;grind
  have C:∀x∈o.op.operands,AR ρ (ev s.s.T x) (A.eval x):=fun x U=>by
   simp only[LK,ah]at B;exact mG q r (bm.1 B.1 x (by grind))
  simp only[TW]at c;unfold wpList;rw[qA (ops:=ops) (T:=s.s.T) (ρ:=ρ) fun t _=>r t];split at c
  .rename_i X H;by_cases E:FT ops s.s.T o=true
   .rw[ag E];obtain⟨v,O,R,rfl⟩:=QU E H;refine .inl (U9 (VV F) q C R fun V G b u L=>?_);refine I J c u.b ((r.b u.e).a m K L) (by rw[QG];exact m) (by rw[RO];exact BQ.a u.e y) fun p f a g i j k=>?_;exact z p f a (u.d q g) i j k
   .rw[ad E];unfold HK at H;rw[ad E]at H;cases H;exact I J c q (r.a m K R2) (by rw[QG];exact m) (by rw[RO];exact y) fun p f a g i j k=>z p f a g i j k
  .split at c
   .rename_i E;rw[ag E];split at c
    .rename_i d M;refine .inl (Ye C M fun D N=>?_);refine I J c q ?_ (by rw[QG];exact m) (by rw[RO];exact .cons N y) fun p f a g i j k=>z p f a g i j k;exact HZ.a (A:={A with defers:=D::A.defers}) r m K R2
    .split at c
     .rename_i v O S;cases c;exact .inl (nc F q C S fun V G b u L=>z A G b u (r.b u.e) m (BQ.a u.e y) V L)
     grind
   grind
theorem nf(M:X9 P pc)(V:UR pc)(hm:P.follows .mixedOrders=true)(y:Nat){n:Nat}:∀(c:Code)(d:KO P n c=true){s s':O2}{e:TN}(f:IF P pc y c s=some (e,s')){ρ:B8}{A:Act}{W:World}(l:CV P ρ s.s.h W)(m:HZ ρ s.s.T A)(t:A.tmps.size=n)(u:BQ (dR ρ) s.a A.defers){Q:Exit->Act->World->Prop}(o:∀z E w,Nx P ρ s.s.h W w s'.s.h E->HZ w s'.s.T z->z.tmps.size=n->BQ (dR w) s'.a z.defers->vQ Q w z E e),c.wp P Q A W:=by
 intro c;induction c with
 |skip=>intro d s s' e f ρ A W l m t u Q o;simp[IF]at f;obtain⟨rfl,rfl⟩:=f;exact wp_skip (o A W ρ (Nx.a l) m t u)|region N h4 O=>
  intro d s s' e f ρ A W l m t u Q o;simp only[KO,ah]at d;cases O with
  |true=>simp only[IF,ai,aq,aO]at f;obtain⟨X,F,rfl,rfl⟩:=f;refine Qe (VV M) (dK V) hm (fun j oj hj=>bm.1 d.1 oj ?_) (by grind) F l m t fun z E w hN Y Z h0=>o z E w hN Y Z (by rw[h0];exact BQ.a hN.e u);grind|false=>
   simp only[IF,aV,bi]at f;exact wp_region_list (nd M _ (bm.1 d.1) f l m t u o)
 |seq a b D G=>
  intro d s s' e f ρ A W l m t u Q o;simp only[KO,ah]at d;simp only[IF]at f;split at f
  .rename_i X F;refine wp_seq (D d.1 F l m t u fun B C x g p q r=>?_);exact G d.2 f g.b p q r fun A2 W2 H I J K L=>o A2 W2 H (g.d l I) J K L
  .rename_i R;refine wp_seq (D d.1 f l m t u fun B C x g p q r=>?_);have:=o B C x g p q r;cases e with
   |normal=>grind|exit N=>exact this|ret=>exact this|pan v=>exact this
 |cond c a b D G=>
  intro d s s' e f ρ A W l m t u Q o;simp only[KO,ah]at d;have U:=mG l m d.1;simp only[IF]at f;split at f
  .rename_i hb;rw[hb]at U;exact wp_cond_true (UH U) (D d.2.1 f l m t u o)
  .rename_i hb;rw[hb]at U;exact wp_cond_false (UH U) (G d.2.2 f l m t u o)
  grind|block N c S=>
  intro d s s' e f ρ A W l m t u Q o;simp only[KO]at d;simp only[IF]at f;split at f
  .rename_i i X F;refine wp_block (S d F l m t u fun B C x g p q r=>?_);show Exit.inBlock N Q (.exit i) B C;unfold Exit.inBlock;by_cases hi:i=N
   .simp only[hi,ai]at f⊢;cases f;exact o B C x g p q r
   .simp only[hi,bi]at f⊢;cases f;exact o B C x g p q r
  .rename_i R;refine wp_block (S d f l m t u fun B C x g p q r=>?_);have:=o B C x g p q r;cases e with
   |normal=>exact this|exit i=>grind|ret=>exact this|pan v=>exact this
 |loop c S=>
  intro d s s' e f ρ A W l m t u Q o;simp only[KO]at d;simp only[IF]at f;have h2:∀(k:Nat){s:O2}(f:UY (IF P pc y c) k s=some (e,s')){ρ:B8}{A:Act}{W:World}(l:CV P ρ s.s.h W)(m:HZ ρ s.s.T A)(t:A.tmps.size=n)(u:BQ (dR ρ) s.a A.defers)(o:∀z E w,Nx P ρ s.s.h W w s'.s.h E->HZ w s'.s.T z->z.tmps.size=n->BQ (dR w) s'.a z.defers->vQ Q w z E e),Code.rounds P c Q k A W:=by
   intro k;induction k with|zero=>intro s f;simp[UY]at f|succ k h3=>
    intro s f ρ A W l m t u o;rw[rounds_succ];simp only[UY]at f;split at f
    .rename_i X F;refine S d F l m t u fun B C x g p q r=>?_;exact h3 f g.b p q r fun A2 W2 H I J K L=>o A2 W2 H (g.d l I) J K L
    .rename_i R;refine S d f l m t u fun B C x g p q r=>?_;have:=o B C x g p q r;cases e with
     |normal=>grind|exit i=>exact this|ret=>exact this|pan v=>exact this
  exact wp_loop_rounds y (h2 y f l m t u o)|exit N=>
  intro d s s' e f ρ A W l m t u Q o;simp[IF]at f;obtain⟨rfl,rfl⟩:=f;exact wp_exit (o A W ρ (Nx.a l) m t u)|ret=>intro d s s' e f ρ A W l m t u Q o;simp[IF]at f;obtain⟨rfl,rfl⟩:=f;exact wp_ret (o A W ρ (Nx.a l) m t u)|_=>intro d s s' e f;simp[IF]at f
end
theorem ng{P:Program}{e:NK}(d:UR e){T:Tr}{h h':AA}{f:Op}{v:Value}(a:TB P e T h f=some (v,h')):E_ h h':=by cases f with
 |panic x=>
  simp only[TB]at a;split at a;.cases a;exact .a _
  grind|call c=>
  simp only[TB]at a;split at a
  .split at a;.rename_i b;cases a;exact d _ _ _ _ _ b
   grind
  grind|_=>simp[TB]at a
theorem nh{P:Program}{call:AY}(a:C_ call){ops:Array Oper}{o:Oper}{s s':St}(h:HK P call ops o s=some s'):E_ s.h s'.h:=by
 unfold HK at h;split at h
 .split at h
  .rename_i v c b;cases h;exact jI a b
  .cases h
 .cases h;exact .a _
theorem ni{P:Program}{c:NK}(b:UR c){ops:Array Oper}:∀(l:List Oper){s s':O2}{e:TN},TW P c ops l s=some (e,s')->E_ s.s.h s'.s.h:=by intro l;induction l with
 |nil=>intro s s' e a;simp[TW]at a;obtain⟨rfl,rfl⟩:=a;exact .a _|cons o l d=>
  intro s s' e a;simp only[TW]at a;split at a;.rename_i i f;exact(nh (dK b) f).b (d a)
  .split at a
   .split at a;.grind
    .split at a
     .rename_i v j g;cases a;exact ng b g
     grind
   grind
theorem nj{P:Program}{m:NK}(g:UR m)(f:Nat):∀(c:Code){s s':O2}{e:TN},IF P m f c s=some (e,s')->E_ s.s.h s'.s.h:=by intro c;induction c with
 |skip=>intro s s' e d;simp[IF]at d;obtain⟨rfl,rfl⟩:=d;exact .a _|region o t p=>
  intro s s' e d;simp only[IF]at d;split at d
  .simp only[aq,aO]at d;obtain⟨q,i,rfl,rfl⟩:=d;exact Gx (dK g) _ _ i
  .exact ni g _ d|seq a b j l=>
  intro s s' e d;simp only[IF]at d;split at d;.rename_i q i;exact(j i).b (l d)
  grind|cond c a b j l=>
  intro s s' e d;simp only[IF]at d;grind|block o c r=>
  intro s s' e d;simp only[IF]at d;grind|loop c r=>
  intro s s' e d;simp only[IF]at d;have u:∀(k:Nat){s:O2},UY (IF P m f c) k s=some (e,s')->E_ s.s.h s'.s.h:=by intro k;induction k with
   |zero=>intro s d;simp[UY]at d|succ k n=>
    intro s d;simp only[UY]at d;split at d;.rename_i q i;exact(r i).b (n d)
    grind
  grind|exit o=>intro s s' e d;simp[IF]at d;obtain⟨rfl,rfl⟩:=d;exact .a _|ret=>intro s s' e d;simp[IF]at d;obtain⟨rfl,rfl⟩:=d;exact .a _|_=>intro s s' e d;simp[IF]at d
theorem Fy{P:Program}{call:AY}{n:Nat}{k:FuncId}{args:List Value}{h i:AA}{f:Value}(g:UU P call n k args h f=some i):∃b m c a o j d e s l,P.funcs[k]?=some b/\b.body=some (.seq (.region m c false) a)/\c.toList=o::j/\aC d f j ((JX 0 args .leaf).c (some d) f)=some l/\cX o=some d/\args.length<=b.ntmps/\b.results=#[]/\d<b.ntmps/\(e=.normal\/e=.ret)/\D4 P call n a ⟨l,h⟩=some (e,s)/\i=s.h:=by
 unfold UU at g;split at g
 .rename_i b p;split at g;.grind
  grind
 grind
theorem nk{P:Program}{A:Act}{W:World}{o:Oper}{d:Tmp}(h:cX o=some d):(execOp A.eval o).run P W=.ok .recover W/\o.dst=some d/\o.guard=none:=by
 unfold cX at h;split at h
 .rename_i c g e a f;split at h
  .rename_i b;split at h;.rename_i i;cases h;exact⟨by simp[execOp,e,resolve,b,invoke,builtin],a,f⟩
   .cases h
  .cases h
 .cases h
theorem Qr{d:Tmp}{e:Value}{b:List Oper}{T c:Tr}(h:aC d e b T=some c):(b=[]/\c=T)\/∃f g,b=[f]/\bC d f=some g/\c=T.c (some g) e:=by cases b with|nil=>simp only[aC,aj]at h;grind|cons o l=>cases l with|nil=>simp only[aC]at h;grind|cons a l=>simp[aC]at h
theorem Nd{d a:Tmp}{o:Oper}(h:bC d o=some a):o.op=.assign (.tmp d)/\o.dst=some a/\o.guard=none:=by unfold bC at h;grind
theorem nl{P:Program}{ops:Array Oper}{Q:Exit->Act->List Frame->World->Prop}{A:Act}{cs:List Frame}{W:World}{d e:Tmp}{o2:Oper}(hi:ops[1]?=some o2)(f:bC d o2=some e)(h:Q .normal (A.put (some e) (A.eval (.tmp d))) cs W):wpOpsS P ops Q [1] A cs W:=by
 obtain⟨c,a,g⟩:=Nd f;have i:Region.wanted o2 (yielded ops A.tmps)=true:=by simp[Region.wanted,g]
 have b:(execOp A.eval o2).run P W=.ok (.value (A.eval (.tmp d))) W:=by simp[execOp,c]
 unfold wpOpsS;rw[hi];simp only;rw[ag i,b];show wpOpsS P ops Q [] (A.put o2.dst _) cs W;rw[a];exact h
theorem np{P:Program}{ops:Array Oper}{Q:Exit->Act->List Frame->World->Prop}{A:Act}{cs:List Frame}{W:World}{d:Tmp}{o:Oper}{l:List Nat}(hi:ops[0]?=some o)(e:cX o=some d)(h:match recoverD cs with|some (v,a)=>wpOpsS P ops Q l (A.put (some d) v) a W|none=>wpOpsS P ops Q l (A.put (some d) .nilIface) cs W):wpOpsS P ops Q (0::l) A cs W:=by
 obtain⟨b,c,f⟩:=nk (P:=P) (W:=W) (A:=A) e;have g:Region.wanted o (yielded ops A.tmps)=true:=by simp[Region.wanted,f]
 unfold wpOpsS;grind
def Oe(b:B8)(a:Value)(u:FrameMode):Prop:=(a=.nilIface/\u=.returning)\/∃V,u=.panicking [{v:=V,recovered:=false}]/\AR b a V
theorem nt{P:Program}{call:AY}(hP:M6 P=true)(L:EN P call)(g2:C_ call){n:Nat}{k:FuncId}{args:List Value}{h h2:AA}{pv:Value}(hs:UU P call n k args h pv=some h2){A:B8}{W:World}(hR:CV P A h W){D:Deferred}(hD:dR A (k,args) D){u:FrameMode}(hu:Oe A pv u):∃g J,D.target=.fn (.func k) g/\(invoke D.target D.args).run P W=.ok (.enter k J) W/\CallsD P k J u W (fun e x B=>(∃V,e=.returned V)/\settle x=.returning/\∃q,Nx P A h W q h2 B):=by
 obtain⟨r,id,w,K,o,os,d,e,s,T1,T,hb,y,U,X,g5,Y,g3,he,M,rfl⟩:=Fy hs;simp only[M6,ah]at hP;obtain⟨hm,Z⟩:=hP;have C:=bm.1 Z r (aw (i:=k) (by grind));unfold cI at C;rw[hb]at C;simp only[ah,iz,KO]at C;obtain⟨⟨E,z⟩,N⟩:=C;have F:=ax.1 N;obtain⟨g,ht,j⟩:=hD;simp only at ht j;have g7:(D.args++g).size=args.length:=by have:=j.Z6;grind
 refine⟨g,D.args++g,ht,by rw[ht];simp[invoke,callFunc,program,Sem.run,T,F,hb],?_⟩;refine callsD_of_wpS T hb fun f G l=>?_;refine wpS_seq (wpS_region ?_);have h1:HZ A (JX 0 args .leaf) {tmps:=D.args++g++Array.replicate (r.ntmps-(D.args++g).size) undef,defers:=[]}:=by
  intro t;simp only[jL];rw[ed,Array.getElem?_append];by_cases ht:t<args.length
  .rw[ag (by omega),ag (by omega)];obtain⟨b,hb,hr⟩:=j.Zz (i:=t) (a:=args[t]) (by simp[ht]);grind
  .rw[ad (by omega),ad (by omega),jb];have:(Tr.leaf).a t=undef:=rfl;rw[this];split<;>exact R2
 have g8:(D.args++g++Array.replicate (r.ntmps-(D.args++g).size) undef).size=r.ntmps:=by grind
 have h3:SZ r.ntmps (some d)=true:=by simpa[SZ]using g3
 generalize g9:({tmps:=D.args++g++Array.replicate (r.ntmps-(D.args++g).size) undef,defers:=[]}:Act)=A0 at h1;have H:A0.tmps.size=r.ntmps:=by grind
 have x0:A0.defers=[]:=by grind
 -- the rest, whatever recover gave
 have h4:∀(p:Act)(x:FrameMode),HZ A T1 p->p.tmps.size=r.ntmps->p.defers=[]->settle x=.returning->(Code.wpS P K (bodyPostS P r f G fun e x B=>(∃V,e=.returned V)/\settle x=.returning/\∃q,Nx P A h W q s.h B)
   p ({f with mode:=x}::G) W):=by
  intro p x hT hn hd g6;refine wpS_of_wp (rW L g2 hm n K z M hR hT hn fun A' B q hN x1 x2 x3=>?_);have x4:A'.defers=[]:=by grind
  have x5:(results r A'.tmps).run P B=.ok (.tuple #[]) B:=by simp[results,Y]
  have g4:A'.defers=[]/\∃h5,({f with mode:=x}::G)=({f with mode:=h5}:Frame)::G/\∃v,(results r A'.tmps).run P B=.ok v B/\((∃V,Ending.returned v=.returned V)/\settle h5=.returning/\∃q,Nx P A h W q s.h B):=by grind
  rcases he with rfl|rfl;.assumption
  assumption
 -- the first region
 have h6:∀(V:Value)(x:FrameMode)(Q:Exit->Act->List Frame->World->Prop),(∀p,HZ A T1 p->p.tmps.size=r.ntmps->p.defers=[]->Q .normal p ({f with mode:=x}::G) W)->AR A pv V->wpOpsS P w Q ((List.range w.size).tail) (A0.put (some d) V) ({f with mode:=x}::G) W:=by
  intro V x Q hQ hV;have O:=HZ.a h1 H h3 hV;rcases Qr U with⟨rfl,rfl⟩|⟨o2,d2,rfl,h8,rfl⟩
  .have m:=eF.1 y;subst m;show Q .normal _ _ _;exact hQ _ O (by rw[QG];exact H) (by assumption)
  .have m:=eF.1 y;subst m;have R:SZ r.ntmps (some d2)=true:=by
    have h9:=E;simp only[LK,ah,az,bu]at h9;rw[<-(Nd h8).2.1];grind
   refine nl (o2:=o2) rfl h8 (hQ _ ?_ ?_ ?_)
   .refine HZ.a O (by rw[QG];exact H) R ?_;have h7:=O d;rw[Tr.b,ag rfl]at h7;exact h7
   .rw[QG,QG];exact H
   assumption
 have I:List.range w.size=0::(List.range w.size).tail:=by
  have:w.size=(o::os).length:=by grind
  rw[this];rcases Qr U with⟨rfl,_⟩|⟨o2,d2,rfl,_,_⟩<;>rfl
 rw[I];have h0:w[0]?=some o:=by rw[<-Array.getElem?_toList,y];rfl
 refine np h0 X ?_;rcases hu with⟨rfl,rfl⟩|⟨V,rfl,hV⟩
 .have S:recoverD (f::G)=none:=by simp[recoverD,l]
  rw[S];have g0:({f with mode:=.returning}:Frame)=f:=by rw[<-l]
  have g1:=h6 .nilIface .returning;rw[g0]at g1;refine g1 _ (fun p a b c=>?_) (.flat rfl);have:=h4 p .returning a b c rfl;rw[g0]at this;exact this
 .have S:recoverD (f::G)=some (V,{f with mode:=.panicking [{v:=V,recovered:=true}]}::G):=by simp[recoverD,l]
  rw[S];refine h6 V (.panicking [{v:=V,recovered:=true}]) _ (fun p a b c=>?_) hV;exact h4 p (.panicking [{v:=V,recovered:=true}]) a b c rfl
theorem Sk{P:Program}{e:B8}{h:AA}{W:World}{f:Func}{b:Array Value}{T:Tr}{d:AA}{W':World}{a:B8}{vs:List Value}(g:Nx P e h W a d W'){A:Act}(j:A.tmps=b)(k:HZ a T A)(c:F5 P ⟨T,d⟩ f.results.toList=some vs):∃V,(results f b).run P W'=.ok V W'/\∃a,Nx P e h W a d W'/\mF a (.ret (GU vs)) (.returned V):=by obtain⟨V,i,l⟩:=sU c g.b k;rw[j]at i;exact⟨V,i,a,g,V,rfl,l⟩
theorem nw{P:Program}(hP:M6 P=true){M:NK}(Z:X9 P M)(H:UR M)(j:Nat):X9 P (eD P M j)/\UR (eD P M j):=by
 have h0:=hP;simp only[M6,ah]at h0;obtain⟨hm,h3⟩:=h0;have h4:∀(f:FuncId)(n:Func)(c:Code),P.funcs[f]?=some n->n.body=some c->KO P n.ntmps c=true/\(n.name== "runtime.NumGoroutine")=false:=by intro f n c x U;have:=bm.1 h3 n (aw (i:=f) (by grind));unfold cI at this;grind
 -- what an answer comes from
 have h5:∀f g h o z,eD P M j f g h=some (o,z)->∃n c e s,P.funcs[f]?=some n/\n.body=some c/\g.length<=n.ntmps/\IF P M j c ⟨⟨JX 0 g .leaf,h⟩,[]⟩=some (e,s)/\(((e=.normal\/e=.ret)/\s.a=[]/\∃A,F5 P s.s n.results.toList=some A/\o=.ret (GU A)/\z=s.s.h)\/(∃v,e=.pan v/\s.a=[]/\o=.pan v/\z=s.s.h)\/(∃k l X A,s.a=[(k,l)]/\((e=.normal\/e=.ret)/\X=.nilIface\/e=.pan X)/\UU P (ND M) j k l s.s.h X=some z/\F5 P ⟨s.s.T,z⟩ n.results.toList=some A/\o=.ret (GU A))):=by
  intro f g h o z I;unfold eD at I;split at I
  .rename_i n x;split at I
   .rename_i c U;split at I
    .rename_i K;split at I;.grind
     grind
    grind
   grind
  grind
 refine⟨fun f g h o z I=>?_,fun f g h o z I=>?_⟩
 .obtain⟨n,c,e,s,x,U,K,r,B⟩:=h5 f g h o z I;obtain⟨h6,N⟩:=h4 f n c x U;refine⟨⟨n,c,x,U,N⟩,fun ρ W C hR E=>?_⟩;have g7:C.size=g.length:=by have:=E.Z6;grind
  refine calls_of_wp_defers x U (nf Z H hm j c h6 r hR ?_ (by grind) .nil fun y O p hN h7 g8 m=>?_)
  .intro t;simp only[jL];show AR ρ _ ((C++Array.replicate (n.ntmps-C.size) undef).getD t undef);rw[ed,Array.getElem?_append];by_cases ht:t<g.length
   .rw[ag (by omega),ag (by omega)];obtain⟨b,hb,hr⟩:=E.Zz (i:=t) (a:=g[t]) (by simp[ht]);grind
   .rw[ad (by omega),ad (by omega),jb];have:(Tr.leaf).a t=undef:=rfl;rw[this];split<;>exact R2
  .rcases B with⟨Q,q,A,F,rfl,rfl⟩|⟨v,rfl,q,rfl,rfl⟩|⟨k,l,X,A,q,Q,G,F,rfl⟩
   .rw[q]at m;have R:y.defers=[]:=by cases Y:y.defers with|nil=>rfl|cons _ _=>rw[Y]at m;cases m
    obtain⟨V,S,w⟩:=Sk hN rfl h7 F;have hL:Leaves P n y.tmps (fun e O=>∃p,Nx P ρ h W p s.s.h O/\mF p (.ret (GU A)) e) y.defers .returning O:=by
     rw[R];exact⟨V,S,w⟩
    rcases Q with rfl|rfl;.exact hL
    .exact hL
   .rw[q]at m;have R:y.defers=[]:=by cases Y:y.defers with|nil=>rfl|cons _ _=>rw[Y]at m;cases m
    intro V S;show Leaves P n y.tmps _ y.defers (.panicking _) O;rw[R];exact⟨p,hN,V,rfl,S⟩
   .rw[q]at m;obtain⟨D,g2,hD⟩:∃D,y.defers=[D]/\dR p (k,l) D:=by cases Y:y.defers with
     |nil=>rw[Y]at m;cases m|cons D L=>
      rw[Y]at m;cases m with|cons h1 h2=>cases h2;grind
    have go:∀(u:FrameMode),u≠.run->Oe p X u->Leaves P n y.tmps (fun e O=>∃p,Nx P ρ h W p z O/\mF p (.ret (GU A)) e) y.defers u O:=by
     intro u g3 hu;rw[g2];obtain⟨g4,T,ht,h8,g5⟩:=nt hP (VV Z) (dK H) G hN.b hD hu;refine⟨g3,.func k,g4,k,T,ht,h8,g5.mono fun e2 u2 W2⟨⟨V2,g6⟩,h9,ρ2,g0⟩=>?_⟩;subst g6;show Leaves P n y.tmps _ [] (settle u2) W2;rw[h9];obtain⟨V,S,w⟩:=Sk (hN.d hR g0) rfl (h7.b g0.e) F;exact⟨V,S,w⟩
    rcases Q with⟨Q,rfl⟩|rfl
    .have hL:=go .returning (by simp) (.inl ⟨rfl,rfl⟩);rcases Q with rfl|rfl;.exact hL
     .exact hL
    .intro V S;exact go _ (by simp) (.inr ⟨V,rfl,S⟩)
 .obtain⟨n,c,e,s,x,U,K,r,B⟩:=h5 f g h o z I;have h1:=nj H j c r;rcases B with⟨Q,q,A,F,rfl,rfl⟩|⟨v,rfl,q,rfl,rfl⟩|⟨k,l,X,A,q,Q,G,F,rfl⟩;.exact h1
  .exact h1
  .obtain⟨g9,id,x0,g1,o2,x1,d,e2,s2,T2,_,_,_,_,_,_,_,_,_,J,rfl⟩:=Fy G;have h2:=vJ (dK H) j g1 J;exact h1.b h2
theorem bD{P:Program}(n:M6 P=true){base:AY}(p:EN P base)(d:C_ base):∀b,X9 P (PF P base b)/\UR (PF P base b):=by
 intro b;induction b with
 |zero=>exact⟨fun f a h o g d=>by simp[PF]at d,fun f a h o g d=>by simp[PF]at d⟩|succ b m=>
  obtain⟨q,r⟩:=nw n m.1 m.2 b;refine⟨fun f a h o g c=>?_,fun f a h o g c=>?_⟩
  .simp only[PF]at c;split at c;.rename_i v j k;cases c;obtain⟨s,j⟩:=p f a h _ _ k;exact⟨s,fun t W i u w=>(j t W i u w).mono fun e A⟨V,l,x,y,z⟩=>⟨l,y,V,x,z⟩⟩
   .exact q f a h o g c
  .simp only[PF]at c;split at c;.rename_i v j k;cases c;exact d f a h v _ k
   .exact r f a h o g c
end Go.Sx




