/- Part 5. -/
import Derived.Test.YtjailoenloejbaaGreatDoorDV4
set_option linter.all false
namespace Go.Sx
open Go
set_option maxHeartbeats 0
section
variable {P:Program} {call:AY} {ops:Array Oper} {S:Nat->St} {n:Nat} {ρ0:B8} {W0:World} {D:List Deferred} {listed:Array Bool} {A:Act} {W:World} {ρ:B8} {p:Nat}
theorem Gr.b(W:World):Gr W W:=⟨rfl,rfl,rfl,af _,fun _ _=>rfl⟩
theorem GP.j(l:G8 P call ops S)(m:CV P ρ0 (S 0).h W0)(g:GP P ops S n ρ0 W0 D listed A W ρ p){j:Nat}(o:j∈Region.ready .any ops listed){c:Oper}(d:ops[j]?=some c)(e:FT ops (S j).T c=true)(b:GJ c=true\/HB c=true):Nx P ρ0 (S 0).h W0 (EB ρ (S j).h.a) (S j).h W:=by
 obtain⟨q,y⟩:=g.a o;have r:WW ops S j:=⟨c,d,e,b⟩;have s:p<=j:=by
  rcases ar j p with h|h;.exact absurd (g.B j h (.inl r)) q
  .exact h
 have a:∀i,i<j->(WW ops S i\/NN ops S i)->listed.getD i false=true:=by
  rintro i v(⟨t,f,_,h⟩|⟨t,f,_,h⟩);.exact VT g.l o (l.c.b j i c t d f b (by grind) v)
  .exact VT g.l o (l.c.b j i c t d f b (.inr (.inr h)) v)
 have k:=fun i w u x=>g.r i w x (a i u (.inl x));exact g.h l m s (by omega) k (fun i w u z=>a i u (.inr z))
theorem G8.k(l:G8 P call ops S){p j id:Nat}(m:p<=j)(t:j<=ops.size)(h1:(S p).h.a<=id)(g:id<(S j).h.a):∃i,p<=i/\i<j/\((NN ops S i/\id=(S i).h.a)\/∃o,ops[i]?=some o/\FT ops (S i).T o=true/\GJ o=true):=by induction j with
 |zero=>grind|succ j u=>
  rcases ar id (S j).h.a with h|h;.grind
  .have b:p<=j:=by grind
   have k:=fi (show j<ops.size by omega);refine⟨j,b,by omega,?_⟩;cases l.b j _ k with
   |off _ e=>grind|pure v _ _ _ _ e=>grind|read v a _ _ _ _ e=>grind|new v q c d _ _ e=>
    rw[e]at g;have:id<(S j).h.a+1:=g;exact .inl ⟨⟨_,k,c,by simp[NM,d]⟩,by omega⟩|act v h1 f c d _ _ _ e=>exact .inr ⟨_,k,c,by simp[GJ,d]⟩|actF v h1 r c d _ _ _ _ e=>exact .inr ⟨_,k,c,by simp[GJ,d]⟩|store v a s q _ _ _ _ _ _ _ _ e=>
    rw[e]at g;have:id<(S j).h.a:=g;omega
theorem GP.C(e:G8 P call ops S)(h4:CV P ρ0 (S 0).h W0)(k:GP P ops S n ρ0 W0 D listed A W ρ p){j:Nat}(L:j∈Region.ready .any ops listed){E:Oper}(t:ops[j]?=some E)(c:FT ops (S j).T E=true){a:Operand}(l:AB E.op=.read a){id:Nat}(u:DP (ev (S j).T a)=some id)(F:id<(S j).h.a):JB P (EB ρ (S j).h.a) W id ((S j).h.c id):=by
 obtain⟨M,h5⟩:=k.a L;rcases ar j p with N|x;.exact k.g j N M E a id t c l u
 have d:RN ops j=true->id<(S 0).h.a:=fun m=>by cases e.b j E t with
  |off h _=>rw[c]at h;cases h|pure v _ b _ _ _=>rw[l]at b;cases b|read v a' _ b O _ _=>rw[l]at b;cases b;exact O m id u|new v ob _ b _ _ _=>rw[l]at b;cases b|act v J f _ b _ _ _ _=>rw[l]at b;cases b|actF v J h6 _ b _ _ _ _ _=>rw[l]at b;cases b|store v a id ob _ b _ _ _ _ _ _ _=>rw[l]at b;cases b
 have Q:∀w,w<j->¬listed.getD w false=true->LY (Region.before ops) j w=true:=by
  intro w R y;refine rK (by omega) (fun z=>y (VT k.l L z)) (fun z=>?_);have:=bF e.c w j z;omega
 have r:∀w,w<j->¬listed.getD w false=true->LY (Region.before ops) w j=true:=by
  intro w R y;refine rK (by omega) (fun z=>?_) (fun z=>y (VT k.l L z));have:=bF e.c w j z;omega
 have g:∀q,p<=q->q<=j->id<(S q).h.a->(S j).h.c id=(S q).h.c id:=fun q hq U s=>e.h U (by omega) s fun w J h2 G=>by
  have m:=k.r w (by omega) G;obtain⟨ow,V,H,B⟩:=G;have X:j≠w:=by omega
  exact(e.f X t c l u V H B (Q w (by omega) m)).2.2 (cf s (e.a J (by omega)).d)
 have Y:(S p).h.a<=(S j).h.a:=(e.a x (by omega)).d;have h7:(S 0).h.a<=(S p).h.a:=(e.a (bg _) (by omega)).d;rcases ar id (S p).h.a with h|h
 .rw[g p (af _) x h];exact(k.q.b.a id).a (cM Y) fun _ _ _=>rfl
 .obtain⟨i,I,C,Z⟩:=e.k x (by omega) h F;rcases Z with⟨hn,rfl⟩|⟨o,K,R,ha⟩
  .by_cases m:listed.getD i false=true
   .obtain⟨Lc,J,h2,_,_⟩:=k.d i I hn m;have h3:=(e.e hn).2.1;have h8:(S (i+1)).h.a<=(S j).h.a:=(e.a (by omega) (by omega)).d;rw[g (i+1) (by omega) (by omega) (by omega)];exact h2.a (cM) fun _ _ _=>rfl
   .obtain⟨o,K,_,h0⟩:=hn;have:=d (tW K (.inr ⟨h0,C⟩) (r i C m));omega
  .have m:=k.r i I ⟨o,K,R,.inl ha⟩;have:=d (tW K (.inl ha) (r i C m));omega
theorem me{h:AA}{a b:BO}(e:h.d a=h.d b):a=b:=by have c:=BJ (h:=h) (o:=a);rw[e,BJ]at c;grind
theorem rX{h h':AA}{ρ a:B8}{W W':World}(c:Nx P ρ h W a h' W')(d:∀i,h.a<=i->ρ i=none)(e:h'.a=h.a):a=ρ:=by
 funext i;rcases ar i h.a with b|b;.exact c.f i b
 .rw[d i b,c.b.d i (by omega)]
theorem GP.E(s:G8 P call ops S)(z:CV P ρ0 (S 0).h W0)(H:GP P ops S n ρ0 W0 D listed A W ρ p){j:Nat}(N:j∈Region.ready .any ops listed){oj:Oper}(c:ops[j]?=some oj)(E:LK P n oj=true){K:Act->World->Prop}{Q:Exit->Act->World->Prop}(hK:∀A' Y q p',GP P ops S n ρ0 W0 D (listed.setIfInBounds j true) A' Y q p'->K A' Y):wpOp P ops Q j K A W:=by
 obtain⟨z1,z2⟩:=H.a N;unfold wpOp;simp only[c];rw[qA (ops:=ops) (T:=(S j).T) (ρ:=EB ρ (S j).h.a) fun t ht=>H.m s N c ht];have m:∀i,(S j).h.a<=i->EB ρ (S j).h.a i=none:=fun i hi=>by unfold EB;rw[ad (by omega)]
 have B:=H.o s z (j:=j) (by omega);have w:=H.i s z N c E;have C:∀f,CV P (EB ρ (S j).h.a) (GK (S j).h.a f) W:=fun f=>wS m B;have Z:=s.b j oj c;by_cases d:FT ops (S j).T oj=true
 .rw[ag d];refine .inl ?_;cases Z with
  |off h _=>rw[d]at h;cases h|pure v _ u hm hs e=>
   obtain⟨_,r⟩:=qX u hm hs;refine U9 s.l (C 0) w (r (GK (S j).h.a 0)) fun V Y q l hv=>?_;have e1:q=EB ρ (S j).h.a:=rX l m rfl;subst e1;have I:¬WW ops S j:=by rintro⟨o,y,_,h⟩;rw[c]at y;cases y;simp[GJ,HB,u]at h
   have J:¬NN ops S j:=by rintro⟨o,y,_,h⟩;rw[c]at y;cases y;simp[NM,u]at h
   refine hK _ _ ρ p (H.f s N c E I J (l.c.g fun i=>by rw[R6];exact id) (v:=v) (V:=V) (by rw[e]) (by rw[e];exact hv))|read v a _ u z3 hs e=>
   obtain⟨_,r⟩:=vC u hs;have I:¬WW ops S j:=by rintro⟨o,y,_,h⟩;rw[c]at y;cases y;simp[GJ,HB,u]at h
   have J:¬NN ops S j:=by rintro⟨o,y,_,h⟩;rw[c]at y;cases y;simp[NM,u]at h
   have x6:∃h2:AA,h2.a=(S j).h.a/\CV P (EB ρ (S j).h.a) h2 W/\(∀i,wr (h2.c i)->h2.b<=i->False)/\∀id,DP (ev (S j).T a)=some id->h2.c id=(S j).h.c id:=by cases h9:DP (ev (S j).T a)with|none=>exact⟨GK (S j).h.a 0,rfl,C 0,fun i d=>by rw[R6]at d;exact d.elim,fun id h=>by cases h⟩|some id=>
     by_cases O:id<(S j).h.a
     .refine⟨(GK (S j).h.a (S j).h.a).e id ((S j).h.c id),rfl,Ax O (H.C s z N c d u h9 O) m B,fun i d hf=>?_,fun g6 h=>?_⟩
      .rw[YM O]at d;split at d;.rename_i e;subst e;have:(S j).h.a<=id:=hf;omega
       .exact d.elim
      .cases h;rw[YM O,ag rfl]
     .exact⟨GK (S j).h.a 0,rfl,C 0,fun i d=>by rw[R6]at d;exact d.elim,fun g6 h=>by cases h;rw[R6,NJ (by omega)]⟩
   obtain⟨h2,e2,x7,x8,g7⟩:=x6;refine U9 s.l x7 w (r h2 g7) fun V Y q l hv=>?_;have e1:q=EB ρ (S j).h.a:=rX l (by rw[e2];exact m) rfl;subst e1;have hg:Gr W Y:=⟨l.c.f,l.c.d,l.c.a,l.c.c,fun b hb=>l.c.e b hb fun i _ d hf=>absurd hf fun hf=>x8 i d hf⟩;refine hK _ _ ρ p (H.f s N c E I J hg (v:=v) (V:=V) (by rw[e]) (by rw[e];exact hv))|new v ob _ u g8 hs e=>
   obtain⟨o',_,he,r⟩:=zO u hs;have:=me he;subst this;have I:¬WW ops S j:=by rintro⟨o,y,_,h⟩;rw[c]at y;cases y;simp[GJ,HB,u]at h
   have J:NN ops S j:=⟨oj,c,d,by simp[NM,u]⟩;refine U9 s.l (C 0) w (r (GK (S j).h.a 0) rfl) fun V Y q l hv=>?_;have hg:Gr W Y:=l.c.g fun i=>by rw[R6];exact id
   have h0:=l.b.a (S j).h.a;have g9:((GK (S j).h.a 0).d ob).c (S j).h.a=ob:=BJ (h:=GK (S j).h.a 0);rw[g9]at h0;obtain⟨L,X,x9⟩:=h0.b g8.a;have y0:W.heap.size<=L.b:=by
    rcases l.l (S j).h.a L (af _) (by rw[g9];exact g8.a) X with h|⟨k,L0,hk,_⟩;.exact h
    .rw[R6]at hk;exact hk.elim
   have e1:q=EB (F9 ρ (S j).h.a L) ((S j).h.a+1):=by
    funext i;unfold EB;by_cases h1:i<(S j).h.a;.rw[ag (by omega),MK (by omega),l.f i h1,L9 h1]
    .by_cases h2:i=(S j).h.a;.subst h2;rw[ag (by omega),LW,X]
     .rw[ad (by omega)];exact l.b.d i (by show(S j).h.a+1<=i;omega)
   subst e1;have g0:(S (j+1)).h.a=(S j).h.a+1:=by rw[e];rfl
   have g1:(S (j+1)).h.c (S j).h.a=ob:=by rw[e];exact BJ
   refine hK _ _ _ p (H.t s N c E I J hg y0 x9 (by rw[g1];exact h0) (v:=v) (V:=V) (by rw[e]) (by rw[g0];exact hv))|act v h1 f _ u hf hl hs e=>
   have ha:GJ oj=true:=by simp[GJ,u]
   have g:=H.j s z N c d (.inl ha);have z4:HB oj≠true:=by simp[HB,u]
   refine U9 s.l (g.b.h f) w hs fun V Y q l hv=>?_;have g2:=l.j hf;have e1:(S (j+1)).h=h1.f (S j).h.b:=by rw[e]
   obtain⟨ρ2,h3⟩:=H.x s z N c E d (.inl ha) (by rw[e1];exact g2) (fun id L X F g3 _=>by
    obtain⟨⟨y1,h5⟩,_⟩:=g3 ha;obtain⟨L2,e2,hb⟩:=(g.b.a id).b F;rw[X]at e2;cases e2;refine l.c.e _ hb fun i L' M y2 R=>?_;have z5:f<=i:=y2;have:=hl y1;exact g.b.c i id L' L M F (by omega) R X) (v:=v) (V:=V) (by rw[e]) hv;exact hK _ _ ρ2 _ h3|actF v h1 U _ u hB x0 hb hs e=>
   have ha:GJ oj=true:=by simp[GJ,u]
   have g:=H.j s z N c d (.inl ha);refine U9 s.l (Mh U g.b hb) w hs fun V Y q l hv=>?_;have g2:=Od U g.b hb l;have e1:(S (j+1)).h=MM (S j).h U h1:=by rw[e]
   obtain⟨ρ2,h3⟩:=H.x s z N c E d (.inl ha) (by rw[e1];exact g2) (fun id L X F g3 _=>by
    obtain⟨_,hx⟩:=g3 ha;obtain⟨x,y3,y4⟩:=hx hB;have x1:id∈U:=by rw[x0];exact List.mem_filterMap.2 ⟨x,y3,y4⟩
    obtain⟨L2,e2,y5⟩:=(g.b.a id).b F;rw[X]at e2;cases e2;refine l.c.e _ y5 fun i L' M _ R=>?_;obtain⟨w1,w2⟩:=Pk U hb M;exact g.b.c i id L' L w1 F (by rintro rfl;exact w2 x1) R X) (v:=v) (V:=V) (by rw[e]) hv;exact hK _ _ ρ2 _ h3|store v a id ob _ u h9 r h1 h2 y6 hs e=>
   have h5:HB oj=true:=by simp[HB,u]
   have z6:GJ oj≠true:=by simp[GJ,u]
   have g:=H.j s z N c d (.inr h5);obtain⟨a',g6,x2,x3,h6,he,G,z0,h4,g4⟩:=cF u hs;have ha:a'=a:=by rcases y6 with⟨_,_,e⟩|⟨_,_,_,e|e⟩<;>rcases x3 with⟨_,_,e'⟩|⟨_,_,_,e'|e'⟩<;>rw[e]at e'<;>cases e'<;>rfl
   subst ha;rw[h9]at h6;cases h6;have h0:x2=ob:=by
    have:=jj (fun h:AA=>h.c id) he;simp only[BE g.b.f G]at this;exact this.symm
   subst h0;obtain⟨L,X,z7⟩:=(g.b.a id).b h4.a;have y7:CV P (EB ρ (S j).h.a) ((GK (S j).h.a (S j).h.b).e id ((S j).h.c id)) W:=Ax G (g.b.a id) m B;refine U9 s.l y7 w (g4 _ (by rw[YM G,ag rfl]) rfl) fun V Y q l hv=>?_;have e1:q=EB ρ (S j).h.a:=rX l m rfl;subst e1;have h7:∀b,b<W.heap.size->b≠L.b->Y.heap[b]?=W.heap[b]?:=fun b hb g5=>l.c.e b hb fun i L' M _ R=>by
    rw[YM G]at M;split at M;.rename_i e;subst e;rw[X]at R;cases R;exact bc g5
    .exact M.elim
   have h8:=l.b.a id;rw[BE (XR (oN _ _)) G]at h8;have y8:=uM g.b h4 h2 X l.c.f l.c.d l.c.a l.c.c h7 h8;have e2:(S (j+1)).h=(S j).h.e id x2:=by rw[e]
   obtain⟨ρ2,h3⟩:=H.x s z N c E d (.inr h5) (by rw[e2];exact y8) (fun x4 L0 x5 F _ y9=>by
    obtain⟨L2,e3,hb⟩:=(g.b.a x4).b F;rw[x5]at e3;cases e3;refine h7 _ hb ?_;have g5:=y9 h5 id r;exact bc (g.b.c id x4 L L0 h4 F (bc g5) X x5)) (v:=v) (V:=V) (by rw[e]) hv;exact hK _ _ ρ2 _ h3
 .rw[ad d];cases Z with
  |off _ e=>
   have I:¬WW ops S j:=by rintro⟨o,y,h,_⟩;rw[c]at y;cases y;exact d h
   have J:¬NN ops S j:=by rintro⟨o,y,h,_⟩;rw[c]at y;cases y;exact d h
   exact hK _ _ ρ p (H.f s N c E I J (Gr.b W) (v:=undef) (V:=undef) (by rw[e]) R2)|pure v h _ _ _ _=>exact absurd h d|read v a h _ _ _ _=>exact absurd h d|new v ob h _ _ _ _=>exact absurd h d|act v h1 f h _ _ _ _ _=>exact absurd h d|actF v h1 U h _ _ _ _ _ _=>exact absurd h d|store v a id ob h _ _ _ _ _ _ _ _=>exact absurd h d
theorem GP.s(d:G8 P call ops S)(e:CV P ρ0 (S 0).h W0)(b:GP P ops S n ρ0 W0 D listed A W ρ p)(a:∀i,i<ops.size->listed.getD i false=true):Nx P ρ0 (S 0).h W0 (EB ρ (S ops.size).h.a) (S ops.size).h W/\HZ (EB ρ (S ops.size).h.a) (S ops.size).T A:=by
 refine⟨b.h d e b.w (af _) (fun i f c j=>b.r i f j (a i c)) (fun i _ c _=>a i c),fun t=>?_⟩;obtain⟨m,g,_,k,l⟩:=b.G t;rw[d.g g (af _) fun i o f c q r=>?_];.exact l.a (cM (d.a g (af _)).d)
 grind
theorem mf{ops:Array Oper}(b:jN ops){listed:Array Bool}(h:listed.size=ops.size)(j:Region.ready .any ops listed=[]):∀i,i<ops.size->listed.getD i false=true:=by intro i;induction i using Nat.strongRecOn with|_ i g=>intro c;cases k:listed.getD i false with|true=>rfl|false=>have a:=fi c;have:i∈Region.ready .any ops listed:=mem_ready.2 ⟨by grind,ops[i],a,fun e d f=>g e.on (b.a i _ a e d f) (Nat.lt_trans (b.a i _ a e d f) c)⟩;grind
theorem Ce{listed:Array Bool}{j k:Nat}(a:j<listed.size)(b:listed.getD j false=false)(c:listed.toList.count false<=k+1):(listed.setIfInBounds j true).toList.count false<=k:=by rw[Array.toList_setIfInBounds,List.count_set (by assumption)];simp_all
theorem GP.F(o:G8 P call ops S)(d:CV P ρ0 (S 0).h W0)(q:∀(j:Nat)w,ops[j]?=some w->LK P n w=true){Q:Exit->Act->World->Prop}(x:∀A W e,Nx P ρ0 (S 0).h W0 e (S ops.size).h W->HZ e (S ops.size).T A->A.tmps.size=n->A.defers=D->Q .normal A W):∀(a:Nat)(listed:Array Bool)(A:Act)(W:World)(ρ:B8)(p:Nat),listed.toList.count false<=a->GP P ops S n ρ0 W0 D listed A W ρ p->wpAny P .any ops Q a listed A W:=by intro a;induction a with
 |zero=>
  intro listed A W ρ p y b;have c:∀i,i<ops.size->listed.getD i false=true:=fun i f=>by cases B:listed.getD i false with|true=>rfl|false=>
    have s:i<listed.size:=by rw[b.c];exact f
    have C:listed.toList.count false=0:=by omega
    have g:false∈listed.toList:=by
     have:listed[i]=false:=by simpa[s]using B
     rw[<-this];simp
    exact absurd g (List.count_eq_zero.1 C)
  refine⟨?_,?_⟩;.cases t:Region.ready .any ops listed with
   |nil=>rfl|cons i r=>
    have f:i∈Region.ready .any ops listed:=by rw[t];simp
    obtain⟨k,l⟩:=b.a f;exact absurd (c i l) k
  .obtain⟨k,l⟩:=b.s o d c;exact x _ _ _ k l b.v b.z|succ a E=>
  intro listed A W ρ p y b;refine⟨fun t=>?_,fun i f=>?_⟩;.obtain⟨k,l⟩:=b.s o d (mf o.c b.c t);exact x _ _ _ k l b.v b.z
  .obtain⟨u,m⟩:=b.a f;have z:=fi m;exact b.E o d f z (q _ _ z) fun F G e H v=>E _ _ _ _ _ (Ce (by rw[b.c];exact m) (by simpa using u) y) v
theorem GP.u(c:CV P ρ0 (S 0).h W0)(f:HZ ρ0 (S 0).T A)(g:A.tmps.size=n):GP P ops S n ρ0 W0 A.defers (Array.replicate ops.size false) A W0 ρ0 0:=by
 have b:EB ρ0 (S 0).h.a=ρ0:=by
  funext i;unfold EB;split;.rfl
  .rename_i h;exact(c.d i (by omega)).symm
 have a:∀i,¬(Array.replicate ops.size false).getD i false=true:=fun i=>by rw[ed,jb];split<;>simp
 refine⟨by simp,fun j o d=>absurd d (a j),bg _,fun i k=>absurd k (by omega),fun i _ _=>a i,by rw[b];exact Nx.a c,fun l L m e=>?_,fun i _ _ d=>absurd d (a i),fun i _ _ d=>absurd d (a i),fun j q=>absurd q (by omega),fun t=>⟨0,bg _,.inl rfl,fun i o _ _=>⟨fun h=>absurd h (a i),fun h=>by omega⟩,by rw[b];exact f t⟩,g,rfl⟩;rw[c.d l m]at e;cases e
end
theorem Qe{P:Program}{call:AY}(c:EN P call)(e:∀f g h v x,call f g h=some (v,x)->E_ h x)(E:P.follows .mixedOrders=true){id:Nat}{ops:Array Oper}{n:Nat}(p:∀(j:Nat)y,ops[j]?=some y->LK P n y=true)(F:mD ops=true){s s':St}(G:OM P call ops s.h.a 0 ops.toList s=some s'){i:B8}{A:Act}{W:World}(q:CV P i s.h W)(L:HZ i s.T A)(H:A.tmps.size=n){Q:Exit->Act->World->Prop}(I:∀d m b,Nx P i s.h W b s'.h m->HZ b s'.T d->d.tmps.size=n->d.defers=A.defers->Q .normal d m):(Code.region id ops true).wp P Q A W:=by
 obtain⟨S,r,z,a⟩:=lZ _ _ _ _ G;simp only[ab,Array.length_toList]at z a;have J:G8 P call ops S:=⟨e,c,Vq F,fun k o M=>by
  have:=a k o (by grind);rw[<-r]at this;exact Lt e this⟩;refine wp_region_any E ?_;have B:Gr W {W with drawn:=W.drawn+1}:=⟨rfl,rfl,rfl,af _,fun _ _=>rfl⟩;have l:CV P i (S 0).h {W with drawn:=W.drawn+1}:=by rw[r];exact q.g B
 refine GP.F J l p (D:=A.defers) (n:=n) (fun d m b C K t u=>I d m b ?_ ?_ t u) _ _ _ _ i 0 ?_ (GP.u l (by grind) H)
 .rw[<-z];have w:=(Nx.a q).h B;rw[r]at C;exact w.d q C
 .grind
 simp
end Go.Sx




