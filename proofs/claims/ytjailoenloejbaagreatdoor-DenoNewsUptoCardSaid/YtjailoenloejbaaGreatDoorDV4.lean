/- Part 4. -/
import Derived.Test.YtjailoenloejbaaGreatDoorDV3
set_option linter.all false
namespace Go.Sx
open Go
set_option maxHeartbeats 0
def WP(a:Array Nat)(o:Oper):Nat:=o.after.foldl (fun s e=>if Region.binds .any e then s|||2^e.on|||a.getD e.on 0 else s) 0
theorem ln(l:List Oper):∀a:Array Nat,let r:=l.foldl (fun a o=>a.push (WP a o)) a
  r.size=a.size+l.length/\(∀k,k<a.size->r.getD k 0=a.getD k 0)/\∀m o,l[m]?=some o->∃b:Array Nat,b.size=a.size+m/\(∀k,k<b.size->b.getD k 0=r.getD k 0)/\r.getD (a.size+m) 0=WP b o:=by induction l with
 |nil=>intro a;simp|cons o l f=>
  intro a;obtain⟨g,c,h⟩:=f (a.push (WP a o));simp only[List.foldl_cons];simp only[Array.size_push]at g c h;refine⟨by grind,fun k d=>?_,fun m i e=>?_⟩
  .rw[c k (by omega)];simp[ed,Array.getElem?_push,Nat.ne_of_lt d]
  .cases m with
   |zero=>
    simp at e;subst e;refine⟨a,rfl,fun k d=>?_,?_⟩
    .rw[c k (by omega)];simp[ed,Array.getElem?_push,Nat.ne_of_lt d]
    simp_all|succ m=>grind
theorem ly{a:Array Nat}{o:Oper}{i:Nat}(h:(WP a o).testBit i=true):∃e∈o.after,Region.binds .any e=true/\(e.on=i\/(a.getD e.on 0).testBit i=true):=by
 unfold WP at h;rw[<-Array.foldl_toList]at h;have b:∀(l:List Edge)(s:Nat),(l.foldl (fun s e=>if Region.binds .any e then s|||2^e.on|||a.getD e.on 0 else s) s).testBit i=true->s.testBit i=true\/∃e∈l,Region.binds .any e=true/\(e.on=i\/(a.getD e.on 0).testBit i=true):=by intro l;induction l with|nil=>simp|cons e l c=>grind
 grind
theorem uO{ops:Array Oper}{j i:Nat}(h:((Region.before ops).getD j 0).testBit i=true):∃o,ops[j]?=some o/\∃e∈o.after,Region.binds .any e=true/\(e.on=i\/(e.on<j/\((Region.before ops).getD e.on 0).testBit i=true)):=by
 have f:Region.before ops=ops.toList.foldl (fun a o=>a.push (WP a o)) #[]:=by
  unfold Region.before;rw[<-Array.foldl_toList];rfl
 obtain⟨c,_,b⟩:=ln ops.toList #[];simp only[<-f]at c b;simp only[List.size_toArray,du,ab]at c b;cases n:ops[j]? with|none=>grind|some o=>obtain⟨d,p,g,k⟩:=b j o (by grind);rw[k]at h;obtain⟨e,q,l,m⟩:=ly h;grind
def mD(ops:Array Oper):Bool:=let b:=Region.before ops
 (List.range ops.size).all fun j=>match ops[j]? with
  |none=>false|some c=>c.after.toList.all (fun e=>!Region.binds .any e||decide (e.on<j))&&(List.range ops.size).all fun i=>match ops[i]? with
    |none=>false|some f=>(!((GJ c||HB c)&&(GJ f||HB f||NM f)&&decide (i<j))||(b.getD j 0).testBit i)&&(!(HB c&&XD f&&decide (j<i))||(b.getD i 0).testBit j)&&(!(i !=j&&(match f.dst with|some d=>(c.looksAt ops).contains d||c.dst==some d|none=>false))||((b.getD j 0).testBit i||(b.getD i 0).testBit j))&&(!(HB c&&decide (i<j))||(match AB f.op with
      |.read a=>!(LY b i j)||(List.range ops.size).all (fun k=>!(decide (i<=k)&&decide (k<j))||(match ops[k]? with|some g=>(match g.dst,a with|some d,.tmp t=>d !=t|_,_=>true)|none=>true))|_=>true))
structure jN (ops:Array Oper):Prop where
 a:∀ j oj,ops[j]?=some oj->∀ e∈oj.after,Region.binds .any e=true->e.on<j
 b:∀ j i oj oi,ops[j]?=some oj->ops[i]?=some oi->(GJ oj=true\/HB oj=true)->(GJ oi=true\/HB oi=true\/NM oi=true)->i<j->((Region.before ops).getD j 0).testBit i=true
 c:∀ j i oj oi,ops[j]?=some oj->ops[i]?=some oi->HB oj=true->XD oi=true->j<i->((Region.before ops).getD i 0).testBit j=true
 f:∀ j i oj oi d,ops[j]?=some oj->ops[i]?=some oi->i≠j->oi.dst=some d->(d∈oj.looksAt ops\/oj.dst=some d)->((Region.before ops).getD j 0).testBit i=true\/((Region.before ops).getD i 0).testBit j=true
 g:∀ j i k oj oi ok t,ops[j]?=some oj->ops[i]?=some oi->ops[k]?=some ok->HB oj=true->i<j->AB oi.op=.read (.tmp t)->LY (Region.before ops) i j=true->i<=k->k<j->ok.dst≠some t
theorem Vq{ops:Array Oper}(h:mD ops=true):jN ops:=by
 unfold mD at h;simp only[bm,List.mem_range]at h;have l:∀j b,ops[j]?=some b->j<ops.size:=by grind
 have m:∀j b,ops[j]?=some b->(b.after.toList.all (fun e=>!Region.binds .any e||decide (e.on<j))=true)/\∀i c,ops[i]?=some c->(!((GJ b||HB b)&&(GJ c||HB c||NM c)&&decide (i<j))||((Region.before ops).getD j 0).testBit i)=true/\(!(HB b&&XD c&&decide (j<i))||((Region.before ops).getD i 0).testBit j)=true/\(!(i !=j&&(match c.dst with|some d=>(b.looksAt ops).contains d||b.dst==some d|none=>false))||(((Region.before ops).getD j 0).testBit i||((Region.before ops).getD i 0).testBit j))=true/\(!(HB b&&decide (i<j))||(match AB c.op with
      |.read a=>!(LY (Region.before ops) i j)||(List.range ops.size).all (fun k=>!(decide (i<=k)&&decide (k<j))||(match ops[k]? with|some o=>(match o.dst,a with|some d,.tmp t=>d !=t|_,_=>true)|none=>true))|_=>true))=true:=by
  intro j b g;have:=h j (l j b g);rw[g]at this;simp only[ah]at this;refine⟨this.1,fun i c n=>?_⟩;grind
 refine⟨?_,?_,?_,?_,?_⟩;.grind
 .intro j i b c g n r s f;have:=((m j b g).2 i c n).1;have v:(GJ b||HB b)=true:=by grind
  have w:(GJ c||HB c||NM c)=true:=by grind
  simpa[v,w,f]using this
 .grind
 .grind
 .intro j i k b c o t g n u r f x y p q;have:=((m j b g).2 i c n).2.2.2;rw[x]at this;simp only[r,f,ee,ao,jo,eg,y]at this;have s:=bm.1 this k (List.mem_range.2 (l k o u));simp only[p,q,ee,ao,jo,eg,u]at s;grind
theorem lz{ops:Array Oper}{j i:Nat}{b:Oper}{a:Operand}(h:SP ops j=true)(hi:ops[i]?=some b)(d:AB b.op=.read a)(e:LY (Region.before ops) i j=true):i<j/\∀k c t,ops[k]?=some c->a=.tmp t->i<=k->k<j->c.dst≠some t:=by
 unfold SP at h;grind
theorem Gg:∀(l:List Nat)(h:AA),(OW l h).a=h.a/\(OW l h).b=h.b|[],h=>⟨rfl,rfl⟩|a::l,h=>Gg l (LS h a)
theorem Bi:∀(l:List Nat)(h h1:AA),(MM h l h1).a=h1.a/\(MM h l h1).b=h1.b|[],h,h1=>⟨rfl,rfl⟩|a::l,h,h1=>Bi l (LS h a) h1
theorem wF{h:AA}{id i:Nat}(hi:id<h.a)(a:OX (h.c i)=true):OX ((LS h id).c i)=true:=by
 unfold LS;by_cases e:id=i;.subst e;rw[BE rfl hi];cases b:h.c id with
  |row c d g f=>rfl|map j=>rw[b]at a;cases a|dead=>rw[b]at a;cases a
 .rw[AP hi e];exact a
theorem Gq:∀(l:List Nat)(h h1:AA),(∀a∈l,a<h.a)->h.a<=h1.a->∀i∈l,(MM h l h1).c i=h.c i
 |a::l,h,h1,d,f,i,j=>by
  show((MM (LS h a) l h1).e a (h.c a)).c i=_;have c:=d a (.head _);have b:a<(MM (LS h a) l h1).a:=by rw[(Bi l _ _).1];omega
  by_cases e:a=i;.subst e;exact BE rfl b
  .rw[AP b e,Gq l (LS h a) h1 (fun k g=>d k (.tail _ g)) f i (by grind)];unfold LS;exact AP c e
theorem lY{h h1:AA}{id:Nat}(b:id<h.a)(a:E_ (LS h id) h1):E_ h (h1.e id (h.c id)):=by
 have f:h.a<=h1.a:=a.d;refine⟨a.d,a.c,fun i c d=>?_⟩;by_cases e:id=i;.subst e;exact BE rfl (by omega)
 .rw[AP (by omega) e,a.e i c d];unfold LS;exact AP b e
theorem yU:∀(l:List Nat){h h1:AA},(∀a∈l,a<h.a)->E_ (OW l h) h1->E_ h (MM h l h1)|[],h,h1,_,b=>b|a::l,h,h1,c,b=>lY (c a (.head _)) (yU l (fun k d=>c k (.tail _ d)) b)
theorem bF{ops:Array Oper}(a:jN ops):∀(j i:Nat),((Region.before ops).getD j 0).testBit i=true->i<j:=by intro j;induction j using Nat.strongRecOn with|_ j k=>intro i h;obtain⟨o,b,e,c,d,f⟩:=uO h;have g:=a.a j o b e c d;grind
def W5(ops:Array Oper)(a:Array Bool):Prop:=∀j o,a.getD j false=true->ops[j]?=some o->∀e∈o.after,Region.binds .any e=true->a.getD e.on false=true
theorem W5.b{ops:Array Oper}{a:Array Bool}(b:W5 ops a):∀(j i:Nat),a.getD j false=true->((Region.before ops).getD j 0).testBit i=true->a.getD i false=true:=by intro j;induction j using Nat.strongRecOn with|_ j l=>intro i c h;obtain⟨o,d,e,f,g,k⟩:=uO h;have m:=b j o c d e f g;grind
theorem VT{ops:Array Oper}{a:Array Bool}(g:W5 ops a){j i:Nat}(k:j∈Region.ready .any ops a)(h:((Region.before ops).getD j 0).testBit i=true):a.getD i false=true:=by
 obtain⟨o,l,e,m,n,d⟩:=uO h;obtain⟨_,q,b,c⟩:=mem_ready.1 k;rw[l]at b;cases b;have f:=c e m n;rcases d with rfl|⟨r,p⟩;.exact f
 .exact g.b _ _ f p
theorem W5.a{ops:Array Oper}{a:Array Bool}(l:W5 ops a){j:Nat}(m:j∈Region.ready .any ops a):W5 ops (a.setIfInBounds j true):=by
 intro k o d f e g h;by_cases i:j=k
 .subst i;obtain⟨_,n,b,c⟩:=mem_ready.1 m;rw[f]at b;cases b;exact getD_set_true (c e g h)
 .rw[getD_set_ne false i]at d;exact getD_set_true (l k o d f e g h)
theorem lZ{P:Program}{call:AY}{ops:Array Oper}{a:Nat}:∀(l:List Oper)(i:Nat)(s s':St),OM P call ops a i l s=some s'->∃S:Nat->St,S i=s/\S (i+l.length)=s'/\∀k o,l[k]?=some o->UP P call ops a (i+k) o (S (i+k))=some (S (i+k+1)):=by
 intro l;induction l with|nil=>intro i s s' h;simp[OM]at h;subst h;exact⟨fun _=>s,rfl,rfl,by simp⟩|cons o l b=>
  intro i s s' h;simp only[OM]at h;split at h
  .rename_i c g;obtain⟨S,d,e,f⟩:=b (i+1) c s' h;refine⟨fun k=>if k<=i then s else S k,by simp,?_,?_⟩;.grind
   grind
  .cases h
inductive SC (P:Program) (call:AY) (ops:Array Oper) (start k:Nat) (o:Oper) (s s':St):Prop
 | off:FT ops s.T o=false->s'=⟨s.T.c o.dst undef,s.h⟩->SC P call ops start k o s s'
 | pure (v):FT ops s.T o=true->AB o.op=.pure->(∀ c,o.op=.call c->∀ r,c.args.toList.map (ev s.T)≠[.map r])->A_ P call s.T s.h o.op=some (v,s.h)->s'=⟨s.T.c o.dst v,s.h⟩->SC P call ops start k o s s'
 | read (v a):FT ops s.T o=true->AB o.op=.read a->(RN ops k=true->∀ id,DP (ev s.T a)=some id->id<start)->A_ P call s.T s.h o.op=some (v,s.h)->s'=⟨s.T.c o.dst v,s.h⟩->SC P call ops start k o s s'
 | new (v ob):FT ops s.T o=true->AB o.op=.new->wr ob->A_ P call s.T s.h o.op=some (v,s.h.d ob)->s'=⟨s.T.c o.dst v,s.h.d ob⟩->SC P call ops start k o s s'
 | act (v h1 f):FT ops s.T o=true->AB o.op=.act->s.h.b<=f->(RZ ops k=true->start<=f)->A_ P call s.T (s.h.f f) o.op=some (v,h1)->s'=⟨s.T.c o.dst v,h1.f s.h.b⟩->SC P call ops start k o s s'
 | actF (v h1 ids):FT ops s.T o=true->AB o.op=.act->SP ops k=true->ids=(J0 ops k).filterMap (fun x=>DP (ev s.T x))->(∀ id∈ids,id<s.h.a/\OX (s.h.c id)=true)->A_ P call s.T (OW ids s.h) o.op=some (v,h1)->s'=⟨s.T.c o.dst v,MM s.h ids h1⟩->SC P call ops start k o s s'
 | store (v a id ob):FT ops s.T o=true->AB o.op=.store->DP (ev s.T a)=some id->(∀ x∈J0 ops k,DP (ev s.T x)≠some id)->id<s.h.a->s.h.b<=id ->
   ((∃ t x,o.op=.store t a x)\/(∃ t k x,o.op=.mapUpdate t a k x\/o.op=.insert t a k x))->A_ P call s.T s.h o.op=some (v,s.h.e id ob)->s'=⟨s.T.c o.dst v,s.h.e id ob⟩->SC P call ops start k o s s'
theorem QU{P:Program}{call:AY}{ops:Array Oper}{o:Oper}{s s':St}(b:FT ops s.T o=true)(h:HK P call ops o s=some s'):∃v a,A_ P call s.T s.h o.op=some (v,a)/\s'=⟨s.T.c o.dst v,a⟩:=by unfold HK at h;grind
theorem Lt{P:Program}{call:AY}(z:∀f C h v j,call f C h=some (v,j)->E_ h j){ops:Array Oper}{b k:Nat}{o:Oper}{s s':St}(h:UP P call ops b k o s=some s'):SC P call ops b k o s s':=by
 unfold UP at h;split at h
 .rename_i g;cases e:AB o.op with
  |pure=>
   simp only[e]at h;have M:∀(H:∀c,o.op=.call c->∀r,c.args.toList.map (ev s.T)≠[.map r]),HK P call ops o s=some s'->SC P call ops b k o s s':=by
    intro H h;obtain⟨v,j,d,rfl⟩:=QU g h;obtain⟨rfl,_⟩:=qX e H d;exact .pure v g e H d rfl
   grind|read a=>
   simp only[e]at h;by_cases m:(RN ops k&&!ahead b (DP (ev s.T a)))=true;.grind
   .rw[ad m]at h;obtain⟨v,j,d,rfl⟩:=QU g h;obtain⟨rfl,_⟩:=vC e d;refine .read v a g e (fun G A i=>?_) d rfl;rw[G,i]at m;simpa[ahead]using m|new=>
   simp only[e]at h;obtain⟨v,j,d,rfl⟩:=QU g h;obtain⟨B,I,rfl,_⟩:=zO e d;exact .new v B g e I d rfl|act=>
   simp only[e]at h;split at h
   .rename_i G;split at h
    .rename_i N q;cases h;obtain⟨v,j,d,rfl⟩:=QU (s:=⟨s.T,s.h.f (max s.h.b b)⟩) g q;exact .act v j (max s.h.b b) g e (by omega) (fun _=>by omega) d rfl
    .unfold lO at h;split at h
     .rename_i K;simp only[ah]at K;split at h
      .rename_i N q;cases h;obtain⟨v,j,d,rfl⟩:=QU (s:=⟨s.T,OW ((J0 ops k).filterMap fun x=>DP (ev s.T x)) s.h⟩) g q;refine .actF v j _ g e K.1 rfl (fun A i=>?_) d rfl;grind
      .cases h
     .cases h
   .rename_i G;obtain⟨v,j,d,rfl⟩:=QU g h;refine .act v j s.h.b g e (af _) (fun J=>absurd J G) d ?_;have:=(V7 z e d).c;obtain⟨n,f,l⟩:=j;simp only at this;subst this;rfl|store=>
   simp only[e]at h;split at h
   .rename_i t a x D;split at h
    .rename_i u;obtain⟨v,j,d,rfl⟩:=QU g h;obtain⟨w,A,B,p,i,rfl,q,E,_⟩:=cF e d;have F:w=a:=by grind
     subst F;refine .store v w A B g e i (fun y L=>?_) q E p d rfl;grind
    .cases h
   .rename_i t a y x D;split at h
    .rename_i u;obtain⟨v,j,d,rfl⟩:=QU g h;obtain⟨w,A,B,p,i,rfl,q,E,_⟩:=cF e d;have F:w=a:=by grind
     subst F;refine .store v w A B g e i (fun y L=>?_) q E p d rfl;grind
    .cases h
   .rename_i t a y x D;split at h
    .rename_i u;obtain⟨v,j,d,rfl⟩:=QU g h;obtain⟨w,A,B,p,i,rfl,q,E,_⟩:=cF e d;have F:w=a:=by grind
     subst F;refine .store v w A B g e i (fun y L=>?_) q E p d rfl;grind
    .cases h
   .cases h
 .rename_i g;cases h;exact .off (by grind) rfl
def EB(b:B8)(m:Nat):B8:=fun a=>if a<m then b a else none
theorem RS{a:B8}{m id:Nat}{L:Loc}(h:EB a m id=some L):id<m/\a id=some L:=by unfold EB at h;grind
theorem L9{a:B8}{m id:Nat}(h:id<m:=by omega):EB a m id=a id:=by unfold EB;grind
theorem cM{a:B8}{m b:Nat}(h:m<=b:=by omega):∀i L,EB a m i=some L->EB a b i=some L:=fun i L c=>by obtain⟨e,d⟩:=RS c;rw[L9];exact d
theorem k7{b a:B8}(c:∀i L,b i=some L->a i=some L)(m:Nat):∀i L,EB b m i=some L->EB a m i=some L:=fun i L d=>by obtain⟨e,f⟩:=RS d;rw[L9 e];grind
def GK(m f:Nat):AA:=⟨m,f,.leaf⟩
theorem R6(m f i:Nat):(GK m f).c i=.dead:=by unfold AA.c GK;simp only;split<;>rfl
theorem oN(m f:Nat):(GK m f).g:=rfl
section
variable {P:Program} {ρ:B8} {W:World}
theorem wS{m f:Nat}(b:∀i,m<=i->ρ i=none)(c:∀g,g<P.globals.size->∃L,ρ g=some L/\L.b=g/\L.d=0):CV P ρ (GK m f) W:=⟨oN m f,b,c,fun i=>by rw[R6];trivial,fun i j L d a=>by rw[R6]at a;exact a.elim⟩
theorem YM{m f id i:Nat}{o:BO}(a:id<m):((GK m f).e id o).c i=if id=i then o else .dead:=by
 by_cases e:id=i;.subst e;rw[ag rfl,BE (oN m f) a]
 .rw[ad e,AP (h:=GK m f) a e,R6]
theorem Ax{m f id:Nat}{o:BO}(a:id<m)(k:JB P ρ W id o)(d:∀i,m<=i->ρ i=none)(e:∀g,g<P.globals.size->∃L,ρ g=some L/\L.b=g/\L.d=0):CV P ρ ((GK m f).e id o) W:=⟨XR (oN m f),d,e,fun i=>by
  rw[YM a];split;.grind
  .trivial,fun i j L l b c h _ _=>by
  rw[YM a]at b c;split at b
  .split at c;.omega
   .exact c.elim
  .exact b.elim⟩
structure Gr (W W':World):Prop where
 f:W'.os=W.os
 d:W'.tape=W.tape
 a:W'.output=W.output
 c:W.heap.size<=W'.heap.size
 e:∀ b,b<W.heap.size->W'.heap[b]?=W.heap[b]?
theorem JB.c{W':World}{i:Nat}{o:BO}(c:Gr W W')(h:JB P ρ W i o):JB P ρ W' i o:=h.a (fun _ _ h=>h) fun L d e=>by obtain⟨f,b,a⟩:=h.b e;rw[d]at b;cases b;exact c.e _ a
theorem CV.g{h:AA}{W':World}(b:Gr W W')(a:CV P ρ h W):CV P ρ h W':=⟨a.f,a.d,a.b,fun i=>(a.a i).c b,a.c⟩
theorem Nx.h{d:B8}{h h':AA}{W' e:World}(c:Gr W' e)(a:Nx P ρ h W d h' W'):Nx P ρ h W d h' e:=⟨a.e,a.f,a.b.g c,⟨c.f.trans a.c.f,c.d.trans a.c.d,c.a.trans a.c.a,dj a.c.c c.c,fun b g f=>(c.e b (cf g a.c.c)).trans (a.c.e b g f)⟩,a.o,a.g,a.m,a.n,a.k,a.l⟩
theorem Fr.g{h:AA}{W':World}(a:Fr ρ h W W')(c:∀i,¬wr (h.c i)):Gr W W':=⟨a.f,a.d,a.a,a.c,fun b d=>a.e b d fun i _ e=>absurd e (c i)⟩
theorem CV.h{h:AA}(a:CV P ρ h W)(f:Nat):CV P ρ (h.f f) W:=⟨a.f,a.d,a.b,a.a,a.c⟩
theorem dY{h:AA}{id i:Nat}(hi:id<h.a):(LS h id).c i=if id=i then XJ (h.c i)else h.c i:=by
 unfold LS;by_cases e:id=i
 .subst e;rw[ag rfl,BE rfl hi]
 .rw[ad e,AP hi e]
theorem ma{o:BO}(a:OX o=true):¬wr (XJ o):=by cases o<;>simp_all[XJ,OX,wr]
theorem Py{o:BO}:live (XJ o)↔live o:=by cases o<;>simp[XJ,live]
theorem aL{h:AA}{id i:Nat}(hi:id<h.a)(b:OX (h.c id)=true)(a:wr ((LS h id).c i)):wr (h.c i)/\i≠id:=by
 rw[dY hi]at a;split at a
 .rename_i e;subst e;exact absurd a (ma b)
 grind
theorem Ij{h:AA}{id:Nat}(f:CV P ρ h W)(hi:id<h.a)(l:OX (h.c id)=true):CV P ρ (LS h id) W:=by
 refine⟨XR f.f,f.d,f.b,fun i=>?_,fun i j L p q k m r s=>?_⟩
 .rw[dY hi];split
  .rename_i e;subst e;have:=f.a id;cases o:h.c id with
   |row w x g y=>
    rw[o]at this;obtain⟨L,t,n,u,a,b,c,d⟩:=this;exact⟨L,t,n,u,a,b,c,fun h=>by cases h⟩|dead=>trivial|map z=>rw[o]at l;cases l
  .exact f.a i
 .obtain⟨v,_⟩:=aL hi l q;refine f.c i j L p v ?_ m r s;rw[dY hi]at k;split at k;.exact Py.1 k
  .exact k
theorem md{h h1:AA}{id:Nat}{n:B8}{W':World}(s:CV P ρ h W)(hi:id<h.a)(v:OX (h.c id)=true)(f:Nx P ρ (LS h id) W n h1 W'):Nx P ρ h W n (h1.e id (h.c id)) W':=by
 have Z:h.a<=h1.a:=f.o;have x:id<h1.a:=by omega
 have D:live (h.c id):=by cases Q:h.c id with|row cs ty g ro=>trivial|map es=>trivial|dead=>rw[Q]at v;cases v
 obtain⟨L,w,E⟩:=(s.a id).b D;have F:W'.heap[L.b]?=W.heap[L.b]?:=f.c.e _ E fun i l m _ a=>by
  obtain⟨t,u⟩:=aL hi v m;exact s.c i id l L t D u a w
 have o:∀i,(h1.e id (h.c id)).c i=if id=i then h.c i else h1.c i:=fun i=>by
  by_cases e:id=i
  .subst e;rw[ag rfl,BE rfl x]
  .rw[ad e,AP x e]
 have M:=f.e _ _ w;have y:∀i,i<h.a->wr (h1.c i)->wr (h.c i)/\i≠id:=fun i c m=>aL hi v (f.n i c m);have z:∀i,i<h.a->live (h1.c i)->live (h.c i):=fun i c d=>by
  have:=f.k i c d;rw[dY hi]at this;grind
 have A:∀i l,h.a<=i->live (h1.c i)->n i=some l->W.heap.size<=l.b\/∃j r,wr (h.c j)/\j≠id/\h.b<=j/\ρ j=some r/\r.b=l.b:=fun i l c d a=>by
  rcases f.l i l c d a with N|⟨j,r,t,u,G,B⟩;.omega
  .obtain⟨C,R⟩:=aL hi v t;exact .inr ⟨j,r,C,R,u,G,B⟩
 -- no other live object lies where it lies
 have S:∀j l,j≠id->live (h1.c j)->n j=some l->wr (h.c id)->L.b≠l.b:=fun j l p d a m=>by
  rcases ar j h.a with q|q
  .rw[f.f j q]at a;exact s.c id j L l m (z j q d) (bc p) w a
  .rcases A j l q d a with N|⟨k,r,t,u,G,B,C⟩;.omega
   .rw[<-C];exact s.c id k L r m t.a (bc u) w B
 have O:∀i l,i≠id->wr (h1.c i)->n i=some l->l.b≠L.b:=fun i l p m a=>by
  rcases ar i h.a with q|q
  .rw[f.f i q]at a;exact s.c i id l L (y i q m).1 D p a w
  .rcases A i l q m.a a with N|⟨k,r,t,u,G,B,C⟩;.omega
   .rw[<-C];exact s.c k id r L t D u B w
 refine⟨f.e,f.f,⟨XR f.b.f,fun i c=>f.b.d i c,f.b.b,fun i=>?_,fun i j T U m d p H I=>?_⟩,⟨f.c.f,f.c.d,f.c.a,f.c.c,fun b V J=>f.c.e b V fun i l m K a=>J i l (aL hi v m).1 K a⟩,f.o,f.g,fun i c K=>?_,fun i c m=>?_,fun i c d=>?_,fun i l c d a=>?_⟩
 .rw[o];split
  .rename_i e;subst e;refine(s.a id).a f.e fun l a _=>?_;grind
  .exact f.b.a i
 .rw[o]at m d;by_cases X:id=i;.grind
  .rw[ad X]at m;by_cases Y:id=j;.grind
   .rw[ad Y]at d;exact f.b.c i j T U m d p H I
 .rw[o];split;.rfl
  .rename_i e;rw[f.m i c K,dY hi,ad e]
 .grind
 .grind
 grind
theorem Mh:∀(l:List Nat){h:AA}(c:CV P ρ h W)(a:∀b∈l,b<h.a/\OX (h.c b)=true),CV P ρ (OW l h) W|[],h,c,_=>c|b::l,h,c,a=>Mh l (Ij c (a b (.head _)).1 (a b (.head _)).2) fun k d=>⟨(a k (.tail _ d)).1,wF (a b (.head _)).1 (a k (.tail _ d)).2⟩
theorem Od:∀(l:List Nat){h h1:AA}{a:B8}{W':World}(d:CV P ρ h W)(b:∀c∈l,c<h.a/\OX (h.c c)=true)(e:Nx P ρ (OW l h) W a h1 W'),Nx P ρ h W a (MM h l h1) W'|[],h,h1,a,W',d,_,e=>e|c::l,h,h1,a,W',d,b,e=>md d (b c (.head _)).1 (b c (.head _)).2 (Od l (Ij d (b c (.head _)).1 (b c (.head _)).2) (fun k f=>⟨(b k (.tail _ f)).1,wF (b c (.head _)).1 (b k (.tail _ f)).2⟩) e)
theorem Pk:∀(l:List Nat){h:AA}{i:Nat}(b:∀a∈l,a<h.a/\OX (h.c a)=true)(c:wr ((OW l h).c i)),wr (h.c i)/\i∉l
 |[],h,i,_,c=>⟨c,by simp⟩|a::l,h,i,b,c=>by obtain⟨e,f⟩:=Pk l (h:=LS h a) (fun k d=>⟨(b k (.tail _ d)).1,wF (b a (.head _)).1 (b k (.tail _ d)).2⟩) c;obtain⟨g,j⟩:=aL (b a (.head _)).1 (b a (.head _)).2 e;grind
theorem Nx.j{d:B8}{h h':AA}{W':World}{f:Nat}(e:h.b<=f)(a:Nx P ρ (h.f f) W d h' W'):Nx P ρ h W d (h'.f h.b) W':=⟨a.e,a.f,a.b.h _,⟨a.c.f,a.c.d,a.c.a,a.c.c,fun b n g=>a.c.e b n fun i L k c l=>g i L k (dj e c) l⟩,a.o,rfl,fun i m c=>a.m i m (cf c e),a.n,a.k,fun i L m k l=>(a.l i L m k l).imp id fun⟨j,o,p,q,r,s⟩=>⟨j,o,p,dj e q,r,s⟩⟩
theorem Nx.i{d:B8}{h h':AA}{W':World}{o:BO}{L:Loc}(I:CV P ρ h W)(c:Nx P ρ h W (EB d h'.a) h' W')(z:d h'.a=some L)(J:JB P (EB d (h'.a+1)) W' h'.a o)(K:W.heap.size<=L.b)(n:∀s l,s<h'.a->d s=some l->live (h'.c s)->l.b≠L.b):Nx P ρ h W (EB d (h'.a+1)) (h'.d o) W':=by
 have a:∀i,(h'.d o).c i=if i=h'.a then o else h'.c i:=fun i=>by
  by_cases e:i=h'.a;.subst e;rw[ag rfl,BJ]
  .rw[ad e,UF e]
 have p:∀i l,EB d h'.a i=some l->EB d (h'.a+1) i=some l:=cM (jp _);refine⟨fun i l f=>p _ _ (c.e i l f),fun i f=>?_,⟨vV c.b.f,?_,?_,?_,?_⟩,c.c,dj c.o (by simp[AA.d]),c.g,?_,?_,?_,?_⟩
 .have q:=c.o;rw[<-c.f i f,L9,L9]
 .intro i f;have A:h'.a+1<=i:=f;unfold EB;grind
 .intro g B;obtain⟨l,q,w,M⟩:=c.b.b g B;grind
 .intro i;rw[a];split;.grind
  .exact(c.b.a i).a p fun _ _ _=>rfl
 .intro i j x C k t u f D;rw[a]at k t;obtain⟨E,r⟩:=RS f;obtain⟨F,m⟩:=RS D;by_cases G:i=h'.a;.grind
  .rw[ad G]at k;by_cases y:j=h'.a
   .subst y;rw[z]at m;cases m;exact n i x (by omega) r k.a
   .rw[ad y]at t;exact c.b.c i j x C k t u (by rw[L9];exact r) (by rw[L9];exact m)
 .intro i f H;have q:=c.o;rw[a,ad (by omega)];exact c.m i f H
 .intro i f k;have q:=c.o;rw[a,ad (by omega)]at k;exact c.n i f k
 .intro i f k;have q:=c.o;rw[a,ad (by omega)]at k;exact c.k i f k
 .intro i l f k v;obtain⟨q,w⟩:=RS v;rw[a]at k;by_cases e:i=h'.a;.grind
  .rw[ad e]at k;exact c.l i l f k (by rw[L9];exact w)
end
structure G8 (P:Program) (call:AY) (ops:Array Oper) (S:Nat->St):Prop where
 n:∀ f args h v h',call f args h=some (v,h')->E_ h h'
 l:EN P call
 c:jN ops
 b:∀ k o,ops[k]?=some o->SC P call ops (S 0).h.a k o (S k) (S (k+1))
section
variable {P:Program} {call:AY} {ops:Array Oper} {S:Nat->St}
def WW(ops:Array Oper)(S:Nat->St)(k:Nat):Prop:=∃o,ops[k]?=some o/\FT ops (S k).T o=true/\(GJ o=true\/HB o=true)
def NN(ops:Array Oper)(S:Nat->St)(k:Nat):Prop:=∃o,ops[k]?=some o/\FT ops (S k).T o=true/\NM o=true
theorem G8.m(b:G8 P call ops S){k:Nat}{o:Oper}(l:ops[k]?=some o):E_ (S k).h (S (k+1)).h:=by cases b.b k o l with
 |off _ e=>rw[e];exact .a _|pure v _ _ _ _ e=>rw[e];exact .a _|read v a _ _ _ _ e=>rw[e];exact .a _|new v m _ _ _ _ e=>rw[e];exact .f _ _|act v c f _ d n _ g e=>rw[e];exact E_.h n (V7 b.n d g)|actF v c i _ d _ _ p g e=>rw[e];exact yU i (fun j h=>(p j h).1) (V7 b.n d g)|store v a j m _ _ _ _ c q _ _ e=>rw[e];exact .g c q
theorem G8.a(c:G8 P call ops S){i j:Nat}(d:i<=j)(f:j<=ops.size):E_ (S i).h (S j).h:=by induction j with
 | zero => have:i=0:=by omega
           subst this;exact .a _|succ j e=>
  rcases ar j i with b|b
  .have:i=j+1:=by omega
   subst this;exact .a _
  .have a:j<ops.size:=by omega
   exact(e b (by omega)).b (c.m (fi a))
theorem G8.o(c:G8 P call ops S){k:Nat}{o:Oper}(d:ops[k]?=some o):∃v,(S (k+1)).T=(S k).T.c o.dst v:=by cases c.b k o d with
 |off _ e=>grind|pure v _ _ _ _ e=>grind|read v a _ _ _ _ e=>grind|new v g _ _ _ _ e=>grind|act v b f _ h l _ i e=>grind|actF v b j _ h _ _ m i e=>grind|store v a n g _ _ _ _ b p _ _ e=>grind
theorem G8.g(e:G8 P call ops S){t i j:Nat}(f:i<=j)(h:j<=ops.size)(a:∀m o,i<=m->m<j->ops[m]?=some o->o.dst≠some t):(S j).T.a t=(S i).T.a t:=by induction j with|zero=>grind|succ j k=>
  rcases ar j i with c|c;.grind
  .have b:j<ops.size:=by omega
   have d:=fi b;obtain⟨v,g⟩:=e.o d;rw[g,Tr.b,ad (a j _ c (by omega) d)];grind
theorem G8.j(j:G8 P call ops S){k id:Nat}(l:k<ops.size)(g:id<(S k).h.a)(i:¬WW ops S k):(S (k+1)).h.c id=(S k).h.c id:=by
 have d:=fi l;cases j.b k _ d with
 |off _ e=>rw[e]|pure v _ _ _ _ e=>rw[e]|read v a _ _ _ _ e=>rw[e]|new v m _ _ _ _ e=>rw[e];exact AV g|act v n f b c _ _ _ _=>exact absurd ⟨_,d,b,.inl (by simp[GJ,c])⟩ i|actF v n o b c _ _ _ _ _=>exact absurd ⟨_,d,b,.inl (by simp[GJ,c])⟩ i|store v a p m b c _ _ _ _ _ _ _=>exact absurd ⟨_,d,b,.inr (by simp[HB,c])⟩ i
theorem G8.h(d:G8 P call ops S){i j id:Nat}(e:i<=j)(k:j<=ops.size)(a:id<(S i).h.a)(f:∀w,i<=w->w<j->WW ops S w->(S (w+1)).h.c id=(S w).h.c id):(S j).h.c id=(S i).h.c id:=by induction j with
 |zero=>grind|succ j g=>
  rcases ar j i with b|b;.grind
  .rw[<-g b (by omega) fun w c l=>f w c (by omega)];by_cases c:WW ops S j;.grind
   .exact d.j (by omega) (cf a (d.a b (by omega)).d) c
theorem G8.e(l:G8 P call ops S){k:Nat}(m:NN ops S k):k<ops.size/\(S (k+1)).h.a=(S k).h.a+1/\∃c,wr c/\(S (k+1)).h=(S k).h.d c/\(S (k+1)).h.c (S k).h.a=c:=by
 obtain⟨o,i,q,d⟩:=m;have n:=(gl.1 i).1;refine⟨n,?_⟩;cases l.b k o i with
 |off h _=>grind|pure v _ b _ _ e=>simp[NM,b]at d|read v a _ b _ _ e=>simp[NM,b]at d|new v c _ _ g _ e=>rw[e];exact⟨rfl,c,g,rfl,BJ⟩|act v j f _ b _ _ _ e=>simp[NM,b]at d|actF v j p _ b _ _ _ _ e=>simp[NM,b]at d|store v a r c _ b _ _ j s _ _ e=>simp[NM,b]at d
theorem G8.d(a:G8 P call ops S){i k:Nat}(b:NN ops S i)(c:i<k)(d:k<=ops.size):(S i).h.a<(S k).h.a:=by obtain⟨e,f,_⟩:=a.e b;have:=(a.a (i:=i+1) (j:=k) (by omega) d).d;omega
theorem G8.i(a:G8 P call ops S){i k:Nat}(hi:NN ops S i)(c:NN ops S k)(b:i≠k):(S i).h.a≠(S k).h.a:=by
 have d:=(a.e hi).1;have e:=(a.e c).1;rcases jh b with h|h;.have:=a.d hi h (by omega);omega
 .have:=a.d c h (by omega);omega
end
structure GP (P:Program) (ops:Array Oper) (S:Nat->St) (n:Nat) (ρ0:B8) (W0:World) (D:List Deferred) (listed:Array Bool) (A:Act) (W:World) (ρ:B8) (p:Nat):Prop where
 c:listed.size=ops.size
 l:W5 ops listed
 w:p<=ops.size
 B:∀ i,i<p->(WW ops S i\/NN ops S i)->listed.getD i false=true
 r:∀ i,p<=i->WW ops S i->¬ listed.getD i false=true
 q:Nx P ρ0 (S 0).h W0 (EB ρ (S p).h.a) (S p).h W
 k:∀ id L,(S p).h.a<=id->ρ id=some L->∃ i,p<=i/\NN ops S i/\listed.getD i false=true/\id=(S i).h.a
 d:∀ i,p<=i->NN ops S i->listed.getD i false=true->∃ Lc,ρ (S i).h.a=some Lc/\JB P (EB ρ ((S i).h.a+1)) W (S i).h.a ((S (i+1)).h.c (S i).h.a)/\W0.heap.size<=Lc.b/\Lc.b<W.heap.size
 e:∀ i,p<=i->NN ops S i->listed.getD i false=true->∀ Lc,ρ (S i).h.a=some Lc->∀ id L',id≠(S i).h.a->ρ id=some L'->(id<(S p).h.a->live ((S p).h.c id))->L'.b≠Lc.b
 g:∀ j,j<p->¬ listed.getD j false=true->∀ o a id,ops[j]?=some o->FT ops (S j).T o=true->AB o.op=.read a->DP (ev (S j).T a)=some id->JB P (EB ρ (S j).h.a) W id ((S j).h.c id)
 G:∀ t,∃ m,m<=ops.size/\(m=0\/∃ o,ops[m-1]?=some o/\o.dst=some t/\listed.getD (m-1) false=true)/\(∀ i o,ops[i]?=some o->o.dst=some t->(listed.getD i false=true↔i<m)) /\
   AR (EB ρ (S m).h.a) ((S m).T.a t) (A.tmps.getD t undef)
 v:A.tmps.size=n
 z:A.defers=D
section
variable {P:Program} {call:AY} {ops:Array Oper} {S:Nat->St} {n:Nat} {ρ0:B8} {W0:World} {D:List Deferred} {listed:Array Bool} {A:Act} {W:World} {ρ:B8} {p:Nat}
theorem KJ{listed:Array Bool}{j i:Nat}(a:j<listed.size):(listed.setIfInBounds j true).getD i false=true↔(i=j\/listed.getD i false=true):=by
 by_cases e:j=i;.simp_all
 .rw[getD_set_ne false e];grind
theorem GP.b(c:G8 P call ops S)(k:GP P ops S n ρ0 W0 D listed A W ρ p){j:Nat}(l:j∈Region.ready .any ops listed){b:Oper}(d:ops[j]?=some b){t:Tmp}(m:t∈b.looksAt ops\/b.dst=some t){i:Nat}{e:Oper}(f:ops[i]?=some e)(o:e.dst=some t)(g:i≠j):(listed.getD i false=true↔i<j):=by
 have h:¬listed.getD j false=true:=by
  have:=(mem_ready.1 l).1;grind
 rcases c.c.f j i b e t d f g o m with a|a
 .have s:=VT k.l l a;have q:=bF c.c j i a;grind
 .have q:=bF c.c i j a;constructor;.intro r;exact absurd (k.l.b i j r a) h
  omega
theorem GP.a(b:GP P ops S n ρ0 W0 D listed A W ρ p){j:Nat}(a:j∈Region.ready .any ops listed):¬listed.getD j false=true/\j<ops.size:=by obtain⟨c,o,d,_⟩:=mem_ready.1 a;grind
theorem GP.m(c:G8 P call ops S)(d:GP P ops S n ρ0 W0 D listed A W ρ p){j:Nat}(e:j∈Region.ready .any ops listed){q:Oper}(a:ops[j]?=some q){t:Tmp}(r:t∈q.looksAt ops):AR (EB ρ (S j).h.a) ((S j).T.a t) (A.tmps.getD t undef):=by
 obtain⟨u,v⟩:=d.a e;obtain⟨m,z,f,w,x⟩:=d.G t;have b:m<=j:=by
  rcases f with rfl|⟨o,g,k,s⟩;.omega
  .have l:m-1≠j:=by grind
   have:=(d.b c e a (.inl r) g k l).1 s;omega
 rw[c.g b (by omega) fun i o B y g k=>?_];.exact x.a (cM (c.a b (by omega)).d)
 .have s:=(d.b c e a (.inl r) g k (by omega)).2 y;grind
theorem GP.o(c:G8 P call ops S)(a:CV P ρ0 (S 0).h W0)(d:GP P ops S n ρ0 W0 D listed A W ρ p){j:Nat}(e:j<=ops.size):∀g,g<P.globals.size->∃L,EB ρ (S j).h.a g=some L/\L.b=g/\L.d=0:=by
 intro g b;obtain⟨L,f,k,l⟩:=d.q.b.b g b;obtain⟨q,m,_,_⟩:=a.b g b;have o:=a.i m;have:=(c.a (i:=0) (j:=j) (by omega) e).d;exact⟨L,by rw[L9];exact(RS f).2,k,l⟩
theorem GP.i(k:G8 P call ops S)(c:CV P ρ0 (S 0).h W0)(d:GP P ops S n ρ0 W0 D listed A W ρ p){j:Nat}(l:j∈Region.ready .any ops listed){e:Oper}(i:ops[j]?=some e)(b:LK P n e=true):∀x∈e.op.operands,AR (EB ρ (S j).h.a) (ev (S j).T x) (A.eval x):=by
 intro x m;have o:=(d.a l).2;simp only[LK,ah]at b;have a:=bm.1 b.1 x (by simpa using m);cases x with
 |tmp t=>refine d.m k l i ?_;unfold Oper.looksAt;grind|const v=>exact NZ a|global g=>
  simp only[YL,am]at a;obtain⟨L,q,r,s⟩:=d.o k c (j:=j) (by omega) g a;have:=AR.ptr (ρ:=EB ρ (S j).h.a) (id:=g) (off:=0) q;simp only[r,s,ab]at this;exact this|func f=>exact .func .nil .nil
theorem qA{T:Tr}{o:Oper}{ρ:B8}(h:∀t,t∈o.looksAt ops->AR ρ (T.a t) (A.tmps.getD t undef)):Region.wanted o (yielded ops A.tmps)=FT ops T o:=by
 unfold Region.wanted FT;cases i:o.guard with
 |none=>rfl|some g=>
  obtain⟨j,w⟩:=g;simp only;unfold yielded;cases k:(ops[j]?).bind (·.dst)with
  |none=>rfl|some d=>
   have e:d∈o.looksAt ops:=by
    unfold Oper.looksAt;grind
   have a:=h d e;simp only[cp];rw[ed]at a;cases f:A.tmps[d]? with
   |none=>
    rw[f]at a;simp only[Option.getD_none]at a;cases c:T.a d with
    |bool b=>rw[c]at a;have:=UH a;simp[undef]at this|_=>rfl
   |some V=>rw[f]at a;simp only[Option.getD_some]at a;cases c:T.a d with|bool b=>rw[c]at a;have:=UH a;grind|_=>rw[c]at a;cases V with|bool b=>cases a|_=>rfl
end
section
variable {P:Program} {call:AY} {ops:Array Oper} {S:Nat->St} {n:Nat} {ρ0:B8} {W0:World} {D:List Deferred} {listed:Array Bool} {A:Act} {W:World} {ρ:B8} {p:Nat}
theorem GP.y(z:G8 P call ops S)(f:GP P ops S n ρ0 W0 D listed A W ρ p){j:Nat}(x:j∈Region.ready .any ops listed){a:Oper}(g:ops[j]?=some a)(l:LK P n a=true){d:B8}(q:∀i L,ρ i=some L->d i=some L){v V:Value}(B:(S (j+1)).T=(S j).T.c a.dst v)(C:AR (EB d (S (j+1)).h.a) v V):∀t,∃m,m<=ops.size/\(m=0\/∃o,ops[m-1]?=some o/\o.dst=some t/\(listed.setIfInBounds j true).getD (m-1) false=true)/\(∀i o,ops[i]?=some o->o.dst=some t->((listed.setIfInBounds j true).getD i false=true↔i<m))/\AR (EB d (S m).h.a) ((S m).T.a t) ((A.put a.dst V).tmps.getD t undef):=by
 intro t;obtain⟨E,r⟩:=f.a x;have b:j<listed.size:=by rw[f.c];exact r
 have c:SZ n a.dst=true:=by simp only[LK,ah]at l;grind
 by_cases e:a.dst=some t
 .refine⟨j+1,by omega,.inr ⟨a,g,e,(KJ b).2 (.inl rfl)⟩,fun i F k y=>?_,?_⟩
  .rw[KJ b];by_cases s:i=j;.omega
   .have:=f.b z x g (.inr e) k y s;grind
  .rw[B,Tr.b,ag e,uQ A a.dst V n f.v c,ag e];exact C
 .obtain⟨m,G,u,H,w⟩:=f.G t;refine⟨m,G,u.imp id fun⟨o,I,J,K⟩=>⟨o,I,J,(KJ b).2 (.inr K)⟩,fun i F k y=>?_,?_⟩
  .rw[KJ b];grind
  .rw[uQ A a.dst V n f.v c,ad e];exact w.a (k7 q _)
theorem GP.f(F:G8 P call ops S)(b:GP P ops S n ρ0 W0 D listed A W ρ p){j:Nat}(u:j∈Region.ready .any ops listed){s:Oper}(w:ops[j]?=some s)(x:LK P n s=true)(G:¬WW ops S j)(y:¬NN ops S j){W':World}(t:Gr W W'){v V:Value}(H:(S (j+1)).T=(S j).T.c s.dst v)(I:AR (EB ρ (S (j+1)).h.a) v V):GP P ops S n ρ0 W0 D (listed.setIfInBounds j true) (A.put s.dst V) W' ρ p:=by
 obtain⟨J,z⟩:=b.a u;have c:j<listed.size:=by rw[b.c];exact z
 have g:∀i,NN ops S i->(listed.setIfInBounds j true).getD i false=true->listed.getD i false=true:=fun i k d=>((KJ c).1 d).resolve_left fun e=>y (e▸k);refine⟨by simp[b.c],b.l.a u,b.w,?_,?_,b.q.h t,?_,?_,?_,?_,b.y F u w x (fun _ _ h=>h) H I,by rw[QG];exact b.v,by rw[RO];exact b.z⟩;.intro i f B;exact(KJ c).2 (.inr (b.B i f B))
 .intro i f K d;rcases(KJ c).1 d with e|d;.grind
  .exact b.r i f K d
 .intro C L E M;obtain⟨i,l,m,q,r⟩:=b.k C L E M;exact⟨i,l,m,(KJ c).2 (.inr q),r⟩
 .intro i f k d;obtain⟨N,l,m,q,r⟩:=b.d i f k (g i k d);exact⟨N,l,m.c t,q,cf r t.c⟩
 .intro i f k d;exact b.e i f k (g i k d)
 .intro i f d o a C l m q r;exact(b.g i f (fun h=>d ((KJ c).2 (.inr h))) o a C l m q r).c t
theorem GP.t(F:G8 P call ops S)(c:GP P ops S n ρ0 W0 D listed A W ρ p){j:Nat}(U:j∈Region.ready .any ops listed){M:Oper}(X:ops[j]?=some M)(Y:LK P n M=true)(g1:¬WW ops S j)(N:NN ops S j){W':World}(O:Gr W W'){L:Loc}(Z:W.heap.size<=L.b)(G:L.b<W'.heap.size)(ho:JB P (EB (F9 ρ (S j).h.a L) ((S j).h.a+1)) W' (S j).h.a ((S (j+1)).h.c (S j).h.a)){v V:Value}(hT:(S (j+1)).T=(S j).T.c M.dst v)(hv:AR (EB (F9 ρ (S j).h.a L) (S (j+1)).h.a) v V):GP P ops S n ρ0 W0 D (listed.setIfInBounds j true) (A.put M.dst V) W' (F9 ρ (S j).h.a L) p:=by
 obtain⟨h0,h6⟩:=c.a U;have f:j<listed.size:=by rw[c.c];exact h6
 have H:p<=j:=by
  rcases ar j p with h|h;.exact absurd (c.B j h (.inr N)) h0
  .exact h
 have I:=(F.a H (by omega)).d;have h7:ρ (S j).h.a=none:=by cases h:ρ (S j).h.a with|none=>rfl|some g=>
   obtain⟨i,r,s,z,t⟩:=c.k _ _ I h;have:i≠j:=by grind
   exact absurd t.symm (F.i s N this)
 have C:∀i g,ρ i=some g->F9 ρ (S j).h.a L i=some g:=fun i g k=>by
  rw[MK];.exact k
  grind
 have B:∀m,m<=(S j).h.a->EB (F9 ρ (S j).h.a L) m=EB ρ m:=fun m hm=>by
  funext d;unfold EB;split;.rw[MK (by omega)]
  .rfl
 have g0:∀d g,ρ d=some g->(d<(S p).h.a->live ((S p).h.c d))->g.b<W.heap.size:=by
  intro d g u E;rcases ar d (S p).h.a with h|h
  .obtain⟨L2,Q,hb⟩:=(c.q.b.a d).b (E h);rw[L9 h,u]at Q;grind
  .obtain⟨i,r,s,z,rfl⟩:=c.k d g h u;obtain⟨R,t,_,_,h5⟩:=c.d i r s z;grind
 refine⟨by simp[c.c],c.l.a U,c.w,?_,?_,?_,?_,?_,?_,?_,c.y F U X Y C hT hv,by rw[QG];exact c.v,by rw[RO];exact c.z⟩;.intro i k h8;exact(KJ f).2 (.inr (c.B i k h8))
 .intro i k hw w;rcases(KJ f).1 w with e|w;.grind
  .exact c.r i k hw w
 .rw[B _ I];exact c.q.h O
 .intro d g u hL;by_cases e:d=(S j).h.a;.exact⟨j,H,N,(KJ f).2 (.inl rfl),e⟩
  .rw[MK e]at hL;obtain⟨i,r,s,z,t⟩:=c.k d g u hL;exact⟨i,r,s,(KJ f).2 (.inr z),t⟩
 .intro i k l w;by_cases e:i=j;.subst e;exact⟨L,LW _ _ _,ho,dj c.q.c.c Z,G⟩
  .have x:=((KJ f).1 w).resolve_left e;obtain⟨R,r,s,z,t⟩:=c.d i k l x;exact⟨R,C _ _ r,(s.c O).a (k7 C _) fun _ _ _=>rfl,z,cf t O.c⟩
 .intro i k l w R y d g J q E;by_cases e:i=j
  .subst e;rw[LW]at y;cases y;rw[MK J]at q;grind
  .have x:=((KJ f).1 w).resolve_left e;have K:=F.i l N e;rw[MK K]at y;by_cases Q:d=(S j).h.a
   .subst Q;rw[LW]at q;cases q;obtain⟨g2,r,_,_,t⟩:=c.d i k l x;grind
   .rw[MK Q]at q;exact c.e i k l x R y d g J q E
 .intro i k w o a d r s z t;have h9:(S i).h.a<=(S j).h.a:=(F.a (by omega) (by omega)).d;rw[B _ h9];exact(c.g i k (fun h=>w ((KJ f).2 (.inr h))) o a d r s z t).c O
theorem GP.h(s:G8 P call ops S)(t:CV P ρ0 (S 0).h W0)(r:GP P ops S n ρ0 W0 D listed A W ρ p){q:Nat}(L:p<=q)(Z:q<=ops.size)(u:∀i,p<=i->i<q->¬WW ops S i)(F:∀i,p<=i->i<q->NN ops S i->listed.getD i false=true):Nx P ρ0 (S 0).h W0 (EB ρ (S q).h.a) (S q).h W:=by induction q with
 | zero => have:p=0:=by omega
           subst this;exact r.q|succ q M=>
  rcases ar q p with c|c
  .have:p=q+1:=by omega
   subst this;exact r.q
  .have x:=M c (by omega) (fun i k G=>u i k (by omega)) (fun i k G=>F i k (by omega));have l:=fi (show q<ops.size by omega);have d:=u q c (by omega);cases s.b q _ l with
   |off _ e=>grind|pure v _ _ _ _ e=>grind|read v a _ _ _ _ e=>grind|act v c f b g _ _ _ _=>exact absurd ⟨_,l,b,.inl (by simp[GJ,g])⟩ d|actF v c N b g _ _ _ _ _=>exact absurd ⟨_,l,b,.inl (by simp[GJ,g])⟩ d|store v a O H b g _ _ _ _ _ _ _=>exact absurd ⟨_,l,b,.inr (by simp[HB,g])⟩ d|new v H b g Q hs e=>
    have j:NN ops S q:=⟨_,l,b,by simp[NM,g]⟩;have I:=F q c (by omega) j;obtain⟨R,J,m,y,T⟩:=r.d q c j I;have K:=(s.a c (by omega)).d;have z:(S (q+1)).h=(S q).h.d H:=by rw[e]
    have U:(S (q+1)).h.a=(S q).h.a+1:=by rw[z];rfl
    rw[U,z];refine x.i t J ?_ y fun V X Y B C=>?_;.rw[z,BJ]at m;exact m
    .refine r.e q c j I R J V X (by omega) B fun o=>?_;rw[<-s.h c (by omega) o fun w k G E=>absurd E (u w k (by omega))];exact C
end
section
variable {P:Program} {call:AY} {ops:Array Oper} {S:Nat->St} {n:Nat} {ρ0:B8} {W0:World} {D:List Deferred} {listed:Array Bool} {A:Act} {W:World} {ρ:B8} {p:Nat}
theorem tY{o:Oper}{a:Operand}(h:AB o.op=.read a):XD o=true:=by simp[XD,h]
theorem rK{b:Array Nat}{i j:Nat}(a:i≠j)(h1:¬(b.getD i 0).testBit j=true)(c:¬(b.getD j 0).testBit i=true):LY b i j=true:=by simp only[LY,ah,bne_iff_ne,ne_eq,iz];grind
theorem sT{ops:Array Oper}{i:Nat}{o:Oper}(h:ops[i]?=some o):(o,i)∈ops.toList.zipIdx:=by grind
theorem tW{ops:Array Oper}{i j:Nat}{o:Oper}(a:ops[j]?=some o)(h:GJ o=true\/(NM o=true/\j<i))(b:LY (Region.before ops) j i=true):RN ops i=true:=by unfold RN;simp only[List.any_eq_true];refine⟨(o,j),sT a,?_⟩;grind
theorem Gy{ops:Array Oper}{i j:Nat}{o:Oper}(a:ops[i]?=some o)(h:XD o=true)(b:LY (Region.before ops) i j=true):RZ ops j=true:=by unfold RZ;simp only[List.any_eq_true];exact⟨(o,i),sT a,by grind⟩
theorem Jp{ops:Array Oper}{i j:Nat}{o:Oper}{a:Operand}(b:ops[i]?=some o)(h:AB o.op=.read a)(c:i<j)(d:LY (Region.before ops) i j=true):a∈J0 ops j:=by unfold J0;simp only[List.mem_filterMap];exact⟨(o,i),sT b,by grind⟩
theorem G8.f(z:G8 P call ops S){i w:Nat}(N:i≠w){H:Oper}{a:Operand}{id:Nat}(c:ops[i]?=some H)(h5:FT ops (S i).T H=true)(F:AB H.op=.read a)(d:DP (ev (S i).T a)=some id){q:Oper}(r:ops[w]?=some q)(h6:FT ops (S w).T q=true)(I:GJ q=true\/HB q=true)(B:LY (Region.before ops) i w=true):(GJ q=true->(RZ ops w=true/\id<(S 0).h.a)/\(SP ops w=true->∃x∈J0 ops w,DP (ev (S w).T x)=some id))/\(HB q=true->i<w/\∀j,(∀x∈J0 ops w,DP (ev (S w).T x)≠some j)->id≠j)/\(id<(S w).h.a->(S (w+1)).h.c id=(S w).h.c id):=by
 have O:LY (Region.before ops) w i=true:=by
  simp only[LY,ah,bne_iff_ne,ne_eq,iz]at B⊢;grind
 have hw:=(gl.1 r).1;have C:GJ q=true->id<(S 0).h.a:=fun J=>by
  have hl:=tW r (.inl J) O;cases z.b i H c with
  |off h _=>grind|pure v _ b _ _ _=>grind|read v a' _ b Q _ _=>grind|new v R _ b _ _ _=>grind|act v y f _ b _ _ _ _=>grind|actF v y G _ b _ _ _ _ _=>grind|store v a id R _ b _ _ _ _ _ _ _=>grind
 have K:HB q=true->i<w/\∀j,(∀x∈J0 ops w,DP (ev (S w).T x)≠some j)->id≠j:=fun E=>by
  have l:i<w:=by
   rcases jh N with h|h;.exact h
   .have:=z.c.c w i q H r c E (tY F) h;simp only[LY,ah,bne_iff_ne,ne_eq,iz]at B;grind
  refine⟨l,fun j s e=>?_⟩;subst e;have L:=Jp c F l B;refine s a L ?_;cases a with
  |tmp t=>
   have:=z.g (by omega) (by omega) fun m o y M U=>z.c.g w i m q H o t r c U E l F B y M;show DP ((S w).T.a t)=some id;rw[this];exact d|const v=>exact d|global g=>exact d|func f=>exact d
 have u:SP ops w=true->∃x∈J0 ops w,DP (ev (S w).T x)=some id:=fun V=>by
  obtain⟨l,X⟩:=lz V c F B;refine⟨a,Jp c F l B,?_⟩;cases a with
  |tmp t=>
   have:=z.g (by omega) (by omega) fun m o y M U=>X m o t U rfl y M;show DP ((S w).T.a t)=some id;rw[this];exact d|const v=>exact d|global g=>exact d|func f=>exact d
 refine⟨fun J=>⟨⟨Gy c (tY F) B,C J⟩,u⟩,K,fun l=>?_⟩;cases z.b w q r with
 |off h _=>grind|pure v _ b _ _ _=>grind|read v a' _ b Q _ _=>grind|new v R _ b _ _ _=>simp[GJ,HB,b]at I|act v y f _ b hf hl E e=>
  have J:GJ q=true:=by simp[GJ,b]
  have Y:=hl (Gy c (tY F) B);have Z:=(V7 z.n b E).e id l (cf (C J) Y);rw[e];exact Z|actF v y G _ b V h3 hb E e=>
  obtain⟨x,h7,h8⟩:=u V;have hn:=(V7 z.n b E).d;rw[(Gg G _).1]at hn;rw[e];exact Gq G _ _ (fun k Z=>(hb k Z).1) hn id (by grind)|store v a' j R _ b h4 s y M _ _ e=>
  have E:HB q=true:=by simp[HB,b]
  have h0:=(K E).2 j s;rw[e];exact AP y (bc h0)
theorem GP.x(f:G8 P call ops S)(h6:CV P ρ0 (S 0).h W0)(c:GP P ops S n ρ0 W0 D listed A W ρ p){j:Nat}(hj:j∈Region.ready .any ops listed){F:Oper}(I:ops[j]?=some F)(x3:LK P n F=true)(J:FT ops (S j).T F=true)(t:GJ F=true\/HB F=true){C:B8}{W':World}(hN:Nx P (EB ρ (S j).h.a) (S j).h W C (S (j+1)).h W')(g1:∀b L,EB ρ (S j).h.a b=some L->live ((S j).h.c b)->(GJ F=true->(RZ ops j=true/\b<(S 0).h.a)/\(SP ops j=true->∃x∈J0 ops j,DP (ev (S j).T x)=some b))->(HB F=true->∀g2,(∀x∈J0 ops j,DP (ev (S j).T x)≠some g2)->b≠g2)->W'.heap[L.b]?=W.heap[L.b]?){v V:Value}(hT:(S (j+1)).T=(S j).T.c F.dst v)(hv:AR C v V):∃g3,GP P ops S n ρ0 W0 D (listed.setIfInBounds j true) (A.put F.dst V) W' g3 (j+1):=by
 obtain⟨x4,g4⟩:=c.a hj;have q:j<listed.size:=by rw[c.c];exact g4
 have x5:WW ops S j:=⟨F,I,J,t⟩;have h7:p<=j:=by
  rcases ar j p with h|h;.exact absurd (c.B j h (.inl x5)) x4
  .exact h
 have d:∀i,i<j->(WW ops S i\/NN ops S i)->listed.getD i false=true:=by
  rintro i U(⟨oi,h8,_,h⟩|⟨oi,h8,_,h⟩);.exact VT c.l hj (f.c.b j i F oi I h8 t (by grind) U)
  .exact VT c.l hj (f.c.b j i F oi I h8 t (.inr (.inr h)) U)
 have K:=fun i E l u=>c.r i E u (d i l (.inl u));have x6:=c.h f h6 h7 (by omega) K (fun i E l y=>d i l (.inr y));have y1:=(f.a (i:=j) (j:=j+1) (by omega) (by omega)).d;have y5:=(f.a h7 (by omega)).d
 -- nothing is known yet of the numbers that it takes
 have y2:∀b,(S j).h.a<=b->b<(S (j+1)).h.a->ρ b=none:=by intro b E l;cases h:ρ b with|none=>rfl|some L=>
   obtain⟨i,y6,g5,y7,rfl⟩:=c.k b L (by omega) h;have X:i≠j:=by grind
   rcases jh X with z|y8;.have:=f.d g5 z (by omega);omega
   .have h3:=(f.a (i:=j+1) (j:=i) (by omega) (by have:=(f.e g5).1;omega)).d;omega
 let M:B8:=fun b=>if b<(S (j+1)).h.a then C b else ρ b;have g6:∀b,b<(S (j+1)).h.a->M b=C b:=by grind
 have N:∀b,(S (j+1)).h.a<=b->M b=ρ b:=by grind
 have g7:∀b,b<(S j).h.a->C b=ρ b:=fun b h=>by rw[hN.f b h,L9 h]
 have B:∀i L,ρ i=some L->M i=some L:=by grind
 have h9:EB M (S (j+1)).h.a=C:=by
  funext b;unfold EB;split;.grind
  .rename_i h;exact(hN.b.d b (by omega)).symm
 have O:∀b,b<(S p).h.a->(S j).h.c b=(S p).h.c b:=fun b h=>f.h h7 (by omega) h fun w E l u=>absurd u (K w E l)
 -- blocks of objects apart
 have y3:∀i,p<=i->NN ops S i->listed.getD i false=true->j<i->∀G,ρ (S i).h.a=some G->G.b<W.heap.size->W'.heap[G.b]?=W.heap[G.b]?:=by
  intro i U y H y9 G r hb;refine hN.c.e _ hb fun b L' u _ m=>?_;obtain⟨E,l⟩:=RS m;have z:(S j).h.a<=(S i).h.a:=(f.a (by omega) (by have:=(f.e y).1;omega)).d;exact c.e i U y H G r b L' (by omega) l fun hp=>by rw[<-O b hp];exact u.a
 refine⟨M,⟨by simp[c.c],c.l.a hj,by omega,?_,?_,?_,?_,?_,?_,?_,c.y f hj I x3 B hT (by grind),by rw[QG];exact c.v,by rw[RO];exact c.z⟩⟩
 .intro i U z0;rw[KJ q];grind
 .intro i U u H;rcases(KJ q).1 H with e|H;.omega
  .exact c.r i (by omega) u H
 .rw[h9];exact x6.d h6 hN
 .intro b L Q hL;rw[N b Q]at hL;obtain⟨i,E,l,h3,rfl⟩:=c.k b L (by omega) hL;refine⟨i,?_,l,(KJ q).2 (.inr h3),rfl⟩;have X:i≠j:=by grind
  rcases jh X with h|h;.have:=f.d l h (by omega);omega
  .omega
 .intro i U y H;have g:=((KJ q).1 H).resolve_left (by omega);obtain⟨G,E,l,h3,h4⟩:=c.d i (by omega) y g;refine⟨G,B _ _ E,?_,h3,cf h4 hN.c.c⟩;refine l.a (k7 B _) fun L hL g0=>?_;obtain⟨_,g8⟩:=RS hL;grind
 .intro i U y H G r b L' Y m g0;have g:=((KJ q).1 H).resolve_left (by omega);have x7:=(f.a (by omega) (by have:=(f.e y).1;omega)).d;rw[N _ x7]at r;obtain⟨z1,e1,_,_,z2⟩:=c.d i (by omega) y g;rw[r]at e1;cases e1;rcases ar b (S (j+1)).h.a with h|h
  .have h0:=g0 h;rw[g6 b h]at m;rcases ar b (S j).h.a with h'|h'
   .have z3:=hN.k b h' h0;rw[g7 b h']at m;exact c.e i (by omega) y g G r b L' Y m fun hp=>by grind
   .rcases hN.l b L' h' h0 m with hb|⟨k,L0,u,_,hk,e⟩;.omega
    .obtain⟨z4,x8⟩:=RS hk;rw[<-e];exact c.e i (by omega) y g G r k L0 (by omega) x8 fun hp=>by rw[<-O k hp];exact u.a
  .rw[N b h]at m;exact c.e i (by omega) y g G r b L' Y m fun hp=>by omega
 .intro i U H o a b ho u hc Q;have g:=fun h=>H ((KJ q).2 (.inr h));have X:i≠j:=fun e=>H ((KJ q).2 (.inl e));have z:i<j:=by omega
  have g9:∀w,(listed.getD w false=true\/w=j)->i<w->LY (Region.before ops) i w=true:=by
   intro w R g4;refine rK (by omega) (fun hb=>?_) (fun hb=>?_);.have:=bF f.c i w hb;omega
   .rcases R with R|rfl;.exact g (c.l.b w i R hb)
    .exact g (VT c.l hj hb)
  have x0:JB P (EB ρ (S i).h.a) W b ((S i).h.c b):=by
   rcases ar i p with h|h;.exact c.g i h g o a b ho u hc Q
   .exact(c.h f h6 h (by omega) (fun k E l=>K k E (by omega)) (fun k E l y=>d k (by omega) (.inr y))).b.a b
  refine x0.a (k7 B _) fun L hL g0=>?_;obtain⟨h5,g8⟩:=RS hL;have y4:(S i).h.a<=(S j).h.a:=(f.a (by omega) (by omega)).d;have x9:(S j).h.c b=(S i).h.c b:=f.h (by omega) (by omega) h5 fun w E l y0=>by
   obtain⟨ow,Z,x1,s⟩:=y0;have Y:i≠w:=by
    rintro rfl;rw[ho]at Z;cases Z;simp[GJ,HB,hc]at s
   have R:=d w l (.inl ⟨ow,Z,x1,s⟩);refine(f.f Y ho u hc Q Z x1 s (g9 w (.inl R) (by omega))).2.2 (cf h5 (f.a (by omega) (by omega)).d)
  have x2:=f.f (w:=j) (by omega) ho u hc Q I J t (g9 j (.inr rfl) z);refine g1 b L (by rw[L9];exact g8) (by grind) x2.1 (fun hs=>(x2.2.1 hs).2)
end
end Go.Sx




