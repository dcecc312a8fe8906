/- Part 8. -/
import Derived.Test.YtjailoenloejbaaGreatDoorDV7
import Derived.Below
import Derived.ChangeSame
import Derived.Lib.LaidTab
import Derived.ProofKit
set_option linter.all false
namespace Go.Sx
open Go Go.RowKit Go.WideShapes Go.ChangeShapes
set_option maxHeartbeats 0
section
variable {H:Type} {enc:TypeId × Value->H} {P:Program}
theorem mm{f:Func}{s:ChangeSpec}{c k d l:Bool}{W W':World}{args:Array Value}{v:Value}{n o:List (DataW H)}{a q u:List MemPlace}(z:DataW.Whole enc P f.params.toList s.vars c W args.toList n o a)(h:∀(b:Nat)(m:Nat->Bool)(D:Bool),DataW.TrodAll enc P W' b m D f.resultTypes.toList (v.resultList f.resultTypes.size) (s.fn H (n++o)).results [])(e:∀m:Nat->Bool,(∀p∈a,m p.block=true)->DataW.TrodAll enc P W' 0 m true f.params.toList args.toList (s.fn H (n++o)).args q)(g:∀m:Nat->Bool,(∀p∈a,m p.block=true)->DataW.TrodVars enc P W' m s.vars (s.fn H (n++o)).vars u)(E:a=q++u)(C:Below W.heap.size W W')(A:∀(j:Nat)(t:TypeId)(r:Value),f.resultTypes[j]?=some t->(v.resultList f.resultTypes.size)[j]?=some r->Value.okWide P W' .any 0 t r):s.post enc P f c k d l W args v W':=by
 have B:=fun p y=>z.lt p y;have i:∀p∈a,(fun b=>decide (b<W.heap.size)) p.block=true:=by grind
 refine⟨n,o,a,[],q,u,z,h _ _ _,e _ i,g _ i,World.keptBut_mono (fun p y=>⟨y,?_⟩) (C.frame (.∈a)),fun _=>?_⟩;.grind
 .obtain⟨_,_,_,_,_,F,G⟩:=z;refine⟨A,_,_,([]++q)++u,⟨[]++q,u,trodAll_append (e _ (fun _ _=>rfl)) (h _ _ _),g _ (fun _ _=>rfl),rfl,?_,?_⟩,?_⟩
  .intro b w y;have x:MemPlace.cell b w∈a:=by grind
   rw[C.frozen (B _ x)];exact F b w x
  .grind
  grind
end
theorem mn{H:Type}{d:TypeId×Value->H}{P:Program}{w:World}{base:Nat}{m:Nat->Bool}{c:Bool}{a:Nat}{t e:TypeId}{n:Nat}{cs:List Value}{zs:List (List UInt8)}{p:List MemPlace}(o:P.underlying t=some (.array n e))(q:P.underlying e=some .string)(f:P.cellsOf e=1)(g:P.cellsOf t=n)(h:DataW.trod d P w base m c a t cs=some (.agg (zs.map fun z=>.lit (.string z)),p)):cs=zs.map fun z=>Value.string ⟨z.toArray⟩:=by cases a with
 |zero=>simp[DataW.trod]at h|succ a=>
  simp only[DataW.trod,o,f,g,cy]at h;split at h
  .rename_i A;obtain⟨j,l,B⟩:=aq.1 h;have k:j.map (·.1)=zs.map fun z=>(DataW.lit (.string z):DataW H):=by grind
   have r:j.length=n:=by simpa using Lib.mapM_length l
   have s:zs.length=n:=by
    have:=jj List.length k;grind
   apply eh;intro i;by_cases u:i<n
   .obtain⟨b,v,x⟩:=Lib.mapM_at l i i (by simp[u]);obtain⟨z,y,rfl,_⟩:=DataW.trod_string q x;have C:cs[i]?=some (.string z):=by have:=jj (.[0]?) y;grind
    have D:(j.map (·.1))[i]?=some (DataW.lit (.string z.data.toList):DataW H):=by simp[v]
    simp_all
   grind
  .cases h
theorem yM{P:Program}{W:World}{a:String}{zs:List (List UInt8)}{rest:List (String×DataW Unit)}{g:Nat}{t e:TypeId}{n:Nat}(k:P.globalNamed a=some g)(c:(P.globals[g]?).map (·.type)=some t)(o:P.underlying t=some (.array n e))(r:P.underlying e=some .string)(d:P.cellsOf e=1)(f:P.cellsOf t=n)(h:laidMet P ((a,.agg (zs.map fun z=>.lit (.string z)))::rest) W):∃l s u,W.heap[g]?=some (.cells l s u)/\l.toList=zs.map fun z=>Value.string ⟨z.toArray⟩:=by
 obtain⟨x,⟨y,A,B,m,p,q,i,j,b,v,_,_⟩,_⟩:=h;obtain rfl:=fm (k.symm.trans i);obtain rfl:=fm (c.symm.trans j);have w:=mn o r d f v;simp only[World.var?,k,cp]at b;grind
theorem nT{P:Program}{W:World}{d:B8}{h:AA}(q:h.g)(r:∀i,h.a<=i->d i=none)(s:∀g,g<P.globals.size->∃L,d g=some L/\L.b=g/\L.d=0)(p:∀i,i<h.a->∃f m g L e a l,h.c i=.row f m g true/\d i=some L/\W.heap[L.b]?=some (.cells e a l)/\∀(k:Nat)(v:Value),f[k]?=some v->∃V,e[L.d+k]?=some V/\AR d v V):CV P d h W/\∀i,¬wr (h.c i):=by
 have b:∀i,¬wr (h.c i):=fun i b=>by
  rcases ar i h.a with c|c;.obtain⟨f,m,g,L,e,a,l,n,_⟩:=p i c;rw[n]at b;cases b
  .rw[NJ c]at b;exact b
 refine⟨⟨q,r,s,fun i=>?_,fun i j L x o=>absurd o (b i)⟩,b⟩;rcases ar i h.a with c|c
 .obtain⟨f,m,g,L,e,a,l,n,t,u,w⟩:=p i c;rw[n];exact⟨L,e,a,l,t,u,w,fun h=>by cases h⟩
 .rw[NJ c];trivial
end Go.Sx
namespace Go.Sx
open Go
set_option maxHeartbeats 0
noncomputable def AW(P:Program)(call:AY)(n:Nat):AY:=fun f a h=>match P.funcs[f]? with
 |some b=>match b.body with
  |some c=>if a.length<=b.ntmps then match D4 P call n c ⟨JX 0 a .leaf,h⟩with
    |some (.normal,s)|some (.ret,s)=>match F5 P s b.results.toList with
     |some [v]=>some (v,s.h)|some d=>some (.tuple d.toArray,s.h)|none=>none
    |_=>none else none|none=>none
 |none=>none
noncomputable def J2(P:Program)(base:AY):Nat->AY|0,_,_,_=>none|n+1,f,a,h=>match base f a h with|some r=>some r|none=>AW P (J2 P base n) n f a h
def C_(call:AY):Prop:=∀f a h v b,call f a h=some (v,b)->E_ h b
theorem WC{P:Program}(J:M6 P=true){call:AY}(E:EN P call)(z:C_ call)(j:Nat):EN P (AW P call j)/\C_ (AW P call j):=by
 simp only[M6,ah]at J;obtain⟨N,A⟩:=J;have B:∀f d h v q,AW P call j f d h=some (v,q)->∃k c e s x,P.funcs[f]?=some k/\k.body=some c/\d.length<=k.ntmps/\(e=.normal\/e=.ret)/\D4 P call j c ⟨JX 0 d .leaf,h⟩=some (e,s)/\F5 P s k.results.toList=some x/\v=GU x/\q=s.h:=by
  intro f d h v q m;simp only[AW]at m;split at m
  .rename_i k l;split at m
   .rename_i c y;split at m
    .rename_i r;split at m;.rename_i s g;obtain⟨x,O,Q,R⟩:=zX m;grind
     .rename_i s g;obtain⟨x,O,Q,R⟩:=zX m;grind
     grind
    grind
   grind
  grind
 have C:∀(f:FuncId)(k:Func)(c:Code),P.funcs[f]?=some k->k.body=some c->KO P k.ntmps c=true/\(k.name== "runtime.NumGoroutine")=false:=by
  intro f k c l y;have:=bm.1 A k (aw (i:=f) (by grind));unfold cI at this;grind
 refine⟨fun f d h v q m=>?_,fun f d h v q m=>?_⟩
 .obtain⟨k,c,e,s,x,l,y,r,K,g,u,S,L⟩:=B f d h v q m;obtain⟨D,w⟩:=C f k c l y;refine⟨⟨k,c,l,y,w⟩,fun M W n T o=>?_⟩;have U:n.size=d.length:=by have:=o.Z6;grind
  refine calls_of_wp l y (rW E z N j c D g T ?_ (by grind) fun X F p Y G Z H=>?_)
  .intro t;simp only[jL];show AR M _ ((n++Array.replicate (k.ntmps-n.size) undef).getD t undef);rw[ed,Array.getElem?_append];by_cases ht:t<d.length
   .rw[ag (by omega),ag (by omega)];obtain⟨b,I,hr⟩:=o.Zz (i:=t) (a:=d[t]) (by simp[ht]);grind
   .rw[ad (by omega),ad (by omega),jb];have:(Tr.leaf).a t=undef:=rfl;rw[this];split<;>exact R2
  .obtain⟨V,hV,hr⟩:=sU u Y.b G;have I:bodyPost P k (fun e F=>∃V p,e=.returned V/\Nx P M h W p q F/\AR p v V) .normal X F:=⟨H,V,hV,V,p,rfl,by grind,by grind⟩;rcases K with rfl|rfl;.exact I
   .exact I
 .obtain⟨k,c,e,s,x,l,y,r,K,g,u,S,L⟩:=B f d h v q m;rw[L];exact vJ z j c g
theorem S7{P:Program}(j:M6 P=true){base:AY}(k:EN P base)(e:C_ base):∀b,EN P (J2 P base b)/\C_ (J2 P base b):=by
 intro b;induction b with
 |zero=>exact⟨fun f a h v d e=>by simp[J2]at e,fun f a h v d e=>by simp[J2]at e⟩|succ b i=>
  obtain⟨l,m⟩:=WC j i.1 i.2 b;refine⟨fun f a h v d c=>?_,fun f a h v d c=>?_⟩
  .simp only[J2]at c;split at c;.rename_i r g;cases c;exact k f a h v d g
   .exact l f a h v d c
  .simp only[J2]at c;split at c;.rename_i r g;cases c;exact e f a h v d g
   .exact m f a h v d c
noncomputable def UO(b:FuncId)(o:BO):AY:=fun f a h=>by classical exact if f=b/\a=[]/\h.c 0=o then some (.bool true,h)else none
theorem Gj{P:Program}{call:AY}(hC:EN P call){f0:FuncId}{cs:List Value}{ty:TypeId}{g:Bool}{h':AA}(hgl:P.globals.size=1)(hflat:cs.all B7=true)(hs:call f0 [] ⟨1,0,.node (.row cs ty g true) .leaf .leaf⟩=some (.bool true,h')):EN P (UO f0 (.row cs ty g true))/\C_ (UO f0 (.row cs ty g true)):=by
 have key:∀f args h v h1,UO f0 (.row cs ty g true) f args h=some (v,h1)->f=f0/\args=[]/\h.c 0=.row cs ty g true/\v=.bool true/\h1=h:=by
  intro f args h v h1 he;unfold UO at he;grind
 refine⟨fun f args h v h1 he=>?_,fun f args h v h1 he=>?_⟩
 .obtain⟨rfl,rfl,hg,rfl,rfl⟩:=key f args h v h1 he;obtain⟨hfn,hcall⟩:=hC f [] _ _ _ hs;refine⟨hfn,fun ρ W ARGS hR hargs=>?_⟩;obtain⟨L0,hL0,hb0,hd0⟩:=hR.b 0 (by omega);have ho:=hR.a 0;rw[hg]at ho;obtain⟨L,CS,ty',fr,hL,hW,hcs,_⟩:=ho;have hro:=nT (P:=P) (W:=W) (d:=fun i=>if i=0 then some L0 else none) (h:=⟨1,0,.node (.row cs ty g true) .leaf .leaf⟩) rfl (fun i hi=>by grind) (fun g hg=>by grind) (fun i hi=>by
    have:i<1:=hi;obtain rfl:i=0:=by omega
    rw[hL0]at hL;cases hL;exact⟨cs,ty,g,L0,CS,ty',fr,rfl,rfl,hW,fun k v hv=>by
     obtain⟨V,hV,hr⟩:=hcs k v hv;have hf:=bm.1 hflat v (aw hv);rw[MF hf hr]at hV;exact⟨v,hV,.flat hf⟩⟩);refine(hcall _ W ARGS hro.1 (by rw[fb.1 hargs.Z6.symm];exact .nil)).mono fun e W'⟨V,ρ',he,hN,hv⟩=>⟨V,ρ,he,(Nx.a hR).h (hN.c.g hro.2),?_⟩;rw[UH hv];exact .flat rfl
 .obtain⟨rfl,rfl,hg,rfl,rfl⟩:=key f args h v h1 he;exact .a _
section
variable {P:Program} {call:AY} {n:Nat}
def WS(P:Program)(call:AY)(n:Nat)(c:Code)(s:St)(Q:FJ->St->Prop):Prop:=∃e a,D4 P call n c s=some (e,a)/\Q e a
def WL(P:Program)(call:AY)(ops:Array Oper)(l:List Oper)(s:St)(Q:St->Prop):Prop:=∃a,NV P call ops l s=some a/\Q a
def WD(P:Program)(call:AY)(ops:Array Oper)(a i:Nat)(l:List Oper)(s:St)(Q:St->Prop):Prop:=∃b,OM P call ops a i l s=some b/\Q b
def FJ.c(K:St->Prop)(Q:FJ->St->Prop):FJ->St->Prop|.normal,s=>K s|e,s=>Q e s
variable {s:St} {Q:FJ->St->Prop}
theorem WS.h{c:Operand}{a b:Code}{t:Bool}(h:ev s.T c=.bool t)(h1:t=true->WS P call n a s Q)(i:t=false->WS P call n b s Q):WS P call n (.cond c a b) s Q:=by cases t with|true=>obtain⟨e,d,f,g⟩:=h1 rfl;exact⟨e,d,by simp only[D4,h,f],g⟩|false=>obtain⟨e,d,f,g⟩:=i rfl;exact⟨e,d,by simp only[D4,h,f],g⟩
theorem WS.d{id:Nat}{ops:Array Oper}(h:WL P call ops ops.toList s (Q .normal)):WS P call n (.region id ops false) s Q:=by obtain⟨c,a,b⟩:=h;exact⟨_,_,by simp only[D4,a];rfl,b⟩
theorem WS.b{id:Nat}{ops:Array Oper}(h:WD P call ops s.h.a 0 ops.toList s (Q .normal)):WS P call n (.region id ops true) s Q:=by obtain⟨c,a,b⟩:=h;exact⟨_,_,by simp only[D4,a];rfl,b⟩
theorem WS.c{c:Code}(I:Nat->St->Prop)(N:Nat)(p:N<n)(h0:I 0 s)(o:∀k s,k<=N->I k s->WS P call n c s (FJ.c (fun a=>k<N/\I (k+1) a) Q)):WS P call n (.loop c) s Q:=by
 have g:∀(m k:Nat)(s:St),k+m=N->I k s->∀f,m<f->∃e a,PD (D4 P call n c) f s=some (e,a)/\Q e a:=by
  intro m;induction m with
  |zero=>
   intro k s q h f r;obtain⟨f,rfl⟩:∃i,f=i+1:=⟨f-1,by omega⟩;obtain⟨e,a,d,b⟩:=o k s (by omega) h;cases e with
   |normal=>obtain⟨j,_⟩:=b;omega|exit t=>exact⟨_,_,by simp only[PD,d],b⟩|ret=>exact⟨_,_,by simp only[PD,d],b⟩
  |succ m u=>
   intro k s q h f r;obtain⟨f,rfl⟩:∃i,f=i+1:=⟨f-1,by omega⟩;obtain⟨e,a,d,b⟩:=o k s (by omega) h;cases e with
   |normal=>obtain⟨j,l⟩:=b;obtain⟨v,w,x,y⟩:=u (k+1) a (by omega) l f (by omega);exact⟨v,w,by simp only[PD,d,x],y⟩|exit t=>exact⟨_,_,by simp only[PD,d],b⟩|ret=>exact⟨_,_,by simp only[PD,d],b⟩
 obtain⟨e,a,d,b⟩:=g N 0 s (by omega) h0 n p;exact⟨e,a,by assumption,b⟩
theorem WS.a{c:Code}{a:FJ->St->Prop}(h:WS P call n c s Q)(b:∀e s,Q e s->a e s):WS P call n c s a:=by obtain⟨e,d,f,g⟩:=h;exact⟨e,d,f,b _ _ g⟩
theorem WL.a{ops:Array Oper}{o:Oper}{l:List Oper}{K:St->Prop}{v:Value}{h':AA}(a:FT ops s.T o=true)(b:A_ P call s.T s.h o.op=some (v,h'))(h:WL P call ops l ⟨s.T.c o.dst v,h'⟩ K):WL P call ops (o::l) s K:=by
 obtain⟨c,d,e⟩:=h;refine⟨c,?_,e⟩;simp only[NV,HK,a,ai,b,d]
theorem WL.b{ops:Array Oper}{o:Oper}{l:List Oper}{K:St->Prop}(a:FT ops s.T o=false)(h:WL P call ops l ⟨s.T.c o.dst undef,s.h⟩ K):WL P call ops (o::l) s K:=by obtain⟨b,c,d⟩:=h;refine⟨b,?_,d⟩;simp[NV,HK,a,c]
theorem Ae{f:FuncId}{args:List Value}{h:AA}{b:Func}{c:Code}(g:P.funcs[f]?=some b)(i:b.body=some c)(j:args.length<=b.ntmps){R:Value->AA->Prop}(k:WS P call n c ⟨JX 0 args .leaf,h⟩ (fun e s=>(e=.normal\/e=.ret)/\∃a,F5 P s b.results.toList=some a/\R (GU a) s.h)):∃v d,AW P call n f args h=some (v,d)/\R v d:=by
 obtain⟨e,s,l,m,a,o,p⟩:=k;refine⟨_,_,?_,p⟩;have q:(match some a with
     |some [v]=>some (v,s.h)|some a=>some (.tuple a.toArray,s.h)|none=>none)=some (GU a,s.h):=by match a with
  |[]=>rfl|[u]=>rfl|u::r::t=>rfl
 rcases m with rfl|rfl<;>(simp only[AW,g,i,j,ai,l,o];exact q)
end
section
variable {P:Program} {t:TypeId} {x y:Operand} {k:IntKind} {a b:Int}
theorem mJ:CT P .lss t x y (.int k a) (.int k b)=some (.bool (decide (a<b))):=by simp[CT,flat,B7,BZ,Go.eqGuard,Go.binOp,Op.intCmp,Bind.bind,Sem.bind,Pure.pure]
theorem dZ:CT P .leq t x y (.int k a) (.int k b)=some (.bool (decide (a<=b))):=by simp[CT,flat,B7,BZ,Go.eqGuard,Go.binOp,Op.intCmp,Bind.bind,Sem.bind,Pure.pure]
theorem a_:CT P .gtr t x y (.int k a) (.int k b)=some (.bool (decide (a>b))):=by simp[CT,flat,B7,BZ,Go.eqGuard,Go.binOp,Op.intCmp,Bind.bind,Sem.bind,Pure.pure]
theorem pD:CT P .geq t x y (.int k a) (.int k b)=some (.bool (decide (a>=b))):=by simp[CT,flat,B7,BZ,Go.eqGuard,Go.binOp,Op.intCmp,Bind.bind,Sem.bind,Pure.pure]
theorem V6:CT P .eql t x y (.int k a) (.int k b)=some (.bool (a==b)):=by simp[CT,flat,B7,BZ,Go.eqGuard,Go.binOp,Op.intCmp,Bind.bind,Sem.bind,Pure.pure]
theorem XQ:CT P .neq t x y (.int k a) (.int k b)=some (.bool (a !=b)):=by simp[CT,flat,B7,BZ,Go.eqGuard,Go.binOp,Op.intCmp,Bind.bind,Sem.bind,Pure.pure]
theorem i6:CT P .add t x y (.int k a) (.int k b)=some (.int k (k.wrap (a+b))):=by simp[CT,flat,B7,BZ,Go.eqGuard,Go.binOp,Op.intArith,Bind.bind,Sem.bind,Pure.pure]
theorem iW:CT P .sub t x y (.int k a) (.int k b)=some (.int k (k.wrap (a-b))):=by simp[CT,flat,B7,BZ,Go.eqGuard,Go.binOp,Op.intArith,Bind.bind,Sem.bind,Pure.pure]
theorem Da:CT P .mul t x y (.int k a) (.int k b)=some (.int k (k.wrap (a*b))):=by simp[CT,flat,B7,BZ,Go.eqGuard,Go.binOp,Op.intArith,Bind.bind,Sem.bind,Pure.pure]
theorem UZ(c:b≠0):CT P .quo t x y (.int k a) (.int k b)=some (.int k (k.wrap (a.tdiv b))):=by simp[CT,flat,B7,BZ,Go.eqGuard,Go.binOp,Op.intDiv,Bind.bind,Sem.bind,Pure.pure,c]
theorem nY(c:b≠0):CT P .rem t x y (.int k a) (.int k b)=some (.int k (a.tmod b)):=by simp[CT,flat,B7,BZ,Go.eqGuard,Go.binOp,Op.intDiv,Bind.bind,Sem.bind,Pure.pure,c]
end
def oO:Value->Value->Bool
 |.bool a,.bool b=>a==b|.int k a,.int f b=>decide (k=f)&&decide (a=b)|.string a,.string b=>decide (a=b)|.pointer none,.pointer none=>true|.pointer (some a),.pointer (some b)=>decide (a=b)|.slice none n c,.slice none d e=>Nat.beq n d&&Nat.beq c e|.slice (some a) n c,.slice (some b) d e=>decide (a=b)&&Nat.beq n d&&Nat.beq c e|.map none,.map none=>true|.map (some a),.map (some b)=>Nat.beq a b|.nilFunc,.nilFunc=>true|.nilIface,.nilIface=>true|_,_=>false
theorem Ou{a b:Value}(h:oO a b=true):a=b:=by unfold oO at h;split at h<;>simp_all
def VU:List Value->List Value->Bool|[],[]=>true|a::l,b::m=>oO a b&&VU l m|_,_=>false
theorem iT:∀{l m:List Value},VU l m=true->l=m
 |[],[],_=>rfl|a::l,b::m,h=>by simp only[VU,ah]at h;rw[Ou h.1,iT h.2]|[],_::_,h=>by simp[VU]at h|_::_,[],h=>by simp[VU]at h
def jB:Value->Value->Bool|.agg a,.agg b=>VU a.toList b.toList|a,b=>oO a b
theorem Mg{a b:Value}(h:jB a b=true):a=b:=by
 unfold jB at h;split at h;.rw[eF.1 (iT h)]
 .exact Ou h
def U5:List Value->List Value->Bool|[],[]=>true|a::l,b::m=>jB a b&&U5 l m|_,_=>false
theorem jE:∀{l m:List Value},U5 l m=true->l=m
 |[],[],_=>rfl|a::l,b::m,h=>by simp only[U5,ah]at h;rw[Mg h.1,jE h.2]|[],_::_,h=>by simp[U5]at h|_::_,[],h=>by simp[U5]at h
def ZV:Value->Value->Bool|.tuple a,.tuple b=>U5 a.toList b.toList|a,b=>jB a b
theorem jS{a b:Value}(h:ZV a b=true):a=b:=by
 unfold ZV at h;split at h;.rw[eF.1 (jE h)]
 .exact Mg h
def n9:BO->BO->Bool|_,.dead=>true|.row d e g f,.row b c h a=>VU d b&&(a||(Nat.beq e c&&(g==h)&&(f==a)))|_,_=>false
theorem Mx{P:Program}{c:B8}{W:World}{i:Nat}{o o':BO}(h:n9 o o'=true)(k:JB P c W i o):JB P c W i o':=by
 unfold n9 at h;split at h;.trivial
 .simp only[ah,bu]at h;obtain⟨l,b⟩:=h;obtain rfl:=iT l;obtain⟨L,d,a,e,f,g,j,m⟩:=k;rcases b with rfl|b;.exact⟨L,d,a,e,f,g,j,fun h=>by cases h⟩
  .simp only[ak]at b;obtain⟨⟨n,rfl⟩,rfl⟩:=b;obtain rfl:=iw n;exact⟨L,d,a,e,f,g,j,m⟩
 .cases h
def tC:BO->BO->Bool|_,.dead=>true|.row d e g f,.row a b h c=>VU d a&&Nat.beq e b&&(g==h)&&(f==c)|_,_=>false
theorem Vd{o o':BO}(h:tC o o'=true):o'=.dead\/o'=o:=by
 unfold tC at h;split at h;.simp
 .simp only[ah,ak]at h;obtain⟨⟨⟨a,b⟩,rfl⟩,rfl⟩:=h;obtain rfl:=iT a;simp_all
 .cases h
def PI(n:Nat):Value->Bool|.pointer (some a)=>decide (a.block<n)|.slice (some a) _ _=>decide (a.block<n)|.map (some i)=>decide (i<n)|v=>B7 v
def below(n:Nat):Value->Bool|.agg a=>a.toList.all (PI n)|v=>PI n v
theorem rB{c:B8}{n:Nat}{v V:Value}(a:PI n v=true)(h:AR c v V):AR (EB c n) v V:=by cases h with
 |flat d=>exact .flat d|ptr b=>
  simp only[PI,am]at a;exact .ptr (by rw[L9 a];exact b)|slice b e=>
  simp only[PI,am]at a;exact .slice (by rw[L9 a];exact b) e|sliceU b f g i=>
  simp only[PI,am]at a;exact .sliceU (by rw[L9 a];exact b) f g i|map b=>
  simp only[PI,am]at a;exact .map (by rw[L9 a];exact b)|func _ _=>simp[PI,B7]at a|iface _=>simp[PI,B7]at a|agg _=>simp[PI,B7]at a|tuple _=>simp[PI,B7]at a
theorem mp{b:B8}{n:Nat}{l m:List Value}(h:BQ (AR b) l m)(a:l.all (PI n)=true):BQ (AR (EB b n)) l m:=by induction h with
 |nil=>exact .nil|cons h _ c=>
  simp only[az,ah]at a;exact .cons (rB a.1 h) (c a.2)
theorem Vg{a:B8}{n:Nat}{v V:Value}(b:below n v=true)(h:AR a v V):AR (EB a n) v V:=by cases h with
 |agg h=>exact .agg (mp h b)|flat c=>exact .flat c|_=>first|(refine rB b ?_;first|(exact .ptr ‹_›)|(exact .slice ‹_› ‹_›)|(exact .sliceU ‹_› ‹_› ‹_› ‹_›)|(exact .map ‹_›)|(exact .func ‹_› ‹_›)|(exact .iface ‹_›)|(exact .tuple ‹_›))
theorem mq{b:B8}{n:Nat}{l m:List Value}(h:BQ (AR b) l m)(a:l.all (below n)=true):BQ (AR (EB b n)) l m:=by induction h with
 |nil=>exact .nil|cons h _ c=>
  simp only[az,ah]at a;exact .cons (Vg a.1 h) (c a.2)
def bs(l:List Nat):ByteArray:=⟨(l.map UInt8.ofNat).toArray⟩
structure MC where
 f:FuncId
 e:List Value
 a:Nat
 c:List (Nat × BO)
 v:Value
 b:List BO
noncomputable def aU(t:GI):List (Nat×BO)->GI|[]=>t|(i,o)::l=>aU (t.d i o) l
noncomputable def MC.g(e:MC):AA:=⟨e.a,0,aU .leaf e.c⟩
noncomputable def PM(h:AA):List BO->AA|[]=>h|o::l=>PM (h.d o) l
theorem mt:∀(l:List (Nat×BO))(t:GI)(i:Nat),(aU t l).b i=t.b i\/∃o,(i,o)∈l/\(aU t l).b i=o:=by
 intro l;induction l with
 |nil=>intro t i;exact .inl rfl|cons x l a=>
  obtain⟨k,o⟩:=x;intro t i;simp only[aU];rcases a (t.d k o) i with h|⟨b,c,d⟩
  .rw[GI.a]at h;grind
  grind
theorem MC.d(e:MC)(i:Nat):e.g.c i=.dead\/(i<e.a/\∃o,(i,o)∈e.c/\e.g.c i=o):=by
 unfold AA.c MC.g;simp only;split
 .rename_i a;rcases mt e.c .leaf i with h|⟨o,b,c⟩;.exact .inl (h.trans rfl)
  grind
 simp
theorem Fm:∀(l:List BO)(h:AA),(PM h l).a=h.a+l.length/\(PM h l).b=h.b:=by intro l;induction l with|nil=>intro h;exact⟨rfl,rfl⟩|cons o l a=>intro h;simp only[PM];obtain⟨b,c⟩:=a (h.d o);refine⟨by rw[b];simp[AA.d];omega,by rw[c];rfl⟩
theorem uD:∀(l:List BO)(h:AA)(i:Nat),(PM h l).c i=if i<h.a then h.c i else l.getD (i-h.a) .dead:=by
 intro l;induction l with
 |nil=>
  intro h i;simp only[PM];split;.rfl
  .rw[NJ (by omega)];rfl|cons o l b=>
  intro h i;simp only[PM];rw[b];have c:(h.d o).a=h.a+1:=rfl;rw[c];by_cases a:i<h.a;.rw[ag (by omega),ag a,AV a]
  .rw[ad a];by_cases d:i=h.a
   .subst d;rw[ag (by omega),BJ];simp
   grind
def dH:BO->Bool|.row _ _ _ a=>a|_=>false
noncomputable def g8(h:AA)(i:Nat):List BO->Bool|[]=>true|o::l=>tC (h.c i) o&&g8 h (i+1) l
theorem mu{h:AA}:∀{l:List BO}{i k:Nat},g8 h i l=true->l.getD k .dead=.dead\/h.c (i+k)=l.getD k .dead:=by
 intro l;induction l with
 |nil=>simp|cons o l b=>
  intro i k a;simp only[g8,ah]at a;cases k with
  |zero=>
   rcases Vd a.1 with h|h;.grind
   grind|succ k=>grind
noncomputable def XE(h:AA):List (Nat×BO)->Bool|[]=>true|(i,o)::l=>n9 (h.c i) o&&XE h l
theorem Dv{h:AA}:∀{l:List (Nat×BO)}{i:Nat}{o:BO},XE h l=true->(i,o)∈l->n9 (h.c i) o=true:=by intro l;induction l with|nil=>simp|cons x l b=>obtain⟨k,c⟩:=x;intro i o a d;simp only[XE,ah]at a;grind
noncomputable def MC.i(call:AY)(e:MC):Bool:=(e.c.all fun x=>dH x.2)&&(match call e.f e.e e.g with|some (v,h)=>ZV v e.v&&Nat.beq h.a (e.a+e.b.length)&&g8 h e.a e.b|none=>false)
noncomputable def X7(e:MC):AY:=fun f a h=>match Nat.beq f e.f with|true=>if U5 a e.e&&Nat.beq h.a e.a&&XE h e.c then some (e.v,PM h e.b)else none|false=>none
noncomputable def MC.h(P:Program)(call:AY)(e:MC):Bool:=(e.c.all fun x=>dH x.2&&(match x.2 with|.row a _ _ _=>a.all (PI e.a)|_=>false))&&e.e.all (below e.a)&&flat e.v&&decide (P.globals.size<=e.a)&&(match call e.f e.e e.g with|some (v,h)=>ZV v e.v|none=>false)
noncomputable def cK(e:MC):AY:=fun f a h=>match Nat.beq f e.f with|true=>if U5 a e.e&&Nat.ble e.a h.a&&XE h e.c then some (e.v,h)else none|false=>none
noncomputable def JE(a b:AY):AY:=fun f c h=>match a f c h with|some r=>some r|none=>b f c h
def PN:AY:=fun _ _ _=>none
theorem dF{P:Program}:EN P PN/\C_ PN:=⟨fun _ _ _ _ _ h=>by simp[PN]at h,fun _ _ _ _ _ h=>by simp[PN]at h⟩
theorem UJ{P:Program}{a b:AY}(g:EN P a/\C_ a)(i:EN P b/\C_ b):EN P (JE a b)/\C_ (JE a b):=by
 refine⟨fun f d h v j c=>?_,fun f d h v j c=>?_⟩
 .unfold JE at c;split at c;.rename_i r e;cases c;exact g.1 _ _ _ _ _ e
  .exact i.1 _ _ _ _ _ c
 .unfold JE at c;split at c;.rename_i r e;cases c;exact g.2 _ _ _ _ _ e
  .exact i.2 _ _ _ _ _ c
theorem zF{P:Program}{call:AY}(hc:EN P call){e:MC}(z:e.i call=true):EN P (X7 e)/\C_ (X7 e):=by
 have J:∀f d h v B,X7 e f d h=some (v,B)->f=e.f/\d=e.e/\h.a=e.a/\XE h e.c=true/\v=e.v/\B=PM h e.b:=by
  intro f d h v B w;unfold X7 at w;split at w
  .rename_i hf;split at w
   .rename_i O;simp only[ah]at O;cases w;exact⟨iw hf,jE O.1.1,iw O.1.2,O.2,rfl,rfl⟩
   .cases w
  .cases w
 refine⟨fun f d h v B w=>?_,fun f d h v B w=>?_⟩
 .obtain⟨rfl,rfl,x,q,rfl,rfl⟩:=J f d h v B w;unfold MC.i at z;simp only[ah]at z;obtain⟨R,z⟩:=z;split at z
  .rename_i v0 h0 C;simp only[ah]at z;obtain⟨⟨h1,S⟩,h3⟩:=z;obtain rfl:=jS h1;have S:=iw S;obtain⟨T,U⟩:=hc _ _ _ _ _ C;refine⟨T,fun ρ W K H D=>?_⟩;have E:∀i,¬wr (e.g.c i):=fun i g=>by
    rcases e.d i with c|⟨_,o,c,r⟩;.rw[c]at g;exact g
    .have:=bm.1 R _ c;rw[r]at g;cases o<;>simp_all[dH,wr]
   have X:CV P ρ e.g W:=by
    refine⟨rfl,fun i a=>H.d i (by rw[x];exact a),H.b,fun i=>?_,fun i j L M g=>absurd g (E i)⟩;rcases e.d i with c|⟨_,o,c,r⟩;.rw[c];trivial
    .rw[r];exact Mx (Dv q c) (H.a i)
   refine(U ρ W K X D).mono fun e' W'⟨V,F,Y,n,hv⟩=>⟨V,F,Y,?_,hv⟩;have I:=n.c.g E;have s:e.g.a=h.a:=x.symm;obtain⟨Q,Z⟩:=Fm e.b h;have m:∀i,i<h.a->(PM h e.b).c i=h.c i:=fun i a=>by rw[uD,ag a]
   have y:∀i,h.a<=i->(PM h e.b).c i=.dead\/(PM h e.b).c i=h0.c i:=fun i a=>by
    rw[uD,ad (by omega)];rcases mu (k:=i-h.a) h3 with c|c;.exact .inl c
    .right;rw[<-c];congr 1;omega
   have t:∀i L,h.a<=i->live ((PM h e.b).c i)->F i=some L->W.heap.size<=L.b:=fun i L a l p=>by
    rcases y i a with c|c;.rw[c]at l;exact l.elim
    .rw[c]at l;rcases n.l i L (by rw[s];exact a) l p with r|⟨j,_,g,_⟩;.exact r
     .exact absurd g (E j)
   have A:∀i L,i<h.a->live (h.c i)->F i=some L->L.b<W.heap.size:=fun i L a l p=>by
    obtain⟨L0,c,r⟩:=(H.a i).b l;rw[n.f i (by rw[s];exact a),c]at p;cases p;exact r
   refine⟨n.e,fun i a=>n.f i (by rw[s];exact a),⟨rfl,fun i a=>n.b.d i (by rw[S,<-x,<-Q];exact a),n.b.b,fun i=>?_,fun i j L M g l N p u=>?_⟩,⟨I.f,I.d,I.a,I.c,fun b hb _=>I.e b hb⟩,by rw[Q];omega,Z,fun i a _=>m i a,fun i a g=>by rw[m i a]at g;exact g,fun i a g=>by rw[m i a]at g;exact g,fun i L a l p=>.inl (t i L a l p)⟩
   .rcases ar i h.a with a|a
    .rw[m i a];exact((H.a i).c I).a n.e (fun _ _ _=>rfl)
    .rcases y i a with c|c;.rw[c];trivial
     .rw[c];exact n.b.a i
   .rcases ar i h.a with a|a<;>rcases ar j h.a with G|G
    .rw[m i a]at g;rw[m j G]at l;rw[n.f i (by rw[s];exact a)]at p;rw[n.f j (by rw[s];exact G)]at u;exact H.c i j L M g l N p u
    .have e1:=t j M G l u;rw[m i a]at g;have e2:=A i L a g.a p;omega
    .have e1:=t i L a g.a p;rw[m j G]at l;have e2:=A j M G l u;omega
    .rcases y i a with c|c;.rw[c]at g;exact g.elim
     .rcases y j G with r|r;.rw[r]at l;exact l.elim
      .rw[c]at g;rw[r]at l;exact n.b.c i j L M g l N p u
  .cases z
 .obtain⟨rfl,rfl,x,q,rfl,rfl⟩:=J f d h v B w;obtain⟨Q,Z⟩:=Fm e.b h;exact⟨by rw[Q];omega,Z,fun i a _=>by rw[uD,ag a]⟩
theorem mw{P:Program}{call:AY}(M:EN P call){e:MC}(m:e.h P call=true):EN P (cK e)/\C_ (cK e):=by
 have s:∀f a h v n,cK e f a h=some (v,n)->f=e.f/\a=e.e/\e.a<=h.a/\XE h e.c=true/\v=e.v/\n=h:=by
  intro f a h v n d;unfold cK at d;split at d
  .rename_i N;split at d
   .rename_i y;simp only[ah]at y;cases d;exact⟨iw N,jE y.1.1,Nat.le_of_ble_eq_true y.1.2,y.2,rfl,rfl⟩
   .cases d
  .cases d
 refine⟨fun f a h v n d=>?_,fun f a h v n d=>?_⟩
 .obtain⟨rfl,rfl,A,b,rfl,rfl⟩:=s f a h v n d;unfold MC.h at m;simp only[ah,am]at m;obtain⟨⟨⟨⟨t,p⟩,c⟩,O⟩,m⟩:=m;split at m
  .rename_i v0 h0 q;obtain rfl:=jS m;obtain⟨B,C⟩:=M _ _ _ _ _ q;refine⟨B,fun K W u D r=>?_⟩;have w:∀i,¬wr (e.g.c i):=fun i x=>by
    rcases e.d i with l|⟨_,o,l,E⟩;.rw[l]at x;exact x
    .have:=bm.1 t _ l;simp only[ah]at this;have:=this.1;rw[E]at x;cases o<;>simp_all[dH,wr]
   have F:CV P (EB K e.a) e.g W:=by
    refine⟨rfl,fun i G=>?_,fun g Q=>?_,fun i=>?_,fun i j L L' x=>absurd x (w i)⟩
    .unfold EB;have:e.a<=i:=G;rw[ad (by omega)]
    .rw[L9];exact D.b g Q
    .rcases e.d i with l|⟨G,o,l,E⟩;.rw[l];trivial
     .rw[E];have R:=Mx (Dv b l) (D.a i);have H:=bm.1 t _ l;simp only[ah]at H;cases o with
      |dead=>trivial|map es=>simp[dH]at H|row cs ty g ro=>
       obtain⟨L,S,I,T,U,X,Y,Z⟩:=R;refine⟨L,S,I,T,by rw[L9 G];exact U,X,fun k v z=>?_,Z⟩;obtain⟨V,hV,hr⟩:=Y k v z;exact⟨V,hV,rB (bm.1 H.2 v (aw z)) hr⟩
   refine(C _ W u F (mq r p)).mono fun e' W'⟨V,ρ',J,hN,z⟩=>⟨V,K,J,(Nx.a D).h (hN.c.g w),?_⟩;rw[SM c z];exact NZ c
  .cases m
 .obtain⟨rfl,rfl,A,b,rfl,rfl⟩:=s f a h v n d;exact .a _
end Go.Sx
namespace Go.Sx
open Go
theorem AR.b{k g:B8}(p:∀i L,k i=some L->g i=some L){v A:Value}(h0:AR k v A):∀V,AR g v V->AR k v V:=by
 refine AR.rec (motive_1:=fun v A _=>∀V,AR g v V->AR k v V) (motive_2:=fun l m _=>∀n,BQ (AR g) l n->BQ (AR k) l n) ?_ ?_ ?_ ?_ ?_ ?_ ?_ ?_ ?_ ?_ ?_ h0;.intro v d V h;rw[MF d h];exact .flat d
 .intro q o L e V h;cases h with
  |flat d=>exact .flat d|ptr h=>rw[p _ _ e]at h;cases h;exact .ptr e
 .intro q o L n c e r V h;cases h with
  |flat d=>exact .flat d|slice h r=>rw[p _ _ e]at h;cases h;exact .slice e r|sliceU h s B u=>omega
 .intro q o L n c a e s C u V h;cases h with
  |flat d=>exact .flat d|slice h r=>omega|sliceU h s B u=>rw[p _ _ e]at h;cases h;exact .sliceU e s B u
 .intro q L e V h;cases h with
  |flat d=>exact .flat d|map h=>rw[p _ _ e]at h;cases h;exact .map e
 .intro E f F c G _ _ j w V h;cases h with
  |flat d=>exact .flat d|func a b=>exact .func (j _ a) (w _ b)
 .intro t v H _ j V h;cases h with
  |flat d=>exact .flat d|iface a=>exact .iface (j _ a)
 .intro D z _ j V h;cases h with
  |flat d=>exact .flat d|agg a=>exact .agg (j _ a)
 .intro D z _ j V h;cases h with
  |flat d=>exact .flat d|tuple a=>exact .tuple (j _ a)
 .intro n h;cases h;exact .nil
 .intro a b l m _ _ j w n h;cases h with|cons x y=>exact .cons (j _ x) (w _ y)
theorem JB.d{P:Program}{j d:B8}{W W':World}{i:Nat}{o:BO}(m:∀i L,j i=some L->d i=some L)(h0:JB P j W i o)(h:JB P d W' i o):JB P j W' i o:=by cases o with
 |dead=>trivial|row O Q g R=>
  obtain⟨n,C,S,T,p,D,x,U⟩:=h0;obtain⟨L,F,t,f,G,q,y,H⟩:=h;have e:L=n:=by grind
  subst e;refine⟨L,F,t,f,p,q,fun k v z=>?_,H⟩;obtain⟨X,_,r⟩:=x k v z;obtain⟨V,s,u⟩:=y k v z;exact⟨V,s,r.b m _ u⟩|map l=>
  obtain⟨n,I,Y,p,D,x⟩:=h0;obtain⟨L,J,c,G,q,y⟩:=h;have e:L=n:=by grind
  subst e;refine⟨L,J,c,p,q,?_⟩;have K:∀{l:List (Value×Value)}{A B:List MapEntry},BQ (fun(e:Value×Value)(E:MapEntry)=>AR j e.1 E.key/\AR j e.2 E.val) l A->BQ (fun(e:Value×Value)(E:MapEntry)=>AR d e.1 E.key/\AR d e.2 E.val) l B->BQ (fun(e:Value×Value)(E:MapEntry)=>AR j e.1 E.key/\AR j e.2 E.val) l B:=by intro l A B M;induction M generalizing B with
   |nil=>intro w;cases w;exact .nil|cons a _ N=>intro w;cases w with|cons b c=>exact .cons ⟨a.1.b m _ b.1,a.2.b m _ b.2⟩ (N c)
  grind
def E5:Value->Bool|.tuple a=>a.all flat|v=>flat v
theorem Ga{d:B8}{v V:Value}(b:E5 v=true)(h:AR d v V):V=v:=by
 unfold E5 at b;split at b;.rename_i g;cases h with|flat i=>rfl|tuple h=>
   rename_i e;have:∀{l m:List Value},BQ (AR d) l m->l.all flat=true->m=l:=by
    intro l m h;induction h with
    |nil=>intro _;rfl|cons a _ f=>
     intro c;simp only[az,ah]at c;rw[SM c.1 a,f c.2]
   have:=this h (by grind);simp_all
 .exact SM b h
theorem Hm{c:B8}{v:Value}(b:E5 v=true):AR c v v:=by
 unfold E5 at b;split at b
 .rename_i d;refine .tuple (BQ.Zt fun a e=>NZ ?_);have:d.toList.all flat=true:=by grind
  grind
 .exact NZ b
open Classical in
noncomputable def TU(call:AY):AY:=fun f a h=>match call f a h with|some (v,b)=>if E5 v=true∧∀i,i<h.a→b.c i=h.c i then some (v,h)else none|none=>none
theorem Bb{call:AY}{f:FuncId}{args:List Value}{h h':AA}{v:Value}(a:TU call f args h=some (v,h')):(∃b,call f args h=some (v,b)/\∀i,i<h.a->b.c i=h.c i)/\E5 v=true/\h'=h:=by
 unfold TU at a;split at a
 .rename_i c b d;split at a;.grind
  grind
 grind
theorem vX{call:AY}{f:FuncId}{args:List Value}{h h1:AA}{v:Value}(a:call f args h=some (v,h1))(b:E5 v=true)(c:∀i,i<h.a->h1.c i=h.c i):TU call f args h=some (v,h):=by unfold TU;simp_all
theorem pJ{P:Program}{call:AY}(u:EN P call):EN P (TU call)/\C_ (TU call):=by
 refine⟨fun f c h v p k=>?_,fun f c h v p k=>?_⟩
 .obtain⟨⟨z,w,x⟩,q,rfl⟩:=Bb k;obtain⟨l,m⟩:=u _ _ _ _ _ w;refine⟨l,fun r W d b a=>(m r W d b a).mono fun e A⟨V,y,g,n,o⟩=>?_⟩;rw[Ga q o]at g;refine⟨v,r,g,?_,Hm q⟩;refine⟨fun _ _ h=>h,fun _ _=>rfl,⟨b.f,b.d,b.b,fun i=>?_,b.c⟩,n.c,af _,rfl,fun _ _ _=>rfl,fun _ _ h=>h,fun _ _ h=>h,fun i L j s _=>by rw[NJ j]at s;exact s.elim⟩;rcases ar i p.a with j|j
  .have t:=n.b.a i;rw[x i j]at t;exact(b.a i).d n.e t
  .rw[NJ j];trivial
 .obtain⟨_,_,rfl⟩:=Bb k;exact .a _
end Go.Sx
namespace Go.Proofs.YtjailoenloejbaaGreatDoor
open Go Go.Sx
noncomputable def PQ(fs:List FuncId)(call:AY):AY:=fun f a h=>if fs.contains f then call f a h else none
theorem tK{P:Program}{fs:List FuncId}{call:AY}(c:EN P call/\C_ call):EN P (PQ fs call)/\C_ (PQ fs call):=by
 refine⟨fun f b h v d a=>?_,fun f b h v d a=>?_⟩
 .unfold PQ at a;split at a;.exact c.1 _ _ _ _ _ a
  grind
 .unfold PQ at a;split at a;.exact c.2 _ _ _ _ _ a
  grind
noncomputable def SK(fs:List FuncId)(base:AY)(k:Nat):AY:=JE base (PQ fs (TU (AW Tryz.prog (J2 Tryz.prog base k) k)))
section
variable {fs:List FuncId} {k m:Nat} {base:AY} {f:FuncId} {args:List Value} {h h1:AA} {v:Value} {r:Value × AA}
theorem xV(a:EN Tryz.prog base/\C_ base):EN Tryz.prog (SK fs base k)/\C_ (SK fs base k):=UJ a (tK (pJ (WC NA (S7 NA a.1 a.2 k).1 (S7 NA a.1 a.2 k).2 k).1))
theorem eI{a b:AY}(c:a f args h=some r):JE a b f args h=some r:=by unfold JE;rw[c]
theorem PH(a:base f args h=some r):SK fs base k f args h=some r:=eI a
theorem TY(a:base f args h=none)(b:fs.contains f=false):SK fs base k f args h=none:=by unfold SK JE PQ;grind
theorem IL{n:Nat}(a:base f args h=some r):J2 Tryz.prog base (n+1) f args h=some r:=by unfold J2;rw[a]
theorem TK{n:Nat}(a:base f args h=none):J2 Tryz.prog base (n+1) f args h=AW Tryz.prog (J2 Tryz.prog base n) n f args h:=by rw[J2,a]
theorem kI(g:base f args h=none)(j:fs.contains f=true)(a:E5 v=true)(b:∃h1,AW Tryz.prog (J2 Tryz.prog base k) k f args h=some (v,h1)/\∀i,i<h.a->h1.c i=h.c i):SK fs base k f args h=some (v,h):=by obtain⟨h1,c,d⟩:=b;have e:=vX c a d;unfold SK JE PQ;grind
end
end Go.Proofs.YtjailoenloejbaaGreatDoor
namespace Go.Proofs.YtjailoenloejbaaGreatDoor
open Go Go.Sx
set_option maxHeartbeats 0
structure AF where
 a:Int
 c:ByteArray
 d:Int
 n:Int
 b:Int
def CX(a kind:Int):Bool:=if a=8 then kind==1 else if a=0 then decide (kind>=2)&&decide (kind<=7)else if a=1 then decide (kind>=8)&&decide (kind<=10)else if a=2 then kind==11 else if a=3 then decide (kind>=11)&&decide (kind<=23)else if a=4 then kind==11||kind==12 else if a=5 then kind==25||kind==26 else if a=6 then kind==24 else decide (kind>=27)&&decide (kind<=54)
theorem XP{a kind:Int}(h:CX a kind=true):1<=kind/\kind<=54:=by unfold CX at h;(repeat' split at h)<;>simp at h<;>omega
def KD(k:Int):Bool:=[1,2,3,4,5,7,8,9,14,15,16,17,19,20,21,22,24,26,28,31,32,35,36,37,38].contains k
def MP(k:Int):Bool:=[16,17,19,20,21,24,26].contains k
def F8(k:Int):Int:=if[4,13].contains k then 3 else if[5,6,7,8,9,10,14,19,38,41,42].contains k then 1 else if[12,15,39,40].contains k||decide (k>=43)then 2 else 0
def DV(k:Int):Int:=if[1,11].contains k then -1 else if[4,12,13].contains k then 3 else if[5,6,7,8,9,10,14,19,20,38,41,42].contains k then 1 else if[15,39,40].contains k||decide (k>=43)then 2 else 0
def CH(kind:Int)(a:Nat):Int:=if kind=11 then 3 else if[7,8,9,10].contains kind then 2 else if kind=12 then(if a=0 then 7 else if a=1 then 2 else 4)else if kind=13 then(if a=2 then 2 else 7)else if kind=15 then(if a=0 then 5 else 7)else if[19,20].contains kind then 6 else if kind=38 then 5 else 7
section
variable (isName:ByteArray->Bool)
def EW(x:AF):Bool:=(isName x.c==KD x.a)&&(KD x.a||x.c==ByteArray.empty)&&(x.d==0||MP x.a&&x.d==1)&&(x.n==0||x.a==27&&decide (x.n>0)&&decide (x.n<=1073741824))&&decide (x.b>=F8 x.a)&&(decide (DV x.a<0)||decide (x.b<=DV x.a))
def G9(g:Nat->Nat->Nat×Bool):Nat->Nat->Nat->Nat×Bool|0,_,a=>(a,true)|r+1,k,a=>if(g k a).2=true then G9 g r (k+1) (g k a).1 else((g k a).1,false)
def C6(l:List AF):Nat->Nat->Int->Nat×Bool|0,a,_=>(a,false)|m+1,a,b=>match l[a]? with|none=>(a,false)|some x=>if(CX b x.a&&EW isName x)=true then G9 (fun k c=>C6 l m c (CH x.a k)) x.b.toNat 0 (a+1)else(a,false)
def RR(x:Option AF):Bool:=match x with|some x=>CX 1 x.a|none=>false
def KC(a:Bool)(x:Option AF):Int:=if(a||RR x)=true then 1 else 0
def GG(l:List AF)(m:Nat):Nat->Bool->Nat->Nat×Bool|0,_,a=>(a,true)|r+1,b,a=>if(C6 isName l m a (KC b l[a]?)).2=true then GG l m r (b||RR l[a]?) (C6 isName l m a (KC b l[a]?)).1 else((C6 isName l m a (KC b l[a]?)).1,false)
def JD(l:List AF)(m:Nat):Nat×Bool:=match l[0]? with|none=>(0,false)|some x=>if(CX 8 x.a&&EW isName x)=true then GG isName l m x.b.toNat false 1 else(0,false)
def KK(l:List AF):Option Nat:=if(JD isName l (l.length+1)).2=true/\(JD isName l (l.length+1)).1=l.length then none else some (JD isName l (l.length+1)).1
variable {isName}
theorem my{g:Nat->Nat->Nat×Bool}{b:Nat}(c:∀k p,p<=b->(g k p).2=true->p<(g k p).1/\(g k p).1<=b):∀r k p,p<=b->(G9 g r k p).2=true->p+r<=(G9 g r k p).1/\(G9 g r k p).1<=b:=by intro r;induction r with|zero=>intro k p a _;exact⟨af _,a⟩|succ r d=>intro k p a h;unfold G9 at h⊢;grind
theorem aP{l:List AF}:∀m a c,(C6 isName l m a c).2=true->a<(C6 isName l m a c).1/\(C6 isName l m a c).1<=l.length:=by
 intro m;induction m with
 |zero=>intro a c h;cases h|succ m e=>
  intro a c;unfold C6;cases f:l[a]? with
  |none=>simp|some x=>
   simp only;have d:=(ae.1 f).1;split
   .rename_i g;intro h;have:=my (b:=l.length) (fun k p _=>e p (CH x.a k)) x.b.toNat 0 (a+1) d h;omega
   simp
structure D9 where
 a:Int
 c:Nat
 b:Nat
def IU:List D9->List D9|[]=>[]|f::s=>if f.c=0 then IU s else f::s
def N9:List D9->List D9|[]=>[]|f::s=>⟨f.a,f.c-1,f.b+1⟩::s
theorem ZS{f:D9}{s:List D9}(h:f.c≠0):IU (f::s)=f::s:=by unfold IU;grind
theorem aH{f:D9}{s:List D9}(h:f.c=0):IU (f::s)=IU s:=by show(if f.c=0 then IU s else f::s)=IU s;grind
def PZ:List D9->Int|[]=>8|f::_=>if f.a=1 then 9 else CH f.a f.b
def IB(a kind:Int):Bool:=if a=9 then decide (kind>=2)&&decide (kind<=10)else CX a kind
def OU(l:List AF)(at_:Nat)(s:List D9)(a:Bool):Option Nat⊕(List D9×Bool):=match l[at_]? with
 |none=>.inl (some at_)|some x=>if(IB (PZ s) x.a&&EW isName x)=true then if PZ s=9/\a=true/\CX 0 x.a=true then .inl (some at_)else .inr (IU (⟨x.a,x.b.toNat,0⟩::N9 s),if PZ s=9 then a||CX 1 x.a else a)else .inl (some at_)
def JR(l:List AF):Nat->Nat->List D9->Bool->Option Nat|0,_,_,_=>none|m+1,a,s,d=>match OU (isName:=isName) l a s d with|.inl r=>r|.inr (c,b)=>if c=[]then(if a+1<l.length then some (a+1)else none)else JR l m (a+1) c b
def NG(l:List AF)(M at_:Nat)(s:List D9)(a:Bool):Option Nat:=if s=[]then(if at_<l.length then some at_ else none)else JR (isName:=isName) l M at_ s a
theorem iV{g:Nat->Nat->Nat×Bool}(a:∀k p,p<=(g k p).1):∀r k p,p<=(G9 g r k p).1:=by intro r;induction r with|zero=>intro k p;exact af _|succ r b=>intro k p;unfold G9;grind
theorem XW{l:List AF}:∀m b a,b<=(C6 isName l m b a).1:=by
 intro m;induction m with
 |zero=>intro b a;exact af _|succ m c=>
  intro b a;unfold C6;split;.omega
  .split;.exact dj (jp _) (iV (fun k p=>c p _) _ _ _)
   omega
theorem iK{k:Int}{j:Nat}:CH k j≠9/\CH k j≠8:=by unfold CH;(repeat' split)<;>decide
theorem mz{k:Int}{j:Nat}{q:Int}(h:CX (CH k j) q=true):q≠1:=by intro e;subst e;revert h;unfold CH;(repeat' split)<;>decide
def Sc(l:List AF)(m:Nat):Prop:=∀(a:Nat)(F:D9)(b:List D9)(c:Bool),F.a≠1->l.length<a+m->((C6 isName l m a (CH F.a F.b)).2=true->∀M,JR (isName:=isName) l (M+((C6 isName l m a (CH F.a F.b)).1-a)) a (F::b) c=NG (isName:=isName) l M (C6 isName l m a (CH F.a F.b)).1 (IU (N9 (F::b))) c)/\((C6 isName l m a (CH F.a F.b)).2=false->∀M,(C6 isName l m a (CH F.a F.b)).1-a<M->JR (isName:=isName) l M a (F::b) c=some (C6 isName l m a (CH F.a F.b)).1)
theorem Mj{l:List AF}{m:Nat}(u:Sc (isName:=isName) l m){b:Int}(e:b≠1)(D:List D9)(d:Bool):∀r k p,l.length<p+m->((G9 (fun k a=>C6 isName l m a (CH b k)) r k p).2=true->∀M,NG (isName:=isName) l (M+((G9 (fun k a=>C6 isName l m a (CH b k)) r k p).1-p)) p (IU (⟨b,r,k⟩::D)) d=NG (isName:=isName) l M (G9 (fun k a=>C6 isName l m a (CH b k)) r k p).1 (IU D) d)/\((G9 (fun k a=>C6 isName l m a (CH b k)) r k p).2=false->∀M,(G9 (fun k a=>C6 isName l m a (CH b k)) r k p).1-p<M->NG (isName:=isName) l M p (IU (⟨b,r,k⟩::D)) d=some (G9 (fun k a=>C6 isName l m a (CH b k)) r k p).1):=by
 intro r;induction r with
 |zero=>
  intro k p n;refine⟨fun _ M=>?_,fun h=>(by cases h)⟩;rw[aH rfl];simp[G9]|succ r v=>
  intro k p n;obtain⟨f,o⟩:=u p ⟨b,r+1,k⟩ D d e n;simp only at f o;have i:IU (⟨b,r+1,k⟩::D)=⟨b,r+1,k⟩::D:=ZS (by simp);have s:N9 (⟨b,r+1,k⟩::D)=⟨b,r,k+1⟩::D:=rfl;have c:∀M,NG (isName:=isName) l M p (⟨b,r+1,k⟩::D) d=JR (isName:=isName) l M p (⟨b,r+1,k⟩::D) d:=fun M=>by unfold NG;simp
  have j:=XW (isName:=isName) (l:=l) m p (CH b k);rw[i];simp only[c];unfold G9;generalize y:C6 isName l m p (CH b k)=q at f o j;cases w:q.2 with
  |true=>
   simp only[ai];have x:p<q.1/\q.1<=l.length:=by
    have:=aP (isName:=isName) (l:=l) m p (CH b k);grind
   obtain⟨z,A⟩:=v (k+1) q.1 (by omega);have t:=iV (g:=fun k a=>C6 isName l m a (CH b k)) (fun k p=>XW m p _) r (k+1) q.1;refine⟨fun h M=>?_,fun h M B=>?_⟩;.grind
   .have:=f w (M-(q.1-p));grind|false=>simp only[aV,bi];grind
theorem Ws{F:D9}{rest:List D9}(a:F.a≠1):PZ (F::rest)=CH F.a F.b/\(∀k,IB (CH F.a F.b) k=CX (CH F.a F.b) k)/\PZ (F::rest)≠9:=by
 have h:PZ (F::rest)=CH F.a F.b:=by
  show(if F.a=1 then 9 else CH F.a F.b)=_;omega
 refine⟨h,fun k=>?_,by rw[h];exact iK.1⟩;unfold IB;rw[ad iK.1]
theorem mA{l:List AF}:∀m,Sc (isName:=isName) l m:=by
 intro m;induction m with
 |zero=>
  intro a F rest c o d;refine⟨fun h=>(by cases h),fun _ M q=>?_⟩;have e:l[a]?=none:=by grind
  obtain⟨M,rfl⟩:∃f,M=f+1:=⟨M-1,by omega⟩;simp[JR,OU,e,C6]|succ m v=>
  intro a F rest c o d;obtain⟨r,s,y⟩:=Ws (rest:=rest) o;have t:∀M,0<M->(l[a]?=none\/∃x,l[a]?=some x/\(CX (CH F.a F.b) x.a&&EW isName x)=false)->JR (isName:=isName) l M a (F::rest) c=some a:=by
   intro M q h;obtain⟨M,rfl⟩:∃f,M=f+1:=⟨M-1,by omega⟩;rcases h with h|⟨x,e,j⟩;.simp[JR,OU,h]
   .simp only[JR,OU,e,r,s,j,aV,bi]
  unfold C6;cases e:l[a]? with|none=>simp only;grind|some x=>simp only;cases j:(CX (CH F.a F.b) x.a&&EW isName x)with
   |false=>simp only[aV,bi];grind|true=>
    simp only[ai];have n:=mz (ey.1 j).1;have u:∀M,JR (isName:=isName) l (M+1) a (F::rest) c=NG (isName:=isName) l M (a+1) (IU (⟨x.a,x.b.toNat,0⟩::N9 (F::rest))) c:=by
     intro M;simp only[JR,OU,e,r,s,j,ai,iK.1,false_and,bi];rfl
    obtain⟨z,A⟩:=Mj v n (N9 (F::rest)) c x.b.toNat 0 (a+1) (by omega);have w:=iV (g:=fun k i=>C6 isName l m i (CH x.a k)) (fun k p=>XW m p _) x.b.toNat 0 (a+1);refine⟨fun h M=>?_,fun h M q=>?_⟩;.grind
    .obtain⟨M,rfl⟩:∃f,M=f+1:=⟨M-1,by omega⟩;grind
theorem Bu{l:List AF}{m:Nat}:∀r a p,p<=(GG isName l m r a p).1:=by
 intro r;induction r with
 |zero=>intro a p;exact af _|succ r b=>
  intro a p;unfold GG;split;.exact dj (XW m p _) (b _ _)
  .exact XW m p _
theorem mC{l:List AF}{m:Nat}:∀r a p,p<=l.length->(GG isName l m r a p).2=true->p+r<=(GG isName l m r a p).1/\(GG isName l m r a p).1<=l.length:=by
 intro r;induction r with
 |zero=>intro a p b _;exact⟨af _,b⟩|succ r d=>
  intro a p b h;unfold GG at h⊢;split at h
  .rename_i c;rw[ag c];have e:=aP (isName:=isName) (l:=l) m p _ c;grind
  .cases h
theorem jA{k:Int}:(CX 0 k=true->IB 9 k=true/\CX 1 k=false/\k≠1)/\(CX 1 k=true->IB 9 k=true/\CX 0 k=false/\k≠1)/\(IB 9 k=true->CX 0 k=true\/CX 1 k=true):=by unfold IB CX;simp only[ai,Int.reduceEq,bi,ah,am,Bool.and_eq_false_iff,bk];omega
theorem mE{l:List AF}{m:Nat}:∀r a k p,l.length<p+m->((GG isName l m r a p).2=true->∀M,NG (isName:=isName) l (M+((GG isName l m r a p).1-p)) p (IU [⟨1,r,k⟩]) a=NG (isName:=isName) l M (GG isName l m r a p).1 [] false)/\((GG isName l m r a p).2=false->∀M,(GG isName l m r a p).1-p<M->NG (isName:=isName) l M p (IU [⟨1,r,k⟩]) a=some (GG isName l m r a p).1):=by
 intro r;induction r with
 |zero=>
  intro a k p D;refine⟨fun _ M=>?_,fun h=>(by cases h)⟩;rw[aH rfl];show NG (isName:=isName) l (M+(p-p)) p [] a=NG (isName:=isName) l M p [] false;rw[jc];rfl|succ r E=>
  intro a k p D;have n:IU [⟨1,r+1,k⟩]=[⟨1,r+1,k⟩]:=ZS (by simp);have f:N9 [⟨1,r+1,k⟩]=[⟨1,r,k+1⟩]:=rfl;have c:∀M,NG (isName:=isName) l M p [⟨1,r+1,k⟩] a=JR (isName:=isName) l M p [⟨1,r+1,k⟩] a:=fun M=>by unfold NG;simp
  have y:PZ [⟨1,r+1,k⟩]=9:=rfl;rw[n];simp only[c];unfold GG;have o:∀M,0<M->(l[p]?=none\/∃x,l[p]?=some x/\(CX (KC a l[p]?) x.a&&EW isName x)=false)->JR (isName:=isName) l M p [⟨1,r+1,k⟩] a=some p:=by
   intro M z h;obtain⟨M,rfl⟩:∃s,M=s+1:=⟨M-1,by omega⟩;rcases h with h|⟨x,d,i⟩;.simp[JR,OU,h]
   .simp only[JR,OU,d,y];cases F:EW isName x with|false=>simp|true=>
     rw[F,Bool.and_true,d]at i;simp only[KC,RR]at i;cases e:IB 9 x.a with|false=>simp|true=>
      rcases jA.2.2 e with I|J;.grind
      grind
  cases m with
  |zero=>
   have d:l[p]?=none:=by grind
   simp only[C6,aV,bi];grind|succ m=>
   unfold C6;cases d:l[p]? with
   |none=>simp only[aV,bi];grind|some x=>
    simp only;rw[d]at o;cases i:(CX (KC a (some x)) x.a&&EW isName x)with
    |false=>
     simp only[aV,bi];grind|true=>
     simp only[ai];have e:=(ey.1 i).1;have j:=(ey.1 i).2;have t:RR (some x)=CX 1 x.a:=rfl;have u:IB 9 x.a=true/\x.a≠1/\¬(a=true/\CX 0 x.a=true):=by
      unfold KC at e;split at e
      .rename_i G;have:=jA.2.1 e;grind
      .rename_i G;have:=jA.1 e;grind
     have A:∀M,JR (isName:=isName) l (M+1) p [⟨1,r+1,k⟩] a=NG (isName:=isName) l M (p+1) (IU (⟨x.a,x.b.toNat,0⟩::[⟨1,r,k+1⟩])) (a||CX 1 x.a):=by
      intro M;simp only[JR,OU,d,y,u.1,j,ao,ai,true_and,f];rw[ad u.2.2];rfl
     obtain⟨B,H⟩:=Mj (mA (isName:=isName) (l:=l) m) u.2.1 [⟨1,r,k+1⟩] (a||CX 1 x.a) x.b.toNat 0 (p+1) (by omega);have v:=iV (g:=fun k b=>C6 isName l m b (CH x.a k)) (fun k p=>XW m p _) x.b.toNat 0 (p+1);generalize K:G9 (fun k b=>C6 isName l m b (CH x.a k)) x.b.toNat 0 (p+1)=q at B H v;cases w:q.2 with
     |false=>simp only[aV,bi];refine⟨fun h=>(by cases h),fun _ M z=>?_⟩;obtain⟨M,rfl⟩:∃s,M=s+1:=⟨M-1,by omega⟩;grind|true=>
      simp only[ai];rw[t];obtain⟨L,N⟩:=E (a||CX 1 x.a) (k+1) q.1 (by omega);have C:=Bu (isName:=isName) (l:=l) (m:=m+1) r (a||CX 1 x.a) q.1;refine⟨fun h M=>?_,fun h M z=>?_⟩;.grind
      .have:=B w (M-(q.1-p));grind
theorem mL{g:Nat->Nat->Nat×Bool}{b:Nat}(c:∀k p,p<=b->(g k p).1<=b):∀r k p,p<=b->(G9 g r k p).1<=b:=by intro r;induction r with|zero=>intro k p a;exact a|succ r d=>intro k p a;unfold G9;grind
theorem oT{l:List AF}:∀m b a,b<=l.length->(C6 isName l m b a).1<=l.length:=by
 intro m;induction m with
 |zero=>intro b a h;exact h|succ m d=>
  intro b a h;unfold C6;split;.exact h
  .rename_i x e;have c:=(ae.1 e).1;split;.exact mL (fun k p f=>d p _ f) _ _ _ c
   .exact h
theorem Oq{l:List AF}{m:Nat}:∀r b p,p<=l.length->(GG isName l m r b p).1<=l.length:=by
 intro r;induction r with
 |zero=>intro b p a;exact a|succ r c=>
  intro b p a;unfold GG;split;.exact c _ _ (oT m p _ a)
  .exact oT m p _ a
theorem mQ{l:List AF}{M:Nat}(t:l.length<M):JR (isName:=isName) l M 0 [] false=KK isName l:=by
 obtain⟨M,rfl⟩:∃o,M=o+1:=⟨M-1,by omega⟩;unfold KK JD;cases d:l[0]? with
 |none=>simp[JR,OU,d]|some x=>
  have p:=(ae.1 d).1;have g:∀k,IB 8 k=CX 8 k:=fun k=>rfl;have h:PZ []=8:=rfl;simp only;cases e:(CX 8 x.a&&EW isName x)with|false=>simp[JR,OU,d,h,g,e]|true=>
   simp only[ai];have r:x.a=1:=by have:=(ey.1 e).1;simpa[CX]using this
   have a:JR (isName:=isName) l (M+1) 0 [] false=NG (isName:=isName) l M 1 (IU [⟨1,x.b.toNat,0⟩]) false:=by
    simp only[JR,OU,d,h,g,e,ai];simp only[r,show((8:Int)=9)=False by simp,false_and,bi];rfl
   rw[a];obtain⟨i,s⟩:=mE (isName:=isName) (l:=l) (m:=l.length+1) x.b.toNat false 0 1 (by omega);have f:=Bu (isName:=isName) (l:=l) (m:=l.length+1) x.b.toNat false 1;have b:=mC (isName:=isName) (l:=l) (m:=l.length+1) x.b.toNat false 1 (by omega);have c:=Oq (isName:=isName) (l:=l) (m:=l.length+1) x.b.toNat false 1 (by omega);generalize GG isName l (l.length+1) x.b.toNat false 1=q at i s f b c;cases j:q.2 with
   |true=>
    have:=b j;have n:=i j (M-(q.1-1));rw[show M-(q.1-1)+(q.1-1)=M by omega]at n;rw[n];unfold NG;grind|false=>grind
end
end Go.Proofs.YtjailoenloejbaaGreatDoor
namespace Go.Sx
open Go
set_option maxHeartbeats 0
def RC:Value->Bool|.func (.func _) f c=>f.isEmpty&&c.isEmpty|v=>flat v
theorem mR{d b:B8}{v V:Value}(a:RC v=true)(h:AR d v V):AR b v V:=by
 unfold RC at a;split at a
 .rename_i k f c;simp only[ah,Array.isEmpty_iff]at a;obtain⟨rfl,rfl⟩:=a;obtain⟨e,g,rfl,i,j⟩:=aY h;have l:e=#[]:=by have:=i.Z6;grind
  have m:g=#[]:=by have:=j.Z6;grind
  subst l;subst m;exact .func .nil .nil
 .rw[SM a h];exact NZ a
theorem Og{c a:B8}{l:List Value}{m:List Value}(b:l.all RC=true)(h:BQ (AR c) l m):BQ (AR a) l m:=by induction h with
 |nil=>exact .nil|cons h _ d=>
  simp only[az,ah]at b;exact .cons (mR b.1 h) (d b.2)
end Go.Sx




