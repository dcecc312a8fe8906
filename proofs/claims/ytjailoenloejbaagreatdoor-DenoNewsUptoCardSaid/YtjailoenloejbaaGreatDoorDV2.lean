/- Part 2. -/
import Derived.Test.YtjailoenloejbaaGreatDoorDV1
import Derived.Laws.Cells
import Derived.Laws.CopyRow
import Derived.Laws.AppendOwn
import Derived.Laws.MakeOwn
set_option linter.all false
namespace Go.Sx
open Go
set_option maxHeartbeats 0
section runs
variable {P:Program} {W:World}
theorem yG{c:Type}{m:Sem c}{a:c}(h:BZ P m=some a):m.run P W=.ok a W:=by induction m with
 |pure b=>simp[BZ]at h;simp_all|program k d=>simp only[BZ]at h;simp only[Sem.run];grind|mark m k d=>simp only[BZ]at h;simp only[Sem.run];grind|_=>simp[BZ]at h
theorem L7{t:TypeId}{n:Nat}(h:BN P t=some n):(sizeOf t).run P W=.ok n W:=by unfold BN at h;cases a:P.info? t with|none=>grind|some i=>simp[a]at h;simp[sizeOf,typeInfo,a,h]
theorem US{t:TypeId}{z:Value}(h:DK P t=some z):(zeroValue t).run P W=.ok z W:=by unfold DK at h;cases a:P.info? t with|none=>grind|some i=>simp[a]at h;simp[zeroValue,typeInfo,a,h]
theorem iR{t:TypeId}{b:Bool}(h:HC P t=some b):(isAgg t).run P W=.ok b W:=by unfold HC at h;cases a:P.underlying t with|none=>grind|some d=>cases d<;>simp[a]at h<;>subst h<;>simp[isAgg,ay a]
theorem KL(b o n:Nat):(⟨b,o,none⟩:Addr).add n=⟨b,o+n,none⟩:=by unfold Addr.add;simp
theorem jw{b off:Nat}{a:Array Value}{ty:TypeId}{c:Nat×Nat}(d:W.heap[b]?=some (.cells a ty c)){l:List Value}{n:Nat}(e:l.length=n)(f:∀(k:Nat)(v:Value),l[k]?=some v->a[off+k]?=some v):(loadCells ⟨b,off,none⟩ n).run P W=.ok l.toArray W:=by subst e;refine run_loadCells_list W _ l fun j v g=>?_;rw[KL,cell_of_row W b (off+j) a ty c d];grind
theorem Gd(v:Value):one v=v.oneCell':=by cases v<;>rfl
end runs
def F9(a:B8)(i:Nat)(L:Loc):B8:=fun j=>if j=i then some L else a j
theorem LW(a:B8)(i:Nat)(L:Loc):F9 a i L i=some L:=by simp[F9]
theorem MK{a:B8}{i j:Nat}{L:Loc}(h:j≠i):F9 a i L j=a j:=by simp[F9,h]
section
variable {P:Program} {ρ:B8} {h:AA} {W:World}
theorem CV.e(c:CV P ρ h W){L:Loc}:∀i a,ρ i=some a->F9 ρ h.a L i=some a:=by
 intro i a b;rw[MK];.exact b
 .rintro rfl;rw[c.d _ (af _)]at b;cases b
theorem CV.i(c:CV P ρ h W){i:Nat}{L:Loc}(hi:ρ i=some L):i<h.a:=by
 rcases ar i h.a with a|b;.exact a
 .rw[c.d _ b]at hi;cases hi
theorem Dc(e:CV P ρ h W){o:BO}{O:Obj}{L:Loc}{W1:World}(h1:W1.heap=W.heap)(t:W1.os=W.os)(u:W1.tape=W.tape)(r:W1.output=W.output)(z:L.b=W.heap.size)(B:JB P (F9 ρ h.a L) (W1.alloc O) h.a o):Nx P ρ h W (F9 ρ h.a L) (h.d o) (W1.alloc O):=by
 have v:=e.e (L:=L);have C:(W1.alloc O).heap.size=W.heap.size+1:=by simp[h1]
 have k:∀b,b<W.heap.size->(W1.alloc O).heap[b]?=W.heap[b]?:=fun b z=>by rw[heap_alloc_old W1 O b (by rw[h1];exact z),h1]
 have m:∀i,i≠h.a->JB P (F9 ρ h.a L) (W1.alloc O) i (h.c i):=fun i a=>(e.a i).a v fun w f p=>by
   obtain⟨A,l,n⟩:=(e.a i).b p;rw[f]at l;cases l;exact k _ n
 refine⟨v,fun i a=>MK (by omega),⟨vV e.f,?_,?_,?_,?_⟩,⟨t,u,r,by omega,fun b x _=>k b x⟩,by simp[AA.d],rfl,?_,?_,?_,?_⟩
 .intro i a;simp only[AA.d]at a;rw[MK (by omega)];exact e.d i (by omega)
 .intro g D;obtain⟨w,h1,E,F⟩:=e.b g D;exact⟨w,v _ _ h1,E,F⟩
 .intro i;by_cases a:i=h.a;.subst a;rw[BJ];exact B
  .rw[UF a];exact m i a
 .intro i j G H c p d a q;by_cases s:i=h.a
  .subst s;rw[LW]at a;cases a;rw[MK (bc d)]at q;rw[UF (bc d)]at p;obtain⟨A,l,n⟩:=(e.a j).b p;rw[q]at l;cases l;omega
  .by_cases y:j=h.a
   .subst y;rw[LW]at q;cases q;rw[MK d]at a;rw[UF d]at c;obtain⟨A,l,n⟩:=(e.a i).b c.a;rw[a]at l;cases l;omega
   .rw[MK s]at a;rw[MK y]at q;rw[UF s]at c;rw[UF y]at p;exact e.c i j G H c p d a q
 .intro i a _;exact AV a
 .intro i a c;rwa[AV a]at c
 .intro i a c;rwa[AV a]at c
 .intro i w a c f;left;by_cases s:i=h.a
  .subst s;rw[LW]at f;cases f;omega
  .rw[NJ (by simp[AA.d];omega)]at c;exact c.elim
theorem uM(d:CV P ρ h W){i:Nat}{o:BO}{W':World}{L:Loc}(n:wr (h.c i))(I:h.b<=i)(y:ρ i=some L)(p:W'.os=W.os)(q:W'.tape=W.tape)(g:W'.output=W.output)(r:W.heap.size<=W'.heap.size)(k:∀b,b<W.heap.size->b≠L.b->W'.heap[b]?=W.heap[b]?)(C:JB P ρ W' i o):Nx P ρ h W ρ (h.e i o) W':=by
 have f:=d.i y;refine⟨fun _ _ h=>h,fun _ _=>rfl,⟨XR d.f,?_,d.b,?_,?_⟩,⟨p,q,g,r,?_⟩,af _,rfl,?_,?_,?_,?_⟩;.intro j l;exact d.d j l
 .intro j;by_cases e:i=j;.subst e;rw[BE d.f f];exact C
  .rw[AP f e];exact(d.a j).a (fun _ _ h=>h) fun z m A=>by
    obtain⟨J,B,s⟩:=(d.a j).b A;rw[m]at B;cases B;exact k _ s (bc (d.c i j L z n A e y m))
 .intro a b D E t u v w x;have F:wr (h.c a):=by
   by_cases e:i=a;.grind
   .rwa[AP f e]at t
  have G:live (h.c b):=by
   by_cases e:i=b;.subst e;exact n.a
   .rwa[AP f e]at u
  exact d.c a b D E F G v w x
 .grind
 .intro j l H;exact AP f (by omega)
 .intro j l c;by_cases e:i=j;.grind
  .rwa[AP f e]at c
 .intro j l c;by_cases e:i=j;.subst e;exact n.a
  .rwa[AP f e]at c
 .intro j z l c _;rw[NJ (by assumption)]at c;exact c.elim
theorem YS{id:Nat}{cs:List Value}{ty:TypeId}{g ro:Bool}(i:CV P ρ h W)(j:h.c id=.row cs ty g ro){L:Loc}(l:ρ id=some L):∃c a f,W.heap[L.b]?=some (.cells c a f)/\(∀(k:Nat)(v:Value),cs[k]?=some v->∃V,c[L.d+k]?=some V/\AR ρ v V)/\(ro=false->f=(0,0)/\a=ty/\L.d+L.e=c.size/\BN P ty=some L.z):=by have:=i.a id;rw[j]at this;obtain⟨m,c,a,f,n,o,p,q⟩:=this;grind
theorem Cw{cs l:List Value}{off n:Nat}(a:GN cs off n=some l):l.length=n/\∀(k:Nat)(v:Value),l[k]?=some v->cs[off+k]?=some v:=by unfold GN at a;grind
theorem kB{cs l:List Value}{off n d:Nat}{c:Array Value}(e:GN cs off n=some l)(b:∀(k:Nat)(v:Value),cs[k]?=some v->∃V,c[d+k]?=some V/\AR ρ v V):∃m:List Value,m.length=n/\BQ (AR ρ) l m/\∀(k:Nat)(V:Value),m[k]?=some V->c[d+off+k]?=some V:=by
 obtain⟨g,f⟩:=Cw e;clear e;subst g;induction l generalizing off with
 |nil=>exact⟨[],rfl,.nil,by simp⟩|cons a l i=>
  obtain⟨V,q,j⟩:=b off a (by simpa using f 0 a rfl);obtain⟨m,o,p,r⟩:=i (off:=off+1) (fun k v s=>by have:=f (k+1) v (by assumption);grind);refine⟨V::m,by simp[o],.cons j p,fun k X t=>?_⟩;grind
theorem Di(o:CV P ρ h W){t:TypeId}{a A v:Value}(p:AR ρ a A)(c:EP P h t a=some v):∃V,(Instr.loadAt t A).run P W=.ok V W/\AR ρ v V:=by
 unfold EP at c;split at c
 .rename_i C e;split at c
  .rename_i D E g F q;obtain⟨L,r,rfl⟩:=tQ p;obtain⟨s,j,u,k,f,_⟩:=YS o q r;split at c
   .rename_i b;split at c
    .rename_i n w;split at c
     .rename_i l i;cases c;obtain⟨m,x,G,y⟩:=kB i f;refine⟨.agg m.toArray,?_,.agg (by assumption)⟩;simp[Instr.loadAt,Instr.sureAddr,loadVar,iR b,L7 w,jw k x y]
     grind
    grind
   .rename_i b;obtain⟨V,z,B⟩:=f e v c;refine⟨V,?_,B⟩;have d:W.cell? ⟨L.b,L.d+e,none⟩=some V:=by rw[cell_of_row W L.b _ s j u k];exact z
    simp[Instr.loadAt,Instr.sureAddr,loadVar,iR b,d]
   grind
  grind
 grind
theorem Cj{cs new:List Value}{off:Nat}(h:off+new.length<=cs.length):(lay cs off new).length=cs.length:=by simp[lay];omega
theorem ZQ{cs new:List Value}{off k:Nat}(h:off+new.length<=cs.length):(lay cs off new)[k]?=if off<=k/\k<off+new.length then new[k-off]? else cs[k]?:=by
 unfold lay;have a:(cs.take off).length=off:=by grind
 grind
theorem dQ(y:CV P ρ h W){id off:Nat}{new New:List Value}{h':AA}(p:BQ (AR ρ) new New){L:Loc}(q:ρ id=some L)(n:HW h id off new=some h'):∃z,(storeCells ⟨L.b,L.d+off,none⟩ New).run P W=.ok () z/\Nx P ρ h W ρ h' z:=by
 unfold HW at n;split at n
 .rename_i e N g A;split at n
  .rename_i B;simp only[ah,am]at B;obtain⟨⟨H,f⟩,C⟩:=B;cases n;obtain⟨CS,ty',O,D,i,j⟩:=YS y A q;obtain⟨rfl,rfl,r,I⟩:=j rfl;have J:=p.Z6.symm;have E:L.d+off+New.length<=CS.size:=by
    rcases gN New.length with K|K
    .rcases gN e.length with s|s;.omega
     .have t:=i (e.length-1) e[e.length-1] (aa (by omega));grind
    .obtain⟨V,u,_⟩:=i (off+new.length-1) e[off+new.length-1] (aa (by omega));grind
   have M:∀v∈New,v.oneCell'=true:=by
    intro V u;obtain⟨k,F⟩:=dn u;obtain⟨v,o,G⟩:=p.YK F;rw[<-Gd,Hz G];grind
   have l:=run_storeCells_at P L.b (L.d+off) ty' New 0 CS W D (by assumption) M;refine⟨_,l,?_⟩;simp only[fe];have m:(W.setRow L.b (CS.toList.take (L.d+off)++New++CS.toList.drop (L.d+off+New.length)).toArray).heap[L.b]?=some (.cells (lay CS.toList (L.d+off) New).toArray ty' (0,0)):=setRow_heap W L.b CS _ ty' _ D;refine uM y (L:=L) (by rw[A];rfl) H q rfl rfl rfl (by simp) (fun b _ w=>setRow_other W L.b b _ w) ?_;refine⟨L,_,_,_,q,m,?_,fun _=>⟨rfl,rfl,?_,I⟩⟩
   .intro k v o;rw[ZQ f]at o;have x:=ZQ (cs:=CS.toList) (new:=New) (off:=L.d+off) (k:=L.d+k) (by assumption);simp only[dr];rw[x];split at o
    .rename_i F;obtain⟨V,u,G⟩:=p.Zz o;grind
    grind
   .rw[r];simp[Cj (cs:=CS.toList) (new:=New) (off:=L.d+off) (by assumption)]
  grind
 grind
theorem jx(i:CV P ρ h W){t:TypeId}{a A v V:Value}{h':AA}(j:AR ρ a A)(k:AR ρ v V)(c:BD P h t a v=some h'):∃d,(Instr.storeAt t A V).run P W=.ok () d/\Nx P ρ h W ρ h' d:=by
 unfold BD at c;split at c
 .rename_i o l;split at c
  .rename_i e;obtain⟨L,m,rfl⟩:=tQ j;have g:=f_ k;have f:V.cells.size=v.cells.size:=by simpa using g.Z6.symm
   obtain⟨d,b,n⟩:=dQ i g m c;refine⟨d,?_,n⟩;simp[Instr.storeAt,Instr.sureAddr,storeVar,L7 e,f,b]
  grind
 grind
end
section
variable {P:Program} {ρ:B8} {h:AA} {W:World}
theorem Iq{a:Addr}{A:Value}(d:AR ρ (.pointer (some a)) A)(n:Nat):∃B:Addr,A=.pointer (some B)/\AR ρ (.pointer (some (a.add n))) (.pointer (some (B.add n))):=by obtain⟨L,e,c,rfl⟩:=WV d;obtain⟨b,o,s⟩:=a;simp only at c;subst c;refine⟨_,rfl,?_⟩;rw[KL,KL,gf];exact .ptr e
theorem LU{a:Option Addr}{n c:Nat}{V:Value}(f:AR ρ (.slice a n c) V):(a=none/\n=0/\c=0/\V=.slice none 0 0)\/(∃d b L,a=some ⟨d,b,none⟩/\ρ d=some L/\c<AT/\V=.slice (some ⟨L.b,L.d+b,none⟩) n c)\/(∃d b L A C,a=some ⟨d,b,none⟩/\ρ d=some L/\c=AT/\(n<=C/\C<AT)/\V=.slice (some A) n C/\((C=0\/(n=0/\L.z=0))\/(A=⟨L.b,L.d+b,none⟩/\b+C*L.z=L.e))):=by cases f with
 |flat g=>
  left;cases a with
  |none=>cases n<;>cases c<;>simp_all[B7]|some a=>simp[B7]at g
 |slice e l=>grind|sliceU e i j k=>exact .inr (.inr ⟨_,_,_,_,_,rfl,e,rfl,⟨i,j⟩,rfl,k⟩)
theorem Uc{t:TypeId}{x X i I v:Value}(o:AR ρ x X)(hi:AR ρ i I)(b:BW P t x i=some v):∃V,(Instr.indexAt t X I).run P W=.ok V W/\AR ρ v V:=by
 unfold BW at b;split at b
 .rename_i e a l p k n g;split at b
  .rename_i c;split at b
   .rename_i s j;cases b;obtain rfl:=P_ hi;rcases LU o with⟨f,_⟩|⟨q,d,L,f,m,_,rfl⟩|⟨q,d,L,A,C,f,m,_,w,rfl,r⟩;.cases f
    .cases f;refine⟨.pointer (some ((⟨L.b,L.d+d,none⟩:Addr).add (n.toNat*s))),?_,?_⟩;.simp[Instr.indexAt,ay g,asIntOf,c.1,c.2,L7 j]
     .rw[KL,KL,gf];exact .ptr m
    .cases f;rcases r with(rfl|⟨rfl,_⟩)|⟨rfl,_⟩;.omega
     .omega
     .refine⟨.pointer (some ((⟨L.b,L.d+d,none⟩:Addr).add (n.toNat*s))),?_,?_⟩;.simp[Instr.indexAt,ay g,asIntOf,c.1,c.2,L7 j]
      .rw[KL,KL,gf];exact .ptr m
   grind
  grind
 .rename_i l e a k n g;split at b
  .rename_i c;split at b
   .rename_i s j;cases b;obtain rfl:=P_ hi;obtain⟨B,rfl,u⟩:=Iq o (n.toNat*s);exact⟨_,by simp[Instr.indexAt,ay g,asIntOf,Instr.sureAddr,c.1,c.2,L7 j],u⟩
   grind
  grind
 grind
theorem YH{x X:Option Value}{d hi m:Nat}{code:BoundsCode}(c:BQ (AR ρ) x.toList X.toList)(b:FI x d 0 hi=some m):(x=none/\X=none/\m=d)\/(∃v,X=some v/\(∃w,x=some w)/\m<=hi/\∀a code,hi<=a->(Instr.sliceBound v a code).run P W=.ok m W):=by cases x with
 |none=>cases X with|none=>simp[FI]at b;grind|some V=>cases c
 |some v=>cases X with
  |none=>cases c|some V=>simp at c;cases c with|cons e _=>
   unfold FI at b;split at b;.grind
   .rename_i k n f;cases f;obtain rfl:=P_ e;split at b
    .rename_i j;cases b;refine .inr ⟨_,rfl,⟨_,rfl⟩,by omega,fun a code l=>?_⟩;have g:0<=n:=by omega
     have i:n<=(a:Int):=by omega
     simp[Instr.sliceBound,asIntOf,g,i]
    grind
   grind
theorem mX{t e:TypeId}{s:Nat}(f:P.underlying t=some (.slice e))(g:BN P e=some s){A:Option Addr}{len cap l a m:Nat}{b c d:Option Value}(i:(Instr.sliceBounds true len cap b c d).run P W=.ok (l,a,m) W):(Instr.sliceAt t (.slice A len cap) b c d).run P W=.ok (.slice (if m=l then A else A.map (·.add (l*s))) (a-l) (m-l)) W:=by simp[Instr.sliceAt,Instr.slice,ay f,i,L7 g]
theorem bS{len cap l n m:Nat}{lo hi i q r j:Option Value}(b:BQ (AR ρ) lo.toList q.toList)(d:BQ (AR ρ) hi.toList r.toList)(e:BQ (AR ρ) i.toList j.toList){top tp:Nat}(a:top<=m)(h1:(i=none/\m=cap)\/(∃v,i=some v/\FI i 0 0 cap=some m/\∃w,hi=some w))(s:FI hi len 0 top=some n)(o:FI lo 0 0 n=some l)(t:Bool):(Instr.sliceBounds t len cap q r j).run P W=.ok (l,n,m) W:=by
 rcases h1 with⟨rfl,rfl⟩|⟨v,rfl,h1,⟨w,rfl⟩⟩
 .have:j=none:=by cases j with|none=>rfl|some _=>cases e
  subst this;rcases YH (P:=P) (W:=W) (code:=.index) d s with⟨rfl,rfl,rfl⟩|⟨V,rfl,⟨w,rfl⟩,u,k⟩
  .rcases YH (P:=P) (W:=W) (code:=.index) b o with⟨rfl,rfl,rfl⟩|⟨V,rfl,_,u,k⟩;.simp[Instr.sliceBounds]
   .simp[Instr.sliceBounds,k _ _ (af _)]
  .rcases YH (P:=P) (W:=W) (code:=.index) b o with⟨rfl,rfl,rfl⟩|⟨V,rfl,_,p,c⟩;.simp[Instr.sliceBounds,k _ _ a]
   .simp[Instr.sliceBounds,k _ _ a,c _ _ (af _)]
 .rcases YH (P:=P) (W:=W) (code:=.index) e h1 with⟨h,_⟩|⟨z,rfl,_,x,f⟩;.cases h
  .rcases YH (P:=P) (W:=W) (code:=.index) d s with⟨h,_⟩|⟨A,rfl,_,y,g⟩;.cases h
   .rcases YH (P:=P) (W:=W) (code:=.index) b o with⟨rfl,rfl,rfl⟩|⟨V,rfl,_,p,c⟩;.simp[Instr.sliceBounds,f _ _ (af _),g _ _ a]
    .simp[Instr.sliceBounds,f _ _ (af _),g _ _ a,c _ _ (af _)]
theorem Z_{x:Option Value}{d hi m:Nat}(a:FI x d 0 hi=some m):m=d\/m<=hi:=by unfold FI at a;grind
theorem Ys{x:Option Value}{a b m:Nat}(e:x.isSome)(c:FI x 0 0 a=some m)(d:a<=b):FI x 0 0 b=some m:=by unfold FI at c⊢;grind
theorem jy{t e:TypeId}{s:Nat}(D:P.underlying t=some (.slice e))(E:BN P e=some s){a:Option Addr}{len:Nat}{X v:Value}{lo hi n y z B:Option Value}(F:AR ρ (.slice a len AT) X)(o:BQ (AR ρ) lo.toList y.toList)(p:BQ (AR ρ) hi.toList z.toList)(q:BQ (AR ρ) n.toList B.toList)(c:xW a len s lo hi n=some v):∃V,(Instr.sliceAt t X y z B).run P W=.ok V W/\AR ρ v V:=by
 unfold xW at c;split at c
 .rename_i m d;split at c
  .rename_i r f;split at c
   .rename_i l g;split at c
    .rename_i T G;rcases LU F with⟨k,_⟩|⟨u,i,L,k,x,H,_⟩|⟨u,i,L,A,C,k,x,_,I,rfl,J⟩;.cases k
     .omega
     .cases k;cases hi with
      |none=>cases d|some U=>
       have K:r<=m:=by unfold FI at f;grind
       have M:l<=r:=by rcases Z_ g with h|h<;>omega
       cases n with|none=>cases d|some w=>
        simp only at d;have N:m<=len:=by rcases Z_ d with h|h<;>omega
        have j:=bS (P:=P) (W:=W) (len:=len) (cap:=C) (m:=m) (top:=m) (tp:=0) o p q (af _) (.inr ⟨w,rfl,Ys rfl d I.1,⟨_,rfl⟩⟩) f g true;refine⟨_,mX D E j,?_⟩;split at c
        .rename_i b;split at c
         .rename_i O;cases c;rw[ag b];have Q:r-l=0:=by omega
          have R:m-l=0:=by omega
          rw[Q,R];exact .sliceU x (af _) (by omega) (.inl (.inl rfl))
         grind
        .rename_i b;cases c;rw[ad b];rcases J with(rfl|⟨rfl,S⟩)|⟨rfl,Y⟩;.omega
         .omega
         .simp only[dA,KL];rw[gf];exact .slice x (by omega)
    grind
   grind
  grind
 grind
theorem jz(hR:CV P ρ h W){t:TypeId}{x X v:Value}{lo hi y LO HI H:Option Value}(K:AR ρ x X)(k:BQ (AR ρ) lo.toList LO.toList)(p:BQ (AR ρ) hi.toList HI.toList)(i:BQ (AR ρ) y.toList H.toList)(c:H9 P h t x lo hi y=some v):∃V,(Instr.sliceAt t X LO HI H).run P W=.ok V W/\AR ρ v V:=by
 unfold H9 at c;split at c
 .rename_i e a len cap hu;split at c
  .rename_i s I;split at c
   .rename_i hc;subst hc;split at c
    .rename_i hh f;split at c
     .rename_i l id h0 g;rcases LU K with⟨E,_⟩|⟨F,q,L,E,j,r,_⟩|⟨F,q,L,A,C,E,j,_,hC,rfl,Y⟩;.cases E
      .omega
      .cases E;have d:=bS (P:=P) (W:=W) (len:=len) (cap:=C) (m:=C) (top:=len) (tp:=0) k p i hC.1 (.inl ⟨rfl,rfl⟩) f g true;have h2:hh<=len:=by rcases Z_ f with h|h<;>omega
       have h3:l<=hh:=by rcases Z_ g with h|h<;>omega
       refine⟨_,mX hu I d,?_⟩;split at c
       .rename_i M;cases c;subst M;simp only[Nat.sub_zero,ff];have N:(Option.map (fun x:Addr=>x.add 0) (some A))=some A:=by simp[Addr.add]
        rw[N];have:(if C=0 then some A else some A)=some A:=by simp
        rw[this];exact .sliceU j (by omega) hC.2 (Y.imp_left (Or.imp_right fun⟨h8,h9⟩=>⟨by omega,h9⟩))
       .rename_i M;split at c
        .rename_i cs ty gr hg;split at c
         .rename_i Z;cases c;obtain⟨CS,h4,fr,hb,h5,O⟩:=YS hR hg j;obtain⟨_,rfl,_,Q⟩:=O rfl;rw[Z]at Q;cases Q;by_cases R:C=l
          .rw[ag R];exact .sliceU j (by omega) (by omega) (.inl (.inl (by omega)))
          .rw[ad R];rcases Y with(rfl|⟨rfl,h6⟩)|⟨rfl,he⟩;.omega
           .omega
           .simp only[dA,KL];refine .sliceU j (by omega) (by omega) (.inr ⟨by grind,?_⟩);rw[<-he,gf,<-Nat.add_mul];grind
         grind
        grind
     grind
    .exact jy hu I K k p i c
    grind
   .rename_i hc;split at c
    .rename_i m J;split at c
     .rename_i hh f;split at c
      .rename_i l g;cases c;have h7:m<=cap:=by cases y with|none=>grind|some w=>
         simp only at J;split at J;.rcases Z_ J with h|h<;>omega
         grind
       have E:(y=none/\m=cap)\/(∃v,y=some v/\FI y 0 0 cap=some m/\∃w,hi=some w):=by grind
       have d:=bS (P:=P) (W:=W) (len:=len) (cap:=cap) (m:=m) (top:=m) (tp:=0) k p i (af _) E f g true;rcases LU K with⟨rfl,rfl,rfl,rfl⟩|⟨F,q,L,rfl,j,r,rfl⟩|⟨F,q,L,A,C,E,j,g0,hC,rfl,Y⟩
       .refine⟨_,mX hu I d,?_⟩;have:m-l=0:=by omega
        have g1:hh-l=0:=by rcases Z_ f with h|h<;>omega
        grind
       .refine⟨_,mX hu I d,?_⟩;by_cases u:m=l
        .rw[ag u,ag u];exact .slice j (by omega)
        .rw[ad u,ad u];simp only[dA,KL];rw[gf];exact .slice j (by omega)
       omega
      grind
     grind
    grind
  grind
 .rename_i s hu;split at c;.cases c
  .rename_i J;split at c
   .rename_i hh f;split at c
    .rename_i l g;cases c;obtain rfl:=Y2 K;have G:y=none:=by simp_all
     subst G;have:H=none:=by cases H with|none=>rfl|some _=>cases i
     subst this;have d:=bS (P:=P) (W:=W) (len:=s.size) (cap:=s.size) (m:=s.size) (top:=s.size) (tp:=0) k p i (af _) (.inl ⟨rfl,rfl⟩) f g false;exact⟨_,by simp[Instr.sliceAt,Instr.slice,ay hu,d],.flat rfl⟩
    grind
   grind
 .rename_i n e a hu;split at c;.cases c
  .rename_i J;split at c
   .rename_i hh f;split at c
    .rename_i l g;split at c
     .rename_i s I;cases c;simp only[bu,am,not_or]at J;have G:y=none:=by simp_all
      subst G;have:H=none:=by cases H with|none=>rfl|some _=>cases i
      subst this;have d:=bS (P:=P) (W:=W) (len:=n) (cap:=n) (m:=n) (top:=n) (tp:=0) k p i (af _) (.inl ⟨rfl,rfl⟩) f g false;obtain⟨L,j,hsp,rfl⟩:=WV K;obtain⟨b,o,sp⟩:=a;simp only at hsp;subst hsp;refine⟨.slice (some (if n=l then⟨L.b,L.d+o,none⟩else(⟨L.b,L.d+o,none⟩:Addr).add (l*s))) (hh-l) (n-l),?_,?_⟩;.simp[Instr.sliceAt,ay hu,Instr.sureAddr,d,L7 I]
      .have r:n-l<AT:=by unfold AT;omega
       split;.exact .slice j r
       .rw[KL,KL,gf];exact .slice j r
     grind
    grind
   grind
 grind
theorem jX{s:TypeId}{x X v:Value}{f:Nat}(c:AR ρ x X)(b:BC P s x f=some v):∃V,(Instr.fieldAt s X f).run P W=.ok V W/\AR ρ v V:=by
 unfold BC at b;split at b
 .rename_i k a d;split at b
  .rename_i e g;split at b;.cases b
   .rename_i n l i;cases b;obtain⟨B,rfl,j⟩:=Iq c e.offset;refine⟨_,?_,j⟩;simp[Instr.fieldAt,ay d,g,Instr.sureAddr,fieldPlace,L7 i];grind
   grind
  grind
 grind
theorem jZ{cs c:Array Value}(d:BQ (AR ρ) cs.toList c.toList)(a b:Nat):BQ (AR ρ) (cs.extract a b).toList (c.extract a b).toList:=by simp only[Array.toList_extract,List.extract_eq_take_drop];exact(d.Y6 a).Y1 (b-a)
theorem Zo{s:TypeId}{x X v:Value}{f:Nat}(k:AR ρ x X)(c:wY P s x f=some v):∃V,(Instr.field s X f).run P W=.ok V W/\AR ρ v V:=by
 unfold wY at c;split at c
 .rename_i o p e;obtain⟨q,rfl,d⟩:=jt k;split at c
  .rename_i fd g;split at c
   .rename_i b;split at c;.rename_i n l;cases c;exact⟨_,by simp[Instr.field,ay e,g,asAgg,part,iR b,L7 l],.agg (jZ d _ _)⟩
    grind
   .rename_i b;obtain⟨V,j,m⟩:=d.Zz (i:=fd.offset) (a:=v) (by grind);simp at j;exact⟨V,by simp[Instr.field,ay e,g,asAgg,part,iR b,j],m⟩
   grind
  grind
 grind
end
section
variable {P:Program} {ρ:B8} {h:AA} {W:World}
theorem Wr(new:List Value):∀(off j:Nat)(C:Array Value),off+j+new.length<=C.size->((new.zipIdx j).foldl (fun e(x:Value×Nat)=>e.setIfInBounds (off+x.2) x.1) C)=(lay C.toList (off+j) new).toArray:=by induction new with|nil=>intro off j C _;simp[lay]|cons v a f=>
  intro off j C g;simp only[bx]at g;rw[List.zipIdx_cons,List.foldl_cons,f off (j+1) _ (by grind)];congr 1;apply eh;intro k;rw[ZQ (by grind),ZQ (by simp;omega)];simp only[Array.toList_setIfInBounds,List.getElem?_set,bx];by_cases i:k=off+j
  .subst i;have b:¬(off+(j+1)<=off+j/\off+j<off+(j+1)+a.length):=by omega
   have c:off+j<=off+j/\off+j<off+j+(a.length+1):=by omega
   rw[ad b,ag c];grind
  .by_cases d:off+j<=k/\k<off+j+(a.length+1)
   .rw[ag ⟨by omega,by omega⟩,ag d,show k-(off+j)=(k-(off+(j+1)))+1 by omega];simp
   .rw[ad (by omega),ad d,ad (by omega)]
theorem ka(A:Array Value)(off:Nat)(C:Array Value)(b:off+A.size<=C.size:=by omega):(A.zipIdx.foldl (fun a(x:Value×Nat)=>a.setIfInBounds (off+x.2) x.1) C)=(lay C.toList off A.toList).toArray:=by rw[<-Array.foldl_toList,Array.toList_zipIdx,Wr A.toList off 0 C (by assumption)];rfl
theorem kb{cs new a New:List Value}(b:BQ (AR ρ) cs a)(c:BQ (AR ρ) new New)(off:Nat):BQ (AR ρ) (lay cs off new) (lay a off New):=by unfold lay;rw[c.Z6];exact((b.Y1 off).ZC c).ZC (b.Y6 _)
theorem z9(c:Nat->Option (Nat×Nat)){d e:List (Nat×Value)}(u:BQ (fun a b=>a.1=b.1/\AR ρ a.2 b.2) d e):∀{cs r:List Value}{g:Array Value},BQ (AR ρ) cs g.toList->I6 c cs d=some r->∃R,Instr.fill c g e=some R/\BQ (AR ρ) r R.toList:=by induction u with
 |nil=>
  intro cs r g n f;simp only[I6]at f;cases f;exact⟨g,rfl,n⟩|cons w _ y=>
  intro cs r g n f;rename_i a b l m _;obtain⟨i,v⟩:=a;obtain⟨A,V⟩:=b;obtain⟨rfl,z⟩:=w;simp only[I6]at f;simp only[Instr.fill];cases o:c i with|none=>grind|some x=>
   obtain⟨p,t⟩:=x;simp only[o]at f⊢;have j:=f_ z;have q:V.cells.size=v.cells.size:=by simpa using j.Z6.symm
   have s:g.size=cs.length:=by simpa using n.Z6.symm
   split at f;.cases f
   .rename_i k;rw[q,s,ad k];simp only[bu,am,not_or,Nat.not_lt]at k;rw[ka _ _ _];exact y (by simpa using kb n j p) f
theorem kc{l:List Field}{b:List (Nat×Nat)}(a:HN P l=some b):(l.mapM (fun f=>(do pure (f.offset,<-sizeOf f.type):Sem (Nat×Nat)))).run P W=.ok b W:=by induction l generalizing b with
 |nil=>simp[HN]at a;simp_all|cons f i d=>
  simp only[HN]at a;split at a
  .rename_i n e;split at a;.rename_i l g;cases a;have c:=d g;rw[List.mapM_cons];simp only[ja,L7 e,Result.andThen_ok,Sem.run_pure,c]
   grind
  grind
theorem ke{l:Array Field}{a:List (Nat×Nat)}(b:HN P l.toList=some a):(l.mapM (fun f=>(do pure (f.offset,<-sizeOf f.type):Sem (Nat×Nat)))).run P W=.ok a.toArray W:=by rw[Array.mapM_eq_mapM_toList,Sem.run_map,kc b];rfl
theorem YO{z:Value}(a:flat z=true):BQ (AR ρ) z.cells.toList z.cells.toList:=f_ (NZ a)
theorem Tu{t:TypeId}{c:List (Nat×Value)}{d:Array (Nat×Value)}{v:Value}(o:BQ (fun a b=>a.1=b.1/\AR ρ a.2 b.2) c d.toList)(f:CL P t c=some v):∃V,(Instr.build t d).run P W=.ok V W/\AR ρ v V:=by
 unfold CL at f;split at f
 .rename_i z p;split at f
  .rename_i q;split at f
   .rename_i w j;split at f
    .rename_i x k;split at f
     .rename_i u g;cases f;obtain⟨R,l,i⟩:=z9 _ o (YO q) g;refine⟨.agg R,?_,.agg (by assumption)⟩;have r:=ke (W:=W) k;simp only[bind_pure_comp]at r;simp[Instr.build,US p,ay j,r,l]
     grind
    grind
   .rename_i n e j;split at f
    .rename_i s m;split at f;.rename_i u g;cases f;obtain⟨R,l,i⟩:=z9 _ o (YO q) g;exact⟨.agg R,by simp[Instr.build,US p,ay j,L7 m,l],.agg (by assumption)⟩
     grind
    grind
   grind
  grind
 grind
theorem kS(z:List Value)(n:Nat):(CF z n).length=n*z.length:=by induction n with|zero=>simp[CF]|succ n a=>simp[CF,a,Nat.succ_mul];omega
theorem oI(z:List Value)(n k:Nat)(c:k<n*z.length):(CF z n)[k]?=z[k%z.length]?:=by induction n generalizing k with
 |zero=>omega|succ n b=>
  simp only[CF];by_cases a:k<z.length;.rw[dt a,Nat.mod_eq_of_lt a]
  .rw[cz (by omega),b _ (by grind)];congr 1;rw[<-Nat.mod_eq_sub_mod (by omega)]
theorem pI{z:Array Value}(a:0<z.size)(n:Nat):(CF z.toList n).toArray=(Array.range (n*z.size)).map (z[.%z.size]!):=by
 apply Array.ext';apply eh;intro k;simp only[jm,Array.toList_range,bT];by_cases b:k<n*z.size
 .rw[oI _ _ _ (by assumption)];have c:k%z.size<z.size:=Nat.mod_lt _ a;grind
 .rw[de (by rw[kS];grind)];simp[b]
theorem eV(e:CV P ρ h W){cs:List Value}{a:Array Value}{ty:TypeId}{g:Bool}{s:Nat}{W1:World}(h1:W1.heap=W.heap)(c:W1.os=W.os)(d:W1.tape=W.tape)(b:W1.output=W.output)(f:BN P ty=some s)(i:∀(k:Nat)(v:Value),cs[k]?=some v->∃V,a[k]?=some V/\AR ρ v V):Nx P ρ h W (F9 ρ h.a ⟨W.heap.size,0,a.size,s⟩) (h.d (.row cs ty g false)) (W1.alloc (.cells a ty)):=by
 refine Dc e h1 c d b rfl ?_;refine⟨_,a,ty,(0,0),LW _ _ _,?_,?_,fun _=>⟨rfl,rfl,by simp,f⟩⟩
 .have:=heap_alloc_new W1 (.cells a ty);grind
 .intro k v j;obtain⟨V,m,l⟩:=i k v j;exact⟨V,by grind,l.a e.e⟩
theorem kL{cs:List Value}{a:Array Value}(b:BQ (AR ρ) cs a.toList):∀(k:Nat)(v:Value),cs[k]?=some v->∃V,a[k]?=some V/\AR ρ v V:=fun k v c=>by obtain⟨V,d,e⟩:=b.Zz c;grind
theorem kf(G:CV P ρ h W){t:TypeId}{len:Nat}{d:List (Nat×Value)}{f:Array (Nat×Value)}{v:Value}{h':AA}(H:BQ (fun a b=>a.1=b.1/\AR ρ a.2 b.2) d f.toList)(l:FP P h t len d=some (v,h')):∃V C m,(Instr.buildSlice t len f).run P W=.ok V C/\Nx P ρ h W m h' C/\AR m v V:=by
 unfold FP at l;split at l
 .rename_i e D;split at l
  .rename_i s z g I;split at l
   .rename_i E;simp only[ah,am,ak]at E;obtain⟨⟨⟨J,o⟩,u⟩,F⟩:=E;split at l
    .rename_i L w;cases l;have x:0<z.cells.size:=by omega
     have p:BQ (AR ρ) (CF z.cells.toList len) ((Array.range (len*s)).map (z.cells[.%z.cells.size]!)).toList:=by
      have:=pI x len;rw[o]at this;rw[o,<-this];refine BQ.Zt fun a K=>?_;obtain⟨k,y⟩:=dn K;have q:=(ae.1 y).1;rw[kS]at q;rw[oI _ _ _ q]at y;obtain⟨b,M,N⟩:=(YO (ρ:=ρ) J).Zz y;grind
     obtain⟨R,i,A⟩:=z9 _ H p w;have r:len<AT:=by unfold AT;have:=Nat.le_mul_of_pos_right len u;omega
     refine⟨.slice (some ⟨W.heap.size,0,none⟩) len len,W.alloc (.cells R e),_,?_,eV G rfl rfl rfl rfl g (kL A),?_⟩
     .have j:¬(16777216<len*s):=by omega
      by_cases B:len*s=0;.simp only[B,Array.range_zero',Array.map_empty]at i;simp[Instr.buildSlice,ay D,L7 g,B,i,newRow,Array.range_zero']
      .simp[Instr.buildSlice,ay D,L7 g,j,B,US I,i,newRow]
     .have:=AR.slice (ρ:=F9 ρ h.a ⟨W.heap.size,0,R.size,s⟩) (id:=h.a) (off:=0) (n:=len) (c:=len) (LW _ _ _) r;assumption
    grind
   grind
  grind
 grind
theorem kg(H:CV P ρ h W){t:TypeId}{l c L C v:Value}{h':AA}(I:AR ρ l L)(J:AR ρ c C)(j:J7 P h t l c=some (v,h')):∃V E m,(Instr.makeSlice t L C).run P W=.ok V E/\Nx P ρ h W m h' E/\AR m v V:=by
 unfold J7 at j;split at j
 .rename_i e K l M c N;split at j
  .rename_i s z q o O r;split at j
   .rename_i d;simp only[ah,am,ak]at d;obtain⟨⟨⟨⟨⟨⟨Q,u⟩,R⟩,w⟩,x⟩,F⟩,G⟩:=d;cases j;obtain rfl:=P_ I;obtain rfl:=P_ J;have y:∃i,P.info? e=some i/\i.size=s/\i.zero=some z/\i.bytes=q:=by
     unfold BN at o;unfold DK at O;unfold HL at r;grind
    obtain⟨i,y,rfl,A,rfl⟩:=y;have B:0<z.cells.size:=by omega
    have f:=run_make (P:=P) W t e i z N y A K M l c w x F (by omega);have S:=pI B c.toNat;rw[u]at S;have g:madeCells z.cells (c.toNat*i.size)=(CF z.cells.toList c.toNat).toArray:=by unfold madeCells;grind
    rw[g]at f;refine⟨_,_,_,f,eV H rfl rfl rfl rfl o (kL ?_),?_⟩
    .refine BQ.Zt fun a T=>?_;obtain⟨k,D⟩:=dn T;have p:=(ae.1 D).1;rw[kS]at p;rw[oI _ _ _ p]at D;obtain⟨b,F,U⟩:=(YO (ρ:=ρ) Q).Zz D;grind
    .have:=AR.slice (ρ:=F9 ρ h.a ⟨W.heap.size,0,(CF z.cells.toList c.toNat).toArray.size,i.size⟩) (id:=h.a) (off:=0) (n:=l.toNat) (c:=c.toNat) (LW _ _ _) (by unfold AT;omega);assumption
   grind
  grind
 grind
end
section
variable {P:Program} {ρ:B8} {h:AA} {W:World}
theorem kh(k:CV P ρ h W){i:Nat}(hi:i<h.a)(s:h.b<=i):Nx P ρ h W ρ (h.e i .dead) W:=by
 have d:∀j,(h.e i .dead).c j=if i=j then .dead else h.c j:=fun j=>by
  by_cases e:i=j;.subst e;rw[ag rfl,BE k.f hi]
  .rw[ad e,AP hi e]
 refine⟨fun _ _ h=>h,fun _ _=>rfl,⟨XR k.f,k.d,k.b,?_,?_⟩,Fr.b _ _ _,af _,rfl,?_,?_,?_,?_⟩
 .intro j;rw[d];split;.trivial
  .exact k.a j
 .intro a b p q f g m n o;rw[d]at f g;split at f;.exact f.elim
  .split at g;.exact g.elim
   .exact k.c a b p q f g m n o
 .intro j l r;rw[d,ad (by omega)]
 .intro j l c;rw[d]at c;split at c;.exact c.elim
  .exact c
 .intro j l c;rw[d]at c;split at c;.exact c.elim
  .exact c
 .intro j t l c _;rw[NJ (by simpa[AA.e]using l)]at c;exact c.elim
theorem ki(m:CV P ρ h W){i:Nat}{o:BO}{W':World}{L L':Loc}(w:wr (h.c i))(I:h.b<=i)(v:ρ i=some L)(s:L'.b=L.b)(hos:W'.os=W.os)(B:W'.tape=W.tape)(x:W'.output=W.output)(M:W'.heap.size=W.heap.size)(q:∀b,b≠L.b->W'.heap[b]?=W.heap[b]?)(N:JB P (F9 ρ h.a L') W' h.a o):Nx P ρ h W (F9 ρ h.a L') ((h.e i .dead).d o) W':=by
 have C:i<h.a:=m.i v;have D:=m.e (L:=L');have d:∀j,((h.e i .dead).d o).c j=if j=h.a then o else if i=j then .dead else h.c j:=fun j=>by
  by_cases e:j=h.a
  .subst e;rw[ag rfl];exact BJ (h:=h.e i .dead)
  .rw[ad e,UF (h:=h.e i .dead) e];by_cases E:i=j;.subst E;rw[ag rfl,BE m.f C]
   .rw[ad E,AP C E]
 have t:∀j,j≠h.a->i≠j->JB P (F9 ρ h.a L') W' j (h.c j):=fun j _ r=>(m.a j).a D fun L2 p O=>q _ (bc (m.c i j L L2 w O r v p));refine⟨D,fun i C=>MK (by omega),⟨vV (XR m.f),?_,?_,?_,?_⟩,⟨hos,B,x,by omega,?_⟩,by simp[AA.d,AA.e],rfl,?_,?_,?_,?_⟩
 .intro j r;have Q:h.a+1<=j:=r;rw[MK (by omega)];exact m.d j (by omega)
 .intro g R;obtain⟨L2,S,T,U⟩:=m.b g R;exact⟨L2,D _ _ S,T,U⟩
 .intro j;rw[d];split;.rename_i e;subst e;exact N
  .split;.trivial
   .exact t j ‹_› ‹_›
 .intro a b J K l k u n f;rw[d]at l k;by_cases F:a=h.a
  .subst F;rw[LW]at n;cases n;rw[ad (bc u)]at k;rw[MK (bc u)]at f;split at k;.exact k.elim
   .rw[s];exact m.c i b L K w k ‹_› v f
  .rw[ad F]at l;rw[MK F]at n;split at l;.exact l.elim
   .by_cases G:b=h.a
    .subst G;rw[LW]at f;cases f;rw[s];exact m.c a i J L l w.a (bc ‹_›) n v
    .rw[ad G]at k;rw[MK G]at f;split at k;.exact k.elim
     .exact m.c a b J K l k u n f
 .intro b _ H;exact q b (bc (H i L w I v))
 .intro j r V;rw[d,ad (by omega),ad (by omega)]
 .intro j r c;rw[d,ad (by omega)]at c;split at c;.exact c.elim
  .exact c
 .intro j r c;rw[d,ad (by omega)]at c;split at c;.exact c.elim
  .exact c
 .intro j L2 r c p;rw[d]at c;split at c;.rename_i e;subst e;rw[LW]at p;cases p;exact .inr ⟨i,L,w,I,v,s.symm⟩
  .split at c;.exact c.elim
   .rw[NJ r]at c;exact c.elim
theorem mI(x:CV P ρ h W){s n m c:Nat}{a:Option Addr}{k:Value}{new:List Value}(y:AR ρ (.slice a m c) k)(z:n<=m)(d:EL h s n (.slice a m c)=some new):∃(A:Option Addr)(C:Nat)(b:List Value),k=.slice A m C/\b.length=n*s/\BQ (AR ρ) new b/\(n=0\/∃B:Addr,A=some B/\∀(j:Nat)(u:Value),b[j]?=some u->W.cell? (B.add j)=some u):=by
 rcases LU y with⟨rfl,rfl,rfl,rfl⟩|⟨D,l,L,rfl,o,E,rfl⟩|⟨D,l,L,A,C,rfl,o,rfl,N,rfl,F⟩
 .have G:n=0:=by omega
  subst G;simp[EL]at d;subst d;exact⟨none,0,[],rfl,by simp,.nil,.inl rfl⟩
 .simp only[EL]at d;by_cases e:n=0
  .rw[ag e]at d;cases d;subst e;exact⟨_,_,[],rfl,by simp,.nil,.inl rfl⟩
  .rw[ad e]at d;split at d
   .rename_i H I g J p;obtain⟨q,f,r,t,i,_⟩:=YS x p o;obtain⟨b,v,w,K⟩:=kB d i;refine⟨_,_,b,rfl,v,w,.inr ⟨_,rfl,fun j u M=>?_⟩⟩;rw[KL,cell_of_row W L.b _ q f r t];grind
   grind
 .simp only[EL]at d;by_cases e:n=0
  .rw[ag e]at d;cases d;subst e;exact⟨_,_,[],rfl,by simp,.nil,.inl rfl⟩
  .rw[ad e]at d;split at d
   .rename_i H I g J p;obtain⟨q,f,r,t,i,_⟩:=YS x p o;obtain⟨b,v,w,K⟩:=kB d i;rcases F with(rfl|⟨rfl,_⟩)|⟨rfl,_⟩;.omega
    .omega
    .refine⟨_,_,b,rfl,v,w,.inr ⟨_,rfl,fun j u M=>?_⟩⟩;rw[KL,cell_of_row W L.b _ q f r t];grind
   grind
theorem pX{s n m C:Nat}{A:Option Addr}{New:List Value}(a:New.length=n*s)(h:n=0\/∃B:Addr,A=some B/\∀(j:Nat)(u:Value),New[j]?=some u->W.cell? (B.add j)=some u):(Builtin.firstCells s n (.slice A m C)).run P W=.ok New.toArray W:=by
 rcases h with rfl|⟨B,rfl,b⟩;.have:=ew (by simpa using a);subst this;cases A with
  |none=>simp[Builtin.firstCells]|some B=>simp[Builtin.firstCells,loadCells,loadCellsFrom]
 .exact run_firstCells_some W s n B m C New a b
theorem Kg{t e ty:TypeId}{s n len C C':Nat}{A:Addr}{d:Option Addr}{New:List Value}{W':World}(f:P.underlying t=some (.slice e))(g:BN P e=some s)(i:New.length=n*s)(b:n=0\/∃B:Addr,d=some B/\∀(j:Nat)(u:Value),New[j]?=some u->W.cell? (B.add j)=some u)(a:len+n<=C)(c:(storeCells (A.add (len*s)) New).run P W=.ok () W'):(Builtin.append_ #[t,t] ty #[.slice (some A) len C,.slice d n C']).run P W=.ok (.slice (some A) (len+n) C) W':=by have k:=pX (P:=P) (m:=n) (C:=C') i b;simp[Builtin.append_,ay f,L7 g,Builtin.lenOf,a,k,c]
theorem qD{t e ty:TypeId}{s len C C':Nat}{A A':Option Addr}(b:P.underlying t=some (.slice e))(c:BN P e=some s)(a:len<=C:=by omega):(Builtin.append_ #[t,t] ty #[.slice A len C,.slice A' 0 C']).run P W=.ok (.slice A len C) W:=by
 have d:=pX (P:=P) (W:=W) (s:=s) (n:=0) (m:=0) (C:=C') (A:=A') (New:=[]) (by simp) (.inl rfl);cases A with
 |none=>simp[Builtin.append_,ay b,L7 c,Builtin.lenOf,a,d]|some A=>simp[Builtin.append_,ay b,L7 c,Builtin.lenOf,a,d,storeCells]
theorem kj{e:TypeId}{s a:Nat}{z:Value}(b:BN P e=some s)(d:DK P e=some z)(c:HL P e=some a):∃i,P.info? e=some i/\i.size=s/\i.zero=some z/\i.bytes=a:=by unfold BN at b;unfold DK at d;unfold HL at c;grind
theorem Ru(hR:CV P ρ h W){t e ty:TypeId}{s d len n C C':Nat}{z:Value}{A F:Option Addr}{old new a New:List Value}(X:P.underlying t=some (.slice e))(f:BN P e=some s)(hz:DK P e=some z)(G:HL P e=some d)(H:z.cells.size=s)(E:a.length=len*s)(g:len=0\/∃B:Addr,A=some B/\∀(j:Nat)(u:Value),a[j]?=some u->W.cell? (B.add j)=some u)(I:A=none->C=0)(J:New.length=n*s)(l:n=0\/∃B:Addr,F=some B/\∀(j:Nat)(u:Value),New[j]?=some u->W.cell? (B.add j)=some u)(K:BQ (AR ρ) old a)(L:BQ (AR ρ) new New)(m:C<len+n)(h0:len<=C)(Y:(len+n)*d<=140737488355328)(hl:len+n<=140737488355328):∃V Z o,(Builtin.append_ #[t,t] ty #[.slice A len C,.slice F n C']).run P W=.ok V Z/\Nx P ρ h W o (h.d (.row (old++new) e true false)) Z/\AR o (.slice (some ⟨h.a,0,none⟩) (len+n) AT) V:=by
 obtain⟨i,hi,rfl,p,rfl⟩:=kj f hz G;have hn:n≠0:=by omega
 obtain⟨M,rfl,q⟩:∃B:Addr,F=some B/\∀(j:Nat)(u:Value),New[j]?=some u->W.cell? (B.add j)=some u:=l.resolve_left hn;have c:∀b old:Nat,b<=140737488355328->grownCap W b old e<AT:=fun b old hh=>by
  have h1:=grownCap_le_maxLen W b old e (by unfold maxLen;omega);have h2:maxLen<AT:=by decide
  omega
 have N:∃r,len+n<=r/\r<AT/\(Builtin.append_ #[t,t] ty #[.slice A len C,.slice (some M) n C']).run P W=.ok (.slice (some ⟨W.heap.size,0,none⟩) (len+n) r) (W.drew.alloc (.cells (a.toArray++New.toArray++Builtin.zeroCells z.cells (r-(len+n))) e)):=by cases A with
  |none=>
   have hC:=I rfl;subst hC;have O:len=0:=by omega
   subst O;have Q:a=[]:=ew (by simpa using E);subst Q;have w:=run_append_nil (P:=P) W t ty e i z X hi p M n C' New J q (by omega) (by omega) (by simp only[ab]at Y;omega);exact⟨grownCap W n 0 e,by simpa using grownCap_ge W n 0 e,c n 0 (by omega),by simpa using w⟩|some B=>
   have x:=growslice_fits (need:=len+n) (old:=C) (bytes:=i.bytes) m Y;have R:∀(j:Nat)(u:Value),a[j]?=some u->W.cell? (B.add j)=some u:=by
    rcases g with rfl|⟨B2,e2,h2⟩
    .have:a=[]:=ew (by simpa using E);subst this;simp
    .cases e2;exact h2
   have w:=run_append_grow (P:=P) W t ty e i z X hi p B len C a E R M n C' New J q m (by omega) x;exact⟨grownCap W (len+n) C e,grownCap_ge W (len+n) C e,c (len+n) C (by omega),w⟩
 obtain⟨r,S,T,y⟩:=N;refine⟨_,_,_,y,eV hR (W1:=W.drew) rfl rfl rfl rfl f ?_,?_⟩
 .intro k v hv;have D:=K.ZC L;obtain⟨V,hV,w⟩:=D.Zz hv;refine⟨V,?_,w⟩;have U:k<(a++New).length:=(ae.1 hV).1;rw[Array.getElem?_append_left (by simpa using U)];simpa using hV
 .refine AR.sliceU (LW _ _ _) S T (.inr ⟨by simp,?_⟩);simp only[Array.size_append,List.size_toArray,size_zeroCells,E,J,H,ab,<-Nat.add_mul];congr 1;omega
theorem kl(q:CV P ρ h W){t ty:TypeId}{x X y Y v:Value}{h':AA}(M:AR ρ x X)(hy:AR ρ y Y)(a:DR P h t x y=some (v,h')):∃V W' N,(Builtin.append_ #[t,t] ty #[X,Y]).run P W=.ok V W'/\Nx P ρ h W N h' W'/\AR N v V:=by
 unfold DR at a;split at a
 .rename_i e x7 g g7 sb n sc O;split at a
  .rename_i s x8 z l h6 hz;split at a
   .rename_i h7;simp only[ah,am,ak]at h7;obtain⟨⟨x9,h8⟩,y0⟩:=h7;split at a
    .rename_i y1 h9;split at a
     .rename_i g0;obtain⟨A',C',p,rfl,hN,F,r⟩:=mI q hy (af _) h9;split at a
      .rename_i D;subst D;split at a
       .rename_i id f;rcases LU M with⟨o,_⟩|⟨m,c,L,o,w,E,_⟩|⟨m,c,L,A,C,o,w,_,hC,rfl,hA⟩;.cases o
        .exact absurd E (Nat.lt_irrefl _)
        .cases o;split at a
         .rename_i G;simp only[ah,am]at G;obtain⟨⟨hb,hl⟩,hf⟩:=G;split at a
          .rename_i H;cases a;subst H;exact⟨_,_,ρ,qD O l hC.1,Nx.a q,M⟩
          .rename_i H;split at a
           .rename_i cs y2 hg;split at a
            .rename_i g8;subst g8;split at a
             .rename_i I S;split at a
              .rename_i g9;cases a;obtain⟨U,y3,fr,Q,x0,g1⟩:=YS q hg w;obtain⟨rfl,rfl,y4,g2⟩:=g1 rfl;rw[l]at g2;cases g2;obtain⟨g3,hO,R,g4⟩:=kB S x0;have x1:wr (h.c id):=by rw[hg];rfl
               by_cases d:g+n<=C
               .rcases hA with(rfl|⟨rfl,x2⟩)|⟨rfl,he⟩;.omega
                .omega
                .have g5:(g+n)*L.z<=C*L.z:=Nat.mul_le_mul_right _ d;rw[Nat.add_mul]at g5;have J:L.d+(f+g*L.z)+p.length<=U.size:=by omega
                 have Z:∀v∈p,v.oneCell'=true:=by
                  intro V hV;obtain⟨k,hk⟩:=dn hV;obtain⟨v,T,hr⟩:=F.YK hk;rw[<-Gd,Hz hr];exact bm.1 g0 v (aw T)
                 have h0:=run_storeCells_at P L.b (L.d+(f+g*L.z)) _ p 0 U W Q (by simpa using J) Z;have i:=Kg (P:=P) (W:=W) (A:=⟨L.b,L.d+f,none⟩) (ty:=ty) (C':=C') O l hN r d (by rw[KL,gf];exact h0);simp only[fe]at i;refine⟨_,_,F9 ρ h.a ⟨L.b,L.d+f,L.e-f,L.z⟩,i,?_,?_⟩
                 .have h3:(W.setRow L.b (U.toList.take (L.d+(f+g*L.z))++p++U.toList.drop (L.d+(f+g*L.z)+p.length)).toArray).heap[L.b]?=some (.cells (lay U.toList (L.d+(f+g*L.z)) p).toArray _ (0,0)):=setRow_heap W L.b U _ _ _ Q;refine ki q (L:=L) x1 hf w rfl rfl rfl rfl (by simp) (fun b x3=>setRow_other W L.b b _ x3) ?_;refine⟨_,_,_,_,LW _ _ _,h3,?_,fun _=>⟨rfl,rfl,?_,l⟩⟩
                  .intro k v T;simp only[dr];rw[ZQ (by simpa using J)];have y5:I.length=g*L.z:=(Cw S).1;by_cases hk:k<I.length
                   .rw[dt hk]at T;obtain⟨V,hV,hr⟩:=R.Zz T;refine⟨V,?_,hr.a q.e⟩;rw[ad (by omega)];have:=g4 k V hV;simpa using this
                   .rw[cz (by omega)]at T;obtain⟨V,hV,hr⟩:=F.Zz T;refine⟨V,?_,hr.a q.e⟩;have y6:k-I.length<p.length:=(ae.1 hV).1;rw[ag ⟨by omega,by omega⟩,show L.d+f+k-(L.d+(f+g*L.z))=k-I.length by omega];exact hV
                  .simp only[List.size_toArray];rw[Cj (by simpa using J)];simp only[Array.length_toList];omega
                 .refine AR.sliceU (LW _ _ _) d hC.2 (.inr ⟨by simp,?_⟩);simp only[ab];omega
               .have K:=kh q (q.i w) hf;have h4:g=0\/∃B:Addr,some A=some B/\∀(j:Nat)(u:Value),g3[j]?=some u->W.cell? (B.add j)=some u:=by
                 rcases hA with(rfl|⟨rfl,x2⟩)|⟨rfl,_⟩;.left;omega
                 .left;rfl
                 .right;refine⟨_,rfl,fun j u O=>?_⟩;rw[KL,cell_of_row W L.b _ U _ (0,0) Q];exact g4 j u O
                obtain⟨V,W',N,i,h5,T⟩:=Ru (ty:=ty) (C':=C') K.b O l hz h6 h8 hO h4 (fun h=>by cases h) hN r R F (by omega) hC.1 hb hl;exact⟨V,W',N,i,K.d q h5,T⟩
              .cases a
             .cases a
            .cases a
           .cases a
         .cases a
       .cases a
      .rename_i D;split at a
       .rename_i d;split at a
        .rename_i H;cases a;subst H;rcases LU M with⟨rfl,rfl,rfl,rfl⟩|⟨m,c,L,rfl,w,E,rfl⟩|⟨m,c,L,A,C,_,w,o,_⟩;.exact⟨_,_,ρ,qD O l,Nx.a q,M⟩
         .exact⟨_,_,ρ,qD O l,Nx.a q,M⟩
         .exact absurd o D
        .rename_i H;split at a
         .rename_i id f;split at a
          .rename_i h2 h0;cases a;rcases LU M with⟨o,_⟩|⟨m,c,L,o,w,E,rfl⟩|⟨m,c,L,A,C,_,w,o,_⟩;.cases o
           .cases o;obtain⟨W',i,h5⟩:=dQ q F w h0;refine⟨_,_,ρ,Kg (P:=P) (W:=W) O l hN r d (by rw[KL,gf];exact i),h5,.slice w E⟩
           .exact absurd o D
          .cases a
         .cases a
       .rename_i d;split at a
        .rename_i G;simp only[ah,am]at G;obtain⟨⟨⟨hb,Q⟩,hl⟩,y7⟩:=G;split at a
         .rename_i I g6;cases a;obtain⟨A,C,g3,hX,hO,R,x4⟩:=mI q M (af _) g6;subst hX;have x5:C=g7:=by
           rcases LU M with⟨rfl,rfl,rfl,e1⟩|⟨m,c,L,rfl,w,E,e1⟩|⟨m,c,L,A,C,_,w,o,_⟩;.cases e1;rfl
           .cases e1;rfl
           .exact absurd o D
          subst x5;have x6:A=none->C=0:=by
           rintro rfl;rcases LU M with⟨rfl,rfl,rfl,e1⟩|⟨m,c,L,rfl,w,E,e1⟩|⟨m,c,L,A,C,_,w,o,_⟩;.rfl
           .cases e1
           .exact absurd o D
          exact Ru q O l hz h6 h8 hO x4 x6 hN r R F (by omega) (by omega) hb hl
         .cases a
        .cases a
     .cases a
    .cases a
   .cases a
  .cases a
 .cases a
end
end Go.Sx




