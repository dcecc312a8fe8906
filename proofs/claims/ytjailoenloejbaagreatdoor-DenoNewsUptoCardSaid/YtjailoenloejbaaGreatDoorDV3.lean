/- Part 3. -/
import Derived.Test.YtjailoenloejbaaGreatDoorDV2
import Derived.Laws.BytesArg
set_option linter.all false
namespace Go.Sx
open Go
set_option maxHeartbeats 0
section
variable {P:Program} {ρ:B8} {h:AA} {W:World}
theorem jR(a b:Nat):Nat.min a b=min a b:=rfl
theorem km{z:Array Value}(a:0<z.size)(n:Nat):(Builtin.zeroCells z n).toList=CF z.toList n:=by have h:=pI a n;unfold Builtin.zeroCells;rw[<-h]
theorem ko(E:CV P ρ h W){t ty:TypeId}{x X v:Value}{h':AA}(F:AR ρ x X)(d:XV P h t x=some (v,h')):∃V n g,(Builtin.clear_ #[t] ty #[X]).run P W=.ok V n/\Nx P ρ h W g h' n/\AR g v V:=by
 unfold XV at d;split at d
 .rename_i e G c J H;split at d
  .rename_i z o;have p:(zeroValue e).run P W=.ok z W:=by
    unfold DK at o;cases I:P.info? e with
    |none=>grind|some i=>simp[I]at o;simp[zeroValue,typeInfo,I,o]
   split at d
   .rename_i j;cases d;subst j;refine⟨.tuple #[],W,ρ,?_,Nx.a E,.tuple .nil⟩;rcases LU F with⟨_,_,rfl,rfl⟩|⟨_,_,L,_,_,_,rfl⟩|⟨_,_,L,A,C,_,_,_,_,rfl,_⟩<;>simp[Builtin.clear_,ay H]
   .rename_i j;split at d
    .rename_i K q;split at d
     .rename_i r;simp only[ah,am]at r;split at d
      .rename_i O s;cases d;have u:BQ (AR ρ) (CF z.cells.toList c) (Builtin.zeroCells z.cells c).toList:=by
        rw[km r.2];refine BQ.Zt fun a M=>?_;obtain⟨k,w⟩:=dn M;have f:=(ae.1 w).1;rw[kS]at f;rw[oI _ _ _ f]at w;obtain⟨b,Q,R⟩:=(YO (ρ:=ρ) r.1).Zz w;grind
       obtain⟨L,y,N⟩:∃(L:Loc),ρ K=some L/\∃C,X=.slice (some ⟨L.b,L.d+q,none⟩) c C:=by
        rcases LU F with⟨B,_⟩|⟨_,_,L,B,y,f,rfl⟩|⟨_,_,L,A,C,B,y,_,S,rfl,T⟩;.cases B
        .grind
        grind
       obtain⟨C,rfl⟩:=N;obtain⟨n,l,D⟩:=dQ E u y s;refine⟨.tuple #[],n,ρ,?_,D,.tuple .nil⟩;obtain⟨m,rfl⟩:∃m,c=m+1:=⟨c-1,by omega⟩;simp[Builtin.clear_,ay H,p,l]
      grind
     grind
    grind
  grind
 grind
theorem kp(k:CV P ρ h W){t ty:TypeId}{x X y Y v:Value}{h':AA}(z:AR ρ x X)(H:AR ρ y Y)(a:PP P h t x y=some (v,h')):∃V i l,(Builtin.copy_ #[t,t] ty #[X,Y]).run P W=.ok V i/\Nx P ρ h W l h' i/\AR l v V:=by
 unfold PP at a;split at a
 .rename_i e F b I R n S w;split at a
  .rename_i s f;simp only at a;split at a
   .rename_i J o;obtain⟨A',C',K,rfl,G,p,q⟩:=mI k H (Nat.min_le_left n b) o;have j:=pX (P:=P) (m:=n) (C:=C') G q;split at a
    .rename_i id M;split at a
     .rename_i r;cases a;have D:=ew (by rw[G,r];simp);rw[D]at j;have N:∃B C,X=.slice (some B) b C:=by
       rcases LU z with⟨d,_⟩|⟨_,_,L,_,_,_,rfl⟩|⟨_,_,L,A,C,_,_,_,_,rfl,_⟩;.cases d
       .simp
       simp
      obtain⟨B,C,rfl⟩:=N;refine⟨.int .i64 (min n b:Nat),W,ρ,?_,Nx.a k,.flat rfl⟩;simp[Builtin.copy_,jR,ay w,Builtin.lenOf,L7 f,j,storeCells,goInt]
     .rename_i r;split at a
      .rename_i h2 u;cases a;rcases LU z with⟨d,_⟩|⟨_,_,L,d,E,O,rfl⟩|⟨_,_,L,A,C,d,E,_,hC,rfl,Q⟩;.cases d
       .cases d;obtain⟨i,c,g⟩:=dQ k p E u;refine⟨.int .i64 (min n b:Nat),i,ρ,?_,g,.flat rfl⟩;simp[Builtin.copy_,jR,ay w,Builtin.lenOf,L7 f,j,c,goInt]
       .cases d;rcases Q with(rfl|⟨rfl,_⟩)|⟨rfl,_⟩;.omega
        .omega
        .obtain⟨i,c,g⟩:=dQ k p E u;refine⟨.int .i64 (min n b:Nat),i,ρ,?_,g,.flat rfl⟩;simp[Builtin.copy_,jR,ay w,Builtin.lenOf,L7 f,j,c,goInt]
      grind
    .cases a;rcases LU z with⟨_,rfl,rfl,rfl⟩|⟨_,_,L,d,_⟩|⟨_,_,L,A,C,d,_⟩;.refine⟨.int .i64 (min n 0:Nat),W,ρ,?_,Nx.a k,.flat rfl⟩;simp only[Nat.min_zero]at j;simp[Builtin.copy_,ay w,Builtin.lenOf,L7 f,j,goInt]
     .cases d
     grind
    grind
   grind
  grind
 grind
theorem OA{a b:ByteArray}(h:(a==b)=true):a=b:=by have:a.data==b.data:=h;cases a;simp_all
theorem Ss{k x X:Value}{b:Bool}{a:TypeDesc}(d:(∃j,a=.int j/\∃n i,k=.int n i)\/(a=.string/\∃s,k=.string s))(c:AR ρ x X)(h:M_ k x=some b):Instr.sameNow a k X=some b:=by
 rcases d with⟨j,rfl,n,i,rfl⟩|⟨rfl,s,rfl⟩;.cases x<;>simp[M_]at h;obtain rfl:=P_ c;simp[Instr.sameNow,h]
 .cases x<;>simp[M_]at h;obtain rfl:=Y2 c;simp[Instr.sameNow,h]
theorem yQ{k:Value}{g:TypeDesc}(q:(∃j,g=.int j/\∃n i,k=.int n i)\/(g=.string/\∃s,k=.string s)){d:List (Value×Value)}{t:List MapEntry}(z:BQ (fun e E=>AR ρ e.1 E.key/\AR ρ e.2 E.val) d t):∀{r:Option Value}(i:Nat),NT k d=some r->∃R,Instr.findNow g k t i=some R/\(match r,R with|none,none=>True|some v,some (j,V)=>AR ρ v V/\i<=j/\(∃x u,d[j-i]?=some (x,u)/\M_ k x=some true/\∀m o y,m<j-i->d[m]?=some (o,y)->M_ k o=some false)|_,_=>False):=by induction z with
 |nil=>
  intro r i c;simp[NT]at c;subst c;exact⟨none,rfl,cj⟩|cons p _ A=>
  intro r i c;rename_i a b l m _;obtain⟨x,v⟩:=a;simp only[NT]at c;split at c
  .rename_i f;cases c;refine⟨some (i,b.val),?_,p.2,af _,x,v,by simp,f,fun m o y B=>by omega⟩;simp[Instr.findNow,Ss q p.1 f]
  .rename_i f;obtain⟨R,C,B⟩:=A (i+1) c;refine⟨R,by simp[Instr.findNow,Ss q p.1 f,C],?_⟩;cases r with
   |none=>grind|some w=>cases R with
    |none=>assumption|some R=>grind
  grind
theorem Iu{a:TypeId}{k:Value}(h:QX P a k=true):∃d,P.underlying a=some d/\((∃j,d=.int j/\∃n i,k=.int n i)\/(d=.string/\∃s,k=.string s)):=by unfold QX at h;grind
theorem Ca{a:TypeId}{k:Value}{d:TypeDesc}(c:P.underlying a=some d)(e:(∃j,d=.int j/\∃n i,k=.int n i)\/(d=.string/\∃s,k=.string s))(b:Bool)(n:Nat):(Instr.checkKey b (n+1) a k).run P W=.ok () W:=by rcases e with⟨j,rfl,m,i,rfl⟩|⟨rfl,s,rfl⟩<;>simp[Instr.checkKey,ay c]
theorem Cr{d:TypeDesc}{k K:Value}(b:(∃j,d=.int j/\∃n i,k=.int n i)\/(d=.string/\∃s,k=.string s))(a:AR ρ k K):K=k:=by
 rcases b with⟨_,_,n,i,rfl⟩|⟨_,s,rfl⟩;.exact P_ a
 .exact Y2 a
theorem qJ{id:Nat}{d:List (Value×Value)}(f:CV P ρ h W)(g:h.c id=.map d){L:Loc}(i:ρ id=some L):∃c a,W.heap[L.b]?=some (.map c a)/\BQ (fun e E=>AR ρ e.1 E.key/\AR ρ e.2 E.val) d c.toList:=by
 have:=f.a id;rw[g]at this;obtain⟨j,c,a,k,l,m⟩:=this;grind
theorem kq(I:CV P ρ h W){t:TypeId}{m M k K v:Value}{ok:Bool}(G:AR ρ m M)(J:AR ρ k K)(i:VK P h t m k ok=some v):∃V,(Instr.lookup t M K ok).run P W=.ok V W/\AR ρ v V:=by
 unfold VK at i;split at i
 .rename_i y N O;split at i
  .rename_i A;obtain⟨d,B,l⟩:=Iu A;have C:=Cr l J;subst C;split at i
   .rename_i s n;have u:∀b,(Instr.checkKey b 10000 y K).run P W=.ok () W:=fun b=>Ca B l b 9999
    -- the entries on the other side
    have w:∃o:Array MapEntry,BQ (fun e E=>AR ρ e.1 E.key/\AR ρ e.2 E.val) s o.toList/\∀(f:Array MapEntry->Sem Value),((do
       let s<-match M with
        |.map none=>pure #[]|.map (some r)=>do
         let .map s _<-getObj r|stuck "Lookup: map expected"
         pure s|_=>stuck "Lookup: map expected"
       f s:Sem Value)).run P W=(f o).run P W:=by
     split at n
     .cases n;obtain rfl:M=.map none:=MF rfl G;exact⟨#[],.nil,fun f=>by simp⟩
     .rename_i id;split at n
      .rename_i Q S;cases n;obtain⟨L,T,rfl⟩:=qU G;obtain⟨o,U,X,a⟩:=qJ I S T;refine⟨o,a,fun f=>?_⟩;simp[getObj,Sem.run,X]
      grind
     grind
    obtain⟨o,a,p⟩:=w;have g:(Instr.lookup t M K ok).run P W=(do
       Instr.checkKey o.isEmpty 10000 y K let(v,D)<-match<-Instr.findKey y K o.toList with|some (_,v)=>pure (v,true)|none=>pure (<-zeroValue N,false)
       pure (if ok then .tuple #[v,.bool D]else v):Sem Value).run P W:=by
     unfold Instr.lookup;rw[ja,ay O];exact p _
    split at i
    .rename_i r F;cases i;obtain⟨R,q,c⟩:=yQ l a 0 F;cases R with
     |none=>grind|some Y=>
      obtain⟨j,V⟩:=Y;obtain⟨H,_⟩:=c;refine⟨if ok then .tuple #[V,.bool true]else V,?_,?_⟩;.rw[g];simp[u,Instr.findKey,ay B,q]
      .cases ok;.exact H
       .exact .tuple (.cons H (.cons (.flat rfl) .nil))
    .rename_i F;split at i
     .rename_i z Z;split at i
      .rename_i x;cases i;obtain⟨R,q,c⟩:=yQ l a 0 F;cases R with|some _=>grind|none=>
        refine⟨if ok then .tuple #[z,.bool false]else z,?_,?_⟩;.rw[g];simp[u,Instr.findKey,ay B,q,US Z]
        .cases ok;.exact NZ x
         .exact .tuple (.cons (NZ x) (.cons (.flat rfl) .nil))
      grind
     grind
    grind
   grind
  grind
 grind
theorem kr{k v:Value}:∀{a:List (Value×Value)}{j:Nat}{x u:Value},a[j]?=some (x,u)->M_ k x=some true->(∀(m:Nat)(c f:Value),m<j->a[m]?=some (c,f)->M_ k c=some false)->JU k v a=a.set j (k,v):=by
 intro a;induction a with
 |nil=>simp|cons e a o=>intro j x u d g b;obtain⟨i,l⟩:=e;cases j with|zero=>simp at d;obtain⟨rfl,rfl⟩:=d;simp[JU,g]|succ j=>have n:=b 0 i l (by omega) rfl;simp only[JU,n];grind
theorem kw{k v:Value}:∀{a:List (Value×Value)},NT k a=some none->JU k v a=a++[(k,v)]:=by intro a;induction a with|nil=>intro _;rfl|cons e a c=>
  intro h;obtain⟨d,f⟩:=e;simp only[NT]at h;split at h;.cases h
  .rename_i b;simp only[JU,b];grind
  .cases h
theorem Lo(X:CV P ρ h W){t:TypeId}{m M k K v V:Value}{h':AA}(hm:AR ρ m M)(hk:AR ρ k K)(Y:AR ρ v V)(q:P7 P h t m k v=some h'):∃Z,(Instr.mapUpdate t M K V).run P W=.ok () Z/\Nx P ρ h W ρ h' Z:=by
 unfold P7 at q;split at q
 .rename_i kt et id hu;split at q
  .rename_i hc;simp only[ah,am]at hc;obtain⟨H,hf⟩:=hc;obtain⟨d,I,c⟩:=Iu H;have J:=Cr c hk;subst J;split at q
   .rename_i es hg;obtain⟨L,N,rfl⟩:=qU hm;obtain⟨w,p,O,a⟩:=qJ X hg N;have z:(Instr.checkKey false 10000 kt K).run P W=.ok () W:=Ca I c false 9999;have h0:=(gl.1 O).1;have Q:wr (h.c id):=by rw[hg];trivial
    have o:∀g f,BQ (fun e E=>AR ρ e.1 E.key/\AR ρ e.2 E.val) (JU K v es) g.toList->Nx P ρ h W ρ (h.e id (.map (JU K v es))) {W with heap:=W.heap.setIfInBounds L.b (.map g f)}:=by
     intro g f ha;refine uM X (L:=L) Q hf N rfl rfl rfl (by simp) (fun b _ h1=>by grind) ?_;exact⟨L,g,f,N,by grind,ha⟩
    split at q
    .rename_i r A;cases q;obtain⟨R,B,l⟩:=yQ c a 0 A;cases R with
     |none=>cases r with
      |some _=>grind|none=>
       refine⟨_,?_,o (w.push {key:=K,val:=V,born:=p}) (p+1) ?_⟩;.simp[Instr.mapUpdate,ay hu,getObj,setObj,Sem.run,O,z,Instr.findKey,ay I,B]
       .rw[kw A,Array.toList_push];exact a.ZC (.cons ⟨NZ (by rcases c with⟨_,_,_,_,rfl⟩|⟨_,_,rfl⟩<;>rfl),Y⟩ .nil)
     |some jv=>cases r with|none=>grind|some r=>
       obtain⟨j,V0⟩:=jv;obtain⟨_,_,x,u,S,C,D⟩:=l;simp only[Nat.sub_zero]at S D;obtain⟨E,hE,F,h2⟩:=a.Zz S;have T:w[j]?=some E:=by grind
       have G:E.key=x/\Instr.sameBits 10000 E.key K=true:=by
        rcases c with⟨i,_,n,y,rfl⟩|⟨_,s,rfl⟩
        .cases x<;>simp[M_]at C;obtain⟨rfl,rfl⟩:=C;have:=P_ F;rw[this];exact⟨rfl,by simp[Instr.sameBits]⟩
        .cases x<;>simp[M_]at C;have U:=OA C;subst U;have:=Y2 F;rw[this];exact⟨rfl,by assumption⟩
       refine⟨_,?_,o (w.modify j fun e=>{e with key:=K,val:=V}) p ?_⟩;.simp[Instr.mapUpdate,ay hu,getObj,setObj,Sem.run,O,z,Instr.findKey,ay I,B,Instr.keyThatStays,T,G.2]
       .rw[kr S C D];have h3:=(ae.1 hE).1;have e1:(w.modify j fun e=>{e with key:=K,val:=V}).toList=w.toList.set j {E with key:=K,val:=V}:=by rw[Array.toList_modify];apply eh;grind
        rw[e1];exact a.YB ⟨NZ (by rcases c with⟨_,_,_,_,rfl⟩|⟨_,_,rfl⟩<;>rfl),Y⟩
    grind
   grind
  grind
 grind
theorem kz(j:CV P ρ h W){t ty:TypeId}{x X v:Value}(g:AR ρ x X)(d:CU P h t x=some v):∃V,(Builtin.len_ #[t] ty #[X]).run P W=.ok V W/\AR ρ v V:=by
 unfold CU at d;split at d
 .rename_i s b;cases d;obtain rfl:=Y2 g;exact⟨_,by simp[Builtin.len_,ay b,goInt],.flat rfl⟩
 .rename_i e a n c b;cases d;have:∃A C,X=.slice A n C:=by
   rcases LU g with⟨_,rfl,rfl,rfl⟩|⟨_,_,L,_,_,_,rfl⟩|⟨_,_,L,A,C,_,_,_,_,rfl,_⟩;.simp
   .simp
   simp
  obtain⟨A,C,rfl⟩:=this;exact⟨_,by simp[Builtin.len_,ay b,goInt],.flat rfl⟩
 .rename_i n e b;cases d;exact⟨.int .i64 n,by simp[Builtin.len_,ay b,goInt],.flat rfl⟩
 .rename_i k e b;cases d;obtain rfl:X=.map none:=MF rfl g;exact⟨_,by simp[Builtin.len_,ay b,goInt],.flat rfl⟩
 .rename_i k e u b;split at d
  .rename_i l m;cases d;obtain⟨L,o,rfl⟩:=qU g;obtain⟨i,p,q,f⟩:=qJ j m o;have r:l.length=i.size:=by simpa using f.Z6
   exact⟨.int .i64 i.size,by simp[Builtin.len_,ay b,goInt,getObj,Sem.run,q],by rw[r];exact .flat rfl⟩
  grind
 grind
theorem Ot{g:Int->Int->Int}{f:Value->Value->Option Value}{F:Value->Value->Sem Value}(m:∀a b c,f a b=some c->∃k x j y,a=.int k x/\b=.int j y/\c=.int k (g x y))(q:∀k x j y,F (.int k x) (.int j y)=pure (.int k (g x y))):∀{l L:List Value}{a v:Value},BQ (AR ρ) l L->(∃k x,a=.int k x)->l.foldlM f a=some v->(L.foldlM F a).run P W=.ok v W/\∃k x,v=.int k x:=by intro l;induction l with|nil=>intro L a v d n i;cases d;simp_all|cons b l o=>intro L a v d n i;cases d with|cons p d=>
  rw[List.foldlM_cons]at i;cases e:f a b with
  |none=>grind|some c=>
   rw[e]at i;obtain⟨k,x,j,y,rfl,rfl,rfl⟩:=m a b c e;obtain rfl:=P_ p;have:=o d ⟨k,g x y,rfl⟩ i;grind
theorem Yx{ty:TypeId}{at_:Array TypeId}{l:List Value}{L:Array Value}{v:Value}(d:BQ (AR ρ) l L.toList)(e:dD l=some v):(Builtin.max_ at_ ty L).run P W=.ok v W/\AR ρ v v:=by
 unfold dD at e;split at e;.rename_i k x f;unfold Builtin.max_;cases i:L.toList with
  |nil=>rw[i]at d;cases d|cons X j=>
   rw[i]at d;cases d with|cons m n=>
   obtain rfl:=P_ m;have:=Ot (P:=P) (W:=W) (g:=fun x y=>if y>x then y else x) (F:=Builtin.max2) (fun a b c h=>by grind) (fun _ _ _ _=>rfl) n ⟨k,x,rfl⟩ e;obtain⟨o,p,q,rfl⟩:=this;exact⟨o,.flat rfl⟩
 grind
theorem Uo{ty:TypeId}{at_:Array TypeId}{l:List Value}{L:Array Value}{v:Value}(d:BQ (AR ρ) l L.toList)(e:cH l=some v):(Builtin.min_ at_ ty L).run P W=.ok v W/\AR ρ v v:=by
 unfold cH at e;split at e;.rename_i k x f;unfold Builtin.min_;cases i:L.toList with
  |nil=>rw[i]at d;cases d|cons X j=>
   rw[i]at d;cases d with|cons m n=>
   obtain rfl:=P_ m;have:=Ot (P:=P) (W:=W) (g:=fun x y=>if y<x then y else x) (F:=Builtin.min2) (fun a b c h=>by grind) (fun _ _ _ _=>rfl) n ⟨k,x,rfl⟩ e;obtain⟨o,p,q,rfl⟩:=this;exact⟨o,.flat rfl⟩
 grind
section
variable {t:TypeId} {e:TypeId}
theorem Ko(b:P.underlying t=some (.pointer e))(a:Addr):(Op.equal t (.pointer (some a)) (.pointer none)).run P W=.ok false W:=by
 have h:∀d,(Op.equalIn (d+1) t (.pointer (some a)) (.pointer none)).run P W=.ok false W:=fun d=>by simp[Op.equalIn,ay b]
 exact h 9999
theorem Fs(b:P.underlying t=some (.pointer e))(a:Addr):(Op.equal t (.pointer none) (.pointer (some a))).run P W=.ok false W:=by
 have h:∀d,(Op.equalIn (d+1) t (.pointer none) (.pointer (some a))).run P W=.ok false W:=fun d=>by simp[Op.equalIn,ay b]
 exact h 9999
theorem Bl(b:P.underlying t=some (.slice e))(a:Addr)(n c:Nat):(Op.equal t (.slice (some a) n c) (.slice none 0 0)).run P W=.ok false W:=by
 have h:∀d,(Op.equalIn (d+1) t (.slice (some a) n c) (.slice none 0 0)).run P W=.ok false W:=fun d=>by simp[Op.equalIn,ay b]
 exact h 9999
end
theorem YG{t:TypeId}{A B:Value}{r:Bool}(e:(∃a,A=.pointer a)\/(∃a n c,A=.slice a n c))(f:(∃a,B=.pointer a)\/(∃a n c,B=.slice a n c))(j:(Op.equal t A B).run P W=.ok r W)(x y:Operand):(do eqGuard .eql t x y A B;binOp .eql t A B:Sem Value).run P W=.ok (.bool r) W/\(do eqGuard .neq t x y A B;binOp .neq t A B:Sem Value).run P W=.ok (.bool !r) W:=by
 have k:∀d,eqGuard d t x y A B=pure ():=by
  intro d;rcases e with⟨a,rfl⟩|⟨a,n,c,rfl⟩;.exact eqGuard_at_pointer d t x y B a
  .exact eqGuard_at_slice d t x y B a n c
 have l:binOp .eql t A B=(do pure (.bool (<-Op.equal t A B))):=by rcases e with⟨a,rfl⟩|⟨a,n,c,rfl⟩<;>rcases f with⟨b,rfl⟩|⟨b,g,i,rfl⟩<;>rfl
 have m:binOp .neq t A B=(do pure (.bool (!(<-Op.equal t A B)))):=by rcases e with⟨a,rfl⟩|⟨a,n,c,rfl⟩<;>rcases f with⟨b,rfl⟩|⟨b,g,i,rfl⟩<;>rfl
 simp_all
theorem VC{t:TypeId}{v V:Value}(h:AR ρ (.iface t v) V):∃a,V=.iface t a/\AR ρ v a:=by cases h with|flat b=>simp[B7]at b|iface h=>grind
theorem Pe{t:TypeId}{a:Array (String×TypeId)}(b:P.underlying t=some (.interface a))(ty:TypeId)(v:Value):(Op.equal t (.iface ty v) .nilIface).run P W=.ok false W:=by unfold Op.equal Op.maxDepth Op.equalIn;simp[ay b]
theorem Ee{t:TypeId}{a:Array (String×TypeId)}(b:P.underlying t=some (.interface a))(ty:TypeId)(v:Value):(Op.equal t .nilIface (.iface ty v)).run P W=.ok false W:=by unfold Op.equal Op.maxDepth Op.equalIn;simp[ay b]
theorem o9{t:TypeId}{A B:Value}{r:Bool}(a:(∃b v,A=.iface b v/\B=.nilIface)\/(∃b v,B=.iface b v/\A=.nilIface))(d:(Op.equal t A B).run P W=.ok r W)(x y:Operand):(do eqGuard .eql t x y A B;binOp .eql t A B:Sem Value).run P W=.ok (.bool r) W/\(do eqGuard .neq t x y A B;binOp .neq t A B:Sem Value).run P W=.ok (.bool (!r)) W:=by
 have e:∀c,eqGuard c t x y A B=(pure ():Sem Unit):=by intro c;rcases a with⟨_,_,rfl,rfl⟩|⟨_,_,rfl,rfl⟩<;>cases c<;>rfl
 have f:binOp .eql t A B=(do pure (.bool (<-Op.equal t A B))):=by rcases a with⟨_,_,rfl,rfl⟩|⟨_,_,rfl,rfl⟩<;>rfl
 have g:binOp .neq t A B=(do pure (.bool (!(<-Op.equal t A B)))):=by rcases a with⟨_,_,rfl,rfl⟩|⟨_,_,rfl,rfl⟩<;>rfl
 simp_all
theorem Tl{i:BinOp}{t:TypeId}{x y:Operand}{a b A B v:Value}(e:AR ρ a A)(f:AR ρ b B)(d:CT P i t x y a b=some v):∃V,(do eqGuard i t x y A B;binOp i t A B:Sem Value).run P W=.ok V W/\AR ρ v V:=by
 unfold CT at d;split at d;.rename_i j;simp only[ah]at j;obtain rfl:=SM j.1 e;obtain rfl:=SM j.2 f;cases m:BZ P (do eqGuard i t x y A B;binOp i t A B)with
  |none=>grind|some u=>
   rw[m]at d;simp only at d;split at d
   .cases d;exact⟨v,yG m,NZ ‹_›⟩
   grind
 .split at d
  .cases d;have c:=‹P.underlying t=some (.pointer _)›;obtain⟨L,k,_,rfl⟩:=WV e;obtain rfl:B=.pointer none:=MF rfl f;exact⟨_,(YG (.inl ⟨_,rfl⟩) (.inl ⟨_,rfl⟩) (Ko c _) x y).1,.flat rfl⟩
  .cases d;have c:=‹P.underlying t=some (.pointer _)›;obtain⟨L,k,_,rfl⟩:=WV f;obtain rfl:A=.pointer none:=MF rfl e;exact⟨_,(YG (.inl ⟨_,rfl⟩) (.inl ⟨_,rfl⟩) (Fs c _) x y).1,.flat rfl⟩
  .cases d;have c:=‹P.underlying t=some (.pointer _)›;obtain⟨L,k,_,rfl⟩:=WV e;obtain rfl:B=.pointer none:=MF rfl f;exact⟨_,(YG (.inl ⟨_,rfl⟩) (.inl ⟨_,rfl⟩) (Ko c _) x y).2,.flat rfl⟩
  .cases d;have c:=‹P.underlying t=some (.pointer _)›;obtain⟨L,k,_,rfl⟩:=WV f;obtain rfl:A=.pointer none:=MF rfl e;exact⟨_,(YG (.inl ⟨_,rfl⟩) (.inl ⟨_,rfl⟩) (Fs c _) x y).2,.flat rfl⟩
  .cases d;have c:=‹P.underlying t=some (.slice _)›;obtain rfl:B=.slice none 0 0:=MF rfl f;have:∃g n C,A=.slice (some g) n C:=by
    rcases LU e with⟨l,_⟩|⟨_,_,L,_,_,_,rfl⟩|⟨_,_,L,A,C,_,_,_,_,rfl,_⟩;.cases l
    .simp
    simp
   obtain⟨g,n,C,rfl⟩:=this;exact⟨_,(YG (.inr ⟨_,_,_,rfl⟩) (.inr ⟨_,_,_,rfl⟩) (Bl c _ _ _) x y).1,.flat rfl⟩
  .cases d;have c:=‹P.underlying t=some (.slice _)›;obtain rfl:B=.slice none 0 0:=MF rfl f;have:∃g n C,A=.slice (some g) n C:=by
    rcases LU e with⟨l,_⟩|⟨_,_,L,_,_,_,rfl⟩|⟨_,_,L,A,C,_,_,_,_,rfl,_⟩;.cases l
    .simp
    simp
   obtain⟨g,n,C,rfl⟩:=this;exact⟨_,(YG (.inr ⟨_,_,_,rfl⟩) (.inr ⟨_,_,_,rfl⟩) (Bl c _ _ _) x y).2,.flat rfl⟩
  .cases d;have c:=‹P.underlying t=some (.interface _)›;obtain⟨g,rfl,_⟩:=VC e;obtain rfl:B=.nilIface:=MF rfl f;exact⟨_,(o9 (.inl ⟨_,_,rfl,rfl⟩) (Pe c _ _) x y).1,.flat rfl⟩
  .cases d;have c:=‹P.underlying t=some (.interface _)›;obtain⟨o,rfl,_⟩:=VC f;obtain rfl:A=.nilIface:=MF rfl e;exact⟨_,(o9 (.inr ⟨_,_,rfl,rfl⟩) (Ee c _ _) x y).1,.flat rfl⟩
  .cases d;have c:=‹P.underlying t=some (.interface _)›;obtain⟨g,rfl,_⟩:=VC e;obtain rfl:B=.nilIface:=MF rfl f;exact⟨_,(o9 (.inl ⟨_,_,rfl,rfl⟩) (Pe c _ _) x y).2,.flat rfl⟩
  .cases d;have c:=‹P.underlying t=some (.interface _)›;obtain⟨o,rfl,_⟩:=VC f;obtain rfl:A=.nilIface:=MF rfl e;exact⟨_,(o9 (.inr ⟨_,_,rfl,rfl⟩) (Ee c _ _) x y).2,.flat rfl⟩
  grind
theorem kQ{t:TypeId}{i:TypeInfo}(h:P.info? t=some i):(typeInfo t).run P W=.ok i W:=by simp[typeInfo,ja,h]
theorem kE{d:TypeDesc}{x X:Value}{xt a:TypeId}{ok:Bool}{r:Option Value}(f:P.underlying a=some d)(l:AR ρ x X)(e:SN P d a x=some r):(∀u,r=some u->∃U,AR ρ u U/\(Instr.typeAssert X xt a ok).run P W=.ok (if ok then .tuple #[U,.bool true]else U) W)/\(r=none->∀z,ok=true->DK P a=some z->(Instr.typeAssert X xt a ok).run P W=.ok (.tuple #[z,.bool false]) W):=by cases x with
 |nilIface=>
  obtain rfl:X=.nilIface:=MF rfl l;have:r=none:=by cases d<;>(simp[SN]at e;grind)
  subst this;refine⟨fun u h=>(by cases h),fun _ z b g=>?_⟩;subst b;cases d<;>simp[Instr.typeAssert,ay f,US g]|iface t v=>
  obtain⟨V,rfl,o⟩:=VC l;by_cases p:∃c,d=.interface c;.obtain⟨c,rfl⟩:=p;cases j:P.info? t with|none=>simp[SN,j]at e|some i=>cases k:Instr.missingMethod c i.methods with
    |none=>
     have:r=some (.iface t v):=by simp[SN,j,k]at e;grind
     subst this;refine⟨fun u h=>?_,fun h=>(by cases h)⟩;cases h;exact⟨_,l,by cases ok<;>simp[Instr.typeAssert,ay f,kQ j,k]⟩|some m=>
     have:r=none:=by simp[SN,j,k]at e;grind
     subst this;refine⟨fun u h=>(by cases h),fun _ z b g=>?_⟩;subst b;simp[Instr.typeAssert,ay f,kQ j,k,US g]
  .by_cases n:t=a
   .subst n;have:r=some v:=by cases d<;>first|grind|(simp[SN]at e;grind)
    subst this;refine⟨fun u h=>?_,fun h=>(by cases h)⟩;cases h;exact⟨_,o,by cases d<;>first|grind|(cases ok<;>simp[Instr.typeAssert,ay f])⟩
   .have:r=none:=by cases d<;>first|grind|(simp[SN,n]at e;grind)
    subst this;refine⟨fun u h=>(by cases h),fun _ z b g=>?_⟩;subst b;cases d<;>first|grind|(simp[Instr.typeAssert,ay f,n,US g])
 |_=>cases d<;>simp[SN]at e
theorem kG{x X v:Value}{xt a:TypeId}{ok:Bool}(k:AR ρ x X)(b:LH P x a ok=some v):∃V,(Instr.typeAssert X xt a ok).run P W=.ok V W/\AR ρ v V:=by
 unfold LH at b;cases e:P.underlying a with
 |none=>grind|some d=>rw[e]at b;simp only at b;cases f:SN P d a x with|none=>grind|some r=>
   have g:=kE (xt:=xt) (ok:=ok) (W:=W) e k f;rw[f]at b;cases r with
   |some u=>
    simp only at b;cases b;obtain⟨U,i,l⟩:=g.1 u rfl;refine⟨_,l,?_⟩;cases ok;.exact i
    .exact .tuple (.cons i (.cons (.flat rfl) .nil))|none=>
    simp only at b;split at b;.rename_i c;cases j:DK P a with|none=>grind|some z=>
      rw[j]at b;simp only at b;split at b
      .rename_i m;cases b;exact⟨_,g.2 rfl z c j,.tuple (.cons (NZ m) (.cons (.flat rfl) .nil))⟩
      grind
    grind
theorem En{t:TypeId}{v g V:Value}{a:String}{k:FuncId}{n:Nat}(y:AR ρ v V)(b:V_ P t v a=some (k,g)):g=v/\(method (n+1) t V a).run P W=.ok (k,V) W:=by
 unfold V_ at b;cases j:P.info? t with
 |none=>grind|some i=>rw[j]at b;simp only at b;cases l:i.methods.find? (·.name==a)with|none=>grind|some m=>
   rw[l]at b;simp only at b;split at b
   .rename_i z;have c:m.path=#[]:=by grind
    cases o:m.func with
    |none=>grind|some u=>
     obtain⟨f,p⟩:=u;cases q:P.underlying t with
     |none=>grind|some d=>
      rw[o,q]at b;have r:(f,v)=(k,g)/\(p=true->∃e,d=.pointer e)/\(p=false->∀e,d≠.pointer e):=by grind
      obtain⟨w,x,s⟩:=r;cases w;refine⟨rfl,?_⟩;cases p with|true=>obtain⟨e,rfl⟩:=x rfl;simp[method,kQ j,l,c,o,follow,receiverAt,ay q,Place.get]|false=>have s:=s rfl;cases d<;>first|grind|(simp[method,kQ j,l,c,o,follow,receiverAt,ay q,Place.get])
   grind
theorem kH:∀{cs:List Value}{l:List UInt8},fL cs=some l->∃a:List Int,cs=a.map (Value.int .u8)/\l=a.map fun n=>UInt8.ofNat n.toNat:=by
 intro cs;induction cs with
 |nil=>intro l h;simp[fL]at h;simp_all|cons c cs d=>
  intro l h;unfold fL at h;split at h;.grind
  .rename_i n r b;cases b;split at h
   .rename_i f e;cases h;obtain⟨a,rfl,rfl⟩:=d e;exact⟨n::a,rfl,rfl⟩
   .cases h
  .cases h
theorem lh(w:CV P ρ h W){src g:TypeId}{x X v:Value}(p:AR ρ x X)(b:ZY P h src g x=some v):∃V,(convert src g X).run P W=.ok V W/\AR ρ v V:=by
 unfold ZY at b;split at b
 .rename_i d k G n j m;cases b;obtain rfl:=P_ p;exact⟨_,by simp[convert,ay j,ay m,Conv.intToInt],.flat rfl⟩
 .rename_i d s j m;cases b;obtain rfl:=Y2 p;exact⟨_,by simp[convert,ay j,ay m],.flat rfl⟩
 .rename_i e a n c j m;split at b
  .rename_i y;split at b
   .rename_i H q;split at b
    .rename_i l z;cases b;obtain⟨A,C,D,rfl,E,r,f⟩:=mI w p (af _) q;obtain⟨o,rfl,rfl⟩:=kH z;have t:=Bt r (by simp[B7]);subst t;refine⟨_,?_,.flat rfl⟩;rw[run_convert_bytes_string W src g e A n C j y m];simp only[cy]at E;cases A with
     |none=>
      rcases f with rfl|⟨B,u,_⟩
      .have:o=[]:=by grind
       subst this;simp[Conv.bytesToString];rfl
      grind|some B=>
      have i:(loadCells B n).run P W=.ok (o.map (Value.int .u8)).toArray W:=by
       rcases f with rfl|⟨I,u,F⟩
       .have:o=[]:=by grind
        subst this;simp[loadCells,loadCellsFrom]
       .cases u;have:=run_loadCells_list (P:=P) W B (o.map (Value.int .u8)) F;grind
      rw[run_bytesToString W B n C o i,foldl_push_bytes];simp
    grind
   grind
  grind
 grind
end
def YL(P:Program):Operand->Bool|.const v=>flat v|.global g=>decide (g<P.globals.size)|_=>true
def SZ(n:Nat):Option Tmp->Bool|some d=>decide (d<n)|none=>true
def LK(P:Program)(n:Nat)(o:Oper):Bool:=o.op.operands.toList.all (YL P)&&SZ n o.dst
def HZ(a:B8)(T:Tr)(A:Act):Prop:=∀t,AR a (T.a t) (A.tmps.getD t undef)
def EN(P:Program)(call:AY):Prop:=∀f a h v j,call f a h=some (v,j)->(∃g c,P.funcs[f]?=some g/\g.body=some c/\(g.name== "runtime.NumGoroutine")=false)/\∀i W(b:Array Value),CV P i h W->BQ (AR i) a b.toList->Calls P f b W (fun e k=>∃V d,e=.returned V/\Nx P i h W d j k/\AR d v V)
section
variable {P:Program} {ρ:B8} {h:AA} {W:World} {T:Tr} {A:Act}
theorem mG(b:CV P ρ h W)(c:HZ ρ T A){x:Operand}(a:YL P x=true):AR ρ (ev T x) (A.eval x):=by cases x with
 |tmp t=>exact c t|const v=>exact NZ a|global g=>
  simp only[YL,am]at a;obtain⟨L,d,e,i⟩:=b.b g a;have:=AR.ptr (ρ:=ρ) (id:=g) (off:=0) d;simp only[e,i,ab]at this;exact this|func f=>exact .func .nil .nil
theorem HZ.b{a:B8}(b:HZ ρ T A)(c:∀i L,ρ i=some L->a i=some L):HZ a T A:=fun t=>(b t).a c
theorem Tr.b(T:Tr)(a:Option Tmp)(v:Value)(t:Nat):(T.c a v).a t=if a=some t then v else T.a t:=by cases a with|none=>simp[Tr.c]|some d=>simp only[Tr.c,Tr.d];grind
theorem uQ(A:Act)(a:Option Tmp)(V:Value)(n:Nat)(c:A.tmps.size=n)(b:SZ n a=true)(t:Nat):(A.put a V).tmps.getD t undef=if a=some t then V else A.tmps.getD t undef:=by cases a with|none=>simp[Act.put]|some d=>simp only[SZ,am]at b;simp only[Act.put,ed,Array.getElem?_setIfInBounds];grind
theorem QG(A:Act)(a:Option Tmp)(V:Value):(A.put a V).tmps.size=A.tmps.size:=by cases a<;>simp[Act.put]
theorem RO(A:Act)(a:Option Tmp)(V:Value):(A.put a V).defers=A.defers:=by cases a<;>rfl
theorem HZ.a{n:Nat}(b:HZ ρ T A)(c:A.tmps.size=n){a:Option Tmp}(d:SZ n a=true){v V:Value}(e:AR ρ v V):HZ ρ (T.c a v) (A.put a V):=by
 intro t;rw[Tr.b,uQ A a V n c d];split;.exact e
 .exact b t
theorem IK{o:Oper}{K:Act->World->Prop}{Q:Exit->Act->World->Prop}{V:Value}{W':World}(a:(execOp A.eval o).run P W=.ok (.value V) W')(b:K (A.put o.dst V) W'):o.wp P A W K Q:=by unfold Oper.wp;rw[a];exact b
theorem tE{o:Oper}{K:Act->World->Prop}{Q:Exit->Act->World->Prop}{W':World}(a:(execOp A.eval o).run P W=.ok .skip W')(b:K (A.put o.dst undef) W'):o.wp P A W K Q:=by unfold Oper.wp;rw[a];exact b
theorem aT{l:Array Operand}(d:∀x∈l,AR ρ (ev T x) (A.eval x)):BQ (AR ρ) (evs T l) (l.map A.eval).toList:=by
 unfold evs;rw[jm];have a:∀x∈l.toList,AR ρ (ev T x) (A.eval x):=by grind
 generalize l.toList=l at a;induction l with
 |nil=>exact .nil|cons x l b=>exact .cons (a x (by simp)) (b fun y c=>a y (by simp[c]))
theorem Ed{l:Array (Nat×Operand)}(f:∀i x,(i,x)∈l->AR ρ (ev T x) (A.eval x)):BQ (fun a b=>a.1=b.1/\AR ρ a.2 b.2) (l.toList.map fun(i,x)=>(i,ev T x)) (l.map fun(i,x)=>(i,A.eval x)).toList:=by
 rw[jm];have c:∀i x,(i,x)∈l.toList->AR ρ (ev T x) (A.eval x):=by grind
 generalize l.toList=l at c;induction l with
 |nil=>exact .nil|cons x l d=>
  obtain⟨i,x⟩:=x;exact .cons ⟨rfl,c i x (by simp)⟩ (d fun j y e=>c j y (by simp[e]))
theorem t_{x:Option Operand}(a:∀y,x=some y->AR ρ (ev T y) (A.eval y)):BQ (AR ρ) (x.map (ev T)).toList (x.map A.eval).toList:=by cases x with
 |none=>exact .nil|some x=>exact .cons (a x rfl) .nil
theorem U9{call:AY}(h5:EN P call)(C:CV P ρ h W){o:Oper}(q:∀x∈o.op.operands,AR ρ (ev T x) (A.eval x)){v:Value}{h':AA}(g:A_ P call T h o.op=some (v,h')){K:Act->World->Prop}{Q:Exit->Act->World->Prop}(E:∀V W' H,Nx P ρ h W H h' W'->AR H v V->K (A.put o.dst V) W'):o.wp P A W K Q:=by cases j:o.op with
 |move x=>
  rw[j]at g q;simp[A_]at g;obtain⟨rfl,rfl⟩:=g;simp[Op.operands]at q;exact IK (by simp only[execOp,j];rfl) (E _ _ ρ (Nx.a C) q)|assign x=>rw[j]at g q;simp[A_]at g;obtain⟨rfl,rfl⟩:=g;simp[Op.operands]at q;exact IK (by simp only[execOp,j];rfl) (E _ _ ρ (Nx.a C) q)|pick c a b=>
  rw[j]at g q;simp[Op.operands]at q;simp only[A_]at g;split at g
  .rename_i t I;simp at g;obtain⟨rfl,rfl⟩:=g;have h1:=q.1;rw[I]at h1;have h2:=UH h1;refine IK (V:=if t then A.eval a else A.eval b) (by simp[execOp,j,h2,asBool]) (E _ _ ρ (Nx.a C) ?_);grind
  grind|alloc e=>
  rw[j]at g q;simp only[A_]at g;split at g
  .rename_i z hz;split at g
   .rename_i hf;simp at g;obtain⟨rfl,rfl⟩:=g;have h8:∃s,BN P e=some s:=by
     unfold DK at hz;unfold BN;cases hq:P.info? e with
     |none=>grind|some i=>simp
    obtain⟨s,g⟩:=h8;refine IK (V:=.pointer (some ⟨W.heap.size,0,none⟩)) (W':=W.alloc (.cells z.cells e)) (by simp[execOp,j,Instr.alloc,US hz,newVar,newRow]) (E _ _ _ (eV C rfl rfl rfl rfl g (kL (YO hf))) ?_);have:=AR.ptr (ρ:=F9 ρ h.a ⟨W.heap.size,0,z.cells.size,s⟩) (id:=h.a) (off:=0) (LW _ _ _);assumption
   grind
  grind|box e x=>
  rw[j]at g q;simp[Op.operands]at q;simp only[A_]at g;split at g
  .rename_i x1;split at g
   .rename_i s h8;simp at g;obtain⟨rfl,rfl⟩:=g;have G:=q;refine IK (V:=.pointer (some ⟨W.heap.size,0,none⟩)) (W':=W.alloc (.cells (A.eval x).cells e)) (by simp[execOp,j,Instr.box,newVar,newRow]) (E _ _ _ (eV C rfl rfl rfl rfl h8 (kL (f_ G))) ?_);have:=AR.ptr (ρ:=F9 ρ h.a ⟨W.heap.size,0,(A.eval x).cells.size,s⟩) (id:=h.a) (off:=0) (LW _ _ _);assumption
   grind
  grind|build t h9=>
  rw[j]at g q;simp[Op.operands]at q;simp only[A_,aq,aO]at g;obtain⟨u,B,rfl,rfl⟩:=g;obtain⟨V,w,D⟩:=Tu (W:=W) (Ed (A:=A) fun i x h=>q x i h) B;exact IK (by simp[execOp,j,w]) (E _ _ ρ (Nx.a C) D)|buildSlice t x2 h9=>
  rw[j]at g q;simp[Op.operands]at q;simp only[A_]at g;obtain⟨V,W',H,w,O,D⟩:=kf C (Ed (A:=A) fun i x h=>q x i h) g;exact IK (by simp[execOp,j,w]) (E _ _ H O D)|load t a=>rw[j]at g q;simp[Op.operands]at q;simp only[A_,aq,aO]at g;obtain⟨u,B,rfl,rfl⟩:=g;obtain⟨V,w,D⟩:=Di C q B;exact IK (by simp[execOp,j,w]) (E _ _ ρ (Nx.a C) D)|store t a x=>rw[j]at g q;simp[Op.operands]at q;simp only[A_,aq,aO]at g;obtain⟨u,B,rfl,rfl⟩:=g;obtain⟨W',hW,O⟩:=jx C q.1 q.2 B;exact tE (by simp[execOp,j,hW]) (E _ _ ρ O R2)|nilCheck x=>
  rw[j]at g q;simp[Op.operands]at q;simp only[A_]at g;have G:=q;split at g
  .rename_i a ha;simp at g;obtain⟨rfl,rfl⟩:=g;rw[ha]at G;obtain⟨L,hL,_,w⟩:=WV G;rw[w]at G;exact IK (by simp[execOp,j,w]) (E _ _ ρ (Nx.a C) G)
  .rename_i k J F ha;simp at g;obtain⟨rfl,rfl⟩:=g;rw[ha]at G;obtain⟨f',c',w,_,_⟩:=aY G;rw[w]at G;exact IK (by simp[execOp,j,w]) (E _ _ ρ (Nx.a C) G)
  grind|binOp op t x y yt=>
  rw[j]at g q;simp[Op.operands]at q;simp only[A_,aq,aO]at g;obtain⟨u,B,rfl,rfl⟩:=g;obtain⟨V,w,D⟩:=Tl (W:=W) q.1 q.2 B;refine IK (V:=V) (W':=W) ?_ (E _ _ ρ (Nx.a C) D);simp only[execOp,j];rw[ja,w];rfl|unOp op t x=>
  rw[j]at g q;simp[Op.operands]at q;simp only[A_]at g;split at g
  .rename_i hf;split at g
   .rename_i u B;split at g;.rename_i g0;simp at g;obtain⟨rfl,rfl⟩:=g;have G:=SM hf q;exact IK (V:=u) (by simp[execOp,j,G,yG B]) (E _ _ ρ (Nx.a C) (NZ g0))
    grind
   grind
  grind|convert x3 x4 x=>
  rw[j]at g q;simp[Op.operands]at q;simp only[A_,aq,aO]at g;obtain⟨u,B,rfl,rfl⟩:=g;obtain⟨V,w,D⟩:=lh C q B;exact IK (by simp[execOp,j,w]) (E _ _ ρ (Nx.a C) D)|makeFunc fn J F=>
  rw[j]at g q;simp only[Op.operands,Array.mem_append]at q;simp only[A_,aj,aO]at g;obtain⟨rfl,rfl⟩:=g;refine IK (V:=.func fn (J.map A.eval) (F.map A.eval)) (by simp[execOp,j,Instr.makeFunc]) (E _ _ ρ (Nx.a C) (.func ?_ ?_));.rw[jm];exact aT fun x G=>q x (.inl G)
  .rw[jm];exact aT fun x G=>q x (.inr G)|makeMap t r=>
  rw[j]at g q;cases r with|some _=>simp[A_]at g|none=>
   simp only[A_,aj,aO]at g;obtain⟨rfl,rfl⟩:=g;refine IK (V:=.map (some W.heap.size)) (W':=W.alloc (.map #[] 0)) (by simp[execOp,j,Instr.makeMap]) (E _ _ (F9 ρ h.a ⟨W.heap.size,0,0,0⟩) (Dc C rfl rfl rfl rfl rfl ?_) ?_);.exact⟨_,#[],0,LW _ _ _,heap_alloc_new W _,.nil⟩
   .have:=AR.map (ρ:=F9 ρ h.a ⟨W.heap.size,0,0,0⟩) (id:=h.a) (LW _ _ _);exact this
 |makeSlice t l c=>
  rw[j]at g q;simp[Op.operands]at q;simp only[A_]at g;obtain⟨V,W',H,w,O,D⟩:=kg C q.1 q.2 g;exact IK (by simp[execOp,j,w]) (E _ _ H O D)|slice t x lo hi mx=>
  rw[j]at g q;simp only[A_,aq,aO]at g;obtain⟨u,B,rfl,rfl⟩:=g;obtain⟨V,w,D⟩:=jz C (q x (by simp[Op.operands])) (t_ (A:=A) fun y hy=>q y (by simp[Op.operands,hy])) (t_ (A:=A) fun y hy=>q y (by simp[Op.operands,hy])) (t_ (A:=A) fun y hy=>q y (by simp[Op.operands,hy])) B;exact IK (by simp[execOp,j,w]) (E _ _ ρ (Nx.a C) D)|fieldAddr s x f=>
  rw[j]at g q;simp[Op.operands]at q;simp only[A_,aq,aO]at g;obtain⟨u,B,rfl,rfl⟩:=g;obtain⟨V,w,D⟩:=jX (W:=W) q B;exact IK (by simp[execOp,j,w]) (E _ _ ρ (Nx.a C) D)|field s x f=>rw[j]at g q;simp[Op.operands]at q;simp only[A_,aq,aO]at g;obtain⟨u,B,rfl,rfl⟩:=g;obtain⟨V,w,D⟩:=Zo (W:=W) q B;exact IK (by simp[execOp,j,w]) (E _ _ ρ (Nx.a C) D)|indexAddr t x i=>rw[j]at g q;simp[Op.operands]at q;simp only[A_,aq,aO]at g;obtain⟨u,B,rfl,rfl⟩:=g;obtain⟨V,w,D⟩:=Uc (W:=W) q.1 q.2 B;exact IK (by simp[execOp,j,w]) (E _ _ ρ (Nx.a C) D)|index t x i=>
  rw[j]at g q;simp[Op.operands]at q;simp only[A_]at g;split at g
  .rename_i hf;simp only[ah]at hf;split at g
   .rename_i u B;split at g
    .rename_i g0;simp at g;obtain⟨rfl,rfl⟩:=g;have G:=SM hf.1 q.1;have hi:=SM hf.2 q.2;exact IK (V:=u) (by simp[execOp,j,G,hi,yG B]) (E _ _ ρ (Nx.a C) (NZ g0))
    grind
   grind
  grind|lookup t m k ok=>rw[j]at g q;simp[Op.operands]at q;simp only[A_,aq,aO]at g;obtain⟨u,B,rfl,rfl⟩:=g;obtain⟨V,w,D⟩:=kq C q.1 q.2 B;exact IK (by simp[execOp,j,w]) (E _ _ ρ (Nx.a C) D)|mapUpdate t m k x=>
  rw[j]at g q;simp[Op.operands]at q;simp only[A_,aq,aO]at g;obtain⟨u,B,rfl,rfl⟩:=g;obtain⟨W',hW,O⟩:=Lo C q.1 q.2.1 q.2.2 B;exact tE (by simp[execOp,j,hW]) (E _ _ ρ O R2)|insert t m k x=>
  rw[j]at g q;simp[Op.operands]at q;simp only[A_,aq,aO]at g;obtain⟨u,B,rfl,rfl⟩:=g;obtain⟨W',hW,O⟩:=Lo C q.1 q.2.1 q.2.2 B;exact tE (by simp[execOp,j,hW]) (E _ _ ρ O R2)|extract t i=>
  rw[j]at g q;simp[Op.operands]at q;simp only[A_]at g;have G:=q;split at g
  .rename_i vs x0;simp only[aq,aO]at g;obtain⟨u,B,rfl,rfl⟩:=g;rw[x0]at G;obtain⟨x5,w,R⟩:=ju G;obtain⟨V,g5,D⟩:=R.Zz (i:=i) (by simpa using B);simp at g5;exact IK (V:=V) (by simp[execOp,j,w,Instr.extract,g5]) (E _ _ ρ (Nx.a C) D)
  grind|call c=>
  rw[j]at g q;simp only[A_]at g;have p:=aT (ρ:=ρ) (T:=T) (A:=A) (l:=c.args) fun x G=>q x (by simp[Op.operands,Call.operands,G]);unfold RW at g;split at g
  .rename_i I;split at g
   .rename_i t x ht G;simp only[aq,aO]at g;obtain⟨u,B,rfl,rfl⟩:=g;rw[G]at p;cases S:(c.args.map A.eval).toList with
    |nil=>rw[S]at p;cases p|cons X L=>
     rw[S]at p;cases p with|cons hX hL=>
     cases hL;have Z:=eF.1 S;have h0:=eF.1 ht;obtain⟨V,w,D⟩:=kz (ty:=o.type) C hX B;exact IK (V:=V) (by simp[execOp,j,resolve,I,invoke,builtin,Z,h0,w]) (E _ _ ρ (Nx.a C) D)
   grind
  .rename_i I;split at g
   .rename_i t t' d s ht G;split at g;.rename_i g1;subst g1;rw[G]at p;cases S:(c.args.map A.eval).toList with
     |nil=>rw[S]at p;cases p|cons X L=>
      rw[S]at p;cases p with|cons hX hL=>cases L with
      |nil=>cases hL|cons Y L=>cases hL with|cons hY hL=>
      cases hL;have Z:=eF.1 S;have h0:=eF.1 ht;obtain⟨V,W',H,w,O,D⟩:=kl (ty:=o.type) C hX hY g;exact IK (V:=V) (by simp[execOp,j,resolve,I,invoke,builtin,Z,h0,w]) (E _ _ H O D)
    grind
   grind
  .rename_i I
   split at g
   .rename_i t t' d s ht G
    split at g
    .rename_i g1
     subst g1
     rw[G] at p
     cases S:(c.args.map A.eval).toList with
     | nil=>rw[S] at p;cases p
     | cons X L=>
      rw[S] at p
      cases p with
      | cons hX hL=>
      cases L with
      | nil=>cases hL
      | cons Y L=>
      cases hL with
      | cons hY hL=>
      cases hL
      have Z:=eF.1 S
      have h0:=eF.1 ht
      obtain⟨V,W',H,w,O,D⟩:=kp (ty:=o.type) C hX hY g
      exact IK (V:=V) (by simp[execOp,j,resolve,I,invoke,builtin,Z,h0,w]) (E _ _ H O D)
    grind
   grind
  .rename_i I
   split at g
   .rename_i t x ht G
    rw[G] at p
    cases S:(c.args.map A.eval).toList with
    | nil=>rw[S] at p;cases p
    | cons X L=>
     rw[S] at p
     cases p with
     | cons hX hL=>
     cases hL
     have Z:=eF.1 S
     have h0:=eF.1 ht
     obtain⟨V,W',H,w,O,D⟩:=ko (ty:=o.type) C hX g
     exact IK (V:=V) (by simp[execOp,j,resolve,I,invoke,builtin,Z,h0,w]) (E _ _ H O D)
   grind
  .rename_i I
   simp only[aq,aO] at g
   obtain⟨u,B,rfl,rfl⟩:=g
   obtain⟨w,D⟩:=Yx (P:=P) (W:=W) (ty:=o.type) (at_:=c.argTypes) p B
   exact IK (V:=u) (by simp[execOp,j,resolve,I,invoke,builtin,w]) (E _ _ ρ (Nx.a C) D)
  .rename_i I
   simp only[aq,aO] at g
   obtain⟨u,B,rfl,rfl⟩:=g
   obtain⟨w,D⟩:=Uo (P:=P) (W:=W) (ty:=o.type) (at_:=c.argTypes) p B
   exact IK (V:=u) (by simp[execOp,j,resolve,I,invoke,builtin,w]) (E _ _ ρ (Nx.a C) D)
  .rename_i f I
   split at g
   .rename_i k J F hf
    have h6:=q f (by simp[Op.operands,Call.operands,I])
    rw[hf] at h6
    obtain⟨f',c',w,h1,h2⟩:=aY h6
    obtain⟨⟨fn,g6,g2,h3,h4⟩,g3⟩:=h5 _ _ _ _ _ g
    have R:BQ (AR ρ) (J.toList++evs T c.args++F.toList) (f'++c.args.map A.eval++c').toList:=by
     simp only[je]
     exact(h1.ZC p).ZC h2
    have M:=g3 ρ W _ C R
    have h7:(execOp A.eval o).run P W=.ok (.enter k (f'++c.args.map A.eval++c')) W:=by
     have N  := ax.1 h4
     simp[execOp,j,resolve,I,w,Deferred.ofValue,invoke,callFunc,program,Sem.run,g2,N,h3]
    unfold Oper.wp
    rw[h7,Oper.upon_enter]
    refine M.mono fun e W' ⟨V,H,he,O,D⟩=>?_
    grind
   grind
  .rename_i r m I
   split at g
   .rename_i t u hf
    have h6:=q r (by simp[Op.operands,Call.operands,I])
    rw[hf] at h6
    obtain⟨U,w,B⟩:=VC h6
    split at g
    .rename_i k u' hm
     obtain⟨rfl,g7⟩:=En (W:=W) (n:=P.types.size+Made.depth-1) B hm
     obtain⟨⟨fn,g6,g2,h3,h4⟩,g3⟩:=h5 _ _ _ _ _ g
     have R:BQ (AR ρ) (u' :: evs T c.args) (#[U]++c.args.map A.eval).toList:=by
      simp only[je]
      exact .cons B p
     have M:=g3 ρ W _ C R
     have hn:P.types.size+Made.depth-1+1=P.types.size+Made.depth:=Nat.sub_add_cancel (by unfold Made.depth;omega)
     rw[hn] at g7
     have h7:(execOp A.eval o).run P W=.ok (.enter k (#[U]++c.args.map A.eval)) W:=by
      have N  := ax.1 h4
      have g8:(#[A.eval r]++c.args.map A.eval)[0]?=some (A.eval r):=by grind
      have g9:(#[A.eval r]++c.args.map A.eval).extract 1 (#[A.eval r]++c.args.map A.eval).size=c.args.map A.eval:=by
       simp
      simp only[execOp,j,resolve,I,ja,Sem.run_pure,Result.andThen_ok,invoke,g8,g9]
      rw[w]
      simp[callMethod,ja,g7,callFunc,g2,N,h3]
     unfold Oper.wp
     rw[h7,Oper.upon_enter]
     refine M.mono fun e W' ⟨V,H,he,O,D⟩=>?_
     grind
    grind
   grind
  grind
 | makeInterface t x=>
  rw[j] at g q
  simp[Op.operands] at q
  simp only[A_] at g
  split at g
  .cases g
  .rename_i d x6 B
   cases g
   refine IK (V:=.iface t (A.eval x)) (W':=W) ?_ (E _ _ ρ (Nx.a C) (.iface q))
   cases d <;> first | grind | (simp[execOp,j,Instr.makeInterface,ay B])
  grind
 | typeAssert x xt g4 ok=>
  rw[j] at g q
  simp[Op.operands] at q
  simp only[A_,aq,aO] at g
  obtain⟨u,B,rfl,rfl⟩:=g
  obtain⟨V,w,D⟩:=kG (W:=W) (xt:=xt) q B
  exact IK (by simp[execOp,j,w]) (E _ _ ρ (Nx.a C) D)
 | _=>
  rw[j] at g
  simp[A_] at g
end
structure E_ (h h':AA):Prop where
 d:h.a<=h'.a
 c:h'.b=h.b
 e:∀ i,i<h.a->i<h.b->h'.c i=h.c i
theorem E_.a(h:AA):E_ h h:=⟨af _,rfl,fun _ _ _=>rfl⟩
theorem E_.b{a b c:AA}(h:E_ a b)(k:E_ b c):E_ a c:=⟨dj h.d k.d,k.c.trans h.c,fun i d e=>(k.e i (cf d h.d) (by rw[h.c];exact e)).trans (h.e i d e)⟩
theorem E_.f(h:AA)(o:BO):E_ h (h.d o):=⟨by simp[AA.d],rfl,fun i a _=>AV a⟩
theorem E_.g{h:AA}{i:Nat}{o:BO}(hi:i<h.a)(a:h.b<=i):E_ h (h.e i o):=⟨af _,rfl,fun j _ b=>AP hi (by omega)⟩
theorem E_.h{h h':AA}{f:Nat}(b:h.b<=f)(a:E_ (h.f f) h'):E_ h (h'.f h.b):=⟨a.d,rfl,fun i c d=>a.e i c (cf d b)⟩
section
variable {P:Program} {call:AY}
theorem jY{h h':AA}{id off:Nat}{new:List Value}(b:HW h id off new=some h'):∃o,h'=h.e id o/\id<h.a/\h.b<=id/\wr (h.c id)/\∀a:AA,a.c id=h.c id->a.b=h.b->HW a id off new=some (a.e id o):=by
 unfold HW at b;split at b
 .rename_i e f g d;split at b
  .rename_i c;simp only[ah,am]at c;cases b;refine⟨_,rfl,sL (by grind),c.1.1,by rw[d];rfl,fun a i j=>?_⟩;unfold HW;grind
  grind
 grind
theorem li{h h':AA}{t:TypeId}{a v:Value}(d:BD P h t a v=some h'):∃b o,DP a=some b/\h'=h.e b o/\b<h.a/\h.b<=b/\wr (h.c b)/\∀c:AA,c.c b=h.c b->c.b=h.b->BD P c t a v=some (c.e b o):=by
 unfold BD at d;split at d
 .split at d
  .rename_i e;obtain⟨o,f,c,g,i,j⟩:=jY d;refine⟨_,o,rfl,f,c,g,i,fun c k l=>?_⟩;unfold BD;grind
  grind
 grind
theorem Ma{h h':AA}{t:TypeId}{m k v:Value}(b:P7 P h t m k v=some h'):∃a o,DP m=some a/\h'=h.e a o/\a<h.a/\h.b<=a/\wr (h.c a)/\∀c:AA,c.c a=h.c a->c.b=h.b->P7 P c t m k v=some (c.e a o):=by
 unfold P7 at b;split at b
 .split at b
  .rename_i d;simp only[ah,am]at d;split at b
   .rename_i g e;split at b
    .rename_i r f;cases b;refine⟨_,_,rfl,rfl,sL (by grind),d.2,by rw[e];trivial,fun c i j=>?_⟩;have l:=‹P.underlying t=some (.map _ _)›;unfold P7;grind
    grind
   grind
  grind
 grind
theorem Yv{h h':AA}{t:TypeId}{x v:Value}(a:XV P h t x=some (v,h')):E_ h h':=by
 unfold XV at a;split at a
 .split at a
  .split at a;.cases a;exact .a _
   .split at a
    .split at a
     .split at a
      .rename_i b;cases a;obtain⟨o,rfl,c,d,_⟩:=jY b;exact .g c d
      grind
     grind
    grind
  grind
 grind
theorem Fx(g:∀f d h v h',call f d h=some (v,h')->E_ h h'){T:Tr}{h h':AA}{c:Call}{v:Value}(a:RW P call T h c=some (v,h')):E_ h h':=by
 unfold RW at a;split at a
 .split at a;.simp only[aq,aO]at a;obtain⟨u,_,_,rfl⟩:=a;exact .a _
  grind
 .split at a
  .split at a;.exact(by
 unfold DR at a;split at a
 .split at a
  .split at a
   .split at a
    .split at a
     .split at a
      .split at a
       .split at a
        .rename_i e;simp only[ah,am]at e;split at a;.cases a;exact .a _
         .split at a
          .rename_i k;split at a
           .split at a
            .split at a;.cases a;exact(E_.g (sL (by grind)) e.2).b (.f _ _)
             grind
            grind
           grind
          grind
        grind
       grind
      .split at a
       .split at a;.cases a;exact .a _
        .split at a
         .split at a;.rename_i b;cases a;obtain⟨o,rfl,i,j,_⟩:=jY b;exact .g i j
          grind
         grind
       .split at a
        .split at a;.cases a;exact .f _ _
         grind
        grind
     grind
    grind
   grind
  grind
 grind)
   grind
  grind
 .split at a
  .split at a;.exact(by
 unfold PP at a;split at a
 .split at a
  .simp only at a;split at a
   .split at a
    .split at a;.cases a;exact .a _
     .split at a;.rename_i b;cases a;obtain⟨o,rfl,i,j,_⟩:=jY b;exact .g i j
      grind
    .cases a;exact .a _
    grind
   grind
  grind
 grind)
   grind
  grind
 .split at a;.exact Yv a
  grind
 .simp only[aq,aO]at a;obtain⟨u,_,_,rfl⟩:=a;exact .a _
 .simp only[aq,aO]at a;obtain⟨u,_,_,rfl⟩:=a;exact .a _
 .grind
 .grind
 grind
theorem qX{T:Tr}{h h':AA}{j:Op}{v:Value}(i:AB j=.pure)(n:∀c,j=.call c->∀r,c.args.toList.map (ev T)≠[.map r])(f:A_ P call T h j=some (v,h')):h'=h/\∀k,A_ P call T k j=some (v,k):=by cases j with
 |call c=>
  simp only[AB]at i;simp only[A_]at f⊢;unfold RW at f⊢;split at i
  .rename_i g;simp only[g]at f⊢;split at f
   .rename_i t x q m;simp only[aq,aO]at f;obtain⟨u,o,rfl,rfl⟩:=f;refine⟨rfl,fun k=>?_⟩;have p:∀r,x≠.map r:=fun r e=>n c rfl r (by unfold evs at m;rw[m,e]);have:CU P k t x=some u:=by
     rw[<-o];unfold CU;grind
    grind
   grind
  .rename_i g;simp only[g]at f⊢;simp only[aq,aO]at f;grind
  .rename_i g;simp only[g]at f⊢;simp only[aq,aO]at f;grind
  .cases i|pick c a b=>
  simp only[A_]at f⊢;split at f;.grind
  grind|nilCheck x=>
  simp only[A_]at f⊢;split at f;.grind
  .grind
  grind|unOp a b x=>simp only[A_]at f⊢;grind|index a b x=>
  simp only[A_]at f⊢;split at f
  .rename_i s;split at f;.grind
   grind
  grind|extract a b=>
  simp only[A_]at f⊢;split at f
  .simp only[aq,aO]at f;grind
  grind|move x=>simp[A_]at f⊢;grind|assign x=>simp[A_]at f⊢;grind|makeFunc w a b=>simp[A_]at f⊢;grind|build t l=>
  simp only[A_,aq,aO]at f⊢;grind|binOp a b c d e=>
  simp only[A_,aq,aO]at f⊢;grind|fieldAddr a b c=>
  simp only[A_,aq,aO]at f⊢;grind|field a b c=>
  simp only[A_,aq,aO]at f⊢;grind|indexAddr a b c=>
  simp only[A_,aq,aO]at f⊢;grind|makeInterface t x=>
  simp only[A_]at f⊢;grind|typeAssert a b c d=>simp only[A_,aq,aO]at f⊢;grind|makeMap t r=>simp[AB]at i|load t r=>simp[AB]at i|_=>first|(simp[AB]at i;done)|(simp[A_]at f;done)
theorem zO{T:Tr}{h h':AA}{f:Op}{v:Value}(g:AB f=.new)(a:A_ P call T h f=some (v,h')):∃o,wr o/\h'=h.d o/\∀b:AA,b.a=h.a->A_ P call T b f=some (v,b.d o):=by cases f with
 |alloc e=>
  simp only[A_]at a⊢;split at a
  .split at a;.rename_i k;simp at a;obtain⟨rfl,rfl⟩:=a;exact⟨.row _ _ _ false,rfl,rfl,fun b d=>by grind⟩
   grind
  grind|box e x=>
  simp only[A_]at a⊢;split at a
  .rename_i i;split at a;.simp at a;obtain⟨rfl,rfl⟩:=a;exact⟨.row _ _ _ false,rfl,rfl,fun b d=>by grind⟩
   grind
  grind|makeMap t r=>cases r with|some r=>simp[A_]at a|none=>simp only[A_,aj,aO]at a⊢;obtain⟨rfl,rfl⟩:=a;exact⟨.map [],cj,rfl,fun b d=>by simp[d]⟩
 |makeSlice t l c=>simp only[A_]at a⊢;exact(by
 unfold J7 at a⊢;split at a
 .split at a
  .split at a;.rename_i g;cases a;exact⟨.row _ _ _ false,rfl,rfl,fun b d=>by grind⟩
   grind
  grind
 grind)|buildSlice t n l=>simp only[A_]at a⊢;exact(by
 unfold FP at a⊢;split at a
 .split at a
  .split at a
   .rename_i g;split at a;.rename_i m j;cases a;exact⟨.row _ _ _ false,rfl,rfl,fun b d=>by grind⟩
    grind
   grind
  grind
 grind)|call c=>simp only[AB]at g;grind|_=>first|(simp[AB]at g;done)|(simp[A_]at a;done)
theorem lj{h b:AA}{s n:Nat}{x:Value}(c:∀a,DP x=some a->b.c a=h.c a):EL b s n x=EL h s n x:=by
 unfold EL;split;.rfl
 .rename_i a d _ _;rw[c a rfl]
 .rfl
theorem ll{h j:AA}{t:TypeId}{x:Value}{lo hi g:Option Value}(p:∀i,DP x=some i->j.c i=h.c i):H9 P j t x lo hi g=H9 P h t x lo hi g:=by
 unfold H9;cases x with
 |slice b n c=>cases P.underlying t with
  |none=>rfl|some d=>cases d with
   |slice e=>simp only;cases BN P e with|none=>rfl|some s=>
     simp only;by_cases f:c=AT
     .rw[ag f,ag f];cases g with
      |some m=>rfl|none=>cases FI hi n 0 n with
       |none=>rfl|some q=>simp only;cases FI lo 0 0 q with|none=>rfl|some l=>cases b with|none=>rfl|some b=>obtain⟨b,o,k⟩:=b;cases k with|some k=>rfl|none=>simp only[p b rfl]
     .rw[ad f,ad f]|_=>rfl
 |pointer a=>cases P.underlying t with|none=>rfl|some d=>cases d<;>(first|rfl|(cases a<;>rfl))
 |_=>cases P.underlying t with
  |none=>rfl|some d=>cases d<;>rfl
theorem vC{T:Tr}{h h':AA}{p:Op}{v:Value}{a:Operand}(f:AB p=.read a)(g:A_ P call T h p=some (v,h')):h'=h/\∀j:AA,(∀l,DP (ev T a)=some l->j.c l=h.c l)->A_ P call T j p=some (v,j):=by cases p with
 |load t x=>
  simp only[AB,W_.read.injEq]at f;subst f;simp only[A_,aq,aO]at g⊢;obtain⟨u,o,rfl,rfl⟩:=g;refine⟨rfl,fun j i=>⟨_,?_,rfl,cj⟩⟩;rw[<-o];unfold EP;split
  .rename_i l w q;rw[i l (by rw[q];rfl)]
  .rfl|lookup t m k A=>
  simp only[AB,W_.read.injEq]at f;subst f;simp only[A_,aq,aO]at g⊢;obtain⟨u,o,rfl,rfl⟩:=g;refine⟨rfl,fun j i=>⟨_,?_,rfl,cj⟩⟩;rw[<-o];unfold VK;cases y:ev T m with
  |map r=>cases r with
   |none=>rfl|some l=>simp only[i l (by rw[y];rfl)]
  |_=>rfl
 |convert s d x=>
  simp only[AB,W_.read.injEq]at f;subst f;simp only[A_,aq,aO]at g⊢;obtain⟨u,o,rfl,rfl⟩:=g;refine⟨rfl,fun j i=>⟨_,?_,rfl,cj⟩⟩;rw[<-o];unfold ZY;split;.rfl
  .rfl
  .rename_i e b n c _ _ z;rw[z]at i;rw[lj i]
  .rfl|slice t x B C D=>
  simp only[AB,W_.read.injEq]at f;subst f;simp only[A_,aq,aO]at g⊢;obtain⟨u,o,rfl,rfl⟩:=g;refine⟨rfl,fun j i=>⟨_,?_,rfl,cj⟩⟩;rw[<-o];exact ll i|call c=>simp only[AB]at f;grind|_=>first|(simp[AB]at f;done)|(simp[A_]at g;done)
theorem cF{T:Tr}{h h':AA}{e:Op}{v:Value}(s:AB e=.store)(f:A_ P call T h e=some (v,h')):∃a d o,((∃t x,e=.store t a x)\/(∃t k x,e=.mapUpdate t a k x\/e=.insert t a k x))/\DP (ev T a)=some d/\h'=h.e d o/\d<h.a/\h.b<=d/\wr (h.c d)/\∀b:AA,b.c d=h.c d->b.b=h.b->A_ P call T b e=some (v,b.e d o):=by cases e with
 |store t a x=>
  simp only[A_,aq,aO]at f;obtain⟨u,g,rfl,rfl⟩:=f;obtain⟨d,o,i,b,j,l,n,p⟩:=li g;exact⟨a,d,o,.inl ⟨_,_,rfl⟩,i,b,j,l,n,fun b q r=>by simp only[A_,p b q r,dA]⟩|mapUpdate t m k x=>simp only[A_,aq,aO]at f;obtain⟨u,g,rfl,rfl⟩:=f;obtain⟨d,o,i,b,j,l,n,p⟩:=Ma g;exact⟨m,d,o,.inr ⟨_,_,_,.inl rfl⟩,i,b,j,l,n,fun b q r=>by simp only[A_,p b q r,dA]⟩|insert t m k x=>simp only[A_,aq,aO]at f;obtain⟨u,g,rfl,rfl⟩:=f;obtain⟨d,o,i,b,j,l,n,p⟩:=Ma g;exact⟨m,d,o,.inr ⟨_,_,_,.inr rfl⟩,i,b,j,l,n,fun b q r=>by simp only[A_,p b q r,dA]⟩|call c=>simp only[AB]at s;grind|_=>first|(simp[AB]at s;done)|(simp[A_]at f;done)
theorem V7{T:Tr}{h h':AA}{d:Op}{v:Value}(a:∀f b h v h',call f b h=some (v,h')->E_ h h')(g:AB d=.act)(e:A_ P call T h d=some (v,h')):E_ h h':=by cases d with
 |call c=>simp only[A_]at e;exact Fx a e|_=>first|(simp[AB]at g;done)|(simp[A_]at e;done)
theorem jI{T:Tr}{h h':AA}{i:Op}{v:Value}(b:∀f e h v h',call f e h=some (v,h')->E_ h h')(d:A_ P call T h i=some (v,h')):E_ h h':=by cases g:AB i with
 |pure=>cases i with
  |call c=>simp only[A_]at d;exact Fx b d|_=>first|(obtain⟨rfl,_⟩:=qX g (by simp) d;exact .a _)
 |read a=>obtain⟨rfl,_⟩:=vC g d;exact .a _|new=>obtain⟨o,_,rfl,_⟩:=zO g d;exact .f _ _|act=>exact V7 b g d|store=>
  obtain⟨a,l,o,_,_,rfl,j,k,_⟩:=cF g d;exact .g j k
end
end Go.Sx




