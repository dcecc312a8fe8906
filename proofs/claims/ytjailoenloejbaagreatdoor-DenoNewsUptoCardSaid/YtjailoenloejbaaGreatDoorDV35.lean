/- Part 35. -/
import Derived.Test.YtjailoenloejbaaGreatDoorDV34
set_option linter.all false
namespace Go.Proofs.YtjailoenloejbaaGreatDoor
open Go Go.Sx Go.ChangeShapes Go.WideShapes Go.ChangeAt Go.RowKit Go.Proofs.Tryz
set_option maxRecDepth 100000
set_option maxHeartbeats 0
section
variable {α:Type} {cells:α->List Value} {w:Nat} {l:List α}
theorem Jba(a:∀x,(cells x).length=w):(l.flatMap cells).length=l.length*w:=by induction l with|nil=>simp|cons x l b=>grind
theorem Cm(a:∀x,(cells x).length=w):∀{l:List α}{i j:Nat}{x:α},l[i]?=some x->j<w->(l.flatMap cells)[i*w+j]?=(cells x)[j]?
 |[],i,j,x,h,_=>by simp at h|y::l,0,j,x,h,b=>by grind|y::l,i+1,j,x,h,b=>by have c:l[i]?=some x:=h;rw[dh,cz (by grind),a,<-Cm a c b];grind
end
def MH(W:World)(v:Value)(n w:Nat)(cs:List Value):Prop:=cs.length=n*w/\((n=0/\v=Z0)\/∃b c a d e f,v=.slice (some ⟨b,c,none⟩) n a/\n<=a/\a<AT/\W.heap[b]?=some (.cells d e f)/\∀k,k<n*w->d[c+k]?=cs[k]?)
section
variable {H:Type} {enc:TypeId × Value->H} {W:World} {base b0:Nat} {sp:Nat->Bool} {hd:Bool}
theorem QD{q:Type}{cells:q->List Value}{Q:q->Prop}{w:Nat}{t e:TypeId}(D:prog.underlying t=some (.slice e))(Z:prog.cellsOf e=w)(o:∀n I y,DataW.trod enc prog W base sp hd n e I=some y->∃x,I=cells x/\Q x)(s:∀x,(cells x).length=w)(u:0<w){v:Value}{n:Nat}{y:DataW H×List MemPlace}(g:Cell.okWide prog W .any b0 t v)(h:DataW.trod enc prog W base sp hd n t [v]=some y):∃l:List q,(∀x∈l,Q x)/\MH W v l.length w (l.flatMap cells):=by
 rcases DataW.trod_slice D h with⟨z,h2⟩|⟨a',c,J,p,T,n',_,z,_,hb,hl,U,V,K,_⟩;.cases z;exact⟨[],fun x d=>(by cases d),by simp,.inl ⟨rfl,rfl⟩⟩
 .cases z;simp only[Cell.okWide,D,Cell.ok]at g;obtain⟨_,_,_,A,h0,E,L,_⟩:=g;obtain⟨b,f,X⟩:=a';simp only at A;subst A;have a:∃r M N,W.heap[b]?=some (.cells r M N):=by simp only[World.shape?]at L;grind
  obtain⟨r,M,N,a⟩:=a;have B:∀i,i<c->∃x:q,Q x/\∀j,j<w->r[f+(i*w+j)]?=(cells x)[j]?:=fun i F=>by
   have:=K i F;obtain⟨y,O⟩:∃y,p[i]?=some y:=⟨_,aa (by omega)⟩;rw[O,sO,Z,Option.bind_eq_some_iff]at this;obtain⟨I,P,D⟩:=this;obtain⟨x,rfl,d⟩:=o _ _ _ D;obtain⟨_,hc⟩:=Bz P;refine⟨x,d,fun j G=>?_⟩;rw[<-hc j G,<-gf];simp only[World.cell?,a,Option.isSome_none,aV,bi]
  obtain⟨l,R,S⟩:∃l:List q,l.length=c/\∀i x,l[i]?=some x->Q x/\∀j,j<w->r[f+(i*w+j)]?=(cells x)[j]?:=by
   have:∀m,m<=c->∃l:List q,l.length=m/\∀i x,l[i]?=some x->Q x/\∀j,j<w->r[f+(i*w+j)]?=(cells x)[j]?:=by
    intro m;induction m with
    |zero=>simp|succ m ih=>
     intro U;obtain⟨l,z,h2⟩:=ih (by omega);obtain⟨x,d⟩:=B m (by omega);refine⟨l++[x],by simp[z],fun i y O=>?_⟩;rcases ar i l.length with Y|Y;.grind
     .rw[cz Y]at O;have:i-l.length=0:=by grind
      grind
   exact this c (af _)
  unfold maxLen at U;refine⟨l,fun x d=>?_,Jba s,.inr ⟨b,f,J,r,M,N,by rw[R],by omega,by unfold AT;omega,a,fun k hk=>?_⟩⟩
  .obtain⟨i,F⟩:=dn d;grind
  .have C:=Nat.div_add_mod k w;rw[Nat.mul_comm]at C;have G:=Nat.mod_lt k u;have F:=(Nat.div_lt_iff_lt_mul u).2 hk;have d:=aa F;rw[<-C,(S _ _ d).2 _ G,Cm s d G]
end
structure SG where
 v:Value
 n:Nat
 w:Nat
 a:List Value
 b:TypeId
noncomputable def NP:AA->List SG->AA|h,[]=>h|h,p::a=>NP (h.d (.row p.a p.b false true)) a
theorem zL:∀(ps:List SG)(h:AA),(NP h ps).a=h.a+ps.length/\(NP h ps).b=h.b/\∀i,i<h.a->(NP h ps).c i=h.c i
 |[],h=>⟨rfl,rfl,fun _ _=>rfl⟩|p::ps,h=>by
  obtain⟨b,c,a⟩:=zL ps (h.d (.row p.a p.b false true));rw[BU]at b a;refine⟨by show(NP _ ps).a=_;grind,c,fun i d=>?_⟩;show(NP _ ps).c i=_;rw[a i (by omega),AV d]
theorem Pu:∀{ps:List SG}{h:AA}{i:Nat}{p:SG},ps[i]?=some p->(NP h ps).c (h.a+i)=.row p.a p.b false true
 |[],h,i,p,a=>by grind|q::ps,h,0,p,a=>by
  cases a;show(NP _ ps).c h.a=_;rw[(zL ps _).2.2 _ (by rw[BU];omega),BJ]|q::ps,h,i+1,p,a=>by have:=Pu (ps:=ps) (h:=h.d (.row q.a q.b false true)) (i:=i) (p:=p) a;rw[BU]at this;show(NP _ ps).c (h.a+(i+1))=_;grind
def SV(p:SG):Go.Sx.Loc:=match p.v with|.slice (some a) _ _=>⟨a.block,a.off,0,0⟩|_=>⟨0,0,0,0⟩
def ZA(ps:List SG):B8:=fun i=>if i=0 then some ⟨0,0,0,0⟩else(ps[i-1]?).map SV
def aK(i:Nat)(p:SG):Value:=match p.v with|.slice (some _) n c=>qS i n c|v=>v
theorem tG{ps:List SG}{i:Nat}{p:SG}(h:ps[i]?=some p):ZA ps (i+1)=some (SV p):=by unfold ZA;grind
theorem bE{W:World}(h:laidMetH prog [("winnow/lex.words",Rows.laid_winnow_lex_words)] W){ps:List SG}(n:∀p∈ps,MH W p.v p.n p.w p.a/\∀v∈p.a,B7 v=true):CV prog (ZA ps) (NP N7 ps) W/\(∀i,¬wr ((NP N7 ps).c i))/\(NP N7 ps).a=ps.length+1/\(NP N7 ps).b=0/\(NP N7 ps).c 0=EM/\∀(i:Nat)p,ps[i]?=some p->AR (ZA ps) (aK (i+1) p) p.v/\AL 0 (NP N7 ps) (aK (i+1) p) p.n p.w p.a:=by
 obtain⟨E,K,w⟩:=zL ps N7;have x:N7.a=1:=rfl;rw[x]at E w;obtain⟨l,o,q,y,r⟩:=yM (zs:=K6) (rest:=[]) vZ yO underlying277 fh rL xF h;have f:∀(i:Nat)p,ps[i]?=some p->(NP N7 ps).c (i+1)=.row p.a p.b false true:=fun i p a=>by
  have:=Pu (h:=N7) a;grind
 have s:=nT (P:=prog) (W:=W) (d:=ZA ps) (h:=NP N7 ps) rfl (fun i F=>by
   unfold ZA;grind) (fun g M=>by
   rw[oM]at M;obtain rfl:g=0:=by omega
   exact⟨_,rfl,rfl,rfl⟩) (fun i F=>by
   rw[E]at F;cases i with
   |zero=>
    refine⟨QK,9,false,⟨0,0,0,0⟩,l,o,q,(w 0 (by omega)).trans rfl,rfl,y,fun k v c=>⟨v,?_,?_⟩⟩
    .have:l.toList[k]?=some v:=by rw[r];exact c
     grind
    .have N:=aw c;obtain⟨z,_,rfl⟩:=jr.1 N;exact .flat rfl|succ i=>
    obtain⟨p,a⟩:∃p,ps[i]?=some p:=⟨_,aa (by omega)⟩;obtain⟨⟨A,m⟩,t⟩:=n p (aw a);rcases m with⟨B,c⟩|⟨b,j,u,G,H,I,c,O,J,Q,R⟩;.refine⟨p.a,p.b,false,SV p,l,o,q,f i p a,tG a,by unfold SV;grind,fun k v C=>?_⟩;grind
    .refine⟨p.a,p.b,false,SV p,G,H,I,f i p a,tG a,by unfold SV;grind,fun k v C=>⟨v,?_,.flat (t v (aw C))⟩⟩;have S:=(ae.1 C).1;have e:(SV p).d=j:=by unfold SV;rw[c]
     grind);refine⟨s.1,s.2,by omega,K,(w 0 (by omega)).trans rfl,fun i p a=>?_⟩;obtain⟨⟨A,m⟩,t⟩:=n p (aw a);have T:=(ae.1 a).1;rcases m with⟨B,c⟩|⟨b,j,u,G,H,I,c,O,J,Q,R⟩
 .have e:aK (i+1) p=Z0:=by unfold aK;rw[c]
  have D:=fb.1 (by rw[A,B,ff]);rw[e,c,D,B];exact⟨.flat rfl,AL.e _ _ _⟩
 .have e:aK (i+1) p=qS (i+1) p.n u:=by unfold aK;rw[c]
  have U:SV p=⟨b,j,0,0⟩:=by unfold SV;rw[c]
  rw[e];refine⟨?_,AL.l (ex:=[]) (by rw[dm];exact f i p a) ⟨bg _,by omega⟩ A fun h=>absurd h (Nat.lt_irrefl 0)⟩;rw[c];exact AR.slice (L:=⟨b,j,0,0⟩) (by rw[tG a,U]) J
theorem J3l:prog.cellsOf 27=8:=by kernel_rfl
theorem Ka:prog.cellsOf 158=2:=by kernel_rfl
theorem J5B:prog.cellsOf 4=1:=by kernel_rfl
theorem NH:prog.cellsOf 22=1/\prog.cellsOf 23=1/\prog.cellsOf 24=1/\prog.cellsOf 25=1:=⟨by kernel_rfl,by kernel_rfl,by kernel_rfl,by kernel_rfl⟩
theorem J6u:prog.cellTypes prog.depth 27=some [9,22,23,24,24,25,25,3]:=by kernel_rfl
structure Z4 (W:World) (v:Value) (nm:ByteArray) (s:AS):Prop where
 d:∃ vr vq vv vt vu vo,v=.agg #[.string nm,vr,vq,vv,vt,vu,vo,iv s.c]/\MH W vr s.a.length 5 (s.a.flatMap AQ)/\MH W vq s.b.length 2 (EH s.b)/\MH W vv s.f.length 1 (DN s.f)/\MH W vt s.g.length 1 (DN s.g)/\MH W vu s.d.length 1 (ints s.d)/\MH W vo s.h.length 1 (ints s.h)
 c:∀ x∈s.a,W6 x
 b:-9223372036854775808<=s.c/\s.c<=9223372036854775807
 a:∀ x∈s.d,-9223372036854775808<=x/\x<=9223372036854775807
 e:∀ x∈s.h,-9223372036854775808<=x/\x<=9223372036854775807
theorem J9W(l:List ByteArray):l.flatMap (fun x=>[Value.string x])=DN l:=by induction l with|nil=>rfl|cons x l a=>rw[dh,a];rfl
theorem j7(l:List Int):l.flatMap (fun x=>[iv x])=ints l:=by induction l with|nil=>rfl|cons x l a=>rw[dh,a];rfl
section
variable {H:Type} {enc:TypeId × Value->H} {W:World} {base b0:Nat} {sp:Nat->Bool} {hd:Bool}
theorem J5J{n:Nat}{cs:List Value}{y:DataW H×List MemPlace}(h:DataW.trod enc prog W base sp hd n 158 cs=some y):∃x:ByteArray×Bool,cs=[.string x.1,.bool x.2]/\True:=by
 obtain⟨d,m,_,_,j,c,k⟩:=gi fo h;rw[Ka]at j;obtain⟨e,f,rfl⟩:∃e f,cs=[e,f]:=by match cs,j with|[a,b],_=>simp
 have c:d.length=2:=c;have g:∀i,i<2->∃y,d[i]?=some y:=by grind
 obtain⟨r,p⟩:=g 0 (by omega);obtain⟨s,q⟩:=g 1 (by omega);have l:DataW.trod enc prog W base sp hd m 9 (([e,f].drop 0).take (prog.cellsOf 9))=d[0]?:=k 0 _ rfl;rw[bK,p]at l;have o:DataW.trod enc prog W base sp hd m 4 (([e,f].drop 1).take (prog.cellsOf 4))=d[1]?:=k 1 _ rfl;rw[J5B,q]at o;obtain⟨a,t,_⟩:=DataW.trod_string fh l;obtain⟨b,u,_⟩:=DataW.trod_bool gm o;simp_all
theorem rY{n:Nat}{cs:List Value}{y:DataW H×List MemPlace}(h:DataW.trod enc prog W base sp hd n 9 cs=some y):∃x:ByteArray,cs=[.string x]/\True:=by obtain⟨a,b,_⟩:=DataW.trod_string fh h;grind
theorem UV{n:Nat}{cs:List Value}{y:DataW H×List MemPlace}(h:DataW.trod enc prog W base sp hd n 3 cs=some y):∃x:Int,cs=[iv x]/\(-9223372036854775808<=x/\x<=9223372036854775807):=by obtain⟨a,b,_,c⟩:=gK dc h;exact⟨a,b,bounds_i64 c⟩
theorem J44{v:Value}{d:DataW H}{p:List MemPlace}(B:Value.okWide prog W .any b0 27 v)(h:DataW.Trod enc prog W base sp hd 27 v d p):∃K s,Z4 W v K s:=by
 simp only[Value.okWide,bG]at B;obtain⟨E,rfl,h0,ts,F,_,C⟩:=B;rw[J6u]at F;cases F;obtain⟨N,z⟩:=h;have G:(Value.agg E).cells.toList=E.toList:=rfl;rw[G]at z;obtain⟨A,m,_,_,O,I,z⟩:=gi bG z;rw[J3l]at O;obtain⟨j,k,l,o,q,r,t,w,G⟩:∃j k l o q r t w,E.toList=[j,k,l,o,q,r,t,w]:=by match E.toList,O with|[a,b,c,d,e,f,g,i],_=>simp
 obtain rfl:E=#[j,k,l,o,q,r,t,w]:=by grind
 have I:A.length=8:=I;have g:∀i,i<8->∃y,A[i]?=some y:=by grind
 obtain⟨y0,e0⟩:=g 0 (by omega);obtain⟨y1,e1⟩:=g 1 (by omega);obtain⟨y2,e2⟩:=g 2 (by omega);obtain⟨y3,e3⟩:=g 3 (by omega);obtain⟨y4,e4⟩:=g 4 (by omega);obtain⟨y5,e5⟩:=g 5 (by omega);obtain⟨y6,e6⟩:=g 6 (by omega);obtain⟨y7,e7⟩:=g 7 (by omega);have P:DataW.trod enc prog W base sp hd m 9 (([j,k,l,o,q,r,t,w].drop 0).take (prog.cellsOf 9))=A[0]?:=z 0 _ rfl;rw[bK,e0]at P;have Q:DataW.trod enc prog W base sp hd m 22 (([j,k,l,o,q,r,t,w].drop 1).take (prog.cellsOf 22))=A[1]?:=z 1 _ rfl;rw[NH.1,e1]at Q;have R:DataW.trod enc prog W base sp hd m 23 (([j,k,l,o,q,r,t,w].drop 2).take (prog.cellsOf 23))=A[2]?:=z 2 _ rfl;rw[NH.2.1,e2]at R;have S:DataW.trod enc prog W base sp hd m 24 (([j,k,l,o,q,r,t,w].drop 3).take (prog.cellsOf 24))=A[3]?:=z 3 _ rfl;rw[NH.2.2.1,e3]at S;have T:DataW.trod enc prog W base sp hd m 24 (([j,k,l,o,q,r,t,w].drop 4).take (prog.cellsOf 24))=A[4]?:=z 4 _ rfl;rw[NH.2.2.1,e4]at T;have U:DataW.trod enc prog W base sp hd m 25 (([j,k,l,o,q,r,t,w].drop 5).take (prog.cellsOf 25))=A[5]?:=z 5 _ rfl;rw[NH.2.2.2,e5]at U;have V:DataW.trod enc prog W base sp hd m 25 (([j,k,l,o,q,r,t,w].drop 6).take (prog.cellsOf 25))=A[6]?:=z 6 _ rfl;rw[NH.2.2.2,e6]at V;have X:DataW.trod enc prog W base sp hd m 3 (([j,k,l,o,q,r,t,w].drop 7).take (prog.cellsOf 3))=A[7]?:=z 7 _ rfl;rw[OQ,e7]at X;have D:∀i v u,(#[j,k,l,o,q,r,t,w]:Array Value)[i]?=some v->([9,22,23,24,24,25,25,3]:List Nat)[i%8]?=some u->Cell.okWide prog W .any b0 u v:=fun i v u hi hu=>by obtain⟨u',h1,h2⟩:=C i v hi;have:=fm (h1.symm.trans hu);grind
 obtain⟨K,h3,_⟩:=rY P;obtain⟨lr,ir,sr⟩:=QD bq lI (fun n J y h=>pU h) (fun _=>rfl) (by decide) (D 1 _ _ rfl rfl) Q;obtain⟨lq,_,sq⟩:=QD (cells:=fun x:ByteArray×Bool=>[.string x.1,.bool x.2]) ci Ka (fun n J y h=>J5J h) (fun _=>rfl) (by decide) (D 2 _ _ rfl rfl) R;obtain⟨lv,_,Y⟩:=QD (cells:=fun x:ByteArray=>[.string x]) cN bK (fun n J y h=>rY h) (fun _=>rfl) (by decide) (D 3 _ _ rfl rfl) S;obtain⟨lt,_,Z⟩:=QD (cells:=fun x:ByteArray=>[.string x]) cN bK (fun n J y h=>rY h) (fun _=>rfl) (by decide) (D 4 _ _ rfl rfl) T;obtain⟨lu,iu,su⟩:=QD (cells:=fun x:Int=>[iv x]) au OQ (fun n J y h=>UV h) (fun _=>rfl) (by decide) (D 5 _ _ rfl rfl) U;obtain⟨lo,io,so⟩:=QD (cells:=fun x:Int=>[iv x]) au OQ (fun n J y h=>UV h) (fun _=>rfl) (by decide) (D 6 _ _ rfl rfl) V;obtain⟨ms,L,M⟩:=UV X;obtain rfl:j=.string K:=by grind
 obtain rfl:w=iv ms:=by simpa using L
 rw[J9W]at Y Z;rw[j7]at su so;exact⟨K,⟨lr,lq,lv,lt,lu,lo,ms,[]⟩,⟨k,l,o,q,r,t,rfl,sr,sq,Y,Z,su,so⟩,ir,M,iu,io⟩
end
section
variable {H:Type} {enc:TypeId × Value->H} {W:World} {base b0:Nat} {sp:Nat->Bool} {hd:Bool} {v:Value} {d:DataW H} {p:List MemPlace}
end
theorem J1D{H:Type}(d:DataW H):1<=Rows.uptoBulk d:=by cases d with
 |lit l=>cases l<;>simp[Rows.uptoBulk]|nil=>simp[Rows.uptoBulk]|ptr d=>simp[Rows.uptoBulk]|slice b c=>simp[Rows.uptoBulk]|agg e=>simp[Rows.uptoBulk]|iface t d=>simp[Rows.uptoBulk]|map a=>simp[Rows.uptoBulk]|held h=>simp[Rows.uptoBulk]
theorem Zv{H:Type}(l:List (DataW H)):l.length<=Rows.uptoBulkAll l:=by induction l with|nil=>simp|cons x r a=>have:=J1D x;simp only[Rows.uptoBulkAll,bx];omega
theorem MH.a{W:World}{v:Value}{n w:Nat}{cs:List Value}(h:MH W v n w cs):∃a c,v=.slice a n c:=by
 obtain⟨_,⟨rfl,rfl⟩|⟨b,d,e,f,g,i,rfl,_⟩⟩:=h;.simp
 simp
theorem Xa:prog.cellsOf 32=2:=by kernel_rfl
theorem J6F:prog.cellTypes prog.depth 32=some [3,25]:=by kernel_rfl
def xU(W:World)(v:Value)(size:Int)(C:List Int):Prop:=∃a,v=.agg #[iv size,a]/\MH W a C.length 1 (ints C)/\(-9223372036854775808<=size/\size<=9223372036854775807)/\∀x∈C,-9223372036854775808<=x/\x<=9223372036854775807
section
variable {H:Type} {enc:TypeId × Value->H} {W:World} {base b0:Nat} {sp:Nat->Bool} {hd:Bool}
theorem SJ{t e:TypeId}(j:prog.underlying t=some (.slice e)){n m:Nat}{v:Value}{cs:List Value}{w:Nat}(k:MH W v m w cs){y:DataW H×List MemPlace}(h:DataW.trod enc prog W base sp hd n t [v]=some y):m<=Rows.uptoBulk y.1:=by
 obtain⟨a,c,rfl⟩:=k.a;rcases DataW.trod_slice j h with⟨d,f⟩|⟨q,l,o,b,g,r,_,d,f,_,_,_,i,_⟩;.grind
 .cases d;subst f;have p:=Zv (b.map (·.1));rw[bw]at p;simp only[Rows.uptoBulk];omega
theorem J2w{v:Value}{nm:ByteArray}{s:AS}(N:Z4 W v nm s){d:DataW H}{p:List MemPlace}(h:DataW.Trod enc prog W base sp hd 27 v d p):DS s<=Rows.uptoBulk d:=by
 obtain⟨k,l,n,o,q,r,rfl,O,P,Q,R,S,T⟩:=N.d;obtain⟨F,j⟩:=h;have B:=C9 [.string nm,k,l,n,o,q,r,iv s.c];rw[B]at j;obtain⟨C,m,_,U,V,t,j⟩:=gi bG j;have t:C.length=8:=t;obtain⟨D,u,w,x,y,z,A,E,rfl⟩:∃D u w x y z A E,C=[D,u,w,x,y,z,A,E]:=by match C,t with|[a,b,c,d,e,f,g,i],_=>simp
 have G:DataW.trod enc prog W base sp hd m 22 (([.string nm,k,l,n,o,q,r,iv s.c].drop 1).take (prog.cellsOf 22))=some u:=j 1 _ rfl;rw[NH.1]at G;have I:DataW.trod enc prog W base sp hd m 23 (([.string nm,k,l,n,o,q,r,iv s.c].drop 2).take (prog.cellsOf 23))=some w:=j 2 _ rfl;rw[NH.2.1]at I;have J:DataW.trod enc prog W base sp hd m 24 (([.string nm,k,l,n,o,q,r,iv s.c].drop 3).take (prog.cellsOf 24))=some x:=j 3 _ rfl;rw[NH.2.2.1]at J;have K:DataW.trod enc prog W base sp hd m 24 (([.string nm,k,l,n,o,q,r,iv s.c].drop 4).take (prog.cellsOf 24))=some y:=j 4 _ rfl;rw[NH.2.2.1]at K;have L:DataW.trod enc prog W base sp hd m 25 (([.string nm,k,l,n,o,q,r,iv s.c].drop 5).take (prog.cellsOf 25))=some z:=j 5 _ rfl;rw[NH.2.2.2]at L;have M:DataW.trod enc prog W base sp hd m 25 (([.string nm,k,l,n,o,q,r,iv s.c].drop 6).take (prog.cellsOf 25))=some A:=j 6 _ rfl;rw[NH.2.2.2]at M;have X:=SJ bq O G;have Y:=SJ ci P I;have Z:=SJ cN Q J;have b4:=SJ cN R K;have b5:=SJ au S L;have b6:=SJ au T M;have e:d=.agg ([D,u,w,x,y,z,A,E].map (·.1)):=by grind
 rw[e];simp only[Rows.uptoBulk,Rows.uptoBulkAll,dp,dz,DS];omega
theorem J38{v:Value}{d:DataW H}{p:List MemPlace}(c:Value.okWide prog W .any b0 32 v)(h:DataW.Trod enc prog W base sp hd 32 v d p):∃k C,xU W v k C/\C.length<=Rows.uptoBulk d:=by
 simp only[Value.okWide,gj]at c;obtain⟨o,rfl,F,K,q,_,g⟩:=c;rw[J6F]at q;cases q;obtain⟨B,r⟩:=h;have s:(Value.agg o).cells.toList=o.toList:=rfl;rw[s]at r;obtain⟨w,m,_,L,D,i,r⟩:=gi gj r;rw[Xa]at D;obtain⟨j,f,s⟩:∃j f,o.toList=[j,f]:=by match o.toList,D with|[a,b],_=>simp
 obtain rfl:o=#[j,f]:=by grind
 have i:w.length=2:=i;obtain⟨t,u,rfl⟩:∃t u,w=[t,u]:=by match w,i with|[a,b],_=>simp
 have E:DataW.trod enc prog W base sp hd m 3 (([j,f].drop 0).take (prog.cellsOf 3))=some t:=r 0 _ rfl;rw[OQ]at E;have z:DataW.trod enc prog W base sp hd m 25 (([j,f].drop 1).take (prog.cellsOf 25))=some u:=r 1 _ rfl;rw[NH.2.2.2]at z;have G:Cell.okWide prog W .any b0 25 f:=by
  obtain⟨M,N,O⟩:=g 1 f rfl;grind
 obtain⟨a,P,I⟩:=UV E;obtain rfl:j=iv a:=by grind
 obtain⟨l,J,A⟩:=QD (cells:=fun x:Int=>[iv x]) au OQ (fun n Q y h=>UV h) (fun _=>rfl) (by decide) G z;rw[j7]at A;refine⟨a,l,⟨f,rfl,A,I,J⟩,?_⟩;have R:=SJ au A z;have e:d=.agg ([t,u].map (·.1)):=by grind
 rw[e];simp only[Rows.uptoBulk,Rows.uptoBulkAll,dp,dz];omega
end
end Go.Proofs.YtjailoenloejbaaGreatDoor
namespace Go.Proofs.YtjailoenloejbaaGreatDoor
open Go Go.Sx Go.Proofs.Tryz
set_option maxRecDepth 100000
set_option maxHeartbeats 0
section
variable {call:AY} {n N:Nat} {h:AA}
end
structure SR (h:AA) (b:Nat) (v:Value) (nm:ByteArray) (s:AS) (o:Nat->Nat):Prop where
 v:v=.agg #[.string nm,qS (o 1) s.a.length (s.a.length+9),qS (o 2) s.b.length (s.b.length+3),qS (o 3) s.f.length (s.f.length+3),qS (o 4) s.g.length (s.g.length+3),qS (o 5) s.d.length (s.d.length+3),qS (o 6) s.h.length (s.h.length+3),iv s.c]
 d:b<=o 1/\o 1<o 2/\o 2<o 3/\o 3<o 4/\o 4<o 5/\o 5<o 6/\o 6<h.a
 r:∃ L,WH h (o 1) s.a L
 q:J_ h (o 2) s.b.length 2 (EH s.b) [.string SS,.bool false] [.string ByteArray.empty,.bool false] 158
 w:J_ h (o 3) s.f.length 1 (DN s.f) [.string SS] [.string ByteArray.empty] 9
 t:J_ h (o 4) s.g.length 1 (DN s.g) [.string SS] [.string ByteArray.empty] 9
 u:J_ h (o 5) s.d.length 1 (ints s.d) [iv (-77)] [iv 0] 3
 p:J_ h (o 6) s.h.length 1 (ints s.h) [iv (-77)] [iv 0] 3
section
variable {n N:Nat} {h:AA}
end
section
variable {n N:Nat} {h:AA}
end
section
variable {n N:Nat} {h:AA}
end
structure V4 (h:AA) (b:Nat) (v:Value) (W:List (Int × Int × Int)) (G rd:List Int) (o:Nat->Nat):Prop where
 v:v=.agg #[qS (o 1) W.length (W.length+3),qS (o 2) G.length (G.length+3),qS (o 3) rd.length (rd.length+3)]
 c:b<=o 2/\o 2<o 3/\o 3<o 1/\o 1<h.a
 w:J_ h (o 1) W.length 3 (vcells W) [iv (-77),iv 0,iv 0] [iv 0,iv 0,iv 0] 142
 g:J_ h (o 2) G.length 1 (ints G) [iv (-77)] [iv 0] 3
 r:J_ h (o 3) rd.length 1 (ints rd) [iv (-77)] [iv 0] 3
section
variable {n N:Nat} {h:AA}
end
end Go.Proofs.YtjailoenloejbaaGreatDoor
namespace Go.Proofs.YtjailoenloejbaaGreatDoor
open Go Go.Sx Go.ChangeShapes Go.WideShapes Go.ChangeAt Go.RowKit Go.Proofs.Tryz
set_option maxRecDepth 100000
set_option maxHeartbeats 0
theorem Fi:prog.cellsOf 142=3:=by kernel_rfl
theorem J3x:prog.cellsOf 30=3:=by kernel_rfl
theorem Ik:prog.cellsOf 28=1:=by kernel_rfl
theorem J5e:prog.cellTypes prog.depth 30=some [28,25,25]:=by kernel_rfl
def mV(W:World)(v:Value)(V:List (Int×Int×Int))(G a:List Int):Prop:=∃b c d,v=.agg #[b,c,d]/\MH W b V.length 3 (vcells V)/\MH W c G.length 1 (ints G)/\MH W d a.length 1 (ints a)
section
variable {H:Type} {enc:TypeId × Value->H} {W:World} {base b0:Nat} {sp:Nat->Bool} {hd:Bool}
theorem Ug{n:Nat}{cs:List Value}{y:DataW H×List MemPlace}(h:DataW.trod enc prog W base sp hd n 142 cs=some y):∃x:Int×Int×Int,cs=[iv x.1,iv x.2.1,iv x.2.2]/\True:=by
 obtain⟨d,m,_,_,o,e,l⟩:=gi dy h;rw[Fi]at o;obtain⟨f,j,k,rfl⟩:∃f j k,cs=[f,j,k]:=by match cs,o with|[a,b,c],_=>simp
 have e:d.length=3:=e;have g:∀i,i<3->∃y,d[i]?=some y:=by grind
 obtain⟨v,s⟩:=g 0 (by omega);obtain⟨w,t⟩:=g 1 (by omega);obtain⟨z,u⟩:=g 2 (by omega);have p:DataW.trod enc prog W base sp hd m 3 (([f,j,k].drop 0).take (prog.cellsOf 3))=d[0]?:=l 0 _ rfl;rw[OQ,s]at p;have q:DataW.trod enc prog W base sp hd m 3 (([f,j,k].drop 1).take (prog.cellsOf 3))=d[1]?:=l 1 _ rfl;rw[OQ,t]at q;have r:DataW.trod enc prog W base sp hd m 3 (([f,j,k].drop 2).take (prog.cellsOf 3))=d[2]?:=l 2 _ rfl;rw[OQ,u]at r;obtain⟨a,A,_⟩:=gK dc p;obtain⟨b,B,_⟩:=gK dc q;obtain⟨c,C,_⟩:=gK dc r;simp_all
theorem Tf{v:Value}{d:DataW H}{p:List MemPlace}(e:Value.okWide prog W .any b0 30 v)(h:DataW.Trod enc prog W base sp hd 30 v d p):∃V G K,mV W v V G K:=by
 simp only[Value.okWide,ei]at e;obtain⟨q,rfl,L,U,r,_,l⟩:=e;rw[J5e]at r;cases r;obtain⟨A,o⟩:=h;have s:(Value.agg q).cells.toList=q.toList:=rfl;rw[s]at o;obtain⟨t,m,_,_,B,w,o⟩:=gi ei o;rw[J3x]at B;obtain⟨f,j,k,s⟩:∃f j k,q.toList=[f,j,k]:=by match q.toList,B with|[a,b,c],_=>simp
 obtain rfl:q=#[f,j,k]:=by grind
 have w:t.length=3:=w;have g:∀i,i<3->∃y,t[i]?=some y:=by grind
 obtain⟨X,M⟩:=g 0 (by omega);obtain⟨Y,N⟩:=g 1 (by omega);obtain⟨Z,O⟩:=g 2 (by omega);have C:DataW.trod enc prog W base sp hd m 28 (([f,j,k].drop 0).take (prog.cellsOf 28))=t[0]?:=o 0 _ rfl;rw[Ik,M]at C;have D:DataW.trod enc prog W base sp hd m 25 (([f,j,k].drop 1).take (prog.cellsOf 25))=t[1]?:=o 1 _ rfl;rw[NH.2.2.2,N]at D;have E:DataW.trod enc prog W base sp hd m 25 (([f,j,k].drop 2).take (prog.cellsOf 25))=t[2]?:=o 2 _ rfl;rw[NH.2.2.2,O]at E;have z:∀i v u,(#[f,j,k]:Array Value)[i]?=some v->([28,25,25]:List Nat)[i%3]?=some u->Cell.okWide prog W .any b0 u v:=fun i v u P hu=>by obtain⟨u',h1,h2⟩:=l i v P;grind
 obtain⟨Q,_,R⟩:=QD (cells:=fun x:Int×Int×Int=>[iv x.1,iv x.2.1,iv x.2.2]) bn Fi (fun n F y h=>Ug h) (fun _=>rfl) (by decide) (z 0 _ _ rfl rfl) C;obtain⟨S,_,I⟩:=QD (cells:=fun x:Int=>[iv x]) au OQ (fun n F y h=>UV h) (fun _=>rfl) (by decide) (z 1 _ _ rfl rfl) D;obtain⟨T,_,J⟩:=QD (cells:=fun x:Int=>[iv x]) au OQ (fun n F y h=>UV h) (fun _=>rfl) (by decide) (z 2 _ _ rfl rfl) E;rw[j7]at I J;exact⟨Q,S,T,f,j,k,rfl,R,I,J⟩
end
section
variable {H:Type} {enc:TypeId × Value->H} {W:World} {base b0:Nat} {sp:Nat->Bool} {hd:Bool}
theorem We{v:Value}{V:List (Int×Int×Int)}{G s:List Int}(y:mV W v V G s){d:DataW H}{p:List MemPlace}(h:DataW.Trod enc prog W base sp hd 30 v d p):V.length+G.length+s.length<=Rows.uptoBulk d:=by
 obtain⟨i,j,k,rfl,z,A,B⟩:=y;obtain⟨t,g⟩:=h;have q:=C9 [i,j,k];rw[q]at g;obtain⟨r,m,_,C,D,f,g⟩:=gi ei g;have f:r.length=3:=f;obtain⟨l,n,o,rfl⟩:∃l n o,r=[l,n,o]:=by match r,f with|[a,b,c],_=>simp
 have u:DataW.trod enc prog W base sp hd m 28 (([i,j,k].drop 0).take (prog.cellsOf 28))=some l:=g 0 _ rfl;rw[Ik]at u;have w:DataW.trod enc prog W base sp hd m 25 (([i,j,k].drop 1).take (prog.cellsOf 25))=some n:=g 1 _ rfl;rw[NH.2.2.2]at w;have x:DataW.trod enc prog W base sp hd m 25 (([i,j,k].drop 2).take (prog.cellsOf 25))=some o:=g 2 _ rfl;rw[NH.2.2.2]at x;have b0:=SJ bn z u;have E:=SJ au A w;have F:=SJ au B x;have e:d=.agg ([l,n,o].map (·.1)):=by grind
 rw[e];simp only[Rows.uptoBulk,Rows.uptoBulkAll,dp,dz];omega
end
theorem J2v{W:World}(h:laidMetH prog [("winnow/lex.words",Rows.laid_winnow_lex_words)] W){v w u:Value}{nm:ByteArray}{s:AS}{V:List (Int×Int×Int)}{G g:List Int}{size:Int}{C:List Int}(a:Z4 W v nm s)(q:mV W w V G g)(r:xU W u size C):∃b f k m n,CV prog f b W/\(∀i,¬wr (b.c i))/\AR f k v/\AR f m w/\AR f n u/\CG 0 b k nm s/\GH 0 b m ⟨V,G,g⟩/\F6 0 b n size C/\b.b=0/\b.c 0=EM/\0<b.a:=by
 obtain⟨t,y,z,A,B,D,rfl,E,F,H,I,J,K⟩:=a.d;obtain⟨L,M,N,rfl,O,P,Q⟩:=q;obtain⟨R,rfl,S,_⟩:=r;have T:=bE h (ps:=[⟨t,_,_,_,125⟩,⟨y,_,_,_,158⟩,⟨z,_,_,_,9⟩,⟨A,_,_,_,9⟩,⟨B,_,_,_,3⟩,⟨D,_,_,_,3⟩,⟨L,_,_,_,142⟩,⟨M,_,_,_,3⟩,⟨N,_,_,_,3⟩,⟨R,_,_,_,3⟩]) (fun p b=>by
  simp only[fv,gH,or_false]at b;have e:∀{l:List Int},∀v∈ints l,B7 v=true:=fun v a=>by obtain⟨x,_,rfl⟩:=jr.1 a;rfl
  have o:∀{l:List ByteArray},∀v∈DN l,B7 v=true:=fun v a=>by
   obtain⟨x,_,rfl⟩:=jr.1 a;rfl
  rcases b with rfl|rfl|rfl|rfl|rfl|rfl|rfl|rfl|rfl|rfl
  .refine⟨E,fun v a=>?_⟩;obtain⟨x,_,d⟩:=List.mem_flatMap.1 a;obtain⟨j,U⟩:=dn d;exact Z1 U
  .refine⟨F,fun v a=>?_⟩;obtain⟨x,_,d⟩:=List.mem_flatMap.1 a;simp only[fv,gH,or_false]at d;rcases d with rfl|rfl<;>rfl
  .exact⟨H,o⟩
  .exact⟨I,o⟩
  .exact⟨J,e⟩
  .exact⟨K,e⟩
  .refine⟨O,fun v a=>?_⟩;obtain⟨x,_,d⟩:=List.mem_flatMap.1 a;simp only[fv,gH,or_false]at d;rcases d with rfl|rfl|rfl<;>rfl
  .exact⟨P,e⟩
  .exact⟨Q,e⟩
  .exact⟨S,e⟩);obtain⟨X,Y,r3,Z,r5,c⟩:=T;obtain⟨a0,b0⟩:=c 0 _ rfl;obtain⟨a1,b1⟩:=c 1 _ rfl;obtain⟨a2,b2⟩:=c 2 _ rfl;obtain⟨a3,b3⟩:=c 3 _ rfl;obtain⟨a4,b4⟩:=c 4 _ rfl;obtain⟨a5,b5⟩:=c 5 _ rfl;obtain⟨a6,b6⟩:=c 6 _ rfl;obtain⟨a7,b7⟩:=c 7 _ rfl;obtain⟨a8,b8⟩:=c 8 _ rfl;obtain⟨a9,b9⟩:=c 9 _ rfl;refine⟨_,_,.agg #[.string nm,_,_,_,_,_,_,iv s.c],.agg #[_,_,_],.agg #[iv size,_],X,Y,.agg (.cons (.flat rfl) (.cons a0 (.cons a1 (.cons a2 (.cons a3 (.cons a4 (.cons a5 (.cons (.flat rfl) .nil)))))))),.agg (.cons a6 (.cons a7 (.cons a8 .nil))),.agg (.cons (.flat rfl) (.cons a9 .nil)),⟨_,_,_,_,_,_,rfl,JZ.b b0,b1,b2,b3,b4,b5⟩,⟨_,_,_,rfl,b6,b7,b8⟩,⟨_,rfl,b9⟩,Z,r5,by omega⟩
end Go.Proofs.YtjailoenloejbaaGreatDoor




