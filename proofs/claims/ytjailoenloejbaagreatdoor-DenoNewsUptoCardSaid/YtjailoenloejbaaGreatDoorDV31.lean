/- Part 31. -/
import Derived.Test.YtjailoenloejbaaGreatDoorDV30
set_option linter.all false
namespace Go.Proofs.YtjailoenloejbaaGreatDoor
open Go Go.Sx Go.Proofs.Tryz
set_option maxRecDepth 100000
set_option maxHeartbeats 0
theorem kW:BN prog 158=some 2:=by kernel_rfl
theorem Ku:HL prog 158=some 24:=by kernel_rfl
abbrev Qp:Value:=.agg #[.string ByteArray.empty,.bool false]
theorem tF:DK prog 158=some Qp:=by kernel_rfl
theorem Jz:HL prog 125=some 48:=by kernel_rfl
def I5(v:Value)(n:Nat):Prop:=∃b a c,v=.slice (some ⟨b,a,none⟩) n c
section
variable {n N:Nat} {h:AA}
theorem S2{lo m:Nat}{v:Value}{cs:List Value}(o:AL lo h v m 5 cs)(p:I5 v m)(u:cs.all one=true)(D:m<1099511627776):∃e b,AW prog (AN n) N 62 [v] h=some (e,b)/\AL h.a b e m 5 cs/\I5 e m/\b.b=h.b/\Ex h b:=by
 refine G_ (R:=fun e b=>AL h.a b e m 5 cs/\I5 e m/\b.b=h.b/\Ex h b) func62 rfl (by simp) ?_;have r:f62.results.toList=[.tmp 2]:=rfl;obtain⟨k,a,c,rfl⟩:=p;have l:Ex h (h.d (.row [] 125 false false)):=(Ex.c h).b;have f:=(o.b (h':=h.d (.row [] 125 false false)) l.1 fun i _ w=>l.2 i w).k;have s:CT prog .eql 22 (.tmp 3) (.const (Z0)) (.slice (some ⟨k,a,none⟩) m c) (Z0)=some (.bool false):=by have x:flat (.slice (some ⟨k,a,none⟩) m c)=false:=rfl;simp only[CT,x,bz,aV,bi,bq]
 have g:((.agg #[.int .i64 0,.string ByteArray.empty,.int .i64 0,.int .i64 0,.int .i64 0]):Value).cells.size=5:=rfl;have j:FP prog h 22 0 []=some (qS h.a 0 0,h.d (.row [] 125 false false)):=by simp[FP,bq,GC,FC,flat,B7,GW,I6,CF]
 have t:(0:Nat)≠AT:=by unfold AT;omega
 by_cases y:m=0
 .subst y;have q:cs=[]:=ew (by have:=o.1;omega);subst q;have d:DR prog (h.d (.row [] 125 false false)) 22 (qS h.a 0 0) (.slice (some ⟨k,a,none⟩) 0 c)=some (qS h.a 0 0,h.d (.row [] 125 false false)):=by simp[DR,bq,GC,Jz,FC,g,EL,t]
  simp only[eE,seval,↓eP,r,s,j,d];exact⟨AL.d (ex:=[]) (BJ) ⟨af _,by show h.a<h.a+1;omega⟩ rfl,⟨_,_,_,rfl⟩,rfl,l⟩
 .have d:DR prog (h.d (.row [] 125 false false)) 22 (qS h.a 0 0) (.slice (some ⟨k,a,none⟩) m c)=some (qS (h.a+1) m AT,(h.d (.row [] 125 false false)).d (.row cs 125 true false)):=by
   have z:¬(m<=0):=by omega
   have A:m*48<=140737488355328:=by omega
   have B:m<=140737488355328:=by omega
   have C:EL (h.d (.row [] 125 false false)) 5 0 (qS h.a 0 0)=some []:=by simp[EL]
   simp only[DR,bq,GC,Jz,FC,g,f,u,t,C,z,A,B,ee,fg,ao,ai,bi,af,ab,ff,bg,dw,show(0<5)=True by simp,BU]
  simp only[eE,seval,↓eP,r,s,j,d];exact⟨AL.d (ex:=[]) (by rw[dm];exact BJ (h:=h.d (.row [] 125 false false))) ⟨jp _,by show h.a+1<h.a+1+1;omega⟩ o.1,⟨_,_,_,rfl⟩,rfl,l.b⟩
theorem Ta{lo m:Nat}{v:Value}{cs:List Value}(j:AL lo h v m 5 cs)(g:I5 v m)(k:cs.all one=true)(l:m<1099511627776)(o:2<n):∃d f,AN n 62 [v] h=some (d,f)/\AL h.a f d m 5 cs/\I5 d m/\f.b=h.b/\Ex h f:=by
 obtain⟨n,rfl⟩:=BX o;exact GY BF (S2 (N:=n) j g k l) fun d p i _⟨_,⟨a,b,c,e⟩,_⟩=>by rw[e]at i;cases i
theorem Yt{lo m:Nat}{v:Value}{cs:List Value}(o:AL lo h v m 2 cs)(p:I5 v m)(u:cs.all one=true)(D:m<1099511627776):∃e b,AW prog (AN n) N 108 [v] h=some (e,b)/\AL h.a b e m 2 cs/\I5 e m/\b.b=h.b/\Ex h b:=by
 refine G_ (R:=fun e b=>AL h.a b e m 2 cs/\I5 e m/\b.b=h.b/\Ex h b) func108 rfl (by simp) ?_;have r:f108.results.toList=[.tmp 2]:=rfl;obtain⟨k,a,c,rfl⟩:=p;have l:Ex h (h.d (.row [] 158 false false)):=(Ex.c h).b;have f:=(o.b (h':=h.d (.row [] 158 false false)) l.1 fun i _ w=>l.2 i w).k;have s:CT prog .eql 23 (.tmp 3) (.const (Z0)) (.slice (some ⟨k,a,none⟩) m c) (Z0)=some (.bool false):=by have x:flat (.slice (some ⟨k,a,none⟩) m c)=false:=rfl;simp only[CT,x,bz,aV,bi,ci]
 have g:(Qp:Value).cells.size=2:=rfl;have j:FP prog h 23 0 []=some (qS h.a 0 0,h.d (.row [] 158 false false)):=by simp[FP,ci,kW,tF,flat,B7,GW,I6,CF]
 have t:(0:Nat)≠AT:=by unfold AT;omega
 by_cases y:m=0
 .subst y;have q:cs=[]:=ew (by have:=o.1;omega);subst q;have d:DR prog (h.d (.row [] 158 false false)) 23 (qS h.a 0 0) (.slice (some ⟨k,a,none⟩) 0 c)=some (qS h.a 0 0,h.d (.row [] 158 false false)):=by simp[DR,ci,kW,Ku,tF,g,EL,t]
  simp only[eE,seval,↓eP,r,s,j,d];exact⟨AL.d (ex:=[]) (BJ) ⟨af _,by show h.a<h.a+1;omega⟩ rfl,⟨_,_,_,rfl⟩,rfl,l⟩
 .have d:DR prog (h.d (.row [] 158 false false)) 23 (qS h.a 0 0) (.slice (some ⟨k,a,none⟩) m c)=some (qS (h.a+1) m AT,(h.d (.row [] 158 false false)).d (.row cs 158 true false)):=by
   have z:¬(m<=0):=by omega
   have A:m*24<=140737488355328:=by omega
   have B:m<=140737488355328:=by omega
   have C:EL (h.d (.row [] 158 false false)) 2 0 (qS h.a 0 0)=some []:=by simp[EL]
   simp only[DR,ci,kW,Ku,tF,g,f,u,t,C,z,A,B,ee,fg,ao,ai,bi,af,ab,ff,bg,dw,show(0<2)=True by simp,BU]
  simp only[eE,seval,↓eP,r,s,j,d];exact⟨AL.d (ex:=[]) (by rw[dm];exact BJ (h:=h.d (.row [] 158 false false))) ⟨jp _,by show h.a+1<h.a+1+1;omega⟩ o.1,⟨_,_,_,rfl⟩,rfl,l.b⟩
theorem Tj{lo m:Nat}{v:Value}{cs:List Value}(j:AL lo h v m 2 cs)(g:I5 v m)(k:cs.all one=true)(l:m<1099511627776)(o:2<n):∃d f,AN n 108 [v] h=some (d,f)/\AL h.a f d m 2 cs/\I5 d m/\f.b=h.b/\Ex h f:=by
 obtain⟨n,rfl⟩:=BX o;exact GY BF (Yt (N:=n) j g k l) fun d p i _⟨_,⟨a,b,c,e⟩,_⟩=>by rw[e]at i;cases i
theorem Xq{lo m:Nat}{v:Value}{cs:List Value}(o:AL lo h v m 1 cs)(p:I5 v m)(u:cs.all one=true)(D:m<1099511627776):∃f b,AW prog (AN n) N 109 [v] h=some (f,b)/\AL h.a b f m 1 cs/\I5 f m/\b.b=h.b/\Ex h b:=by
 refine G_ (R:=fun f b=>AL h.a b f m 1 cs/\I5 f m/\b.b=h.b/\Ex h b) func109 rfl (by simp) ?_;have r:f109.results.toList=[.tmp 2]:=rfl;obtain⟨k,a,c,rfl⟩:=p;have l:Ex h (h.d (.row [] 3 false false)):=(Ex.c h).b;have g:=(o.b (h':=h.d (.row [] 3 false false)) l.1 fun i _ w=>l.2 i w).k;have s:CT prog .eql 25 (.tmp 3) (.const (Z0)) (.slice (some ⟨k,a,none⟩) m c) (Z0)=some (.bool false):=by have x:flat (.slice (some ⟨k,a,none⟩) m c)=false:=rfl;simp only[CT,x,bz,aV,bi,au]
 have d:((Value.int .i64 0):Value).cells.size=1:=rfl;have j:FP prog h 25 0 []=some (qS h.a 0 0,h.d (.row [] 3 false false)):=by simp[FP,au,B_,GD,flat,B7,I6,CF,d]
 have t:(0:Nat)≠AT:=by unfold AT;omega
 by_cases y:m=0
 .subst y;have q:cs=[]:=ew (by have:=o.1;omega);subst q;have e:DR prog (h.d (.row [] 3 false false)) 25 (qS h.a 0 0) (.slice (some ⟨k,a,none⟩) 0 c)=some (qS h.a 0 0,h.d (.row [] 3 false false)):=by simp[DR,au,B_,IZ,GD,d,EL,t]
  simp only[eE,seval,↓eP,r,s,j,e];exact⟨AL.d (ex:=[]) (BJ) ⟨af _,by show h.a<h.a+1;omega⟩ rfl,⟨_,_,_,rfl⟩,rfl,l⟩
 .have e:DR prog (h.d (.row [] 3 false false)) 25 (qS h.a 0 0) (.slice (some ⟨k,a,none⟩) m c)=some (qS (h.a+1) m AT,(h.d (.row [] 3 false false)).d (.row cs 3 true false)):=by
   have z:¬(m<=0):=by omega
   have A:m*8<=140737488355328:=by omega
   have B:m<=140737488355328:=by omega
   have C:EL (h.d (.row [] 3 false false)) 1 0 (qS h.a 0 0)=some []:=by simp[EL]
   simp only[DR,au,B_,IZ,GD,d,g,u,t,C,z,A,B,ee,fg,ao,ai,bi,af,ab,ff,bg,dw,show(0<1)=True by simp,BU]
  simp only[eE,seval,↓eP,r,s,j,e];exact⟨AL.d (ex:=[]) (by rw[dm];exact BJ (h:=h.d (.row [] 3 false false))) ⟨jp _,by show h.a+1<h.a+1+1;omega⟩ o.1,⟨_,_,_,rfl⟩,rfl,l.b⟩
theorem vF{lo m:Nat}{v:Value}{cs:List Value}(j:AL lo h v m 1 cs)(g:I5 v m)(k:cs.all one=true)(l:m<1099511627776)(o:2<n):∃d f,AN n 109 [v] h=some (d,f)/\AL h.a f d m 1 cs/\I5 d m/\f.b=h.b/\Ex h f:=by
 obtain⟨n,rfl⟩:=BX o;exact GY BF (Xq (N:=n) j g k l) fun d p i _⟨_,⟨a,b,c,e⟩,_⟩=>by rw[e]at i;cases i
def bM:List (Bool×Bool×List Operand):=[AO,AO,AO,AO,AH [.tmp 18],AH [.tmp 18],AH [.tmp 18],AH [.tmp 18],AJ]
theorem pG{a b:Int×Int×Int}:∀x y,CT prog .neq 142 x y (E8 a.1 a.2.1 a.2.2) (E8 b.1 b.2.1 b.2.2)=some (.bool (!(a.1==b.1&&(a.2.1==b.2.1&&a.2.2==b.2.2)))):=fun x y=>by
 have k:BZ prog (Op.equal 142 (IA a.1 a.2.1 a.2.2) (IA b.1 b.2.1 b.2.2))=some (a.1==b.1&&(a.2.1==b.2.1&&a.2.2==b.2.2)):=Pa 9998;have e:BZ prog (do eqGuard .neq 142 x y (IA a.1 a.2.1 a.2.2) (IA b.1 b.2.1 b.2.2);binOp .neq 142 (IA a.1 a.2.1 a.2.2) (IA b.1 b.2.1 b.2.2))=some (.bool (!(a.1==b.1&&(a.2.1==b.2.1&&a.2.2==b.2.2)))):=by
  rw[EF];have g:BZ prog (eqGuard .neq 142 x y (IA a.1 a.2.1 a.2.2) (IA b.1 b.2.1 b.2.2))=some ():=by unfold eqGuard;simp[EF,OS,KU]
  rw[g];show BZ prog ((do pure (.bool (!(<-Op.equal 142 (IA a.1 a.2.1 a.2.2) (IA b.1 b.2.1 b.2.2))))):Sem Value)=_;rw[EF,k];rfl
 simp only[CT,Fl,ao,ai,e,OL]
theorem Lg{x y:Int×Int×Int}(h:¬x=y):(!(x.1==y.1&&(x.2.1==y.2.1&&x.2.2==y.2.2)))=true:=by grind
theorem ZJ:∀{V:List (Int×Int×Int)}{lo i:Nat}{h:AA}{vv:Value}{x:Int×Int×Int}(k:AL lo h vv V.length 3 (FZ V))(j:V[i]?=some x),∃e q,BW prog 28 vv (iv (i:Int))=some (qP e q)/\e<h.a/\AX 3 q (h.c e)=some (E8 x.1 x.2.1 x.2.2):=by
 intro V lo i h vv x k j;have r:=(ae.1 j).1;obtain⟨s,a,c,rfl,l|⟨e,b,d,t,g,u,rfl,l,m,o,_⟩⟩:=k;.omega
 .have f:(d.drop (b+i*3)).take 3=[iv x.1,iv x.2.1,iv x.2.2]:=by
   have p:(d.drop (b+i*3)).take 3=(((d.drop b).take (V.length*3)).drop (i*3)).take 3:=by rw[List.drop_take,jl,List.take_take,Nat.min_eq_left (by omega)]
   rw[p,o];exact iD V i x j
  refine⟨e,b+i*3,?_,m.2,?_⟩
  .simp only[BW,bn,NS];rw[ag (by omega)];simp[KL]
  .rw[l];simp[AX,GN,f]
theorem Tp{L M:Nat}{l m:Value}{A B:List (Int×Int×Int)}(v:AL L h l A.length 3 (FZ A))(w:AL M h m B.length 3 (FZ B))(S:A.length<1099511627776)(T:A.length+5<N):∃c,AW prog (AN n) N 106 [l,m] h=some (.bool (decide (A=B)),c)/\∀i,i<h.a->c.c i=h.c i:=by
 have e:=(EC n).2;refine EA (R:=fun c=>∀i,i<h.a->c.c i=h.c i) func106 rfl (by simp) ?_;have z:f106.results.toList=[.tmp 4]:=rfl;have C:∀c:AA,CU prog c 28 l=some (iv (A.length:Int)):=fun c=>AL.c v bn;have D:∀c:AA,CU prog c 28 m=some (iv (B.length:Int)):=fun c=>AL.c w bn;by_cases E:A.length=B.length;case neg=>
  have r:((A.length:Int)!=(B.length:Int))=true:=by grind
  have f:decide (A=B)=false:=by grind
  rw[f];simp only[eE,seval,↓eP,z,C,D,r];exact fun _ _=>cj
 have r:((A.length:Int)!=(B.length:Int))=false:=by grind
 simp only[eE,seval,↓eP,z,C,D,r];refine WK.b (fun i g=>g.T.a 0=l/\g.T.a 1=m/\g.T.a 12=iv (A.length:Int)/\g.T.a 13=iv (i:Int)/\g.h=h/\i<=A.length/\A.take i=B.take i) A.length (by omega) ?_ ?_;.exact⟨by simp only[eE,seval],by simp only[eE,seval],by simp only[eE,seval],by simp only[eE,seval],rfl,bg _,rfl⟩
 rintro i⟨U,s⟩V⟨o,p,a,b,rfl,O,t⟩;simp only at o p a b;rcases ar i A.length with j|P
 .have q:decide ((i:Int)<(A.length:Int))=true:=by grind
  obtain⟨x,F⟩:∃x,A[i]?=some x:=⟨_,aa j⟩;obtain⟨y,G⟩:∃y,B[i]?=some y:=⟨_,aa (by omega)⟩;obtain⟨W,X,H,Y,I⟩:=ZJ v F;obtain⟨Z,p1,J,b1,K⟩:=ZJ w G;have Q:IntKind.i64.wrap ((i:Int)+1)=((i+1:Nat):Int):=by rw[BR];omega
  have k:s.f s.b=s:=rfl;by_cases d:x=y
  .have u:(!(x.1==y.1&&(x.2.1==y.2.1&&x.2.2==y.2.2)))=false:=by simp[d]
   simp only[eE,seval,↓eP,a,b,q];refine WK.a (fs:=bM) (by kernel_rfl) ?_;unfold bM;iterate 9 refine DG e ?_;simp only[rG,seval,AB,AD,AC,A7,k,o,p,H,J,UE,I,K,pG,u]
   refine DF ?_;simp only[eE,seval,↓eP,o,p,a,b,Q];exact⟨j,by omega,by rw[cY,cY,F,G,t,d]⟩
  .have u:(!(x.1==y.1&&(x.2.1==y.2.1&&x.2.2==y.2.2)))=true:=Lg d;have f:decide (A=B)=false:=by grind
   rw[f];simp only[eE,seval,↓eP,a,b,q];refine WK.a (fs:=bM) (by kernel_rfl) ?_;unfold bM;iterate 9
    refine DG e ?_;simp only[rG,seval,AB,AD,AC,A7,k,o,p,H,J,UE,I,K,pG,u]
   refine DF ?_;simp only[eE,seval,↓eP];exact fun _ _=>cj
 .have q:decide ((i:Int)<(A.length:Int))=false:=by grind
  have f:decide (A=B)=true:=by grind
  rw[f];simp only[eE,seval,↓eP,a,b,q];exact fun _ _=>cj
theorem TJ{c d:Nat}{a b:Value}{A B:List (Int×Int×Int)}(e:AL c h a A.length 3 (FZ A))(f:AL d h b B.length 3 (FZ B))(g:A.length<1099511627776)(i:A.length+10<n):AN n 106 [a,b] h=some (.bool (decide (A=B)),h):=by obtain⟨n,rfl⟩:=BX i;exact HF BF rfl (Tp (N:=n) e f g (by omega))
def cQ:List (Bool×Bool×List Operand):=[AO,AO,AO,AO,AH [.tmp 18],AH [.tmp 18],AH [.tmp 18],AH [.tmp 18],AJ]
theorem TT{L M:Nat}{l m:Value}{A B:List Int}(v:AK L h l A)(w:AK M h m B)(S:A.length<1099511627776)(T:A.length+5<N):∃c,AW prog (AN n) N 107 [l,m] h=some (.bool (decide (A=B)),c)/\∀i,i<h.a->c.c i=h.c i:=by
 have e:=(EC n).2;refine EA (R:=fun c=>∀i,i<h.a->c.c i=h.c i) func107 rfl (by simp) ?_;have z:f107.results.toList=[.tmp 4]:=rfl;have C:∀c:AA,CU prog c 25 l=some (iv (A.length:Int)):=fun c=>AL.c v au;have D:∀c:AA,CU prog c 25 m=some (iv (B.length:Int)):=fun c=>AL.c w au;by_cases E:A.length=B.length;case neg=>
  have r:((A.length:Int)!=(B.length:Int))=true:=by grind
  have f:decide (A=B)=false:=by grind
  rw[f];simp only[eE,seval,↓eP,z,C,D,r];exact fun _ _=>cj
 have r:((A.length:Int)!=(B.length:Int))=false:=by grind
 simp only[eE,seval,↓eP,z,C,D,r];refine WK.b (fun i g=>g.T.a 0=l/\g.T.a 1=m/\g.T.a 12=iv (A.length:Int)/\g.T.a 13=iv (i:Int)/\g.h=h/\i<=A.length/\A.take i=B.take i) A.length (by omega) ?_ ?_;.exact⟨by simp only[eE,seval],by simp only[eE,seval],by simp only[eE,seval],by simp only[eE,seval],rfl,bg _,rfl⟩
 rintro i⟨U,s⟩V⟨o,p,a,b,rfl,O,t⟩;simp only at o p a b;rcases ar i A.length with j|P
 .have q:decide ((i:Int)<(A.length:Int))=true:=by grind
  obtain⟨x,F⟩:∃x,A[i]?=some x:=⟨_,aa j⟩;obtain⟨y,G⟩:∃y,B[i]?=some y:=⟨_,aa (by omega)⟩;obtain⟨W,X,H,Y,I⟩:=AK.V v F;obtain⟨Z,p1,J,b1,K⟩:=AK.V w G;have Q:IntKind.i64.wrap ((i:Int)+1)=((i+1:Nat):Int):=by rw[BR];omega
  have k:s.f s.b=s:=rfl;by_cases d:x=y
  .have u:(x !=y)=false:=by simp[d]
   simp only[eE,seval,↓eP,a,b,q];refine WK.a (fs:=cQ) (by kernel_rfl) ?_;unfold cQ;iterate 9 refine DG e ?_;simp only[rG,seval,AB,AD,AC,A7,C8,k,o,p,H,J,AM,I,K,u]
   refine DF ?_;simp only[eE,seval,↓eP,o,p,a,b,Q];exact⟨j,by omega,by rw[cY,cY,F,G,t,d]⟩
  .have u:(x !=y)=true:=by simp[d]
   have f:decide (A=B)=false:=by grind
   rw[f];simp only[eE,seval,↓eP,a,b,q];refine WK.a (fs:=cQ) (by kernel_rfl) ?_;unfold cQ;iterate 9
    refine DG e ?_;simp only[rG,seval,AB,AD,AC,A7,C8,k,o,p,H,J,AM,I,K,u]
   refine DF ?_;simp only[eE,seval,↓eP];exact fun _ _=>cj
 .have q:decide ((i:Int)<(A.length:Int))=false:=by grind
  have f:decide (A=B)=true:=by grind
  rw[f];simp only[eE,seval,↓eP,a,b,q];exact fun _ _=>cj
theorem Sp{c d:Nat}{a b:Value}{A B:List Int}(e:AK c h a A)(f:AK d h b B)(g:A.length<1099511627776)(i:A.length+10<n):AN n 107 [a,b] h=some (.bool (decide (A=B)),h):=by obtain⟨n,rfl⟩:=BX i;exact HF BF rfl (TT (N:=n) e f g (by omega))
end
theorem Mu{H:AA}{v:Value}{t:FK}{lo:Nat}(n:GH lo H v t)(F:H.b<=H.a)(e x:Int):∃l c,BD prog ((H.d (.row [Z0,Z0,Z0] 30 false false)).d (.row [iv 0,iv 0] 43 false false)) 30 (qP H.a 0) v=some l/\BD prog l 43 (qP (H.a+1) 0) (EE e x)=some c/\AX 3 0 (c.c H.a)=some v/\c.c (H.a+1)=.row [iv e,iv x] 43 false false/\c.a=H.a+2/\c.b=H.b/\∀i,i<H.a->c.c i=H.c i:=by
 obtain⟨d,f,g,rfl,o,p,q⟩:=id n;have r:([d,f,g]:List Value).all one=true:=by simp only[az,bd,AL.a o,AL.a p,AL.a q,ao]
 have s:∀(a b:BO),let A:=(H.d a).d b
   A.c H.a=a/\A.c (H.a+1)=b/\A.a=H.a+2/\A.b=H.b/\∀i,i<H.a->A.c i=H.c i:=fun a b=>⟨JG,MG,rfl,rfl,fun i k=>by rw[AV (by show i<H.a+1;omega),AV k]⟩;obtain⟨u,w,y,z,B⟩:=s (.row [Z0,Z0,Z0] 30 false false) (.row [iv 0,iv 0] 43 false false);generalize(H.d (.row [Z0,Z0,Z0] 30 false false)).d (.row [iv 0,iv 0] 43 false false)=A at*;have C:=GQ (vs:=[d,f,g]) JJ u rfl rfl r (by omega);have m:∀j,j≠H.a->(A.e H.a (.row [d,f,g] 30 false false)).c j=A.c j:=fun j D=>AP (by omega) (bc D);have E:=GQ MR (id:=H.a+1) (h:=A.e H.a (.row [d,f,g] 30 false false)) (vs:=[iv e,iv x]) (by rw[m _ (by omega)];exact w) rfl rfl rfl (by show A.b<=H.a+1;omega);refine⟨_,_,C,E,?_,BE rfl (by show H.a+1<A.a;omega),y,z,fun i k=>?_⟩
 .rw[AP (by show H.a+1<A.a;omega) (by omega),BE rfl (by omega)];rfl
 .rw[AP (by show H.a+1<A.a;omega) (by omega),m i (by omega),B i k]
noncomputable def K8(nm:ByteArray)(s:AS)(size:Int)(C:List Int)(t:FK):Int:=if DQ nm s≠0 then DQ nm s else if(CD nm s size C).1.1≠0 then(CD nm s size C).1.1 else if(CD nm s size C).2.V=t.V/\(CD nm s size C).2.G=t.G/\(CD nm s size C).2.a=t.a then 0 else 1
structure O9 (lo:Nat) (h:AA) (M nq:Nat) (ini:List Int):Prop where
 e:lo<=M/\M<h.a
 f:∃ S Q lv,AI 15 (h.c M)=some (qP S 0)/\(lo<=S/\S<h.a)/\h.c S=.row [qS Q nq nq,lv] 185 false false/\(lo<=Q/\Q<h.a)/\h.c Q=.row (List.replicate nq (Z0)) 160 false false/\AK lo h lv ini/\(lv=Z0\/I5 lv ini.length)
 c:AX 4 16 (h.c M)=some (.agg #[iv 0,iv 0,iv 0,iv 0])
 d:AI 22 (h.c M)=some (iv 0)
theorem O9.a{lo:Nat}{h h':AA}{M k:Nat}{j:List Int}(l:O9 lo h M k j)(m:h.a<=h'.a)(n:∀i,lo<=i->i<h.a->h'.c i=h.c i):O9 lo h' M k j:=by obtain⟨p,⟨S,Q,o,a,b,c,d,e,f,g⟩,q,r⟩:=l;exact⟨by omega,⟨S,Q,o,by grind,by omega,by grind,by omega,by grind,AK.U f m n,g⟩,by grind,by grind⟩
def XA(h:AA)(v:Value)(h':AA)(e:Int)(b:Nat)(a:List Int):Prop:=h'.b=h.b/\Ex h h'/\((e≠0/\v=.tuple #[.pointer none,iv e])\/(e=0/\∃M,v=.tuple #[qP M 0,iv 0]/\O9 h.a h' M b a))
theorem XA.a{h h':AA}{v:Value}{e:Int}{b:Nat}{a:List Int}(c:E5 v=true)(d:XA h v h' e b a):XA h v h e b a:=by
 obtain⟨_,_,f|⟨_,M,rfl,_⟩⟩:=d;.exact⟨rfl,Ex.c h,.inl f⟩
 .simp[E5]at c;cases c.1
theorem PX:BN prog 79=some 1:=by kernel_rfl
theorem N8:BN prog 160=some 1:=by kernel_rfl
theorem mP:HL prog 160=some 24:=by kernel_rfl
theorem dM:DK prog 160=some (Z0):=by kernel_rfl
theorem Ia:BN prog 185=some 2:=by kernel_rfl
theorem ZK:BN prog 150=some 1:=by kernel_rfl
theorem TV:BN prog 152=some 25:=by kernel_rfl
theorem RB:BN prog 62=some 4:=by kernel_rfl
abbrev eX:Value:=.agg #[Z0,Z0]
theorem Jn:DK prog 185=some eX:=by kernel_rfl
theorem Ju:HN prog (match prog.underlying 185 with|some (.struct a)=>a.toList|_=>[])=some [(0,1),(1,1)]:=by kernel_rfl
theorem Uq{a:Option Addr}{n c:Nat}:CL prog 185 [(0,.slice a n c)]=some (.agg #[.slice a n c,Z0]):=by have h:=Ju;rw[im]at h;simp only at h;have b:flat eX=true:=rfl;simp only[CL,Jn,b,ai,im,h];rfl
theorem Us:DK prog 152=some (.agg #[.string ByteArray.empty,Z0,Z0,Z0,Z0,Z0,Z0,iv 0,Z0,Z0,Z0,iv 0,Z0,Z0,.nilIface,.pointer none,iv 0,iv 0,iv 0,iv 0,.int .u64 0,Z0,iv 0,Z0,.bool false]):=by kernel_rfl
theorem Ut:HN prog (match prog.underlying 152 with|some (.struct a)=>a.toList|_=>[])=some [(0,8),(8,3),(11,2),(13,1),(14,1),(15,1),(16,4),(20,1),(21,1),(22,1),(23,1),(24,1)]:=by kernel_rfl
abbrev MI(nm:ByteArray)(a1 a2 a3 a4 a5 a6:Value)(m:Int)(b1 b2 b3:Value)(size:Int)(c b a:Value)(S:Nat):List Value:=[.string nm,a1,a2,a3,a4,a5,a6,iv m,b1,b2,b3,iv size,c,b,a,qP S 0,iv 0,iv 0,iv 0,iv 0,.int .u64 0,Z0,iv 0,Z0,.bool false]
theorem Wg{nm:ByteArray}{a1 a2 a3 a4 a5 a6 b1 b2 b3 c:Value}{m size:Int}{S:Nat}:CL prog 152 [(0,.agg #[.string nm,a1,a2,a3,a4,a5,a6,iv m]),(1,.agg #[b1,b2,b3]),(2,.agg #[iv size,c]),(5,qP S 0)]=some (.agg (MI nm a1 a2 a3 a4 a5 a6 m b1 b2 b3 size c (Z0) .nilIface S).toArray):=by have h:=Ut;rw[fP]at h;simp only at h;have a:flat (.agg #[.string ByteArray.empty,Z0,Z0,Z0,Z0,Z0,Z0,iv 0,Z0,Z0,Z0,iv 0,Z0,Z0,.nilIface,.pointer none,iv 0,iv 0,iv 0,iv 0,.int .u64 0,Z0,iv 0,Z0,.bool false])=true:=rfl;simp only[CL,Us,a,ai,fP,h];rfl
theorem UB:DK prog 188=some (.agg #[.string ByteArray.empty,Z0,Z0,Z0,Z0,Z0,Z0,iv 0,Z0,Z0,Z0,iv 0,Z0,Z0]):=by kernel_rfl
theorem U2:HN prog (match prog.underlying 188 with|some (.struct a)=>a.toList|_=>[])=some [(0,8),(8,3),(11,2),(13,1)]:=by kernel_rfl
abbrev TS(nm:ByteArray)(a1 a2 a3 a4 a5 a6:Value)(m:Int)(b1 b2 b3:Value)(size:Int)(c r:Value):List Value:=[.string nm,a1,a2,a3,a4,a5,a6,iv m,b1,b2,b3,iv size,c,r]
theorem Ve{nm:ByteArray}{a1 a2 a3 a4 a5 a6 b1 b2 b3 c:Value}{m size:Int}{a:Option Addr}{n k:Nat}:CL prog 188 [(0,.agg #[.string nm,a1,a2,a3,a4,a5,a6,iv m]),(1,.agg #[b1,b2,b3]),(2,.agg #[iv size,c]),(3,.slice a n k)]=some (.agg (TS nm a1 a2 a3 a4 a5 a6 m b1 b2 b3 size c (.slice a n k)).toArray):=by have h:=U2;rw[underlying188]at h;simp only at h;have b:flat (.agg #[.string ByteArray.empty,Z0,Z0,Z0,Z0,Z0,Z0,iv 0,Z0,Z0,Z0,iv 0,Z0,Z0])=true:=rfl;simp only[CL,UB,b,ai,underlying188,h];rfl
section
variable {h:AA} {id off:Nat}
theorem Q_:EP prog h 79 (qP id off)=AI off (h.c id):=JL (by kernel_rfl)
theorem iL:EP prog h 160 (qP id off)=AI off (h.c id):=JL (by kernel_rfl)
theorem yA:EP prog h 150 (qP id off)=AI off (h.c id):=JL (by kernel_rfl)
theorem Nz:EP prog h 62 (qP id off)=AX 4 off (h.c id):=NF (by kernel_rfl) RB
theorem V8:BC prog 152 (qP id off) 2=some (qP id (off+11)):=by simp[BC,fP,HQ,CB]
theorem Vi:BC prog 152 (qP id off) 3=some (qP id (off+13)):=by simp[BC,fP,QH,CB]
theorem Vj:BC prog 152 (qP id off) 4=some (qP id (off+14)):=by simp[BC,fP,MO,CB]
theorem vE:BC prog 152 (qP id off) 5=some (qP id (off+15)):=by simp[BC,fP,ZK,CB]
theorem VH:BC prog 152 (qP id off) 6=some (qP id (off+16)):=by simp[BC,fP,RB,CB]
theorem VL:BC prog 152 (qP id off) 9=some (qP id (off+22)):=by simp[BC,fP,B_,CB]
theorem tA:BC prog 185 (qP id off) 0=some (qP id off):=by simp[BC,im,PX,CB]
theorem aZ:BC prog 185 (qP id off) 1=some (qP id (off+1)):=by simp[BC,im,FW,CB]
end
theorem uA{o:BO}{a b c:Value}(h:AX 3 0 o=some (.agg #[a,b,c])):AI 0 o=some a/\AI 1 o=some b/\AI 2 o=some c:=by cases o with
 |row d f g i=>match d,h with
  |[],h=>simp[AX,GN]at h|[x],h=>simp[AX,GN]at h|[x,y],h=>simp[AX,GN]at h|x::y::z::r,h=>
   have e:x=a/\y=b/\z=c:=by simpa[AX,GN]using h
   obtain⟨rfl,rfl,rfl⟩:=e;exact⟨rfl,rfl,rfl⟩
 |_=>simp[AX]at h
theorem u_{o:BO}{a b c:Value}(h:AX 3 0 o=some (.agg #[a,b,c])):AI 0 o=some a:=(uA h).1
theorem Bx{o:BO}{a b c:Value}(h:AX 3 0 o=some (.agg #[a,b,c])):AI 1 o=some b:=(uA h).2.1
theorem Df{o:BO}{a b c:Value}(h:AX 3 0 o=some (.agg #[a,b,c])):AI 2 o=some c:=(uA h).2.2
end Go.Proofs.YtjailoenloejbaaGreatDoor




