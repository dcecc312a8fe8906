/- Part 12. -/
import Derived.Test.YtjailoenloejbaaGreatDoorDV11
set_option linter.all false
namespace Go.Proofs.YtjailoenloejbaaGreatDoor
open Go Go.Sx Go.Proofs.Tryz
set_option maxRecDepth 100000
set_option maxHeartbeats 0
def EM:BO:=.row QK 9 false true
def RY(w:List UInt8):ByteArray:=⟨w.toArray⟩
def NL(s:ByteArray):Bool:=decide (K6.findIdx (fun w=>s==RY w)<41)
theorem ZP:K6.length=41:=by decide
def BG(s:ByteArray):Bool:=match s.data.toList with|[]=>false|c::l=>decide ((c::l).length<=64)&&HR c.toNat&&!NL s&&(c::l).all fun c=>HR c.toNat||JH c.toNat
theorem OO{s:ByteArray}:flat (.string s)=true:=rfl
theorem KH{h:AA}{s:ByteArray}:CU prog h 9 (.string s)=some (.int .i64 s.data.toList.length):=by simp[CU,fh]
theorem aR{s:ByteArray}{i:Nat}{b:UInt8}(c:s.data.toList[i]?=some b):BZ prog (Instr.index 9 (.string s) (.int .i64 (i:Int)))=some (.int .u8 (b.toNat:Int)):=by
 have d:s[i]?=some b:=by
  obtain⟨f,g⟩:=ae.1 c;have a:i<s.size:=by assumption
  rw[getElem?_pos s i a];congr 1
 unfold Instr.index;rw[EF];have e:BZ prog (asIntOf (.int .i64 (i:Int)))=some (.i64,(i:Int)):=rfl;rw[e];simp only[cp];rw[EF,R3 fh];simp only[cp,gy];rw[ag (by omega),d];rfl
theorem py{s:ByteArray}{b:UInt8}(a:s.data.toList[0]?=some b):BZ prog (Instr.index 9 (.string s) (.int .i64 0))=some (.int .u8 (b.toNat:Int)):=aR (i:=0) a
theorem Cf{s:ByteArray}:(s==⟨#[]⟩)=s.data.toList.isEmpty:=by cases s with|mk d=>show(d==#[])=_;simp
section
variable {call:AY} {n:Nat} {h:AA} {s:ByteArray}
def fU(s:ByteArray):Int:=if K6.findIdx (fun w=>s==RY w)<41 then K6.findIdx (fun w=>s==RY w)else -1
theorem pz{h:AA}{a:Option Addr}{n c:Nat}:CU prog h 24 (.slice a n c)=some (.int .i64 n):=by simp[CU,cN]
theorem Kk{i:Nat}(hi:i<41):BW prog 24 (.slice (some ⟨0,0,none⟩) 41 41) (.int .i64 (i:Int))=some (.pointer (some ⟨0,i,none⟩)):=by simp only[BW,cN,KN,CB];grind
theorem Il{i:Nat}(hi:i<41):AI i EM=some (.string (RY (K6[i]'(by rw[ZP];exact hi)))):=by simp only[EM,AI,QK,bT];rw[aa (by assumption)];rfl
theorem pK (hg:h.c 0=EM) (hn:41<n):AW prog call n 295 [.slice (some ⟨0,0,none⟩) 41 41,.string s] h=some (iv (fU s),h):=by
 refine DO func295 rfl (by simp[f295]) ?_
 have hr:f295.results.toList=[.tmp 4]:=rfl
 have hle:K6.findIdx (fun w=>s==RY w)<=41:=by have:=List.findIdx_le_length (xs:=K6) (p:=fun w=>s==RY w);rw[ZP] at this;exact this
 simp only[eE,↓reduceIte,Nat.reduceEqDiff,reduceCtorEq,↓eP,rP,Nat.reduceAdd,Nat.reduceLT,hr,pz]
 refine WK.b (fun i s'=>s'.h=h/\s'.T.a 0=.slice (some ⟨0,0,none⟩) 41 41/\s'.T.a 1=.string s/\s'.T.a 7=.int .i64 41/\s'.T.a 8=.int .i64 i) (K6.findIdx (fun w=>s==RY w)) (by omega) ?_ ?_
 .simp only[eE,↓reduceIte,Nat.reduceEqDiff,reduceCtorEq,↓eP,rP,Nat.reduceAdd,Nat.reduceLT]
  exact⟨rfl,rfl⟩
 .rintro i ⟨T1,h1⟩ hi ⟨rfl,t0,t1,t7,t8⟩
  simp only at t0 t1 t7 t8
  unfold fU
  by_cases hlt:i<K6.findIdx (fun w=>s==RY w)
  .have hi41:i<41:=by omega
   have c1:decide ((i:Int)<41)=true:=by simp;omega
   have hne:=List.not_of_lt_findIdx hlt
   have w5:IntKind.i64.wrap ((i:Int)+1)=((i+1:Nat):Int):=BR
   simp only[eE,seval,↓eP,rP,t0,t1,t7,t8,c1,Kk hi41,hg,Il hi41,hne]
   exact⟨hlt,w5⟩
  .have hie:i=K6.findIdx (fun w=>s==RY w):=by omega
   by_cases h41:i<41
   .have c1:decide ((i:Int)<41)=true:=by simp;omega
    have heq:(s==RY (K6[i]'(by rw[ZP];exact h41)))=true:=by
     have:=List.findIdx_getElem (xs:=K6) (p:=fun w=>s==RY w) (w:=by rw[<- hie,ZP];exact h41)
     simp only[<- hie] at this
     exact this
    rw[<- hie,ag h41]
    simp only[eE,seval,↓eP,rP,hr,t0,t1,t7,t8,c1,Kk h41,hg,Il h41,heq]
   .have c1:decide ((i:Int)<41)=false:=by simp;omega
    rw[<- hie,ad h41]
    simp only[eE,seval,↓eP,rP,hr,t0,t1,t7,t8,c1]
theorem pL:decide (fU s>=0)=NL s:=by unfold fU NL;grind
theorem pW(a:call 295 [.slice (some ⟨0,0,none⟩) 41 41,.string s] h=some (iv (fU s),h)):AW prog call n 288 [.slice (some ⟨0,0,none⟩) 41 41,.string s] h=some (.bool (NL s),h):=by refine DO func288 rfl (by simp) ?_;have b:f288.results.toList=[.tmp 4]:=rfl;simp only[eE,seval,b,a,pL]
theorem qa:H9 prog h 277 (.pointer (some ⟨0,0,none⟩)) none none none=some (.slice (some ⟨0,0,none⟩) 41 41):=by simp[H9,underlying277,FI,KN,CB]
theorem qb(a:call 288 [.slice (some ⟨0,0,none⟩) 41 41,.string s] h=some (.bool (NL s),h)):AW prog call n 243 [.string s] h=some (.bool (NL s),h):=by refine DO func243 rfl (by simp) ?_;have b:f243.results.toList=[.tmp 2]:=rfl;simp only[eE,seval,b,ny,qa,a]
theorem qc(a:∀(b:UInt8)h,call 242 [.int .u8 (b.toNat:Int)] h=some (.bool (HR b.toNat),h))(f:∀(b:UInt8)h,call 244 [.int .u8 (b.toNat:Int)] h=some (.bool (JH b.toNat),h))(g:call 243 [.string s] h=some (.bool (NL s),h))(H:64<n):AW prog call n 186 [.string s] h=some (.bool (BG s),h):=by refine DO func186 rfl (by simp) ?_;have p:f186.results.toList=[.tmp 2]:=rfl;unfold BG;cases m:s.data.toList with
 |nil=>
  have o:(s==⟨#[]⟩)=true:=by rw[Cf,m];rfl
  simp only[eE,seval,↓eP,rP,p,o]|cons c l=>
  have o:(s==⟨#[]⟩)=false:=by rw[Cf,m];rfl
  have v:=py (s:=s) (b:=c) (by grind);simp only;generalize B:(c::l).all (fun c=>HR c.toNat||JH c.toNat)=A;by_cases j:(c::l).length<=64
  .have q:decide (((c::l).length:Int)>64)=false:=by grind
   cases w:HR c.toNat with
   |false=>simp only[eE,seval,↓eP,rP,p,o,KH,m,q,OO,v,a,w,Bool.and_false,bz]|true=>cases C:NL s with|true=>simp only[eE,seval,↓eP,rP,p,o,KH,m,q,OO,v,a,w,g,C,Bool.and_false,bz]|false=>
     simp only[eE,↓reduceIte,Nat.reduceEqDiff,reduceCtorEq,↓eP,rP,Nat.reduceAdd,p,o,KH,m,q,OO,v,a,w,g,C,bh j];rw[<-m]at*;generalize I:s.data.toList=L at*;refine WK.b (fun i t=>t.h=h/\t.T.a 0=.string s/\t.T.a 22=.int .i64 L.length/\t.T.a 23=.int .i64 i/\(L.take i).all (fun c=>HR c.toNat||JH c.toNat)=true) L.length (by omega) ?_ ?_
     .simp only[eE,↓reduceIte,Nat.reduceEqDiff,reduceCtorEq];simp
     .rintro i⟨J,K⟩M⟨rfl,u,d,e,k⟩;simp only at u d e;by_cases x:i<L.length
      .have r:decide ((i:Int)<(L.length:Int))=true:=by grind
       obtain⟨b,F⟩:∃b,L[i]?=some b:=⟨_,aa x⟩;have y:=aR (s:=s) (i:=i) (b:=b) (by grind);have N:IntKind.i64.wrap ((i:Int)+1)=((i+1:Nat):Int):=BR;have G:(L.take (i+1)).all (fun c=>HR c.toNat||JH c.toNat)=((L.take i).all (fun c=>HR c.toNat||JH c.toNat)&&(HR b.toNat||JH b.toNat)):=by
        rw[cY,F,iy];simp
       have D:(HR b.toNat||JH b.toNat)=false->L.all (fun c=>HR c.toNat||JH c.toNat)=false:=fun h=>by grind
       cases z:HR b.toNat with
       |true=>simp only[eE,seval,↓eP,rP,u,d,e,r,OO,y,a,z];grind|false=>cases E:JH b.toNat with
        |true=>simp only[eE,seval,↓eP,rP,u,d,e,r,OO,y,a,f,z,E];grind|false=>
         simp only[eE,seval,↓eP,rP,u,d,e,r,OO,y,a,f,z,E];grind
      .have r:decide ((i:Int)<(L.length:Int))=false:=by grind
       rw[di (by omega)]at k;rw[k]at B;subst B;simp only[eE,seval,↓eP,d,e,r]
  .have q:decide (((c::l).length:Int)>64)=true:=by grind
   simp only[eE,seval,↓eP,rP,p,o,KH,m,q,bp j,bz]
def UG(l:List UInt8):Bool:=match l with|[]=>false|c::r=>HR c.toNat&&(c::r).all fun c=>HR c.toNat||JH c.toNat
theorem qd(a:∀(b:UInt8)h,call 296 [.int .u8 (b.toNat:Int)] h=some (.bool (HR b.toNat),h))(d:∀(b:UInt8)h,call 297 [.int .u8 (b.toNat:Int)] h=some (.bool (JH b.toNat),h))(G:s.data.toList.length<n:=by omega)(y:s.data.toList.length<1000:=by omega):AW prog call n 292 [.string s] h=some (.bool (UG s.data.toList),h):=by
 refine DO func292 rfl (by simp) ?_;have B:f292.results.toList=[.tmp 2]:=rfl;simp only[eE,↓reduceIte,Nat.reduceAdd,B];generalize k:s.data.toList=L at*;generalize v:UG L=A;refine WK.b (fun i w=>w.h=h/\w.T.a 0=.string s/\w.T.a 3=.int .i64 i/\(L.take i).all (fun c=>HR c.toNat||JH c.toNat)=true/\(0<i->∃c r,L=c::r/\HR c.toNat=true)) L.length (by omega) ?_ ?_
 .simp only[eE,↓reduceIte,reduceCtorEq,Nat.reduceLT];simp
 .rintro i⟨H,I⟩J⟨rfl,f,g,l,m⟩;simp only at f g;by_cases o:i<L.length
  .have j:decide ((i:Int)<(L.length:Int))=true:=by grind
   obtain⟨b,x⟩:∃b,L[i]?=some b:=⟨_,aa o⟩;have t:=aR (s:=s) (i:=i) (b:=b) (by grind);have C:IntKind.i64.wrap ((i:Int)+1)=((i+1:Nat):Int):=BR;have D:(L.take (i+1)).all (fun c=>HR c.toNat||JH c.toNat)=((L.take i).all (fun c=>HR c.toNat||JH c.toNat)&&(HR b.toNat||JH b.toNat)):=by
    rw[cY,x,iy];simp
   cases p:HR b.toNat with
   |true=>
    simp only[eE,↓reduceIte,Nat.reduceEqDiff,reduceCtorEq,↓eP,rP,f,g,KH,k,j,OO,t,a,p];refine⟨o,C,by grind,fun _=>?_⟩;by_cases e:i=0;.subst e;cases L with|nil=>grind|cons c r=>grind
    grind|false=>
    by_cases e:i=0
    .subst e;have u:(((0:Nat):Int)==0)=true:=rfl;have q:A=false:=by
      rw[<-v];cases L with|nil=>grind|cons c r=>simp at x;subst x;simp[UG,p]
     simp only[eE,↓reduceIte,Nat.reduceEqDiff,reduceCtorEq,↓eP,rP,Nat.reduceAdd,Nat.reduceLT,f,g,KH,k,j,OO,t,a,p,u,q]
    .have u:((i:Int)==0)=false:=by grind
     cases z:JH b.toNat with
     |true=>
      simp only[eE,seval,↓eP,rP,f,g,KH,k,j,OO,t,a,d,p,z,u];grind|false=>
      have q:A=false:=by
       rw[<-v];obtain⟨c,r,rfl,E⟩:=m (by omega);have:(c::r).all (fun c=>HR c.toNat||JH c.toNat)=false:=by grind
       show(HR c.toNat&&(c::r).all fun c=>HR c.toNat||JH c.toNat)=false;grind
      simp only[eE,seval,↓eP,rP,f,g,KH,k,j,OO,t,a,d,p,z,u,q]
  .have j:decide ((i:Int)<(L.length:Int))=false:=by grind
   rw[di (by omega)]at l;have q:A=decide ((L.length:Int)>0):=by rw[<-v];cases L with|nil=>rfl|cons c r=>
     obtain⟨K,M,F,E⟩:=m (by grind);cases F;show(HR c.toNat&&(c::r).all fun c=>HR c.toNat||JH c.toNat)=_;grind
   simp only[eE,seval,↓eP,f,g,KH,k,j,q]
def QM(K s:ByteArray)(i:Nat):Bool:=(K.data.toList[i]?==some 32)&&((K.data.toList[i+s.data.toList.length+1]?==some 32)&&(K.extract (i+1) (i+s.data.toList.length+1)==s))
def f9(K s:ByteArray):Bool:=decide ((List.range (K.data.toList.length-(s.data.toList.length+1))).findIdx (QM K s)<K.data.toList.length-(s.data.toList.length+1))
theorem qe{h:AA}{K:ByteArray}{lo hi:Nat}(h1:lo<=hi)(b:hi<=K.data.toList.length):H9 prog h 9 (.string K) (some (.int .i64 (lo:Int))) (some (.int .i64 (hi:Int))) none=some (.string (K.extract lo hi)):=by
 have a:K.size=K.data.toList.length:=by simp
 simp only[H9,fh,Option.isSome_none,aV,bi,FI,a];grind
theorem qg{K:ByteArray}(hK:K.data.toList.length<900)(hn:K.data.toList.length+s.data.toList.length<n)(S:s.data.toList.length<1000)(C:s.data.toList≠[])(hb:∀b∈s.data.toList,b≠32):AW prog call n 298 [.string K,.string s] h=some (.bool (f9 K s),h):=by
 refine DO func298 rfl (by simp) ?_;have hr:f298.results.toList=[.tmp 4]:=rfl;have T:=List.length_pos_iff.2 C;have w0:IntKind.i64.wrap ((s.data.toList.length:Int)+2)=((s.data.toList.length+2:Nat):Int):=BR;simp only[eE,↓reduceIte,Nat.reduceEqDiff,Nat.reduceAdd,hr,KH,w0];generalize y:s.data.toList=L at*;refine WK.b (fun i a=>a.h=h/\a.T.a 0=.string K/\a.T.a 1=.string s/\a.T.a 5=.int .i64 ((L.length+2:Nat):Int)/\a.T.a 6=.int .i64 i) L.length (by omega) ?_ ?_
 .simp only[eE,↓reduceIte,Nat.reduceEqDiff,reduceCtorEq];rfl
 .rintro i⟨T1,h1⟩hi⟨rfl,D,z,E,F⟩;simp only at D z E F;by_cases c:i<L.length
  .have G:decide ((i:Int)<(L.length:Int))=true:=by grind
   obtain⟨b,H⟩:∃b,L[i]?=some b:=⟨_,aa c⟩;have ib:=aR (s:=s) (i:=i) (b:=b) (by grind);have r:((b.toNat:Int)==32)=false:=by
    have hx:=hb b (aw H);simp only[ax,ne_eq];intro e;apply hx;have e2:b.toNat=32:=by omega
    exact UInt8.toNat_inj.1 e2
   have w5:IntKind.i64.wrap ((i:Int)+1)=((i+1:Nat):Int):=BR;simp only[eE,seval,↓eP,rP,D,z,E,F,KH,y,G,OO,ib,r];omega
  .have G:decide ((i:Int)<(L.length:Int))=false:=by grind
   simp only[eE,seval,↓eP,z,F,KH,y,G];unfold f9;rw[y];generalize hN:K.data.toList.length-(L.length+1)=N at*;have h0:(List.range N).findIdx (QM K s)<=N:=by have:=List.findIdx_le_length (xs:=List.range N) (p:=QM K s);grind
   generalize hq:(List.range N).findIdx (QM K s)=q at*;refine WK.b (fun i a=>a.h=h1/\a.T.a 0=.string K/\a.T.a 1=.string s/\a.T.a 5=.int .i64 ((L.length+2:Nat):Int)/\a.T.a 7=.int .i64 i) q (by omega) ?_ ?_;.simp only[eE,↓reduceIte,Nat.reduceEqDiff,reduceCtorEq,D,z,E];rfl
   .rintro j⟨T2,h2⟩hj⟨rfl,k,t,l,m⟩;simp only at k t l m;have u:IntKind.i64.wrap ((j:Int)+((L.length+2:Nat):Int))=((j+L.length+2:Nat):Int):=by rw[BR];omega
    have I:IntKind.i64.wrap (((j+L.length+2:Nat):Int)-1)=((j+L.length+1:Nat):Int):=by rw[BR];omega
    have U:IntKind.i64.wrap ((j:Int)+1)=((j+1:Nat):Int):=BR;by_cases h3:j<N
    .have o:decide (((j+L.length+2:Nat):Int)<=(K.data.toList.length:Int))=true:=by grind
     obtain⟨V,J⟩:∃b,K.data.toList[j]?=some b:=⟨_,aa (by omega)⟩;obtain⟨W,M⟩:∃b,K.data.toList[j+L.length+1]?=some b:=⟨_,aa (by omega)⟩;have A:=aR J;have O:=aR M;have X:=qe (h:=h2) (K:=K) (lo:=j+1) (hi:=j+L.length+1) (by omega) (by omega);have d:∀b:UInt8,((b.toNat:Int)==32)=(some b==some (32:UInt8)):=fun b=>by
      apply Bool.eq_iff_iff.2;simp only[ak,aj];constructor;.intro e;exact UInt8.toNat_inj.1 (by grind)
      simp_all
     have v:QM K s j=((some V==some (32:UInt8))&&((some W==some (32:UInt8))&&(K.extract (j+1) (j+L.length+1)==s))):=by unfold QM;grind
     have x:j<q->QM K s j=false:=fun P=>by have:=List.not_of_lt_findIdx (xs:=List.range N) (p:=QM K s) (i:=j) (by omega);grind
     have f:¬j<q->QM K s j=true:=fun P=>by
      have Y:j=q:=by omega
      have:=List.findIdx_getElem (xs:=List.range N) (p:=QM K s) (w:=by grind);grind
     have g:¬j<q->decide (q<N)=true:=by grind
     rw[v]at x f;cases B:(some V==some (32:UInt8))with
     |false=>
      have c:j<q:=by grind
      simp only[eE,seval,↓eP,rP,k,t,l,m,KH,u,o,OO,A,d,B];omega|true=>cases Q:(some W==some (32:UInt8))with
      |false=>
       have c:j<q:=by grind
       simp only[eE,seval,↓eP,rP,k,t,l,m,KH,u,I,o,OO,A,O,d,B,Q];omega|true=>cases Z:(K.extract (j+1) (j+L.length+1)==s)with
       |false=>
        have c:j<q:=by grind
        simp only[eE,seval,↓eP,rP,k,t,l,m,KH,u,I,U,o,OO,A,O,d,B,Q,X,Z];exact c|true=>
        have R:¬j<q:=by grind
        have l0:decide ((L.length:Int)>0)=true:=by grind
        simp only[eE,seval,↓eP,rP,k,t,l,m,KH,y,u,I,U,o,OO,A,O,d,B,Q,X,Z,g R,l0]
    .have o:decide (((j+L.length+2:Nat):Int)<=(K.data.toList.length:Int))=false:=by grind
     have g:decide (q<N)=false:=by grind
     simp only[eE,seval,↓eP,k,l,m,KH,u,o,g]
end
def NY:List UInt8:=32::K6.flatMap fun w=>w++[32]
def tX:ByteArray:=⟨NY.toArray⟩
theorem XG:tX.data.toList=NY:=rfl
def xS(i:Nat):List UInt8:=(NY.drop (i+1)).takeWhile (.!=32)
theorem qh:((List.range NY.length).all fun i=>!(NY[i]?==some 32)||decide (i+1=NY.length)||K6.contains (xS i))=true:=by decide+kernel
theorem qi:(K6.all fun w=>(List.range NY.length).any fun i=>(NY[i]?==some 32)&&((NY[i+w.length+1]?==some 32)&&((NY.drop (i+1)).take w.length==w)))=true:=by decide+kernel
theorem pA{a b:ByteArray}:(a==b)=true↔a.data.toList=b.data.toList:=by
 constructor;.intro h;rw[OA h]
 .intro h;have:a=b:=by
   cases a;cases b;simp_all
  subst this;exact OZ a
theorem qj{s:ByteArray}:NL s=true↔s.data.toList∈K6:=by
 unfold NL;rw[am];have a:=ZP.symm;rw[a,List.findIdx_lt_length];constructor;.rintro⟨w,b,h⟩;rw[pA]at h;rw[h];exact b
 .intro h;exact⟨_,h,by rw[pA];rfl⟩
theorem Kw{K:ByteArray}{lo n:Nat}:(K.extract lo (lo+n)).data.toList=(K.data.toList.drop lo).take n:=by simp
theorem qk{l m:List UInt8}{x:List UInt8}(h1:(m.take l.length)=l)(c:m[l.length]?=some 32)(f:∀b∈l,b≠32):m.takeWhile (.!=32)=l:=by
 have d:m=l++32::m.drop (l.length+1):=by
  have a:=(ae.1 c).1;have e:m=m.take l.length++m.drop l.length:=by simp
  rw[h1,cd a]at e;grind
 rw[d,List.takeWhile_append_of_pos (fun b g=>by grind)];simp
theorem qm{p:Nat->Bool}{M:Nat}:(List.range M).findIdx p<M↔∃i,i<M/\p i=true:=by have:=List.findIdx_lt_length (xs:=List.range M) (p:=p);grind
theorem Vn{s:ByteArray}(k:s.data.toList≠[])(m:∀b∈s.data.toList,b≠32):f9 tX s=NL s:=by
 apply Bool.eq_iff_iff.2;rw[qj];unfold f9;rw[am,XG];generalize d:s.data.toList=l at*;rw[qm];constructor
 .rintro⟨i,n,a⟩;unfold QM at a;rw[d,XG]at a;simp only[ah]at a;obtain⟨g,e,f⟩:=a;rw[pA,d,show i+l.length+1=(i+1)+l.length by omega,Kw,XG]at f;have j:xS i=l:=by
   unfold xS;refine qk (x:=[]) f ?_ m;grind
  have c:i<NY.length:=by omega
  have:=bm.1 qh i (List.mem_range.2 c);grind
 .intro h;have:=bm.1 qi l h;obtain⟨i,n,a⟩:=List.any_eq_true.1 this;simp only[ah]at a;obtain⟨g,e,f⟩:=a;have c:=(ae.1 (show NY[i+l.length+1]?=some 32 by simpa using e)).1;refine⟨i,by omega,?_⟩;unfold QM;rw[d,XG,g,e];simp only[fk];rw[pA,d,show i+l.length+1=(i+1)+l.length by omega,Kw,XG];grind
theorem qo:NY.length<900:=by decide
theorem qq{s:ByteArray}(h:UG s.data.toList=true):s.data.toList≠[]/\∀b∈s.data.toList,b≠32:=by cases a:s.data.toList with
 |nil=>rw[a]at h;cases h|cons c r=>
  rw[a]at h;refine⟨by simp,fun b d e=>?_⟩;have f:=(ey.1 (show(HR c.toNat&&(c::r).all fun c=>HR c.toNat||JH c.toNat)=true from h)).2;have:=bm.1 f b d;rw[e]at this;revert this;decide
theorem qr{s:ByteArray}:BG s=(decide (s.data.toList.length<=64)&&(UG s.data.toList&&!NL s)):=by unfold BG UG;grind
noncomputable def Ge:Value:=match(B9 f293 1)[1]? with
 |some o=>match o.op with
  |.call c=>match(c.args.toList.head?:Option Operand)with|some (Operand.const v)=>v|_=>undef
  |_=>undef
 |none=>undef
theorem qs:Ge=.string tX:=by kernel_rfl
section
variable {call:AY} {n:Nat} {h:AA} {s:ByteArray}
theorem qt(a:call 298 [Ge,.string s] h=some (.bool (NL s),h)):AW prog call n 293 [.string s] h=some (.bool (NL s),h):=by refine DO func293 rfl (by simp) ?_;have b:f293.results.toList=[.tmp 2]:=rfl;simp only[eE,seval,b];refine U3.a (v:=.bool (NL s)) (h':=h) a ?_;simp only[eE,seval]
theorem qu(d:s.data.toList.length<=64->call 292 [.string s] h=some (.bool (UG s.data.toList),h))(e:s.data.toList.length<=64->UG s.data.toList=true->call 293 [.string s] h=some (.bool (NL s),h)):AW prog call n 254 [.string s] h=some (.bool (BG s),h):=by
 refine DO func254 rfl (by simp) ?_;have g:f254.results.toList=[.tmp 2]:=rfl;rw[qr];by_cases b:s.data.toList.length<=64
 .have f:decide ((s.data.toList.length:Int)<=64)=true:=by grind
  have a:=d b;rw[bh b];cases i:UG s.data.toList with
  |false=>rw[i]at a;simp only[eE,seval,rP,g,KH,f,a,bz]|true=>
   have c:=e b i;rw[i]at a;simp only[eE,seval,rP,g,KH,f,a,c]
 .have f:decide ((s.data.toList.length:Int)<=64)=false:=by grind
  rw[bp b];simp only[eE,seval,g,KH,f,bz]
end
noncomputable def L0:AY:=SW [185,289,246,124,126,127,89,91,93,256,253,252,221,222,255,219,188,242,244,296,297,184] PN 12
noncomputable def L1:AY:=SW [245,224,251,125,162,129,96] L0 12
noncomputable def L2:AY:=SK [186,254] L1 2000
theorem qv:EN prog L0/\C_ L0:=Al dF
theorem qw:EN prog L1/\C_ L1:=Al qv
theorem Kr:EN prog L2/\C_ L2:=xV qw
theorem qx(b:UInt8)(h:AA):L1 242 [.int .u8 (b.toNat:Int)] h=some (.bool (HR b.toNat),h):=JO (HJ rfl rfl rfl rfl (nI pl b))
theorem qy(b:UInt8)(h:AA):L1 244 [.int .u8 (b.toNat:Int)] h=some (.bool (JH b.toNat),h):=JO (HJ rfl rfl rfl rfl (nI pm b))
theorem Vp(b:UInt8)(h:AA):L1 296 [.int .u8 (b.toNat:Int)] h=some (.bool (HR b.toNat),h):=JO (HJ rfl rfl rfl rfl (nI Tt b))
theorem qz(b:UInt8)(h:AA):L1 297 [.int .u8 (b.toNat:Int)] h=some (.bool (JH b.toNat),h):=JO (HJ rfl rfl rfl rfl (nI pt b))
theorem ZD(a kind:Int)(h:AA):L1 184 [iv a,iv kind] h=some (.bool (CX a kind),h):=JO (HJ rfl rfl rfl rfl ⟨_,px⟩)
theorem jH{h:AA}(a:h.c 0=EM)(s:ByteArray):L2 186 [.string s] h=some (.bool (BG s),h):=by refine kI rfl rfl rfl ⟨h,qc (fun b h=>IL (qx b h)) (fun b h=>IL (qy b h)) ?_ (by decide),fun _ _=>rfl⟩;rw[TK (n:=1999) rfl];refine qb ?_;rw[TK (n:=1998) rfl];refine pW ?_;rw[TK (n:=1997) rfl];exact pK a (by decide)
theorem qB(h:AA)(s:ByteArray):L2 254 [.string s] h=some (.bool (BG s),h):=by
 refine kI rfl rfl rfl ⟨h,qu (fun d=>?_) (fun d e=>?_),fun _ _=>rfl⟩
 .rw[TK (n:=1999) rfl];exact qd (fun b h=>IL (Vp b h)) (fun b h=>IL (qz b h))
 .obtain⟨a,c⟩:=qq e;rw[TK (n:=1999) rfl];refine qt ?_;rw[qs,TK (n:=1998) rfl,<-Vn a c];have:=qo;exact qg (by assumption) (by rw[XG];omega) (by omega) a c
noncomputable def vU:Array Oper:=B9 f122 3
noncomputable def GA:Array Oper:=B9 f122 4
def Tk:List (Bool×Bool×List Operand):=[DT,DT,DT,DT,AH [.tmp 31],AH [.tmp 31],AH [.tmp 31],AH [.tmp 31],AH [.tmp 31],AH [.tmp 31],BP [.tmp 31,.tmp 36],BP [.tmp 31,.tmp 36],AJ,AJ]
def V9:List (Bool×Bool×List Operand):=[AO,AO,AO,BP [.tmp 39],BP [.tmp 39],AJ,AJ,AJ,AJ,AJ,AJ,AJ,AJ,AJ,AJ,AJ,AJ,AJ,AJ,AJ,AJ,AJ,AJ,AJ,AJ,AJ,AJ,AJ,AJ,AJ,AJ,AJ,AJ,AJ,AJ,AJ,AJ,AJ,AJ,AJ,AJ,AJ,AJ,AJ,AJ,AJ,AJ,AJ,AJ]
theorem Su:CA vU=Tk:=by kernel_rfl
theorem Nt:CA GA=V9:=by kernel_rfl
theorem OK{T:Tr}{d t b:Nat}{v:Value}(a:t<b)(c:b<=d):(T.c (some d) v).a t=T.a t:=by rw[Tr.b,ad];grind
theorem qG{T:Tr}{d t b:Nat}{v:Value}(a:b<=d)(c:t<b):(T.c (some d) v).a t=T.a t:=by rw[Tr.b,ad];grind
section
variable {call:AY} {n start a b:Nat} {T:Tr} {h:AA} {k:DH} {x:AF} {nm en nu:Bool} {le mo:Int} {ga0 gb0:Bool}
 (hsn:C_ call) (t8:T.a 8=qP a 0) (t9:T.a 9=qP b 0) (ga:h.c a=.row [.int .i64 x.a,.string x.c,.int .i64 x.d,.int .i64 x.n,.int .i64 x.b] 125 ga0 false)
 (gb:h.c b=.row [.bool nm,.bool en,.bool nu,.int .i64 le,.int .i64 mo] 243 gb0 false) (hb:(b<start)=True)
include hsn t8 t9 ga gb hb
theorem Bp(j:∀l,l.c 0=h.c 0->call 186 [.string x.c] l=some (.bool (BG x.c),l))(i:∀m,m.a 54=.bool ((BG x.c==nm)&&(nm||x.c==⟨#[]⟩))->(∀t:Nat,t<39->m.a t=T.a t)->BV prog call n GA start (V9.drop 16) (GA.toList.drop 16) ⟨m,h⟩ k):BV prog call n GA start (V9.drop 0) (GA.toList.drop 0) ⟨T,h⟩ k:=by
 have c:(GA[6]?).bind (·.dst)=some 45:=by kernel_rfl
 have d:(GA[9]?).bind (·.dst)=some 48:=by kernel_rfl
 have o:(GA[15]?).bind (·.dst)=some 54:=by kernel_rfl
 have p:(GA[19]?).bind (·.dst)=some 58:=by kernel_rfl
 have q:(GA[22]?).bind (·.dst)=some 61:=by kernel_rfl
 have r:(GA[29]?).bind (·.dst)=some 68:=by kernel_rfl
 have s:(GA[33]?).bind (·.dst)=some 72:=by kernel_rfl
 have u:(GA[36]?).bind (·.dst)=some 75:=by kernel_rfl
 have v:(GA[41]?).bind (·.dst)=some 80:=by kernel_rfl
 have g:=fun f=>j (h.f f) rfl;refine AG hsn 0 (some 39) (.fieldAddr 125 (.tmp 8) 1) none ?_;simp only[rG,seval,AB,AD,AC,PY,t8];refine AG hsn 1 (some 40) (.load 9 (.tmp 39)) none ?_;simp only[rG,seval,AB,AC,HS,ZL,N6,dd,ga];refine AG hsn 2 (some 41) (.call {callee:=.value (.func 186),args:=#[.tmp 40],argTypes:=#[9]}) none ?_;simp only[rG,seval,AB,AC,BL,g];refine AG hsn 3 (some 42) (.fieldAddr 243 (.tmp 9) 0) none ?_;simp only[rG,seval,AB,AD,AC,mZ,t9];refine AG hsn 4 (some 43) (.load 4 (.tmp 42)) none ?_;simp only[rG,seval,AB,AC,F4,NC,N6,ee,forall_const,gb,hb];refine AG hsn 5 (some 44) (.binOp .eql 4 (.tmp 41) (.tmp 43) 4) none ?_;simp only[rG,seval,AB,AD,AC,eJ];cases w:(BG x.c==nm)
 .skip;refine AG hsn 6 (some 45) (.move (.tmp 44)) none ?_;simp only[rG,seval,AB,AD,AC];refine AG hsn 7 (some 46) (.fieldAddr 243 (.tmp 9) 0) (some (6,true)) ?_;simp only[rG,seval,c];refine AG hsn 8 (some 47) (.load 4 (.tmp 46)) (some (6,true)) ?_;simp only[rG,seval,c];refine AG hsn 9 (some 48) (.move (.tmp 47)) (some (6,true)) ?_;simp only[rG,seval,c];refine AG hsn 10 (some 49) (.fieldAddr 125 (.tmp 8) 1) (some (9,false)) ?_;simp only[rG,seval,AB,AD,AC,PY,d,t8];refine AG hsn 11 (some 50) (.load 9 (.tmp 49)) (some (9,false)) ?_;simp only[rG,seval,AB,AC,dd,d];refine AG hsn 12 (some 51) (.binOp .eql 9 (.tmp 50) (.const (Value.string {data:=#[]})) 9) (some (9,false)) ?_;simp only[rG,seval,AB,AD,AC,d];refine AG hsn 13 (some 52) (.pick (.tmp 48) (.const (Value.bool true)) (.tmp 51)) (some (6,true)) ?_;simp only[rG,seval,c];refine AG hsn 14 (some 53) (.pick (.tmp 45) (.tmp 52) (.const (Value.bool false))) none ?_;simp only[rG,seval,AB,AD,AC];refine AG hsn 15 (some 54) (.move (.tmp 53)) none ?_;simp only[rG,seval,AB,AD,AC];refine i _ ?_ ?_;.simp only[Tr.b,ai];grind
  .intro t e;simp only[OK e,Nat.reduceLeDiff]
 .skip;refine AG hsn 6 (some 45) (.move (.tmp 44)) none ?_;simp only[rG,seval,AB,AD,AC];refine AG hsn 7 (some 46) (.fieldAddr 243 (.tmp 9) 0) (some (6,true)) ?_;simp only[rG,seval,AB,AD,AC,mZ,c,t9];refine AG hsn 8 (some 47) (.load 4 (.tmp 46)) (some (6,true)) ?_;simp only[rG,seval,AB,AC,F4,NC,N6,ee,dd,c,gb,hb];refine AG hsn 9 (some 48) (.move (.tmp 47)) (some (6,true)) ?_;simp only[rG,seval,AB,AD,AC,c];cases nm
  .skip;refine AG hsn 10 (some 49) (.fieldAddr 125 (.tmp 8) 1) (some (9,false)) ?_;simp only[rG,seval,AB,AD,AC,PY,d,t8];refine AG hsn 11 (some 50) (.load 9 (.tmp 49)) (some (9,false)) ?_;simp only[rG,seval,AB,AC,HS,ZL,N6,dd,d,ga];refine AG hsn 12 (some 51) (.binOp .eql 9 (.tmp 50) (.const (Value.string {data:=#[]})) 9) (some (9,false)) ?_;simp only[rG,seval,AB,AD,AC,X8,d];cases y:(x.c==⟨#[]⟩)
   .skip;refine AG hsn 13 (some 52) (.pick (.tmp 48) (.const (Value.bool true)) (.tmp 51)) (some (6,true)) ?_;simp only[rG,seval,AB,AD,AC,c];refine AG hsn 14 (some 53) (.pick (.tmp 45) (.tmp 52) (.const (Value.bool false))) none ?_;simp only[rG,seval,AB,AD,AC];refine AG hsn 15 (some 54) (.move (.tmp 53)) none ?_;simp only[rG,seval,AB,AD,AC];refine i _ ?_ ?_;.simp only[Tr.b,ai];grind
    .intro t e;simp only[OK e,Nat.reduceLeDiff]
   .skip;refine AG hsn 13 (some 52) (.pick (.tmp 48) (.const (Value.bool true)) (.tmp 51)) (some (6,true)) ?_;simp only[rG,seval,AB,AD,AC,c];refine AG hsn 14 (some 53) (.pick (.tmp 45) (.tmp 52) (.const (Value.bool false))) none ?_;simp only[rG,seval,AB,AD,AC];refine AG hsn 15 (some 54) (.move (.tmp 53)) none ?_;simp only[rG,seval,AB,AD,AC];refine i _ ?_ ?_;.simp only[Tr.b,ai];grind
    .intro t e;simp only[OK e,Nat.reduceLeDiff]
  .skip;refine AG hsn 10 (some 49) (.fieldAddr 125 (.tmp 8) 1) (some (9,false)) ?_;simp only[rG,seval,d];refine AG hsn 11 (some 50) (.load 9 (.tmp 49)) (some (9,false)) ?_;simp only[rG,seval,d];refine AG hsn 12 (some 51) (.binOp .eql 9 (.tmp 50) (.const (Value.string {data:=#[]})) 9) (some (9,false)) ?_;simp only[rG,seval,d];refine AG hsn 13 (some 52) (.pick (.tmp 48) (.const (Value.bool true)) (.tmp 51)) (some (6,true)) ?_;simp only[rG,seval,AB,AD,AC,c];refine AG hsn 14 (some 53) (.pick (.tmp 45) (.tmp 52) (.const (Value.bool false))) none ?_;simp only[rG,seval,AB,AD,AC];refine AG hsn 15 (some 54) (.move (.tmp 53)) none ?_;simp only[rG,seval,AB,AD,AC];refine i _ ?_ ?_;.simp only[Tr.b,ai];grind
   .intro t e;simp only[OK e,Nat.reduceLeDiff]
theorem Qf{c:Bool}(f:T.a 54=.bool c)(j:∀l,l.a 68=.bool (c&&(x.d==0||en&&x.d==1))->(∀t:Nat,t<55->l.a t=T.a t)->BV prog call n GA start (V9.drop 30) (GA.toList.drop 30) ⟨l,h⟩ k):BV prog call n GA start (V9.drop 16) (GA.toList.drop 16) ⟨T,h⟩ k:=by
 have r:(GA[6]?).bind (·.dst)=some 45:=by kernel_rfl
 have s:(GA[9]?).bind (·.dst)=some 48:=by kernel_rfl
 have d:(GA[15]?).bind (·.dst)=some 54:=by kernel_rfl
 have e:(GA[19]?).bind (·.dst)=some 58:=by kernel_rfl
 have g:(GA[22]?).bind (·.dst)=some 61:=by kernel_rfl
 have m:(GA[29]?).bind (·.dst)=some 68:=by kernel_rfl
 have o:(GA[33]?).bind (·.dst)=some 72:=by kernel_rfl
 have p:(GA[36]?).bind (·.dst)=some 75:=by kernel_rfl
 have q:(GA[41]?).bind (·.dst)=some 80:=by kernel_rfl
 cases c
 .skip;refine AG hsn 16 (some 55) (.fieldAddr 125 (.tmp 8) 2) (some (15,true)) ?_;simp only[rG,seval,d,f];refine AG hsn 17 (some 56) (.load 3 (.tmp 55)) (some (15,true)) ?_;simp only[rG,seval,d,f];refine AG hsn 18 (some 57) (.binOp .eql 3 (.tmp 56) (.const (Value.int IntKind.i64 0)) 3) (some (15,true)) ?_;simp only[rG,seval,d,f];refine AG hsn 19 (some 58) (.move (.tmp 57)) (some (15,true)) ?_;simp only[rG,seval,d,f];refine AG hsn 20 (some 59) (.fieldAddr 243 (.tmp 9) 1) (some (19,false)) ?_;simp only[rG,seval,AB,AD,AC,i5,e,t9];refine AG hsn 21 (some 60) (.load 4 (.tmp 59)) (some (19,false)) ?_;simp only[rG,seval,AB,AC,dd,e];refine AG hsn 22 (some 61) (.move (.tmp 60)) (some (19,false)) ?_;simp only[rG,seval,AB,AD,AC,e];refine AG hsn 23 (some 62) (.fieldAddr 125 (.tmp 8) 2) (some (22,true)) ?_;simp only[rG,seval,AB,AD,AC,ZO,g,t8];refine AG hsn 24 (some 63) (.load 3 (.tmp 62)) (some (22,true)) ?_;simp only[rG,seval,AB,AC,dd,g];refine AG hsn 25 (some 64) (.binOp .eql 3 (.tmp 63) (.const (Value.int IntKind.i64 1)) 3) (some (22,true)) ?_;simp only[rG,seval,AB,AD,AC,g];refine AG hsn 26 (some 65) (.pick (.tmp 61) (.tmp 64) (.const (Value.bool false))) (some (19,false)) ?_;simp only[rG,seval,AB,AD,AC,e];refine AG hsn 27 (some 66) (.pick (.tmp 58) (.const (Value.bool true)) (.tmp 65)) (some (15,true)) ?_;simp only[rG,seval,d,f];refine AG hsn 28 (some 67) (.pick (.tmp 54) (.tmp 66) (.const (Value.bool false))) none ?_;simp only[rG,seval,AB,AD,AC,f];refine AG hsn 29 (some 68) (.move (.tmp 67)) none ?_;simp only[rG,seval,AB,AD,AC];refine j _ ?_ ?_;.simp only[Tr.b,ai];simp
  .intro t i;simp only[OK i,Nat.reduceLeDiff]
 .skip;refine AG hsn 16 (some 55) (.fieldAddr 125 (.tmp 8) 2) (some (15,true)) ?_;simp only[rG,seval,AB,AD,AC,ZO,d,t8,f];refine AG hsn 17 (some 56) (.load 3 (.tmp 55)) (some (15,true)) ?_;simp only[rG,seval,AB,AC,AM,bJ,N6,dd,d,ga,f];refine AG hsn 18 (some 57) (.binOp .eql 3 (.tmp 56) (.const (Value.int IntKind.i64 0)) 3) (some (15,true)) ?_;simp only[rG,seval,AB,AD,AC,V6,d,f];cases u:(x.d==0)
  .skip;refine AG hsn 19 (some 58) (.move (.tmp 57)) (some (15,true)) ?_;simp only[rG,seval,AB,AD,AC,d,f];refine AG hsn 20 (some 59) (.fieldAddr 243 (.tmp 9) 1) (some (19,false)) ?_;simp only[rG,seval,AB,AD,AC,i5,e,t9];refine AG hsn 21 (some 60) (.load 4 (.tmp 59)) (some (19,false)) ?_;simp only[rG,seval,AB,AC,F4,ZL,N6,ee,dd,e,gb,hb];refine AG hsn 22 (some 61) (.move (.tmp 60)) (some (19,false)) ?_;simp only[rG,seval,AB,AD,AC,e];cases en
   .skip;refine AG hsn 23 (some 62) (.fieldAddr 125 (.tmp 8) 2) (some (22,true)) ?_;simp only[rG,seval,g];refine AG hsn 24 (some 63) (.load 3 (.tmp 62)) (some (22,true)) ?_;simp only[rG,seval,g];refine AG hsn 25 (some 64) (.binOp .eql 3 (.tmp 63) (.const (Value.int IntKind.i64 1)) 3) (some (22,true)) ?_;simp only[rG,seval,g];refine AG hsn 26 (some 65) (.pick (.tmp 61) (.tmp 64) (.const (Value.bool false))) (some (19,false)) ?_;simp only[rG,seval,AB,AD,AC,e];refine AG hsn 27 (some 66) (.pick (.tmp 58) (.const (Value.bool true)) (.tmp 65)) (some (15,true)) ?_;simp only[rG,seval,AB,AD,AC,d,f];refine AG hsn 28 (some 67) (.pick (.tmp 54) (.tmp 66) (.const (Value.bool false))) none ?_;simp only[rG,seval,AB,AD,AC,f];refine AG hsn 29 (some 68) (.move (.tmp 67)) none ?_;simp only[rG,seval,AB,AD,AC];refine j _ ?_ ?_;.simp only[Tr.b,ai];grind
    .intro t i;simp only[OK i,Nat.reduceLeDiff]
   .skip;refine AG hsn 23 (some 62) (.fieldAddr 125 (.tmp 8) 2) (some (22,true)) ?_;simp only[rG,seval,AB,AD,AC,ZO,g,t8];refine AG hsn 24 (some 63) (.load 3 (.tmp 62)) (some (22,true)) ?_;simp only[rG,seval,AB,AC,AM,bJ,N6,dd,g,ga];refine AG hsn 25 (some 64) (.binOp .eql 3 (.tmp 63) (.const (Value.int IntKind.i64 1)) 3) (some (22,true)) ?_;simp only[rG,seval,AB,AD,AC,V6,g];cases v:(x.d==1)
    .skip;refine AG hsn 26 (some 65) (.pick (.tmp 61) (.tmp 64) (.const (Value.bool false))) (some (19,false)) ?_;simp only[rG,seval,AB,AD,AC,e];refine AG hsn 27 (some 66) (.pick (.tmp 58) (.const (Value.bool true)) (.tmp 65)) (some (15,true)) ?_;simp only[rG,seval,AB,AD,AC,d,f];refine AG hsn 28 (some 67) (.pick (.tmp 54) (.tmp 66) (.const (Value.bool false))) none ?_;simp only[rG,seval,AB,AD,AC,f];refine AG hsn 29 (some 68) (.move (.tmp 67)) none ?_;simp only[rG,seval,AB,AD,AC];refine j _ ?_ ?_;.simp only[Tr.b,ai];grind
     .intro t i;simp only[OK i,Nat.reduceLeDiff]
    .skip;refine AG hsn 26 (some 65) (.pick (.tmp 61) (.tmp 64) (.const (Value.bool false))) (some (19,false)) ?_;simp only[rG,seval,AB,AD,AC,e];refine AG hsn 27 (some 66) (.pick (.tmp 58) (.const (Value.bool true)) (.tmp 65)) (some (15,true)) ?_;simp only[rG,seval,AB,AD,AC,d,f];refine AG hsn 28 (some 67) (.pick (.tmp 54) (.tmp 66) (.const (Value.bool false))) none ?_;simp only[rG,seval,AB,AD,AC,f];refine AG hsn 29 (some 68) (.move (.tmp 67)) none ?_;simp only[rG,seval,AB,AD,AC];refine j _ ?_ ?_;.simp only[Tr.b,ai];grind
     .intro t i;simp only[OK i,Nat.reduceLeDiff]
  .skip;refine AG hsn 19 (some 58) (.move (.tmp 57)) (some (15,true)) ?_;simp only[rG,seval,AB,AD,AC,d,f];refine AG hsn 20 (some 59) (.fieldAddr 243 (.tmp 9) 1) (some (19,false)) ?_;simp only[rG,seval,e];refine AG hsn 21 (some 60) (.load 4 (.tmp 59)) (some (19,false)) ?_;simp only[rG,seval,e];refine AG hsn 22 (some 61) (.move (.tmp 60)) (some (19,false)) ?_;simp only[rG,seval,e];refine AG hsn 23 (some 62) (.fieldAddr 125 (.tmp 8) 2) (some (22,true)) ?_;simp only[rG,seval,AB,AD,AC,ZO,g,t8];refine AG hsn 24 (some 63) (.load 3 (.tmp 62)) (some (22,true)) ?_;simp only[rG,seval,AB,AC,dd,g];refine AG hsn 25 (some 64) (.binOp .eql 3 (.tmp 63) (.const (Value.int IntKind.i64 1)) 3) (some (22,true)) ?_;simp only[rG,seval,AB,AD,AC,g];refine AG hsn 26 (some 65) (.pick (.tmp 61) (.tmp 64) (.const (Value.bool false))) (some (19,false)) ?_;simp only[rG,seval,e];refine AG hsn 27 (some 66) (.pick (.tmp 58) (.const (Value.bool true)) (.tmp 65)) (some (15,true)) ?_;simp only[rG,seval,AB,AD,AC,d,f];refine AG hsn 28 (some 67) (.pick (.tmp 54) (.tmp 66) (.const (Value.bool false))) none ?_;simp only[rG,seval,AB,AD,AC,f];refine AG hsn 29 (some 68) (.move (.tmp 67)) none ?_;simp only[rG,seval,AB,AD,AC];refine j _ ?_ ?_;.simp only[Tr.b,ai];grind
   .intro t i;simp only[OK i,Nat.reduceLeDiff]
theorem Px{c:Bool}(g:T.a 68=.bool c)(l:∀m,m.a 10=.bool (c&&(x.n==0||nu&&decide (x.n>0)&&decide (x.n<=1073741824)))->(∀t:Nat,t<10->m.a t=T.a t)->BV prog call n GA start (V9.drop 49) (GA.toList.drop 49) ⟨m,h⟩ k):BV prog call n GA start (V9.drop 30) (GA.toList.drop 30) ⟨T,h⟩ k:=by
 have r:(GA[6]?).bind (·.dst)=some 45:=by kernel_rfl
 have s:(GA[9]?).bind (·.dst)=some 48:=by kernel_rfl
 have o:(GA[15]?).bind (·.dst)=some 54:=by kernel_rfl
 have p:(GA[19]?).bind (·.dst)=some 58:=by kernel_rfl
 have q:(GA[22]?).bind (·.dst)=some 61:=by kernel_rfl
 have e:(GA[29]?).bind (·.dst)=some 68:=by kernel_rfl
 have d:(GA[33]?).bind (·.dst)=some 72:=by kernel_rfl
 have i:(GA[36]?).bind (·.dst)=some 75:=by kernel_rfl
 have f:(GA[41]?).bind (·.dst)=some 80:=by kernel_rfl
 cases c
 .skip;refine AG hsn 30 (some 69) (.fieldAddr 125 (.tmp 8) 3) (some (29,true)) ?_;simp only[rG,seval,e,g];refine AG hsn 31 (some 70) (.load 3 (.tmp 69)) (some (29,true)) ?_;simp only[rG,seval,e,g];refine AG hsn 32 (some 71) (.binOp .eql 3 (.tmp 70) (.const (Value.int IntKind.i64 0)) 3) (some (29,true)) ?_;simp only[rG,seval,e,g];refine AG hsn 33 (some 72) (.move (.tmp 71)) (some (29,true)) ?_;simp only[rG,seval,e,g];refine AG hsn 34 (some 73) (.fieldAddr 243 (.tmp 9) 2) (some (33,false)) ?_;simp only[rG,seval,AB,AD,AC,j9,d,t9];refine AG hsn 35 (some 74) (.load 4 (.tmp 73)) (some (33,false)) ?_;simp only[rG,seval,AB,AC,dd,d];refine AG hsn 36 (some 75) (.move (.tmp 74)) (some (33,false)) ?_;simp only[rG,seval,AB,AD,AC,d];refine AG hsn 37 (some 76) (.fieldAddr 125 (.tmp 8) 3) (some (36,true)) ?_;simp only[rG,seval,AB,AD,AC,FY,i,t8];refine AG hsn 38 (some 77) (.load 3 (.tmp 76)) (some (36,true)) ?_;simp only[rG,seval,AB,AC,dd,i];refine AG hsn 39 (some 78) (.binOp .gtr 3 (.tmp 77) (.const (Value.int IntKind.i64 0)) 3) (some (36,true)) ?_;simp only[rG,seval,AB,AD,AC,i];refine AG hsn 40 (some 79) (.pick (.tmp 75) (.tmp 78) (.const (Value.bool false))) (some (33,false)) ?_;simp only[rG,seval,AB,AD,AC,d];refine AG hsn 41 (some 80) (.move (.tmp 79)) (some (33,false)) ?_;simp only[rG,seval,AB,AD,AC,d];refine AG hsn 42 (some 81) (.fieldAddr 125 (.tmp 8) 3) (some (41,true)) ?_;simp only[rG,seval,AB,AD,AC,FY,f,t8];refine AG hsn 43 (some 82) (.load 3 (.tmp 81)) (some (41,true)) ?_;simp only[rG,seval,AB,AC,dd,f];refine AG hsn 44 (some 83) (.binOp .leq 3 (.tmp 82) (.const (Value.int IntKind.i64 1073741824)) 3) (some (41,true)) ?_;simp only[rG,seval,AB,AD,AC,f];refine AG hsn 45 (some 84) (.pick (.tmp 80) (.tmp 83) (.const (Value.bool false))) (some (33,false)) ?_;simp only[rG,seval,AB,AD,AC,d];refine AG hsn 46 (some 85) (.pick (.tmp 72) (.const (Value.bool true)) (.tmp 84)) (some (29,true)) ?_;simp only[rG,seval,e,g];refine AG hsn 47 (some 86) (.pick (.tmp 68) (.tmp 85) (.const (Value.bool false))) none ?_;simp only[rG,seval,AB,AD,AC,g];refine AG hsn 48 (some 10) (.assign (.tmp 86)) none ?_;simp only[rG,seval,AB,AD,AC];refine l _ ?_ ?_;.simp only[Tr.b,ai];simp
  .intro t j;simp only[OK j,Nat.reduceLeDiff]
 .skip;refine AG hsn 30 (some 69) (.fieldAddr 125 (.tmp 8) 3) (some (29,true)) ?_;simp only[rG,seval,AB,AD,AC,FY,e,t8,g];refine AG hsn 31 (some 70) (.load 3 (.tmp 69)) (some (29,true)) ?_;simp only[rG,seval,AB,AC,AM,W9,N6,dd,e,ga,g];refine AG hsn 32 (some 71) (.binOp .eql 3 (.tmp 70) (.const (Value.int IntKind.i64 0)) 3) (some (29,true)) ?_;simp only[rG,seval,AB,AD,AC,V6,e,g];cases u:(x.n==0)
  .skip;refine AG hsn 33 (some 72) (.move (.tmp 71)) (some (29,true)) ?_;simp only[rG,seval,AB,AD,AC,e,g];refine AG hsn 34 (some 73) (.fieldAddr 243 (.tmp 9) 2) (some (33,false)) ?_;simp only[rG,seval,AB,AD,AC,j9,d,t9];refine AG hsn 35 (some 74) (.load 4 (.tmp 73)) (some (33,false)) ?_;simp only[rG,seval,AB,AC,F4,bJ,N6,ee,dd,d,gb,hb];refine AG hsn 36 (some 75) (.move (.tmp 74)) (some (33,false)) ?_;simp only[rG,seval,AB,AD,AC,d];cases nu
   .skip;refine AG hsn 37 (some 76) (.fieldAddr 125 (.tmp 8) 3) (some (36,true)) ?_;simp only[rG,seval,i];refine AG hsn 38 (some 77) (.load 3 (.tmp 76)) (some (36,true)) ?_;simp only[rG,seval,i];refine AG hsn 39 (some 78) (.binOp .gtr 3 (.tmp 77) (.const (Value.int IntKind.i64 0)) 3) (some (36,true)) ?_;simp only[rG,seval,i];refine AG hsn 40 (some 79) (.pick (.tmp 75) (.tmp 78) (.const (Value.bool false))) (some (33,false)) ?_;simp only[rG,seval,AB,AD,AC,d];refine AG hsn 41 (some 80) (.move (.tmp 79)) (some (33,false)) ?_;simp only[rG,seval,AB,AD,AC,d];refine AG hsn 42 (some 81) (.fieldAddr 125 (.tmp 8) 3) (some (41,true)) ?_;simp only[rG,seval,f];refine AG hsn 43 (some 82) (.load 3 (.tmp 81)) (some (41,true)) ?_;simp only[rG,seval,f];refine AG hsn 44 (some 83) (.binOp .leq 3 (.tmp 82) (.const (Value.int IntKind.i64 1073741824)) 3) (some (41,true)) ?_;simp only[rG,seval,f];refine AG hsn 45 (some 84) (.pick (.tmp 80) (.tmp 83) (.const (Value.bool false))) (some (33,false)) ?_;simp only[rG,seval,AB,AD,AC,d];refine AG hsn 46 (some 85) (.pick (.tmp 72) (.const (Value.bool true)) (.tmp 84)) (some (29,true)) ?_;simp only[rG,seval,AB,AD,AC,e,g];refine AG hsn 47 (some 86) (.pick (.tmp 68) (.tmp 85) (.const (Value.bool false))) none ?_;simp only[rG,seval,AB,AD,AC,g];refine AG hsn 48 (some 10) (.assign (.tmp 86)) none ?_;simp only[rG,seval,AB,AD,AC];refine l _ ?_ ?_;.simp only[Tr.b,ai];grind
    .intro t j;simp only[OK j,Nat.reduceLeDiff]
   .skip;refine AG hsn 37 (some 76) (.fieldAddr 125 (.tmp 8) 3) (some (36,true)) ?_;simp only[rG,seval,AB,AD,AC,FY,i,t8];refine AG hsn 38 (some 77) (.load 3 (.tmp 76)) (some (36,true)) ?_;simp only[rG,seval,AB,AC,AM,W9,N6,dd,i,ga];refine AG hsn 39 (some 78) (.binOp .gtr 3 (.tmp 77) (.const (Value.int IntKind.i64 0)) 3) (some (36,true)) ?_;simp only[rG,seval,AB,AD,AC,a_,i];cases v:decide (x.n>0)
    .skip;refine AG hsn 40 (some 79) (.pick (.tmp 75) (.tmp 78) (.const (Value.bool false))) (some (33,false)) ?_;simp only[rG,seval,AB,AD,AC,d];refine AG hsn 41 (some 80) (.move (.tmp 79)) (some (33,false)) ?_;simp only[rG,seval,AB,AD,AC,d];refine AG hsn 42 (some 81) (.fieldAddr 125 (.tmp 8) 3) (some (41,true)) ?_;simp only[rG,seval,f];refine AG hsn 43 (some 82) (.load 3 (.tmp 81)) (some (41,true)) ?_;simp only[rG,seval,f];refine AG hsn 44 (some 83) (.binOp .leq 3 (.tmp 82) (.const (Value.int IntKind.i64 1073741824)) 3) (some (41,true)) ?_;simp only[rG,seval,f];refine AG hsn 45 (some 84) (.pick (.tmp 80) (.tmp 83) (.const (Value.bool false))) (some (33,false)) ?_;simp only[rG,seval,AB,AD,AC,d];refine AG hsn 46 (some 85) (.pick (.tmp 72) (.const (Value.bool true)) (.tmp 84)) (some (29,true)) ?_;simp only[rG,seval,AB,AD,AC,e,g];refine AG hsn 47 (some 86) (.pick (.tmp 68) (.tmp 85) (.const (Value.bool false))) none ?_;simp only[rG,seval,AB,AD,AC,g];refine AG hsn 48 (some 10) (.assign (.tmp 86)) none ?_;simp only[rG,seval,AB,AD,AC];refine l _ ?_ ?_;.simp only[Tr.b,ai];grind
     .intro t j;simp only[OK j,Nat.reduceLeDiff]
    .skip;refine AG hsn 40 (some 79) (.pick (.tmp 75) (.tmp 78) (.const (Value.bool false))) (some (33,false)) ?_;simp only[rG,seval,AB,AD,AC,d];refine AG hsn 41 (some 80) (.move (.tmp 79)) (some (33,false)) ?_;simp only[rG,seval,AB,AD,AC,d];refine AG hsn 42 (some 81) (.fieldAddr 125 (.tmp 8) 3) (some (41,true)) ?_;simp only[rG,seval,AB,AD,AC,FY,f,t8];refine AG hsn 43 (some 82) (.load 3 (.tmp 81)) (some (41,true)) ?_;simp only[rG,seval,AB,AC,AM,W9,N6,dd,f,ga];refine AG hsn 44 (some 83) (.binOp .leq 3 (.tmp 82) (.const (Value.int IntKind.i64 1073741824)) 3) (some (41,true)) ?_;simp only[rG,seval,AB,AD,AC,dZ,f];cases w:decide (x.n<=1073741824)
     .skip;refine AG hsn 45 (some 84) (.pick (.tmp 80) (.tmp 83) (.const (Value.bool false))) (some (33,false)) ?_;simp only[rG,seval,AB,AD,AC,d];refine AG hsn 46 (some 85) (.pick (.tmp 72) (.const (Value.bool true)) (.tmp 84)) (some (29,true)) ?_;simp only[rG,seval,AB,AD,AC,e,g];refine AG hsn 47 (some 86) (.pick (.tmp 68) (.tmp 85) (.const (Value.bool false))) none ?_;simp only[rG,seval,AB,AD,AC,g];refine AG hsn 48 (some 10) (.assign (.tmp 86)) none ?_;simp only[rG,seval,AB,AD,AC];refine l _ ?_ ?_;.simp only[Tr.b,ai];grind
      .intro t j;simp only[OK j,Nat.reduceLeDiff]
     .skip;refine AG hsn 45 (some 84) (.pick (.tmp 80) (.tmp 83) (.const (Value.bool false))) (some (33,false)) ?_;simp only[rG,seval,AB,AD,AC,d];refine AG hsn 46 (some 85) (.pick (.tmp 72) (.const (Value.bool true)) (.tmp 84)) (some (29,true)) ?_;simp only[rG,seval,AB,AD,AC,e,g];refine AG hsn 47 (some 86) (.pick (.tmp 68) (.tmp 85) (.const (Value.bool false))) none ?_;simp only[rG,seval,AB,AD,AC,g];refine AG hsn 48 (some 10) (.assign (.tmp 86)) none ?_;simp only[rG,seval,AB,AD,AC];refine l _ ?_ ?_;.simp only[Tr.b,ai];grind
      .intro t j;simp only[OK j,Nat.reduceLeDiff]
  .skip;refine AG hsn 33 (some 72) (.move (.tmp 71)) (some (29,true)) ?_;simp only[rG,seval,AB,AD,AC,e,g];refine AG hsn 34 (some 73) (.fieldAddr 243 (.tmp 9) 2) (some (33,false)) ?_;simp only[rG,seval,d];refine AG hsn 35 (some 74) (.load 4 (.tmp 73)) (some (33,false)) ?_;simp only[rG,seval,d];refine AG hsn 36 (some 75) (.move (.tmp 74)) (some (33,false)) ?_;simp only[rG,seval,d];refine AG hsn 37 (some 76) (.fieldAddr 125 (.tmp 8) 3) (some (36,true)) ?_;simp only[rG,seval,AB,AD,AC,FY,i,t8];refine AG hsn 38 (some 77) (.load 3 (.tmp 76)) (some (36,true)) ?_;simp only[rG,seval,AB,AC,dd,i];refine AG hsn 39 (some 78) (.binOp .gtr 3 (.tmp 77) (.const (Value.int IntKind.i64 0)) 3) (some (36,true)) ?_;simp only[rG,seval,AB,AD,AC,i];refine AG hsn 40 (some 79) (.pick (.tmp 75) (.tmp 78) (.const (Value.bool false))) (some (33,false)) ?_;simp only[rG,seval,d];refine AG hsn 41 (some 80) (.move (.tmp 79)) (some (33,false)) ?_;simp only[rG,seval,d];refine AG hsn 42 (some 81) (.fieldAddr 125 (.tmp 8) 3) (some (41,true)) ?_;simp only[rG,seval,AB,AD,AC,FY,f,t8];refine AG hsn 43 (some 82) (.load 3 (.tmp 81)) (some (41,true)) ?_;simp only[rG,seval,AB,AC,dd,f];refine AG hsn 44 (some 83) (.binOp .leq 3 (.tmp 82) (.const (Value.int IntKind.i64 1073741824)) 3) (some (41,true)) ?_;simp only[rG,seval,AB,AD,AC,f];refine AG hsn 45 (some 84) (.pick (.tmp 80) (.tmp 83) (.const (Value.bool false))) (some (33,false)) ?_;simp only[rG,seval,d];refine AG hsn 46 (some 85) (.pick (.tmp 72) (.const (Value.bool true)) (.tmp 84)) (some (29,true)) ?_;simp only[rG,seval,AB,AD,AC,e,g];refine AG hsn 47 (some 86) (.pick (.tmp 68) (.tmp 85) (.const (Value.bool false))) none ?_;simp only[rG,seval,AB,AD,AC,g];refine AG hsn 48 (some 10) (.assign (.tmp 86)) none ?_;simp only[rG,seval,AB,AD,AC];refine l _ ?_ ?_;.simp only[Tr.b,ai];grind
   .intro t j;simp only[OK j,Nat.reduceLeDiff]
end
def rt:Code->Code|.seq _ b=>b|c=>c
def lf:Code->Code|.seq a _=>a|c=>c
noncomputable def Y3:Code:=rt (rt (rt (f122.body.getD .skip)))
theorem qM{a k:Int}(b:a≠8)(h:CX a k=true):k≠1:=by intro e;subst e;unfold CX at h;grind
theorem To{k:Int}{j:Nat}:CH k j≠8:=iK.2
theorem XX(k:Int):0<=F8 k:=by unfold F8;(repeat' split)<;>omega
section
variable {call:AY} {n:Nat}
structure Qz (call:AY) (l:List AF) (v:Value) (m at_:Nat):Prop where
 a:∀ (k:Int) (j:Nat) h,1<=k/\k<=54->(k=11\/(j:Int)<DV k)->call 188 [iv k,iv j] h=some (iv (CH k j),h)
 b:∀ (p:Nat) (w:Int) h,at_<p->p<=l.length->w≠8->A8 h v l->h.c 0=EM->0<h.a->h.b<=h.a->call 122 [v,iv p,iv w] h=some (.tuple #[iv ((C6 BG l m p w).1:Int),.bool (C6 BG l m p w).2],h)
theorem ra(A:C_ call){l:List AF}{v:Value}{m at_ a b:Nat}{x:AF}{T:Tr}{h:AA}{k:DH}{ga0 gb0:Bool}(hc:Qz call l v m at_)(hn:l.length+3<n)(h8:l.length<30000000000000)(h9:at_<l.length)(Y:∀J,J.c 0=EM->call 186 [.string x.c] J=some (.bool (BG x.c),J))(hv:A8 h v l)(hg:h.c 0=EM)(Z:0<h.a)(h0:h.b<=h.a)(B:1<=x.a/\x.a<=54)(g0:x.a≠1)(t0:T.a 0=v)(t1:T.a 1=iv at_)(t8:T.a 8=qP a 0)(t9:T.a 9=qP b 0)(f:h.c a=.row [.int .i64 x.a,.string x.c,.int .i64 x.d,.int .i64 x.n,.int .i64 x.b] 125 ga0 false)(C:h.c b=.row [.bool (KD x.a),.bool (MP x.a),.bool (x.a==27),.int .i64 (F8 x.a),.int .i64 (DV x.a)] 243 gb0 false)(hb:b<h.a)(hk:∀d(p:Nat)w,(p,w)=(if EW BG x=true then G9 (fun k c=>C6 BG l m c (CH x.a k)) x.b.toNat 0 (at_+1)else(at_,false))->d.a 6=iv p->d.a 7=.bool w->k.a prog call n .ret ⟨d,h⟩):WK prog call n Y3 ⟨T,h⟩ k:=by
 show WK _ _ _ (.seq (.region _ _ true) _) _ _;rw[NB];refine WK.a (ops:=GA) Nt ?_;refine BV.a ?_;refine Bp A t8 t9 f C (by grind) (fun J e=>Y J (by grind)) fun T1 U k1=>?_;refine Qf A (by grind) (by grind) f C (by grind) U fun T2 e2 k2=>?_;refine Px A (by grind) (by grind) f C (by grind) e2 fun T3 G k3=>?_;refine BV.b (i:=49) (by kernel_rfl) ?_;rw[aI];have K:∀t:Nat,t<10->T3.a t=T.a t:=by grind
 have u0:=(K 0 (by decide)).trans t0;have L:=(K 1 (by decide)).trans t1;have H:=(K 8 (by decide)).trans t8;have V:=(K 9 (by decide)).trans t9;clear k1 k2 k3 K U e2;generalize h2:(((BG x.c==KD x.a)&&(KD x.a||x.c==⟨#[]⟩))&&(x.d==0||MP x.a&&x.d==1)&&(x.n==0||(x.a==27)&&decide (x.n>0)&&decide (x.n<=1073741824)))=cc at G;have M:EW BG x=(cc&&decide (x.b>=F8 x.a)&&(decide (DV x.a<0)||decide (x.b<=DV x.a))):=by rw[<-h2];rfl
 have D:EW BG x=false->∀d,d.a 6=iv at_->d.a 7=.bool false->k.a prog call n .ret ⟨d,h⟩:=by grind
 have U:(x.a==1)=false:=by grind
 have E:EW BG x=true->0<=x.b/\(decide (DV x.a<0)||decide (x.b<=DV x.a))=true:=fun W=>by
  rw[M]at W;simp only[ah,am]at W;have:=XX x.a;grind
 have z:EW BG x=true->∀d,d.a 0=v->d.a 1=iv at_->d.a 8=qP a 0->WK prog call n (rt (rt Y3)) ⟨d,h⟩ k:=by
  intro W d w0 w1 w8;obtain⟨g1,N⟩:=E W;have g2:((x.b.toNat:Nat):Int)=x.b:=by omega
  have g3:=DU at_;show WK _ _ _ (.seq _ _) _ _;simp only[eE,seval,↓eP,rP,w1,w8,f,U];have y:∀(p:Nat)w,G9 (fun k c=>C6 BG l m c (CH x.a k)) x.b.toNat 0 (at_+1)=(p,w)->∀d,d.a 6=iv p->d.a 7=.bool w->k.a prog call n .ret ⟨d,h⟩:=by grind
  generalize g4:G9 (fun k c=>C6 BG l m c (CH x.a k)) x.b.toNat 0 (at_+1)=R at y;refine WK.b (fun i s=>s.h=h/\s.T.a 0=v/\s.T.a 8=qP a 0/\s.T.a 13=iv i/\∃p:Nat,∃w:Bool,s.T.a 11=iv p/\s.T.a 12=.bool w/\p<=l.length/\i<=l.length+1/\((w=true/\i<=x.b.toNat/\at_+1+i<=p/\G9 (fun k c=>C6 BG l m c (CH x.a k)) (x.b.toNat-i) i p=R)\/(w=false/\R=(p,false)))) (l.length+2) (by omega) ?_ ?_;.simp only[eE,↓reduceIte,Nat.reduceEqDiff,reduceCtorEq,rP,w0,w8];grind
  .rintro i⟨T1,h1⟩hi⟨rfl,y0,O,g,p,w,j,o,hp,g5,F⟩;simp only at y0 O g j o;rcases F with⟨rfl,g6,g7,P⟩|⟨rfl,P⟩
   .by_cases g8:i<x.b.toNat
    .have I:decide ((i:Int)<x.b)=true:=by grind
     have Q:=fun hh=>hc.a x.a i hh B (by
      simp only[bu,am]at N;rcases N with h|h
      .left;unfold DV at h;grind
      omega);have S:=fun h3 h4=>hc.b p (CH x.a i) h1 (by omega) hp To h3 h4 Z h0;have u:=S hv hg;have w5:=DU i;generalize hq:C6 BG l m p (CH x.a i)=q at u;have h5:G9 (fun k c=>C6 BG l m c (CH x.a k)) (x.b.toNat-i) i p=if q.2=true then G9 (fun k c=>C6 BG l m c (CH x.a k)) (x.b.toNat-(i+1)) (i+1) q.1 else(q.1,false):=by
      obtain⟨r,hr⟩:∃r,x.b.toNat-i=r+1:=⟨x.b.toNat-i-1,by omega⟩;rw[hr,show x.b.toNat-(i+1)=r by omega];simp only[G9,hq]
     have g9:q.1<=l.length:=by rw[<-hq];exact oT m p _ hp
     have x0:q.2=true->p<q.1:=fun h=>by
      have:=aP (isName:=BG) (l:=l) m p (CH x.a i);grind
     simp only[eE,seval,↓eP,rP,y0,O,g,j,o,f,I,Q,u];grind
    .have I:decide ((i:Int)<x.b)=false:=by grind
     have h6:x.b.toNat-i=0:=by omega
     rw[h6]at P;simp only[eE,seval,↓eP,rP,O,g,j,o,f,I];refine y p true (by rw[<-P];rfl) _ ?_ ?_;.simp only[eE,seval]
     .simp only[eE,seval]
   .cases I:decide ((i:Int)<x.b)with
    |true=>
     simp only[eE,seval,↓eP,rP,O,g,j,o,f,I];refine y p false P _ ?_ ?_;.simp only[eE,seval]
     .simp only[eE,seval]|false=>
     simp only[eE,seval,↓eP,rP,O,g,j,o,f,I];refine y p false P _ ?_ ?_;.simp only[eE,seval]
     .simp only[eE,seval]
 show WK _ _ _ (.seq _ (rt (rt Y3))) _ _;cases cc with
 |false=>
  simp only[eE,seval,↓eP,G,L];refine D (by assumption) _ ?_ ?_;.simp only[eE,seval]
  .simp only[eE,seval]|true=>cases X:decide (x.b<F8 x.a)with
  |true=>
   simp only[eE,seval,↓eP,rP,G,L,H,V,f,C,X];refine D (by grind) _ ?_ ?_;.simp only[eE,seval]
   .simp only[eE,seval]|false=>
   have hl:decide (x.b>=F8 x.a)=true:=by grind
   cases d2:decide (DV x.a>=0)with
   |false=>
    have hm:decide (DV x.a<0)=true:=by grind
    simp only[eE,seval,↓eP,rP,G,H,V,f,C,X,d2];refine z (by grind) _ ?_ ?_ ?_;.simp only[eE,seval,u0]
    .simp only[eE,seval,L]
    .simp only[eE,seval,H]|true=>cases d3:decide (x.b>DV x.a)with
    |true=>
     have hm:decide (DV x.a<0)=false:=by grind
     have h7:decide (x.b<=DV x.a)=false:=by grind
     simp only[eE,seval,↓eP,rP,G,L,H,V,f,C,X,d2,d3];refine D (by grind) _ ?_ ?_;.simp only[eE,seval]
     .simp only[eE,seval]|false=>
     have h7:decide (x.b<=DV x.a)=true:=by grind
     simp only[eE,seval,↓eP,rP,G,H,V,f,C,X,d2,d3];refine z (by grind) _ ?_ ?_ ?_;.simp only[eE,seval,u0]
     .simp only[eE,seval,L]
     .simp only[eE,seval,H]
end
theorem UT{a b:Value}(c:flat a=true)(d:flat b=true):E5 (.tuple #[a,b])=true:=by simp[E5,c,d]
theorem fY{l:List AF}{m at_:Nat}{a:Int}{x:AF}(c:l[at_]?=some x):C6 BG l (m+1) at_ a=if(CX a x.a&&EW BG x)=true then G9 (fun k b=>C6 BG l m b (CH x.a k)) x.b.toNat 0 (at_+1)else(at_,false):=by rw[C6,c]
theorem zW{l:List AF}{m at_:Nat}{a:Int}(b:l[at_]?=none):C6 BG l (m+1) at_ a=(at_,false):=by rw[C6,b]
section
variable {call:AY} {n:Nat}
theorem Qn(c:C_ call){l:List AF}{v:Value}{m at_:Nat}{d:Int}{h:AA}(P:Qz call l v m at_)(Q:l.length+3<n)(r:l.length<30000000000000)(S:at_<=l.length)(T:d≠8)(t:∀w k h,call 184 [iv w,iv k] h=some (.bool (CX w k),h))(u:∀k h,1<=k/\k<=54->call 185 [iv k] h=some (.agg #[.bool (KD k),.bool (MP k),.bool (k==27),iv (F8 k),iv (DV k)],h))(J:∀s o,o.c 0=EM->call 186 [.string s] o=some (.bool (BG s),o))(K:A8 h v l)(hg:h.c 0=EM)(U:0<h.a)(V:h.b<=h.a):∃F,AW prog call n 122 [v,iv at_,iv d] h=some (.tuple #[iv ((C6 BG l (m+1) at_ d).1:Int),.bool (C6 BG l (m+1) at_ d).2],F)/\∀i,i<h.a->F.c i=h.c i:=by
 refine EA (R:=fun F=>∀i,i<h.a->F.c i=h.c i) func122 rfl (by simp) ?_;have L:f122.results.toList=[.tmp 6,.tmp 7]:=rfl;have e:∀o,CU prog o 22 v=some (.int .i64 l.length):=fun o=>K.c;cases y:l[at_]? with
 |none=>
  rw[zW y];have W:=List.getElem?_eq_none_iff.1 y;have G:decide ((at_:Int)>=(l.length:Int))=true:=by grind
  simp only[eE,seval,↓eP,L,e,G];simp|some x=>
  have M:=(ae.1 y).1;have G:decide ((at_:Int)>=(l.length:Int))=false:=by grind
  obtain⟨X,p,H,Y,N,l1,l2,l3,l4,Z⟩:=K.b y;rw[fY y];cases I:CX d x.a with
  |false=>
   simp only[eE,seval,↓eP,rP,L,e,G,H,N,t,I,bz];simp|true=>
  have f:=XP I;have O:=fun h=>u x.a h f;have g:(X<h.a)=True:=by grind
  have j:(h.a=h.a+1)=False:=by simp
  have z:(h.a+1=h.a)=False:=by simp
  have A:(h.b<=h.a)=True:=by grind
  have B:(h.b<=h.a+1)=True:=by grind
  have C:(h.a<h.a+1+1)=True:=by grind
  have D:(h.a+1<h.a+1+1)=True:=by simp
  simp only[fk];simp only[eE,seval,↓eP,rP,L,e,G,H,N,t,I];refine WK.a (ops:=vU) Su ?_;refine BV.a ?_;refine AG c 0 (some 29) (.move (.tmp 0)) none ?_;simp only[eE,seval,rP,AC,AB,AD,rF];refine AG c 1 (some 30) (.move (.tmp 1)) none ?_;simp only[eE,seval,rP,AC,AB,AD,rF];refine AG c 2 (some 31) (.indexAddr 22 (.tmp 29) (.tmp 30)) none ?_;simp only[eE,seval,rP,AC,AB,AD,rF,H];refine AG c 3 (some 32) (.load 125 (.tmp 31)) none ?_;simp only[eE,seval,rP,AC,AB,rF,Z,g];refine AG c 4 (some 33) (.move (.tmp 0)) none ?_;simp only[eE,seval,rP,AC,AB,AD,rF];refine AG c 5 (some 34) (.move (.tmp 1)) none ?_;simp only[eE,seval,rP,AC,AB,AD,rF];refine AG c 6 (some 35) (.indexAddr 22 (.tmp 33) (.tmp 34)) none ?_;simp only[eE,seval,rP,AC,AB,AD,rF,H];refine AG c 7 (some 36) (.fieldAddr 125 (.tmp 35) 0) none ?_;simp only[eE,seval,rP,AC,AB,AD,rF];refine AG c 8 (some 37) (.load 3 (.tmp 36)) none ?_;simp only[eE,seval,rP,AC,AB,rF,N,g];refine AG c 9 (some 38) (.call {callee:=.value (.func 185),args:=#[.tmp 37],argTypes:=#[3]}) none ?_;simp only[eE,seval,rP,AC,AB,rF,O];refine AG c 10 (some 8) (.alloc 125) none ?_;simp only[eE,seval,rP,AC,AB];refine AG c 11 (some 9) (.alloc 243) none ?_;simp only[eE,seval,rP,AC,AB,rF];refine AG c 12 (none) (.store 125 (.tmp 8) (.tmp 32)) none ?_;simp only[eE,seval,rP,AC,AB,rF,j,A];refine AG c 13 (none) (.store 243 (.tmp 9) (.tmp 38)) none ?_;simp only[eE,seval,rP,AC,AB,rF,z,B];refine BV.b (i:=14) (by kernel_rfl) ?_;rw[aI];have E:∀i,i<h.a->((((h.d (.row FG 125 false false)).d (.row [.bool false,.bool false,.bool false,.int .i64 0,.int .i64 0] 243 false false)).e h.a (.row [.int .i64 x.a,.string x.c,.int .i64 x.d,.int .i64 x.n,.int .i64 x.b] 125 false false)).e (h.a+1)
    (.row [.bool (KD x.a),.bool (MP x.a),.bool (x.a==27),iv (F8 x.a),iv (DV x.a)] 243 false false)).c i=h.c i:=fun i hi=>by rw[ZF,ad (by omega),ZF,ad (by omega),OT,ad (by rw[BU];omega),OT,ad (by omega)]
  refine ra c P Q r M (J x.c) (K.a (by simp only[D_,BU];omega) E) (by grind) (by simp only[D_,BU];omega) (by simp only[D_,BU,EJ,CE];omega) f (qM T I) (a:=h.a) (b:=h.a+1) (ga0:=false) (gb0:=false) ?_ ?_ ?_ ?_ ?_ ?_ (by simp only[D_,BU];omega) ?_;.simp only[eE,seval]
  .simp only[eE,seval]
  .simp only[eE,seval]
  .simp only[eE,seval]
  .simp only[seval,rP,j,C]
  .simp only[seval,rP,D]
  .intro T' q ok hq h6 h7;simp only[eE,seval,rP,h6,h7,<-hq];intro i hi;rw[ad (by omega),ad (by omega),ad (by omega),ad (by omega)]
end
theorem mW(k:Int)(h:AA)(a:1<=k/\k<=54):L1 185 [iv k] h=some (.agg #[.bool (KD k),.bool (MP k),.bool (k==27),iv (F8 k),iv (DV k)],h):=JO (HJ rfl rfl rfl rfl (LV oh a))
theorem rb(k:Int):DV k<=3:=by unfold DV;(repeat' split)<;>omega
theorem rc{call:AY}{n:Nat}{h:AA}{j:Nat}:AW prog call n 188 [iv 11,iv j] h=some (iv (CH 11 j),h):=by refine DO func188 rfl (by simp) ?_;have a:f188.results.toList=[.tmp 4]:=rfl;simp only[eE,seval,↓eP,a];rfl
theorem Nv(k:Int)(j:Nat)(h:AA)(a:1<=k/\k<=54)(b:k=11\/(j:Int)<DV k):L1 188 [iv k,iv j] h=some (iv (CH k j),h):=by
 refine JO (HJ rfl rfl rfl rfl ?_);rcases b with rfl|b;.exact⟨_,rc⟩
 .have:=rb k;have c:j=0\/j=1\/j=2:=by omega
  rcases c with rfl|rfl|rfl;.exact LV pd a
  .exact LV pg a
  .have d:k≠15:=by
    rintro rfl;revert b;decide
   have:=LV pj a;grind
end Go.Proofs.YtjailoenloejbaaGreatDoor




