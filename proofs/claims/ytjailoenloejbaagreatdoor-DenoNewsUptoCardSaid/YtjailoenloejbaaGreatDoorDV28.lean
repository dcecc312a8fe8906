/- Part 28. -/
import Derived.Test.YtjailoenloejbaaGreatDoorDV27
set_option linter.all false
namespace Go.Proofs.YtjailoenloejbaaGreatDoor
open Go Go.Sx Go.Proofs.Tryz
set_option maxRecDepth 100000
set_option maxHeartbeats 0
def LQ(k:Int):FuncId:=if k=39 then 191 else if k=40 then 192 else if k=41 then 193 else if k=43 then 194 else if k=44 then 195 else if k=45 then 196 else if k=46 then 197 else if k=47 then 198 else if k=48 then 199 else if k=49 then 200 else if k=50 then 201 else if k=51 then 202 else if k=52 then 203 else if k=42 then 204 else if k=53 then 205 else 206
abbrev J6(k:Int):Value:=.func (.func (LQ k)) #[] #[]
def EX(size:Int)(C:List Int)(x:AF):Value:=match FR size C x with|some v=>.iface 213 (iv v)|none=>if LX x.a=true then .iface 248 (J6 x.a)else if QB x.a=true then .iface 249 (J6 x.a)else .nilIface
section
variable {n N:Nat} {h:AA}
theorem Ni{x:AF}{M:Value}{size:Int}{C:List Int}{lc:Nat}(V:F6 lc h M size C)(L:x.a=32->0<=x.n/\x.n<C.length):∃I,AW prog (AN n) N 136 [CW x,M] h=some (EX size C x,I)/\I.a=h.a+2/\I.b=h.b/\∀i,i<h.a->I.c i=h.c i:=by
 obtain⟨J,rfl,O⟩:=id V;refine EA (R:=fun I=>I.a=h.a+2/\I.b=h.b/\∀i,i<h.a->I.c i=h.c i) func136 rfl (by simp[f136]) ?_;have w:f136.results.toList=[.tmp 4]:=rfl;have W:(CW x).cells.toList=AQ x:=rfl;have X:(AQ x).all one=true:=rfl;have Y:=C9 [iv size,J];have Z:[iv size,J].all one=true:=by simp only[az,bd,AL.a O,JQ,ao]
 obtain⟨P,S,y,z,u⟩:=OP h (.row (AQ x) 125 false false) (.row [iv size,J] 32 false false);simp only[eE,seval,DJ,W,X,Y,Z,GC,HQ];generalize(h.d (.row (AQ x) 125 false false)).d (.row [iv size,J] 32 false false)=Q at*;have A:AI 0 (Q.c h.a)=some (iv x.a):=by rw[P];rfl
 have T:AI 3 (Q.c h.a)=some (iv x.n):=by rw[P];rfl
 have y0:AI 0 (Q.c (h.a+1))=some (iv size):=by rw[S];rfl
 have y1:AI 1 (Q.c (h.a+1))=some J:=by rw[S];rfl
 have pC:AK lc Q J C:=AK.U O (by omega) fun i _ hi=>u i hi;cases a:(x.a==27)with
 |true=>
  have k:=ak.1 a;rw[show EX size C x=.iface 213 (iv x.n)by unfold EX FR;rw[k];rfl];simp only[eE,seval,↓eP,w,ab,FY,AM,A,T,underlying213,a];exact⟨y,z,u⟩|false=>cases b:(x.a==33)with
 |true=>
  have k:=ak.1 b;rw[show EX size C x=.iface 213 (iv size)by unfold EX FR;rw[k];rfl];simp only[eE,seval,↓eP,w,IW,AM,A,y0,underlying213,a,b];exact⟨y,z,u⟩|false=>cases d:(x.a==32)with
 |true=>
  have k:=ak.1 d;obtain⟨r0,r1⟩:=L k;obtain⟨c0,K⟩:∃c,C[x.n.toNat]?=some c:=⟨_,aa (by omega)⟩;obtain⟨ia,pa,U,_,la⟩:=AK.V pC K;rw[show((x.n.toNat:Nat):Int)=x.n by omega]at U;rw[show EX size C x=.iface 213 (iv c0)by unfold EX FR;rw[k,K];rfl];simp only[eE,seval,↓eP,w,ab,FY,JK,AM,BH,A,T,y1,underlying213,a,b,d,U,la];exact⟨y,z,u⟩|false=>cases f:(x.a==29)with
 |true=>have k:=ak.1 f;rw[show EX size C x=.iface 213 (iv 1)by unfold EX FR;rw[k];rfl];simp only[eE,seval,↓eP,w,A,underlying213,a,b,d,f];exact⟨y,z,u⟩|false=>cases g:(x.a==30)with
 |true=>have k:=ak.1 g;rw[show EX size C x=.iface 213 (iv 0)by unfold EX FR;rw[k];rfl];simp only[eE,seval,↓eP,w,A,underlying213,a,b,d,f,g];exact⟨y,z,u⟩|false=>cases j:(x.a==39)with
 |true=>
  have k:=ak.1 j;rw[show EX size C x=.iface 248 (.func (.func 191) #[] #[])by unfold EX FR J6 LQ;rw[k];rfl];simp only[eE,seval,↓eP,w,A,gx,a,b,d,f,g,j];exact⟨y,z,u⟩|false=>cases l:(x.a==40)with
 |true=>
  have k:=ak.1 l;rw[show EX size C x=.iface 248 (.func (.func 192) #[] #[])by unfold EX FR J6 LQ;rw[k];rfl];simp only[eE,seval,↓eP,w,A,gx,a,b,d,f,g,j,l];exact⟨y,z,u⟩|false=>cases m:(x.a==41)with
 |true=>
  have k:=ak.1 m;rw[show EX size C x=.iface 248 (.func (.func 193) #[] #[])by unfold EX FR J6 LQ;rw[k];rfl];simp only[eE,seval,↓eP,w,A,gx,a,b,d,f,g,j,l,m];exact⟨y,z,u⟩|false=>cases o:(x.a==43)with
 |true=>
  have k:=ak.1 o;rw[show EX size C x=.iface 248 (.func (.func 194) #[] #[])by unfold EX FR J6 LQ;rw[k];rfl];simp only[eE,seval,↓eP,w,A,gx,a,b,d,f,g,j,l,m,o];exact⟨y,z,u⟩|false=>cases p:(x.a==44)with
 |true=>have k:=ak.1 p;rw[show EX size C x=.iface 248 (.func (.func 195) #[] #[])by unfold EX FR J6 LQ;rw[k];rfl];simp only[eE,seval,↓eP,w,A,gx,a,b,d,f,g,j,l,m,o,p];exact⟨y,z,u⟩|false=>cases q:(x.a==45)with|true=>have k:=ak.1 q;rw[show EX size C x=.iface 248 (.func (.func 196) #[] #[])by unfold EX FR J6 LQ;rw[k];rfl];simp only[eE,seval,↓eP,w,A,gx,a,b,d,f,g,j,l,m,o,p,q];exact⟨y,z,u⟩|false=>cases r:(x.a==46)with|true=>have k:=ak.1 r;rw[show EX size C x=.iface 248 (.func (.func 197) #[] #[])by unfold EX FR J6 LQ;rw[k];rfl];simp only[eE,seval,↓eP,w,A,gx,a,b,d,f,g,j,l,m,o,p,q,r];exact⟨y,z,u⟩|false=>cases s:(x.a==47)with|true=>have k:=ak.1 s;rw[show EX size C x=.iface 249 (.func (.func 198) #[] #[])by unfold EX FR J6 LQ;rw[k];rfl];simp only[eE,seval,↓eP,w,A,ft,a,b,d,f,g,j,l,m,o,p,q,r,s];exact⟨y,z,u⟩|false=>cases t:(x.a==48)with|true=>have k:=ak.1 t;rw[show EX size C x=.iface 249 (.func (.func 199) #[] #[])by unfold EX FR J6 LQ;rw[k];rfl];simp only[eE,seval,↓eP,w,A,ft,a,b,d,f,g,j,l,m,o,p,q,r,s,t];exact⟨y,z,u⟩|false=>cases v:(x.a==49)with
 |true=>
  have k:=ak.1 v;rw[show EX size C x=.iface 249 (.func (.func 200) #[] #[])by unfold EX FR J6 LQ;rw[k];rfl];simp only[eE,seval,↓eP,w,A,ft,a,b,d,f,g,j,l,m,o,p,q,r,s,t,v];exact⟨y,z,u⟩|false=>cases B:(x.a==50)with
 |true=>have k:=ak.1 B;rw[show EX size C x=.iface 249 (.func (.func 201) #[] #[])by unfold EX FR J6 LQ;rw[k];rfl];simp only[eE,seval,↓eP,w,A,ft,a,b,d,f,g,j,l,m,o,p,q,r,s,t,v,B];exact⟨y,z,u⟩|false=>cases D:(x.a==51)with
 |true=>have k:=ak.1 D;rw[show EX size C x=.iface 249 (.func (.func 202) #[] #[])by unfold EX FR J6 LQ;rw[k];rfl];simp only[eE,seval,↓eP,w,A,ft,a,b,d,f,g,j,l,m,o,p,q,r,s,t,v,B,D];exact⟨y,z,u⟩|false=>cases E:(x.a==52)with
 |true=>
  have k:=ak.1 E;rw[show EX size C x=.iface 249 (.func (.func 203) #[] #[])by unfold EX FR J6 LQ;rw[k];rfl];simp only[eE,seval,↓eP,w,A,ft,a,b,d,f,g,j,l,m,o,p,q,r,s,t,v,B,D,E];exact⟨y,z,u⟩|false=>cases F:(x.a==42)with
 |true=>
  have k:=ak.1 F;rw[show EX size C x=.iface 249 (.func (.func 204) #[] #[])by unfold EX FR J6 LQ;rw[k];rfl];simp only[eE,seval,↓eP,w,A,ft,a,b,d,f,g,j,l,m,o,p,q,r,s,t,v,B,D,E,F];exact⟨y,z,u⟩|false=>cases G:(x.a==53)with
 |true=>
  have k:=ak.1 G;rw[show EX size C x=.iface 249 (.func (.func 205) #[] #[])by unfold EX FR J6 LQ;rw[k];rfl];simp only[eE,seval,↓eP,w,A,ft,a,b,d,f,g,j,l,m,o,p,q,r,s,t,v,B,D,E,F,G];exact⟨y,z,u⟩|false=>cases H:(x.a==54)with
 |true=>
  have k:=ak.1 H;rw[show EX size C x=.iface 249 (.func (.func 206) #[] #[])by unfold EX FR J6 LQ;rw[k];rfl];simp only[eE,seval,↓eP,w,A,ft,a,b,d,f,g,j,l,m,o,p,q,r,s,t,v,B,D,E,F,G,H];exact⟨y,z,u⟩|false=>
 have e:EX size C x=.nilIface:=by
  simp only[ax]at a b d f g j l m o p q r s t v B D E F G H;unfold EX FR;rw[ad a,ad b,ad d,ad f,ad g];simp[LX,QB,j,l,m,o,p,q,r,s,t,v,B,D,E,F,G,H]
 rw[e];simp only[eE,seval,↓eP,w,A,a,b,d,f,g,j,l,m,o,p,q,r,s,t,v,B,D,E,F,G,H];exact⟨y,z,u⟩
theorem Nj{x:AF}{b:Value}{size:Int}{C:List Int}{lc:Nat}(e:F6 lc h b size C)(c:x.a=32->0<=x.n/\x.n<C.length)(g:0<n):∃a,AN n 136 [CW x,b] h=some (EX size C x,a)/\h.a<=a.a/\a.b=h.b/\∀i,i<h.a->a.c i=h.c i:=by obtain⟨n,rfl⟩:=BX g;obtain⟨v,a,d,j,k,l,o⟩:=GY (R:=fun v a=>v=EX size C x/\h.a<=a.a/\a.b=h.b/\∀i,i<h.a->a.c i=h.c i) (n:=n) (f:=136) (args:=[CW x,b]) (h:=h) BF (by obtain⟨a,d,j,k,l⟩:=Ni (n:=n) (N:=n) e c;grind) fun v d _ _ m=>⟨m.1,af _,rfl,fun _ _=>rfl⟩;grind
theorem Fc{a b:Int}(c:-1073741824<=a/\a<=1073741824)(d:-1073741824<=b/\b<=1073741824):-1152921504606846976<=a*b/\a*b<=1152921504606846976:=by
 have e:(a*b).natAbs<=1073741824*1073741824:=by
  rw[Int.natAbs_mul];exact Nat.mul_le_mul (by omega) (by omega)
 omega
theorem Co{k a b:Int}(e:LX k=true)(f:-1073741824<=a/\a<=1073741824)(g:-1073741824<=b/\b<=1073741824)(i:3<n):AN n (LQ k) [iv a,iv b] h=some (iv (LM k a b),h):=by
 have d:k=39\/k=40\/k=41\/k=43\/k=44\/k=45\/k=46:=by
  unfold LX at e;simpa using e
 have j:=Fc f g;obtain⟨n,rfl⟩:=BX i;rcases d with rfl|rfl|rfl|rfl|rfl|rfl|rfl
 .show AN (n+1) 191 [iv a,iv b] h=some (iv (if b<a then b else a),h);refine FA BF rfl ?_;refine DO func191 rfl (by simp) ?_;have c:f191.results.toList=[.tmp 4]:=rfl;simp only[eE,seval,c]
 .show AN (n+1) 192 [iv a,iv b] h=some (iv (if b>a then b else a),h);refine FA BF rfl ?_;refine DO func192 rfl (by simp) ?_;have c:f192.results.toList=[.tmp 4]:=rfl;simp only[eE,seval,c]
 .show AN (n+1) 193 [iv a,iv b] h=some (iv (-a),h);refine FA BF rfl ?_;refine DO func193 rfl (by simp) ?_;have c:f193.results.toList=[.tmp 4]:=rfl;have w:IntKind.i64.wrap (0-a)=-a:=by rw[BR];omega
  simp only[eE,seval,c,w]
 .show AN (n+1) 194 [iv a,iv b] h=some (iv (a*b),h);refine FA BF rfl ?_;refine DO func194 rfl (by simp) ?_;have c:f194.results.toList=[.tmp 4]:=rfl;have w:IntKind.i64.wrap (a*b)=(a*b):=BR;simp only[eE,seval,c,w]
 .show AN (n+1) 195 [iv a,iv b] h=some (iv (OB a b),h);exact yK ⟨by omega,by omega⟩ ⟨by omega,by omega⟩
 .show AN (n+1) 196 [iv a,iv b] h=some (iv (a+b),h);refine FA BF rfl ?_;refine DO func196 rfl (by simp) ?_;have c:f196.results.toList=[.tmp 4]:=rfl;have w:IntKind.i64.wrap (a+b)=(a+b):=BR;simp only[eE,seval,c,w]
 .show AN (n+1) 197 [iv a,iv b] h=some (iv (a-b),h);refine FA BF rfl ?_;refine DO func197 rfl (by simp) ?_;have c:f197.results.toList=[.tmp 4]:=rfl;have w:IntKind.i64.wrap (a-b)=(a-b):=BR;simp only[eE,seval,c,w]
theorem Fa{k a b:Int}(f:QB k=true)(g:0<n):AN n (LQ k) [iv a,iv b] h=some (.bool (OD k a b),h):=by
 have e:k=42\/k=47\/k=48\/k=49\/k=50\/k=51\/k=52\/k=53\/k=54:=by unfold QB at f;simpa using f
 obtain⟨n,rfl⟩:=BX g;rcases e with rfl|rfl|rfl|rfl|rfl|rfl|rfl|rfl|rfl
 .show AN (n+1) 204 [iv a,iv b] h=some (.bool (a==0),h);refine FA BF rfl ?_;refine DO func204 rfl (by simp) ?_;have c:f204.results.toList=[.tmp 4]:=rfl;simp only[eE,seval,c]
 .show AN (n+1) 198 [iv a,iv b] h=some (.bool (a==b),h);refine FA BF rfl ?_;refine DO func198 rfl (by simp) ?_;have c:f198.results.toList=[.tmp 4]:=rfl;simp only[eE,seval,c]
 .show AN (n+1) 199 [iv a,iv b] h=some (.bool (a !=b),h);refine FA BF rfl ?_;refine DO func199 rfl (by simp) ?_;have c:f199.results.toList=[.tmp 4]:=rfl;simp only[eE,seval,c]
 .show AN (n+1) 200 [iv a,iv b] h=some (.bool (decide (a<b)),h);refine FA BF rfl ?_;refine DO func200 rfl (by simp) ?_;have c:f200.results.toList=[.tmp 4]:=rfl;simp only[eE,seval,c]
 .show AN (n+1) 201 [iv a,iv b] h=some (.bool (decide (a<=b)),h);refine FA BF rfl ?_;refine DO func201 rfl (by simp) ?_;have c:f201.results.toList=[.tmp 4]:=rfl;simp only[eE,seval,c]
 .show AN (n+1) 202 [iv a,iv b] h=some (.bool (decide (a>b)),h);refine FA BF rfl ?_;refine DO func202 rfl (by simp) ?_;have c:f202.results.toList=[.tmp 4]:=rfl;simp only[eE,seval,c]
 .show AN (n+1) 203 [iv a,iv b] h=some (.bool (decide (a>=b)),h);refine FA BF rfl ?_;refine DO func203 rfl (by simp) ?_;have c:f203.results.toList=[.tmp 4]:=rfl;simp only[eE,seval,c]
 .show AN (n+1) 205 [iv a,iv b] h=some (.bool (a !=0&&b !=0),h);refine FA BF rfl ?_;refine DO func205 rfl (by simp) ?_;have c:f205.results.toList=[.tmp 4]:=rfl;cases d:(a !=0)with|true=>simp only[eE,seval,c,d,fk]|false=>simp only[eE,seval,c,d,bz]
 .show AN (n+1) 206 [iv a,iv b] h=some (.bool (a !=0||b !=0),h);refine FA BF rfl ?_;refine DO func206 rfl (by simp) ?_;have c:f206.results.toList=[.tmp 4]:=rfl;cases d:(a !=0)with
  |true=>simp only[eE,seval,c,d,fa]|false=>simp only[eE,seval,c,d,eg]
def xK:List (Bool×Bool×List Operand):=[AO,AO,AO,AO,AH [.tmp 7],AH [.tmp 7],AH [.tmp 7],AH [.tmp 7],AH [.tmp 7],AH [.tmp 7],AJ,AJ,AJ]
theorem Ny{k a b:Int}{l:List Int}{lv:Value}{lo:Nat}(r:LX k=true)(g:AK lo h lv l)(h0:l[0]?=some a)(h1:l[l.length-1]?=some b)(s:-1073741824<=a/\a<=1073741824)(t:-1073741824<=b/\b<=1073741824)(w:l.length<1000)(L:4<n:=by omega):AW prog (AN n) N 317 [J6 k,lv] h=some (iv (H_ (LM k a b)),h):=by
 obtain⟨_,y,z,rfl,_⟩:=id g;have i:=(EC n).2;have u:=(ae.1 h0).1;refine DO func317 rfl (by simp) ?_;have A:f317.results.toList=[.tmp 4]:=rfl;obtain⟨v,B,C,j,D⟩:=AK.V g h0;obtain⟨E,M,F,m,G⟩:=AK.V g h1;have o:BW prog 25 (.slice y l.length z) (iv 0)=some (qP v B):=C;have d:=fun H=>J8 g H;have I:IntKind.i64.wrap ((l.length:Int)-1)=((l.length-1:Nat):Int):=by rw[BR];omega
 have p:(v<h.a)=True:=jf j;have q:(E<h.a)=True:=jf m;have J:∀c:Nat,AN n (LQ k) [iv a,iv b] (h.f c)=some (iv (LM k a b),h.f c):=fun c=>Co r s t (by omega);have K:∀c:Nat,AN n 247 [iv (LM k a b)] (h.f c)=some (iv (H_ (LM k a b)),h.f c):=fun c=>wK (by omega);have e:=Co (n:=n) (h:=h) r s t (by omega);have f:=wK (n:=n) (h:=h) (x:=LM k a b) (by omega);simp only[eE,seval];refine WK.a (fs:=xK) (by kernel_rfl) ?_;unfold xK;iterate 13 refine DG i ?_;simp only[rG,seval,AB,AD,AC,A7,BL,C8,o,D,AM,p,d,I,F,G,q,e,f]
 refine DF ?_;simp only[eE,seval,A]
def p8:List (Bool×Bool×List Operand):=[AO,AO,AO,AO,AH [.tmp 7],AH [.tmp 7],AH [.tmp 7],AH [.tmp 7],AH [.tmp 7],AH [.tmp 7],AJ]
theorem N4{k a b:Int}{l:List Int}{lv:Value}{lo:Nat}(q:QB k=true)(e:AK lo h lv l)(h0:l[0]?=some a)(h1:l[l.length-1]?=some b)(G:-1073741824<=a/\a<=1073741824)(H:-1073741824<=b/\b<=1073741824)(u:l.length<1000)(I:4<n:=by omega):AW prog (AN n) N 318 [J6 k,lv] h=some (iv (if OD k a b=true then 1 else 0),h):=by
 obtain⟨_,v,w,rfl,_⟩:=id e;have f:=(EC n).2;have r:=(ae.1 h0).1;refine DO func318 rfl (by simp) ?_;have s:f318.results.toList=[.tmp 4]:=rfl;obtain⟨t,x,y,g,z⟩:=AK.V e h0;obtain⟨A,J,B,i,C⟩:=AK.V e h1;have j:BW prog 25 (.slice v l.length w) (iv 0)=some (qP t x):=y;have c:=fun D=>J8 e D;have E:IntKind.i64.wrap ((l.length:Int)-1)=((l.length-1:Nat):Int):=by rw[BR];omega
 have m:(t<h.a)=True:=jf g;have o:(A<h.a)=True:=jf i;have F:∀p:Nat,AN n (LQ k) [iv a,iv b] (h.f p)=some (.bool (OD k a b),h.f p):=fun p=>Fa q (by omega);have d:=Fa (n:=n) (h:=h) (k:=k) (a:=a) (b:=b) q (by omega);simp only[eE,seval];refine WK.a (fs:=p8) (by kernel_rfl) ?_;unfold p8;iterate 11
  refine DG f ?_;simp only[rG,seval,AB,AD,AC,A7,BL,C8,j,z,AM,m,c,E,B,C,o,d]
 refine DF ?_;cases OD k a b with|true=>simp only[eE,seval,↓eP,s]|false=>simp only[eE,seval,↓eP,s]
theorem Of{v:Int}{lv:Value}:AW prog (AN n) N 315 [iv v,lv] h=some (iv v,h):=by refine DO func315 rfl (by simp) ?_;have a:f315.results.toList=[.tmp 4]:=rfl;simp only[eE,seval,a]
end
theorem Tv(v:Value):V_ prog 213 v "winnow/typed.of" =some (315,v):=by kernel_rfl
theorem Wx(v:Value):V_ prog 248 v "winnow/typed.of" =some (317,v):=by kernel_rfl
theorem Oi(v:Value):V_ prog 249 v "winnow/typed.of" =some (318,v):=by kernel_rfl
theorem as_n(v:Value):LH prog (.iface 213 v) 213 true=some (.tuple #[v,.bool true]):=by kernel_rfl
theorem as_r(v:Value):LH prog (.iface 248 v) 213 true=some (.tuple #[iv 0,.bool false]):=by kernel_rfl
theorem as_h(v:Value):LH prog (.iface 249 v) 213 true=some (.tuple #[iv 0,.bool false]):=by kernel_rfl
theorem Ui:CT prog .eql 211 (.tmp 38) (.const .nilIface) .nilIface .nilIface=some (.bool true):=by kernel_rfl
theorem sN(t:TypeId)(v:Value):CT prog .eql 211 (.tmp 38) (.const .nilIface) (.iface t v) .nilIface=some (.bool false):=by kernel_rfl
section
variable {n:Nat} {h:AA}
theorem Om{v:Int}{lv:Value}(a:0<n):AN n 315 [iv v,lv] h=some (iv v,h):=by obtain⟨n,rfl⟩:=BX a;exact FA BF rfl Of
theorem Oy{k a b:Int}{l:List Int}{lv:Value}{lo:Nat}(d:LX k=true)(f:AK lo h lv l)(h0:l[0]?=some a)(h1:l[l.length-1]?=some b)(g:-1073741824<=a/\a<=1073741824)(i:-1073741824<=b/\b<=1073741824)(c:l.length<1000)(j:6<n):AN n 317 [J6 k,lv] h=some (iv (I9 k a b),h):=by
 obtain⟨n,rfl⟩:=BX j;have e:I9 k a b=H_ (LM k a b):=by unfold I9;grind
 rw[e];exact FA BF rfl (Ny d f h0 h1 g i c)
theorem OF{k a b:Int}{l:List Int}{lv:Value}{lo:Nat}(m:LX k=false)(d:QB k=true)(f:AK lo h lv l)(h0:l[0]?=some a)(h1:l[l.length-1]?=some b)(g:-1073741824<=a/\a<=1073741824)(i:-1073741824<=b/\b<=1073741824)(c:l.length<1000)(j:6<n):AN n 318 [J6 k,lv] h=some (iv (I9 k a b),h):=by
 obtain⟨n,rfl⟩:=BX j;have e:I9 k a b=if OD k a b=true then 1 else 0:=by unfold I9;grind
 rw[e];exact FA BF rfl (N4 d f h0 h1 g i c)
end
theorem Ud{size:Int}{C:List Int}{x:AF}{v:Int}(h:FR size C x=some v):I0 x.a=false/\IG x.a=false:=by
 unfold FR at h;split at h;.rename_i a;rw[a];exact⟨rfl,rfl⟩
 split at h;.rename_i a;rw[a];exact⟨rfl,rfl⟩
 split at h;.rename_i a;rw[a];exact⟨rfl,rfl⟩
 split at h;.rename_i a;rw[a];exact⟨rfl,rfl⟩
 split at h;.rename_i a;rw[a];exact⟨rfl,rfl⟩
 .cases h
structure MV (h H:AA) (P Cp:List Value) (V:List Int) (I:List Bool):Prop where
 p:H.c h.a=.row P 27 false false
 c:H.c (h.a+1)=.row Cp 32 false false
 v:H.c (h.a+2)=.row (ints V) 3 false false
 b:H.c (h.a+3)=.row (EV I) 4 false false
 n:h.a+4<=H.a
 f:H.b=h.b
 o:∀ i,i<h.a->H.c i=h.c i
theorem MV.d{h H H':AA}{P c:List Value}{V:List Int}{I:List Bool}(a:MV h H P c V I)(f:H.a<=H'.a)(d:H'.b=H.b)(b:∀i,i<h.a+4->H'.c i=H.c i):MV h H' P c V I:=⟨by rw[b _ (by omega)];exact a.p,by rw[b _ (by omega)];exact a.c,by rw[b _ (by omega)];exact a.v,by rw[b _ (by omega)];exact a.b,by have:=a.n;omega,d.trans a.f,fun i e=>by rw[b i (by omega)];exact a.o i e⟩
theorem MV.e{h H:AA}{P d:List Value}{V:List Int}{I:List Bool}(a:MV h H P d V I)(b:List Int):MV h (H.e (h.a+2) (.row (ints b) 3 false false)) P d b I:=by have e:=a.n;have g:∀j,j≠h.a+2->(H.e (h.a+2) (.row (ints b) 3 false false)).c j=H.c j:=fun j c=>AP (by omega) (bc c);exact⟨by rw[g _ (by omega)];exact a.p,by rw[g _ (by omega)];exact a.c,BE rfl (by omega),by rw[g _ (by omega)];exact a.b,e,a.f,fun j c=>by rw[g j (by omega)];exact a.o j c⟩
theorem MV.a{h H:AA}{P d:List Value}{V:List Int}{I:List Bool}(a:MV h H P d V I)(b:List Bool):MV h (H.e (h.a+3) (.row (EV b) 4 false false)) P d V b:=by have e:=a.n;have g:∀j,j≠h.a+3->(H.e (h.a+3) (.row (EV b) 4 false false)).c j=H.c j:=fun j c=>AP (by omega) (bc c);exact⟨by rw[g _ (by omega)];exact a.p,by rw[g _ (by omega)];exact a.c,by rw[g _ (by omega)];exact a.v,BE rfl (by omega),e,a.f,fun j c=>by rw[g j (by omega)];exact a.o j c⟩
theorem OG{Z:List AF}{s:AS}{size:Int}{C:List Int}(c:FH Z s)(j:UL s size C){m:Nat}{x:AF}(f:s.a[m]?=some x)(o:I0 x.a=true\/IG x.a=true):((A9 (AE Z) x.b.toNat (m+1)).all (fun p=>(DX s.a (AE Z) size C p).isSome)=true->∃a b,((A9 (AE Z) x.b.toNat (m+1)).map (fun p=>(DX s.a (AE Z) size C p).getD 0))[0]?=some a/\((A9 (AE Z) x.b.toNat (m+1)).map (fun p=>(DX s.a (AE Z) size C p).getD 0))[((A9 (AE Z) x.b.toNat (m+1)).map (fun p=>(DX s.a (AE Z) size C p).getD 0)).length-1]?=some b/\(-1073741824<=a/\a<=1073741824)/\(-1073741824<=b/\b<=1073741824)/\DX s.a (AE Z) size C m=some (I9 x.a a b))/\((A9 (AE Z) x.b.toNat (m+1)).all (fun p=>(DX s.a (AE Z) size C p).isSome)=false->DX s.a (AE Z) size C m=none)/\x.b.toNat<=2:=by
 have d:=XC (size:=size) (C:=C) c f;cases l:I0 x.a with
 |true=>
  have g:=c.p f l;have k:=c.c f (by omega);rw[ag l]at d;have e:A9 (AE Z) x.b.toNat (m+1)=[m+1]:=by rw[g];rfl
  rw[e,d];cases i:DX s.a (AE Z) size C (m+1)with|none=>grind|some a=>have t:=ZW c j k.2 i;simp_all
 |false=>
  have n:IG x.a=true:=by grind
  have g:=c.h f n;have k:=c.c f (by omega);have q:=c.e f g;rw[ad (by grind),ag n]at d;have e:A9 (AE Z) x.b.toNat (m+1)=[m+1,AE Z (m+1)]:=by rw[g];rfl
  rw[e,d];cases i:DX s.a (AE Z) size C (m+1)with
  |none=>exact⟨fun h=>by grind,fun _=>rfl,by omega⟩|some a=>cases r:DX s.a (AE Z) size C (AE Z (m+1))with|none=>exact⟨fun h=>by grind,fun _=>rfl,by omega⟩|some b=>exact⟨fun _=>⟨a,b,by simp[i],by grind,ZW c j k.2 i,ZW c j q.2 r,rfl⟩,fun h=>by grind,by omega⟩
def UK(R:List AF)(a:Nat->Option Int)(i:Nat)(V:List Int)(I:List Bool):Prop:=V.length=R.length/\I.length=R.length/\∀j,j<R.length->(i<=j->V[j]?=some ((a j).getD 0)/\I[j]?=some (a j).isSome)/\(j<i->V[j]?=some 0/\I[j]?=some false)
theorem UK.a{R:List AF}{d:Nat->Option Int}{m:Nat}{V:List Int}{I:List Bool}(g:UK R d (m+1) V I)(i:m<R.length){e:List Int}{f:List Bool}(h1:e.length=V.length)(k:f.length=I.length)(l:e[m]?=some ((d m).getD 0))(n:f[m]?=some (d m).isSome)(o:∀j,j≠m->e[j]?=V[j]?/\f[j]?=I[j]?):UK R d m e f:=by
 obtain⟨a,b,c⟩:=g;refine⟨by omega,by omega,fun j p=>⟨fun h=>?_,fun h=>?_⟩⟩;.grind
 grind
def pO:List (Bool×Bool×List Operand):=[AO,AO,AO,AO,BP [.tmp 15],BP [.tmp 15],BP [.tmp 15],BP [.tmp 15],BP [.tmp 19],AJ]
def Ab:List (Bool×Bool×List Operand):=[AO,AO,AH [.tmp 31],AO,AO,AH [.tmp 31,.tmp 34],AJ,AJ]
section
variable {n N:Nat} {h:AA}
theorem OI{nm:ByteArray}{s:AS}{Z:List AF}{pv cv:Value}{lo lc:Nat}{size:Int}{C:List Int}(hG:FH Z s)(hF:UL s size C)(hp:CG lo h pv nm s)(hc:F6 lc h cv size C)(hl:s.a.length<2932031007403)(hfl:h.b<=h.a)(hn:s.a.length+60<n)(hN:s.a.length+40<N):∃h',AW prog (AN n) N 71 [pv,cv] h=some (.tuple #[qS (h.a+2) s.a.length s.a.length,qS (h.a+3) s.a.length s.a.length],h')/\∃P Cp V I,MV h h' P Cp V I/\UK s.a (DX s.a (AE Z) size C) 0 V I:=by
 obtain⟨vr,vq,vv,vt,vu,vo,rfl,p1,p2,p3,p4,p5,p6⟩:=id hp;obtain⟨U,rfl,pc⟩:=id hc;obtain⟨_,r,u,rfl,_⟩:=id p1.2;have x6:=(EC n).2;have htot:DS s=s.a.length+s.b.length+s.f.length+s.g.length+s.d.length+s.h.length:=rfl;refine EA (R:=fun h'=>∃P Cp V I,MV h h' P Cp V I/\UK s.a (DX s.a (AE Z) size C) 0 V I) func71 rfl (by simp[f71]) ?_;have hr:f71.results.toList=[.tmp 4,.tmp 5]:=rfl;have ca:=C9 [.string nm,.slice r s.a.length u,vq,vv,vt,vu,vo,iv s.c];have oa:=IV (nm:=nm) p1 p2 p3 p4 p5 p6;have cb:=C9 [iv size,U];have ob:[iv size,U].all one=true:=by simp only[az,bd,AL.a pc,JQ,ao]
 obtain⟨gA,gB,nG,fG,gO⟩:=OP h (.row [.string nm,.slice r s.a.length u,vq,vv,vt,vu,vo,iv s.c] 27 false false) (.row [iv size,U] 32 false false);simp only[eE,seval,DJ,ca,oa,cb,ob,EQ,HQ];generalize(h.d (.row [.string nm,.slice r s.a.length u,vq,vv,vt,vu,vo,iv s.c] 27 false false)).d (.row [iv size,U] 32 false false)=Q at*;have hsl:=hG.b.1;have npos:0<s.a.length:=by have:=hG.t.V;omega
 have g0:=fun h'=>Q6 p1.2 h';have x1:AI 1 (Q.c h.a)=some (.slice r s.a.length u):=by rw[gA];rfl
 have ML:∀H:AA,J7 prog H 25 (iv (s.a.length:Int)) (iv (s.a.length:Int))=some (qS H.a s.a.length s.a.length,H.d (.row (ints (List.replicate s.a.length 0)) 3 false false)):=fun H=>by
  have:=R0 (P:=prog) (h:=H) (t:=25) (e:=3) (z:=.int .i64 0) au B_ IZ GD rfl rfl (by decide) (by decide) (n:=s.a.length) (by omega);rw[show CF (Value.int IntKind.i64 0).cells.toList s.a.length=ints (List.replicate s.a.length 0)from WQ _]at this;exact this
 have u1:∀H:AA,J7 prog H 84 (iv (s.a.length:Int)) (iv (s.a.length:Int))=some (qS H.a s.a.length s.a.length,H.d (.row (EV (List.replicate s.a.length false)) 4 false false)):=fun H=>by have:=R0 (P:=prog) (h:=H) (t:=84) (e:=4) (z:=.bool false) gk MZ wG sR rfl rfl (by decide) (by decide) (n:=s.a.length) (by omega);rw[show CF (Value.bool false).cells.toList s.a.length=EV (List.replicate s.a.length false)from qH _]at this;exact this
 have q1:∀a,AI 1 ((Q.d a).c h.a)=some (.slice r s.a.length u):=fun a=>by rw[AV];exact x1
 have q2:∀a b,AI 1 (((Q.d a).d b).c h.a)=some (.slice r s.a.length u):=fun a b=>by rw[AV (by show h.a<Q.a+1;omega)];exact q1 a
 have g2:∀(a b:BO),let A:=(Q.d a).d b
   A.c Q.a=a/\A.c (Q.a+1)=b/\A.a=Q.a+2/\A.b=Q.b/\∀i,i<Q.a->A.c i=Q.c i:=fun a b=>⟨JG,MG,rfl,rfl,fun i hi=>by rw[AV (by show i<Q.a+1;omega),AV hi]⟩;have h4:=g2 (.row (ints (List.replicate s.a.length 0)) 3 false false) (.row (EV (List.replicate s.a.length false)) 4 false false);have u4:(h.a<Q.a)=True:=by simp;omega
 have qf:∀a,(Q.d a).f Q.b=Q.d a:=fun a=>rfl;have u5:∀a b,((Q.d a).d b).f Q.b=(Q.d a).d b:=fun a b=>rfl;refine WK.a (fs:=pO) (by kernel_rfl) ?_;unfold pO;iterate 10
  refine DG x6 ?_;simp only[rG,seval,AB,AD,AC,A7,BL,BY,CK,CJ,x1,u4,g0,ML,qf,q1,u1,u5]
 refine DF ?_;obtain⟨ga,gb,n4,f4,o4⟩:=h4;have xB:AI 1 (((Q.d (.row (ints (List.replicate s.a.length 0)) 3 false false)).d (.row (EV (List.replicate s.a.length false)) 4 false false)).c h.a)=some (.slice r s.a.length u):=q2 _ _;have w9:IntKind.i64.wrap ((s.a.length:Int)-1)=(s.a.length:Int)-1:=BR;simp only[eE,seval,ab,CK,CJ,xB,g0,w9];generalize(Q.d (.row (ints (List.replicate s.a.length 0)) 3 false false)).d (.row (EV (List.replicate s.a.length false)) 4 false false)=B at*;rw[nG]at ga gb;have v0:MV h B [.string nm,.slice r s.a.length u,vq,vv,vt,vu,vo,iv s.c] [iv size,U] (List.replicate s.a.length 0) (List.replicate s.a.length false):=⟨by rw[o4 _ (by omega)];exact gA,by rw[o4 _ (by omega)];exact gB,ga,gb,by omega,by omega,fun i hi=>by rw[o4 i (by omega)];exact gO i hi⟩;have v1:UK s.a (DX s.a (AE Z) size C) s.a.length (List.replicate s.a.length 0) (List.replicate s.a.length false):=⟨by simp,by simp,fun j D=>⟨fun h9=>by omega,fun _=>⟨by rw[gG,ag D],by rw[gG,ag D]⟩⟩⟩;refine WK.b (fun k g=>g.T.a 2=qP h.a 0/\g.T.a 3=qP (h.a+1) 0/\g.T.a 6=qS (h.a+2) s.a.length s.a.length/\g.T.a 7=qS (h.a+3) s.a.length s.a.length/\g.T.a 8=iv ((s.a.length:Int)-1-(k:Int))/\k<=s.a.length/\∃V I,MV h g.h [.string nm,.slice r s.a.length u,vq,vv,vt,vu,vo,iv s.c] [iv size,U] V I/\UK s.a (DX s.a (AE Z) size C) (s.a.length-k) V I) s.a.length (by omega) ?_ ?_;.exact⟨by simp only[eE,seval],by simp only[eE,seval],by simp only[eE,seval,nG],by simp only[eE,seval,nG],by simp only[eE,seval]<;>omega,by omega,_,_,v0,v1⟩
 rintro k⟨T,H⟩hk⟨t2,t3,t6,t7,t8,x7,V,I,hT,hK⟩;simp only at t2 t3 t6 t7 t8 hT;by_cases W:k<s.a.length;rotate_left
 .have c1:decide ((s.a.length:Int)-1-(k:Int)>=0)=false:=by simp;omega
  have v2:k=s.a.length:=by omega
  subst v2;rw[jc]at hK;simp only[eE,seval,↓eP,hr,t6,t7,t8,c1];exact⟨_,_,_,_,hT,hK⟩
 obtain⟨m,hm⟩:∃m,s.a.length=k+1+m:=⟨s.a.length-(k+1),by omega⟩;have y:m<s.a.length:=by omega
 have em:(s.a.length:Int)-1-(k:Int)=(m:Int):=by omega
 rw[em]at t8;rw[show s.a.length-k=m+1 by omega]at hK;have c1:decide ((m:Int)>=0)=true:=by simp
 obtain⟨x,hx⟩:∃x,s.a[m]?=some x:=⟨_,aa y⟩;have hnx:=hT.n;have hfl':=hT.f;obtain⟨hVl,hIl,x8⟩:=id hK;have v3:A8 H (.slice r s.a.length u) s.a:=p1.1.a (by omega) hT.o;obtain⟨ia,pa,ea,hia,_,_,_,_,_,la⟩:=v3.b hx;have v4:AI 1 (H.c h.a)=some (.slice r s.a.length u):=by rw[hT.p];rfl
 have lC:AX 2 0 (H.c (h.a+1))=some (.agg #[iv size,U]):=by rw[hT.c];rfl
 have v5:F6 lc H (.agg #[iv size,U]) size C:=hc.a (by omega) fun j _ D=>hT.o j D;obtain⟨l,g4,n1,f1,o1⟩:=Nj (n:=n) (x:=x) v5 (fun h9=>by have:=hG.k m x hx (by rw[h9];rfl);have:=hF.a;omega) (by omega);have E:MV h l [.string nm,.slice r s.a.length u,vq,vv,vt,vu,vo,iv s.c] [iv size,U] V I:=hT.d n1 f1 fun j D=>o1 j (by omega);have w1:IntKind.i64.wrap ((m:Int)-1)=(s.a.length:Int)-1-((k+1:Nat):Int):=by rw[BR];omega
 have ek:s.a.length-(k+1)=m:=by omega
 simp only[eE,seval,↓eP,t8,c1];refine WK.a (fs:=Ab) (by kernel_rfl) ?_;unfold Ab;iterate 8
  refine DG x6 ?_;simp only[rG,seval,AB,AD,AC,A7,BL,t2,CK,CJ,v4,t8,ea,FX,la,t3,G7,lC,g4]
 refine DF ?_;have x9:=XC (size:=size) (C:=C) hG hx;obtain⟨y0,v6⟩:=(x8 m y).2 (by omega);have g5:=FO (id:=h.a+2) (n:=s.a.length) (c:=s.a.length) (i:=m) y;have F:=WF (id:=h.a+3) (n:=s.a.length) (c:=s.a.length) (i:=m) y;have g6:l.f H.b=l:=by rw[<-f1];exact C0 l
 have hnx1:=E.n;have hfl1:=E.f;have v7:IntKind.i64.wrap ((m:Int)-1)=IntKind.i64.wrap ((m:Int)-1):=rfl;have h5:FR size C x≠none\/(FR size C x=none/\(I0 x.a=true\/IG x.a=true))\/(FR size C x=none/\I0 x.a=false/\IG x.a=false):=by cases FR size C x<;>cases I0 x.a<;>cases IG x.a<;>simp
 rcases h5 with G|⟨G,y1⟩|⟨G,v8,v9⟩
 .obtain⟨v,hv⟩:∃v,FR size C x=some v:=Option.ne_none_iff_exists'.1 G;have y2:I0 x.a=false/\IG x.a=false:=Ud hv;have f:DX s.a (AE Z) size C m=some v:=by rw[x9,ad (by rw[y2.1];decide),ad (by rw[y2.2];decide)];exact hv
  have e:EX size C x=.iface 213 (iv v):=by unfold EX;rw[hv]
  rw[e];have sb:BD prog l 4 (qP (h.a+3) m) (.bool true)=some (l.e (h.a+3) (.row (EV (I.set m true)) 4 false false)):=d_ E.b (by omega) (by omega);have J:=E.a (I.set m true);have n2:(l.e (h.a+3) (.row (EV (I.set m true)) 4 false false)).a=l.a:=rfl;have f2:(l.e (h.a+3) (.row (EV (I.set m true)) 4 false false)).b=l.b:=rfl;generalize l.e (h.a+3) (.row (EV (I.set m true)) 4 false false)=H2 at*;have lb:AI m (H2.c (h.a+3))=some (.bool true):=by rw[J.b];exact U8 (br (by omega))
  have X:=Om (n:=n) (h:=H2) (v:=v) (lv:=Z0) (by omega);have sv:BD prog H2 3 (qP (h.a+2) m) (iv v)=some (H2.e (h.a+2) (.row (ints (V.set m v)) 3 false false)):=LZ J.v (by omega) (by omega);simp only[eE,seval,↓eP,t2,t3,t6,t7,t8,sN,g6,F,sb,as_n,F4,lb,Tv,X,g5,sv,w1];exact⟨W,by omega,_,_,J.e _,by rw[ek];exact hK.a y (by rw[bO]) (by rw[bO]) (by rw[f,br (by omega)];rfl) (by rw[f,br (by omega)];rfl) fun j D=>⟨bf (bc D),bf (bc D)⟩⟩
 .obtain⟨mv,g7⟩:∃mv,mv=EX size C x:=⟨_,rfl⟩;rw[<-g7];have w0:=vM.1 y1;have g8:(LX x.a=true/\mv=.iface 248 (J6 x.a))\/(LX x.a=false/\QB x.a=true/\mv=.iface 249 (J6 x.a)):=by cases h9:LX x.a with
   |true=>exact .inl ⟨rfl,by rw[g7];unfold EX;rw[G];simp[h9]⟩|false=>
    have h8:QB x.a=true:=by
     rcases w0 with h7|h7;.rw[h9]at h7;cases h7
     .exact h7
    exact .inr ⟨rfl,h8,by rw[g7];unfold EX;rw[G];simp[h9,h8]⟩
  have w2:LH prog mv 213 true=some (.tuple #[iv 0,.bool false]):=by
   rcases g8 with⟨_,e⟩|⟨_,_,e⟩;.rw[e];exact as_r _
   .rw[e];exact as_h _
  have w3:CT prog .eql 211 (.tmp 38) (.const .nilIface) mv .nilIface=some (.bool false):=by
   rcases g8 with⟨_,e⟩|⟨_,_,e⟩;.rw[e];exact sN _ _
   .rw[e];exact sN _ _
  have sb:BD prog l 4 (qP (h.a+3) m) (.bool true)=some (l.e (h.a+3) (.row (EV (I.set m true)) 4 false false)):=d_ E.b (by omega) (by omega);have J:=E.a (I.set m true);have n2:(l.e (h.a+3) (.row (EV (I.set m true)) 4 false false)).a=l.a:=rfl;have f2:(l.e (h.a+3) (.row (EV (I.set m true)) 4 false false)).b=l.b:=rfl;have w4:AI 1 ((l.e (h.a+3) (.row (EV (I.set m true)) 4 false false)).c h.a)=some (.slice r s.a.length u):=by rw[J.p];rfl
  have w5:A8 (l.e (h.a+3) (.row (EV (I.set m true)) 4 false false)) (.slice r s.a.length u) s.a:=p1.1.a (by omega) J.o;obtain⟨zz,w6,_,w7⟩:=hG.z hx;obtain⟨kv,H5,g9,x0,f5,n5,o5⟩:=bB (n:=n) hG.t hG.b w5 w6 (by omega) (by omega) (by omega);rw[<-w7]at x0;have w8:=x0.a (af _);have g1:=fun h'=>J8 w8 h';have x7:((A9 (AE Z) x.b.toNat (m+1)).map (fun(k:Nat)=>(k:Int))).length=x.b.toNat:=by rw[bw,OE]
  obtain⟨k0,hch,hel,hei⟩:=hG.a hx;rw[x7,show((x.b.toNat:Nat):Int)=x.b by omega]at g1;have y3:MV h H5 [.string nm,.slice r s.a.length u,vq,vv,vt,vu,vo,iv s.c] [iv size,U] V (I.set m true):=J.d (by omega) (by omega) fun j D=>o5 j (by omega);obtain⟨y4,hno,hk2⟩:=OG (size:=size) (C:=C) hG hF hx y1;simp only[eE,seval,↓eP,t2,t7,t8,w3,g6,F,sb,w2,ab,CK,CJ,w4,g9,g1];generalize l.e (h.a+3) (.row (EV (I.set m true)) 4 false false)=H2 at*;generalize y5:A9 (AE Z) x.b.toNat (m+1)=o at*;have hksl:o.length=x.b.toNat:=by rw[<-y5,OE]
  refine WK.b (fun q g=>g.T.a 2=qP h.a 0/\g.T.a 3=qP (h.a+1) 0/\g.T.a 6=qS (h.a+2) s.a.length s.a.length/\g.T.a 7=qS (h.a+3) s.a.length s.a.length/\g.T.a 8=iv (m:Int)/\g.T.a 9=mv/\g.T.a 53=kv/\g.T.a 54=iv x.b/\g.T.a 55=iv (q:Int)/\q<=x.b.toNat/\H5.a<=g.h.a/\(∀j,h.a+4<=j->j<H5.a->g.h.c j=H5.c j)/\∃w,g.T.a 10=w/\GM g.h H5.a w ((o.take q).map (fun p=>(DX s.a (AE Z) size C p).getD 0))/\MV h g.h [.string nm,.slice r s.a.length u,vq,vv,vt,vu,vo,iv s.c] [iv size,U] V (I.set m ((o.take q).all (fun p=>(DX s.a (AE Z) size C p).isSome)))) x.b.toNat (by omega) ?_ ?_;.exact⟨by simp only[eE,seval,t2],by simp only[eE,seval,t3],by simp only[eE,seval,t6],by simp only[eE,seval,t7],by simp only[eE,seval,t8],by simp only[eE,seval],by simp only[eE,seval],by simp only[eE,seval],by simp only[eE,seval]<;>rfl,by omega,af _,fun _ _ _=>rfl,Z0,by simp only[eE,seval],.inl ⟨rfl,rfl⟩,y3⟩
  rintro q⟨T4,H6⟩hq⟨u2,u3,u6,u7,u8,u9,x2,O,S,hqk,n6,o6,w,Y,hL,d⟩;simp only at u2 u3 u6 u7 u8 u9 x2 O S n6 o6 Y hL d;by_cases y6:q<x.b.toNat;rotate_left
  .have c3:decide ((q:Int)<x.b)=false:=by simp;omega
   have hq9:q=x.b.toNat:=by omega
   subst hq9;rw[di (by omega)]at hL d;have y7:=d.n;have y8:=d.f;have lb:AI m (H6.c (h.a+3))=some (.bool (o.all (fun p=>(DX s.a (AE Z) size C p).isSome))):=by rw[d.b];exact U8 (br (by omega))
   cases K:o.all (fun p=>(DX s.a (AE Z) size C p).isSome)with
   |false=>
    rw[K]at lb d;have f:=hno K;simp only[eE,seval,↓eP,u2,u3,u6,u7,u8,O,S,c3,F,F4,lb,w1];exact⟨W,by omega,_,_,d,by rw[ek];exact hK.a y rfl (by rw[bO]) (by rw[f];exact y0) (by rw[f,br (by omega)];rfl) fun j D=>⟨rfl,bf (bc D)⟩⟩|true=>
    rw[K]at lb d;obtain⟨a,b,y9,z0,z1,z2,f⟩:=y4 K;have z3:=hL.a (af _);have sv:BD prog H6 3 (qP (h.a+2) m) (iv (I9 x.a a b))=some (H6.e (h.a+2) (.row (ints (V.set m (I9 x.a a b))) 3 false false)):=LZ d.v (by omega) (by omega);have h0:UK s.a (DX s.a (AE Z) size C) m (V.set m (I9 x.a a b)) (I.set m true):=hK.a y (by rw[bO]) (by rw[bO]) (by rw[f,br (by omega)];rfl) (by rw[f,br (by omega)];rfl) fun j D=>⟨bf (bc D),bf (bc D)⟩;have L:(o.map (fun p=>(DX s.a (AE Z) size C p).getD 0)).length<1000:=by rw[bw];omega
    rcases g8 with⟨x3,e⟩|⟨x3,hh1,e⟩;.have X:=Oy (n:=n) x3 z3 y9 z0 z1 z2 L (by omega);rw[e]at u9;simp only[eE,seval,↓eP,u2,u3,u6,u7,u8,u9,O,S,Y,c3,F,F4,lb,Wx,X,g5,sv,w1];exact⟨W,by omega,_,_,d.e _,by rw[ek];exact h0⟩
    .have X:=OF (n:=n) x3 hh1 z3 y9 z0 z1 z2 L (by omega);rw[e]at u9;simp only[eE,seval,↓eP,u2,u3,u6,u7,u8,u9,O,S,Y,c3,F,F4,lb,Oi,X,g5,sv,w1];exact⟨W,by omega,_,_,d.e _,by rw[ek];exact h0⟩
  have c3:decide ((q:Int)<x.b)=true:=by simp;omega
  obtain⟨p,x4⟩:∃p,o[q]?=some p:=⟨_,aa (by omega)⟩;obtain⟨hip,x5⟩:=hG.d (k:=q) hx (by rw[y5];exact x4);have y7:=d.n;have y8:=d.f;have hnx5:=y3.n;have z4:AK (h.a+4) H6 kv (o.map (fun(k:Nat)=>(k:Int))):=AK.U (x0.a (by omega)) (by omega) fun j h1 h2=>o6 j h1 h2;obtain⟨ip,pp,ep,hip2,lp⟩:=AK.V z4 (i:=q) (x:=(p:Int)) (by rw[bT,x4];rfl);have wq:=DU q;obtain⟨hVp,hIp⟩:=(x8 p x5).1 (by omega);have z5:=FO (id:=h.a+2) (n:=s.a.length) (c:=s.a.length) (i:=p) x5;have jxb:=WF (id:=h.a+3) (n:=s.a.length) (c:=s.a.length) (i:=p) x5;have lv:AI p (H6.c (h.a+2))=some (iv ((DX s.a (AE Z) size C p).getD 0)):=by rw[d.v];exact KM hVp
  obtain⟨w',H7,g3,z6,f7,n7,o7⟩:=S6 (x:=(DX s.a (AE Z) size C p).getD 0) hL (by omega) (by omega) (by rw[bw,fu];omega);have h3:=d.d (H':=H7) (by omega) f7 fun j D=>o7 j (by omega);have z7:o.take (q+1)=o.take q++[p]:=by rw[cY,x4];rfl
  have M:(o.take (q+1)).all (fun p=>(DX s.a (AE Z) size C p).isSome)=((o.take q).all (fun p=>(DX s.a (AE Z) size C p).isSome)&&(DX s.a (AE Z) size C p).isSome):=by rw[z7,iy];simp
  have z8:(o.take q).map (fun p=>(DX s.a (AE Z) size C p).getD 0)++[(DX s.a (AE Z) size C p).getD 0]=(o.take (q+1)).map (fun p=>(DX s.a (AE Z) size C p).getD 0):=by rw[z7,fw];rfl
  rw[z8]at z6;have h6:AI m (H7.c (h.a+3))=some (.bool ((o.take q).all (fun p=>(DX s.a (AE Z) size C p).isSome))):=by rw[h3.b];exact U8 (br (by omega))
  have lp7:AI p (H7.c (h.a+3))=some (.bool (DX s.a (AE Z) size C p).isSome):=by rw[h3.b];exact U8 (by rw[bf (by omega)];exact hIp)
  have z9:∀v:Bool,BD prog H7 4 (qP (h.a+3) m) (.bool v)=some (H7.e (h.a+3) (.row (EV (I.set m v)) 4 false false)):=fun v=>by
   have:=d_ (x:=v) (i:=m) h3.b (by rw[bO];omega) (by omega);rw[List.set_set]at this;exact this
  have hnx7:=h3.n;have h0:∀v:Bool,v=(o.take (q+1)).all (fun p=>(DX s.a (AE Z) size C p).isSome)->GM (H7.e (h.a+3) (.row (EV (I.set m v)) 4 false false)) H5.a w' ((o.take (q+1)).map (fun p=>(DX s.a (AE Z) size C p).getD 0))/\MV h (H7.e (h.a+3) (.row (EV (I.set m v)) 4 false false)) [.string nm,.slice r s.a.length u,vq,vv,vt,vu,vo,iv s.c] [iv size,U] V (I.set m ((o.take (q+1)).all (fun p=>(DX s.a (AE Z) size C p).isSome)))/\∀j,h.a+4<=j->j<H5.a->(H7.e (h.a+3) (.row (EV (I.set m v)) 4 false false)).c j=H5.c j:=fun v hv=>by refine⟨z6.c (af _) fun j h1 h2=>AP (by omega) (by omega),by rw[<-hv];exact h3.a _,fun j h1 h2=>by rw[AP (by omega) (by omega),o7 j h2];exact o6 j h1 h2⟩
  have u0:∀v:Bool,H5.a<=(H7.e (h.a+3) (.row (EV (I.set m v)) 4 false false)).a:=fun v=>by show H5.a<=H7.a;omega
  cases hb:(o.take q).all (fun p=>(DX s.a (AE Z) size C p).isSome)with
  |false=>
   rw[hb]at h6 M;simp only[eE,seval,↓eP,u2,u3,u6,u7,u8,u9,x2,O,S,Y,c3,ep,AM,lp,z5,lv,KE,g3,F,F4,h6,z9,wq];obtain⟨a1,a2,a3⟩:=h0 false (by simp[M]);exact⟨y6,by omega,u0 _,a3,a1,a2⟩|true=>
   rw[hb]at h6 M;simp only[eE,seval,↓eP,u2,u3,u6,u7,u8,u9,x2,O,S,Y,c3,ep,AM,lp,z5,lv,KE,g3,F,F4,h6,jxb,lp7,z9,wq];obtain⟨a1,a2,a3⟩:=h0 (DX s.a (AE Z) size C p).isSome (by rw[M,fk]);exact⟨y6,by omega,u0 _,a3,a1,a2⟩
 .have hr0:LX x.a=false:=by cases h9:LX x.a with|false=>rfl|true=>rcases vM.2 (.inl h9)with h8|h8<;>simp_all
  have hh0:QB x.a=false:=by cases h9:QB x.a with|false=>rfl|true=>rcases vM.2 (.inr h9)with h8|h8<;>simp_all
  have e:EX size C x=.nilIface:=by unfold EX;rw[G];simp[hr0,hh0]
  have f:DX s.a (AE Z) size C m=none:=by rw[x9,ad (by rw[v8];decide),ad (by rw[v9];decide)];exact G
  rw[e]
  simp only[eE,seval,↓eP,t2,t3,t6,t7,t8,Ui,g6,w1]
  exact⟨W,by omega,V,I,E,by rw[ek];exact hK.a y rfl rfl (by rw[f];exact y0) (by rw[f];exact v6) fun _ _=>⟨rfl,rfl⟩⟩
end
def bI(b:Bool):Int:=if b=true then 1 else 0
def FB(k a b:Int):Int:=if k=39 then(if b<a then b else a)else if k=40 then(if b>a then b else a)else if k=43 then H_ (a*b)else if k=44 then OB a b else if k=45 then H_ (a+b)else if k=46 then H_ (a-b)else if k=47 then bI (a==b)else if k=48 then bI (a !=b)else if k=49 then bI (decide (a<b))else if k=50 then bI (decide (a<=b))else if k=51 then bI (decide (a>b))else if k=52 then bI (decide (a>=b))else if k=53 then a*b else(if b>a then b else a)
theorem Et{k:Int}(a:IG k=true):k=39\/k=40\/k=43\/k=44\/k=45\/k=46\/k=47\/k=48\/k=49\/k=50\/k=51\/k=52\/k=53\/k=54:=by unfold IG at a;simp_all
section
variable {a b:Int}
theorem Y7{k:Int}(h:LX k=true):I9 k a b=H_ (LM k a b):=by unfold I9;grind
theorem V1{k:Int}(h:LX k=false):I9 k a b=bI (OD k a b):=by unfold I9 bI;grind
theorem OR{k:Int}(h:IG k=true)(i:-1073741824<=a/\a<=1073741824)(j:-1073741824<=b/\b<=1073741824)(c:53<=k->(a=0\/a=1)/\(b=0\/b=1)):FB k a b=I9 k a b:=by
 rcases Et h with rfl|rfl|rfl|rfl|rfl|rfl|rfl|rfl|rfl|rfl|rfl|rfl|rfl|rfl
 .rw[Y7 rfl];have e:LM 39 a b=if b<a then b else a:=by unfold LM;simp
  have d:FB 39 a b=if b<a then b else a:=by assumption
  rw[e,d,j_ (by omega)]
 .rw[Y7 rfl];have e:LM 40 a b=if b>a then b else a:=by unfold LM;simp
  have d:FB 40 a b=if b>a then b else a:=by assumption
  rw[e,d,j_ (by omega)]
 .rw[Y7 rfl];have e:LM 43 a b=a*b:=by unfold LM;simp
  have d:FB 43 a b=H_ (a*b):=by unfold FB;simp
  rw[e,d]
 .rw[Y7 rfl];have e:LM 44 a b=OB a b:=by unfold LM;simp
  have d:FB 44 a b=OB a b:=by assumption
  rw[e,d,j_];unfold OB;split;.omega
  .exact Fz _
 .rw[Y7 rfl];have e:LM 45 a b=a+b:=by unfold LM;simp
  have d:FB 45 a b=H_ (a+b):=by unfold FB;simp
  rw[e,d]
 .rw[Y7 rfl];have e:LM 46 a b=a-b:=by unfold LM;simp
  have d:FB 46 a b=H_ (a-b):=by unfold FB;simp
  rw[e,d]
 .rw[V1 rfl];unfold FB OD;simp
 .rw[V1 rfl];unfold FB OD;simp
 .rw[V1 rfl];unfold FB OD;simp
 .rw[V1 rfl];unfold FB OD;simp
 .rw[V1 rfl];unfold FB OD;simp
 .rw[V1 rfl];unfold FB OD;simp
 .obtain⟨f,g⟩:=c (by decide);rw[V1 rfl];rcases f with rfl|rfl<;>rcases g with rfl|rfl<;>simp[FB,OD,bI]
 .obtain⟨f,g⟩:=c (by decide);rw[V1 rfl];rcases f with rfl|rfl<;>rcases g with rfl|rfl<;>simp[FB,OD,bI]
end
section
variable {n N:Nat} {h:AA}
theorem O7{b:Bool}(c:0<n):AN n 228 [.bool b] h=some (iv (bI b),h):=by obtain⟨n,rfl⟩:=BX c;refine FA BF rfl ?_;refine DO func228 rfl (by simp) ?_;have a:f228.results.toList=[.tmp 2]:=rfl;cases b with|true=>simp only[eE,seval,↓eP,a,bI]|false=>simp only[eE,seval,↓eP,a,bI]
theorem Pd{k a b:Int}(g:IG k=true)(i:-1073741824<=a/\a<=1073741824)(j:-1073741824<=b/\b<=1073741824)(p:3<n):AW prog (AN n) N 169 [iv k,iv a,iv b] h=some (iv (FB k a b),h):=by
 refine DO func169 rfl (by simp) ?_;have c:f169.results.toList=[.tmp 6]:=rfl;have q:=Fc i j;have f:IntKind.i64.wrap (a*b)=a*b:=BR;have l:IntKind.i64.wrap (a+b)=a+b:=BR;have m:IntKind.i64.wrap (a-b)=a-b:=BR;have e:=fun x=>Kn (n:=n) (h:=h) (x:=x) (by omega);have o:=za (n:=n) (h:=h) (a:=a) (b:=b) ⟨by omega,by omega⟩ ⟨by omega,by omega⟩ (by omega);have d:=fun x=>O7 (n:=n) (h:=h) (b:=x) (by omega);rcases Et g with rfl|rfl|rfl|rfl|rfl|rfl|rfl|rfl|rfl|rfl|rfl|rfl|rfl|rfl
 .rw[show FB 39 a b=if b<a then b else a by unfold FB;simp];simp only[eE,seval,↓eP,c]
 .rw[show FB 40 a b=if b>a then b else a by unfold FB;simp];simp only[eE,seval,↓eP,Int.reduceBEq,c]
 .rw[show FB 43 a b=H_ (a*b)by unfold FB;simp];simp only[eE,seval,↓eP,Int.reduceBEq,c,f,e]
 .rw[show FB 44 a b=OB a b by unfold FB;simp];simp only[eE,seval,↓eP,Int.reduceBEq,c,o]
 .rw[show FB 45 a b=H_ (a+b)by unfold FB;simp];simp only[eE,seval,↓eP,Int.reduceBEq,c,l,e]
 .rw[show FB 46 a b=H_ (a-b)by unfold FB;simp];simp only[eE,seval,↓eP,Int.reduceBEq,c,m,e]
 .rw[show FB 47 a b=bI (a==b)by unfold FB;simp];simp only[eE,seval,↓eP,Int.reduceBEq,c,d]
 .rw[show FB 48 a b=bI (a !=b)by unfold FB;simp];simp only[eE,seval,↓eP,Int.reduceBEq,c,d]
 .rw[show FB 49 a b=bI (decide (a<b))by unfold FB;simp];simp only[eE,seval,↓eP,Int.reduceBEq,c,d]
 .rw[show FB 50 a b=bI (decide (a<=b))by unfold FB;simp];simp only[eE,seval,↓eP,Int.reduceBEq,c,d]
 .rw[show FB 51 a b=bI (decide (a>b))by unfold FB;simp];simp only[eE,seval,↓eP,Int.reduceBEq,c,d]
 .rw[show FB 52 a b=bI (decide (a>=b))by unfold FB;simp];simp only[eE,seval,↓eP,Int.reduceBEq,c,d]
 .rw[show FB 53 a b=a*b by unfold FB;simp];simp only[eE,seval,↓eP,Int.reduceBEq,c,f]
 .rw[show FB 54 a b=if b>a then b else a by unfold FB;simp];simp only[eE,seval,↓eP,Int.reduceBEq,c]
theorem Pi{k a b:Int}(c:IG k=true)(d:-1073741824<=a/\a<=1073741824)(e:-1073741824<=b/\b<=1073741824)(f:4<n):AN n 169 [iv k,iv a,iv b] h=some (iv (FB k a b),h):=by obtain⟨n,rfl⟩:=BX f;exact FA BF rfl (Pd (n:=n) (N:=n) c d e (by omega))
end
section
variable {call:AY} {N:Nat} {h:AA}
theorem Pq{Z L:List AF}{v:Value}{at_ q:Nat}(a:KW L Z)(u:A8 h v L)(j:FQ Z at_ q)(k:L.length<30000000000000)(K:L.length+3<N:=by omega):AW prog call N 168 [v,iv at_] h=some (iv q,h):=by
 refine DO func168 rfl (by simp) ?_;have w:f168.results.toList=[.tmp 4]:=rfl;have l:=j.b;have M:=a.1;simp only[eE,seval,w];refine WK.b (fun i c=>c.h=h/\c.T.a 0=v/\c.T.a 1=iv ((at_+i:Nat):Int)/\∃r:Nat,c.T.a 5=iv r/\F_ Z r (at_+i) q) (q-at_) (by omega) ?_ ?_;.exact⟨rfl,by simp only[eE,seval],by simp only[eE,seval,fe],1,by simp only[eE,seval],q,j,l.1,l.2,rfl⟩
 rintro i⟨O,P⟩Q⟨rfl,m,d,r,e,n⟩;simp only at m d e;cases r with
 |zero=>
  have f:at_+i=q:=n;have o:decide (((0:Nat):Int)>0)=false:=rfl;rw[f]at d;simp only[eE,seval,↓eP,d,e]|succ r=>
  obtain⟨R,z,S,T,s⟩:=n;have A:=HM _ _ _ s;have o:decide (((r+1:Nat):Int)>0)=true:=by simp
  obtain⟨x,B,C,_,b⟩:=z.a;obtain⟨y,D,g⟩:=a.2 _ x B;obtain⟨U,p,E,F,V,W,X,Y,t,lr⟩:=u.b D;rw[g]at t;have G:=HM _ _ _ b;have H:IntKind.i64.wrap (((r+1:Nat):Int)-1)=(r:Int):=by rw[BR];omega
  have I:IntKind.i64.wrap ((r:Int)+x.b)=((x.b.toNat+r:Nat):Int):=by rw[BR];omega
  have J:IntKind.i64.wrap (((at_+i:Nat):Int)+1)=((at_+(i+1):Nat):Int):=by rw[BR];omega
  simp only[eE,seval,↓eP,rP,m,d,e,o,E,t,H,I,J];exact⟨by omega,_,rfl,uC _ _ _ _ _ b s⟩
theorem Tz{n:Nat}{Z L:List AF}{v:Value}{at_ q:Nat}(b:KW L Z)(c:A8 h v L)(d:FQ Z at_ q)(a:L.length<30000000000000)(e:L.length+5<n):AN n 168 [v,iv at_] h=some (iv q,h):=by
 obtain⟨n,rfl⟩:=BX e;exact FA BF rfl (Pq b c d a)
theorem Pr{n:Nat}{Z L:List AF}{v:Value}{at_:Nat}{x:AF}(ht:DM Z)(d:KW L Z)(Q:A8 h v L)(t:Z[at_]?=some x)(S:L.length<2932031007403)(hn:L.length+10<n)(hN:L.length+3<N)(h0:h.b<=h.a):∃s a,AW prog (AN n) N 100 [v,iv at_] h=some (s,a)/\(GM a h.a s ((A9 (AE Z) x.b.toNat (at_+1)).map (fun(k:Nat)=>(k:Int)))/\a.b=h.b/\h.a<=a.a/\∀i,i<h.a->a.c i=h.c i):=by
 refine G_ (R:=fun s a=>GM a h.a s ((A9 (AE Z) x.b.toNat (at_+1)).map (fun(k:Nat)=>(k:Int)))/\a.b=h.b/\h.a<=a.a/\∀i,i<h.a->a.c i=h.c i) func100 rfl (by simp) ?_;have hr:f100.results.toList=[.tmp 4]:=rfl;have u:=(ae.1 t).1;have hZ:=d.1;have T:=ht.U u;obtain⟨x',e,h1,_,f⟩:=T.a;rw[t]at e;cases e;have hq:=T.b;have h2:=HM _ _ _ f;obtain⟨y,hy,z⟩:=d.2 _ x t;have w1:=DU at_;simp only[eE,seval,hr,w1];refine WK.b (fun i b=>b.T.a 0=v/\b.T.a 1=iv (at_:Int)/\b.T.a 7=iv i/\i<=x.b.toNat/\h.a<=b.h.a/\b.h.b=h.b/\(∀j,j<h.a->b.h.c j=h.c j)/\∃p l w,b.T.a 6=iv ((p:Nat):Int)/\b.T.a 5=w/\GM b.h h.a w (l.map (fun(k:Nat)=>(k:Int)))/\l.length=i/\l++A9 (AE Z) (x.b.toNat-i) p=A9 (AE Z) x.b.toNat (at_+1)/\F_ Z (x.b.toNat-i) p (AE Z at_)) x.b.toNat (by omega) ?_ ?_;.exact⟨by simp only[eE,seval],by simp only[eE,seval],by simp only[eE,seval]<;>rfl,by omega,af _,rfl,fun _ _=>rfl,at_+1,[],Z0,by simp only[eE,seval],by simp only[eE,seval],.inl ⟨rfl,rfl⟩,rfl,rfl,f⟩
 rintro i⟨T1,H1⟩hi⟨A,B,C,h3,D,U,g,p,l,w,V,E,F,h4,c,W⟩;simp only at A B C D U g V E F;have G:A8 H1 v L:=Q.a (by omega) g;obtain⟨id,pp,X,h5,l0,l1,l2,l3,H,lr⟩:=G.b hy;rw[z]at H;by_cases I:i<x.b.toNat
 .have J:decide ((i:Int)<x.b)=true:=by grind
  obtain⟨r,K⟩:∃r,x.b.toNat-i=r+1:=⟨x.b.toNat-i-1,by omega⟩;rw[K]at W c;obtain⟨Y,s1,s2,s3,s4⟩:=W;have h6:=HM _ _ _ s4;have M:=JN s1;obtain⟨w',H',m,h7,fH,nH,oH⟩:=S6 (x:=(p:Int)) F D (by omega) (by grind);have O:A8 H' v L:=Q.a (by omega) fun j o=>(oH j o).trans (g j o);have q:=Tz (n:=n) d O s1 (by omega) (by omega);have w2:=DU i;simp only[eE,seval,↓eP,A,B,C,E,V,X,YW,AM,H,J,KE,m,q,w2];refine⟨I,by omega,by omega,by omega,fun j o=>(oH j o).trans (g j o),Y,l++[p],w',rfl,rfl,?_,by grind,?_,?_⟩;.grind
  .rw[gh,<-c,show x.b.toNat-(i+1)=r by omega];show l++(p::A9 (AE Z) r Y)=l++(p::A9 (AE Z) r (AE Z p));rw[M]
  .grind
 .have J:decide ((i:Int)<x.b)=false:=by grind
  rw[show x.b.toNat-i=0 by omega]at c;have P:l=A9 (AE Z) x.b.toNat (at_+1):=by
   rw[<-c];exact(dm l).symm
  subst P;simp only[eE,seval,↓eP,A,B,C,E,X,YW,AM,H,J];exact⟨F,U,D,g⟩
theorem zB{n:Nat}{Z L:List AF}{v:Value}{at_:Nat}{x:AF}(c:DM Z)(d:KW L Z)(g:A8 h v L)(j:Z[at_]?=some x)(a:L.length<2932031007403)(l:L.length+20<n)(e:h.b<=h.a):∃f b,AN n 100 [v,iv at_] h=some (f,b)/\(GM b h.a f ((A9 (AE Z) x.b.toNat (at_+1)).map (fun(k:Nat)=>(k:Int)))/\b.b=h.b/\h.a<=b.a/\∀i,i<h.a->b.c i=h.c i):=by obtain⟨n,rfl⟩:=BX l;exact GY BF (Pr (n:=n) (N:=n) c d g j a (by omega) (by omega) e) fun f o m _ c=>⟨c.1.b m _ _,rfl,af _,fun _ _=>rfl⟩
end
def xJ:List (Bool×Bool×List Operand):=[AO,AH [.tmp 3],AH [.tmp 3,.tmp 4],AH [.tmp 3,.tmp 4],AH [.tmp 3,.tmp 4],AJ,AJ]
def w_:List (Bool×Bool×List Operand):=[DT,DT,BP [.tmp 57],AH [.tmp 57],AH [.tmp 57,.tmp 3],AH [.tmp 57,.tmp 3,.tmp 4],AH [.tmp 57,.tmp 3,.tmp 4],AH [.tmp 57,.tmp 3,.tmp 4],AH [.tmp 57],AJ,AJ]
section
variable {n N:Nat} {h:AA}
theorem Uy{nm:ByteArray}{s:AS}{Z:List AF}{pv cv:Value}{lo lc:Nat}{size:Int}{C:List Int}(m:FH Z s)(hO:WR Z s)(hF:UL s size C)(hp:CG lo h pv nm s)(hc:F6 lc h cv size C)(hl:s.a.length<2932031007403)(z3:h.b<=h.a)(hn:s.a.length+60<n)(hN:s.a.length+40<N){i:Nat}{x:AF}{v:Int}(B:s.a[i]?=some x)(z4:27<=x.a)(hv:DX s.a (AE Z) size C i=some v)(IH:∀(p:Nat)(y:AF)(w:Int)(H:AA),i<p->s.a[p]?=some y->27<=y.a->DX s.a (AE Z) size C p=some w->CG lo H pv nm s->F6 lc H cv size C->H.b<=H.a->AN n 101 [pv,cv,iv (p:Int)] H=some (iv w,H)):∃h',AW prog (AN n) N 101 [pv,cv,iv (i:Int)] h=some (iv v,h')/\∀j,j<h.a->h'.c j=h.c j:=by
 obtain⟨M,vq,vv,vt,vu,vo,rfl,p1,p2,p3,p4,p5,p6⟩:=id hp;obtain⟨O,rfl,pc⟩:=id hc;have h5:=(EC n).2;refine EA (R:=fun h'=>∀j,j<h.a->h'.c j=h.c j) func101 rfl (by simp[f101]) ?_;have V:f101.results.toList=[.tmp 6]:=rfl;have ca:=C9 [.string nm,M,vq,vv,vt,vu,vo,iv s.c];have oa:=IV (nm:=nm) p1 p2 p3 p4 p5 p6;have cb:=C9 [iv size,O];have ob:[iv size,O].all one=true:=by simp only[az,bd,AL.a pc,JQ,ao]
 obtain⟨gA,gB,nG,fG,gO⟩:=OP h (.row [.string nm,M,vq,vv,vt,vu,vo,iv s.c] 27 false false) (.row [iv size,O] 32 false false);simp only[eE,seval,DJ,ca,oa,cb,ob,EQ,HQ];generalize(h.d (.row [.string nm,M,vq,vv,vt,vu,vo,iv s.c] 27 false false)).d (.row [iv size,O] 32 false false)=Q at*;have z5:=(ae.1 B).1;have x5:A8 Q M s.a:=p1.1.a (by omega) gO;obtain⟨ia,pa,ea,z6,_,_,_,_,_,la⟩:=x5.b B;have W:AI 1 (Q.c h.a)=some M:=by rw[gA];rfl
 have fz:flat (CW DL)=true:=rfl;obtain⟨H1,x6,gX,n1,f1,o1⟩:=OV (t:=125) GC (H:=Q) (zs:=AQ DL) (vs:=AQ x) rfl rfl rfl (by omega);have o:BD prog (Q.d (.row (AQ DL) 125 false false)) 125 (qP Q.a 0) (CW x)=some H1:=x6;have G:AI 1 (H1.c h.a)=some M:=by rw[o1 _ (by omega)];exact W
 have x7:A8 H1 M s.a:=p1.1.a (by omega) fun j X=>by rw[o1 j (by omega)];exact gO j X
 obtain⟨zz,x8,_,x9⟩:=m.z B;obtain⟨kv,q,g,h6,f2,n2,o2⟩:=zB (n:=n) m.t m.b x7 x8 (by omega) (by omega) (by omega);rw[<-x9]at h6;have J:∀j,j<h.a->q.c j=h.c j:=by grind
 have g0:q.c Q.a=.row (AQ x) 125 false false:=by rw[o2 _ (by omega)];exact gX
 have L:AI 0 (q.c Q.a)=some (iv x.a):=by rw[g0];rfl
 have y3:AI 3 (q.c Q.a)=some (iv x.n):=by rw[g0];rfl
 have Y:q.c (h.a+1)=.row [iv size,O] 32 false false:=by rw[o2 _ (by omega),o1 _ (by omega)];exact gB
 have c0:AI 0 (q.c (h.a+1))=some (iv size):=by rw[Y];rfl
 have c1:AI 1 (q.c (h.a+1))=some O:=by rw[Y];rfl
 have lC:AX 2 0 (q.c (h.a+1))=some (.agg #[iv size,O]):=by rw[Y];rfl
 have lP:AX 8 0 (q.c h.a)=some (.agg #[.string nm,M,vq,vv,vt,vu,vo,iv s.c]):=by rw[o2 _ (by omega),o1 _ (by omega)];exact IY gA rfl
 have g1:CG lo q (.agg #[.string nm,M,vq,vv,vt,vu,vo,iv s.c]) nm s:=hp.a (by omega) fun j _ X=>J j X;have g2:F6 lc q (.agg #[iv size,O]) size C:=hc.a (by omega) fun j _ X=>J j X;have d:=XC (size:=size) (C:=C) m B;rw[hv]at d;cases u:(x.a==27)with
 |true=>
  have k:=ak.1 u;have e:v=x.n:=by
   rw[ad (by rw[k];decide),ad (by rw[k];decide)]at d;unfold FR at d;simp only[k]at d;exact fm d
  rw[e];simp only[eE,seval,↓eP,V,ab,CK,CJ,W,ea,FX,la,FC,fz,zr,o,G,g,BB,L,FY,AM,y3,u];exact J|false=>cases z:(x.a==32)with
 |true=>
  have k:=ak.1 z;have hq:=m.k i x B (by rw[k];rfl);have z7:=hF.a;obtain⟨cc,g3⟩:∃c,C[x.n.toNat]?=some c:=⟨_,aa (by omega)⟩;have y1:AK lc q O C:=AK.U pc (by omega) fun j _ X=>J j X;obtain⟨ic,z8,ec,_,y2⟩:=AK.V y1 g3;rw[show((x.n.toNat:Nat):Int)=x.n by omega]at ec;have e:v=cc:=by
   rw[ad (by rw[k];decide),ad (by rw[k];decide)]at d;unfold FR at d;rw[ad (by rw[k];decide),ad (by rw[k];decide),ag k,g3]at d;exact fm d
  rw[e];simp only[eE,seval,↓eP,V,ab,CK,CJ,W,ea,FX,la,FC,fz,zr,o,G,g,BB,L,FY,AM,y3,JK,BH,c1,u,z,ec,y2];exact J|false=>cases D:(x.a==33)with
 |true=>
  have k:=ak.1 D;have e:v=size:=by
   rw[ad (by rw[k];decide),ad (by rw[k];decide)]at d;unfold FR at d;simp only[k]at d;exact fm d
  rw[e];simp only[eE,seval,↓eP,V,ab,CK,CJ,W,ea,FX,la,FC,fz,zr,o,G,g,BB,L,AM,IW,c0,u,z,D];exact J|false=>cases I:(x.a==29)with
 |true=>
  have k:=ak.1 I;have e:v=1:=by
   rw[ad (by rw[k];decide),ad (by rw[k];decide)]at d;unfold FR at d;simp only[k]at d;exact fm d
  rw[e];simp only[eE,seval,↓eP,V,ab,CK,CJ,W,ea,FX,la,FC,fz,zr,o,G,g,BB,L,AM,u,z,D,I];exact J|false=>cases K:(x.a==30)with
 |true=>
  have k:=ak.1 K;have e:v=0:=by
   rw[ad (by rw[k];decide),ad (by rw[k];decide)]at d;unfold FR at d;simp only[k]at d;exact fm d
  rw[e];simp only[eE,seval,↓eP,V,ab,CK,CJ,W,ea,FX,la,FC,fz,zr,o,G,g,BB,L,AM,u,z,D,I,K];exact J|false=>
 have P:I0 x.a=true\/IG x.a=true:=by cases hu:I0 x.a with
  |true=>exact .inl rfl|false=>cases hb:IG x.a with
   |true=>exact .inr rfl|false=>
    rw[ad (by rw[hu];decide),ad (by rw[hb];decide)]at d;unfold FR at d;simp only[ax]at u z D I K;rw[ad u,ad D,ad z,ad I,ad K]at d;cases d
 have g4:39<=x.a:=by
  rcases P with l|l;.unfold I0 at l;simp at l;omega
  .unfold IG at l;simp at l;omega
 have z9:0<x.b:=by
  rcases P with l|l;.have:=m.p B l;omega
  .have:=m.h B l;omega
 obtain⟨r9,y4⟩:∃r,x.b.toNat=r+1:=⟨x.b.toNat-1,by omega⟩;have S:(A9 (AE Z) x.b.toNat (i+1))[0]?=some (i+1):=by rw[y4];rfl
 obtain⟨y,hy,g5,_⟩:=m.f (k:=0) B g4 S;have g6:AK 0 q kv ((A9 (AE Z) x.b.toNat (i+1)).map (fun(k:Nat)=>(k:Int))):=h6.a (bg _);obtain⟨i0,p0,e0,u0,l0⟩:=AK.V g6 (i:=0) (x:=((i+1:Nat):Int)) (by rw[bT,S];rfl);have y5:BW prog 25 kv (iv 0)=some (qP i0 p0):=e0;obtain⟨a,E⟩:∃a,DX s.a (AE Z) size C (i+1)=some a:=by cases h0:DX s.a (AE Z) size C (i+1)with
  |some a=>exact⟨a,rfl⟩|none=>
   rw[h0]at d;split at d;.cases d
   .split at d;.cases d
    .rename_i h7 h8;rcases P with l|l;.exact absurd l h7
     .exact absurd l h8
 have y6:=(ae.1 hy).1;have g7:=ZW m hF y6 E;have y7:=IH (i+1) y a q (by omega) hy g5 E g1 g2 (by omega);simp only[eE,seval,↓eP,ab,CK,CJ,W,ea,FX,la,FC,fz,zr,o,G,g,BB,AM,L,u,z,D,I,K];refine WK.a (fs:=xJ) (by kernel_rfl) ?_;unfold xJ;iterate 7
  refine DG h5 ?_;simp only[rG,seval,AB,AD,AC,A7,BL,DB,C7,lP,G7,lC,y5,AM,l0,y7]
 refine DF ?_;cases A:(x.a==41)with
 |true=>
  have k:=ak.1 A;have e:v=-a:=by
   rw[ag (by rw[k];rfl),E,k]at d;have:v=I9 41 a a:=by grind
   rw[this];show H_ (-a)=-a;exact j_ (by omega)
  have w:IntKind.i64.wrap (0-a)=-a:=by rw[BR];omega
  rw[e];simp only[eE,seval,↓eP,V,BB,AM,L,A,w];exact J|false=>cases F:(x.a==42)with
 |true=>
  have k:=ak.1 F;have h1:=(Y_ m hO B S hy).1;rw[k]at h1;have h2:∀f,C4 42 0 f=2:=fun f=>rfl;rw[h2]at h1;have hb:=bQ (size:=size) (C:=C) m hy (h1 (by decide)) E;have e:v=1-a:=by
   rw[ag (by rw[k];rfl),E,k]at d;have:v=I9 42 a a:=by grind
   rw[this];rcases hb with l|l<;>(rw[l];rfl)
  have w:IntKind.i64.wrap (1-a)=1-a:=BR;rw[e];simp only[eE,seval,↓eP,V,BB,AM,L,A,F,w];exact J|false=>
 have T:IG x.a=true:=by
  rcases P with l|l
  .unfold I0 at l;simp only[ax]at A F;simp[A,F]at l
  .exact l
 have y8:I0 x.a=false:=by
  simp only[ax]at A F;unfold I0;simp[A,F]
 have g8:=m.h B T;have h3:(A9 (AE Z) x.b.toNat (i+1))[1]?=some (AE Z (i+1)):=by rw[g8];rfl
 obtain⟨w,hw,g9,_⟩:=m.f (k:=1) B g4 h3;have h4:=m.e B g8;obtain⟨i1,q1,e1,u1,l1⟩:=AK.V g6 (i:=1) (x:=((AE Z (i+1):Nat):Int)) (by rw[bT,h3];rfl);have y9:BW prog 25 kv (iv 1)=some (qP i1 q1):=e1;rw[ad (by rw[y8];decide),ag T,E]at d;obtain⟨b,U⟩:∃b,DX s.a (AE Z) size C (AE Z (i+1))=some b:=by cases h0:DX s.a (AE Z) size C (AE Z (i+1))with|some b=>exact⟨b,rfl⟩|none=>rw[h0]at d;cases d
 rw[U]at d;have x0:=ZW m hF h4.2 U;have e:v=FB x.a a b:=by
  rw[OR T g7 x0 fun u2=>?_];.exact fm d
  .have l:=(m.l i x B).2;have x2:x.a=53\/x.a=54:=by omega
   have ta:=(Y_ m hO B S hy).1;have tb:=(Y_ m hO B h3 hw).1;have h2:∀j f,C4 x.a j f=2:=fun j f=>by rcases x2 with h8|h8<;>(rw[h8];rfl)
   rw[h2]at ta tb
   exact⟨bQ (size:=size) (C:=C) m hy (ta (by decide)) E,bQ (size:=size) (C:=C) m hw (tb (by decide)) U⟩
 rw[e]
 have z0:=fun fl (x3:fl<=q.a)=>IH (AE Z (i+1)) w b (q.f fl) (by omega) hw g9 U (g1.a (af _) fun j _ _=>rfl) (g2.a (af _) fun j _ _=>rfl) x3
 have x4:=z0 (max q.b q.a) (by omega)
 have z1:=Pi (n:=n) (h:=q) T g7 x0 (by omega)
 have z2:(Q.a<q.a)=True:=by simp;omega
 simp only[eE,seval,↓eP,BB,AM,L,A,F]
 refine WK.a (fs:=w_) (by kernel_rfl) ?_
 unfold w_
 iterate 11
  refine DG h5 ?_
  simp only[rG,seval,AB,AD,AC,A7,BL,BB,AM,L,z2,C7,lP,G7,lC,y9,l1,x4,z1]
 refine DF ?_
 simp only[eE,seval,V]
 exact J
theorem De{nm:ByteArray}{s:AS}{Z:List AF}{k l:Value}{lo lc:Nat}{size:Int}{C:List Int}(m:FH Z s)(o:WR Z s)(q:UL s size C)(r:s.a.length<2932031007403):∀(d n i:Nat)(x:AF)(v:Int)(h:AA),s.a.length-i<=d->s.a.length+100+d<n->s.a[i]?=some x->27<=x.a->DX s.a (AE Z) size C i=some v->CG lo h k nm s->F6 lc h l size C->h.b<=h.a->AN n 101 [k,l,iv (i:Int)] h=some (iv v,h)|0,n,i,x,v,h,u,_,t,_,_,_,_,_=>by grind|d+1,n,i,x,v,h,u,G,t,b,z,A,B,c=>by obtain⟨n,rfl⟩:∃j,n=j+1:=⟨n-1,by omega⟩;exact HF BF rfl (Uy (n:=n) (N:=n) m o q A B r c (by omega) (by omega) t b z fun p y w H D E a F e f g=>De m o q r d n p y w H (by omega) (by omega) E a F e f g)
end
end Go.Proofs.YtjailoenloejbaaGreatDoor




