/- Part 9 of what the claim leans on: 19 texts laid one behind another. -/
import Derived.Test.YtdejoodfeljmkaaGreatDoorTK8
namespace Go.Proofs.YtdejoodfeljmkaaGreatDoor
open Go Go.Sx
set_option maxRecDepth 100000
set_option linter.unusedSimpArgs false
set_option linter.unusedVariables false
set_option maxHeartbeats 64000000
def U8:List FuncId:=[52,53,54,51,81,83,85,999999,999999,999999,999999,999999,999999,11,40,15,999999]
open Classical in
noncomputable def OB (call:AS):AS:=fun f args h=>match call f args h with
 | some (v,h1)=>if U8.contains f=false∧E9 v=true∧∀ i,i<h.next→h1.get i=h.get i then some (v,h) else some (v,h1)
 | none=>none
theorem vI {call:AS} {f:FuncId} {args:List Value} {h h':AA} {v:Value} (hs:OB call f args h=some (v,h')):PL call f args h=some (v,h')∨call f args h=some (v,h'):=by
 unfold OB at hs
 split at hs
 ·rename_i v' h1 he
  split at hs
  ·rename_i hc
   cases hs
   exact .inl (cD he hc.2.1 hc.2.2)
  ·cases hs
   exact .inr he
 ·cases hs
theorem Dl {P:Program} {call:AS} (hc:D7 P call∧CK call):D7 P (OB call)∧CK (OB call):=by
 have hk:=eV hc.1
 refine⟨fun f args h v h' hs=>?_,fun f args h v h' hs=>?_⟩
 ·rcases vI hs with h1 | h1
  ·exact hk.1 _ _ _ _ _ h1
  ·exact hc.1 _ _ _ _ _ h1
 ·rcases vI hs with h1 | h1
  ·exact hk.2 _ _ _ _ _ h1
  ·exact hc.2 _ _ _ _ _ h1
section
variable {call:AS} {n:Nat} {h:AA}
theorem yJ {P K:Int} {k:Nat} {a b:Int} (hP:a≤7) (hb7:0≤b∧b≤7) (ha0:0≤a) (ha:call 138 [iv P] h=some (iv a,h)) (hb:call 138 [iv K] h=some (iv b,h)):AY Tryz.prog call n 130 [iv P,iv k,iv K] h=some (.bool (NR a b k),h):=by
 refine CO Tryz.func130 rfl (by simp[Tryz.f130]) ?_
 have hr:Tryz.f130.results.toList=[.tmp 6]:=rfl
 unfold NR
 by_cases a0:a=0
 ·subst a0
  have e:(if b=0 then false else if 1≤(0:Int)∧(0:Int)≤5 then (decide (b<0)||(b==0&&((k:Int)==1||(0:Int)==3))) else if (0:Int)=6 then decide (b<6) else false)=false:=by
   split
   ·rfl
   ·rw[if_neg (by omega),if_neg (by omega)]
  rw[e]
  simp only[eE,seval,↓eP,rP,hr,ha,hb]
 have c0:(a==0)=false:=by simpa using a0
 by_cases b0:b=0
 ·subst b0
  simp only[eE,seval,↓eP,rP,hr,ha,hb,c0]
 have c1:(b==0)=false:=by simpa using b0
 rw[if_neg b0]
 by_cases a7:a=7
 ·subst a7
  rw[if_neg (by omega),if_neg (by omega)]
  simp only[eE,seval,↓eP,rP,hr,ha,hb,c1,show ((7:Int)==0)=false from rfl]
 have c2:(a==7)=false:=by simpa using a7
 by_cases a6:a=6
 ·subst a6
  rw[if_neg (by omega),if_pos rfl]
  simp only[eE,seval,↓eP,rP,hr,ha,hb,c1,show ((6:Int)==0)=false from rfl,show ((6:Int)==7)=false from rfl]
 have c3:(a==6)=false:=by simpa using a6
 rw[if_pos (by omega)]
 cases d1:decide (b<a) with
 | true=>simp only[eE,seval,↓eP,rP,hr,ha,hb,c0,c1,c2,c3,d1,Bool.true_or]
 | false=>
  cases d2:(b==a) with
  | false=>simp only[eE,seval,↓eP,rP,hr,ha,hb,c0,c1,c2,c3,d1,d2,Bool.false_or,Bool.false_and]
  | true=>
   cases d3:((k:Int)==1) with
   | true=>simp only[eE,seval,↓eP,rP,hr,ha,hb,c0,c1,c2,c3,d1,d2,d3,Bool.false_or,Bool.true_or]
   | false=>simp only[eE,seval,↓eP,rP,hr,ha,hb,c0,c1,c2,c3,d1,d2,d3,Bool.false_or]
theorem fL (k:Int):0≤C1 k∧C1 k≤7:=by unfold C1;(repeat' split) <;> omega
theorem u_ (k:Int) (h:AA) (hk:1≤k∧k≤54):L0 138 [iv k] h=some (iv (C1 k),h):=FE rfl rfl rfl rfl (JD Pb hk)
theorem Ug (P Q:Int) (k:Nat) (h:AA) (hP:1≤P∧P≤54) (hQ:1≤Q∧Q≤54):L1 130 [iv P,iv k,iv Q] h=some (.bool (NR (C1 P) (C1 Q) k),h):=
 FE (GY rfl rfl) rfl rfl rfl ⟨_,yJ (fL P).2 (fL Q) (fL P).1 (F7 (u_ P _ hP)) (F7 (u_ Q _ hQ))⟩
noncomputable def L3:AS:=OD [126] L2 12
theorem wG:D7 Tryz.prog L3∧CK L3:=iB oI
end
noncomputable def AK:Nat→AS
 | 0=>L3
 | n+1=>HM L3 (OB (AY Tryz.prog (AK n) n))
theorem EJ:∀ n,D7 Tryz.prog (AK n)∧CK (AK n)
 | 0=>wG
 | n+1=>SL wG (Dl (SB KC (EJ n).1 (EJ n).2 n))
section
variable {n:Nat} {f:FuncId} {args:List Value} {h h1:AA} {v:Value} {r:Value × AA}
theorem p7 (hb:L3 f args h=some r):AK n f args h=some r:=by
 cases n with
 | zero=>exact hb
 | succ n=>exact VP hb
theorem j9 (hb:L2 f args h=some r):AK n f args h=some r:=p7 (HD hb)
theorem GP (hb:L1 f args h=some r):AK n f args h=some r:=j9 (ML hb)
theorem BD (hf:([110,132,124,72,74,75,80,82,84,
 138,135,134,127,128,137,125,113,120,122,
 144,145,109]:List Nat).contains f=false∧([123,130,133,73,119,77,87]:List Nat).contains f=false∧([111,136,126]:List Nat).contains f=false):L3 f args h=none:=by
 have h3:=hf.2.2
 simp only[List.contains_cons,List.contains_nil,Bool.or_false,Bool.or_eq_false_iff] at h3
 refine GY (OX (GY (GY rfl hf.1) hf.2.1) ?_) ?_
 ·simp only[List.contains_cons,List.contains_nil,Bool.or_false,Bool.or_eq_false_iff];exact⟨h3.1,h3.2.1⟩
 ·simp only[List.contains_cons,List.contains_nil,Bool.or_false];exact h3.2.2
theorem HB (hb:L3 f args h=none) (hv:E9 v=true) (hw:∃ h1,AY Tryz.prog (AK n) n f args h=some (v,h1)∧∀ i,i<h.next→h1.get i=h.get i) (hf:U8.contains f=false:=by rfl):AK (n+1) f args h=some (v,h):=by
 obtain⟨h1,he,hk⟩:=hw
 unfold AK HM OB
 rw[hb,he]
 simp only
 rw[if_pos ⟨hf,hv,hk⟩]
theorem D4 (hb:L3 f args h=none) (hv:E9 v=true) (hw:AY Tryz.prog (AK n) n f args h=some (v,h)) (hf:U8.contains f=false:=by rfl):AK (n+1) f args h=some (v,h):=HB hb hv ⟨h,hw,fun _ _=>rfl⟩ hf
theorem N5 {R:AA→Prop} (hb:L3 f args h=none) (hv:E9 v=false) (hw:∃ h1,AY Tryz.prog (AK n) n f args h=some (v,h1)∧R h1):∃ h1,AK (n+1) f args h=some (v,h1)∧R h1:=by
 obtain⟨h1,he,hk⟩:=hw
 refine⟨h1,?_,hk⟩
 unfold AK HM OB
 rw[hb,he]
 simp only
 rw[if_neg (fun hc=>by rw[hv] at hc;cases hc.2.1)]
theorem MG {R:Value→AA→Prop} (hb:L3 f args h=none) (hw:∃ v h1,AY Tryz.prog (AK n) n f args h=some (v,h1)∧R v h1) (hf:∀ v h1,E9 v=true→(∀ i,i<h.next→h1.get i=h.get i)→R v h1→R v h):∃ v h1,AK (n+1) f args h=some (v,h1)∧R v h1:=by
 obtain⟨v,h1,he,hk⟩:=hw
 by_cases hc:U8.contains f=false∧E9 v=true∧∀ i,i<h.next→h1.get i=h.get i
 ·refine⟨v,h,?_,hf v h1 hc.2.1 hc.2.2 hk⟩
  unfold AK HM OB
  rw[hb,he]
  simp only
  rw[if_pos hc]
 ·refine⟨v,h1,?_,hk⟩
  unfold AK HM OB
  rw[hb,he]
  simp only
  rw[if_neg hc]
theorem OM {R:AA→Prop} (hb:L3 f args h=none) (hw:∃ h1,AY Tryz.prog (AK n) n f args h=some (v,h1)∧R h1) (hf:U8.contains f=true:=by rfl):∃ h1,AK (n+1) f args h=some (v,h1)∧R h1:=by
 obtain⟨h1,he,hk⟩:=hw
 refine⟨h1,?_,hk⟩
 unfold AK HM OB
 rw[hb,he]
 simp only
 rw[if_neg (fun hc=>by rw[hf] at hc;cases hc.1)]
end
theorem Um {l:List AB} {v:Value} (hlen:l.length<1099511627776):∀ m n (at_:Nat) (what:Int) h,at_≤l.length→l.length<at_+m→what≠8→AQ h v l→h.get 0=EA→0<h.next→h.floor≤h.next→l.length+4+m<n →
  AK n 70 [v,iv at_,iv what] h=some (.tuple #[iv ((BW AZ l m at_ what).1:Int),.bool (BW AZ l m at_ what).2],h):=by
 intro m
 induction m with
 | zero=>intro n at_ what h hat hm;omega
 | succ m ih=>
  intro n at_ what h hat hm hw hv hg hn0 hfl hn
  obtain⟨n,rfl⟩:∃ k,n=k+1:=⟨n-1,by omega⟩
  refine HB (BD ⟨rfl,rfl,rfl⟩) (QM rfl rfl) ?_
  exact kT (EJ n).2 ⟨fun k j h hk hj=>GP (vP k j h hk hj),fun p w h hp hpl hw hv hg hn0 hfl=>ih n p w h hpl (by omega) hw hv hg hn0 hfl (by omega)⟩
   (by omega) hlen hat hw (fun w k h=>GP (TF w k h)) (fun k h hk=>GP (ZZ k h hk)) (fun s h' hg=>j9 (ZC hg s)) hv hg hn0 hfl
theorem Ov {l:List AB} {v:Value} (hlen:l.length<1099511627776) {n m:Nat} (hm:l.length<1+m) (hn:l.length+7+m<n) {h:AA} (hv:AQ h v l) (hg:h.get 0=EA) (hn0:0<h.next) (hfl:h.floor≤h.next) :
  AK n 70 [v,iv 0,iv 8] h=some (.tuple #[iv ((GT AZ l m).1:Int),.bool (GT AZ l m).2],h):=by
 obtain⟨n,rfl⟩:∃ k,n=k+2:=⟨n-2,by omega⟩
 refine HB (BD ⟨rfl,rfl,rfl⟩) (QM rfl rfl) ?_
 refine xQ (EJ (n+1)).2 ?_ (by omega) hlen (fun w k h=>GP (TF w k h)) (fun k h hk=>GP (ZZ k h hk)) (fun s h' hg=>j9 (ZC hg s)) hv hg hn0 hfl
 intro x h' hx hf hk1 hv' hg' hn0' hfl'
 have hk0:0≤x.kids:=by
  unfold DR at hf
  simp only[Bool.and_eq_true,decide_eq_true_eq] at hf
  have:=R5 x.kind
  omega
 refine D4 (BD ⟨rfl,rfl,rfl⟩) (QM rfl rfl) ?_
 refine xI hx hk0 (by omega) hlen hv' (fun w k h=>GP (TF w k h)) fun p w hp hpl hw=>?_
 exact Um hlen m n p w h' hpl (by omega) hw hv' hg' hn0' hfl' (by omega)
theorem zI {l:List AB} {v:Value} (hlen:l.length<1099511627776) (hval:∀ (i:Nat) x,l[i]?=some x→1≤x.kind∧x.kind≤54) {h:AA} (hv:AQ h v l):∀ m n (at_:Nat),m<1099511627776→at_<l.length→l.length<at_+m→l.length+4+m<n →
  AK n 114 [v,iv at_] h=some (.tuple #[iv (DY l m at_).1,iv ((DY l m at_).2:Int)],h):=by
 intro m
 induction m with
 | zero=>intro n at_ _ hat hm;omega
 | succ m ih=>
  intro n at_ hmm hat hm hn
  obtain⟨n,rfl⟩:∃ k,n=k+1:=⟨n-1,by omega⟩
  refine D4 (BD ⟨rfl,rfl,rfl⟩) (QM rfl rfl) ?_
  refine kL (EJ n).2 (by omega) hlen (by omega) hat (by omega) hv hval (fun P Q k h hP hQ=>GP (r_ P Q k h hP hQ)) (fun k h hk=>GP (uP k h hk)) fun p hp hpl=>?_
  exact ih n p (by omega) hpl (by omega) (by omega)
theorem Ej {n:Nat} {l:List AB} {v:Value} (hn:2*l.length+12<n) (hlen:l.length<1099511627) {h:AA} (hv:AQ h v l) (hg:h.get 0=EA) (hn0:0<h.next) (hfl:h.floor≤h.next) :
  AK n 48 [v] h=some (CI (BQ l).1 (BQ l).2,h):=by
 obtain⟨n,rfl⟩:∃ k,n=k+2:=⟨n-2,by omega⟩
 refine HB (BD ⟨rfl,rfl,rfl⟩) rfl ?_
 refine pO hv hg hn0 hfl (fun h' hv' hg' hn' hfl'=>Ov (by omega) (by omega) (by omega) hv' hg' hn' hfl') fun hs h' hv'=>?_
 refine D4 (BD ⟨rfl,rfl,rfl⟩) rfl ?_
 exact pD (m:=l.length+1) hv' (ZO hs) (zI (by omega) (xO hs) hv' (l.length+1) n 0 (by omega) (ZO hs) (by omega) (by omega))
theorem Qo {l:List AB} {v:Value} {h:AA} {n:Nat} (ht:CU l) (hv:AQ h v l) (hlen:l.length<1099511627776) (hn:l.length+4<n) (hfl:h.floor≤h.next) :
  ∃ h',AK n 50 [v] h=some (qS h.next l.length l.length,h')∧(h'.get h.next=.row (ints (AX l)) 3 false false∧h'.next=h.next+1∧h'.floor=h.floor∧∀ i,i<h.next→h'.get i=h.get i):=by
 obtain⟨n,rfl⟩:∃ k,n=k+1:=⟨n-1,by omega⟩
 exact N5 (BD ⟨rfl,rfl,rfl⟩) rfl (Qs ht hv hlen (by omega) hfl)
theorem tR {l:List AB} {v:Value} {h:AA} {n:Nat} (ht:CU l) (hv:AQ h v l) (hlen:l.length<1099511627776) (hn:l.length+4<n) (hfl:h.floor≤h.next) :
  ∃ h',AK n 79 [v] h=some (qS h.next l.length l.length,h')∧(h'.get h.next=.row (ints (AX l)) 3 false false∧h'.next=h.next+1∧h'.floor=h.floor∧∀ i,i<h.next→h'.get i=h.get i):=by
 obtain⟨n,rfl⟩:∃ k,n=k+1:=⟨n-1,by omega⟩
 exact N5 (BD ⟨rfl,rfl,rfl⟩) rfl (Qa ht hv hlen (by omega) hfl)
noncomputable def T0:AS:=PD 7 EA
def vF:Option (Value × AA)→Bool
 | some (.bool b,_)=>b
 | _=>false
theorem Lu:vF (GW Tryz.prog Mg 200 7 [] K_)=true:=by kernel_rfl
theorem Iq:D7 Tryz.prog T0∧CK T0:=by
 have h:=Lu
 unfold vF at h
 split at h
 ·rename_i b h' hs
  cases h
  have ht:=SL (Aa (ZF KC 200).1 Wv) (Ie (ZF KC 200).1 Ss)
  exact uO (OH KC ht.1 ht.2 200).1 XN (by kernel_rfl) hs
 ·cases h
noncomputable def S6 (n:Nat):AS:=HM T0 (AK n)
theorem eB (n:Nat):D7 Tryz.prog (S6 n)∧CK (S6 n):=SL Iq (EJ n)
section
variable {n:Nat} {f:FuncId} {args:List Value} {h:AA} {r:Value × AA}
theorem Sy (hg:h.get 0=EA):S6 n 7 [] h=some (.bool true,h):=by
 refine VP ?_
 unfold T0 PD
 rw[if_pos ⟨rfl,rfl,hg⟩]
theorem RB (hf:f≠7) (hb:AK n f args h=some r):S6 n f args h=some r:=by
 unfold S6 HM
 have:T0 f args h=none:=by
  unfold T0 PD
  rw[if_neg (fun hc=>hf hc.1)]
 rw[this]
 exact hb
end
theorem QF:BM Tryz.prog 140=some 3:=by kernel_rfl
theorem Nf:FW Tryz.prog 140=some true:=by kernel_rfl
theorem uE:HC Tryz.prog 140=some 24:=by kernel_rfl
theorem UV:DX Tryz.prog 140=some (.agg #[iv 0,iv 0,iv 0]):=by kernel_rfl
theorem zR:IC Tryz.prog (match Tryz.prog.underlying 140 with | some (.struct fs)=>fs.toList | _=>[])=some [(0,1),(1,1),(2,1)]:=by kernel_rfl
abbrev RM (a b c:Int):Value:=.agg #[iv a,iv b,iv c]
theorem tW {a b c:Int}:flat (RM a b c)=true:=rfl
theorem Bj {a b c:Int}:(RM a b c).cells=#[iv a,iv b,iv c]:=rfl
theorem Jg {a b:Int}:DM Tryz.prog 140 [(0,iv a),(1,iv b)]=some (RM a b 0):=by
 have h:=zR
 rw[Tryz.underlying140] at h
 simp only at h
 simp only[DM,UV,tW,if_true,Tryz.underlying140,h]
 rfl
section
variable {id off:Nat} {h:AA}
theorem l9:BE Tryz.prog 140 (qP id off) 0=some (qP id off):=by simp[BE,Tryz.underlying140,C7,CN]
theorem Y1:BE Tryz.prog 140 (qP id off) 1=some (qP id (off+1)):=by simp[BE,Tryz.underlying140,C7,CN]
theorem wV:BE Tryz.prog 140 (qP id off) 2=some (qP id (off+2)):=by simp[BE,Tryz.underlying140,C7,CN]
theorem Pg:EW Tryz.prog h 140 (qP id off)=A_ 3 off (h.get id):=ND Nf QF
theorem nN {n c i:Nat} (hi:i<n):CB Tryz.prog 138 (qS id n c) (iv (i:Int))=some (.pointer (some ⟨id,i*3,none⟩)):=by
 simp only[CB,Tryz.underlying138,QF,CN]
 rw[if_pos (by omega)]
 simp
theorem T9 {a:Option Addr} {n c:Nat}:CY Tryz.prog h 138 (.slice a n c)=some (iv (n:Int)):=by simp[CY,Tryz.underlying138]
theorem Ds {a b c:Int}:GD Tryz.prog h 138 1 [(0,RM a b c)]=some (qS h.next 1 1,h.push (.row [iv a,iv b,iv c] 140 false false)):=by
 simp[GD,Tryz.underlying138,QF,UV,flat,BS,FI,JX,B0,Go.Sx.lay]
theorem Xp {n k:Nat} (hk:k≤n):HW Tryz.prog h 138 (qS id n AO) none (some (iv (k:Int))) none=some (qS id k AO):=by
 simp only[HW,Tryz.underlying138,QF,if_true,GO]
 rw[if_pos (by omega)]
 simp
theorem Q0 {cs:List Value} {x:Int} {ty:TypeId} {g:Bool} (hg:h.get id=.row cs ty g false) (hi:off<cs.length) (hf:h.floor≤id):BB Tryz.prog h 3 (qP id off) (iv x)=some (h.put id (.row (cs.set off (iv x)) ty g false)):=by
 have hc:(iv x).cells=#[iv x]:=rfl
 have hsz:(some 1:Option Nat)=some (#[iv x]:Array Value).size:=rfl
 simp only[BB,hc,C7,GZ,hg]
 rw[if_pos hsz,if_pos (by simp[one];omega),bK hi]
noncomputable def iN (h:AA) (id:Nat) (a b c:Int):BF→Option AA
 | .row [_,_,_] ty g false=>if h.floor≤id then some (h.put id (.row [iv a,iv b,iv c] ty g false)) else none
 | _=>BB Tryz.prog h 140 (qP id 0) (RM a b c)
theorem Fh {a b c:Int}:BB Tryz.prog h 140 (qP id 0) (RM a b c)=iN h id a b c (h.get id):=by
 unfold iN
 split
 ·rename_i x y z ty g hg
  split
  ·rename_i hf
   simp[BB,QF,GZ,hg,hf,Go.Sx.lay,Value.cells,one]
  ·rename_i hf
   simp[BB,QF,GZ,hg,hf,Value.cells,one]
 ·rfl
theorem Vf {a b c:Int} {x y z:Value} {ty:TypeId} {g:Bool}:iN h id a b c (.row [x,y,z] ty g false)=if h.floor≤id then some (h.put id (.row [iv a,iv b,iv c] ty g false)) else none:=rfl
end
def IB (f:DA):List Value:=[iv f.kind,iv (f.left:Int),iv (f.next:Int)]
def FJ:List DA→List Value
 | []=>[]
 | f :: s=>FJ s++IB f
theorem SD:∀ s,(FJ s).length=s.length*3
 | []=>rfl
 | f :: s=>by simp[FJ,SD s,IB];omega
theorem rT:∀ s,(FJ s).all one=true
 | []=>rfl
 | f :: s=>by rw[FJ,List.all_append,rT s];rfl
def MB (m:Nat) (h:AA) (v:Value) (s:List DA):Prop:=
 (s=[]∧v=Z0)∨∃ id ex,v=qS id s.length AO∧h.get id=.row (FJ s++ex) 140 true false∧m≤id∧id<h.next
theorem MB.len {m:Nat} {h h':AA} {v:Value} {s:List DA} (hs:MB m h v s):CY Tryz.prog h' 138 v=some (iv (s.length:Int)):=by
 rcases hs with⟨rfl,rfl⟩ | ⟨id,ex,rfl,_⟩
 ·exact T9
 ·exact T9
theorem MB.mono {m:Nat} {h h':AA} {v:Value} {s:List DA} (hs:MB m h v s) (hn:h.next≤h'.next) (hg:∀ i,m≤i→i<h.next→h'.get i=h.get i):MB m h' v s:=by
 rcases hs with h1 | ⟨id,ex,h1,h2,h3,h4⟩
 ·exact .inl h1
 ·exact .inr ⟨id,ex,h1,by rw[hg id h3 h4];exact h2,h3,by omega⟩
theorem MB.top {m:Nat} {h:AA} {v:Value} {f:DA} {s:List DA} (hs:MB m h v (f :: s)) :
  ∃ id ex,v=qS id (s.length+1) AO∧h.get id=.row (FJ s++(IB f++ex)) 140 true false∧m≤id∧id<h.next:=by
 rcases hs with⟨h1,_⟩ | ⟨id,ex,h1,h2,h3,h4⟩
 ·cases h1
 ·exact⟨id,ex,h1,by rw[h2,FJ,List.append_assoc],h3,h4⟩
theorem cE {s:List DA} {f:DA} {ex:List Value} {ty:TypeId} {g ro:Bool}:AH (s.length*3) (.row (FJ s++(IB f++ex)) ty g ro)=some (iv f.kind)∧AH (s.length*3+1) (.row (FJ s++(IB f++ex)) ty g ro)=some (iv (f.left:Int)) ∧
  AH (s.length*3+2) (.row (FJ s++(IB f++ex)) ty g ro)=some (iv (f.next:Int))∧A_ 3 (s.length*3) (.row (FJ s++(IB f++ex)) ty g ro)=some (RM f.kind f.left f.next):=by
 have hl:=SD s
 refine⟨?_,?_,?_,?_⟩
 ·simp only[AH]
  rw[List.getElem?_append_right (by omega),show s.length*3-(FJ s).length=0 by omega]
  rfl
 ·simp only[AH]
  rw[List.getElem?_append_right (by omega),show s.length*3+1-(FJ s).length=1 by omega]
  rfl
 ·simp only[AH]
  rw[List.getElem?_append_right (by omega),show s.length*3+2-(FJ s).length=2 by omega]
  rfl
 ·simp only[A_,GS]
  rw[List.drop_append_of_le_length (by omega),List.drop_of_length_le (by omega),List.nil_append]
  simp[IB]
theorem Ae {s:List DA} {f:DA} {ex:List Value} {x:Nat}:(FJ s++(IB f++ex)).set (s.length*3+2) (iv (x:Int))=FJ s++(IB ⟨f.kind,f.left,x⟩++ex):=by
 have hl:=SD s
 rw[List.set_append_right _ _ (by omega),show s.length*3+2-(FJ s).length=2 by omega]
 rfl
theorem Al {s:List DA} {f:DA} {ex:List Value} {x:Nat}:(FJ s++(IB f++ex)).set (s.length*3+1) (iv (x:Int))=FJ s++(IB ⟨f.kind,x,f.next⟩++ex):=by
 have hl:=SD s
 rw[List.set_append_right _ _ (by omega),show s.length*3+1-(FJ s).length=1 by omega]
 rfl
theorem Lh {m:Nat} {h:AA} {v:Value} {s:List DA} {a b c:Int} {f:DA} (hf1:IB f=[iv a,iv b,iv c]) (hs:MB m h v s) (hf:h.floor≤m) (hm:m≤h.next) (hl:s.length<1000000000) :
  ∃ v' h',D9 Tryz.prog (h.push (.row [iv a,iv b,iv c] 140 false false)) 138 v (qS h.next 1 1)=some (v',h')∧MB m h' v' (f :: s)∧h'.floor=h.floor∧h.next≤h'.next∧∀ i,i<m→h'.get i=h.get i:=by
 have hnew:(h.push (.row [iv a,iv b,iv c] 140 false false)).get h.next=.row [iv a,iv b,iv c] 140 false false:=BX
 have hold:∀ i,i<h.next→(h.push (.row [iv a,iv b,iv c] 140 false false)).get i=h.get i:=fun i hi=>AU hi
 have hfl1:(h.push (.row [iv a,iv b,iv c] 140 false false)).floor=h.floor:=rfl
 have hnx1:(h.push (.row [iv a,iv b,iv c] 140 false false)).next=h.next+1:=rfl
 generalize h.push (.row [iv a,iv b,iv c] 140 false false)=h1 at *
 have hsrc:EU h1 3 1 (qS h.next 1 1)=some [iv a,iv b,iv c]:=by simp[EU,hnew,GS]
 have hz:(Value.agg #[iv 0,iv 0,iv 0]).cells.size=3:=rfl
 have hone:([iv a,iv b,iv c]:List Value).all one=true:=rfl
 have hlen:=SD s
 rcases hs with⟨rfl,rfl⟩ | ⟨id,ex,rfl,hg,hid,hidn⟩
 ·refine⟨qS h1.next 1 AO,h1.push (.row [iv a,iv b,iv c] 140 true false),?_,.inr ⟨h1.next,[],rfl,?_,by omega,by show h1.next<h1.next+1;omega⟩,hfl1,by show h.next≤h1.next+1;omega,fun i hi=>by rw[AU (by omega),hold i (by omega)]⟩
  ·have hu:(0:Nat)≠AO:=by unfold AO;omega
   have h0:EU h1 3 0 (Z0)=some []:=rfl
   simp only[D9,Tryz.underlying138,QF,uE,UV,hz,hsrc,hone,hu,h0,show (0<3)=True by simp,decide_true,beq_self_eq_true,Bool.and_self,if_true,if_false,Nat.le_refl,Nat.zero_add,Nat.zero_mul,show (1≤0)=False by simp,Nat.zero_le,List.nil_append,Nat.one_mul,show (24≤140737488355328)=True by simp,show (1≤140737488355328)=True by simp]
  ·rw[BX,List.append_nil,FJ,hf1]
   rfl
 ·have e1:(s.length+1)*24≤140737488355328:=by omega
  have e2:s.length+1≤140737488355328:=by omega
  have e3:h1.floor≤id:=by omega
  have e4:s.length≤AO:=by unfold AO;omega
  have hg1:h1.get id=.row (FJ s++ex) 140 true false:=by rw[hold id hidn];exact hg
  have hcut:GS (FJ s++ex) 0 (s.length*3)=some (FJ s):=by
   simp only[GS,List.drop_zero]
   rw[List.take_append_of_le_length (by omega),List.take_of_length_le (by omega),if_pos hlen]
  refine⟨qS h1.next (s.length+1) AO,(h1.put id .dead).push (.row (FJ s++[iv a,iv b,iv c]) 140 true false),?_,.inr ⟨h1.next,[],rfl,?_,by omega,by show h1.next<h1.next+1;omega⟩,hfl1,by show h.next≤h1.next+1;omega,fun i hi=>?_⟩
  ·simp only[D9,Tryz.underlying138,QF,uE,UV,hz,hsrc,hone,e1,e2,e3,e4,hg1,hcut,rT,decide_true,Bool.and_self,beq_self_eq_true,show (0<3)=True by simp,if_true,Nat.one_ne_zero,if_false]
  ·rw[List.append_nil,FJ,hf1]
   exact BX
  ·rw[AU (by show i<h1.next;omega),AR (by omega) (by omega),hold i (by omega)]
structure G9 where
 name:ByteArray
 kind:Int
 num:Int
 known:Int
structure AM where
 rows:List AB
 queues:List (ByteArray × Bool)
 vars:List ByteArray
 tags:List ByteArray
 rules:List Int
 on:List Int
 miss:Int
 things:List G9
def GK (l:List G9) (x:ByteArray):Option G9:=l.find? fun t=>x==t.name
def BI (s:AM) (k:Int):Nat:=if k=1 then s.queues.length else if k=2 then s.vars.length else if k=3 then s.tags.length else s.rules.length
def HK (k:Int):Int:=if k=1 then 16 else if k=2 then 16 else if k=3 then 4 else 64
def G8 (l:List AB) (at_:Nat) (n:Int):List AB:=match l[at_]? with
 | some x=>l.set at_ { x with n:=n }
 | none=>l
def FK (at_:Nat) (end_:Int) (x:AB) (s:AM):AM:=
 let k:=BZ x.kind
 { rows:=G8 s.rows at_ (BI s k)
   queues:=if k=1 then s.queues++[(x.name,x.kind==3)] else s.queues
   vars:=if k=2 then s.vars++[x.name] else s.vars
   tags:=if k=3 then s.tags++[x.name] else s.tags
   rules:=if k=4 then s.rules++[(at_:Int)+1] else s.rules
   on:=if k=1 then s.on++[-1] else s.on
   miss:=s.miss
   things:=s.things++[⟨x.name,k,BI s k,end_⟩] }
def EH (x:AB) (s:AM):Int:=
 if BZ x.kind=0 then 0 else if (GK s.things x.name).isSome=true then 31 else if (BI s (BZ x.kind):Int)=HK (BZ x.kind) then 3 else 0
def BR (at_:Nat) (end_:Int) (x:AB) (s:AM):AM:=if BZ x.kind=0 then s else FK at_ end_ x s
def DB (at_:Nat) (x:AB) (s:AM):Int:=
 if EC x.kind=0 then 0 else match GK s.things x.name with
  | none=>32
  | some t=>if t.known>at_ then 32 else if t.kind≠EC x.kind then 33 else 0
def CF (at_:Nat) (x:AB) (s:AM):AM:=
 if EC x.kind=0 then s else match GK s.things x.name with
  | none=>s
  | some t=>{ s with rows:=G8 s.rows at_ t.num }
def DQ (x:AB) (s:AM):Int:=
 if E8 x.kind=false then 0 else if x.kind=10 then (if s.miss≥0 then 31 else 0) else match s.on[x.n.toNat]? with
  | some v=>if v≥0 then 31 else 0
  | none=>0
def D3 (at_:Nat) (x:AB) (s:AM):AM:=
 if E8 x.kind=false then s else if x.kind=10 then { s with miss:=(at_:Int)+1 } else { s with on:=s.on.set x.n.toNat ((at_:Int)+1) }
def DE (l:List (ByteArray × Bool)):List Value:=l.flatMap fun q=>[.string q.1,.bool q.2]
def CJ (l:List ByteArray):List Value:=l.map (.string ·)
def KP (t:G9):Value × Value:=(.string t.name,.agg #[iv t.kind,iv t.num,iv t.known])
theorem N6:∀ l,(DE l).length=l.length*2
 | []=>rfl
 | q :: l=>by
  have:=N6 l
  simp only[DE,List.flatMap_cons,List.length_append,List.length_cons,List.length_nil] at *
  omega
theorem X8:∀ l,(DE l).all one=true
 | []=>rfl
 | q :: l=>by
  have:=X8 l
  simp only[DE,List.flatMap_cons,List.all_append] at *
  rw[this]
  rfl
theorem TV (l:List ByteArray):(CJ l).all one=true:=by simp[CJ,one]
theorem SG (l:List ByteArray):(CJ l).length=l.length:=by simp[CJ]
theorem J7:∀ l:List AB,(l.flatMap AV).length=l.length*5
 | []=>rfl
 | r :: l=>by
  have:=J7 l
  rw[List.flatMap_cons,List.length_append,this]
  simp only[AV,List.length_cons,List.length_nil]
  omega
theorem XE:∀ (l:List AB) (k:Nat),(l.flatMap AV).drop (k*5)=(l.drop k).flatMap AV
 | l,0=>by simp
 | [],k+1=>by simp
 | r :: l,k+1=>by
  rw[List.flatMap_cons,List.drop_succ_cons,← XE l k,show (k+1)*5=5+k*5 by omega,← List.drop_drop]
  rfl
theorem RR {l:List AB} {k:Nat} {r:AB} (h:l[k]?=some r):((l.flatMap AV).drop (k*5)).take 5=AV r:=by
 obtain⟨hl,rfl⟩:=List.getElem?_eq_some_iff.1 h
 rw[XE,List.drop_eq_getElem_cons hl,List.flatMap_cons]
 rfl
theorem cQ {h:AA} {r:Nat} {l:List AB} {c:Nat} (hg:h.get r=.row (l.flatMap AV) 60 true false) (hr:r<h.next):AQ h (qS r l.length c) l:=
 ⟨_,_,rfl,.inr ⟨r,0,_,_,_,_,rfl,hg,hr,fun k x hx=>by rw[Nat.zero_add];exact RR hx⟩⟩
theorem VN {l:List AB} {k:Nat} {x:AB} {n:Int} (hx:l[k]?=some x):(l.flatMap AV).set (k*5+3) (iv n)=(G8 l k n).flatMap AV:=by
 unfold G8
 rw[hx]
 obtain⟨hl,rfl⟩:=List.getElem?_eq_some_iff.1 hx
 simp only
 clear hx
 induction l generalizing k with
 | nil=>simp at hl
 | cons a l ih=>
  cases k with
  | zero=>rfl
  | succ k=>
   simp only[List.length_cons,Nat.add_lt_add_iff_right] at hl
   have:=ih hl
   rw[List.flatMap_cons,List.set_cons_succ,List.flatMap_cons,List.getElem_cons_succ,← this]
   rw[List.set_append_right _ _ (by simp[AV];omega)]
   congr 2
   simp only[AV,List.length_cons,List.length_nil]
   omega
theorem UE {l:List AB} {k:Nat} {n:Int}:(G8 l k n).length=l.length:=by
 unfold G8
 split
 ·simp
 ·rfl
def E2 (h:AA) (lo:Nat) (tag:Nat→Nat) (j:Nat) (v:Value) (n:Nat) (cs:List Value) (ty:TypeId):Prop:=
 (n=0∧cs=[]∧v=Z0)∨∃ id ex,v=qS id n AO∧h.get id=.row (cs++ex) ty true false∧lo≤id∧id<h.next∧tag id=j
theorem E2.mono {h h':AA} {lo:Nat} {tag tag':Nat→Nat} {j:Nat} {v:Value} {n:Nat} {cs:List Value} {ty:TypeId} (hs:E2 h lo tag j v n cs ty) (hn:h.next≤h'.next) (ht:∀ i,i<h.next→tag' i=tag i)
  (hg:∀ i,lo≤i→i<h.next→tag i=j→h'.get i=h.get i):E2 h' lo tag' j v n cs ty:=by
 rcases hs with h1 | ⟨id,ex,h1,h2,h3,h4,h5⟩
 ·exact .inl h1
 ·exact .inr ⟨id,ex,h1,by rw[hg id h3 h4 h5];exact h2,h3,by omega,by rw[ht id h4];exact h5⟩
theorem E2.mono' {h:AA} {lo:Nat} {tag tag':Nat→Nat} {j:Nat} {v:Value} {n:Nat} {cs:List Value} {ty:TypeId} (hs:E2 h lo tag j v n cs ty) (ht:∀ i,i<h.next→tag' i=tag i∨tag i≠j):E2 h lo tag' j v n cs ty:=by
 rcases hs with h1 | ⟨id,ex,h1,h2,h3,h4,h5⟩
 ·exact .inl h1
 ·refine .inr ⟨id,ex,h1,h2,h3,h4,?_⟩
  rcases ht id h4 with h | h
  ·rw[h];exact h5
  ·exact absurd h5 h
theorem UI {h:AA} {lo:Nat} {tag:Nat→Nat} {j:Nat} {ty:TypeId}:E2 h lo tag j (Z0) 0 [] ty:=.inl ⟨rfl,rfl,rfl⟩
theorem QI {t et:TypeId} {w bb:Nat} {z:Value} (hu:Tryz.prog.underlying t=some (.slice et)) (hsz:BM Tryz.prog et=some w) (hby:HC Tryz.prog et=some bb) (hzo:DX Tryz.prog et=some z) (hz:z.cells.size=w) (hw:0<w) (hbb:bb≤1024)
  {lo:Nat} {h:AA} {tag:Nat→Nat} {j:Nat} {v:Value} {n:Nat} {cs xs:List Value} {c:Nat} (hs:E2 h lo tag j v n cs et) (hcl:cs.length=n*w) (hco:cs.all one=true) (hxl:xs.length=c*w) (hxo:xs.all one=true) (hc:0<c) (hcb:c<10000000) (hnb:n<10000000)
  {src:Nat} {g ro:Bool} {sc:Nat} (hsrc:h.get src=.row xs et g ro) (hsl:src<h.next) (hfl:h.floor≤lo) (hts:¬ (lo≤src∧tag src=j)) :
  ∃ v' h',D9 Tryz.prog h t v (qS src c sc)=some (v',h')∧(E2 h' lo (fun i=>if i=h.next then j else tag i) j v' (n+c) (cs++xs) et∨¬ lo≤h.next)∧h'.floor=h.floor∧h'.next=h.next+1∧one v'=true∧v'.cells=#[v']∧∀ i,i<h.next→¬ (lo≤i∧tag i=j)→h'.get i=h.get i:=by
 have hsc:EU h w c (qS src c sc)=some xs:=by
  have hc0:c≠0:=by omega
  simp[EU,hsrc,GS,hc0,hxl]
  rw[List.take_of_length_le (by omega)]
 have hbz:∀ m,m<20000000→m*bb≤140737488355328:=fun m hm=>by
  have h1:m*bb≤m*1024:=Nat.mul_le_mul_left m hbb
  omega
 rcases hs with⟨rfl,rfl,rfl⟩ | ⟨id,ex,rfl,hg,hid,hidn,htid⟩
 ·refine⟨qS h.next c AO,h.push (.row xs et true false),?_,?_,rfl,rfl,rfl,rfl,fun i hi _=>AU hi⟩
  ·have hunk:(0:Nat)≠AO:=by unfold AO;omega
   have h0:EU h w 0 (Z0)=some []:=by simp[EU]
   have e1:¬ (c≤0):=by omega
   have e2:c*bb≤140737488355328:=hbz c (by omega)
   have e3:c≤140737488355328:=by omega
   simp only[D9,hu,hsz,hby,hzo,hz,hsc,hxo,hunk,h0,hw,e1,e2,e3,decide_true,beq_self_eq_true,Bool.and_self,if_true,if_false,Nat.le_refl,Nat.zero_add,Nat.zero_mul,Nat.zero_le,List.nil_append]
  ·by_cases hl:lo≤h.next
   ·refine .inl (.inr ⟨h.next,[],by rw[Nat.zero_add],?_,hl,by show h.next<h.next+1;omega,by simp⟩)
    rw[BX,List.append_nil,List.nil_append]
   ·exact .inr hl
 ·have e1:(n+c)*bb≤140737488355328:=hbz _ (by omega)
  have e2:n+c≤140737488355328:=by omega
  have e3:h.floor≤id:=by omega
  have e4:n≤AO:=by unfold AO;omega
  have e5:c≠0:=by omega
  have hcut:GS (cs++ex) 0 (n*w)=some cs:=by
   simp only[GS,List.drop_zero]
   rw[List.take_append_of_le_length (by omega),List.take_of_length_le (by omega),if_pos hcl]
  refine⟨qS h.next (n+c) AO,(h.put id .dead).push (.row (cs++xs) et true false),?_,.inl (.inr ⟨h.next,[],rfl,?_,by omega,by show h.next<h.next+1;omega,by simp⟩),rfl,rfl,rfl,rfl,fun i hi hne=>?_⟩
  ·simp only[D9,hu,hsz,hby,hzo,hz,hsc,hxo,e1,e2,e3,e4,hg,hcut,hco,decide_true,Bool.and_self,beq_self_eq_true,hw,if_true,e5,if_false]
  ·rw[List.append_nil]
   exact BX
  ·rw[AU (by exact hi),AR (by omega) (fun e=>hne (by subst e;exact⟨hid,htid⟩))]
structure LW (h:AA) (lo:Nat) (tag:Nat→Nat) (r n:Nat) (vq vv vt vu vo:Value) (s:AM):Prop where
 rows:h.get r=.row (s.rows.flatMap AV) 60 true false
 len:s.rows.length=n
 tr:tag r=1
 lr:lo≤r∧r<h.next
 q:E2 h lo tag 2 vq s.queues.length (DE s.queues) 75
 v:E2 h lo tag 3 vv s.vars.length (CJ s.vars) 9
 t:E2 h lo tag 4 vt s.tags.length (CJ s.tags) 9
 u:E2 h lo tag 5 vu s.rules.length (ints s.rules) 3
 o:E2 h lo tag 6 vo s.on.length (ints s.on) 3
theorem LW.mono {h h':AA} {lo:Nat} {tag tag':Nat→Nat} {r n:Nat} {vq vv vt vu vo:Value} {s:AM} (hp:LW h lo tag r n vq vv vt vu vo s) (hn:h.next≤h'.next) (ht:∀ i,i<h.next→tag' i=tag i)
  (hg:∀ i,lo≤i→i<h.next→1≤tag i→tag i≤6→h'.get i=h.get i):LW h' lo tag' r n vq vv vt vu vo s where
 rows:=by rw[hg r hp.lr.1 hp.lr.2 (by rw[hp.tr];omega) (by rw[hp.tr];omega)];exact hp.rows
 len:=hp.len
 tr:=by rw[ht r hp.lr.2];exact hp.tr
 lr:=⟨hp.lr.1,by have:=hp.lr.2;omega⟩
 q:=hp.q.mono hn ht fun i h1 h2 h3=>hg i h1 h2 (by omega) (by omega)
 v:=hp.v.mono hn ht fun i h1 h2 h3=>hg i h1 h2 (by omega) (by omega)
 t:=hp.t.mono hn ht fun i h1 h2 h3=>hg i h1 h2 (by omega) (by omega)
 u:=hp.u.mono hn ht fun i h1 h2 h3=>hg i h1 h2 (by omega) (by omega)
 o:=hp.o.mono hn ht fun i h1 h2 h3=>hg i h1 h2 (by omega) (by omega)
theorem LW.at {h:AA} {lo:Nat} {tag:Nat→Nat} {r n:Nat} {vq vv vt vu vo:Value} {s:AM} (hp:LW h lo tag r n vq vv vt vu vo s):AQ h (qS r n AO) s.rows:=by
 have:=cQ (c:=AO) hp.rows hp.lr.2
 rw[hp.len] at this
 exact this
theorem gI:∀ (l:List G9) (x:ByteArray),KT (.string x) (l.map KP)=some ((GK l x).map fun t=>.agg #[iv t.kind,iv t.num,iv t.known])
 | [],x=>rfl
 | t :: l,x=>by
  simp only[List.map_cons,KT,KP,KF,GK,List.find?_cons]
  cases hb:(x==t.name) with
  | true=>rfl
  | false=>exact gI l x
theorem oJ:∀ (l:List G9) (x:ByteArray) (v:Value),GK l x=none→G7 (.string x) v (l.map KP)=l.map KP++[(.string x,v)]
 | [],x,v,_=>rfl
 | t :: l,x,v,hf=>by
  simp only[GK,List.find?_cons] at hf
  cases hb:(x==t.name) with
  | true=>rw[hb] at hf;cases hf
  | false=>
   rw[hb] at hf
   have:=oJ l x v hf
   simp only[List.map_cons,KP,G7,KF,hb,Option.some.injEq,Bool.false_eq_true,if_false,List.cons_append]
   rw[← this]
def XL (es:List (Value × Value)):Prop:=∀ p∈es,∃ j:Int,p.1=iv j
theorem sN:∀ (es:List (Value × Value)) (k k':Int) (v:Value),XL es→KT (iv k) (G7 (iv k') v es)=if k=k' then some (some v) else KT (iv k) es
 | [],k,k',v,_=>by
  simp only[G7,KT,KF,if_true]
  by_cases hk:k=k'
  ·subst hk;simp
  ·have:(k==k')=false:=by simpa using hk
   rw[this,if_neg hk]
 | (x,u) :: es,k,k',v,hi=>by
  obtain⟨j,hj⟩:=hi (x,u) (by simp)
  simp only at hj
  subst hj
  have ih:=sN es k k' v fun p hp=>hi p (by simp[hp])
  simp only[G7,KF,if_true,Option.some.injEq,beq_iff_eq]
  by_cases hkj:k'=j
  ·subst hkj
   rw[if_pos rfl]
   simp only[KT,KF,if_true]
   by_cases hk:k=k'
   ·subst hk;simp
   ·have:(k==k')=false:=by simpa using hk
    rw[this,if_neg hk]
  ·rw[if_neg hkj]
   simp only[KT,KF,if_true]
   cases hb:(k==j) with
   | true=>
    have:k=j:=by simpa using hb
    subst this
    rw[if_neg (fun e=>hkj e.symm)]
   | false=>exact ih
theorem qA:∀ (es:List (Value × Value)) (k:Int) (v:Value),XL es→XL (G7 (iv k) v es)
 | [],k,v,_=>by intro p hp;simp[G7] at hp;exact⟨k,by rw[hp]⟩
 | (x,u) :: es,k,v,hi=>by
  have ih:=qA es k v fun p hp=>hi p (by simp[hp])
  intro p hp
  simp only[G7] at hp
  split at hp
  ·simp only[List.mem_cons] at hp
   rcases hp with rfl | hp
   ·exact⟨k,rfl⟩
   ·exact hi p (by simp[hp])
  ·simp only[List.mem_cons] at hp
   rcases hp with rfl | hp
   ·exact hi _ (by simp)
   ·exact ih p hp
def SC (es:List (Value × Value)) (s:AM):Prop:=XL es∧∀ k:Int,1≤k→k≤4→KT (iv k) es=some (if BI s k=0 then none else some (iv (BI s k:Int)))
theorem bA:BM Tryz.prog 22=some 1:=by kernel_rfl
theorem YX:BM Tryz.prog 23=some 1:=by kernel_rfl
theorem QH:BM Tryz.prog 24=some 1:=by kernel_rfl
theorem K8:BM Tryz.prog 25=some 1:=by kernel_rfl
theorem FM:BM Tryz.prog 27=some 8:=by kernel_rfl
theorem OS:BM Tryz.prog 75=some 2:=by kernel_rfl
theorem Ps:BM Tryz.prog 86=some 1:=by kernel_rfl
theorem Xd:BM Tryz.prog 87=some 1:=by kernel_rfl
theorem Hi:BM Tryz.prog 88=some 1:=by kernel_rfl
theorem Ih:BM Tryz.prog 90=some 10:=by kernel_rfl
theorem m8:BM Tryz.prog 110=some 2:=by kernel_rfl
theorem uA:BM Tryz.prog 112=some 3:=by kernel_rfl
theorem Oe:FW Tryz.prog 22=some false:=by kernel_rfl
theorem Ra:FW Tryz.prog 23=some false:=by kernel_rfl
theorem Wa:FW Tryz.prog 24=some false:=by kernel_rfl
theorem Tw:FW Tryz.prog 25=some false:=by kernel_rfl
theorem Cm:FW Tryz.prog 27=some true:=by kernel_rfl
theorem Ol:FW Tryz.prog 86=some false:=by kernel_rfl
theorem Bp:FW Tryz.prog 87=some false:=by kernel_rfl
theorem Pe:FW Tryz.prog 88=some false:=by kernel_rfl
theorem Xc:FW Tryz.prog 110=some true:=by kernel_rfl
theorem UK:HC Tryz.prog 9=some 16:=by kernel_rfl
theorem TE:HC Tryz.prog 60=some 48:=by kernel_rfl
theorem iY:HC Tryz.prog 75=some 24:=by kernel_rfl
theorem RE:DX Tryz.prog 9=some (.string ByteArray.empty):=by kernel_rfl
theorem R0:DX Tryz.prog 75=some (.agg #[.string ByteArray.empty,.bool false]):=by kernel_rfl
theorem TK:DX Tryz.prog 112=some (.agg #[iv 0,iv 0,iv 0]):=by kernel_rfl
theorem Pc:DX Tryz.prog 110=some (.agg #[iv 0,iv 0]):=by kernel_rfl
theorem Jh:DX Tryz.prog 27=some (.agg #[.string ByteArray.empty,Z0,Z0,Z0,Z0,Z0,Z0,iv 0]):=by kernel_rfl
section
variable {h:AA} {id off:Nat}
theorem BO:EW Tryz.prog h 22 (qP id off)=AH off (h.get id):=LT Oe
theorem DZ:EW Tryz.prog h 23 (qP id off)=AH off (h.get id):=LT Ra
theorem II:EW Tryz.prog h 24 (qP id off)=AH off (h.get id):=LT Wa
theorem C3:EW Tryz.prog h 25 (qP id off)=AH off (h.get id):=LT Tw
theorem VF:EW Tryz.prog h 86 (qP id off)=AH off (h.get id):=LT Ol
theorem fI:EW Tryz.prog h 87 (qP id off)=AH off (h.get id):=LT Bp
theorem s_:EW Tryz.prog h 88 (qP id off)=AH off (h.get id):=LT Pe
theorem DT:EW Tryz.prog h 27 (qP id off)=A_ 8 off (h.get id):=ND Cm FM
theorem pW:EW Tryz.prog h 110 (qP id off)=A_ 2 off (h.get id):=ND Xc m8
theorem J0:BE Tryz.prog 90 (qP id off) 0=some (qP id off):=by simp[BE,Tryz.underlying90,FM,CN]
theorem iJ:BE Tryz.prog 90 (qP id off) 1=some (qP id (off+8)):=by simp[BE,Tryz.underlying90,Xd,CN]
theorem mI:BE Tryz.prog 90 (qP id off) 2=some (qP id (off+9)):=by simp[BE,Tryz.underlying90,Hi,CN]
theorem KO:BE Tryz.prog 27 (qP id off) 0=some (qP id off):=by simp[BE,Tryz.underlying27,KH,CN]
theorem BN:BE Tryz.prog 27 (qP id off) 1=some (qP id (off+1)):=by simp[BE,Tryz.underlying27,bA,CN]
theorem D2:BE Tryz.prog 27 (qP id off) 2=some (qP id (off+2)):=by simp[BE,Tryz.underlying27,YX,CN]
theorem JM:BE Tryz.prog 27 (qP id off) 3=some (qP id (off+3)):=by simp[BE,Tryz.underlying27,QH,CN]
theorem JR:BE Tryz.prog 27 (qP id off) 4=some (qP id (off+4)):=by simp[BE,Tryz.underlying27,QH,CN]
theorem H9:BE Tryz.prog 27 (qP id off) 5=some (qP id (off+5)):=by simp[BE,Tryz.underlying27,K8,CN]
theorem ID:BE Tryz.prog 27 (qP id off) 6=some (qP id (off+6)):=by simp[BE,Tryz.underlying27,K8,CN]
theorem IV:BE Tryz.prog 27 (qP id off) 7=some (qP id (off+7)):=by simp[BE,Tryz.underlying27,C7,CN]
theorem pR:BE Tryz.prog 112 (qP id off) 0=some (qP id off):=by simp[BE,Tryz.underlying112,m8,CN]
theorem aK:BE Tryz.prog 112 (qP id off) 1=some (qP id (off+2)):=by simp[BE,Tryz.underlying112,C7,CN]
theorem tH:BE Tryz.prog 110 (qP id off) 1=some (qP id (off+1)):=by simp[BE,Tryz.underlying110,C7,CN]
theorem IR:BE Tryz.prog 75 (qP id off) 1=some (qP id (off+1)):=by simp[BE,Tryz.underlying75,PI,CN]
theorem KK {n c i:Nat} (hi:i<n):CB Tryz.prog 22 (qS id n c) (iv (i:Int))=some (.pointer (some ⟨id,i*5,none⟩)):=by
 simp only[CB,Tryz.underlying22,FN,CN]
 rw[if_pos (by omega)]
 simp
theorem GM {t:TypeId} {v:Value} {cs:List Value} {ty:TypeId} {g:Bool} (ht:BM Tryz.prog t=some 1) (hv:v.cells=#[v]) (ho:one v=true) (hg:h.get id=.row cs ty g false) (hi:off<cs.length) (hf:h.floor≤id):BB Tryz.prog h t (qP id off) v=some (h.put id (.row (cs.set off v) ty g false)):=by
 have hsz:(some 1:Option Nat)=some (#[v]:Array Value).size:=rfl
 simp only[BB,hv,ht,GZ,hg]
 rw[if_pos hsz,if_pos (by simp[ho];omega),bK hi]
end
theorem cX:IC Tryz.prog (match Tryz.prog.underlying 75 with | some (.struct fs)=>fs.toList | _=>[])=some [(0,1),(1,1)]:=by kernel_rfl
theorem zP:IC Tryz.prog (match Tryz.prog.underlying 110 with | some (.struct fs)=>fs.toList | _=>[])=some [(0,1),(1,1)]:=by kernel_rfl
theorem Lv:IC Tryz.prog (match Tryz.prog.underlying 112 with | some (.struct fs)=>fs.toList | _=>[])=some [(0,2),(2,1)]:=by kernel_rfl
theorem sU {a b:Value}:flat (.agg #[a,b])=(BS a&&(BS b&&true)):=by simp[flat]
theorem qG {a b c:Value}:flat (.agg #[a,b,c])=(BS a&&(BS b&&(BS c&&true))):=by simp[flat]
theorem vA {nm:ByteArray} {g:Bool}:DM Tryz.prog 75 [(0,.string nm),(1,.bool g)]=some (.agg #[.string nm,.bool g]):=by
 have h:=cX
 rw[Tryz.underlying75] at h
 simp only at h
 simp only[DM,R0,sU,Cs,Sq,Bool.and_self,if_true,Tryz.underlying75,h]
 rfl
theorem iK {a b:Int}:DM Tryz.prog 110 [(0,iv a),(1,iv b)]=some (.agg #[iv a,iv b]):=by
 have h:=zP
 rw[Tryz.underlying110] at h
 simp only at h
 simp only[DM,Pc,sU,RS,Bool.and_self,if_true,Tryz.underlying110,h]
 rfl
theorem Nd {a b c:Int}:DM Tryz.prog 112 [(0,.agg #[iv a,iv b]),(1,iv c)]=some (.agg #[iv a,iv b,iv c]):=by
 have h:=Lv
 rw[Tryz.underlying112] at h
 simp only at h
 simp only[DM,TK,qG,RS,Bool.and_self,if_true,Tryz.underlying112,h]
 rfl
section
variable {h:AA}
theorem oV {nm:ByteArray} {g:Bool}:GD Tryz.prog h 23 1 [(0,.agg #[.string nm,.bool g])]=some (qS h.next 1 1,h.push (.row [.string nm,.bool g] 75 false false)):=by
 simp[GD,Tryz.underlying23,OS,R0,flat,BS,FI,JX,B0,Go.Sx.lay]
theorem Z9 {nm:ByteArray}:GD Tryz.prog h 24 1 [(0,.string nm)]=some (qS h.next 1 1,h.push (.row [.string nm] 9 false false)):=by
 have hc:∀ x,(Value.string x).cells=#[.string x]:=fun _=>rfl
 simp[GD,Tryz.underlying24,KH,RE,flat,BS,hc,JX,B0,Go.Sx.lay]
theorem LI {x:Int}:GD Tryz.prog h 25 1 [(0,iv x)]=some (qS h.next 1 1,h.push (.row [iv x] 3 false false)):=by
 have hc:∀ x:Int,(iv x).cells=#[iv x]:=fun _=>rfl
 simp[GD,Tryz.underlying25,C7,JK,flat,BS,hc,JX,B0,Go.Sx.lay]
theorem xD {k:Nat} {l:List G9} {x:ByteArray} (hg:h.get k=.map (l.map KP)):QR Tryz.prog h 87 (.map (some k)) (.string x) true=some (match GK l x with
  | some t=>.tuple #[.agg #[iv t.kind,iv t.num,iv t.known],.bool true]
  | none=>.tuple #[.agg #[iv 0,iv 0,iv 0],.bool false]):=by
 have hk:NG Tryz.prog 9 (.string x)=true:=by simp[NG,Tryz.underlying9]
 simp only[QR,Tryz.underlying87,hk,hg,gI,if_true]
 cases GK l x with
 | some t=>rfl
 | none=>
  simp only[Option.map_none,TK,qG,RS,Bool.and_self,if_true]
theorem Ig {k:Nat} {l:List G9} {x:ByteArray} {a b c:Int} (hg:h.get k=.map (l.map KP)) (hf:GK l x=none) (hfl:h.floor≤k):MZ Tryz.prog h 87 (.map (some k)) (.string x) (.agg #[iv a,iv b,iv c])=some (h.put k (.map ((l++[(⟨x,a,b,c⟩:G9)]).map KP))):=by
 have hk:NG Tryz.prog 9 (.string x)=true:=by simp[NG,Tryz.underlying9]
 simp only[MZ,Tryz.underlying87,hk,hg,gI,decide_eq_true hfl,Bool.and_self,if_true,oJ _ _ _ hf,List.map_append,List.map_cons,List.map_nil,KP]
theorem Fa {c:Nat} {es:List (Value × Value)} {s:AM} {k:Int} (hg:h.get c=.map es) (hm:SC es s) (h1:1≤k) (h4:k≤4):QR Tryz.prog h 88 (.map (some c)) (iv k) false=some (iv (BI s k:Int)):=by
 have hk:NG Tryz.prog 3 (iv k)=true:=by simp[NG,Tryz.underlying3]
 simp only[QR,Tryz.underlying88,hk,hg,hm.2 k h1 h4,if_true]
 by_cases h0:BI s k=0
 ·rw[if_pos h0,h0]
  simp only[JK,Y_,if_true,Bool.false_eq_true,if_false]
  rfl
 ·rw[if_neg h0]
  simp only[Bool.false_eq_true,if_false]
theorem Mv {c:Nat} {es:List (Value × Value)} {s:AM} {k:Int} {v:Value} (hg:h.get c=.map es) (hm:SC es s) (h1:1≤k) (h4:k≤4) (hfl:h.floor≤c):MZ Tryz.prog h 88 (.map (some c)) (iv k) v=some (h.put c (.map (G7 (iv k) v es))):=by
 have hk:NG Tryz.prog 3 (iv k)=true:=by simp[NG,Tryz.underlying3]
 simp only[MZ,Tryz.underlying88,hk,hg,hm.2 k h1 h4,decide_eq_true hfl,Bool.and_self,if_true]
end
structure B7 (h:AA) (lo m k c e r n:Nat) (nm:ByteArray) (E:List Int) (tag:Nat→Nat) (vq vv vt vu vo:Value) (es:List (Value × Value)) (s:AM):Prop where
 cell:h.get m=.row [.string nm,qS r n AO,vq,vv,vt,vu,vo,iv s.miss,.map (some k),.map (some c)] 90 false false
 pol:LW h lo tag r n vq vv vt vu vo s
 known:h.get k=.map (s.things.map KP)
 many:h.get c=.map es
 ends:h.get e=.row (ints E) 3 false false
 tm:tag m=0
 tk:tag k=8
 tc:tag c=9
 te:tag e=10
 lm:lo≤m∧m<h.next
 lk:lo≤k∧k<h.next
 lc:lo≤c∧c<h.next
 le:lo≤e∧e<h.next
 fl:h.floor≤lo
section
variable {h h':AA} {lo m k c e r n:Nat} {nm:ByteArray} {E:List Int} {tag tag':Nat→Nat} {vq vv vt vu vo:Value} {es:List (Value × Value)} {s s':AM}
theorem PX {a i:Nat} (hl:lo≤a) (ht:tag a≤10) (hi:i<lo∨(i<h.next∧11≤tag i)):a≠i:=by
 rintro rfl
 omega
theorem GH {a b:Nat} (h:tag a≠tag b):a≠b:=fun e=>h (by rw[e])
theorem B7.mono (hp:B7 h lo m k c e r n nm E tag vq vv vt vu vo es s) (hn:h.next≤h'.next) (hf:h'.floor=h.floor) (ht:∀ i,i<h.next→tag' i=tag i)
  (hg:∀ i,lo≤i→i<h.next→h'.get i=h.get i):B7 h' lo m k c e r n nm E tag' vq vv vt vu vo es s where
 cell:=by rw[hg m hp.lm.1 hp.lm.2];exact hp.cell
 pol:=hp.pol.mono hn ht fun i h1 h2 _ _=>hg i h1 h2
 known:=by rw[hg k hp.lk.1 hp.lk.2];exact hp.known
 many:=by rw[hg c hp.lc.1 hp.lc.2];exact hp.many
 ends:=by rw[hg e hp.le.1 hp.le.2];exact hp.ends
 tm:=by rw[ht m hp.lm.2];exact hp.tm
 tk:=by rw[ht k hp.lk.2];exact hp.tk
 tc:=by rw[ht c hp.lc.2];exact hp.tc
 te:=by rw[ht e hp.le.2];exact hp.te
 lm:=⟨hp.lm.1,by have:=hp.lm.2;omega⟩
 lk:=⟨hp.lk.1,by have:=hp.lk.2;omega⟩
 lc:=⟨hp.lc.1,by have:=hp.lc.2;omega⟩
 le:=⟨hp.le.1,by have:=hp.le.2;omega⟩
 fl:=by rw[hf];exact hp.fl
theorem B7.push (hp:B7 h lo m k c e r n nm E tag vq vv vt vu vo es s) (o:BF):B7 (h.push o) lo m k c e r n nm E tag vq vv vt vu vo es s:=
 hp.mono (by show h.next≤h.next+1;omega) rfl (fun _ _=>rfl) fun i _ hi=>AU hi
theorem B7.putNew (hp:B7 h lo m k c e r n nm E tag vq vv vt vu vo es s) {o o':BF}:B7 ((h.push o').put h.next o) lo m k c e r n nm E tag vq vv vt vu vo es s:=
 hp.mono (by show h.next≤h.next+1;omega) rfl (fun _ _=>rfl) fun i _ hi=>by rw[AR (by show h.next<h.next+1;omega) (by omega),AU hi]
theorem B7.putC (hp:B7 h lo m k c e r n nm E tag vq vv vt vu vo es s) (es':List (Value × Value)):B7 (h.put c (.map es')) lo m k c e r n nm E tag vq vv vt vu vo es' s where
 cell:=by rw[AR hp.lc.2 (GH (tag:=tag) (by rw[hp.tm,hp.tc];decide))];exact hp.cell
 pol:=hp.pol.mono (Nat.le_refl _) (fun _ _=>rfl) fun i _ _ h1 h2=>AR hp.lc.2 (GH (tag:=tag) (by rw[hp.tc];omega))
 known:=by rw[AR hp.lc.2 (GH (tag:=tag) (by rw[hp.tk,hp.tc];decide))];exact hp.known
 many:=BL rfl hp.lc.2
 ends:=by rw[AR hp.lc.2 (GH (tag:=tag) (by rw[hp.te,hp.tc];decide))];exact hp.ends
 tm:=hp.tm
 tk:=hp.tk
 tc:=hp.tc
 te:=hp.te
 lm:=hp.lm
 lk:=hp.lk
 lc:=hp.lc
 le:=hp.le
 fl:=hp.fl
theorem B7.putK (hp:B7 h lo m k c e r n nm E tag vq vv vt vu vo es s) (l:List G9):B7 (h.put k (.map (l.map KP))) lo m k c e r n nm E tag vq vv vt vu vo es { s with things:=l } where
 cell:=by rw[AR hp.lk.2 (GH (tag:=tag) (by rw[hp.tm,hp.tk];decide))];exact hp.cell
 pol:=by
  have:=hp.pol.mono (h':=h.put k (.map (l.map KP))) (Nat.le_refl _) (fun _ _=>rfl) fun i _ _ h1 h2=>AR hp.lk.2 (GH (tag:=tag) (by rw[hp.tk];omega))
  exact⟨this.rows,this.len,this.tr,this.lr,this.q,this.v,this.t,this.u,this.o⟩
 known:=BL rfl hp.lk.2
 many:=by rw[AR hp.lk.2 (GH (tag:=tag) (by rw[hp.tc,hp.tk];decide))];exact hp.many
 ends:=by rw[AR hp.lk.2 (GH (tag:=tag) (by rw[hp.te,hp.tk];decide))];exact hp.ends
 tm:=hp.tm
 tk:=hp.tk
 tc:=hp.tc
 te:=hp.te
 lm:=hp.lm
 lk:=hp.lk
 lc:=hp.lc
 le:=hp.le
 fl:=hp.fl
theorem B7.pol' (hp:B7 h lo m k c e r n nm E tag vq vv vt vu vo es s) {vq' vv' vt' vu' vo':Value} (hn:h.next≤h'.next) (hf:h'.floor=h.floor) (ht:∀ i,i<h.next→tag' i=tag i)
  (hg:∀ i,lo≤i→i<h.next→8≤tag i→h'.get i=h.get i) (hc:h'.get m=.row [.string nm,qS r n AO,vq',vv',vt',vu',vo',iv s'.miss,.map (some k),.map (some c)] 90 false false)
  (hp':LW h' lo tag' r n vq' vv' vt' vu' vo' s') (hth:s'.things=s.things):B7 h' lo m k c e r n nm E tag' vq' vv' vt' vu' vo' es s' where
 cell:=hc
 pol:=hp'
 known:=by rw[hg k hp.lk.1 hp.lk.2 (by rw[hp.tk];omega),hth];exact hp.known
 many:=by rw[hg c hp.lc.1 hp.lc.2 (by rw[hp.tc];omega)];exact hp.many
 ends:=by rw[hg e hp.le.1 hp.le.2 (by rw[hp.te];omega)];exact hp.ends
 tm:=by rw[ht m hp.lm.2];exact hp.tm
 tk:=by rw[ht k hp.lk.2];exact hp.tk
 tc:=by rw[ht c hp.lc.2];exact hp.tc
 te:=by rw[ht e hp.le.2];exact hp.te
 lm:=⟨hp.lm.1,by have:=hp.lm.2;omega⟩
 lk:=⟨hp.lk.1,by have:=hp.lk.2;omega⟩
 lc:=⟨hp.lc.1,by have:=hp.lc.2;omega⟩
 le:=⟨hp.le.1,by have:=hp.le.2;omega⟩
 fl:=by rw[hf];exact hp.fl
theorem LW.putR (hp:LW h lo tag r n vq vv vt vu vo s) {l:List AB} (hl:l.length=s.rows.length):LW (h.put r (.row (l.flatMap AV) 60 true false)) lo tag r n vq vv vt vu vo { s with rows:=l }:=
 have hg:∀ i j,2≤j→tag i=j→(h.put r (.row (l.flatMap AV) 60 true false)).get i=h.get i:=fun i j hj hi=>AR hp.lr.2 (GH (tag:=tag) (by rw[hp.tr];omega))
 ⟨BL rfl hp.lr.2,hl.trans hp.len,hp.tr,hp.lr,hp.q.mono (Nat.le_refl _) (fun _ _=>rfl) fun i _ _ h3=>hg i 2 (by omega) h3,hp.v.mono (Nat.le_refl _) (fun _ _=>rfl) fun i _ _ h3=>hg i 3 (by omega) h3,hp.t.mono (Nat.le_refl _) (fun _ _=>rfl) fun i _ _ h3=>hg i 4 (by omega) h3,hp.u.mono (Nat.le_refl _) (fun _ _=>rfl) fun i _ _ h3=>hg i 5 (by omega) h3,hp.o.mono (Nat.le_refl _) (fun _ _=>rfl) fun i _ _ h3=>hg i 6 (by omega) h3⟩
theorem B7.putR (hp:B7 h lo m k c e r n nm E tag vq vv vt vu vo es s) {l:List AB} (hl:l.length=s.rows.length):B7 (h.put r (.row (l.flatMap AV) 60 true false)) lo m k c e r n nm E tag vq vv vt vu vo es { s with rows:=l }:=
 hp.pol' (Nat.le_refl _) rfl (fun _ _=>rfl) (fun i _ _ h1=>AR hp.pol.lr.2 (GH (tag:=tag) (by rw[hp.pol.tr];omega))) (by rw[AR hp.pol.lr.2 (GH (tag:=tag) (by rw[hp.pol.tr,hp.tm];decide))];exact hp.cell) (hp.pol.putR hl) rfl
theorem B7.c1 (hp:B7 h lo m k c e r n nm E tag vq vv vt vu vo es s):AH 1 (h.get m)=some (qS r n AO):=by rw[hp.cell];rfl
theorem B7.c2 (hp:B7 h lo m k c e r n nm E tag vq vv vt vu vo es s):AH 2 (h.get m)=some vq:=by rw[hp.cell];rfl
theorem B7.c3 (hp:B7 h lo m k c e r n nm E tag vq vv vt vu vo es s):AH 3 (h.get m)=some vv:=by rw[hp.cell];rfl
theorem B7.c4 (hp:B7 h lo m k c e r n nm E tag vq vv vt vu vo es s):AH 4 (h.get m)=some vt:=by rw[hp.cell];rfl
theorem B7.c5 (hp:B7 h lo m k c e r n nm E tag vq vv vt vu vo es s):AH 5 (h.get m)=some vu:=by rw[hp.cell];rfl
theorem B7.c6 (hp:B7 h lo m k c e r n nm E tag vq vv vt vu vo es s):AH 6 (h.get m)=some vo:=by rw[hp.cell];rfl
theorem B7.c7 (hp:B7 h lo m k c e r n nm E tag vq vv vt vu vo es s):AH 7 (h.get m)=some (iv s.miss):=by rw[hp.cell];rfl
theorem B7.c8 (hp:B7 h lo m k c e r n nm E tag vq vv vt vu vo es s):AH 8 (h.get m)=some (.map (some k)):=by rw[hp.cell];rfl
theorem B7.c9 (hp:B7 h lo m k c e r n nm E tag vq vv vt vu vo es s):AH 9 (h.get m)=some (.map (some c)):=by rw[hp.cell];rfl
theorem B7.row (hp:B7 h lo m k c e r n nm E tag vq vv vt vu vo es s) {at_:Nat} {x:AB} (hx:s.rows[at_]?=some x):at_<n∧AH (at_*5) (h.get r)=some (iv x.kind)∧AH (at_*5+1) (h.get r)=some (.string x.name)∧AH (at_*5+2) (h.get r)=some (iv x.ends)∧AH (at_*5+3) (h.get r)=some (iv x.n)∧AH (at_*5+4) (h.get r)=some (iv x.kids) ∧
  A_ 5 (at_*5) (h.get r)=some (.agg #[iv x.kind,.string x.name,iv x.ends,iv x.n,iv x.kids]):=by
 have hl:at_<n:=by rw[← hp.pol.len];exact(List.getElem?_eq_some_iff.1 hx).1
 obtain⟨id,q,e0,hid,l0,l1,l2,l3,l4,lr⟩:=hp.pol.at.row hx
 rw[KK hl] at e0
 simp only[Option.some.injEq,Value.pointer.injEq,Addr.mk.injEq,and_true] at e0
 obtain⟨rfl,rfl⟩:=e0
 exact⟨hl,l0,l1,l2,l3,l4,lr⟩
end
section
variable {h:AA} {lo m k c e r n:Nat} {nm:ByteArray} {E:List Int} {tag:Nat→Nat} {vq vv vt vu vo:Value} {es:List (Value × Value)} {s:AM}
theorem Gl {l:List (ByteArray × Bool)} {x:ByteArray × Bool}:DE l++[.string x.1,.bool x.2]=DE (l++[x]):=by simp[DE]
theorem mM {l:List ByteArray} {x:ByteArray}:CJ l++[.string x]=CJ (l++[x]):=by simp[CJ]
theorem qK {l:List Int} {x:Int}:ints l++[iv x]=ints (l++[x]):=by simp[ints]
theorem B7.appQ (hp:B7 h lo m k c e r n nm E tag vq vv vt vu vo es s) (x:(ByteArray × Bool)) (hb:s.queues.length<10000000):∃ v' h1,D9 Tryz.prog (h.push (.row [.string x.1,.bool x.2] 75 false false)) 23 vq (qS h.next 1 1)=some (v',h1)∧h1.get m=h.get m∧one v'=true∧v'.cells=#[v']∧h1.floor=h.floor∧h1.next=h.next+2∧(∀ i,i<h.next→i<lo∨11≤tag i→h1.get i=h.get i) ∧
  B7 (h1.put m (.row [.string nm,qS r n AO,v',vv,vt,vu,vo,iv s.miss,.map (some k),.map (some c)] 90 false false)) lo m k c e r n nm E (fun i=>if i=h.next+1 then 2 else tag i) v' vv vt vu vo es { s with queues:=s.queues++[x] }:=by
 have hlm:=hp.lm
 have hpp:=hp.mono (h':=h.push (.row [.string x.1,.bool x.2] 75 false false)) (tag':=fun i=>if i=h.next then 11 else tag i) (by show h.next≤h.next+1;omega) rfl (fun i hi=>if_neg (by omega)) fun i _ hi=>AU hi
 obtain⟨v',h1,a1,a2,a3,a4,a5,a6,a7⟩:=QI (et:=75) (w:=2) (c:=1) (sc:=1) (xs:=[.string x.1,.bool x.2]) Tryz.underlying23 OS iY R0 rfl (by decide) (by decide) hpp.pol.q (N6 _) (X8 _) rfl rfl (by decide) (by decide) hb (src:=h.next) BX (by show h.next<h.next+1;omega) hp.fl (by simp)
 have hnx:h1.next=h.next+2:=a4
 have hold:∀ i,i<h.next→¬ (lo≤i∧tag i=2)→h1.get i=h.get i:=fun i hi hne=>by
  rw[a7 i (by show i<h.next+1;omega) (by rw[if_neg (by omega)];exact hne),AU hi]
 have hm1:m<h1.next:=by omega
 have hgm:h1.get m=h.get m:=hold m hlm.2 (by rw[hp.tm];omega)
 have hSl:E2 h1 lo (fun i=>if i=h.next+1 then 2 else tag i) 2 v' (s.queues.length+1) (DE s.queues++[.string x.1,.bool x.2]) 75:=by
  rcases a2 with a2 | a2
  ·refine a2.mono' fun i hi=>?_
   show (if i=h.next+1 then 2 else tag i)=(if i=h.next+1 then 2 else if i=h.next then 11 else tag i)∨(if i=h.next+1 then 2 else if i=h.next then 11 else tag i)≠2
   by_cases e1:i=h.next+1
   ·left;rw[if_pos e1,if_pos e1]
   ·rw[if_neg e1,if_neg e1]
    by_cases e2:i=h.next
    ·right;rw[if_pos e2];decide
    ·left;rw[if_neg e2]
  ·exact absurd (show lo≤h.next+1 by omega) a2
 refine⟨v',h1,a1,hgm,a5,a6,a3,hnx,fun i hi hlo=>hold i hi (by omega),?_⟩
 have hn2:h.next≤(h1.put m (.row [.string nm,qS r n AO,v',vv,vt,vu,vo,iv s.miss,.map (some k),.map (some c)] 90 false false)).next:=by show h.next≤h1.next;omega
 have ht2:∀ i,i<h.next→(fun i=>if i=h.next+1 then 2 else tag i) i=tag i:=fun i hi=>if_neg (by omega)
 have hg2:∀ i,lo≤i→i<h.next→tag i≠0→tag i≠2→(h1.put m (.row [.string nm,qS r n AO,v',vv,vt,vu,vo,iv s.miss,.map (some k),.map (some c)] 90 false false)).get i=h.get i:=fun i h1' h2 h3 h4=>by
  rw[AR hm1 (GH (tag:=tag) (by rw[hp.tm];exact h3.symm)),hold i h2 (fun e=>h4 e.2)]
 have hgj:∀ jj,jj≠0→jj≠2→(jj≠2)→∀ i,lo≤i→i<h.next→tag i=jj→(h1.put m (.row [.string nm,qS r n AO,v',vv,vt,vu,vo,iv s.miss,.map (some k),.map (some c)] 90 false false)).get i=h.get i:=fun jj z1 z2 _ i h1' h2 h3=>hg2 i h1' h2 (by omega) (by omega)
 refine hp.pol' hn2 a3 ht2 (fun i h1' h2 h3=>hg2 i h1' h2 (by omega) (by omega)) (BL rfl hm1) ?_ rfl
 exact
  { rows:=by rw[hg2 r hp.pol.lr.1 hp.pol.lr.2 (by rw[hp.pol.tr];decide) (by rw[hp.pol.tr];decide)];exact hp.pol.rows
    len:=hp.pol.len
    tr:=(ht2 r hp.pol.lr.2).trans hp.pol.tr
    lr:=⟨hp.pol.lr.1,by have:=hp.pol.lr.2;omega⟩
    q:=by
     have h9:=hSl.mono (h':=(h1.put m (.row [.string nm,qS r n AO,v',vv,vt,vu,vo,iv s.miss,.map (some k),.map (some c)] 90 false false))) (Nat.le_refl _) (fun _ _=>rfl) fun i _ _ h3=>AR hm1 (GH (tag:=fun i=>if i=h.next+1 then 2 else tag i) (by rw[h3];show (if m=h.next+1 then _ else tag m)≠_;rw[if_neg (by omega),hp.tm];decide))
     rw[Gl] at h9
     simp only[List.length_append,List.length_cons,List.length_nil]
     exact h9
    v:=hp.pol.v.mono hn2 ht2 (hgj 3 (by decide) (by decide) (by decide))
    t:=hp.pol.t.mono hn2 ht2 (hgj 4 (by decide) (by decide) (by decide))
    u:=hp.pol.u.mono hn2 ht2 (hgj 5 (by decide) (by decide) (by decide))
    o:=hp.pol.o.mono hn2 ht2 (hgj 6 (by decide) (by decide) (by decide)) }
theorem B7.appV (hp:B7 h lo m k c e r n nm E tag vq vv vt vu vo es s) (x:ByteArray) (hb:s.vars.length<10000000):∃ v' h1,D9 Tryz.prog (h.push (.row [.string x] 9 false false)) 24 vv (qS h.next 1 1)=some (v',h1)∧h1.get m=h.get m∧one v'=true∧v'.cells=#[v']∧h1.floor=h.floor∧h1.next=h.next+2∧(∀ i,i<h.next→i<lo∨11≤tag i→h1.get i=h.get i) ∧
  B7 (h1.put m (.row [.string nm,qS r n AO,vq,v',vt,vu,vo,iv s.miss,.map (some k),.map (some c)] 90 false false)) lo m k c e r n nm E (fun i=>if i=h.next+1 then 3 else tag i) vq v' vt vu vo es { s with vars:=s.vars++[x] }:=by
 have hlm:=hp.lm
 have hpp:=hp.mono (h':=h.push (.row [.string x] 9 false false)) (tag':=fun i=>if i=h.next then 11 else tag i) (by show h.next≤h.next+1;omega) rfl (fun i hi=>if_neg (by omega)) fun i _ hi=>AU hi
 obtain⟨v',h1,a1,a2,a3,a4,a5,a6,a7⟩:=QI (et:=9) (w:=1) (c:=1) (sc:=1) (xs:=[.string x]) Tryz.underlying24 KH UK RE rfl (by decide) (by decide) hpp.pol.v (by rw[Nat.mul_one];exact SG _) (TV _) rfl rfl (by decide) (by decide) hb (src:=h.next) BX (by show h.next<h.next+1;omega) hp.fl (by simp)
 have hnx:h1.next=h.next+2:=a4
 have hold:∀ i,i<h.next→¬ (lo≤i∧tag i=3)→h1.get i=h.get i:=fun i hi hne=>by
  rw[a7 i (by show i<h.next+1;omega) (by rw[if_neg (by omega)];exact hne),AU hi]
 have hm1:m<h1.next:=by omega
 have hgm:h1.get m=h.get m:=hold m hlm.2 (by rw[hp.tm];omega)
 have hSl:E2 h1 lo (fun i=>if i=h.next+1 then 3 else tag i) 3 v' (s.vars.length+1) (CJ s.vars++[.string x]) 9:=by
  rcases a2 with a2 | a2
  ·refine a2.mono' fun i hi=>?_
   show (if i=h.next+1 then 3 else tag i)=(if i=h.next+1 then 3 else if i=h.next then 11 else tag i)∨(if i=h.next+1 then 3 else if i=h.next then 11 else tag i)≠3
   by_cases e1:i=h.next+1
   ·left;rw[if_pos e1,if_pos e1]
   ·rw[if_neg e1,if_neg e1]
    by_cases e2:i=h.next
    ·right;rw[if_pos e2];decide
    ·left;rw[if_neg e2]
  ·exact absurd (show lo≤h.next+1 by omega) a2
 refine⟨v',h1,a1,hgm,a5,a6,a3,hnx,fun i hi hlo=>hold i hi (by omega),?_⟩
 have hn2:h.next≤(h1.put m (.row [.string nm,qS r n AO,vq,v',vt,vu,vo,iv s.miss,.map (some k),.map (some c)] 90 false false)).next:=by show h.next≤h1.next;omega
 have ht2:∀ i,i<h.next→(fun i=>if i=h.next+1 then 3 else tag i) i=tag i:=fun i hi=>if_neg (by omega)
 have hg2:∀ i,lo≤i→i<h.next→tag i≠0→tag i≠3→(h1.put m (.row [.string nm,qS r n AO,vq,v',vt,vu,vo,iv s.miss,.map (some k),.map (some c)] 90 false false)).get i=h.get i:=fun i h1' h2 h3 h4=>by
  rw[AR hm1 (GH (tag:=tag) (by rw[hp.tm];exact h3.symm)),hold i h2 (fun e=>h4 e.2)]
 have hgj:∀ jj,jj≠0→jj≠3→(jj≠3)→∀ i,lo≤i→i<h.next→tag i=jj→(h1.put m (.row [.string nm,qS r n AO,vq,v',vt,vu,vo,iv s.miss,.map (some k),.map (some c)] 90 false false)).get i=h.get i:=fun jj z1 z2 _ i h1' h2 h3=>hg2 i h1' h2 (by omega) (by omega)
 refine hp.pol' hn2 a3 ht2 (fun i h1' h2 h3=>hg2 i h1' h2 (by omega) (by omega)) (BL rfl hm1) ?_ rfl
 exact
  { rows:=by rw[hg2 r hp.pol.lr.1 hp.pol.lr.2 (by rw[hp.pol.tr];decide) (by rw[hp.pol.tr];decide)];exact hp.pol.rows
    len:=hp.pol.len
    tr:=(ht2 r hp.pol.lr.2).trans hp.pol.tr
    lr:=⟨hp.pol.lr.1,by have:=hp.pol.lr.2;omega⟩
    q:=hp.pol.q.mono hn2 ht2 (hgj 2 (by decide) (by decide) (by decide))
    v:=by
     have h9:=hSl.mono (h':=(h1.put m (.row [.string nm,qS r n AO,vq,v',vt,vu,vo,iv s.miss,.map (some k),.map (some c)] 90 false false))) (Nat.le_refl _) (fun _ _=>rfl) fun i _ _ h3=>AR hm1 (GH (tag:=fun i=>if i=h.next+1 then 3 else tag i) (by rw[h3];show (if m=h.next+1 then _ else tag m)≠_;rw[if_neg (by omega),hp.tm];decide))
     rw[mM] at h9
     simp only[List.length_append,List.length_cons,List.length_nil]
     exact h9
    t:=hp.pol.t.mono hn2 ht2 (hgj 4 (by decide) (by decide) (by decide))
    u:=hp.pol.u.mono hn2 ht2 (hgj 5 (by decide) (by decide) (by decide))
    o:=hp.pol.o.mono hn2 ht2 (hgj 6 (by decide) (by decide) (by decide)) }
theorem B7.appT (hp:B7 h lo m k c e r n nm E tag vq vv vt vu vo es s) (x:ByteArray) (hb:s.tags.length<10000000):∃ v' h1,D9 Tryz.prog (h.push (.row [.string x] 9 false false)) 24 vt (qS h.next 1 1)=some (v',h1)∧h1.get m=h.get m∧one v'=true∧v'.cells=#[v']∧h1.floor=h.floor∧h1.next=h.next+2∧(∀ i,i<h.next→i<lo∨11≤tag i→h1.get i=h.get i) ∧
  B7 (h1.put m (.row [.string nm,qS r n AO,vq,vv,v',vu,vo,iv s.miss,.map (some k),.map (some c)] 90 false false)) lo m k c e r n nm E (fun i=>if i=h.next+1 then 4 else tag i) vq vv v' vu vo es { s with tags:=s.tags++[x] }:=by
 have hlm:=hp.lm
 have hpp:=hp.mono (h':=h.push (.row [.string x] 9 false false)) (tag':=fun i=>if i=h.next then 11 else tag i) (by show h.next≤h.next+1;omega) rfl (fun i hi=>if_neg (by omega)) fun i _ hi=>AU hi
 obtain⟨v',h1,a1,a2,a3,a4,a5,a6,a7⟩:=QI (et:=9) (w:=1) (c:=1) (sc:=1) (xs:=[.string x]) Tryz.underlying24 KH UK RE rfl (by decide) (by decide) hpp.pol.t (by rw[Nat.mul_one];exact SG _) (TV _) rfl rfl (by decide) (by decide) hb (src:=h.next) BX (by show h.next<h.next+1;omega) hp.fl (by simp)
 have hnx:h1.next=h.next+2:=a4
 have hold:∀ i,i<h.next→¬ (lo≤i∧tag i=4)→h1.get i=h.get i:=fun i hi hne=>by
  rw[a7 i (by show i<h.next+1;omega) (by rw[if_neg (by omega)];exact hne),AU hi]
 have hm1:m<h1.next:=by omega
 have hgm:h1.get m=h.get m:=hold m hlm.2 (by rw[hp.tm];omega)
 have hSl:E2 h1 lo (fun i=>if i=h.next+1 then 4 else tag i) 4 v' (s.tags.length+1) (CJ s.tags++[.string x]) 9:=by
  rcases a2 with a2 | a2
  ·refine a2.mono' fun i hi=>?_
   show (if i=h.next+1 then 4 else tag i)=(if i=h.next+1 then 4 else if i=h.next then 11 else tag i)∨(if i=h.next+1 then 4 else if i=h.next then 11 else tag i)≠4
   by_cases e1:i=h.next+1
   ·left;rw[if_pos e1,if_pos e1]
   ·rw[if_neg e1,if_neg e1]
    by_cases e2:i=h.next
    ·right;rw[if_pos e2];decide
    ·left;rw[if_neg e2]
  ·exact absurd (show lo≤h.next+1 by omega) a2
 refine⟨v',h1,a1,hgm,a5,a6,a3,hnx,fun i hi hlo=>hold i hi (by omega),?_⟩
 have hn2:h.next≤(h1.put m (.row [.string nm,qS r n AO,vq,vv,v',vu,vo,iv s.miss,.map (some k),.map (some c)] 90 false false)).next:=by show h.next≤h1.next;omega
 have ht2:∀ i,i<h.next→(fun i=>if i=h.next+1 then 4 else tag i) i=tag i:=fun i hi=>if_neg (by omega)
 have hg2:∀ i,lo≤i→i<h.next→tag i≠0→tag i≠4→(h1.put m (.row [.string nm,qS r n AO,vq,vv,v',vu,vo,iv s.miss,.map (some k),.map (some c)] 90 false false)).get i=h.get i:=fun i h1' h2 h3 h4=>by
  rw[AR hm1 (GH (tag:=tag) (by rw[hp.tm];exact h3.symm)),hold i h2 (fun e=>h4 e.2)]
 have hgj:∀ jj,jj≠0→jj≠4→(jj≠4)→∀ i,lo≤i→i<h.next→tag i=jj→(h1.put m (.row [.string nm,qS r n AO,vq,vv,v',vu,vo,iv s.miss,.map (some k),.map (some c)] 90 false false)).get i=h.get i:=fun jj z1 z2 _ i h1' h2 h3=>hg2 i h1' h2 (by omega) (by omega)
 refine hp.pol' hn2 a3 ht2 (fun i h1' h2 h3=>hg2 i h1' h2 (by omega) (by omega)) (BL rfl hm1) ?_ rfl
 exact
  { rows:=by rw[hg2 r hp.pol.lr.1 hp.pol.lr.2 (by rw[hp.pol.tr];decide) (by rw[hp.pol.tr];decide)];exact hp.pol.rows
    len:=hp.pol.len
    tr:=(ht2 r hp.pol.lr.2).trans hp.pol.tr
    lr:=⟨hp.pol.lr.1,by have:=hp.pol.lr.2;omega⟩
    q:=hp.pol.q.mono hn2 ht2 (hgj 2 (by decide) (by decide) (by decide))
    v:=hp.pol.v.mono hn2 ht2 (hgj 3 (by decide) (by decide) (by decide))
    t:=by
     have h9:=hSl.mono (h':=(h1.put m (.row [.string nm,qS r n AO,vq,vv,v',vu,vo,iv s.miss,.map (some k),.map (some c)] 90 false false))) (Nat.le_refl _) (fun _ _=>rfl) fun i _ _ h3=>AR hm1 (GH (tag:=fun i=>if i=h.next+1 then 4 else tag i) (by rw[h3];show (if m=h.next+1 then _ else tag m)≠_;rw[if_neg (by omega),hp.tm];decide))
     rw[mM] at h9
     simp only[List.length_append,List.length_cons,List.length_nil]
     exact h9
    u:=hp.pol.u.mono hn2 ht2 (hgj 5 (by decide) (by decide) (by decide))
    o:=hp.pol.o.mono hn2 ht2 (hgj 6 (by decide) (by decide) (by decide)) }
theorem B7.appU (hp:B7 h lo m k c e r n nm E tag vq vv vt vu vo es s) (x:Int) (hb:s.rules.length<10000000):∃ v' h1,D9 Tryz.prog (h.push (.row [iv x] 3 false false)) 25 vu (qS h.next 1 1)=some (v',h1)∧h1.get m=h.get m∧one v'=true∧v'.cells=#[v']∧h1.floor=h.floor∧h1.next=h.next+2∧(∀ i,i<h.next→i<lo∨11≤tag i→h1.get i=h.get i) ∧
  B7 (h1.put m (.row [.string nm,qS r n AO,vq,vv,vt,v',vo,iv s.miss,.map (some k),.map (some c)] 90 false false)) lo m k c e r n nm E (fun i=>if i=h.next+1 then 5 else tag i) vq vv vt v' vo es { s with rules:=s.rules++[x] }:=by
 have hlm:=hp.lm
 have hpp:=hp.mono (h':=h.push (.row [iv x] 3 false false)) (tag':=fun i=>if i=h.next then 11 else tag i) (by show h.next≤h.next+1;omega) rfl (fun i hi=>if_neg (by omega)) fun i _ hi=>AU hi
 obtain⟨v',h1,a1,a2,a3,a4,a5,a6,a7⟩:=QI (et:=3) (w:=1) (c:=1) (sc:=1) (xs:=[iv x]) Tryz.underlying25 C7 LS JK rfl (by decide) (by decide) hpp.pol.u (by rw[Nat.mul_one];exact F9 _) (QK _) rfl rfl (by decide) (by decide) hb (src:=h.next) BX (by show h.next<h.next+1;omega) hp.fl (by simp)
 have hnx:h1.next=h.next+2:=a4
 have hold:∀ i,i<h.next→¬ (lo≤i∧tag i=5)→h1.get i=h.get i:=fun i hi hne=>by
  rw[a7 i (by show i<h.next+1;omega) (by rw[if_neg (by omega)];exact hne),AU hi]
 have hm1:m<h1.next:=by omega
 have hgm:h1.get m=h.get m:=hold m hlm.2 (by rw[hp.tm];omega)
 have hSl:E2 h1 lo (fun i=>if i=h.next+1 then 5 else tag i) 5 v' (s.rules.length+1) (ints s.rules++[iv x]) 3:=by
  rcases a2 with a2 | a2
  ·refine a2.mono' fun i hi=>?_
   show (if i=h.next+1 then 5 else tag i)=(if i=h.next+1 then 5 else if i=h.next then 11 else tag i)∨(if i=h.next+1 then 5 else if i=h.next then 11 else tag i)≠5
   by_cases e1:i=h.next+1
   ·left;rw[if_pos e1,if_pos e1]
   ·rw[if_neg e1,if_neg e1]
    by_cases e2:i=h.next
    ·right;rw[if_pos e2];decide
    ·left;rw[if_neg e2]
  ·exact absurd (show lo≤h.next+1 by omega) a2
 refine⟨v',h1,a1,hgm,a5,a6,a3,hnx,fun i hi hlo=>hold i hi (by omega),?_⟩
 have hn2:h.next≤(h1.put m (.row [.string nm,qS r n AO,vq,vv,vt,v',vo,iv s.miss,.map (some k),.map (some c)] 90 false false)).next:=by show h.next≤h1.next;omega
 have ht2:∀ i,i<h.next→(fun i=>if i=h.next+1 then 5 else tag i) i=tag i:=fun i hi=>if_neg (by omega)
 have hg2:∀ i,lo≤i→i<h.next→tag i≠0→tag i≠5→(h1.put m (.row [.string nm,qS r n AO,vq,vv,vt,v',vo,iv s.miss,.map (some k),.map (some c)] 90 false false)).get i=h.get i:=fun i h1' h2 h3 h4=>by
  rw[AR hm1 (GH (tag:=tag) (by rw[hp.tm];exact h3.symm)),hold i h2 (fun e=>h4 e.2)]
 have hgj:∀ jj,jj≠0→jj≠5→(jj≠5)→∀ i,lo≤i→i<h.next→tag i=jj→(h1.put m (.row [.string nm,qS r n AO,vq,vv,vt,v',vo,iv s.miss,.map (some k),.map (some c)] 90 false false)).get i=h.get i:=fun jj z1 z2 _ i h1' h2 h3=>hg2 i h1' h2 (by omega) (by omega)
 refine hp.pol' hn2 a3 ht2 (fun i h1' h2 h3=>hg2 i h1' h2 (by omega) (by omega)) (BL rfl hm1) ?_ rfl
 exact
  { rows:=by rw[hg2 r hp.pol.lr.1 hp.pol.lr.2 (by rw[hp.pol.tr];decide) (by rw[hp.pol.tr];decide)];exact hp.pol.rows
    len:=hp.pol.len
    tr:=(ht2 r hp.pol.lr.2).trans hp.pol.tr
    lr:=⟨hp.pol.lr.1,by have:=hp.pol.lr.2;omega⟩
    q:=hp.pol.q.mono hn2 ht2 (hgj 2 (by decide) (by decide) (by decide))
    v:=hp.pol.v.mono hn2 ht2 (hgj 3 (by decide) (by decide) (by decide))
    t:=hp.pol.t.mono hn2 ht2 (hgj 4 (by decide) (by decide) (by decide))
    u:=by
     have h9:=hSl.mono (h':=(h1.put m (.row [.string nm,qS r n AO,vq,vv,vt,v',vo,iv s.miss,.map (some k),.map (some c)] 90 false false))) (Nat.le_refl _) (fun _ _=>rfl) fun i _ _ h3=>AR hm1 (GH (tag:=fun i=>if i=h.next+1 then 5 else tag i) (by rw[h3];show (if m=h.next+1 then _ else tag m)≠_;rw[if_neg (by omega),hp.tm];decide))
     rw[qK] at h9
     simp only[List.length_append,List.length_cons,List.length_nil]
     exact h9
    o:=hp.pol.o.mono hn2 ht2 (hgj 6 (by decide) (by decide) (by decide)) }
theorem B7.appO (hp:B7 h lo m k c e r n nm E tag vq vv vt vu vo es s) (x:Int) (hb:s.on.length<10000000):∃ v' h1,D9 Tryz.prog (h.push (.row [iv x] 3 false false)) 25 vo (qS h.next 1 1)=some (v',h1)∧h1.get m=h.get m∧one v'=true∧v'.cells=#[v']∧h1.floor=h.floor∧h1.next=h.next+2∧(∀ i,i<h.next→i<lo∨11≤tag i→h1.get i=h.get i) ∧
  B7 (h1.put m (.row [.string nm,qS r n AO,vq,vv,vt,vu,v',iv s.miss,.map (some k),.map (some c)] 90 false false)) lo m k c e r n nm E (fun i=>if i=h.next+1 then 6 else tag i) vq vv vt vu v' es { s with on:=s.on++[x] }:=by
 have hlm:=hp.lm
 have hpp:=hp.mono (h':=h.push (.row [iv x] 3 false false)) (tag':=fun i=>if i=h.next then 11 else tag i) (by show h.next≤h.next+1;omega) rfl (fun i hi=>if_neg (by omega)) fun i _ hi=>AU hi
 obtain⟨v',h1,a1,a2,a3,a4,a5,a6,a7⟩:=QI (et:=3) (w:=1) (c:=1) (sc:=1) (xs:=[iv x]) Tryz.underlying25 C7 LS JK rfl (by decide) (by decide) hpp.pol.o (by rw[Nat.mul_one];exact F9 _) (QK _) rfl rfl (by decide) (by decide) hb (src:=h.next) BX (by show h.next<h.next+1;omega) hp.fl (by simp)
 have hnx:h1.next=h.next+2:=a4
 have hold:∀ i,i<h.next→¬ (lo≤i∧tag i=6)→h1.get i=h.get i:=fun i hi hne=>by
  rw[a7 i (by show i<h.next+1;omega) (by rw[if_neg (by omega)];exact hne),AU hi]
 have hm1:m<h1.next:=by omega
 have hgm:h1.get m=h.get m:=hold m hlm.2 (by rw[hp.tm];omega)
 have hSl:E2 h1 lo (fun i=>if i=h.next+1 then 6 else tag i) 6 v' (s.on.length+1) (ints s.on++[iv x]) 3:=by
  rcases a2 with a2 | a2
  ·refine a2.mono' fun i hi=>?_
   show (if i=h.next+1 then 6 else tag i)=(if i=h.next+1 then 6 else if i=h.next then 11 else tag i)∨(if i=h.next+1 then 6 else if i=h.next then 11 else tag i)≠6
   by_cases e1:i=h.next+1
   ·left;rw[if_pos e1,if_pos e1]
   ·rw[if_neg e1,if_neg e1]
    by_cases e2:i=h.next
    ·right;rw[if_pos e2];decide
    ·left;rw[if_neg e2]
  ·exact absurd (show lo≤h.next+1 by omega) a2
 refine⟨v',h1,a1,hgm,a5,a6,a3,hnx,fun i hi hlo=>hold i hi (by omega),?_⟩
 have hn2:h.next≤(h1.put m (.row [.string nm,qS r n AO,vq,vv,vt,vu,v',iv s.miss,.map (some k),.map (some c)] 90 false false)).next:=by show h.next≤h1.next;omega
 have ht2:∀ i,i<h.next→(fun i=>if i=h.next+1 then 6 else tag i) i=tag i:=fun i hi=>if_neg (by omega)
 have hg2:∀ i,lo≤i→i<h.next→tag i≠0→tag i≠6→(h1.put m (.row [.string nm,qS r n AO,vq,vv,vt,vu,v',iv s.miss,.map (some k),.map (some c)] 90 false false)).get i=h.get i:=fun i h1' h2 h3 h4=>by
  rw[AR hm1 (GH (tag:=tag) (by rw[hp.tm];exact h3.symm)),hold i h2 (fun e=>h4 e.2)]
 have hgj:∀ jj,jj≠0→jj≠6→(jj≠6)→∀ i,lo≤i→i<h.next→tag i=jj→(h1.put m (.row [.string nm,qS r n AO,vq,vv,vt,vu,v',iv s.miss,.map (some k),.map (some c)] 90 false false)).get i=h.get i:=fun jj z1 z2 _ i h1' h2 h3=>hg2 i h1' h2 (by omega) (by omega)
 refine hp.pol' hn2 a3 ht2 (fun i h1' h2 h3=>hg2 i h1' h2 (by omega) (by omega)) (BL rfl hm1) ?_ rfl
 exact
  { rows:=by rw[hg2 r hp.pol.lr.1 hp.pol.lr.2 (by rw[hp.pol.tr];decide) (by rw[hp.pol.tr];decide)];exact hp.pol.rows
    len:=hp.pol.len
    tr:=(ht2 r hp.pol.lr.2).trans hp.pol.tr
    lr:=⟨hp.pol.lr.1,by have:=hp.pol.lr.2;omega⟩
    q:=hp.pol.q.mono hn2 ht2 (hgj 2 (by decide) (by decide) (by decide))
    v:=hp.pol.v.mono hn2 ht2 (hgj 3 (by decide) (by decide) (by decide))
    t:=hp.pol.t.mono hn2 ht2 (hgj 4 (by decide) (by decide) (by decide))
    u:=hp.pol.u.mono hn2 ht2 (hgj 5 (by decide) (by decide) (by decide))
    o:=by
     have h9:=hSl.mono (h':=(h1.put m (.row [.string nm,qS r n AO,vq,vv,vt,vu,v',iv s.miss,.map (some k),.map (some c)] 90 false false))) (Nat.le_refl _) (fun _ _=>rfl) fun i _ _ h3=>AR hm1 (GH (tag:=fun i=>if i=h.next+1 then 6 else tag i) (by rw[h3];show (if m=h.next+1 then _ else tag m)≠_;rw[if_neg (by omega),hp.tm];decide))
     rw[qK] at h9
     simp only[List.length_append,List.length_cons,List.length_nil]
     exact h9 }
end
noncomputable def D5:Code:=rt (rt (rt (rt (Tryz.f52.body.getD .skip))))
noncomputable def D8:Code:=rt D5
noncomputable def kY:Code:=rt (rt (rt D8))
noncomputable def Tu:Code:=rt kY
noncomputable def rM:Array Oper:=C9 Tryz.f52 5
def yG:List (Bool × Bool × List Operand):=[A7,A7,A7,A7,AI [.tmp 29],AI [.tmp 29],AI [.tmp 29],AI [.tmp 29],AP,AP,AP,AP,AI [.tmp 29,.tmp 33,.tmp 30],AP,AP]
theorem Dp:C8 rM=yG:=by kernel_rfl
def jC:List (Bool × Bool × List Operand):=[A7,A7,A7,A7,AI [.tmp 58],AI [.tmp 58],AI [.tmp 58],AI [.tmp 58],AI [.tmp 58,.tmp 62],AI [.tmp 58,.tmp 62],AI [.tmp 58,.tmp 62],AI [.tmp 58,.tmp 62],AI [.tmp 58,.tmp 62],AP]
def gG:List (Bool × Bool × List Operand):=[HT,A7,A7,A7,A7,A7,AI [.tmp 80],AI [.tmp 80],AI [.tmp 80],AI [.tmp 80],AI [.tmp 80,.tmp 84],AI [.tmp 80,.tmp 84],AI [.tmp 80,.tmp 84],AI [.tmp 80,.tmp 84],AI [.tmp 80,.tmp 84],AI [.tmp 80],AI [.tmp 80],AP,AP,AP,AP,AP]
def jP:List (Bool × Bool × List Operand):=[HT,A7,A7,A7,A7,A7,AI [.tmp 114],AI [.tmp 114],AI [.tmp 114],AI [.tmp 114],AI [.tmp 114],AP,AP,AP,AP,AP]
def aB:List (Bool × Bool × List Operand):=[HT,A7,A7,A7,A7,A7,AI [.tmp 131],AI [.tmp 131],AI [.tmp 131],AI [.tmp 131],AI [.tmp 131],AP,AP,AP,AP,AP]
theorem wN {h:AA} {id:Nat} {a b c x y z:Value} {ty:TypeId} {g:Bool} (hg:h.get id=.row [x,y,z] ty g false) (hf:h.floor≤id) (ho:[a,b,c].all one=true):BB Tryz.prog h 112 (qP id 0) (.agg #[a,b,c])=some (h.put id (.row [a,b,c] ty g false)):=by
 have hl:Go.Sx.lay [x,y,z] 0 [a,b,c]=[a,b,c]:=rfl
 have hc:(Value.agg #[a,b,c]).cells=#[a,b,c]:=rfl
 have hsz:(some 3:Option Nat)=some (#[a,b,c]:Array Value).size:=rfl
 simp only[BB,hc,uA,GZ,hg]
 rw[if_pos hsz,if_pos (by simp only[List.length_cons,List.length_nil,ho];simp[hf])]
 rfl
theorem tS {b t:Nat} (ht:t≤b) {T:Tr} {d:Nat} {v:Value} (hd:b<d):(T.put (some d) v).get t=T.get t:=Rx (b:=b+1) hd (by omega)
theorem JV {T:Tr} {v:Value}:T.put none v=T:=rfl
section
variable {call:AS} {N:Nat} {h:AA} {lo m k c e r n:Nat} {nm:ByteArray} {E:List Int} {tag:Nat→Nat} {vq vv vt vu vo:Value} {es:List (Value × Value)} {s:AM}
theorem Fg (hsn:CK call) {T:Tr} {at_:Nat} {x:AB} {K:B_} (hp:B7 h lo m k c e r n nm E tag vq vv vt vu vo es s) (hx:s.rows[at_]?=some x)
  (t0:T.get 0=qP m 0) (t7:T.get 7=.pointer (some ⟨r,at_*5,none⟩))
  (hk1:∀ T' H,(GK s.things x.name).isSome=true→T'.get 6=iv 31→(∀ i,i<h.next→H.get i=h.get i)→h.next≤H.next→H.floor=h.floor→K.ap Tryz.prog call N .ret ⟨T',H⟩)
  (hk2:∀ T' H,GK s.things x.name=none→(∀ t,t≤8→T'.get t=T.get t)→(∀ i,i<h.next→H.get i=h.get i)→h.next≤H.next→H.floor=h.floor→WK Tryz.prog call N D8 ⟨T',H⟩ K):WK Tryz.prog call N D5 ⟨T,h⟩ K:=by
 show WK _ _ _ (.seq (.seq (.region _ _ true) _) D8) _ _
 rw[KA,KA]
 have c8:=hp.c8
 obtain⟨hlt,l0,l1,l2,l3,l4,lr⟩:=hp.row hx
 have hlook:=xD (x:=x.name) hp.known
 have hm:=hp.lm.2
 have hkn:=hp.lk.2
 have hr:=hp.pol.lr.2
 have hflo:h.floor≤h.next:=by have:=hp.fl;have:=hp.lm.1;omega
 have n1:(some m != some h.next)=true:=by simp;omega
 have n2:(some r != some h.next)=true:=by simp;omega
 have n3:(some k != some h.next)=true:=by simp;omega
 have hnew:(h.push (.row [iv 0,iv 0,iv 0] 112 false false)).get h.next=.row [iv 0,iv 0,iv 0] 112 false false:=BX
 have hst:=fun a b d=>wN (a:=iv a) (b:=iv b) (c:=iv d) hnew (by exact hflo) rfl
 have hold:∀ o i,i<h.next→((h.push (.row [iv 0,iv 0,iv 0] 112 false false)).put h.next o).get i=h.get i:=fun o i hi=>by rw[AR (by show h.next<h.next+1;omega) (by omega),AU hi]
 have hfl0:flat (.agg #[iv 0,iv 0,iv 0])=true:=rfl
 have hcl0:=DV [iv 0,iv 0,iv 0]
 have i1:DD (qP m 8)=some m:=rfl
 have i2:DD (.pointer (some ⟨r,at_*5+1,none⟩))=some r:=rfl
 have i3:DD (.map (some k))=some k:=rfl
 have i4:DD (qP h.next 0)=some h.next:=rfl
 refine WK.flags (ops:=rM) Dp ?_
 refine DN.begin ?_
 refine AG hsn 0 (some 27) (.move (.tmp 0)) none ?_
 simp only[rG,seval,AD,AF,AE,t0]
 refine AG hsn 1 (some 28) (.nilCheck (.tmp 27)) none ?_
 simp only[rG,seval,AD,AF,AE]
 refine AG hsn 2 (some 29) (.fieldAddr 90 (.tmp 28) 1) none ?_
 simp only[rG,seval,AD,AF,AE,Nat.zero_add,iJ]
 refine AG hsn 3 (some 30) (.load 87 (.tmp 29)) none ?_
 simp only[rG,seval,AD,AF,AE,CT,fI,c8]
 refine AG hsn 4 (some 31) (.move (.tmp 7)) none ?_
 simp only[rG,seval,AD,AF,AE,t7]
 refine AG hsn 5 (some 32) (.nilCheck (.tmp 31)) none ?_
 simp only[rG,seval,AD,AF,AE]
 refine AG hsn 6 (some 33) (.fieldAddr 60 (.tmp 32) 1) none ?_
 simp only[rG,seval,AD,AF,AE,MU]
 refine AG hsn 7 (some 34) (.load 9 (.tmp 33)) none ?_
 simp only[rG,seval,AD,AF,AE,CT,FU,l1]
 cases hf:GK s.things x.name with
 | some t=>
  rw[hf] at hlook
  refine AG hsn 8 (some 35) (.lookup 87 (.tmp 30) (.tmp 34) true) none ?_
  simp only[rG,seval,AD,AF,AE,CT,hlook,i3]
  refine AG hsn 9 (some 26) (.move (.tmp 35)) none ?_
  simp only[rG,seval,AD,AF,AE]
  refine AG hsn 10 (some 36) (.extract (.tmp 26) 0) none ?_
  simp only[rG,seval,AD,AF,AE,List.getElem?_toArray,List.getElem?_cons_zero]
  refine AG hsn 11 (some 37) (.extract (.tmp 26) 1) none ?_
  simp only[rG,seval,AD,AF,AE,List.getElem?_toArray,List.getElem?_cons_succ,List.getElem?_cons_zero]
  refine AG hsn 12 (some 9) (.alloc 112) none ?_
  simp only[rG,seval,AD,AF,AE,ZM,TK,hfl0,hcl0]
  refine AG hsn 13 (none) (.store 112 (.tmp 9) (.tmp 36)) none ?_
  simp only[rG,seval,AD,AF,AE,CM,C4,hst,i4,CM,List.all_nil]
  refine AG hsn 14 (some 10) (.assign (.tmp 37)) none ?_
  simp only[rG,seval,AD,AF,AE]
  refine DN.done (i:=15) (by kernel_rfl) ?_
  simp only[eE,seval,↓eP,rP]
  exact hk1 _ _ (by rw[hf];rfl) (by simp only[Tr.get_put,if_true]) (hold _) (by show h.next≤h.next+1;omega) rfl
 | none=>
  rw[hf] at hlook
  refine AG hsn 8 (some 35) (.lookup 87 (.tmp 30) (.tmp 34) true) none ?_
  simp only[rG,seval,AD,AF,AE,CT,hlook,i3]
  refine AG hsn 9 (some 26) (.move (.tmp 35)) none ?_
  simp only[rG,seval,AD,AF,AE]
  refine AG hsn 10 (some 36) (.extract (.tmp 26) 0) none ?_
  simp only[rG,seval,AD,AF,AE,List.getElem?_toArray,List.getElem?_cons_zero]
  refine AG hsn 11 (some 37) (.extract (.tmp 26) 1) none ?_
  simp only[rG,seval,AD,AF,AE,List.getElem?_toArray,List.getElem?_cons_succ,List.getElem?_cons_zero]
  refine AG hsn 12 (some 9) (.alloc 112) none ?_
  simp only[rG,seval,AD,AF,AE,ZM,TK,hfl0,hcl0]
  refine AG hsn 13 (none) (.store 112 (.tmp 9) (.tmp 36)) none ?_
  simp only[rG,seval,AD,AF,AE,CM,C4,hst,i4,CM,List.all_nil]
  refine AG hsn 14 (some 10) (.assign (.tmp 37)) none ?_
  simp only[rG,seval,AD,AF,AE]
  refine DN.done (i:=15) (by kernel_rfl) ?_
  simp only[eE,seval,↓eP,rP]
  refine hk2 _ _ hf (fun t ht=>?_) (hold _) (by show h.next≤h.next+1;omega) rfl
  simp only[tS ht,JV,Nat.reduceLT]
noncomputable def c_:Code:=rt Tu
theorem Ts (hsn:CK call) {T:Tr} {at_:Nat} {x:AB} {K:B_} {kd end_:Int} (hp:B7 h lo m k c e r n nm E tag vq vv vt vu vo es s) (hx:s.rows[at_]?=some x) (hm:SC es s) (h1:1≤kd) (h4:kd≤4) (hcn:BI s kd<1000)
  (h80:∀ h',call 73 [iv kd] h'=some (iv (HK kd),h')) (hf:GK s.things x.name=none)
  (t0:T.get 0=qP m 0) (t2:T.get 2=iv end_) (t7:T.get 7=.pointer (some ⟨r,at_*5,none⟩)) (t8:T.get 8=iv kd)
  (hk1:∀ T',(BI s kd:Int)=HK kd→T'.get 6=iv 3→K.ap Tryz.prog call N .ret ⟨T',h⟩)
  (hk2:∀ T' H,(BI s kd:Int)≠HK kd→(∀ t,t≤8→T'.get t=T.get t)→B7 H lo m k c e r n nm E tag vq vv vt vu vo (G7 (iv kd) (iv ((BI s kd:Int)+1)) es) { s with rows:=G8 s.rows at_ (BI s kd),things:=s.things++[⟨x.name,kd,(BI s kd:Int),end_⟩] } →
   (∀ i,i<lo∨(i<h.next∧11≤tag i)→H.get i=h.get i)→H.next=h.next→H.floor=h.floor→WK Tryz.prog call N c_ ⟨T',H⟩ K):WK Tryz.prog call N D8 ⟨T,h⟩ K:=by
 show WK _ _ _ (.seq _ (.seq _ (.seq _ kY))) _ _
 have c9:=hp.c9
 have hlook:=Fa hp.many hm h1 h4
 have w1:IntKind.i64.wrap ((BI s kd:Int)+1)=(BI s kd:Int)+1:=BT (by omega) (by omega)
 have hput:=Mv (v:=iv ((BI s kd:Int)+1)) hp.many hm h1 h4 (by have:=hp.fl;have:=hp.lc.1;omega)
 cases d1:((BI s kd:Int)==HK kd) with
 | true=>
  simp only[eE,seval,↓eP,rP,t0,t8,mI,s_,c9,hlook,h80,d1]
  exact hk1 _ (by simpa using d1) (by simp only[Tr.get_put,if_true])
 | false=>
  simp only[eE,seval,↓eP,rP,t0,t8,mI,s_,c9,hlook,h80,d1,w1,hput]
  have hp1:=hp.putC (G7 (iv kd) (iv ((BI s kd:Int)+1)) es)
  have hlo1:∀ i,i<lo∨(i<h.next∧11≤tag i)→(h.put c (.map (G7 (iv kd) (iv ((BI s kd:Int)+1)) es))).get i=h.get i:=fun i hi=>AR hp.lc.2 (PX hp.lc.1 (by rw[hp.tc];decide) hi)
  have hnx1:(h.put c (.map (G7 (iv kd) (iv ((BI s kd:Int)+1)) es))).next=h.next:=rfl
  have hfl1:(h.put c (.map (G7 (iv kd) (iv ((BI s kd:Int)+1)) es))).floor=h.floor:=rfl
  generalize h.put c (.map (G7 (iv kd) (iv ((BI s kd:Int)+1)) es))=H1 at *
  show WK _ _ _ (.seq (.region _ _ true) (.seq _ c_)) _ _
  rw[KA]
  have b8:=hp1.c8
  obtain⟨hlt,l0,l1,l2,l3,l4,lr⟩:=hp1.row hx
  have hpk:=Ig (a:=kd) (b:=(BI s kd:Int)) (c:=end_) hp1.known hf (by have:=hp1.fl;have:=hp1.lk.1;omega)
  refine WK.flags (fs:=jC) (by kernel_rfl) ?_
  unfold jC
  iterate 14
   refine DI hsn ?_
   simp only[rG,seval,AD,AF,AE,CT,DC,CM,C4,DJ,t0,iJ,fI,b8,t7,MU,FU,l1,t8,List.map_cons,List.map_nil,iK,t2,Nd,hpk]
  refine DH ?_
  have hp2:=hp1.putK (s.things++[⟨x.name,kd,(BI s kd:Int),end_⟩])
  have hlo2:∀ i,i<lo∨(i<h.next∧11≤tag i)→(H1.put k (.map ((s.things++[(⟨x.name,kd,(BI s kd:Int),end_⟩:G9)]).map KP))).get i=h.get i:=fun i hi=>by rw[AR hp1.lk.2 (PX hp1.lk.1 (by rw[hp1.tk];decide) hi)];exact hlo1 i hi
  have hnx2:(H1.put k (.map ((s.things++[(⟨x.name,kd,(BI s kd:Int),end_⟩:G9)]).map KP))).next=h.next:=hnx1
  have hfl2:(H1.put k (.map ((s.things++[(⟨x.name,kd,(BI s kd:Int),end_⟩:G9)]).map KP))).floor=h.floor:=hfl1
  generalize H1.put k (.map ((s.things++[(⟨x.name,kd,(BI s kd:Int),end_⟩:G9)]).map KP))=H2 at *
  have hrl:=J7 s.rows
  have hlen:=hp.pol.len
  have hst:=GM (off:=at_*5+3) C7 (v:=iv (BI s kd:Int)) rfl rfl hp2.pol.rows (by rw[hrl];omega) (by have:=hp2.fl;have:=hp2.pol.lr.1;omega)
  rw[VN hx] at hst
  have hp3:=hp2.putR (l:=G8 s.rows at_ (BI s kd:Int)) UE
  simp only[eE,seval,↓eP,rP,t7,hst]
  refine hk2 _ _ (by simpa using d1) (fun t ht=>?_) hp3 (fun i hi=>?_) hnx2 hfl2
  ·simp only[tS ht,JV,Nat.reduceLT]
  ·rw[AR hp2.pol.lr.2 (PX hp2.pol.lr.1 (by rw[hp2.pol.tr];decide) hi)]
   exact hlo2 i hi
def UZ (kd:Int) (at_:Nat) (x:AB) (s:AM):AM:=
 { s with
   queues:=if kd=1 then s.queues++[(x.name,x.kind==3)] else s.queues
   vars:=if kd=2 then s.vars++[x.name] else s.vars
   tags:=if kd=3 then s.tags++[x.name] else s.tags
   rules:=if kd=4 then s.rules++[(at_:Int)+1] else s.rules
   on:=if kd=1 then s.on++[-1] else s.on }
theorem Sn (hsn:CK call) {T:Tr} {at_:Nat} {x:AB} {K:B_} {kd:Int} (hp:B7 h lo m k c e r n nm E tag vq vv vt vu vo es s) (hx:s.rows[at_]?=some x) (h1:1≤kd) (h4:kd≤4)
  (hb:s.queues.length<1000∧s.vars.length<1000∧s.tags.length<1000∧s.rules.length<1000∧s.on.length<1000) (hn:n<1099511627776)
  (t0:T.get 0=qP m 0) (t1:T.get 1=iv at_) (t7:T.get 7=.pointer (some ⟨r,at_*5,none⟩)) (t8:T.get 8=iv kd)
  (hk:∀ T' H tag' vq' vv' vt' vu' vo',T'.get 6=iv 0→B7 H lo m k c e r n nm E tag' vq' vv' vt' vu' vo' es (UZ kd at_ x s)→(∀ i,i<h.next→tag' i=tag i)→(∀ i,i<lo∨(i<h.next∧11≤tag i)→H.get i=h.get i)→h.next≤H.next→H.floor=h.floor→K.ap Tryz.prog call N .ret ⟨T',H⟩):WK Tryz.prog call N c_ ⟨T,h⟩ K:=by
 show WK _ _ _ (.seq (.seq _ (.block _ _)) (.seq _ _)) _ _
 have hm:=hp.lm.2
 have hlm:=hp.lm.1
 have hflm:h.floor≤m:=by have:=hp.fl;omega
 obtain⟨hlt,l0,l1,l2,l3,l4,lr⟩:=hp.row hx
 have hk4:kd=1∨kd=2∨kd=3∨kd=4:=by omega
 have nl:∀ (o o':BF) i,i<lo∨(i<h.next∧11≤tag i)→∀ hh:AA,(∀ i,i<h.next→i<lo∨11≤tag i→hh.get i=h.get i)→hh.next=h.next+2→(hh.put m o).get i=h.get i:=fun o o' i hi hh h1 h2=>by rw[AR (by omega) (PX hlm (by rw[hp.tm];decide) hi),h1 i (by omega) (by omega)]
 have tg:∀ j i,i<h.next→(fun i=>if i=h.next+1 then j else tag i) i=tag i:=fun j i hi=>if_neg (by omega)
 rcases hk4 with rfl | rfl | rfl | rfl
 ·obtain⟨v',h1',a1,a2,a3,a4,a5,a6,a7,hp2⟩:=hp.appQ (x.name,x.kind==3) (by omega)
  have c2:=hp.c2
  have hfx:h1'.fl h.floor=h1':=by rw[← a5];exact HX h1'
  have hst:BB Tryz.prog h1' 23 (qP m 2) v'=_:=GM YX a4 a3 (a2.trans hp.cell) (by simp only[List.length_cons,List.length_nil];omega) (by rw[a5];exact hflm)
  have lo2:=nl (.row [.string nm,qS r n AO,v',vv,vt,vu,vo,iv s.miss,.map (some k),.map (some c)] 90 false false) .dead
  simp only[List.set_cons_succ,List.set_cons_zero] at hst
  simp only[eE,seval,↓eP,rP,t8]
  show WK _ _ _ (.region _ _ true) _ _
  refine WK.flags (fs:=gG) (by kernel_rfl) ?_
  unfold gG
  iterate 22
   refine DI hsn ?_
   simp only[rG,seval,AD,AF,AE,CT,DC,CM,C4,DJ,t0,J0,D2,DZ,c2,t7,MU,FU,l1,BC,AL,l0,List.map_cons,List.map_nil,vA,oV,PH,a1,hfx,JQ,hst]
  refine DH ?_
  have lo3:=fun i hi=>lo2 i hi h1' a7 a6
  have hfl3:(h1'.put m (.row [.string nm,qS r n AO,v',vv,vt,vu,vo,iv s.miss,.map (some k),.map (some c)] 90 false false)).floor=h.floor:=a5
  have hnx3:(h1'.put m (.row [.string nm,qS r n AO,v',vv,vt,vu,vo,iv s.miss,.map (some k),.map (some c)] 90 false false)).next=h.next+2:=a6
  generalize h1'.put m (.row [.string nm,qS r n AO,v',vv,vt,vu,vo,iv s.miss,.map (some k),.map (some c)] 90 false false)=H2 at *
  obtain⟨v2,h2',b1,b2,b3,b4,b5,b6,b7,hp3⟩:=hp2.appO (-1) (by simp only;omega)
  have d6:=hp2.c6
  have hst2:BB Tryz.prog h2' 25 (qP m 6) v2=_:=GM K8 b4 b3 (b2.trans hp2.cell) (by simp only[List.length_cons,List.length_nil];omega) (by rw[b5,hfl3];exact hflm)
  simp only[List.set_cons_succ,List.set_cons_zero] at hst2
  simp only[eE,seval,↓eP,rP,t0,J0,ID,C3,d6,LI,b1,hst2]
  refine hk _ _ _ _ _ _ _ _ (by simp only[Tr.get_put,if_true]) hp3 (fun i hi=>?_) (fun i hi=>?_) ?_ (b5.trans hfl3)
  ·show (if i=H2.next+1 then 6 else if i=h.next+1 then 2 else tag i)=tag i
   rw[if_neg (by omega),if_neg (by omega)]
  ·rw[AR (by omega) (PX hlm (by rw[hp.tm];decide) hi),b7 i (by omega) (by show i<lo∨11≤(if i=h.next+1 then 2 else tag i);rw[if_neg (by omega)];omega),lo3 i hi]
  ·show h.next≤h2'.next;omega
 ·obtain⟨v',h1',a1,a2,a3,a4,a5,a6,a7,hp2⟩:=hp.appV x.name (by omega)
  have c3:=hp.c3
  have hfx:h1'.fl h.floor=h1':=by rw[← a5];exact HX h1'
  have hst:BB Tryz.prog h1' 24 (qP m 3) v'=_:=GM QH a4 a3 (a2.trans hp.cell) (by simp only[List.length_cons,List.length_nil];omega) (by rw[a5];exact hflm)
  simp only[List.set_cons_succ,List.set_cons_zero] at hst
  simp only[eE,seval,↓eP,rP,t8,Int.reduceBEq]
  show WK _ _ _ (.region _ _ true) _ _
  refine WK.flags (fs:=jP) (by kernel_rfl) ?_
  unfold jP
  iterate 16
   refine DI hsn ?_
   simp only[rG,seval,AD,AF,AE,CT,DC,CM,C4,DJ,t0,J0,JM,II,c3,t7,MU,FU,l1,List.map_cons,List.map_nil,Z9,PH,a1,hfx,JQ,hst]
  refine DH ?_
  simp only[eE,seval,↓eP,rP]
  refine hk _ _ _ _ _ _ _ _ (by simp only[Tr.get_put,if_true]) hp2 (tg _) (fun i hi=>nl _ .dead i hi h1' a7 a6) ?_ a5
  show h.next≤h1'.next;omega
 ·obtain⟨v',h1',a1,a2,a3,a4,a5,a6,a7,hp2⟩:=hp.appT x.name (by omega)
  have c4:=hp.c4
  have hfx:h1'.fl h.floor=h1':=by rw[← a5];exact HX h1'
  have hst:BB Tryz.prog h1' 24 (qP m 4) v'=_:=GM QH a4 a3 (a2.trans hp.cell) (by simp only[List.length_cons,List.length_nil];omega) (by rw[a5];exact hflm)
  simp only[List.set_cons_succ,List.set_cons_zero] at hst
  simp only[eE,seval,↓eP,rP,t8,Int.reduceBEq]
  show WK _ _ _ (.region _ _ true) _ _
  refine WK.flags (fs:=aB) (by kernel_rfl) ?_
  unfold aB
  iterate 16
   refine DI hsn ?_
   simp only[rG,seval,AD,AF,AE,CT,DC,CM,C4,DJ,t0,J0,JR,II,c4,t7,MU,FU,l1,List.map_cons,List.map_nil,Z9,PH,a1,hfx,JQ,hst]
  refine DH ?_
  simp only[eE,seval,↓eP,rP]
  refine hk _ _ _ _ _ _ _ _ (by simp only[Tr.get_put,if_true]) hp2 (tg _) (fun i hi=>nl _ .dead i hi h1' a7 a6) ?_ a5
  show h.next≤h1'.next;omega
 ·obtain⟨v',h1',a1,a2,a3,a4,a5,a6,a7,hp2⟩:=hp.appU ((at_:Int)+1) (by omega)
  have c5:=hp.c5
  have w1:IntKind.i64.wrap ((at_:Int)+1)=(at_:Int)+1:=BT (by omega) (by omega)
  have hst:BB Tryz.prog h1' 25 (qP m 5) v'=_:=GM K8 a4 a3 (a2.trans hp.cell) (by simp only[List.length_cons,List.length_nil];omega) (by rw[a5];exact hflm)
  simp only[List.set_cons_succ,List.set_cons_zero] at hst
  simp only[eE,seval,↓eP,rP,t0,t1,t8,Int.reduceBEq,J0,H9,C3,c5,w1,LI,a1,hst]
  refine hk _ _ _ _ _ _ _ _ (by simp only[Tr.get_put,if_true]) hp2 (tg _) (fun i hi=>nl _ .dead i hi h1' a7 a6) ?_ a5
  show h.next≤h1'.next;omega
end
structure LC (s:AM):Prop where
 q:s.queues.length≤16
 v:s.vars.length≤16
 t:s.tags.length≤4
 u:s.rules.length≤64
 o:s.on.length=s.queues.length
 th:∀ t∈s.things,1≤t.kind∧t.kind≤4∧0≤t.num∧t.num<BI s t.kind∧0≤t.known
theorem Q6 (k:Int):0≤BZ k∧BZ k≤4:=by unfold BZ;(repeat' split) <;> omega
theorem nU (k:Int):0≤EC k∧EC k≤4:=by unfold EC;(repeat' split) <;> omega
theorem LU {l:List AB} {k:Nat} {n:Int} {x:AB} (hx:l[k]?=some x):(G8 l k n)[k]?=some { x with n:=n }:=by
 unfold G8
 rw[hx]
 simp[(List.getElem?_eq_some_iff.1 hx).1]
theorem cK {s:AM} (hw:LC s) (k:Int):BI s k≤64:=by
 have:=hw.q;have:=hw.v;have:=hw.t;have:=hw.u
 unfold BI
 (repeat' split) <;> omega
section
variable {call:AS} {N:Nat} {h:AA} {lo m k c e r n:Nat} {nm:ByteArray} {E:List Int} {F:List Nat} {tag:Nat→Nat} {vq vv vt vu vo:Value} {es:List (Value × Value)} {s:AM}
def FF (h:AA) (lo m k c e r n:Nat) (nm:ByteArray) (E:List Int) (F:List Nat) (s:AM):Prop:=∃ tag vq vv vt vu vo es,B7 h lo m k c e r n nm E tag vq vv vt vu vo es s∧SC es s∧LC s∧∀ i∈F,i<h.next∧11≤tag i
def GG (h H:AA) (lo:Nat) (F:List Nat):Prop:=(∀ i,i<lo∨i∈F→H.get i=h.get i)∧h.next≤H.next∧H.floor=h.floor
theorem Vu {s s':AM} {kd:Int} {es:List (Value × Value)} (hm:SC es s) (h1:BI s' kd=BI s kd+1) (h2:∀ k,1≤k→k≤4→k≠kd→BI s' k=BI s k):SC (G7 (iv kd) (iv ((BI s kd:Int)+1)) es) s':=by
 refine⟨qA _ _ _ hm.1,fun k k1 k4=>?_⟩
 rw[sN _ _ _ _ hm.1]
 by_cases hk:k=kd
 ·subst hk
  rw[if_pos rfl,h1,if_neg (by omega)]
  rfl
 ·rw[if_neg hk,h2 k k1 k4 hk]
  exact hm.2 k k1 k4
theorem eN {s:AM} {at_:Nat} {end_:Int} {x:AB} {k:Int} (hk:1≤k∧k≤4):BI (FK at_ end_ x s) k=BI s k+(if k=BZ x.kind then 1 else 0):=by
 have hd:=Q6 x.kind
 generalize hkd:BZ x.kind=kd at *
 unfold BI FK
 rw[hkd]
 obtain rfl | rfl | rfl | rfl:k=1∨k=2∨k=3∨k=4:=by omega
 all_goals
  by_cases e:kd=1
  ·subst e;simp
  by_cases e2:kd=2
  ·subst e2;simp
  by_cases e3:kd=3
  ·subst e3;simp
  by_cases e4:kd=4
  ·subst e4;simp
  simp[e,e2,e3,e4,Ne.symm e,Ne.symm e2,Ne.symm e3,Ne.symm e4]
  try omega
theorem cZ {s:AM} {at_:Nat} {end_:Int} {x:AB} (hw:LC s) (hkd:BZ x.kind≠0) (hne:(BI s (BZ x.kind):Int)≠HK (BZ x.kind)) (he:0≤end_):LC (FK at_ end_ x s):=by
 have hd:=Q6 x.kind
 have hq:=hw.q;have hv:=hw.v;have ht:=hw.t;have hu:=hw.u;have ho:=hw.o
 have hth:=hw.th
 have hcnt:=fun k (hk:1≤k∧k≤4)=>eN (s:=s) (at_:=at_) (end_:=end_) (x:=x) hk
 have key:∀ t∈(FK at_ end_ x s).things,1≤t.kind∧t.kind≤4∧0≤t.num∧t.num<BI (FK at_ end_ x s) t.kind∧0≤t.known:=by
  intro t htm
  simp only[FK,List.mem_append,List.mem_cons,List.not_mem_nil,or_false] at htm
  rcases htm with htm | rfl
  ·obtain⟨a1,a2,a3,a4,a5⟩:=hth t htm
   rw[hcnt _ ⟨a1,a2⟩]
   exact⟨a1,a2,a3,by split <;> omega,a5⟩
  ·have hk1:1≤BZ x.kind:=by omega
   refine⟨hk1,hd.2,Int.natCast_nonneg _,?_,he⟩
   rw[hcnt _ ⟨hk1,hd.2⟩,if_pos rfl]
   simp only
   omega
 generalize hkd2:BZ x.kind=kd at *
 have e:∀ k,k=kd→1≤k→BI s k≠(HK k).toNat:=by
  intro k hk h1 h
  subst hk
  apply hne
  rw[h]
  unfold HK
  (repeat' split) <;> rfl
 constructor
 ·simp only[FK,hkd2]
  split
  ·rename_i h1
   have:=e 1 h1.symm (by omega)
   simp[BI,HK] at this
   simp
   omega
  ·exact hq
 ·simp only[FK,hkd2]
  split
  ·rename_i h1
   have:=e 2 h1.symm (by omega)
   simp[BI,HK] at this
   simp
   omega
  ·exact hv
 ·simp only[FK,hkd2]
  split
  ·rename_i h1
   have:=e 3 h1.symm (by omega)
   simp[BI,HK] at this
   simp
   omega
  ·exact ht
 ·simp only[FK,hkd2]
  split
  ·rename_i h1
   have:=e 4 h1.symm (by omega)
   simp[BI,HK] at this
   simp
   omega
  ·exact hu
 ·simp only[FK,hkd2]
  split
  ·simp[ho]
  ·exact ho
 ·exact key
theorem Kv (hsn:CK call) {at_:Nat} {end_:Int} {x:AB} (hp:FF h lo m k c e r n nm E F s) (hx:s.rows[at_]?=some x) (hkind:1≤x.kind∧x.kind≤54) (hn:n<1099511627776) (he:0≤end_)
  (h79:∀ k h',1≤k∧k≤54→call 72 [iv k] h'=some (iv (BZ k),h')) (h80:∀ k h',call 73 [iv k] h'=some (iv (HK k),h')) :
  ∃ h',AY Tryz.prog call N 52 [qP m 0,iv at_,iv end_] h=some (iv (EH x s),h')∧(GG h h' lo F∧(EH x s=0→FF h' lo m k c e r n nm E F (BR at_ end_ x s))):=by
 obtain⟨tag,vq,vv,vt,vu,vo,es,hp,hm,hw,hF⟩:=hp
 have hlF:∀ i,i<lo∨i∈F→i<lo∨(i<h.next∧11≤tag i):=fun i hi=>hi.imp id fun h=>hF i h
 have hll:∀ i,i<lo∨i∈F→i<h.next:=fun i hi=>by have:=hp.lm;have:=hlF i hi;omega
 refine DW (R:=fun h'=>GG h h' lo F∧(EH x s=0→FF h' lo m k c e r n nm E F (BR at_ end_ x s))) Tryz.func52 rfl (by simp[Tryz.f52]) ?_
 have hr:Tryz.f52.results.toList=[.tmp 6]:=rfl
 generalize hKK:B_.top (fun ex s_1=>(ex=ED.normal∨ex=ED.ret)∧∃ vs,F2 Tryz.prog s_1 Tryz.f52.results.toList=some vs∧HL vs=iv (EH x s)∧GG h s_1.h lo F∧(EH x s=0→FF s_1.h lo m k c e r n nm E F (BR at_ end_ x s)))=K
 have fin:∀ (T':Tr) H v,T'.get 6=iv v→v=EH x s→GG h H lo F→(v=0→FF H lo m k c e r n nm E F (BR at_ end_ x s))→K.ap Tryz.prog call N .ret ⟨T',H⟩:=fun T' H v h6 hv ha hb=>by
  subst hv
  rw[← hKK]
  simp only[eE,↓reduceIte,Nat.reduceEqDiff,reduceCtorEq,↓eP,rP,Nat.reduceAdd,Nat.reduceLT,hr,h6]
  exact⟨ha,hb⟩
 show WK _ _ _ (.seq _ (.seq _ (.seq _ (.seq _ D5)))) _ _
 have hm1:=hp.c1
 obtain⟨hlt,l0,l1,l2,l3,l4,lr⟩:=hp.row hx
 have hd79:=fun h'=>h79 x.kind h' hkind
 have hdl:=Q6 x.kind
 by_cases d0:BZ x.kind=0
 ·have dE:EH x s=0:=by unfold EH;rw[if_pos d0]
  have dS:BR at_ end_ x s=s:=by unfold BR;rw[if_pos d0]
  have b0:(BZ x.kind==0)=true:=by simpa using d0
  simp only[eE,seval,↓eP,rP,J0,BN,BO,hm1,KK hlt,l0,hd79,b0]
  exact fin _ _ 0 (by simp only[Tr.get_put,if_true]) dE.symm ⟨fun _ _=>rfl,Nat.le_refl _,rfl⟩ fun _=>by rw[dS];exact⟨tag,vq,vv,vt,vu,vo,es,hp,hm,hw,hF⟩
 ·have b0:(BZ x.kind==0)=false:=by simpa using d0
  simp only[eE,seval,↓eP,rP,J0,BN,BO,hm1,KK hlt,l0,hd79,b0]
  have hlh:lo≤h.next:=by have:=hp.lm;omega
  refine Fg hsn hp hx (by simp only[eE,seval,↓eP,rP]) (by simp only[eE,seval,↓eP,rP]) (fun T' H hf h6 ho hn hf2=>?_) fun T' H hf hT ho hn1 hf2=>?_
  ·exact fin _ _ 31 h6 (by unfold EH;rw[if_neg d0,if_pos hf]) ⟨fun i hi=>ho i (hll i hi),hn,hf2⟩ fun h=>by cases h
  ·have hp1:B7 H lo m k c e r n nm E tag vq vv vt vu vo es s:=hp.mono hn1 hf2 (fun _ _=>rfl) fun i _ hi=>ho i hi
   have hE1:¬ (GK s.things x.name).isSome=true:=by rw[hf];simp
   have cle:=cK hw (BZ x.kind)
   refine Ts (end_:=end_) hsn hp1 hx hm (by omega) hdl.2 (by omega) (fun h'=>h80 _ h') hf (by rw[hT 0 (by decide)];simp only[eE,seval,↓eP,rP]) (by rw[hT 2 (by decide)];simp only[eE,seval,↓eP,rP]) (by rw[hT 7 (by decide)];simp only[eE,seval,↓eP,rP]) (by rw[hT 8 (by decide)];simp only[eE,seval,↓eP,rP]) (fun T2 hc h6=>?_) fun T2 H2 hc hT2 hp2 ho2 hn2 hf3=>?_
   ·exact fin _ _ 3 h6 (by unfold EH;rw[if_neg d0,if_neg hE1,if_pos hc]) ⟨fun i hi=>ho i (hll i hi),hn1,hf2⟩ fun h=>by cases h
   ·have hq:=hw.q;have hv:=hw.v;have ht:=hw.t;have hu:=hw.u;have ho':=hw.o
    refine Sn hsn hp2 (at_:=at_) (x:={ x with n:=(BI s (BZ x.kind):Int) }) (LU hx) (by omega) hdl.2 ⟨by show s.queues.length<1000;omega,by show s.vars.length<1000;omega,by show s.tags.length<1000;omega,by show s.rules.length<1000;omega,by show s.on.length<1000;omega⟩ hn
     (by rw[hT2 0 (by decide),hT 0 (by decide)];simp only[eE,seval,↓eP,rP]) (by rw[hT2 1 (by decide),hT 1 (by decide)];simp only[eE,seval,↓eP,rP]) (by rw[hT2 7 (by decide),hT 7 (by decide)];simp only[eE,seval,↓eP,rP]) (by rw[hT2 8 (by decide),hT 8 (by decide)];simp only[eE,seval,↓eP,rP]) fun T3 H3 tag' vq' vv' vt' vu' vo' h6 hp3 htg ho3 hn3 hf4=>?_
    have hS:BR at_ end_ x s=FK at_ end_ x s:=by unfold BR;rw[if_neg d0]
    refine fin _ _ 0 h6 (by unfold EH;rw[if_neg d0,if_neg hE1,if_neg hc]) ⟨fun i hi=>by
     have h0:=hlF i hi
     rw[ho3 i (by omega),ho2 i (by omega),ho i (hll i hi)],by omega,by rw[hf4,hf3,hf2]⟩ fun _=>?_
    rw[hS]
    refine⟨tag',vq',vv',vt',vu',vo',_,hp3,Vu hm ?_ ?_,cZ hw d0 hc he,fun i hi=>?_⟩
    ·exact(eN ⟨by omega,hdl.2⟩).trans (by rw[if_pos rfl])
    ·intro k k1 k4 hk
     exact(eN ⟨k1,k4⟩).trans (by rw[if_neg hk,Nat.add_zero])
    ·have h0:=hF i hi
     rw[htg i (by omega)]
     exact⟨by omega,h0.2⟩
end
theorem M7 {P:Program}:BH P Go.program=some P:=rfl
theorem JE {P:Program} {α:Type} {a:α}:BH P (pure a:Sem α)=some a:=rfl
theorem M_ {P:Program} {t:TypeId} {k0 k:IntKind} {a b:Int} (h:P.underlying t=some (.int k0)) (d:Nat):BH P (Op.equalIn (d+1) t (.int k a) (.int k b))=some (a==b):=by
 rw[Op.equalIn,DO,OC h]
 simp[JE]
theorem XQ {a b:Int}:BH Tryz.prog (part 3 #[.int .i64 a,.int .i64 b] 0)=some (.int .i64 a)∧BH Tryz.prog (part 3 #[.int .i64 a,.int .i64 b] 1)=some (.int .i64 b)∧BH Tryz.prog (part 30 #[.int .i64 a,.int .i64 b] 0)=some (.int .i64 a):=⟨rfl,rfl,rfl⟩
theorem Jm:Tryz.prog.stoodInHeld 110=false:=by kernel_rfl
theorem Ht:Tryz.prog.stoodInHeld 32=false:=by kernel_rfl
abbrev GF (a b:Int):Value:=.agg #[.int .i64 a,.int .i64 b]
theorem q8 {a b:Int}:flat (GF a b)=true:=rfl
theorem Kx {a b c d:Int} (n:Nat):BH Tryz.prog (Op.equalIn (n+2) 110 (GF a b) (GF c d))=some (a==c&&b==d):=by
 rw[Op.equalIn,DO,OC Tryz.underlying110]
 simp only[Option.bind_some,DO,M7,Jm,Bool.false_eq_true,if_false]
 simp only[List.forIn_toArray,List.forIn_cons,List.forIn_nil,ne_eq,String.reduceEq,not_false_eq_true,if_true,DO,XQ.1,Option.bind_some,M_ Tryz.underlying3]
 cases h1:(a==c) <;> cases h2:(b==d) <;> simp[DO,JE,XQ.2.1,M_ Tryz.underlying3,h2,-beq_iff_eq,-beq_eq_false_iff_ne]
theorem Jz {a b c d:Int} (n:Nat):BH Tryz.prog (Op.equalIn (n+2) 32 (GF a b) (GF c d))=some (a==c&&b==d):=by
 rw[Op.equalIn,DO,OC Tryz.underlying32]
 simp only[Option.bind_some,DO,M7,Ht,Bool.false_eq_true,if_false]
 simp only[List.forIn_toArray,List.forIn_cons,List.forIn_nil,ne_eq,String.reduceEq,not_false_eq_true,if_true,DO,XQ.2.2,Option.bind_some,M_ Tryz.underlying3,M_ Tryz.underlying30]
 cases h1:(a==c) <;> cases h2:(b==d) <;> simp[DO,JE,XQ.2.1,M_ Tryz.underlying3,M_ Tryz.underlying30,h2,-beq_iff_eq,-beq_eq_false_iff_ne]
theorem tB {x y:Operand} {a b c d:Int}:CP Tryz.prog .neq 110 x y (GF a b) (GF c d)=some (.bool (!(a==c&&b==d))):=by
 have e:BH Tryz.prog (do eqGuard .neq 110 x y (GF a b) (GF c d);binOp .neq 110 (GF a b) (GF c d))=some (.bool (!(a==c&&b==d))):=by
  rw[DO]
  have g:BH Tryz.prog (eqGuard .neq 110 x y (GF a b) (GF c d))=some ():=by
   unfold eqGuard
   simp[DO,M7,JE]
  rw[g]
  show BH Tryz.prog ((do pure (.bool (!(← Op.equal 110 (GF a b) (GF c d))))):Sem Value)=_
  rw[DO]
  have k:BH Tryz.prog (Op.equal 110 (GF a b) (GF c d))=some (a==c&&b==d):=Kx 9998
  rw[k]
  rfl
 simp only[CP,q8,Bool.and_self,if_true,e,MT]
theorem Gb {x y:Operand} {a b c d:Int}:CP Tryz.prog .eql 32 x y (GF a b) (GF c d)=some (.bool (a==c&&b==d)):=by
 have e:BH Tryz.prog (do eqGuard .eql 32 x y (GF a b) (GF c d);binOp .eql 32 (GF a b) (GF c d))=some (.bool (a==c&&b==d)):=by
  rw[DO]
  have g:BH Tryz.prog (eqGuard .eql 32 x y (GF a b) (GF c d))=some ():=by
   unfold eqGuard
   simp[DO,M7,JE]
  rw[g]
  show BH Tryz.prog ((do pure (.bool (← Op.equal 32 (GF a b) (GF c d)))):Sem Value)=_
  rw[DO]
  have k:BH Tryz.prog (Op.equal 32 (GF a b) (GF c d))=some (a==c&&b==d):=Jz 9998
  rw[k]
  rfl
 simp only[CP,q8,Bool.and_self,if_true,e,MT]
noncomputable def C5:Code:=rt (rt (rt (rt (Tryz.f53.body.getD .skip))))
noncomputable def vE:Array Oper:=C9 Tryz.f53 5
def Hb:List (Bool × Bool × List Operand):=[A7,A7,A7,A7,AI [.tmp 26],AI [.tmp 26],AI [.tmp 26],AI [.tmp 26],AP,AP,AP,AP,AI [.tmp 26,.tmp 30,.tmp 27],AP,AP]
theorem Lw:C8 vE=Hb:=by kernel_rfl
theorem mK {a b c:Value} {ty:TypeId} {g ro:Bool}:A_ 2 0 (.row [a,b,c] ty g ro)=some (.agg #[a,b]):=rfl
section
variable {call:AS} {N:Nat} {h:AA} {lo m k c e r n:Nat} {nm:ByteArray} {E:List Int} {F:List Nat} {tag:Nat→Nat} {vq vv vt vu vo:Value} {es:List (Value × Value)} {s:AM}
theorem kD {s:AM} {l:List AB} {k:Int}:BI { s with rows:=l } k=BI s k:=rfl
theorem Vt (hsn:CK call) {at_:Nat} {x:AB} (hp:FF h lo m k c e r n nm E F s) (hx:s.rows[at_]?=some x) (hkind:1≤x.kind∧x.kind≤54) (hn:n<1099511627776)
  (h81:∀ k h',1≤k∧k≤54→call 74 [iv k] h'=some (iv (EC k),h')) :
  ∃ h',AY Tryz.prog call N 53 [qP m 0,iv at_] h=some (iv (DB at_ x s),h')∧(GG h h' lo F∧(DB at_ x s=0→FF h' lo m k c e r n nm E F (CF at_ x s))):=by
 obtain⟨tag,vq,vv,vt,vu,vo,es,hp,hm,hw,hF⟩:=hp
 have hlF:∀ i,i<lo∨i∈F→i<lo∨(i<h.next∧11≤tag i):=fun i hi=>hi.imp id fun h=>hF i h
 have hll:∀ i,i<lo∨i∈F→i<h.next:=fun i hi=>by have:=hp.lm;have:=hlF i hi;omega
 refine DW (R:=fun h'=>GG h h' lo F∧(DB at_ x s=0→FF h' lo m k c e r n nm E F (CF at_ x s))) Tryz.func53 rfl (by simp[Tryz.f53]) ?_
 have hr:Tryz.f53.results.toList=[.tmp 4]:=rfl
 generalize hKK:B_.top (fun ex s_1=>(ex=ED.normal∨ex=ED.ret)∧∃ vs,F2 Tryz.prog s_1 Tryz.f53.results.toList=some vs∧HL vs=iv (DB at_ x s)∧GG h s_1.h lo F∧(DB at_ x s=0→FF s_1.h lo m k c e r n nm E F (CF at_ x s)))=K
 have fin:∀ (T':Tr) H v,T'.get 4=iv v→v=DB at_ x s→GG h H lo F→(v=0→FF H lo m k c e r n nm E F (CF at_ x s))→K.ap Tryz.prog call N .ret ⟨T',H⟩:=fun T' H v h6 hv ha hb=>by
  subst hv
  rw[← hKK]
  simp only[eE,↓reduceIte,Nat.reduceEqDiff,reduceCtorEq,↓eP,rP,Nat.reduceAdd,Nat.reduceLT,hr,h6]
  exact⟨ha,hb⟩
 show WK _ _ _ (.seq _ (.seq _ (.seq _ (.seq _ C5)))) _ _
 have hm1:=hp.c1
 obtain⟨hlt,l0,l1,l2,l3,l4,lr⟩:=hp.row hx
 have hd81:=fun h'=>h81 x.kind h' hkind
 have hdl:=nU x.kind
 by_cases d0:EC x.kind=0
 ·have dE:DB at_ x s=0:=by unfold DB;rw[if_pos d0]
  have dS:CF at_ x s=s:=by unfold CF;rw[if_pos d0]
  have b0:(EC x.kind==0)=true:=by simpa using d0
  simp only[eE,seval,↓eP,rP,J0,BN,BO,hm1,KK hlt,l0,hd81,b0]
  exact fin _ _ 0 (by simp only[Tr.get_put,if_true]) dE.symm ⟨fun _ _=>rfl,Nat.le_refl _,rfl⟩ fun _=>by rw[dS];exact⟨tag,vq,vv,vt,vu,vo,es,hp,hm,hw,hF⟩
 ·have b0:(EC x.kind==0)=false:=by simpa using d0
  simp only[eE,seval,↓eP,rP,J0,BN,BO,hm1,KK hlt,l0,hd81,b0]
  have hlh:lo≤h.next:=by have:=hp.lm;omega
  show WK _ _ _ (.seq (.region _ _ true) _) _ _
  rw[KA]
  have c8:=hp.c8
  have hlook:=xD (x:=x.name) hp.known
  have hmn:=hp.lm.2
  have hkn:=hp.lk.2
  have hrn:=hp.pol.lr.2
  have hflo:h.floor≤h.next:=by have:=hp.fl;omega
  have n1:(some m != some h.next)=true:=by simp;omega
  have n2:(some r != some h.next)=true:=by simp;omega
  have n3:(some k != some h.next)=true:=by simp;omega
  have hnew:(h.push (.row [iv 0,iv 0,iv 0] 112 false false)).get h.next=.row [iv 0,iv 0,iv 0] 112 false false:=BX
  have hst:=fun a b d=>wN (a:=iv a) (b:=iv b) (c:=iv d) hnew (by exact hflo) rfl
  have hold:∀ o i,i<h.next→((h.push (.row [iv 0,iv 0,iv 0] 112 false false)).put h.next o).get i=h.get i:=fun o i hi=>by rw[AR (by show h.next<h.next+1;omega) (by omega),AU hi]
  have hgn:∀ o,((h.push (.row [iv 0,iv 0,iv 0] 112 false false)).put h.next o).get h.next=o:=fun o=>BL rfl (by show h.next<h.next+1;omega)
  have hfl0:flat (.agg #[iv 0,iv 0,iv 0])=true:=rfl
  have hcl0:=DV [iv 0,iv 0,iv 0]
  have i1:DD (qP m 8)=some m:=rfl
  have i2:DD (.pointer (some ⟨r,at_*5+1,none⟩))=some r:=rfl
  have i3:DD (.map (some k))=some k:=rfl
  have i4:DD (qP h.next 0)=some h.next:=rfl
  refine WK.flags (ops:=vE) Lw ?_
  refine DN.begin ?_
  refine AG hsn 0 (some 24) (.move (.tmp 0)) none ?_
  simp only[rG,seval,AD,AF,AE,Tr.get_set]
  refine AG hsn 1 (some 25) (.nilCheck (.tmp 24)) none ?_
  simp only[rG,seval,AD,AF,AE]
  refine AG hsn 2 (some 26) (.fieldAddr 90 (.tmp 25) 1) none ?_
  simp only[rG,seval,AD,AF,AE,Nat.zero_add,iJ]
  refine AG hsn 3 (some 27) (.load 87 (.tmp 26)) none ?_
  simp only[rG,seval,AD,AF,AE,CT,fI,c8]
  refine AG hsn 4 (some 28) (.move (.tmp 5)) none ?_
  simp only[rG,seval,AD,AF,AE]
  refine AG hsn 5 (some 29) (.nilCheck (.tmp 28)) none ?_
  simp only[rG,seval,AD,AF,AE]
  refine AG hsn 6 (some 30) (.fieldAddr 60 (.tmp 29) 1) none ?_
  simp only[rG,seval,AD,AF,AE,MU]
  refine AG hsn 7 (some 31) (.load 9 (.tmp 30)) none ?_
  simp only[rG,seval,AD,AF,AE,CT,FU,l1]
  cases hf:GK s.things x.name with
  | none=>
   rw[hf] at hlook
   refine AG hsn 8 (some 32) (.lookup 87 (.tmp 27) (.tmp 31) true) none ?_
   simp only[rG,seval,AD,AF,AE,CT,hlook,i3]
   refine AG hsn 9 (some 23) (.move (.tmp 32)) none ?_
   simp only[rG,seval,AD,AF,AE]
   refine AG hsn 10 (some 33) (.extract (.tmp 23) 0) none ?_
   simp only[rG,seval,AD,AF,AE,List.getElem?_toArray,List.getElem?_cons_zero]
   refine AG hsn 11 (some 34) (.extract (.tmp 23) 1) none ?_
   simp only[rG,seval,AD,AF,AE,List.getElem?_toArray,List.getElem?_cons_succ,List.getElem?_cons_zero]
   refine AG hsn 12 (some 7) (.alloc 112) none ?_
   simp only[rG,seval,AD,AF,AE,ZM,TK,hfl0,hcl0]
   refine AG hsn 13 (none) (.store 112 (.tmp 7) (.tmp 33)) none ?_
   simp only[rG,seval,AD,AF,AE,CM,C4,hst,i4,CM,List.all_nil]
   refine AG hsn 14 (some 8) (.assign (.tmp 34)) none ?_
   simp only[rG,seval,AD,AF,AE]
   refine DN.done (i:=15) (by kernel_rfl) ?_
   have dE:DB at_ x s=32:=by unfold DB;rw[if_neg d0,hf]
   simp only[eE,seval,↓eP,rP]
   exact fin _ _ 32 (by simp only[Tr.get_put,if_true]) dE.symm ⟨fun i hi=>hold _ i (hll i hi),by show h.next≤h.next+1;omega,rfl⟩ fun h=>by cases h
  | some t=>
   rw[hf] at hlook
   refine AG hsn 8 (some 32) (.lookup 87 (.tmp 27) (.tmp 31) true) none ?_
   simp only[rG,seval,AD,AF,AE,CT,hlook,i3]
   refine AG hsn 9 (some 23) (.move (.tmp 32)) none ?_
   simp only[rG,seval,AD,AF,AE]
   refine AG hsn 10 (some 33) (.extract (.tmp 23) 0) none ?_
   simp only[rG,seval,AD,AF,AE,List.getElem?_toArray,List.getElem?_cons_zero]
   refine AG hsn 11 (some 34) (.extract (.tmp 23) 1) none ?_
   simp only[rG,seval,AD,AF,AE,List.getElem?_toArray,List.getElem?_cons_succ,List.getElem?_cons_zero]
   refine AG hsn 12 (some 7) (.alloc 112) none ?_
   simp only[rG,seval,AD,AF,AE,ZM,TK,hfl0,hcl0]
   refine AG hsn 13 (none) (.store 112 (.tmp 7) (.tmp 33)) none ?_
   simp only[rG,seval,AD,AF,AE,CM,C4,hst,i4,CM,List.all_nil]
   refine AG hsn 14 (some 8) (.assign (.tmp 34)) none ?_
   simp only[rG,seval,AD,AF,AE]
   refine DN.done (i:=15) (by kernel_rfl) ?_
   have hp1:B7 ((h.push (.row [iv 0,iv 0,iv 0] 112 false false)).put h.next (.row [iv t.kind,iv t.num,iv t.known] 112 false false)) lo m k c e r n nm E tag vq vv vt vu vo es s:=hp.putNew
   have hgo:=hold (.row [iv t.kind,iv t.num,iv t.known] 112 false false)
   have hgd:=hgn (.row [iv t.kind,iv t.num,iv t.known] 112 false false)
   have hnx:((h.push (.row [iv 0,iv 0,iv 0] 112 false false)).put h.next (.row [iv t.kind,iv t.num,iv t.known] 112 false false)).next=h.next+1:=rfl
   have hfl:((h.push (.row [iv 0,iv 0,iv 0] 112 false false)).put h.next (.row [iv t.kind,iv t.num,iv t.known] 112 false false)).floor=h.floor:=rfl
   generalize (h.push (.row [iv 0,iv 0,iv 0] 112 false false)).put h.next (.row [iv t.kind,iv t.num,iv t.known] 112 false false)=H1 at *
   generalize hdd:h.next=d at *
   have htm:t∈s.things:=List.mem_of_find?_eq_some hf
   obtain⟨q1,q2,q3,q4,q5⟩:=hw.th t htm
   cases dk:decide (t.known>(at_:Int)) with
   | true=>
    have dE:DB at_ x s=32:=by unfold DB;rw[if_neg d0,hf];simp only;rw[if_pos (by simpa using dk)]
    simp only[eE,seval,↓eP,rP,aK,hgd,dk]
    exact fin _ _ 32 (by simp only[Tr.get_put,if_true]) dE.symm ⟨fun i hi=>hgo i (hll i hi),by omega,hfl⟩ fun h=>by cases h
   | false=>
    have dk':¬ t.known>(at_:Int):=by simpa using dk
    cases dq:(t.kind==EC x.kind) with
    | false=>
     have dE:DB at_ x s=33:=by unfold DB;rw[if_neg d0,hf];simp only;rw[if_neg dk',if_pos (by simpa using dq)]
     simp only[eE,seval,↓eP,rP,aK,pR,tH,pW,hgd,dk,mK,iK,tB,dq]
     exact fin _ _ 33 (by simp only[Tr.get_put,if_true]) dE.symm ⟨fun i hi=>hgo i (hll i hi),by omega,hfl⟩ fun h=>by cases h
    | true=>
     have dq':¬ t.kind≠EC x.kind:=by simpa using dq
     have dE:DB at_ x s=0:=by unfold DB;rw[if_neg d0,hf];simp only;rw[if_neg dk',if_neg dq']
     have dS:CF at_ x s={ s with rows:=G8 s.rows at_ t.num }:=by unfold CF;rw[if_neg d0,hf]
     have hrl:=J7 s.rows
     have hlen:=hp1.pol.len
     have hst3:=GM (off:=at_*5+3) C7 (v:=iv t.num) rfl rfl hp1.pol.rows (by rw[hrl];omega) (by have:=hp1.fl;have:=hp1.pol.lr.1;omega)
     rw[VN hx] at hst3
     have hp3:=hp1.putR (l:=G8 s.rows at_ t.num) UE
     simp only[eE,seval,↓eP,rP,aK,pR,tH,pW,hgd,dk,mK,iK,tB,dq,hst3]
     refine fin _ _ 0 (by simp only[Tr.get_put,if_true]) dE.symm ⟨fun i hi=>?_,by show h.next≤H1.next;omega,hfl⟩ fun _=>?_
     ·rw[AR hp1.pol.lr.2 (PX (h:=h) (tag:=tag) hp1.pol.lr.1 (by rw[hp1.pol.tr];decide) (by rw[hdd];exact hlF i hi))]
      exact hgo i (hll i hi)
     ·rw[dS]
      exact⟨tag,vq,vv,vt,vu,vo,es,hp3,hm,⟨hw.q,hw.v,hw.t,hw.u,hw.o,hw.th⟩,fun i hi=>⟨by have h0:=hF i hi;show i<H1.next;omega,(hF i hi).2⟩⟩
end
noncomputable def E4:Code:=rt (rt (rt (Tryz.f54.body.getD .skip)))
def fY:List (Bool × Bool × List Operand):=[A7,A7,A7,A7,A7,AI [.tmp 29],AI [.tmp 29],AP,AP]
section
variable {call:AS} {N:Nat} {h H:AA} {lo m k c e r n:Nat} {nm:ByteArray} {E:List Int} {F:List Nat} {tag:Nat→Nat} {vq vv vt vu vo:Value} {es:List (Value × Value)} {s:AM}
theorem B7.putMiss (hp:B7 h lo m k c e r n nm E tag vq vv vt vu vo es s) (x:Int):B7 (h.put m (.row [.string nm,qS r n AO,vq,vv,vt,vu,vo,iv x,.map (some k),.map (some c)] 90 false false)) lo m k c e r n nm E tag vq vv vt vu vo es { s with miss:=x }:=by
 have h0:∀ i,tag i≠0→(h.put m (.row [.string nm,qS r n AO,vq,vv,vt,vu,vo,iv x,.map (some k),.map (some c)] 90 false false)).get i=h.get i:=fun i hi=>AR hp.lm.2 (GH (tag:=tag) (by rw[hp.tm];exact fun e=>hi e.symm))
 have hq:=hp.pol.mono (h':=h.put m (.row [.string nm,qS r n AO,vq,vv,vt,vu,vo,iv x,.map (some k),.map (some c)] 90 false false)) (Nat.le_refl _) (fun _ _=>rfl) fun i _ _ h1 _=>h0 i (by omega)
 exact hp.pol' (Nat.le_refl _) rfl (fun _ _=>rfl) (fun i _ _ h1=>h0 i (by omega)) (BL rfl hp.lm.2) ⟨hq.rows,hq.len,hq.tr,hq.lr,hq.q,hq.v,hq.t,hq.u,hq.o⟩ rfl
theorem B7.putOn (hp:B7 h lo m k c e r n nm E tag vq vv vt vu vo es s) {i:Nat} (hi:i<s.on.length) (x:Int):∃ id ex,vo=qS id s.on.length AO∧h.get id=.row (ints s.on++ex) 3 true false∧lo≤id∧id<h.next∧tag id=6 ∧
  B7 (h.put id (.row ((ints s.on++ex).set i (iv x)) 3 true false)) lo m k c e r n nm E tag vq vv vt vu vo es { s with on:=s.on.set i x }:=by
 rcases hp.pol.o with⟨h0,_,_⟩ | ⟨id,ex,h1,h2,h3,h4,h5⟩
 ·omega
 ·refine⟨id,ex,h1,h2,h3,h4,h5,?_⟩
  have hset:(ints s.on++ex).set i (iv x)=ints (s.on.set i x)++ex:=by
   rw[List.set_append_left _ _ (by rw[F9];exact hi),WV]
  rw[hset]
  have h0:∀ j,tag j≠6→(h.put id (.row (ints (s.on.set i x)++ex) 3 true false)).get j=h.get j:=fun j hj=>AR h4 (GH (tag:=tag) (by rw[h5];exact fun e=>hj e.symm))
  have hq:=hp.pol
  refine hp.pol' (Nat.le_refl _) rfl (fun _ _=>rfl) (fun j _ _ h1=>h0 j (by omega)) (by rw[h0 m (by rw[hp.tm];decide)];exact hp.cell) ?_ rfl
  refine⟨by rw[h0 r (by rw[hq.tr];decide)];exact hq.rows,hq.len,hq.tr,hq.lr,hq.q.mono (Nat.le_refl _) (fun _ _=>rfl) fun j _ _ h3=>h0 j (by omega),hq.v.mono (Nat.le_refl _) (fun _ _=>rfl) fun j _ _ h3=>h0 j (by omega),hq.t.mono (Nat.le_refl _) (fun _ _=>rfl) fun j _ _ h3=>h0 j (by omega),hq.u.mono (Nat.le_refl _) (fun _ _=>rfl) fun j _ _ h3=>h0 j (by omega),?_⟩
  refine .inr ⟨id,ex,by rw[h1,List.length_set],BL rfl h4,h3,h4,h5⟩
theorem n9 {l:List Int} {ex:List Value} {i:Nat} {x:Int} {ty:TypeId} {g ro:Bool} (hx:l[i]?=some x):AH i (.row (ints l++ex) ty g ro)=some (iv x):=by
 have hl:=(List.getElem?_eq_some_iff.1 hx).1
 simp only[AH]
 rw[List.getElem?_append_left (by rw[F9];exact hl),YH,hx]
 rfl
theorem Pl (hsn:CK call) {at_:Nat} {x:AB} (hp:FF h lo m k c e r n nm E F s) (hx:s.rows[at_]?=some x) (hkind:1≤x.kind∧x.kind≤54) (hn:n<1099511627776) (hxn:E8 x.kind=true→x.kind≠10→0≤x.n∧x.n<s.on.length)
  (h82:∀ k h',1≤k∧k≤54→call 75 [iv k] h'=some (.bool (E8 k),h')) :
  ∃ h',AY Tryz.prog call N 54 [qP m 0,iv at_] h=some (iv (DQ x s),h')∧(GG h h' lo F∧(DQ x s=0→FF h' lo m k c e r n nm E F (D3 at_ x s))):=by
 obtain⟨tag,vq,vv,vt,vu,vo,es,hp,hm,hw,hF⟩:=hp
 have hlF:∀ i,i<lo∨i∈F→i<lo∨(i<h.next∧11≤tag i):=fun i hi=>hi.imp id fun h=>hF i h
 have hll:∀ i,i<lo∨i∈F→i<h.next:=fun i hi=>by have:=hp.lm;have:=hlF i hi;omega
 refine DW (R:=fun h'=>GG h h' lo F∧(DQ x s=0→FF h' lo m k c e r n nm E F (D3 at_ x s))) Tryz.func54 rfl (by simp[Tryz.f54]) ?_
 have hr:Tryz.f54.results.toList=[.tmp 4]:=rfl
 generalize hKK:B_.top (fun ex s_1=>(ex=ED.normal∨ex=ED.ret)∧∃ vs,F2 Tryz.prog s_1 Tryz.f54.results.toList=some vs∧HL vs=iv (DQ x s)∧GG h s_1.h lo F∧(DQ x s=0→FF s_1.h lo m k c e r n nm E F (D3 at_ x s)))=K
 have fin:∀ (T':Tr) H v,T'.get 4=iv v→v=DQ x s→GG h H lo F→(v=0→FF H lo m k c e r n nm E F (D3 at_ x s))→K.ap Tryz.prog call N .ret ⟨T',H⟩:=fun T' H v h6 hv ha hb=>by
  subst hv
  rw[← hKK]
  simp only[eE,↓reduceIte,Nat.reduceEqDiff,reduceCtorEq,↓eP,rP,Nat.reduceAdd,Nat.reduceLT,hr,h6]
  exact⟨ha,hb⟩
 show WK _ _ _ (.seq _ (.seq _ (.seq _ E4))) _ _
 have hm1:=hp.c1
 obtain⟨hlt,l0,l1,l2,l3,l4,lr⟩:=hp.row hx
 have hev:=fun h'=>h82 x.kind h' hkind
 have hflo:h.floor≤h.next:=by have:=hp.fl;have:=hp.lm;omega
 have hflT:(h.floor≤h.next)=True:=by simpa using hflo
 have hlh:lo≤h.next:=by have:=hp.lm;omega
 have hrn:=hp.pol.lr.2
 have hmn:=hp.lm.2
 have hrF:(r=h.next)=False:=by simp;omega
 have hmF:(m=h.next)=False:=by simp;omega
 have hltT:(h.next<h.next+1)=True:=by simp
 have hp1:=fun o o'=>hp.putNew (o:=o) (o':=o')
 have hone:([.int .i64 x.kind,.string x.name,.int .i64 x.ends,.int .i64 x.n,.int .i64 x.kids]:List Value).all one=true:=rfl
 have hz:flat (.agg #[.int .i64 0,.string ByteArray.empty,.int .i64 0,.int .i64 0,.int .i64 0])=true:=rfl
 have hzc:=DV DS
 have hst:BB Tryz.prog (h.push (.row DS 60 false false)) 60 (qP h.next 0) (.agg #[.int .i64 x.kind,.string x.name,.int .i64 x.ends,.int .i64 x.n,.int .i64 x.kids])=some ((h.push (.row DS 60 false false)).put h.next (.row [.int .i64 x.kind,.string x.name,.int .i64 x.ends,.int .i64 x.n,.int .i64 x.kids] 60 false false)):=by
  rw[CW,BX,TY,if_pos ⟨hflo,hone⟩]
 have hp1:B7 ((h.push (.row DS 60 false false)).put h.next (.row [.int .i64 x.kind,.string x.name,.int .i64 x.ends,.int .i64 x.n,.int .i64 x.kids] 60 false false)) lo m k c e r n nm E tag vq vv vt vu vo es s:=hp.putNew
 have hgd:((h.push (.row DS 60 false false)).put h.next (.row [.int .i64 x.kind,.string x.name,.int .i64 x.ends,.int .i64 x.n,.int .i64 x.kids] 60 false false)).get h.next=.row [.int .i64 x.kind,.string x.name,.int .i64 x.ends,.int .i64 x.n,.int .i64 x.kids] 60 false false:=BL rfl (by show h.next<h.next+1;omega)
 have hgo:∀ i,i<h.next→((h.push (.row DS 60 false false)).put h.next (.row [.int .i64 x.kind,.string x.name,.int .i64 x.ends,.int .i64 x.n,.int .i64 x.kids] 60 false false)).get i=h.get i:=fun i hi=>by rw[AR (by show h.next<h.next+1;omega) (by omega),AU hi]
 have hnx:((h.push (.row DS 60 false false)).put h.next (.row [.int .i64 x.kind,.string x.name,.int .i64 x.ends,.int .i64 x.n,.int .i64 x.kids] 60 false false)).next=h.next+1:=rfl
 have hfl:((h.push (.row DS 60 false false)).put h.next (.row [.int .i64 x.kind,.string x.name,.int .i64 x.ends,.int .i64 x.n,.int .i64 x.kids] 60 false false)).floor=h.floor:=rfl
 generalize hH1:(h.push (.row DS 60 false false)).put h.next (.row [.int .i64 x.kind,.string x.name,.int .i64 x.ends,.int .i64 x.n,.int .i64 x.kids] 60 false false)=H1 at *
 have hw1:IntKind.i64.wrap ((at_:Int)+1)=(at_:Int)+1:=BT (by omega) (by omega)
 have after1:GG h H1 lo F:=⟨fun i hi=>hgo i (hll i hi),by omega,hfl⟩
 have hF1:∀ i∈F,i<H1.next∧11≤tag i:=fun i hi=>⟨by have h0:=hF i hi;omega,(hF i hi).2⟩
 have e46:=@FQ
 cases d0:E8 x.kind with
 | false=>
  have dE:DQ x s=0:=by unfold DQ;rw[if_pos d0]
  have dS:D3 at_ x s=s:=by unfold D3;rw[if_pos d0]
  simp only[eE,seval,↓eP,Nat.reduceAdd,Nat.zero_add,J0,BN,BO,FQ,AL,hm1,KK hlt,lr,E1,hz,hzc,hst,hgd,BC,KD,hev,d0]
  exact fin _ _ 0 (by simp only[Tr.get_put,if_true]) dE.symm after1 fun _=>by rw[dS];exact⟨tag,vq,vv,vt,vu,vo,es,hp1,hm,hw,hF1⟩
 | true=>
  simp only[eE,seval,↓eP,Nat.reduceAdd,Nat.zero_add,J0,BN,BO,FQ,AL,hm1,KK hlt,lr,E1,hz,hzc,hst,hgd,BC,KD,hev,d0]
  show WK _ _ _ (.seq _ (.seq (.seq _ (.cond _ (.region _ _ _) _)) (.seq (.seq _ (.cond _ _ _)) (.seq _ (.seq _ _))))) _ _
  cases d10:(x.kind==10) with
  | true=>
   have k10:x.kind=10:=by simpa using d10
   have d10':(x.kind != 10)=false:=by rw[bne,d10];rfl
   have c7:=hp1.c7
   have hst7:BB Tryz.prog H1 3 (qP m 7) (iv ((at_:Int)+1))=_:=GM C7 rfl rfl hp1.cell (by simp only[List.length_cons,List.length_nil];omega) (by have:=hp1.fl;have:=hp1.lm;omega)
   simp only[List.set_cons_succ,List.set_cons_zero] at hst7
   cases dm:decide (s.miss≥0) with
   | true=>
    have dE:DQ x s=31:=by unfold DQ;rw[if_neg (by rw[d0];simp),if_pos k10,if_pos (by simpa using dm)]
    simp only[eE,seval,↓eP,Nat.zero_add,J0,IV,AL,hgd,BC,KD,d10',c7,dm]
    exact fin _ _ 31 (by simp only[Tr.get_put,if_true]) dE.symm after1 fun h=>by cases h
   | false=>
    have dE:DQ x s=0:=by unfold DQ;rw[if_neg (by rw[d0];simp),if_pos k10,if_neg (by simpa using dm)]
    have dS:D3 at_ x s={ s with miss:=(at_:Int)+1 }:=by unfold D3;rw[if_neg (by rw[d0];simp),if_pos k10]
    simp only[eE,seval,↓eP,Nat.zero_add,J0,IV,AL,hgd,BC,KD,d10',c7,dm,hw1,hst7]
    refine fin _ _ 0 (by simp only[Tr.get_put,if_true]) dE.symm ⟨fun i hi=>?_,by show h.next≤H1.next;omega,hfl⟩ fun _=>?_
    ·rw[AR hp1.lm.2 (PX (h:=h) hp1.lm.1 (by rw[hp1.tm];decide) (hlF i hi))]
     exact hgo i (hll i hi)
    ·rw[dS]
     exact⟨tag,vq,vv,vt,vu,vo,es,hp1.putMiss _,hm,⟨hw.q,hw.v,hw.t,hw.u,hw.o,hw.th⟩,hF1⟩
  | false=>
   have k10:¬ x.kind=10:=by simpa using d10
   have d10':(x.kind != 10)=true:=by rw[bne,d10];rfl
   obtain⟨hn0,hn1⟩:=hxn d0 k10
   obtain⟨i,hi⟩:∃ i:Nat,x.n=(i:Int):=⟨x.n.toNat,by omega⟩
   have hil:i<s.on.length:=by omega
   obtain⟨id,ex,ev,hgi,hli,hni,hti,hp2⟩:=hp1.putOn hil ((at_:Int)+1)
   obtain⟨v,hv⟩:∃ v,s.on[i]?=some v:=⟨_,List.getElem?_eq_getElem hil⟩
   have c6:=hp1.c6
   rw[ev] at c6
   have lv:=n9 (ex:=ex) (ty:=3) (g:=true) (ro:=false) hv
   have hst6:=GM (h:=H1) (off:=i) C7 (v:=iv ((at_:Int)+1)) rfl rfl hgi (by rw[List.length_append,F9];omega) (by have:=hp1.fl;omega)
   have hton:x.n.toNat=i:=by omega
   simp only[eE,seval,↓eP,Nat.zero_add,J0,IV,AL,hgd,BC,KD,d10']
   show WK _ _ _ (.region _ _ true) _ _
   refine WK.flags (fs:=fY) (by kernel_rfl) ?_
   unfold fY
   iterate 9
    refine DI hsn ?_
    simp only[rG,seval,AD,AF,AE,CT,DC,CM,C4,DJ,hi,J0,ID,C3,c6,F1,AL,hgd,R2,EG hil]
   refine DH ?_
   cases dm:decide (v≥0) with
   | true=>
    have dE:DQ x s=31:=by unfold DQ;rw[if_neg (by rw[d0];simp),if_neg k10,hton,hv];simp only;rw[if_pos (by simpa using dm)]
    simp only[eE,seval,↓eP,AL,hgi,lv,dm]
    exact fin _ _ 31 (by simp only[Tr.get_put,if_true]) dE.symm after1 fun h=>by cases h
   | false=>
    have dE:DQ x s=0:=by unfold DQ;rw[if_neg (by rw[d0];simp),if_neg k10,hton,hv];simp only;rw[if_neg (by simpa using dm)]
    have dS:D3 at_ x s={ s with on:=s.on.set i ((at_:Int)+1) }:=by unfold D3;rw[if_neg (by rw[d0];simp),if_neg k10,hton]
    simp only[eE,seval,↓eP,AL,hgi,lv,dm,hw1,hst6]
    refine fin _ _ 0 (by simp only[Tr.get_put,if_true]) dE.symm ⟨fun j hj=>?_,by show h.next≤H1.next;omega,hfl⟩ fun _=>?_
    ·rw[AR hni (PX (h:=h) hli (by rw[hti];decide) (hlF j hj))]
     exact hgo j (hll j hj)
    ·rw[dS]
     exact⟨tag,vq,vv,vt,vu,vo,es,hp2,hm,⟨hw.q,hw.v,hw.t,hw.u,by simp only[List.length_set];exact hw.o,hw.th⟩,hF1⟩
end
def F6 (a b:Int):Int:=if a>4611686018427387904-b then 4611686018427387904 else a+b
theorem QT {a b:Int} (ha:0≤a) (hb:0≤b) (hb2:b≤4611686018427387904):0≤F6 a b∧F6 a b≤4611686018427387904:=by unfold F6;split <;> omega
def MK (sums:List Int) (k:Int):Int:=(sums[k.toNat]?).getD 0
def HE (sums:List Int):List AB→Int→Int
 | [],n=>n
 | x :: l,n=>HE sums l (if x.kind=22 then F6 (F6 n 1) (MK sums x.n) else F6 n 1)
def JU (sums:List Int):Prop:=∀ x∈sums,0≤x∧x≤4611686018427387904
theorem Kj {sums:List Int} (hs:JU sums) (k:Int):0≤MK sums k∧MK sums k≤4611686018427387904:=by
 unfold MK
 cases h:sums[k.toNat]? with
 | none=>exact⟨by simp,by simp⟩
 | some x=>exact hs x (List.mem_of_getElem? h)
theorem cJ {sums:List Int} (hs:JU sums):∀ (l:List AB) (n:Int),0≤n→n≤4611686018427387904→0≤HE sums l n∧HE sums l n≤4611686018427387904
 | [],n,h0,h1=>⟨h0,h1⟩
 | x :: l,n,h0,h1=>by
  have h2:=QT (a:=n) (b:=1) h0 (by omega) (by omega)
  have h3:=Kj hs x.n
  have h4:=QT h2.1 h3.1 h3.2
  unfold HE
  split
  ·exact cJ hs l _ h4.1 h4.2
  ·exact cJ hs l _ h2.1 h2.2
section
variable {call:AS} {N:Nat} {h:AA}
theorem Vz {a b:Int} (hb:0≤b∧b≤4611686018427387904) (ha:0≤a∧a≤4611686018427387904):AY Tryz.prog call N 77 [iv a,iv b] h=some (iv (F6 a b),h):=by
 refine CO Tryz.func77 rfl (by simp[Tryz.f77]) ?_
 have hr:Tryz.f77.results.toList=[.tmp 4]:=rfl
 have w1:IntKind.i64.wrap (4611686018427387904-b)=4611686018427387904-b:=BT (by omega) (by omega)
 unfold F6
 cases d:decide (a>4611686018427387904-b) with
 | true=>
  rw[if_pos (by simpa using d)]
  simp only[eE,seval,↓eP,rP,hr,w1,d]
 | false=>
  have d':¬ a>4611686018427387904-b:=by simpa using d
  have w2:IntKind.i64.wrap (a+b)=a+b:=BT (by omega) (by omega)
  rw[if_neg d']
  simp only[eE,seval,↓eP,rP,hr,w1,d,w2]
theorem mL {a b:Int} (h:AA) (hb:0≤b∧b≤4611686018427387904) (ha:0≤a∧a≤4611686018427387904):L1 77 [iv a,iv b] h=some (iv (F6 a b),h):=FE (GY rfl rfl) rfl rfl rfl ⟨_,Vz hb ha⟩
def j_:List (Bool × Bool × List Operand):=[A7,A7,AI [.tmp 9],AI [.tmp 9],AI [.tmp 9,.tmp 2],AI [.tmp 9],AI [.tmp 9],AP,AP,AI [.tmp 9,.tmp 2,.tmp 14,.tmp 10]]
structure K5 (h:AA) (pb eb sb:Nat) (rows:List AB) (E sums:List Int):Prop where
 p:∃ v0 vr v2 v3 v4 v5 v6 v7 g,h.get pb=.row [v0,vr,v2,v3,v4,v5,v6,v7] 27 g false∧(∀ (lo hi:Nat) h',(∀ i,i<h.next→h'.get i=h.get i)→h.next≤h'.next→lo≤hi→hi≤rows.length→∃ v',HW Tryz.prog h' 22 vr (some (iv lo)) (some (iv hi)) none=some v'∧AQ h' v' ((rows.drop lo).take (hi-lo)))
 e:∃ e n c g g',h.get eb=.row [qS e n c] 25 g false∧h.get e=.row (ints E) 3 g' false∧n=E.length∧e<h.next
 s:∃ q n c g g',h.get sb=.row [qS q n c] 25 g false∧h.get q=.row (ints sums) 3 g' false∧n=sums.length∧q<h.next
 lp:pb<h.next
 le:eb<h.next
 ls:sb<h.next
theorem K5.mono {h h':AA} {pb eb sb:Nat} {rows:List AB} {E sums:List Int} (hc:K5 h pb eb sb rows E sums) (hn:h.next≤h'.next) (hg:∀ i,i<h.next→h'.get i=h.get i):K5 h' pb eb sb rows E sums where
 p:=by
  obtain⟨v0,vr,v2,v3,v4,v5,v6,v7,g,h1,h2⟩:=hc.p
  exact⟨v0,vr,v2,v3,v4,v5,v6,v7,g,by rw[hg pb hc.lp];exact h1,fun lo hi h2' a b=>h2 lo hi h2' (fun i hi'=>by rw[a i (by omega),hg i hi']) (by omega)⟩
 e:=by
  obtain⟨e,n,c,g,g',h1,h2,h3,h4⟩:=hc.e
  exact⟨e,n,c,g,g',by rw[hg eb hc.le];exact h1,by rw[hg e h4];exact h2,h3,by omega⟩
 s:=by
  obtain⟨e,n,c,g,g',h1,h2,h3,h4⟩:=hc.s
  exact⟨e,n,c,g,g',by rw[hg sb hc.ls];exact h1,by rw[hg e h4];exact h2,h3,by omega⟩
 lp:=by have:=hc.lp;omega
 le:=by have:=hc.le;omega
 ls:=by have:=hc.ls;omega
theorem Xm (hsn:CK call) {pb eb sb row q:Nat} {rows:List AB} {E sums:List Int} (hc:K5 h pb eb sb rows E sums) (hs:JU sums) (hfl:h.floor≤h.next) (hE:E[row]?=some (q:Int)) (hrq:row≤q) (hq:q≤rows.length) (hlen:rows.length<1099511627776) (hN:rows.length+3<N)
  (hcalls:∀ x∈(rows.drop row).take (q-row),x.kind=22→0≤x.n∧x.n<sums.length) (h83:∀ a b h',0≤b∧b≤4611686018427387904→0≤a∧a≤4611686018427387904→call 77 [iv a,iv b] h'=some (iv (F6 a b),h')) :
  ∃ h',AY Tryz.prog call N 115 [iv row,qP pb 0,qP eb 0,qP sb 0] h=some (iv (HE sums ((rows.drop row).take (q-row)) 0),h')∧∀ i,i<h.next→h'.get i=h.get i:=by
 refine DW (R:=fun h'=>∀ i,i<h.next→h'.get i=h.get i) Tryz.func115 rfl (by simp[Tryz.f115]) ?_
 have hr:Tryz.f115.results.toList=[.tmp 5]:=rfl
 obtain⟨v0,vr,v2,v3,v4,v5,v6,v7,g,hg1,hsl⟩:=hc.p
 obtain⟨e,ne,ce,ge,ge',he1,he2,he3,he4⟩:=hc.e
 obtain⟨sq,ns,cs,gs,gs',hs1,hs2,hs3,hs4⟩:=hc.s
 obtain⟨v',hv1,hv2⟩:=hsl row q h (fun _ _=>rfl) (Nat.le_refl _) hrq hq
 have hrE:row<E.length:=(List.getElem?_eq_some_iff.1 hE).1
 have hll:=fun h'=>hv2.len (h':=h')
 have hseg:((rows.drop row).take (q-row)).length=q-row:=by rw[List.length_take,List.length_drop];omega
 generalize hS:(rows.drop row).take (q-row)=S at *
 have lE:=IF (ty:=3) (g:=ge') (ro:=false) hE
 obtain⟨va,vc,hve⟩:∃ a c,v'=.slice a S.length c:=by obtain⟨a,c,h1,_⟩:=hv2;exact⟨a,c,h1⟩
 subst hve
 simp only[eE,seval,↓eP,rP]
 show WK _ _ _ (.region _ _ true) _ _
 refine WK.flags (fs:=j_) (by kernel_rfl) ?_
 unfold j_
 iterate 10
  refine DI hsn ?_
  simp only[rG,seval,AD,AF,AE,CT,DC,CM,C4,DJ,BN,Option.map_some,KU,false_implies,BO,hg1,TI,C3,he1,KD,EG (show row<ne by omega),AL,he2,lE,Option.map_none,hv1,hll]
 refine DH ?_
 simp only[eE,seval,↓eP,rP]
 refine WK.loop (fun i s=>s.T.get 3=qP sb 0∧s.T.get 16=.slice va S.length vc∧s.T.get 17=iv (S.length:Int)∧s.T.get 18=iv i∧i≤S.length∧s.h.floor=h.floor∧h.next≤s.h.next∧(∀ i,i<h.next→s.h.get i=h.get i) ∧
  ∃ n:Int,s.T.get 6=iv n∧0≤n∧n≤4611686018427387904∧HE sums (S.drop i) n=HE sums S 0) S.length (by omega) ?_ ?_
 ·simp only[eE,↓reduceIte,Nat.reduceEqDiff,reduceCtorEq,↓eP,rP,Nat.reduceAdd,Nat.reduceLT]
  exact⟨by omega,by omega,fun _ _=>trivial,by omega,by omega,rfl⟩
 ·rintro i ⟨T1,H1⟩ hi ⟨t3,t16,t17,t18,hil,hf1,hn1,ho1,n,t6,hn0,hnB,hcn⟩
  simp only at t3 t16 t17 t18 hf1 hn1 ho1 t6
  by_cases hlt:i<S.length
  ·have c1:decide ((i:Int)<(S.length:Int))=true:=by simp;omega
   obtain⟨x,hx⟩:∃ x,S[i]?=some x:=⟨_,List.getElem?_eq_getElem hlt⟩
   have hv3:AQ H1 (.slice va S.length vc) S:=hv2.mono hn1 ho1
   obtain⟨id,p,e0,hid,l0,l1,l2,l3,l4,lr⟩:=hv3.row hx
   have hflo:H1.floor≤H1.next:=by omega
   have hz:flat (.agg #[.int .i64 0,.string ByteArray.empty,.int .i64 0,.int .i64 0,.int .i64 0])=true:=rfl
   have hzc:=DV DS
   have hone:([.int .i64 x.kind,.string x.name,.int .i64 x.ends,.int .i64 x.n,.int .i64 x.kids]:List Value).all one=true:=rfl
   have hst:BB Tryz.prog (H1.push (.row DS 60 false false)) 60 (qP H1.next 0) (.agg #[.int .i64 x.kind,.string x.name,.int .i64 x.ends,.int .i64 x.n,.int .i64 x.kids])=some ((H1.push (.row DS 60 false false)).put H1.next (.row [.int .i64 x.kind,.string x.name,.int .i64 x.ends,.int .i64 x.n,.int .i64 x.kids] 60 false false)):=by
    rw[CW,BX,TY,if_pos ⟨hflo,hone⟩]
   have hgd:((H1.push (.row DS 60 false false)).put H1.next (.row [.int .i64 x.kind,.string x.name,.int .i64 x.ends,.int .i64 x.n,.int .i64 x.kids] 60 false false)).get H1.next=.row [.int .i64 x.kind,.string x.name,.int .i64 x.ends,.int .i64 x.n,.int .i64 x.kids] 60 false false:=BL rfl (by show H1.next<H1.next+1;omega)
   have hgo:∀ i,i<h.next→((H1.push (.row DS 60 false false)).put H1.next (.row [.int .i64 x.kind,.string x.name,.int .i64 x.ends,.int .i64 x.n,.int .i64 x.kids] 60 false false)).get i=h.get i:=fun i hi=>by rw[AR (by show H1.next<H1.next+1;omega) (by omega),AU (by omega)];exact ho1 i hi
   have hnx:((H1.push (.row DS 60 false false)).put H1.next (.row [.int .i64 x.kind,.string x.name,.int .i64 x.ends,.int .i64 x.n,.int .i64 x.kids] 60 false false)).next=H1.next+1:=rfl
   have hfl2:((H1.push (.row DS 60 false false)).put H1.next (.row [.int .i64 x.kind,.string x.name,.int .i64 x.ends,.int .i64 x.n,.int .i64 x.kids] 60 false false)).floor=H1.floor:=rfl
   generalize (H1.push (.row DS 60 false false)).put H1.next (.row [.int .i64 x.kind,.string x.name,.int .i64 x.ends,.int .i64 x.n,.int .i64 x.kids] 60 false false)=H2 at *
   have p1:=QT (a:=n) (b:=1) hn0 (by omega) (by omega)
   have h831:=fun hh=>h83 n 1 hh (by omega) ⟨hn0,hnB⟩
   have w1:=DF i (by omega)
   have hdr:S.drop i=x :: S.drop (i+1):=by
    obtain⟨hl,rfl⟩:=List.getElem?_eq_some_iff.1 hx
    exact List.drop_eq_getElem_cons hl
   rw[hdr] at hcn
   change HE sums (S.drop (i+1)) (if x.kind=22 then F6 (F6 n 1) (MK sums x.n) else F6 n 1)=_ at hcn
   cases d22:(x.kind==22) with
   | false=>
    rw[if_neg (by simpa using d22)] at hcn
    simp only[eE,seval,↓eP,t3,t16,t17,t18,t6,c1,e0,FQ,lr,E1,hz,hzc,hst,h831,BC,AL,hgd,KD,d22,w1]
    exact⟨by omega,by omega,by rw[hfl2];exact hf1,by omega,hgo,p1.1,p1.2,hcn⟩
   | true=>
    have k22:x.kind=22:=by simpa using d22
    rw[if_pos k22] at hcn
    obtain⟨c0,c2⟩:=hcalls x (List.mem_of_getElem? hx) k22
    obtain⟨j,hj⟩:∃ j:Nat,x.n=(j:Int):=⟨x.n.toNat,by omega⟩
    have hjl:j<sums.length:=by omega
    obtain⟨y,hy⟩:∃ y,sums[j]?=some y:=⟨_,List.getElem?_eq_getElem hjl⟩
    have hyy:=hs y (List.mem_of_getElem? hy)
    have hsa:MK sums x.n=y:=by unfold MK;rw[show x.n.toNat=j by omega,hy];rfl
    rw[hsa] at hcn
    have hgs:H2.get sb=.row [qS sq ns cs] 25 gs false:=by rw[hgo sb hc.ls];exact hs1
    have hgq:H2.get sq=.row (ints sums) 3 gs' false:=by rw[hgo sq hs4];exact hs2
    have lS:=IF (ty:=3) (g:=gs') (ro:=false) hy
    have h832:=fun hh=>h83 (F6 n 1) y hh hyy p1
    have ix:CB Tryz.prog 25 (qS sq ns cs) (iv x.n)=some (qP sq j):=by rw[hj];exact EG (show j<ns by omega)
    have p2:=QT p1.1 hyy.1 hyy.2
    simp only[eE,seval,↓eP,Nat.zero_add,t3,t16,t17,t18,t6,c1,e0,FQ,lr,E1,hz,hzc,hst,h831,BC,F1,AL,hgd,KD,R2,d22,w1,C3,hgs,ix,hgq,lS,h832]
    exact⟨by omega,by omega,by rw[hfl2];exact hf1,by omega,hgo,p2.1,p2.2,hcn⟩
  ·have c1:decide ((i:Int)<(S.length:Int))=false:=by simp;omega
   have hn:HE sums S 0=n:=by
    rw[← hcn,List.drop_of_length_le (by omega)]
    rfl
   rw[hn]
   simp only[eE,seval,↓eP,hr,t17,t18,t6,c1]
   exact ho1
end
def FY (rows:List AB) (E sums:List Int) (row:Nat):Int:=HE sums ((rows.drop row).take (((E[row]?).getD 0).toNat-row)) 0
def QN (rows:List AB) (E:List Int):List Int→Nat→List Int→List Int
 | [],_,sums=>sums
 | ru :: rest,i,sums=>QN rows E rest (i+1) (sums.set i (FY rows E sums ru.toNat))
def I7 (rows:List AB) (E rules:List Int):List Int:=QN rows E rules 0 (List.replicate rules.length 0)
structure PJ (rows:List AB) (E rules:List Int):Prop where
 len:rows.length<1099511627
 e:E.length=rows.length
 ends:∀ i,i<rows.length→∃ q:Nat,E[i]?=some (q:Int)∧i<q∧q≤rows.length
 rl:∀ ru∈rules,0≤ru∧ru<rows.length
 nrules:rules.length<1000000
 calls:∀ x∈rows,x.kind=22→0≤x.n∧x.n<rules.length
theorem vV (n:Nat):JU (List.replicate n 0):=fun x hx=>by
 rw[List.mem_replicate] at hx
 rw[hx.2]
 omega
theorem xN {sums:List Int} (hs:JU sums) (i:Nat) {x:Int} (hx:0≤x∧x≤4611686018427387904):JU (sums.set i x):=fun y hy=>by
 rcases List.mem_or_eq_of_mem_set hy with h | h
 ·exact hs y h
 ·rw[h];exact hx
theorem R_ {rows:List AB} {E sums:List Int} (hs:JU sums) (row:Nat):0≤FY rows E sums row∧FY rows E sums row≤4611686018427387904:=cJ hs _ 0 (by omega) (by omega)
theorem nR {rows:List AB} {E:List Int}:∀ (l:List Int) (i:Nat) (sums:List Int),JU sums→JU (QN rows E l i sums)∧(QN rows E l i sums).length=sums.length
 | [],i,sums,hs=>⟨hs,rfl⟩
 | ru :: rest,i,sums,hs=>by
  have:=nR (rows:=rows) (E:=E) rest (i+1) (sums.set i (FY rows E sums ru.toNat)) (xN hs _ (R_ hs _))
  rw[List.length_set] at this
  exact this
theorem Z1 {rows:List AB} {E rules:List Int}:JU (I7 rows E rules)∧(I7 rows E rules).length=rules.length:=by
 have:=nR (rows:=rows) (E:=E) rules 0 _ (vV rules.length)
 rw[List.length_replicate] at this
 exact this
def iZ:List (Bool × Bool × List Operand):=[(true,false,[]),F5 [.tmp 5],AI [.tmp 5],AI [.tmp 5],AI [.tmp 5],AP,AP]
theorem K5.flr {h:AA} {pb eb sb:Nat} {rows:List AB} {E sums:List Int} (hc:K5 h pb eb sb rows E sums) (f:Nat):K5 (h.fl f) pb eb sb rows E sums:=hc.mono (Nat.le_refl _) fun _ _=>rfl
section
variable {call:AS} {N:Nat} {h:AA}
theorem Wf (hsn:CK call) {rows:List AB} {E rules:List Int} (hL:PJ rows E rules) {v0 vr v2 v3 v4 vu v6 v7:Value} {e ce:Nat} {ge:Bool} (hone:[v0,vr,v2,v3,v4,vu,v6,v7].all one=true) (hfl:h.floor≤h.next) (hN:rows.length+3<N) (hN2:rules.length+3<N)
  (hsl:∀ (lo hi:Nat) h',(∀ i,i<h.next→h'.get i=h.get i)→h.next≤h'.next→lo≤hi→hi≤rows.length→∃ v',HW Tryz.prog h' 22 vr (some (iv lo)) (some (iv hi)) none=some v'∧AQ h' v' ((rows.drop lo).take (hi-lo)))
  (hul:∀ h',CY Tryz.prog h' 25 vu=some (iv (rules.length:Int))) (hus:∃ a c,vu=.slice a rules.length c)
  (hu:∀ h':AA,(∀ i,i<h.next→h'.get i=h.get i)→∀ (i:Nat) ru,rules[i]?=some ru→∃ id off,CB Tryz.prog 25 vu (iv i)=some (qP id off)∧AH off (h'.get id)=some (iv ru))
  (he:h.get e=.row (ints E) 3 ge false) (hel:e<h.next)
  (h88:∀ pb eb sb (row:Nat) sums h',K5 h' pb eb sb rows E sums→sums.length=rules.length→JU sums→h'.floor≤h'.next→row<rows.length→call 115 [iv row,qP pb 0,qP eb 0,qP sb 0] h'=some (iv (FY rows E sums row),h')) :
  ∃ h',AY Tryz.prog call N 76 [.agg #[v0,vr,v2,v3,v4,vu,v6,v7],qS e E.length ce] h=some (.func (.func 115) #[] #[qP h.next 0,qP (h.next+1) 0,qP (h.next+3) 0],h') ∧
   (K5 h' h.next (h.next+1) (h.next+3) rows E (I7 rows E rules)∧h.next≤h'.next∧h'.floor=h.floor∧∀ i,i<h.next→h'.get i=h.get i):=by
 refine DW (R:=fun h'=>K5 h' h.next (h.next+1) (h.next+3) rows E (I7 rows E rules)∧h.next≤h'.next∧h'.floor=h.floor∧∀ i,i<h.next→h'.get i=h.get i) Tryz.func76 rfl (by simp[Tryz.f76]) ?_
 have hr:Tryz.f76.results.toList=[.tmp 4]:=rfl
 have hlen:=hL.len
 have hnr:=hL.nrules
 obtain⟨ua,uc,rfl⟩:=hus
 have hcs:∀ a n c,(Value.slice a n c).cells.toList=[.slice a n c]:=fun _ _ _=>rfl
 have hos:∀ a n c,([.slice a n c]:List Value).all one=true:=fun _ _ _=>rfl
 have hca:=DV [v0,vr,v2,v3,v4,.slice ua rules.length uc,v6,v7]
 have z28:DX Tryz.prog 25=some (Z0):=by kernel_rfl
 have fz:flat (Z0)=true:=rfl
 have hmk:=fun hh=>R9 (h:=hh) (show rules.length<1099511627776 by omega)
 have ld5:∀ {a b c d e' f:Value} {l:List Value} {ty:TypeId} {g ro:Bool},AH 5 (.row (a :: b :: c :: d :: e' :: f :: l) ty g ro)=some f:=rfl
 have hst:∀ hh:AA,hh.get (h.next+3)=.row [Z0] 25 false false→hh.floor≤h.next+3→∀ a n c,BB Tryz.prog hh 25 (qP (h.next+3) 0) (.slice a n c)=some (hh.put (h.next+3) (.row [.slice a n c] 25 false false)):=fun hh hg hf a n c=>GM K8 rfl rfl hg (by decide) hf
 generalize hA:BF.row [v0,vr,v2,v3,v4,.slice ua rules.length uc,v6,v7] 27 false false=A at *
 generalize hB:BF.row [qS e E.length ce] 25 false false=B at *
 have hst0:=hst ((((h.push A).push B).push (.row (ints (List.replicate rules.length 0)) 3 false false)).push (.row [Z0] 25 false false)) BX (by show h.floor≤h.next+3;omega) (some ⟨h.next+2,0,none⟩) rules.length rules.length
 have a5:AH 5 A=some (.slice ua rules.length uc):=by rw[← hA];rfl
 have hX:∀ C D o,let H:=((((h.push A).push B).push C).push D).put (h.next+3) o
   H.get h.next=A∧H.get (h.next+1)=B∧H.get (h.next+2)=C∧H.get (h.next+3)=o∧H.next=h.next+4∧H.floor=h.floor∧∀ i,i<h.next→H.get i=h.get i:=fun C D o=>by
  have q1:(h.push A).next=h.next+1:=rfl
  have q2:((h.push A).push B).next=h.next+2:=rfl
  have q3:(((h.push A).push B).push C).next=h.next+3:=rfl
  have q4:((((h.push A).push B).push C).push D).next=h.next+4:=rfl
  refine⟨?_,?_,?_,BL rfl (by omega),rfl,rfl,fun i hi=>?_⟩
  ·rw[AR (by omega) (by omega),AU (by omega),AU (by omega),AU (by omega),BX]
  ·rw[AR (by omega) (by omega),AU (by omega),AU (by omega)]
   exact BX (h:=h.push A)
  ·rw[AR (by omega) (by omega),AU (by omega)]
   exact BX (h:=(h.push A).push B)
  ·rw[AR (by omega) (by omega),AU (by omega),AU (by omega),AU (by omega),AU hi]
 have gA2:((h.push A).push B).get h.next=A:=by
  rw[AU (by show h.next<h.next+1;omega),BX]
 obtain⟨x0,x1,x2,x3,x4,x5,x6⟩:=hX (.row (ints (List.replicate rules.length 0)) 3 false false) (.row [Z0] 25 false false) (.row [qS (h.next+2) rules.length rules.length] 25 false false)
 simp only[eE,seval,↓eP,hca,hone,hcs,hos,FM,K8,hA,hB,EQ,Nat.add_assoc,Nat.reduceAdd,Nat.zero_add,H9,C3,gA2,a5,hul,hmk,z28,fz,hst0,List.map_toArray,x0]
 generalize hH:((((h.push A).push B).push (.row (ints (List.replicate rules.length 0)) 3 false false)).push (.row [Z0] 25 false false)).put (h.next+3) (.row [qS (h.next+2) rules.length rules.length] 25 false false)=H at *
 have mkC:∀ (H':AA) sums,H'.get h.next=A→H'.get (h.next+1)=B→H'.get (h.next+3)=.row [qS (h.next+2) rules.length rules.length] 25 false false→H'.get (h.next+2)=.row (ints sums) 3 false false→sums.length=rules.length→H'.next=h.next+4→(∀ i,i<h.next→H'.get i=h.get i)→K5 H' h.next (h.next+1) (h.next+3) rows E sums:=fun H' sums g0 g1 g3 g2 hl hn ho=>
  { p:=⟨_,_,_,_,_,_,_,_,_,g0.trans hA.symm,fun lo hi h2 a b=>hsl lo hi h2 (fun i hi=>by rw[a i (by omega),ho i hi]) (by omega)⟩
    e:=⟨e,E.length,ce,_,_,g1.trans hB.symm,by rw[ho e hel];exact he,rfl,by omega⟩
    s:=⟨h.next+2,rules.length,rules.length,_,_,g3,g2,hl.symm,by omega⟩
    lp:=by omega
    le:=by omega
    ls:=by omega }
 refine WK.loop (fun i s=>s.T.get 5=qP (h.next+3) 0∧s.T.get 6=.func (.func 115) #[] #[qP h.next 0,qP (h.next+1) 0,qP (h.next+3) 0]∧s.T.get 15=.slice ua rules.length uc∧s.T.get 16=iv (rules.length:Int)∧s.T.get 17=iv i∧i≤rules.length ∧
  s.h.get h.next=A∧s.h.get (h.next+1)=B∧s.h.get (h.next+3)=.row [qS (h.next+2) rules.length rules.length] 25 false false∧s.h.next=h.next+4∧s.h.floor=h.floor∧(∀ i,i<h.next→s.h.get i=h.get i) ∧
  ∃ sums,s.h.get (h.next+2)=.row (ints sums) 3 false false∧sums.length=rules.length∧JU sums∧QN rows E (rules.drop i) i sums=I7 rows E rules) rules.length (by omega) ?_ ?_
 ·simp only[eE,↓reduceIte,Nat.reduceEqDiff,reduceCtorEq,↓eP,rP,Nat.reduceAdd,Nat.reduceLT]
  exact⟨rfl,x0,x1,x3,x4,x5,x6,_,x2,by rw[List.length_replicate],vV _,rfl⟩
 ·rintro i ⟨T1,H1⟩ hi ⟨t5,t6,t15,t16,t17,hil,y0,y1,y3,y4,y5,y6,sums,y2,ysl,yS,yF⟩
  simp only at t5 t6 t15 t16 t17 y0 y1 y2 y3 y4 y5 y6
  have hC:=mkC H1 sums y0 y1 y3 y2 ysl y4 y6
  by_cases hlt:i<rules.length
  ·have c1:decide ((i:Int)<(rules.length:Int))=true:=by simp;omega
   obtain⟨ru,hru⟩:∃ ru,rules[i]?=some ru:=⟨_,List.getElem?_eq_getElem hlt⟩
   obtain⟨id,off,ix,lx⟩:=hu H1 y6 i ru hru
   have hrr:=hL.rl ru (List.mem_of_getElem? hru)
   obtain⟨row,hrow⟩:∃ row:Nat,ru=(row:Int):=⟨ru.toNat,by omega⟩
   subst hrow
   have hcall:=h88 h.next (h.next+1) (h.next+3) row sums (H1.fl (max H1.floor H1.next)) (hC.flr _) ysl yS (by show max H1.floor H1.next≤H1.next;omega) (by omega)
   have hd3:decide (h.next+3<H1.next)=true:=by simp;omega
   have w1:=DF i (by omega)
   have hcA:=R_ (rows:=rows) (E:=E) yS row
   have hst:=KZ (x:=FY rows E sums row) y2 (by omega:i<sums.length) (by omega)
   simp only[eE,seval,↓eP,t15,t16,t17,c1,ix,AL,lx]
   show WK _ _ _ (.region _ _ true) _ _
   refine WK.flags (fs:=iZ) (by kernel_rfl) ?_
   unfold iZ
   iterate 7
    refine DI hsn ?_
    simp only[rG,seval,AD,AF,AE,CT,DC,CM,C4,DJ,t5,C3,y3,KD,hd3,t6,hcall,EG hlt,hst]
   refine DH ?_
   have hn2:h.next+2<H1.next:=by omega
   simp only[eE,seval,↓eP,t5,t6,t15,t16,t17,w1]
   refine⟨hlt,by omega,?_,?_,?_,y4,y5,fun j hj=>?_,_,BL rfl hn2,by rw[List.length_set];exact ysl,xN yS _ hcA,?_⟩
   ·rw[AR hn2 (by omega)];exact y0
   ·rw[AR hn2 (by omega)];exact y1
   ·rw[AR hn2 (by omega)];exact y3
   ·rw[AR hn2 (by omega)];exact y6 j hj
   ·rw[← yF,List.drop_eq_getElem_cons hlt]
    have:rules[i]=(row:Int):=(List.getElem?_eq_some_iff.1 hru).2
    rw[this]
    rfl
  ·have c1:decide ((i:Int)<(rules.length:Int))=false:=by simp;omega
   have hF:sums=I7 rows E rules:=by
    rw[← yF,List.drop_of_length_le (by omega)]
    rfl
   rw[← hF]
   simp only[eE,seval,↓eP,hr,t16,t17,t6,c1]
   exact⟨hC,by omega,y5,y6⟩
end
def OT (rows:List AB) (E sums:List Int):List AB→Nat→Int→Int
 | [],_,_=>-1
 | x :: l,at_,n=>if E8 x.kind=false then OT rows E sums l (at_+1) n
  else if F6 n (FY rows E sums (at_+1))>16384 then at_ else OT rows E sums l (at_+1) (F6 n (FY rows E sums (at_+1)))
def JG (rows:List AB) (E rules:List Int):Int:=OT rows E (I7 rows E rules) rows 0 0
section
variable {call:AS} {N:Nat} {h:AA} {lo m k c e r n:Nat} {nm:ByteArray} {E:List Int} {tag:Nat→Nat} {vq vv vt vu vo:Value} {es:List (Value × Value)} {s:AM}
theorem Ga (hp:B7 h lo m k c e r n nm E tag vq vv vt vu vo es s) (hL:PJ s.rows E s.rules) (hfl:h.floor≤h.next) (hN:s.rows.length+3<N) {ev_:Value} (hkinds:∀ x∈s.rows,1≤x.kind∧x.kind≤54)
  (hevs:∀ i x,s.rows[i]?=some x→E8 x.kind=true→i+1<s.rows.length) {pb eb sb:Nat}
  (h72:∃ h',call 76 [.agg #[.string nm,qS r n AO,vq,vv,vt,vu,vo,iv s.miss],ev_] h=some (.func (.func 115) #[] #[qP pb 0,qP eb 0,qP sb 0],h') ∧
   (K5 h' pb eb sb s.rows E (I7 s.rows E s.rules)∧h.next≤h'.next∧h'.floor=h.floor∧∀ i,i<h.next→h'.get i=h.get i))
  (h82:∀ k h',1≤k∧k≤54→call 75 [iv k] h'=some (.bool (E8 k),h')) (h83:∀ a b h',0≤b∧b≤4611686018427387904→0≤a∧a≤4611686018427387904→call 77 [iv a,iv b] h'=some (iv (F6 a b),h'))
  (h88:∀ (row:Nat) h',K5 h' pb eb sb s.rows E (I7 s.rows E s.rules)→h'.floor≤h'.next→row<s.rows.length→call 115 [iv row,qP pb 0,qP eb 0,qP sb 0] h'=some (iv (FY s.rows E (I7 s.rows E s.rules) row),h')) :
  ∃ h',AY Tryz.prog call N 55 [qP m 0,ev_] h=some (iv (JG s.rows E s.rules),h')∧∀ i,i<h.next→h'.get i=h.get i:=by
 refine DW (R:=fun h'=>∀ i,i<h.next→h'.get i=h.get i) Tryz.func55 rfl (by simp[Tryz.f55]) ?_
 have hr:Tryz.f55.results.toList=[.tmp 4]:=rfl
 obtain⟨h1,hcl,hC,hn1,hf1,ho1⟩:=h72
 have hlen:=hL.len
 have hsl:=hp.pol.len
 have hmn:=hp.lm.2
 have l8:A_ 8 0 (h.get m)=some (.agg #[.string nm,qS r n AO,vq,vv,vt,vu,vo,iv s.miss]):=by rw[hp.cell];rfl
 have c1:AH 1 (h1.get m)=some (qS r n AO):=by rw[ho1 m hmn];exact hp.c1
 have hv1:AQ h1 (qS r n AO) s.rows:=hp.pol.at.mono hn1 ho1
 have hll:=fun h'=>hv1.len (h':=h')
 have hS:=(Z1 (rows:=s.rows) (E:=E) (rules:=s.rules)).1
 simp only[eE,↓reduceIte,Nat.reduceEqDiff,reduceCtorEq,↓eP,Nat.reduceAdd,Nat.zero_add,J0,BN,DT,l8,hcl,BO,c1,hll]
 generalize hsum:I7 s.rows E s.rules=sums at *
 refine WK.loop (fun i s'=>s'.T.get 5=.func (.func 115) #[] #[qP pb 0,qP eb 0,qP sb 0]∧s'.T.get 19=qS r n AO∧s'.T.get 20=iv (s.rows.length:Int)∧s'.T.get 21=iv i∧i≤s.rows.length∧s'.h.floor=h1.floor∧h1.next≤s'.h.next∧(∀ i,i<h1.next→s'.h.get i=h1.get i) ∧
  ∃ a:Int,s'.T.get 6=iv a∧0≤a∧a≤4611686018427387904∧OT s.rows E sums (s.rows.drop i) i a=JG s.rows E s.rules) s.rows.length (by omega) ?_ ?_
 ·simp only[eE,↓reduceIte,Nat.reduceEqDiff,reduceCtorEq,↓eP,rP,Nat.reduceAdd,Nat.reduceLT]
  refine⟨by omega,by omega,fun _ _=>trivial,by omega,by omega,?_⟩
  unfold JG
  rw[hsum]
  rfl
 ·rintro i ⟨T1,H1⟩ hi ⟨t5,t19,t20,t21,hil,hf2,hn2,ho2,a,t6,ha0,haB,hcn⟩
  simp only at t5 t19 t20 t21 hf2 hn2 ho2 t6
  by_cases hlt:i<s.rows.length
  ·have c1:decide ((i:Int)<(s.rows.length:Int))=true:=by simp;omega
   obtain⟨x,hx⟩:∃ x,s.rows[i]?=some x:=⟨_,List.getElem?_eq_getElem hlt⟩
   have hv3:AQ H1 (qS r n AO) s.rows:=hv1.mono hn2 ho2
   obtain⟨id,p,e0,hid,l0,l1,l2,l3,l4,lr⟩:=hv3.row hx
   have hkx:=hkinds x (List.mem_of_getElem? hx)
   have hev:=fun h'=>h82 x.kind h' hkx
   have hflo:H1.floor≤H1.next:=by omega
   have hz:flat (.agg #[.int .i64 0,.string ByteArray.empty,.int .i64 0,.int .i64 0,.int .i64 0])=true:=rfl
   have hzc:=DV DS
   have hone:([.int .i64 x.kind,.string x.name,.int .i64 x.ends,.int .i64 x.n,.int .i64 x.kids]:List Value).all one=true:=rfl
   have hst:BB Tryz.prog (H1.push (.row DS 60 false false)) 60 (qP H1.next 0) (.agg #[.int .i64 x.kind,.string x.name,.int .i64 x.ends,.int .i64 x.n,.int .i64 x.kids])=some ((H1.push (.row DS 60 false false)).put H1.next (.row [.int .i64 x.kind,.string x.name,.int .i64 x.ends,.int .i64 x.n,.int .i64 x.kids] 60 false false)):=by
    rw[CW,BX,TY,if_pos ⟨hflo,hone⟩]
   have hgd:((H1.push (.row DS 60 false false)).put H1.next (.row [.int .i64 x.kind,.string x.name,.int .i64 x.ends,.int .i64 x.n,.int .i64 x.kids] 60 false false)).get H1.next=.row [.int .i64 x.kind,.string x.name,.int .i64 x.ends,.int .i64 x.n,.int .i64 x.kids] 60 false false:=BL rfl (by show H1.next<H1.next+1;omega)
   have hgo:∀ i,i<h1.next→((H1.push (.row DS 60 false false)).put H1.next (.row [.int .i64 x.kind,.string x.name,.int .i64 x.ends,.int .i64 x.n,.int .i64 x.kids] 60 false false)).get i=h1.get i:=fun i hi=>by rw[AR (by show H1.next<H1.next+1;omega) (by omega),AU (by omega)];exact ho2 i hi
   have hnx:((H1.push (.row DS 60 false false)).put H1.next (.row [.int .i64 x.kind,.string x.name,.int .i64 x.ends,.int .i64 x.n,.int .i64 x.kids] 60 false false)).next=H1.next+1:=rfl
   have hfl2:((H1.push (.row DS 60 false false)).put H1.next (.row [.int .i64 x.kind,.string x.name,.int .i64 x.ends,.int .i64 x.n,.int .i64 x.kids] 60 false false)).floor=H1.floor:=rfl
   generalize (H1.push (.row DS 60 false false)).put H1.next (.row [.int .i64 x.kind,.string x.name,.int .i64 x.ends,.int .i64 x.n,.int .i64 x.kids] 60 false false)=H2 at *
   have w1:=DF i (by omega)
   have hdr:s.rows.drop i=x :: s.rows.drop (i+1):=by
    obtain⟨hl,rfl⟩:=List.getElem?_eq_some_iff.1 hx
    exact List.drop_eq_getElem_cons hl
   rw[hdr] at hcn
   change (if E8 x.kind=false then OT s.rows E sums (s.rows.drop (i+1)) (i+1) a else if F6 a (FY s.rows E sums (i+1))>16384 then (i:Int) else OT s.rows E sums (s.rows.drop (i+1)) (i+1) (F6 a (FY s.rows E sums (i+1))))=_ at hcn
   cases dv:E8 x.kind with
   | false=>
    rw[if_pos dv] at hcn
    simp only[eE,seval,↓eP,t5,t6,t19,t20,t21,c1,e0,FQ,lr,E1,hz,hzc,hst,BC,AL,hgd,KD,hev,dv,w1]
    exact⟨by omega,by omega,by rw[hfl2];exact hf2,by omega,hgo,ha0,haB,hcn⟩
   | true=>
    rw[if_neg (by rw[dv];simp)] at hcn
    have hi1:=hevs i x hx dv
    have hC2:K5 H2 pb eb sb s.rows E sums:=hC.mono (by omega) hgo
    have hcall:=h88 (i+1) H2 hC2 (by omega) hi1
    have hcA:=R_ (rows:=s.rows) (E:=E) hS (i+1)
    have hpl:=h83 a _ H2 hcA ⟨ha0,haB⟩
    have hpn:=QT ha0 hcA.1 hcA.2
    cases dg:decide (F6 a (FY s.rows E sums (i+1))>16384) with
    | true=>
     rw[if_pos (by simpa using dg)] at hcn
     rw[← hcn]
     simp only[eE,seval,↓eP,hr,t5,t6,t19,t20,t21,c1,e0,FQ,lr,E1,hz,hzc,hst,BC,AL,hgd,KD,hev,dv,w1,hcall,hpl,dg]
     exact fun j hj=>by rw[hgo j (by omega)];exact ho1 j hj
    | false=>
     rw[if_neg (by simpa using dg)] at hcn
     simp only[eE,seval,↓eP,t5,t6,t19,t20,t21,c1,e0,FQ,lr,E1,hz,hzc,hst,BC,AL,hgd,KD,hev,dv,w1,hcall,hpl,dg]
     exact⟨by omega,by omega,by rw[hfl2];exact hf2,by omega,hgo,hpn.1,hpn.2,hcn⟩
  ·have c1:decide ((i:Int)<(s.rows.length:Int))=false:=by simp;omega
   have hn:JG s.rows E s.rules=-1:=by
    rw[← hcn,List.drop_of_length_le (by omega)]
    rfl
   rw[hn]
   simp only[eE,seval,↓eP,hr,t20,t21,c1]
   exact fun j hj=>by rw[ho2 j (by omega)];exact ho1 j hj
end
def CD (l:List AB):AM:=⟨l,[],[],[],[],[],-1,[]⟩
def F3 (E:List Int) (at_:Nat) (s:AM):Int × AM:=
 match s.rows[at_]? with
 | none=>(0,s)
 | some x=>
  if EH x s≠0 then (EH x s,s) else
  match (BR at_ ((E[at_]?).getD 0) x s).rows[at_]? with
  | none=>(0,s)
  | some x1=>
   if DB at_ x1 (BR at_ ((E[at_]?).getD 0) x s)≠0 then (DB at_ x1 (BR at_ ((E[at_]?).getD 0) x s),s) else
   match (CF at_ x1 (BR at_ ((E[at_]?).getD 0) x s)).rows[at_]? with
   | none=>(0,s)
   | some x2=>if DQ x2 (CF at_ x1 (BR at_ ((E[at_]?).getD 0) x s))≠0 then (DQ x2 (CF at_ x1 (BR at_ ((E[at_]?).getD 0) x s)),s)
    else (0,D3 at_ x2 (CF at_ x1 (BR at_ ((E[at_]?).getD 0) x s)))
def DG (E:List Int):Nat→Nat→AM→Int × Nat × AM
 | 0,at_,s=>(0,at_,s)
 | r+1,at_,s=>if (F3 E at_ s).1≠0 then ((F3 E at_ s).1,at_,s) else DG E r (at_+1) (F3 E at_ s).2
noncomputable def CV (l:List AB):(Int × Int) × AM:=
 if (BQ l).1≠0 then (BQ l,CD l) else
 let g:=DG (AX l) l.length 0 (CD l)
 if g.1≠0 then ((g.1,(g.2.1:Int)),CD l) else
 let b:=JG g.2.2.rows (AX l) g.2.2.rules
 if b≥0 then ((34,b),CD l) else ((0,0),g.2.2)
theorem EK.fit {l:List AB} {at_ q:Nat} (h:EK l at_ q):∃ x,l[at_]?=some x∧DR AZ x=true:=by
 rcases h with⟨m,what,h⟩ | ⟨rfl,m,h⟩
 ·cases m with
  | zero=>cases h
  | succ m=>
   cases hx:l[at_]? with
   | none=>rw[jM hx] at h;cases h
   | some x=>
    rw[YA hx] at h
    split at h
    ·rename_i hc
     simp only[Bool.and_eq_true] at hc
     exact⟨x,rfl,hc.2⟩
    ·cases h
 ·cases hx:l[0]? with
  | none=>rw[bB hx] at h;cases h
  | some x=>
   rw[XB hx] at h
   split at h
   ·rename_i hc
    simp only[Bool.and_eq_true] at hc
    exact⟨x,rfl,hc.2⟩
   ·cases h
theorem CU.row {l:List AB} (h:CU l) {i:Nat} {x:AB} (hx:l[i]?=some x):DR AZ x=true∧(1≤x.kind∧x.kind≤54)∧FT x.kind≤x.kids∧i+1+x.kids.toNat≤AC l i∧AC l i≤l.length:=by
 have hi:=(List.getElem?_eq_some_iff.1 hx).1
 have hs:=h.end hi
 obtain⟨y,hy,h1⟩:=hs.fit
 obtain⟨z,hz,h2,h3,h4⟩:=hs.kids
 rw[hx] at hy hz
 cases hy
 cases hz
 refine⟨h1,h3,?_,HJ _ _ _ h4,hs.lt.2⟩
 unfold DR at h1
 simp only[Bool.and_eq_true,decide_eq_true_eq] at h1
 omega
theorem qI {k:Int} (h:E8 k=true) (h10:k≠10):EC k=1∧BZ k=0:=by
 unfold E8 at h
 simp only[Bool.and_eq_true,decide_eq_true_eq] at h
 obtain rfl | rfl:k=8∨k=9:=by omega
 ·exact⟨rfl,rfl⟩
 ·exact⟨rfl,rfl⟩
theorem O2 {l:List AB} {k i:Nat} {n:Int} (h:i≠k):(G8 l k n)[i]?=l[i]?:=by
 unfold G8
 split
 ·rw[List.getElem?_set_ne (Ne.symm h)]
 ·rfl
structure HR (l:List AB) (at_:Nat) (s:AM):Prop where
 wf:LC s
 len:s.rows.length=l.length
 same:∀ (i:Nat) (x:AB),s.rows[i]?=some x→∃ y:AB,l[i]?=some y∧x={ y with n:=x.n }
 later:∀ i:Nat,at_≤i→s.rows[i]?=l[i]?
 rl:∀ ru∈s.rules,0≤ru∧ru<l.length
 calls:∀ (i:Nat) (x:AB),i<at_→s.rows[i]?=some x→x.kind=22→0≤x.n∧x.n<s.rules.length
theorem VQ (l:List AB):HR l 0 (CD l) where
 wf:=⟨by simp[CD],by simp[CD],by simp[CD],by simp[CD],rfl,fun t ht=>by simp[CD] at ht⟩
 len:=rfl
 same:=fun i x hx=>⟨x,hx,rfl⟩
 later:=fun _ _=>rfl
 rl:=fun ru h=>by simp[CD] at h
 calls:=fun i x h=>by omega
theorem rE {at_:Nat} {end_:Int} {x:AB} {s:AM}:(BR at_ end_ x s).rows=if BZ x.kind=0 then s.rows else G8 s.rows at_ (BI s (BZ x.kind)):=by
 unfold BR
 split <;> rfl
theorem jN {l:List G9} {x:ByteArray} {t:G9} (h:GK l x=some t):t∈l:=List.mem_of_find?_eq_some h
theorem Qc {l:List AB} {E:List Int} {at_:Nat} {s:AM} {x:AB} (ht:CU l) (hE:0≤(E[at_]?).getD 0) (hi:HR l at_ s) (hx:s.rows[at_]?=some x) (hd:EH x s=0) :
  LC (BR at_ ((E[at_]?).getD 0) x s)∧(BR at_ ((E[at_]?).getD 0) x s).rows.length=l.length∧(∃ n,(BR at_ ((E[at_]?).getD 0) x s).rows[at_]?=some { x with n:=n })∧(∀ i,i≠at_→(BR at_ ((E[at_]?).getD 0) x s).rows[i]?=s.rows[i]?) ∧
  (∀ ru∈(BR at_ ((E[at_]?).getD 0) x s).rules,0≤ru∧ru<l.length)∧s.rules.length≤(BR at_ ((E[at_]?).getD 0) x s).rules.length:=by
 have hxl:l[at_]?=some x:=by rw[← hi.later at_ (Nat.le_refl _)];exact hx
 unfold BR
 unfold EH at hd
 by_cases d0:BZ x.kind=0
 ·rw[if_pos d0]
  exact⟨hi.wf,hi.len,⟨x.n,hx⟩,fun _ _=>rfl,hi.rl,Nat.le_refl _⟩
 ·rw [if_neg d0] at hd ⊢
  have hne:(BI s (BZ x.kind):Int)≠HK (BZ x.kind):=fun h=>by
   split at hd
   ·cases hd
   ·omega
  refine⟨cZ hi.wf d0 hne hE,?_,⟨_,LU hx⟩,fun i hne=>O2 hne,fun ru hru=>?_,?_⟩
  ·exact UE.trans hi.len
  ·simp only[FK] at hru
   split at hru
   ·rename_i h4
    simp only[List.mem_append,List.mem_cons,List.not_mem_nil,or_false] at hru
    rcases hru with h | rfl
    ·exact hi.rl ru h
    ·have:=ht.row hxl
     have h7:x.kind=7:=by
      revert h4
      unfold BZ
      (repeat' split) <;> simp_all
     have hl7:FT x.kind=0∨0<FT x.kind:=by have:=R5 x.kind;omega
     have h1:FT x.kind=1:=by rw[h7];rfl
     omega
   ·exact hi.rl ru hru
  ·simp only[FK]
   split
   ·simp
   ·exact Nat.le_refl _
theorem U5 {l:List AB} {E:List Int} {at_:Nat} {s:AM} (ht:CU l) (hE:0≤(E[at_]?).getD 0) (hat:at_<l.length) (hi:HR l at_ s) (h0:(F3 E at_ s).1=0):HR l (at_+1) (F3 E at_ s).2:=by
 obtain⟨x,hx⟩:∃ x,s.rows[at_]?=some x:=⟨_,List.getElem?_eq_getElem (by rw[hi.len];exact hat)⟩
 have hxl:l[at_]?=some x:=by rw[← hi.later at_ (Nat.le_refl _)];exact hx
 unfold F3 at h0 ⊢
 rw[hx] at h0 ⊢
 simp only at h0 ⊢
 by_cases hd:EH x s=0
 case neg=>rw[if_pos hd] at h0;exact absurd h0 hd
 rw[if_neg (by simpa using hd)] at h0 ⊢
 obtain⟨w1,n1,⟨k1,r1⟩,o1,u1,c1⟩:=Qc ht hE hi hx hd
 generalize BR at_ ((E[at_]?).getD 0) x s=s1 at *
 rw[r1] at h0 ⊢
 simp only at h0 ⊢
 by_cases hc:DB at_ { x with n:=k1 } s1=0
 case neg=>rw[if_pos hc] at h0;exact absurd h0 hc
 rw[if_neg (by simpa using hc)] at h0 ⊢
 have hcall:LC (CF at_ { x with n:=k1 } s1)∧(CF at_ { x with n:=k1 } s1).rows.length=l.length∧(∃ n,(CF at_ { x with n:=k1 } s1).rows[at_]?=some { x with n:=n }∧(x.kind=22→0≤n∧n<s1.rules.length)∧(EC x.kind=1→0≤n∧n<s1.on.length)) ∧
   (∀ i,i≠at_→(CF at_ { x with n:=k1 } s1).rows[i]?=s1.rows[i]?)∧(CF at_ { x with n:=k1 } s1).rules=s1.rules∧(CF at_ { x with n:=k1 } s1).on=s1.on:=by
  unfold CF
  unfold DB at hc
  by_cases d0:EC x.kind=0
  ·rw[if_pos d0]
   refine⟨w1,n1,⟨k1,r1,fun h=>?_,fun h=>by omega⟩,fun _ _=>rfl,rfl,rfl⟩
   rw[h] at d0
   cases d0
  ·rw [if_neg d0] at hc ⊢
   cases hf:GK s1.things x.name with
   | none=>simp only[hf] at hc;cases hc
   | some t=>
    simp only[hf] at hc ⊢
    have htm:=w1.th t (jN hf)
    have hk:t.kind=EC x.kind:=by
     split at hc
     ·cases hc
     ·split at hc
      ·cases hc
      ·rename_i h;simpa using h
    refine⟨⟨w1.q,w1.v,w1.t,w1.u,w1.o,w1.th⟩,UE.trans n1,⟨t.num,(LU r1).trans rfl,fun h=>?_,fun h=>?_⟩,fun i hne=>O2 hne,trivial,trivial⟩
    ·have h4:t.kind=4:=by rw[hk,h];rfl
     rw[h4] at htm
     exact⟨htm.2.2.1,htm.2.2.2.1⟩
    ·rw[hk,h] at htm
     rw[w1.o]
     exact⟨htm.2.2.1,htm.2.2.2.1⟩
 obtain⟨w2,n2,⟨k2,r2,q2,e2⟩,o2,u2,v2⟩:=hcall
 generalize CF at_ { x with n:=k1 } s1=s2 at *
 rw[r2] at h0 ⊢
 simp only at h0 ⊢
 by_cases hv:DQ { x with n:=k2 } s2=0
 case neg=>rw[if_pos hv] at h0;exact absurd h0 hv
 rw[if_neg (by simpa using hv)] at h0 ⊢
 have hev:LC (D3 at_ { x with n:=k2 } s2)∧(D3 at_ { x with n:=k2 } s2).rows=s2.rows∧(D3 at_ { x with n:=k2 } s2).rules=s2.rules:=by
  unfold D3
  split
  ·exact⟨w2,rfl,rfl⟩
  ·split
   ·exact⟨⟨w2.q,w2.v,w2.t,w2.u,w2.o,w2.th⟩,rfl,rfl⟩
   ·exact⟨⟨w2.q,w2.v,w2.t,w2.u,by simp only[List.length_set];exact w2.o,w2.th⟩,rfl,rfl⟩
 obtain⟨w3,r3,u3⟩:=hev
 refine⟨w3,by rw[r3];exact n2,fun i y hy=>?_,fun i hi'=>?_,by rw[u3,u2];exact u1,fun i y hi' hy h22=>?_⟩
 ·rw[r3] at hy
  by_cases hia:i=at_
  ·subst hia
   rw[r2] at hy
   cases hy
   exact⟨x,hxl,rfl⟩
  ·rw[o2 i hia,o1 i hia] at hy
   exact hi.same i y hy
 ·rw[r3,o2 i (by omega),o1 i (by omega)]
  exact hi.later i (by omega)
 ·rw[r3] at hy
  rw[u3,u2]
  by_cases hia:i=at_
  ·subst hia
   rw[r2] at hy
   cases hy
   exact q2 h22
  ·rw[o2 i hia,o1 i hia] at hy
   have:=hi.calls i y (by omega) hy h22
   omega
theorem wB {l:List AB} {E:List Int} (ht:CU l) (hE:∀ i:Nat,0≤(E[i]?).getD 0):∀ r at_ s,at_+r=l.length→HR l at_ s→(DG E r at_ s).1=0→HR l l.length (DG E r at_ s).2.2
 | 0,at_,s,hr,hi,_=>by
  have:at_=l.length:=by omega
  subst this
  exact hi
 | r+1,at_,s,hr,hi,h0=>by
  unfold DG at h0 ⊢
  by_cases h:(F3 E at_ s).1=0
  ·rw[if_neg (by simpa using h)] at h0 ⊢
   exact wB ht hE r (at_+1) _ (by omega) (U5 ht (hE at_) (by omega) hi h) h0
  ·rw[if_pos h] at h0
   exact absurd h0 h
theorem VC {l:List AB} (i:Nat):0≤((AX l)[i]?).getD 0:=by
 by_cases hi:i<l.length
 ·rw[N_ hi]
  simp
 ·rw[List.getElem?_eq_none (by rw[PR];omega)]
  simp
theorem oT {l:List AB} {s:AM} (ht:CU l) (hlen:l.length<1099511627) (hi:HR l l.length s):PJ s.rows (AX l) s.rules where
 len:=by rw[hi.len];exact hlen
 e:=by rw[PR,hi.len]
 ends:=fun i h=>by
  rw[hi.len] at h
  have:=(ht.end h).lt
  exact⟨AC l i,N_ h,by omega,by rw[hi.len];omega⟩
 rl:=fun ru h=>by rw[hi.len];exact hi.rl ru h
 nrules:=by have:=hi.wf.u;omega
 calls:=fun x hx h22=>by
  obtain⟨i,hil,rfl⟩:=List.getElem_of_mem hx
  exact hi.calls i _ (by rw[← hi.len];exact hil) (List.getElem?_eq_getElem hil) h22
theorem VV {l:List AB} {at_:Nat} {s:AM} (ht:CU l) (hi:HR l at_ s):∀ x∈s.rows,1≤x.kind∧x.kind≤54:=fun x hx=>by
 obtain⟨i,hil,rfl⟩:=List.getElem_of_mem hx
 obtain⟨y,hy,he⟩:=hi.same i _ (List.getElem?_eq_getElem hil)
 rw[he]
 exact(ht.row hy).2.1
theorem xJ {l:List AB} {at_:Nat} {s:AM} (ht:CU l) (hi:HR l at_ s):∀ i x,s.rows[i]?=some x→E8 x.kind=true→i+1<s.rows.length:=fun i x hx hev=>by
 obtain⟨y,hy,he⟩:=hi.same i _ hx
 have h1:=ht.row hy
 rw[he] at hev
 have hk:FT y.kind=1:=by
  unfold E8 at hev
  simp only[Bool.and_eq_true,decide_eq_true_eq] at hev
  obtain h | h | h:y.kind=8∨y.kind=9∨y.kind=10:=by omega
  all_goals (rw[h];rfl)
 rw[hi.len]
 omega
theorem UU (l:List AB):(l.flatMap AV).all one=true:=by
 rw[List.all_eq_true]
 intro v hv
 rw[List.mem_flatMap] at hv
 obtain⟨r,_,hv⟩:=hv
 simp only[AV,List.mem_cons,List.not_mem_nil,or_false] at hv
 rcases hv with rfl | rfl | rfl | rfl | rfl <;> rfl
theorem Gh {α:Type} (l:List α) (a b:Nat):l.take (a+b)=l.take a++(l.drop a).take b:=List.take_add
theorem bU:∀ (l:List AB) (cs:List Value) (off:Nat),(∀ k r,l[k]?=some r→(cs.drop (off+k*5)).take 5=AV r)→(cs.drop off).take (l.length*5)=l.flatMap AV
 | [],cs,off,_=>by simp
 | r :: l,cs,off,h=>by
  have h0:=h 0 r rfl
  rw[Nat.zero_mul,Nat.add_zero] at h0
  have ih:=bU l cs (off+5) fun k r' hk=>by
   have:=h (k+1) r' hk
   rw[← this]
   congr 2
   omega
  rw[List.length_cons,show (l.length+1)*5=5+l.length*5 by omega,Gh,h0,List.drop_drop,ih,List.flatMap_cons]
theorem AQ.src {h:AA} {v:Value} {l:List AB} (hv:AQ h v l):EU h 5 l.length v=some (l.flatMap AV):=by
 obtain⟨a,c,rfl,⟨rfl,rfl⟩ | ⟨id,off,cs,ty,g,ro,rfl,hg,hid,hc⟩⟩:=hv
 ·rfl
 ·have:=bU l cs off hc
  have hl:=J7 l
  simp only[EU,hg,GS,this,hl,if_true]
  by_cases h0:l.length=0
  ·rw[if_pos h0,List.length_eq_zero_iff.1 h0]
   rfl
  ·rw[if_neg h0]
section
variable {call:AS} {N:Nat} {h:AA}
theorem uL {l:List AB} {v:Value} (hv:AQ h v l) (hne:0<l.length) (hlen:l.length<1099511627):∃ h',AY Tryz.prog call N 49 [v] h=some (qS (h.next+1) l.length AO,h')∧(h'.get (h.next+1)=.row (l.flatMap AV) 60 true false∧h'.next=h.next+2∧h'.floor=h.floor∧∀ i,i<h.next→h'.get i=h.get i):=by
 refine DW (R:=fun h'=>h'.get (h.next+1)=.row (l.flatMap AV) 60 true false∧h'.next=h.next+2∧h'.floor=h.floor∧∀ i,i<h.next→h'.get i=h.get i) Tryz.func49 rfl (by simp[Tryz.f49]) ?_
 have hr:Tryz.f49.results.toList=[.tmp 2]:=rfl
 have hsrc:=(hv.mono (h':=h.push (.row [] 60 false false)) (by show h.next≤h.next+1;omega) fun i hi=>AU hi).src
 obtain⟨a,c,rfl,h1⟩:=hv
 obtain⟨id,off,rfl⟩:∃ id off,a=some ⟨id,off,none⟩:=by
  rcases h1 with⟨h1,_⟩ | ⟨id,off,_,_,_,_,h2,_⟩
  ·rw[h1] at hne;exact absurd hne (by simp)
  ·exact⟨id,off,h2⟩
 have hb:CP Tryz.prog .eql 22 (.tmp 3) (.const (Z0)) (.slice (some ⟨id,off,none⟩) l.length c) (Z0)=some (.bool false):=by
  have hf:flat (.slice (some ⟨id,off,none⟩) l.length c)=false:=rfl
  simp only[CP,hf,Bool.false_and,Bool.false_eq_true,if_false,Tryz.underlying22]
 have hbs:GD Tryz.prog h 22 0 []=some (qS h.next 0 0,h.push (.row [] 60 false false)):=by
  simp[GD,Tryz.underlying22,FN,E1,flat,BS,FI,JX,B0]
 have hzs:(Value.agg #[.int .i64 0,.string ByteArray.empty,.int .i64 0,.int .i64 0,.int .i64 0]).cells.size=5:=rfl
 have hap:D9 Tryz.prog (h.push (.row [] 60 false false)) 22 (qS h.next 0 0) (.slice (some ⟨id,off,none⟩) l.length c)=some (qS (h.next+1) l.length AO,(h.push (.row [] 60 false false)).push (.row (l.flatMap AV) 60 true false)):=by
  have hu:(0:Nat)≠AO:=by unfold AO;omega
  have e1:¬ (l.length≤0):=by omega
  have e2:l.length*48≤140737488355328:=by omega
  have e3:l.length≤140737488355328:=by omega
  have h0:EU (h.push (.row [] 60 false false)) 5 0 (qS h.next 0 0)=some []:=by simp[EU]
  simp only[D9,Tryz.underlying22,FN,TE,E1,hzs,hsrc,UU,hu,h0,e1,e2,e3,decide_true,beq_self_eq_true,Bool.and_self,if_true,if_false,Nat.le_refl,Nat.zero_add,Nat.zero_mul,Nat.zero_le,List.nil_append,show (0<5)=True by simp,EQ]
 simp only[eE,seval,↓eP,hr,hb,hbs,hap]
 refine⟨?_,rfl,rfl,fun i hi=>?_⟩
 ·exact BX (h:=h.push (.row [] 60 false false))
 ·rw[AU (by show i<h.next+1;omega),AU hi]
def bT:List (Bool × Bool × List Operand):=[A7,AI [.tmp 1],AI [.tmp 1],AI [.tmp 1,.tmp 2],AI [.tmp 1],AI [.tmp 1],AP,AP]
theorem Ty (hsn:CK call) {at_ m e c5 c6 n ce:Nat} {E:List Int} {y v:Int} {g5 g6 ge:Bool} {R:AA→Prop} (h5:h.get c5=.row [qP m 0] 86 g5 false) (h6:h.get c6=.row [qS e n ce] 25 g6 false) (he:h.get e=.row (ints E) 3 ge false) (hy:E[at_]?=some y) (hn:n=E.length)
  (hc:∃ h',call 52 [qP m 0,iv at_,iv y] h=some (iv v,h')∧(h'.floor=h.floor∧R h')):∃ h',AY Tryz.prog call N 51 [iv at_,qP c5 0,qP c6 0] h=some (iv v,h')∧R h':=by
 refine DW (R:=R) Tryz.func51 rfl (by simp[Tryz.f51]) ?_
 have hr:Tryz.f51.results.toList=[.tmp 4]:=rfl
 obtain⟨h',hc,hf,hR⟩:=hc
 have hat:at_<n:=by rw[hn];exact(List.getElem?_eq_some_iff.1 hy).1
 have hfx:h'.fl h.floor=h':=by rw[← hf];exact HX h'
 have lE:=IF (ty:=3) (g:=ge) (ro:=false) hy
 simp only[eE,seval,↓eP]
 show WK _ _ _ (.region _ _ true) _ _
 refine WK.flags (fs:=bT) (by kernel_rfl) ?_
 unfold bT
 iterate 8
  refine DI hsn ?_
  simp only[rG,seval,AD,AF,AE,CT,DC,CM,C4,DJ,VF,h5,KD,C3,h6,EG hat,AL,he,lE,hc,hfx]
 refine DH ?_
 simp only[eE,seval,↓eP,hr]
 exact hR
end
theorem Jx:BM Tryz.prog 120=some 15:=by kernel_rfl
theorem Ul:BM Tryz.prog 118=some 5:=by kernel_rfl
theorem wD:BM Tryz.prog 117=some 1:=by kernel_rfl
theorem jG:BM Tryz.prog 135=some 4:=by kernel_rfl
theorem Nt:FW Tryz.prog 117=some false:=by kernel_rfl
theorem Mj:HC Tryz.prog 135=some 40:=by kernel_rfl
theorem cI:DX Tryz.prog 135=some (.agg #[.string ByteArray.empty,iv 0,iv 0,iv 0]):=by kernel_rfl
theorem Wj:IC Tryz.prog (match Tryz.prog.underlying 135 with | some (.struct fs)=>fs.toList | _=>[])=some [(0,1),(1,1),(2,1),(3,1)]:=by kernel_rfl
abbrev uJ (nm:ByteArray) (a b c:Int):Value:=.agg #[.string nm,iv a,iv b,iv c]
theorem Ns {nm:ByteArray} {a b c:Int}:DM Tryz.prog 135 [(0,.string nm),(1,iv a),(2,iv b),(3,iv c)]=some (uJ nm a b c):=by
 have h:=Wj
 rw[Tryz.underlying135] at h
 simp only at h
 have hf:flat (.agg #[.string ByteArray.empty,iv 0,iv 0,iv 0])=true:=rfl
 simp only[DM,cI,hf,if_true,Tryz.underlying135,h]
 rfl
section
variable {h:AA} {id off:Nat}
theorem Xk {nm:ByteArray} {a b c:Int}:GD Tryz.prog h 117 1 [(0,uJ nm a b c)]=some (qS h.next 1 1,h.push (.row [.string nm,iv a,iv b,iv c] 135 false false)):=by
 simp[GD,Tryz.underlying117,jG,cI,flat,BS,FI,JX,B0,Go.Sx.lay]
theorem PQ:EW Tryz.prog h 117 (qP id off)=AH off (h.get id):=LT Nt
theorem IG:BE Tryz.prog 120 (qP id off) 0=some (qP id off):=by simp[BE,Tryz.underlying120,FM,CN]
theorem cO:BE Tryz.prog 120 (qP id off) 1=some (qP id (off+8)):=by simp[BE,Tryz.underlying120,K8,CN]
theorem P7:BE Tryz.prog 120 (qP id off) 2=some (qP id (off+9)):=by simp[BE,Tryz.underlying120,wD,CN]
theorem xE:BE Tryz.prog 120 (qP id off) 3=some (qP id (off+10)):=by simp[BE,Tryz.underlying120,Ul,CN]
theorem vC:BE Tryz.prog 135 (qP id off) 0=some (qP id off):=by simp[BE,Tryz.underlying135,KH,CN]
theorem uM:BE Tryz.prog 135 (qP id off) 1=some (qP id (off+1)):=by simp[BE,Tryz.underlying135,C7,CN]
theorem Gv:BE Tryz.prog 135 (qP id off) 2=some (qP id (off+2)):=by simp[BE,Tryz.underlying135,C7,CN]
theorem i_:BE Tryz.prog 135 (qP id off) 3=some (qP id (off+3)):=by simp[BE,Tryz.underlying135,C7,CN]
theorem Kz {i:Nat} (hi:i<5):CB Tryz.prog 118 (qP id off) (iv (i:Int))=some (qP id (off+i)):=by
 simp only[CB,Tryz.underlying118,C7,CN]
 rw[if_pos (by omega)]
 simp
theorem VK {n c i:Nat} (hi:i<n):CB Tryz.prog 117 (qS id n c) (iv (i:Int))=some (.pointer (some ⟨id,i*4,none⟩)):=by
 simp only[CB,Tryz.underlying117,jG,CN]
 rw[if_pos (by omega)]
 simp
theorem Z8 {a:Option Addr} {n c:Nat}:CY Tryz.prog h 117 (.slice a n c)=some (iv (n:Int)):=by simp[CY,Tryz.underlying117]
end
def RQ (t:G9):List Value:=[.string t.name,iv t.kind,iv t.num,iv t.known]
def N7 (l:List G9):List Value:=l.flatMap RQ
theorem xM:∀ l,(N7 l).length=l.length*4
 | []=>rfl
 | t :: l=>by
  have:=xM l
  simp only[N7,RQ,List.flatMap_cons,List.length_append,List.length_cons,List.length_nil] at *
  omega
theorem oO:∀ l,(N7 l).all one=true
 | []=>rfl
 | t :: l=>by
  have:=oO l
  simp only[N7,List.flatMap_cons,List.all_append] at *
  rw[this]
  rfl
theorem VL:∀ {l:List G9} {k:Nat} {t:G9} (ex:List Value),l[k]?=some t→∀ j,j<4→(N7 l++ex)[k*4+j]?=(RQ t)[j]?
 | [],k,t,ex,h,j,hj=>by simp at h
 | a :: l,0,t,ex,h,j,hj=>by
  simp only[List.getElem?_cons_zero,Option.some.injEq] at h
  subst h
  rw[N7,List.flatMap_cons,List.append_assoc,Nat.zero_mul,Nat.zero_add,List.getElem?_append_left (by simp only[RQ,List.length_cons,List.length_nil];omega)]
 | a :: l,k+1,t,ex,h,j,hj=>by
  have ih:=VL (l:=l) (k:=k) (t:=t) ex (by simpa using h) j hj
  rw[N7,List.flatMap_cons,List.append_assoc,List.getElem?_append_right (by simp only[RQ,List.length_cons,List.length_nil];omega),← ih]
  congr 1
  simp only[RQ,List.length_cons,List.length_nil]
  omega
def FB (s:AM):Nat→Nat
 | 2=>s.queues.length
 | 3=>s.vars.length
 | 4=>s.tags.length
 | 5=>s.rules.length
 | 6=>s.on.length
 | 8=>s.things.length
 | _=>0
def Fsx (s:AM):Nat→List Value
 | 2=>DE s.queues
 | 3=>CJ s.vars
 | 4=>CJ s.tags
 | 5=>ints s.rules
 | 6=>ints s.on
 | 8=>N7 s.things
 | _=>[]
def N4:Nat→TypeId
 | 2=>75
 | 3=>9
 | 4=>9
 | 5=>3
 | 6=>3
 | 8=>135
 | _=>3
def EM (V:Nat→Value) (j:Nat) (v:Value):Nat→Value:=fun i=>if i=j then v else V i
def GN (nm:ByteArray) (r n:Nat) (V:Nat→Value) (miss:Int) (e ne:Nat) (C:List Int):List Value:=
 [.string nm,qS r n AO,V 2,V 3,V 4,V 5,V 6,iv miss,qS e ne ne,V 8]++ints C
structure CQ (h:AA) (lo m e r n:Nat) (nm:ByteArray) (E:List Int) (tag:Nat→Nat) (V:Nat→Value) (C:List Int) (s:AM):Prop where
 cell:h.get m=.row (GN nm r n V s.miss e E.length C) 120 false false
 rows:h.get r=.row (s.rows.flatMap AV) 60 true false
 len:s.rows.length=n
 sl:∀ j,2≤j→j≤8→E2 h lo tag j (V j) (FB s j) (Fsx s j) (N4 j)
 ends:h.get e=.row (ints E) 3 false false
 tm:tag m=0
 tr:tag r=1
 te:tag e=10
 lm:lo≤m∧m<h.next
 lr:lo≤r∧r<h.next
 le:lo≤e∧e<h.next
 fl:h.floor≤lo
section
variable {h h':AA} {lo m e r n:Nat} {nm:ByteArray} {E:List Int} {tag tag':Nat→Nat} {V:Nat→Value} {C:List Int} {s s':AM}
theorem CQ.mono (hp:CQ h lo m e r n nm E tag V C s) (hn:h.next≤h'.next) (hf:h'.floor=h.floor) (hg:∀ i,lo≤i→i<h.next→h'.get i=h.get i):CQ h' lo m e r n nm E tag V C s where
 cell:=by rw[hg m hp.lm.1 hp.lm.2];exact hp.cell
 rows:=by rw[hg r hp.lr.1 hp.lr.2];exact hp.rows
 len:=hp.len
 sl:=fun j h1 h2=>(hp.sl j h1 h2).mono hn (fun _ _=>rfl) fun i h3 h4 _=>hg i h3 h4
 ends:=by rw[hg e hp.le.1 hp.le.2];exact hp.ends
 tm:=hp.tm
 tr:=hp.tr
 te:=hp.te
 lm:=⟨hp.lm.1,by have:=hp.lm.2;omega⟩
 lr:=⟨hp.lr.1,by have:=hp.lr.2;omega⟩
 le:=⟨hp.le.1,by have:=hp.le.2;omega⟩
 fl:=by rw[hf];exact hp.fl
theorem CQ.retag (hp:CQ h lo m e r n nm E tag V C s) (ht:∀ i,i<h.next→tag' i=tag i):CQ h lo m e r n nm E tag' V C s:=
 ⟨hp.cell,hp.rows,hp.len,fun j h1 h2=>(hp.sl j h1 h2).mono (Nat.le_refl _) ht fun _ _ _ _=>rfl,hp.ends,(ht m hp.lm.2).trans hp.tm,(ht r hp.lr.2).trans hp.tr,(ht e hp.le.2).trans hp.te,hp.lm,hp.lr,hp.le,hp.fl⟩
theorem CQ.push (hp:CQ h lo m e r n nm E tag V C s) (o:BF):CQ (h.push o) lo m e r n nm E tag V C s:=hp.mono (by show h.next≤h.next+1;omega) rfl fun i _ hi=>AU hi
theorem CQ.putNew (hp:CQ h lo m e r n nm E tag V C s) {o o':BF}:CQ ((h.push o').put h.next o) lo m e r n nm E tag V C s:=
 hp.mono (by show h.next≤h.next+1;omega) rfl fun i _ hi=>by rw[AR (by show h.next<h.next+1;omega) (by omega),AU hi]
theorem CQ.cellW (hp:CQ h lo m e r n nm E tag V C s) {C':List Int} {miss':Int}:CQ (h.put m (.row (GN nm r n V miss' e E.length C') 120 false false)) lo m e r n nm E tag V C' { s with miss:=miss' } where
 cell:=BL rfl hp.lm.2
 rows:=by rw[AR hp.lm.2 (GH (tag:=tag) (by rw[hp.tm,hp.tr];decide))];exact hp.rows
 len:=hp.len
 sl:=fun j h1 h2=>(hp.sl j h1 h2).mono (Nat.le_refl _) (fun _ _=>rfl) fun i _ _ h3=>AR hp.lm.2 (GH (tag:=tag) (by rw[hp.tm];omega))
 ends:=by rw[AR hp.lm.2 (GH (tag:=tag) (by rw[hp.tm,hp.te];decide))];exact hp.ends
 tm:=hp.tm
 tr:=hp.tr
 te:=hp.te
 lm:=hp.lm
 lr:=hp.lr
 le:=hp.le
 fl:=hp.fl
theorem CQ.rowsW (hp:CQ h lo m e r n nm E tag V C s) {l:List AB} (hl:l.length=s.rows.length):CQ (h.put r (.row (l.flatMap AV) 60 true false)) lo m e r n nm E tag V C { s with rows:=l } where
 cell:=by rw[AR hp.lr.2 (GH (tag:=tag) (by rw[hp.tm,hp.tr];decide))];exact hp.cell
 rows:=BL rfl hp.lr.2
 len:=hl.trans hp.len
 sl:=fun j h1 h2=>(hp.sl j h1 h2).mono (Nat.le_refl _) (fun _ _=>rfl) fun i _ _ h3=>AR hp.lr.2 (GH (tag:=tag) (by rw[hp.tr];omega))
 ends:=by rw[AR hp.lr.2 (GH (tag:=tag) (by rw[hp.tr,hp.te];decide))];exact hp.ends
 tm:=hp.tm
 tr:=hp.tr
 te:=hp.te
 lm:=hp.lm
 lr:=hp.lr
 le:=hp.le
 fl:=hp.fl
theorem CQ.row (hp:CQ h lo m e r n nm E tag V C s) {at_:Nat} {x:AB} (hx:s.rows[at_]?=some x):at_<n∧AH (at_*5) (h.get r)=some (iv x.kind)∧AH (at_*5+1) (h.get r)=some (.string x.name)∧AH (at_*5+3) (h.get r)=some (iv x.n) ∧
  A_ 5 (at_*5) (h.get r)=some (.agg #[iv x.kind,.string x.name,iv x.ends,iv x.n,iv x.kids]):=by
 have hl:at_<n:=by rw[← hp.len];exact(List.getElem?_eq_some_iff.1 hx).1
 have hat:=cQ (c:=AO) hp.rows hp.lr.2
 rw[hp.len] at hat
 obtain⟨id,q,e0,hid,l0,l1,l2,l3,l4,lr⟩:=hat.row hx
 rw[KK hl] at e0
 simp only[Option.some.injEq,Value.pointer.injEq,Addr.mk.injEq,and_true] at e0
 obtain⟨rfl,rfl⟩:=e0
 exact⟨hl,l0,l1,l3,lr⟩
theorem CQ.grow (hp:CQ h lo m e r n nm E tag V C s) {j:Nat} (h2:2≤j) (h8:j≤8) {t:TypeId} {w bb:Nat} {z:Value} (hu:Tryz.prog.underlying t=some (.slice (N4 j))) (hsz:BM Tryz.prog (N4 j)=some w) (hby:HC Tryz.prog (N4 j)=some bb) (hzo:DX Tryz.prog (N4 j)=some z) (hz:z.cells.size=w) (hw:0<w) (hbb:bb≤1024)
  {xs:List Value} (hcl:(Fsx s j).length=FB s j*w) (hco:(Fsx s j).all one=true) (hxl:xs.length=w) (hxo:xs.all one=true) (hnb:FB s j<10000000) :
  ∃ v' h1,D9 Tryz.prog (h.push (.row xs (N4 j) false false)) t (V j) (qS h.next 1 1)=some (v',h1)∧one v'=true∧v'.cells=#[v']∧h1.get m=h.get m∧h1.floor=h.floor∧h1.next=h.next+2∧(∀ i,i<h.next→i<lo∨tag i=11→h1.get i=h.get i) ∧
   ∀ s',s'.rows=s.rows→s'.miss=s.miss→FB s' j=FB s j+1→Fsx s' j=Fsx s j++xs→(∀ i,i≠j→FB s' i=FB s i∧Fsx s' i=Fsx s i) →
    CQ (h1.put m (.row (GN nm r n (EM V j v') s.miss e E.length C) 120 false false)) lo m e r n nm E (fun i=>if i=h.next+1 then j else tag i) (EM V j v') C s':=by
 have hpp:E2 (h.push (.row xs (N4 j) false false)) lo (fun i=>if i=h.next then 11 else tag i) j (V j) (FB s j) (Fsx s j) (N4 j):=(hp.sl j h2 h8).mono (by show h.next≤h.next+1;omega) (fun i hi=>if_neg (by omega)) fun i _ hi _=>AU hi
 have hlm:=hp.lm
 obtain⟨v',h1,a1,a2,a3,a4,a5,a6,a7⟩:=QI (et:=N4 j) (w:=w) (c:=1) (sc:=1) (xs:=xs) hu hsz hby hzo hz hw hbb hpp hcl hco (by rw[Nat.one_mul];exact hxl) hxo (by decide) (by decide) hnb (src:=h.next) BX (by show h.next<h.next+1;omega) hp.fl (by simp;omega)
 have hnx:h1.next=h.next+2:=a4
 have hold:∀ i,i<h.next→¬ (lo≤i∧tag i=j)→h1.get i=h.get i:=fun i hi hne=>by
  rw[a7 i (by show i<h.next+1;omega) (by rw[if_neg (by omega)];exact hne),AU hi]
 have hm1:m<h1.next:=by omega
 have hgm:h1.get m=h.get m:=hold m hlm.2 (by rw[hp.tm];omega)
 have hSl:E2 h1 lo (fun i=>if i=h.next+1 then j else tag i) j v' (FB s j+1) (Fsx s j++xs) (N4 j):=by
  rcases a2 with a2 | a2
  ·refine a2.mono' fun i hi=>?_
   show (if i=h.next+1 then j else tag i)=(if i=h.next+1 then j else if i=h.next then 11 else tag i)∨(if i=h.next+1 then j else if i=h.next then 11 else tag i)≠j
   by_cases e1:i=h.next+1
   ·left;rw[if_pos e1,if_pos e1]
   ·rw[if_neg e1,if_neg e1]
    by_cases e2:i=h.next
    ·right;rw[if_pos e2];omega
    ·left;rw[if_neg e2]
  ·exact absurd (show lo≤h.next+1 by omega) a2
 refine⟨v',h1,a1,a5,a6,hgm,a3,hnx,fun i hi hlo=>hold i hi (by omega),fun s' q1 q2 q3 q4 q5=>?_⟩
 have hpn:∀ i,i≠m→(h1.put m (.row (GN nm r n (EM V j v') s.miss e E.length C) 120 false false)).get i=h1.get i:=fun i hi=>AR hm1 (Ne.symm hi)
 have tne:∀ i,tag i≠0→i≠m:=fun i hi hh=>hi (by rw[hh];exact hp.tm)
 exact
  { cell:=by rw[q2];exact BL rfl hm1
    rows:=by rw[hpn r (tne r (by rw[hp.tr];decide)),hold r hp.lr.2 (by rw[hp.tr];omega),q1];exact hp.rows
    len:=by rw[q1];exact hp.len
    sl:=fun i i2 i8=>by
     by_cases hij:i=j
     ·subst hij
      rw[q3,q4,show EM V i v' i=v' from if_pos rfl]
      refine hSl.mono (Nat.le_refl _) (fun _ _=>rfl) fun k k1 k2 k3=>hpn k ?_
      intro hk
      rw[hk] at k3
      rw[if_neg (by omega),hp.tm] at k3
      omega
     ·obtain⟨q6,q7⟩:=q5 i hij
      rw[q6,q7,show EM V j v' i=V i from if_neg hij]
      refine(hp.sl i i2 i8).mono (by show h.next≤h1.next;omega) (fun k hk=>if_neg (by omega)) fun k k1 k2 k3=>?_
      rw[hpn k (tne k (by omega)),hold k k2 (by omega)]
    ends:=by rw[hpn e (tne e (by rw[hp.te];decide)),hold e hp.le.2 (by rw[hp.te];omega)];exact hp.ends
    tm:=(if_neg (by omega)).trans hp.tm
    tr:=(if_neg (by have:=hp.lr;omega)).trans hp.tr
    te:=(if_neg (by have:=hp.le;omega)).trans hp.te
    lm:=⟨hlm.1,hm1⟩
    lr:=⟨hp.lr.1,by have:=hp.lr.2;show r<h1.next;omega⟩
    le:=⟨hp.le.1,by have:=hp.le.2;show e<h1.next;omega⟩
    fl:=by show h1.floor≤lo;have:h1.floor=h.floor:=a3;have:=hp.fl;omega }
theorem CQ.slotW (hp:CQ h lo m e r n nm E tag V C s) {j:Nat} (h2:2≤j) (h8:j≤8) {id:Nat} {ex:List Value} (hV:V j=qS id (FB s j) AO) (ht:tag id=j) (hl:lo≤id∧id<h.next) (q1:s'.rows=s.rows) (q2:s'.miss=s.miss) (q3:FB s' j=FB s j)
  (q5:∀ i,i≠j→FB s' i=FB s i∧Fsx s' i=Fsx s i):CQ (h.put id (.row (Fsx s' j++ex) (N4 j) true false)) lo m e r n nm E tag V C s' where
 cell:=by rw[AR hl.2 (fun hh=>by subst hh;have:=hp.tm;omega),q2];exact hp.cell
 rows:=by rw[AR hl.2 (fun hh=>by subst hh;have:=hp.tr;omega),q1];exact hp.rows
 len:=by rw[q1];exact hp.len
 sl:=fun i i2 i8=>by
  by_cases hij:i=j
  ·subst hij
   rw[q3]
   exact .inr ⟨id,ex,hV,BL rfl hl.2,hl.1,hl.2,ht⟩
  ·obtain⟨q6,q7⟩:=q5 i hij
   rw[q6,q7]
   exact(hp.sl i i2 i8).mono (Nat.le_refl _) (fun _ _=>rfl) fun k _ _ k3=>AR hl.2 (fun hh=>by subst hh;omega)
 ends:=by rw[AR hl.2 (fun hh=>by subst hh;have:=hp.te;omega)];exact hp.ends
 tm:=hp.tm
 tr:=hp.tr
 te:=hp.te
 lm:=hp.lm
 lr:=hp.lr
 le:=hp.le
 fl:=hp.fl
theorem CQ.c0 (hp:CQ h lo m e r n nm E tag V C s):AH 0 (h.get m)=some (.string nm):=by rw[hp.cell];rfl
theorem CQ.c1 (hp:CQ h lo m e r n nm E tag V C s):AH 1 (h.get m)=some (qS r n AO):=by rw[hp.cell];rfl
theorem CQ.c2 (hp:CQ h lo m e r n nm E tag V C s):AH 2 (h.get m)=some (V 2):=by rw[hp.cell];rfl
theorem CQ.c3 (hp:CQ h lo m e r n nm E tag V C s):AH 3 (h.get m)=some (V 3):=by rw[hp.cell];rfl
theorem CQ.c4 (hp:CQ h lo m e r n nm E tag V C s):AH 4 (h.get m)=some (V 4):=by rw[hp.cell];rfl
theorem CQ.c5 (hp:CQ h lo m e r n nm E tag V C s):AH 5 (h.get m)=some (V 5):=by rw[hp.cell];rfl
theorem CQ.c6 (hp:CQ h lo m e r n nm E tag V C s):AH 6 (h.get m)=some (V 6):=by rw[hp.cell];rfl
theorem CQ.c7 (hp:CQ h lo m e r n nm E tag V C s):AH 7 (h.get m)=some (iv s.miss):=by rw[hp.cell];rfl
theorem CQ.c8 (hp:CQ h lo m e r n nm E tag V C s):AH 8 (h.get m)=some (qS e E.length E.length):=by rw[hp.cell];rfl
theorem CQ.c9 (hp:CQ h lo m e r n nm E tag V C s):AH 9 (h.get m)=some (V 8):=by rw[hp.cell];rfl
theorem CQ.cC (hp:CQ h lo m e r n nm E tag V C s) {i:Nat} {x:Int} (hi:C[i]?=some x):AH (10+i) (h.get m)=some (iv x):=by
 rw[hp.cell]
 have:∀ (a:List Value),a.length=10→(a++ints C)[10+i]?=some (iv x):=fun a ha=>by
  rw[List.getElem?_append_right (by omega),ha,show 10+i-10=i by omega,YH,hi]
  rfl
 exact this _ rfl
theorem CQ.stV (hp:CQ h lo m e r n nm E tag V C s) {h1:AA} (hg:h1.get m=h.get m) (hf:h1.floor=h.floor) {t:TypeId} (ht:BM Tryz.prog t=some 1) {j p:Nat} (hj:(j=p∧2≤p∧p≤6)∨(j=8∧p=9)) {v:Value} (hv:v.cells=#[v]) (ho:one v=true) :
  BB Tryz.prog h1 t (qP m p) v=some (h1.put m (.row (GN nm r n (EM V j v) s.miss e E.length C) 120 false false)):=by
 have hl:(GN nm r n V s.miss e E.length C).length=10+C.length:=by simp[GN,ints];omega
 have h0:=GM (off:=p) ht hv ho (hg.trans hp.cell) (by rw[hl];omega) (by have:=hp.fl;have:=hp.lm.1;omega)
 rw[h0]
 have key:(GN nm r n V s.miss e E.length C).set p v=GN nm r n (EM V j v) s.miss e E.length C:=by
  rcases hj with⟨rfl,h2,h6⟩ | ⟨rfl,rfl⟩
  ·have:j=2∨j=3∨j=4∨j=5∨j=6:=by omega
   rcases this with rfl | rfl | rfl | rfl | rfl <;> rfl
  ·rfl
 rw[key]
theorem CQ.stC (hp:CQ h lo m e r n nm E tag V C s) {i:Nat} (hi:i<C.length) {x:Int}:BB Tryz.prog h 3 (qP m (10+i)) (iv x)=some (h.put m (.row (GN nm r n V s.miss e E.length (C.set i x)) 120 false false)):=by
 have hl:(GN nm r n V s.miss e E.length C).length=10+C.length:=by simp[GN,ints];omega
 have h0:=GM (off:=10+i) C7 (v:=iv x) rfl rfl hp.cell (by rw[hl];omega) (by have:=hp.fl;have:=hp.lm.1;omega)
 rw[h0]
 have key:∀ a:List Value,a.length=10→(a++ints C).set (10+i) (iv x)=a++ints (C.set i x):=fun a ha=>by
  rw[List.set_append_right _ _ (by omega),ha,show 10+i-10=i by omega,WV]
 rw[GN,key _ rfl]
 rfl
theorem CQ.stM (hp:CQ h lo m e r n nm E tag V C s) {x:Int}:BB Tryz.prog h 3 (qP m 7) (iv x)=some (h.put m (.row (GN nm r n V x e E.length C) 120 false false)):=
 GM (off:=7) C7 (v:=iv x) rfl rfl hp.cell (by simp[GN,ints]) (by have:=hp.fl;have:=hp.lm.1;omega)
end
def MA:List G9→ByteArray→Nat→Int
 | [],_,_=>-1
 | t :: l,x,i=>if x==t.name then (i:Int) else MA l x (i+1)
theorem pA (a b:ByteArray):(a==b)=(b==a):=by
 cases h:(a==b) with
 | true=>have:=LQ h;subst this;exact(LK a).symm
 | false=>
  cases h2:(b==a) with
  | true=>have:=LQ h2;subst this;rw[LK] at h;cases h
  | false=>rfl
theorem eO:∀ (l:List G9) (x:ByteArray) (i:Nat),match GK l x with
  | none=>MA l x i=-1
  | some t=>∃ k:Nat,MA l x i=((i+k:Nat):Int)∧l[k]?=some t
 | [],x,i=>rfl
 | t :: l,x,i=>by
  have ih:=eO l x (i+1)
  simp only[GK,List.find?_cons,MA] at ih ⊢
  cases hb:(x==t.name) with
  | true=>exact⟨0,rfl,rfl⟩
  | false=>
   simp only[Bool.false_eq_true,if_false]
   revert ih
   cases l.find? (fun t=>x==t.name) with
   | none=>exact id
   | some u=>
    rintro ⟨k,h1,h2⟩
    exact⟨k+1,by rw[h1];congr 1;omega,h2⟩
section
variable {call:AS} {N:Nat} {h:AA} {lo m e r n:Nat} {nm:ByteArray} {E:List Int} {tag:Nat→Nat} {V:Nat→Value} {C:List Int} {s:AM}
theorem Kt {x:ByteArray} (hp:CQ h lo m e r n nm E tag V C s) (hN:s.things.length+3<N) (hb:s.things.length<1000000):AY Tryz.prog call N 118 [qP m 0,.string x] h=some (iv (MA s.things x 0),h):=by
 refine CO Tryz.func118 rfl (by simp[Tryz.f118]) ?_
 have hr:Tryz.f118.results.toList=[.tmp 4]:=rfl
 have c9:=hp.c9
 have hsl:=hp.sl 8 (by decide) (by decide)
 have hlen:∀ h',CY Tryz.prog h' 117 (V 8)=some (iv (s.things.length:Int)):=fun h'=>by
  rcases hsl with⟨h1,h2,h3⟩ | ⟨id,ex,h1,_⟩
  ·rw[h3]
   have:s.things.length=0:=h1
   rw[this]
   exact Z8
  ·rw[h1];exact Z8
 simp only[eE,↓reduceIte,Nat.reduceEqDiff,reduceCtorEq,↓eP,rP,Nat.reduceAdd,Nat.reduceLT,hr]
 refine WK.loop (fun i st=>st.h=h∧st.T.get 0=qP m 0∧st.T.get 1=.string x∧st.T.get 5=iv i∧i≤s.things.length∧MA (s.things.drop i) x i=MA s.things x 0) s.things.length (by omega) ?_ ?_
 ·simp only[eE,↓reduceIte,Nat.reduceEqDiff,reduceCtorEq,↓eP,rP,Nat.reduceAdd,Nat.reduceLT]
  exact⟨rfl,rfl⟩
 ·rintro i ⟨T1,h1⟩ hi ⟨rfl,t0,t1,t5,hil,hfx⟩
  simp only at t0 t1 t5
  by_cases hlt:i<s.things.length
  ·have c1:decide ((i:Int)<(s.things.length:Int))=true:=by simp only[decide_eq_true_eq];omega
   have w1:=DF i (by omega)
   obtain⟨t,ht⟩:∃ t,s.things[i]?=some t:=⟨_,List.getElem?_eq_getElem hlt⟩
   have hd:s.things.drop i=t :: s.things.drop (i+1):=by
    obtain⟨h1,h2⟩:=List.getElem?_eq_some_iff.1 ht
    rw[List.drop_eq_getElem_cons h1,h2]
   rw[hd,MA] at hfx
   rcases hsl with⟨h1,_⟩ | ⟨id,ex,hv8,hg,_,_,_⟩
   ·have:s.things.length=0:=h1
    omega
   ·have hg':h1.get id=.row (N7 s.things++ex) 135 true false:=hg
    have hix:=VK (id:=id) (c:=AO) hlt
    have hv8':V 8=qS id s.things.length AO:=hv8
    have l0:AH (i*4) (h1.get id)=some (.string t.name):=by rw[hg'];exact VL (j:=0) ex ht (by decide)
    cases hb:(x==t.name) with
    | true=>
     have hb':(t.name==x)=true:=by rw[pA];exact hb
     rw[hb,if_pos rfl] at hfx
     simp only[eE,seval,↓eP,rP,t0,t1,t5,P7,PQ,c9,hv8',Z8,c1,hix,vC,l0,hb',← hfx]
    | false=>
     have hb':(t.name==x)=false:=by rw[pA];exact hb
     rw[hb] at hfx
     simp only[eE,seval,↓eP,rP,t0,t1,t5,P7,PQ,c9,hv8',Z8,c1,hix,vC,l0,hb',w1]
     exact⟨by omega,by omega,hfx⟩
  ·have c1:decide ((i:Int)<(s.things.length:Int))=false:=by simp only[decide_eq_false_iff_not];omega
   rw[List.drop_of_length_le (by omega)] at hfx
   have hfx':MA s.things x 0=-1:=hfx.symm
   simp only[eE,seval,↓eP,rP,t0,t5,P7,PQ,c9,hlen,c1,hfx']
def J4 (s:AM):List Int:=[0,s.queues.length,s.vars.length,s.tags.length,s.rules.length]
theorem Ww {s:AM} {k:Int} (h1:1≤k) (h4:k≤4):(J4 s)[k.toNat]?=some (BI s k:Int):=by
 obtain rfl | rfl | rfl | rfl:k=1∨k=2∨k=3∨k=4:=by omega
 all_goals rfl
def F_ (h:AA) (lo m e r n:Nat) (nm:ByteArray) (E:List Int) (s:AM):Prop:=∃ tag V,CQ h lo m e r n nm E tag V (J4 s) s∧LC s
def GB (h H:AA) (lo:Nat):Prop:=(∀ i,i<lo→H.get i=h.get i)∧h.next≤H.next∧H.floor=h.floor
noncomputable def Q4:Code:=rt (rt (rt (Tryz.f81.body.getD .skip)))
noncomputable def Q7:Code:=rt (rt Q4)
noncomputable def Q8:Code:=rt Q7
noncomputable def Q9:Code:=rt Q8
noncomputable def iG:Code:=rt Q9
theorem Hz {T:Tr} {H0:AA} {at_:Nat} {x:AB} {K:B_} {kd end_:Int} {b:Nat} (hp:CQ H0 lo m e r n nm E tag V (J4 s) s) (hx:s.rows[at_]?=some x) (h1:1≤kd) (h4:kd≤4) (hw:LC s) (hth:s.things.length<100000) (hE:E[at_]?=some end_)
  (h87:∀ h',call 119 [iv kd] h'=some (iv (HK kd),h'))
  (t0:T.get 0=qP m 0) (t1:T.get 1=iv at_) (t2:T.get 2=iv kd) (t7:T.get 7=qP b 0) (hbx:H0.get b=.row (AV x) 60 false false) (hbl:b<H0.next) (hbt:tag b=11)
  (hk1:∀ T',(BI s kd:Int)=HK kd→T'.get 6=iv 3→K.ap Tryz.prog call N .ret ⟨T',H0⟩)
  (hk2:∀ T' H tag' V',(BI s kd:Int)≠HK kd→(∀ t,t≤8→t≠6→t≠8→T'.get t=T.get t)→CQ H lo m e r n nm E tag' V' ((J4 s).set kd.toNat ((BI s kd:Int)+1)) { s with rows:=G8 s.rows at_ (BI s kd),things:=s.things++[⟨x.name,kd,(BI s kd:Int),end_⟩] } →
   (∀ i,i<H0.next→tag' i=tag i)→(∀ i,i<H0.next→i<lo∨tag i=11→H.get i=H0.get i)→H0.next≤H.next→H.floor=H0.floor→WK Tryz.prog call N iG ⟨T',H⟩ K):WK Tryz.prog call N Q4 ⟨T,H0⟩ K:=by
 show WK _ _ _ (.seq _ (.seq _ (.seq _ (.seq (.region _ _ true) (.seq _ iG))))) _ _
 have cle:=cK hw kd
 obtain⟨kn,hkn,hkn1,hkn4⟩:∃ kn:Nat,kd=(kn:Int)∧1≤kn∧kn≤4:=⟨kd.toNat,by omega,by omega,by omega⟩
 have hcg:=Ww (s:=s) h1 h4
 have hkt:kd.toNat=kn:=by omega
 rw[hkt] at hcg hk2
 have cc:=hp.cC hcg
 have i91:CB Tryz.prog 118 (qP m 10) (iv kd)=some (qP m (10+kn)):=by rw[hkn];exact Kz (by omega)
 have w1:IntKind.i64.wrap ((BI s kd:Int)+1)=(BI s kd:Int)+1:=BT (by omega) (by omega)
 have z10:0+10=10:=rfl
 cases d1:((BI s kd:Int)==HK kd) with
 | true=>
  simp only[eE,seval,↓eP,rP,t0,t2,xE,z10,i91,cc,h87,d1]
  exact hk1 _ (by simpa using d1) (by simp only[Tr.get_put,if_true])
 | false=>
  have sC:=hp.stC (i:=kn) (by simp only[J4,List.length_cons,List.length_nil];omega) (x:=(BI s kd:Int)+1)
  simp only[eE,seval,↓eP,C2,FI,CW,C6,t0,t2,xE,z10,i91,cc,h87,d1,w1,sC]
  have keep1:∀ i,i<H0.next→i<lo∨tag i=11→(H0.put m (.row (GN nm r n V s.miss e E.length ((J4 s).set kn ((BI s kd:Int)+1))) 120 false false)).get i=H0.get i:=fun i _ hi=>by
   have:=hp.lm
   exact AR hp.lm.2 (fun hh=>by subst hh;have:=hp.tm;omega)
  have hp1:=hp.cellW (C':=(J4 s).set kn ((BI s kd:Int)+1)) (miss':=s.miss)
  have hn1:(H0.put m (.row (GN nm r n V s.miss e E.length ((J4 s).set kn ((BI s kd:Int)+1))) 120 false false)).next=H0.next:=rfl
  have hf1:(H0.put m (.row (GN nm r n V s.miss e E.length ((J4 s).set kn ((BI s kd:Int)+1))) 120 false false)).floor=H0.floor:=rfl
  generalize H0.put m (.row (GN nm r n V s.miss e E.length ((J4 s).set kn ((BI s kd:Int)+1))) 120 false false)=H1 at *
  have gb:H1.get b=.row (AV x) 60 false false:=by rw[keep1 b hbl (.inr hbt)];exact hbx
  have c8:=hp1.c8
  have c9:=hp1.c9
  have hEl:at_<E.length:=(List.getElem?_eq_some_iff.1 hE).1
  have lE:AH at_ (H1.get e)=some (iv end_):=by rw[hp1.ends];exact IF hE
  have lb1:AH 1 (H1.get b)=some (.string x.name):=by rw[gb];rfl
  obtain⟨v',H2,a1,a2,a3,a4,a5,a6,a7,a8⟩:=hp1.grow (j:=8) (by decide) (by decide) (t:=117) (w:=4) (bb:=40) Tryz.underlying117 jG Mj cI rfl (by decide) (by decide) (xs:=[.string x.name,iv kd,iv (BI s kd:Int),iv end_]) (xM _) (oO _) rfl rfl (by show s.things.length<10000000;omega)
  have hp2:=a8 { s with things:=s.things++[⟨x.name,kd,(BI s kd:Int),end_⟩] } rfl rfl (by simp[FB]) (by simp[Fsx,N7,RQ]) (fun i hi=>by
   unfold FB Fsx
   split <;> simp_all)
  have a1':D9 Tryz.prog (H1.push (.row [.string x.name,iv kd,iv (BI s kd:Int),iv end_] 135 false false)) 117 (V 8) (qS H1.next 1 1)=some (v',H2):=a1
  have sV:=hp1.stV a4 a5 wD (j:=8) (p:=9) (.inr ⟨rfl,rfl⟩) a3 a2
  refine WK.quiet (by kernel_rfl) ?_
  simp only[eE,seval,↓eP,C2,FI,CW,C6,t0,t1,t2,t7,cO,P7,PQ,C3,c8,c9,lb1,EG hEl,lE,Ns,Xk,a1',sV]
  have hm2:m<H2.next:=by have:=hp.lm;omega
  have keep2:∀ i,i<H0.next→i<lo∨tag i=11→(H2.put m (.row (GN nm r n (EM V 8 v') s.miss e E.length ((J4 s).set kn ((BI s kd:Int)+1))) 120 false false)).get i=H0.get i:=fun i h1 hi=>by
   have:=hp.lm
   rw[AR hm2 (fun hh=>by subst hh;have:=hp.tm;omega),a7 i (by omega) hi,keep1 i h1 hi]
  have hn2:(H2.put m (.row (GN nm r n (EM V 8 v') s.miss e E.length ((J4 s).set kn ((BI s kd:Int)+1))) 120 false false)).next=H0.next+2:=by show H2.next=_;omega
  have hf2:(H2.put m (.row (GN nm r n (EM V 8 v') s.miss e E.length ((J4 s).set kn ((BI s kd:Int)+1))) 120 false false)).floor=H0.floor:=by show H2.floor=_;omega
  have e0:({ s with miss:=s.miss }:AM)=s:=rfl
  generalize H2.put m (.row (GN nm r n (EM V 8 v') s.miss e E.length ((J4 s).set kn ((BI s kd:Int)+1))) 120 false false)=H3 at *
  have b1:=hp2.c1
  have hlt:at_<n:=(hp.row hx).1
  have hst:=GM (off:=at_*5+3) C7 (v:=iv (BI s kd:Int)) rfl rfl hp2.rows (by rw[J7];have:=hp.len;show at_*5+3<s.rows.length*5;omega) (by have:=hp2.fl;have:=hp2.lr.1;omega)
  have hx':({ s with things:=s.things++[⟨x.name,kd,(BI s kd:Int),end_⟩] }:AM).rows[at_]?=some x:=hx
  rw[VN hx'] at hst
  have hp3:=hp2.rowsW (l:=G8 s.rows at_ (BI s kd:Int)) UE
  simp only[eE,seval,↓eP,C2,FI,CW,C6,t1,IG,BN,BO,b1,KK hlt,hst]
  refine hk2 _ _ _ _ (by simpa using d1) (fun t h8 h6 h9=>?_) hp3 (fun i hi=>if_neg (by omega)) (fun i h1 hi=>?_) (by show H0.next≤H3.next;omega) hf2
  ·simp only[Tr.get_put,Option.some.injEq,reduceCtorEq,if_false]
   (repeat rw[if_neg (by omega)])
  ·have:=hp.lr
   rw[AR (by omega) (fun hh=>by subst hh;have:=hp.tr;omega)]
   exact keep2 i h1 hi
theorem Ek {s:AM} {at_:Nat} {x:AB} {kd:Int} (h1:1≤kd) (h4:kd≤4):(J4 s).set kd.toNat ((BI s kd:Int)+1)=J4 (UZ kd at_ x s):=by
 obtain rfl | rfl | rfl | rfl:kd=1∨kd=2∨kd=3∨kd=4:=by omega
 all_goals simp[J4,UZ,BI]
theorem Ba {T:Tr} {H0:AA} {at_:Nat} {x:AB} {K:B_} {kd:Int} {b:Nat} (hp:CQ H0 lo m e r n nm E tag V C s) (h1:1≤kd) (h4:kd≤4) (hn:at_<1099511627776)
  (hb:s.queues.length<1000∧s.vars.length<1000∧s.tags.length<1000∧s.rules.length<1000∧s.on.length<1000)
  (t0:T.get 0=qP m 0) (t1:T.get 1=iv at_) (t2:T.get 2=iv kd) (t7:T.get 7=qP b 0) (hbx:H0.get b=.row (AV x) 60 false false) (hbl:b<H0.next) (hbt:tag b=11)
  (hk:∀ T' H tag' V',T'.get 6=iv 0→CQ H lo m e r n nm E tag' V' C (UZ kd at_ x s)→(∀ i,i<H0.next→i<lo→H.get i=H0.get i)→H0.next≤H.next→H.floor=H0.floor→K.ap Tryz.prog call N .ret ⟨T',H⟩):WK Tryz.prog call N iG ⟨T,H0⟩ K:=by
 show WK _ _ _ (.seq (.seq _ (.block _ _)) (.seq _ _)) _ _
 have lb1:AH 1 (H0.get b)=some (.string x.name):=by rw[hbx];rfl
 have lb0:AH 0 (H0.get b)=some (iv x.kind):=by rw[hbx];rfl
 have hm:=hp.lm
 have w1:IntKind.i64.wrap ((at_:Int)+1)=(at_:Int)+1:=BT (by omega) (by omega)
 have q1:((2:Int)==1)=false:=rfl
 have q2:((3:Int)==1)=false:=rfl
 have q3:((3:Int)==2)=false:=rfl
 have q4:((4:Int)==1)=false:=rfl
 have q5:((4:Int)==2)=false:=rfl
 have q6:((4:Int)==3)=false:=rfl
 have fin:∀ (T':Tr) (h1:AA) tag' V' s',T'.get 6=iv 0→CQ h1 lo m e r n nm E tag' V' C s'→s'=UZ kd at_ x s→(∀ i,i<H0.next→i<lo→h1.get i=H0.get i)→H0.next≤h1.next→h1.floor=H0.floor→K.ap Tryz.prog call N .ret ⟨T',h1⟩:=fun T' h1 tag' V' s' a b c d e f=>hk T' h1 tag' V' a (by rw[← c];exact b) d e f
 obtain rfl | rfl | rfl | rfl:kd=1∨kd=2∨kd=3∨kd=4:=by omega
 ·have cj:=hp.c2
  obtain⟨v',H2,a1,a2,a3,a4,a5,a6,a7,a8⟩:=hp.grow (j:=2) (by decide) (by decide) (t:=23) (w:=2) (bb:=24) Tryz.underlying23 OS iY R0 rfl (by decide) (by decide) (xs:=[.string x.name,.bool (x.kind==3)]) (N6 _) (X8 _) rfl rfl (by show s.queues.length<10000000;omega)
  have hp2:=a8 { s with queues:=s.queues++[(x.name,x.kind==3)] } rfl rfl (by simp[FB]) (by simp[Fsx,DE]) (fun i hi=>by
   unfold FB Fsx
   split <;> simp_all)
  have a1':D9 Tryz.prog (H0.push (.row [.string x.name,.bool (x.kind==3)] 75 false false)) 23 (V 2) (qS H0.next 1 1)=some (v',H2):=a1
  have sV:=hp.stV a4 a5 YX (j:=2) (p:=2) (.inl ⟨rfl,by decide,by decide⟩) a3 a2
  simp only[eE,seval,↓eP,rP,t2]
  refine WK.quiet (by kernel_rfl) ?_
  simp only[eE,seval,↓eP,C2,FI,CW,C6,t0,t7,IG,D2,DZ,cj,lb0,lb1,vA,oV,a1',sV]
  have o2:∀ i,i<H0.next→i<lo→(H2.put m (.row (GN nm r n (EM V 2 v') s.miss e E.length C) 120 false false)).get i=H0.get i:=fun i hi h1=>by rw[AR (by omega) (by omega),a7 i hi (.inl h1)]
  have n2:(H2.put m (.row (GN nm r n (EM V 2 v') s.miss e E.length C) 120 false false)).next=H0.next+2:=a6
  have f2:(H2.put m (.row (GN nm r n (EM V 2 v') s.miss e E.length C) 120 false false)).floor=H0.floor:=a5
  generalize H2.put m (.row (GN nm r n (EM V 2 v') s.miss e E.length C) 120 false false)=H3 at *
  have ck:=hp2.c6
  obtain⟨v2,H4,b1,b2,b3,b4,b5,b6,b7,b8⟩:=hp2.grow (j:=6) (by decide) (by decide) (t:=25) (w:=1) (bb:=8) Tryz.underlying25 C7 LS JK rfl (by decide) (by decide) (xs:=[iv (-1)]) ((F9 _).trans (Nat.mul_one _).symm) (QK _) rfl rfl (by show s.on.length<10000000;omega)
  have hp4:=b8 { s with queues:=s.queues++[(x.name,x.kind==3)],on:=s.on++[-1] } rfl rfl (by simp[FB]) (by simp[Fsx,ints]) (fun i hi=>by
   unfold FB Fsx
   split <;> simp_all)
  have b1':D9 Tryz.prog (H3.push (.row [iv (-1)] 3 false false)) 25 (EM V 2 v' 6) (qS H3.next 1 1)=some (v2,H4):=b1
  have sW:=hp2.stV b4 b5 K8 (j:=6) (p:=6) (.inl ⟨rfl,by decide,by decide⟩) b3 b2
  simp only[eE,seval,↓eP,C2,FI,CW,C6,IG,ID,C3,ck,LI,b1',sW]
  refine fin _ _ _ _ _ (by simp only[Tr.get_put,if_true]) hp4 rfl (fun i hi h1=>?_) (by show H0.next≤H4.next;omega) (by show H4.floor=_;omega)
  rw[AR (by omega) (by omega),b7 i (by omega) (.inl h1),o2 i hi h1]
 ·have cj:=hp.c3
  obtain⟨v',H2,a1,a2,a3,a4,a5,a6,a7,a8⟩:=hp.grow (j:=3) (by decide) (by decide) (t:=24) (w:=1) (bb:=16) Tryz.underlying24 KH UK RE rfl (by decide) (by decide) (xs:=[.string x.name]) ((SG _).trans (Nat.mul_one _).symm) (TV _) rfl rfl (by show s.vars.length<10000000;omega)
  have hp2:=a8 { s with vars:=s.vars++[x.name] } rfl rfl (by simp[FB]) (by simp[Fsx,CJ]) (fun i hi=>by
   unfold FB Fsx
   split <;> simp_all)
  have a1':D9 Tryz.prog (H0.push (.row [.string x.name] 9 false false)) 24 (V 3) (qS H0.next 1 1)=some (v',H2):=a1
  have sV:=hp.stV a4 a5 QH (j:=3) (p:=3) (.inl ⟨rfl,by decide,by decide⟩) a3 a2
  simp only[eE,seval,↓eP,rP,t2,q1]
  refine WK.quiet (by kernel_rfl) ?_
  simp only[eE,seval,↓eP,C2,FI,CW,C6,t0,t7,IG,JM,II,cj,lb1,Z9,a1',sV]
  refine fin _ _ _ _ _ (by simp only[Tr.get_put,if_true]) hp2 rfl (fun i hi h1=>?_) (by show H0.next≤H2.next;omega) a5
  rw[AR (by omega) (by omega),a7 i hi (.inl h1)]
 ·have cj:=hp.c4
  obtain⟨v',H2,a1,a2,a3,a4,a5,a6,a7,a8⟩:=hp.grow (j:=4) (by decide) (by decide) (t:=24) (w:=1) (bb:=16) Tryz.underlying24 KH UK RE rfl (by decide) (by decide) (xs:=[.string x.name]) ((SG _).trans (Nat.mul_one _).symm) (TV _) rfl rfl (by show s.tags.length<10000000;omega)
  have hp2:=a8 { s with tags:=s.tags++[x.name] } rfl rfl (by simp[FB]) (by simp[Fsx,CJ]) (fun i hi=>by
   unfold FB Fsx
   split <;> simp_all)
  have a1':D9 Tryz.prog (H0.push (.row [.string x.name] 9 false false)) 24 (V 4) (qS H0.next 1 1)=some (v',H2):=a1
  have sV:=hp.stV a4 a5 QH (j:=4) (p:=4) (.inl ⟨rfl,by decide,by decide⟩) a3 a2
  simp only[eE,seval,↓eP,rP,t2,q2,q3]
  refine WK.quiet (by kernel_rfl) ?_
  simp only[eE,seval,↓eP,C2,FI,CW,C6,t0,t7,IG,JR,II,cj,lb1,Z9,a1',sV]
  refine fin _ _ _ _ _ (by simp only[Tr.get_put,if_true]) hp2 rfl (fun i hi h1=>?_) (by show H0.next≤H2.next;omega) a5
  rw[AR (by omega) (by omega),a7 i hi (.inl h1)]
 ·have cj:=hp.c5
  obtain⟨v',H2,a1,a2,a3,a4,a5,a6,a7,a8⟩:=hp.grow (j:=5) (by decide) (by decide) (t:=25) (w:=1) (bb:=8) Tryz.underlying25 C7 LS JK rfl (by decide) (by decide) (xs:=[iv ((at_:Int)+1)]) ((F9 _).trans (Nat.mul_one _).symm) (QK _) rfl rfl (by show s.rules.length<10000000;omega)
  have hp2:=a8 { s with rules:=s.rules++[(at_:Int)+1] } rfl rfl (by simp[FB]) (by simp[Fsx,ints]) (fun i hi=>by
   unfold FB Fsx
   split <;> simp_all)
  have a1':D9 Tryz.prog (H0.push (.row [iv ((at_:Int)+1)] 3 false false)) 25 (V 5) (qS H0.next 1 1)=some (v',H2):=a1
  have sV:=hp.stV a4 a5 K8 (j:=5) (p:=5) (.inl ⟨rfl,by decide,by decide⟩) a3 a2
  simp only[eE,seval,↓eP,C2,FI,CW,C6,t0,t1,t2,q4,q5,q6,w1,IG,H9,C3,cj,LI,a1',sV]
  refine fin _ _ _ _ _ (by simp only[Tr.get_put,if_true]) hp2 rfl (fun i hi h1=>?_) (by show H0.next≤H2.next;omega) a5
  rw[AR (by omega) (by omega),a7 i hi (.inl h1)]
end
theorem NH {h:AA} {o o':BF}:((h.push o).push o').get h.next=o:=by rw[AU (by show h.next<h.next+1;omega)];exact BX
theorem NC {h:AA} {o o':BF}:((h.push o).push o').get (h.next+1)=o':=BX (h:=h.push o)
structure gC (l:List AB) (U W:List Int):Prop where
 lu:U.length=l.length
 lw:W.length=l.length
 top:U[0]?=some (-1)
 kid:∀ p k i,IU l p k i→U[i]?=some (p:Int)∧W[i]?=some (k:Int)
section
variable {call:AS} {n:Nat}
theorem Lq {l:List AB} {v:Value} {h:AA} (ht:CU l) (hv:AQ h v l) (hlen:l.length<1099511627776) (hn:l.length+3<n) (hfl:h.floor≤h.next)
  (hE:∀ H,AQ H v l→H.floor≤H.next→∃ h',call 79 [v] H=some (qS H.next l.length l.length,h')∧(h'.get H.next=.row (ints (AX l)) 3 false false∧h'.next=H.next+1∧h'.floor=H.floor∧∀ i,i<H.next→h'.get i=H.get i)) :
  ∃ h',AY Tryz.prog call n 129 [v] h=some (.tuple #[qS h.next l.length l.length,qS (h.next+1) l.length l.length],h') ∧
   (∃ U W,gC l U W∧h'.get h.next=.row (ints U) 3 false false∧h'.get (h.next+1)=.row (ints W) 3 false false∧h'.next=h.next+3∧h'.floor=h.floor∧∀ i,i<h.next→h'.get i=h.get i):=by
 refine DW (R:=fun h'=>∃ U W,gC l U W∧h'.get h.next=.row (ints U) 3 false false∧h'.get (h.next+1)=.row (ints W) 3 false false∧h'.next=h.next+3∧h'.floor=h.floor∧∀ i,i<h.next→h'.get i=h.get i) Tryz.func129 rfl (by simp[Tryz.f129]) ?_
 have hr:Tryz.f129.results.toList=[.tmp 2,.tmp 3]:=rfl
 have hl22:∀ h',CY Tryz.prog h' 22 v=some (.int .i64 l.length):=fun h'=>hv.len
 have hpos:=ht.pos
 have hold2:∀ i,i<h.next→((h.push (.row (ints (List.replicate l.length 0)) 3 false false)).push (.row (ints (List.replicate l.length 0)) 3 false false)).get i=h.get i:=fun i hi=>by rw[AU (by show i<h.next+1;omega),AU hi]
 obtain⟨h3,hE,g1,g2,g3,g4⟩:=hE ((h.push (.row (ints (List.replicate l.length 0)) 3 false false)).push (.row (ints (List.replicate l.length 0)) 3 false false)) (hv.mono (by show h.next≤h.next+1+1;omega) hold2) (by show h.floor≤h.next+1+1;omega)
 have ga:=(g4 h.next (by show h.next<h.next+1+1;omega)).trans NH
 have gb:=(g4 (h.next+1) (by show h.next+1<h.next+1+1;omega)).trans NC
 simp only[EQ,JQ] at hE g1 g2 g3
 have hold3:∀ i,i<h.next→h3.get i=h.get i:=fun i hi=>(g4 i (by show i<h.next+1+1;omega)).trans (hold2 i hi)
 clear g4
 have i0:CB Tryz.prog 25 (qS h.next l.length l.length) (iv 0)=some (qP h.next 0):=EG (i:=0) hpos
 have s0:=KZ (x:=-1) ga (i:=0) (by rw[List.length_replicate];exact hpos) (by rw[g3];exact hfl)
 have c0:decide ((l.length:Int)>0)=true:=by simp only[decide_eq_true_eq];omega
 simp only[eE,seval,↓eP,rP,hr,hl22,R9 hlen,hE,i0,s0,c0]
 have z1:(h3.put h.next (.row (ints ((List.replicate l.length 0).set 0 (-1))) 3 false false)).get h.next=.row (ints ((List.replicate l.length 0).set 0 (-1))) 3 false false:=BL rfl (by omega)
 have z2:=(AR (h:=h3) (i:=h.next) (j:=h.next+1) (o:=.row (ints ((List.replicate l.length 0).set 0 (-1))) 3 false false) (by omega) (by omega)).trans gb
 have z3:=(AR (h:=h3) (i:=h.next) (j:=h.next+1+1) (o:=.row (ints ((List.replicate l.length 0).set 0 (-1))) 3 false false) (by omega) (by omega)).trans g1
 have z4:∀ i,i<h.next→(h3.put h.next (.row (ints ((List.replicate l.length 0).set 0 (-1))) 3 false false)).get i=h.get i:=fun i hi=>by rw[AR (by omega) (by omega)];exact hold3 i hi
 have z5:(h3.put h.next (.row (ints ((List.replicate l.length 0).set 0 (-1))) 3 false false)).next=h.next+3:=by show h3.next=_;omega
 have z6:(h3.put h.next (.row (ints ((List.replicate l.length 0).set 0 (-1))) 3 false false)).floor=h.floor:=g3
 generalize h3.put h.next (.row (ints ((List.replicate l.length 0).set 0 (-1))) 3 false false)=h4 at *
 refine WK.loop (fun j s=>s.T.get 0=v∧s.T.get 4=qS h.next l.length l.length∧s.T.get 5=qS (h.next+1) l.length l.length∧s.T.get 6=qS (h.next+1+1) l.length l.length∧s.T.get 7=iv j∧s.h.next=h.next+3∧s.h.floor=h.floor∧(∀ i,i<h.next→s.h.get i=h.get i) ∧
  s.h.get (h.next+1+1)=.row (ints (AX l)) 3 false false∧∃ U W:List Int,U.length=l.length∧W.length=l.length∧s.h.get h.next=.row (ints U) 3 false false∧s.h.get (h.next+1)=.row (ints W) 3 false false∧U[0]?=some (-1)∧∀ p k i,p<j→IU l p k i→U[i]?=some (p:Int)∧W[i]?=some (k:Int)) l.length (by omega) ?_ ?_
 ·simp only[eE,↓reduceIte,Nat.reduceEqDiff,reduceCtorEq,↓eP,rP,Nat.reduceAdd,Nat.reduceLT]
  refine⟨rfl,z5,z6,z4,z3,_,_,?_,?_,z1,z2,?_,fun p k i hp=>by omega⟩
  ·simp
  ·simp
  ·rw[List.getElem?_set_self (by simpa using hpos)]
 ·rintro j ⟨T1,h1⟩ hj ⟨t0,t4,t5,t6,t7,hnx,hf1,hold,gE,U,W,hU,hW,gU,gW,u0,huw⟩
  simp only at t0 t4 t5 t6 t7 hnx hf1 hold gE gU gW
  by_cases hlt:j<l.length
  ·have c1:decide ((j:Int)<(l.length:Int))=true:=by simp only[decide_eq_true_eq];omega
   have w1:=DF j (by omega)
   have hsub:=ht.end hlt
   obtain⟨x,hx,hk0,hkk,hchain⟩:=hsub.kids
   have hv1:AQ h1 v l:=hv.mono (by omega) hold
   have hcl:=HJ _ _ _ hchain
   have hel:=hsub.lt
   simp only[eE,seval,↓eP,rP,t0,t7,hl22,c1,w1]
   refine WK.loop (fun k s=>s.T.get 0=v∧s.T.get 4=qS h.next l.length l.length∧s.T.get 5=qS (h.next+1) l.length l.length∧s.T.get 6=qS (h.next+1+1) l.length l.length∧s.T.get 7=iv j∧s.T.get 9=iv k∧s.h.next=h.next+3∧s.h.floor=h.floor∧(∀ i,i<h.next→s.h.get i=h.get i) ∧
    s.h.get (h.next+1+1)=.row (ints (AX l)) 3 false false∧k≤x.kids.toNat∧(∃ p:Nat,s.T.get 8=iv p∧j<p∧EY l k (j+1) p∧EY l (x.kids.toNat-k) p (AC l j))∧∃ U W:List Int,U.length=l.length∧W.length=l.length∧s.h.get h.next=.row (ints U) 3 false false∧s.h.get (h.next+1)=.row (ints W) 3 false false∧U[0]?=some (-1) ∧
    ∀ p k' i,p<j∨(p=j∧k'<k)→IU l p k' i→U[i]?=some (p:Int)∧W[i]?=some (k':Int)) x.kids.toNat (by omega) ?_ ?_
   ·simp only[eE,↓reduceIte,Nat.reduceEqDiff,reduceCtorEq,↓eP,rP,Nat.reduceAdd,Nat.reduceLT,t0,t4,t5,t6,t7]
    refine⟨rfl,hnx,hf1,hold,gE,⟨j+1,rfl,by omega,rfl,by rw[Nat.sub_zero];exact hchain⟩,U,W,hU,hW,gU,gW,u0,fun p k' i h1 h2=>huw p k' i (by omega) h2⟩
   ·rintro k ⟨T2,h2⟩ hk ⟨v0,v4,v5,v6,v7,v9,hnx2,hf2,hold2,gE2,hkk2,⟨p,v8,hp,hc1,hch⟩,U2,W2,hU2,hW2,gU2,gW2,u02,huw2⟩
    simp only at v0 v4 v5 v6 v7 v8 v9 hnx2 hf2 hold2 gE2 gU2 gW2
    have hv2:AQ h2 v l:=hv.mono (by omega) hold2
    obtain⟨id,q,e0,hid,l0,l1,l2,l3,l4,lr⟩:=hv2.row hx
    by_cases hlt2:k<x.kids.toNat
    ·have c2:decide ((k:Int)<x.kids)=true:=by simp only[decide_eq_true_eq];omega
     obtain⟨r,hr1⟩:∃ r,x.kids.toNat-k=r+1:=⟨x.kids.toNat-k-1,by omega⟩
     rw[hr1] at hch
     obtain⟨p',s1,s2,s3,s4⟩:=hch
     have w5:=DF k (by omega)
     have hpl:p<l.length:=by omega
     have kid:IU l j k p:=⟨x,hx,hlt2,hc1⟩
     have Q0:=KZ (x:=(j:Int)) gU2 (i:=p) (by omega) (by omega)
     have gW3:=(AR (h:=h2) (i:=h.next) (j:=h.next+1) (o:=.row (ints (U2.set p (j:Int))) 3 false false) (by omega) (by omega)).trans gW2
     have st2:=KZ (h:=h2.put h.next (.row (ints (U2.set p (j:Int))) 3 false false)) (x:=(k:Int)) gW3 (i:=p) (by omega) (by show h2.floor≤_;omega)
     have gE3:((h2.put h.next (.row (ints (U2.set p (j:Int))) 3 false false)).put (h.next+1) (.row (ints (W2.set p (k:Int))) 3 false false)).get (h.next+1+1)=.row (ints (AX l)) 3 false false:=by
      rw[AR (by show h.next+1<h2.next;omega) (by omega),AR (by omega) (by omega)];exact gE2
     have gU4:((h2.put h.next (.row (ints (U2.set p (j:Int))) 3 false false)).put (h.next+1) (.row (ints (W2.set p (k:Int))) 3 false false)).get h.next=.row (ints (U2.set p (j:Int))) 3 false false:=by
      rw[AR (by show h.next+1<h2.next;omega) (by omega)];exact BL rfl (by omega)
     have gW4:((h2.put h.next (.row (ints (U2.set p (j:Int))) 3 false false)).put (h.next+1) (.row (ints (W2.set p (k:Int))) 3 false false)).get (h.next+1)=.row (ints (W2.set p (k:Int))) 3 false false:=BL rfl (by show h.next+1<h2.next;omega)
     have hold4:∀ i,i<h.next→((h2.put h.next (.row (ints (U2.set p (j:Int))) 3 false false)).put (h.next+1) (.row (ints (W2.set p (k:Int))) 3 false false)).get i=h.get i:=fun i hi=>by
      rw[AR (by show h.next+1<h2.next;omega) (by omega),AR (by omega) (by omega)];exact hold2 i hi
     have nx4:((h2.put h.next (.row (ints (U2.set p (j:Int))) 3 false false)).put (h.next+1) (.row (ints (W2.set p (k:Int))) 3 false false)).next=h.next+3:=hnx2
     have f4:((h2.put h.next (.row (ints (U2.set p (j:Int))) 3 false false)).put (h.next+1) (.row (ints (W2.set p (k:Int))) 3 false false)).floor=h.floor:=hf2
     have hEp:AH p (((h2.put h.next (.row (ints (U2.set p (j:Int))) 3 false false)).put (h.next+1) (.row (ints (W2.set p (k:Int))) 3 false false)).get (h.next+1+1))=some (iv (p':Int)):=by
      rw[gE3]
      refine IF ?_
      rw[N_ hpl,IY s1]
     simp only[eE,seval,↓eP,C2,FI,CW,C6,v0,v4,v5,v6,v7,v8,v9,e0,l4,c2,EG hpl,Q0,st2,w5,hEp]
     refine⟨hlt2,nx4,f4,hold4,gE3,by omega,⟨p',rfl,by omega,VG _ _ _ _ hc1 s1,by rw[show x.kids.toNat-(k+1)=r by omega];exact s4⟩,U2.set p (j:Int),W2.set p (k:Int),by simpa using hU2,by simpa using hW2,gU4,gW4,?_,fun p9 k9 i9 h9 q9=>?_⟩
     ·rw[List.getElem?_set_ne (by omega)];exact u02
     ·by_cases hi:p=i9
      ·subst hi
       obtain⟨rfl,rfl⟩:=IU.unique ht q9 kid
       rw[List.getElem?_set_self (by omega),List.getElem?_set_self (by omega)]
       exact⟨rfl,rfl⟩
      ·rw[List.getElem?_set_ne hi,List.getElem?_set_ne hi]
       refine huw2 p9 k9 i9 ?_ q9
       rcases h9 with h9 | ⟨h9,h9'⟩
       ·exact .inl h9
       ·refine .inr ⟨h9,?_⟩
        rcases Nat.lt_or_ge k9 k with h | h
        ·exact h
        ·exfalso
         obtain rfl:k9=k:=by omega
         subst h9
         obtain⟨_,_,_,q⟩:=q9
         exact hi (PV _ _ _ _ hc1 q)
    ·have c2:decide ((k:Int)<x.kids)=false:=by simp only[decide_eq_false_iff_not];omega
     simp only[eE,seval,↓eP,rP,v0,v4,v5,v6,v7,v9,e0,l4,c2,w1]
     refine⟨hlt,hnx2,hf2,hold2,gE2,U2,W2,hU2,hW2,gU2,gW2,u02,fun p9 k9 i9 h9 q9=>huw2 p9 k9 i9 ?_ q9⟩
     rcases Nat.lt_or_ge p9 j with h | h
     ·exact .inl h
     ·refine .inr ⟨by omega,?_⟩
      obtain⟨y,hy,h5,_⟩:=q9
      obtain rfl:p9=j:=by omega
      rw[hx] at hy
      cases hy
      omega
  ·have c1:decide ((j:Int)<(l.length:Int))=false:=by simp only[decide_eq_false_iff_not];omega
   simp only[eE,seval,↓eP,rP,t0,t4,t5,t7,hl22,c1]
   refine⟨U,W,⟨hU,hW,u0,fun p k i hk'=>?_⟩,gU,gW,hnx,hf1,hold⟩
   have hk:=hk'
   obtain⟨y,hy,_⟩:=hk
   exact huw p k i (by have:=(List.getElem?_eq_some_iff.1 hy).1;omega) hk'
end
def RG (r:Nat):Code→Option Code
 | .seq a b=>match RG r a with
  | some o=>some o
  | none=>RG r b
 | .cond _ a b=>match RG r a with
  | some o=>some o
  | none=>RG r b
 | .block i c=>if i=r then some (.block i c) else RG r c
 | .loop c=>RG r c
 | _=>none
def ZV (fn:Func) (r:Nat):Code:=match fn.body with
 | some c=>(RG r c).getD .skip
 | none=>.skip
noncomputable def tQ:Code:=ZV Tryz.f117 2
section
variable {call:AS} {N:Nat}
theorem Wg {κ n:Int} {T:Tr} {h:AA} {k:B_} (hκ:T.get 59=iv κ) (h8:T.get 8=iv n) (hn:0≤n∧n<4611686018427387904)
  (hrest:∀ T':Tr,(∀ t,t≤7→T'.get t=T.get t)→T'.get 8=iv (n+E5 κ)→k.ap Tryz.prog call N .normal ⟨T',h⟩):WK Tryz.prog call N tQ ⟨T,h⟩ k:=by
 have w:IntKind.i64.wrap (n+1)=n+1:=BT (by omega) (by omega)
 have fin:∀ T':Tr,(∀ t,t≤7→T'.get t=T.get t)→E5 κ=1→T'.get 8=iv (n+1)→k.ap Tryz.prog call N .normal ⟨T',h⟩:=fun T' h1 h2 h3=>hrest T' h1 (by rw[h2];exact h3)
 show WK _ _ _ (.block 2 _) _ _
 by_cases e0:κ=1
 ·have d0:(κ==1)=true:=by rw[e0];rfl
  simp only[eE,seval,↓eP,rP,hκ,h8,w,d0]
  exact fin _ (fun t ht=>by simp only[Tr.get_put,Option.some.injEq];(repeat rw[if_neg (by omega)])) (by rw[e0];rfl) (by simp only[Tr.get_put,Option.some.injEq,if_true])
 have d0:(κ==1)=false:=by simpa using e0
 by_cases e1:κ=11
 ·have d1:(κ==11)=true:=by rw[e1];rfl
  simp only[eE,seval,↓eP,rP,hκ,h8,w,d0,d1]
  exact fin _ (fun t ht=>by simp only[Tr.get_put,Option.some.injEq];(repeat rw[if_neg (by omega)])) (by rw[e1];rfl) (by simp only[Tr.get_put,Option.some.injEq,if_true])
 have d1:(κ==11)=false:=by simpa using e1
 by_cases e2:κ=26
 ·have d2:(κ==26)=true:=by rw[e2];rfl
  simp only[eE,seval,↓eP,rP,hκ,h8,w,d0,d1,d2]
  exact fin _ (fun t ht=>by simp only[Tr.get_put,Option.some.injEq];(repeat rw[if_neg (by omega)])) (by rw[e2];rfl) (by simp only[Tr.get_put,Option.some.injEq,if_true])
 have d2:(κ==26)=false:=by simpa using e2
 by_cases e3:κ=31
 ·have d3:(κ==31)=true:=by rw[e3];rfl
  simp only[eE,seval,↓eP,rP,hκ,h8,w,d0,d1,d2,d3]
  exact fin _ (fun t ht=>by simp only[Tr.get_put,Option.some.injEq];(repeat rw[if_neg (by omega)])) (by rw[e3];rfl) (by simp only[Tr.get_put,Option.some.injEq,if_true])
 have d3:(κ==31)=false:=by simpa using e3
 by_cases e4:κ=32
 ·have d4:(κ==32)=true:=by rw[e4];rfl
  simp only[eE,seval,↓eP,rP,hκ,h8,w,d0,d1,d2,d3,d4]
  exact fin _ (fun t ht=>by simp only[Tr.get_put,Option.some.injEq];(repeat rw[if_neg (by omega)])) (by rw[e4];rfl) (by simp only[Tr.get_put,Option.some.injEq,if_true])
 have d4:(κ==32)=false:=by simpa using e4
 by_cases e5:κ=35
 ·have d5:(κ==35)=true:=by rw[e5];rfl
  simp only[eE,seval,↓eP,rP,hκ,h8,w,d0,d1,d2,d3,d4,d5]
  exact fin _ (fun t ht=>by simp only[Tr.get_put,Option.some.injEq];(repeat rw[if_neg (by omega)])) (by rw[e5];rfl) (by simp only[Tr.get_put,Option.some.injEq,if_true])
 have d5:(κ==35)=false:=by simpa using e5
 by_cases e6:κ=36
 ·have d6:(κ==36)=true:=by rw[e6];rfl
  simp only[eE,seval,↓eP,rP,hκ,h8,w,d0,d1,d2,d3,d4,d5,d6]
  exact fin _ (fun t ht=>by simp only[Tr.get_put,Option.some.injEq];(repeat rw[if_neg (by omega)])) (by rw[e6];rfl) (by simp only[Tr.get_put,Option.some.injEq,if_true])
 have d6:(κ==36)=false:=by simpa using e6
 by_cases e7:κ=37
 ·have d7:(κ==37)=true:=by rw[e7];rfl
  simp only[eE,seval,↓eP,rP,hκ,h8,w,d0,d1,d2,d3,d4,d5,d6,d7]
  exact fin _ (fun t ht=>by simp only[Tr.get_put,Option.some.injEq];(repeat rw[if_neg (by omega)])) (by rw[e7];rfl) (by simp only[Tr.get_put,Option.some.injEq,if_true])
 have d7:(κ==37)=false:=by simpa using e7
 by_cases e8:κ=39
 ·have d8:(κ==39)=true:=by rw[e8];rfl
  simp only[eE,seval,↓eP,rP,hκ,h8,w,d0,d1,d2,d3,d4,d5,d6,d7,d8]
  exact fin _ (fun t ht=>by simp only[Tr.get_put,Option.some.injEq];(repeat rw[if_neg (by omega)])) (by rw[e8];rfl) (by simp only[Tr.get_put,Option.some.injEq,if_true])
 have d8:(κ==39)=false:=by simpa using e8
 by_cases e9:κ=40
 ·have d9:(κ==40)=true:=by rw[e9];rfl
  simp only[eE,seval,↓eP,rP,hκ,h8,w,d0,d1,d2,d3,d4,d5,d6,d7,d8,d9]
  exact fin _ (fun t ht=>by simp only[Tr.get_put,Option.some.injEq];(repeat rw[if_neg (by omega)])) (by rw[e9];rfl) (by simp only[Tr.get_put,Option.some.injEq,if_true])
 have d9:(κ==40)=false:=by simpa using e9
 by_cases e10:κ=38
 ·have d10:(κ==38)=true:=by rw[e10];rfl
  simp only[eE,seval,↓eP,rP,hκ,h8,w,d0,d1,d2,d3,d4,d5,d6,d7,d8,d9,d10]
  exact fin _ (fun t ht=>by simp only[Tr.get_put,Option.some.injEq];(repeat rw[if_neg (by omega)])) (by rw[e10];rfl) (by simp only[Tr.get_put,Option.some.injEq,if_true])
 have d10:(κ==38)=false:=by simpa using e10
 by_cases e11:κ=41
 ·have d11:(κ==41)=true:=by rw[e11];rfl
  simp only[eE,seval,↓eP,rP,hκ,h8,w,d0,d1,d2,d3,d4,d5,d6,d7,d8,d9,d10,d11]
  exact fin _ (fun t ht=>by simp only[Tr.get_put,Option.some.injEq];(repeat rw[if_neg (by omega)])) (by rw[e11];rfl) (by simp only[Tr.get_put,Option.some.injEq,if_true])
 have d11:(κ==41)=false:=by simpa using e11
 by_cases e12:κ=42
 ·have d12:(κ==42)=true:=by rw[e12];rfl
  simp only[eE,seval,↓eP,rP,hκ,h8,w,d0,d1,d2,d3,d4,d5,d6,d7,d8,d9,d10,d11,d12]
  exact fin _ (fun t ht=>by simp only[Tr.get_put,Option.some.injEq];(repeat rw[if_neg (by omega)])) (by rw[e12];rfl) (by simp only[Tr.get_put,Option.some.injEq,if_true])
 have d12:(κ==42)=false:=by simpa using e12
 simp only[eE,seval,↓eP,rP,hκ,d0,d1,d2,d3,d4,d5,d6,d7,d8,d9,d10,d11,d12]
 refine hrest _ (fun t ht=>by simp only[Tr.get_put,Option.some.injEq];(repeat rw[if_neg (by omega)])) ?_
 have h0:E5 κ=0:=by
  unfold E5
  rw[if_neg]
  simp only[List.contains_cons,List.contains_nil,Bool.or_false,Bool.or_eq_true,beq_iff_eq]
  omega
 rw[h0,Int.add_zero]
 simp only[Tr.get_put,Option.some.injEq,Nat.reduceEqDiff,if_false]
 exact h8
end
end Go.Proofs.YtdejoodfeljmkaaGreatDoor
