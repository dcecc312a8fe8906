/- Part 12 of what the claim leans on: 13 texts laid one behind another. -/
import Derived.Test.YtdejoodfeljmkaaDoorTY11
namespace Go.Proofs.YtdejoodfeljmkaaDoor
open Go Go.Sx
set_option maxRecDepth 100000
set_option linter.unusedSimpArgs false
set_option linter.unusedVariables false
set_option maxHeartbeats 64000000
def GZ (k:Int):FuncId:=if k=39 then 67 else if k=40 then 68 else if k=41 then 69 else if k=43 then 70 else if k=44 then 11 else if k=45 then 71 else if k=46 then 72 else if k=47 then 73 else if k=48 then 74 else if k=49 then 75 else if k=50 then 76 else if k=51 then 77 else if k=52 then 78 else if k=42 then 79 else if k=53 then 80 else 81
abbrev GD (k:Int):Value:=.func (.func (GZ k)) #[] #[]
def CG (size:Int) (C:List Int) (x:AB):Value:=match DM size C x with
 | some v=>.iface 108 (iv v)
 | none=>if HM x.kind=true then .iface 121 (GD x.kind) else if LA x.kind=true then .iface 122 (GD x.kind) else .nilIface
section
variable {n N:Nat} {h:AA}
theorem Gf {x:AB} {cv:Value} {size:Int} {C:List Int} {lc:Nat} (hc:E3 lc h cv size C) (h32:x.kind=32→0≤x.n∧x.n<C.length) :
  ∃ h',A7 Tryd.prog (AS n) N 54 [CF x,cv] h=some (CG size C x,h')∧h'.next=h.next+2∧h'.floor=h.floor∧∀ i,i<h.next→h'.get i=h.get i:=by
 obtain⟨vc,rfl,pc⟩:=id hc
 refine EQ (R:=fun h'=>h'.next=h.next+2∧h'.floor=h.floor∧∀ i,i<h.next→h'.get i=h.get i) Tryd.func54 rfl (by simp[Tryd.f54]) ?_
 have hr:Tryd.f54.results.toList=[.tmp 4]:=rfl
 have cx:(CF x).cells.toList=AX x:=rfl
 have ox:(AX x).all one=true:=rfl
 have cb:=E1 [iv size,vc]
 have ob:[iv size,vc].all one=true:=by simp only[List.all_cons,List.all_nil,AO.one pc,JW,Bool.and_self]
 obtain⟨gA,gB,nG,fG,gO⟩:=Q9 h (.row (AX x) 61 false false) (.row [iv size,vc] 29 false false)
 simp only[eE,seval,↓eP,FW,FD,FY,cx,ox,cb,ob,GC,LY]
 generalize (h.push (.row (AX x) 61 false false)).push (.row [iv size,vc] 29 false false)=Q at *
 have x0:AJ 0 (Q.get h.next)=some (iv x.kind):=by rw[gA];rfl
 have x3:AJ 3 (Q.get h.next)=some (iv x.n):=by rw[gA];rfl
 have y0:AJ 0 (Q.get (h.next+1))=some (iv size):=by rw[gB];rfl
 have y1:AJ 1 (Q.get (h.next+1))=some vc:=by rw[gB];rfl
 have pC:AV lc Q vc C:=AV.mono pc (by omega) fun i _ hi=>gO i hi
 cases c27:(x.kind==27) with
 | true=>
  have k:=beq_iff_eq.1 c27
  rw[show CG size C x=.iface 108 (iv x.n) by unfold CG DM;rw[k];rfl]
  simp only[eE,seval,↓eP,hr,Nat.zero_add,GL,AT,x0,x3,Tryd.underlying108,Tryd.underlying121,Tryd.underlying122,c27]
  exact⟨nG,fG,gO⟩
 | false=>
 cases c33:(x.kind==33) with
 | true=>
  have k:=beq_iff_eq.1 c33
  rw[show CG size C x=.iface 108 (iv size) by unfold CG DM;rw[k];rfl]
  simp only[eE,seval,↓eP,hr,LM,AT,x0,y0,Tryd.underlying108,Tryd.underlying121,Tryd.underlying122,c27,c33]
  exact⟨nG,fG,gO⟩
 | false=>
 cases c32:(x.kind==32) with
 | true=>
  have k:=beq_iff_eq.1 c32
  obtain⟨r0,r1⟩:=h32 k
  obtain⟨c0,hc0⟩:∃ c,C[x.n.toNat]?=some c:=⟨_,List.getElem?_eq_getElem (by omega)⟩
  obtain⟨ia,pa,ea,_,la⟩:=AV.get pC hc0
  rw[show ((x.n.toNat:Nat):Int)=x.n by omega] at ea
  rw[show CG size C x=.iface 108 (iv c0) by unfold CG DM;rw[k,hc0];rfl]
  simp only[eE,seval,↓eP,hr,Nat.zero_add,GL,NT,AT,DB,x0,x3,y1,Tryd.underlying108,Tryd.underlying121,Tryd.underlying122,c27,c33,c32,ea,la]
  exact⟨nG,fG,gO⟩
 | false=>
 cases c29:(x.kind==29) with
 | true=>
  have k:=beq_iff_eq.1 c29
  rw[show CG size C x=.iface 108 (iv 1) by unfold CG DM;rw[k];rfl]
  simp only[eE,seval,↓eP,hr,x0,Tryd.underlying108,Tryd.underlying121,Tryd.underlying122,c27,c33,c32,c29]
  exact⟨nG,fG,gO⟩
 | false=>
 cases c30:(x.kind==30) with
 | true=>
  have k:=beq_iff_eq.1 c30
  rw[show CG size C x=.iface 108 (iv 0) by unfold CG DM;rw[k];rfl]
  simp only[eE,seval,↓eP,hr,x0,Tryd.underlying108,Tryd.underlying121,Tryd.underlying122,c27,c33,c32,c29,c30]
  exact⟨nG,fG,gO⟩
 | false=>
 cases c39:(x.kind==39) with
 | true=>
  have k:=beq_iff_eq.1 c39
  rw[show CG size C x=.iface 121 (.func (.func 67) #[] #[]) by unfold CG DM GD GZ;rw[k];rfl]
  simp only[eE,seval,↓eP,hr,x0,Tryd.underlying108,Tryd.underlying121,Tryd.underlying122,c27,c33,c32,c29,c30,c39]
  exact⟨nG,fG,gO⟩
 | false=>
 cases c40:(x.kind==40) with
 | true=>
  have k:=beq_iff_eq.1 c40
  rw[show CG size C x=.iface 121 (.func (.func 68) #[] #[]) by unfold CG DM GD GZ;rw[k];rfl]
  simp only[eE,seval,↓eP,hr,x0,Tryd.underlying108,Tryd.underlying121,Tryd.underlying122,c27,c33,c32,c29,c30,c39,c40]
  exact⟨nG,fG,gO⟩
 | false=>
 cases c41:(x.kind==41) with
 | true=>
  have k:=beq_iff_eq.1 c41
  rw[show CG size C x=.iface 121 (.func (.func 69) #[] #[]) by unfold CG DM GD GZ;rw[k];rfl]
  simp only[eE,seval,↓eP,hr,x0,Tryd.underlying108,Tryd.underlying121,Tryd.underlying122,c27,c33,c32,c29,c30,c39,c40,c41]
  exact⟨nG,fG,gO⟩
 | false=>
 cases c43:(x.kind==43) with
 | true=>
  have k:=beq_iff_eq.1 c43
  rw[show CG size C x=.iface 121 (.func (.func 70) #[] #[]) by unfold CG DM GD GZ;rw[k];rfl]
  simp only[eE,seval,↓eP,hr,x0,Tryd.underlying108,Tryd.underlying121,Tryd.underlying122,c27,c33,c32,c29,c30,c39,c40,c41,c43]
  exact⟨nG,fG,gO⟩
 | false=>
 cases c44:(x.kind==44) with
 | true=>
  have k:=beq_iff_eq.1 c44
  rw[show CG size C x=.iface 121 (.func (.func 11) #[] #[]) by unfold CG DM GD GZ;rw[k];rfl]
  simp only[eE,seval,↓eP,hr,x0,Tryd.underlying108,Tryd.underlying121,Tryd.underlying122,c27,c33,c32,c29,c30,c39,c40,c41,c43,c44]
  exact⟨nG,fG,gO⟩
 | false=>
 cases c45:(x.kind==45) with
 | true=>
  have k:=beq_iff_eq.1 c45
  rw[show CG size C x=.iface 121 (.func (.func 71) #[] #[]) by unfold CG DM GD GZ;rw[k];rfl]
  simp only[eE,seval,↓eP,hr,x0,Tryd.underlying108,Tryd.underlying121,Tryd.underlying122,c27,c33,c32,c29,c30,c39,c40,c41,c43,c44,c45]
  exact⟨nG,fG,gO⟩
 | false=>
 cases c46:(x.kind==46) with
 | true=>
  have k:=beq_iff_eq.1 c46
  rw[show CG size C x=.iface 121 (.func (.func 72) #[] #[]) by unfold CG DM GD GZ;rw[k];rfl]
  simp only[eE,seval,↓eP,hr,x0,Tryd.underlying108,Tryd.underlying121,Tryd.underlying122,c27,c33,c32,c29,c30,c39,c40,c41,c43,c44,c45,c46]
  exact⟨nG,fG,gO⟩
 | false=>
 cases c47:(x.kind==47) with
 | true=>
  have k:=beq_iff_eq.1 c47
  rw[show CG size C x=.iface 122 (.func (.func 73) #[] #[]) by unfold CG DM GD GZ;rw[k];rfl]
  simp only[eE,seval,↓eP,hr,x0,Tryd.underlying108,Tryd.underlying121,Tryd.underlying122,c27,c33,c32,c29,c30,c39,c40,c41,c43,c44,c45,c46,c47]
  exact⟨nG,fG,gO⟩
 | false=>
 cases c48:(x.kind==48) with
 | true=>
  have k:=beq_iff_eq.1 c48
  rw[show CG size C x=.iface 122 (.func (.func 74) #[] #[]) by unfold CG DM GD GZ;rw[k];rfl]
  simp only[eE,seval,↓eP,hr,x0,Tryd.underlying108,Tryd.underlying121,Tryd.underlying122,c27,c33,c32,c29,c30,c39,c40,c41,c43,c44,c45,c46,c47,c48]
  exact⟨nG,fG,gO⟩
 | false=>
 cases c49:(x.kind==49) with
 | true=>
  have k:=beq_iff_eq.1 c49
  rw[show CG size C x=.iface 122 (.func (.func 75) #[] #[]) by unfold CG DM GD GZ;rw[k];rfl]
  simp only[eE,seval,↓eP,hr,x0,Tryd.underlying108,Tryd.underlying121,Tryd.underlying122,c27,c33,c32,c29,c30,c39,c40,c41,c43,c44,c45,c46,c47,c48,c49]
  exact⟨nG,fG,gO⟩
 | false=>
 cases c50:(x.kind==50) with
 | true=>
  have k:=beq_iff_eq.1 c50
  rw[show CG size C x=.iface 122 (.func (.func 76) #[] #[]) by unfold CG DM GD GZ;rw[k];rfl]
  simp only[eE,seval,↓eP,hr,x0,Tryd.underlying108,Tryd.underlying121,Tryd.underlying122,c27,c33,c32,c29,c30,c39,c40,c41,c43,c44,c45,c46,c47,c48,c49,c50]
  exact⟨nG,fG,gO⟩
 | false=>
 cases c51:(x.kind==51) with
 | true=>
  have k:=beq_iff_eq.1 c51
  rw[show CG size C x=.iface 122 (.func (.func 77) #[] #[]) by unfold CG DM GD GZ;rw[k];rfl]
  simp only[eE,seval,↓eP,hr,x0,Tryd.underlying108,Tryd.underlying121,Tryd.underlying122,c27,c33,c32,c29,c30,c39,c40,c41,c43,c44,c45,c46,c47,c48,c49,c50,c51]
  exact⟨nG,fG,gO⟩
 | false=>
 cases c52:(x.kind==52) with
 | true=>
  have k:=beq_iff_eq.1 c52
  rw[show CG size C x=.iface 122 (.func (.func 78) #[] #[]) by unfold CG DM GD GZ;rw[k];rfl]
  simp only[eE,seval,↓eP,hr,x0,Tryd.underlying108,Tryd.underlying121,Tryd.underlying122,c27,c33,c32,c29,c30,c39,c40,c41,c43,c44,c45,c46,c47,c48,c49,c50,c51,c52]
  exact⟨nG,fG,gO⟩
 | false=>
 cases c42:(x.kind==42) with
 | true=>
  have k:=beq_iff_eq.1 c42
  rw[show CG size C x=.iface 122 (.func (.func 79) #[] #[]) by unfold CG DM GD GZ;rw[k];rfl]
  simp only[eE,seval,↓eP,hr,x0,Tryd.underlying108,Tryd.underlying121,Tryd.underlying122,c27,c33,c32,c29,c30,c39,c40,c41,c43,c44,c45,c46,c47,c48,c49,c50,c51,c52,c42]
  exact⟨nG,fG,gO⟩
 | false=>
 cases c53:(x.kind==53) with
 | true=>
  have k:=beq_iff_eq.1 c53
  rw[show CG size C x=.iface 122 (.func (.func 80) #[] #[]) by unfold CG DM GD GZ;rw[k];rfl]
  simp only[eE,seval,↓eP,hr,x0,Tryd.underlying108,Tryd.underlying121,Tryd.underlying122,c27,c33,c32,c29,c30,c39,c40,c41,c43,c44,c45,c46,c47,c48,c49,c50,c51,c52,c42,c53]
  exact⟨nG,fG,gO⟩
 | false=>
 cases c54:(x.kind==54) with
 | true=>
  have k:=beq_iff_eq.1 c54
  rw[show CG size C x=.iface 122 (.func (.func 81) #[] #[]) by unfold CG DM GD GZ;rw[k];rfl]
  simp only[eE,seval,↓eP,hr,x0,Tryd.underlying108,Tryd.underlying121,Tryd.underlying122,c27,c33,c32,c29,c30,c39,c40,c41,c43,c44,c45,c46,c47,c48,c49,c50,c51,c52,c42,c53,c54]
  exact⟨nG,fG,gO⟩
 | false=>
 have e:CG size C x=.nilIface:=by
  simp only[beq_eq_false_iff_ne] at c27 c33 c32 c29 c30 c39 c40 c41 c43 c44 c45 c46 c47 c48 c49 c50 c51 c52 c42 c53 c54
  unfold CG DM
  rw[if_neg c27,if_neg c33,if_neg c32,if_neg c29,if_neg c30]
  simp[HM,LA,c39,c40,c41,c43,c44,c45,c46,c47,c48,c49,c50,c51,c52,c42,c53,c54]
 rw[e]
 simp only[eE,seval,↓eP,hr,x0,Tryd.underlying108,Tryd.underlying121,Tryd.underlying122,c27,c33,c32,c29,c30,c39,c40,c41,c43,c44,c45,c46,c47,c48,c49,c50,c51,c52,c42,c53,c54]
 exact⟨nG,fG,gO⟩
theorem Ec {x:AB} {cv:Value} {size:Int} {C:List Int} {lc:Nat} (hc:E3 lc h cv size C) (h32:x.kind=32→0≤x.n∧x.n<C.length) (hn:0<n) :
  ∃ h',AS n 54 [CF x,cv] h=some (CG size C x,h')∧h.next≤h'.next∧h'.floor=h.floor∧∀ i,i<h.next→h'.get i=h.get i:=by
 obtain⟨n,rfl⟩:=DF hn
 obtain⟨v,h',h1,h2,h3,h4,h5⟩:=PY (R:=fun v h'=>v=CG size C x∧h.next≤h'.next∧h'.floor=h.floor∧∀ i,i<h.next→h'.get i=h.get i) (n:=n) (f:=54) (args:=[CF x,cv]) (h:=h) (BX ⟨rfl,rfl,rfl⟩) (by
  obtain⟨h',h1,h2,h3,h4⟩:=Gf (n:=n) (N:=n) hc h32
  exact⟨_,h',h1,rfl,by omega,h3,h4⟩) fun v h1 _ _ ht=>⟨ht.1,Nat.le_refl _,rfl,fun _ _=>rfl⟩
 subst h2
 exact⟨h',h1,h3,h4,h5⟩
theorem wZ {a b:Int} (ha:-1073741824≤a∧a≤1073741824) (hb:-1073741824≤b∧b≤1073741824):-1152921504606846976≤a*b∧a*b≤1152921504606846976:=by
 have h1:(a*b).natAbs≤1073741824*1073741824:=by
  rw[Int.natAbs_mul]
  exact Nat.mul_le_mul (by omega) (by omega)
 omega
theorem kM {k a b:Int} (hk:HM k=true) (ha:-1073741824≤a∧a≤1073741824) (hb:-1073741824≤b∧b≤1073741824) (hn:3<n):AS n (GZ k) [iv a,iv b] h=some (iv (GV k a b),h):=by
 have hk':k=39∨k=40∨k=41∨k=43∨k=44∨k=45∨k=46:=by
  unfold HM at hk
  simpa using hk
 have hm:=wZ ha hb
 obtain⟨n,rfl⟩:=DF hn
 rcases hk' with rfl | rfl | rfl | rfl | rfl | rfl | rfl
 ·show AS (n+1) 67 [iv a,iv b] h=some (iv (if b<a then b else a),h)
  refine EL (BX ⟨rfl,rfl,rfl⟩) rfl ?_
  refine DG Tryd.func67 rfl (by simp[Tryd.f67]) ?_
  have hr:Tryd.f67.results.toList=[.tmp 4]:=rfl
  simp only[eE,seval,↓eP,hr]
 ·show AS (n+1) 68 [iv a,iv b] h=some (iv (if b>a then b else a),h)
  refine EL (BX ⟨rfl,rfl,rfl⟩) rfl ?_
  refine DG Tryd.func68 rfl (by simp[Tryd.f68]) ?_
  have hr:Tryd.f68.results.toList=[.tmp 4]:=rfl
  simp only[eE,seval,↓eP,hr]
 ·show AS (n+1) 69 [iv a,iv b] h=some (iv (-a),h)
  refine EL (BX ⟨rfl,rfl,rfl⟩) rfl ?_
  refine DG Tryd.func69 rfl (by simp[Tryd.f69]) ?_
  have hr:Tryd.f69.results.toList=[.tmp 4]:=rfl
  have w:IntKind.i64.wrap (0-a)=-a:=by rw[C8 (by omega) (by omega)];omega
  simp only[eE,seval,↓eP,hr,w]
 ·show AS (n+1) 70 [iv a,iv b] h=some (iv (a*b),h)
  refine EL (BX ⟨rfl,rfl,rfl⟩) rfl ?_
  refine DG Tryd.func70 rfl (by simp[Tryd.f70]) ?_
  have hr:Tryd.f70.results.toList=[.tmp 4]:=rfl
  have w:IntKind.i64.wrap (a*b)=(a*b):=C8 (by omega) (by omega)
  simp only[eE,seval,↓eP,hr,w]
 ·show AS (n+1) 11 [iv a,iv b] h=some (iv (KD a b),h)
  exact Hn ⟨by omega,by omega⟩ ⟨by omega,by omega⟩ (by omega)
 ·show AS (n+1) 71 [iv a,iv b] h=some (iv (a+b),h)
  refine EL (BX ⟨rfl,rfl,rfl⟩) rfl ?_
  refine DG Tryd.func71 rfl (by simp[Tryd.f71]) ?_
  have hr:Tryd.f71.results.toList=[.tmp 4]:=rfl
  have w:IntKind.i64.wrap (a+b)=(a+b):=C8 (by omega) (by omega)
  simp only[eE,seval,↓eP,hr,w]
 ·show AS (n+1) 72 [iv a,iv b] h=some (iv (a-b),h)
  refine EL (BX ⟨rfl,rfl,rfl⟩) rfl ?_
  refine DG Tryd.func72 rfl (by simp[Tryd.f72]) ?_
  have hr:Tryd.f72.results.toList=[.tmp 4]:=rfl
  have w:IntKind.i64.wrap (a-b)=(a-b):=C8 (by omega) (by omega)
  simp only[eE,seval,↓eP,hr,w]
theorem eK {k a b:Int} (hk:LA k=true) (hn:0<n):AS n (GZ k) [iv a,iv b] h=some (.bool (JZ k a b),h):=by
 have hk':k=42∨k=47∨k=48∨k=49∨k=50∨k=51∨k=52∨k=53∨k=54:=by
  unfold LA at hk
  simpa using hk
 obtain⟨n,rfl⟩:=DF hn
 rcases hk' with rfl | rfl | rfl | rfl | rfl | rfl | rfl | rfl | rfl
 ·show AS (n+1) 79 [iv a,iv b] h=some (.bool (a==0),h)
  refine EL (BX ⟨rfl,rfl,rfl⟩) rfl ?_
  refine DG Tryd.func79 rfl (by simp[Tryd.f79]) ?_
  have hr:Tryd.f79.results.toList=[.tmp 4]:=rfl
  simp only[eE,seval,↓eP,hr]
 ·show AS (n+1) 73 [iv a,iv b] h=some (.bool (a==b),h)
  refine EL (BX ⟨rfl,rfl,rfl⟩) rfl ?_
  refine DG Tryd.func73 rfl (by simp[Tryd.f73]) ?_
  have hr:Tryd.f73.results.toList=[.tmp 4]:=rfl
  simp only[eE,seval,↓eP,hr]
 ·show AS (n+1) 74 [iv a,iv b] h=some (.bool (a != b),h)
  refine EL (BX ⟨rfl,rfl,rfl⟩) rfl ?_
  refine DG Tryd.func74 rfl (by simp[Tryd.f74]) ?_
  have hr:Tryd.f74.results.toList=[.tmp 4]:=rfl
  simp only[eE,seval,↓eP,hr]
 ·show AS (n+1) 75 [iv a,iv b] h=some (.bool (decide (a<b)),h)
  refine EL (BX ⟨rfl,rfl,rfl⟩) rfl ?_
  refine DG Tryd.func75 rfl (by simp[Tryd.f75]) ?_
  have hr:Tryd.f75.results.toList=[.tmp 4]:=rfl
  simp only[eE,seval,↓eP,hr]
 ·show AS (n+1) 76 [iv a,iv b] h=some (.bool (decide (a≤b)),h)
  refine EL (BX ⟨rfl,rfl,rfl⟩) rfl ?_
  refine DG Tryd.func76 rfl (by simp[Tryd.f76]) ?_
  have hr:Tryd.f76.results.toList=[.tmp 4]:=rfl
  simp only[eE,seval,↓eP,hr]
 ·show AS (n+1) 77 [iv a,iv b] h=some (.bool (decide (a>b)),h)
  refine EL (BX ⟨rfl,rfl,rfl⟩) rfl ?_
  refine DG Tryd.func77 rfl (by simp[Tryd.f77]) ?_
  have hr:Tryd.f77.results.toList=[.tmp 4]:=rfl
  simp only[eE,seval,↓eP,hr]
 ·show AS (n+1) 78 [iv a,iv b] h=some (.bool (decide (a≥b)),h)
  refine EL (BX ⟨rfl,rfl,rfl⟩) rfl ?_
  refine DG Tryd.func78 rfl (by simp[Tryd.f78]) ?_
  have hr:Tryd.f78.results.toList=[.tmp 4]:=rfl
  simp only[eE,seval,↓eP,hr]
 ·show AS (n+1) 80 [iv a,iv b] h=some (.bool (a != 0&&b != 0),h)
  refine EL (BX ⟨rfl,rfl,rfl⟩) rfl ?_
  refine DG Tryd.func80 rfl (by simp[Tryd.f80]) ?_
  have hr:Tryd.f80.results.toList=[.tmp 4]:=rfl
  cases d:(a != 0) with
  | true=>simp only[eE,seval,↓eP,hr,d,Bool.true_and]
  | false=>simp only[eE,seval,↓eP,hr,d,Bool.false_and]
 ·show AS (n+1) 81 [iv a,iv b] h=some (.bool (a != 0||b != 0),h)
  refine EL (BX ⟨rfl,rfl,rfl⟩) rfl ?_
  refine DG Tryd.func81 rfl (by simp[Tryd.f81]) ?_
  have hr:Tryd.f81.results.toList=[.tmp 4]:=rfl
  cases d:(a != 0) with
  | true=>simp only[eE,seval,↓eP,hr,d,Bool.true_or]
  | false=>simp only[eE,seval,↓eP,hr,d,Bool.false_or]
def bB:List (Bool × Bool × List Operand):=[AQ,AQ,AQ,AQ,AH [.tmp 7],AH [.tmp 7],AH [.tmp 7],AH [.tmp 7],AH [.tmp 7],AH [.tmp 7],AK,AK,AK]
theorem Cs {k a b:Int} {l:List Int} {lv:Value} {lo:Nat} (hk:HM k=true) (hl:AV lo h lv l) (h0:l[0]?=some a) (h1:l[l.length-1]?=some b) (ha:-1073741824≤a∧a≤1073741824) (hb:-1073741824≤b∧b≤1073741824) (hll:l.length<1000) (hn:4<n) :
  A7 Tryd.prog (AS n) N 107 [GD k,lv] h=some (iv (FM (GV k a b)),h):=by
 obtain⟨_,al,cl,rfl,_⟩:=id hl
 have hsn:=(FL n).2
 have hpos:=(List.getElem?_eq_some_iff.1 h0).1
 refine DG Tryd.func107 rfl (by simp[Tryd.f107]) ?_
 have hr:Tryd.f107.results.toList=[.tmp 4]:=rfl
 obtain⟨ia,pa,ea,hia,la⟩:=AV.get hl h0
 obtain⟨ib,pb,eb,hib,lb⟩:=AV.get hl h1
 have ea':CQ Tryd.prog 27 (.slice al l.length cl) (iv 0)=some (qP ia pa):=ea
 have lenL:=fun h'=>I_ hl h'
 have w1:IntKind.i64.wrap ((l.length:Int)-1)=((l.length-1:Nat):Int):=by rw[C8 (by omega) (by omega)];omega
 have hA0:(ia<h.next)=True:=eq_true hia
 have hB0:(ib<h.next)=True:=eq_true hib
 have hc1:∀ fl:Nat,AS n (GZ k) [iv a,iv b] (h.fl fl)=some (iv (GV k a b),h.fl fl):=fun fl=>kM hk ha hb (by omega)
 have hc2:∀ fl:Nat,AS n 9 [iv (GV k a b)] (h.fl fl)=some (iv (FM (GV k a b)),h.fl fl):=fun fl=>YZ (by omega)
 have hc1':=kM (n:=n) (h:=h) hk ha hb (by omega)
 have hc2':=YZ (n:=n) (h:=h) (x:=GV k a b) (by omega)
 simp only[eE,seval,↓eP]
 refine WK.flags (fs:=bB) (by kernel_rfl) ?_
 unfold bB
 iterate 13
  refine EC hsn ?_
  simp only[rG,seval,AC,AF,AE,C0,DW,CR,DD,EG,ea',la,AT,hA0,lenL,w1,eb,lb,hB0,hc1',hc2']
 refine EF ?_
 simp only[eE,seval,↓eP,hr]
def Y8:List (Bool × Bool × List Operand):=[AQ,AQ,AQ,AQ,AH [.tmp 7],AH [.tmp 7],AH [.tmp 7],AH [.tmp 7],AH [.tmp 7],AH [.tmp 7],AK]
theorem Ab {k a b:Int} {l:List Int} {lv:Value} {lo:Nat} (hk:LA k=true) (hl:AV lo h lv l) (h0:l[0]?=some a) (h1:l[l.length-1]?=some b) (ha:-1073741824≤a∧a≤1073741824) (hb:-1073741824≤b∧b≤1073741824) (hll:l.length<1000) (hn:4<n) :
  A7 Tryd.prog (AS n) N 108 [GD k,lv] h=some (iv (if JZ k a b=true then 1 else 0),h):=by
 obtain⟨_,al,cl,rfl,_⟩:=id hl
 have hsn:=(FL n).2
 have hpos:=(List.getElem?_eq_some_iff.1 h0).1
 refine DG Tryd.func108 rfl (by simp[Tryd.f108]) ?_
 have hr:Tryd.f108.results.toList=[.tmp 4]:=rfl
 obtain⟨ia,pa,ea,hia,la⟩:=AV.get hl h0
 obtain⟨ib,pb,eb,hib,lb⟩:=AV.get hl h1
 have ea':CQ Tryd.prog 27 (.slice al l.length cl) (iv 0)=some (qP ia pa):=ea
 have lenL:=fun h'=>I_ hl h'
 have w1:IntKind.i64.wrap ((l.length:Int)-1)=((l.length-1:Nat):Int):=by rw[C8 (by omega) (by omega)];omega
 have hA0:(ia<h.next)=True:=eq_true hia
 have hB0:(ib<h.next)=True:=eq_true hib
 have hc1:∀ fl:Nat,AS n (GZ k) [iv a,iv b] (h.fl fl)=some (.bool (JZ k a b),h.fl fl):=fun fl=>eK hk (by omega)
 have hc1':=eK (n:=n) (h:=h) (k:=k) (a:=a) (b:=b) hk (by omega)
 simp only[eE,seval,↓eP]
 refine WK.flags (fs:=Y8) (by kernel_rfl) ?_
 unfold Y8
 iterate 11
  refine EC hsn ?_
  simp only[rG,seval,AC,AF,AE,C0,DW,CR,DD,EG,ea',la,AT,hA0,lenL,w1,eb,lb,hB0,hc1']
 refine EF ?_
 cases JZ k a b with
 | true=>simp only[eE,seval,↓eP,hr]
 | false=>simp only[eE,seval,↓eP,hr]
theorem Kh {v:Int} {lv:Value}:A7 Tryd.prog (AS n) N 106 [iv v,lv] h=some (iv v,h):=by
 refine DG Tryd.func106 rfl (by simp[Tryd.f106]) ?_
 have hr:Tryd.f106.results.toList=[.tmp 4]:=rfl
 simp only[eE,seval,↓eP,hr]
end
theorem uX (v : Value) : RV Tryd.prog 108 v "winnow/typed.of" = some (106, v) := by kernel_rfl
theorem Ji (v : Value) : RV Tryd.prog 121 v "winnow/typed.of" = some (107, v) := by kernel_rfl
theorem sY (v : Value) : RV Tryd.prog 122 v "winnow/typed.of" = some (108, v) := by kernel_rfl
theorem vA (v:Value):G8 Tryd.prog (.iface 108 v) 108 true=some (.tuple #[v,.bool true]):=by kernel_rfl
theorem Fj (v:Value):G8 Tryd.prog (.iface 121 v) 108 true=some (.tuple #[iv 0,.bool false]):=by kernel_rfl
theorem vP (v:Value):G8 Tryd.prog (.iface 122 v) 108 true=some (.tuple #[iv 0,.bool false]):=by kernel_rfl
theorem xF:BT Tryd.prog .eql 106 (.tmp 38) (.const .nilIface) .nilIface .nilIface=some (.bool true):=by kernel_rfl
theorem X3 (t:TypeId) (v:Value):BT Tryd.prog .eql 106 (.tmp 38) (.const .nilIface) (.iface t v) .nilIface=some (.bool false):=by kernel_rfl
section
variable {n:Nat} {h:AA}
theorem Hp {v:Int} {lv:Value} (hn:0<n):AS n 106 [iv v,lv] h=some (iv v,h):=by
 obtain⟨n,rfl⟩:=DF hn
 exact EL (BX ⟨rfl,rfl,rfl⟩) rfl Kh
theorem Co {k a b:Int} {l:List Int} {lv:Value} {lo:Nat} (hk:HM k=true) (hl:AV lo h lv l) (h0:l[0]?=some a) (h1:l[l.length-1]?=some b) (ha:-1073741824≤a∧a≤1073741824) (hb:-1073741824≤b∧b≤1073741824) (hll:l.length<1000) (hn:6<n):AS n 107 [GD k,lv] h=some (iv (F4 k a b),h):=by
 obtain⟨n,rfl⟩:=DF hn
 have e:F4 k a b=FM (GV k a b):=by unfold F4;rw[if_pos hk]
 rw[e]
 exact EL (BX ⟨rfl,rfl,rfl⟩) rfl (Cs hk hl h0 h1 ha hb hll (by omega))
theorem Eb {k a b:Int} {l:List Int} {lv:Value} {lo:Nat} (hr:HM k=false) (hk:LA k=true) (hl:AV lo h lv l) (h0:l[0]?=some a) (h1:l[l.length-1]?=some b) (ha:-1073741824≤a∧a≤1073741824) (hb:-1073741824≤b∧b≤1073741824) (hll:l.length<1000) (hn:6<n):AS n 108 [GD k,lv] h=some (iv (F4 k a b),h):=by
 obtain⟨n,rfl⟩:=DF hn
 have e:F4 k a b=if JZ k a b=true then 1 else 0:=by unfold F4;rw[if_neg (by rw[hr];decide)]
 rw[e]
 exact EL (BX ⟨rfl,rfl,rfl⟩) rfl (Ab hk hl h0 h1 ha hb hll (by omega))
end
theorem wP {size:Int} {C:List Int} {x:AB} {v:Int} (h:DM size C x=some v):GN x.kind=false∧F5 x.kind=false:=by
 unfold DM at h
 split at h
 ·rename_i hk;rw[hk];exact⟨rfl,rfl⟩
 split at h
 ·rename_i hk;rw[hk];exact⟨rfl,rfl⟩
 split at h
 ·rename_i hk;rw[hk];exact⟨rfl,rfl⟩
 split at h
 ·rename_i hk;rw[hk];exact⟨rfl,rfl⟩
 split at h
 ·rename_i hk;rw[hk];exact⟨rfl,rfl⟩
 ·cases h
structure II (h H:AA) (P Cp:List Value) (V:List Int) (I:List Bool):Prop where
 p:H.get h.next=.row P 33 false false
 c:H.get (h.next+1)=.row Cp 29 false false
 v:H.get (h.next+2)=.row (ints V) 3 false false
 b:H.get (h.next+3)=.row (DA I) 4 false false
 n:h.next+4≤H.next
 fl:H.floor=h.floor
 o:∀ i,i<h.next→H.get i=h.get i
theorem II.mono {h H H':AA} {P Cp:List Value} {V:List Int} {I:List Bool} (hT:II h H P Cp V I) (hn:H.next≤H'.next) (hf:H'.floor=H.floor) (hg:∀ i,i<h.next+4→H'.get i=H.get i):II h H' P Cp V I:=
 ⟨by rw[hg _ (by omega)];exact hT.p,by rw[hg _ (by omega)];exact hT.c,by rw[hg _ (by omega)];exact hT.v,by rw[hg _ (by omega)];exact hT.b,by have:=hT.n;omega,hf.trans hT.fl,fun i hi=>by rw[hg i (by omega)];exact hT.o i hi⟩
theorem II.setV {h H:AA} {P Cp:List Value} {V:List Int} {I:List Bool} (hT:II h H P Cp V I) (V':List Int):II h (H.put (h.next+2) (.row (ints V') 3 false false)) P Cp V' I:=by
 have hn:=hT.n
 have g:∀ j,j≠h.next+2→(H.put (h.next+2) (.row (ints V') 3 false false)).get j=H.get j:=fun j hj=>AW (by omega) (Ne.symm hj)
 exact⟨by rw[g _ (by omega)];exact hT.p,by rw[g _ (by omega)];exact hT.c,B_ rfl (by omega),by rw[g _ (by omega)];exact hT.b,hn,hT.fl,fun j hj=>by rw[g j (by omega)];exact hT.o j hj⟩
theorem II.setB {h H:AA} {P Cp:List Value} {V:List Int} {I:List Bool} (hT:II h H P Cp V I) (I':List Bool):II h (H.put (h.next+3) (.row (DA I') 4 false false)) P Cp V I':=by
 have hn:=hT.n
 have g:∀ j,j≠h.next+3→(H.put (h.next+3) (.row (DA I') 4 false false)).get j=H.get j:=fun j hj=>AW (by omega) (Ne.symm hj)
 exact⟨by rw[g _ (by omega)];exact hT.p,by rw[g _ (by omega)];exact hT.c,by rw[g _ (by omega)];exact hT.v,B_ rfl (by omega),hn,hT.fl,fun j hj=>by rw[g j (by omega)];exact hT.o j hj⟩
theorem Ar {Z:List AB} {s:AL} {size:Int} {C:List Int} (hG:DN Z s) (hF:QB s size C) {m:Nat} {x:AB} (hx:s.rows[m]?=some x) (hop:GN x.kind=true∨F5 x.kind=true) :
  ((BE (AD Z) x.kids.toNat (m+1)).all (fun p=>(BZ s.rows (AD Z) size C p).isSome)=true→∃ a b,((BE (AD Z) x.kids.toNat (m+1)).map (fun p=>(BZ s.rows (AD Z) size C p).getD 0))[0]?=some a∧((BE (AD Z) x.kids.toNat (m+1)).map (fun p=>(BZ s.rows (AD Z) size C p).getD 0))[((BE (AD Z) x.kids.toNat (m+1)).map (fun p=>(BZ s.rows (AD Z) size C p).getD 0)).length-1]?=some b∧(-1073741824≤a∧a≤1073741824)∧(-1073741824≤b∧b≤1073741824)∧BZ s.rows (AD Z) size C m=some (F4 x.kind a b)) ∧
  ((BE (AD Z) x.kids.toNat (m+1)).all (fun p=>(BZ s.rows (AD Z) size C p).isSome)=false→BZ s.rows (AD Z) size C m=none)∧x.kids.toNat≤2:=by
 have hcq:=SC (size:=size) (C:=C) hG hx
 cases hu:GN x.kind with
 | true=>
  have hk:=hG.un hx hu
  have k0:=hG.kid0 hx (by omega)
  rw[if_pos hu] at hcq
  have e:BE (AD Z) x.kids.toNat (m+1)=[m+1]:=by rw[hk];rfl
  rw[e,hcq]
  cases hc:BZ s.rows (AD Z) size C (m+1) with
  | none=>exact⟨fun h=>by simp[hc] at h,fun _=>rfl,by omega⟩
  | some a=>
   have hr:=UP hG hF k0.2 hc
   exact⟨fun _=>⟨a,a,by simp[hc],by simp[hc],hr,hr,rfl⟩,fun h=>by simp[hc] at h,by omega⟩
 | false=>
  have hb:F5 x.kind=true:=by
   rcases hop with h | h
   ·rw[hu] at h;cases h
   ·exact h
  have hk:=hG.bin hx hb
  have k0:=hG.kid0 hx (by omega)
  have k1:=hG.kid1 hx hk
  rw[if_neg (by rw[hu];decide),if_pos hb] at hcq
  have e:BE (AD Z) x.kids.toNat (m+1)=[m+1,AD Z (m+1)]:=by rw[hk];rfl
  rw[e,hcq]
  cases hc:BZ s.rows (AD Z) size C (m+1) with
  | none=>exact⟨fun h=>by simp[hc] at h,fun _=>rfl,by omega⟩
  | some a=>
   cases hd:BZ s.rows (AD Z) size C (AD Z (m+1)) with
   | none=>exact⟨fun h=>by simp[hc,hd] at h,fun _=>rfl,by omega⟩
   | some b=>
    exact⟨fun _=>⟨a,b,by simp[hc],by simp[hc,hd],UP hG hF k0.2 hc,UP hG hF k1.2 hd,rfl⟩,fun h=>by simp[hc,hd] at h,by omega⟩
def N4 (R:List AB) (con:Nat→Option Int) (i:Nat) (V:List Int) (I:List Bool):Prop:=V.length=R.length∧I.length=R.length∧∀ j,j<R.length→(i≤j→V[j]?=some ((con j).getD 0)∧I[j]?=some (con j).isSome)∧(j<i→V[j]?=some 0∧I[j]?=some false)
theorem N4.step {R:List AB} {con:Nat→Option Int} {m:Nat} {V:List Int} {I:List Bool} (hK:N4 R con (m+1) V I) (hm:m<R.length) {V':List Int} {I':List Bool} (h1:V'.length=V.length) (h2:I'.length=I.length) (h3:V'[m]?=some ((con m).getD 0)) (h4:I'[m]?=some (con m).isSome) (h5:∀ j,j≠m→V'[j]?=V[j]?∧I'[j]?=I[j]?):N4 R con m V' I':=by
 obtain⟨a,b,c⟩:=hK
 refine⟨by omega,by omega,fun j hj=>⟨fun h=>?_,fun h=>?_⟩⟩
 ·rcases Nat.eq_or_lt_of_le h with e | e
  ·subst e
   exact⟨h3,h4⟩
  ·rw[(h5 j (by omega)).1,(h5 j (by omega)).2]
   exact(c j hj).1 (by omega)
 ·rw[(h5 j (by omega)).1,(h5 j (by omega)).2]
  exact(c j hj).2 (by omega)
def YG:List (Bool × Bool × List Operand):=[AQ,AQ,AQ,AQ,F3 [.tmp 15],F3 [.tmp 15],F3 [.tmp 15],F3 [.tmp 15],F3 [.tmp 19],AK]
def cP:List (Bool × Bool × List Operand):=[AQ,AQ,AH [.tmp 31],AQ,AQ,AH [.tmp 31,.tmp 34],AK,AK]
section
variable {n N:Nat} {h:AA}
theorem zD {nm:ByteArray} {s:AL} {Z:List AB} {pv cv:Value} {lo lc:Nat} {size:Int} {C:List Int} (hG:DN Z s) (hF:QB s size C) (hp:CE lo h pv nm s) (hc:E3 lc h cv size C) (hl:s.rows.length<2932031007403) (hfl:h.floor≤h.next) (hn:s.rows.length+60<n) (hN:s.rows.length+40<N) :
  ∃ h',A7 Tryd.prog (AS n) N 35 [pv,cv] h=some (.tuple #[qS (h.next+2) s.rows.length s.rows.length,qS (h.next+3) s.rows.length s.rows.length],h')∧∃ P Cp V I,II h h' P Cp V I∧N4 s.rows (BZ s.rows (AD Z) size C) 0 V I:=by
 obtain⟨vr,vq,vv,vt,vu,vo,rfl,p1,p2,p3,p4,p5,p6⟩:=id hp
 obtain⟨vc,rfl,pc⟩:=id hc
 obtain⟨_,ar,cr,rfl,_⟩:=id p1.2
 have hsn:=(FL n).2
 have htot:FI s=s.rows.length+s.queues.length+s.vars.length+s.tags.length+s.rules.length+s.on.length:=rfl
 refine EQ (R:=fun h'=>∃ P Cp V I,II h h' P Cp V I∧N4 s.rows (BZ s.rows (AD Z) size C) 0 V I) Tryd.func35 rfl (by simp[Tryd.f35]) ?_
 have hr:Tryd.f35.results.toList=[.tmp 4,.tmp 5]:=rfl
 have ca:=E1 [.string nm,.slice ar s.rows.length cr,vq,vv,vt,vu,vo,iv s.miss]
 have oa:=J2 (nm:=nm) p1 p2 p3 p4 p5 p6
 have cb:=E1 [iv size,vc]
 have ob:[iv size,vc].all one=true:=by simp only[List.all_cons,List.all_nil,AO.one pc,JW,Bool.and_self]
 obtain⟨gA,gB,nG,fG,gO⟩:=Q9 h (.row [.string nm,.slice ar s.rows.length cr,vq,vv,vt,vu,vo,iv s.miss] 33 false false) (.row [iv size,vc] 29 false false)
 simp only[eE,seval,↓eP,FW,FD,FY,ca,oa,cb,ob,HT,LY]
 generalize (h.push (.row [.string nm,.slice ar s.rows.length cr,vq,vv,vt,vu,vo,iv s.miss] 33 false false)).push (.row [iv size,vc] 29 false false)=Q at *
 have hsl:=hG.sk.1
 have npos:0<s.rows.length:=by have:=hG.t.pos;omega
 have len1:=fun h'=>NJ p1.2 h'
 have x1:AJ 1 (Q.get h.next)=some (.slice ar s.rows.length cr):=by rw[gA];rfl
 have LL:∀ H:AA,GW Tryd.prog H 27 (iv (s.rows.length:Int)) (iv (s.rows.length:Int))=some (qS H.next s.rows.length s.rows.length,H.push (.row (ints (List.replicate s.rows.length 0)) 3 false false)):=fun H=>by
  have:=R2 (P:=Tryd.prog) (h:=H) (t:=27) (e:=3) (z:=.int .i64 0) Tryd.underlying27 C4 J7 IB rfl rfl (by decide) (by decide) (n:=s.rows.length) (by omega)
  rw[show BW (Value.int IntKind.i64 0).cells.toList s.rows.length=ints (List.replicate s.rows.length 0) from R_ _] at this
  exact this
 have mkB:∀ H:AA,GW Tryd.prog H 76 (iv (s.rows.length:Int)) (iv (s.rows.length:Int))=some (qS H.next s.rows.length s.rows.length,H.push (.row (DA (List.replicate s.rows.length false)) 4 false false)):=fun H=>by
  have:=R2 (P:=Tryd.prog) (h:=H) (t:=76) (e:=4) (z:=.bool false) Tryd.underlying76 OW nS iL rfl rfl (by decide) (by decide) (n:=s.rows.length) (by omega)
  rw[show BW (Value.bool false).cells.toList s.rows.length=DA (List.replicate s.rows.length false) from oV _] at this
  exact this
 have q1:∀ a,AJ 1 ((Q.push a).get h.next)=some (.slice ar s.rows.length cr):=fun a=>by rw[AR (by omega)];exact x1
 have q2:∀ a b,AJ 1 (((Q.push a).push b).get h.next)=some (.slice ar s.rows.length cr):=fun a b=>by rw[AR (by show h.next<Q.next+1;omega)];exact q1 a
 have g2:∀ (a b:BA),let A:=(Q.push a).push b
   A.get Q.next=a∧A.get (Q.next+1)=b∧A.next=Q.next+2∧A.floor=Q.floor∧∀ i,i<Q.next→A.get i=Q.get i:=fun a b=>
  ⟨OI,OM,rfl,rfl,fun i hi=>by rw[AR (by show i<Q.next+1;omega),AR hi]⟩
 have h4:=g2 (.row (ints (List.replicate s.rows.length 0)) 3 false false) (.row (DA (List.replicate s.rows.length false)) 4 false false)
 have hA0:(h.next<Q.next)=True:=by simp;omega
 have qf:∀ a,(Q.push a).fl Q.floor=Q.push a:=fun a=>rfl
 have qf2:∀ a b,((Q.push a).push b).fl Q.floor=(Q.push a).push b:=fun a b=>rfl
 refine WK.flags (fs:=YG) (by kernel_rfl) ?_
 unfold YG
 iterate 10
  refine EC hsn ?_
  simp only[rG,seval,AC,AF,AE,C0,DW,CR,DD,EG,Option.bind_some,CL,CK,x1,hA0,len1,LL,qf,IL,q1,mkB,qf2,CB]
 refine EF ?_
 obtain⟨ga,gb,n4,f4,o4⟩:=h4
 have xB:AJ 1 (((Q.push (.row (ints (List.replicate s.rows.length 0)) 3 false false)).push (.row (DA (List.replicate s.rows.length false)) 4 false false)).get h.next)=some (.slice ar s.rows.length cr):=q2 _ _
 have w9:IntKind.i64.wrap ((s.rows.length:Int)-1)=(s.rows.length:Int)-1:=C8 (by omega) (by omega)
 simp only[eE,seval,↓eP,Nat.zero_add,CL,CK,xB,len1,w9]
 generalize (Q.push (.row (ints (List.replicate s.rows.length 0)) 3 false false)).push (.row (DA (List.replicate s.rows.length false)) 4 false false)=B at *
 rw[nG] at ga gb
 have hT0:II h B [.string nm,.slice ar s.rows.length cr,vq,vv,vt,vu,vo,iv s.miss] [iv size,vc] (List.replicate s.rows.length 0) (List.replicate s.rows.length false):=⟨by rw[o4 _ (by omega)];exact gA,by rw[o4 _ (by omega)];exact gB,ga,gb,by omega,by omega,fun i hi=>by rw[o4 i (by omega)];exact gO i hi⟩
 have hK0:N4 s.rows (BZ s.rows (AD Z) size C) s.rows.length (List.replicate s.rows.length 0) (List.replicate s.rows.length false):=⟨by simp,by simp,fun j hj=>⟨fun h9=>by omega,fun _=>⟨by rw[List.getElem?_replicate,if_pos hj],by rw[List.getElem?_replicate,if_pos hj]⟩⟩⟩
 refine WK.loop (fun k s'=>s'.T.get 2=qP h.next 0∧s'.T.get 3=qP (h.next+1) 0∧s'.T.get 6=qS (h.next+2) s.rows.length s.rows.length∧s'.T.get 7=qS (h.next+3) s.rows.length s.rows.length∧s'.T.get 8=iv ((s.rows.length:Int)-1-(k:Int))∧k≤s.rows.length∧∃ V I,II h s'.h [.string nm,.slice ar s.rows.length cr,vq,vv,vt,vu,vo,iv s.miss] [iv size,vc] V I∧N4 s.rows (BZ s.rows (AD Z) size C) (s.rows.length-k) V I) s.rows.length (by omega) ?_ ?_
 ·exact⟨by simp only[eE,seval,↓eP,rP],by simp only[eE,seval,↓eP,rP],by simp only[eE,seval,↓eP,rP,nG],by simp only[eE,seval,↓eP,rP,nG],by simp only[eE,seval,↓eP,rP] <;> omega,by omega,_,_,hT0,hK0⟩
 rintro k ⟨T,H⟩ hk ⟨t2,t3,t6,t7,t8,hkl,V,I,hT,hK⟩
 simp only at t2 t3 t6 t7 t8 hT
 by_cases hlt:k<s.rows.length
 rotate_left
 ·have c1:decide ((s.rows.length:Int)-1-(k:Int)≥0)=false:=by simp;omega
  have hkn:k=s.rows.length:=by omega
  subst hkn
  rw[Nat.sub_self] at hK
  simp only[eE,seval,↓eP,hr,t6,t7,t8,c1]
  exact⟨_,_,_,_,hT,hK⟩
 obtain⟨m,hm⟩:∃ m,s.rows.length=k+1+m:=⟨s.rows.length-(k+1),by omega⟩
 have hml:m<s.rows.length:=by omega
 have em:(s.rows.length:Int)-1-(k:Int)=(m:Int):=by omega
 rw[em] at t8
 rw[show s.rows.length-k=m+1 by omega] at hK
 have c1:decide ((m:Int)≥0)=true:=by simp
 obtain⟨x,hx⟩:∃ x,s.rows[m]?=some x:=⟨_,List.getElem?_eq_getElem hml⟩
 have hnx:=hT.n
 have hfl':=hT.fl
 obtain⟨hVl,hIl,hKj⟩:=id hK
 have hvH:A9 H (.slice ar s.rows.length cr) s.rows:=p1.1.mono (by omega) hT.o
 obtain⟨ia,pa,ea,hia,_,_,_,_,_,la⟩:=hvH.row hx
 have xa1:AJ 1 (H.get h.next)=some (.slice ar s.rows.length cr):=by rw[hT.p];rfl
 have lC:AY 2 0 (H.get (h.next+1))=some (.agg #[iv size,vc]):=by rw[hT.c];rfl
 have hcH:E3 lc H (.agg #[iv size,vc]) size C:=hc.mono (by omega) fun j _ hj=>hT.o j hj
 obtain⟨H1,hmean,n1,f1,o1⟩:=Ec (n:=n) (x:=x) hcH (fun h9=>by have:=hG.qn m x hx (by rw[h9];rfl);have:=hF.len;omega) (by omega)
 have hT1:II h H1 [.string nm,.slice ar s.rows.length cr,vq,vv,vt,vu,vo,iv s.miss] [iv size,vc] V I:=hT.mono n1 f1 fun j hj=>o1 j (by omega)
 have w1:IntKind.i64.wrap ((m:Int)-1)=(s.rows.length:Int)-1-((k+1:Nat):Int):=by rw[C8 (by omega) (by omega)];omega
 have ek:s.rows.length-(k+1)=m:=by omega
 simp only[eE,seval,↓eP,t8,c1]
 refine WK.flags (fs:=cP) (by kernel_rfl) ?_
 unfold cP
 iterate 8
  refine EC hsn ?_
  simp only[rG,seval,AC,AF,AE,C0,DW,CR,DD,EG,Option.bind_some,t2,CL,CK,xa1,t8,ea,HW,la,t3,EN,lC,hmean,JS,J6]
 refine EF ?_
 have hcq:=SC (size:=size) (C:=C) hG hx
 obtain⟨hV0,hI0⟩:=(hKj m hml).2 (by omega)
 have ixv:=FP (id:=h.next+2) (n:=s.rows.length) (c:=s.rows.length) (i:=m) hml
 have ixb:=TD (id:=h.next+3) (n:=s.rows.length) (c:=s.rows.length) (i:=m) hml
 have fH1:H1.fl H.floor=H1:=by rw[← f1];exact HN H1
 have hnx1:=hT1.n
 have hfl1:=hT1.fl
 have hcast:IntKind.i64.wrap ((m:Int)-1)=IntKind.i64.wrap ((m:Int)-1):=rfl
 have split3:DM size C x≠none∨(DM size C x=none∧(GN x.kind=true∨F5 x.kind=true))∨(DM size C x=none∧GN x.kind=false∧F5 x.kind=false):=by
  cases DM size C x <;> cases GN x.kind <;> cases F5 x.kind <;> simp
 rcases split3 with hlf | ⟨hlf,hop⟩ | ⟨hlf,hun,hbn⟩
 ·obtain⟨v,hv⟩:∃ v,DM size C x=some v:=Option.ne_none_iff_exists'.1 hlf
  have hnu:GN x.kind=false∧F5 x.kind=false:=wP hv
  have hc0:BZ s.rows (AD Z) size C m=some v:=by rw[hcq,if_neg (by rw[hnu.1];decide),if_neg (by rw[hnu.2];decide)];exact hv
  have e:CG size C x=.iface 108 (iv v):=by unfold CG;rw[hv]
  rw[e]
  have sb:BC Tryd.prog H1 4 (qP (h.next+3) m) (.bool true)=some (H1.put (h.next+3) (.row (DA (I.set m true)) 4 false false)):=V2 hT1.b (by omega) (by omega)
  have hT2:=hT1.setB (I.set m true)
  have n2:(H1.put (h.next+3) (.row (DA (I.set m true)) 4 false false)).next=H1.next:=rfl
  have f2:(H1.put (h.next+3) (.row (DA (I.set m true)) 4 false false)).floor=H1.floor:=rfl
  generalize H1.put (h.next+3) (.row (DA (I.set m true)) 4 false false)=H2 at *
  have lb:AJ m (H2.get (h.next+3))=some (.bool true):=by rw[hT2.b];exact QF (List.getElem?_set_self (by omega))
  have hof:=Hp (n:=n) (h:=H2) (v:=v) (lv:=Z0) (by omega)
  have sv:BC Tryd.prog H2 3 (qP (h.next+2) m) (iv v)=some (H2.put (h.next+2) (.row (ints (V.set m v)) 3 false false)):=M5 hT2.v (by omega) (by omega)
  simp only[eE,seval,↓eP,t2,t3,t6,t7,t8,X3,fH1,ixb,sb,vA,FH,lb,uX,hof,ixv,sv,w1]
  exact⟨hlt,by omega,_,_,hT2.setV _,by rw[ek];exact hK.step hml (by rw[List.length_set]) (by rw[List.length_set]) (by rw[hc0,List.getElem?_set_self (by omega)];rfl) (by rw[hc0,List.getElem?_set_self (by omega)];rfl) fun j hj=>⟨List.getElem?_set_ne (Ne.symm hj),List.getElem?_set_ne (Ne.symm hj)⟩⟩
 ·obtain⟨mv,hmv⟩:∃ mv,mv=CG size C x:=⟨_,rfl⟩
  rw[← hmv]
  have hrh:=ZN.1 hop
  have emv:(HM x.kind=true∧mv=.iface 121 (GD x.kind))∨(HM x.kind=false∧LA x.kind=true∧mv=.iface 122 (GD x.kind)):=by
   cases h9:HM x.kind with
   | true=>exact .inl ⟨rfl,by rw[hmv];unfold CG;rw[hlf];simp[h9]⟩
   | false=>
    have h8:LA x.kind=true:=by
     rcases hrh with h7 | h7
     ·rw[h9] at h7;cases h7
     ·exact h7
    exact .inr ⟨rfl,h8,by rw[hmv];unfold CG;rw[hlf];simp[h9,h8]⟩
  have hAs:G8 Tryd.prog mv 108 true=some (.tuple #[iv 0,.bool false]):=by
   rcases emv with⟨_,e⟩ | ⟨_,_,e⟩
   ·rw[e];exact Fj _
   ·rw[e];exact vP _
  have hIf:BT Tryd.prog .eql 106 (.tmp 38) (.const .nilIface) mv .nilIface=some (.bool false):=by
   rcases emv with⟨_,e⟩ | ⟨_,_,e⟩
   ·rw[e];exact X3 _ _
   ·rw[e];exact X3 _ _
  have sb:BC Tryd.prog H1 4 (qP (h.next+3) m) (.bool true)=some (H1.put (h.next+3) (.row (DA (I.set m true)) 4 false false)):=V2 hT1.b (by omega) (by omega)
  have hT2:=hT1.setB (I.set m true)
  have n2:(H1.put (h.next+3) (.row (DA (I.set m true)) 4 false false)).next=H1.next:=rfl
  have f2:(H1.put (h.next+3) (.row (DA (I.set m true)) 4 false false)).floor=H1.floor:=rfl
  have xa2:AJ 1 ((H1.put (h.next+3) (.row (DA (I.set m true)) 4 false false)).get h.next)=some (.slice ar s.rows.length cr):=by rw[hT2.p];rfl
  have hv2:A9 (H1.put (h.next+3) (.row (DA (I.set m true)) 4 false false)) (.slice ar s.rows.length cr) s.rows:=p1.1.mono (by omega) hT2.o
  obtain⟨zz,hzz,_,hzk⟩:=hG.z hx
  obtain⟨kv,H5,hkids,hkL,f5,n5,o5⟩:=XZ (n:=n) hG.t hG.sk hv2 hzz (by omega) (by omega) (by omega)
  rw[← hzk] at hkL
  have hkc:=hkL.ints (Nat.le_refl _)
  have lenK:=fun h'=>I_ hkc h'
  have hkl:((BE (AD Z) x.kids.toNat (m+1)).map (fun (k:Nat)=>(k:Int))).length=x.kids.toNat:=by rw[List.length_map,NV]
  obtain⟨k0,hch,hel,hei⟩:=hG.kids0 hx
  rw[hkl,show ((x.kids.toNat:Nat):Int)=x.kids by omega] at lenK
  have hT5:II h H5 [.string nm,.slice ar s.rows.length cr,vq,vv,vt,vu,vo,iv s.miss] [iv size,vc] V (I.set m true):=hT2.mono (by omega) (by omega) fun j hj=>o5 j (by omega)
  obtain⟨hyes,hno,hk2⟩:=Ar (size:=size) (C:=C) hG hF hx hop
  simp only[eE,seval,↓eP,t2,t7,t8,hIf,fH1,ixb,sb,hAs,Nat.zero_add,CL,CK,xa2,hkids,lenK]
  generalize H1.put (h.next+3) (.row (DA (I.set m true)) 4 false false)=H2 at *
  generalize hks:BE (AD Z) x.kids.toNat (m+1)=ks at *
  have hksl:ks.length=x.kids.toNat:=by rw[← hks,NV]
  refine WK.loop (fun q s'=>s'.T.get 2=qP h.next 0∧s'.T.get 3=qP (h.next+1) 0∧s'.T.get 6=qS (h.next+2) s.rows.length s.rows.length∧s'.T.get 7=qS (h.next+3) s.rows.length s.rows.length∧s'.T.get 8=iv (m:Int)∧s'.T.get 9=mv∧s'.T.get 53=kv∧s'.T.get 54=iv x.kids∧s'.T.get 55=iv (q:Int)∧q≤x.kids.toNat∧H5.next≤s'.h.next∧(∀ j,h.next+4≤j→j<H5.next→s'.h.get j=H5.get j)∧∃ w,s'.T.get 10=w∧IX s'.h H5.next w ((ks.take q).map (fun p=>(BZ s.rows (AD Z) size C p).getD 0))∧II h s'.h [.string nm,.slice ar s.rows.length cr,vq,vv,vt,vu,vo,iv s.miss] [iv size,vc] V (I.set m ((ks.take q).all (fun p=>(BZ s.rows (AD Z) size C p).isSome)))) x.kids.toNat (by omega) ?_ ?_
  ·exact⟨by simp only[eE,seval,↓eP,rP,t2],by simp only[eE,seval,↓eP,rP,t3],by simp only[eE,seval,↓eP,rP,t6],by simp only[eE,seval,↓eP,rP,t7],by simp only[eE,seval,↓eP,rP,t8],by simp only[eE,seval,↓eP,rP],by simp only[eE,seval,↓eP,rP],by simp only[eE,seval,↓eP,rP],by simp only[eE,seval,↓eP,rP] <;> rfl,by omega,Nat.le_refl _,fun _ _ _=>rfl,Z0,by simp only[eE,seval,↓eP,rP],.inl ⟨rfl,rfl⟩,hT5⟩
  rintro q ⟨T4,H6⟩ hq ⟨u2,u3,u6,u7,u8,u9,u53,u54,u55,hqk,n6,o6,w,u10,hL,hT6⟩
  simp only at u2 u3 u6 u7 u8 u9 u53 u54 u55 n6 o6 u10 hL hT6
  by_cases hql:q<x.kids.toNat
  rotate_left
  ·have c3:decide ((q:Int)<x.kids)=false:=by simp;omega
   have hq9:q=x.kids.toNat:=by omega
   subst hq9
   rw[List.take_of_length_le (by omega)] at hL hT6
   have hnx6:=hT6.n
   have hfl6:=hT6.fl
   have lb:AJ m (H6.get (h.next+3))=some (.bool (ks.all (fun p=>(BZ s.rows (AD Z) size C p).isSome))):=by rw[hT6.b];exact QF (List.getElem?_set_self (by omega))
   cases hall:ks.all (fun p=>(BZ s.rows (AD Z) size C p).isSome) with
   | false=>
    rw[hall] at lb hT6
    have hc0:=hno hall
    simp only[eE,seval,↓eP,u2,u3,u6,u7,u8,u54,u55,c3,ixb,FH,lb,w1]
    exact⟨hlt,by omega,_,_,hT6,by rw[ek];exact hK.step hml rfl (by rw[List.length_set]) (by rw[hc0];exact hV0) (by rw[hc0,List.getElem?_set_self (by omega)];rfl) fun j hj=>⟨rfl,List.getElem?_set_ne (Ne.symm hj)⟩⟩
   | true=>
    rw[hall] at lb hT6
    obtain⟨a,b,ha0,hb0,har,hbr,hc0⟩:=hyes hall
    have hLi:=hL.ints (Nat.le_refl _)
    have sv:BC Tryd.prog H6 3 (qP (h.next+2) m) (iv (F4 x.kind a b))=some (H6.put (h.next+2) (.row (ints (V.set m (F4 x.kind a b))) 3 false false)):=M5 hT6.v (by omega) (by omega)
    have fin:N4 s.rows (BZ s.rows (AD Z) size C) m (V.set m (F4 x.kind a b)) (I.set m true):=hK.step hml (by rw[List.length_set]) (by rw[List.length_set]) (by rw[hc0,List.getElem?_set_self (by omega)];rfl) (by rw[hc0,List.getElem?_set_self (by omega)];rfl) fun j hj=>⟨List.getElem?_set_ne (Ne.symm hj),List.getElem?_set_ne (Ne.symm hj)⟩
    have hl1000:(ks.map (fun p=>(BZ s.rows (AD Z) size C p).getD 0)).length<1000:=by rw[List.length_map];omega
    rcases emv with⟨hr1,e⟩ | ⟨hr1,hh1,e⟩
    ·have hof:=Co (n:=n) hr1 hLi ha0 hb0 har hbr hl1000 (by omega)
     rw[e] at u9
     simp only[eE,seval,↓eP,u2,u3,u6,u7,u8,u9,u54,u55,u10,c3,ixb,FH,lb,Ji,hof,ixv,sv,w1]
     exact⟨hlt,by omega,_,_,hT6.setV _,by rw[ek];exact fin⟩
    ·have hof:=Eb (n:=n) hr1 hh1 hLi ha0 hb0 har hbr hl1000 (by omega)
     rw[e] at u9
     simp only[eE,seval,↓eP,u2,u3,u6,u7,u8,u9,u54,u55,u10,c3,ixb,FH,lb,sY,hof,ixv,sv,w1]
     exact⟨hlt,by omega,_,_,hT6.setV _,by rw[ek];exact fin⟩
  have c3:decide ((q:Int)<x.kids)=true:=by simp;omega
  obtain⟨p,hpk⟩:∃ p,ks[q]?=some p:=⟨_,List.getElem?_eq_getElem (by omega)⟩
  obtain⟨hip,hpl⟩:=hG.kid (k:=q) hx (by rw[hks];exact hpk)
  have hnx6:=hT6.n
  have hfl6:=hT6.fl
  have hnx5:=hT5.n
  have hkc6:AV (h.next+4) H6 kv (ks.map (fun (k:Nat)=>(k:Int))):=AV.mono (hkL.ints (by omega)) (by omega) fun j h1 h2=>o6 j h1 h2
  obtain⟨ip,pp,ep,hip2,lp⟩:=AV.get hkc6 (i:=q) (x:=(p:Int)) (by rw[List.getElem?_map,hpk];rfl)
  have wq:=E_ q (by omega)
  obtain⟨hVp,hIp⟩:=(hKj p hpl).1 (by omega)
  have jxv:=FP (id:=h.next+2) (n:=s.rows.length) (c:=s.rows.length) (i:=p) hpl
  have jxb:=TD (id:=h.next+3) (n:=s.rows.length) (c:=s.rows.length) (i:=p) hpl
  have lv:AJ p (H6.get (h.next+2))=some (iv ((BZ s.rows (AD Z) size C p).getD 0)):=by rw[hT6.v];exact MZ hVp
  obtain⟨w',H7,happ,hL',f7,n7,o7⟩:=aB (x:=(BZ s.rows (AD Z) size C p).getD 0) hL (by omega) (by omega) (by rw[List.length_map,List.length_take];omega)
  have hT7:=hT6.mono (H':=H7) (by omega) f7 fun j hj=>o7 j (by omega)
  have etk:ks.take (q+1)=ks.take q++[p]:=by rw[List.take_add_one,hpk];rfl
  have eall:(ks.take (q+1)).all (fun p=>(BZ s.rows (AD Z) size C p).isSome)=((ks.take q).all (fun p=>(BZ s.rows (AD Z) size C p).isSome)&&(BZ s.rows (AD Z) size C p).isSome):=by rw[etk,List.all_append];simp
  have emap:(ks.take q).map (fun p=>(BZ s.rows (AD Z) size C p).getD 0)++[(BZ s.rows (AD Z) size C p).getD 0]=(ks.take (q+1)).map (fun p=>(BZ s.rows (AD Z) size C p).getD 0):=by rw[etk,List.map_append];rfl
  rw[emap] at hL'
  have lm7:AJ m (H7.get (h.next+3))=some (.bool ((ks.take q).all (fun p=>(BZ s.rows (AD Z) size C p).isSome))):=by rw[hT7.b];exact QF (List.getElem?_set_self (by omega))
  have lp7:AJ p (H7.get (h.next+3))=some (.bool (BZ s.rows (AD Z) size C p).isSome):=by rw[hT7.b];exact QF (by rw[List.getElem?_set_ne (by omega)];exact hIp)
  have sb7:∀ v:Bool,BC Tryd.prog H7 4 (qP (h.next+3) m) (.bool v)=some (H7.put (h.next+3) (.row (DA (I.set m v)) 4 false false)):=fun v=>by
   have:=V2 (x:=v) (i:=m) hT7.b (by rw[List.length_set];omega) (by omega)
   rw[List.set_set] at this
   exact this
  have hnx7:=hT7.n
  have fin:∀ v:Bool,v=(ks.take (q+1)).all (fun p=>(BZ s.rows (AD Z) size C p).isSome)→IX (H7.put (h.next+3) (.row (DA (I.set m v)) 4 false false)) H5.next w' ((ks.take (q+1)).map (fun p=>(BZ s.rows (AD Z) size C p).getD 0))∧II h (H7.put (h.next+3) (.row (DA (I.set m v)) 4 false false)) [.string nm,.slice ar s.rows.length cr,vq,vv,vt,vu,vo,iv s.miss] [iv size,vc] V (I.set m ((ks.take (q+1)).all (fun p=>(BZ s.rows (AD Z) size C p).isSome)))∧∀ j,h.next+4≤j→j<H5.next→(H7.put (h.next+3) (.row (DA (I.set m v)) 4 false false)).get j=H5.get j:=fun v hv=>by
   refine⟨hL'.mono (Nat.le_refl _) fun j h1 h2=>AW (by omega) (by omega),by rw[← hv];exact hT7.setB _,fun j h1 h2=>by rw[AW (by omega) (by omega),o7 j h2];exact o6 j h1 h2⟩
  have nn7:∀ v:Bool,H5.next≤(H7.put (h.next+3) (.row (DA (I.set m v)) 4 false false)).next:=fun v=>by show H5.next≤H7.next;omega
  cases hb:(ks.take q).all (fun p=>(BZ s.rows (AD Z) size C p).isSome) with
  | false=>
   rw[hb] at lm7 eall
   simp only[eE,seval,↓eP,u2,u3,u6,u7,u8,u9,u53,u54,u55,u10,c3,ep,AT,lp,jxv,lv,NQ,happ,ixb,FH,lm7,sb7,wq]
   obtain⟨a1,a2,a3⟩:=fin false (by simp[eall])
   exact⟨hql,by omega,nn7 _,a3,a1,a2⟩
  | true=>
   rw[hb] at lm7 eall
   simp only[eE,seval,↓eP,u2,u3,u6,u7,u8,u9,u53,u54,u55,u10,c3,ep,AT,lp,jxv,lv,NQ,happ,ixb,FH,lm7,jxb,lp7,sb7,wq]
   obtain⟨a1,a2,a3⟩:=fin (BZ s.rows (AD Z) size C p).isSome (by rw[eall,Bool.true_and])
   exact⟨hql,by omega,nn7 _,a3,a1,a2⟩
 ·have hr0:HM x.kind=false:=by
   cases h9:HM x.kind with
   | false=>rfl
   | true=>rcases ZN.2 (.inl h9) with h8 | h8 <;> simp_all
  have hh0:LA x.kind=false:=by
   cases h9:LA x.kind with
   | false=>rfl
   | true=>rcases ZN.2 (.inr h9) with h8 | h8 <;> simp_all
  have e:CG size C x=.nilIface:=by unfold CG;rw[hlf];simp[hr0,hh0]
  have hc0:BZ s.rows (AD Z) size C m=none:=by rw[hcq,if_neg (by rw[hun];decide),if_neg (by rw[hbn];decide)];exact hlf
  rw[e]
  simp only[eE,seval,↓eP,t2,t3,t6,t7,t8,xF,fH1,w1]
  exact⟨hlt,by omega,V,I,hT1,by rw[ek];exact hK.step hml rfl rfl (by rw[hc0];exact hV0) (by rw[hc0];exact hI0) fun _ _=>⟨rfl,rfl⟩⟩
end
structure dR (h H:AA) (M:GS):Prop where
 a:H.get h.next=.row (ints M.A) 3 false false
 c:H.get (h.next+1)=.row (DA M.C) 4 false false
 n:h.next+2≤H.next
 fl:H.floor=h.floor
 o:∀ i,i<h.next→H.get i=h.get i
theorem dR.mono {h H H':AA} {M:GS} (hT:dR h H M) (hn:H.next≤H'.next) (hf:H'.floor=H.floor) (hg:∀ i,i<h.next+2→H'.get i=H.get i):dR h H' M:=
 ⟨by rw[hg _ (by omega)];exact hT.a,by rw[hg _ (by omega)];exact hT.c,by have:=hT.n;omega,hf.trans hT.fl,fun i hi=>by rw[hg i (by omega)];exact hT.o i hi⟩
section
variable {n N:Nat} {h:AA}
end
noncomputable def CU (nm:ByteArray) (s:AL) (size:Int) (C:List Int):Int:=if FK nm s≠0 then FK nm s else if K5 size C s.queues=true then 0 else 45
theorem M2.lies {h:AA} {b:Nat} {v:Value} {nm:ByteArray} {s:AL} (hL:M2 h b v nm s):∀ nm' vr vq vv vt vu vo m,v=.agg #[.string nm',vr,vq,vv,vt,vu,vo,m]→IA vr s.rows.length:=by
 intro nm' vr vq vv vt vu vo m hv
 rw[hL.v] at hv
 simp only[Value.agg.injEq,Array.mk.injEq,List.cons.injEq] at hv
 obtain⟨_,h1,_⟩:=hv
 exact⟨_,_,_,h1.symm⟩
theorem M2.mono {h h':AA} {b:Nat} {v:Value} {nm:ByteArray} {s:AL} (hL:M2 h b v nm s) (hn:h.next≤h'.next) (hg:∀ i,b≤i→i≤b+5→h'.get i=h.get i):M2 h' b v nm s:=by
 obtain⟨hv,hlt,⟨L1,g1⟩,gq,gw,gt,⟨L5,g5⟩,⟨L6,g6⟩⟩:=hL
 exact⟨hv,by omega,⟨L1,by rw[hg _ (by omega) (by omega)];exact g1.g,g1.len,g1.own,g1.marks⟩,by rw[hg _ (by omega) (by omega)];exact gq,by rw[hg _ (by omega) (by omega)];exact gw,by rw[hg _ (by omega) (by omega)];exact gt,⟨L5,by rw[hg _ (by omega) (by omega)];exact g5.g,g5.len,g5.own,g5.marks⟩,⟨L6,by rw[hg _ (by omega) (by omega)];exact g6.g,g6.len,g6.own,g6.marks⟩⟩
section
variable {n N:Nat} {h:AA}
theorem wU {nm:ByteArray} {s:AL} {pv cv:Value} {lo lc:Nat} {size:Int} {C:List Int} (hp:CE lo h pv nm s) (hc:E3 lc h cv size C) (hlies:∀ nm' vr vq vv vt vu vo m,pv=.agg #[.string nm',vr,vq,vv,vt,vu,vo,m]→IA vr s.rows.length) (hl:s.rows.length<2932031007403) (hg:h.get 0=CT) (hn0:0<h.next) (hs:IN s) (hC:C.length<17592186044416) (hfl:h.floor≤h.next) (hn:2*FI s+400+C.length<n) :
  ∃ h',A7 Tryd.prog (AS n) N 17 [pv,cv] h=some (BR (CU nm s size C) 0,h')∧∀ i,i<h.next→h'.get i=h.get i:=by
 obtain⟨vr,vq,vv,vt,vu,vo,rfl,p1,p2,p3,p4,p5,p6⟩:=id hp
 obtain⟨vc,rfl,pc⟩:=id hc
 refine EQ (R:=fun h'=>∀ i,i<h.next→h'.get i=h.get i) Tryd.func17 rfl (by simp[Tryd.f17]) ?_
 have hr:Tryd.f17.results.toList=[.cell 4 36]:=rfl
 have ca:=E1 [.string nm,vr,vq,vv,vt,vu,vo,iv s.miss]
 have oa:=J2 (nm:=nm) p1 p2 p3 p4 p5 p6
 have cb:=E1 [iv size,vc]
 have ob:[iv size,vc].all one=true:=by simp only[List.all_cons,List.all_nil,AO.one pc,JW,Bool.and_self]
 obtain⟨gA,gB,gF,nG,fG,gO⟩:=SR h (.row [.string nm,vr,vq,vv,vt,vu,vo,iv s.miss] 33 false false) (.row [iv size,vc] 29 false false) (.row [iv 0,iv 0] 36 false false)
 simp only[eE,seval,↓eP,FW,FD,FY,ca,oa,cb,ob,HT,LY,DK,DJ,EO]
 generalize ((h.push (.row [.string nm,vr,vq,vv,vt,vu,vo,iv s.miss] 33 false false)).push (.row [iv size,vc] 29 false false)).push (.row [iv 0,iv 0] 36 false false)=Q at *
 have lA:AY 8 0 (Q.get h.next)=some (.agg #[.string nm,vr,vq,vv,vt,vu,vo,iv s.miss]):=K7 gA rfl
 have lB:AY 2 0 (Q.get (h.next+1))=some (.agg #[iv size,vc]):=by rw[gB];rfl
 have hpQ:CE lo Q (.agg #[.string nm,vr,vq,vv,vt,vu,vo,iv s.miss]) nm s:=hp.mono (by omega) fun i _ hi=>gO i hi
 have hcQ:E3 lc Q (.agg #[iv size,vc]) size C:=hc.mono (by omega) fun i _ hi=>gO i hi
 have hchk:=mN (n:=n) hpQ hlies hs hl (by omega) (by rw[gO 0 hn0];exact hg) (by omega) (by omega)
 have hfit:=Kw (n:=n) hpQ hcQ hC hs.2.1 (by omega)
 have fin:∀ e:Int,∃ H',BC Tryd.prog Q 36 (qP (h.next+2) 0) (BR e 0)=some H'∧AY 2 0 (H'.get (h.next+2))=some (BR e 0)∧∀ i,i<h.next→H'.get i=h.get i:=fun e=>by
  refine⟨_,JQ IS (vs:=[iv e,iv 0]) gF rfl rfl rfl (by omega),?_,fun i hi=>?_⟩
  ·rw[B_ rfl (by omega)]
   rfl
  ·rw[AW (by omega) (by omega)]
   exact gO i hi
 have nn:h.next+1+1=h.next+2:=rfl
 cases d1:(FK nm s != 0) with
 | true=>
  have e1:CU nm s size C=FK nm s:=by unfold CU;rw[if_pos (by simpa using d1)]
  obtain⟨H',s1,s2,s3⟩:=fin (FK nm s)
  rw[e1]
  simp only[eE,seval,↓eP,hr,nn,C2,lA,hchk,d1,PE,s1,CM,s2]
  exact s3
 | false=>
 have e1:FK nm s=0:=by simpa using d1
 cases d2:K5 size C s.queues with
 | false=>
  have e2:CU nm s size C=45:=by unfold CU;rw[if_neg (by rw[e1];decide),if_neg (by rw[d2];decide)]
  obtain⟨H',s1,s2,s3⟩:=fin 45
  rw[e2]
  simp only[eE,seval,↓eP,hr,nn,C2,EN,lA,lB,hchk,d1,hfit,d2,PE,s1,CM,s2]
  exact s3
 | true=>
  have e2:CU nm s size C=0:=by unfold CU;rw[if_neg (by rw[e1];decide),if_pos d2]
  obtain⟨H',s1,s2,s3⟩:=fin 0
  rw[e2]
  simp only[eE,seval,↓eP,hr,nn,C2,EN,lA,lB,hchk,d1,hfit,d2,FQ,s1,CM,s2]
  exact s3
theorem RK {nm:ByteArray} {s:AL} {pv cv:Value} {lo lc:Nat} {size:Int} {C:List Int} (hp:CE lo h pv nm s) (hc:E3 lc h cv size C) (hlies:∀ nm' vr vq vv vt vu vo m,pv=.agg #[.string nm',vr,vq,vv,vt,vu,vo,m]→IA vr s.rows.length) (hl:s.rows.length<2932031007403) (hg:h.get 0=CT) (hn0:0<h.next) (hs:IN s) (hC:C.length<17592186044416) (hfl:h.floor≤h.next) (hn:2*FI s+400+C.length+10<n):AS n 17 [pv,cv] h=some (BR (CU nm s size C) 0,h):=by
 obtain⟨n,rfl⟩:=DF hn
 exact JB (BX ⟨rfl,rfl,rfl⟩) rfl (wU (n:=n) (N:=n) hp hc hlies hl hg hn0 hs hC hfl (by omega))
end
noncomputable def D4 (nm:ByteArray) (s:AL) (size:Int) (C:List Int) (row:Int):Int × Int × Int:=
 if (A_ nm s).1.1≠0 then (0,(A_ nm s).1.1,(A_ nm s).1.2) else if CU nm s size C≠0 then (0,CU nm s size C,0)
 else if row<0∨row≥(s.rows.length:Int) then (0,1,0) else match BZ s.rows (AD (BB s.rows)) size C row.toNat with
  | none=>(0,42,row)
  | some v=>(v,0,0)
theorem WX {nm:ByteArray} {s:AL} {size:Int} {C:List Int} (h:CU nm s size C=0):QB s size C:=by
 unfold CU at h
 split at h
 ·rename_i hc;exact absurd h hc
 ·split at h
  ·rename_i hf;exact Jl hf
  ·cases h
theorem wV:∀ k∈JD,(BS k=0↔k<27):=by decide
theorem yG {k:Int} (hk:1≤k∧k≤54):BS k=0↔k<27:=wV k (W8 hk)
theorem uU {Z:List AB} {s:AL} {size:Int} {C:List Int} (hG:DN Z s) {i:Nat} {x:AB} (hx:s.rows[i]?=some x) (h:x.kind<27):BZ s.rows (AD Z) size C i=none:=by
 have hu:GN x.kind=false:=by unfold GN;simp;omega
 have hb:F5 x.kind=false:=by unfold F5;simp;omega
 rw[SC hG hx,if_neg (by rw[hu];decide),if_neg (by rw[hb];decide)]
 unfold DM
 rw[if_neg (by omega),if_neg (by omega),if_neg (by omega),if_neg (by omega),if_neg (by omega)]
theorem Gn {v e a:Int}:EJ (.tuple #[iv v,BR e a])=true:=by simp[EJ,flat,BL]
section
variable {n N:Nat} {h:AA}
theorem kV {nm:ByteArray} {s:AL} {Z:List AB} {pv cv:Value} {lo lc:Nat} {size:Int} {C:List Int} (hG:DN Z s) (hF:QB s size C) (hp:CE lo h pv nm s) (hc:E3 lc h cv size C) (hl:s.rows.length<2932031007403) (hfl:h.floor≤h.next) (hn:s.rows.length+100<n) :
  ∃ h',AS n 35 [pv,cv] h=some (.tuple #[qS (h.next+2) s.rows.length s.rows.length,qS (h.next+3) s.rows.length s.rows.length],h')∧∃ P Cp V I,II h h' P Cp V I∧N4 s.rows (BZ s.rows (AD Z) size C) 0 V I:=by
 obtain⟨n,rfl⟩:=DF hn
 exact PZ (BX ⟨rfl,rfl,rfl⟩) (by simp[EJ,flat,BL]) (zD (n:=n) (N:=n) hG hF hp hc hl hfl (by omega) (by omega))
def cS:List (Bool × Bool × List Operand):=[AK,AH [.tmp 9],AK]
def a8:List (Bool × Bool × List Operand):=[AK,AH [.tmp 10],AK]
theorem vR {nm:ByteArray} {s:AL} {pv cv:Value} {lo lc:Nat} {size:Int} {C:List Int} {row:Int} (hp:CE lo h pv nm s) (hc:E3 lc h cv size C) (hlies:∀ nm' vr vq vv vt vu vo m,pv=.agg #[.string nm',vr,vq,vv,vt,vu,vo,m]→IA vr s.rows.length) (hg:h.get 0=CT) (hn0:0<h.next) (hs:IN s) (hl:s.rows.length<2932031007403) (hC:C.length<2932031007403) (hrow:-9223372036854775808≤row∧row≤9223372036854775807) (hfl:h.floor≤h.next) (hn:2*FI s+101000+C.length<n) (hN:2*FI s+1000<N) :
  ∃ h',A7 Tryd.prog (AS n) N 20 [pv,cv,iv row] h=some (.tuple #[iv (D4 nm s size C row).1,BR (D4 nm s size C row).2.1 (D4 nm s size C row).2.2],h')∧∀ i,i<h.next→h'.get i=h.get i:=by
 obtain⟨vr,vq,vv,vt,vu,vo,rfl,p1,p2,p3,p4,p5,p6⟩:=id hp
 obtain⟨vc,rfl,pc⟩:=id hc
 have hsn:=(FL n).2
 have htot:FI s=s.rows.length+s.queues.length+s.vars.length+s.tags.length+s.rules.length+s.on.length:=rfl
 refine EQ (R:=fun h'=>∀ i,i<h.next→h'.get i=h.get i) Tryd.func20 rfl (by simp[Tryd.f20]) ?_
 have hr:Tryd.f20.results.toList=[.tmp 6,.cell 7 36]:=rfl
 have ca:=E1 [.string nm,vr,vq,vv,vt,vu,vo,iv s.miss]
 have oa:=J2 (nm:=nm) p1 p2 p3 p4 p5 p6
 have cb:=E1 [iv size,vc]
 have ob:[iv size,vc].all one=true:=by simp only[List.all_cons,List.all_nil,AO.one pc,JW,Bool.and_self]
 obtain⟨gA,gB,gF,nG,fG,gO⟩:=SR h (.row [.string nm,vr,vq,vv,vt,vu,vo,iv s.miss] 33 false false) (.row [iv size,vc] 29 false false) (.row [iv 0,iv 0] 36 false false)
 simp only[eE,seval,↓eP,FW,FD,FY,ca,oa,cb,ob,HT,LY,DK,DJ,EO]
 generalize ((h.push (.row [.string nm,vr,vq,vv,vt,vu,vo,iv s.miss] 33 false false)).push (.row [iv size,vc] 29 false false)).push (.row [iv 0,iv 0] 36 false false)=Q at *
 have nn:h.next+1+1=h.next+2:=rfl
 have lA:AY 8 0 (Q.get h.next)=some (.agg #[.string nm,vr,vq,vv,vt,vu,vo,iv s.miss]):=K7 gA rfl
 have hpQ:CE lo Q (.agg #[.string nm,vr,vq,vv,vt,vu,vo,iv s.miss]) nm s:=hp.mono (by omega) fun i _ hi=>gO i hi
 have len1:=fun h'=>NJ p1.2 h'
 obtain⟨v2,H1,hty,⟨tv,hv2,hI⟩,f1,n1,o1⟩:=dN (n:=n) hpQ hlies hs (by omega) (by rw[gO 0 hn0];exact hg) (by omega) (by omega) (by omega)
 subst hv2
 obtain⟨D,stD,gD,nD,fD,oD⟩:=LG (t:=36) IS (H:=H1) (zs:=[iv 0,iv 0]) (vs:=[iv (A_ nm s).1.1,iv (A_ nm s).1.2]) rfl rfl rfl (by omega)
 have stD':BC Tryd.prog (H1.push (.row [iv 0,iv 0] 36 false false)) 36 (qP H1.next 0) (BR (A_ nm s).1.1 (A_ nm s).1.2)=some D:=stD
 have oDQ:∀ i,i<Q.next→D.get i=Q.get i:=fun i hi=>by rw[oD i (by omega),o1 i hi]
 have oDh:∀ i,i<h.next→D.get i=h.get i:=fun i hi=>by rw[oDQ i (by omega)];exact gO i hi
 have e0:AJ 0 (D.get H1.next)=some (iv (A_ nm s).1.1):=by rw[gD];rfl
 have gFD:D.get (h.next+2)=.row [iv 0,iv 0] 36 false false:=by rw[oDQ _ (by omega)];exact gF
 have lAD:AY 8 0 (D.get h.next)=some (.agg #[.string nm,vr,vq,vv,vt,vu,vo,iv s.miss]):=by rw[oDQ _ (by omega)];exact lA
 have lBD:AY 2 0 (D.get (h.next+1))=some (.agg #[iv size,vc]):=by rw[oDQ _ (by omega),gB];rfl
 have hpD:CE lo D (.agg #[.string nm,vr,vq,vv,vt,vu,vo,iv s.miss]) nm s:=hp.mono (by omega) fun i _ hi=>oDh i hi
 have hcD:E3 lc D (.agg #[iv size,vc]) size C:=hc.mono (by omega) fun i _ hi=>oDh i hi
 cases d1:((A_ nm s).1.1 != 0) with
 | true=>
  have eR:D4 nm s size C row=(0,(A_ nm s).1.1,(A_ nm s).1.2):=by unfold D4;rw[if_pos (by simpa using d1)]
  rw[eR]
  obtain⟨H',s1,s2,s3,s4,s5⟩:=MP gFD (by omega) (by omega) (A_ nm s).1.1 (A_ nm s).1.2
  have lD:AY 2 0 (D.get H1.next)=some (BR (A_ nm s).1.1 (A_ nm s).1.2):=by rw[gD];rfl
  have hne:(H1.next==h.next+2)=false:=by simp;omega
  have fH':H'.fl D.floor=H':=by rw[← s4];exact HN H'
  simp only[eE,seval,↓eP,nn,C2,lA,hty,DK,DJ,EO,stD',EW,EV,e0,d1]
  refine WK.flags (fs:=cS) (by kernel_rfl) ?_
  unfold cS
  iterate 3
   refine EC hsn ?_
   simp only[rG,seval,AC,AF,AE,C0,DW,CR,DD,EG,Option.bind_some,I3,CM,lD,s1,fH']
  refine EF ?_
  simp only[eE,seval,↓eP,hr,CM,s2]
  exact fun i hi=>by rw[s5 i (by omega)];exact oDh i hi
 | false=>
 have z1:(A_ nm s).1.1=0:=by simpa using d1
 obtain⟨hck,hG,hO,hz2⟩:=WA z1
 have hfit:=RK (n:=n) hpD hcD hlies (by omega) (by rw[oDh 0 hn0];exact hg) (by omega) hs (by omega) (by omega) (by omega)
 obtain⟨E,stE,gE,nE,fE,oE⟩:=LG (t:=36) IS (H:=D) (zs:=[iv 0,iv 0]) (vs:=[iv (CU nm s size C),iv 0]) rfl rfl rfl (by omega)
 have stE':BC Tryd.prog (D.push (.row [iv 0,iv 0] 36 false false)) 36 (qP D.next 0) (BR (CU nm s size C) 0)=some E:=stE
 have e1:AJ 0 (E.get D.next)=some (iv (CU nm s size C)):=by rw[gE];rfl
 have oEh:∀ i,i<h.next→E.get i=h.get i:=fun i hi=>by rw[oE i (by omega)];exact oDh i hi
 have gFE:E.get (h.next+2)=.row [iv 0,iv 0] 36 false false:=by rw[oE _ (by omega)];exact gFD
 cases d2:(CU nm s size C != 0) with
 | true=>
  have eR:D4 nm s size C row=(0,CU nm s size C,0):=by unfold D4;rw[if_neg (by rw[z1];decide),if_pos (by simpa using d2)]
  rw[eR]
  obtain⟨H',s1,s2,s3,s4,s5⟩:=MP gFE (by omega) (by omega) (CU nm s size C) 0
  have lE:AY 2 0 (E.get D.next)=some (BR (CU nm s size C) 0):=by rw[gE];rfl
  have hne:(D.next==h.next+2)=false:=by simp;omega
  have fH':H'.fl E.floor=H':=by rw[← s4];exact HN H'
  simp only[eE,seval,↓eP,nn,C2,lA,hty,DK,DJ,EO,stD',EW,EV,e0,d1,lAD,EN,lBD,hfit,stE',e1,d2]
  refine WK.flags (fs:=a8) (by kernel_rfl) ?_
  unfold a8
  iterate 3
   refine EC hsn ?_
   simp only[rG,seval,AC,AF,AE,C0,DW,CR,DD,EG,Option.bind_some,I3,CM,lE,s1,fH']
  refine EF ?_
  simp only[eE,seval,↓eP,hr,CM,s2]
  exact fun i hi=>by rw[s5 i (by omega)];exact oEh i hi
 | false=>
 have z2:CU nm s size C=0:=by simpa using d2
 have hF:=WX z2
 have x1:AJ 1 (E.get h.next)=some vr:=by rw[oE _ (by omega),oDQ _ (by omega),gA];rfl
 have lAE:AY 8 0 (E.get h.next)=some (.agg #[.string nm,vr,vq,vv,vt,vu,vo,iv s.miss]):=by rw[oE _ (by omega)];exact lAD
 have lBE:AY 2 0 (E.get (h.next+1))=some (.agg #[iv size,vc]):=by rw[oE _ (by omega)];exact lBD
 have bad1:∀ b:Bool,b=true→(row<0∨row≥(s.rows.length:Int))→D4 nm s size C row=(0,1,0):=fun _ _ hb=>by unfold D4;rw[if_neg (by rw[z1];decide),if_neg (by rw[z2];decide),if_pos hb]
 cases d3:decide (row<0) with
 | true=>
  rw[bad1 true rfl (.inl (by simpa using d3))]
  obtain⟨H',s1,s2,s3,s4,s5⟩:=MP gFE (by omega) (by omega) 1 0
  simp only[eE,seval,↓eP,hr,nn,C2,lA,hty,DK,DJ,EO,stD',EW,EV,e0,d1,lAD,EN,lBD,hfit,stE',e1,d2,d3,PE,s1,CM,s2]
  exact fun i hi=>by rw[s5 i (by omega)];exact oEh i hi
 | false=>
 cases d4:decide (row≥(s.rows.length:Int)) with
 | true=>
  rw[bad1 true rfl (.inr (by simpa using d4))]
  obtain⟨H',s1,s2,s3,s4,s5⟩:=MP gFE (by omega) (by omega) 1 0
  simp only[eE,seval,↓eP,hr,nn,C2,lA,hty,DK,DJ,EO,stD',Nat.zero_add,EW,EV,e0,d1,lAD,EN,lBD,hfit,stE',e1,d2,d3,CL,CK,x1,len1,d4,PE,s1,CM,s2]
  exact fun i hi=>by rw[s5 i (by omega)];exact oEh i hi
 | false=>
 have h3:¬ row<0:=by simpa using d3
 have h4:¬ row≥(s.rows.length:Int):=by simpa using d4
 obtain⟨m,hm⟩:∃ m:Nat,row=(m:Int):=⟨row.toNat,by omega⟩
 subst hm
 have hml:m<s.rows.length:=by omega
 obtain⟨H5,hcon,PP,CC,V,I,hT,hV⟩:=kV (n:=n) (h:=E) hG hF (hp.mono (by omega) fun i _ hi=>oEh i hi) (hc.mono (by omega) fun i _ hi=>oEh i hi) hl (by omega) (by omega)
 obtain⟨hV1,hV2,hV3⟩:=hV
 obtain⟨hvm,him⟩:=(hV3 m hml).1 (Nat.zero_le _)
 have hnx:=hT.n
 have hfl5:=hT.fl
 have ho5:=hT.o
 have ixv:=FP (id:=E.next+2) (n:=s.rows.length) (c:=s.rows.length) (i:=m) hml
 have ixb:=TD (id:=E.next+3) (n:=s.rows.length) (c:=s.rows.length) (i:=m) hml
 have lb:AJ m (H5.get (E.next+3))=some (.bool (BZ s.rows (AD (BB s.rows)) size C m).isSome):=by rw[hT.b];exact QF him
 have lv:AJ m (H5.get (E.next+2))=some (iv ((BZ s.rows (AD (BB s.rows)) size C m).getD 0)):=by rw[hT.v];exact MZ hvm
 have gF5:H5.get (h.next+2)=.row [iv 0,iv 0] 36 false false:=by rw[ho5 _ (by omega)];exact gFE
 have eR:D4 nm s size C (m:Int)=(match BZ s.rows (AD (BB s.rows)) size C m with
  | none=>(0,42,(m:Int))
  | some v=>(v,0,0)):=by unfold D4;rw[if_neg (by rw[z1];decide),if_neg (by rw[z2];decide),if_neg (by omega),Int.toNat_natCast]
 rw[eR]
 cases hcm:BZ s.rows (AD (BB s.rows)) size C m with
 | none=>
  rw[hcm] at lb
  obtain⟨H',s1,s2,s3,s4,s5⟩:=MP gF5 (by omega) (by omega) 42 m
  simp only[eE,seval,↓eP,hr,nn,C2,lA,hty,DK,DJ,EO,stD',Nat.zero_add,EW,EV,e0,d1,lAD,EN,lBD,hfit,stE',e1,d2,d3,CL,CK,x1,len1,d4,lAE,lBE,hcon,ixb,FH,lb,Option.isSome_none,IQ,s1,CM,s2]
  exact fun i hi=>by rw[s5 i (by omega),ho5 i (by omega)];exact oEh i hi
 | some v=>
  rw[hcm] at lb lv
  obtain⟨H',s1,s2,s3,s4,s5⟩:=MP gF5 (by omega) (by omega) 0 0
  simp only[eE,seval,↓eP,hr,nn,C2,lA,hty,DK,DJ,EO,stD',Nat.zero_add,EW,EV,e0,d1,lAD,EN,lBD,hfit,stE',e1,d2,d3,CL,CK,x1,len1,d4,lAE,lBE,hcon,ixb,FH,lb,Option.isSome_some,ixv,AT,lv,Option.getD_some,FQ,s1,CM,s2]
  exact fun i hi=>by rw[s5 i (by omega),ho5 i (by omega)];exact oEh i hi
theorem g9 {nm:ByteArray} {s:AL} {pv cv:Value} {lo lc:Nat} {size:Int} {C:List Int} {row:Int} (hp:CE lo h pv nm s) (hc:E3 lc h cv size C) (hlies:∀ nm' vr vq vv vt vu vo m,pv=.agg #[.string nm',vr,vq,vv,vt,vu,vo,m]→IA vr s.rows.length) (hg:h.get 0=CT) (hn0:0<h.next) (hs:IN s) (hl:s.rows.length<2932031007403) (hC:C.length<2932031007403) (hrow:-9223372036854775808≤row∧row≤9223372036854775807) (hfl:h.floor≤h.next) (hn:2*FI s+102000+C.length<n) :
  AS n 20 [pv,cv,iv row] h=some (.tuple #[iv (D4 nm s size C row).1,BR (D4 nm s size C row).2.1 (D4 nm s size C row).2.2],h):=by
 obtain⟨n,rfl⟩:=DF hn
 exact JB (BX ⟨rfl,rfl,rfl⟩) Gn (vR (n:=n) (N:=n) hp hc hlies hg hn0 hs hl hC hrow hfl (by omega) (by omega))
end
noncomputable def CZ (s:AL) (size:Int) (C:List Int) (p:Nat):Int:=(BZ s.rows (AD (BB s.rows)) size C p).getD 0
noncomputable def O7 (s:AL) (size:Int) (C:List Int):(Int × Int) × FJ:=EP s.rows (AD (BB s.rows)) (CZ s size C) s.rows.length 0 ⟨[],[],List.replicate s.rows.length 0⟩
noncomputable def BY (nm:ByteArray) (s:AL) (size:Int) (C:List Int):(Int × Int) × FJ:=
 if (A_ nm s).1.1≠0 then ((A_ nm s).1,TV) else if CU nm s size C≠0 then ((CU nm s size C,0),TV) else O7 s size C
def X4 (H:AA) (lo:Nat) (v:Value) (r:(Int × Int) × FJ):Prop:=∃ tv,v=.tuple #[tv,BR r.1.1 r.1.2]∧G7 lo H tv r.2
section
variable {P:Program} {call:AM} {n:Nat} {a b c p d:Code} {s:St} {k:CO}
theorem uJ (h:WK P call n (.seq a p) s (.seq d k)):WK P call n (.seq a (.seq p d)) s k:=by
 rw[K_] at h ⊢
 refine WS.mono h fun e s1 g=>?_
 cases e with
 | normal=>
  show WK P call n (.seq p d) s1 k
  rw[K_]
  exact g
 | exit i=>exact g
 | ret=>exact g
theorem tQ (h:WK P call n (.seq a (.seq b p)) s (.seq d k)):WK P call n (.seq a (.seq b (.seq p d))) s k:=by
 rw[K_] at h ⊢
 refine WS.mono h fun e s1 g=>?_
 cases e with
 | normal=>exact uJ g
 | exit i=>exact g
 | ret=>exact g
theorem pL (h:WK P call n (.seq a (.seq b (.seq c p))) s (.seq d k)):WK P call n (.seq a (.seq b (.seq c (.seq p d)))) s k:=by
 rw[K_] at h ⊢
 refine WS.mono h fun e s1 g=>?_
 cases e with
 | normal=>exact tQ g
 | exit i=>exact g
 | ret=>exact g
end
theorem mW:BI Tryd.prog 82=some 3:=by kernel_rfl
theorem Db:FB Tryd.prog 82=some true:=by kernel_rfl
section
variable {h:AA} {id off:Nat}
theorem aH:EA Tryd.prog h 82 (qP id off)=AY 3 off (h.get id):=MB Db mW
theorem b9:BF Tryd.prog 82 (qP id off) 0=some (qP id off):=by simp[BF,Tryd.underlying82,C4,CI]
theorem bU:BF Tryd.prog 82 (qP id off) 1=some (qP id (off+1)):=by simp[BF,Tryd.underlying82,C4,CI]
theorem oN:BF Tryd.prog 82 (qP id off) 2=some (qP id (off+2)):=by simp[BF,Tryd.underlying82,C4,CI]
end
def LD (k:Int):Bool:=k==4||(k==5||(k==6||k==13))
def YJ:List (Bool × Bool × List Operand):=[AQ,AK,AH [.tmp 7],AK]
def ZY:List (Bool × Bool × List Operand):=[AQ,AK,AH [.tmp 8],AK]
section
variable {s:AL} {i:Nat} {x:AB}
theorem bS (hG:DN (BB s.rows) s) (hx:s.rows[i]?=some x):(x.kind=4∨x.kind=13→x.kids=3)∧(x.kind=5∨x.kind=6→x.kids=1):=by
 obtain⟨z,hz,h1,h2⟩:=hG.z hx
 have hf:=hG.t.fit hz
 unfold DH at hf
 simp only[Bool.and_eq_true,decide_eq_true_eq,Bool.or_eq_true] at hf
 obtain⟨⟨_,hl⟩,hm⟩:=hf
 rw[← h1,← h2] at hl hm
 refine⟨fun h=>?_,fun h=>?_⟩ <;> (rcases h with h | h <;> (rw[h] at hl hm;rcases hm with hm | hm <;> simp[CV,F7] at hm hl <;> omega))
theorem zS (hG:DN (BB s.rows) s) (hx:s.rows[i]?=some x) (hd:LD x.kind=true) (f:Nat→Int) :
  (x.kind=4→(BE (AD (BB s.rows)) x.kids.toNat (i+1)).map f=[f (i+1),f (AD (BB s.rows) (i+1)),f (AD (BB s.rows) (AD (BB s.rows) (i+1)))])∧((BE (AD (BB s.rows)) x.kids.toNat (i+1)).map f)[0]?=some (f (i+1)):=by
 obtain⟨h3,h1⟩:=bS hG hx
 refine⟨fun h=>?_,?_⟩
 ·rw[h3 (.inl h)]
  rfl
 ·have hk:0<x.kids:=by
   unfold LD at hd
   simp at hd
   rcases hd with h | h | h | h
   ·rw[h3 (.inl h)];decide
   ·rw[h1 (.inl h)];decide
   ·rw[h1 (.inr h)];decide
   ·rw[h3 (.inr h)];decide
  obtain⟨r,hr⟩:∃ r,x.kids.toNat=r+1:=⟨x.kids.toNat-1,by omega⟩
  rw[hr]
  rfl
end
def Gl (B:AA) (RI VI D i:Nat) (h:AA) (vr:Value) (s:AL) (x:AB) (t:FJ) (L:List Int) (e:EI) (s':St):Prop:=
 e=.normal∧s'.T.get 2=qP h.next 0∧s'.T.get 4=qP (h.next+2) 0∧s'.T.get 5=qP (h.next+3) 0∧s'.T.get 9=qS VI s.rows.length s.rows.length∧s'.T.get 11=qP (RI+1) 0∧s'.T.get 52=vr∧s'.T.get 53=iv (s.rows.length:Int)∧s'.T.get 54=iv (i:Int)∧s'.T.get 12=iv (i:Int)∧s'.T.get 13=qP D 0∧s'.T.get 14=iv 0∧IZ B RI s.rows.length s'.h t∧s'.h.get D=.row (AX x) 61 false false∧∃ lv,s'.T.get 15=lv∧AV 0 s'.h lv L
section
variable {n N:Nat} {h:AA}
theorem tO {nm:ByteArray} {s:AL} {pv cv:Value} {lo lc:Nat} {size:Int} {C:List Int} (hp:CE lo h pv nm s) (hc:E3 lc h cv size C) (hlies:∀ nm' vr vq vv vt vu vo m,pv=.agg #[.string nm',vr,vq,vv,vt,vu,vo,m]→IA vr s.rows.length) (hs:IN s) (hl:s.rows.length<2932031007403) (hC:C.length<17592186044416) (hg:h.get 0=CT) (hn0:0<h.next) (hfl:h.floor≤h.next) (hn:2*FI s+101000+C.length<n) (hN:2*FI s+1000<N) :
  ∃ v' h',A7 Tryd.prog (AS n) N 16 [pv,cv] h=some (v',h')∧X4 h' h.next v' (BY nm s size C)∧h'.floor=h.floor∧h.next≤h'.next∧∀ i,i<h.next→h'.get i=h.get i:=by
 obtain⟨vr,vq,vv,vt,vu,vo,rfl,p1,p2,p3,p4,p5,p6⟩:=id hp
 obtain⟨vc,rfl,pc⟩:=id hc
 have hsn:=(FL n).2
 have htot:FI s=s.rows.length+s.queues.length+s.vars.length+s.tags.length+s.rules.length+s.on.length:=rfl
 refine TG (R:=fun v' h'=>X4 h' h.next v' (BY nm s size C)∧h'.floor=h.floor∧h.next≤h'.next∧∀ i,i<h.next→h'.get i=h.get i) Tryd.func16 rfl (by simp[Tryd.f16]) ?_
 have hr:Tryd.f16.results.toList=[.cell 4 43,.cell 5 36]:=rfl
 have ca:=E1 [.string nm,vr,vq,vv,vt,vu,vo,iv s.miss]
 have oa:=J2 (nm:=nm) p1 p2 p3 p4 p5 p6
 have cb:=E1 [iv size,vc]
 have ob:[iv size,vc].all one=true:=by simp only[List.all_cons,List.all_nil,AO.one pc,JW,Bool.and_self]
 have zcT:zT.cells.toList=[Z0,Z0,Z0]:=rfl
 obtain⟨gA,gB,gT,gF,nG,fG,gO⟩:=Ls h (.row [.string nm,vr,vq,vv,vt,vu,vo,iv s.miss] 33 false false) (.row [iv size,vc] 29 false false) (.row [Z0,Z0,Z0] 43 false false) (.row [iv 0,iv 0] 36 false false)
 simp only[eE,seval,↓eP,FW,FD,FY,ca,oa,cb,ob,HT,LY,MG,L7,zcT,DK,DJ,EO]
 generalize (((h.push (.row [.string nm,vr,vq,vv,vt,vu,vo,iv s.miss] 33 false false)).push (.row [iv size,vc] 29 false false)).push (.row [Z0,Z0,Z0] 43 false false)).push (.row [iv 0,iv 0] 36 false false)=Q at *
 have nn:h.next+1+1=h.next+2:=rfl
 have nm3:h.next+2+1=h.next+3:=rfl
 have lA:AY 8 0 (Q.get h.next)=some (.agg #[.string nm,vr,vq,vv,vt,vu,vo,iv s.miss]):=K7 gA rfl
 have hpQ:CE lo Q (.agg #[.string nm,vr,vq,vv,vt,vu,vo,iv s.miss]) nm s:=hp.mono (by omega) fun i _ hi=>gO i hi
 have len1:=fun h'=>NJ p1.2 h'
 obtain⟨v2,H1,hty,⟨tv,hv2,hI⟩,f1,n1,o1⟩:=dN (n:=n) hpQ hlies hs (by omega) (by rw[gO 0 hn0];exact hg) (by omega) (by omega) (by omega)
 subst hv2
 obtain⟨D1,stD,gD,nD,fD,oD⟩:=LG (t:=36) IS (H:=H1) (zs:=[iv 0,iv 0]) (vs:=[iv (A_ nm s).1.1,iv (A_ nm s).1.2]) rfl rfl rfl (by omega)
 have stD':BC Tryd.prog (H1.push (.row [iv 0,iv 0] 36 false false)) 36 (qP H1.next 0) (BR (A_ nm s).1.1 (A_ nm s).1.2)=some D1:=stD
 have oDQ:∀ i,i<Q.next→D1.get i=Q.get i:=fun i hi=>by rw[oD i (by omega),o1 i hi]
 have oDh:∀ i,i<h.next→D1.get i=h.get i:=fun i hi=>by rw[oDQ i (by omega)];exact gO i hi
 have e0:AJ 0 (D1.get H1.next)=some (iv (A_ nm s).1.1):=by rw[gD];rfl
 have gTD:D1.get (h.next+2)=.row [Z0,Z0,Z0] 43 false false:=by rw[oDQ _ (by omega)];exact gT
 have gFD:D1.get (h.next+3)=.row [iv 0,iv 0] 36 false false:=by rw[oDQ _ (by omega)];exact gF
 have lAD:AY 8 0 (D1.get h.next)=some (.agg #[.string nm,vr,vq,vv,vt,vu,vo,iv s.miss]):=by rw[oDQ _ (by omega)];exact lA
 have lBD:AY 2 0 (D1.get (h.next+1))=some (.agg #[iv size,vc]):=by rw[oDQ _ (by omega),gB];rfl
 have hpD:CE lo D1 (.agg #[.string nm,vr,vq,vv,vt,vu,vo,iv s.miss]) nm s:=hp.mono (by omega) fun i _ hi=>oDh i hi
 have hcD:E3 lc D1 (.agg #[iv size,vc]) size C:=hc.mono (by omega) fun i _ hi=>oDh i hi
 cases d1:((A_ nm s).1.1 != 0) with
 | true=>
  have eR:BY nm s size C=((A_ nm s).1,TV):=by unfold BY;rw[if_pos (by simpa using d1)]
  rw[eR]
  obtain⟨G1,G2,s1,s2,s3,s4,s5,s6,s7,s8,s9,sa,sb⟩:=NI gTD gFD (by omega) (by omega) (N5 (h.next+2+2) D1) (A_ nm s).1.1 (A_ nm s).1.2
  rw[nm3] at s2 s4
  have lD:AY 2 0 (D1.get H1.next)=some (BR (A_ nm s).1.1 (A_ nm s).1.2):=by rw[gD];rfl
  have hne:(CN (qP H1.next 0) != CN (qP (h.next+2) 0))=true:=by simp[CN];omega
  have fH1:G1.fl D1.floor=G1:=by rw[← s8];exact HN G1
  have fH2:G2.fl D1.floor=G2:=by rw[← s9];exact HN G2
  have fH3:G2.fl G1.floor=G2:=by rw[s8,← s9];exact HN G2
  simp only[eE,seval,↓eP,nn,nm3,C2,lA,hty,DK,DJ,EO,stD',EW,EV,e0,d1]
  refine WK.flags (fs:=YJ) (by kernel_rfl) ?_
  unfold YJ
  iterate 4
   refine EC hsn ?_
   simp only[rG,seval,AC,AF,AE,C0,DW,CR,DD,EG,List.map_nil,I3,N0,CM,lD,hne,s1,fH1,s2,fH3]
  refine EF ?_
  simp only[eE,seval,↓eP,hr,KV,s3,CM,s4]
  exact⟨⟨_,rfl,s5.weak (by omega)⟩,by omega,by omega,fun i hi=>by rw[sb i (by omega)];exact oDh i hi⟩
 | false=>
 have z1:(A_ nm s).1.1=0:=by simpa using d1
 obtain⟨hck,hG,hO,hz2⟩:=WA z1
 have hfit:=RK (n:=n) hpD hcD hlies (by omega) (by rw[oDh 0 hn0];exact hg) (by omega) hs (by omega) (by omega) (by omega)
 obtain⟨E,stE,gE,nE,fE,oE⟩:=LG (t:=36) IS (H:=D1) (zs:=[iv 0,iv 0]) (vs:=[iv (CU nm s size C),iv 0]) rfl rfl rfl (by omega)
 have stE':BC Tryd.prog (D1.push (.row [iv 0,iv 0] 36 false false)) 36 (qP D1.next 0) (BR (CU nm s size C) 0)=some E:=stE
 have e1:AJ 0 (E.get D1.next)=some (iv (CU nm s size C)):=by rw[gE];rfl
 have oEh:∀ i,i<h.next→E.get i=h.get i:=fun i hi=>by rw[oE i (by omega)];exact oDh i hi
 have gTE:E.get (h.next+2)=.row [Z0,Z0,Z0] 43 false false:=by rw[oE _ (by omega)];exact gTD
 have gFE:E.get (h.next+3)=.row [iv 0,iv 0] 36 false false:=by rw[oE _ (by omega)];exact gFD
 cases d2:(CU nm s size C != 0) with
 | true=>
  have eR:BY nm s size C=((CU nm s size C,0),TV):=by unfold BY;rw[if_neg (by rw[z1];decide),if_pos (by simpa using d2)]
  rw[eR]
  obtain⟨G1,G2,s1,s2,s3,s4,s5,s6,s7,s8,s9,sa,sb⟩:=NI gTE gFE (by omega) (by omega) (N5 (h.next+2+2) E) (CU nm s size C) 0
  rw[nm3] at s2 s4
  have lE:AY 2 0 (E.get D1.next)=some (BR (CU nm s size C) 0):=by rw[gE];rfl
  have hne:(CN (qP D1.next 0) != CN (qP (h.next+2) 0))=true:=by simp[CN];omega
  have fH1:G1.fl E.floor=G1:=by rw[← s8];exact HN G1
  have fH2:G2.fl E.floor=G2:=by rw[← s9];exact HN G2
  have fH3:G2.fl G1.floor=G2:=by rw[s8,← s9];exact HN G2
  simp only[eE,seval,↓eP,nn,nm3,C2,lA,hty,DK,DJ,EO,stD',EW,EV,e0,d1,lAD,EN,lBD,hfit,stE',e1,d2]
  refine WK.flags (fs:=ZY) (by kernel_rfl) ?_
  unfold ZY
  iterate 4
   refine EC hsn ?_
   simp only[rG,seval,AC,AF,AE,C0,DW,CR,DD,EG,List.map_nil,I3,N0,CM,lE,hne,s1,fH1,s2,fH3]
  refine EF ?_
  simp only[eE,seval,↓eP,hr,KV,s3,CM,s4]
  exact⟨⟨_,rfl,s5.weak (by omega)⟩,by omega,by omega,fun i hi=>by rw[sb i (by omega)];exact oEh i hi⟩
 | false=>
 have z2:CU nm s size C=0:=by simpa using d2
 have hF:=WX z2
 have eR:BY nm s size C=O7 s size C:=by unfold BY;rw[if_neg (by rw[z1];decide),if_neg (by rw[z2];decide)]
 rw[eR]
 have lAE:AY 8 0 (E.get h.next)=some (.agg #[.string nm,vr,vq,vv,vt,vu,vo,iv s.miss]):=by rw[oE _ (by omega)];exact lAD
 have lBE:AY 2 0 (E.get (h.next+1))=some (.agg #[iv size,vc]):=by rw[oE _ (by omega)];exact lBD
 obtain⟨B,hcon,Pp,CC,V,I,hT,hV⟩:=kV (n:=n) (h:=E) hG hF (hp.mono (by omega) fun i _ hi=>oEh i hi) (hc.mono (by omega) fun i _ hi=>oEh i hi) hl (by omega) (by omega)
 obtain⟨hV1,hV2,hV3⟩:=hV
 have hmal:∀ p,p<s.rows.length→V[p]?=some (CZ s size C p):=fun p hp=>((hV3 p hp).1 (Nat.zero_le _)).1
 have nB:=hT.n
 have fB:=hT.fl
 have gV:=hT.v
 have oBh:∀ i,i<h.next→B.get i=h.get i:=fun i hi=>by rw[hT.o i (by omega)];exact oEh i hi
 have gAB:B.get h.next=.row [.string nm,vr,vq,vv,vt,vu,vo,iv s.miss] 33 false false:=by rw[hT.o _ (by omega),oE _ (by omega),oDQ _ (by omega)];exact gA
 have gTB:B.get (h.next+2)=.row [Z0,Z0,Z0] 43 false false:=by rw[hT.o _ (by omega)];exact gTE
 have gFB:B.get (h.next+3)=.row [iv 0,iv 0] 36 false false:=by rw[hT.o _ (by omega)];exact gFE
 have x1:AJ 1 (B.get h.next)=some vr:=by rw[gAB];rfl
 have LL:GW Tryd.prog B 27 (iv (s.rows.length:Int)) (iv (s.rows.length:Int))=some (qS B.next s.rows.length s.rows.length,B.push (.row (ints (List.replicate s.rows.length 0)) 3 false false)):=by
  have:=R2 (P:=Tryd.prog) (h:=B) (t:=27) (e:=3) (z:=.int .i64 0) Tryd.underlying27 C4 J7 IB rfl rfl (by decide) (by decide) (n:=s.rows.length) (by omega)
  rw[show BW (Value.int IntKind.i64 0).cells.toList s.rows.length=ints (List.replicate s.rows.length 0) from R_ _] at this
  exact this
 obtain⟨H7,stT,g7,n7,f7,o7⟩:=LG (t:=43) P_ (H:=B.push (.row (ints (List.replicate s.rows.length 0)) 3 false false)) (zs:=[Z0,Z0,Z0]) (vs:=[Z0,Z0,qS B.next s.rows.length s.rows.length]) rfl rfl rfl (by show B.floor≤B.next+1;omega)
 rw[CB] at g7 n7 o7
 have stT':BC Tryd.prog ((B.push (.row (ints (List.replicate s.rows.length 0)) 3 false false)).push (.row [Z0,Z0,Z0] 43 false false)) 43 (qP (B.next+1) 0) (.agg #[Z0,Z0,qS B.next s.rows.length s.rows.length])=some H7:=stT
 have o7B:∀ i,i<B.next→H7.get i=B.get i:=fun i hi=>by rw[o7 i (by omega),AR hi]
 have x7:AJ 1 (H7.get h.next)=some vr:=by rw[o7B _ (by omega)];exact x1
 have hK0:IZ B B.next s.rows.length H7 ⟨[],[],List.replicate s.rows.length 0⟩:=⟨by rw[o7 _ (by omega)];exact BP,List.length_replicate,⟨_,_,g7,.inl ⟨rfl,rfl,rfl⟩,.inl ⟨rfl,rfl,rfl⟩⟩,by omega,f7,o7B⟩
 simp only[eE,seval,↓eP,nn,nm3,C2,lA,hty,DK,DJ,EO,stD',Nat.zero_add,EW,EV,e0,d1,lAD,EN,lBD,hfit,stE',e1,d2,lAE,lBE,hcon,CL,CK,x1,len1,LL,x8,MG,L7,zcT,CB,stT',x7]
 clear stT stT' g7 o7 LL x7 hfit hty stD stD' stE stE' e0 e1 hcon
 obtain⟨t0,ht0⟩:∃ t0:FJ,t0=⟨[],[],List.replicate s.rows.length 0⟩:=⟨_,rfl⟩
 have eG:O7 s size C=EP s.rows (AD (BB s.rows)) (CZ s size C) s.rows.length 0 t0:=by rw[ht0];rfl
 rw[← ht0] at hK0
 have hv0:t0.V.length=0∧t0.G.length=0:=by rw[ht0];exact⟨rfl,rfl⟩
 clear ht0
 obtain⟨RI,hRI⟩:∃ RI,RI=B.next:=⟨_,rfl⟩
 obtain⟨VI,hVI⟩:∃ VI,VI=E.next+2:=⟨_,rfl⟩
 rw[← hRI] at hK0 ⊢
 rw[← hVI] at gV ⊢
 have hb1:h.next+4≤VI∧VI<RI∧B.floor≤RI∧B.floor=h.floor:=by omega
 clear nB fB hT hpD hcD hpQ lAE lBE gTE gFE gTD gFD oE oD o1 gE gD
 refine WK.loop (fun i s'=>s'.T.get 2=qP h.next 0∧s'.T.get 4=qP (h.next+2) 0∧s'.T.get 5=qP (h.next+3) 0∧s'.T.get 9=qS VI s.rows.length s.rows.length∧s'.T.get 11=qP (RI+1) 0∧s'.T.get 52=vr∧s'.T.get 53=iv (s.rows.length:Int)∧s'.T.get 54=iv (i:Int)∧i≤s.rows.length∧∃ t,IZ B RI s.rows.length s'.h t∧EP s.rows (AD (BB s.rows)) (CZ s size C) (s.rows.length-i) i t=O7 s size C∧t.V.length≤i∧t.G.length≤i) s.rows.length (by omega) ?_ ?_
 ·exact⟨by simp only[eE,seval,↓eP,rP],by simp only[eE,seval,↓eP,rP],by simp only[eE,seval,↓eP,rP],by simp only[eE,seval,↓eP,rP],by simp only[eE,seval,↓eP,rP],by simp only[eE,seval,↓eP,rP],by simp only[eE,seval,↓eP,rP],by simp only[eE,seval,↓eP,rP] <;> rfl,by omega,t0,hK0,eG.symm,by omega,by omega⟩
 rintro i ⟨T,H⟩ hi ⟨t2,t4,t5,t9,t11,t52,t53,t54,hil,t,hK,hgo,htV,htG⟩
 simp only at t2 t4 t5 t9 t11 t52 t53 t54 hK
 have hnK:=hK.n
 have hfK:=hK.fl
 have oKh:∀ j,j<h.next→H.get j=h.get j:=fun j hj=>by rw[hK.o j (by omega)];exact oBh j hj
 by_cases hlt:i<s.rows.length
 rotate_left
 ·have c1:decide ((i:Int)<(s.rows.length:Int))=false:=by simp;omega
  have hin:i=s.rows.length:=by omega
  subst hin
  have eZ:O7 s size C=((0,0),t):=by rw[← hgo,Nat.sub_self];rfl
  rw[eZ]
  obtain⟨v,k1,k2,k3⟩:=hK.typed
  obtain⟨G1,G2,s1,s2,s3,s4,s5,s6,s7,s8,s9,sa,sb⟩:=NI (H:=H) (a:=h.next+2) (by rw[hK.o _ (by omega)];exact gTB) (by rw[hK.o _ (by omega)];exact gFB) (by omega) (by omega) (k2.weak (by omega)) 0 0
  rw[nm3] at s2 s4
  simp only[eE,seval,↓eP,hr,t4,t5,t11,t53,t54,c1,KV,k1,FQ,s1,s2,s3,CM,s4]
  exact⟨⟨_,rfl,s5.weak (by omega)⟩,by omega,by omega,fun j hj=>by rw[sb j (by omega)];exact oKh j hj⟩
 have c1:decide ((i:Int)<(s.rows.length:Int))=true:=by simp;omega
 obtain⟨x,hx⟩:∃ x,s.rows[i]?=some x:=⟨_,List.getElem?_eq_getElem hlt⟩
 obtain⟨r,hr1⟩:∃ r,s.rows.length-i=r+1:=⟨s.rows.length-i-1,by omega⟩
 rw[hr1] at hgo
 have hri:s.rows.length-(i+1)=r:=by omega
 have hvH:A9 H vr s.rows:=p1.1.mono (by omega) oKh
 obtain⟨ia,pa,ea,hia,_,_,_,_,_,la⟩:=hvH.row hx
 have fz:flat (CF KS)=true:=rfl
 obtain⟨H2,stX,gX,n2,f2,o2⟩:=LG (t:=61) GC (H:=H) (zs:=AX KS) (vs:=AX x) rfl rfl rfl (by omega)
 have stX':BC Tryd.prog (H.push (.row (AX KS) 61 false false)) 61 (qP H.next 0) (CF x)=some H2:=stX
 have hK2:=hK.mono (H':=H2) (by omega) f2 o2
 have y0:AJ 0 (H2.get H.next)=some (iv x.kind):=by rw[gX];rfl
 have w1:=E_ i (by omega)
 simp only[TT,seval,↓eP,t53,t54,c1]
 rw[S_]
 refine pL ?_
 obtain⟨D,hD⟩:∃ D,D=H.next:=⟨_,rfl⟩
 obtain⟨L,hL⟩:∃ L:List Int,L=if LD x.kind=true then (BE (AD (BB s.rows)) x.kids.toNat (i+1)).map (CZ s size C) else []:=⟨_,rfl⟩
 refine TN (Gl B RI VI D i h vr s x t L) ?_ ?_
 ·refine pL ?_
  refine TN (fun e s'=>e=.normal∧s'.h=H2∧s'.T.get 2=qP h.next 0∧s'.T.get 4=qP (h.next+2) 0∧s'.T.get 5=qP (h.next+3) 0∧s'.T.get 9=qS VI s.rows.length s.rows.length∧s'.T.get 11=qP (RI+1) 0∧s'.T.get 52=vr∧s'.T.get 53=iv (s.rows.length:Int)∧s'.T.get 54=iv (i:Int)∧s'.T.get 12=iv (i:Int)∧s'.T.get 13=qP D 0∧s'.T.get 14=iv 0∧s'.T.get 15=Z0∧s'.T.get 76=.bool (LD x.kind)) ?_ ?_
  ·cases c4:(x.kind==4) with
   | true=>
    simp only[eE,seval,↓eP,t2,t4,t5,t9,t11,t52,t53,t54,ea,HW,la,Fsx,fz,zr,stX',CX,AT,y0,c4,LD,Bool.true_or,hD]
   | false=>
   cases c5:(x.kind==5) with
   | true=>
    simp only[eE,seval,↓eP,t2,t4,t5,t9,t11,t52,t53,t54,ea,HW,la,Fsx,fz,zr,stX',CX,AT,y0,c4,c5,LD,Bool.true_or,Bool.false_or,hD]
   | false=>
   cases c6:(x.kind==6) with
   | true=>
    simp only[eE,seval,↓eP,t2,t4,t5,t9,t11,t52,t53,t54,ea,HW,la,Fsx,fz,zr,stX',CX,AT,y0,c4,c5,c6,LD,Bool.true_or,Bool.false_or,hD]
   | false=>
    simp only[eE,seval,↓eP,t2,t4,t5,t9,t11,t52,t53,t54,ea,HW,la,Fsx,fz,zr,stX',CX,AT,y0,c4,c5,c6,LD,Bool.false_or,hD]
  rintro e ⟨T3,HH⟩ ⟨rfl,hh,u2,u4,u5,u9,u11,u52,u53,u54,u12,u13,u14,u15,u76⟩
  simp only at hh u2 u4 u5 u9 u11 u52 u53 u54 u12 u13 u14 u15 u76
  subst hh
  cases hd:LD x.kind with
  | false=>
   rw[hd] at u76
   have hL0:L=[]:=by rw[hL,if_neg (by rw[hd];decide)]
   simp only[eE,seval,↓eP,u76]
   exact⟨rfl,by simp only[eE,seval,↓eP,rP,u2],by simp only[eE,seval,↓eP,rP,u4],by simp only[eE,seval,↓eP,rP,u5],by simp only[eE,seval,↓eP,rP,u9],by simp only[eE,seval,↓eP,rP,u11],by simp only[eE,seval,↓eP,rP,u52],by simp only[eE,seval,↓eP,rP,u53],by simp only[eE,seval,↓eP,rP,u54],by simp only[eE,seval,↓eP,rP,u12],by simp only[eE,seval,↓eP,rP,u13],by simp only[eE,seval,↓eP,rP,u14],hK2,by rw[hD];exact gX,_,u15,by rw[hL0];exact AO.nil 0 _ 1⟩
  | true=>
   rw[hd] at u76
   have hL1:L=(BE (AD (BB s.rows)) x.kids.toNat (i+1)).map (CZ s size C):=by rw[hL,if_pos hd]
   have x2:AJ 1 (HH.get h.next)=some vr:=by rw[o2 _ (by omega),hK.o _ (by omega)];exact x1
   have hv2:A9 HH vr s.rows:=p1.1.mono (by omega) fun j hj=>by rw[o2 j (by omega)];exact oKh j hj
   obtain⟨zz,hzz,_,hzk⟩:=hG.z hx
   obtain⟨kv,H5,hkids,hkL,f5,n5,o5⟩:=XZ (n:=n) hG.t hG.sk hv2 hzz (by omega) (by omega) (by omega)
   rw[← hzk] at hkL
   have hkc:=hkL.ints (Nat.le_refl _)
   have lenK:=fun h'=>I_ hkc h'
   have hkl:((BE (AD (BB s.rows)) x.kids.toNat (i+1)).map (fun (k:Nat)=>(k:Int))).length=x.kids.toNat:=by rw[List.length_map,NV]
   obtain⟨k0,hch,hel,hei⟩:=hG.kids0 hx
   rw[hkl,show ((x.kids.toNat:Nat):Int)=x.kids by omega] at lenK
   have hK5:=hK2.mono (H':=H5) (by omega) f5 o5
   have gX5:H5.get D=.row (AX x) 61 false false:=by rw[o5 D (by omega),hD];exact gX
   have gV5:∀ j,j<RI→H5.get j=B.get j:=hK5.o
   simp only[eE,seval,↓eP,u2,u12,u76,Nat.zero_add,CL,CK,x2,hkids,lenK]
   generalize hks:BE (AD (BB s.rows)) x.kids.toNat (i+1)=ks at *
   have hksl:ks.length=x.kids.toNat:=by rw[← hks,NV]
   have hk3:x.kids≤3:=by
    obtain⟨q3,q1⟩:=bS hG hx
    unfold LD at hd
    simp at hd
    rcases hd with h | h | h | h
    ·rw[q3 (.inl h)];decide
    ·rw[q1 (.inl h)];decide
    ·rw[q1 (.inr h)];decide
    ·rw[q3 (.inr h)];decide
   refine WK.loop (fun q s'=>s'.T.get 2=qP h.next 0∧s'.T.get 4=qP (h.next+2) 0∧s'.T.get 5=qP (h.next+3) 0∧s'.T.get 9=qS VI s.rows.length s.rows.length∧s'.T.get 11=qP (RI+1) 0∧s'.T.get 52=vr∧s'.T.get 53=iv (s.rows.length:Int)∧s'.T.get 54=iv (i:Int)∧s'.T.get 12=iv (i:Int)∧s'.T.get 13=qP D 0∧s'.T.get 14=iv 0∧s'.T.get 80=kv∧s'.T.get 81=iv x.kids∧s'.T.get 82=iv (q:Int)∧q≤x.kids.toNat∧H5.next≤s'.h.next∧s'.h.floor=H5.floor∧(∀ j,j<H5.next→s'.h.get j=H5.get j)∧∃ w,s'.T.get 15=w∧IX s'.h H5.next w ((ks.take q).map (CZ s size C))) x.kids.toNat (by omega) ?_ ?_
   ·exact⟨by simp only[eE,seval,↓eP,rP,u2],by simp only[eE,seval,↓eP,rP,u4],by simp only[eE,seval,↓eP,rP,u5],by simp only[eE,seval,↓eP,rP,u9],by simp only[eE,seval,↓eP,rP,u11],by simp only[eE,seval,↓eP,rP,u52],by simp only[eE,seval,↓eP,rP,u53],by simp only[eE,seval,↓eP,rP,u54],by simp only[eE,seval,↓eP,rP,u12],by simp only[eE,seval,↓eP,rP,u13],by simp only[eE,seval,↓eP,rP,u14],by simp only[eE,seval,↓eP,rP],by simp only[eE,seval,↓eP,rP],by simp only[eE,seval,↓eP,rP] <;> rfl,by omega,Nat.le_refl _,rfl,fun _ _=>rfl,Z0,by simp only[eE,seval,↓eP,rP,u15],.inl ⟨rfl,rfl⟩⟩
   rintro q ⟨T4,H6⟩ hq ⟨w2,w4,w5,w9,w11,w52,w53,w54,w12,w13,w14,w80,w81,w82,hqk,n6,f6,o6,w,w15,hLq⟩
   simp only at w2 w4 w5 w9 w11 w52 w53 w54 w12 w13 w14 w80 w81 w82 n6 f6 o6 w15 hLq
   by_cases hql:q<x.kids.toNat
   rotate_left
   ·have c3:decide ((q:Int)<x.kids)=false:=by simp;omega
    have hq9:q=x.kids.toNat:=by omega
    subst hq9
    rw[List.take_of_length_le (by omega)] at hLq
    simp only[eE,seval,↓eP,w81,w82,c3]
    exact⟨rfl,by simp only[eE,seval,↓eP,rP,w2],by simp only[eE,seval,↓eP,rP,w4],by simp only[eE,seval,↓eP,rP,w5],by simp only[eE,seval,↓eP,rP,w9],by simp only[eE,seval,↓eP,rP,w11],by simp only[eE,seval,↓eP,rP,w52],by simp only[eE,seval,↓eP,rP,w53],by simp only[eE,seval,↓eP,rP,w54],by simp only[eE,seval,↓eP,rP,w12],by simp only[eE,seval,↓eP,rP,w13],by simp only[eE,seval,↓eP,rP,w14],hK5.mono n6 f6 o6,by rw[o6 D (by omega)];exact gX5,_,by simp only[eE,seval,↓eP,rP,w15];rfl,by rw[hL1];exact hLq.ints (Nat.zero_le _)⟩
   have c3:decide ((q:Int)<x.kids)=true:=by simp;omega
   obtain⟨p,hpk⟩:∃ p,ks[q]?=some p:=⟨_,List.getElem?_eq_getElem (by omega)⟩
   obtain⟨hip,hpl⟩:=hG.kid (k:=q) hx (by rw[hks];exact hpk)
   have hkc6:AV HH.next H6 kv (ks.map (fun (k:Nat)=>(k:Int))):=AV.mono hkc (by omega) fun j h1 h2=>o6 j h2
   obtain⟨ip,pp,ep,hip2,lp⟩:=AV.get hkc6 (i:=q) (x:=(p:Int)) (by rw[List.getElem?_map,hpk];rfl)
   have wq:=E_ q (by omega)
   have jxv:=FP (id:=VI) (n:=s.rows.length) (c:=s.rows.length) (i:=p) hpl
   have lv:AJ p (H6.get VI)=some (iv (CZ s size C p)):=by rw[o6 VI (by omega),gV5 VI (by omega),gV];exact MZ (hmal p hpl)
   obtain⟨w',H7,happ,hL',f7',n7',o7'⟩:=aB (x:=CZ s size C p) hLq (by omega) (by omega) (by rw[List.length_map,List.length_take];omega)
   have etk:ks.take (q+1)=ks.take q++[p]:=by rw[List.take_add_one,hpk];rfl
   have emap:(ks.take q).map (CZ s size C)++[CZ s size C p]=(ks.take (q+1)).map (CZ s size C):=by rw[etk,List.map_append];rfl
   rw[emap] at hL'
   simp only[eE,seval,↓eP,w2,w4,w5,w9,w11,w52,w53,w54,w12,w13,w14,w15,w80,w81,w82,c3,ep,AT,lp,jxv,lv,NQ,happ,wq]
   exact⟨hql,by omega,by omega,by omega,fun j hj=>by rw[o7' j (by omega)];exact o6 j hj,hL'⟩
 rintro e ⟨T3,H3⟩ ⟨rfl,v2,v4,v5,v9,v11,v52,v53,v54,v12,v13,v14,hK3,gX3,lv,v15,hLi⟩
 simp only at v2 v4 v5 v9 v11 v52 v53 v54 v12 v13 v14 hK3 gX3 v15 hLi
 have nK3:=hK3.n
 have fK3:=hK3.fl
 have oK3:∀ H':AA,(∀ j,j<RI→H'.get j=B.get j)→∀ j,j<h.next→H'.get j=h.get j:=fun H' hH j hj=>by rw[hH j (by omega)];exact oBh j hj
 have yk:AJ 0 (H3.get D)=some (iv x.kind):=by rw[gX3];rfl
 have hlist:=fun hd=>zS hG hx hd (CZ s size C)
 have hLd:∀ hd:LD x.kind=true,(x.kind=4→L=[CZ s size C (i+1),CZ s size C (AD (BB s.rows) (i+1)),CZ s size C (AD (BB s.rows) (AD (BB s.rows) (i+1)))])∧L[0]?=some (CZ s size C (i+1)):=fun hd=>by
  rw[hL,if_pos hd]
  exact hlist hd
 have htell:=Au (n:=n) (h:=H3) (k:=x.kind) hLi (fun h9=>by rw[(hLd (by rw[h9];rfl)).1 h9];simp) (fun h9=>by
  have:=(List.getElem?_eq_some_iff.1 (hLd (by unfold LD;simp;omega)).2).1
  omega) (by omega)
 clear hL
 generalize hma:CZ s size C (i+1)=ma at *
 generalize hmb:CZ s size C (AD (BB s.rows) (i+1))=mb at *
 generalize hmc:CZ s size C (AD (BB s.rows) (AD (BB s.rows) (i+1)))=mc at *
 by_cases k4:x.kind=4
 ·have hL4:=(hLd (by rw[k4];rfl)).1 k4
  have eT:GE x.kind L=.iface 82 (FE ma mb mc):=by unfold GE;rw[if_pos k4,hL4];rfl
  have zcV:(FE 0 0 0).cells.toList=[iv 0,iv 0,iv 0]:=rfl
  obtain⟨H4,st4,g4,n4,f4,o4⟩:=LG (t:=82) mW (H:=H3) (zs:=[iv 0,iv 0,iv 0]) (vs:=[iv ma,iv mb,iv mc]) rfl rfl rfl (by omega)
  have hK4:=hK3.mono (H':=H4) (by omega) f4 o4
  have l40:AJ 0 (H4.get H3.next)=some (iv ma):=by rw[g4];rfl
  have l41:AJ 1 (H4.get H3.next)=some (iv mb):=by rw[g4];rfl
  have l42:AJ 2 (H4.get H3.next)=some (iv mc):=by rw[g4];rfl
  have lV:AY 3 0 (H4.get H3.next)=some (FE ma mb mc):=by rw[g4];rfl
  obtain⟨ov,nv,G1,G2,q1,q2,q3,q4,q5⟩:=hK4.addV (by omega) (by omega) ma mb mc
  cases dA:decide (ma<mb) with
  | true=>
   have hA:ma<mb:=by simpa using dA
   obtain⟨K1,K2,s1,s2,s3,s4,s5,s6,s7,s8,s9,sa,sb⟩:=NI (H:=G2) (a:=h.next+2) (by rw[q4.o _ (by omega)];exact gTB) (by rw[q4.o _ (by omega)];exact gFB) (by have:=q4.n;omega) (by have:=q4.fl;omega) (N5 (h.next+2+2) G2) 43 (i:Int)
   rw[nm3] at s2 s4
   rw[← hgo,NB hx (b:=43) (by unfold DY;rw[if_pos k4,hma,hmb,hmc,if_pos (.inl hA)]) (by decide)]
   simp only[eE,seval,↓eP,hr,v4,v5,v11,v12,v13,v15,yk,CX,AT,Nat.zero_add,htell,eT,YI,V5,VB,zcV,st4,b9,bU,l40,l41,N_,NU,q1,aH,lV,X7,q2,q3,dA,N0,IQ,s1,s2,KV,s3,CM,s4]
   exact⟨⟨_,rfl,s5.weak (by omega)⟩,by have:=q4.fl;omega,by have:=q4.n;omega,fun j hj=>by rw[sb j (by omega)];exact oK3 _ q4.o j hj⟩
  | false=>
  have hA:¬ ma<mb:=by simpa using dA
  cases dB:decide (ma>mc) with
  | true=>
   have hB:ma>mc:=by simpa using dB
   obtain⟨K1,K2,s1,s2,s3,s4,s5,s6,s7,s8,s9,sa,sb⟩:=NI (H:=G2) (a:=h.next+2) (by rw[q4.o _ (by omega)];exact gTB) (by rw[q4.o _ (by omega)];exact gFB) (by have:=q4.n;omega) (by have:=q4.fl;omega) (N5 (h.next+2+2) G2) 43 (i:Int)
   rw[nm3] at s2 s4
   rw[← hgo,NB hx (b:=43) (by unfold DY;rw[if_pos k4,hma,hmb,hmc,if_pos (.inr hB)]) (by decide)]
   simp only[eE,seval,↓eP,hr,v4,v5,v11,v12,v13,v15,yk,CX,AT,Nat.zero_add,htell,eT,YI,V5,VB,zcV,st4,b9,bU,oN,l40,l41,l42,N_,NU,q1,aH,lV,X7,q2,q3,dA,dB,N0,IQ,s1,s2,KV,s3,CM,s4]
   exact⟨⟨_,rfl,s5.weak (by omega)⟩,by have:=q4.fl;omega,by have:=q4.n;omega,fun j hj=>by rw[sb j (by omega)];exact oK3 _ q4.o j hj⟩
  | false=>
   have hB:¬ ma>mc:=by simpa using dB
   have es:DY (AD (BB s.rows)) (CZ s size C) i x t=(0,{ t with V:=t.V++[(ma,mb,mc)] }):=by unfold DY;rw[if_pos k4,hma,hmb,hmc,if_neg (by omega)]
   rw[OU hx (by rw[es]),es] at hgo
   simp only[eE,seval,↓eP,v2,v4,v5,v9,v11,v52,v53,v54,v13,v14,v15,yk,CX,AT,Nat.zero_add,htell,eT,YI,V5,VB,zcV,st4,b9,bU,oN,l40,l41,l42,N_,NU,q1,aH,lV,X7,q2,q3,dA,dB,w1]
   exact⟨hlt,by omega,_,q4,by rw[hri];exact hgo,by simp;omega,by show t.G.length≤_;omega⟩
 by_cases k5:x.kind=5
 ·have hL0:=(hLd (by rw[k5];rfl)).2
  have eT:GE x.kind L=.iface 83 (iv ma):=by unfold GE;rw[if_neg k4,if_pos k5,N8 hL0]
  obtain⟨ov,nv,G1,G2,q1,q2,q3,q4,q5⟩:=hK3.addG (by omega) (by omega) ma
  cases dA:decide (ma<1) with
  | true=>
   have hA:ma<1:=by simpa using dA
   obtain⟨K1,K2,s1,s2,s3,s4,s5,s6,s7,s8,s9,sa,sb⟩:=NI (H:=G2) (a:=h.next+2) (by rw[q4.o _ (by omega)];exact gTB) (by rw[q4.o _ (by omega)];exact gFB) (by have:=q4.n;omega) (by have:=q4.fl;omega) (N5 (h.next+2+2) G2) 43 (i:Int)
   rw[nm3] at s2 s4
   rw[← hgo,NB hx (b:=43) (by unfold DY;rw[if_neg k4,if_pos k5,hma,if_pos (.inl hA)]) (by decide)]
   simp only[eE,seval,↓eP,hr,v4,v5,v11,v12,v13,v15,yk,CX,AT,Nat.zero_add,htell,eT,ZP,YA,RS,DB,Nat.zero_add,q1,NQ,q2,q3,dA,N0,IQ,s1,s2,KV,s3,CM,s4]
   exact⟨⟨_,rfl,s5.weak (by omega)⟩,by have:=q4.fl;omega,by have:=q4.n;omega,fun j hj=>by rw[sb j (by omega)];exact oK3 _ q4.o j hj⟩
  | false=>
  have hA:¬ ma<1:=by simpa using dA
  cases dB:decide (ma>255) with
  | true=>
   have hB:ma>255:=by simpa using dB
   obtain⟨K1,K2,s1,s2,s3,s4,s5,s6,s7,s8,s9,sa,sb⟩:=NI (H:=G2) (a:=h.next+2) (by rw[q4.o _ (by omega)];exact gTB) (by rw[q4.o _ (by omega)];exact gFB) (by have:=q4.n;omega) (by have:=q4.fl;omega) (N5 (h.next+2+2) G2) 43 (i:Int)
   rw[nm3] at s2 s4
   rw[← hgo,NB hx (b:=43) (by unfold DY;rw[if_neg k4,if_pos k5,hma,if_pos (.inr hB)]) (by decide)]
   simp only[eE,seval,↓eP,hr,v4,v5,v11,v12,v13,v15,yk,CX,AT,Nat.zero_add,htell,eT,ZP,YA,RS,DB,Nat.zero_add,q1,NQ,q2,q3,dA,dB,N0,IQ,s1,s2,KV,s3,CM,s4]
   exact⟨⟨_,rfl,s5.weak (by omega)⟩,by have:=q4.fl;omega,by have:=q4.n;omega,fun j hj=>by rw[sb j (by omega)];exact oK3 _ q4.o j hj⟩
  | false=>
   have hB:¬ ma>255:=by simpa using dB
   have es:DY (AD (BB s.rows)) (CZ s size C) i x t=(0,{ t with G:=t.G++[ma] }):=by unfold DY;rw[if_neg k4,if_pos k5,hma,if_neg (by omega)]
   rw[OU hx (by rw[es]),es] at hgo
   simp only[eE,seval,↓eP,v2,v4,v5,v9,v11,v52,v53,v54,v13,v14,v15,yk,CX,AT,Nat.zero_add,htell,eT,ZP,YA,RS,DB,Nat.zero_add,q1,NQ,q2,q3,dA,dB,w1]
   exact⟨hlt,by omega,_,q4,by rw[hri];exact hgo,by show t.V.length≤_;omega,by simp;omega⟩
 by_cases k6:x.kind=6
 ·have hL0:=(hLd (by rw[k6];rfl)).2
  have eT:GE x.kind L=.iface 84 (.bool (ma != 0)):=by unfold GE;rw[if_neg k4,if_neg k5,if_pos k6,N8 hL0]
  cases dA:(ma != 0) with
  | false=>
   have hA:ma=0:=by simpa using dA
   obtain⟨K1,K2,s1,s2,s3,s4,s5,s6,s7,s8,s9,sa,sb⟩:=NI (H:=H3) (a:=h.next+2) (by rw[hK3.o _ (by omega)];exact gTB) (by rw[hK3.o _ (by omega)];exact gFB) (by have:=hK3.n;omega) (by have:=hK3.fl;omega) (N5 (h.next+2+2) H3) 44 (i:Int)
   rw[nm3] at s2 s4
   rw[← hgo,NB hx (b:=44) (by unfold DY;rw[if_neg k4,if_neg k5,if_pos k6,hma,if_pos hA]) (by decide)]
   simp only[eE,seval,↓eP,hr,v4,v5,v12,v13,v15,yk,CX,AT,htell,eT,iP,fI,mB,dA,N0,IQ,s1,s2,KV,s3,CM,s4]
   exact⟨⟨_,rfl,s5.weak (by omega)⟩,by have:=hK3.fl;omega,by have:=hK3.n;omega,fun j hj=>by rw[sb j (by omega)];exact oK3 _ hK3.o j hj⟩
  | true=>
   have hA:¬ ma=0:=by simpa using dA
   have es:DY (AD (BB s.rows)) (CZ s size C) i x t=(0,t):=by unfold DY;rw[if_neg k4,if_neg k5,if_pos k6,hma,if_neg hA]
   rw[OU hx (by rw[es]),es] at hgo
   simp only[eE,seval,↓eP,v2,v4,v5,v9,v11,v52,v53,v54,v13,v14,v15,yk,CX,AT,htell,eT,iP,fI,mB,dA,w1]
   exact⟨hlt,by omega,_,hK3,by rw[hri];exact hgo,by omega,by omega⟩
 by_cases k13:x.kind=13
 ·have hL0:=(hLd (by rw[k13];rfl)).2
  have eT:GE x.kind L=.iface 85 (iv ma):=by unfold GE;rw[if_neg k4,if_neg k5,if_neg k6,if_pos k13,N8 hL0]
  have l2R:AJ 2 (H3.get (RI+1))=some (qS RI s.rows.length s.rows.length):=by
   obtain⟨_,_,y1,_⟩:=hK3.y
   rw[y1]
   rfl
  have ixR:=FP (id:=RI) (n:=s.rows.length) (c:=s.rows.length) (i:=i) hlt
  obtain⟨G2,q3,q4,q5⟩:=hK3.setR (by omega) hlt ma
  cases dA:decide (ma<0) with
  | true=>
   have hA:ma<0:=by simpa using dA
   obtain⟨K1,K2,s1,s2,s3,s4,s5,s6,s7,s8,s9,sa,sb⟩:=NI (H:=G2) (a:=h.next+2) (by rw[q4.o _ (by omega)];exact gTB) (by rw[q4.o _ (by omega)];exact gFB) (by have:=q4.n;omega) (by have:=q4.fl;omega) (N5 (h.next+2+2) G2) 43 (i:Int)
   rw[nm3] at s2 s4
   rw[← hgo,NB hx (b:=43) (by unfold DY;rw[if_neg k4,if_neg k5,if_neg k6,if_pos k13,hma,if_pos (.inl hA)]) (by decide)]
   simp only[eE,seval,↓eP,hr,v4,v5,v11,v12,v13,v15,yk,CX,AT,Nat.zero_add,htell,eT,YM,X2,cZ,YT,M8,DB,Nat.zero_add,l2R,ixR,q3,dA,N0,IQ,s1,s2,KV,s3,CM,s4]
   exact⟨⟨_,rfl,s5.weak (by omega)⟩,by have:=q4.fl;omega,by have:=q4.n;omega,fun j hj=>by rw[sb j (by omega)];exact oK3 _ q4.o j hj⟩
  | false=>
  have hA:¬ ma<0:=by simpa using dA
  cases dB:decide (ma>4194304) with
  | true=>
   have hB:ma>4194304:=by simpa using dB
   obtain⟨K1,K2,s1,s2,s3,s4,s5,s6,s7,s8,s9,sa,sb⟩:=NI (H:=G2) (a:=h.next+2) (by rw[q4.o _ (by omega)];exact gTB) (by rw[q4.o _ (by omega)];exact gFB) (by have:=q4.n;omega) (by have:=q4.fl;omega) (N5 (h.next+2+2) G2) 43 (i:Int)
   rw[nm3] at s2 s4
   rw[← hgo,NB hx (b:=43) (by unfold DY;rw[if_neg k4,if_neg k5,if_neg k6,if_pos k13,hma,if_pos (.inr hB)]) (by decide)]
   simp only[eE,seval,↓eP,hr,v4,v5,v11,v12,v13,v15,yk,CX,AT,Nat.zero_add,htell,eT,YM,X2,cZ,YT,M8,DB,Nat.zero_add,l2R,ixR,q3,dA,dB,N0,IQ,s1,s2,KV,s3,CM,s4]
   exact⟨⟨_,rfl,s5.weak (by omega)⟩,by have:=q4.fl;omega,by have:=q4.n;omega,fun j hj=>by rw[sb j (by omega)];exact oK3 _ q4.o j hj⟩
  | false=>
   have hB:¬ ma>4194304:=by simpa using dB
   have es:DY (AD (BB s.rows)) (CZ s size C) i x t=(0,{ t with Rd:=t.Rd.set i ma }):=by unfold DY;rw[if_neg k4,if_neg k5,if_neg k6,if_pos k13,hma,if_neg (by omega)]
   rw[OU hx (by rw[es]),es] at hgo
   simp only[eE,seval,↓eP,v2,v4,v5,v9,v11,v52,v53,v54,v12,v13,v14,v15,yk,CX,AT,Nat.zero_add,htell,eT,YM,X2,cZ,YT,M8,DB,Nat.zero_add,l2R,ixR,q3,dA,dB,w1]
   exact⟨hlt,by omega,_,q4,by rw[hri];exact hgo,by show t.V.length≤_;omega,by show t.G.length≤_;omega⟩
 have eT:GE x.kind L=.nilIface:=by unfold GE;rw[if_neg k4,if_neg k5,if_neg k6,if_neg k13]
 have es:DY (AD (BB s.rows)) (CZ s size C) i x t=(0,t):=by unfold DY;rw[if_neg k4,if_neg k5,if_neg k6,if_neg k13]
 rw[OU hx (by rw[es]),es] at hgo
 simp only[eE,seval,↓eP,v2,v4,v5,v9,v11,v52,v53,v54,v13,v14,v15,yk,CX,AT,htell,eT,Bm,wC,xS,zN,w1]
 exact⟨hlt,by omega,_,hK3,by rw[hri];exact hgo,by omega,by omega⟩
theorem cB {nm:ByteArray} {s:AL} {pv cv:Value} {lo lc:Nat} {size:Int} {C:List Int} (hp:CE lo h pv nm s) (hc:E3 lc h cv size C) (hlies:∀ nm' vr vq vv vt vu vo m,pv=.agg #[.string nm',vr,vq,vv,vt,vu,vo,m]→IA vr s.rows.length) (hs:IN s) (hl:s.rows.length<2932031007403) (hC:C.length<17592186044416) (hg:h.get 0=CT) (hn0:0<h.next) (hfl:h.floor≤h.next) (hn:2*FI s+101100+C.length<n) :
  ∃ v' h',AS n 16 [pv,cv] h=some (v',h')∧X4 h' h.next v' (BY nm s size C)∧h'.floor=h.floor∧h.next≤h'.next∧∀ i,i<h.next→h'.get i=h.get i:=by
 obtain⟨n,rfl⟩:=DF hn
 refine PY (BX ⟨rfl,rfl,rfl⟩) (tO (n:=n) (N:=n) hp hc hlies hs hl hC hg hn0 hfl (by omega) (by omega)) fun v' h1 hf _ ht=>?_
 obtain⟨⟨tv,rfl,ht⟩,_⟩:=ht
 exact⟨⟨tv,rfl,wN ht hf _ h⟩,rfl,Nat.le_refl _,fun _ _=>rfl⟩
end
theorem cC {R:List AB} {e:Nat→Nat} {val:Nat→Int}:∀ (r i:Nat) (t:FJ),(EP R e val r i t).1.1=0∨(EP R e val r i t).1.1=43∨(EP R e val r i t).1.1=44
 | 0,_,_=>.inl rfl
 | r + 1,i,t=>by
  unfold EP
  cases R[i]? with
  | none=>exact .inl rfl
  | some x=>
   simp only
   split
   ·rename_i h
    have:(DY e val i x t).1=0∨(DY e val i x t).1=43∨(DY e val i x t).1=44:=by
     unfold DY
     (repeat' split) <;> simp
    exact this
   ·exact cC r (i+1) _
theorem kE {nm:ByteArray} {s:AL} {size:Int} {C:List Int} (hc:FK nm s=0):CU nm s size C=0∨CU nm s size C=45:=by
 unfold CU
 rw[if_neg (by rw[hc];decide)]
 split <;> simp
section
variable {nm:ByteArray} {s:AL} {size size':Int} {C C':List Int}
end
def E9 (R:List AB) (k:Int):Nat→Nat
 | 0=>0
 | i+1=>E9 R k i+(match R[i]? with | some x=>if x.kind=k then 1 else 0 | none=>0)
theorem Q8 {R:List AB} {k:Int} {i:Nat} {x:AB} (hx:R[i]?=some x):E9 R k (i+1)=E9 R k i+if x.kind=k then 1 else 0:=by
 show E9 R k i+_=_
 rw[hx]
theorem YV {R:List AB} {k:Int}:∀ i,E9 R k i≤i
 | 0=>Nat.le_refl _
 | i+1=>by
  have:=YV (R:=R) (k:=k) i
  unfold E9
  split
  ·split <;> omega
  ·omega
theorem dH {R:List AB} {k:Int} {i:Nat}:∀ d,E9 R k i≤E9 R k (i+d)
 | 0=>Nat.le_refl _
 | d+1=>by
  have:=dH (R:=R) (k:=k) (i:=i) d
  exact Nat.le_trans this (Nat.le_add_right _ _)
structure YS (R:List AB) (e:Nat→Nat) (val:Nat→Int) (u:FJ) (j:Nat) (x:AB):Prop where
 v:x.kind=4→∃ a b c,u.V[E9 R 4 j]?=some (a,b,c)∧a=val (j+1)∧b≤a∧a≤c
 g:x.kind=5→u.G[E9 R 5 j]?=some (val (j+1))∧1≤val (j+1)∧val (j+1)≤255
 q:x.kind=6→val (j+1)≠0
 r:x.kind=13→u.Rd[j]?=some (val (j+1))∧0≤val (j+1)∧val (j+1)≤4194304
 n:x.kind≠13→u.Rd[j]?=some 0
theorem oP {R:List AB} {e:Nat→Nat} {val:Nat→Int}:∀ (r i:Nat) (t:FJ),i+r=R.length→t.V.length=E9 R 4 i→t.G.length=E9 R 5 i→t.Rd.length=R.length→(∀ j,i≤j→j<R.length→t.Rd[j]?=some 0)→(EP R e val r i t).1.1=0 →
  (EP R e val r i t).2.V.length=E9 R 4 R.length∧(EP R e val r i t).2.G.length=E9 R 5 R.length∧(EP R e val r i t).2.Rd.length=R.length∧(∀ j,j<t.V.length→(EP R e val r i t).2.V[j]?=t.V[j]?)∧(∀ j,j<t.G.length→(EP R e val r i t).2.G[j]?=t.G[j]?) ∧
  (∀ j,j<i→(EP R e val r i t).2.Rd[j]?=t.Rd[j]?)∧∀ (j:Nat) (x:AB),i≤j→R[j]?=some x→YS R e val (EP R e val r i t).2 j x
 | 0,i,t,hl,hv,hg,hr,_,_=>by
  have:i=R.length:=by omega
  subst this
  exact⟨hv,hg,hr,fun _ _=>rfl,fun _ _=>rfl,fun _ _=>rfl,fun j x h1 h2=>by have:=(List.getElem?_eq_some_iff.1 h2).1;omega⟩
 | r + 1,i,t,hl,hv,hg,hr,hz,h0=>by
  obtain⟨x,hx⟩:∃ x,R[i]?=some x:=⟨_,List.getElem?_eq_getElem (by omega)⟩
  have hs0:(DY e val i x t).1=0:=Decidable.byContradiction fun h=>by
   rw[NB hx rfl h] at h0
   exact h h0
  rw[OU hx hs0] at h0 ⊢
  have c4:=Q8 (k:=4) hx
  have c5:=Q8 (k:=5) hx
  have hil:i<t.Rd.length:=by omega
  -- one row
  have key:∃ t',(DY e val i x t).2=t'∧t'.V.length=E9 R 4 (i+1)∧t'.G.length=E9 R 5 (i+1)∧t'.Rd.length=R.length∧(∀ j,j<t.V.length→t'.V[j]?=t.V[j]?)∧(∀ j,j<t.G.length→t'.G[j]?=t.G[j]?)∧(∀ j,j≠i→t'.Rd[j]?=t.Rd[j]?) ∧
    (x.kind=4→t'.V[E9 R 4 i]?=some (val (i+1),val (e (i+1)),val (e (e (i+1))))∧val (e (i+1))≤val (i+1)∧val (i+1)≤val (e (e (i+1))))∧(x.kind=5→t'.G[E9 R 5 i]?=some (val (i+1))∧1≤val (i+1)∧val (i+1)≤255) ∧
    (x.kind=6→val (i+1)≠0)∧(x.kind=13→t'.Rd[i]?=some (val (i+1))∧0≤val (i+1)∧val (i+1)≤4194304)∧(x.kind≠13→t'.Rd[i]?=some 0):=by
   refine⟨_,rfl,?_⟩
   unfold DY at hs0 ⊢
   have hzi:=hz i (Nat.le_refl _) (by omega)
   by_cases k4:x.kind=4
   ·rw[if_pos k4] at hs0 ⊢
    rw[if_pos k4] at c4
    rw[if_neg (by omega)] at c5
    split at hs0
    ·cases hs0
    ·rename_i hb
     rw[if_neg hb]
     refine⟨by simp;omega,by simp only;omega,hr,fun j hj=>List.getElem?_append_left hj,fun _ _=>rfl,fun _ _=>rfl,fun _=>⟨?_,by omega,by omega⟩,fun h=>by omega,fun h=>by omega,fun h=>by omega,fun _=>hzi⟩
     rw[← hv]
     exact List.getElem?_concat_length
   rw[if_neg k4] at hs0 ⊢
   rw[if_neg k4] at c4
   by_cases k5:x.kind=5
   ·rw[if_pos k5] at hs0 ⊢
    rw[if_pos k5] at c5
    split at hs0
    ·cases hs0
    ·rename_i hb
     rw[if_neg hb]
     refine⟨by simp only;omega,by simp;omega,hr,fun _ _=>rfl,fun j hj=>List.getElem?_append_left hj,fun _ _=>rfl,fun h=>by omega,fun _=>⟨?_,by omega,by omega⟩,fun h=>by omega,fun h=>by omega,fun _=>hzi⟩
     rw[← hg]
     exact List.getElem?_concat_length
   rw[if_neg k5] at hs0 ⊢
   rw[if_neg k5] at c5
   by_cases k6:x.kind=6
   ·rw[if_pos k6] at hs0 ⊢
    split at hs0
    ·cases hs0
    ·rename_i hb
     rw[if_neg hb]
     exact⟨by simp only;omega,by simp only;omega,hr,fun _ _=>rfl,fun _ _=>rfl,fun _ _=>rfl,fun h=>by omega,fun h=>by omega,fun _=>hb,fun h=>by omega,fun _=>hzi⟩
   rw[if_neg k6] at hs0 ⊢
   by_cases k13:x.kind=13
   ·rw[if_pos k13] at hs0 ⊢
    split at hs0
    ·cases hs0
    ·rename_i hb
     rw[if_neg hb]
     exact⟨by simp only;omega,by simp only;omega,by simp[hr],fun _ _=>rfl,fun _ _=>rfl,fun j hj=>List.getElem?_set_ne (Ne.symm hj),fun h=>by omega,fun h=>by omega,fun h=>by omega,fun _=>⟨List.getElem?_set_self hil,by omega,by omega⟩,fun h=>by omega⟩
   rw[if_neg k13]
   exact⟨by simp only;omega,by simp only;omega,hr,fun _ _=>rfl,fun _ _=>rfl,fun _ _=>rfl,fun h=>by omega,fun h=>by omega,fun h=>by omega,fun h=>by omega,fun _=>hzi⟩
  obtain⟨t',et,l1,l2,l3,p1,p2,p3,q4,q5,q6,q13,qn⟩:=key
  rw[et] at h0 ⊢
  obtain⟨r1,r2,r3,r4,r5,r6,r7⟩:=oP r (i+1) t' (by omega) l1 l2 l3 (fun j h1 h2=>by rw[p3 j (by omega)];exact hz j (by omega) h2) h0
  have m4:t.V.length≤t'.V.length:=by rw[hv,l1];exact dH 1
  have m5:t.G.length≤t'.G.length:=by rw[hg,l2];exact dH 1
  refine⟨r1,r2,r3,fun j hj=>by rw[r4 j (by omega),p1 j hj],fun j hj=>by rw[r5 j (by omega),p2 j hj],fun j hj=>by rw[r6 j (by omega),p3 j (by omega)],fun j y h1 hy=>?_⟩
  rcases Nat.eq_or_lt_of_le h1 with e1 | e1
  ·subst e1
   rw[hx] at hy
   cases hy
   refine⟨fun k=>?_,fun k=>?_,q6,fun k=>?_,fun k=>by rw[r6 i (by omega)];exact qn k⟩
   ·obtain⟨a,b,c⟩:=q4 k
    exact⟨_,_,_,by rw[r4 _ (by rw[l1,c4,if_pos k];omega)];exact a,rfl,b,c⟩
   ·obtain⟨a,b,c⟩:=q5 k
    exact⟨by rw[r5 _ (by rw[l2,c5,if_pos k];omega)];exact a,b,c⟩
   ·obtain⟨a,b,c⟩:=q13 k
    exact⟨by rw[r6 i (by omega)];exact a,b,c⟩
  ·exact r7 j y e1 hy
theorem pP {R:List AB} {e:Nat→Nat} {val:Nat→Int}:∀ (r i:Nat) (t:FJ),i+r=R.length→(EP R e val r i t).1.1≠0→∃ (j:Nat) (x:AB),(EP R e val r i t).1.2=(j:Int)∧i≤j∧R[j]?=some x∧x.kind≠1
 | 0,i,t,_,h=>absurd rfl h
 | r+1,i,t,hl,h=>by
  obtain⟨x,hx⟩:∃ x,R[i]?=some x:=⟨_,List.getElem?_eq_getElem (by omega)⟩
  by_cases h0:(DY e val i x t).1=0
  ·rw[OU hx h0] at h ⊢
   obtain⟨j,y,h1,h2,h3,h4⟩:=pP r (i+1) _ (by omega) h
   exact⟨j,y,h1,by omega,h3,h4⟩
  ·rw[NB hx rfl h0] at h ⊢
   refine⟨i,x,rfl,Nat.le_refl _,hx,fun h1=>h0 ?_⟩
   unfold DY
   rw[if_neg (by omega),if_neg (by omega),if_neg (by omega),if_neg (by omega)]
theorem q9 {R:List AB} {Q:List (ByteArray × Bool)} {e:Nat→Nat}:∀ (r i:Nat),i+r=R.length→(E5 R Q e r i).1.1≠0→(E5 R Q e r i).2=[]∧0≤(E5 R Q e r i).1.2∧(E5 R Q e r i).1.2<R.length
 | 0,i,_,h=>absurd rfl h
 | r+1,i,hl,h=>by
  obtain⟨x,hx⟩:∃ x,R[i]?=some x:=⟨_,List.getElem?_eq_getElem (by omega)⟩
  unfold E5 at h ⊢
  rw[hx] at h ⊢
  simp only at h ⊢
  by_cases hb:GM R Q (BM R e i) i x≠0
  ·rw[if_pos hb]
   exact⟨rfl,by simp only;omega,by simp only;omega⟩
  ·rw[if_neg hb] at h ⊢
   exact q9 r (i+1) (by omega) h
theorem rL {R:List AB} {Q:List (ByteArray × Bool)} {e:Nat→Nat}:∀ (r i:Nat),(E5 R Q e r i).1.1=0→E5 R Q e r i=((0,0),R.map (BS ·.kind))
 | 0,i,_=>rfl
 | r+1,i,h=>by
  unfold E5 at h ⊢
  cases hx:R[i]? with
  | none=>rfl
  | some x=>
   rw[hx] at h
   simp only at h ⊢
   by_cases hb:GM R Q (BM R e i) i x≠0
   ·rw[if_pos hb] at h
    exact absurd h hb
   ·rw[if_neg hb] at h ⊢
    exact rL r (i+1) h
section
variable {nm:ByteArray} {s:AL} {size:Int} {C:List Int}
theorem yT (hc:FK nm s=0) (h:(A_ nm s).1.1≠0):(A_ nm s).2=[]∧0≤(A_ nm s).1.2∧(A_ nm s).1.2<s.rows.length:=by
 unfold A_ at h ⊢
 rw[if_neg (by rw[hc];decide)] at h ⊢
 exact q9 _ _ (by omega) h
theorem n9 (hc:FK nm s=0) (h:(A_ nm s).1.1=0):A_ nm s=((0,0),s.rows.map (BS ·.kind)):=by
 unfold A_ at h ⊢
 rw[if_neg (by rw[hc];decide)] at h ⊢
 exact rL _ _ h
theorem xR (h1:(A_ nm s).1.1=0) (h2:CU nm s size C=0) {i:Nat} {x:AB} (hx:s.rows[i]?=some x) :
  (BS x.kind=0→D4 nm s size C i=(0,42,(i:Int)))∧((D4 nm s size C i).2=(42,(i:Int))∨((D4 nm s size C i).2=(0,0)∧-1073741824≤(D4 nm s size C i).1∧(D4 nm s size C i).1≤1073741824∧(BS x.kind=2→(D4 nm s size C i).1=0∨(D4 nm s size C i).1=1))):=by
 obtain⟨_,hG,hO,_⟩:=WA h1
 have hF:=WX h2
 have hil:=(List.getElem?_eq_some_iff.1 hx).1
 have e:D4 nm s size C i=match BZ s.rows (AD (BB s.rows)) size C i with
   | none=>(0,42,(i:Int))
   | some v=>(v,0,0):=by
  unfold D4
  rw[if_neg (by omega),if_neg (by omega),if_neg (by omega),Int.toNat_natCast]
  all_goals (cases BZ s.rows (AD (BB s.rows)) size C i <;> rfl)
 rw[e]
 refine⟨fun h=>?_,?_⟩
 ·rw[uU hG hx ((yG (hG.ks i x hx)).1 h)]
 ·cases hv:BZ s.rows (AD (BB s.rows)) size C i with
  | none=>exact .inl rfl
  | some v=>
   have hr:=UP hG hF hil hv
   exact .inr ⟨rfl,hr.1,hr.2,fun h=>oY hG hx h hv⟩
theorem Et (h1:(A_ nm s).1.1=0) (h2:CU nm s size C=0) {i:Nat} {x:AB} (hx:s.rows[i]?=some x) (hk:x.kind=4∨x.kind=5∨x.kind=6∨x.kind=13) :
  i+1<s.rows.length∧D4 nm s size C ((i+1:Nat):Int)=(CZ s size C (i+1),0,0)∧(x.kind=6→CZ s size C (i+1)=0∨CZ s size C (i+1)=1):=by
 obtain⟨_,hG,hO,_⟩:=WA h1
 obtain⟨q3,q1⟩:=bS hG hx
 have hk0:(BE (AD (BB s.rows)) x.kids.toNat (i+1))[0]?=some (i+1):=by
  rcases hk with h | h | h | h
  ·rw[q3 (.inl h)];rfl
  ·rw[q1 (.inl h)];rfl
  ·rw[q1 (.inr h)];rfl
  ·rw[q3 (.inr h)];rfl
 obtain⟨y,v,hy,h27,hv⟩:=Br (size:=size) (C:=C) hG hO hx hk0 (by rcases hk with h | h | h | h <;> (rw[h];rfl))
 have hil:=(List.getElem?_eq_some_iff.1 hy).1
 have e:CZ s size C (i+1)=v:=by unfold CZ;rw[hv];rfl
 refine⟨hil,?_,fun h=>?_⟩
 ·unfold D4
  rw[if_neg (by omega),if_neg (by omega),if_neg (by omega),Int.toNat_natCast,hv,e]
 ·rw[e]
  refine oY hG hy ?_ hv
  have:=(cO hG hO hx hk0 hy).1
  rw[h] at this
  exact this (by simp[EY])
end
structure XE (pos:Nat) (s:AL):Prop where
 v:s.vars.length=E9 s.rows 4 pos
 g:s.tags.length=E9 s.rows 5 pos
def YU (s t:AL):Prop:=∀ j:Nat,(t.rows[j]?).map (fun x:AB=>x.kind)=(s.rows[j]?).map (fun x:AB=>x.kind)
theorem TO {s t:AL} (h:YU s t) (k:Int):∀ i,E9 t.rows k i=E9 s.rows k i
 | 0=>rfl
 | i+1=>by
  unfold E9
  rw[TO h k i]
  have:=h i
  cases h1:s.rows[i]? with
  | none=>
   rw[h1] at this
   cases h2:t.rows[i]? with
   | none=>rfl
   | some y=>rw[h2] at this;cases this
  | some x=>
   rw[h1] at this
   cases h2:t.rows[i]? with
   | none=>rw[h2] at this;cases this
   | some y=>
    rw[h2] at this
    have e:y.kind=x.kind:=Option.some.inj this
    simp only[e]
theorem jP {l:List AB} {k:Nat} {n:Int} (j:Nat):((GF l k n)[j]?).map (fun x:AB=>x.kind)=(l[j]?).map (fun x:AB=>x.kind):=by
 by_cases e:j=k
 ·subst e
  cases h:l[j]? with
  | none=>
   have:(GF l j n)[j]?=none:=List.getElem?_eq_none (by rw[PQ];exact List.getElem?_eq_none_iff.1 h)
   rw[this]
  | some x=>rw[JY h];rfl
 ·rw[M3 e]
theorem Ik {E:List Int} {i:Nat} {s:AL} {x:AB} (h:XE i s) (hx:s.rows[i]?=some x) (h0:(E2 E i s).1=0):XE (i+1) (E2 E i s).2∧(E2 E i s).2.rows.length=s.rows.length:=by
 have c4:=Q8 (k:=4) hx
 have c5:=Q8 (k:=5) hx
 by_cases hd:BO x.kind=0
 ·have hk:x.kind≠4∧x.kind≠5:=by
   refine⟨fun e=>?_,fun e=>?_⟩ <;> (rw[e] at hd;cases hd)
  rw[if_neg hk.1] at c4
  rw[if_neg hk.2] at c5
  rw[k9 hx hd] at h0 ⊢
  by_cases c0:DL i x s=0
  case neg=>rw[if_pos c0] at h0;exact absurd h0 c0
  rw[if_neg (by simpa using c0)] at h0 ⊢
  have hr:(B0 i x s).vars=s.vars∧(B0 i x s).tags=s.tags∧YU s (B0 i x s)∧(B0 i x s).rows.length=s.rows.length:=by
   unfold B0
   split
   ·exact⟨rfl,rfl,fun _=>rfl,rfl⟩
   ·split
    ·exact⟨rfl,rfl,fun _=>rfl,rfl⟩
    ·exact⟨rfl,rfl,fun j=>jP j,PQ⟩
  obtain⟨e1,e2,e3,e4⟩:=hr
  obtain⟨n,hn,_⟩:=YO hx c0
  generalize B0 i x s=s1 at *
  rw[hn] at h0 ⊢
  simp only at h0 ⊢
  by_cases d0:E8 { x with n:=n } s1=0
  case neg=>rw[if_pos d0] at h0;exact absurd h0 d0
  rw[if_neg (by simpa using d0)]
  have hs:(D9 i { x with n:=n } s1).vars=s1.vars∧(D9 i { x with n:=n } s1).tags=s1.tags∧(D9 i { x with n:=n } s1).rows=s1.rows:=by
   unfold D9
   (repeat' split) <;> exact⟨rfl,rfl,rfl⟩
  obtain⟨f1,f2,f3⟩:=hs
  have k4:=TO e3 4 (i+1)
  have k5:=TO e3 5 (i+1)
  exact⟨⟨by rw[f1,f3,e1,k4,c4];exact h.v,by rw[f2,f3,e2,k5,c5];exact h.g⟩,by rw[f3];exact e4⟩
 ·rw[nX hx hd] at h0 ⊢
  by_cases c0:EZ x s=0
  case neg=>rw[if_pos c0] at h0;exact absurd h0 c0
  rw[if_neg (by simpa using c0)]
  have e3:YU s (BK i ((E[i]?).getD 0) x s):=fun j=>by
   rw[V6,if_neg hd]
   exact jP j
  have k4:=TO e3 4 (i+1)
  have k5:=TO e3 5 (i+1)
  have a4:BO x.kind=2↔x.kind=4:=by
   refine⟨fun e=>?_,fun e=>by rw[e];rfl⟩
   unfold BO at e
   (repeat' split at e) <;> simp_all
  have a5:BO x.kind=3↔x.kind=5:=by
   refine⟨fun e=>?_,fun e=>by rw[e];rfl⟩
   unfold BO at e
   (repeat' split at e) <;> simp_all
  refine⟨⟨?_,?_⟩,by rw[V6,if_neg hd];exact PQ⟩
  ·rw[k4,c4]
   have e:(BK i ((E[i]?).getD 0) x s).vars=if BO x.kind=2 then s.vars++[x.name] else s.vars:=by
    unfold BK
    rw[if_neg hd]
    rfl
   rw[e]
   by_cases k:x.kind=4
   ·rw[if_pos (a4.2 k),if_pos k,List.length_append,h.v]
    rfl
   ·rw[if_neg (fun e=>k (a4.1 e)),if_neg k]
    exact h.v
  ·rw[k5,c5]
   have e:(BK i ((E[i]?).getD 0) x s).tags=if BO x.kind=3 then s.tags++[x.name] else s.tags:=by
    unfold BK
    rw[if_neg hd]
    rfl
   rw[e]
   by_cases k:x.kind=5
   ·rw[if_pos (a5.2 k),if_pos k,List.length_append,h.g]
    rfl
   ·rw[if_neg (fun e=>k (a5.1 e)),if_neg k]
    exact h.g
theorem pY {E:List Int}:∀ (r i:Nat) (s:AL),XE i s→i+r=s.rows.length→(DP E r i s).1=0→XE (i+r) (DP E r i s).2.2
 | 0,i,s,h,_,_=>h
 | r+1,i,s,h,hl,h0=>by
  have e:DP E (r+1) i s=if (E2 E i s).1≠0 then ((E2 E i s).1,i,s) else DP E r (i+1) (E2 E i s).2:=rfl
  rw[e] at h0 ⊢
  by_cases c:(E2 E i s).1=0
  case neg=>rw[if_pos c] at h0;exact absurd h0 c
  rw[if_neg (by simpa using c)] at h0 ⊢
  obtain⟨x,hx⟩:∃ x,s.rows[i]?=some x:=⟨_,List.getElem?_eq_getElem (by omega)⟩
  obtain⟨h1,h2⟩:=Ik h hx c
  rw[show i+(r+1)=i+1+r by omega]
  exact pY r (i+1) _ h1 (by omega) h0
theorem Cg {l:List AB} (h:(BJ l).1.1=0):(BJ l).2.vars.length=E9 (BJ l).2.rows 4 (BJ l).2.rows.length∧(BJ l).2.tags.length=E9 (BJ l).2.rows 5 (BJ l).2.rows.length:=by
 obtain⟨_,_,hg,_,he,hi⟩:=N3 h
 have hl:=hi.len
 have:=pY (E:=BQ l) l.length 0 (CP l) ⟨rfl,rfl⟩ (by show 0+l.length=l.length;omega) hg
 rw[Nat.zero_add] at this
 rw[hl,he]
 exact⟨this.v,this.g⟩
theorem NL {e a c d:Int} {x y:Operand}:BT Tryd.prog .neq 36 x y (BR e a) (BR c d)=some (.bool (!(e==c&&a==d))):=by
 have e9:A8 Tryd.prog (do eqGuard .neq 36 x y (DQ e a) (DQ c d);binOp .neq 36 (DQ e a) (DQ c d))=some (.bool (!(e==c&&a==d))):=by
  rw[CD]
  have g:A8 Tryd.prog (eqGuard .neq 36 x y (DQ e a) (DQ c d))=some ():=by
   unfold eqGuard
   simp[CD,KW,GY,vZ]
  rw[g]
  show A8 Tryd.prog ((do pure (.bool (!(← Op.equal 36 (DQ e a) (DQ c d))))):Sem Value)=_
  rw[CD]
  have k:A8 Tryd.prog (Op.equal 36 (DQ e a) (DQ c d))=some (e==c&&a==d):=n_ 9998
  rw[k]
  rfl
 have e2:BT Tryd.prog .neq 36 x y (DQ e a) (DQ c d)=some (.bool (!(e==c&&a==d))):=by simp only[BT,bJ,Bool.and_self,if_true,e9,KF]
 exact e2
theorem QO {e:Int} {x y:Operand}:BT Tryd.prog .neq 36 x y (BR e 0) (BR 0 0)=some (.bool (e != 0)):=by
 rw[NL]
 simp[bne]
theorem O9 {e a:Int}:∀ x y,BT Tryd.prog .eql 36 x y (BR e a) (BR e a)=some (.bool true):=fun x y=>by
 have:=iH (x:=x) (y:=y) (a:=e) (b:=a) (c:=e) (d:=a)
 simpa using this
theorem dV {H:AA} {v:Value} {t:FJ} {lo:Nat} (ht:G7 lo H v t) (hf:H.floor≤H.next) (e x:Int) :
  ∃ H1 H2,BC Tryd.prog ((H.push (.row [Z0,Z0,Z0] 43 false false)).push (.row [iv 0,iv 0] 36 false false)) 43 (qP H.next 0) v=some H1 ∧
   BC Tryd.prog H1 36 (qP (H.next+1) 0) (BR e x)=some H2∧AY 3 0 (H2.get H.next)=some v∧H2.get (H.next+1)=.row [iv e,iv x] 36 false false∧H2.next=H.next+2∧H2.floor=H.floor∧∀ i,i<H.next→H2.get i=H.get i:=by
 obtain⟨vv,gv,rv,rfl,h1,h2,h3⟩:=id ht
 have o1:([vv,gv,rv]:List Value).all one=true:=by simp only[List.all_cons,List.all_nil,AO.one h1,AO.one h2,AO.one h3,Bool.and_self]
 have g0:∀ (a b:BA),let A:=(H.push a).push b
   A.get H.next=a∧A.get (H.next+1)=b∧A.next=H.next+2∧A.floor=H.floor∧∀ i,i<H.next→A.get i=H.get i:=fun a b=>
  ⟨OI,OM,rfl,rfl,fun i hi=>by rw[AR (by show i<H.next+1;omega),AR hi]⟩
 obtain⟨ga,gb,n2,f2,o2⟩:=g0 (.row [Z0,Z0,Z0] 43 false false) (.row [iv 0,iv 0] 36 false false)
 generalize (H.push (.row [Z0,Z0,Z0] 43 false false)).push (.row [iv 0,iv 0] 36 false false)=A at *
 have s1:=JQ (vs:=[vv,gv,rv]) P_ ga rfl rfl o1 (by omega)
 have g1:∀ j,j≠H.next→(A.put H.next (.row [vv,gv,rv] 43 false false)).get j=A.get j:=fun j hj=>AW (by omega) (Ne.symm hj)
 have s2:=JQ (h:=A.put H.next (.row [vv,gv,rv] 43 false false)) (id:=H.next+1) (vs:=[iv e,iv x]) IS (by rw[g1 _ (by omega)];exact gb) rfl rfl rfl (by show A.floor≤H.next+1;omega)
 have g2:∀ j,j≠H.next+1→((A.put H.next (.row [vv,gv,rv] 43 false false)).put (H.next+1) (.row [iv e,iv x] 36 false false)).get j=(A.put H.next (.row [vv,gv,rv] 43 false false)).get j:=fun j hj=>AW (by show H.next+1<A.next;omega) (Ne.symm hj)
 refine⟨_,_,s1,s2,?_,B_ rfl (by show H.next+1<A.next;omega),n2,f2,fun i hi=>by rw[g2 i (by omega),g1 i (by omega),o2 i hi]⟩
 rw[g2 _ (by omega),B_ rfl (by omega)]
 rfl
section
variable {R:List AB} {M C:List Int} {i:Nat}
end
section
variable {n:Nat} {h:AA}
end
section
variable {id off:Nat}
theorem Hf:BF Tryd.prog 58 (qP id off) 0=some (qP id off):=by simp[BF,Tryd.underlying58,C4,CI]
theorem Gh:BF Tryd.prog 58 (qP id off) 1=some (qP id (off+1)):=by simp[BF,Tryd.underlying58,C4,CI]
theorem zO:BF Tryd.prog 58 (qP id off) 2=some (qP id (off+2)):=by simp[BF,Tryd.underlying58,C4,CI]
end
theorem eD:∀ {l:List (Int × Int × Int)} {k:Nat} {x:Int × Int × Int},l[k]?=some x→(IY l)[k*3]?=some (iv x.1)∧(IY l)[k*3+1]?=some (iv x.2.1)∧(IY l)[k*3+2]?=some (iv x.2.2)
 | [],k,x,h=>by simp at h
 | y :: l,0,x,h=>by
  cases h
  exact⟨rfl,rfl,rfl⟩
 | y :: l,k+1,x,h=>by
  obtain⟨a,b,c⟩:=eD (l:=l) (k:=k) (x:=x) (by simpa using h)
  have e:IY (y :: l)=iv y.1 :: iv y.2.1 :: iv y.2.2 :: IY l:=rfl
  rw[e,show (k+1)*3=k*3+1+1+1 by omega]
  exact⟨a,b,c⟩
theorem tY {l:List (Int × Int × Int)} {i:Nat} {x:Int × Int × Int} (hx:l[i]?=some x) {lo:Nat} {h:AA} {v:Value} (hc:AO lo h v l.length 3 (IY l)):∃ id p,CQ Tryd.prog 41 v (iv (i:Int))=some (qP id p)∧AJ p (h.get id)=some (iv x.1)∧AJ (p+1) (h.get id)=some (iv x.2.1)∧AJ (p+2) (h.get id)=some (iv x.2.2):=by
 obtain⟨id,p,h1,h2,h3⟩:=AO.idx hc Tryd.underlying41 RP (List.getElem?_eq_some_iff.1 hx).1
 obtain⟨a,b,c⟩:=eD hx
 have h30:=h3 0 (by decide)
 rw[Nat.add_zero,Nat.add_zero] at h30
 exact⟨id,p,h1,h30.trans a,(h3 1 (by decide)).trans b,(h3 2 (by decide)).trans c⟩
theorem UI {x y:Operand}:BT Tryd.prog .neq 36 x y (BR 0 0) (BR 0 0)=some (.bool false):=by
 rw[NL]
 rfl
section
variable {n N:Nat} {h:AA}
theorem He {nm:ByteArray} {s:AL} {pv cv tv:Value} {lo lc lt:Nat} {size:Int} {C:List Int} {u:FJ} (hp:CE lo h pv nm s) (hc:E3 lc h cv size C) (ht:G7 lt h tv u) (hlies:∀ nm' vr vq vv vt vu vo m,pv=.agg #[.string nm',vr,vq,vv,vt,vu,vo,m]→IA vr s.rows.length) (hs:IN s) (hl:s.rows.length<2932031007403) (hC:C.length<2932031007403) (h1:(A_ nm s).1.1=0) (h2:CU nm s size C=0)
  (hu:∀ (j:Nat) (x:AB),s.rows[j]?=some x→YS s.rows (AD (BB s.rows)) (CZ s size C) u j x) (hg:h.get 0=CT) (hn0:0<h.next) (hfl:h.floor≤h.next) (hN:s.rows.length+10<N) (hn:2*FI s+102100+C.length<n) :
  ∃ h',A7 Tryd.prog (AS n) N 21 [pv,cv,tv] h=some (.bool true,h')∧∀ i,i<h.next→h'.get i=h.get i:=by
 obtain⟨vr,vq,vv,vt,vu,vo,rfl,p1,p2,p3,p4,p5,p6⟩:=id hp
 obtain⟨vc,rfl,pc⟩:=id hc
 obtain⟨uv,ug,ur,rfl,a1,a2,a3⟩:=id ht
 refine EQ (R:=fun h'=>∀ i,i<h.next→h'.get i=h.get i) Tryd.func21 rfl (by simp[Tryd.f21]) ?_
 have hr:Tryd.f21.results.toList=[.tmp 6]:=rfl
 have ca:=E1 [.string nm,vr,vq,vv,vt,vu,vo,iv s.miss]
 have oa:=J2 (nm:=nm) p1 p2 p3 p4 p5 p6
 have cb:=E1 [iv size,vc]
 have ob:[iv size,vc].all one=true:=by simp only[List.all_cons,List.all_nil,AO.one pc,JW,Bool.and_self]
 have cu:=E1 [uv,ug,ur]
 have ou:[uv,ug,ur].all one=true:=by simp only[List.all_cons,List.all_nil,AO.one a1,AO.one a2,AO.one a3,Bool.and_self]
 obtain⟨gA,gB,gU,nQ,fQ,gO⟩:=SR h (.row [.string nm,vr,vq,vv,vt,vu,vo,iv s.miss] 33 false false) (.row [iv size,vc] 29 false false) (.row [uv,ug,ur] 43 false false)
 simp only[eE,seval,↓eP,FW,FD,FY,ca,oa,cb,ob,cu,ou,HT,LY,P_]
 generalize ((h.push (.row [.string nm,vr,vq,vv,vt,vu,vo,iv s.miss] 33 false false)).push (.row [iv size,vc] 29 false false)).push (.row [uv,ug,ur] 43 false false)=Q at *
 have nn:h.next+1+1=h.next+2:=rfl
 have lenR:=fun h'=>NJ p1.2 h'
 simp only[eE,seval,↓eP,nn]
 refine WK.loop (fun i s'=>s'.T.get 3=qP h.next 0∧s'.T.get 4=qP (h.next+1) 0∧s'.T.get 5=qP (h.next+2) 0∧s'.T.get 7=iv (E9 s.rows 4 i:Int)∧s'.T.get 8=iv (E9 s.rows 5 i:Int)∧s'.T.get 9=iv (i:Int)∧i≤s.rows.length∧Q.next≤s'.h.next∧s'.h.floor=Q.floor∧∀ j,j<Q.next→s'.h.get j=Q.get j) s.rows.length (by omega) ?_ ?_
 ·exact⟨by simp only[eE,seval,↓eP,rP],by simp only[eE,seval,↓eP,rP],by simp only[eE,seval,↓eP,rP],by simp only[eE,seval,↓eP,rP] <;> rfl,by simp only[eE,seval,↓eP,rP] <;> rfl,by simp only[eE,seval,↓eP,rP] <;> rfl,by omega,Nat.le_refl _,rfl,fun _ _=>rfl⟩
 rintro i ⟨T,H⟩ hi9 ⟨t3,t4,t5,t7,t8,t9,hil,nH,fH,oH⟩
 simp only at t3 t4 t5 t7 t8 t9 nH fH oH
 have oHh:∀ j,j<h.next→H.get j=h.get j:=fun j hj=>by rw[oH j (by omega),gO j hj]
 have gAH:H.get h.next=.row [.string nm,vr,vq,vv,vt,vu,vo,iv s.miss] 33 false false:=by rw[oH _ (by omega)];exact gA
 have xH:AJ 1 (H.get h.next)=some vr:=by rw[gAH];rfl
 by_cases hlt:i<s.rows.length
 rotate_left
 ·have c1:decide ((i:Int)<(s.rows.length:Int))=false:=by simp;omega
  simp only[eE,seval,↓eP,hr,Nat.zero_add,t3,t4,t5,t7,t8,t9,CL,CK,xH,lenR,c1]
  exact oHh
 have c1:decide ((i:Int)<(s.rows.length:Int))=true:=by simp;omega
 obtain⟨x,hx⟩:∃ x,s.rows[i]?=some x:=⟨_,List.getElem?_eq_getElem hlt⟩
 have w1:=E_ i (by omega)
 have lA:AY 8 0 (H.get h.next)=some (.agg #[.string nm,vr,vq,vv,vt,vu,vo,iv s.miss]):=K7 gAH rfl
 have lC:AY 2 0 (H.get (h.next+1))=some (.agg #[iv size,vc]):=by rw[oH _ (by omega),gB];rfl
 have kc:=g9 (n:=n) (h:=H) (row:=((i+1:Nat):Int)) (hp.mono (by omega) fun j _ hj=>oHh j hj) (hc.mono (by omega) fun j _ hj=>oHh j hj) hlies (by rw[oHh 0 hn0];exact hg) (by omega) hs hl hC (by omega) (by omega) (by omega)
 obtain⟨D,stD,gD,nD,fD,oD⟩:=LG (t:=36) IS (H:=H) (zs:=[iv 0,iv 0]) (vs:=[iv (D4 nm s size C ((i+1:Nat):Int)).2.1,iv (D4 nm s size C ((i+1:Nat):Int)).2.2]) rfl rfl rfl (by omega)
 have stD:BC Tryd.prog (H.push (.row [iv 0,iv 0] 36 false false)) 36 (qP H.next 0) (BR (D4 nm s size C ((i+1:Nat):Int)).2.1 (D4 nm s size C ((i+1:Nat):Int)).2.2)=some D:=stD
 have lD:AY 2 0 (D.get H.next)=some (BR (D4 nm s size C ((i+1:Nat):Int)).2.1 (D4 nm s size C ((i+1:Nat):Int)).2.2):=by rw[gD];rfl
 have oDQ:∀ j,j<Q.next→D.get j=Q.get j:=fun j hj=>by rw[oD j (by omega),oH j hj]
 have oDh:∀ j,j<h.next→D.get j=h.get j:=fun j hj=>by rw[oD j (by omega),oHh j hj]
 have xD:AJ 1 (D.get h.next)=some vr:=by rw[oD _ (by omega)];exact xH
 have y0:AJ 0 (D.get (h.next+2))=some uv:=by rw[oDQ _ (by omega),gU];rfl
 have y1:AJ 1 (D.get (h.next+2))=some ug:=by rw[oDQ _ (by omega),gU];rfl
 have y2:AJ 2 (D.get (h.next+2))=some ur:=by rw[oDQ _ (by omega),gU];rfl
 have b1:=a1.mono (h':=D) (by omega) fun j _ hj=>oDh j hj
 have b2:AV lt D ug u.G:=AV.mono a2 (by omega) fun j _ hj=>oDh j hj
 have b3:AV lt D ur u.Rd:=AV.mono a3 (by omega) fun j _ hj=>oDh j hj
 have pr:A9 D vr s.rows:=p1.1.mono (by omega) oDh
 obtain⟨ia,pa,ea,_,k0,_,_,_,_,_⟩:=pr.row hx
 have hux:=hu i x hx
 have q4:=Q8 (k:=4) hx
 have q5:=Q8 (k:=5) hx
 have l4:=YV (R:=s.rows) (k:=4) i
 have l5:=YV (R:=s.rows) (k:=5) i
 have w4:IntKind.i64.wrap ((E9 s.rows 4 i:Int)+1)=((E9 s.rows 4 i+1:Nat):Int):=C8 (by omega) (by omega)
 have w5:IntKind.i64.wrap ((E9 s.rows 5 i:Int)+1)=((E9 s.rows 5 i+1:Nat):Int):=C8 (by omega) (by omega)
 have kid:=fun hk=>Et (C:=C) h1 h2 hx hk
 have zero:=fun (h13:x.kind≠13)=>AV.get b3 (hux.n h13)
 cases d4:(x.kind==4) with
 | true=>
  have e4:=beq_iff_eq.1 d4
  obtain⟨_,ek,_⟩:=kid (.inl e4)
  obtain⟨va,vb,vd,hV,rfl,hb1,hb2⟩:=hux.v e4
  obtain⟨iw,pw,ew,z0,z1,z2⟩:=tY hV b1
  obtain⟨iz,pz,ez,_,lz⟩:=zero (by omega)
  have m1:decide (vb>CZ s size C (i+1))=false:=by simp;omega
  have m2:decide (vd<CZ s size C (i+1))=false:=by simp;omega
  rw[ek] at kc lD stD
  rw[if_pos e4] at q4
  rw[if_neg (by omega)] at q5
  simp only[eE,seval,↓eP,hr,Nat.zero_add,t3,t4,t5,t7,t8,t9,C2,lA,EN,lC,w1,kc,DK,DJ,EO,CB,stD,CL,CK,xH,xD,ea,CX,AT,k0,lenR,c1,CM,lD,d4,FQ,UI,N_,M8,NU,DB,y0,y2,ew,Hf,Gh,zO,z0,z1,z2,bne_self_eq_false,m1,m2,w4,ez,lz]
  exact⟨hlt,by omega,by omega,by omega,by omega,by omega,oDQ⟩
 | false=>
 have n4:x.kind≠4:=fun e=>by rw[e] at d4;cases d4
 rw[if_neg n4] at q4
 cases d5:(x.kind==5) with
 | true=>
  have e5:=beq_iff_eq.1 d5
  obtain⟨_,ek,_⟩:=kid (.inr (.inl e5))
  obtain⟨hG,hb1,hb2⟩:=hux.g e5
  obtain⟨iw,pw,ew,_,z0⟩:=AV.get b2 hG
  obtain⟨iz,pz,ez,_,lz⟩:=zero (by omega)
  have m1:decide (CZ s size C (i+1)<1)=false:=by simp;omega
  have m2:decide (CZ s size C (i+1)>255)=false:=by simp;omega
  rw[ek] at kc lD stD
  rw[if_pos e5] at q5
  simp only[eE,seval,↓eP,hr,Nat.zero_add,t3,t4,t5,t7,t8,t9,C2,lA,EN,lC,w1,kc,DK,DJ,EO,CB,stD,CL,CK,xH,xD,ea,CX,AT,k0,lenR,c1,CM,lD,d4,d5,FQ,UI,RS,M8,DB,y1,y2,ew,z0,bne_self_eq_false,m1,m2,w5,ez,lz]
  exact⟨hlt,by omega,by omega,by omega,by omega,by omega,oDQ⟩
 | false=>
 have n5:x.kind≠5:=fun e=>by rw[e] at d5;cases d5
 rw[if_neg n5] at q5
 cases d6:(x.kind==6) with
 | true=>
  have e6:=beq_iff_eq.1 d6
  obtain⟨_,ek,eb⟩:=kid (.inr (.inr (.inl e6)))
  have hq:=hux.q e6
  have ev1:CZ s size C (i+1)=1:=by have:=eb e6;omega
  obtain⟨iz,pz,ez,_,lz⟩:=zero (by omega)
  rw[ek,ev1] at kc
  rw[ek] at lD stD
  simp only[eE,seval,↓eP,hr,Nat.zero_add,t3,t4,t5,t7,t8,t9,C2,lA,EN,lC,w1,kc,DK,DJ,EO,CB,stD,CL,CK,xH,xD,ea,CX,AT,k0,lenR,c1,CM,lD,d4,d5,d6,FQ,UI,M8,DB,y2,bne_self_eq_false,ez,lz]
  exact⟨hlt,by omega,by omega,by omega,by omega,by omega,oDQ⟩
 | false=>
 cases d13:(x.kind==13) with
 | true=>
  have e13:=beq_iff_eq.1 d13
  obtain⟨_,ek,_⟩:=kid (.inr (.inr (.inr e13)))
  obtain⟨hR,hb1,hb2⟩:=hux.r e13
  obtain⟨iw,pw,ew,_,z0⟩:=AV.get b3 hR
  have m1:decide (CZ s size C (i+1)<0)=false:=by simp;omega
  have m2:decide (CZ s size C (i+1)>4194304)=false:=by simp;omega
  rw[ek] at kc lD stD
  simp only[eE,seval,↓eP,hr,Nat.zero_add,t3,t4,t5,t7,t8,t9,C2,lA,EN,lC,w1,kc,DK,DJ,EO,CB,stD,CL,CK,xH,xD,ea,CX,AT,k0,lenR,c1,CM,lD,d4,d5,d6,d13,FQ,UI,M8,DB,y2,ew,z0,bne_self_eq_false,m1,m2]
  exact⟨hlt,by omega,by omega,by omega,by omega,by omega,oDQ⟩
 | false=>
 have n13:x.kind≠13:=fun e=>by rw[e] at d13;cases d13
 obtain⟨iz,pz,ez,_,lz⟩:=zero n13
 simp only[eE,seval,↓eP,hr,Nat.zero_add,t3,t4,t5,t7,t8,t9,C2,lA,EN,lC,w1,kc,DK,DJ,EO,CB,stD,CL,CK,xH,xD,ea,CX,AT,k0,lenR,c1,CM,lD,d4,d5,d6,d13,M8,DB,y2,bne_self_eq_false,ez,lz]
 exact⟨hlt,by omega,by omega,by omega,by omega,by omega,oDQ⟩
end
def Z1:List (Bool × Bool × List Operand):=[EX,AH [.tmp 9],AH [.tmp 9,.tmp 5],AH [.tmp 9],AK,AK,AK,AH [.tmp 9],AK,AK,AK]
theorem Cc {e a c d:Int} {x y:Operand}:BT Tryd.prog .eql 36 x y (BR e a) (BR c d)=some (.bool (e==c&&a==d)):=iH
theorem g8 {a:Int} {x y:Operand}:BT Tryd.prog .eql 36 x y (BR 42 a) (BR 0 0)=some (.bool false):=by
 rw[Cc]
 rfl
theorem wS {e a:Int} {x y:Operand}:BT Tryd.prog .neq 36 x y (BR e a) (BR e a)=some (.bool false):=by
 rw[NL]
 simp
theorem Ca {o:BA} {a b c:Value} (h:AY 3 0 o=some (.agg #[a,b,c])):AJ 0 o=some a∧AJ 1 o=some b∧AJ 2 o=some c:=by
 cases o
 case row cs t g r=>
  match cs,h with
  | x :: y :: z :: rest,h=>
   have e:AY 3 0 (.row (x :: y :: z :: rest) t g r)=some (.agg #[x,y,z]):=by simp[AY,FN]
   rw[e] at h
   have h9:=congrArg Array.toList (Value.agg.inj (Option.some.inj h))
   simp at h9
   obtain⟨rfl,rfl,rfl⟩:=h9
   exact⟨rfl,rfl,rfl⟩
  | [],h=>simp[AY,FN] at h
  | [_],h=>simp[AY,FN] at h
  | [_,_],h=>simp[AY,FN] at h
 all_goals cases h
theorem fN {R:List AB} {e:Nat→Nat} {val:Nat→Int}:∀ (r i:Nat) (t:FJ),(EP R e val r i t).1.1=0→(EP R e val r i t).1=(0,0)
 | 0,i,t,_=>rfl
 | r+1,i,t,h=>by
  cases hx:R[i]? with
  | none=>
   unfold EP at h ⊢
   rw[hx]
  | some x=>
   by_cases h0:(DY e val i x t).1=0
   ·rw[OU hx h0] at h ⊢
    exact fN r (i+1) _ h
   ·rw[NB hx rfl h0] at h
    exact absurd h h0
section
variable {n N:Nat} {h:AA}
theorem Dw {nm:ByteArray} {s:AL} {pv cv tv:Value} {lo lc lt:Nat} {size:Int} {C:List Int} {u:FJ} (hp:CE lo h pv nm s) (hc:E3 lc h cv size C) (ht:G7 lt h tv u) (hlies:∀ nm' vr vq vv vt vu vo m,pv=.agg #[.string nm',vr,vq,vv,vt,vu,vo,m]→IA vr s.rows.length) (hs:IN s) (hl:s.rows.length<2932031007403) (hC:C.length<2932031007403) (h1:(A_ nm s).1.1=0) (h2:CU nm s size C=0)
  (hu:∀ (j:Nat) (x:AB),s.rows[j]?=some x→YS s.rows (AD (BB s.rows)) (CZ s size C) u j x) (hg:h.get 0=CT) (hn0:0<h.next) (hfl:h.floor≤h.next) (hn:2*FI s+102200+C.length<n) :
  AS n 21 [pv,cv,tv] h=some (.bool true,h):=by
 obtain⟨n,rfl⟩:∃ j,n=j+1:=⟨n-1,by omega⟩
 have htot:s.rows.length≤FI s:=by unfold FI;omega
 exact JB (BX ⟨rfl,rfl,rfl⟩) rfl (He (n:=n) (N:=n) hp hc ht hlies hs hl hC h1 h2 hu hg hn0 hfl (by omega) (by omega))
theorem zR {l:List AB} {v cv:Value} {size:Int} {C:List Int} (hv:A9 h v l) (hc:E3 0 h cv size C) (hL:l.length<2932031007403) (hC:C.length<17592186044416) (hfl:h.floor≤h.next) (hg:h.get 0=CT) (hn0:0<h.next) (hn:100000000000000<n) :
  ∃ h',A7 Tryd.prog (PG n) n 6 [v,cv] h=some (.bool true,h')∧True:=by
 obtain⟨vc,rfl,pc⟩:=id hc
 have hsn:=(XJ n).2
 refine EQ (R:=fun _=>True) Tryd.func6 rfl (by simp[Tryd.f6]) ?_
 have hr:Tryd.f6.results.toList=[.tmp 4]:=rfl
 have cb:=E1 [iv size,vc]
 have ob:[iv size,vc].all one=true:=by simp only[List.all_cons,List.all_nil,AO.one pc,JW,Bool.and_self]
 have zcT:zT.cells.toList=[Z0,Z0,Z0]:=rfl
 have gB:=BP (h:=h) (o:=.row [iv size,vc] 29 false false)
 have gO:∀ i,i<h.next→(h.push (.row [iv size,vc] 29 false false)).get i=h.get i:=fun i hi=>AR hi
 have nA:(h.push (.row [iv size,vc] 29 false false)).next=h.next+1:=rfl
 have fA:(h.push (.row [iv size,vc] 29 false false)).floor=h.floor:=rfl
 simp only[eE,seval,↓eP,FW,FD,FY,cb,ob,LY]
 generalize h.push (.row [iv size,vc] 29 false false)=A at *
 have hhd:=jX (n:=n) (h:=A) (by rw[gO 0 hn0];exact hg)
 obtain⟨v2,H1,hres,pv,rfl,hp,f1,n1,o1⟩:=cU (n:=n) (h:=A) (by omega) (by rw[gO 0 hn0];exact hg) (by omega) (hv.mono (by omega) gO) hL (by omega)
 have hres':=JE (n:=n) (by decide) hres
 obtain⟨nm,s,hout⟩:∃ nm s,DT l=(nm,s):=⟨_,_,rfl⟩
 have hsm:=(XK (l:=l) hL).1
 have htot:=(XK (l:=l) hL).2
 rw[hout] at hp hsm htot
 simp only at hp hsm htot
 obtain⟨vr,vq,vv,vt,vu,vo,rfl,p1,p2,p3,p4,p5,p6⟩:=id hp
 have oa:=J2 (nm:=nm) p1 p2 p3 p4 p5 p6
 obtain⟨⟨hc1,h3⟩,s1,s2,rO,n3,f3,o3⟩:=Z_ (H:=H1) (cs:=[.string nm,vr,vq,vv,vt,vu,vo,iv s.miss]) (e:=(BJ l).1.1) (p:=(BJ l).1.2) rfl oa (by omega)
 simp only at s1 s2 rO n3 f3 o3
 have lF:AY 2 0 (h3.get (H1.next+1))=some (BR (BJ l).1.1 (BJ l).1.2):=by rw[rO.2];rfl
 have lP:AY 8 0 (h3.get H1.next)=some (.agg #[.string nm,vr,vq,vv,vt,vu,vo,iv s.miss]):=K7 rO.1 rfl
 have o3A:∀ i,i<A.next→h3.get i=A.get i:=fun i hi=>by rw[o3 i (by omega),o1 i hi]
 have gB3:h3.get h.next=.row [iv size,vc] 29 false false:=by rw[o3A _ (by omega)];exact gB
 simp only[eE,seval,↓eP,hhd,hres',MS,MV,QA,DK,DJ,EO,CB,s1,s2,Nat.zero_add,CM,lF,FQ,NL]
 cases d0:(!((BJ l).1.1==0&&(BJ l).1.2==0)) with
 | true=>
  simp only[eE,seval,↓eP,hr,d0]
 | false=>
 have hok:(BJ l).1.1=0:=by
  simp at d0
  exact d0.1
 have hgood:=hout.symm.trans (R4 hok)
 obtain⟨rfl,rfl⟩:nm=K4 l∧s=(BJ l).2:=by cases hgood;exact⟨rfl,rfl⟩
 have hchk:=eF hok
 have hpos:0<l.length:=(N3 hok).1.pos
 have hlen:(BJ l).2.rows.length=l.length:=(N3 hok).2.2.2.2.2.len
 have hvar:=Cg hok
 generalize hs:(BJ l).2=s at *
 generalize hnm:K4 l=nm at *
 have hG:=XT hchk
 have rF:=rO.2
 have lPo:∀ X:AA,X.get H1.next=h3.get H1.next→AY 8 0 (X.get H1.next)=some (.agg #[.string nm,vr,vq,vv,vt,vu,vo,iv s.miss]):=fun X e=>by rw[e];exact lP
 have hlies:∀ nm' vr' vq' vv' vt' vu' vo' m,(Value.agg #[.string nm,vr,vq,vv,vt,vu,vo,iv s.miss])=.agg #[.string nm',vr',vq',vv',vt',vu',vo',m]→IA vr' s.rows.length:=by
  intro _ _ _ _ _ _ _ _ e9
  cases e9
  exact eU p1.1 (by omega)
 have hp3:CE A.next h3 (.agg #[.string nm,vr,vq,vv,vt,vu,vo,iv s.miss]) nm s:=hp.mono (by omega) fun j _ hj=>o3 j (by omega)
 have o3h:∀ j,j<h.next→h3.get j=h.get j:=fun j hj=>by rw[o3A j (by omega),gO j hj]
 obtain⟨a7,H4,hty,⟨tv7,rfl,hT7⟩,f4,n4,o4⟩:=dN (n:=n) hp3 hlies hsm (by omega) (by rw[o3h 0 hn0];exact hg) (by omega) (by omega) (by omega)
 have hty':=JE (n:=n) (by decide) hty
 have sD:=JQ (h:=H4) (id:=H1.next+1) (vs:=[iv (A_ nm s).1.1,iv (A_ nm s).1.2]) IS (by rw[o4 _ (by omega)];exact rF) rfl rfl rfl (by omega)
 have sD:BC Tryd.prog H4 36 (qP (H1.next+1) 0) (BR (A_ nm s).1.1 (A_ nm s).1.2)=_:=sD
 have gD:(H4.put (H1.next+1) (.row [iv (A_ nm s).1.1,iv (A_ nm s).1.2] 36 false false)).get (H1.next+1)=.row [iv (A_ nm s).1.1,iv (A_ nm s).1.2] 36 false false:=B_ rfl (by omega)
 have oD:∀ j,j≠H1.next+1→(H4.put (H1.next+1) (.row [iv (A_ nm s).1.1,iv (A_ nm s).1.2] 36 false false)).get j=H4.get j:=fun j hj=>AW (by omega) (Ne.symm hj)
 have nD:(H4.put (H1.next+1) (.row [iv (A_ nm s).1.1,iv (A_ nm s).1.2] 36 false false)).next=H4.next:=rfl
 have fD:(H4.put (H1.next+1) (.row [iv (A_ nm s).1.1,iv (A_ nm s).1.2] 36 false false)).floor=H4.floor:=rfl
 generalize H4.put (H1.next+1) (.row [iv (A_ nm s).1.1,iv (A_ nm s).1.2] 36 false false)=D at *
 have oD3:∀ j,j<h3.next→j≠H1.next+1→D.get j=h3.get j:=fun j hj hne=>by rw[oD j hne,o4 j hj]
 have oDh:∀ j,j<h.next→D.get j=h.get j:=fun j hj=>by rw[oD3 j (by omega) (by omega),o3h j hj]
 have hpD:CE A.next D (.agg #[.string nm,vr,vq,vv,vt,vu,vo,iv s.miss]) nm s:=hp.mono (by omega) fun j _ hj=>by rw[oD3 j (by omega) (by omega),o3 j (by omega)]
 have hcD:E3 0 D (.agg #[iv size,vc]) size C:=hc.mono (by omega) fun j _ hj=>oDh j hj
 have hTD:=AV.mono hT7 (h':=D) (by omega) fun j h1 h2=>oD j (by omega)
 obtain⟨a1,H5,hk1,⟨tv1,rfl,hT1⟩,f5,n5,o5⟩:=cB (n:=n) hpD hcD hlies hsm (by omega) hC (by rw[oDh 0 hn0];exact hg) (by omega) (by omega) (by omega)
 have hk1':=JE (n:=n) (by decide) hk1
 obtain⟨F0,Fh,w1,w2,w3,gFF,nF,fF,oF⟩:=dV hT1 (by omega) (BY nm s size C).1.1 (BY nm s size C).1.2
 have oFD:∀ j,j<D.next→Fh.get j=D.get j:=fun j hj=>by rw[oF j (by omega),o5 j hj]
 have oFh:∀ j,j<h.next→Fh.get j=h.get j:=fun j hj=>by rw[oFD j (by omega),oDh j hj]
 have hpF:CE A.next Fh (.agg #[.string nm,vr,vq,vv,vt,vu,vo,iv s.miss]) nm s:=hp.mono (by omega) fun j _ hj=>by rw[oFD j (by omega),oD3 j (by omega) (by omega),o3 j (by omega)]
 have hcF:E3 0 Fh (.agg #[iv size,vc]) size C:=hc.mono (by omega) fun j _ hj=>oFh j hj
 have hTF:AV h3.next Fh tv7 (A_ nm s).2:=AV.mono hTD (by omega) fun j h1 h2=>oFD j h2
 have hT1F:=hT1.mono (H':=Fh) (by omega) fun j h1 h2=>oF j h2
 have lPD:=lPo D (oD3 _ (by omega) (by omega))
 have lPF:=lPo Fh (by rw[oFD _ (by omega)];exact oD3 _ (by omega) (by omega))
 have lCD:AY 2 0 (D.get h.next)=some (.agg #[iv size,vc]):=by rw[oD3 _ (by omega) (by omega),gB3];rfl
 have lCF:AY 2 0 (Fh.get h.next)=some (.agg #[iv size,vc]):=by rw[oFD _ (by omega)];exact lCD
 have gTF:Fh.get (H1.next+1)=.row [iv (A_ nm s).1.1,iv (A_ nm s).1.2] 36 false false:=by rw[oFD _ (by omega)];exact gD
 have lT:AY 2 0 (Fh.get (H1.next+1))=some (BR (A_ nm s).1.1 (A_ nm s).1.2):=by rw[gTF];rfl
 have lT1:AJ 1 (Fh.get (H1.next+1))=some (iv (A_ nm s).1.2):=by rw[gTF];rfl
 have lK:AY 2 0 (Fh.get (H5.next+1))=some (BR (BY nm s size C).1.1 (BY nm s size C).1.2):=by rw[gFF];rfl
 have x1F:AJ 1 (Fh.get H1.next)=some vr:=by rw[oFD _ (by omega),oD3 _ (by omega) (by omega),rO.1];rfl
 have lenR:=fun h'=>NJ p1.2 h'
 have len7:=fun h'=>I_ hTF h'
 simp only[eE,seval,↓eP,d0,Nat.zero_add,C2,lP,hty',sD,EN,lPD,lCD,hk1',MG,L7,zcT,DK,DJ,EO,CB,w1,w2,CM,lT,FQ,NL]
 cases d1:(!((A_ nm s).1.1==0&&(A_ nm s).1.2==0)) with
 | true=>
  have hne:(A_ nm s).1.1≠0:=fun h9=>by
   have e:=n9 hchk h9
   rw[e] at d1
   simp at d1
  obtain⟨e2,e3,e4⟩:=yT hchk hne
  have eR:(BY nm s size C).1=(A_ nm s).1:=by unfold BY;rw[if_pos hne]
  rw[eR] at lK
  rw[e2] at len7
  have m1:decide ((A_ nm s).1.2≥0)=true:=by simpa using e3
  have m2:decide ((A_ nm s).1.2<(s.rows.length:Int))=true:=by simpa using e4
  simp only[eE,seval,↓eP,hr,d1,Nat.zero_add,CM,lT,lK,O9,len7,List.length_nil,bX,AT,lT1,m1,m2,CL,CK,x1F,lenR]
 | false=>
 have h1:(A_ nm s).1.1=0:=by
  simp at d1
  exact d1.1
 have hTL:=n9 hchk h1
 rw[hTL] at hTF len7 lT
 simp only at hTF len7 lT
 have hf1:=JE (n:=n) (by decide) (RK (n:=n) (h:=Fh) hpF hcF hlies (by omega) (by rw[oFh 0 hn0];exact hg) (by omega) hsm hC (by omega) (by omega))
 have hf2:=JE (n:=n) (by decide) (RK (n:=n) (h:=Fh.fl (max Fh.floor Fh.next)) (hpF.mono (Nat.le_refl _) fun _ _ _=>rfl) (hcF.mono (Nat.le_refl _) fun _ _ _=>rfl) hlies (by omega) (by show Fh.get 0=_;rw[oFh 0 hn0];exact hg) (by rw[GO];omega) hsm hC (by rw[GO,JS];omega) (by omega))
 cases d2:(CU nm s size C != 0) with
 | true=>
  have h2:CU nm s size C≠0:=by simpa using d2
  have h45:CU nm s size C=45:=by rcases kE (size:=size) (C:=C) hchk with h9 | h9;exact absurd h9 h2;exact h9
  have eR:(BY nm s size C).1=(45,0):=by
   unfold BY
   rw[if_neg (by omega),if_pos h2,h45]
  rw[eR] at lK
  rw[h45] at hf1 hf2 d2
  have hq1:(H1.next+1<Fh.next)=True:=by simp;omega
  have hq2:(H1.next<Fh.next)=True:=by simp;omega
  have hq3:(h.next<Fh.next)=True:=by simp;omega
  have hq5:(H5.next+1<Fh.next)=True:=by simp;omega
  simp only[eE,seval,↓eP,d1,Nat.zero_add,C2,lPF,EN,lCF,hf1,FQ,QO,d2]
  refine WK.flags (fs:=Z1) (by kernel_rfl) ?_
  unfold Z1
  iterate 11
   refine EC hsn ?_
   simp only[rG,seval,AC,AF,AE,C0,DW,CR,DD,EG,Option.bind_some,I3,hq1,hq2,hq3,hq5,CM,lK,C2,lPF,EN,lCF,hf2,O9,PE,JS,K8,GO,J6,HN,List.map_cons,List.map_nil]
  refine EF ?_
  simp only[eE,seval,↓eP,hr]
 | false=>
 have h2:CU nm s size C=0:=by simpa using d2
 have hFC:=WX h2
 have hqs:=hsm.2.1
 have hClen:=hFC.len
 have d3:(((s.rows.map (BS ·.kind)).length:Int) != (s.rows.length:Int))=false:=by simp
 have len7':∀ X:AA,C7 Tryd.prog X 27 tv7=some (iv (s.rows.length:Int)):=fun X=>by have:=len7 X;rwa [List.length_map] at this
 simp only[eE,seval,↓eP,d1,Nat.zero_add,C2,lPF,EN,lCF,hf1,FQ,QO,d2,len7',CL,CK,x1F,lenR,bne_self_eq_false]
 refine WK.loop (fun i s'=>s'.T.get 3=qP h.next 0∧s'.T.get 5=qP H1.next 0∧s'.T.get 7=tv7∧s'.T.get 8=qP H5.next 0∧s'.T.get 9=qP (H5.next+1) 0∧s'.T.get 10=iv (i:Int)∧i≤s.rows.length∧Fh.next≤s'.h.next∧s'.h.floor=Fh.floor∧∀ j,j<Fh.next→s'.h.get j=Fh.get j) s.rows.length (by omega) ?_ ?_
 ·exact⟨by simp only[eE,seval,↓eP,rP],by simp only[eE,seval,↓eP,rP],by simp only[eE,seval,↓eP,rP],by simp only[eE,seval,↓eP,rP],by simp only[eE,seval,↓eP,rP],by simp only[eE,seval,↓eP,rP] <;> rfl,by omega,Nat.le_refl _,rfl,fun _ _=>rfl⟩
 rintro i ⟨T,H⟩ hi9 ⟨t3,t5,t7,t8,t9,t10,hil,nH,fH,oH⟩
 simp only at t3 t5 t7 t8 t9 t10 nH fH oH
 have oHh:∀ j,j<h.next→H.get j=h.get j:=fun j hj=>by rw[oH j (by omega),oFh j hj]
 have lPH:AY 8 0 (H.get H1.next)=some (.agg #[.string nm,vr,vq,vv,vt,vu,vo,iv s.miss]):=by rw[oH _ (by omega)];exact lPF
 have lCH:AY 2 0 (H.get h.next)=some (.agg #[iv size,vc]):=by rw[oH _ (by omega)];exact lCF
 have hpH:CE A.next H (.agg #[.string nm,vr,vq,vv,vt,vu,vo,iv s.miss]) nm s:=hpF.mono (by omega) fun j _ hj=>oH j hj
 have hcH:E3 0 H (.agg #[iv size,vc]) size C:=hcF.mono (by omega) fun j _ hj=>oH j hj
 by_cases hlt:i<s.rows.length
 rotate_left
 ·have c1:decide ((i:Int)<(s.rows.length:Int))=false:=by simp;omega
  have gK:H.get (H5.next+1)=.row [iv (BY nm s size C).1.1,iv (BY nm s size C).1.2] 36 false false:=by rw[oH _ (by omega)];exact gFF
  have lKH:AY 2 0 (H.get (H5.next+1))=some (BR (BY nm s size C).1.1 (BY nm s size C).1.2):=by rw[gK];rfl
  have lK0:AJ 0 (H.get (H5.next+1))=some (iv (BY nm s size C).1.1):=by rw[gK];rfl
  have lK1:AJ 1 (H.get (H5.next+1))=some (iv (BY nm s size C).1.2):=by rw[gK];rfl
  have gPH:H.get H1.next=.row [.string nm,vr,vq,vv,vt,vu,vo,iv s.miss] 33 false false:=by rw[oH _ (by omega),oFD _ (by omega),oD3 _ (by omega) (by omega)];exact rO.1
  obtain⟨_,xq1,_,xq3,xq4,_,_,_⟩:=T8 gPH
  have eR:BY nm s size C=EP s.rows (AD (BB s.rows)) (CZ s size C) s.rows.length 0 ⟨[],[],List.replicate s.rows.length 0⟩:=by
   unfold BY
   rw[if_neg (by omega),if_neg (by omega)]
   rfl
  cases d4:(!((BY nm s size C).1.1==0&&(BY nm s size C).1.2==0)) with
  | true=>
   have hne:(BY nm s size C).1.1≠0:=fun h9=>by
    rw[eR] at h9
    have e:=fN _ _ _ h9
    rw[eR,e] at d4
    simp at d4
   have hat:=pP (R:=s.rows) (e:=AD (BB s.rows)) (val:=CZ s size C) s.rows.length 0 ⟨[],[],List.replicate s.rows.length 0⟩ (Nat.zero_add _)
   have hcd:=cC (R:=s.rows) (e:=AD (BB s.rows)) (val:=CZ s size C) s.rows.length 0 ⟨[],[],List.replicate s.rows.length 0⟩
   rw[← eR] at hat hcd
   obtain⟨j,x,ej,_,hxj,hk1⟩:=hat hne
   have hjl:=(List.getElem?_eq_some_iff.1 hxj).1
   have hj0:j≠0:=fun e=>by
    subst e
    obtain⟨z,hz,hz1⟩:=hG.root
    obtain⟨x',hx',rfl⟩:=X6 hz
    rw[hxj] at hx'
    cases hx'
    rw[(b_ x).1] at hz1
    exact hk1 hz1
   have m1:decide ((BY nm s size C).1.2>0)=true:=by simp;omega
   have m2:decide ((BY nm s size C).1.2<(s.rows.length:Int))=true:=by simp;omega
   cases d5:((BY nm s size C).1.1==43) with
   | true=>simp only[eE,seval,↓eP,hr,Nat.zero_add,t3,t5,t7,t8,t9,t10,len7',c1,CM,lKH,FQ,NL,d4,EW,bX,EV,AT,lK0,lK1,m1,m2,CL,CK,xq1,lenR,d5]
   | false=>
    have d6:((BY nm s size C).1.1==44)=true:=by
     have h43:(BY nm s size C).1.1≠43:=by simpa using d5
     rcases hcd with h9 | h9 | h9
     ·exact absurd h9 hne
     ·exact absurd h9 h43
     ·rw[h9];rfl
    simp only[eE,seval,↓eP,hr,Nat.zero_add,t3,t5,t7,t8,t9,t10,len7',c1,CM,lKH,FQ,NL,d4,EW,bX,EV,AT,lK0,lK1,m1,m2,CL,CK,xq1,lenR,d5,d6]
  | false=>
   have h0:(BY nm s size C).1.1=0:=by
    simp at d4
    exact d4.1
   obtain⟨r1,r2,r3,_,_,_,r7⟩:=oP (R:=s.rows) (e:=AD (BB s.rows)) (val:=CZ s size C) s.rows.length 0 ⟨[],[],List.replicate s.rows.length 0⟩ (Nat.zero_add _) rfl rfl (by simp) (fun j _ hj=>by simp[List.getElem?_replicate,hj]) (by rw[← eR];exact h0)
   rw[← eR] at r1 r2 r3 r7
   have hT1H:=hT1F.mono (H':=H) (by omega) fun j _ hj=>oH j hj
   obtain⟨ya,yb,yc,rfl,z1,z2,z3⟩:=id hT1H
   have lTy:AY 3 0 (H.get H5.next)=some (.agg #[ya,yb,yc]):=by rw[oH _ (by omega)];exact w3
   have kn:=JE (n:=n) (by decide) (Dw (n:=n) (h:=H) hpH hcH hT1H hlies hsm (by omega) (by omega) h1 h2 (fun j x hx=>r7 j x (Nat.zero_le _) hx) (by rw[oHh 0 hn0];exact hg) (by omega) (by omega) (by omega))
   obtain⟨Y0,Y1,Y2⟩:=Ca lTy
   have lV:=fun h'=>AO.len z1 Tryd.underlying41 (h':=h')
   have lG:=fun h'=>I_ z2 h'
   have lR:=fun h'=>I_ z3 h'
   have lv:=fun h'=>AO.len p3 Tryd.underlying31 (h':=h')
   have lg:=fun h'=>AO.len p4 Tryd.underlying31 (h':=h')
   rw[r1,← hvar.1] at lV
   rw[r2,← hvar.2] at lG
   rw[r3] at lR
   simp only[eE,seval,↓eP,hr,Nat.zero_add,t3,t5,t7,t8,t9,t10,len7',c1,CM,lKH,FQ,NL,d4,N_,RS,M8,NU,DB,Y0,Y1,Y2,lV,lG,lR,CL,KQ,K3,CK,JT,xq1,xq3,xq4,lenR,lv,lg,BEq.rfl,C2,lPH,EN,lCH,KV,lTy,kn]
 have c1:decide ((i:Int)<(s.rows.length:Int))=true:=by simp;omega
 obtain⟨x,hx⟩:∃ x,s.rows[i]?=some x:=⟨_,List.getElem?_eq_getElem hlt⟩
 have w1':IntKind.i64.wrap ((i:Int)+1)=((i+1:Nat):Int):=C8 (by omega) (by omega)
 have kc:=JE (n:=n) (by decide) (g9 (n:=n) (h:=H) (row:=(i:Int)) hpH hcH hlies (by rw[oHh 0 hn0];exact hg) (by omega) hsm (by omega) (by omega) (by omega) (by omega) (by omega))
 obtain⟨K,stK,gK,nK,fK,oK⟩:=LG (t:=36) IS (H:=H) (zs:=[iv 0,iv 0]) (vs:=[iv (D4 nm s size C (i:Int)).2.1,iv (D4 nm s size C (i:Int)).2.2]) rfl rfl rfl (by omega)
 have stK:BC Tryd.prog (H.push (.row [iv 0,iv 0] 36 false false)) 36 (qP H.next 0) (BR (D4 nm s size C (i:Int)).2.1 (D4 nm s size C (i:Int)).2.2)=some K:=stK
 have lKK:AY 2 0 (K.get H.next)=some (BR (D4 nm s size C (i:Int)).2.1 (D4 nm s size C (i:Int)).2.2):=by rw[gK];rfl
 have oKF:∀ j,j<Fh.next→K.get j=Fh.get j:=fun j hj=>by rw[oK j (by omega),oH j hj]
 obtain⟨it,pt,et,_,lt7⟩:=AV.get (AV.mono hTF (h':=K) (by omega) fun j _ hj=>oKF j hj) (i:=i) (x:=BS x.kind) (by rw[List.getElem?_map,hx];rfl)
 obtain⟨q1,q2⟩:=xR (size:=size) (C:=C) h1 h2 hx
 cases e0:(BS x.kind==0) with
 | true=>
  have eC:=q1 (by simpa using e0)
  rw[eC] at kc lKK stK
  simp only[eE,seval,↓eP,Nat.zero_add,t3,t5,t7,t8,t9,t10,len7',c1,C2,lPH,EN,lCH,kc,DK,DJ,EO,CB,stK,et,AT,lt7,CM,lKK,e0,IQ,wS,FQ,g8,w1']
  exact⟨hlt,by omega,by omega,by omega,oKF⟩
 | false=>
 rcases q2 with q2 | ⟨q2,r1,r2,r3⟩
 ·rw[q2] at kc lKK stK
  simp only[eE,seval,↓eP,Nat.zero_add,t3,t5,t7,t8,t9,t10,len7',c1,C2,lPH,EN,lCH,kc,DK,DJ,EO,CB,stK,et,AT,lt7,CM,lKK,e0,IQ,FQ,g8,w1']
  exact⟨hlt,by omega,by omega,by omega,oKF⟩
 ·rw[q2] at kc lKK stK
  have m1:decide ((D4 nm s size C (i:Int)).1 < -1073741824)=false:=by simp;omega
  have m2:decide ((D4 nm s size C (i:Int)).1>1073741824)=false:=by simp;omega
  cases e2:(BS x.kind==2) with
  | true=>
   rcases r3 (by simpa using e2) with r4 | r4
   ·rw[r4] at kc
    simp only[eE,seval,↓eP,Nat.zero_add,t3,t5,t7,t8,t9,t10,len7',c1,C2,lPH,EN,lCH,kc,DK,DJ,EO,CB,stK,et,AT,lt7,CM,lKK,e0,e2,FQ,O9,bne_self_eq_false,w1']
    exact⟨hlt,by omega,by omega,by omega,oKF⟩
   ·rw[r4] at kc
    simp only[eE,seval,↓eP,Nat.zero_add,t3,t5,t7,t8,t9,t10,len7',c1,C2,lPH,EN,lCH,kc,DK,DJ,EO,CB,stK,et,AT,lt7,CM,lKK,e0,e2,FQ,O9,bne_self_eq_false,w1']
    exact⟨hlt,by omega,by omega,by omega,oKF⟩
  | false=>
   simp only[eE,seval,↓eP,Nat.zero_add,t3,t5,t7,t8,t9,t10,len7',c1,C2,lPH,EN,lCH,kc,DK,DJ,EO,CB,stK,et,AT,lt7,CM,lKK,e0,e2,FQ,O9,m1,m2,w1']
   exact⟨hlt,by omega,by omega,by omega,oKF⟩
end
end Go.Proofs.YtdejoodfeljmkaaDoor
namespace Go.Proofs.YtdejoodfeljmkaaDoor
open Go Go.Sx Go.ChangeShapes Go.WideShapes Go.ChangeAt Go.RowKit
set_option maxRecDepth 100000
set_option linter.unusedSimpArgs false
set_option linter.unusedVariables false
set_option maxHeartbeats 64000000
section
variable {α:Type} {cells:α→List Value} {w:Nat} {l:List α}
theorem vF (hcl:∀ x,(cells x).length=w):(l.flatMap cells).length=l.length*w:=by
 induction l with
 | nil=>simp
 | cons x l ih=>
  rw[List.flatMap_cons,List.length_append,ih,hcl,List.length_cons,Nat.succ_mul]
  omega
theorem iD (hcl:∀ x,(cells x).length=w):∀ {l:List α} {i j:Nat} {x:α},l[i]?=some x→j<w→(l.flatMap cells)[i*w+j]?=(cells x)[j]?
 | [],i,j,x,h,_=>by simp at h
 | y :: l,0,j,x,h,hj=>by
  cases h
  rw[List.flatMap_cons,Nat.zero_mul,Nat.zero_add,List.getElem?_append_left (by rw[hcl];exact hj)]
 | y :: l,i+1,j,x,h,hj=>by
  have h':l[i]?=some x:=h
  rw[List.flatMap_cons,List.getElem?_append_right (by rw[hcl,Nat.succ_mul];omega),hcl,← iD hcl h' hj]
  congr 1
  rw[Nat.succ_mul]
  omega
end
def HG (W:World) (v:Value) (n w:Nat) (cs:List Value):Prop:=cs.length=n*w∧((n=0∧v=Z0) ∨
 ∃ b off cap CS ty fr,v=.slice (some ⟨b,off,none⟩) n cap∧n≤cap∧cap<AP∧W.heap[b]?=some (.cells CS ty fr)∧∀ k,k<n*w→CS[off+k]?=cs[k]?)
section
variable {H:Type} {enc:TypeId × Value→H} {W:World} {base b0:Nat} {sp:Nat→Bool} {hd:Bool}
theorem NO {α:Type} {cells:α→List Value} {Q:α→Prop} {w:Nat} {t e:TypeId} (ht:Tryd.prog.underlying t=some (.slice e)) (hw:Tryd.prog.cellsOf e=w)
  (hopen:∀ n cs y,DataW.trod enc Tryd.prog W base sp hd n e cs=some y→∃ x,cs=cells x∧Q x) (hcl:∀ x,(cells x).length=w) (hw0:0<w)
  {v:Value} {n:Nat} {y:DataW H × List MemPlace} (hval:Cell.okWide Tryd.prog W .any b0 t v) (h:DataW.trod enc Tryd.prog W base sp hd n t [v]=some y):∃ l:List α,(∀ x∈l,Q x)∧HG W v l.length w (l.flatMap cells):=by
 rcases DataW.trod_slice ht h with⟨h1,h2⟩ | ⟨a',len,cap,elems,rest,n',_,h1,_,hb,hl,hm,hlen,hel,_⟩
 ·cases h1
  exact⟨[],fun x hx=>(by cases hx),by simp,.inl ⟨rfl,rfl⟩⟩
 ·cases h1
  simp only[Cell.okWide,ht,Cell.ok] at hval
  obtain⟨_,_,_,hsp,row,cells',hsh,_⟩:=hval
  obtain⟨b,off,spot⟩:=a'
  simp only at hsp
  subst hsp
  have hblk:∃ CS ty fr,W.heap[b]?=some (.cells CS ty fr):=by
   simp only[World.shape?] at hsh
   split at hsh
   ·rename_i CS ty fr hh;exact⟨_,_,_,hh⟩
   ·cases hsh
  obtain⟨CS,ty,fr,hblk⟩:=hblk
  have each:∀ i,i<len→∃ x:α,Q x∧∀ j,j<w→CS[off+(i*w+j)]?=(cells x)[j]?:=fun i hi=>by
   have:=hel i hi
   obtain⟨y,hy⟩:∃ y,elems[i]?=some y:=⟨_,List.getElem?_eq_getElem (by omega)⟩
   rw[hy,bQ,hw,Option.bind_eq_some_iff] at this
   obtain⟨cs,hcs,ht⟩:=this
   obtain⟨x,rfl,hx⟩:=hopen _ _ _ ht
   obtain⟨_,hc⟩:=o9 hcs
   refine⟨x,hx,fun j hj=>?_⟩
   rw[← hc j hj,← Nat.add_assoc]
   simp only[World.cell?,hblk,Option.isSome_none,Bool.false_eq_true,if_false]
  obtain⟨l,hll,hl1⟩:∃ l:List α,l.length=len∧∀ i x,l[i]?=some x→Q x∧∀ j,j<w→CS[off+(i*w+j)]?=(cells x)[j]?:=by
   have : ∀ m,m≤len→∃ l:List α,l.length=m∧∀ i x,l[i]?=some x→Q x∧∀ j,j<w→CS[off+(i*w+j)]?=(cells x)[j]?:=by
    intro m
    induction m with
    | zero=>exact fun _=>⟨[],rfl,fun i x h=>by simp at h⟩
    | succ m ih=>
     intro hm
     obtain⟨l,h1,h2⟩:=ih (by omega)
     obtain⟨x,hx⟩:=each m (by omega)
     refine⟨l++[x],by simp[h1],fun i y hy=>?_⟩
     rcases Nat.lt_or_ge i l.length with h3 | h3
     ·rw[List.getElem?_append_left h3] at hy
      exact h2 i y hy
     ·rw[List.getElem?_append_right h3] at hy
      have:i-l.length=0:=by
       rcases Nat.eq_zero_or_pos (i-l.length) with h4 | h4
       ·exact h4
       ·rw[List.getElem?_eq_none (by simp;omega)] at hy
        cases hy
      rw[this] at hy
      cases hy
      have:i=m:=by omega
      subst this
      exact hx
   exact this len (Nat.le_refl _)
  unfold maxLen at hm
  refine⟨l,fun x hx=>?_,vF hcl,.inr ⟨b,off,cap,CS,ty,fr,by rw[hll],by omega,by unfold AP;omega,hblk,fun k hk=>?_⟩⟩
  ·obtain⟨i,hi⟩:=List.getElem?_of_mem hx
   exact(hl1 i x hi).1
  ·have hdm:=Nat.div_add_mod k w
   rw[Nat.mul_comm] at hdm
   have hj:=Nat.mod_lt k hw0
   have hi:k/w<l.length:=(Nat.div_lt_iff_lt_mul hw0).2 hk
   have hx:=List.getElem?_eq_getElem hi
   rw[← hdm,(hl1 _ _ hx).2 _ hj,iD hcl hx hj]
end
structure M1 where
 v:Value
 n:Nat
 w:Nat
 cs:List Value
 ty:TypeId
noncomputable def IR:AA→List M1→AA
 | h,[]=>h
 | h,p :: ps=>IR (h.push (.row p.cs p.ty false true)) ps
theorem bO:∀ (ps:List M1) (h:AA),(IR h ps).next=h.next+ps.length∧(IR h ps).floor=h.floor∧∀ i,i<h.next→(IR h ps).get i=h.get i
 | [],h=>⟨rfl,rfl,fun _ _=>rfl⟩
 | p :: ps,h=>by
  obtain⟨h1,h2,h3⟩:=bO ps (h.push (.row p.cs p.ty false true))
  rw[CB] at h1 h3
  refine⟨by show (IR _ ps).next=_;rw[h1,List.length_cons];omega,h2,fun i hi=>?_⟩
  show (IR _ ps).get i=_
  rw[h3 i (by omega),AR hi]
theorem pR:∀ {ps:List M1} {h:AA} {i:Nat} {p:M1},ps[i]?=some p→(IR h ps).get (h.next+i)=.row p.cs p.ty false true
 | [],h,i,p,hp=>by simp at hp
 | q :: ps,h,0,p,hp=>by
  cases hp
  show (IR _ ps).get h.next=_
  rw[(bO ps _).2.2 _ (by rw[CB];omega),BP]
 | q :: ps,h,i+1,p,hp=>by
  have:=pR (ps:=ps) (h:=h.push (.row q.cs q.ty false true)) (i:=i) (p:=p) hp
  rw[CB] at this
  show (IR _ ps).get (h.next+(i+1))=_
  rw[← this]
  congr 1
  omega
def MO (p:M1):Go.Sx.Loc:=match p.v with
 | .slice (some a) _ _=>⟨a.block,a.off,0,0⟩
 | _=>⟨0,0,0,0⟩
def QS (ps:List M1):BD:=fun i=>if i=0 then some ⟨0,0,0,0⟩ else (ps[i-1]?).map MO
def QZ (i:Nat) (p:M1):Value:=match p.v with
 | .slice (some _) n c=>qS i n c
 | v=>v
theorem X0 {ps:List M1} {i:Nat} {p:M1} (h:ps[i]?=some p):QS ps (i+1)=some (MO p):=by
 unfold QS
 rw[if_neg (by omega),Nat.add_sub_cancel,h]
 rfl
theorem aU {W : World} (h : laidMetH Tryd.prog [("winnow/lex.words", Rows.laid_winnow_lex_words)] W) {ps : List M1} (hps : ∀ p ∈ ps, HG W p.v p.n p.w p.cs ∧ ∀ v ∈ p.cs, BL v = true) :
  BU Tryd.prog (QS ps) (IR JO ps) W∧(∀ i,¬ wr ((IR JO ps).get i))∧(IR JO ps).next=ps.length+1∧(IR JO ps).floor=0∧(IR JO ps).get 0=CT ∧
   ∀ (i:Nat) p,ps[i]?=some p→AI (QS ps) (QZ (i+1) p) p.v∧AO 0 (IR JO ps) (QZ (i+1) p) p.n p.w p.cs:=by
 obtain⟨hn,hf,ho⟩:=bO ps JO
 have h01:JO.next=1:=rfl
 rw[h01] at hn ho
 obtain⟨CS0,ty0,fr0,hb0,hcs0⟩:=aV (zs:=GT) (rest:=[]) XY bE Tryd.underlying126 Tryd.underlying9 ZK cG h
 have hget:∀ (i:Nat) p,ps[i]?=some p→(IR JO ps).get (i+1)=.row p.cs p.ty false true:=fun i p hp=>by
  have:=pR (h:=JO) hp
  rw[h01,Nat.add_comm] at this
  exact this
 have hro:=W_ (P:=Tryd.prog) (W:=W) (ρ:=QS ps) (h:=IR JO ps) rfl (fun i hi=>by
   unfold QS
   rw[if_neg (by omega),List.getElem?_eq_none (by omega)]
   rfl) (fun g hg=>by
   rw[VY] at hg
   obtain rfl:g=0:=by omega
   exact⟨_,rfl,rfl,rfl⟩) (fun i hi=>by
   rw[hn] at hi
   cases i with
   | zero=>
    refine⟨LT,9,false,⟨0,0,0,0⟩,CS0,ty0,fr0,(ho 0 (by omega)).trans rfl,rfl,hb0,fun k v hv=>⟨v,?_,?_⟩⟩
    ·have:CS0.toList[k]?=some v:=by rw[hcs0];exact hv
     simpa using this
    ·have hm:v∈LT:=List.mem_of_getElem? hv
     obtain⟨z,_,rfl⟩:=List.mem_map.1 hm
     exact .flat rfl
   | succ i=>
    obtain⟨p,hp⟩:∃ p,ps[i]?=some p:=⟨_,List.getElem?_eq_getElem (by omega)⟩
    obtain⟨⟨hl,hor⟩,hfl⟩:=hps p (List.mem_of_getElem? hp)
    rcases hor with⟨h0,hv⟩ | ⟨b,off,cap,CS,ty,fr,hv,h1,h2,h3,h4⟩
    ·refine⟨p.cs,p.ty,false,MO p,CS0,ty0,fr0,hget i p hp,X0 hp,by unfold MO;rw[hv];exact hb0,fun k v hk=>?_⟩
     have:=(List.getElem?_eq_some_iff.1 hk).1
     rw[hl,h0,Nat.zero_mul] at this
     omega
    ·refine⟨p.cs,p.ty,false,MO p,CS,ty,fr,hget i p hp,X0 hp,by unfold MO;rw[hv];exact h3,fun k v hk=>⟨v,?_,.flat (hfl v (List.mem_of_getElem? hk))⟩⟩
     have hkl:=(List.getElem?_eq_some_iff.1 hk).1
     have e:(MO p).d=off:=by unfold MO;rw[hv]
     rw[e,h4 k (by omega)]
     exact hk)
 refine⟨hro.1,hro.2,by omega,hf,(ho 0 (by omega)).trans rfl,fun i p hp=>?_⟩
 obtain⟨⟨hl,hor⟩,hfl⟩:=hps p (List.mem_of_getElem? hp)
 have hil:=(List.getElem?_eq_some_iff.1 hp).1
 rcases hor with⟨h0,hv⟩ | ⟨b,off,cap,CS,ty,fr,hv,h1,h2,h3,h4⟩
 ·have e:QZ (i+1) p=Z0:=by unfold QZ;rw[hv]
  have ecs:p.cs=[]:=List.length_eq_zero_iff.1 (by rw[hl,h0,Nat.zero_mul])
  rw[e,hv,ecs,h0]
  exact⟨.flat rfl,AO.nil _ _ _⟩
 ·have e:QZ (i+1) p=qS (i+1) p.n cap:=by unfold QZ;rw[hv]
  have eL:MO p=⟨b,off,0,0⟩:=by unfold MO;rw[hv]
  rw[e]
  refine⟨?_,AO.rowR (ex:=[]) (by rw[List.append_nil];exact hget i p hp) ⟨Nat.zero_le _,by omega⟩ hl fun h=>absurd h (Nat.lt_irrefl 0)⟩
  rw[hv]
  exact AI.slice (L:=⟨b,off,0,0⟩) (by rw[X0 hp,eL]) h2
theorem QC:Tryd.prog.cellsOf 26=1∧Tryd.prog.cellsOf 30=1∧Tryd.prog.cellsOf 31=1∧Tryd.prog.cellsOf 27=1:=⟨by kernel_rfl,by kernel_rfl,by kernel_rfl,by kernel_rfl⟩
theorem dM (l:List Int):l.flatMap (fun x=>[iv x])=ints l:=by
 induction l with
 | nil=>rfl
 | cons x l ih=>rw[List.flatMap_cons,ih];rfl
section
variable {H:Type} {enc:TypeId × Value→H} {W:World} {base b0:Nat} {sp:Nat→Bool} {hd:Bool}
theorem SD {n:Nat} {cs:List Value} {y:DataW H × List MemPlace} (h:DataW.trod enc Tryd.prog W base sp hd n 3 cs=some y):∃ x:Int,cs=[iv x]∧(-9223372036854775808≤x∧x≤9223372036854775807):=by
 obtain⟨a,ha,_,wa⟩:=DataW.trod_int Tryd.underlying3 h
 exact⟨a,ha,bounds_i64 wa⟩
end
section
variable {H:Type} {enc:TypeId × Value→H} {W:World} {base b0:Nat} {sp:Nat→Bool} {hd:Bool} {v:Value} {d:DataW H} {p:List MemPlace}
theorem yL (hval:Value.okWide Tryd.prog W .any b0 26 v) (h:DataW.Trod enc Tryd.prog W base sp hd 26 v d p):∃ l:List AB,(∀ x∈l,PH x)∧HG W v l.length 5 (l.flatMap AX):=by
 obtain⟨a,len,cap,rfl⟩:=okWide_slice Tryd.underlying26 hval
 obtain⟨fuel,hf⟩:=h
 have hc:Cell.okWide Tryd.prog W .any b0 26 (.slice a len cap):=by simpa only[Value.okWide,Tryd.underlying26] using hval
 exact NO Tryd.underlying26 WR (fun n cs y h=>aG h) (fun _=>rfl) (by decide) hc hf
end
theorem HG.slS {W:World} {v:Value} {n w:Nat} {cs:List Value} (h:HG W v n w cs):∃ a c,v=.slice a n c:=by
 obtain⟨_,⟨rfl,rfl⟩ | ⟨b,off,cap,CS,ty,fr,rfl,_⟩⟩:=h
 ·exact⟨_,_,rfl⟩
 ·exact⟨_,_,rfl⟩
theorem Dh:Tryd.prog.cellsOf 29=2:=by kernel_rfl
theorem Aw:Tryd.prog.cellTypes Tryd.prog.depth 29=some [3,27]:=by kernel_rfl
theorem fL:Tryd.prog.bytesOf 3=8:=by kernel_rfl
theorem tJ:Tryd.prog.bytesOf 61=48:=by kernel_rfl
def rR (W:World) (v:Value) (size:Int) (C:List Int):Prop:=∃ vc,v=.agg #[iv size,vc]∧HG W vc C.length 1 (ints C)
section
variable {H:Type} {enc:TypeId × Value→H} {W:World} {base b0:Nat} {sp:Nat→Bool} {hd:Bool}
theorem a9 {t e:TypeId} (ht:Tryd.prog.underlying t=some (.slice e)) {n m:Nat} {v:Value} {cs:List Value} {w:Nat} (hv:HG W v m w cs) {y:DataW H × List MemPlace} (h:DataW.trod enc Tryd.prog W base sp hd n t [v]=some y)
  (hw:(DataW.weights Tryd.prog t y.1).all (· ≤ reachBytes)=true):m*Tryd.prog.bytesOf e≤reachBytes:=by
 obtain⟨a,c,rfl⟩:=hv.slS
 rcases DataW.trod_slice ht h with⟨h1,h2⟩ | ⟨a',len,cap,elems,rest,n',_,h1,h2,_,_,_,hlen,_⟩
 ·cases h1
  rw[Nat.zero_mul]
  exact Nat.zero_le _
 ·cases h1
  subst h2
  simp only[DataW.weights,ht,List.all_cons,Bool.and_eq_true,decide_eq_true_eq,List.length_map] at hw
  exact Nat.le_trans (Nat.mul_le_mul_right _ (by omega)) hw.1
theorem yB {v:Value} {l:List AB} {d:DataW H} {p:List MemPlace} (hv:HG W v l.length 5 (l.flatMap AX)) (h:DataW.Trod enc Tryd.prog W base sp hd 26 v d p) (hw:(DataW.weights Tryd.prog 26 d).all (· ≤ reachBytes)=true):l.length<2932031007403:=by
 obtain⟨fuel,hf⟩:=h
 have hcs:v.cells.toList=[v]:=by
  obtain⟨a,c,rfl⟩:=hv.slS
  rfl
 rw[hcs] at hf
 have:=a9 Tryd.underlying26 hv hf hw
 rw[tJ] at this
 unfold reachBytes at this
 omega
theorem tZ {v:Value} {d:DataW H} {p:List MemPlace} (hval:Value.okWide Tryd.prog W .any b0 29 v) (h:DataW.Trod enc Tryd.prog W base sp hd 29 v d p):∃ size C,rR W v size C∧((DataW.weights Tryd.prog 29 d).all (· ≤ reachBytes)=true→C.length<17592186044416):=by
 simp only[Value.okWide,Tryd.underlying29] at hval
 obtain⟨CS,rfl,hsz,ts,hts,_,hcell⟩:=hval
 rw[Aw] at hts
 cases hts
 obtain⟨fuel,hf⟩:=h
 have hcs:(Value.agg CS).cells.toList=CS.toList:=rfl
 rw[hcs] at hf
 obtain⟨xs,m,_,hx,hl,hxl,hf⟩:=DataW.trod_struct Tryd.underlying29 hf
 rw[Dh] at hl
 obtain⟨c0,c1,hcs⟩:∃ c0 c1,CS.toList=[c0,c1]:=by
  match CS.toList,hl with
  | [a,b],_=>exact⟨a,b,rfl⟩
 obtain rfl:CS=#[c0,c1]:=by cases CS;simp_all
 have hxl:xs.length=2:=hxl
 obtain⟨y0,y1,rfl⟩:∃ y0 y1,xs=[y0,y1]:=by
  match xs,hxl with
  | [a,b],_=>exact⟨a,b,rfl⟩
 have f0:DataW.trod enc Tryd.prog W base sp hd m 3 (([c0,c1].drop 0).take (Tryd.prog.cellsOf 3))=some y0:=hf 0 _ rfl
 rw[M9] at f0
 have f1:DataW.trod enc Tryd.prog W base sp hd m 27 (([c0,c1].drop 1).take (Tryd.prog.cellsOf 27))=some y1:=hf 1 _ rfl
 rw[QC.2.2.2] at f1
 have hc:Cell.okWide Tryd.prog W .any b0 27 c1:=by
  obtain⟨u',h1,h2⟩:=hcell 1 c1 rfl
  have:u'=27:=Option.some.inj (h1.symm.trans rfl)
  subst this
  exact h2
 obtain⟨a,ha,wa⟩:=SD f0
 obtain rfl:c0=iv a:=by simpa using ha
 obtain⟨l,hQ,sl⟩:=NO (cells:=fun x:Int=>[iv x]) Tryd.underlying27 M9 (fun n cs y h=>SD h) (fun _=>rfl) (by decide) hc f1
 rw[dM] at sl
 refine⟨a,l,⟨c1,rfl,sl⟩,fun hw=>?_⟩
 have e:d=.agg ([y0,y1].map (·.1)):=congrArg (·.1) hx
 rw[e] at hw
 have e2:DataW.weights Tryd.prog 29 (.agg ([y0,y1].map (·.1)))=DataW.weights Tryd.prog 3 y0.1++(DataW.weights Tryd.prog 27 y1.1++[]):=by
  simp only[DataW.weights,Tryd.underlying29]
  rfl
 rw[e2,List.all_append,List.append_nil,Bool.and_eq_true] at hw
 have:=a9 Tryd.underlying27 sl f1 hw.2
 rw[fL] at this
 unfold reachBytes at this
 omega
end
theorem Ib {W : World} (h : laidMetH Tryd.prog [("winnow/lex.words", Rows.laid_winnow_lex_words)] W) {v w u : Value} {l : List AB} {size : Int} {C B : List Int} (hv : HG W v l.length 5 (l.flatMap AX)) (hw : rR W w size C) (hu : HG W u B.length 1 (ints B)) :
  ∃ hp ρ sv sw su,BU Tryd.prog ρ hp W∧(∀ i,¬ wr (hp.get i))∧AI ρ sv v∧AI ρ sw w∧AI ρ su u∧A9 hp sv l∧E3 0 hp sw size C∧AV 0 hp su B∧hp.floor=0∧hp.get 0=CT∧0<hp.next:=by
 obtain⟨vc,rfl,hc⟩:=hw
 have hR:=aU h (ps:=[⟨v,_,_,_,61⟩,⟨vc,_,_,_,3⟩,⟨u,_,_,_,3⟩]) (fun p hp=>by
  simp only[List.mem_cons,List.not_mem_nil,or_false] at hp
  rcases hp with rfl | rfl | rfl
  ·refine⟨hv,fun v hv=>?_⟩
   obtain⟨x,_,hx⟩:=List.mem_flatMap.1 hv
   obtain⟨j,hj⟩:=List.getElem?_of_mem hx
   exact VZ hj
  ·refine⟨hc,fun v hv=>?_⟩
   obtain⟨x,_,rfl⟩:=List.mem_map.1 hv
   rfl
  ·refine⟨hu,fun v hv=>?_⟩
   obtain⟨x,_,rfl⟩:=List.mem_map.1 hv
   rfl)
 obtain⟨r1,r2,r3,r4,r5,r6⟩:=hR
 obtain⟨a0,b0⟩:=r6 0 _ rfl
 obtain⟨a1,b1⟩:=r6 1 _ rfl
 obtain⟨a2,b2⟩:=r6 2 _ rfl
 exact⟨_,_,_,.agg #[iv size,_],_,r1,r2,a0,.agg (.cons (.flat rfl) (.cons a1 .nil)),a2,(HF.of b0).1,⟨_,rfl,b1⟩,b2,r4,r5,by omega⟩
end Go.Proofs.YtdejoodfeljmkaaDoor
