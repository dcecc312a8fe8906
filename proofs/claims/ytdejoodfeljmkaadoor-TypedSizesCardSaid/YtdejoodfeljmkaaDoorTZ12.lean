/- Part 12 of what the claim leans on: 12 texts laid one behind another. -/
import Derived.Test.YtdejoodfeljmkaaDoorTZ11
namespace Go.Proofs.YtdejoodfeljmkaaDoor
open Go Go.Sx
set_option maxRecDepth 100000
set_option linter.unusedSimpArgs false
set_option linter.unusedVariables false
set_option maxHeartbeats 64000000
def GR (k:Int):FuncId:=if k=39 then 67 else if k=40 then 68 else if k=41 then 69 else if k=43 then 70 else if k=44 then 11 else if k=45 then 71 else if k=46 then 72 else if k=47 then 73 else if k=48 then 74 else if k=49 then 75 else if k=50 then 76 else if k=51 then 77 else if k=52 then 78 else if k=42 then 79 else if k=53 then 80 else 81
abbrev F3 (k:Int):Value:=.func (.func (GR k)) #[] #[]
def CB (size:Int) (C:List Int) (x:AB):Value:=match DE size C x with
 | some v=>.iface 108 (iv v)
 | none=>if G0 x.kind=true then .iface 121 (F3 x.kind) else if LG x.kind=true then .iface 122 (F3 x.kind) else .nilIface
section
variable {n N:Nat} {h:AA}
theorem Io {x:AB} {cv:Value} {size:Int} {C:List Int} {lc:Nat} (hc:FK lc h cv size C) (h32:x.kind=32→0≤x.n∧x.n<C.length) :
  ∃ h',A8 Tryd.prog (AS n) N 54 [CA x,cv] h=some (CB size C x,h')∧h'.next=h.next+2∧h'.floor=h.floor∧∀ i,i<h.next→h'.get i=h.get i:=by
 obtain⟨vc,rfl,pc⟩:=id hc
 refine EL (R:=fun h'=>h'.next=h.next+2∧h'.floor=h.floor∧∀ i,i<h.next→h'.get i=h.get i) Tryd.func54 rfl (by simp[Tryd.f54]) ?_
 have hr:Tryd.f54.results.toList=[.tmp 4]:=rfl
 have cx:(CA x).cells.toList=AW x:=rfl
 have ox:(AW x).all one=true:=rfl
 have cb:=E_ [iv size,vc]
 have ob:[iv size,vc].all one=true:=by simp only[List.all_cons,List.all_nil,AP.one pc,KH,Bool.and_self]
 obtain⟨gA,gB,nG,fG,gO⟩:=Q2 h (.row (AW x) 61 false false) (.row [iv size,vc] 29 false false)
 simp only[eE,seval,↓eP,F5,E9,F6,cx,ox,cb,ob,FV,NO]
 generalize (h.push (.row (AW x) 61 false false)).push (.row [iv size,vc] 29 false false)=Q at *
 have x0:AJ 0 (Q.get h.next)=some (iv x.kind):=by rw[gA];rfl
 have x3:AJ 3 (Q.get h.next)=some (iv x.n):=by rw[gA];rfl
 have y0:AJ 0 (Q.get (h.next+1))=some (iv size):=by rw[gB];rfl
 have y1:AJ 1 (Q.get (h.next+1))=some vc:=by rw[gB];rfl
 have pC:AX lc Q vc C:=AX.mono pc (by omega) fun i _ hi=>gO i hi
 cases c27:(x.kind==27) with
 | true=>
  have k:=beq_iff_eq.1 c27
  rw[show CB size C x=.iface 108 (iv x.n) by unfold CB DE;rw[k];rfl]
  simp only[eE,seval,↓eP,hr,Nat.zero_add,F8,AU,x0,x3,Tryd.underlying108,Tryd.underlying121,Tryd.underlying122,c27]
  exact⟨nG,fG,gO⟩
 | false=>
 cases c33:(x.kind==33) with
 | true=>
  have k:=beq_iff_eq.1 c33
  rw[show CB size C x=.iface 108 (iv size) by unfold CB DE;rw[k];rfl]
  simp only[eE,seval,↓eP,hr,K0,AU,x0,y0,Tryd.underlying108,Tryd.underlying121,Tryd.underlying122,c27,c33]
  exact⟨nG,fG,gO⟩
 | false=>
 cases c32:(x.kind==32) with
 | true=>
  have k:=beq_iff_eq.1 c32
  obtain⟨r0,r1⟩:=h32 k
  obtain⟨c0,hc0⟩:∃ c,C[x.n.toNat]?=some c:=⟨_,List.getElem?_eq_getElem (by omega)⟩
  obtain⟨ia,pa,ea,_,la⟩:=AX.get pC hc0
  rw[show ((x.n.toNat:Nat):Int)=x.n by omega] at ea
  rw[show CB size C x=.iface 108 (iv c0) by unfold CB DE;rw[k,hc0];rfl]
  simp only[eE,seval,↓eP,hr,Nat.zero_add,F8,NH,AU,DV,x0,x3,y1,Tryd.underlying108,Tryd.underlying121,Tryd.underlying122,c27,c33,c32,ea,la]
  exact⟨nG,fG,gO⟩
 | false=>
 cases c29:(x.kind==29) with
 | true=>
  have k:=beq_iff_eq.1 c29
  rw[show CB size C x=.iface 108 (iv 1) by unfold CB DE;rw[k];rfl]
  simp only[eE,seval,↓eP,hr,x0,Tryd.underlying108,Tryd.underlying121,Tryd.underlying122,c27,c33,c32,c29]
  exact⟨nG,fG,gO⟩
 | false=>
 cases c30:(x.kind==30) with
 | true=>
  have k:=beq_iff_eq.1 c30
  rw[show CB size C x=.iface 108 (iv 0) by unfold CB DE;rw[k];rfl]
  simp only[eE,seval,↓eP,hr,x0,Tryd.underlying108,Tryd.underlying121,Tryd.underlying122,c27,c33,c32,c29,c30]
  exact⟨nG,fG,gO⟩
 | false=>
 cases c39:(x.kind==39) with
 | true=>
  have k:=beq_iff_eq.1 c39
  rw[show CB size C x=.iface 121 (.func (.func 67) #[] #[]) by unfold CB DE F3 GR;rw[k];rfl]
  simp only[eE,seval,↓eP,hr,x0,Tryd.underlying108,Tryd.underlying121,Tryd.underlying122,c27,c33,c32,c29,c30,c39]
  exact⟨nG,fG,gO⟩
 | false=>
 cases c40:(x.kind==40) with
 | true=>
  have k:=beq_iff_eq.1 c40
  rw[show CB size C x=.iface 121 (.func (.func 68) #[] #[]) by unfold CB DE F3 GR;rw[k];rfl]
  simp only[eE,seval,↓eP,hr,x0,Tryd.underlying108,Tryd.underlying121,Tryd.underlying122,c27,c33,c32,c29,c30,c39,c40]
  exact⟨nG,fG,gO⟩
 | false=>
 cases c41:(x.kind==41) with
 | true=>
  have k:=beq_iff_eq.1 c41
  rw[show CB size C x=.iface 121 (.func (.func 69) #[] #[]) by unfold CB DE F3 GR;rw[k];rfl]
  simp only[eE,seval,↓eP,hr,x0,Tryd.underlying108,Tryd.underlying121,Tryd.underlying122,c27,c33,c32,c29,c30,c39,c40,c41]
  exact⟨nG,fG,gO⟩
 | false=>
 cases c43:(x.kind==43) with
 | true=>
  have k:=beq_iff_eq.1 c43
  rw[show CB size C x=.iface 121 (.func (.func 70) #[] #[]) by unfold CB DE F3 GR;rw[k];rfl]
  simp only[eE,seval,↓eP,hr,x0,Tryd.underlying108,Tryd.underlying121,Tryd.underlying122,c27,c33,c32,c29,c30,c39,c40,c41,c43]
  exact⟨nG,fG,gO⟩
 | false=>
 cases c44:(x.kind==44) with
 | true=>
  have k:=beq_iff_eq.1 c44
  rw[show CB size C x=.iface 121 (.func (.func 11) #[] #[]) by unfold CB DE F3 GR;rw[k];rfl]
  simp only[eE,seval,↓eP,hr,x0,Tryd.underlying108,Tryd.underlying121,Tryd.underlying122,c27,c33,c32,c29,c30,c39,c40,c41,c43,c44]
  exact⟨nG,fG,gO⟩
 | false=>
 cases c45:(x.kind==45) with
 | true=>
  have k:=beq_iff_eq.1 c45
  rw[show CB size C x=.iface 121 (.func (.func 71) #[] #[]) by unfold CB DE F3 GR;rw[k];rfl]
  simp only[eE,seval,↓eP,hr,x0,Tryd.underlying108,Tryd.underlying121,Tryd.underlying122,c27,c33,c32,c29,c30,c39,c40,c41,c43,c44,c45]
  exact⟨nG,fG,gO⟩
 | false=>
 cases c46:(x.kind==46) with
 | true=>
  have k:=beq_iff_eq.1 c46
  rw[show CB size C x=.iface 121 (.func (.func 72) #[] #[]) by unfold CB DE F3 GR;rw[k];rfl]
  simp only[eE,seval,↓eP,hr,x0,Tryd.underlying108,Tryd.underlying121,Tryd.underlying122,c27,c33,c32,c29,c30,c39,c40,c41,c43,c44,c45,c46]
  exact⟨nG,fG,gO⟩
 | false=>
 cases c47:(x.kind==47) with
 | true=>
  have k:=beq_iff_eq.1 c47
  rw[show CB size C x=.iface 122 (.func (.func 73) #[] #[]) by unfold CB DE F3 GR;rw[k];rfl]
  simp only[eE,seval,↓eP,hr,x0,Tryd.underlying108,Tryd.underlying121,Tryd.underlying122,c27,c33,c32,c29,c30,c39,c40,c41,c43,c44,c45,c46,c47]
  exact⟨nG,fG,gO⟩
 | false=>
 cases c48:(x.kind==48) with
 | true=>
  have k:=beq_iff_eq.1 c48
  rw[show CB size C x=.iface 122 (.func (.func 74) #[] #[]) by unfold CB DE F3 GR;rw[k];rfl]
  simp only[eE,seval,↓eP,hr,x0,Tryd.underlying108,Tryd.underlying121,Tryd.underlying122,c27,c33,c32,c29,c30,c39,c40,c41,c43,c44,c45,c46,c47,c48]
  exact⟨nG,fG,gO⟩
 | false=>
 cases c49:(x.kind==49) with
 | true=>
  have k:=beq_iff_eq.1 c49
  rw[show CB size C x=.iface 122 (.func (.func 75) #[] #[]) by unfold CB DE F3 GR;rw[k];rfl]
  simp only[eE,seval,↓eP,hr,x0,Tryd.underlying108,Tryd.underlying121,Tryd.underlying122,c27,c33,c32,c29,c30,c39,c40,c41,c43,c44,c45,c46,c47,c48,c49]
  exact⟨nG,fG,gO⟩
 | false=>
 cases c50:(x.kind==50) with
 | true=>
  have k:=beq_iff_eq.1 c50
  rw[show CB size C x=.iface 122 (.func (.func 76) #[] #[]) by unfold CB DE F3 GR;rw[k];rfl]
  simp only[eE,seval,↓eP,hr,x0,Tryd.underlying108,Tryd.underlying121,Tryd.underlying122,c27,c33,c32,c29,c30,c39,c40,c41,c43,c44,c45,c46,c47,c48,c49,c50]
  exact⟨nG,fG,gO⟩
 | false=>
 cases c51:(x.kind==51) with
 | true=>
  have k:=beq_iff_eq.1 c51
  rw[show CB size C x=.iface 122 (.func (.func 77) #[] #[]) by unfold CB DE F3 GR;rw[k];rfl]
  simp only[eE,seval,↓eP,hr,x0,Tryd.underlying108,Tryd.underlying121,Tryd.underlying122,c27,c33,c32,c29,c30,c39,c40,c41,c43,c44,c45,c46,c47,c48,c49,c50,c51]
  exact⟨nG,fG,gO⟩
 | false=>
 cases c52:(x.kind==52) with
 | true=>
  have k:=beq_iff_eq.1 c52
  rw[show CB size C x=.iface 122 (.func (.func 78) #[] #[]) by unfold CB DE F3 GR;rw[k];rfl]
  simp only[eE,seval,↓eP,hr,x0,Tryd.underlying108,Tryd.underlying121,Tryd.underlying122,c27,c33,c32,c29,c30,c39,c40,c41,c43,c44,c45,c46,c47,c48,c49,c50,c51,c52]
  exact⟨nG,fG,gO⟩
 | false=>
 cases c42:(x.kind==42) with
 | true=>
  have k:=beq_iff_eq.1 c42
  rw[show CB size C x=.iface 122 (.func (.func 79) #[] #[]) by unfold CB DE F3 GR;rw[k];rfl]
  simp only[eE,seval,↓eP,hr,x0,Tryd.underlying108,Tryd.underlying121,Tryd.underlying122,c27,c33,c32,c29,c30,c39,c40,c41,c43,c44,c45,c46,c47,c48,c49,c50,c51,c52,c42]
  exact⟨nG,fG,gO⟩
 | false=>
 cases c53:(x.kind==53) with
 | true=>
  have k:=beq_iff_eq.1 c53
  rw[show CB size C x=.iface 122 (.func (.func 80) #[] #[]) by unfold CB DE F3 GR;rw[k];rfl]
  simp only[eE,seval,↓eP,hr,x0,Tryd.underlying108,Tryd.underlying121,Tryd.underlying122,c27,c33,c32,c29,c30,c39,c40,c41,c43,c44,c45,c46,c47,c48,c49,c50,c51,c52,c42,c53]
  exact⟨nG,fG,gO⟩
 | false=>
 cases c54:(x.kind==54) with
 | true=>
  have k:=beq_iff_eq.1 c54
  rw[show CB size C x=.iface 122 (.func (.func 81) #[] #[]) by unfold CB DE F3 GR;rw[k];rfl]
  simp only[eE,seval,↓eP,hr,x0,Tryd.underlying108,Tryd.underlying121,Tryd.underlying122,c27,c33,c32,c29,c30,c39,c40,c41,c43,c44,c45,c46,c47,c48,c49,c50,c51,c52,c42,c53,c54]
  exact⟨nG,fG,gO⟩
 | false=>
 have e:CB size C x=.nilIface:=by
  simp only[beq_eq_false_iff_ne] at c27 c33 c32 c29 c30 c39 c40 c41 c43 c44 c45 c46 c47 c48 c49 c50 c51 c52 c42 c53 c54
  unfold CB DE
  rw[if_neg c27,if_neg c33,if_neg c32,if_neg c29,if_neg c30]
  simp[G0,LG,c39,c40,c41,c43,c44,c45,c46,c47,c48,c49,c50,c51,c52,c42,c53,c54]
 rw[e]
 simp only[eE,seval,↓eP,hr,x0,Tryd.underlying108,Tryd.underlying121,Tryd.underlying122,c27,c33,c32,c29,c30,c39,c40,c41,c43,c44,c45,c46,c47,c48,c49,c50,c51,c52,c42,c53,c54]
 exact⟨nG,fG,gO⟩
theorem Cg {x:AB} {cv:Value} {size:Int} {C:List Int} {lc:Nat} (hc:FK lc h cv size C) (h32:x.kind=32→0≤x.n∧x.n<C.length) (hn:0<n) :
  ∃ h',AS n 54 [CA x,cv] h=some (CB size C x,h')∧h.next≤h'.next∧h'.floor=h.floor∧∀ i,i<h.next→h'.get i=h.get i:=by
 obtain⟨n,rfl⟩:=C_ hn
 obtain⟨v,h',h1,h2,h3,h4,h5⟩:=PN (R:=fun v h'=>v=CB size C x∧h.next≤h'.next∧h'.floor=h.floor∧∀ i,i<h.next→h'.get i=h.get i) (n:=n) (f:=54) (args:=[CA x,cv]) (h:=h) (BT ⟨rfl,rfl,rfl⟩) (by
  obtain⟨h',h1,h2,h3,h4⟩:=Io (n:=n) (N:=n) hc h32
  exact⟨_,h',h1,rfl,by omega,h3,h4⟩) fun v h1 _ _ ht=>⟨ht.1,Nat.le_refl _,rfl,fun _ _=>rfl⟩
 subst h2
 exact⟨h',h1,h3,h4,h5⟩
theorem rZ {a b:Int} (ha:-1073741824≤a∧a≤1073741824) (hb:-1073741824≤b∧b≤1073741824):-1152921504606846976≤a*b∧a*b≤1152921504606846976:=by
 have h1:(a*b).natAbs≤1073741824*1073741824:=by
  rw[Int.natAbs_mul]
  exact Nat.mul_le_mul (by omega) (by omega)
 omega
theorem cO {k a b:Int} (hk:G0 k=true) (ha:-1073741824≤a∧a≤1073741824) (hb:-1073741824≤b∧b≤1073741824) (hn:3<n):AS n (GR k) [iv a,iv b] h=some (iv (GU k a b),h):=by
 have hk':k=39∨k=40∨k=41∨k=43∨k=44∨k=45∨k=46:=by
  unfold G0 at hk
  simpa using hk
 have hm:=rZ ha hb
 obtain⟨n,rfl⟩:=C_ hn
 rcases hk' with rfl | rfl | rfl | rfl | rfl | rfl | rfl
 ·show AS (n+1) 67 [iv a,iv b] h=some (iv (if b<a then b else a),h)
  refine EE (BT ⟨rfl,rfl,rfl⟩) rfl ?_
  refine DA Tryd.func67 rfl (by simp[Tryd.f67]) ?_
  have hr:Tryd.f67.results.toList=[.tmp 4]:=rfl
  simp only[eE,seval,↓eP,hr]
 ·show AS (n+1) 68 [iv a,iv b] h=some (iv (if b>a then b else a),h)
  refine EE (BT ⟨rfl,rfl,rfl⟩) rfl ?_
  refine DA Tryd.func68 rfl (by simp[Tryd.f68]) ?_
  have hr:Tryd.f68.results.toList=[.tmp 4]:=rfl
  simp only[eE,seval,↓eP,hr]
 ·show AS (n+1) 69 [iv a,iv b] h=some (iv (-a),h)
  refine EE (BT ⟨rfl,rfl,rfl⟩) rfl ?_
  refine DA Tryd.func69 rfl (by simp[Tryd.f69]) ?_
  have hr:Tryd.f69.results.toList=[.tmp 4]:=rfl
  have w:IntKind.i64.wrap (0-a)=-a:=by rw[C9 (by omega) (by omega)];omega
  simp only[eE,seval,↓eP,hr,w]
 ·show AS (n+1) 70 [iv a,iv b] h=some (iv (a*b),h)
  refine EE (BT ⟨rfl,rfl,rfl⟩) rfl ?_
  refine DA Tryd.func70 rfl (by simp[Tryd.f70]) ?_
  have hr:Tryd.f70.results.toList=[.tmp 4]:=rfl
  have w:IntKind.i64.wrap (a*b)=(a*b):=C9 (by omega) (by omega)
  simp only[eE,seval,↓eP,hr,w]
 ·show AS (n+1) 11 [iv a,iv b] h=some (iv (J7 a b),h)
  exact Fx ⟨by omega,by omega⟩ ⟨by omega,by omega⟩ (by omega)
 ·show AS (n+1) 71 [iv a,iv b] h=some (iv (a+b),h)
  refine EE (BT ⟨rfl,rfl,rfl⟩) rfl ?_
  refine DA Tryd.func71 rfl (by simp[Tryd.f71]) ?_
  have hr:Tryd.f71.results.toList=[.tmp 4]:=rfl
  have w:IntKind.i64.wrap (a+b)=(a+b):=C9 (by omega) (by omega)
  simp only[eE,seval,↓eP,hr,w]
 ·show AS (n+1) 72 [iv a,iv b] h=some (iv (a-b),h)
  refine EE (BT ⟨rfl,rfl,rfl⟩) rfl ?_
  refine DA Tryd.func72 rfl (by simp[Tryd.f72]) ?_
  have hr:Tryd.f72.results.toList=[.tmp 4]:=rfl
  have w:IntKind.i64.wrap (a-b)=(a-b):=C9 (by omega) (by omega)
  simp only[eE,seval,↓eP,hr,w]
theorem iS {k a b:Int} (hk:LG k=true) (hn:0<n):AS n (GR k) [iv a,iv b] h=some (.bool (JC k a b),h):=by
 have hk':k=42∨k=47∨k=48∨k=49∨k=50∨k=51∨k=52∨k=53∨k=54:=by
  unfold LG at hk
  simpa using hk
 obtain⟨n,rfl⟩:=C_ hn
 rcases hk' with rfl | rfl | rfl | rfl | rfl | rfl | rfl | rfl | rfl
 ·show AS (n+1) 79 [iv a,iv b] h=some (.bool (a==0),h)
  refine EE (BT ⟨rfl,rfl,rfl⟩) rfl ?_
  refine DA Tryd.func79 rfl (by simp[Tryd.f79]) ?_
  have hr:Tryd.f79.results.toList=[.tmp 4]:=rfl
  simp only[eE,seval,↓eP,hr]
 ·show AS (n+1) 73 [iv a,iv b] h=some (.bool (a==b),h)
  refine EE (BT ⟨rfl,rfl,rfl⟩) rfl ?_
  refine DA Tryd.func73 rfl (by simp[Tryd.f73]) ?_
  have hr:Tryd.f73.results.toList=[.tmp 4]:=rfl
  simp only[eE,seval,↓eP,hr]
 ·show AS (n+1) 74 [iv a,iv b] h=some (.bool (a != b),h)
  refine EE (BT ⟨rfl,rfl,rfl⟩) rfl ?_
  refine DA Tryd.func74 rfl (by simp[Tryd.f74]) ?_
  have hr:Tryd.f74.results.toList=[.tmp 4]:=rfl
  simp only[eE,seval,↓eP,hr]
 ·show AS (n+1) 75 [iv a,iv b] h=some (.bool (decide (a<b)),h)
  refine EE (BT ⟨rfl,rfl,rfl⟩) rfl ?_
  refine DA Tryd.func75 rfl (by simp[Tryd.f75]) ?_
  have hr:Tryd.f75.results.toList=[.tmp 4]:=rfl
  simp only[eE,seval,↓eP,hr]
 ·show AS (n+1) 76 [iv a,iv b] h=some (.bool (decide (a≤b)),h)
  refine EE (BT ⟨rfl,rfl,rfl⟩) rfl ?_
  refine DA Tryd.func76 rfl (by simp[Tryd.f76]) ?_
  have hr:Tryd.f76.results.toList=[.tmp 4]:=rfl
  simp only[eE,seval,↓eP,hr]
 ·show AS (n+1) 77 [iv a,iv b] h=some (.bool (decide (a>b)),h)
  refine EE (BT ⟨rfl,rfl,rfl⟩) rfl ?_
  refine DA Tryd.func77 rfl (by simp[Tryd.f77]) ?_
  have hr:Tryd.f77.results.toList=[.tmp 4]:=rfl
  simp only[eE,seval,↓eP,hr]
 ·show AS (n+1) 78 [iv a,iv b] h=some (.bool (decide (a≥b)),h)
  refine EE (BT ⟨rfl,rfl,rfl⟩) rfl ?_
  refine DA Tryd.func78 rfl (by simp[Tryd.f78]) ?_
  have hr:Tryd.f78.results.toList=[.tmp 4]:=rfl
  simp only[eE,seval,↓eP,hr]
 ·show AS (n+1) 80 [iv a,iv b] h=some (.bool (a != 0&&b != 0),h)
  refine EE (BT ⟨rfl,rfl,rfl⟩) rfl ?_
  refine DA Tryd.func80 rfl (by simp[Tryd.f80]) ?_
  have hr:Tryd.f80.results.toList=[.tmp 4]:=rfl
  cases d:(a != 0) with
  | true=>simp only[eE,seval,↓eP,hr,d,Bool.true_and]
  | false=>simp only[eE,seval,↓eP,hr,d,Bool.false_and]
 ·show AS (n+1) 81 [iv a,iv b] h=some (.bool (a != 0||b != 0),h)
  refine EE (BT ⟨rfl,rfl,rfl⟩) rfl ?_
  refine DA Tryd.func81 rfl (by simp[Tryd.f81]) ?_
  have hr:Tryd.f81.results.toList=[.tmp 4]:=rfl
  cases d:(a != 0) with
  | true=>simp only[eE,seval,↓eP,hr,d,Bool.true_or]
  | false=>simp only[eE,seval,↓eP,hr,d,Bool.false_or]
def X1:List (Bool × Bool × List Operand):=[AQ,AQ,AQ,AQ,AH [.tmp 7],AH [.tmp 7],AH [.tmp 7],AH [.tmp 7],AH [.tmp 7],AH [.tmp 7],AK,AK,AK]
theorem uF {k a b:Int} {l:List Int} {lv:Value} {lo:Nat} (hk:G0 k=true) (hl:AX lo h lv l) (h0:l[0]?=some a) (h1:l[l.length-1]?=some b) (ha:-1073741824≤a∧a≤1073741824) (hb:-1073741824≤b∧b≤1073741824) (hll:l.length<1000) (hn:4<n) :
  A8 Tryd.prog (AS n) N 107 [F3 k,lv] h=some (iv (FA (GU k a b)),h):=by
 obtain⟨_,al,cl,rfl,_⟩:=id hl
 have hsn:=(FD n).2
 have hpos:=(List.getElem?_eq_some_iff.1 h0).1
 refine DA Tryd.func107 rfl (by simp[Tryd.f107]) ?_
 have hr:Tryd.f107.results.toList=[.tmp 4]:=rfl
 obtain⟨ia,pa,ea,hia,la⟩:=AX.get hl h0
 obtain⟨ib,pb,eb,hib,lb⟩:=AX.get hl h1
 have ea':CL Tryd.prog 27 (.slice al l.length cl) (iv 0)=some (qP ia pa):=ea
 have lenL:=fun h'=>KQ hl h'
 have w1:IntKind.i64.wrap ((l.length:Int)-1)=((l.length-1:Nat):Int):=by rw[C9 (by omega) (by omega)];omega
 have hA0:(ia<h.next)=True:=eq_true hia
 have hB0:(ib<h.next)=True:=eq_true hib
 have hc1:∀ fl:Nat,AS n (GR k) [iv a,iv b] (h.fl fl)=some (iv (GU k a b),h.fl fl):=fun fl=>cO hk ha hb (by omega)
 have hc2:∀ fl:Nat,AS n 9 [iv (GU k a b)] (h.fl fl)=some (iv (FA (GU k a b)),h.fl fl):=fun fl=>ZV (by omega)
 have hc1':=cO (n:=n) (h:=h) hk ha hb (by omega)
 have hc2':=ZV (n:=n) (h:=h) (x:=GU k a b) (by omega)
 simp only[eE,seval,↓eP]
 refine WK.flags (fs:=X1) (by kernel_rfl) ?_
 unfold X1
 iterate 13
  refine D9 hsn ?_
  simp only[rG,seval,AC,AF,AE,CT,DU,CK,C6,EA,ea',la,AU,hA0,lenL,w1,eb,lb,hB0,hc1',hc2']
 refine D4 ?_
 simp only[eE,seval,↓eP,hr]
def YH:List (Bool × Bool × List Operand):=[AQ,AQ,AQ,AQ,AH [.tmp 7],AH [.tmp 7],AH [.tmp 7],AH [.tmp 7],AH [.tmp 7],AH [.tmp 7],AK]
theorem Dr {k a b:Int} {l:List Int} {lv:Value} {lo:Nat} (hk:LG k=true) (hl:AX lo h lv l) (h0:l[0]?=some a) (h1:l[l.length-1]?=some b) (ha:-1073741824≤a∧a≤1073741824) (hb:-1073741824≤b∧b≤1073741824) (hll:l.length<1000) (hn:4<n) :
  A8 Tryd.prog (AS n) N 108 [F3 k,lv] h=some (iv (if JC k a b=true then 1 else 0),h):=by
 obtain⟨_,al,cl,rfl,_⟩:=id hl
 have hsn:=(FD n).2
 have hpos:=(List.getElem?_eq_some_iff.1 h0).1
 refine DA Tryd.func108 rfl (by simp[Tryd.f108]) ?_
 have hr:Tryd.f108.results.toList=[.tmp 4]:=rfl
 obtain⟨ia,pa,ea,hia,la⟩:=AX.get hl h0
 obtain⟨ib,pb,eb,hib,lb⟩:=AX.get hl h1
 have ea':CL Tryd.prog 27 (.slice al l.length cl) (iv 0)=some (qP ia pa):=ea
 have lenL:=fun h'=>KQ hl h'
 have w1:IntKind.i64.wrap ((l.length:Int)-1)=((l.length-1:Nat):Int):=by rw[C9 (by omega) (by omega)];omega
 have hA0:(ia<h.next)=True:=eq_true hia
 have hB0:(ib<h.next)=True:=eq_true hib
 have hc1:∀ fl:Nat,AS n (GR k) [iv a,iv b] (h.fl fl)=some (.bool (JC k a b),h.fl fl):=fun fl=>iS hk (by omega)
 have hc1':=iS (n:=n) (h:=h) (k:=k) (a:=a) (b:=b) hk (by omega)
 simp only[eE,seval,↓eP]
 refine WK.flags (fs:=YH) (by kernel_rfl) ?_
 unfold YH
 iterate 11
  refine D9 hsn ?_
  simp only[rG,seval,AC,AF,AE,CT,DU,CK,C6,EA,ea',la,AU,hA0,lenL,w1,eb,lb,hB0,hc1']
 refine D4 ?_
 cases JC k a b with
 | true=>simp only[eE,seval,↓eP,hr]
 | false=>simp only[eE,seval,↓eP,hr]
theorem uB {v:Int} {lv:Value}:A8 Tryd.prog (AS n) N 106 [iv v,lv] h=some (iv v,h):=by
 refine DA Tryd.func106 rfl (by simp[Tryd.f106]) ?_
 have hr:Tryd.f106.results.toList=[.tmp 4]:=rfl
 simp only[eE,seval,↓eP,hr]
end
theorem z9 (v : Value) : QF Tryd.prog 108 v "winnow/typed.of" = some (106, v) := by kernel_rfl
theorem Ey (v : Value) : QF Tryd.prog 121 v "winnow/typed.of" = some (107, v) := by kernel_rfl
theorem sD (v : Value) : QF Tryd.prog 122 v "winnow/typed.of" = some (108, v) := by kernel_rfl
theorem Em (v:Value):GV Tryd.prog (.iface 108 v) 108 true=some (.tuple #[v,.bool true]):=by kernel_rfl
theorem Ch (v:Value):GV Tryd.prog (.iface 121 v) 108 true=some (.tuple #[iv 0,.bool false]):=by kernel_rfl
theorem xL (v:Value):GV Tryd.prog (.iface 122 v) 108 true=some (.tuple #[iv 0,.bool false]):=by kernel_rfl
theorem Cn:BR Tryd.prog .eql 106 (.tmp 38) (.const .nilIface) .nilIface .nilIface=some (.bool true):=by kernel_rfl
theorem cB (t:TypeId) (v:Value):BR Tryd.prog .eql 106 (.tmp 38) (.const .nilIface) (.iface t v) .nilIface=some (.bool false):=by kernel_rfl
section
variable {n:Nat} {h:AA}
theorem Hr {v:Int} {lv:Value} (hn:0<n):AS n 106 [iv v,lv] h=some (iv v,h):=by
 obtain⟨n,rfl⟩:=C_ hn
 exact EE (BT ⟨rfl,rfl,rfl⟩) rfl uB
theorem Es {k a b:Int} {l:List Int} {lv:Value} {lo:Nat} (hk:G0 k=true) (hl:AX lo h lv l) (h0:l[0]?=some a) (h1:l[l.length-1]?=some b) (ha:-1073741824≤a∧a≤1073741824) (hb:-1073741824≤b∧b≤1073741824) (hll:l.length<1000) (hn:6<n):AS n 107 [F3 k,lv] h=some (iv (FP k a b),h):=by
 obtain⟨n,rfl⟩:=C_ hn
 have e:FP k a b=FA (GU k a b):=by unfold FP;rw[if_pos hk]
 rw[e]
 exact EE (BT ⟨rfl,rfl,rfl⟩) rfl (uF hk hl h0 h1 ha hb hll (by omega))
theorem Dy {k a b:Int} {l:List Int} {lv:Value} {lo:Nat} (hr:G0 k=false) (hk:LG k=true) (hl:AX lo h lv l) (h0:l[0]?=some a) (h1:l[l.length-1]?=some b) (ha:-1073741824≤a∧a≤1073741824) (hb:-1073741824≤b∧b≤1073741824) (hll:l.length<1000) (hn:6<n):AS n 108 [F3 k,lv] h=some (iv (FP k a b),h):=by
 obtain⟨n,rfl⟩:=C_ hn
 have e:FP k a b=if JC k a b=true then 1 else 0:=by unfold FP;rw[if_neg (by rw[hr];decide)]
 rw[e]
 exact EE (BT ⟨rfl,rfl,rfl⟩) rfl (Dr hk hl h0 h1 ha hb hll (by omega))
end
theorem Ci {size:Int} {C:List Int} {x:AB} {v:Int} (h:DE size C x=some v):GH x.kind=false∧FN x.kind=false:=by
 unfold DE at h
 split at h
 ·rename_i hk;rw[hk];exact⟨rfl,rfl⟩
 split at h
 ·rename_i hk;rw[hk];exact⟨rfl,rfl⟩
 split at h
 ·rename_i hk;rw[hk];exact⟨rfl,rfl⟩
 split at h
 ·rename_i hk;rw[hk];exact⟨rfl,rfl⟩
 split at h
 ·rename_i hk;rw[hk];exact⟨rfl,rfl⟩
 ·cases h
structure IG (h H:AA) (P Cp:List Value) (V:List Int) (I:List Bool):Prop where
 p:H.get h.next=.row P 33 false false
 c:H.get (h.next+1)=.row Cp 29 false false
 v:H.get (h.next+2)=.row (ints V) 3 false false
 b:H.get (h.next+3)=.row (C0 I) 4 false false
 n:h.next+4≤H.next
 fl:H.floor=h.floor
 o:∀ i,i<h.next→H.get i=h.get i
theorem IG.mono {h H H':AA} {P Cp:List Value} {V:List Int} {I:List Bool} (hT:IG h H P Cp V I) (hn:H.next≤H'.next) (hf:H'.floor=H.floor) (hg:∀ i,i<h.next+4→H'.get i=H.get i):IG h H' P Cp V I:=
 ⟨by rw[hg _ (by omega)];exact hT.p,by rw[hg _ (by omega)];exact hT.c,by rw[hg _ (by omega)];exact hT.v,by rw[hg _ (by omega)];exact hT.b,by have:=hT.n;omega,hf.trans hT.fl,fun i hi=>by rw[hg i (by omega)];exact hT.o i hi⟩
theorem IG.setV {h H:AA} {P Cp:List Value} {V:List Int} {I:List Bool} (hT:IG h H P Cp V I) (V':List Int):IG h (H.put (h.next+2) (.row (ints V') 3 false false)) P Cp V' I:=by
 have hn:=hT.n
 have g:∀ j,j≠h.next+2→(H.put (h.next+2) (.row (ints V') 3 false false)).get j=H.get j:=fun j hj=>AV (by omega) (Ne.symm hj)
 exact⟨by rw[g _ (by omega)];exact hT.p,by rw[g _ (by omega)];exact hT.c,B0 rfl (by omega),by rw[g _ (by omega)];exact hT.b,hn,hT.fl,fun j hj=>by rw[g j (by omega)];exact hT.o j hj⟩
theorem IG.setB {h H:AA} {P Cp:List Value} {V:List Int} {I:List Bool} (hT:IG h H P Cp V I) (I':List Bool):IG h (H.put (h.next+3) (.row (C0 I') 4 false false)) P Cp V I':=by
 have hn:=hT.n
 have g:∀ j,j≠h.next+3→(H.put (h.next+3) (.row (C0 I') 4 false false)).get j=H.get j:=fun j hj=>AV (by omega) (Ne.symm hj)
 exact⟨by rw[g _ (by omega)];exact hT.p,by rw[g _ (by omega)];exact hT.c,by rw[g _ (by omega)];exact hT.v,B0 rfl (by omega),hn,hT.fl,fun j hj=>by rw[g j (by omega)];exact hT.o j hj⟩
theorem Fu {Z:List AB} {s:AN} {size:Int} {C:List Int} (hG:DB Z s) (hF:PW s size C) {m:Nat} {x:AB} (hx:s.rows[m]?=some x) (hop:GH x.kind=true∨FN x.kind=true) :
  ((BB (AD Z) x.kids.toNat (m+1)).all (fun p=>(BY s.rows (AD Z) size C p).isSome)=true→∃ a b,((BB (AD Z) x.kids.toNat (m+1)).map (fun p=>(BY s.rows (AD Z) size C p).getD 0))[0]?=some a∧((BB (AD Z) x.kids.toNat (m+1)).map (fun p=>(BY s.rows (AD Z) size C p).getD 0))[((BB (AD Z) x.kids.toNat (m+1)).map (fun p=>(BY s.rows (AD Z) size C p).getD 0)).length-1]?=some b∧(-1073741824≤a∧a≤1073741824)∧(-1073741824≤b∧b≤1073741824)∧BY s.rows (AD Z) size C m=some (FP x.kind a b)) ∧
  ((BB (AD Z) x.kids.toNat (m+1)).all (fun p=>(BY s.rows (AD Z) size C p).isSome)=false→BY s.rows (AD Z) size C m=none)∧x.kids.toNat≤2:=by
 have hcq:=Q5 (size:=size) (C:=C) hG hx
 cases hu:GH x.kind with
 | true=>
  have hk:=hG.un hx hu
  have k0:=hG.kid0 hx (by omega)
  rw[if_pos hu] at hcq
  have e:BB (AD Z) x.kids.toNat (m+1)=[m+1]:=by rw[hk];rfl
  rw[e,hcq]
  cases hc:BY s.rows (AD Z) size C (m+1) with
  | none=>exact⟨fun h=>by simp[hc] at h,fun _=>rfl,by omega⟩
  | some a=>
   have hr:=Z5 hG hF k0.2 hc
   exact⟨fun _=>⟨a,a,by simp[hc],by simp[hc],hr,hr,rfl⟩,fun h=>by simp[hc] at h,by omega⟩
 | false=>
  have hb:FN x.kind=true:=by
   rcases hop with h | h
   ·rw[hu] at h;cases h
   ·exact h
  have hk:=hG.bin hx hb
  have k0:=hG.kid0 hx (by omega)
  have k1:=hG.kid1 hx hk
  rw[if_neg (by rw[hu];decide),if_pos hb] at hcq
  have e:BB (AD Z) x.kids.toNat (m+1)=[m+1,AD Z (m+1)]:=by rw[hk];rfl
  rw[e,hcq]
  cases hc:BY s.rows (AD Z) size C (m+1) with
  | none=>exact⟨fun h=>by simp[hc] at h,fun _=>rfl,by omega⟩
  | some a=>
   cases hd:BY s.rows (AD Z) size C (AD Z (m+1)) with
   | none=>exact⟨fun h=>by simp[hc,hd] at h,fun _=>rfl,by omega⟩
   | some b=>
    exact⟨fun _=>⟨a,b,by simp[hc],by simp[hc,hd],Z5 hG hF k0.2 hc,Z5 hG hF k1.2 hd,rfl⟩,fun h=>by simp[hc,hd] at h,by omega⟩
def NI (R:List AB) (con:Nat→Option Int) (i:Nat) (V:List Int) (I:List Bool):Prop:=V.length=R.length∧I.length=R.length∧∀ j,j<R.length→(i≤j→V[j]?=some ((con j).getD 0)∧I[j]?=some (con j).isSome)∧(j<i→V[j]?=some 0∧I[j]?=some false)
theorem NI.step {R:List AB} {con:Nat→Option Int} {m:Nat} {V:List Int} {I:List Bool} (hK:NI R con (m+1) V I) (hm:m<R.length) {V':List Int} {I':List Bool} (h1:V'.length=V.length) (h2:I'.length=I.length) (h3:V'[m]?=some ((con m).getD 0)) (h4:I'[m]?=some (con m).isSome) (h5:∀ j,j≠m→V'[j]?=V[j]?∧I'[j]?=I[j]?):NI R con m V' I':=by
 obtain⟨a,b,c⟩:=hK
 refine⟨by omega,by omega,fun j hj=>⟨fun h=>?_,fun h=>?_⟩⟩
 ·rcases Nat.eq_or_lt_of_le h with e | e
  ·subst e
   exact⟨h3,h4⟩
  ·rw[(h5 j (by omega)).1,(h5 j (by omega)).2]
   exact(c j hj).1 (by omega)
 ·rw[(h5 j (by omega)).1,(h5 j (by omega)).2]
  exact(c j hj).2 (by omega)
def XI:List (Bool × Bool × List Operand):=[AQ,AQ,AQ,AQ,FO [.tmp 15],FO [.tmp 15],FO [.tmp 15],FO [.tmp 15],FO [.tmp 19],AK]
def ZM:List (Bool × Bool × List Operand):=[AQ,AQ,AH [.tmp 31],AQ,AQ,AH [.tmp 31,.tmp 34],AK,AK]
section
variable {n N:Nat} {h:AA}
theorem Dn {nm:ByteArray} {s:AN} {Z:List AB} {pv cv:Value} {lo lc:Nat} {size:Int} {C:List Int} (hG:DB Z s) (hF:PW s size C) (hp:CO lo h pv nm s) (hc:FK lc h cv size C) (hl:s.rows.length<2932031007403) (hfl:h.floor≤h.next) (hn:s.rows.length+60<n) (hN:s.rows.length+40<N) :
  ∃ h',A8 Tryd.prog (AS n) N 35 [pv,cv] h=some (.tuple #[qS (h.next+2) s.rows.length s.rows.length,qS (h.next+3) s.rows.length s.rows.length],h')∧∃ P Cp V I,IG h h' P Cp V I∧NI s.rows (BY s.rows (AD Z) size C) 0 V I:=by
 obtain⟨vr,vq,vv,vt,vu,vo,rfl,p1,p2,p3,p4,p5,p6⟩:=id hp
 obtain⟨vc,rfl,pc⟩:=id hc
 obtain⟨_,ar,cr,rfl,_⟩:=id p1.2
 have hsn:=(FD n).2
 have htot:FZ s=s.rows.length+s.queues.length+s.vars.length+s.tags.length+s.rules.length+s.on.length:=rfl
 refine EL (R:=fun h'=>∃ P Cp V I,IG h h' P Cp V I∧NI s.rows (BY s.rows (AD Z) size C) 0 V I) Tryd.func35 rfl (by simp[Tryd.f35]) ?_
 have hr:Tryd.f35.results.toList=[.tmp 4,.tmp 5]:=rfl
 have ca:=E_ [.string nm,.slice ar s.rows.length cr,vq,vv,vt,vu,vo,iv s.miss]
 have oa:=KI (nm:=nm) p1 p2 p3 p4 p5 p6
 have cb:=E_ [iv size,vc]
 have ob:[iv size,vc].all one=true:=by simp only[List.all_cons,List.all_nil,AP.one pc,KH,Bool.and_self]
 obtain⟨gA,gB,nG,fG,gO⟩:=Q2 h (.row [.string nm,.slice ar s.rows.length cr,vq,vv,vt,vu,vo,iv s.miss] 33 false false) (.row [iv size,vc] 29 false false)
 simp only[eE,seval,↓eP,F5,E9,F6,ca,oa,cb,ob,HU,NO]
 generalize (h.push (.row [.string nm,.slice ar s.rows.length cr,vq,vv,vt,vu,vo,iv s.miss] 33 false false)).push (.row [iv size,vc] 29 false false)=Q at *
 have hsl:=hG.sk.1
 have npos:0<s.rows.length:=by have:=hG.t.pos;omega
 have len1:=fun h'=>PB p1.2 h'
 have x1:AJ 1 (Q.get h.next)=some (.slice ar s.rows.length cr):=by rw[gA];rfl
 have LD:∀ H:AA,GO Tryd.prog H 27 (iv (s.rows.length:Int)) (iv (s.rows.length:Int))=some (qS H.next s.rows.length s.rows.length,H.push (.row (ints (List.replicate s.rows.length 0)) 3 false false)):=fun H=>by
  have:=RK (P:=Tryd.prog) (h:=H) (t:=27) (e:=3) (z:=.int .i64 0) Tryd.underlying27 C4 J1 HZ rfl rfl (by decide) (by decide) (n:=s.rows.length) (by omega)
  rw[show BQ (Value.int IntKind.i64 0).cells.toList s.rows.length=ints (List.replicate s.rows.length 0) from QJ _] at this
  exact this
 have mkB:∀ H:AA,GO Tryd.prog H 76 (iv (s.rows.length:Int)) (iv (s.rows.length:Int))=some (qS H.next s.rows.length s.rows.length,H.push (.row (C0 (List.replicate s.rows.length false)) 4 false false)):=fun H=>by
  have:=RK (P:=Tryd.prog) (h:=H) (t:=76) (e:=4) (z:=.bool false) Tryd.underlying76 OR jM j_ rfl rfl (by decide) (by decide) (n:=s.rows.length) (by omega)
  rw[show BQ (Value.bool false).cells.toList s.rows.length=C0 (List.replicate s.rows.length false) from cV _] at this
  exact this
 have q1:∀ a,AJ 1 ((Q.push a).get h.next)=some (.slice ar s.rows.length cr):=fun a=>by rw[AR (by omega)];exact x1
 have q2:∀ a b,AJ 1 (((Q.push a).push b).get h.next)=some (.slice ar s.rows.length cr):=fun a b=>by rw[AR (by show h.next<Q.next+1;omega)];exact q1 a
 have g2:∀ (a b:A9),let A:=(Q.push a).push b
   A.get Q.next=a∧A.get (Q.next+1)=b∧A.next=Q.next+2∧A.floor=Q.floor∧∀ i,i<Q.next→A.get i=Q.get i:=fun a b=>
  ⟨OA,OL,rfl,rfl,fun i hi=>by rw[AR (by show i<Q.next+1;omega),AR hi]⟩
 have h4:=g2 (.row (ints (List.replicate s.rows.length 0)) 3 false false) (.row (C0 (List.replicate s.rows.length false)) 4 false false)
 have hA0:(h.next<Q.next)=True:=by simp;omega
 have qf:∀ a,(Q.push a).fl Q.floor=Q.push a:=fun a=>rfl
 have qf2:∀ a b,((Q.push a).push b).fl Q.floor=(Q.push a).push b:=fun a b=>rfl
 refine WK.flags (fs:=XI) (by kernel_rfl) ?_
 unfold XI
 iterate 10
  refine D9 hsn ?_
  simp only[rG,seval,AC,AF,AE,CT,DU,CK,C6,EA,Option.bind_some,DI,DK,x1,hA0,len1,LD,qf,IC,q1,mkB,qf2,CY]
 refine D4 ?_
 obtain⟨ga,gb,n4,f4,o4⟩:=h4
 have xB:AJ 1 (((Q.push (.row (ints (List.replicate s.rows.length 0)) 3 false false)).push (.row (C0 (List.replicate s.rows.length false)) 4 false false)).get h.next)=some (.slice ar s.rows.length cr):=q2 _ _
 have w9:IntKind.i64.wrap ((s.rows.length:Int)-1)=(s.rows.length:Int)-1:=C9 (by omega) (by omega)
 simp only[eE,seval,↓eP,Nat.zero_add,DI,DK,xB,len1,w9]
 generalize (Q.push (.row (ints (List.replicate s.rows.length 0)) 3 false false)).push (.row (C0 (List.replicate s.rows.length false)) 4 false false)=B at *
 rw[nG] at ga gb
 have hT0:IG h B [.string nm,.slice ar s.rows.length cr,vq,vv,vt,vu,vo,iv s.miss] [iv size,vc] (List.replicate s.rows.length 0) (List.replicate s.rows.length false):=⟨by rw[o4 _ (by omega)];exact gA,by rw[o4 _ (by omega)];exact gB,ga,gb,by omega,by omega,fun i hi=>by rw[o4 i (by omega)];exact gO i hi⟩
 have hK0:NI s.rows (BY s.rows (AD Z) size C) s.rows.length (List.replicate s.rows.length 0) (List.replicate s.rows.length false):=⟨by simp,by simp,fun j hj=>⟨fun h9=>by omega,fun _=>⟨by rw[List.getElem?_replicate,if_pos hj],by rw[List.getElem?_replicate,if_pos hj]⟩⟩⟩
 refine WK.loop (fun k s'=>s'.T.get 2=qP h.next 0∧s'.T.get 3=qP (h.next+1) 0∧s'.T.get 6=qS (h.next+2) s.rows.length s.rows.length∧s'.T.get 7=qS (h.next+3) s.rows.length s.rows.length∧s'.T.get 8=iv ((s.rows.length:Int)-1-(k:Int))∧k≤s.rows.length∧∃ V I,IG h s'.h [.string nm,.slice ar s.rows.length cr,vq,vv,vt,vu,vo,iv s.miss] [iv size,vc] V I∧NI s.rows (BY s.rows (AD Z) size C) (s.rows.length-k) V I) s.rows.length (by omega) ?_ ?_
 ·exact⟨by simp only[eE,seval,↓eP,rP],by simp only[eE,seval,↓eP,rP],by simp only[eE,seval,↓eP,rP,nG],by simp only[eE,seval,↓eP,rP,nG],by simp only[eE,seval,↓eP,rP] <;> omega,by omega,_,_,hT0,hK0⟩
 rintro k ⟨T,H⟩ hk ⟨t2,t3,t6,t7,t8,hkl,V,I,hT,hK⟩
 simp only at t2 t3 t6 t7 t8 hT
 by_cases hlt:k<s.rows.length
 rotate_left
 ·have c1:decide ((s.rows.length:Int)-1-(k:Int)≥0)=false:=by simp;omega
  have hkn:k=s.rows.length:=by omega
  subst hkn
  rw[Nat.sub_self] at hK
  simp only[eE,seval,↓eP,hr,t6,t7,t8,c1]
  exact⟨_,_,_,_,hT,hK⟩
 obtain⟨m,hm⟩:∃ m,s.rows.length=k+1+m:=⟨s.rows.length-(k+1),by omega⟩
 have hml:m<s.rows.length:=by omega
 have em:(s.rows.length:Int)-1-(k:Int)=(m:Int):=by omega
 rw[em] at t8
 rw[show s.rows.length-k=m+1 by omega] at hK
 have c1:decide ((m:Int)≥0)=true:=by simp
 obtain⟨x,hx⟩:∃ x,s.rows[m]?=some x:=⟨_,List.getElem?_eq_getElem hml⟩
 have hnx:=hT.n
 have hfl':=hT.fl
 obtain⟨hVl,hIl,hKj⟩:=id hK
 have hvH:A7 H (.slice ar s.rows.length cr) s.rows:=p1.1.mono (by omega) hT.o
 obtain⟨ia,pa,ea,hia,_,_,_,_,_,la⟩:=hvH.row hx
 have xa1:AJ 1 (H.get h.next)=some (.slice ar s.rows.length cr):=by rw[hT.p];rfl
 have lC:BF 2 0 (H.get (h.next+1))=some (.agg #[iv size,vc]):=by rw[hT.c];rfl
 have hcH:FK lc H (.agg #[iv size,vc]) size C:=hc.mono (by omega) fun j _ hj=>hT.o j hj
 obtain⟨H1,hmean,n1,f1,o1⟩:=Cg (n:=n) (x:=x) hcH (fun h9=>by have:=hG.qn m x hx (by rw[h9];rfl);have:=hF.len;omega) (by omega)
 have hT1:IG h H1 [.string nm,.slice ar s.rows.length cr,vq,vv,vt,vu,vo,iv s.miss] [iv size,vc] V I:=hT.mono n1 f1 fun j hj=>o1 j (by omega)
 have w1:IntKind.i64.wrap ((m:Int)-1)=(s.rows.length:Int)-1-((k+1:Nat):Int):=by rw[C9 (by omega) (by omega)];omega
 have ek:s.rows.length-(k+1)=m:=by omega
 simp only[eE,seval,↓eP,t8,c1]
 refine WK.flags (fs:=ZM) (by kernel_rfl) ?_
 unfold ZM
 iterate 8
  refine D9 hsn ?_
  simp only[rG,seval,AC,AF,AE,CT,DU,CK,C6,EA,Option.bind_some,t2,DI,DK,xa1,t8,ea,HN,la,t3,HB,lC,hmean,KA,KS]
 refine D4 ?_
 have hcq:=Q5 (size:=size) (C:=C) hG hx
 obtain⟨hV0,hI0⟩:=(hKj m hml).2 (by omega)
 have ixv:=FB (id:=h.next+2) (n:=s.rows.length) (c:=s.rows.length) (i:=m) hml
 have ixb:=SW (id:=h.next+3) (n:=s.rows.length) (c:=s.rows.length) (i:=m) hml
 have fH1:H1.fl H.floor=H1:=by rw[← f1];exact HY H1
 have hnx1:=hT1.n
 have hfl1:=hT1.fl
 have hcast:IntKind.i64.wrap ((m:Int)-1)=IntKind.i64.wrap ((m:Int)-1):=rfl
 have split3:DE size C x≠none∨(DE size C x=none∧(GH x.kind=true∨FN x.kind=true))∨(DE size C x=none∧GH x.kind=false∧FN x.kind=false):=by
  cases DE size C x <;> cases GH x.kind <;> cases FN x.kind <;> simp
 rcases split3 with hlf | ⟨hlf,hop⟩ | ⟨hlf,hun,hbn⟩
 ·obtain⟨v,hv⟩:∃ v,DE size C x=some v:=Option.ne_none_iff_exists'.1 hlf
  have hnu:GH x.kind=false∧FN x.kind=false:=Ci hv
  have hc0:BY s.rows (AD Z) size C m=some v:=by rw[hcq,if_neg (by rw[hnu.1];decide),if_neg (by rw[hnu.2];decide)];exact hv
  have e:CB size C x=.iface 108 (iv v):=by unfold CB;rw[hv]
  rw[e]
  have sb:A_ Tryd.prog H1 4 (qP (h.next+3) m) (.bool true)=some (H1.put (h.next+3) (.row (C0 (I.set m true)) 4 false false)):=UW hT1.b (by omega) (by omega)
  have hT2:=hT1.setB (I.set m true)
  have n2:(H1.put (h.next+3) (.row (C0 (I.set m true)) 4 false false)).next=H1.next:=rfl
  have f2:(H1.put (h.next+3) (.row (C0 (I.set m true)) 4 false false)).floor=H1.floor:=rfl
  generalize H1.put (h.next+3) (.row (C0 (I.set m true)) 4 false false)=H2 at *
  have lb:AJ m (H2.get (h.next+3))=some (.bool true):=by rw[hT2.b];exact O4 (List.getElem?_set_self (by omega))
  have hof:=Hr (n:=n) (h:=H2) (v:=v) (lv:=Z0) (by omega)
  have sv:A_ Tryd.prog H2 3 (qP (h.next+2) m) (iv v)=some (H2.put (h.next+2) (.row (ints (V.set m v)) 3 false false)):=MQ hT2.v (by omega) (by omega)
  simp only[eE,seval,↓eP,t2,t3,t6,t7,t8,cB,fH1,ixb,sb,Em,E8,lb,z9,hof,ixv,sv,w1]
  exact⟨hlt,by omega,_,_,hT2.setV _,by rw[ek];exact hK.step hml (by rw[List.length_set]) (by rw[List.length_set]) (by rw[hc0,List.getElem?_set_self (by omega)];rfl) (by rw[hc0,List.getElem?_set_self (by omega)];rfl) fun j hj=>⟨List.getElem?_set_ne (Ne.symm hj),List.getElem?_set_ne (Ne.symm hj)⟩⟩
 ·obtain⟨mv,hmv⟩:∃ mv,mv=CB size C x:=⟨_,rfl⟩
  rw[← hmv]
  have hrh:=ZI.1 hop
  have emv:(G0 x.kind=true∧mv=.iface 121 (F3 x.kind))∨(G0 x.kind=false∧LG x.kind=true∧mv=.iface 122 (F3 x.kind)):=by
   cases h9:G0 x.kind with
   | true=>exact .inl ⟨rfl,by rw[hmv];unfold CB;rw[hlf];simp[h9]⟩
   | false=>
    have h8:LG x.kind=true:=by
     rcases hrh with h7 | h7
     ·rw[h9] at h7;cases h7
     ·exact h7
    exact .inr ⟨rfl,h8,by rw[hmv];unfold CB;rw[hlf];simp[h9,h8]⟩
  have hAs:GV Tryd.prog mv 108 true=some (.tuple #[iv 0,.bool false]):=by
   rcases emv with⟨_,e⟩ | ⟨_,_,e⟩
   ·rw[e];exact Ch _
   ·rw[e];exact xL _
  have hIf:BR Tryd.prog .eql 106 (.tmp 38) (.const .nilIface) mv .nilIface=some (.bool false):=by
   rcases emv with⟨_,e⟩ | ⟨_,_,e⟩
   ·rw[e];exact cB _ _
   ·rw[e];exact cB _ _
  have sb:A_ Tryd.prog H1 4 (qP (h.next+3) m) (.bool true)=some (H1.put (h.next+3) (.row (C0 (I.set m true)) 4 false false)):=UW hT1.b (by omega) (by omega)
  have hT2:=hT1.setB (I.set m true)
  have n2:(H1.put (h.next+3) (.row (C0 (I.set m true)) 4 false false)).next=H1.next:=rfl
  have f2:(H1.put (h.next+3) (.row (C0 (I.set m true)) 4 false false)).floor=H1.floor:=rfl
  have xa2:AJ 1 ((H1.put (h.next+3) (.row (C0 (I.set m true)) 4 false false)).get h.next)=some (.slice ar s.rows.length cr):=by rw[hT2.p];rfl
  have hv2:A7 (H1.put (h.next+3) (.row (C0 (I.set m true)) 4 false false)) (.slice ar s.rows.length cr) s.rows:=p1.1.mono (by omega) hT2.o
  obtain⟨zz,hzz,_,hzk⟩:=hG.z hx
  obtain⟨kv,H5,hkids,hkL,f5,n5,o5⟩:=ZN (n:=n) hG.t hG.sk hv2 hzz (by omega) (by omega) (by omega)
  rw[← hzk] at hkL
  have hkc:=hkL.ints (Nat.le_refl _)
  have lenK:=fun h'=>KQ hkc h'
  have hkl:((BB (AD Z) x.kids.toNat (m+1)).map (fun (k:Nat)=>(k:Int))).length=x.kids.toNat:=by rw[List.length_map,NE]
  obtain⟨k0,hch,hel,hei⟩:=hG.kids0 hx
  rw[hkl,show ((x.kids.toNat:Nat):Int)=x.kids by omega] at lenK
  have hT5:IG h H5 [.string nm,.slice ar s.rows.length cr,vq,vv,vt,vu,vo,iv s.miss] [iv size,vc] V (I.set m true):=hT2.mono (by omega) (by omega) fun j hj=>o5 j (by omega)
  obtain⟨hyes,hno,hk2⟩:=Fu (size:=size) (C:=C) hG hF hx hop
  simp only[eE,seval,↓eP,t2,t7,t8,hIf,fH1,ixb,sb,hAs,Nat.zero_add,DI,DK,xa2,hkids,lenK]
  generalize H1.put (h.next+3) (.row (C0 (I.set m true)) 4 false false)=H2 at *
  generalize hks:BB (AD Z) x.kids.toNat (m+1)=ks at *
  have hksl:ks.length=x.kids.toNat:=by rw[← hks,NE]
  refine WK.loop (fun q s'=>s'.T.get 2=qP h.next 0∧s'.T.get 3=qP (h.next+1) 0∧s'.T.get 6=qS (h.next+2) s.rows.length s.rows.length∧s'.T.get 7=qS (h.next+3) s.rows.length s.rows.length∧s'.T.get 8=iv (m:Int)∧s'.T.get 9=mv∧s'.T.get 53=kv∧s'.T.get 54=iv x.kids∧s'.T.get 55=iv (q:Int)∧q≤x.kids.toNat∧H5.next≤s'.h.next∧(∀ j,h.next+4≤j→j<H5.next→s'.h.get j=H5.get j)∧∃ w,s'.T.get 10=w∧IK s'.h H5.next w ((ks.take q).map (fun p=>(BY s.rows (AD Z) size C p).getD 0))∧IG h s'.h [.string nm,.slice ar s.rows.length cr,vq,vv,vt,vu,vo,iv s.miss] [iv size,vc] V (I.set m ((ks.take q).all (fun p=>(BY s.rows (AD Z) size C p).isSome)))) x.kids.toNat (by omega) ?_ ?_
  ·exact⟨by simp only[eE,seval,↓eP,rP,t2],by simp only[eE,seval,↓eP,rP,t3],by simp only[eE,seval,↓eP,rP,t6],by simp only[eE,seval,↓eP,rP,t7],by simp only[eE,seval,↓eP,rP,t8],by simp only[eE,seval,↓eP,rP],by simp only[eE,seval,↓eP,rP],by simp only[eE,seval,↓eP,rP],by simp only[eE,seval,↓eP,rP] <;> rfl,by omega,Nat.le_refl _,fun _ _ _=>rfl,Z0,by simp only[eE,seval,↓eP,rP],.inl ⟨rfl,rfl⟩,hT5⟩
  rintro q ⟨T4,H6⟩ hq ⟨u2,u3,u6,u7,u8,u9,u53,u54,u55,hqk,n6,o6,w,u10,hL,hT6⟩
  simp only at u2 u3 u6 u7 u8 u9 u53 u54 u55 n6 o6 u10 hL hT6
  by_cases hql:q<x.kids.toNat
  rotate_left
  ·have c3:decide ((q:Int)<x.kids)=false:=by simp;omega
   have hq9:q=x.kids.toNat:=by omega
   subst hq9
   rw[List.take_of_length_le (by omega)] at hL hT6
   have hnx6:=hT6.n
   have hfl6:=hT6.fl
   have lb:AJ m (H6.get (h.next+3))=some (.bool (ks.all (fun p=>(BY s.rows (AD Z) size C p).isSome))):=by rw[hT6.b];exact O4 (List.getElem?_set_self (by omega))
   cases hall:ks.all (fun p=>(BY s.rows (AD Z) size C p).isSome) with
   | false=>
    rw[hall] at lb hT6
    have hc0:=hno hall
    simp only[eE,seval,↓eP,u2,u3,u6,u7,u8,u54,u55,c3,ixb,E8,lb,w1]
    exact⟨hlt,by omega,_,_,hT6,by rw[ek];exact hK.step hml rfl (by rw[List.length_set]) (by rw[hc0];exact hV0) (by rw[hc0,List.getElem?_set_self (by omega)];rfl) fun j hj=>⟨rfl,List.getElem?_set_ne (Ne.symm hj)⟩⟩
   | true=>
    rw[hall] at lb hT6
    obtain⟨a,b,ha0,hb0,har,hbr,hc0⟩:=hyes hall
    have hLi:=hL.ints (Nat.le_refl _)
    have sv:A_ Tryd.prog H6 3 (qP (h.next+2) m) (iv (FP x.kind a b))=some (H6.put (h.next+2) (.row (ints (V.set m (FP x.kind a b))) 3 false false)):=MQ hT6.v (by omega) (by omega)
    have fin:NI s.rows (BY s.rows (AD Z) size C) m (V.set m (FP x.kind a b)) (I.set m true):=hK.step hml (by rw[List.length_set]) (by rw[List.length_set]) (by rw[hc0,List.getElem?_set_self (by omega)];rfl) (by rw[hc0,List.getElem?_set_self (by omega)];rfl) fun j hj=>⟨List.getElem?_set_ne (Ne.symm hj),List.getElem?_set_ne (Ne.symm hj)⟩
    have hl1000:(ks.map (fun p=>(BY s.rows (AD Z) size C p).getD 0)).length<1000:=by rw[List.length_map];omega
    rcases emv with⟨hr1,e⟩ | ⟨hr1,hh1,e⟩
    ·have hof:=Es (n:=n) hr1 hLi ha0 hb0 har hbr hl1000 (by omega)
     rw[e] at u9
     simp only[eE,seval,↓eP,u2,u3,u6,u7,u8,u9,u54,u55,u10,c3,ixb,E8,lb,Ey,hof,ixv,sv,w1]
     exact⟨hlt,by omega,_,_,hT6.setV _,by rw[ek];exact fin⟩
    ·have hof:=Dy (n:=n) hr1 hh1 hLi ha0 hb0 har hbr hl1000 (by omega)
     rw[e] at u9
     simp only[eE,seval,↓eP,u2,u3,u6,u7,u8,u9,u54,u55,u10,c3,ixb,E8,lb,sD,hof,ixv,sv,w1]
     exact⟨hlt,by omega,_,_,hT6.setV _,by rw[ek];exact fin⟩
  have c3:decide ((q:Int)<x.kids)=true:=by simp;omega
  obtain⟨p,hpk⟩:∃ p,ks[q]?=some p:=⟨_,List.getElem?_eq_getElem (by omega)⟩
  obtain⟨hip,hpl⟩:=hG.kid (k:=q) hx (by rw[hks];exact hpk)
  have hnx6:=hT6.n
  have hfl6:=hT6.fl
  have hnx5:=hT5.n
  have hkc6:AX (h.next+4) H6 kv (ks.map (fun (k:Nat)=>(k:Int))):=AX.mono (hkL.ints (by omega)) (by omega) fun j h1 h2=>o6 j h1 h2
  obtain⟨ip,pp,ep,hip2,lp⟩:=AX.get hkc6 (i:=q) (x:=(p:Int)) (by rw[List.getElem?_map,hpk];rfl)
  have wq:=EU q (by omega)
  obtain⟨hVp,hIp⟩:=(hKj p hpl).1 (by omega)
  have jxv:=FB (id:=h.next+2) (n:=s.rows.length) (c:=s.rows.length) (i:=p) hpl
  have jxb:=SW (id:=h.next+3) (n:=s.rows.length) (c:=s.rows.length) (i:=p) hpl
  have lv:AJ p (H6.get (h.next+2))=some (iv ((BY s.rows (AD Z) size C p).getD 0)):=by rw[hT6.v];exact MM hVp
  obtain⟨w',H7,happ,hL',f7,n7,o7⟩:=bR (x:=(BY s.rows (AD Z) size C p).getD 0) hL (by omega) (by omega) (by rw[List.length_map,List.length_take];omega)
  have hT7:=hT6.mono (H':=H7) (by omega) f7 fun j hj=>o7 j (by omega)
  have etk:ks.take (q+1)=ks.take q++[p]:=by rw[List.take_add_one,hpk];rfl
  have eall:(ks.take (q+1)).all (fun p=>(BY s.rows (AD Z) size C p).isSome)=((ks.take q).all (fun p=>(BY s.rows (AD Z) size C p).isSome)&&(BY s.rows (AD Z) size C p).isSome):=by rw[etk,List.all_append];simp
  have emap:(ks.take q).map (fun p=>(BY s.rows (AD Z) size C p).getD 0)++[(BY s.rows (AD Z) size C p).getD 0]=(ks.take (q+1)).map (fun p=>(BY s.rows (AD Z) size C p).getD 0):=by rw[etk,List.map_append];rfl
  rw[emap] at hL'
  have lm7:AJ m (H7.get (h.next+3))=some (.bool ((ks.take q).all (fun p=>(BY s.rows (AD Z) size C p).isSome))):=by rw[hT7.b];exact O4 (List.getElem?_set_self (by omega))
  have lp7:AJ p (H7.get (h.next+3))=some (.bool (BY s.rows (AD Z) size C p).isSome):=by rw[hT7.b];exact O4 (by rw[List.getElem?_set_ne (by omega)];exact hIp)
  have sb7:∀ v:Bool,A_ Tryd.prog H7 4 (qP (h.next+3) m) (.bool v)=some (H7.put (h.next+3) (.row (C0 (I.set m v)) 4 false false)):=fun v=>by
   have:=UW (x:=v) (i:=m) hT7.b (by rw[List.length_set];omega) (by omega)
   rw[List.set_set] at this
   exact this
  have hnx7:=hT7.n
  have fin:∀ v:Bool,v=(ks.take (q+1)).all (fun p=>(BY s.rows (AD Z) size C p).isSome)→IK (H7.put (h.next+3) (.row (C0 (I.set m v)) 4 false false)) H5.next w' ((ks.take (q+1)).map (fun p=>(BY s.rows (AD Z) size C p).getD 0))∧IG h (H7.put (h.next+3) (.row (C0 (I.set m v)) 4 false false)) [.string nm,.slice ar s.rows.length cr,vq,vv,vt,vu,vo,iv s.miss] [iv size,vc] V (I.set m ((ks.take (q+1)).all (fun p=>(BY s.rows (AD Z) size C p).isSome)))∧∀ j,h.next+4≤j→j<H5.next→(H7.put (h.next+3) (.row (C0 (I.set m v)) 4 false false)).get j=H5.get j:=fun v hv=>by
   refine⟨hL'.mono (Nat.le_refl _) fun j h1 h2=>AV (by omega) (by omega),by rw[← hv];exact hT7.setB _,fun j h1 h2=>by rw[AV (by omega) (by omega),o7 j h2];exact o6 j h1 h2⟩
  have nn7:∀ v:Bool,H5.next≤(H7.put (h.next+3) (.row (C0 (I.set m v)) 4 false false)).next:=fun v=>by show H5.next≤H7.next;omega
  cases hb:(ks.take q).all (fun p=>(BY s.rows (AD Z) size C p).isSome) with
  | false=>
   rw[hb] at lm7 eall
   simp only[eE,seval,↓eP,u2,u3,u6,u7,u8,u9,u53,u54,u55,u10,c3,ep,AU,lp,jxv,lv,NS,happ,ixb,E8,lm7,sb7,wq]
   obtain⟨a1,a2,a3⟩:=fin false (by simp[eall])
   exact⟨hql,by omega,nn7 _,a3,a1,a2⟩
  | true=>
   rw[hb] at lm7 eall
   simp only[eE,seval,↓eP,u2,u3,u6,u7,u8,u9,u53,u54,u55,u10,c3,ep,AU,lp,jxv,lv,NS,happ,ixb,E8,lm7,jxb,lp7,sb7,wq]
   obtain⟨a1,a2,a3⟩:=fin (BY s.rows (AD Z) size C p).isSome (by rw[eall,Bool.true_and])
   exact⟨hql,by omega,nn7 _,a3,a1,a2⟩
 ·have hr0:G0 x.kind=false:=by
   cases h9:G0 x.kind with
   | false=>rfl
   | true=>rcases ZI.2 (.inl h9) with h8 | h8 <;> simp_all
  have hh0:LG x.kind=false:=by
   cases h9:LG x.kind with
   | false=>rfl
   | true=>rcases ZI.2 (.inr h9) with h8 | h8 <;> simp_all
  have e:CB size C x=.nilIface:=by unfold CB;rw[hlf];simp[hr0,hh0]
  have hc0:BY s.rows (AD Z) size C m=none:=by rw[hcq,if_neg (by rw[hun];decide),if_neg (by rw[hbn];decide)];exact hlf
  rw[e]
  simp only[eE,seval,↓eP,t2,t3,t6,t7,t8,Cn,fH1,w1]
  exact⟨hlt,by omega,V,I,hT1,by rw[ek];exact hK.step hml rfl rfl (by rw[hc0];exact hV0) (by rw[hc0];exact hI0) fun _ _=>⟨rfl,rfl⟩⟩
end
structure ZS (h H:AA) (M:GJ):Prop where
 a:H.get h.next=.row (ints M.A) 3 false false
 c:H.get (h.next+1)=.row (C0 M.C) 4 false false
 n:h.next+2≤H.next
 fl:H.floor=h.floor
 o:∀ i,i<h.next→H.get i=h.get i
theorem ZS.mono {h H H':AA} {M:GJ} (hT:ZS h H M) (hn:H.next≤H'.next) (hf:H'.floor=H.floor) (hg:∀ i,i<h.next+2→H'.get i=H.get i):ZS h H' M:=
 ⟨by rw[hg _ (by omega)];exact hT.a,by rw[hg _ (by omega)];exact hT.c,by have:=hT.n;omega,hf.trans hT.fl,fun i hi=>by rw[hg i (by omega)];exact hT.o i hi⟩
section
variable {n N:Nat} {h:AA}
end
noncomputable def DG (nm:ByteArray) (s:AN) (size:Int) (C:List Int):Int:=if FF nm s≠0 then FF nm s else if KY size C s.queues=true then 0 else 45
theorem MU.lies {h:AA} {b:Nat} {v:Value} {nm:ByteArray} {s:AN} (hL:MU h b v nm s):∀ nm' vr vq vv vt vu vo m,v=.agg #[.string nm',vr,vq,vv,vt,vu,vo,m]→JN vr s.rows.length:=by
 intro nm' vr vq vv vt vu vo m hv
 rw[hL.v] at hv
 simp only[Value.agg.injEq,Array.mk.injEq,List.cons.injEq] at hv
 obtain⟨_,h1,_⟩:=hv
 exact⟨_,_,_,h1.symm⟩
theorem MU.mono {h h':AA} {b:Nat} {v:Value} {nm:ByteArray} {s:AN} (hL:MU h b v nm s) (hn:h.next≤h'.next) (hg:∀ i,b≤i→i≤b+5→h'.get i=h.get i):MU h' b v nm s:=by
 obtain⟨hv,hlt,⟨L1,g1⟩,gq,gw,gt,⟨L5,g5⟩,⟨L6,g6⟩⟩:=hL
 exact⟨hv,by omega,⟨L1,by rw[hg _ (by omega) (by omega)];exact g1.g,g1.len,g1.own,g1.marks⟩,by rw[hg _ (by omega) (by omega)];exact gq,by rw[hg _ (by omega) (by omega)];exact gw,by rw[hg _ (by omega) (by omega)];exact gt,⟨L5,by rw[hg _ (by omega) (by omega)];exact g5.g,g5.len,g5.own,g5.marks⟩,⟨L6,by rw[hg _ (by omega) (by omega)];exact g6.g,g6.len,g6.own,g6.marks⟩⟩
section
variable {n N:Nat} {h:AA}
theorem Jj {nm:ByteArray} {s:AN} {pv cv:Value} {lo lc:Nat} {size:Int} {C:List Int} (hp:CO lo h pv nm s) (hc:FK lc h cv size C) (hlies:∀ nm' vr vq vv vt vu vo m,pv=.agg #[.string nm',vr,vq,vv,vt,vu,vo,m]→JN vr s.rows.length) (hl:s.rows.length<2932031007403) (hg:h.get 0=CW) (hn0:0<h.next) (hs:JJ s) (hC:C.length<17592186044416) (hfl:h.floor≤h.next) (hn:2*FZ s+400+C.length<n) :
  ∃ h',A8 Tryd.prog (AS n) N 17 [pv,cv] h=some (CD (DG nm s size C) 0,h')∧∀ i,i<h.next→h'.get i=h.get i:=by
 obtain⟨vr,vq,vv,vt,vu,vo,rfl,p1,p2,p3,p4,p5,p6⟩:=id hp
 obtain⟨vc,rfl,pc⟩:=id hc
 refine EL (R:=fun h'=>∀ i,i<h.next→h'.get i=h.get i) Tryd.func17 rfl (by simp[Tryd.f17]) ?_
 have hr:Tryd.f17.results.toList=[.cell 4 36]:=rfl
 have ca:=E_ [.string nm,vr,vq,vv,vt,vu,vo,iv s.miss]
 have oa:=KI (nm:=nm) p1 p2 p3 p4 p5 p6
 have cb:=E_ [iv size,vc]
 have ob:[iv size,vc].all one=true:=by simp only[List.all_cons,List.all_nil,AP.one pc,KH,Bool.and_self]
 obtain⟨gA,gB,gF,nG,fG,gO⟩:=T9 h (.row [.string nm,vr,vq,vv,vt,vu,vo,iv s.miss] 33 false false) (.row [iv size,vc] 29 false false) (.row [iv 0,iv 0] 36 false false)
 simp only[eE,seval,↓eP,F5,E9,F6,ca,oa,cb,ob,HU,NO,E2,EZ,F7]
 generalize ((h.push (.row [.string nm,vr,vq,vv,vt,vu,vo,iv s.miss] 33 false false)).push (.row [iv size,vc] 29 false false)).push (.row [iv 0,iv 0] 36 false false)=Q at *
 have lA:BF 8 0 (Q.get h.next)=some (.agg #[.string nm,vr,vq,vv,vt,vu,vo,iv s.miss]):=MS gA rfl
 have lB:BF 2 0 (Q.get (h.next+1))=some (.agg #[iv size,vc]):=by rw[gB];rfl
 have hpQ:CO lo Q (.agg #[.string nm,vr,vq,vv,vt,vu,vo,iv s.miss]) nm s:=hp.mono (by omega) fun i _ hi=>gO i hi
 have hcQ:FK lc Q (.agg #[iv size,vc]) size C:=hc.mono (by omega) fun i _ hi=>gO i hi
 have hchk:=jY (n:=n) hpQ hlies hs hl (by omega) (by rw[gO 0 hn0];exact hg) (by omega) (by omega)
 have hfit:=yQ (n:=n) hpQ hcQ hC hs.2.1 (by omega)
 have fin:∀ e:Int,∃ H',A_ Tryd.prog Q 36 (qP (h.next+2) 0) (CD e 0)=some H'∧BF 2 0 (H'.get (h.next+2))=some (CD e 0)∧∀ i,i<h.next→H'.get i=h.get i:=fun e=>by
  refine⟨_,JX JS (vs:=[iv e,iv 0]) gF rfl rfl rfl (by omega),?_,fun i hi=>?_⟩
  ·rw[B0 rfl (by omega)]
   rfl
  ·rw[AV (by omega) (by omega)]
   exact gO i hi
 have nn:h.next+1+1=h.next+2:=rfl
 cases d1:(FF nm s != 0) with
 | true=>
  have e1:DG nm s size C=FF nm s:=by unfold DG;rw[if_pos (by simpa using d1)]
  obtain⟨H',s1,s2,s3⟩:=fin (FF nm s)
  rw[e1]
  simp only[eE,seval,↓eP,hr,nn,EM,lA,hchk,d1,RH,s1,EB,s2]
  exact s3
 | false=>
 have e1:FF nm s=0:=by simpa using d1
 cases d2:KY size C s.queues with
 | false=>
  have e2:DG nm s size C=45:=by unfold DG;rw[if_neg (by rw[e1];decide),if_neg (by rw[d2];decide)]
  obtain⟨H',s1,s2,s3⟩:=fin 45
  rw[e2]
  simp only[eE,seval,↓eP,hr,nn,EM,HB,lA,lB,hchk,d1,hfit,d2,RH,s1,EB,s2]
  exact s3
 | true=>
  have e2:DG nm s size C=0:=by unfold DG;rw[if_neg (by rw[e1];decide),if_pos d2]
  obtain⟨H',s1,s2,s3⟩:=fin 0
  rw[e2]
  simp only[eE,seval,↓eP,hr,nn,EM,HB,lA,lB,hchk,d1,hfit,d2,MA,s1,EB,s2]
  exact s3
theorem UF {nm:ByteArray} {s:AN} {pv cv:Value} {lo lc:Nat} {size:Int} {C:List Int} (hp:CO lo h pv nm s) (hc:FK lc h cv size C) (hlies:∀ nm' vr vq vv vt vu vo m,pv=.agg #[.string nm',vr,vq,vv,vt,vu,vo,m]→JN vr s.rows.length) (hl:s.rows.length<2932031007403) (hg:h.get 0=CW) (hn0:0<h.next) (hs:JJ s) (hC:C.length<17592186044416) (hfl:h.floor≤h.next) (hn:2*FZ s+400+C.length+10<n):AS n 17 [pv,cv] h=some (CD (DG nm s size C) 0,h):=by
 obtain⟨n,rfl⟩:=C_ hn
 exact JQ (BT ⟨rfl,rfl,rfl⟩) rfl (Jj (n:=n) (N:=n) hp hc hlies hl hg hn0 hs hC hfl (by omega))
end
theorem eC {nm:ByteArray} {s:AN} {size:Int} {C:List Int} (h:DG nm s size C=0):PW s size C:=by
 unfold DG at h
 split at h
 ·rename_i hc;exact absurd h hc
 ·split at h
  ·rename_i hf;exact Ba hf
  ·cases h
section
variable {n N:Nat} {h:AA}
theorem cY {nm:ByteArray} {s:AN} {Z:List AB} {pv cv:Value} {lo lc:Nat} {size:Int} {C:List Int} (hG:DB Z s) (hF:PW s size C) (hp:CO lo h pv nm s) (hc:FK lc h cv size C) (hl:s.rows.length<2932031007403) (hfl:h.floor≤h.next) (hn:s.rows.length+100<n) :
  ∃ h',AS n 35 [pv,cv] h=some (.tuple #[qS (h.next+2) s.rows.length s.rows.length,qS (h.next+3) s.rows.length s.rows.length],h')∧∃ P Cp V I,IG h h' P Cp V I∧NI s.rows (BY s.rows (AD Z) size C) 0 V I:=by
 obtain⟨n,rfl⟩:=C_ hn
 exact PX (BT ⟨rfl,rfl,rfl⟩) (by simp[EF,flat,BI]) (Dn (n:=n) (N:=n) hG hF hp hc hl hfl (by omega) (by omega))
end
noncomputable def EY (s:AN) (size:Int) (C:List Int) (p:Nat):Int:=(BY s.rows (AD (BC s.rows)) size C p).getD 0
noncomputable def OZ (s:AN) (size:Int) (C:List Int):(Int × Int) × GF:=GX s.rows (AD (BC s.rows)) (EY s size C) s.rows.length 0 ⟨[],[],List.replicate s.rows.length 0⟩
noncomputable def C3 (nm:ByteArray) (s:AN) (size:Int) (C:List Int):(Int × Int) × GF:=
 if (B_ nm s).1.1≠0 then ((B_ nm s).1,R6) else if DG nm s size C≠0 then ((DG nm s size C,0),R6) else OZ s size C
def bH (H:AA) (lo:Nat) (v:Value) (r:(Int × Int) × GF):Prop:=∃ tv,v=.tuple #[tv,CD r.1.1 r.1.2]∧IA lo H tv r.2
section
variable {P:Program} {call:AM} {n:Nat} {a b c p d:Code} {s:St} {k:CG}
theorem sJ (h:WK P call n (.seq a p) s (.seq d k)):WK P call n (.seq a (.seq p d)) s k:=by
 rw[KX] at h ⊢
 refine WS.mono h fun e s1 g=>?_
 cases e with
 | normal=>
  show WK P call n (.seq p d) s1 k
  rw[KX]
  exact g
 | exit i=>exact g
 | ret=>exact g
theorem Iu (h:WK P call n (.seq a (.seq b p)) s (.seq d k)):WK P call n (.seq a (.seq b (.seq p d))) s k:=by
 rw[KX] at h ⊢
 refine WS.mono h fun e s1 g=>?_
 cases e with
 | normal=>exact sJ g
 | exit i=>exact g
 | ret=>exact g
theorem kC (h:WK P call n (.seq a (.seq b (.seq c p))) s (.seq d k)):WK P call n (.seq a (.seq b (.seq c (.seq p d)))) s k:=by
 rw[KX] at h ⊢
 refine WS.mono h fun e s1 g=>?_
 cases e with
 | normal=>exact Iu g
 | exit i=>exact g
 | ret=>exact g
end
theorem cL:BG Tryd.prog 82=some 3:=by kernel_rfl
theorem Jd:E1 Tryd.prog 82=some true:=by kernel_rfl
section
variable {h:AA} {id off:Nat}
theorem cJ:DY Tryd.prog h 82 (qP id off)=BF 3 off (h.get id):=LX Jd cL
theorem ZQ:BJ Tryd.prog 82 (qP id off) 0=some (qP id off):=by simp[BJ,Tryd.underlying82,C4,CJ]
theorem YK:BJ Tryd.prog 82 (qP id off) 1=some (qP id (off+1)):=by simp[BJ,Tryd.underlying82,C4,CJ]
theorem kJ:BJ Tryd.prog 82 (qP id off) 2=some (qP id (off+2)):=by simp[BJ,Tryd.underlying82,C4,CJ]
end
def LF (k:Int):Bool:=k==4||(k==5||(k==6||k==13))
def XQ:List (Bool × Bool × List Operand):=[AQ,AK,AH [.tmp 7],AK]
def cH:List (Bool × Bool × List Operand):=[AQ,AK,AH [.tmp 8],AK]
section
variable {s:AN} {i:Nat} {x:AB}
theorem dX (hG:DB (BC s.rows) s) (hx:s.rows[i]?=some x):(x.kind=4∨x.kind=13→x.kids=3)∧(x.kind=5∨x.kind=6→x.kids=1):=by
 obtain⟨z,hz,h1,h2⟩:=hG.z hx
 have hf:=hG.t.fit hz
 unfold C8 at hf
 simp only[Bool.and_eq_true,decide_eq_true_eq,Bool.or_eq_true] at hf
 obtain⟨⟨_,hl⟩,hm⟩:=hf
 rw[← h1,← h2] at hl hm
 refine⟨fun h=>?_,fun h=>?_⟩ <;> (rcases h with h | h <;> (rw[h] at hl hm;rcases hm with hm | hm <;> simp[CM,Fsx] at hm hl <;> omega))
theorem zQ (hG:DB (BC s.rows) s) (hx:s.rows[i]?=some x) (hd:LF x.kind=true) (f:Nat→Int) :
  (x.kind=4→(BB (AD (BC s.rows)) x.kids.toNat (i+1)).map f=[f (i+1),f (AD (BC s.rows) (i+1)),f (AD (BC s.rows) (AD (BC s.rows) (i+1)))])∧((BB (AD (BC s.rows)) x.kids.toNat (i+1)).map f)[0]?=some (f (i+1)):=by
 obtain⟨h3,h1⟩:=dX hG hx
 refine⟨fun h=>?_,?_⟩
 ·rw[h3 (.inl h)]
  rfl
 ·have hk:0<x.kids:=by
   unfold LF at hd
   simp at hd
   rcases hd with h | h | h | h
   ·rw[h3 (.inl h)];decide
   ·rw[h1 (.inl h)];decide
   ·rw[h1 (.inr h)];decide
   ·rw[h3 (.inr h)];decide
  obtain⟨r,hr⟩:∃ r,x.kids.toNat=r+1:=⟨x.kids.toNat-1,by omega⟩
  rw[hr]
  rfl
end
def qA (B:AA) (RI VI D i:Nat) (h:AA) (vr:Value) (s:AN) (x:AB) (t:GF) (L:List Int) (e:D7) (s':St):Prop:=
 e=.normal∧s'.T.get 2=qP h.next 0∧s'.T.get 4=qP (h.next+2) 0∧s'.T.get 5=qP (h.next+3) 0∧s'.T.get 9=qS VI s.rows.length s.rows.length∧s'.T.get 11=qP (RI+1) 0∧s'.T.get 52=vr∧s'.T.get 53=iv (s.rows.length:Int)∧s'.T.get 54=iv (i:Int)∧s'.T.get 12=iv (i:Int)∧s'.T.get 13=qP D 0∧s'.T.get 14=iv 0∧IL B RI s.rows.length s'.h t∧s'.h.get D=.row (AW x) 61 false false∧∃ lv,s'.T.get 15=lv∧AX 0 s'.h lv L
section
variable {n N:Nat} {h:AA}
theorem Ji {nm:ByteArray} {s:AN} {pv cv:Value} {lo lc:Nat} {size:Int} {C:List Int} (hp:CO lo h pv nm s) (hc:FK lc h cv size C) (hlies:∀ nm' vr vq vv vt vu vo m,pv=.agg #[.string nm',vr,vq,vv,vt,vu,vo,m]→JN vr s.rows.length) (hs:JJ s) (hl:s.rows.length<2932031007403) (hC:C.length<17592186044416) (hg:h.get 0=CW) (hn0:0<h.next) (hfl:h.floor≤h.next) (hn:2*FZ s+101000+C.length<n) (hN:2*FZ s+1000<N) :
  ∃ v' h',A8 Tryd.prog (AS n) N 16 [pv,cv] h=some (v',h')∧bH h' h.next v' (C3 nm s size C)∧h'.floor=h.floor∧h.next≤h'.next∧∀ i,i<h.next→h'.get i=h.get i:=by
 obtain⟨vr,vq,vv,vt,vu,vo,rfl,p1,p2,p3,p4,p5,p6⟩:=id hp
 obtain⟨vc,rfl,pc⟩:=id hc
 have hsn:=(FD n).2
 have htot:FZ s=s.rows.length+s.queues.length+s.vars.length+s.tags.length+s.rules.length+s.on.length:=rfl
 refine S3 (R:=fun v' h'=>bH h' h.next v' (C3 nm s size C)∧h'.floor=h.floor∧h.next≤h'.next∧∀ i,i<h.next→h'.get i=h.get i) Tryd.func16 rfl (by simp[Tryd.f16]) ?_
 have hr:Tryd.f16.results.toList=[.cell 4 43,.cell 5 36]:=rfl
 have ca:=E_ [.string nm,vr,vq,vv,vt,vu,vo,iv s.miss]
 have oa:=KI (nm:=nm) p1 p2 p3 p4 p5 p6
 have cb:=E_ [iv size,vc]
 have ob:[iv size,vc].all one=true:=by simp only[List.all_cons,List.all_nil,AP.one pc,KH,Bool.and_self]
 have zcT:zT.cells.toList=[Z0,Z0,Z0]:=rfl
 obtain⟨gA,gB,gT,gF,nG,fG,gO⟩:=Ea h (.row [.string nm,vr,vq,vv,vt,vu,vo,iv s.miss] 33 false false) (.row [iv size,vc] 29 false false) (.row [Z0,Z0,Z0] 43 false false) (.row [iv 0,iv 0] 36 false false)
 simp only[eE,seval,↓eP,F5,E9,F6,ca,oa,cb,ob,HU,NO,MG,M8,zcT,E2,EZ,F7]
 generalize (((h.push (.row [.string nm,vr,vq,vv,vt,vu,vo,iv s.miss] 33 false false)).push (.row [iv size,vc] 29 false false)).push (.row [Z0,Z0,Z0] 43 false false)).push (.row [iv 0,iv 0] 36 false false)=Q at *
 have nn:h.next+1+1=h.next+2:=rfl
 have nm3:h.next+2+1=h.next+3:=rfl
 have lA:BF 8 0 (Q.get h.next)=some (.agg #[.string nm,vr,vq,vv,vt,vu,vo,iv s.miss]):=MS gA rfl
 have hpQ:CO lo Q (.agg #[.string nm,vr,vq,vv,vt,vu,vo,iv s.miss]) nm s:=hp.mono (by omega) fun i _ hi=>gO i hi
 have len1:=fun h'=>PB p1.2 h'
 obtain⟨v2,H1,hty,⟨tv,hv2,hI⟩,f1,n1,o1⟩:=iA (n:=n) hpQ hlies hs (by omega) (by rw[gO 0 hn0];exact hg) (by omega) (by omega) (by omega)
 subst hv2
 obtain⟨D1,stD,gD,nD,fD,oD⟩:=M1 (t:=36) JS (H:=H1) (zs:=[iv 0,iv 0]) (vs:=[iv (B_ nm s).1.1,iv (B_ nm s).1.2]) rfl rfl rfl (by omega)
 have stD':A_ Tryd.prog (H1.push (.row [iv 0,iv 0] 36 false false)) 36 (qP H1.next 0) (CD (B_ nm s).1.1 (B_ nm s).1.2)=some D1:=stD
 have oDQ:∀ i,i<Q.next→D1.get i=Q.get i:=fun i hi=>by rw[oD i (by omega),o1 i hi]
 have oDh:∀ i,i<h.next→D1.get i=h.get i:=fun i hi=>by rw[oDQ i (by omega)];exact gO i hi
 have e0:AJ 0 (D1.get H1.next)=some (iv (B_ nm s).1.1):=by rw[gD];rfl
 have gTD:D1.get (h.next+2)=.row [Z0,Z0,Z0] 43 false false:=by rw[oDQ _ (by omega)];exact gT
 have gFD:D1.get (h.next+3)=.row [iv 0,iv 0] 36 false false:=by rw[oDQ _ (by omega)];exact gF
 have lAD:BF 8 0 (D1.get h.next)=some (.agg #[.string nm,vr,vq,vv,vt,vu,vo,iv s.miss]):=by rw[oDQ _ (by omega)];exact lA
 have lBD:BF 2 0 (D1.get (h.next+1))=some (.agg #[iv size,vc]):=by rw[oDQ _ (by omega),gB];rfl
 have hpD:CO lo D1 (.agg #[.string nm,vr,vq,vv,vt,vu,vo,iv s.miss]) nm s:=hp.mono (by omega) fun i _ hi=>oDh i hi
 have hcD:FK lc D1 (.agg #[iv size,vc]) size C:=hc.mono (by omega) fun i _ hi=>oDh i hi
 cases d1:((B_ nm s).1.1 != 0) with
 | true=>
  have eR:C3 nm s size C=((B_ nm s).1,R6):=by unfold C3;rw[if_pos (by simpa using d1)]
  rw[eR]
  obtain⟨G1,G2,s1,s2,s3,s4,s5,s6,s7,s8,s9,sa,sb⟩:=MJ gTD gFD (by omega) (by omega) (NY (h.next+2+2) D1) (B_ nm s).1.1 (B_ nm s).1.2
  rw[nm3] at s2 s4
  have lD:BF 2 0 (D1.get H1.next)=some (CD (B_ nm s).1.1 (B_ nm s).1.2):=by rw[gD];rfl
  have hne:(CH (qP H1.next 0) != CH (qP (h.next+2) 0))=true:=by simp[CH];omega
  have fH1:G1.fl D1.floor=G1:=by rw[← s8];exact HY G1
  have fH2:G2.fl D1.floor=G2:=by rw[← s9];exact HY G2
  have fH3:G2.fl G1.floor=G2:=by rw[s8,← s9];exact HY G2
  simp only[eE,seval,↓eP,nn,nm3,EM,lA,hty,E2,EZ,F7,stD',EP,EQ,e0,d1]
  refine WK.flags (fs:=XQ) (by kernel_rfl) ?_
  unfold XQ
  iterate 4
   refine D9 hsn ?_
   simp only[rG,seval,AC,AF,AE,CT,DU,CK,C6,EA,List.map_nil,IY,NX,EB,lD,hne,s1,fH1,s2,fH3]
  refine D4 ?_
  simp only[eE,seval,↓eP,hr,LE,s3,EB,s4]
  exact⟨⟨_,rfl,s5.weak (by omega)⟩,by omega,by omega,fun i hi=>by rw[sb i (by omega)];exact oDh i hi⟩
 | false=>
 have z1:(B_ nm s).1.1=0:=by simpa using d1
 obtain⟨hck,hG,hO,hz2⟩:=eX z1
 have hfit:=UF (n:=n) hpD hcD hlies (by omega) (by rw[oDh 0 hn0];exact hg) (by omega) hs (by omega) (by omega) (by omega)
 obtain⟨E,stE,gE,nE,fE,oE⟩:=M1 (t:=36) JS (H:=D1) (zs:=[iv 0,iv 0]) (vs:=[iv (DG nm s size C),iv 0]) rfl rfl rfl (by omega)
 have stE':A_ Tryd.prog (D1.push (.row [iv 0,iv 0] 36 false false)) 36 (qP D1.next 0) (CD (DG nm s size C) 0)=some E:=stE
 have e1:AJ 0 (E.get D1.next)=some (iv (DG nm s size C)):=by rw[gE];rfl
 have oEh:∀ i,i<h.next→E.get i=h.get i:=fun i hi=>by rw[oE i (by omega)];exact oDh i hi
 have gTE:E.get (h.next+2)=.row [Z0,Z0,Z0] 43 false false:=by rw[oE _ (by omega)];exact gTD
 have gFE:E.get (h.next+3)=.row [iv 0,iv 0] 36 false false:=by rw[oE _ (by omega)];exact gFD
 cases d2:(DG nm s size C != 0) with
 | true=>
  have eR:C3 nm s size C=((DG nm s size C,0),R6):=by unfold C3;rw[if_neg (by rw[z1];decide),if_pos (by simpa using d2)]
  rw[eR]
  obtain⟨G1,G2,s1,s2,s3,s4,s5,s6,s7,s8,s9,sa,sb⟩:=MJ gTE gFE (by omega) (by omega) (NY (h.next+2+2) E) (DG nm s size C) 0
  rw[nm3] at s2 s4
  have lE:BF 2 0 (E.get D1.next)=some (CD (DG nm s size C) 0):=by rw[gE];rfl
  have hne:(CH (qP D1.next 0) != CH (qP (h.next+2) 0))=true:=by simp[CH];omega
  have fH1:G1.fl E.floor=G1:=by rw[← s8];exact HY G1
  have fH2:G2.fl E.floor=G2:=by rw[← s9];exact HY G2
  have fH3:G2.fl G1.floor=G2:=by rw[s8,← s9];exact HY G2
  simp only[eE,seval,↓eP,nn,nm3,EM,lA,hty,E2,EZ,F7,stD',EP,EQ,e0,d1,lAD,HB,lBD,hfit,stE',e1,d2]
  refine WK.flags (fs:=cH) (by kernel_rfl) ?_
  unfold cH
  iterate 4
   refine D9 hsn ?_
   simp only[rG,seval,AC,AF,AE,CT,DU,CK,C6,EA,List.map_nil,IY,NX,EB,lE,hne,s1,fH1,s2,fH3]
  refine D4 ?_
  simp only[eE,seval,↓eP,hr,LE,s3,EB,s4]
  exact⟨⟨_,rfl,s5.weak (by omega)⟩,by omega,by omega,fun i hi=>by rw[sb i (by omega)];exact oEh i hi⟩
 | false=>
 have z2:DG nm s size C=0:=by simpa using d2
 have hF:=eC z2
 have eR:C3 nm s size C=OZ s size C:=by unfold C3;rw[if_neg (by rw[z1];decide),if_neg (by rw[z2];decide)]
 rw[eR]
 have lAE:BF 8 0 (E.get h.next)=some (.agg #[.string nm,vr,vq,vv,vt,vu,vo,iv s.miss]):=by rw[oE _ (by omega)];exact lAD
 have lBE:BF 2 0 (E.get (h.next+1))=some (.agg #[iv size,vc]):=by rw[oE _ (by omega)];exact lBD
 obtain⟨B,hcon,Pp,CC,V,I,hT,hV⟩:=cY (n:=n) (h:=E) hG hF (hp.mono (by omega) fun i _ hi=>oEh i hi) (hc.mono (by omega) fun i _ hi=>oEh i hi) hl (by omega) (by omega)
 obtain⟨hV1,hV2,hV3⟩:=hV
 have hmal:∀ p,p<s.rows.length→V[p]?=some (EY s size C p):=fun p hp=>((hV3 p hp).1 (Nat.zero_le _)).1
 have nB:=hT.n
 have fB:=hT.fl
 have gV:=hT.v
 have oBh:∀ i,i<h.next→B.get i=h.get i:=fun i hi=>by rw[hT.o i (by omega)];exact oEh i hi
 have gAB:B.get h.next=.row [.string nm,vr,vq,vv,vt,vu,vo,iv s.miss] 33 false false:=by rw[hT.o _ (by omega),oE _ (by omega),oDQ _ (by omega)];exact gA
 have gTB:B.get (h.next+2)=.row [Z0,Z0,Z0] 43 false false:=by rw[hT.o _ (by omega)];exact gTE
 have gFB:B.get (h.next+3)=.row [iv 0,iv 0] 36 false false:=by rw[hT.o _ (by omega)];exact gFE
 have x1:AJ 1 (B.get h.next)=some vr:=by rw[gAB];rfl
 have LD:GO Tryd.prog B 27 (iv (s.rows.length:Int)) (iv (s.rows.length:Int))=some (qS B.next s.rows.length s.rows.length,B.push (.row (ints (List.replicate s.rows.length 0)) 3 false false)):=by
  have:=RK (P:=Tryd.prog) (h:=B) (t:=27) (e:=3) (z:=.int .i64 0) Tryd.underlying27 C4 J1 HZ rfl rfl (by decide) (by decide) (n:=s.rows.length) (by omega)
  rw[show BQ (Value.int IntKind.i64 0).cells.toList s.rows.length=ints (List.replicate s.rows.length 0) from QJ _] at this
  exact this
 obtain⟨H7,stT,g7,n7,f7,o7⟩:=M1 (t:=43) R2 (H:=B.push (.row (ints (List.replicate s.rows.length 0)) 3 false false)) (zs:=[Z0,Z0,Z0]) (vs:=[Z0,Z0,qS B.next s.rows.length s.rows.length]) rfl rfl rfl (by show B.floor≤B.next+1;omega)
 rw[CY] at g7 n7 o7
 have stT':A_ Tryd.prog ((B.push (.row (ints (List.replicate s.rows.length 0)) 3 false false)).push (.row [Z0,Z0,Z0] 43 false false)) 43 (qP (B.next+1) 0) (.agg #[Z0,Z0,qS B.next s.rows.length s.rows.length])=some H7:=stT
 have o7B:∀ i,i<B.next→H7.get i=B.get i:=fun i hi=>by rw[o7 i (by omega),AR hi]
 have x7:AJ 1 (H7.get h.next)=some vr:=by rw[o7B _ (by omega)];exact x1
 have hK0:IL B B.next s.rows.length H7 ⟨[],[],List.replicate s.rows.length 0⟩:=⟨by rw[o7 _ (by omega)];exact BM,List.length_replicate,⟨_,_,g7,.inl ⟨rfl,rfl,rfl⟩,.inl ⟨rfl,rfl,rfl⟩⟩,by omega,f7,o7B⟩
 simp only[eE,seval,↓eP,nn,nm3,EM,lA,hty,E2,EZ,F7,stD',Nat.zero_add,EP,EQ,e0,d1,lAD,HB,lBD,hfit,stE',e1,d2,lAE,lBE,hcon,DI,DK,x1,len1,LD,qU,MG,M8,zcT,CY,stT',x7]
 clear stT stT' g7 o7 LD x7 hfit hty stD stD' stE stE' e0 e1 hcon
 obtain⟨t0,ht0⟩:∃ t0:GF,t0=⟨[],[],List.replicate s.rows.length 0⟩:=⟨_,rfl⟩
 have eG:OZ s size C=GX s.rows (AD (BC s.rows)) (EY s size C) s.rows.length 0 t0:=by rw[ht0];rfl
 rw[← ht0] at hK0
 have hv0:t0.V.length=0∧t0.G.length=0:=by rw[ht0];exact⟨rfl,rfl⟩
 clear ht0
 obtain⟨RI,hRI⟩:∃ RI,RI=B.next:=⟨_,rfl⟩
 obtain⟨VI,hVI⟩:∃ VI,VI=E.next+2:=⟨_,rfl⟩
 rw[← hRI] at hK0 ⊢
 rw[← hVI] at gV ⊢
 have hb1:h.next+4≤VI∧VI<RI∧B.floor≤RI∧B.floor=h.floor:=by omega
 clear nB fB hT hpD hcD hpQ lAE lBE gTE gFE gTD gFD oE oD o1 gE gD
 refine WK.loop (fun i s'=>s'.T.get 2=qP h.next 0∧s'.T.get 4=qP (h.next+2) 0∧s'.T.get 5=qP (h.next+3) 0∧s'.T.get 9=qS VI s.rows.length s.rows.length∧s'.T.get 11=qP (RI+1) 0∧s'.T.get 52=vr∧s'.T.get 53=iv (s.rows.length:Int)∧s'.T.get 54=iv (i:Int)∧i≤s.rows.length∧∃ t,IL B RI s.rows.length s'.h t∧GX s.rows (AD (BC s.rows)) (EY s size C) (s.rows.length-i) i t=OZ s size C∧t.V.length≤i∧t.G.length≤i) s.rows.length (by omega) ?_ ?_
 ·exact⟨by simp only[eE,seval,↓eP,rP],by simp only[eE,seval,↓eP,rP],by simp only[eE,seval,↓eP,rP],by simp only[eE,seval,↓eP,rP],by simp only[eE,seval,↓eP,rP],by simp only[eE,seval,↓eP,rP],by simp only[eE,seval,↓eP,rP],by simp only[eE,seval,↓eP,rP] <;> rfl,by omega,t0,hK0,eG.symm,by omega,by omega⟩
 rintro i ⟨T,H⟩ hi ⟨t2,t4,t5,t9,t11,t52,t53,t54,hil,t,hK,hgo,htV,htG⟩
 simp only at t2 t4 t5 t9 t11 t52 t53 t54 hK
 have hnK:=hK.n
 have hfK:=hK.fl
 have oKh:∀ j,j<h.next→H.get j=h.get j:=fun j hj=>by rw[hK.o j (by omega)];exact oBh j hj
 by_cases hlt:i<s.rows.length
 rotate_left
 ·have c1:decide ((i:Int)<(s.rows.length:Int))=false:=by simp;omega
  have hin:i=s.rows.length:=by omega
  subst hin
  have eZ:OZ s size C=((0,0),t):=by rw[← hgo,Nat.sub_self];rfl
  rw[eZ]
  obtain⟨v,k1,k2,k3⟩:=hK.typed
  obtain⟨G1,G2,s1,s2,s3,s4,s5,s6,s7,s8,s9,sa,sb⟩:=MJ (H:=H) (a:=h.next+2) (by rw[hK.o _ (by omega)];exact gTB) (by rw[hK.o _ (by omega)];exact gFB) (by omega) (by omega) (k2.weak (by omega)) 0 0
  rw[nm3] at s2 s4
  simp only[eE,seval,↓eP,hr,t4,t5,t11,t53,t54,c1,LE,k1,MA,s1,s2,s3,EB,s4]
  exact⟨⟨_,rfl,s5.weak (by omega)⟩,by omega,by omega,fun j hj=>by rw[sb j (by omega)];exact oKh j hj⟩
 have c1:decide ((i:Int)<(s.rows.length:Int))=true:=by simp;omega
 obtain⟨x,hx⟩:∃ x,s.rows[i]?=some x:=⟨_,List.getElem?_eq_getElem hlt⟩
 obtain⟨r,hr1⟩:∃ r,s.rows.length-i=r+1:=⟨s.rows.length-i-1,by omega⟩
 rw[hr1] at hgo
 have hri:s.rows.length-(i+1)=r:=by omega
 have hvH:A7 H vr s.rows:=p1.1.mono (by omega) oKh
 obtain⟨ia,pa,ea,hia,_,_,_,_,_,la⟩:=hvH.row hx
 have fz:flat (CA KD)=true:=rfl
 obtain⟨H2,stX,gX,n2,f2,o2⟩:=M1 (t:=61) FV (H:=H) (zs:=AW KD) (vs:=AW x) rfl rfl rfl (by omega)
 have stX':A_ Tryd.prog (H.push (.row (AW KD) 61 false false)) 61 (qP H.next 0) (CA x)=some H2:=stX
 have hK2:=hK.mono (H':=H2) (by omega) f2 o2
 have y0:AJ 0 (H2.get H.next)=some (iv x.kind):=by rw[gX];rfl
 have w1:=EU i (by omega)
 simp only[SX,seval,↓eP,t53,t54,c1]
 rw[SV]
 refine kC ?_
 obtain⟨D,hD⟩:∃ D,D=H.next:=⟨_,rfl⟩
 obtain⟨L,hL⟩:∃ L:List Int,L=if LF x.kind=true then (BB (AD (BC s.rows)) x.kids.toNat (i+1)).map (EY s size C) else []:=⟨_,rfl⟩
 refine SK (qA B RI VI D i h vr s x t L) ?_ ?_
 ·refine kC ?_
  refine SK (fun e s'=>e=.normal∧s'.h=H2∧s'.T.get 2=qP h.next 0∧s'.T.get 4=qP (h.next+2) 0∧s'.T.get 5=qP (h.next+3) 0∧s'.T.get 9=qS VI s.rows.length s.rows.length∧s'.T.get 11=qP (RI+1) 0∧s'.T.get 52=vr∧s'.T.get 53=iv (s.rows.length:Int)∧s'.T.get 54=iv (i:Int)∧s'.T.get 12=iv (i:Int)∧s'.T.get 13=qP D 0∧s'.T.get 14=iv 0∧s'.T.get 15=Z0∧s'.T.get 76=.bool (LF x.kind)) ?_ ?_
  ·cases c4:(x.kind==4) with
   | true=>
    simp only[eE,seval,↓eP,t2,t4,t5,t9,t11,t52,t53,t54,ea,HN,la,FI,fz,zr,stX',C2,AU,y0,c4,LF,Bool.true_or,hD]
   | false=>
   cases c5:(x.kind==5) with
   | true=>
    simp only[eE,seval,↓eP,t2,t4,t5,t9,t11,t52,t53,t54,ea,HN,la,FI,fz,zr,stX',C2,AU,y0,c4,c5,LF,Bool.true_or,Bool.false_or,hD]
   | false=>
   cases c6:(x.kind==6) with
   | true=>
    simp only[eE,seval,↓eP,t2,t4,t5,t9,t11,t52,t53,t54,ea,HN,la,FI,fz,zr,stX',C2,AU,y0,c4,c5,c6,LF,Bool.true_or,Bool.false_or,hD]
   | false=>
    simp only[eE,seval,↓eP,t2,t4,t5,t9,t11,t52,t53,t54,ea,HN,la,FI,fz,zr,stX',C2,AU,y0,c4,c5,c6,LF,Bool.false_or,hD]
  rintro e ⟨T3,HH⟩ ⟨rfl,hh,u2,u4,u5,u9,u11,u52,u53,u54,u12,u13,u14,u15,u76⟩
  simp only at hh u2 u4 u5 u9 u11 u52 u53 u54 u12 u13 u14 u15 u76
  subst hh
  cases hd:LF x.kind with
  | false=>
   rw[hd] at u76
   have hL0:L=[]:=by rw[hL,if_neg (by rw[hd];decide)]
   simp only[eE,seval,↓eP,u76]
   exact⟨rfl,by simp only[eE,seval,↓eP,rP,u2],by simp only[eE,seval,↓eP,rP,u4],by simp only[eE,seval,↓eP,rP,u5],by simp only[eE,seval,↓eP,rP,u9],by simp only[eE,seval,↓eP,rP,u11],by simp only[eE,seval,↓eP,rP,u52],by simp only[eE,seval,↓eP,rP,u53],by simp only[eE,seval,↓eP,rP,u54],by simp only[eE,seval,↓eP,rP,u12],by simp only[eE,seval,↓eP,rP,u13],by simp only[eE,seval,↓eP,rP,u14],hK2,by rw[hD];exact gX,_,u15,by rw[hL0];exact AP.nil 0 _ 1⟩
  | true=>
   rw[hd] at u76
   have hL1:L=(BB (AD (BC s.rows)) x.kids.toNat (i+1)).map (EY s size C):=by rw[hL,if_pos hd]
   have x2:AJ 1 (HH.get h.next)=some vr:=by rw[o2 _ (by omega),hK.o _ (by omega)];exact x1
   have hv2:A7 HH vr s.rows:=p1.1.mono (by omega) fun j hj=>by rw[o2 j (by omega)];exact oKh j hj
   obtain⟨zz,hzz,_,hzk⟩:=hG.z hx
   obtain⟨kv,H5,hkids,hkL,f5,n5,o5⟩:=ZN (n:=n) hG.t hG.sk hv2 hzz (by omega) (by omega) (by omega)
   rw[← hzk] at hkL
   have hkc:=hkL.ints (Nat.le_refl _)
   have lenK:=fun h'=>KQ hkc h'
   have hkl:((BB (AD (BC s.rows)) x.kids.toNat (i+1)).map (fun (k:Nat)=>(k:Int))).length=x.kids.toNat:=by rw[List.length_map,NE]
   obtain⟨k0,hch,hel,hei⟩:=hG.kids0 hx
   rw[hkl,show ((x.kids.toNat:Nat):Int)=x.kids by omega] at lenK
   have hK5:=hK2.mono (H':=H5) (by omega) f5 o5
   have gX5:H5.get D=.row (AW x) 61 false false:=by rw[o5 D (by omega),hD];exact gX
   have gV5:∀ j,j<RI→H5.get j=B.get j:=hK5.o
   simp only[eE,seval,↓eP,u2,u12,u76,Nat.zero_add,DI,DK,x2,hkids,lenK]
   generalize hks:BB (AD (BC s.rows)) x.kids.toNat (i+1)=ks at *
   have hksl:ks.length=x.kids.toNat:=by rw[← hks,NE]
   have hk3:x.kids≤3:=by
    obtain⟨q3,q1⟩:=dX hG hx
    unfold LF at hd
    simp at hd
    rcases hd with h | h | h | h
    ·rw[q3 (.inl h)];decide
    ·rw[q1 (.inl h)];decide
    ·rw[q1 (.inr h)];decide
    ·rw[q3 (.inr h)];decide
   refine WK.loop (fun q s'=>s'.T.get 2=qP h.next 0∧s'.T.get 4=qP (h.next+2) 0∧s'.T.get 5=qP (h.next+3) 0∧s'.T.get 9=qS VI s.rows.length s.rows.length∧s'.T.get 11=qP (RI+1) 0∧s'.T.get 52=vr∧s'.T.get 53=iv (s.rows.length:Int)∧s'.T.get 54=iv (i:Int)∧s'.T.get 12=iv (i:Int)∧s'.T.get 13=qP D 0∧s'.T.get 14=iv 0∧s'.T.get 80=kv∧s'.T.get 81=iv x.kids∧s'.T.get 82=iv (q:Int)∧q≤x.kids.toNat∧H5.next≤s'.h.next∧s'.h.floor=H5.floor∧(∀ j,j<H5.next→s'.h.get j=H5.get j)∧∃ w,s'.T.get 15=w∧IK s'.h H5.next w ((ks.take q).map (EY s size C))) x.kids.toNat (by omega) ?_ ?_
   ·exact⟨by simp only[eE,seval,↓eP,rP,u2],by simp only[eE,seval,↓eP,rP,u4],by simp only[eE,seval,↓eP,rP,u5],by simp only[eE,seval,↓eP,rP,u9],by simp only[eE,seval,↓eP,rP,u11],by simp only[eE,seval,↓eP,rP,u52],by simp only[eE,seval,↓eP,rP,u53],by simp only[eE,seval,↓eP,rP,u54],by simp only[eE,seval,↓eP,rP,u12],by simp only[eE,seval,↓eP,rP,u13],by simp only[eE,seval,↓eP,rP,u14],by simp only[eE,seval,↓eP,rP],by simp only[eE,seval,↓eP,rP],by simp only[eE,seval,↓eP,rP] <;> rfl,by omega,Nat.le_refl _,rfl,fun _ _=>rfl,Z0,by simp only[eE,seval,↓eP,rP,u15],.inl ⟨rfl,rfl⟩⟩
   rintro q ⟨T4,H6⟩ hq ⟨w2,w4,w5,w9,w11,w52,w53,w54,w12,w13,w14,w80,w81,w82,hqk,n6,f6,o6,w,w15,hLq⟩
   simp only at w2 w4 w5 w9 w11 w52 w53 w54 w12 w13 w14 w80 w81 w82 n6 f6 o6 w15 hLq
   by_cases hql:q<x.kids.toNat
   rotate_left
   ·have c3:decide ((q:Int)<x.kids)=false:=by simp;omega
    have hq9:q=x.kids.toNat:=by omega
    subst hq9
    rw[List.take_of_length_le (by omega)] at hLq
    simp only[eE,seval,↓eP,w81,w82,c3]
    exact⟨rfl,by simp only[eE,seval,↓eP,rP,w2],by simp only[eE,seval,↓eP,rP,w4],by simp only[eE,seval,↓eP,rP,w5],by simp only[eE,seval,↓eP,rP,w9],by simp only[eE,seval,↓eP,rP,w11],by simp only[eE,seval,↓eP,rP,w52],by simp only[eE,seval,↓eP,rP,w53],by simp only[eE,seval,↓eP,rP,w54],by simp only[eE,seval,↓eP,rP,w12],by simp only[eE,seval,↓eP,rP,w13],by simp only[eE,seval,↓eP,rP,w14],hK5.mono n6 f6 o6,by rw[o6 D (by omega)];exact gX5,_,by simp only[eE,seval,↓eP,rP,w15];rfl,by rw[hL1];exact hLq.ints (Nat.zero_le _)⟩
   have c3:decide ((q:Int)<x.kids)=true:=by simp;omega
   obtain⟨p,hpk⟩:∃ p,ks[q]?=some p:=⟨_,List.getElem?_eq_getElem (by omega)⟩
   obtain⟨hip,hpl⟩:=hG.kid (k:=q) hx (by rw[hks];exact hpk)
   have hkc6:AX HH.next H6 kv (ks.map (fun (k:Nat)=>(k:Int))):=AX.mono hkc (by omega) fun j h1 h2=>o6 j h2
   obtain⟨ip,pp,ep,hip2,lp⟩:=AX.get hkc6 (i:=q) (x:=(p:Int)) (by rw[List.getElem?_map,hpk];rfl)
   have wq:=EU q (by omega)
   have jxv:=FB (id:=VI) (n:=s.rows.length) (c:=s.rows.length) (i:=p) hpl
   have lv:AJ p (H6.get VI)=some (iv (EY s size C p)):=by rw[o6 VI (by omega),gV5 VI (by omega),gV];exact MM (hmal p hpl)
   obtain⟨w',H7,happ,hL',f7',n7',o7'⟩:=bR (x:=EY s size C p) hLq (by omega) (by omega) (by rw[List.length_map,List.length_take];omega)
   have etk:ks.take (q+1)=ks.take q++[p]:=by rw[List.take_add_one,hpk];rfl
   have emap:(ks.take q).map (EY s size C)++[EY s size C p]=(ks.take (q+1)).map (EY s size C):=by rw[etk,List.map_append];rfl
   rw[emap] at hL'
   simp only[eE,seval,↓eP,w2,w4,w5,w9,w11,w52,w53,w54,w12,w13,w14,w15,w80,w81,w82,c3,ep,AU,lp,jxv,lv,NS,happ,wq]
   exact⟨hql,by omega,by omega,by omega,fun j hj=>by rw[o7' j (by omega)];exact o6 j hj,hL'⟩
 rintro e ⟨T3,H3⟩ ⟨rfl,v2,v4,v5,v9,v11,v52,v53,v54,v12,v13,v14,hK3,gX3,lv,v15,hLi⟩
 simp only at v2 v4 v5 v9 v11 v52 v53 v54 v12 v13 v14 hK3 gX3 v15 hLi
 have nK3:=hK3.n
 have fK3:=hK3.fl
 have oK3:∀ H':AA,(∀ j,j<RI→H'.get j=B.get j)→∀ j,j<h.next→H'.get j=h.get j:=fun H' hH j hj=>by rw[hH j (by omega)];exact oBh j hj
 have yk:AJ 0 (H3.get D)=some (iv x.kind):=by rw[gX3];rfl
 have hlist:=fun hd=>zQ hG hx hd (EY s size C)
 have hLd:∀ hd:LF x.kind=true,(x.kind=4→L=[EY s size C (i+1),EY s size C (AD (BC s.rows) (i+1)),EY s size C (AD (BC s.rows) (AD (BC s.rows) (i+1)))])∧L[0]?=some (EY s size C (i+1)):=fun hd=>by
  rw[hL,if_pos hd]
  exact hlist hd
 have htell:=qT (n:=n) (h:=H3) (k:=x.kind) hLi (fun h9=>by rw[(hLd (by rw[h9];rfl)).1 h9];simp) (fun h9=>by
  have:=(List.getElem?_eq_some_iff.1 (hLd (by unfold LF;simp;omega)).2).1
  omega) (by omega)
 clear hL
 generalize hma:EY s size C (i+1)=ma at *
 generalize hmb:EY s size C (AD (BC s.rows) (i+1))=mb at *
 generalize hmc:EY s size C (AD (BC s.rows) (AD (BC s.rows) (i+1)))=mc at *
 by_cases k4:x.kind=4
 ·have hL4:=(hLd (by rw[k4];rfl)).1 k4
  have eT:GC x.kind L=.iface 82 (EV ma mb mc):=by unfold GC;rw[if_pos k4,hL4];rfl
  have zcV:(EV 0 0 0).cells.toList=[iv 0,iv 0,iv 0]:=rfl
  obtain⟨H4,st4,g4,n4,f4,o4⟩:=M1 (t:=82) cL (H:=H3) (zs:=[iv 0,iv 0,iv 0]) (vs:=[iv ma,iv mb,iv mc]) rfl rfl rfl (by omega)
  have hK4:=hK3.mono (H':=H4) (by omega) f4 o4
  have l40:AJ 0 (H4.get H3.next)=some (iv ma):=by rw[g4];rfl
  have l41:AJ 1 (H4.get H3.next)=some (iv mb):=by rw[g4];rfl
  have l42:AJ 2 (H4.get H3.next)=some (iv mc):=by rw[g4];rfl
  have lV:BF 3 0 (H4.get H3.next)=some (EV ma mb mc):=by rw[g4];rfl
  obtain⟨ov,nv,G1,G2,q1,q2,q3,q4,q5⟩:=hK4.addV (by omega) (by omega) ma mb mc
  cases dA:decide (ma<mb) with
  | true=>
   have hA:ma<mb:=by simpa using dA
   obtain⟨K1,K2,s1,s2,s3,s4,s5,s6,s7,s8,s9,sa,sb⟩:=MJ (H:=G2) (a:=h.next+2) (by rw[q4.o _ (by omega)];exact gTB) (by rw[q4.o _ (by omega)];exact gFB) (by have:=q4.n;omega) (by have:=q4.fl;omega) (NY (h.next+2+2) G2) 43 (i:Int)
   rw[nm3] at s2 s4
   rw[← hgo,PM hx (b:=43) (by unfold EJ;rw[if_pos k4,hma,hmb,hmc,if_pos (.inl hA)]) (by decide)]
   simp only[eE,seval,↓eP,hr,v4,v5,v11,v12,v13,v15,yk,C2,AU,Nat.zero_add,htell,eT,bL,WY,WN,zcV,st4,ZQ,YK,l40,l41,PD,PE,q1,cJ,lV,ZU,q2,q3,dA,NX,I_,s1,s2,LE,s3,EB,s4]
   exact⟨⟨_,rfl,s5.weak (by omega)⟩,by have:=q4.fl;omega,by have:=q4.n;omega,fun j hj=>by rw[sb j (by omega)];exact oK3 _ q4.o j hj⟩
  | false=>
  have hA:¬ ma<mb:=by simpa using dA
  cases dB:decide (ma>mc) with
  | true=>
   have hB:ma>mc:=by simpa using dB
   obtain⟨K1,K2,s1,s2,s3,s4,s5,s6,s7,s8,s9,sa,sb⟩:=MJ (H:=G2) (a:=h.next+2) (by rw[q4.o _ (by omega)];exact gTB) (by rw[q4.o _ (by omega)];exact gFB) (by have:=q4.n;omega) (by have:=q4.fl;omega) (NY (h.next+2+2) G2) 43 (i:Int)
   rw[nm3] at s2 s4
   rw[← hgo,PM hx (b:=43) (by unfold EJ;rw[if_pos k4,hma,hmb,hmc,if_pos (.inr hB)]) (by decide)]
   simp only[eE,seval,↓eP,hr,v4,v5,v11,v12,v13,v15,yk,C2,AU,Nat.zero_add,htell,eT,bL,WY,WN,zcV,st4,ZQ,YK,kJ,l40,l41,l42,PD,PE,q1,cJ,lV,ZU,q2,q3,dA,dB,NX,I_,s1,s2,LE,s3,EB,s4]
   exact⟨⟨_,rfl,s5.weak (by omega)⟩,by have:=q4.fl;omega,by have:=q4.n;omega,fun j hj=>by rw[sb j (by omega)];exact oK3 _ q4.o j hj⟩
  | false=>
   have hB:¬ ma>mc:=by simpa using dB
   have es:EJ (AD (BC s.rows)) (EY s size C) i x t=(0,{ t with V:=t.V++[(ma,mb,mc)] }):=by unfold EJ;rw[if_pos k4,hma,hmb,hmc,if_neg (by omega)]
   rw[TC hx (by rw[es]),es] at hgo
   simp only[eE,seval,↓eP,v2,v4,v5,v9,v11,v52,v53,v54,v13,v14,v15,yk,C2,AU,Nat.zero_add,htell,eT,bL,WY,WN,zcV,st4,ZQ,YK,kJ,l40,l41,l42,PD,PE,q1,cJ,lV,ZU,q2,q3,dA,dB,w1]
   exact⟨hlt,by omega,_,q4,by rw[hri];exact hgo,by simp;omega,by show t.G.length≤_;omega⟩
 by_cases k5:x.kind=5
 ·have hL0:=(hLd (by rw[k5];rfl)).2
  have eT:GC x.kind L=.iface 83 (iv ma):=by unfold GC;rw[if_neg k4,if_pos k5,NU hL0]
  obtain⟨ov,nv,G1,G2,q1,q2,q3,q4,q5⟩:=hK3.addG (by omega) (by omega) ma
  cases dA:decide (ma<1) with
  | true=>
   have hA:ma<1:=by simpa using dA
   obtain⟨K1,K2,s1,s2,s3,s4,s5,s6,s7,s8,s9,sa,sb⟩:=MJ (H:=G2) (a:=h.next+2) (by rw[q4.o _ (by omega)];exact gTB) (by rw[q4.o _ (by omega)];exact gFB) (by have:=q4.n;omega) (by have:=q4.fl;omega) (NY (h.next+2+2) G2) 43 (i:Int)
   rw[nm3] at s2 s4
   rw[← hgo,PM hx (b:=43) (by unfold EJ;rw[if_neg k4,if_pos k5,hma,if_pos (.inl hA)]) (by decide)]
   simp only[eE,seval,↓eP,hr,v4,v5,v11,v12,v13,v15,yk,C2,AU,Nat.zero_add,htell,eT,YW,bW,U4,DV,Nat.zero_add,q1,NS,q2,q3,dA,NX,I_,s1,s2,LE,s3,EB,s4]
   exact⟨⟨_,rfl,s5.weak (by omega)⟩,by have:=q4.fl;omega,by have:=q4.n;omega,fun j hj=>by rw[sb j (by omega)];exact oK3 _ q4.o j hj⟩
  | false=>
  have hA:¬ ma<1:=by simpa using dA
  cases dB:decide (ma>255) with
  | true=>
   have hB:ma>255:=by simpa using dB
   obtain⟨K1,K2,s1,s2,s3,s4,s5,s6,s7,s8,s9,sa,sb⟩:=MJ (H:=G2) (a:=h.next+2) (by rw[q4.o _ (by omega)];exact gTB) (by rw[q4.o _ (by omega)];exact gFB) (by have:=q4.n;omega) (by have:=q4.fl;omega) (NY (h.next+2+2) G2) 43 (i:Int)
   rw[nm3] at s2 s4
   rw[← hgo,PM hx (b:=43) (by unfold EJ;rw[if_neg k4,if_pos k5,hma,if_pos (.inr hB)]) (by decide)]
   simp only[eE,seval,↓eP,hr,v4,v5,v11,v12,v13,v15,yk,C2,AU,Nat.zero_add,htell,eT,YW,bW,U4,DV,Nat.zero_add,q1,NS,q2,q3,dA,dB,NX,I_,s1,s2,LE,s3,EB,s4]
   exact⟨⟨_,rfl,s5.weak (by omega)⟩,by have:=q4.fl;omega,by have:=q4.n;omega,fun j hj=>by rw[sb j (by omega)];exact oK3 _ q4.o j hj⟩
  | false=>
   have hB:¬ ma>255:=by simpa using dB
   have es:EJ (AD (BC s.rows)) (EY s size C) i x t=(0,{ t with G:=t.G++[ma] }):=by unfold EJ;rw[if_neg k4,if_pos k5,hma,if_neg (by omega)]
   rw[TC hx (by rw[es]),es] at hgo
   simp only[eE,seval,↓eP,v2,v4,v5,v9,v11,v52,v53,v54,v13,v14,v15,yk,C2,AU,Nat.zero_add,htell,eT,YW,bW,U4,DV,Nat.zero_add,q1,NS,q2,q3,dA,dB,w1]
   exact⟨hlt,by omega,_,q4,by rw[hri];exact hgo,by show t.V.length≤_;omega,by simp;omega⟩
 by_cases k6:x.kind=6
 ·have hL0:=(hLd (by rw[k6];rfl)).2
  have eT:GC x.kind L=.iface 84 (.bool (ma != 0)):=by unfold GC;rw[if_neg k4,if_neg k5,if_pos k6,NU hL0]
  cases dA:(ma != 0) with
  | false=>
   have hA:ma=0:=by simpa using dA
   obtain⟨K1,K2,s1,s2,s3,s4,s5,s6,s7,s8,s9,sa,sb⟩:=MJ (H:=H3) (a:=h.next+2) (by rw[hK3.o _ (by omega)];exact gTB) (by rw[hK3.o _ (by omega)];exact gFB) (by have:=hK3.n;omega) (by have:=hK3.fl;omega) (NY (h.next+2+2) H3) 44 (i:Int)
   rw[nm3] at s2 s4
   rw[← hgo,PM hx (b:=44) (by unfold EJ;rw[if_neg k4,if_neg k5,if_pos k6,hma,if_pos hA]) (by decide)]
   simp only[eE,seval,↓eP,hr,v4,v5,v12,v13,v15,yk,C2,AU,htell,eT,nN,jK,nV,dA,NX,I_,s1,s2,LE,s3,EB,s4]
   exact⟨⟨_,rfl,s5.weak (by omega)⟩,by have:=hK3.fl;omega,by have:=hK3.n;omega,fun j hj=>by rw[sb j (by omega)];exact oK3 _ hK3.o j hj⟩
  | true=>
   have hA:¬ ma=0:=by simpa using dA
   have es:EJ (AD (BC s.rows)) (EY s size C) i x t=(0,t):=by unfold EJ;rw[if_neg k4,if_neg k5,if_pos k6,hma,if_neg hA]
   rw[TC hx (by rw[es]),es] at hgo
   simp only[eE,seval,↓eP,v2,v4,v5,v9,v11,v52,v53,v54,v13,v14,v15,yk,C2,AU,htell,eT,nN,jK,nV,dA,w1]
   exact⟨hlt,by omega,_,hK3,by rw[hri];exact hgo,by omega,by omega⟩
 by_cases k13:x.kind=13
 ·have hL0:=(hLd (by rw[k13];rfl)).2
  have eT:GC x.kind L=.iface 85 (iv ma):=by unfold GC;rw[if_neg k4,if_neg k5,if_neg k6,if_pos k13,NU hL0]
  have l2R:AJ 2 (H3.get (RI+1))=some (qS RI s.rows.length s.rows.length):=by
   obtain⟨_,_,y1,_⟩:=hK3.y
   rw[y1]
   rfl
  have ixR:=FB (id:=RI) (n:=s.rows.length) (c:=s.rows.length) (i:=i) hlt
  obtain⟨G2,q3,q4,q5⟩:=hK3.setR (by omega) hlt ma
  cases dA:decide (ma<0) with
  | true=>
   have hA:ma<0:=by simpa using dA
   obtain⟨K1,K2,s1,s2,s3,s4,s5,s6,s7,s8,s9,sa,sb⟩:=MJ (H:=G2) (a:=h.next+2) (by rw[q4.o _ (by omega)];exact gTB) (by rw[q4.o _ (by omega)];exact gFB) (by have:=q4.n;omega) (by have:=q4.fl;omega) (NY (h.next+2+2) G2) 43 (i:Int)
   rw[nm3] at s2 s4
   rw[← hgo,PM hx (b:=43) (by unfold EJ;rw[if_neg k4,if_neg k5,if_neg k6,if_pos k13,hma,if_pos (.inl hA)]) (by decide)]
   simp only[eE,seval,↓eP,hr,v4,v5,v11,v12,v13,v15,yk,C2,AU,Nat.zero_add,htell,eT,YD,X7,aU,YX,WJ,DV,Nat.zero_add,l2R,ixR,q3,dA,NX,I_,s1,s2,LE,s3,EB,s4]
   exact⟨⟨_,rfl,s5.weak (by omega)⟩,by have:=q4.fl;omega,by have:=q4.n;omega,fun j hj=>by rw[sb j (by omega)];exact oK3 _ q4.o j hj⟩
  | false=>
  have hA:¬ ma<0:=by simpa using dA
  cases dB:decide (ma>4194304) with
  | true=>
   have hB:ma>4194304:=by simpa using dB
   obtain⟨K1,K2,s1,s2,s3,s4,s5,s6,s7,s8,s9,sa,sb⟩:=MJ (H:=G2) (a:=h.next+2) (by rw[q4.o _ (by omega)];exact gTB) (by rw[q4.o _ (by omega)];exact gFB) (by have:=q4.n;omega) (by have:=q4.fl;omega) (NY (h.next+2+2) G2) 43 (i:Int)
   rw[nm3] at s2 s4
   rw[← hgo,PM hx (b:=43) (by unfold EJ;rw[if_neg k4,if_neg k5,if_neg k6,if_pos k13,hma,if_pos (.inr hB)]) (by decide)]
   simp only[eE,seval,↓eP,hr,v4,v5,v11,v12,v13,v15,yk,C2,AU,Nat.zero_add,htell,eT,YD,X7,aU,YX,WJ,DV,Nat.zero_add,l2R,ixR,q3,dA,dB,NX,I_,s1,s2,LE,s3,EB,s4]
   exact⟨⟨_,rfl,s5.weak (by omega)⟩,by have:=q4.fl;omega,by have:=q4.n;omega,fun j hj=>by rw[sb j (by omega)];exact oK3 _ q4.o j hj⟩
  | false=>
   have hB:¬ ma>4194304:=by simpa using dB
   have es:EJ (AD (BC s.rows)) (EY s size C) i x t=(0,{ t with Rd:=t.Rd.set i ma }):=by unfold EJ;rw[if_neg k4,if_neg k5,if_neg k6,if_pos k13,hma,if_neg (by omega)]
   rw[TC hx (by rw[es]),es] at hgo
   simp only[eE,seval,↓eP,v2,v4,v5,v9,v11,v52,v53,v54,v12,v13,v14,v15,yk,C2,AU,Nat.zero_add,htell,eT,YD,X7,aU,YX,WJ,DV,Nat.zero_add,l2R,ixR,q3,dA,dB,w1]
   exact⟨hlt,by omega,_,q4,by rw[hri];exact hgo,by show t.V.length≤_;omega,by show t.G.length≤_;omega⟩
 have eT:GC x.kind L=.nilIface:=by unfold GC;rw[if_neg k4,if_neg k5,if_neg k6,if_neg k13]
 have es:EJ (AD (BC s.rows)) (EY s size C) i x t=(0,t):=by unfold EJ;rw[if_neg k4,if_neg k5,if_neg k6,if_neg k13]
 rw[TC hx (by rw[es]),es] at hgo
 simp only[eE,seval,↓eP,v2,v4,v5,v9,v11,v52,v53,v54,v13,v14,v15,yk,C2,AU,htell,eT,wA,Fi,tO,v_,w1]
 exact⟨hlt,by omega,_,hK3,by rw[hri];exact hgo,by omega,by omega⟩
theorem fM {nm:ByteArray} {s:AN} {pv cv:Value} {lo lc:Nat} {size:Int} {C:List Int} (hp:CO lo h pv nm s) (hc:FK lc h cv size C) (hlies:∀ nm' vr vq vv vt vu vo m,pv=.agg #[.string nm',vr,vq,vv,vt,vu,vo,m]→JN vr s.rows.length) (hs:JJ s) (hl:s.rows.length<2932031007403) (hC:C.length<17592186044416) (hg:h.get 0=CW) (hn0:0<h.next) (hfl:h.floor≤h.next) (hn:2*FZ s+101100+C.length<n) :
  ∃ v' h',AS n 16 [pv,cv] h=some (v',h')∧bH h' h.next v' (C3 nm s size C)∧h'.floor=h.floor∧h.next≤h'.next∧∀ i,i<h.next→h'.get i=h.get i:=by
 obtain⟨n,rfl⟩:=C_ hn
 refine PN (BT ⟨rfl,rfl,rfl⟩) (Ji (n:=n) (N:=n) hp hc hlies hs hl hC hg hn0 hfl (by omega) (by omega)) fun v' h1 hf _ ht=>?_
 obtain⟨⟨tv,rfl,ht⟩,_⟩:=ht
 exact⟨⟨tv,rfl,Hu ht hf _ h⟩,rfl,Nat.le_refl _,fun _ _=>rfl⟩
end
theorem Bg:Tryd.prog.stoodInHeld 58=false:=by kernel_rfl
theorem cA {a b c:Int}:AZ Tryd.prog (part 3 #[.int .i64 a,.int .i64 b,.int .i64 c] 0)=some (.int .i64 a)∧AZ Tryd.prog (part 3 #[.int .i64 a,.int .i64 b,.int .i64 c] 1)=some (.int .i64 b)∧AZ Tryd.prog (part 3 #[.int .i64 a,.int .i64 b,.int .i64 c] 2)=some (.int .i64 c):=⟨rfl,rfl,rfl⟩
theorem Hb {a b c:Int}:flat (EV a b c)=true:=rfl
theorem Ir {a b c:Int} (n:Nat):AZ Tryd.prog (Op.equalIn (n+2) 58 (EV a b c) (EV a b c))=some true:=by
 rw[Op.equalIn,B9,M2 Tryd.underlying58]
 simp only[Option.bind_some,B9,KK,Bg,Bool.false_eq_true,if_false]
 simp[B9,GQ,cA.1,cA.2.1,cA.2.2,KW Tryd.underlying3]
theorem Dt {x y:Operand} {a b c:Int}:BR Tryd.prog .neq 58 x y (EV a b c) (EV a b c)=some (.bool false):=by
 have k:AZ Tryd.prog (Op.equal 58 (EV a b c) (EV a b c))=some true:=Ir 9998
 have e:AZ Tryd.prog (do eqGuard .neq 58 x y (EV a b c) (EV a b c);binOp .neq 58 (EV a b c) (EV a b c))=some (.bool false):=by
  rw[B9]
  have g:AZ Tryd.prog (eqGuard .neq 58 x y (EV a b c) (EV a b c))=some ():=by
   unfold eqGuard
   simp[B9,KK,GQ]
  rw[g]
  show AZ Tryd.prog ((do pure (.bool (!(← Op.equal 58 (EV a b c) (EV a b c))))):Sem Value)=_
  rw[B9,k]
  rfl
 simp only[BR,Hb,Bool.and_self,if_true,e,JZ]
theorem kF:∀ {l:List (Int × Int × Int)} {i:Nat} {x:Int × Int × Int},l[i]?=some x→((LP l).drop (i*3)).take 3=[iv x.1,iv x.2.1,iv x.2.2]
 | [],i,x,h=>by simp at h
 | y :: l,0,x,h=>by
  cases h
  rfl
 | y :: l,i+1,x,h=>by
  have h':l[i]?=some x:=by simpa using h
  rw[show (i+1)*3=i*3+1+1+1 by omega]
  exact kF h'
theorem kE {R:List AB} {e:Nat→Nat} {val:Nat→Int}:∀ (r i:Nat) (t:GF),(GX R e val r i t).2.V.length≤r+t.V.length∧(GX R e val r i t).2.G.length≤r+t.G.length∧(GX R e val r i t).2.Rd.length≤t.Rd.length
 | 0,i,t=>⟨by simp[GX],by simp[GX],by simp[GX]⟩
 | r + 1,i,t=>by
  unfold GX
  cases hx:R[i]? with
  | none=>exact⟨by simp,by simp,by simp⟩
  | some x=>
   simp only
   by_cases h:(EJ e val i x t).1≠0
   ·rw[if_pos h]
    exact⟨by simp,by simp,by simp⟩
   ·rw[if_neg h]
    obtain⟨a,b,c⟩:=kE (R:=R) (e:=e) (val:=val) r (i+1) (EJ e val i x t).2
    have hs:(EJ e val i x t).2.V.length≤t.V.length+1∧(EJ e val i x t).2.G.length≤t.G.length+1∧(EJ e val i x t).2.Rd.length≤t.Rd.length:=by
     unfold EJ
     (repeat' split) <;> simp
    omega
theorem kT (nm:ByteArray) (s:AN) (size:Int) (C:List Int):(C3 nm s size C).2.V.length≤s.rows.length∧(C3 nm s size C).2.G.length≤s.rows.length∧(C3 nm s size C).2.Rd.length≤s.rows.length:=by
 unfold C3
 split
 ·exact⟨by simp,by simp,by simp⟩
 ·split
  ·exact⟨by simp,by simp,by simp⟩
  ·have h:=kE (R:=s.rows) (e:=AD (BC s.rows)) (val:=EY s size C) s.rows.length 0 ⟨[],[],List.replicate s.rows.length 0⟩
   simp only[List.length_nil,List.length_replicate,Nat.add_zero] at h
   exact h
def ZY:List (Bool × Bool × List Operand):=[AQ,AQ,AH [.tmp 36],AQ,AQ,AH [.tmp 36,.tmp 39],AH [.tmp 36,.tmp 39],AH [.tmp 36,.tmp 39,.tmp 41],AH [.tmp 36,.tmp 39],AH [.tmp 36,.tmp 39],AK]
section
variable {n N:Nat} {h:AA}
theorem rD {va wa:Value} {t:GF} {la lb:Nat} (ha:IA la h va t) (hb:IA lb h wa t) (hV:t.V.length<2932031007403) (hGl:t.G.length<2932031007403) (hR:t.Rd.length<2932031007403) (hN:t.V.length+10<N) (hn:t.G.length+t.Rd.length+20<n) :
  ∃ h',A8 Tryd.prog (AS n) N 18 [va,wa] h=some (.bool true,h')∧∀ i,i<h.next→h'.get i=h.get i:=by
 obtain⟨vv,gv,rv,rfl,a1,a2,a3⟩:=ha
 obtain⟨vw,gw,rw',rfl,b1,b2,b3⟩:=hb
 have hsn:=(FD n).2
 refine EL (R:=fun h'=>∀ i,i<h.next→h'.get i=h.get i) Tryd.func18 rfl (by simp[Tryd.f18]) ?_
 have hr:Tryd.f18.results.toList=[.tmp 4]:=rfl
 have ca:=E_ [vv,gv,rv]
 have cb:=E_ [vw,gw,rw']
 have oa:[vv,gv,rv].all one=true:=by simp only[List.all_cons,List.all_nil,AP.one a1,AP.one a2,AP.one a3,Bool.and_self]
 have ob:[vw,gw,rw'].all one=true:=by simp only[List.all_cons,List.all_nil,AP.one b1,AP.one b2,AP.one b3,Bool.and_self]
 have g0:∀ (a b:A9),let A:=(h.push a).push b
   A.get h.next=a∧A.get (h.next+1)=b∧A.next=h.next+2∧∀ i,i<h.next→A.get i=h.get i:=fun a b=>
  ⟨OA,OL,rfl,fun i hi=>by rw[AR (by show i<h.next+1;omega),AR hi]⟩
 obtain⟨gA,gB,nQ,gO⟩:=g0 (.row [vv,gv,rv] 43 false false) (.row [vw,gw,rw'] 43 false false)
 simp only[eE,seval,↓eP,F5,E9,F6,ca,oa,cb,ob,R2]
 generalize (h.push (.row [vv,gv,rv] 43 false false)).push (.row [vw,gw,rw'] 43 false false)=Q at *
 have x0:AJ 0 (Q.get h.next)=some vv:=by rw[gA];rfl
 have x1:AJ 1 (Q.get h.next)=some gv:=by rw[gA];rfl
 have x2:AJ 2 (Q.get h.next)=some rv:=by rw[gA];rfl
 have y0:AJ 0 (Q.get (h.next+1))=some vw:=by rw[gB];rfl
 have y1:AJ 1 (Q.get (h.next+1))=some gw:=by rw[gB];rfl
 have y2:AJ 2 (Q.get (h.next+1))=some rw':=by rw[gB];rfl
 have a1':=a1.mono (h':=Q) (by omega) fun i _ hi=>gO i hi
 have b1':=b1.mono (h':=Q) (by omega) fun i _ hi=>gO i hi
 have k1:=iK (n:=n) (h:=Q) (AX.mono a2 (by omega) fun i _ hi=>gO i hi) (AX.mono b2 (by omega) fun i _ hi=>gO i hi) (by omega) (by omega)
 have k2:=iK (n:=n) (h:=Q) (AX.mono a3 (by omega) fun i _ hi=>gO i hi) (AX.mono b3 (by omega) fun i _ hi=>gO i hi) (by omega) (by omega)
 have lenA:=fun h'=>AP.len a1 Tryd.underlying41 (h':=h')
 have lenB:=fun h'=>AP.len b1 Tryd.underlying41 (h':=h')
 have c0:((t.V.length:Int) != (t.V.length:Int))=false:=by simp
 simp only[eE,seval,↓eP,Nat.zero_add,PD,U4,WJ,PE,DV,x0,x1,x2,y0,y1,y2,lenA,lenB,c0,k1,k2]
 refine WK.loop (fun i s'=>s'.T.get 2=qP h.next 0∧s'.T.get 3=qP (h.next+1) 0∧s'.T.get 5=iv (i:Int)∧s'.h=Q∧i≤t.V.length) t.V.length (by omega) ?_ ?_
 ·exact⟨by simp only[eE,seval,↓eP,rP],by simp only[eE,seval,↓eP,rP],by simp only[eE,seval,↓eP,rP] <;> rfl,rfl,by omega⟩
 rintro i ⟨T,H⟩ hi ⟨t2,t3,t5,hh,hil⟩
 simp only at t2 t3 t5 hh
 subst hh
 by_cases hlt:i<t.V.length
 ·have c1:decide ((i:Int)<(t.V.length:Int))=true:=by simp;omega
  obtain⟨x,hx⟩:∃ x,t.V[i]?=some x:=⟨_,List.getElem?_eq_getElem hlt⟩
  obtain⟨ida,pa,ea,ha1,la'⟩:=AP.whole a1' Tryd.underlying41 TO hlt
  obtain⟨idb,pb,eb,hb1,lb'⟩:=AP.whole b1' Tryd.underlying41 TO hlt
  rw[kF hx] at la' lb'
  have w1:=EU i (by omega)
  simp only[eE,seval,↓eP,t2,t5,PD,PE,x0,lenA,c1]
  refine WK.flags (fs:=ZY) (by kernel_rfl) ?_
  unfold ZY
  iterate 11
   refine D9 hsn ?_
   simp only[rG,seval,AC,AF,AE,CT,DU,CK,C6,EA,t2,PD,PE,x0,t5,ea,Be,la',t3,y0,eb,lb',Dt]
  refine D4 ?_
  simp only[eE,seval,↓eP,t2,t3,t5,w1]
  omega
 ·have c1:decide ((i:Int)<(t.V.length:Int))=false:=by simp;omega
  simp only[eE,seval,↓eP,hr,t2,t5,PD,PE,x0,lenA,c1]
  exact gO
theorem g8 {va wa:Value} {t:GF} {la lb:Nat} (ha:IA la h va t) (hb:IA lb h wa t) (hV:t.V.length<2932031007403) (hGl:t.G.length<2932031007403) (hR:t.Rd.length<2932031007403) (hn:t.V.length+t.G.length+t.Rd.length+40<n) :
  AS n 18 [va,wa] h=some (.bool true,h):=by
 obtain⟨n,rfl⟩:=C_ hn
 exact JQ (BT ⟨rfl,rfl,rfl⟩) rfl (rD (n:=n) (N:=n) ha hb hV hGl hR (by omega) (by omega))
end
def M7 (R:List AB) (q:Nat):Bool:=R.any fun x=>x.kind==32&&x.n==(q:Int)
def K7 (R:List AB):Bool:=R.any fun x=>x.kind==33
def JY (R:List AB) (M:List Int):Nat→List Int→List Int
 | _,[]=>[]
 | i,c :: C=>(if M7 R i=true then c else (M[i]?).getD c) :: JY R M (i+1) C
theorem RY {R:List AB} {M:List Int}:∀ (C:List Int) (i:Nat),(JY R M i C).length=C.length
 | [],_=>rfl
 | c :: C,i=>by
  show (JY R M (i+1) C).length+1=_
  rw[RY C]
  rfl
theorem TR {R:List AB} {M:List Int}:∀ (C:List Int) (i k:Nat) {c:Int},C[k]?=some c→(JY R M i C)[k]?=some (if M7 R (i+k)=true then c else (M[i+k]?).getD c)
 | [],i,k,c,h=>by simp at h
 | d :: C,i,0,c,h=>by
  cases h
  rfl
 | d :: C,i,k+1,c,h=>by
  have:=TR (R:=R) (M:=M) C (i+1) k (c:=c) (by simpa using h)
  show (JY R M (i+1) C)[k]?=_
  rw[this,show i+1+k=i+(k+1) by omega]
theorem Z8 {R:List AB} {e:Nat→Nat} {size size':Int} {C C':List Int} (hs:∀ x∈R,x.kind=33→size'=size) (hc:∀ x∈R,x.kind=32→(C'[x.n.toNat]?).getD 0=(C[x.n.toNat]?).getD 0):∀ f i,KF R e size' C' f i=KF R e size C f i
 | 0,i=>rfl
 | f + 1,i=>by
  unfold KF
  cases hx:R[i]? with
  | none=>rfl
  | some x=>
   simp only
   rw[Z8 hs hc f (i+1),Z8 hs hc f (e (i+1))]
   have hm:=List.mem_of_getElem? hx
   have:DE size' C' x=DE size C x:=by
    unfold DE
    by_cases h1:x.kind=33
    ·rw[hs x hm h1]
     by_cases h2:x.kind=32
     ·omega
     ·rw[if_neg h2,if_neg h2]
    ·rw[if_neg h1,if_neg h1]
     by_cases h2:x.kind=32
     ·rw[hc x hm h2]
     ·rw[if_neg h2,if_neg h2]
   rw[this]
theorem pD {R:List AB} {e:Nat→Nat} {val:Nat→Int}:∀ (r i:Nat) (t:GF),(GX R e val r i t).1.1=0∨(GX R e val r i t).1.1=43∨(GX R e val r i t).1.1=44
 | 0,_,_=>.inl rfl
 | r + 1,i,t=>by
  unfold GX
  cases R[i]? with
  | none=>exact .inl rfl
  | some x=>
   simp only
   split
   ·rename_i h
    have:(EJ e val i x t).1=0∨(EJ e val i x t).1=43∨(EJ e val i x t).1=44:=by
     unfold EJ
     (repeat' split) <;> simp
    exact this
   ·exact pD r (i+1) _
theorem wM {nm:ByteArray} {s:AN} {size:Int} {C:List Int} (hc:FF nm s=0):DG nm s size C=0∨DG nm s size C=45:=by
 unfold DG
 rw[if_neg (by rw[hc];decide)]
 split <;> simp
theorem Ag {nm:ByteArray} {s:AN} (hc:FF nm s=0):(B_ nm s).1.1=0∨(B_ nm s).1.1=41∨(B_ nm s).1.1=42∨(B_ nm s).1.1=46:=by
 have go:∀ r i,(GD s.rows s.queues (AD (BC s.rows)) r i).1.1=0∨(GD s.rows s.queues (AD (BC s.rows)) r i).1.1=41∨(GD s.rows s.queues (AD (BC s.rows)) r i).1.1=42∨(GD s.rows s.queues (AD (BC s.rows)) r i).1.1=46:=by
  intro r
  induction r with
  | zero=>intro i;exact .inl rfl
  | succ r ih=>
   intro i
   unfold GD
   cases s.rows[i]? with
   | none=>exact .inl rfl
   | some x=>
    simp only
    split
    ·exact qD
    ·exact ih (i+1)
 unfold B_
 rw[if_neg (by rw[hc];decide)]
 exact go _ _
section
variable {nm:ByteArray} {s:AN} {size size':Int} {C C':List Int}
theorem OQ (hc:FF nm s=0):(C3 nm s size C).1.1=45↔((B_ nm s).1.1=0∧DG nm s size C≠0):=by
 unfold C3
 by_cases h1:(B_ nm s).1.1≠0
 ·rw[if_pos h1]
  have:=Ag hc
  simp only
  omega
 ·rw[if_neg h1]
  have h1':(B_ nm s).1.1=0:=by omega
  by_cases h2:DG nm s size C≠0
  ·rw[if_pos h2]
   have:=wM (size:=size) (C:=C) hc
   simp only
   omega
  ·rw[if_neg h2]
   have:=pD (R:=s.rows) (e:=AD (BC s.rows)) (val:=EY s size C) s.rows.length 0 ⟨[],[],List.replicate s.rows.length 0⟩
   unfold OZ
   omega
theorem oU (hc:FF nm s=0) (h1:(C3 nm s size C).1.1≠45) (h2:(C3 nm s size' C').1.1≠45) (hs:∀ x∈s.rows,x.kind=33→size'=size) (hC:∀ x∈s.rows,x.kind=32→(C'[x.n.toNat]?).getD 0=(C[x.n.toNat]?).getD 0):C3 nm s size' C'=C3 nm s size C:=by
 by_cases ht:(B_ nm s).1.1=0
 ·have f1:DG nm s size C=0:=Decidable.byContradiction fun h=>h1 ((OQ hc).2 ⟨ht,h⟩)
  have f2:DG nm s size' C'=0:=Decidable.byContradiction fun h=>h2 ((OQ hc).2 ⟨ht,h⟩)
  unfold C3
  rw[if_neg (by omega),if_neg (by omega),if_neg (by omega),if_neg (by omega)]
  have hv:EY s size' C'=EY s size C:=by
   funext p
   unfold EY BY
   rw[Z8 hs hC]
  unfold OZ
  rw[hv]
 ·unfold C3
  rw[if_pos ht,if_pos ht]
theorem xK {M:List Int} {sz:Int}:(∀ x∈s.rows,x.kind=33→(if K7 s.rows=true then size else sz)=size)∧((∀ x∈s.rows,x.kind=32→0≤x.n)→∀ x∈s.rows,x.kind=32→((JY s.rows M 0 C)[x.n.toNat]?).getD 0=(C[x.n.toNat]?).getD 0):=by
 refine⟨fun x hx h=>?_,fun hn x hx h=>?_⟩
 ·have:K7 s.rows=true:=List.any_eq_true.2 ⟨x,hx,by rw[h];rfl⟩
  rw[if_pos this]
 ·cases hc:C[x.n.toNat]? with
  | none=>rw[List.getElem?_eq_none (by rw[RY];exact List.getElem?_eq_none_iff.1 hc)]
  | some c=>
   rw[TR C 0 _ hc,Nat.zero_add]
   have h0:=hn x hx h
   have:M7 s.rows x.n.toNat=true:=List.any_eq_true.2 ⟨x,hx,by rw[h,Int.toNat_of_nonneg h0];simp⟩
   rw[if_pos this]
end
theorem gG:(Value.int .i64 0).cells.size=1:=rfl
section
variable {h:AA}
theorem xN {lo:Nat} {v:Value} {C:List Int} (hv:AX lo h v C) (hb:C.length<17592186044416) :
  ∃ c d g h1,DL Tryd.prog (h.push (.row [] 3 false false)) 27 (qS h.next 0 0) v=some (qS d C.length c,h1)∧h1.get d=.row (ints C) 3 g false∧h.next≤d∧d<h1.next∧h1.floor=h.floor∧h1.next≤h.next+2∧∀ i,i<h.next→h1.get i=h.get i:=by
 have hv1:AP lo (h.push (.row [] 3 false false)) v C.length 1 (ints C):=AP.mono hv (by rw[CY];omega) fun i _ hi=>AR hi
 have hsrc:=hv1.src
 have hone:=OY C
 have hll:=F9 C
 obtain⟨_,a,c,rfl,_⟩:=id hv
 have hnu:(0:Nat)≠AO:=by unfold AO;omega
 by_cases h0:C.length=0
 ·have:C=[]:=List.length_eq_zero_iff.1 h0
  subst this
  refine⟨0,h.next,false,h.push (.row [] 3 false false),?_,BM,by omega,by rw[CY];omega,rfl,by rw[CY];omega,fun i hi=>AR hi⟩
  simp only[List.length_nil] at hsrc ⊢
  simp only[DL,Tryd.underlying27,C4,J1,HZ,gG,hsrc,hone]
  rw[if_pos (by simp),if_pos trivial,if_neg hnu,if_pos (by omega),if_pos trivial]
 ·refine⟨AO,h.next+1,true,(h.push (.row [] 3 false false)).push (.row (ints C) 3 true false),?_,BM (h:=h.push (.row [] 3 false false)),by omega,by show h.next+1<h.next+1+1;omega,rfl,by show h.next+1+1≤_;omega,fun i hi=>by rw[AR (by show i<h.next+1;omega),AR hi]⟩
  have h00:DQ (h.push (.row [] 3 false false)) 1 0 (qS h.next 0 0)=some []:=by simp[DQ]
  simp only[DL,Tryd.underlying27,C4,J1,HZ,gG,hsrc,hone,h00]
  rw[if_pos (by simp),if_pos trivial,if_neg hnu,if_neg (by omega),if_pos (by simp;omega)]
  simp only[Nat.zero_add]
  rfl
end
theorem nP {f:AB→Bool} {R:List AB} {i:Nat} {x:AB} (hx:R[i]?=some x):(R.drop i).any f=(f x||(R.drop (i+1)).any f):=by
 obtain⟨hlt,rfl⟩:=List.getElem?_eq_some_iff.1 hx
 rw[List.drop_eq_getElem_cons hlt,List.any_cons]
section
variable {n N:Nat} {h:AA}
theorem t_ {nm:ByteArray} {s:AN} {pv:Value} {lo:Nat} {q:Nat} (hp:CO lo h pv nm s) (hl:s.rows.length<2932031007403) (hN:s.rows.length+10<N) :
  ∃ h',A8 Tryd.prog (AS n) N 14 [pv,iv (q:Int)] h=some (.bool (M7 s.rows q),h')∧∀ i,i<h.next→h'.get i=h.get i:=by
 obtain⟨vr,vq,vv,vt,vu,vo,rfl,p1,p2,p3,p4,p5,p6⟩:=id hp
 refine EL (R:=fun h'=>∀ i,i<h.next→h'.get i=h.get i) Tryd.func14 rfl (by simp[Tryd.f14]) ?_
 have hr:Tryd.f14.results.toList=[.tmp 4]:=rfl
 have ca:=E_ [.string nm,vr,vq,vv,vt,vu,vo,iv s.miss]
 have oa:=KI (nm:=nm) p1 p2 p3 p4 p5 p6
 have gA:=BM (h:=h) (o:=.row [.string nm,vr,vq,vv,vt,vu,vo,iv s.miss] 33 false false)
 have gO:∀ i,i<h.next→(h.push (.row [.string nm,vr,vq,vv,vt,vu,vo,iv s.miss] 33 false false)).get i=h.get i:=fun i hi=>AR hi
 have gN:(h.push (.row [.string nm,vr,vq,vv,vt,vu,vo,iv s.miss] 33 false false)).next=h.next+1:=rfl
 simp only[eE,seval,↓eP,F5,E9,F6,ca,oa,HU]
 generalize h.push (.row [.string nm,vr,vq,vv,vt,vu,vo,iv s.miss] 33 false false)=Q at *
 obtain⟨x0,x1,x2,x3,x4,x5,x6,x7⟩:=U9 gA
 have lenR:=fun h'=>PB p1.2 h'
 have pr:A7 Q vr s.rows:=p1.1.mono (by omega) gO
 refine WK.loop (fun i s'=>s'.T.get 1=iv (q:Int)∧s'.T.get 2=qP h.next 0∧s'.T.get 5=iv (i:Int)∧s'.h=Q∧i≤s.rows.length∧(s.rows.drop i).any (fun x=>x.kind==32&&x.n==(q:Int))=M7 s.rows q) s.rows.length (by omega) ?_ ?_
 ·exact⟨by simp only[eE,seval,↓eP,rP],by simp only[eE,seval,↓eP,rP],by simp only[eE,seval,↓eP,rP] <;> rfl,rfl,by omega,by rw[List.drop_zero];rfl⟩
 rintro i ⟨T1,H1⟩ hi ⟨t1,t2,t5,hh,hil,hgo⟩
 simp only at t1 t2 t5 hh
 subst hh
 by_cases hlt:i<s.rows.length
 rotate_left
 ·have c1:decide ((i:Int)<(s.rows.length:Int))=false:=by simp;omega
  have hz:(M7 s.rows q)=false:=by rw[← hgo,List.drop_eq_nil_of_le (by omega)];rfl
  rw[hz]
  simp only[eE,seval,↓eP,hr,Nat.zero_add,t1,t2,t5,lenR,c1,DI,DK,x1]
  exact gO
 have c1:decide ((i:Int)<(s.rows.length:Int))=true:=by simp;omega
 obtain⟨x,hx⟩:∃ x,s.rows[i]?=some x:=⟨_,List.getElem?_eq_getElem hlt⟩
 rw[nP hx] at hgo
 obtain⟨ia,pa,ea,_,k0,_,_,k3,_,_⟩:=pr.row hx
 have w1:=EU i (by omega)
 cases d1:(x.kind==32) with
 | true=>
  cases d2:(x.n==(q:Int)) with
  | true=>
   rw[d1,d2] at hgo
   rw[← hgo]
   simp only[eE,seval,↓eP,hr,Nat.zero_add,t1,t2,t5,lenR,c1,DI,DK,x1,ea,C2,AU,k0,d1,F8,k3,d2,Bool.and_self,Bool.true_or]
   exact gO
  | false=>
   rw[d1,d2] at hgo
   simp only[eE,seval,↓eP,hr,Nat.zero_add,t1,t2,t5,lenR,c1,DI,DK,x1,ea,C2,AU,k0,d1,F8,k3,d2,w1]
   exact⟨by omega,by omega,by rw[← hgo];rfl⟩
 | false=>
  rw[d1] at hgo
  simp only[eE,seval,↓eP,hr,Nat.zero_add,t1,t2,t5,lenR,c1,DI,DK,x1,ea,C2,AU,k0,d1,w1]
  exact⟨by omega,by omega,by rw[← hgo];rfl⟩
theorem uT {nm:ByteArray} {s:AN} {pv:Value} {lo:Nat} {q:Nat} (hp:CO lo h pv nm s) (hl:s.rows.length<2932031007403) (hn:s.rows.length+20<n):AS n 14 [pv,iv (q:Int)] h=some (.bool (M7 s.rows q),h):=by
 obtain⟨n,rfl⟩:=C_ hn
 exact JQ (BT ⟨rfl,rfl,rfl⟩) rfl (t_ (n:=n) (N:=n) hp hl (by omega))
theorem qR {nm:ByteArray} {s:AN} {pv:Value} {lo:Nat} (hp:CO lo h pv nm s) (hl:s.rows.length<2932031007403) (hN:s.rows.length+10<N) :
  ∃ h',A8 Tryd.prog (AS n) N 15 [pv] h=some (.bool (K7 s.rows),h')∧∀ i,i<h.next→h'.get i=h.get i:=by
 obtain⟨vr,vq,vv,vt,vu,vo,rfl,p1,p2,p3,p4,p5,p6⟩:=id hp
 refine EL (R:=fun h'=>∀ i,i<h.next→h'.get i=h.get i) Tryd.func15 rfl (by simp[Tryd.f15]) ?_
 have hr:Tryd.f15.results.toList=[.tmp 2]:=rfl
 have ca:=E_ [.string nm,vr,vq,vv,vt,vu,vo,iv s.miss]
 have oa:=KI (nm:=nm) p1 p2 p3 p4 p5 p6
 have gA:=BM (h:=h) (o:=.row [.string nm,vr,vq,vv,vt,vu,vo,iv s.miss] 33 false false)
 have gO:∀ i,i<h.next→(h.push (.row [.string nm,vr,vq,vv,vt,vu,vo,iv s.miss] 33 false false)).get i=h.get i:=fun i hi=>AR hi
 have gN:(h.push (.row [.string nm,vr,vq,vv,vt,vu,vo,iv s.miss] 33 false false)).next=h.next+1:=rfl
 simp only[eE,seval,↓eP,F5,E9,F6,ca,oa,HU]
 generalize h.push (.row [.string nm,vr,vq,vv,vt,vu,vo,iv s.miss] 33 false false)=Q at *
 obtain⟨x0,x1,x2,x3,x4,x5,x6,x7⟩:=U9 gA
 have lenR:=fun h'=>PB p1.2 h'
 have pr:A7 Q vr s.rows:=p1.1.mono (by omega) gO
 refine WK.loop (fun i s'=>s'.T.get 1=qP h.next 0∧s'.T.get 3=iv (i:Int)∧s'.h=Q∧i≤s.rows.length∧(s.rows.drop i).any (fun x=>x.kind==33)=K7 s.rows) s.rows.length (by omega) ?_ ?_
 ·exact⟨by simp only[eE,seval,↓eP,rP],by simp only[eE,seval,↓eP,rP] <;> rfl,rfl,by omega,by rw[List.drop_zero];rfl⟩
 rintro i ⟨T1,H1⟩ hi ⟨t1,t3,hh,hil,hgo⟩
 simp only at t1 t3 hh
 subst hh
 by_cases hlt:i<s.rows.length
 rotate_left
 ·have c1:decide ((i:Int)<(s.rows.length:Int))=false:=by simp;omega
  have hz:(K7 s.rows)=false:=by rw[← hgo,List.drop_eq_nil_of_le (by omega)];rfl
  rw[hz]
  simp only[eE,seval,↓eP,hr,Nat.zero_add,t1,t3,lenR,c1,DI,DK,x1]
  exact gO
 have c1:decide ((i:Int)<(s.rows.length:Int))=true:=by simp;omega
 obtain⟨x,hx⟩:∃ x,s.rows[i]?=some x:=⟨_,List.getElem?_eq_getElem hlt⟩
 rw[nP hx] at hgo
 obtain⟨ia,pa,ea,_,k0,_,_,k3,_,_⟩:=pr.row hx
 have w1:=EU i (by omega)
 cases d1:(x.kind==33) with
 | true=>
  rw[d1] at hgo
  rw[← hgo]
  simp only[eE,seval,↓eP,hr,Nat.zero_add,t1,t3,lenR,c1,DI,DK,x1,ea,C2,AU,k0,d1,Bool.true_or]
  exact gO
 | false=>
  rw[d1] at hgo
  simp only[eE,seval,↓eP,hr,Nat.zero_add,t1,t3,lenR,c1,DI,DK,x1,ea,C2,AU,k0,d1,w1]
  exact⟨by omega,by omega,by rw[← hgo];rfl⟩
theorem Eu {nm:ByteArray} {s:AN} {pv:Value} {lo:Nat} (hp:CO lo h pv nm s) (hl:s.rows.length<2932031007403) (hn:s.rows.length+20<n):AS n 15 [pv] h=some (.bool (K7 s.rows),h):=by
 obtain⟨n,rfl⟩:=C_ hn
 exact JQ (BT ⟨rfl,rfl,rfl⟩) rfl (qR (n:=n) (N:=n) hp hl (by omega))
end
def Z3:List (Bool × Bool × List Operand):=[EN,EN,AH [.tmp 26],FO [.tmp 26],FO [.tmp 26],AH [.tmp 26],AK,FO [.tmp 26,.tmp 29],AK]
def cI:List (Bool × Bool × List Operand):=[AQ,AQ,AH [.tmp 50],AH [.tmp 50],AH [.tmp 50],AH [.tmp 50],AH [.tmp 50],AK,AK]
def NQ:List (Bool × Bool × List Operand):=[EN,EN,EN,AH [.tmp 83],AH [.tmp 83,.tmp 9],AH [.tmp 83],FO [.tmp 83,.tmp 9,.tmp 5],AH [.tmp 83],AK,AK,EN,EN,EN,AH [.tmp 93],AH [.tmp 93,.tmp 9],AH [.tmp 93],FO [.tmp 93,.tmp 9,.tmp 11],AH [.tmp 93],AK,AK,AK]
theorem tV {h:AA}:FC Tryd.prog h 27 0 []=some (qS h.next 0 0,h.push (.row [] 3 false false)):=by
 simp only[FC,Tryd.underlying27,C4,HZ]
 rfl
theorem i7 {e a c d:Int} {x y:Operand}:BR Tryd.prog .neq 36 x y (CD e a) (CD c d)=some (.bool (!(e==c&&a==d))):=by
 have e9:AZ Tryd.prog (do eqGuard .neq 36 x y (DH e a) (DH c d);binOp .neq 36 (DH e a) (DH c d))=some (.bool (!(e==c&&a==d))):=by
  rw[B9]
  have g:AZ Tryd.prog (eqGuard .neq 36 x y (DH e a) (DH c d))=some ():=by
   unfold eqGuard
   simp[B9,KK,GQ,zG]
  rw[g]
  show AZ Tryd.prog ((do pure (.bool (!(← Op.equal 36 (DH e a) (DH c d))))):Sem Value)=_
  rw[B9]
  have k:AZ Tryd.prog (Op.equal 36 (DH e a) (DH c d))=some (e==c&&a==d):=lX 9998
  rw[k]
  rfl
 have e2:BR Tryd.prog .neq 36 x y (DH e a) (DH c d)=some (.bool (!(e==c&&a==d))):=by simp only[BR,ZF,Bool.and_self,if_true,e9,JZ]
 exact e2
theorem VK {e:Int} {x y:Operand}:BR Tryd.prog .neq 36 x y (CD e 0) (CD 0 0)=some (.bool (e != 0)):=by
 rw[i7]
 simp[bne]
theorem lW {e a:Int}:∀ x y,BR Tryd.prog .eql 36 x y (CD e a) (CD e a)=some (.bool true):=fun x y=>by
 have:=yI (x:=x) (y:=y) (a:=e) (b:=a) (c:=e) (d:=a)
 simpa using this
theorem vJ {H:AA} {v:Value} {t:GF} {lo:Nat} (ht:IA lo H v t) (hf:H.floor≤H.next) (e x:Int) :
  ∃ H1 H2,A_ Tryd.prog ((H.push (.row [Z0,Z0,Z0] 43 false false)).push (.row [iv 0,iv 0] 36 false false)) 43 (qP H.next 0) v=some H1 ∧
   A_ Tryd.prog H1 36 (qP (H.next+1) 0) (CD e x)=some H2∧BF 3 0 (H2.get H.next)=some v∧H2.get (H.next+1)=.row [iv e,iv x] 36 false false∧H2.next=H.next+2∧H2.floor=H.floor∧∀ i,i<H.next→H2.get i=H.get i:=by
 obtain⟨vv,gv,rv,rfl,h1,h2,h3⟩:=id ht
 have o1:([vv,gv,rv]:List Value).all one=true:=by simp only[List.all_cons,List.all_nil,AP.one h1,AP.one h2,AP.one h3,Bool.and_self]
 have g0:∀ (a b:A9),let A:=(H.push a).push b
   A.get H.next=a∧A.get (H.next+1)=b∧A.next=H.next+2∧A.floor=H.floor∧∀ i,i<H.next→A.get i=H.get i:=fun a b=>
  ⟨OA,OL,rfl,rfl,fun i hi=>by rw[AR (by show i<H.next+1;omega),AR hi]⟩
 obtain⟨ga,gb,n2,f2,o2⟩:=g0 (.row [Z0,Z0,Z0] 43 false false) (.row [iv 0,iv 0] 36 false false)
 generalize (H.push (.row [Z0,Z0,Z0] 43 false false)).push (.row [iv 0,iv 0] 36 false false)=A at *
 have s1:=JX (vs:=[vv,gv,rv]) R2 ga rfl rfl o1 (by omega)
 have g1:∀ j,j≠H.next→(A.put H.next (.row [vv,gv,rv] 43 false false)).get j=A.get j:=fun j hj=>AV (by omega) (Ne.symm hj)
 have s2:=JX (h:=A.put H.next (.row [vv,gv,rv] 43 false false)) (id:=H.next+1) (vs:=[iv e,iv x]) JS (by rw[g1 _ (by omega)];exact gb) rfl rfl rfl (by show A.floor≤H.next+1;omega)
 have g2:∀ j,j≠H.next+1→((A.put H.next (.row [vv,gv,rv] 43 false false)).put (H.next+1) (.row [iv e,iv x] 36 false false)).get j=(A.put H.next (.row [vv,gv,rv] 43 false false)).get j:=fun j hj=>AV (by show H.next+1<A.next;omega) (Ne.symm hj)
 refine⟨_,_,s1,s2,?_,B0 rfl (by show H.next+1<A.next;omega),n2,f2,fun i hi=>by rw[g2 i (by omega),g1 i (by omega),o2 i hi]⟩
 rw[g2 _ (by omega),B0 rfl (by omega)]
 rfl
theorem qV {p:Prop} (h:p):p:=h
theorem tU {H:AA} {v:Value} {t:GF} {lo id:Nat} {c0 c1:Int} (ht:IA lo H v t) (hf:H.floor≤H.next) (hg:H.get id=.row [iv c0,iv c1] 36 false false) (hid:id<H.next) (hfi:H.floor≤id) (e x:Int) :
  ∃ H1 H2,A_ Tryd.prog (H.push (.row [Z0,Z0,Z0] 43 false false)) 43 (qP H.next 0) v=some H1 ∧
   A_ Tryd.prog H1 36 (qP id 0) (CD e x)=some H2∧BF 3 0 (H2.get H.next)=some v∧H2.get id=.row [iv e,iv x] 36 false false∧H2.next=H.next+1∧H2.floor=H.floor∧∀ i,i<H.next→i≠id→H2.get i=H.get i:=by
 obtain⟨vv,gv,rv,rfl,h1,h2,h3⟩:=qV ht
 have o1:([vv,gv,rv]:List Value).all one=true:=by simp only[List.all_cons,List.all_nil,AP.one h1,AP.one h2,AP.one h3,Bool.and_self]
 obtain⟨B,s1,gB,nB,fB,oB⟩:=M1 (t:=43) R2 (H:=H) (zs:=[Z0,Z0,Z0]) (vs:=[vv,gv,rv]) rfl rfl o1 hf
 have s2:=JX (h:=B) (id:=id) (vs:=[iv e,iv x]) JS (by rw[oB id hid];exact hg) rfl rfl rfl (by omega)
 have g2:∀ j,j≠id→(B.put id (.row [iv e,iv x] 36 false false)).get j=B.get j:=fun j hj=>AV (by omega) (Ne.symm hj)
 refine⟨_,_,s1,s2,?_,B0 rfl (by omega),nB,fB,fun i hi hne=>by rw[g2 i hne,oB i hi]⟩
 rw[g2 _ (by omega),gB]
 rfl
def KE (R:List AB) (M C:List Int) (i:Nat):List Int:=(JY R M 0 C).take i++C.drop i
section
variable {R:List AB} {M C:List Int} {i:Nat}
theorem S2 (hi:i≤C.length) (k:Nat):(KE R M C i)[k]?=if k<i then (JY R M 0 C)[k]? else C[k]?:=by
 unfold KE
 have hl:((JY R M 0 C).take i).length=i:=by rw[List.length_take,RY];omega
 rw[List.getElem?_append,hl]
 by_cases h:k<i
 ·rw[if_pos h,if_pos h,List.getElem?_take_of_lt h]
 ·rw[if_neg h,if_neg h,List.getElem?_drop,show i+(k-i)=k by omega]
theorem jU (hi:i≤C.length):(KE R M C i).length=C.length:=by
 unfold KE
 rw[List.length_append,List.length_take,RY,List.length_drop]
 omega
theorem Hl:KE R M C 0=C:=by unfold KE;simp
theorem Ef (hi:i<C.length) (hn:M7 R i=true):KE R M C (i+1)=KE R M C i:=by
 apply List.ext_getElem?
 intro k
 rw[S2 (by omega),S2 (by omega)]
 by_cases h:k<i
 ·rw[if_pos (by omega),if_pos h]
 ·by_cases hk:k=i
  ·subst hk
   obtain⟨c,hc⟩:∃ c,C[k]?=some c:=⟨_,List.getElem?_eq_getElem hi⟩
   rw[if_pos (by omega),if_neg h,TR C 0 k hc,Nat.zero_add,if_pos hn,hc]
  ·rw[if_neg (by omega),if_neg h]
theorem wS (hi:i<C.length) (hn:M7 R i=false) {m:Int} (hm:M[i]?=some m):KE R M C (i+1)=(KE R M C i).set i m:=by
 apply List.ext_getElem?
 intro k
 rw[S2 (by omega),List.getElem?_set,jU (by omega)]
 by_cases hk:i=k
 ·subst hk
  obtain⟨c,hc⟩:∃ c,C[i]?=some c:=⟨_,List.getElem?_eq_getElem hi⟩
  rw[if_pos (by omega),if_pos rfl,if_pos hi,TR C 0 i hc,Nat.zero_add,if_neg (by rw[hn];decide),hm]
  rfl
 ·rw[if_neg hk,S2 (by omega)]
  by_cases h:k<i
  ·rw[if_pos (by omega),if_pos h]
  ·rw[if_neg (by omega),if_neg h]
theorem Ih (hi:i≤C.length) (h:C.length≤i∨M.length≤i):KE R M C i=JY R M 0 C:=by
 apply List.ext_getElem?
 intro k
 rw[S2 hi]
 by_cases hk:k<i
 ·rw[if_pos hk]
 ·rw[if_neg hk]
  cases hc:C[k]? with
  | none=>rw[List.getElem?_eq_none (by rw[RY];exact List.getElem?_eq_none_iff.1 hc)]
  | some c=>
   have hlt:=(List.getElem?_eq_some_iff.1 hc).1
   rw[TR C 0 k hc,Nat.zero_add,List.getElem?_eq_none (l:=M) (i:=k) (by omega)]
   simp
end
section
variable {n:Nat} {h:AA}
theorem Ed {l:List AB} {v cv mv:Value} {size sz:Int} {C M:List Int} (hv:A7 h v l) (hc:FK 0 h cv size C) (hm:AX 0 h mv M) (hL:l.length<2932031007403) (hC:C.length<17592186044416) (hfl:h.floor≤h.next) (hg:h.get 0=CW) (hn0:0<h.next) (hn:100000000000000<n) :
  ∃ h',A8 Tryd.prog (R3 n) n 5 [v,cv,mv,iv sz] h=some (.bool true,h')∧True:=by
 obtain⟨vc,rfl,pc⟩:=id hc
 have hsn:=(bG n).2
 refine EL (R:=fun _=>True) Tryd.func5 rfl (by simp[Tryd.f5]) ?_
 have hr:Tryd.f5.results.toList=[.tmp 8]:=rfl
 have cb:=E_ [iv size,vc]
 have ob:[iv size,vc].all one=true:=by simp only[List.all_cons,List.all_nil,AP.one pc,KH,Bool.and_self]
 have zcC:=E_ [iv 0,Z0]
 have gB:=BM (h:=h) (o:=.row [iv size,vc] 29 false false)
 have gO:∀ i,i<h.next→(h.push (.row [iv size,vc] 29 false false)).get i=h.get i:=fun i hi=>AR hi
 have nA:(h.push (.row [iv size,vc] 29 false false)).next=h.next+1:=rfl
 have fA:(h.push (.row [iv size,vc] 29 false false)).floor=h.floor:=rfl
 simp only[eE,seval,↓eP,F5,E9,F6,cb,ob,NO]
 generalize h.push (.row [iv size,vc] 29 false false)=A at *
 have hhd:=Hk (n:=n) (h:=A) (by rw[gO 0 hn0];exact hg)
 obtain⟨v2,H1,hres,pv,rfl,hp,f1,n1,o1⟩:=kX (n:=n) (h:=A) (by omega) (by rw[gO 0 hn0];exact hg) (by omega) (hv.mono (by omega) gO) hL (by omega)
 have hres':=N5 (n:=n) (by decide) hres
 obtain⟨nm,s,hout⟩:∃ nm s,DR l=(nm,s):=⟨_,_,rfl⟩
 have hsm:=(lQ (l:=l) hL).1
 have htot:=(lQ (l:=l) hL).2
 rw[hout] at hp hsm htot
 simp only at hp hsm htot
 obtain⟨vr,vq,vv,vt,vu,vo,rfl,p1,p2,p3,p4,p5,p6⟩:=id hp
 have oa:=KI (nm:=nm) p1 p2 p3 p4 p5 p6
 obtain⟨⟨hc1,h3⟩,s1,s2,rO,n3,f3,o3⟩:=lO (H:=H1) (cs:=[.string nm,vr,vq,vv,vt,vu,vo,iv s.miss]) (e:=(BZ l).1.1) (p:=(BZ l).1.2) rfl oa (by omega)
 simp only at s1 s2 rO n3 f3 o3
 have lF:BF 2 0 (h3.get (H1.next+1))=some (CD (BZ l).1.1 (BZ l).1.2):=by rw[rO.2];rfl
 have lP:BF 8 0 (h3.get H1.next)=some (.agg #[.string nm,vr,vq,vv,vt,vu,vo,iv s.miss]):=MS rO.1 rfl
 have o3A:∀ i,i<A.next→h3.get i=A.get i:=fun i hi=>by rw[o3 i (by omega),o1 i hi]
 have gB3:h3.get h.next=.row [iv size,vc] 29 false false:=by rw[o3A _ (by omega)];exact gB
 simp only[eE,seval,↓eP,hhd,hres',NF,NJ,QR,E2,EZ,F7,CY,s1,s2,Nat.zero_add,EB,lF,MA,i7]
 cases d0:(!((BZ l).1.1==0&&(BZ l).1.2==0)) with
 | true=>
  simp only[eE,seval,↓eP,hr,d0]
 | false=>
 have hok:(BZ l).1.1=0:=by
  simp at d0
  exact d0.1
 have hgood:=hout.symm.trans (S1 hok)
 obtain⟨rfl,rfl⟩:nm=L4 l∧s=(BZ l).2:=by cases hgood;exact⟨rfl,rfl⟩
 have hchk:=Fo hok
 have hpos:0<l.length:=(RR hok).1.pos
 have hlen:(BZ l).2.rows.length=l.length:=(RR hok).2.2.2.2.2.len
 generalize hs:(BZ l).2=s at *
 generalize hnm:L4 l=nm at *
 have x0:AJ 0 (h3.get h.next)=some (iv size):=by rw[gB3];rfl
 have x1:AJ 1 (h3.get h.next)=some vc:=by rw[gB3];rfl
 have pc3:AX 0 h3 vc C:=AX.mono pc (by omega) fun i _ hi=>by rw[o3A i (by omega),gO i hi]
 have q1:∀ a,AJ 1 ((h3.push a).get h.next)=some vc:=fun a=>by rw[AR (by omega)];exact x1
 have hB3:(h.next<h3.next)=True:=by simp;omega
 obtain⟨cc,dd,gg,G1,hap,gD,dlo,dhi,fG,nG,oG⟩:=xN (h:=h3.fl (max h3.floor h3.next)) (v:=vc) (C:=C) (lo:=0) (AX.mono pc3 (by rw[HQ];omega) fun i _ _=>rfl) hC
 simp only[HQ] at hap dlo nG oG
 have oG3:∀ i,i<h3.next→G1.get i=h3.get i:=fun i hi=>oG i hi
 obtain⟨B,stB,gBc,nB,fB,oB⟩:=M1 (t:=29) NO (H:=G1.fl h3.floor) (zs:=[iv 0,Z0]) (vs:=[iv size,qS dd C.length cc]) rfl rfl rfl (by rw[KA,HQ];omega)
 simp only[HQ,KA] at stB gBc nB fB oB
 have hne0:∀ m,(CH (qP G1.next 0) != m)=(CH (qP G1.next 0) != m):=fun _=>rfl
 simp only[eE,seval,↓eP,d0]
 refine WK.flags (fs:=Z3) (by kernel_rfl) ?_
 unfold Z3
 iterate 9
  refine D9 hsn ?_
  simp only[rG,seval,AC,AF,AE,CT,DU,CK,C6,EA,Option.bind_some,IY,K0,NH,AU,DV,x0,x1,q1,hB3,decide_true,tV,hap,xP,eI,cS,zcC,stB,KA,LY,HQ,KS,HY,List.map_cons,List.map_nil]
 refine D4 ?_
 simp only[eE,seval,↓eP]
 have oB3:∀ i,i<h3.next→B.get i=h3.get i:=fun i hi=>by rw[oB i (by omega)];exact oG3 i hi
 have gDB:B.get dd=.row (ints C) 3 gg false:=by rw[oB dd (by omega)];exact gD
 have rP:=rO.1
 have rF:=rO.2
 have lenM:=fun h'=>KQ hm h'
 refine SK (Q:=fun e s'=>e=.exit 0∧s'.T.get 3=iv sz∧s'.T.get 5=qP h.next 0∧s'.T.get 9=qP H1.next 0∧s'.T.get 10=qP (H1.next+1) 0∧s'.T.get 11=qP G1.next 0∧s'.h.next=B.next∧s'.h.floor=B.floor∧(∀ j,j≠dd→s'.h.get j=B.get j)∧s'.h.get dd=.row (ints (JY s.rows M 0 C)) 3 gg false) ?_ ?_
 rotate_left
 ·rintro e ⟨T,H⟩ ⟨rfl,t3,t5,t9,t10,t11,nH,fH,oH,gH⟩
  simp only at t3 t5 t9 t10 t11 nH fH oH gH
  have oH3:∀ j,j<h3.next→H.get j=h3.get j:=fun j hj=>by rw[oH j (by omega),oB3 j hj]
  have hG:=YC hchk
  have hsame:=xK (s:=s) (size:=size) (C:=C) (M:=M) (sz:=sz)
  have hDl:(JY s.rows M 0 C).length=C.length:=RY C 0
  have hsC:=hsame.2 (fun x hx h32=>by
   obtain⟨i,hi⟩:=List.getElem?_of_mem hx
   exact(hG.qn i x hi (by rw[h32];rfl)).1)
  have hsS:=hsame.1
  generalize JY s.rows M 0 C=D at *
  have lPo:∀ H':AA,H'.get H1.next=h3.get H1.next→BF 8 0 (H'.get H1.next)=some (.agg #[.string nm,vr,vq,vv,vt,vu,vo,iv s.miss]):=fun H' e=>by rw[e];exact lP
  have lPH:=lPo H (oH3 _ (by omega))
  have hpH:CO A.next H (.agg #[.string nm,vr,vq,vv,vt,vu,vo,iv s.miss]) nm s:=hp.mono (by omega) fun j _ hj=>by rw[oH3 j (by omega),o3 j (by omega)]
  have kn:=N5 (n:=n) (by decide) (Eu (n:=n) (h:=H) hpH (by omega) (by omega))
  have gHc:H.get G1.next=.row [iv size,qS dd C.length cc] 29 false false:=by rw[oH _ (by omega)];exact gBc
  have stS:=yV (h:=H) (id:=G1.next) (off:=0) (x:=sz) gHc (by simp) (by omega)
  simp only[List.set_cons_zero] at stS
  obtain⟨H',hH1,hH2,nH',fH',oH',gH'⟩:∃ H':AA,(K7 s.rows=true→H'=H)∧(K7 s.rows=false→H.put G1.next (.row [iv sz,qS dd C.length cc] 29 false false)=H')∧H'.next=H.next∧H'.floor=H.floor∧(∀ j,j≠G1.next→H'.get j=H.get j)∧H'.get G1.next=.row [iv (if K7 s.rows=true then size else sz),qS dd C.length cc] 29 false false:=by
   cases dn:K7 s.rows with
   | true=>exact⟨H,fun _=>rfl,fun h9=>by (cases h9),rfl,rfl,fun _ _=>rfl,by simpa using gHc⟩
   | false=>exact⟨_,fun h9=>by (cases h9),fun _=>rfl,rfl,rfl,fun j hj=>AV (by omega) (Ne.symm hj),by rw[B0 rfl (by omega)];simp⟩
  generalize hsz:(if K7 s.rows=true then size else sz)=size' at *
  have oH'3:∀ j,j<h3.next→H'.get j=h3.get j:=fun j hj=>by rw[oH' j (by omega),oH3 j hj]
  have oH'h:∀ j,j<h.next→H'.get j=h.get j:=fun j hj=>by rw[oH'3 j (by omega),o3A j (by omega),gO j hj]
  have hpH':CO A.next H' (.agg #[.string nm,vr,vq,vv,vt,vu,vo,iv s.miss]) nm s:=hp.mono (by omega) fun j _ hj=>by rw[oH'3 j (by omega),o3 j (by omega)]
  have hlies:∀ nm' vr' vq' vv' vt' vu' vo' m,(Value.agg #[.string nm,vr,vq,vv,vt,vu,vo,iv s.miss])=.agg #[.string nm',vr',vq',vv',vt',vu',vo',m]→JN vr' s.rows.length:=by
   intro _ _ _ _ _ _ _ _ e9
   cases e9
   exact Dv p1.1 (by omega)
  have hcH':FK 0 H' (.agg #[iv size,vc]) size C:=hc.mono (by omega) fun j _ hj=>oH'h j hj
  obtain⟨a1,H5,hk1,⟨tv1,rfl,hT1⟩,f5,n5,o5⟩:=fM (n:=n) hpH' hcH' hlies hsm (by omega) hC (by rw[oH'h 0 hn0];exact hg) (by omega) (by omega) (by omega)
  have hk1':=N5 (n:=n) (by decide) hk1
  have gF5:H5.get (H1.next+1)=.row [iv (BZ l).1.1,iv (BZ l).1.2] 36 false false:=by rw[o5 _ (by omega),oH'3 _ (by omega)];exact rF
  obtain⟨E0,E,s1',s2',s3,gFE,nE,fE,oE⟩:=tU hT1 (by omega) gF5 (by omega) (by omega) (C3 nm s size C).1.1 (C3 nm s size C).1.2
  have oE':∀ j,j<H'.next→j≠H1.next+1→E.get j=H'.get j:=fun j hj hne=>by rw[oE j (by omega) hne,o5 j hj]
  have oEh:∀ j,j<h.next→E.get j=h.get j:=fun j hj=>by rw[oE' j (by omega) (by omega),oH'h j hj]
  have hpE:CO A.next E (.agg #[.string nm,vr,vq,vv,vt,vu,vo,iv s.miss]) nm s:=hp.mono (by omega) fun j _ hj=>by rw[oE' j (by omega) (by omega),oH'3 j (by omega),o3 j (by omega)]
  have hID:∀ X:AA,X.get dd=H'.get dd→dd<X.next→AX 0 X (qS dd C.length cc) D:=fun X e1 e2=>AX.row' (by rw[e1,oH' dd (by omega)];exact gH) ⟨Nat.zero_le _,e2⟩ hDl.symm
  have hcE:FK 0 E (.agg #[iv size',qS dd C.length cc]) size' D:=⟨_,rfl,hID E (oE' dd (by omega) (by omega)) (by omega)⟩
  obtain⟨a2,H6,hk2,⟨tv2,rfl,hT2⟩,f6,n6,o6⟩:=fM (n:=n) hpE hcE hlies hsm (by omega) (by omega) (by rw[oEh 0 hn0];exact hg) (by omega) (by omega) (by omega)
  have hk2':=N5 (n:=n) (by decide) hk2
  obtain⟨F0,Fh,w1,w2,w3,g5,nF,fF,oF⟩:=vJ hT2 (by omega) (C3 nm s size' D).1.1 (C3 nm s size' D).1.2
  have oFE:∀ j,j<E.next→Fh.get j=E.get j:=fun j hj=>by rw[oF j (by omega),o6 j hj]
  have oFh:∀ j,j<h.next→Fh.get j=h.get j:=fun j hj=>by rw[oFE j (by omega),oEh j hj]
  have hpF:CO A.next Fh (.agg #[.string nm,vr,vq,vv,vt,vu,vo,iv s.miss]) nm s:=hp.mono (by omega) fun j _ hj=>by rw[oFE j (by omega),oE' j (by omega) (by omega),oH'3 j (by omega),o3 j (by omega)]
  have hcF1:FK 0 Fh (.agg #[iv size,vc]) size C:=hc.mono (by omega) fun j _ hj=>oFh j hj
  have hcF2:FK 0 Fh (.agg #[iv size',qS dd C.length cc]) size' D:=⟨_,rfl,hID Fh (by rw[oFE dd (by omega)];exact oE' dd (by omega) (by omega)) (by omega)⟩
  have hf1:=N5 (n:=n) (by decide) (UF (n:=n) (h:=Fh.fl (max Fh.floor Fh.next)) (hpF.mono (Nat.le_refl _) fun _ _ _=>rfl) (hcF1.mono (Nat.le_refl _) fun _ _ _=>rfl) hlies (by omega) (by show Fh.get 0=_;rw[oFh 0 hn0];exact hg) (by rw[HQ];omega) hsm hC (by rw[HQ,KA];omega) (by omega))
  have hf2:=N5 (n:=n) (by decide) (UF (n:=n) (h:=Fh.fl (max Fh.floor Fh.next)) (hpF.mono (Nat.le_refl _) fun _ _ _=>rfl) (hcF2.mono (Nat.le_refl _) fun _ _ _=>rfl) hlies (by omega) (by show Fh.get 0=_;rw[oFh 0 hn0];exact hg) (by rw[HQ];omega) hsm (by omega) (by rw[HQ,KA];omega) (by omega))
  -- what is loaded
  have lP':=lPo H' (oH'3 _ (by omega))
  have lPE:=lPo E (by rw[oE' _ (by omega) (by omega),oH'3 _ (by omega)])
  have lPF:=lPo Fh (by rw[oFE _ (by omega),oE' _ (by omega) (by omega),oH'3 _ (by omega)])
  have lC':BF 2 0 (H'.get h.next)=some (.agg #[iv size,vc]):=by rw[oH'3 _ (by omega),gB3];rfl
  have lCF:BF 2 0 (Fh.get h.next)=some (.agg #[iv size,vc]):=by rw[oFE _ (by omega),oE' _ (by omega) (by omega),oH'3 _ (by omega),gB3];rfl
  have lDE:BF 2 0 (E.get G1.next)=some (.agg #[iv size',qS dd C.length cc]):=by rw[oE' _ (by omega) (by omega),gH'];rfl
  have lDF:BF 2 0 (Fh.get G1.next)=some (.agg #[iv size',qS dd C.length cc]):=by rw[oFE _ (by omega)];exact lDE
  have z1:AJ 0 (Fh.get (H1.next+1))=some (iv (C3 nm s size C).1.1):=by rw[oFE _ (by omega),gFE];rfl
  have z2:AJ 0 (Fh.get (H6.next+1))=some (iv (C3 nm s size' D).1.1):=by rw[g5];rfl
  have z3:BF 2 0 (Fh.get (H1.next+1))=some (CD (C3 nm s size C).1.1 (C3 nm s size C).1.2):=by rw[oFE _ (by omega),gFE];rfl
  have z4:BF 2 0 (Fh.get (H6.next+1))=some (CD (C3 nm s size' D).1.1 (C3 nm s size' D).1.2):=by rw[g5];rfl
  have z5:BF 3 0 (Fh.get H5.next)=some tv1:=by rw[oFE _ (by omega)];exact s3
  have zcT:zT.cells.toList=[Z0,Z0,Z0]:=rfl
  have hb1:(B_ nm s).1.1=0→(DG nm s size C != 0)=((C3 nm s size C).1.1==45):=fun ht=>by
   have:=OQ (size:=size) (C:=C) hchk
   by_cases h9:(C3 nm s size C).1.1=45
   ·have h8:=(this.1 h9).2
    rw[h9]
    simp[h8]
   ·have h8:DG nm s size C=0:=Decidable.byContradiction fun h7=>h9 (this.2 ⟨ht,h7⟩)
    simp[h8,h9]
  have hb2:(B_ nm s).1.1=0→(DG nm s size' D != 0)=((C3 nm s size' D).1.1==45):=fun ht=>by
   have:=OQ (size:=size') (C:=D) hchk
   by_cases h9:(C3 nm s size' D).1.1=45
   ·have h8:=(this.1 h9).2
    rw[h9]
    simp[h8]
   ·have h8:DG nm s size' D=0:=Decidable.byContradiction fun h7=>h9 (this.2 ⟨ht,h7⟩)
    simp[h8,h9]
  have hq1:(H1.next+1<Fh.next)=True:=by simp;omega
  have hq2:(H1.next<Fh.next)=True:=by simp;omega
  have hq3:(h.next<Fh.next)=True:=by simp;omega
  have hq4:(G1.next<Fh.next)=True:=by simp;omega
  have hq5:(H6.next+1<Fh.next)=True:=by simp;omega
  cases dn:K7 s.rows with
  | true=>
   obtain rfl:=hH1 dn
   cases d1:((C3 nm s size C).1.1==45) with
   | true=>
    have ht:(B_ nm s).1.1=0:=((OQ hchk).1 (by simpa using d1)).1
    have g1:=hb1 ht
    have g2:=hb2 ht
    rw[d1] at g1
    simp only[eE,seval,↓eP,hr,Nat.zero_add,t3,t5,t9,t10,t11,EM,lPH,lP',kn,dn,HB,lC',hk1',MG,M8,zcT,CY,s1',s2',lPE,lDE,hk2',E2,EZ,F7,w1,w2,EP,EQ,z1,z2,d1]
    refine WK.flags (fs:=NQ) (by kernel_rfl) ?_
    unfold NQ
    iterate 21
     refine D9 hsn ?_
     simp only[rG,seval,AC,AF,AE,CT,DU,CK,C6,EA,Option.bind_some,IY,t3,t5,t9,t10,t11,EP,EQ,z1,z2,hq1,hq2,hq3,hq4,hq5,d1,EM,lPF,HB,lCF,lDF,hf1,hf2,MA,VK,g1,g2,N1,BEq.rfl,KA,LY,HQ,KS,HY,List.map_cons,List.map_nil]
    refine D4 ?_
    simp only[eE,seval,↓eP,hr]
   | false=>
   cases d2:((C3 nm s size' D).1.1==45) with
   | true=>
    have ht:(B_ nm s).1.1=0:=((OQ hchk).1 (by simpa using d2)).1
    have g1:=hb1 ht
    have g2:=hb2 ht
    rw[d1] at g1
    rw[d2] at g2
    simp only[eE,seval,↓eP,hr,Nat.zero_add,t3,t5,t9,t10,t11,EM,lPH,lP',kn,dn,HB,lC',hk1',MG,M8,zcT,CY,s1',s2',lPE,lDE,hk2',E2,EZ,F7,w1,w2,EP,EQ,z1,z2,d1,d2]
    refine WK.flags (fs:=NQ) (by kernel_rfl) ?_
    unfold NQ
    iterate 21
     refine D9 hsn ?_
     simp only[rG,seval,AC,AF,AE,CT,DU,CK,C6,EA,Option.bind_some,IY,t3,t5,t9,t10,t11,EP,EQ,z1,z2,hq1,hq2,hq3,hq4,hq5,d1,d2,EM,lPF,HB,lCF,lDF,hf1,hf2,MA,VK,g1,g2,N1,BEq.rfl,KA,LY,HQ,KS,HY,List.map_cons,List.map_nil]
    refine D4 ?_
    simp only[eE,seval,↓eP,hr]
   | false=>
    have hEq:C3 nm s size' D=C3 nm s size C:=oU hchk (by simpa using d1) (by simpa using d2) hsS hsC
    have z4':=z4
    have hT2':=hT2
    rw[hEq] at z4' hT2'
    obtain⟨cl1,cl2,cl3⟩:=kT nm s size C
    have hsT:=N5 (n:=n) (by decide) (g8 (n:=n) (h:=Fh) (hT1.mono (by omega) fun j h1 h2=>by rw[oFE j (by omega),oE j h2 (by omega)]) (hT2'.mono (by omega) fun j h1 h2=>oF j h2) (by omega) (by omega) (by omega) (by omega))
    simp only[eE,seval,↓eP,hr,Nat.zero_add,t3,t5,t9,t10,t11,EM,lPH,lP',kn,dn,HB,lC',hk1',MG,M8,zcT,CY,s1',s2',lPE,lDE,hk2',E2,EZ,F7,w1,w2,EP,EQ,z1,z2,d1,d2,EB,z3,z4',lW,LE,z5,w3,hsT]
  | false=>
   rw[hH2 dn] at stS
   cases d1:((C3 nm s size C).1.1==45) with
   | true=>
    have ht:(B_ nm s).1.1=0:=((OQ hchk).1 (by simpa using d1)).1
    have g1:=hb1 ht
    have g2:=hb2 ht
    rw[d1] at g1
    simp only[eE,seval,↓eP,hr,Nat.zero_add,t3,t5,t9,t10,t11,EM,lPH,lP',kn,dn,HB,lC',hk1',MG,M8,zcT,CY,s1',s2',lPE,lDE,hk2',E2,EZ,F7,w1,w2,EP,EQ,z1,z2,K0,stS,d1]
    refine WK.flags (fs:=NQ) (by kernel_rfl) ?_
    unfold NQ
    iterate 21
     refine D9 hsn ?_
     simp only[rG,seval,AC,AF,AE,CT,DU,CK,C6,EA,Option.bind_some,IY,t3,t5,t9,t10,t11,EP,EQ,z1,z2,hq1,hq2,hq3,hq4,hq5,d1,EM,lPF,HB,lCF,lDF,hf1,hf2,MA,VK,g1,g2,N1,BEq.rfl,KA,LY,HQ,KS,HY,List.map_cons,List.map_nil]
    refine D4 ?_
    simp only[eE,seval,↓eP,hr]
   | false=>
   cases d2:((C3 nm s size' D).1.1==45) with
   | true=>
    have ht:(B_ nm s).1.1=0:=((OQ hchk).1 (by simpa using d2)).1
    have g1:=hb1 ht
    have g2:=hb2 ht
    rw[d1] at g1
    rw[d2] at g2
    simp only[eE,seval,↓eP,hr,Nat.zero_add,t3,t5,t9,t10,t11,EM,lPH,lP',kn,dn,HB,lC',hk1',MG,M8,zcT,CY,s1',s2',lPE,lDE,hk2',E2,EZ,F7,w1,w2,EP,EQ,z1,z2,K0,stS,d1,d2]
    refine WK.flags (fs:=NQ) (by kernel_rfl) ?_
    unfold NQ
    iterate 21
     refine D9 hsn ?_
     simp only[rG,seval,AC,AF,AE,CT,DU,CK,C6,EA,Option.bind_some,IY,t3,t5,t9,t10,t11,EP,EQ,z1,z2,hq1,hq2,hq3,hq4,hq5,d1,d2,EM,lPF,HB,lCF,lDF,hf1,hf2,MA,VK,g1,g2,N1,BEq.rfl,KA,LY,HQ,KS,HY,List.map_cons,List.map_nil]
    refine D4 ?_
    simp only[eE,seval,↓eP,hr]
   | false=>
    have hEq:C3 nm s size' D=C3 nm s size C:=oU hchk (by simpa using d1) (by simpa using d2) hsS hsC
    have z4':=z4
    have hT2':=hT2
    rw[hEq] at z4' hT2'
    obtain⟨cl1,cl2,cl3⟩:=kT nm s size C
    have hsT:=N5 (n:=n) (by decide) (g8 (n:=n) (h:=Fh) (hT1.mono (by omega) fun j h1 h2=>by rw[oFE j (by omega),oE j h2 (by omega)]) (hT2'.mono (by omega) fun j h1 h2=>oF j h2) (by omega) (by omega) (by omega) (by omega))
    simp only[eE,seval,↓eP,hr,Nat.zero_add,t3,t5,t9,t10,t11,EM,lPH,lP',kn,dn,HB,lC',hk1',MG,M8,zcT,CY,s1',s2',lPE,lDE,hk2',E2,EZ,F7,w1,w2,EP,EQ,z1,z2,K0,stS,d1,d2,EB,z3,z4',lW,LE,z5,w3,hsT]
 refine WK.loop (fun i s'=>s'.T.get 2=mv∧s'.T.get 3=iv sz∧s'.T.get 5=qP h.next 0∧s'.T.get 9=qP H1.next 0∧s'.T.get 10=qP (H1.next+1) 0∧s'.T.get 11=qP G1.next 0∧s'.T.get 12=iv (i:Int)∧i≤C.length∧i≤M.length∧s'.h.next=B.next∧s'.h.floor=B.floor∧(∀ j,j≠dd→s'.h.get j=B.get j)∧s'.h.get dd=.row (ints (KE s.rows M C i)) 3 gg false) C.length (by omega) ?_ ?_
 ·exact⟨by simp only[eE,seval,↓eP,rP],by simp only[eE,seval,↓eP,rP],by simp only[eE,seval,↓eP,rP],by simp only[eE,seval,↓eP,rP],by simp only[eE,seval,↓eP,rP],by simp only[eE,seval,↓eP,rP],by simp only[eE,seval,↓eP,rP] <;> rfl,by omega,by omega,rfl,by show h3.floor=B.floor;omega,fun _ _=>rfl,by rw[Hl];exact gDB⟩
 rintro i ⟨T,H⟩ hi9 ⟨t2,t3,t5,t9,t10,t11,t12,hiC,hiM,nH,fH,oH,gH⟩
 simp only at t2 t3 t5 t9 t10 t11 t12 nH fH oH gH
 have oH3:∀ j,j<h3.next→H.get j=h3.get j:=fun j hj=>by rw[oH j (by omega),oB3 j hj]
 have hc1:AJ 1 (H.get G1.next)=some (qS dd C.length cc):=by rw[oH _ (by omega),gBc];rfl
 have lenD:∀ h':AA,CX Tryd.prog h' 27 (qS dd C.length cc)=some (iv (C.length:Int)):=fun h'=>KQ (lo:=0) (h:=B) (AX.row' gDB ⟨Nat.zero_le _,by omega⟩ rfl) h'
 by_cases hlt:i<C.length∧i<M.length
 rotate_left
 ·have gE:H.get dd=.row (ints (JY s.rows M 0 C)) 3 gg false:=by rw[← Ih hiC (by omega)];exact gH
  by_cases hl1:i<C.length
  ·have c1:decide ((i:Int)<(C.length:Int))=true:=by simp;omega
   have c2:decide ((i:Int)<(M.length:Int))=false:=by simp;omega
   simp only[eE,seval,↓eP,Nat.zero_add,t2,t3,t5,t9,t10,t11,t12,NH,DV,hc1,lenD,lenM,c1,c2]
   exact⟨nH,fH,oH,gE⟩
  ·have c1:decide ((i:Int)<(C.length:Int))=false:=by simp;omega
   simp only[eE,seval,↓eP,Nat.zero_add,t2,t3,t5,t9,t10,t11,t12,NH,DV,hc1,lenD,lenM,c1]
   exact⟨nH,fH,oH,gE⟩
 obtain⟨hlC,hlM⟩:=hlt
 have c1:decide ((i:Int)<(C.length:Int))=true:=by simp;omega
 have c2:decide ((i:Int)<(M.length:Int))=true:=by simp;omega
 have w1:=EU i (by omega)
 have lPH:BF 8 0 (H.get H1.next)=some (.agg #[.string nm,vr,vq,vv,vt,vu,vo,iv s.miss]):=by rw[oH3 _ (by omega)];exact lP
 have hpH:CO A.next H (.agg #[.string nm,vr,vq,vv,vt,vu,vo,iv s.miss]) nm s:=hp.mono (by omega) fun j _ hj=>by rw[oH3 j (by omega),o3 j (by omega)]
 have kn:=N5 (n:=n) (by decide) (uT (n:=n) (h:=H) (q:=i) hpH (by omega) (by omega))
 obtain⟨m,hm1⟩:∃ m,M[i]?=some m:=⟨_,List.getElem?_eq_getElem hlM⟩
 have hmH:AX 0 H mv M:=AX.mono hm (by omega) fun j _ hj=>by rw[oH3 j (by omega),o3A j (by omega),gO j hj]
 obtain⟨idm,pm,em,hidm,lm⟩:=AX.get hmH hm1
 have ix:=FB (id:=dd) (n:=C.length) (c:=cc) (i:=i) hlC
 cases dn:M7 s.rows i with
 | true=>
  simp only[eE,seval,↓eP,Nat.zero_add,t2,t3,t5,t9,t10,t11,t12,NH,DV,hc1,lenD,lenM,c1,c2,EM,lPH,kn,dn,w1]
  exact⟨by omega,by omega,by omega,nH,fH,oH,by rw[Ef hlC dn];exact gH⟩
 | false=>
 have stH:A_ Tryd.prog H 3 (qP dd i) (iv m)=some (H.put dd (.row (ints ((KE s.rows M C i).set i m)) 3 gg false)):=MQ gH (by rw[jU (by omega)];exact hlC) (by omega)
 have hl1:(G1.next<H.next)=True:=by simp;omega
 have hl2:(idm<H.next)=True:=by simp;omega
 have hl3:(dd<H.next)=True:=by simp;omega
 simp only[eE,seval,↓eP,Nat.zero_add,t2,t3,t5,t9,t10,t11,t12,NH,DV,hc1,lenD,lenM,c1,c2,EM,lPH,kn,dn]
 refine WK.flags (fs:=cI) (by kernel_rfl) ?_
 unfold cI
 iterate 9
  refine D9 hsn ?_
  simp only[rG,seval,AC,AF,AE,CT,DU,CK,C6,EA,Option.bind_some,IY,t2,t3,t5,t9,t10,t11,t12,NH,AU,DV,hc1,hl1,hl2,hl3,ix,em,lm,stH,KA,LY,HQ,KS,HY]
 refine D4 ?_
 simp only[eE,seval,↓eP,t2,t3,t5,t9,t10,t11,t12,w1]
 exact⟨by omega,by omega,by omega,nH,fH,fun j hj=>by rw[AV (by omega) (Ne.symm hj)];exact oH j hj,by rw[wS hlC dn hm1];exact B0 rfl (by omega)⟩
end
end Go.Proofs.YtdejoodfeljmkaaDoor
namespace Go.Proofs.YtdejoodfeljmkaaDoor
open Go Go.Sx Go.ChangeShapes Go.WideShapes Go.ChangeAt Go.RowKit
set_option maxRecDepth 100000
set_option linter.unusedSimpArgs false
set_option linter.unusedVariables false
set_option maxHeartbeats 64000000
section
variable {α:Type} {cells:α→List Value} {w:Nat} {l:List α}
theorem uD (hcl:∀ x,(cells x).length=w):(l.flatMap cells).length=l.length*w:=by
 induction l with
 | nil=>simp
 | cons x l ih=>
  rw[List.flatMap_cons,List.length_append,ih,hcl,List.length_cons,Nat.succ_mul]
  omega
theorem mZ (hcl:∀ x,(cells x).length=w):∀ {l:List α} {i j:Nat} {x:α},l[i]?=some x→j<w→(l.flatMap cells)[i*w+j]?=(cells x)[j]?
 | [],i,j,x,h,_=>by simp at h
 | y :: l,0,j,x,h,hj=>by
  cases h
  rw[List.flatMap_cons,Nat.zero_mul,Nat.zero_add,List.getElem?_append_left (by rw[hcl];exact hj)]
 | y :: l,i+1,j,x,h,hj=>by
  have h':l[i]?=some x:=h
  rw[List.flatMap_cons,List.getElem?_append_right (by rw[hcl,Nat.succ_mul];omega),hcl,← mZ hcl h' hj]
  congr 1
  rw[Nat.succ_mul]
  omega
end
def G7 (W:World) (v:Value) (n w:Nat) (cs:List Value):Prop:=cs.length=n*w∧((n=0∧v=Z0) ∨
 ∃ b off cap CS ty fr,v=.slice (some ⟨b,off,none⟩) n cap∧n≤cap∧cap<AO∧W.heap[b]?=some (.cells CS ty fr)∧∀ k,k<n*w→CS[off+k]?=cs[k]?)
section
variable {H:Type} {enc:TypeId × Value→H} {W:World} {base b0:Nat} {sp:Nat→Bool} {hd:Bool}
theorem NT {α:Type} {cells:α→List Value} {Q:α→Prop} {w:Nat} {t e:TypeId} (ht:Tryd.prog.underlying t=some (.slice e)) (hw:Tryd.prog.cellsOf e=w)
  (hopen:∀ n cs y,DataW.trod enc Tryd.prog W base sp hd n e cs=some y→∃ x,cs=cells x∧Q x) (hcl:∀ x,(cells x).length=w) (hw0:0<w)
  {v:Value} {n:Nat} {y:DataW H × List MemPlace} (hval:Cell.okWide Tryd.prog W .any b0 t v) (h:DataW.trod enc Tryd.prog W base sp hd n t [v]=some y):∃ l:List α,(∀ x∈l,Q x)∧G7 W v l.length w (l.flatMap cells):=by
 rcases DataW.trod_slice ht h with⟨h1,h2⟩ | ⟨a',len,cap,elems,rest,n',_,h1,_,hb,hl,hm,hlen,hel,_⟩
 ·cases h1
  exact⟨[],fun x hx=>(by cases hx),by simp,.inl ⟨rfl,rfl⟩⟩
 ·cases h1
  simp only[Cell.okWide,ht,Cell.ok] at hval
  obtain⟨_,_,_,hsp,row,cells',hsh,_⟩:=hval
  obtain⟨b,off,spot⟩:=a'
  simp only at hsp
  subst hsp
  have hblk:∃ CS ty fr,W.heap[b]?=some (.cells CS ty fr):=by
   simp only[World.shape?] at hsh
   split at hsh
   ·rename_i CS ty fr hh;exact⟨_,_,_,hh⟩
   ·cases hsh
  obtain⟨CS,ty,fr,hblk⟩:=hblk
  have each:∀ i,i<len→∃ x:α,Q x∧∀ j,j<w→CS[off+(i*w+j)]?=(cells x)[j]?:=fun i hi=>by
   have:=hel i hi
   obtain⟨y,hy⟩:∃ y,elems[i]?=some y:=⟨_,List.getElem?_eq_getElem (by omega)⟩
   rw[hy,cG,hw,Option.bind_eq_some_iff] at this
   obtain⟨cs,hcs,ht⟩:=this
   obtain⟨x,rfl,hx⟩:=hopen _ _ _ ht
   obtain⟨_,hc⟩:=lI hcs
   refine⟨x,hx,fun j hj=>?_⟩
   rw[← hc j hj,← Nat.add_assoc]
   simp only[World.cell?,hblk,Option.isSome_none,Bool.false_eq_true,if_false]
  obtain⟨l,hll,hl1⟩:∃ l:List α,l.length=len∧∀ i x,l[i]?=some x→Q x∧∀ j,j<w→CS[off+(i*w+j)]?=(cells x)[j]?:=by
   have : ∀ m,m≤len→∃ l:List α,l.length=m∧∀ i x,l[i]?=some x→Q x∧∀ j,j<w→CS[off+(i*w+j)]?=(cells x)[j]?:=by
    intro m
    induction m with
    | zero=>exact fun _=>⟨[],rfl,fun i x h=>by simp at h⟩
    | succ m ih=>
     intro hm
     obtain⟨l,h1,h2⟩:=ih (by omega)
     obtain⟨x,hx⟩:=each m (by omega)
     refine⟨l++[x],by simp[h1],fun i y hy=>?_⟩
     rcases Nat.lt_or_ge i l.length with h3 | h3
     ·rw[List.getElem?_append_left h3] at hy
      exact h2 i y hy
     ·rw[List.getElem?_append_right h3] at hy
      have:i-l.length=0:=by
       rcases Nat.eq_zero_or_pos (i-l.length) with h4 | h4
       ·exact h4
       ·rw[List.getElem?_eq_none (by simp;omega)] at hy
        cases hy
      rw[this] at hy
      cases hy
      have:i=m:=by omega
      subst this
      exact hx
   exact this len (Nat.le_refl _)
  unfold maxLen at hm
  refine⟨l,fun x hx=>?_,uD hcl,.inr ⟨b,off,cap,CS,ty,fr,by rw[hll],by omega,by unfold AO;omega,hblk,fun k hk=>?_⟩⟩
  ·obtain⟨i,hi⟩:=List.getElem?_of_mem hx
   exact(hl1 i x hi).1
  ·have hdm:=Nat.div_add_mod k w
   rw[Nat.mul_comm] at hdm
   have hj:=Nat.mod_lt k hw0
   have hi:k/w<l.length:=(Nat.div_lt_iff_lt_mul hw0).2 hk
   have hx:=List.getElem?_eq_getElem hi
   rw[← hdm,(hl1 _ _ hx).2 _ hj,mZ hcl hx hj]
end
structure MT where
 v:Value
 n:Nat
 w:Nat
 cs:List Value
 ty:TypeId
noncomputable def IM:AA→List MT→AA
 | h,[]=>h
 | h,p :: ps=>IM (h.push (.row p.cs p.ty false true)) ps
theorem ZB:∀ (ps:List MT) (h:AA),(IM h ps).next=h.next+ps.length∧(IM h ps).floor=h.floor∧∀ i,i<h.next→(IM h ps).get i=h.get i
 | [],h=>⟨rfl,rfl,fun _ _=>rfl⟩
 | p :: ps,h=>by
  obtain⟨h1,h2,h3⟩:=ZB ps (h.push (.row p.cs p.ty false true))
  rw[CY] at h1 h3
  refine⟨by show (IM _ ps).next=_;rw[h1,List.length_cons];omega,h2,fun i hi=>?_⟩
  show (IM _ ps).get i=_
  rw[h3 i (by omega),AR hi]
theorem eA:∀ {ps:List MT} {h:AA} {i:Nat} {p:MT},ps[i]?=some p→(IM h ps).get (h.next+i)=.row p.cs p.ty false true
 | [],h,i,p,hp=>by simp at hp
 | q :: ps,h,0,p,hp=>by
  cases hp
  show (IM _ ps).get h.next=_
  rw[(ZB ps _).2.2 _ (by rw[CY];omega),BM]
 | q :: ps,h,i+1,p,hp=>by
  have:=eA (ps:=ps) (h:=h.push (.row q.cs q.ty false true)) (i:=i) (p:=p) hp
  rw[CY] at this
  show (IM _ ps).get (h.next+(i+1))=_
  rw[← this]
  congr 1
  omega
def M5 (p:MT):Go.Sx.Loc:=match p.v with
 | .slice (some a) _ _=>⟨a.block,a.off,0,0⟩
 | _=>⟨0,0,0,0⟩
def QN (ps:List MT):BA:=fun i=>if i=0 then some ⟨0,0,0,0⟩ else (ps[i-1]?).map M5
def QP (i:Nat) (p:MT):Value:=match p.v with
 | .slice (some _) n c=>qS i n c
 | v=>v
theorem aF {ps:List MT} {i:Nat} {p:MT} (h:ps[i]?=some p):QN ps (i+1)=some (M5 p):=by
 unfold QN
 rw[if_neg (by omega),Nat.add_sub_cancel,h]
 rfl
theorem aS {W : World} (h : laidMetH Tryd.prog [("winnow/lex.words", Rows.laid_winnow_lex_words)] W) {ps : List MT} (hps : ∀ p ∈ ps, G7 W p.v p.n p.w p.cs ∧ ∀ v ∈ p.cs, BI v = true) :
  BP Tryd.prog (QN ps) (IM JE ps) W∧(∀ i,¬ wr ((IM JE ps).get i))∧(IM JE ps).next=ps.length+1∧(IM JE ps).floor=0∧(IM JE ps).get 0=CW ∧
   ∀ (i:Nat) p,ps[i]?=some p→AI (QN ps) (QP (i+1) p) p.v∧AP 0 (IM JE ps) (QP (i+1) p) p.n p.w p.cs:=by
 obtain⟨hn,hf,ho⟩:=ZB ps JE
 have h01:JE.next=1:=rfl
 rw[h01] at hn ho
 obtain⟨CS0,ty0,fr0,hb0,hcs0⟩:=aA (zs:=GG) (rest:=[]) Y_ bT Tryd.underlying126 Tryd.underlying9 bK ZR h
 have hget:∀ (i:Nat) p,ps[i]?=some p→(IM JE ps).get (i+1)=.row p.cs p.ty false true:=fun i p hp=>by
  have:=eA (h:=JE) hp
  rw[h01,Nat.add_comm] at this
  exact this
 have hro:=UP (P:=Tryd.prog) (W:=W) (ρ:=QN ps) (h:=IM JE ps) rfl (fun i hi=>by
   unfold QN
   rw[if_neg (by omega),List.getElem?_eq_none (by omega)]
   rfl) (fun g hg=>by
   rw[WV] at hg
   obtain rfl:g=0:=by omega
   exact⟨_,rfl,rfl,rfl⟩) (fun i hi=>by
   rw[hn] at hi
   cases i with
   | zero=>
    refine⟨K6,9,false,⟨0,0,0,0⟩,CS0,ty0,fr0,(ho 0 (by omega)).trans rfl,rfl,hb0,fun k v hv=>⟨v,?_,?_⟩⟩
    ·have:CS0.toList[k]?=some v:=by rw[hcs0];exact hv
     simpa using this
    ·have hm:v∈K6:=List.mem_of_getElem? hv
     obtain⟨z,_,rfl⟩:=List.mem_map.1 hm
     exact .flat rfl
   | succ i=>
    obtain⟨p,hp⟩:∃ p,ps[i]?=some p:=⟨_,List.getElem?_eq_getElem (by omega)⟩
    obtain⟨⟨hl,hor⟩,hfl⟩:=hps p (List.mem_of_getElem? hp)
    rcases hor with⟨h0,hv⟩ | ⟨b,off,cap,CS,ty,fr,hv,h1,h2,h3,h4⟩
    ·refine⟨p.cs,p.ty,false,M5 p,CS0,ty0,fr0,hget i p hp,aF hp,by unfold M5;rw[hv];exact hb0,fun k v hk=>?_⟩
     have:=(List.getElem?_eq_some_iff.1 hk).1
     rw[hl,h0,Nat.zero_mul] at this
     omega
    ·refine⟨p.cs,p.ty,false,M5 p,CS,ty,fr,hget i p hp,aF hp,by unfold M5;rw[hv];exact h3,fun k v hk=>⟨v,?_,.flat (hfl v (List.mem_of_getElem? hk))⟩⟩
     have hkl:=(List.getElem?_eq_some_iff.1 hk).1
     have e:(M5 p).d=off:=by unfold M5;rw[hv]
     rw[e,h4 k (by omega)]
     exact hk)
 refine⟨hro.1,hro.2,by omega,hf,(ho 0 (by omega)).trans rfl,fun i p hp=>?_⟩
 obtain⟨⟨hl,hor⟩,hfl⟩:=hps p (List.mem_of_getElem? hp)
 have hil:=(List.getElem?_eq_some_iff.1 hp).1
 rcases hor with⟨h0,hv⟩ | ⟨b,off,cap,CS,ty,fr,hv,h1,h2,h3,h4⟩
 ·have e:QP (i+1) p=Z0:=by unfold QP;rw[hv]
  have ecs:p.cs=[]:=List.length_eq_zero_iff.1 (by rw[hl,h0,Nat.zero_mul])
  rw[e,hv,ecs,h0]
  exact⟨.flat rfl,AP.nil _ _ _⟩
 ·have e:QP (i+1) p=qS (i+1) p.n cap:=by unfold QP;rw[hv]
  have eL:M5 p=⟨b,off,0,0⟩:=by unfold M5;rw[hv]
  rw[e]
  refine⟨?_,AP.rowR (ex:=[]) (by rw[List.append_nil];exact hget i p hp) ⟨Nat.zero_le _,by omega⟩ hl fun h=>absurd h (Nat.lt_irrefl 0)⟩
  rw[hv]
  exact AI.slice (L:=⟨b,off,0,0⟩) (by rw[aF hp,eL]) h2
theorem PI:Tryd.prog.cellsOf 26=1∧Tryd.prog.cellsOf 30=1∧Tryd.prog.cellsOf 31=1∧Tryd.prog.cellsOf 27=1:=⟨by kernel_rfl,by kernel_rfl,by kernel_rfl,by kernel_rfl⟩
theorem bC (l:List Int):l.flatMap (fun x=>[iv x])=ints l:=by
 induction l with
 | nil=>rfl
 | cons x l ih=>rw[List.flatMap_cons,ih];rfl
section
variable {H:Type} {enc:TypeId × Value→H} {W:World} {base b0:Nat} {sp:Nat→Bool} {hd:Bool}
theorem QX {n:Nat} {cs:List Value} {y:DataW H × List MemPlace} (h:DataW.trod enc Tryd.prog W base sp hd n 3 cs=some y):∃ x:Int,cs=[iv x]∧(-9223372036854775808≤x∧x≤9223372036854775807):=by
 obtain⟨a,ha,_,wa⟩:=DataW.trod_int Tryd.underlying3 h
 exact⟨a,ha,bounds_i64 wa⟩
end
section
variable {H:Type} {enc:TypeId × Value→H} {W:World} {base b0:Nat} {sp:Nat→Bool} {hd:Bool} {v:Value} {d:DataW H} {p:List MemPlace}
theorem Cy (hval:Value.okWide Tryd.prog W .any b0 26 v) (h:DataW.Trod enc Tryd.prog W base sp hd 26 v d p):∃ l:List AB,(∀ x∈l,PZ x)∧G7 W v l.length 5 (l.flatMap AW):=by
 obtain⟨a,len,cap,rfl⟩:=okWide_slice Tryd.underlying26 hval
 obtain⟨fuel,hf⟩:=h
 have hc:Cell.okWide Tryd.prog W .any b0 26 (.slice a len cap):=by simpa only[Value.okWide,Tryd.underlying26] using hval
 exact NT Tryd.underlying26 XB (fun n cs y h=>XJ h) (fun _=>rfl) (by decide) hc hf
theorem Ia (hval:Value.okWide Tryd.prog W .any b0 27 v) (h:DataW.Trod enc Tryd.prog W base sp hd 27 v d p):∃ l:List Int,G7 W v l.length 1 (ints l):=by
 obtain⟨a,len,cap,rfl⟩:=okWide_slice Tryd.underlying27 hval
 obtain⟨fuel,hf⟩:=h
 have hc:Cell.okWide Tryd.prog W .any b0 27 (.slice a len cap):=by simpa only[Value.okWide,Tryd.underlying27] using hval
 obtain⟨l,_,hl⟩:=NT (cells:=fun x:Int=>[iv x]) Tryd.underlying27 M_ (fun n cs y h=>QX h) (fun _=>rfl) (by decide) hc hf
 rw[bC] at hl
 exact⟨l,hl⟩
end
theorem G7.slS {W:World} {v:Value} {n w:Nat} {cs:List Value} (h:G7 W v n w cs):∃ a c,v=.slice a n c:=by
 obtain⟨_,⟨rfl,rfl⟩ | ⟨b,off,cap,CS,ty,fr,rfl,_⟩⟩:=h
 ·exact⟨_,_,rfl⟩
 ·exact⟨_,_,rfl⟩
theorem Ad:Tryd.prog.cellsOf 29=2:=by kernel_rfl
theorem Ft:Tryd.prog.cellTypes Tryd.prog.depth 29=some [3,27]:=by kernel_rfl
theorem cU:Tryd.prog.bytesOf 3=8:=by kernel_rfl
theorem rA:Tryd.prog.bytesOf 61=48:=by kernel_rfl
def lZ (W:World) (v:Value) (size:Int) (C:List Int):Prop:=∃ vc,v=.agg #[iv size,vc]∧G7 W vc C.length 1 (ints C)
section
variable {H:Type} {enc:TypeId × Value→H} {W:World} {base b0:Nat} {sp:Nat→Bool} {hd:Bool}
theorem cD {t e:TypeId} (ht:Tryd.prog.underlying t=some (.slice e)) {n m:Nat} {v:Value} {cs:List Value} {w:Nat} (hv:G7 W v m w cs) {y:DataW H × List MemPlace} (h:DataW.trod enc Tryd.prog W base sp hd n t [v]=some y)
  (hw:(DataW.weights Tryd.prog t y.1).all (· ≤ reachBytes)=true):m*Tryd.prog.bytesOf e≤reachBytes:=by
 obtain⟨a,c,rfl⟩:=hv.slS
 rcases DataW.trod_slice ht h with⟨h1,h2⟩ | ⟨a',len,cap,elems,rest,n',_,h1,h2,_,_,_,hlen,_⟩
 ·cases h1
  rw[Nat.zero_mul]
  exact Nat.zero_le _
 ·cases h1
  subst h2
  simp only[DataW.weights,ht,List.all_cons,Bool.and_eq_true,decide_eq_true_eq,List.length_map] at hw
  exact Nat.le_trans (Nat.mul_le_mul_right _ (by omega)) hw.1
theorem qC {v:Value} {l:List AB} {d:DataW H} {p:List MemPlace} (hv:G7 W v l.length 5 (l.flatMap AW)) (h:DataW.Trod enc Tryd.prog W base sp hd 26 v d p) (hw:(DataW.weights Tryd.prog 26 d).all (· ≤ reachBytes)=true):l.length<2932031007403:=by
 obtain⟨fuel,hf⟩:=h
 have hcs:v.cells.toList=[v]:=by
  obtain⟨a,c,rfl⟩:=hv.slS
  rfl
 rw[hcs] at hf
 have:=cD Tryd.underlying26 hv hf hw
 rw[rA] at this
 unfold reachBytes at this
 omega
theorem Bf {v:Value} {d:DataW H} {p:List MemPlace} (hval:Value.okWide Tryd.prog W .any b0 29 v) (h:DataW.Trod enc Tryd.prog W base sp hd 29 v d p):∃ size C,lZ W v size C∧((DataW.weights Tryd.prog 29 d).all (· ≤ reachBytes)=true→C.length<17592186044416):=by
 simp only[Value.okWide,Tryd.underlying29] at hval
 obtain⟨CS,rfl,hsz,ts,hts,_,hcell⟩:=hval
 rw[Ft] at hts
 cases hts
 obtain⟨fuel,hf⟩:=h
 have hcs:(Value.agg CS).cells.toList=CS.toList:=rfl
 rw[hcs] at hf
 obtain⟨xs,m,_,hx,hl,hxl,hf⟩:=DataW.trod_struct Tryd.underlying29 hf
 rw[Ad] at hl
 obtain⟨c0,c1,hcs⟩:∃ c0 c1,CS.toList=[c0,c1]:=by
  match CS.toList,hl with
  | [a,b],_=>exact⟨a,b,rfl⟩
 obtain rfl:CS=#[c0,c1]:=by cases CS;simp_all
 have hxl:xs.length=2:=hxl
 obtain⟨y0,y1,rfl⟩:∃ y0 y1,xs=[y0,y1]:=by
  match xs,hxl with
  | [a,b],_=>exact⟨a,b,rfl⟩
 have f0:DataW.trod enc Tryd.prog W base sp hd m 3 (([c0,c1].drop 0).take (Tryd.prog.cellsOf 3))=some y0:=hf 0 _ rfl
 rw[M_] at f0
 have f1:DataW.trod enc Tryd.prog W base sp hd m 27 (([c0,c1].drop 1).take (Tryd.prog.cellsOf 27))=some y1:=hf 1 _ rfl
 rw[PI.2.2.2] at f1
 have hc:Cell.okWide Tryd.prog W .any b0 27 c1:=by
  obtain⟨u',h1,h2⟩:=hcell 1 c1 rfl
  have:u'=27:=Option.some.inj (h1.symm.trans rfl)
  subst this
  exact h2
 obtain⟨a,ha,wa⟩:=QX f0
 obtain rfl:c0=iv a:=by simpa using ha
 obtain⟨l,hQ,sl⟩:=NT (cells:=fun x:Int=>[iv x]) Tryd.underlying27 M_ (fun n cs y h=>QX h) (fun _=>rfl) (by decide) hc f1
 rw[bC] at sl
 refine⟨a,l,⟨c1,rfl,sl⟩,fun hw=>?_⟩
 have e:d=.agg ([y0,y1].map (·.1)):=congrArg (·.1) hx
 rw[e] at hw
 have e2:DataW.weights Tryd.prog 29 (.agg ([y0,y1].map (·.1)))=DataW.weights Tryd.prog 3 y0.1++(DataW.weights Tryd.prog 27 y1.1++[]):=by
  simp only[DataW.weights,Tryd.underlying29]
  rfl
 rw[e2,List.all_append,List.append_nil,Bool.and_eq_true] at hw
 have:=cD Tryd.underlying27 sl f1 hw.2
 rw[cU] at this
 unfold reachBytes at this
 omega
end
theorem Bj {W : World} (h : laidMetH Tryd.prog [("winnow/lex.words", Rows.laid_winnow_lex_words)] W) {v w u : Value} {l : List AB} {size : Int} {C B : List Int} (hv : G7 W v l.length 5 (l.flatMap AW)) (hw : lZ W w size C) (hu : G7 W u B.length 1 (ints B)) :
  ∃ hp ρ sv sw su,BP Tryd.prog ρ hp W∧(∀ i,¬ wr (hp.get i))∧AI ρ sv v∧AI ρ sw w∧AI ρ su u∧A7 hp sv l∧FK 0 hp sw size C∧AX 0 hp su B∧hp.floor=0∧hp.get 0=CW∧0<hp.next:=by
 obtain⟨vc,rfl,hc⟩:=hw
 have hR:=aS h (ps:=[⟨v,_,_,_,61⟩,⟨vc,_,_,_,3⟩,⟨u,_,_,_,3⟩]) (fun p hp=>by
  simp only[List.mem_cons,List.not_mem_nil,or_false] at hp
  rcases hp with rfl | rfl | rfl
  ·refine⟨hv,fun v hv=>?_⟩
   obtain⟨x,_,hx⟩:=List.mem_flatMap.1 hv
   obtain⟨j,hj⟩:=List.getElem?_of_mem hx
   exact WH hj
  ·refine⟨hc,fun v hv=>?_⟩
   obtain⟨x,_,rfl⟩:=List.mem_map.1 hv
   rfl
  ·refine⟨hu,fun v hv=>?_⟩
   obtain⟨x,_,rfl⟩:=List.mem_map.1 hv
   rfl)
 obtain⟨r1,r2,r3,r4,r5,r6⟩:=hR
 obtain⟨a0,b0⟩:=r6 0 _ rfl
 obtain⟨a1,b1⟩:=r6 1 _ rfl
 obtain⟨a2,b2⟩:=r6 2 _ rfl
 exact⟨_,_,_,.agg #[iv size,_],_,r1,r2,a0,.agg (.cons (.flat rfl) (.cons a1 .nil)),a2,(HJ.of b0).1,⟨_,rfl,b1⟩,b2,r4,r5,by omega⟩
end Go.Proofs.YtdejoodfeljmkaaDoor
