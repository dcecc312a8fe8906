/- Part 12 of what the claim leans on: 18 texts laid one behind another. -/
import Derived.Test.YtdejoodfeljmkaaDoorTO11
namespace Go.Proofs.YtdejoodfeljmkaaDoor
open Go Go.Sx
set_option maxRecDepth 100000
set_option linter.unusedSimpArgs false
set_option linter.unusedVariables false
set_option maxHeartbeats 64000000
def F2 (e:TypeId) (h:AA) (lo:Nat) (v:Value) (n:Nat) (cs:List Value):Prop:=
 (v=Z0∧n=0∧cs=[])∨∃ id,v=qS id n AP∧lo≤id∧id<h.next∧h.get id=.row cs e true false
theorem F2.mono {e:TypeId} {h h':AA} {lo:Nat} {v:Value} {n:Nat} {cs:List Value} (hl:F2 e h lo v n cs) (hn:h.next≤h'.next) (hg:∀ i,i<h.next→(∃ cs' g,h.get i=.row cs' e g false)→lo≤i→h'.get i=h.get i):F2 e h' lo v n cs:=by
 rcases hl with h1 | ⟨id,h1,h2,h3,h4⟩
 ·exact .inl h1
 ·exact .inr ⟨id,h1,h2,by omega,by rw[hg id h3 ⟨_,_,h4⟩ h2];exact h4⟩
theorem F2.cells {e:TypeId} {h:AA} {lo lo':Nat} {v:Value} {n w:Nat} {cs:List Value} (hl:F2 e h lo v n cs) (hw:cs.length=n*w) (hle:lo'≤lo):AM lo' h v n w cs:=by
 rcases hl with⟨rfl,rfl,rfl⟩ | ⟨id,rfl,h2,h3,h4⟩
 ·exact⟨by simp,_,_,rfl,.inl ⟨rfl,rfl⟩⟩
 ·exact⟨hw,_,_,rfl,.inr ⟨id,0,cs,e,true,false,rfl,h4,by omega,by rw[List.drop_zero,List.take_of_length_le (by omega)],fun _=>rfl⟩⟩
section
variable {P:Program} {t e:TypeId} {w b:Nat} {z:Value} {h:AA}
theorem jG (ht:P.underlying t=some (.slice e)) (he:BN P e=some w) (hb:GW P e=some b) (hz:DC P e=some z) (hzc:z.cells.size=w) (hw:0<w) (hbb:b≤32) {lo n:Nat} {v:Value} {cs new:List Value} (hl:F2 e h lo v n cs) (hcl:cs.length=n*w) (hco:cs.all one=true) (hnl:new.length=w) (hno:new.all one=true) (hlo:lo≤h.next) (hf:h.floor≤lo) (hn:n<2932031007403) :
  ∃ v' h',C_ P (h.push (.row new e false false)) t v (qS h.next 1 1)=some (v',h')∧F2 e h' lo v' (n+1) (cs++new)∧h'.floor=h.floor∧h.next≤h'.next∧∀ i,i<h.next→(i<lo∨∃ cs' e' g,e'≠e∧h.get i=.row cs' e' g false)→h'.get i=h.get i:=by
 have hsrc:DB (h.push (.row new e false false)) w 1 (qS h.next 1 1)=some new:=by
  simp only[DB,BM,FI,List.drop_zero,Nat.one_mul]
  rw[if_neg (by decide),List.take_of_length_le (by omega),if_pos hnl]
 have hb1:(n+1)*b≤(n+1)*32:=Nat.mul_le_mul_left _ hbb
 rcases hl with⟨rfl,rfl,rfl⟩ | ⟨id,rfl,h1,h2,hg⟩
 ·have hnu:(0:Nat)≠AP:=by unfold AP;omega
  refine⟨.slice (some ⟨(h.push (.row new e false false)).next,0,none⟩) (0+1) AP,(h.push (.row new e false false)).push (.row ([]++new) e true false),?_,.inr ⟨_,rfl,?_,?_,BM⟩,rfl,by show h.next≤h.next+1+1;omega,fun i hi _=>?_⟩
  ·have h0:DB (h.push (.row new e false false)) w 0 (Z0)=some []:=by simp[DB]
   simp only[C_,ht,he,hb,hz,hsrc,hno,h0]
   rw[if_pos (by simp[hzc,hw]),if_pos trivial,if_neg hnu,if_neg (by omega),if_pos (by simp;omega)]
  ·show lo≤h.next+1;omega
  ·show h.next+1<h.next+1+1;omega
  ·rw[AQ (by show i<h.next+1;omega),AQ (by omega)]
 ·have hu:n≤AP:=by unfold AP;omega
  have hg':(h.push (.row new e false false)).get id=.row cs e true false:=by rw[AQ h2];exact hg
  have hcut:FI cs 0 (n*w)=some cs:=by
   simp only[FI,List.drop_zero]
   rw[List.take_of_length_le (by omega),if_pos (by omega)]
  refine⟨.slice (some ⟨(h.push (.row new e false false)).next,0,none⟩) (n+1) AP,((h.push (.row new e false false)).put id .dead).push (.row (cs++new) e true false),?_,.inr ⟨_,rfl,?_,?_,BM⟩,rfl,by show h.next≤h.next+1+1;omega,fun i hi hi2=>?_⟩
  ·simp only[C_,ht,he,hb,hz,hsrc,hno,hg',hcut,hco]
   rw[if_pos (by simp[hzc,hw];omega),if_pos trivial,if_pos trivial,if_pos (by rw[IV,decide_eq_true (show (n+1)*b≤140737488355328 by omega),decide_eq_true (show n+1≤140737488355328 by omega),decide_eq_true (show h.floor≤id by omega)];rfl),if_neg (by decide),if_pos trivial,if_pos trivial]
  ·show lo≤h.next+1;omega
  ·show h.next+1<h.next+1+1;omega
  ·have hne:id≠i:=by
    rintro rfl
    rcases hi2 with h9 | ⟨cs',e',g,h8,h9⟩
    ·omega
    ·rw[hg] at h9
     injection h9 with _ h7
     exact h8 h7.symm
   rw[AQ (by show i<h.next+1;omega),AX (by show id<h.next+1;omega) hne,AQ (by omega)]
end
def GL (l:List (Int × Int × Int)):List Value:=l.flatMap fun x=>[iv x.1,iv x.2.1,iv x.2.2]
theorem O7:∀ l,(GL l).length=l.length*3
 | []=>rfl
 | x :: l=>by
  have e:GL (x :: l)=iv x.1 :: iv x.2.1 :: iv x.2.2 :: GL l:=rfl
  rw[e]
  simp only[List.length_cons,O7 l]
  omega
theorem lW (l:List (Int × Int × Int)):(GL l).all one=true:=by
 unfold GL
 rw[List.all_flatMap]
 exact List.all_eq_true.2 fun x _=>rfl
theorem MJ:BN Tryd.prog 58=some 3:=by kernel_rfl
theorem gC:BN Tryd.prog 41=some 1:=by kernel_rfl
theorem cU:GW Tryd.prog 58=some 24:=by kernel_rfl
abbrev FA (a b c:Int):Value:=.agg #[iv a,iv b,iv c]
theorem Q_:DC Tryd.prog 58=some (FA 0 0 0):=by kernel_rfl
theorem Jp:FM Tryd.prog 58=some true:=by kernel_rfl
theorem OF:BN Tryd.prog 43=some 3:=by kernel_rfl
theorem Dz:FM Tryd.prog 43=some true:=by kernel_rfl
abbrev zT:Value:=.agg #[Z0,Z0,Z0]
theorem JZ:DC Tryd.prog 43=some zT:=by kernel_rfl
theorem KB:flat zT=true:=rfl
theorem aU:HW Tryd.prog (match Tryd.prog.underlying 43 with | some (.struct fs)=>fs.toList | _=>[])=some [(0,1),(1,1),(2,1)]:=by kernel_rfl
theorem OL:C1 Tryd.prog 43 []=some zT:=by
 have h:=aU
 rw[Tryd.underlying43] at h
 simp only at h
 simp only[C1,JZ,KB,if_true,Tryd.underlying43,h]
 rfl
theorem Bw {a:Option Addr} {n c:Nat}:C1 Tryd.prog 43 [(2,.slice a n c)]=some (.agg #[Z0,Z0,.slice a n c]):=by
 have h:=aU
 rw[Tryd.underlying43] at h
 simp only at h
 simp only[C1,JZ,KB,if_true,Tryd.underlying43,h]
 rfl
section
variable {h:AA} {id off:Nat}
theorem J4:EL Tryd.prog h 43 (qP id off)=AW 3 off (h.get id):=M3 Dz OF
theorem vG:EL Tryd.prog h 58 (qP id off)=AW 3 off (h.get id):=M3 Jp MJ
theorem L8:EL Tryd.prog h 41 (qP id off)=AJ off (h.get id):=K8 (by kernel_rfl)
theorem MA:BJ Tryd.prog 43 (qP id off) 0=some (qP id off):=by simp[BJ,Tryd.underlying43,gC,CK]
theorem PN:BJ Tryd.prog 43 (qP id off) 1=some (qP id (off+1)):=by simp[BJ,Tryd.underlying43,LU,CK]
theorem LN:BJ Tryd.prog 43 (qP id off) 2=some (qP id (off+2)):=by simp[BJ,Tryd.underlying43,LU,CK]
theorem ZW {a b c:Int}:FC Tryd.prog h 41 1 [(0,FA a b c)]=some (qS h.next 1 1,h.push (.row [iv a,iv b,iv c] 58 false false)):=by
 simp[FC,Tryd.underlying41,MJ,Q_,flat,BI,MT,IS,BY,Go.Sx.lay]
end
def F4 (lo:Nat) (H:AA) (v:Value) (t:EO):Prop:=∃ vv gv rv,v=.agg #[vv,gv,rv]∧AM lo H vv t.V.length 3 (GL t.V)∧AT lo H gv t.G∧AT lo H rv t.Rd
theorem F4.mono {lo:Nat} {H H':AA} {v:Value} {t:EO} (ht:F4 lo H v t) (hn:H.next≤H'.next) (hg:∀ i,lo≤i→i<H.next→H'.get i=H.get i):F4 lo H' v t:=by
 obtain⟨vv,gv,rv,rfl,h1,h2,h3⟩:=ht
 exact⟨vv,gv,rv,rfl,h1.mono hn hg,h2.mono hn hg,h3.mono hn hg⟩
theorem F4.weak {lo lo':Nat} {H:AA} {v:Value} {t:EO} (ht:F4 lo H v t) (hl:lo'≤lo):F4 lo' H v t:=by
 obtain⟨vv,gv,rv,rfl,h1,h2,h3⟩:=ht
 exact⟨vv,gv,rv,rfl,h1.weak hl,h2.weak hl,h3.weak hl⟩
abbrev RB:EO:=⟨[],[],[]⟩
structure IN (B:AA) (RI m:Nat) (H:AA) (t:EO):Prop where
 r:H.get RI=.row (ints t.Rd) 3 false false
 l:t.Rd.length=m
 y:∃ vv gv,H.get (RI+1)=.row [vv,gv,qS RI m m] 43 false false∧F2 58 H (RI+2) vv t.V.length (GL t.V)∧F2 3 H (RI+2) gv t.G.length (ints t.G)
 n:RI+2≤H.next
 fl:H.floor=B.floor
 o:∀ i,i<RI→H.get i=B.get i
section
variable {B H H':AA} {RI m:Nat} {t:EO}
theorem IN.mono (hK:IN B RI m H t) (hn:H.next≤H'.next) (hf:H'.floor=H.floor) (hg:∀ i,i<H.next→H'.get i=H.get i):IN B RI m H' t:=by
 have h1:=hK.n
 obtain⟨vv,gv,y1,y2,y3⟩:=hK.y
 exact⟨by rw[hg _ (by omega)];exact hK.r,hK.l,⟨vv,gv,by rw[hg _ (by omega)];exact y1,y2.mono hn fun i hi _ _=>hg i hi,y3.mono hn fun i hi _ _=>hg i hi⟩,by omega,hf.trans hK.fl,fun i hi=>by rw[hg i (by omega)];exact hK.o i hi⟩
theorem IN.typed (hK:IN B RI m H t):∃ v,AW 3 0 (H.get (RI+1))=some v∧F4 RI H v t∧v.cells.size=3:=by
 have h1:=hK.n
 obtain⟨vv,gv,y1,y2,y3⟩:=hK.y
 exact⟨.agg #[vv,gv,qS RI m m],by rw[y1];rfl,⟨vv,gv,_,rfl,y2.cells (O7 _) (by omega),y3.cells (by rw[F7];omega) (by omega),AT.row' hK.r ⟨by omega,by omega⟩ hK.l.symm⟩,rfl⟩
theorem IN.setR (hK:IN B RI m H t) (hf:B.floor≤RI) {i:Nat} (hi:i<m) (v:Int) :
  ∃ H2,A9 Tryd.prog H 3 (qP RI i) (iv v)=some H2∧IN B RI m H2 { t with Rd:=t.Rd.set i v }∧H2.next=H.next:=by
 have h1:=hK.n
 have h2:=hK.l
 have h3:=hK.fl
 obtain⟨vv,gv,y1,y2,y3⟩:=hK.y
 have g:∀ j,j≠RI→(H.put RI (.row (ints (t.Rd.set i v)) 3 false false)).get j=H.get j:=fun j hj=>AX (by omega) (Ne.symm hj)
 exact⟨_,LH hK.r (by omega) (by omega),⟨B0 rfl (by omega),by rw[List.length_set];exact h2,⟨vv,gv,by rw[g _ (by omega)];exact y1,y2.mono (Nat.le_refl _) fun j _ _ hj=>g j (by omega),y3.mono (Nat.le_refl _) fun j _ _ hj=>g j (by omega)⟩,h1,h3,fun j hj=>by rw[g j (by omega)];exact hK.o j hj⟩,rfl⟩
theorem Ey:(FA 0 0 0).cells.size=3:=rfl
theorem F2.cell {e:TypeId} {lo n:Nat} {v:Value} {cs:List Value} (hl:F2 e H lo v n cs):v.cells=#[v]∧one v=true:=by
 rcases hl with⟨rfl,_⟩ | ⟨id,rfl,_⟩
 ·exact⟨rfl,rfl⟩
 ·exact⟨rfl,rfl⟩
theorem IN.addV (hK:IN B RI m H t) (hf:B.floor≤RI) (hb:t.V.length<2932031007403) (a b c:Int) :
  ∃ vv v' H1 H2,AJ 0 (H.get (RI+1))=some vv∧C_ Tryd.prog (H.push (.row [iv a,iv b,iv c] 58 false false)) 41 vv (qS H.next 1 1)=some (v',H1) ∧
   A9 Tryd.prog H1 41 (qP (RI+1) 0) v'=some H2∧IN B RI m H2 { t with V:=t.V++[(a,b,c)] }∧H.next≤H2.next:=by
 have h1:=hK.n
 have h3:=hK.fl
 obtain⟨vv,gv,y1,y2,y3⟩:=hK.y
 obtain⟨v',H1,e1,e2,e3,e4,e5⟩:=jG (new:=[iv a,iv b,iv c]) Tryd.underlying41 MJ cU Q_ Ey (by decide) (by decide) y2 (O7 _) (lW _) rfl rfl (by omega) (by omega) hb
 have g1:H1.get (RI+1)=.row [vv,gv,qS RI m m] 43 false false:=by rw[e5 _ (by omega) (.inl (by omega))];exact y1
 have hst:=HD (off:=0) gC e2.cell.1 e2.cell.2 g1 (by simp) (by omega)
 have g:∀ j,j≠RI+1→(H1.put (RI+1) (.row [v',gv,qS RI m m] 43 false false)).get j=H1.get j:=fun j hj=>AX (by omega) (Ne.symm hj)
 refine⟨vv,v',H1,_,by rw[y1];rfl,e1,hst,⟨by rw[List.set_cons_zero,g _ (by omega),e5 _ (by omega) (.inl (by omega))];exact hK.r,hK.l,⟨v',gv,B0 rfl (by omega),?_,?_⟩,?_,?_,fun i hi=>by rw[List.set_cons_zero,g _ (by omega),e5 _ (by omega) (.inl (by omega))];exact hK.o i hi⟩,e4⟩
 ·have ev:GL (t.V++[(a,b,c)])=GL t.V++[iv a,iv b,iv c]:=by simp[GL]
  rw[ev,List.length_append]
  exact e2.mono (Nat.le_refl _) fun j _ _ hj=>g j (by omega)
 ·exact y3.mono e4 fun j hj hj2 hj3=>by
   obtain⟨cs',g',hj4⟩:=hj2
   rw[List.set_cons_zero,g j (by omega),e5 j hj (.inr ⟨cs',3,g',by decide,hj4⟩)]
 ·show RI+2≤H1.next;omega
 ·show H1.floor=_;omega
theorem IN.addG (hK:IN B RI m H t) (hf:B.floor≤RI) (hb:t.G.length<2932031007403) (a:Int) :
  ∃ vv v' H1 H2,AJ 1 (H.get (RI+1))=some vv∧C_ Tryd.prog (H.push (.row [iv a] 3 false false)) 27 vv (qS H.next 1 1)=some (v',H1) ∧
   A9 Tryd.prog H1 27 (qP (RI+1) 1) v'=some H2∧IN B RI m H2 { t with G:=t.G++[a] }∧H.next≤H2.next:=by
 have h1:=hK.n
 have h3:=hK.fl
 obtain⟨vv,gv,y1,y2,y3⟩:=hK.y
 obtain⟨v',H1,e1,e2,e3,e4,e5⟩:=jG (new:=[iv a]) Tryd.underlying27 CP JC GO W6 (by decide) (by decide) y3 (by rw[F7];omega) (OS _) rfl rfl (by omega) (by omega) hb
 have g1:H1.get (RI+1)=.row [vv,gv,qS RI m m] 43 false false:=by rw[e5 _ (by omega) (.inl (by omega))];exact y1
 have hst:=HD (off:=1) LU e2.cell.1 e2.cell.2 g1 (by simp) (by omega)
 have g:∀ j,j≠RI+1→(H1.put (RI+1) (.row [vv,v',qS RI m m] 43 false false)).get j=H1.get j:=fun j hj=>AX (by omega) (Ne.symm hj)
 have es:([vv,gv,qS RI m m]:List Value).set 1 v'=[vv,v',qS RI m m]:=rfl
 rw[es] at hst
 refine⟨gv,v',H1,_,by rw[y1];rfl,e1,hst,⟨by rw[g _ (by omega),e5 _ (by omega) (.inl (by omega))];exact hK.r,hK.l,⟨vv,v',B0 rfl (by omega),?_,?_⟩,?_,?_,fun i hi=>by rw[g _ (by omega),e5 _ (by omega) (.inl (by omega))];exact hK.o i hi⟩,e4⟩
 ·exact y2.mono e4 fun j hj hj2 hj3=>by
   obtain⟨cs',g',hj4⟩:=hj2
   rw[g j (by omega),e5 j hj (.inr ⟨cs',58,g',by decide,hj4⟩)]
 ·have ev:ints (t.G++[a])=ints t.G++[iv a]:=by simp[ints]
  rw[ev,List.length_append]
  exact e2.mono (Nat.le_refl _) fun j _ _ hj=>g j (by omega)
 ·show RI+2≤H1.next;omega
 ·show H1.floor=_;omega
end
def GP (k:Int) (l:List Int):Value:=
 if k=4 then .iface 82 (FA (l.getD 0 0) (l.getD 1 0) (l.getD 2 0)) else if k=5 then .iface 83 (iv (l.getD 0 0)) else if k=6 then .iface 84 (.bool (l.getD 0 0 != 0)) else if k=13 then .iface 85 (iv (l.getD 0 0)) else .nilIface
theorem U5:DC Tryd.prog 82=some (FA 0 0 0):=by kernel_rfl
theorem Bg:HW Tryd.prog (match Tryd.prog.underlying 82 with | some (.struct fs)=>fs.toList | _=>[])=some [(0,1),(1,1),(2,1)]:=by kernel_rfl
theorem X1 {a b c:Int}:flat (FA a b c)=true:=rfl
theorem Gs {a b c:Int}:C1 Tryd.prog 82 [(0,iv a),(1,iv b),(2,iv c)]=some (FA a b c):=by
 have h:=Bg
 rw[Tryd.underlying82] at h
 simp only at h
 simp only[C1,U5,X1,if_true,Tryd.underlying82,h]
 rfl
def cS:List (Bool × Bool × List Operand):=[AR,AR,AR,AH [.tmp 9],AH [.tmp 9],AH [.tmp 9],AH [.tmp 9,.tmp 12],AH [.tmp 9,.tmp 12],AH [.tmp 9,.tmp 12],AL,AL,AL]
section
variable {n N:Nat} {h:AA}
theorem N_ {l:List Int} {i:Nat} {a:Int} (h:l[i]?=some a):l.getD i 0=a:=by rw[List.getD_eq_getElem?_getD,h];rfl
theorem Fo {k:Int} {l:List Int} {lv:Value} {lo:Nat} (hl:AT lo h lv l) (h4:k=4→3≤l.length) (h1:k=5∨k=6∨k=13→1≤l.length) :
  A7 Tryd.prog (AU n) N 37 [iv k,lv] h=some (GP k l,h):=by
 have hsn:=(FT n).2
 refine DL Tryd.func37 rfl (by simp[Tryd.f37]) ?_
 have hr:Tryd.f37.results.toList=[.tmp 4]:=rfl
 cases c4:(k==4) with
 | true=>
  have e:=beq_iff_eq.1 c4
  have hl3:=h4 e
  obtain⟨a,ha⟩:∃ a,l[0]?=some a:=⟨_,List.getElem?_eq_getElem (by omega)⟩
  obtain⟨b,hb⟩:∃ b,l[1]?=some b:=⟨_,List.getElem?_eq_getElem (by omega)⟩
  obtain⟨c,hc⟩:∃ c,l[2]?=some c:=⟨_,List.getElem?_eq_getElem (by omega)⟩
  obtain⟨ia,pa,ea,hia,la⟩:=AT.get hl ha
  obtain⟨ib,pb,eb,hib,lb⟩:=AT.get hl hb
  obtain⟨ic,pc,ec,hic,lc⟩:=AT.get hl hc
  have ea':CM Tryd.prog 27 lv (iv 0)=some (qP ia pa):=ea
  have eb':CM Tryd.prog 27 lv (iv 1)=some (qP ib pb):=eb
  have ec':CM Tryd.prog 27 lv (iv 2)=some (qP ic pc):=ec
  have hA0:(ia<h.next)=True:=eq_true hia
  have hB0:(ib<h.next)=True:=eq_true hib
  have hC0:(ic<h.next)=True:=eq_true hic
  rw[show GP k l=.iface 82 (FA a b c) by unfold GP;rw[if_pos e,N_ ha,N_ hb,N_ hc]]
  simp only[eE,seval,↓eP,c4]
  refine WK.flags (fs:=cS) (by kernel_rfl) ?_
  unfold cS
  iterate 12
   refine EE hsn ?_
   simp only[rG,seval,AC,AF,AE,CZ,DY,CQ,DI,EB,Tryd.underlying82,ea',la,AV,hA0,eb',lb,hB0,ec',lc,hC0,List.map_cons,List.map_nil,Gs]
  refine D_ ?_
  simp only[eE,seval,↓eP,hr]
 | false=>
 have n4:k≠4:=by simpa using c4
 cases c5:(k==5) with
 | true=>
  have e:=beq_iff_eq.1 c5
  have hl1:=h1 (.inl e)
  obtain⟨a,ha⟩:∃ a,l[0]?=some a:=⟨_,List.getElem?_eq_getElem (by omega)⟩
  obtain⟨ia,pa,ea,hia,la⟩:=AT.get hl ha
  have ea':CM Tryd.prog 27 lv (iv 0)=some (qP ia pa):=ea
  rw[show GP k l=.iface 83 (iv a) by unfold GP;rw[if_neg n4,if_pos e,N_ ha]]
  simp only[eE,seval,↓eP,hr,c4,c5,ea',AV,la,Tryd.underlying83]
 | false=>
 have n5:k≠5:=by simpa using c5
 cases c6:(k==6) with
 | true=>
  have e:=beq_iff_eq.1 c6
  have hl1:=h1 (.inr (.inl e))
  obtain⟨a,ha⟩:∃ a,l[0]?=some a:=⟨_,List.getElem?_eq_getElem (by omega)⟩
  obtain⟨ia,pa,ea,hia,la⟩:=AT.get hl ha
  have ea':CM Tryd.prog 27 lv (iv 0)=some (qP ia pa):=ea
  rw[show GP k l=.iface 84 (.bool (a != 0)) by unfold GP;rw[if_neg n4,if_neg n5,if_pos e,N_ ha]]
  simp only[eE,seval,↓eP,hr,c4,c5,c6,ea',AV,la,Tryd.underlying84]
 | false=>
 have n6:k≠6:=by simpa using c6
 cases c13:(k==13) with
 | true=>
  have e:=beq_iff_eq.1 c13
  have hl1:=h1 (.inr (.inr e))
  obtain⟨a,ha⟩:∃ a,l[0]?=some a:=⟨_,List.getElem?_eq_getElem (by omega)⟩
  obtain⟨ia,pa,ea,hia,la⟩:=AT.get hl ha
  have ea':CM Tryd.prog 27 lv (iv 0)=some (qP ia pa):=ea
  rw[show GP k l=.iface 85 (iv a) by unfold GP;rw[if_neg n4,if_neg n5,if_neg n6,if_pos e,N_ ha]]
  simp only[eE,seval,↓eP,hr,c4,c5,c6,c13,ea',AV,la,Tryd.underlying85]
 | false=>
  have n13:k≠13:=by simpa using c13
  rw[show GP k l=.nilIface by unfold GP;rw[if_neg n4,if_neg n5,if_neg n6,if_neg n13]]
  simp only[eE,seval,↓eP,hr,c4,c5,c6,c13]
theorem Jk {k:Int} {l:List Int} {lv:Value} {lo:Nat} (hl:AT lo h lv l) (h4:k=4→3≤l.length) (h1:k=5∨k=6∨k=13→1≤l.length) (hn:0<n) :
  AU n 37 [iv k,lv] h=some (GP k l,h):=by
 obtain⟨n,rfl⟩:=DJ hn
 have hw:=Fo (n:=n) (N:=n) hl h4 h1
 cases hv:ED (GP k l) with
 | true=>exact EN (BX ⟨rfl,rfl,rfl⟩) hv hw
 | false=>
  obtain⟨h',e,rfl⟩:=QR (R:=fun h'=>h'=h) (BX ⟨rfl,rfl,rfl⟩) hv ⟨h,hw,rfl⟩
  exact e
end
theorem aZ (v:Value):HG Tryd.prog (.iface 82 v) 82 true=some (.tuple #[v,.bool true]):=by kernel_rfl
theorem aV (v:Value):HG Tryd.prog (.iface 83 v) 82 true=some (.tuple #[FA 0 0 0,.bool false]):=by kernel_rfl
theorem rS (v:Value):HG Tryd.prog (.iface 84 v) 82 true=some (.tuple #[FA 0 0 0,.bool false]):=by kernel_rfl
theorem Z8 (v:Value):HG Tryd.prog (.iface 85 v) 82 true=some (.tuple #[FA 0 0 0,.bool false]):=by kernel_rfl
theorem Nd:HG Tryd.prog .nilIface 82 true=some (.tuple #[FA 0 0 0,.bool false]):=by kernel_rfl
theorem eH (v:Value):HG Tryd.prog (.iface 83 v) 83 true=some (.tuple #[v,.bool true]):=by kernel_rfl
theorem nI (v:Value):HG Tryd.prog (.iface 84 v) 83 true=some (.tuple #[iv 0,.bool false]):=by kernel_rfl
theorem eI (v:Value):HG Tryd.prog (.iface 85 v) 83 true=some (.tuple #[iv 0,.bool false]):=by kernel_rfl
theorem tV:HG Tryd.prog .nilIface 83 true=some (.tuple #[iv 0,.bool false]):=by kernel_rfl
theorem qK (v:Value):HG Tryd.prog (.iface 84 v) 84 true=some (.tuple #[v,.bool true]):=by kernel_rfl
theorem bC (v:Value):HG Tryd.prog (.iface 85 v) 84 true=some (.tuple #[.bool false,.bool false]):=by kernel_rfl
theorem Ad:HG Tryd.prog .nilIface 84 true=some (.tuple #[.bool false,.bool false]):=by kernel_rfl
theorem bP (v:Value):HG Tryd.prog (.iface 85 v) 85 true=some (.tuple #[v,.bool true]):=by kernel_rfl
theorem Fa:HG Tryd.prog .nilIface 85 true=some (.tuple #[iv 0,.bool false]):=by kernel_rfl
def JI (lo:Nat) (H:AA) (v:Value) (t:EO):Prop:=∃ vv gv rv,v=.agg #[vv,gv,rv]∧F2 58 H lo vv t.V.length (GL t.V)∧F2 3 H lo gv t.G.length (ints t.G)∧G7 lo H rv t.Rd
theorem G7.mono {lo:Nat} {h h':AA} {v:Value} {l:List Int} (ho:G7 lo h v l) (hn:h.next≤h'.next) (hg:∀ i,lo≤i→i<h.next→(∃ cs,h.get i=.row cs 3 false false)→h'.get i=h.get i):G7 lo h' v l:=by
 rcases ho with h9 | ⟨id,rfl,h1,h2,h3⟩
 ·exact .inl h9
 ·exact .inr ⟨id,rfl,h1,by omega,by rw[hg id h1 h2 ⟨_,h3⟩];exact h3⟩
theorem G7.weak {lo lo':Nat} {h:AA} {v:Value} {l:List Int} (ho:G7 lo h v l) (hle:lo'≤lo):G7 lo' h v l:=by
 rcases ho with h9 | ⟨id,rfl,h1,h2,h3⟩
 ·exact .inl h9
 ·exact .inr ⟨id,rfl,by omega,h2,h3⟩
theorem F2.weak {e:TypeId} {h:AA} {lo lo':Nat} {v:Value} {n:Nat} {cs:List Value} (hl:F2 e h lo v n cs) (hle:lo'≤lo):F2 e h lo' v n cs:=by
 rcases hl with h1 | ⟨id,h1,h2,h3,h4⟩
 ·exact .inl h1
 ·exact .inr ⟨id,h1,by omega,h3,h4⟩
theorem JI.typed {lo:Nat} {H:AA} {v:Value} {t:EO} (ht:JI lo H v t):F4 lo H v t:=by
 obtain⟨vv,gv,rv,rfl,h1,h2,h3⟩:=ht
 exact⟨vv,gv,rv,rfl,h1.cells (O7 _) (Nat.le_refl _),h2.cells (by rw[F7];omega) (Nat.le_refl _),h3.ints⟩
theorem JI.mono {lo:Nat} {H H':AA} {v:Value} {t:EO} (ht:JI lo H v t) (hn:H.next≤H'.next) (hg:∀ i,lo≤i→i<H.next→H'.get i=H.get i):JI lo H' v t:=by
 obtain⟨vv,gv,rv,rfl,h1,h2,h3⟩:=ht
 exact⟨vv,gv,rv,rfl,h1.mono hn fun i h8 _ h9=>hg i h9 h8,h2.mono hn fun i h8 _ h9=>hg i h9 h8,h3.mono hn fun i h8 h9 _=>hg i h8 h9⟩
theorem JI.weak {lo lo':Nat} {H:AA} {v:Value} {t:EO} (ht:JI lo H v t) (hl:lo'≤lo):JI lo' H v t:=by
 obtain⟨vv,gv,rv,rfl,h1,h2,h3⟩:=ht
 exact⟨vv,gv,rv,rfl,h1.weak hl,h2.weak hl,h3.weak hl⟩
theorem N3 (lo:Nat) (H:AA):JI lo H zT RB:=⟨_,_,_,rfl,.inl ⟨rfl,rfl,rfl⟩,.inl ⟨rfl,rfl,rfl⟩,.inl ⟨rfl,rfl⟩⟩
theorem Hm {lo:Nat} {H:AA} {v f:Value} {t:EO} (ht:JI lo H v t) (hf:ED (.tuple #[v,f])=true) (lo':Nat) (H':AA):JI lo' H' v t:=by
 obtain⟨vv,gv,rv,rfl,h1,h2,h3⟩:=ht
 have h9:BI vv=true∧BI gv=true∧BI rv=true:=by
  simp[ED,flat,BI] at hf ⊢
  exact⟨hf.1.1,hf.1.2.1,hf.1.2.2⟩
 obtain⟨q1,q2,q3⟩:=h9
 refine⟨vv,gv,rv,rfl,?_,?_,?_⟩
 ·rcases h1 with h1 | ⟨id,rfl,_⟩
  ·exact .inl h1
  ·cases q1
 ·rcases h2 with h1 | ⟨id,rfl,_⟩
  ·exact .inl h1
  ·cases q2
 ·rcases h3 with h1 | ⟨id,rfl,_⟩
  ·exact .inl h1
  ·cases q3
section
variable {B H:AA} {RI m:Nat} {t:EO}
theorem IN.typedO (hK:IN B RI m H t):∃ v,AW 3 0 (H.get (RI+1))=some v∧JI RI H v t∧v.cells.size=3:=by
 have h1:=hK.n
 have h2:=hK.l
 obtain⟨vv,gv,y1,y2,y3⟩:=hK.y
 subst h2
 exact⟨.agg #[vv,gv,qS RI t.Rd.length t.Rd.length],by rw[y1];rfl,⟨vv,gv,_,rfl,y2.weak (by omega),y3.weak (by omega),.inr ⟨RI,rfl,Nat.le_refl _,by omega,hK.r⟩⟩,rfl⟩
theorem NE {a:Nat} {v:Value} (ga:H.get a=.row [Z0,Z0,Z0] 43 false false) (gb:H.get (a+1)=.row [iv 0,iv 0] 36 false false) (hb:a+1<H.next) (hf:H.floor≤a) (ht:JI (a+2) H v t) (e x:Int) :
  ∃ H1 H2,A9 Tryd.prog H 43 (qP a 0) v=some H1∧A9 Tryd.prog H1 36 (qP (a+1) 0) (BG e x)=some H2∧AW 3 0 (H2.get a)=some v∧AW 2 0 (H2.get (a+1))=some (BG e x) ∧
   JI (a+2) H2 v t∧H1.next=H.next∧H2.next=H.next∧H1.floor=H.floor∧H2.floor=H.floor∧(∀ i,i≠a→H1.get i=H.get i)∧∀ i,i<a→H2.get i=H.get i:=by
 obtain⟨vv,gv,rv,rfl,h1,h2,h3⟩:=id ht.typed
 have o1:([vv,gv,rv]:List Value).all one=true:=by simp only[List.all_cons,List.all_nil,AM.one h1,AM.one h2,AM.one h3,Bool.and_self]
 have s1:=I5 (vs:=[vv,gv,rv]) OF ga rfl rfl o1 hf
 have g1:∀ j,j≠a→(H.put a (.row [vv,gv,rv] 43 false false)).get j=H.get j:=fun j hj=>AX (by omega) (Ne.symm hj)
 obtain⟨H2,s2,s3,s4,s5,s6⟩:=MR (H:=H.put a (.row [vv,gv,rv] 43 false false)) (id:=a+1) (by rw[g1 _ (by omega)];exact gb) hb (by show H.floor≤a+1;omega) e x
 have e2:H2.get a=.row [vv,gv,rv] 43 false false:=by rw[s6 a (by omega),B0 rfl (by omega)]
 exact⟨_,H2,s1,s2,by rw[e2];rfl,s3,ht.mono (by rw[s4];exact Nat.le_refl _) fun i h8 h9=>by rw[s6 i (by omega),g1 i (by omega)],rfl,s4,rfl,s5,g1,fun i hi=>by rw[s6 i (by omega),g1 i (by omega)]⟩
end
def HJ (k:Int):FuncId:=if k=39 then 67 else if k=40 then 68 else if k=41 then 69 else if k=43 then 70 else if k=44 then 11 else if k=45 then 71 else if k=46 then 72 else if k=47 then 73 else if k=48 then 74 else if k=49 then 75 else if k=50 then 76 else if k=51 then 77 else if k=52 then 78 else if k=42 then 79 else if k=53 then 80 else 81
abbrev GK (k:Int):Value:=.func (.func (HJ k)) #[] #[]
def CI (size:Int) (C:List Int) (x:AB):Value:=match DQ size C x with
 | some v=>.iface 108 (iv v)
 | none=>if HR x.kind=true then .iface 121 (GK x.kind) else if LR x.kind=true then .iface 122 (GK x.kind) else .nilIface
section
variable {n N:Nat} {h:AA}
theorem Ai {x:AB} {cv:Value} {size:Int} {C:List Int} {lc:Nat} (hc:EF lc h cv size C) (h32:x.kind=32→0≤x.n∧x.n<C.length) :
  ∃ h',A7 Tryd.prog (AU n) N 54 [CH x,cv] h=some (CI size C x,h')∧h'.next=h.next+2∧h'.floor=h.floor∧∀ i,i<h.next→h'.get i=h.get i:=by
 obtain⟨vc,rfl,pc⟩:=id hc
 refine EH (R:=fun h'=>h'.next=h.next+2∧h'.floor=h.floor∧∀ i,i<h.next→h'.get i=h.get i) Tryd.func54 rfl (by simp[Tryd.f54]) ?_
 have hr:Tryd.f54.results.toList=[.tmp 4]:=rfl
 have cx:(CH x).cells.toList=AZ x:=rfl
 have ox:(AZ x).all one=true:=rfl
 have cb:=E3 [iv size,vc]
 have ob:[iv size,vc].all one=true:=by simp only[List.all_cons,List.all_nil,AM.one pc,JU,Bool.and_self]
 obtain⟨gA,gB,nG,fG,gO⟩:=R5 h (.row (AZ x) 61 false false) (.row [iv size,vc] 29 false false)
 simp only[eE,seval,↓eP,FU,FB,Fsx,cx,ox,cb,ob,GJ,LM]
 generalize (h.push (.row (AZ x) 61 false false)).push (.row [iv size,vc] 29 false false)=Q at *
 have x0:AJ 0 (Q.get h.next)=some (iv x.kind):=by rw[gA];rfl
 have x3:AJ 3 (Q.get h.next)=some (iv x.n):=by rw[gA];rfl
 have y0:AJ 0 (Q.get (h.next+1))=some (iv size):=by rw[gB];rfl
 have y1:AJ 1 (Q.get (h.next+1))=some vc:=by rw[gB];rfl
 have pC:AT lc Q vc C:=AT.mono pc (by omega) fun i _ hi=>gO i hi
 cases c27:(x.kind==27) with
 | true=>
  have k:=beq_iff_eq.1 c27
  rw[show CI size C x=.iface 108 (iv x.n) by unfold CI DQ;rw[k];rfl]
  simp only[eE,seval,↓eP,hr,Nat.zero_add,GI,AV,x0,x3,Tryd.underlying108,Tryd.underlying121,Tryd.underlying122,c27]
  exact⟨nG,fG,gO⟩
 | false=>
 cases c33:(x.kind==33) with
 | true=>
  have k:=beq_iff_eq.1 c33
  rw[show CI size C x=.iface 108 (iv size) by unfold CI DQ;rw[k];rfl]
  simp only[eE,seval,↓eP,hr,L4,AV,x0,y0,Tryd.underlying108,Tryd.underlying121,Tryd.underlying122,c27,c33]
  exact⟨nG,fG,gO⟩
 | false=>
 cases c32:(x.kind==32) with
 | true=>
  have k:=beq_iff_eq.1 c32
  obtain⟨r0,r1⟩:=h32 k
  obtain⟨c0,hc0⟩:∃ c,C[x.n.toNat]?=some c:=⟨_,List.getElem?_eq_getElem (by omega)⟩
  obtain⟨ia,pa,ea,_,la⟩:=AT.get pC hc0
  rw[show ((x.n.toNat:Nat):Int)=x.n by omega] at ea
  rw[show CI size C x=.iface 108 (iv c0) by unfold CI DQ;rw[k,hc0];rfl]
  simp only[eE,seval,↓eP,hr,Nat.zero_add,GI,OO,AV,DG,x0,x3,y1,Tryd.underlying108,Tryd.underlying121,Tryd.underlying122,c27,c33,c32,ea,la]
  exact⟨nG,fG,gO⟩
 | false=>
 cases c29:(x.kind==29) with
 | true=>
  have k:=beq_iff_eq.1 c29
  rw[show CI size C x=.iface 108 (iv 1) by unfold CI DQ;rw[k];rfl]
  simp only[eE,seval,↓eP,hr,x0,Tryd.underlying108,Tryd.underlying121,Tryd.underlying122,c27,c33,c32,c29]
  exact⟨nG,fG,gO⟩
 | false=>
 cases c30:(x.kind==30) with
 | true=>
  have k:=beq_iff_eq.1 c30
  rw[show CI size C x=.iface 108 (iv 0) by unfold CI DQ;rw[k];rfl]
  simp only[eE,seval,↓eP,hr,x0,Tryd.underlying108,Tryd.underlying121,Tryd.underlying122,c27,c33,c32,c29,c30]
  exact⟨nG,fG,gO⟩
 | false=>
 cases c39:(x.kind==39) with
 | true=>
  have k:=beq_iff_eq.1 c39
  rw[show CI size C x=.iface 121 (.func (.func 67) #[] #[]) by unfold CI DQ GK HJ;rw[k];rfl]
  simp only[eE,seval,↓eP,hr,x0,Tryd.underlying108,Tryd.underlying121,Tryd.underlying122,c27,c33,c32,c29,c30,c39]
  exact⟨nG,fG,gO⟩
 | false=>
 cases c40:(x.kind==40) with
 | true=>
  have k:=beq_iff_eq.1 c40
  rw[show CI size C x=.iface 121 (.func (.func 68) #[] #[]) by unfold CI DQ GK HJ;rw[k];rfl]
  simp only[eE,seval,↓eP,hr,x0,Tryd.underlying108,Tryd.underlying121,Tryd.underlying122,c27,c33,c32,c29,c30,c39,c40]
  exact⟨nG,fG,gO⟩
 | false=>
 cases c41:(x.kind==41) with
 | true=>
  have k:=beq_iff_eq.1 c41
  rw[show CI size C x=.iface 121 (.func (.func 69) #[] #[]) by unfold CI DQ GK HJ;rw[k];rfl]
  simp only[eE,seval,↓eP,hr,x0,Tryd.underlying108,Tryd.underlying121,Tryd.underlying122,c27,c33,c32,c29,c30,c39,c40,c41]
  exact⟨nG,fG,gO⟩
 | false=>
 cases c43:(x.kind==43) with
 | true=>
  have k:=beq_iff_eq.1 c43
  rw[show CI size C x=.iface 121 (.func (.func 70) #[] #[]) by unfold CI DQ GK HJ;rw[k];rfl]
  simp only[eE,seval,↓eP,hr,x0,Tryd.underlying108,Tryd.underlying121,Tryd.underlying122,c27,c33,c32,c29,c30,c39,c40,c41,c43]
  exact⟨nG,fG,gO⟩
 | false=>
 cases c44:(x.kind==44) with
 | true=>
  have k:=beq_iff_eq.1 c44
  rw[show CI size C x=.iface 121 (.func (.func 11) #[] #[]) by unfold CI DQ GK HJ;rw[k];rfl]
  simp only[eE,seval,↓eP,hr,x0,Tryd.underlying108,Tryd.underlying121,Tryd.underlying122,c27,c33,c32,c29,c30,c39,c40,c41,c43,c44]
  exact⟨nG,fG,gO⟩
 | false=>
 cases c45:(x.kind==45) with
 | true=>
  have k:=beq_iff_eq.1 c45
  rw[show CI size C x=.iface 121 (.func (.func 71) #[] #[]) by unfold CI DQ GK HJ;rw[k];rfl]
  simp only[eE,seval,↓eP,hr,x0,Tryd.underlying108,Tryd.underlying121,Tryd.underlying122,c27,c33,c32,c29,c30,c39,c40,c41,c43,c44,c45]
  exact⟨nG,fG,gO⟩
 | false=>
 cases c46:(x.kind==46) with
 | true=>
  have k:=beq_iff_eq.1 c46
  rw[show CI size C x=.iface 121 (.func (.func 72) #[] #[]) by unfold CI DQ GK HJ;rw[k];rfl]
  simp only[eE,seval,↓eP,hr,x0,Tryd.underlying108,Tryd.underlying121,Tryd.underlying122,c27,c33,c32,c29,c30,c39,c40,c41,c43,c44,c45,c46]
  exact⟨nG,fG,gO⟩
 | false=>
 cases c47:(x.kind==47) with
 | true=>
  have k:=beq_iff_eq.1 c47
  rw[show CI size C x=.iface 122 (.func (.func 73) #[] #[]) by unfold CI DQ GK HJ;rw[k];rfl]
  simp only[eE,seval,↓eP,hr,x0,Tryd.underlying108,Tryd.underlying121,Tryd.underlying122,c27,c33,c32,c29,c30,c39,c40,c41,c43,c44,c45,c46,c47]
  exact⟨nG,fG,gO⟩
 | false=>
 cases c48:(x.kind==48) with
 | true=>
  have k:=beq_iff_eq.1 c48
  rw[show CI size C x=.iface 122 (.func (.func 74) #[] #[]) by unfold CI DQ GK HJ;rw[k];rfl]
  simp only[eE,seval,↓eP,hr,x0,Tryd.underlying108,Tryd.underlying121,Tryd.underlying122,c27,c33,c32,c29,c30,c39,c40,c41,c43,c44,c45,c46,c47,c48]
  exact⟨nG,fG,gO⟩
 | false=>
 cases c49:(x.kind==49) with
 | true=>
  have k:=beq_iff_eq.1 c49
  rw[show CI size C x=.iface 122 (.func (.func 75) #[] #[]) by unfold CI DQ GK HJ;rw[k];rfl]
  simp only[eE,seval,↓eP,hr,x0,Tryd.underlying108,Tryd.underlying121,Tryd.underlying122,c27,c33,c32,c29,c30,c39,c40,c41,c43,c44,c45,c46,c47,c48,c49]
  exact⟨nG,fG,gO⟩
 | false=>
 cases c50:(x.kind==50) with
 | true=>
  have k:=beq_iff_eq.1 c50
  rw[show CI size C x=.iface 122 (.func (.func 76) #[] #[]) by unfold CI DQ GK HJ;rw[k];rfl]
  simp only[eE,seval,↓eP,hr,x0,Tryd.underlying108,Tryd.underlying121,Tryd.underlying122,c27,c33,c32,c29,c30,c39,c40,c41,c43,c44,c45,c46,c47,c48,c49,c50]
  exact⟨nG,fG,gO⟩
 | false=>
 cases c51:(x.kind==51) with
 | true=>
  have k:=beq_iff_eq.1 c51
  rw[show CI size C x=.iface 122 (.func (.func 77) #[] #[]) by unfold CI DQ GK HJ;rw[k];rfl]
  simp only[eE,seval,↓eP,hr,x0,Tryd.underlying108,Tryd.underlying121,Tryd.underlying122,c27,c33,c32,c29,c30,c39,c40,c41,c43,c44,c45,c46,c47,c48,c49,c50,c51]
  exact⟨nG,fG,gO⟩
 | false=>
 cases c52:(x.kind==52) with
 | true=>
  have k:=beq_iff_eq.1 c52
  rw[show CI size C x=.iface 122 (.func (.func 78) #[] #[]) by unfold CI DQ GK HJ;rw[k];rfl]
  simp only[eE,seval,↓eP,hr,x0,Tryd.underlying108,Tryd.underlying121,Tryd.underlying122,c27,c33,c32,c29,c30,c39,c40,c41,c43,c44,c45,c46,c47,c48,c49,c50,c51,c52]
  exact⟨nG,fG,gO⟩
 | false=>
 cases c42:(x.kind==42) with
 | true=>
  have k:=beq_iff_eq.1 c42
  rw[show CI size C x=.iface 122 (.func (.func 79) #[] #[]) by unfold CI DQ GK HJ;rw[k];rfl]
  simp only[eE,seval,↓eP,hr,x0,Tryd.underlying108,Tryd.underlying121,Tryd.underlying122,c27,c33,c32,c29,c30,c39,c40,c41,c43,c44,c45,c46,c47,c48,c49,c50,c51,c52,c42]
  exact⟨nG,fG,gO⟩
 | false=>
 cases c53:(x.kind==53) with
 | true=>
  have k:=beq_iff_eq.1 c53
  rw[show CI size C x=.iface 122 (.func (.func 80) #[] #[]) by unfold CI DQ GK HJ;rw[k];rfl]
  simp only[eE,seval,↓eP,hr,x0,Tryd.underlying108,Tryd.underlying121,Tryd.underlying122,c27,c33,c32,c29,c30,c39,c40,c41,c43,c44,c45,c46,c47,c48,c49,c50,c51,c52,c42,c53]
  exact⟨nG,fG,gO⟩
 | false=>
 cases c54:(x.kind==54) with
 | true=>
  have k:=beq_iff_eq.1 c54
  rw[show CI size C x=.iface 122 (.func (.func 81) #[] #[]) by unfold CI DQ GK HJ;rw[k];rfl]
  simp only[eE,seval,↓eP,hr,x0,Tryd.underlying108,Tryd.underlying121,Tryd.underlying122,c27,c33,c32,c29,c30,c39,c40,c41,c43,c44,c45,c46,c47,c48,c49,c50,c51,c52,c42,c53,c54]
  exact⟨nG,fG,gO⟩
 | false=>
 have e:CI size C x=.nilIface:=by
  simp only[beq_eq_false_iff_ne] at c27 c33 c32 c29 c30 c39 c40 c41 c43 c44 c45 c46 c47 c48 c49 c50 c51 c52 c42 c53 c54
  unfold CI DQ
  rw[if_neg c27,if_neg c33,if_neg c32,if_neg c29,if_neg c30]
  simp[HR,LR,c39,c40,c41,c43,c44,c45,c46,c47,c48,c49,c50,c51,c52,c42,c53,c54]
 rw[e]
 simp only[eE,seval,↓eP,hr,x0,Tryd.underlying108,Tryd.underlying121,Tryd.underlying122,c27,c33,c32,c29,c30,c39,c40,c41,c43,c44,c45,c46,c47,c48,c49,c50,c51,c52,c42,c53,c54]
 exact⟨nG,fG,gO⟩
theorem Hy {x:AB} {cv:Value} {size:Int} {C:List Int} {lc:Nat} (hc:EF lc h cv size C) (h32:x.kind=32→0≤x.n∧x.n<C.length) (hn:0<n) :
  ∃ h',AU n 54 [CH x,cv] h=some (CI size C x,h')∧h.next≤h'.next∧h'.floor=h.floor∧∀ i,i<h.next→h'.get i=h.get i:=by
 obtain⟨n,rfl⟩:=DJ hn
 obtain⟨v,h',h1,h2,h3,h4,h5⟩:=PM (R:=fun v h'=>v=CI size C x∧h.next≤h'.next∧h'.floor=h.floor∧∀ i,i<h.next→h'.get i=h.get i) (n:=n) (f:=54) (args:=[CH x,cv]) (h:=h) (BX ⟨rfl,rfl,rfl⟩) (by
  obtain⟨h',h1,h2,h3,h4⟩:=Ai (n:=n) (N:=n) hc h32
  exact⟨_,h',h1,rfl,by omega,h3,h4⟩) fun v h1 _ _ ht=>⟨ht.1,Nat.le_refl _,rfl,fun _ _=>rfl⟩
 subst h2
 exact⟨h',h1,h3,h4,h5⟩
theorem zV {a b:Int} (ha:-1073741824≤a∧a≤1073741824) (hb:-1073741824≤b∧b≤1073741824):-1152921504606846976≤a*b∧a*b≤1152921504606846976:=by
 have h1:(a*b).natAbs≤1073741824*1073741824:=by
  rw[Int.natAbs_mul]
  exact Nat.mul_le_mul (by omega) (by omega)
 omega
theorem pT {k a b:Int} (hk:HR k=true) (ha:-1073741824≤a∧a≤1073741824) (hb:-1073741824≤b∧b≤1073741824) (hn:3<n):AU n (HJ k) [iv a,iv b] h=some (iv (HK k a b),h):=by
 have hk':k=39∨k=40∨k=41∨k=43∨k=44∨k=45∨k=46:=by
  unfold HR at hk
  simpa using hk
 have hm:=zV ha hb
 obtain⟨n,rfl⟩:=DJ hn
 rcases hk' with rfl | rfl | rfl | rfl | rfl | rfl | rfl
 ·show AU (n+1) 67 [iv a,iv b] h=some (iv (if b<a then b else a),h)
  refine EN (BX ⟨rfl,rfl,rfl⟩) rfl ?_
  refine DL Tryd.func67 rfl (by simp[Tryd.f67]) ?_
  have hr:Tryd.f67.results.toList=[.tmp 4]:=rfl
  simp only[eE,seval,↓eP,hr]
 ·show AU (n+1) 68 [iv a,iv b] h=some (iv (if b>a then b else a),h)
  refine EN (BX ⟨rfl,rfl,rfl⟩) rfl ?_
  refine DL Tryd.func68 rfl (by simp[Tryd.f68]) ?_
  have hr:Tryd.f68.results.toList=[.tmp 4]:=rfl
  simp only[eE,seval,↓eP,hr]
 ·show AU (n+1) 69 [iv a,iv b] h=some (iv (-a),h)
  refine EN (BX ⟨rfl,rfl,rfl⟩) rfl ?_
  refine DL Tryd.func69 rfl (by simp[Tryd.f69]) ?_
  have hr:Tryd.f69.results.toList=[.tmp 4]:=rfl
  have w:IntKind.i64.wrap (0-a)=-a:=by rw[C7 (by omega) (by omega)];omega
  simp only[eE,seval,↓eP,hr,w]
 ·show AU (n+1) 70 [iv a,iv b] h=some (iv (a*b),h)
  refine EN (BX ⟨rfl,rfl,rfl⟩) rfl ?_
  refine DL Tryd.func70 rfl (by simp[Tryd.f70]) ?_
  have hr:Tryd.f70.results.toList=[.tmp 4]:=rfl
  have w:IntKind.i64.wrap (a*b)=(a*b):=C7 (by omega) (by omega)
  simp only[eE,seval,↓eP,hr,w]
 ·show AU (n+1) 11 [iv a,iv b] h=some (iv (KU a b),h)
  exact Hk ⟨by omega,by omega⟩ ⟨by omega,by omega⟩ (by omega)
 ·show AU (n+1) 71 [iv a,iv b] h=some (iv (a+b),h)
  refine EN (BX ⟨rfl,rfl,rfl⟩) rfl ?_
  refine DL Tryd.func71 rfl (by simp[Tryd.f71]) ?_
  have hr:Tryd.f71.results.toList=[.tmp 4]:=rfl
  have w:IntKind.i64.wrap (a+b)=(a+b):=C7 (by omega) (by omega)
  simp only[eE,seval,↓eP,hr,w]
 ·show AU (n+1) 72 [iv a,iv b] h=some (iv (a-b),h)
  refine EN (BX ⟨rfl,rfl,rfl⟩) rfl ?_
  refine DL Tryd.func72 rfl (by simp[Tryd.f72]) ?_
  have hr:Tryd.f72.results.toList=[.tmp 4]:=rfl
  have w:IntKind.i64.wrap (a-b)=(a-b):=C7 (by omega) (by omega)
  simp only[eE,seval,↓eP,hr,w]
theorem nN {k a b:Int} (hk:LR k=true) (hn:0<n):AU n (HJ k) [iv a,iv b] h=some (.bool (J3 k a b),h):=by
 have hk':k=42∨k=47∨k=48∨k=49∨k=50∨k=51∨k=52∨k=53∨k=54:=by
  unfold LR at hk
  simpa using hk
 obtain⟨n,rfl⟩:=DJ hn
 rcases hk' with rfl | rfl | rfl | rfl | rfl | rfl | rfl | rfl | rfl
 ·show AU (n+1) 79 [iv a,iv b] h=some (.bool (a==0),h)
  refine EN (BX ⟨rfl,rfl,rfl⟩) rfl ?_
  refine DL Tryd.func79 rfl (by simp[Tryd.f79]) ?_
  have hr:Tryd.f79.results.toList=[.tmp 4]:=rfl
  simp only[eE,seval,↓eP,hr]
 ·show AU (n+1) 73 [iv a,iv b] h=some (.bool (a==b),h)
  refine EN (BX ⟨rfl,rfl,rfl⟩) rfl ?_
  refine DL Tryd.func73 rfl (by simp[Tryd.f73]) ?_
  have hr:Tryd.f73.results.toList=[.tmp 4]:=rfl
  simp only[eE,seval,↓eP,hr]
 ·show AU (n+1) 74 [iv a,iv b] h=some (.bool (a != b),h)
  refine EN (BX ⟨rfl,rfl,rfl⟩) rfl ?_
  refine DL Tryd.func74 rfl (by simp[Tryd.f74]) ?_
  have hr:Tryd.f74.results.toList=[.tmp 4]:=rfl
  simp only[eE,seval,↓eP,hr]
 ·show AU (n+1) 75 [iv a,iv b] h=some (.bool (decide (a<b)),h)
  refine EN (BX ⟨rfl,rfl,rfl⟩) rfl ?_
  refine DL Tryd.func75 rfl (by simp[Tryd.f75]) ?_
  have hr:Tryd.f75.results.toList=[.tmp 4]:=rfl
  simp only[eE,seval,↓eP,hr]
 ·show AU (n+1) 76 [iv a,iv b] h=some (.bool (decide (a≤b)),h)
  refine EN (BX ⟨rfl,rfl,rfl⟩) rfl ?_
  refine DL Tryd.func76 rfl (by simp[Tryd.f76]) ?_
  have hr:Tryd.f76.results.toList=[.tmp 4]:=rfl
  simp only[eE,seval,↓eP,hr]
 ·show AU (n+1) 77 [iv a,iv b] h=some (.bool (decide (a>b)),h)
  refine EN (BX ⟨rfl,rfl,rfl⟩) rfl ?_
  refine DL Tryd.func77 rfl (by simp[Tryd.f77]) ?_
  have hr:Tryd.f77.results.toList=[.tmp 4]:=rfl
  simp only[eE,seval,↓eP,hr]
 ·show AU (n+1) 78 [iv a,iv b] h=some (.bool (decide (a≥b)),h)
  refine EN (BX ⟨rfl,rfl,rfl⟩) rfl ?_
  refine DL Tryd.func78 rfl (by simp[Tryd.f78]) ?_
  have hr:Tryd.f78.results.toList=[.tmp 4]:=rfl
  simp only[eE,seval,↓eP,hr]
 ·show AU (n+1) 80 [iv a,iv b] h=some (.bool (a != 0&&b != 0),h)
  refine EN (BX ⟨rfl,rfl,rfl⟩) rfl ?_
  refine DL Tryd.func80 rfl (by simp[Tryd.f80]) ?_
  have hr:Tryd.f80.results.toList=[.tmp 4]:=rfl
  cases d:(a != 0) with
  | true=>simp only[eE,seval,↓eP,hr,d,Bool.true_and]
  | false=>simp only[eE,seval,↓eP,hr,d,Bool.false_and]
 ·show AU (n+1) 81 [iv a,iv b] h=some (.bool (a != 0||b != 0),h)
  refine EN (BX ⟨rfl,rfl,rfl⟩) rfl ?_
  refine DL Tryd.func81 rfl (by simp[Tryd.f81]) ?_
  have hr:Tryd.f81.results.toList=[.tmp 4]:=rfl
  cases d:(a != 0) with
  | true=>simp only[eE,seval,↓eP,hr,d,Bool.true_or]
  | false=>simp only[eE,seval,↓eP,hr,d,Bool.false_or]
def cF:List (Bool × Bool × List Operand):=[AR,AR,AR,AR,AH [.tmp 7],AH [.tmp 7],AH [.tmp 7],AH [.tmp 7],AH [.tmp 7],AH [.tmp 7],AL,AL,AL]
theorem Di {k a b:Int} {l:List Int} {lv:Value} {lo:Nat} (hk:HR k=true) (hl:AT lo h lv l) (h0:l[0]?=some a) (h1:l[l.length-1]?=some b) (ha:-1073741824≤a∧a≤1073741824) (hb:-1073741824≤b∧b≤1073741824) (hll:l.length<1000) (hn:4<n) :
  A7 Tryd.prog (AU n) N 107 [GK k,lv] h=some (iv (FV (HK k a b)),h):=by
 obtain⟨_,al,cl,rfl,_⟩:=id hl
 have hsn:=(FT n).2
 have hpos:=(List.getElem?_eq_some_iff.1 h0).1
 refine DL Tryd.func107 rfl (by simp[Tryd.f107]) ?_
 have hr:Tryd.f107.results.toList=[.tmp 4]:=rfl
 obtain⟨ia,pa,ea,hia,la⟩:=AT.get hl h0
 obtain⟨ib,pb,eb,hib,lb⟩:=AT.get hl h1
 have ea':CM Tryd.prog 27 (.slice al l.length cl) (iv 0)=some (qP ia pa):=ea
 have lenL:=fun h'=>JY hl h'
 have w1:IntKind.i64.wrap ((l.length:Int)-1)=((l.length-1:Nat):Int):=by rw[C7 (by omega) (by omega)];omega
 have hA0:(ia<h.next)=True:=eq_true hia
 have hB0:(ib<h.next)=True:=eq_true hib
 have hc1:∀ fl:Nat,AU n (HJ k) [iv a,iv b] (h.fl fl)=some (iv (HK k a b),h.fl fl):=fun fl=>pT hk ha hb (by omega)
 have hc2:∀ fl:Nat,AU n 9 [iv (HK k a b)] (h.fl fl)=some (iv (FV (HK k a b)),h.fl fl):=fun fl=>YV (by omega)
 have hc1':=pT (n:=n) (h:=h) hk ha hb (by omega)
 have hc2':=YV (n:=n) (h:=h) (x:=HK k a b) (by omega)
 simp only[eE,seval,↓eP]
 refine WK.flags (fs:=cF) (by kernel_rfl) ?_
 unfold cF
 iterate 13
  refine EE hsn ?_
  simp only[rG,seval,AC,AF,AE,CZ,DY,CQ,DI,EB,ea',la,AV,hA0,lenL,w1,eb,lb,hB0,hc1',hc2']
 refine D_ ?_
 simp only[eE,seval,↓eP,hr]
def ZO:List (Bool × Bool × List Operand):=[AR,AR,AR,AR,AH [.tmp 7],AH [.tmp 7],AH [.tmp 7],AH [.tmp 7],AH [.tmp 7],AH [.tmp 7],AL]
theorem Cr {k a b:Int} {l:List Int} {lv:Value} {lo:Nat} (hk:LR k=true) (hl:AT lo h lv l) (h0:l[0]?=some a) (h1:l[l.length-1]?=some b) (ha:-1073741824≤a∧a≤1073741824) (hb:-1073741824≤b∧b≤1073741824) (hll:l.length<1000) (hn:4<n) :
  A7 Tryd.prog (AU n) N 108 [GK k,lv] h=some (iv (if J3 k a b=true then 1 else 0),h):=by
 obtain⟨_,al,cl,rfl,_⟩:=id hl
 have hsn:=(FT n).2
 have hpos:=(List.getElem?_eq_some_iff.1 h0).1
 refine DL Tryd.func108 rfl (by simp[Tryd.f108]) ?_
 have hr:Tryd.f108.results.toList=[.tmp 4]:=rfl
 obtain⟨ia,pa,ea,hia,la⟩:=AT.get hl h0
 obtain⟨ib,pb,eb,hib,lb⟩:=AT.get hl h1
 have ea':CM Tryd.prog 27 (.slice al l.length cl) (iv 0)=some (qP ia pa):=ea
 have lenL:=fun h'=>JY hl h'
 have w1:IntKind.i64.wrap ((l.length:Int)-1)=((l.length-1:Nat):Int):=by rw[C7 (by omega) (by omega)];omega
 have hA0:(ia<h.next)=True:=eq_true hia
 have hB0:(ib<h.next)=True:=eq_true hib
 have hc1:∀ fl:Nat,AU n (HJ k) [iv a,iv b] (h.fl fl)=some (.bool (J3 k a b),h.fl fl):=fun fl=>nN hk (by omega)
 have hc1':=nN (n:=n) (h:=h) (k:=k) (a:=a) (b:=b) hk (by omega)
 simp only[eE,seval,↓eP]
 refine WK.flags (fs:=ZO) (by kernel_rfl) ?_
 unfold ZO
 iterate 11
  refine EE hsn ?_
  simp only[rG,seval,AC,AF,AE,CZ,DY,CQ,DI,EB,ea',la,AV,hA0,lenL,w1,eb,lb,hB0,hc1']
 refine D_ ?_
 cases J3 k a b with
 | true=>simp only[eE,seval,↓eP,hr]
 | false=>simp only[eE,seval,↓eP,hr]
theorem wE {v:Int} {lv:Value}:A7 Tryd.prog (AU n) N 106 [iv v,lv] h=some (iv v,h):=by
 refine DL Tryd.func106 rfl (by simp[Tryd.f106]) ?_
 have hr:Tryd.f106.results.toList=[.tmp 4]:=rfl
 simp only[eE,seval,↓eP,hr]
end
theorem Gd (v : Value) : R7 Tryd.prog 108 v "winnow/typed.of" = some (106, v) := by kernel_rfl
theorem Od (v : Value) : R7 Tryd.prog 121 v "winnow/typed.of" = some (107, v) := by kernel_rfl
theorem zC (v : Value) : R7 Tryd.prog 122 v "winnow/typed.of" = some (108, v) := by kernel_rfl
theorem Cv (v:Value):HG Tryd.prog (.iface 108 v) 108 true=some (.tuple #[v,.bool true]):=by kernel_rfl
theorem Ca (v:Value):HG Tryd.prog (.iface 121 v) 108 true=some (.tuple #[iv 0,.bool false]):=by kernel_rfl
theorem Gw (v:Value):HG Tryd.prog (.iface 122 v) 108 true=some (.tuple #[iv 0,.bool false]):=by kernel_rfl
theorem Ju:BU Tryd.prog .eql 106 (.tmp 38) (.const .nilIface) .nilIface .nilIface=some (.bool true):=by kernel_rfl
theorem dC (t:TypeId) (v:Value):BU Tryd.prog .eql 106 (.tmp 38) (.const .nilIface) (.iface t v) .nilIface=some (.bool false):=by kernel_rfl
section
variable {n:Nat} {h:AA}
theorem Lo {v:Int} {lv:Value} (hn:0<n):AU n 106 [iv v,lv] h=some (iv v,h):=by
 obtain⟨n,rfl⟩:=DJ hn
 exact EN (BX ⟨rfl,rfl,rfl⟩) rfl wE
theorem xA {k a b:Int} {l:List Int} {lv:Value} {lo:Nat} (hk:HR k=true) (hl:AT lo h lv l) (h0:l[0]?=some a) (h1:l[l.length-1]?=some b) (ha:-1073741824≤a∧a≤1073741824) (hb:-1073741824≤b∧b≤1073741824) (hll:l.length<1000) (hn:6<n):AU n 107 [GK k,lv] h=some (iv (F_ k a b),h):=by
 obtain⟨n,rfl⟩:=DJ hn
 have e:F_ k a b=FV (HK k a b):=by unfold F_;rw[if_pos hk]
 rw[e]
 exact EN (BX ⟨rfl,rfl,rfl⟩) rfl (Di hk hl h0 h1 ha hb hll (by omega))
theorem zM {k a b:Int} {l:List Int} {lv:Value} {lo:Nat} (hr:HR k=false) (hk:LR k=true) (hl:AT lo h lv l) (h0:l[0]?=some a) (h1:l[l.length-1]?=some b) (ha:-1073741824≤a∧a≤1073741824) (hb:-1073741824≤b∧b≤1073741824) (hll:l.length<1000) (hn:6<n):AU n 108 [GK k,lv] h=some (iv (F_ k a b),h):=by
 obtain⟨n,rfl⟩:=DJ hn
 have e:F_ k a b=if J3 k a b=true then 1 else 0:=by unfold F_;rw[if_neg (by rw[hr];decide)]
 rw[e]
 exact EN (BX ⟨rfl,rfl,rfl⟩) rfl (Cr hk hl h0 h1 ha hb hll (by omega))
end
theorem tZ {size:Int} {C:List Int} {x:AB} {v:Int} (h:DQ size C x=some v):G8 x.kind=false∧GD x.kind=false:=by
 unfold DQ at h
 split at h
 ·rename_i hk;rw[hk];exact⟨rfl,rfl⟩
 split at h
 ·rename_i hk;rw[hk];exact⟨rfl,rfl⟩
 split at h
 ·rename_i hk;rw[hk];exact⟨rfl,rfl⟩
 split at h
 ·rename_i hk;rw[hk];exact⟨rfl,rfl⟩
 split at h
 ·rename_i hk;rw[hk];exact⟨rfl,rfl⟩
 ·cases h
structure IT (h H:AA) (P Cp:List Value) (V:List Int) (I:List Bool):Prop where
 p:H.get h.next=.row P 33 false false
 c:H.get (h.next+1)=.row Cp 29 false false
 v:H.get (h.next+2)=.row (ints V) 3 false false
 b:H.get (h.next+3)=.row (DH I) 4 false false
 n:h.next+4≤H.next
 fl:H.floor=h.floor
 o:∀ i,i<h.next→H.get i=h.get i
theorem IT.mono {h H H':AA} {P Cp:List Value} {V:List Int} {I:List Bool} (hT:IT h H P Cp V I) (hn:H.next≤H'.next) (hf:H'.floor=H.floor) (hg:∀ i,i<h.next+4→H'.get i=H.get i):IT h H' P Cp V I:=
 ⟨by rw[hg _ (by omega)];exact hT.p,by rw[hg _ (by omega)];exact hT.c,by rw[hg _ (by omega)];exact hT.v,by rw[hg _ (by omega)];exact hT.b,by have:=hT.n;omega,hf.trans hT.fl,fun i hi=>by rw[hg i (by omega)];exact hT.o i hi⟩
theorem IT.setV {h H:AA} {P Cp:List Value} {V:List Int} {I:List Bool} (hT:IT h H P Cp V I) (V':List Int):IT h (H.put (h.next+2) (.row (ints V') 3 false false)) P Cp V' I:=by
 have hn:=hT.n
 have g:∀ j,j≠h.next+2→(H.put (h.next+2) (.row (ints V') 3 false false)).get j=H.get j:=fun j hj=>AX (by omega) (Ne.symm hj)
 exact⟨by rw[g _ (by omega)];exact hT.p,by rw[g _ (by omega)];exact hT.c,B0 rfl (by omega),by rw[g _ (by omega)];exact hT.b,hn,hT.fl,fun j hj=>by rw[g j (by omega)];exact hT.o j hj⟩
theorem IT.setB {h H:AA} {P Cp:List Value} {V:List Int} {I:List Bool} (hT:IT h H P Cp V I) (I':List Bool):IT h (H.put (h.next+3) (.row (DH I') 4 false false)) P Cp V I':=by
 have hn:=hT.n
 have g:∀ j,j≠h.next+3→(H.put (h.next+3) (.row (DH I') 4 false false)).get j=H.get j:=fun j hj=>AX (by omega) (Ne.symm hj)
 exact⟨by rw[g _ (by omega)];exact hT.p,by rw[g _ (by omega)];exact hT.c,by rw[g _ (by omega)];exact hT.v,B0 rfl (by omega),hn,hT.fl,fun j hj=>by rw[g j (by omega)];exact hT.o j hj⟩
theorem Bx {Z:List AB} {s:AK} {size:Int} {C:List Int} (hG:DN Z s) (hF:PY s size C) {m:Nat} {x:AB} (hx:s.rows[m]?=some x) (hop:G8 x.kind=true∨GD x.kind=true) :
  ((BH (AD Z) x.kids.toNat (m+1)).all (fun p=>(B7 s.rows (AD Z) size C p).isSome)=true→∃ a b,((BH (AD Z) x.kids.toNat (m+1)).map (fun p=>(B7 s.rows (AD Z) size C p).getD 0))[0]?=some a∧((BH (AD Z) x.kids.toNat (m+1)).map (fun p=>(B7 s.rows (AD Z) size C p).getD 0))[((BH (AD Z) x.kids.toNat (m+1)).map (fun p=>(B7 s.rows (AD Z) size C p).getD 0)).length-1]?=some b∧(-1073741824≤a∧a≤1073741824)∧(-1073741824≤b∧b≤1073741824)∧B7 s.rows (AD Z) size C m=some (F_ x.kind a b)) ∧
  ((BH (AD Z) x.kids.toNat (m+1)).all (fun p=>(B7 s.rows (AD Z) size C p).isSome)=false→B7 s.rows (AD Z) size C m=none)∧x.kids.toNat≤2:=by
 have hcq:=R8 (size:=size) (C:=C) hG hx
 cases hu:G8 x.kind with
 | true=>
  have hk:=hG.un hx hu
  have k0:=hG.kid0 hx (by omega)
  rw[if_pos hu] at hcq
  have e:BH (AD Z) x.kids.toNat (m+1)=[m+1]:=by rw[hk];rfl
  rw[e,hcq]
  cases hc:B7 s.rows (AD Z) size C (m+1) with
  | none=>exact⟨fun h=>by simp[hc] at h,fun _=>rfl,by omega⟩
  | some a=>
   have hr:=WV hG hF k0.2 hc
   exact⟨fun _=>⟨a,a,by simp[hc],by simp[hc],hr,hr,rfl⟩,fun h=>by simp[hc] at h,by omega⟩
 | false=>
  have hb:GD x.kind=true:=by
   rcases hop with h | h
   ·rw[hu] at h;cases h
   ·exact h
  have hk:=hG.bin hx hb
  have k0:=hG.kid0 hx (by omega)
  have k1:=hG.kid1 hx hk
  rw[if_neg (by rw[hu];decide),if_pos hb] at hcq
  have e:BH (AD Z) x.kids.toNat (m+1)=[m+1,AD Z (m+1)]:=by rw[hk];rfl
  rw[e,hcq]
  cases hc:B7 s.rows (AD Z) size C (m+1) with
  | none=>exact⟨fun h=>by simp[hc] at h,fun _=>rfl,by omega⟩
  | some a=>
   cases hd:B7 s.rows (AD Z) size C (AD Z (m+1)) with
   | none=>exact⟨fun h=>by simp[hc,hd] at h,fun _=>rfl,by omega⟩
   | some b=>
    exact⟨fun _=>⟨a,b,by simp[hc],by simp[hc,hd],WV hG hF k0.2 hc,WV hG hF k1.2 hd,rfl⟩,fun h=>by simp[hc,hd] at h,by omega⟩
def N4 (R:List AB) (con:Nat→Option Int) (i:Nat) (V:List Int) (I:List Bool):Prop:=V.length=R.length∧I.length=R.length∧∀ j,j<R.length→(i≤j→V[j]?=some ((con j).getD 0)∧I[j]?=some (con j).isSome)∧(j<i→V[j]?=some 0∧I[j]?=some false)
theorem N4.step {R:List AB} {con:Nat→Option Int} {m:Nat} {V:List Int} {I:List Bool} (hK:N4 R con (m+1) V I) (hm:m<R.length) {V':List Int} {I':List Bool} (h1:V'.length=V.length) (h2:I'.length=I.length) (h3:V'[m]?=some ((con m).getD 0)) (h4:I'[m]?=some (con m).isSome) (h5:∀ j,j≠m→V'[j]?=V[j]?∧I'[j]?=I[j]?):N4 R con m V' I':=by
 obtain⟨a,b,c⟩:=hK
 refine⟨by omega,by omega,fun j hj=>⟨fun h=>?_,fun h=>?_⟩⟩
 ·rcases Nat.eq_or_lt_of_le h with e | e
  ·subst e
   exact⟨h3,h4⟩
  ·rw[(h5 j (by omega)).1,(h5 j (by omega)).2]
   exact(c j hj).1 (by omega)
 ·rw[(h5 j (by omega)).1,(h5 j (by omega)).2]
  exact(c j hj).2 (by omega)
def YR:List (Bool × Bool × List Operand):=[AR,AR,AR,AR,E9 [.tmp 15],E9 [.tmp 15],E9 [.tmp 15],E9 [.tmp 15],E9 [.tmp 19],AL]
def ZE:List (Bool × Bool × List Operand):=[AR,AR,AH [.tmp 31],AR,AR,AH [.tmp 31,.tmp 34],AL,AL]
section
variable {n N:Nat} {h:AA}
theorem Ma {nm:ByteArray} {s:AK} {Z:List AB} {pv cv:Value} {lo lc:Nat} {size:Int} {C:List Int} (hG:DN Z s) (hF:PY s size C) (hp:CB lo h pv nm s) (hc:EF lc h cv size C) (hl:s.rows.length<2932031007403) (hfl:h.floor≤h.next) (hn:s.rows.length+60<n) (hN:s.rows.length+40<N) :
  ∃ h',A7 Tryd.prog (AU n) N 35 [pv,cv] h=some (.tuple #[qS (h.next+2) s.rows.length s.rows.length,qS (h.next+3) s.rows.length s.rows.length],h')∧∃ P Cp V I,IT h h' P Cp V I∧N4 s.rows (B7 s.rows (AD Z) size C) 0 V I:=by
 obtain⟨vr,vq,vv,vt,vu,vo,rfl,p1,p2,p3,p4,p5,p6⟩:=id hp
 obtain⟨vc,rfl,pc⟩:=id hc
 obtain⟨_,ar,cr,rfl,_⟩:=id p1.2
 have hsn:=(FT n).2
 have htot:E6 s=s.rows.length+s.queues.length+s.vars.length+s.tags.length+s.rules.length+s.on.length:=rfl
 refine EH (R:=fun h'=>∃ P Cp V I,IT h h' P Cp V I∧N4 s.rows (B7 s.rows (AD Z) size C) 0 V I) Tryd.func35 rfl (by simp[Tryd.f35]) ?_
 have hr:Tryd.f35.results.toList=[.tmp 4,.tmp 5]:=rfl
 have ca:=E3 [.string nm,.slice ar s.rows.length cr,vq,vv,vt,vu,vo,iv s.miss]
 have oa:=I6 (nm:=nm) p1 p2 p3 p4 p5 p6
 have cb:=E3 [iv size,vc]
 have ob:[iv size,vc].all one=true:=by simp only[List.all_cons,List.all_nil,AM.one pc,JU,Bool.and_self]
 obtain⟨gA,gB,nG,fG,gO⟩:=R5 h (.row [.string nm,.slice ar s.rows.length cr,vq,vv,vt,vu,vo,iv s.miss] 33 false false) (.row [iv size,vc] 29 false false)
 simp only[eE,seval,↓eP,FU,FB,Fsx,ca,oa,cb,ob,HM,LM]
 generalize (h.push (.row [.string nm,.slice ar s.rows.length cr,vq,vv,vt,vu,vo,iv s.miss] 33 false false)).push (.row [iv size,vc] 29 false false)=Q at *
 have hsl:=hG.sk.1
 have npos:0<s.rows.length:=by have:=hG.t.pos;omega
 have len1:=fun h'=>NT p1.2 h'
 have x1:AJ 1 (Q.get h.next)=some (.slice ar s.rows.length cr):=by rw[gA];rfl
 have LI:∀ H:AA,HB Tryd.prog H 27 (iv (s.rows.length:Int)) (iv (s.rows.length:Int))=some (qS H.next s.rows.length s.rows.length,H.push (.row (ints (List.replicate s.rows.length 0)) 3 false false)):=fun H=>by
  have:=Q5 (P:=Tryd.prog) (h:=H) (t:=27) (e:=3) (z:=.int .i64 0) Tryd.underlying27 CP JC GO rfl rfl (by decide) (by decide) (n:=s.rows.length) (by omega)
  rw[show BY (Value.int IntKind.i64 0).cells.toList s.rows.length=ints (List.replicate s.rows.length 0) from RZ _] at this
  exact this
 have mkB:∀ H:AA,HB Tryd.prog H 76 (iv (s.rows.length:Int)) (iv (s.rows.length:Int))=some (qS H.next s.rows.length s.rows.length,H.push (.row (DH (List.replicate s.rows.length false)) 4 false false)):=fun H=>by
  have:=Q5 (P:=Tryd.prog) (h:=H) (t:=76) (e:=4) (z:=.bool false) Tryd.underlying76 O4 mL jF rfl rfl (by decide) (by decide) (n:=s.rows.length) (by omega)
  rw[show BY (Value.bool false).cells.toList s.rows.length=DH (List.replicate s.rows.length false) from o_ _] at this
  exact this
 have q1:∀ a,AJ 1 ((Q.push a).get h.next)=some (.slice ar s.rows.length cr):=fun a=>by rw[AQ (by omega)];exact x1
 have q2:∀ a b,AJ 1 (((Q.push a).push b).get h.next)=some (.slice ar s.rows.length cr):=fun a b=>by rw[AQ (by show h.next<Q.next+1;omega)];exact q1 a
 have g2:∀ (a b:BC),let A:=(Q.push a).push b
   A.get Q.next=a∧A.get (Q.next+1)=b∧A.next=Q.next+2∧A.floor=Q.floor∧∀ i,i<Q.next→A.get i=Q.get i:=fun a b=>
  ⟨PE,PK,rfl,rfl,fun i hi=>by rw[AQ (by show i<Q.next+1;omega),AQ hi]⟩
 have h4:=g2 (.row (ints (List.replicate s.rows.length 0)) 3 false false) (.row (DH (List.replicate s.rows.length false)) 4 false false)
 have hA0:(h.next<Q.next)=True:=by simp;omega
 have qf:∀ a,(Q.push a).fl Q.floor=Q.push a:=fun a=>rfl
 have qf2:∀ a b,((Q.push a).push b).fl Q.floor=(Q.push a).push b:=fun a b=>rfl
 refine WK.flags (fs:=YR) (by kernel_rfl) ?_
 unfold YR
 iterate 10
  refine EE hsn ?_
  simp only[rG,seval,AC,AF,AE,CZ,DY,CQ,DI,EB,Option.bind_some,CJ,CL,x1,hA0,len1,LI,qf,IV,q1,mkB,qf2,BZ]
 refine D_ ?_
 obtain⟨ga,gb,n4,f4,o4⟩:=h4
 have xB:AJ 1 (((Q.push (.row (ints (List.replicate s.rows.length 0)) 3 false false)).push (.row (DH (List.replicate s.rows.length false)) 4 false false)).get h.next)=some (.slice ar s.rows.length cr):=q2 _ _
 have w9:IntKind.i64.wrap ((s.rows.length:Int)-1)=(s.rows.length:Int)-1:=C7 (by omega) (by omega)
 simp only[eE,seval,↓eP,Nat.zero_add,CJ,CL,xB,len1,w9]
 generalize (Q.push (.row (ints (List.replicate s.rows.length 0)) 3 false false)).push (.row (DH (List.replicate s.rows.length false)) 4 false false)=B at *
 rw[nG] at ga gb
 have hT0:IT h B [.string nm,.slice ar s.rows.length cr,vq,vv,vt,vu,vo,iv s.miss] [iv size,vc] (List.replicate s.rows.length 0) (List.replicate s.rows.length false):=⟨by rw[o4 _ (by omega)];exact gA,by rw[o4 _ (by omega)];exact gB,ga,gb,by omega,by omega,fun i hi=>by rw[o4 i (by omega)];exact gO i hi⟩
 have hK0:N4 s.rows (B7 s.rows (AD Z) size C) s.rows.length (List.replicate s.rows.length 0) (List.replicate s.rows.length false):=⟨by simp,by simp,fun j hj=>⟨fun h9=>by omega,fun _=>⟨by rw[List.getElem?_replicate,if_pos hj],by rw[List.getElem?_replicate,if_pos hj]⟩⟩⟩
 refine WK.loop (fun k s'=>s'.T.get 2=qP h.next 0∧s'.T.get 3=qP (h.next+1) 0∧s'.T.get 6=qS (h.next+2) s.rows.length s.rows.length∧s'.T.get 7=qS (h.next+3) s.rows.length s.rows.length∧s'.T.get 8=iv ((s.rows.length:Int)-1-(k:Int))∧k≤s.rows.length∧∃ V I,IT h s'.h [.string nm,.slice ar s.rows.length cr,vq,vv,vt,vu,vo,iv s.miss] [iv size,vc] V I∧N4 s.rows (B7 s.rows (AD Z) size C) (s.rows.length-k) V I) s.rows.length (by omega) ?_ ?_
 ·exact⟨by simp only[eE,seval,↓eP,rP],by simp only[eE,seval,↓eP,rP],by simp only[eE,seval,↓eP,rP,nG],by simp only[eE,seval,↓eP,rP,nG],by simp only[eE,seval,↓eP,rP] <;> omega,by omega,_,_,hT0,hK0⟩
 rintro k ⟨T,H⟩ hk ⟨t2,t3,t6,t7,t8,hkl,V,I,hT,hK⟩
 simp only at t2 t3 t6 t7 t8 hT
 by_cases hlt:k<s.rows.length
 rotate_left
 ·have c1:decide ((s.rows.length:Int)-1-(k:Int)≥0)=false:=by simp;omega
  have hkn:k=s.rows.length:=by omega
  subst hkn
  rw[Nat.sub_self] at hK
  simp only[eE,seval,↓eP,hr,t6,t7,t8,c1]
  exact⟨_,_,_,_,hT,hK⟩
 obtain⟨m,hm⟩:∃ m,s.rows.length=k+1+m:=⟨s.rows.length-(k+1),by omega⟩
 have hml:m<s.rows.length:=by omega
 have em:(s.rows.length:Int)-1-(k:Int)=(m:Int):=by omega
 rw[em] at t8
 rw[show s.rows.length-k=m+1 by omega] at hK
 have c1:decide ((m:Int)≥0)=true:=by simp
 obtain⟨x,hx⟩:∃ x,s.rows[m]?=some x:=⟨_,List.getElem?_eq_getElem hml⟩
 have hnx:=hT.n
 have hfl':=hT.fl
 obtain⟨hVl,hIl,hKj⟩:=id hK
 have hvH:A_ H (.slice ar s.rows.length cr) s.rows:=p1.1.mono (by omega) hT.o
 obtain⟨ia,pa,ea,hia,_,_,_,_,_,la⟩:=hvH.row hx
 have xa1:AJ 1 (H.get h.next)=some (.slice ar s.rows.length cr):=by rw[hT.p];rfl
 have lC:AW 2 0 (H.get (h.next+1))=some (.agg #[iv size,vc]):=by rw[hT.c];rfl
 have hcH:EF lc H (.agg #[iv size,vc]) size C:=hc.mono (by omega) fun j _ hj=>hT.o j hj
 obtain⟨H1,hmean,n1,f1,o1⟩:=Hy (n:=n) (x:=x) hcH (fun h9=>by have:=hG.qn m x hx (by rw[h9];rfl);have:=hF.len;omega) (by omega)
 have hT1:IT h H1 [.string nm,.slice ar s.rows.length cr,vq,vv,vt,vu,vo,iv s.miss] [iv size,vc] V I:=hT.mono n1 f1 fun j hj=>o1 j (by omega)
 have w1:IntKind.i64.wrap ((m:Int)-1)=(s.rows.length:Int)-1-((k+1:Nat):Int):=by rw[C7 (by omega) (by omega)];omega
 have ek:s.rows.length-(k+1)=m:=by omega
 simp only[eE,seval,↓eP,t8,c1]
 refine WK.flags (fs:=ZE) (by kernel_rfl) ?_
 unfold ZE
 iterate 8
  refine EE hsn ?_
  simp only[rG,seval,AC,AF,AE,CZ,DY,CQ,DI,EB,Option.bind_some,t2,CJ,CL,xa1,t8,ea,IG,la,t3,EI,lC,hmean,HN,J7]
 refine D_ ?_
 have hcq:=R8 (size:=size) (C:=C) hG hx
 obtain⟨hV0,hI0⟩:=(hKj m hml).2 (by omega)
 have ixv:=FL (id:=h.next+2) (n:=s.rows.length) (c:=s.rows.length) (i:=m) hml
 have ixb:=TR (id:=h.next+3) (n:=s.rows.length) (c:=s.rows.length) (i:=m) hml
 have fH1:H1.fl H.floor=H1:=by rw[← f1];exact HE H1
 have hnx1:=hT1.n
 have hfl1:=hT1.fl
 have hcast:IntKind.i64.wrap ((m:Int)-1)=IntKind.i64.wrap ((m:Int)-1):=rfl
 have split3:DQ size C x≠none∨(DQ size C x=none∧(G8 x.kind=true∨GD x.kind=true))∨(DQ size C x=none∧G8 x.kind=false∧GD x.kind=false):=by
  cases DQ size C x <;> cases G8 x.kind <;> cases GD x.kind <;> simp
 rcases split3 with hlf | ⟨hlf,hop⟩ | ⟨hlf,hun,hbn⟩
 ·obtain⟨v,hv⟩:∃ v,DQ size C x=some v:=Option.ne_none_iff_exists'.1 hlf
  have hnu:G8 x.kind=false∧GD x.kind=false:=tZ hv
  have hc0:B7 s.rows (AD Z) size C m=some v:=by rw[hcq,if_neg (by rw[hnu.1];decide),if_neg (by rw[hnu.2];decide)];exact hv
  have e:CI size C x=.iface 108 (iv v):=by unfold CI;rw[hv]
  rw[e]
  have sb:A9 Tryd.prog H1 4 (qP (h.next+3) m) (.bool true)=some (H1.put (h.next+3) (.row (DH (I.set m true)) 4 false false)):=U4 hT1.b (by omega) (by omega)
  have hT2:=hT1.setB (I.set m true)
  have n2:(H1.put (h.next+3) (.row (DH (I.set m true)) 4 false false)).next=H1.next:=rfl
  have f2:(H1.put (h.next+3) (.row (DH (I.set m true)) 4 false false)).floor=H1.floor:=rfl
  generalize H1.put (h.next+3) (.row (DH (I.set m true)) 4 false false)=H2 at *
  have lb:AJ m (H2.get (h.next+3))=some (.bool true):=by rw[hT2.b];exact QD (List.getElem?_set_self (by omega))
  have hof:=Lo (n:=n) (h:=H2) (v:=v) (lv:=Z0) (by omega)
  have sv:A9 Tryd.prog H2 3 (qP (h.next+2) m) (iv v)=some (H2.put (h.next+2) (.row (ints (V.set m v)) 3 false false)):=LH hT2.v (by omega) (by omega)
  simp only[eE,seval,↓eP,t2,t3,t6,t7,t8,dC,fH1,ixb,sb,Cv,FO,lb,Gd,hof,ixv,sv,w1]
  exact⟨hlt,by omega,_,_,hT2.setV _,by rw[ek];exact hK.step hml (by rw[List.length_set]) (by rw[List.length_set]) (by rw[hc0,List.getElem?_set_self (by omega)];rfl) (by rw[hc0,List.getElem?_set_self (by omega)];rfl) fun j hj=>⟨List.getElem?_set_ne (Ne.symm hj),List.getElem?_set_ne (Ne.symm hj)⟩⟩
 ·obtain⟨mv,hmv⟩:∃ mv,mv=CI size C x:=⟨_,rfl⟩
  rw[← hmv]
  have hrh:=eQ.1 hop
  have emv:(HR x.kind=true∧mv=.iface 121 (GK x.kind))∨(HR x.kind=false∧LR x.kind=true∧mv=.iface 122 (GK x.kind)):=by
   cases h9:HR x.kind with
   | true=>exact .inl ⟨rfl,by rw[hmv];unfold CI;rw[hlf];simp[h9]⟩
   | false=>
    have h8:LR x.kind=true:=by
     rcases hrh with h7 | h7
     ·rw[h9] at h7;cases h7
     ·exact h7
    exact .inr ⟨rfl,h8,by rw[hmv];unfold CI;rw[hlf];simp[h9,h8]⟩
  have hAs:HG Tryd.prog mv 108 true=some (.tuple #[iv 0,.bool false]):=by
   rcases emv with⟨_,e⟩ | ⟨_,_,e⟩
   ·rw[e];exact Ca _
   ·rw[e];exact Gw _
  have hIf:BU Tryd.prog .eql 106 (.tmp 38) (.const .nilIface) mv .nilIface=some (.bool false):=by
   rcases emv with⟨_,e⟩ | ⟨_,_,e⟩
   ·rw[e];exact dC _ _
   ·rw[e];exact dC _ _
  have sb:A9 Tryd.prog H1 4 (qP (h.next+3) m) (.bool true)=some (H1.put (h.next+3) (.row (DH (I.set m true)) 4 false false)):=U4 hT1.b (by omega) (by omega)
  have hT2:=hT1.setB (I.set m true)
  have n2:(H1.put (h.next+3) (.row (DH (I.set m true)) 4 false false)).next=H1.next:=rfl
  have f2:(H1.put (h.next+3) (.row (DH (I.set m true)) 4 false false)).floor=H1.floor:=rfl
  have xa2:AJ 1 ((H1.put (h.next+3) (.row (DH (I.set m true)) 4 false false)).get h.next)=some (.slice ar s.rows.length cr):=by rw[hT2.p];rfl
  have hv2:A_ (H1.put (h.next+3) (.row (DH (I.set m true)) 4 false false)) (.slice ar s.rows.length cr) s.rows:=p1.1.mono (by omega) hT2.o
  obtain⟨zz,hzz,_,hzk⟩:=hG.z hx
  obtain⟨kv,H5,hkids,hkL,f5,n5,o5⟩:=bO (n:=n) hG.t hG.sk hv2 hzz (by omega) (by omega) (by omega)
  rw[← hzk] at hkL
  have hkc:=hkL.ints (Nat.le_refl _)
  have lenK:=fun h'=>JY hkc h'
  have hkl:((BH (AD Z) x.kids.toNat (m+1)).map (fun (k:Nat)=>(k:Int))).length=x.kids.toNat:=by rw[List.length_map,OG]
  obtain⟨k0,hch,hel,hei⟩:=hG.kids0 hx
  rw[hkl,show ((x.kids.toNat:Nat):Int)=x.kids by omega] at lenK
  have hT5:IT h H5 [.string nm,.slice ar s.rows.length cr,vq,vv,vt,vu,vo,iv s.miss] [iv size,vc] V (I.set m true):=hT2.mono (by omega) (by omega) fun j hj=>o5 j (by omega)
  obtain⟨hyes,hno,hk2⟩:=Bx (size:=size) (C:=C) hG hF hx hop
  simp only[eE,seval,↓eP,t2,t7,t8,hIf,fH1,ixb,sb,hAs,Nat.zero_add,CJ,CL,xa2,hkids,lenK]
  generalize H1.put (h.next+3) (.row (DH (I.set m true)) 4 false false)=H2 at *
  generalize hks:BH (AD Z) x.kids.toNat (m+1)=ks at *
  have hksl:ks.length=x.kids.toNat:=by rw[← hks,OG]
  refine WK.loop (fun q s'=>s'.T.get 2=qP h.next 0∧s'.T.get 3=qP (h.next+1) 0∧s'.T.get 6=qS (h.next+2) s.rows.length s.rows.length∧s'.T.get 7=qS (h.next+3) s.rows.length s.rows.length∧s'.T.get 8=iv (m:Int)∧s'.T.get 9=mv∧s'.T.get 53=kv∧s'.T.get 54=iv x.kids∧s'.T.get 55=iv (q:Int)∧q≤x.kids.toNat∧H5.next≤s'.h.next∧(∀ j,h.next+4≤j→j<H5.next→s'.h.get j=H5.get j)∧∃ w,s'.T.get 10=w∧JA s'.h H5.next w ((ks.take q).map (fun p=>(B7 s.rows (AD Z) size C p).getD 0))∧IT h s'.h [.string nm,.slice ar s.rows.length cr,vq,vv,vt,vu,vo,iv s.miss] [iv size,vc] V (I.set m ((ks.take q).all (fun p=>(B7 s.rows (AD Z) size C p).isSome)))) x.kids.toNat (by omega) ?_ ?_
  ·exact⟨by simp only[eE,seval,↓eP,rP,t2],by simp only[eE,seval,↓eP,rP,t3],by simp only[eE,seval,↓eP,rP,t6],by simp only[eE,seval,↓eP,rP,t7],by simp only[eE,seval,↓eP,rP,t8],by simp only[eE,seval,↓eP,rP],by simp only[eE,seval,↓eP,rP],by simp only[eE,seval,↓eP,rP],by simp only[eE,seval,↓eP,rP] <;> rfl,by omega,Nat.le_refl _,fun _ _ _=>rfl,Z0,by simp only[eE,seval,↓eP,rP],.inl ⟨rfl,rfl⟩,hT5⟩
  rintro q ⟨T4,H6⟩ hq ⟨u2,u3,u6,u7,u8,u9,u53,u54,u55,hqk,n6,o6,w,u10,hL,hT6⟩
  simp only at u2 u3 u6 u7 u8 u9 u53 u54 u55 n6 o6 u10 hL hT6
  by_cases hql:q<x.kids.toNat
  rotate_left
  ·have c3:decide ((q:Int)<x.kids)=false:=by simp;omega
   have hq9:q=x.kids.toNat:=by omega
   subst hq9
   rw[List.take_of_length_le (by omega)] at hL hT6
   have hnx6:=hT6.n
   have hfl6:=hT6.fl
   have lb:AJ m (H6.get (h.next+3))=some (.bool (ks.all (fun p=>(B7 s.rows (AD Z) size C p).isSome))):=by rw[hT6.b];exact QD (List.getElem?_set_self (by omega))
   cases hall:ks.all (fun p=>(B7 s.rows (AD Z) size C p).isSome) with
   | false=>
    rw[hall] at lb hT6
    have hc0:=hno hall
    simp only[eE,seval,↓eP,u2,u3,u6,u7,u8,u54,u55,c3,ixb,FO,lb,w1]
    exact⟨hlt,by omega,_,_,hT6,by rw[ek];exact hK.step hml rfl (by rw[List.length_set]) (by rw[hc0];exact hV0) (by rw[hc0,List.getElem?_set_self (by omega)];rfl) fun j hj=>⟨rfl,List.getElem?_set_ne (Ne.symm hj)⟩⟩
   | true=>
    rw[hall] at lb hT6
    obtain⟨a,b,ha0,hb0,har,hbr,hc0⟩:=hyes hall
    have hLi:=hL.ints (Nat.le_refl _)
    have sv:A9 Tryd.prog H6 3 (qP (h.next+2) m) (iv (F_ x.kind a b))=some (H6.put (h.next+2) (.row (ints (V.set m (F_ x.kind a b))) 3 false false)):=LH hT6.v (by omega) (by omega)
    have fin:N4 s.rows (B7 s.rows (AD Z) size C) m (V.set m (F_ x.kind a b)) (I.set m true):=hK.step hml (by rw[List.length_set]) (by rw[List.length_set]) (by rw[hc0,List.getElem?_set_self (by omega)];rfl) (by rw[hc0,List.getElem?_set_self (by omega)];rfl) fun j hj=>⟨List.getElem?_set_ne (Ne.symm hj),List.getElem?_set_ne (Ne.symm hj)⟩
    have hl1000:(ks.map (fun p=>(B7 s.rows (AD Z) size C p).getD 0)).length<1000:=by rw[List.length_map];omega
    rcases emv with⟨hr1,e⟩ | ⟨hr1,hh1,e⟩
    ·have hof:=xA (n:=n) hr1 hLi ha0 hb0 har hbr hl1000 (by omega)
     rw[e] at u9
     simp only[eE,seval,↓eP,u2,u3,u6,u7,u8,u9,u54,u55,u10,c3,ixb,FO,lb,Od,hof,ixv,sv,w1]
     exact⟨hlt,by omega,_,_,hT6.setV _,by rw[ek];exact fin⟩
    ·have hof:=zM (n:=n) hr1 hh1 hLi ha0 hb0 har hbr hl1000 (by omega)
     rw[e] at u9
     simp only[eE,seval,↓eP,u2,u3,u6,u7,u8,u9,u54,u55,u10,c3,ixb,FO,lb,zC,hof,ixv,sv,w1]
     exact⟨hlt,by omega,_,_,hT6.setV _,by rw[ek];exact fin⟩
  have c3:decide ((q:Int)<x.kids)=true:=by simp;omega
  obtain⟨p,hpk⟩:∃ p,ks[q]?=some p:=⟨_,List.getElem?_eq_getElem (by omega)⟩
  obtain⟨hip,hpl⟩:=hG.kid (k:=q) hx (by rw[hks];exact hpk)
  have hnx6:=hT6.n
  have hfl6:=hT6.fl
  have hnx5:=hT5.n
  have hkc6:AT (h.next+4) H6 kv (ks.map (fun (k:Nat)=>(k:Int))):=AT.mono (hkL.ints (by omega)) (by omega) fun j h1 h2=>o6 j h1 h2
  obtain⟨ip,pp,ep,hip2,lp⟩:=AT.get hkc6 (i:=q) (x:=(p:Int)) (by rw[List.getElem?_map,hpk];rfl)
  have wq:=ET q (by omega)
  obtain⟨hVp,hIp⟩:=(hKj p hpl).1 (by omega)
  have jxv:=FL (id:=h.next+2) (n:=s.rows.length) (c:=s.rows.length) (i:=p) hpl
  have jxb:=TR (id:=h.next+3) (n:=s.rows.length) (c:=s.rows.length) (i:=p) hpl
  have lv:AJ p (H6.get (h.next+2))=some (iv ((B7 s.rows (AD Z) size C p).getD 0)):=by rw[hT6.v];exact NP hVp
  obtain⟨w',H7,happ,hL',f7,n7,o7⟩:=bM (x:=(B7 s.rows (AD Z) size C p).getD 0) hL (by omega) (by omega) (by rw[List.length_map,List.length_take];omega)
  have hT7:=hT6.mono (H':=H7) (by omega) f7 fun j hj=>o7 j (by omega)
  have etk:ks.take (q+1)=ks.take q++[p]:=by rw[List.take_add_one,hpk];rfl
  have eall:(ks.take (q+1)).all (fun p=>(B7 s.rows (AD Z) size C p).isSome)=((ks.take q).all (fun p=>(B7 s.rows (AD Z) size C p).isSome)&&(B7 s.rows (AD Z) size C p).isSome):=by rw[etk,List.all_append];simp
  have emap:(ks.take q).map (fun p=>(B7 s.rows (AD Z) size C p).getD 0)++[(B7 s.rows (AD Z) size C p).getD 0]=(ks.take (q+1)).map (fun p=>(B7 s.rows (AD Z) size C p).getD 0):=by rw[etk,List.map_append];rfl
  rw[emap] at hL'
  have lm7:AJ m (H7.get (h.next+3))=some (.bool ((ks.take q).all (fun p=>(B7 s.rows (AD Z) size C p).isSome))):=by rw[hT7.b];exact QD (List.getElem?_set_self (by omega))
  have lp7:AJ p (H7.get (h.next+3))=some (.bool (B7 s.rows (AD Z) size C p).isSome):=by rw[hT7.b];exact QD (by rw[List.getElem?_set_ne (by omega)];exact hIp)
  have sb7:∀ v:Bool,A9 Tryd.prog H7 4 (qP (h.next+3) m) (.bool v)=some (H7.put (h.next+3) (.row (DH (I.set m v)) 4 false false)):=fun v=>by
   have:=U4 (x:=v) (i:=m) hT7.b (by rw[List.length_set];omega) (by omega)
   rw[List.set_set] at this
   exact this
  have hnx7:=hT7.n
  have fin:∀ v:Bool,v=(ks.take (q+1)).all (fun p=>(B7 s.rows (AD Z) size C p).isSome)→JA (H7.put (h.next+3) (.row (DH (I.set m v)) 4 false false)) H5.next w' ((ks.take (q+1)).map (fun p=>(B7 s.rows (AD Z) size C p).getD 0))∧IT h (H7.put (h.next+3) (.row (DH (I.set m v)) 4 false false)) [.string nm,.slice ar s.rows.length cr,vq,vv,vt,vu,vo,iv s.miss] [iv size,vc] V (I.set m ((ks.take (q+1)).all (fun p=>(B7 s.rows (AD Z) size C p).isSome)))∧∀ j,h.next+4≤j→j<H5.next→(H7.put (h.next+3) (.row (DH (I.set m v)) 4 false false)).get j=H5.get j:=fun v hv=>by
   refine⟨hL'.mono (Nat.le_refl _) fun j h1 h2=>AX (by omega) (by omega),by rw[← hv];exact hT7.setB _,fun j h1 h2=>by rw[AX (by omega) (by omega),o7 j h2];exact o6 j h1 h2⟩
  have nn7:∀ v:Bool,H5.next≤(H7.put (h.next+3) (.row (DH (I.set m v)) 4 false false)).next:=fun v=>by show H5.next≤H7.next;omega
  cases hb:(ks.take q).all (fun p=>(B7 s.rows (AD Z) size C p).isSome) with
  | false=>
   rw[hb] at lm7 eall
   simp only[eE,seval,↓eP,u2,u3,u6,u7,u8,u9,u53,u54,u55,u10,c3,ep,AV,lp,jxv,lv,N5,happ,ixb,FO,lm7,sb7,wq]
   obtain⟨a1,a2,a3⟩:=fin false (by simp[eall])
   exact⟨hql,by omega,nn7 _,a3,a1,a2⟩
  | true=>
   rw[hb] at lm7 eall
   simp only[eE,seval,↓eP,u2,u3,u6,u7,u8,u9,u53,u54,u55,u10,c3,ep,AV,lp,jxv,lv,N5,happ,ixb,FO,lm7,jxb,lp7,sb7,wq]
   obtain⟨a1,a2,a3⟩:=fin (B7 s.rows (AD Z) size C p).isSome (by rw[eall,Bool.true_and])
   exact⟨hql,by omega,nn7 _,a3,a1,a2⟩
 ·have hr0:HR x.kind=false:=by
   cases h9:HR x.kind with
   | false=>rfl
   | true=>rcases eQ.2 (.inl h9) with h8 | h8 <;> simp_all
  have hh0:LR x.kind=false:=by
   cases h9:LR x.kind with
   | false=>rfl
   | true=>rcases eQ.2 (.inr h9) with h8 | h8 <;> simp_all
  have e:CI size C x=.nilIface:=by unfold CI;rw[hlf];simp[hr0,hh0]
  have hc0:B7 s.rows (AD Z) size C m=none:=by rw[hcq,if_neg (by rw[hun];decide),if_neg (by rw[hbn];decide)];exact hlf
  rw[e]
  simp only[eE,seval,↓eP,t2,t3,t6,t7,t8,Ju,fH1,w1]
  exact⟨hlt,by omega,V,I,hT1,by rw[ek];exact hK.step hml rfl rfl (by rw[hc0];exact hV0) (by rw[hc0];exact hI0) fun _ _=>⟨rfl,rfl⟩⟩
end
structure ZP (h H:AA) (M:GY):Prop where
 a:H.get h.next=.row (ints M.A) 3 false false
 c:H.get (h.next+1)=.row (DH M.C) 4 false false
 n:h.next+2≤H.next
 fl:H.floor=h.floor
 o:∀ i,i<h.next→H.get i=h.get i
theorem ZP.mono {h H H':AA} {M:GY} (hT:ZP h H M) (hn:H.next≤H'.next) (hf:H'.floor=H.floor) (hg:∀ i,i<h.next+2→H'.get i=H.get i):ZP h H' M:=
 ⟨by rw[hg _ (by omega)];exact hT.a,by rw[hg _ (by omega)];exact hT.c,by have:=hT.n;omega,hf.trans hT.fl,fun i hi=>by rw[hg i (by omega)];exact hT.o i hi⟩
section
variable {n N:Nat} {h:AA}
end
noncomputable def C0 (nm:ByteArray) (s:AK) (size:Int) (C:List Int):Int:=if FQ nm s≠0 then FQ nm s else if LW size C s.queues=true then 0 else 45
theorem L9.lies {h:AA} {b:Nat} {v:Value} {nm:ByteArray} {s:AK} (hL:L9 h b v nm s):∀ nm' vr vq vv vt vu vo m,v=.agg #[.string nm',vr,vq,vv,vt,vu,vo,m]→GS vr s.rows.length:=by
 intro nm' vr vq vv vt vu vo m hv
 rw[hL.v] at hv
 simp only[Value.agg.injEq,Array.mk.injEq,List.cons.injEq] at hv
 obtain⟨_,h1,_⟩:=hv
 exact⟨_,_,_,h1.symm⟩
theorem L9.mono {h h':AA} {b:Nat} {v:Value} {nm:ByteArray} {s:AK} (hL:L9 h b v nm s) (hn:h.next≤h'.next) (hg:∀ i,b≤i→i≤b+5→h'.get i=h.get i):L9 h' b v nm s:=by
 obtain⟨hv,hlt,⟨L1,g1⟩,gq,gw,gt,⟨L5,g5⟩,⟨L6,g6⟩⟩:=hL
 exact⟨hv,by omega,⟨L1,by rw[hg _ (by omega) (by omega)];exact g1.g,g1.len,g1.own,g1.marks⟩,by rw[hg _ (by omega) (by omega)];exact gq,by rw[hg _ (by omega) (by omega)];exact gw,by rw[hg _ (by omega) (by omega)];exact gt,⟨L5,by rw[hg _ (by omega) (by omega)];exact g5.g,g5.len,g5.own,g5.marks⟩,⟨L6,by rw[hg _ (by omega) (by omega)];exact g6.g,g6.len,g6.own,g6.marks⟩⟩
section
variable {n N:Nat} {h:AA}
theorem Dv {nm:ByteArray} {s:AK} {pv cv:Value} {lo lc:Nat} {size:Int} {C:List Int} (hp:CB lo h pv nm s) (hc:EF lc h cv size C) (hlies:∀ nm' vr vq vv vt vu vo m,pv=.agg #[.string nm',vr,vq,vv,vt,vu,vo,m]→GS vr s.rows.length) (hl:s.rows.length<2932031007403) (hg:h.get 0=CF) (hn0:0<h.next) (hs:IE s) (hC:C.length<17592186044416) (hfl:h.floor≤h.next) (hn:2*E6 s+400+C.length<n) :
  ∃ h',A7 Tryd.prog (AU n) N 17 [pv,cv] h=some (BG (C0 nm s size C) 0,h')∧∀ i,i<h.next→h'.get i=h.get i:=by
 obtain⟨vr,vq,vv,vt,vu,vo,rfl,p1,p2,p3,p4,p5,p6⟩:=id hp
 obtain⟨vc,rfl,pc⟩:=id hc
 refine EH (R:=fun h'=>∀ i,i<h.next→h'.get i=h.get i) Tryd.func17 rfl (by simp[Tryd.f17]) ?_
 have hr:Tryd.f17.results.toList=[.cell 4 36]:=rfl
 have ca:=E3 [.string nm,vr,vq,vv,vt,vu,vo,iv s.miss]
 have oa:=I6 (nm:=nm) p1 p2 p3 p4 p5 p6
 have cb:=E3 [iv size,vc]
 have ob:[iv size,vc].all one=true:=by simp only[List.all_cons,List.all_nil,AM.one pc,JU,Bool.and_self]
 obtain⟨gA,gB,gF,nG,fG,gO⟩:=UI h (.row [.string nm,vr,vq,vv,vt,vu,vo,iv s.miss] 33 false false) (.row [iv size,vc] 29 false false) (.row [iv 0,iv 0] 36 false false)
 simp only[eE,seval,↓eP,FU,FB,Fsx,ca,oa,cb,ob,HM,LM,DD,DF,D7]
 generalize ((h.push (.row [.string nm,vr,vq,vv,vt,vu,vo,iv s.miss] 33 false false)).push (.row [iv size,vc] 29 false false)).push (.row [iv 0,iv 0] 36 false false)=Q at *
 have lA:AW 8 0 (Q.get h.next)=some (.agg #[.string nm,vr,vq,vv,vt,vu,vo,iv s.miss]):=KQ gA rfl
 have lB:AW 2 0 (Q.get (h.next+1))=some (.agg #[iv size,vc]):=by rw[gB];rfl
 have hpQ:CB lo Q (.agg #[.string nm,vr,vq,vv,vt,vu,vo,iv s.miss]) nm s:=hp.mono (by omega) fun i _ hi=>gO i hi
 have hcQ:EF lc Q (.agg #[iv size,vc]) size C:=hc.mono (by omega) fun i _ hi=>gO i hi
 have hchk:=rV (n:=n) hpQ hlies hs hl (by omega) (by rw[gO 0 hn0];exact hg) (by omega) (by omega)
 have hfit:=Gu (n:=n) hpQ hcQ hC hs.2.1 (by omega)
 have fin:∀ e:Int,∃ H',A9 Tryd.prog Q 36 (qP (h.next+2) 0) (BG e 0)=some H'∧AW 2 0 (H'.get (h.next+2))=some (BG e 0)∧∀ i,i<h.next→H'.get i=h.get i:=fun e=>by
  refine⟨_,I5 IP (vs:=[iv e,iv 0]) gF rfl rfl rfl (by omega),?_,fun i hi=>?_⟩
  ·rw[B0 rfl (by omega)]
   rfl
  ·rw[AX (by omega) (by omega)]
   exact gO i hi
 have nn:h.next+1+1=h.next+2:=rfl
 cases d1:(FQ nm s != 0) with
 | true=>
  have e1:C0 nm s size C=FQ nm s:=by unfold C0;rw[if_pos (by simpa using d1)]
  obtain⟨H',s1,s2,s3⟩:=fin (FQ nm s)
  rw[e1]
  simp only[eE,seval,↓eP,hr,nn,CT,lA,hchk,d1,QH,s1,CG,s2]
  exact s3
 | false=>
 have e1:FQ nm s=0:=by simpa using d1
 cases d2:LW size C s.queues with
 | false=>
  have e2:C0 nm s size C=45:=by unfold C0;rw[if_neg (by rw[e1];decide),if_neg (by rw[d2];decide)]
  obtain⟨H',s1,s2,s3⟩:=fin 45
  rw[e2]
  simp only[eE,seval,↓eP,hr,nn,CT,EI,lA,lB,hchk,d1,hfit,d2,QH,s1,CG,s2]
  exact s3
 | true=>
  have e2:C0 nm s size C=0:=by unfold C0;rw[if_neg (by rw[e1];decide),if_pos d2]
  obtain⟨H',s1,s2,s3⟩:=fin 0
  rw[e2]
  simp only[eE,seval,↓eP,hr,nn,CT,EI,lA,lB,hchk,d1,hfit,d2,FR,s1,CG,s2]
  exact s3
theorem SQ {nm:ByteArray} {s:AK} {pv cv:Value} {lo lc:Nat} {size:Int} {C:List Int} (hp:CB lo h pv nm s) (hc:EF lc h cv size C) (hlies:∀ nm' vr vq vv vt vu vo m,pv=.agg #[.string nm',vr,vq,vv,vt,vu,vo,m]→GS vr s.rows.length) (hl:s.rows.length<2932031007403) (hg:h.get 0=CF) (hn0:0<h.next) (hs:IE s) (hC:C.length<17592186044416) (hfl:h.floor≤h.next) (hn:2*E6 s+400+C.length+10<n):AU n 17 [pv,cv] h=some (BG (C0 nm s size C) 0,h):=by
 obtain⟨n,rfl⟩:=DJ hn
 exact JR (BX ⟨rfl,rfl,rfl⟩) rfl (Dv (n:=n) (N:=n) hp hc hlies hl hg hn0 hs hC hfl (by omega))
end
theorem VW {nm:ByteArray} {s:AK} {size:Int} {C:List Int} (h:C0 nm s size C=0):PY s size C:=by
 unfold C0 at h
 split at h
 ·rename_i hc;exact absurd h hc
 ·split at h
  ·rename_i hf;exact Ic hf
  ·cases h
section
variable {n N:Nat} {h:AA}
theorem tH {nm:ByteArray} {s:AK} {Z:List AB} {pv cv:Value} {lo lc:Nat} {size:Int} {C:List Int} (hG:DN Z s) (hF:PY s size C) (hp:CB lo h pv nm s) (hc:EF lc h cv size C) (hl:s.rows.length<2932031007403) (hfl:h.floor≤h.next) (hn:s.rows.length+100<n) :
  ∃ h',AU n 35 [pv,cv] h=some (.tuple #[qS (h.next+2) s.rows.length s.rows.length,qS (h.next+3) s.rows.length s.rows.length],h')∧∃ P Cp V I,IT h h' P Cp V I∧N4 s.rows (B7 s.rows (AD Z) size C) 0 V I:=by
 obtain⟨n,rfl⟩:=DJ hn
 exact QR (BX ⟨rfl,rfl,rfl⟩) (by simp[ED,flat,BI]) (Ma (n:=n) (N:=n) hG hF hp hc hl hfl (by omega) (by omega))
end
noncomputable def C6 (s:AK) (size:Int) (C:List Int) (p:Nat):Int:=(B7 s.rows (AD (BD s.rows)) size C p).getD 0
noncomputable def QL (s:AK) (size:Int) (C:List Int):(Int × Int) × EO:=EY s.rows (AD (BD s.rows)) (C6 s size C) s.rows.length 0 ⟨[],[],List.replicate s.rows.length 0⟩
noncomputable def BB (nm:ByteArray) (s:AK) (size:Int) (C:List Int):(Int × Int) × EO:=
 if (AS nm s).1.1≠0 then ((AS nm s).1,RB) else if C0 nm s size C≠0 then ((C0 nm s size C,0),RB) else QL s size C
def Fi (H:AA) (lo:Nat) (v:Value) (r:(Int × Int) × EO):Prop:=∃ tv,v=.tuple #[tv,BG r.1.1 r.1.2]∧F4 lo H tv r.2
def aM (H:AA) (lo:Nat) (v:Value) (r:(Int × Int) × EO):Prop:=∃ tv,v=.tuple #[tv,BG r.1.1 r.1.2]∧JI lo H tv r.2
section
variable {P:Program} {call:AN} {n:Nat} {a b c p d:Code} {s:St} {k:CU}
theorem zJ (h:WK P call n (.seq a p) s (.seq d k)):WK P call n (.seq a (.seq p d)) s k:=by
 rw[ME] at h ⊢
 refine WS.mono h fun e s1 g=>?_
 cases e with
 | normal=>
  show WK P call n (.seq p d) s1 k
  rw[ME]
  exact g
 | exit i=>exact g
 | ret=>exact g
theorem vT (h:WK P call n (.seq a (.seq b p)) s (.seq d k)):WK P call n (.seq a (.seq b (.seq p d))) s k:=by
 rw[ME] at h ⊢
 refine WS.mono h fun e s1 g=>?_
 cases e with
 | normal=>exact zJ g
 | exit i=>exact g
 | ret=>exact g
theorem qL (h:WK P call n (.seq a (.seq b (.seq c p))) s (.seq d k)):WK P call n (.seq a (.seq b (.seq c (.seq p d)))) s k:=by
 rw[ME] at h ⊢
 refine WS.mono h fun e s1 g=>?_
 cases e with
 | normal=>exact vT g
 | exit i=>exact g
 | ret=>exact g
end
theorem kT:BN Tryd.prog 82=some 3:=by kernel_rfl
theorem zN:FM Tryd.prog 82=some true:=by kernel_rfl
section
variable {h:AA} {id off:Nat}
theorem eK:EL Tryd.prog h 82 (qP id off)=AW 3 off (h.get id):=M3 zN kT
theorem bX:BJ Tryd.prog 82 (qP id off) 0=some (qP id off):=by simp[BJ,Tryd.underlying82,CP,CK]
theorem bB:BJ Tryd.prog 82 (qP id off) 1=some (qP id (off+1)):=by simp[BJ,Tryd.underlying82,CP,CK]
theorem sV:BJ Tryd.prog 82 (qP id off) 2=some (qP id (off+2)):=by simp[BJ,Tryd.underlying82,CP,CK]
end
def LV (k:Int):Bool:=k==4||(k==5||(k==6||k==13))
def ZF:List (Bool × Bool × List Operand):=[AR,AL,AH [.tmp 7],AL]
def dN:List (Bool × Bool × List Operand):=[AR,AL,AH [.tmp 8],AL]
section
variable {s:AK} {i:Nat} {x:AB}
theorem aL (hG:DN (BD s.rows) s) (hx:s.rows[i]?=some x):(x.kind=4∨x.kind=13→x.kids=3)∧(x.kind=5∨x.kind=6→x.kids=1):=by
 obtain⟨z,hz,h1,h2⟩:=hG.z hx
 have hf:=hG.t.fit hz
 unfold DK at hf
 simp only[Bool.and_eq_true,decide_eq_true_eq,Bool.or_eq_true] at hf
 obtain⟨⟨_,hl⟩,hm⟩:=hf
 rw[← h1,← h2] at hl hm
 refine⟨fun h=>?_,fun h=>?_⟩ <;> (rcases h with h | h <;> (rw[h] at hl hm;rcases hm with hm | hm <;> simp[C2,F6] at hm hl <;> omega))
theorem Nq (hG:DN (BD s.rows) s) (hx:s.rows[i]?=some x) (hd:LV x.kind=true) (f:Nat→Int) :
  (x.kind=4→(BH (AD (BD s.rows)) x.kids.toNat (i+1)).map f=[f (i+1),f (AD (BD s.rows) (i+1)),f (AD (BD s.rows) (AD (BD s.rows) (i+1)))])∧((BH (AD (BD s.rows)) x.kids.toNat (i+1)).map f)[0]?=some (f (i+1)):=by
 obtain⟨h3,h1⟩:=aL hG hx
 refine⟨fun h=>?_,?_⟩
 ·rw[h3 (.inl h)]
  rfl
 ·have hk:0<x.kids:=by
   unfold LV at hd
   simp at hd
   rcases hd with h | h | h | h
   ·rw[h3 (.inl h)];decide
   ·rw[h1 (.inl h)];decide
   ·rw[h1 (.inr h)];decide
   ·rw[h3 (.inr h)];decide
  obtain⟨r,hr⟩:∃ r,x.kids.toNat=r+1:=⟨x.kids.toNat-1,by omega⟩
  rw[hr]
  rfl
end
def wG (B:AA) (RI VI D i:Nat) (h:AA) (vr:Value) (s:AK) (x:AB) (t:EO) (L:List Int) (e:EM) (s':St):Prop:=
 e=.normal∧s'.T.get 2=qP h.next 0∧s'.T.get 4=qP (h.next+2) 0∧s'.T.get 5=qP (h.next+3) 0∧s'.T.get 9=qS VI s.rows.length s.rows.length∧s'.T.get 11=qP (RI+1) 0∧s'.T.get 52=vr∧s'.T.get 53=iv (s.rows.length:Int)∧s'.T.get 54=iv (i:Int)∧s'.T.get 12=iv (i:Int)∧s'.T.get 13=qP D 0∧s'.T.get 14=iv 0∧IN B RI s.rows.length s'.h t∧s'.h.get D=.row (AZ x) 61 false false∧∃ lv,s'.T.get 15=lv∧AT 0 s'.h lv L
section
variable {n N:Nat} {h:AA}
theorem yV {nm:ByteArray} {s:AK} {pv cv:Value} {lo lc:Nat} {size:Int} {C:List Int} (hp:CB lo h pv nm s) (hc:EF lc h cv size C) (hlies:∀ nm' vr vq vv vt vu vo m,pv=.agg #[.string nm',vr,vq,vv,vt,vu,vo,m]→GS vr s.rows.length) (hs:IE s) (hl:s.rows.length<2932031007403) (hC:C.length<17592186044416) (hg:h.get 0=CF) (hn0:0<h.next) (hfl:h.floor≤h.next) (hn:2*E6 s+101000+C.length<n) (hN:2*E6 s+1000<N) :
  ∃ v' h',A7 Tryd.prog (AU n) N 16 [pv,cv] h=some (v',h')∧aM h' h.next v' (BB nm s size C)∧h'.floor=h.floor∧h.next≤h'.next∧∀ i,i<h.next→h'.get i=h.get i:=by
 obtain⟨vr,vq,vv,vt,vu,vo,rfl,p1,p2,p3,p4,p5,p6⟩:=id hp
 obtain⟨vc,rfl,pc⟩:=id hc
 have hsn:=(FT n).2
 have htot:E6 s=s.rows.length+s.queues.length+s.vars.length+s.tags.length+s.rules.length+s.on.length:=rfl
 refine UL (R:=fun v' h'=>aM h' h.next v' (BB nm s size C)∧h'.floor=h.floor∧h.next≤h'.next∧∀ i,i<h.next→h'.get i=h.get i) Tryd.func16 rfl (by simp[Tryd.f16]) ?_
 have hr:Tryd.f16.results.toList=[.cell 4 43,.cell 5 36]:=rfl
 have ca:=E3 [.string nm,vr,vq,vv,vt,vu,vo,iv s.miss]
 have oa:=I6 (nm:=nm) p1 p2 p3 p4 p5 p6
 have cb:=E3 [iv size,vc]
 have ob:[iv size,vc].all one=true:=by simp only[List.all_cons,List.all_nil,AM.one pc,JU,Bool.and_self]
 have zcT:zT.cells.toList=[Z0,Z0,Z0]:=rfl
 obtain⟨gA,gB,gT,gF,nG,fG,gO⟩:=Gj h (.row [.string nm,vr,vq,vv,vt,vu,vo,iv s.miss] 33 false false) (.row [iv size,vc] 29 false false) (.row [Z0,Z0,Z0] 43 false false) (.row [iv 0,iv 0] 36 false false)
 simp only[eE,seval,↓eP,FU,FB,Fsx,ca,oa,cb,ob,HM,LM,JZ,KB,zcT,DD,DF,D7]
 generalize (((h.push (.row [.string nm,vr,vq,vv,vt,vu,vo,iv s.miss] 33 false false)).push (.row [iv size,vc] 29 false false)).push (.row [Z0,Z0,Z0] 43 false false)).push (.row [iv 0,iv 0] 36 false false)=Q at *
 have nn:h.next+1+1=h.next+2:=rfl
 have nm3:h.next+2+1=h.next+3:=rfl
 have lA:AW 8 0 (Q.get h.next)=some (.agg #[.string nm,vr,vq,vv,vt,vu,vo,iv s.miss]):=KQ gA rfl
 have hpQ:CB lo Q (.agg #[.string nm,vr,vq,vv,vt,vu,vo,iv s.miss]) nm s:=hp.mono (by omega) fun i _ hi=>gO i hi
 have len1:=fun h'=>NT p1.2 h'
 obtain⟨v2,H1,hty,⟨tv,hv2,hI⟩,f1,n1,o1⟩:=SJ (n:=n) hpQ hlies hs (by omega) (by rw[gO 0 hn0];exact hg) (by omega) (by omega) (by omega)
 subst hv2
 obtain⟨D1,stD,gD,nD,fD,oD⟩:=KE (t:=36) IP (H:=H1) (zs:=[iv 0,iv 0]) (vs:=[iv (AS nm s).1.1,iv (AS nm s).1.2]) rfl rfl rfl (by omega)
 have stD':A9 Tryd.prog (H1.push (.row [iv 0,iv 0] 36 false false)) 36 (qP H1.next 0) (BG (AS nm s).1.1 (AS nm s).1.2)=some D1:=stD
 have oDQ:∀ i,i<Q.next→D1.get i=Q.get i:=fun i hi=>by rw[oD i (by omega),o1 i hi]
 have oDh:∀ i,i<h.next→D1.get i=h.get i:=fun i hi=>by rw[oDQ i (by omega)];exact gO i hi
 have e0:AJ 0 (D1.get H1.next)=some (iv (AS nm s).1.1):=by rw[gD];rfl
 have gTD:D1.get (h.next+2)=.row [Z0,Z0,Z0] 43 false false:=by rw[oDQ _ (by omega)];exact gT
 have gFD:D1.get (h.next+3)=.row [iv 0,iv 0] 36 false false:=by rw[oDQ _ (by omega)];exact gF
 have lAD:AW 8 0 (D1.get h.next)=some (.agg #[.string nm,vr,vq,vv,vt,vu,vo,iv s.miss]):=by rw[oDQ _ (by omega)];exact lA
 have lBD:AW 2 0 (D1.get (h.next+1))=some (.agg #[iv size,vc]):=by rw[oDQ _ (by omega),gB];rfl
 have hpD:CB lo D1 (.agg #[.string nm,vr,vq,vv,vt,vu,vo,iv s.miss]) nm s:=hp.mono (by omega) fun i _ hi=>oDh i hi
 have hcD:EF lc D1 (.agg #[iv size,vc]) size C:=hc.mono (by omega) fun i _ hi=>oDh i hi
 cases d1:((AS nm s).1.1 != 0) with
 | true=>
  have eR:BB nm s size C=((AS nm s).1,RB):=by unfold BB;rw[if_pos (by simpa using d1)]
  rw[eR]
  obtain⟨G1,G2,s1,s2,s3,s4,s5,s6,s7,s8,s9,sa,sb⟩:=NE gTD gFD (by omega) (by omega) (N3 (h.next+2+2) D1) (AS nm s).1.1 (AS nm s).1.2
  rw[nm3] at s2 s4
  have lD:AW 2 0 (D1.get H1.next)=some (BG (AS nm s).1.1 (AS nm s).1.2):=by rw[gD];rfl
  have hne:(CV (qP H1.next 0) != CV (qP (h.next+2) 0))=true:=by simp[CV];omega
  have fH1:G1.fl D1.floor=G1:=by rw[← s8];exact HE G1
  have fH2:G2.fl D1.floor=G2:=by rw[← s9];exact HE G2
  have fH3:G2.fl G1.floor=G2:=by rw[s8,← s9];exact HE G2
  simp only[eE,seval,↓eP,nn,nm3,CT,lA,hty,DD,DF,D7,stD',E2,E8,e0,d1]
  refine WK.flags (fs:=ZF) (by kernel_rfl) ?_
  unfold ZF
  iterate 4
   refine EE hsn ?_
   simp only[rG,seval,AC,AF,AE,CZ,DY,CQ,DI,EB,List.map_nil,IZ,OL,CG,lD,hne,s1,fH1,s2,fH3]
  refine D_ ?_
  simp only[eE,seval,↓eP,hr,J4,s3,CG,s4]
  exact⟨⟨_,rfl,s5.weak (by omega)⟩,by omega,by omega,fun i hi=>by rw[sb i (by omega)];exact oDh i hi⟩
 | false=>
 have z1:(AS nm s).1.1=0:=by simpa using d1
 obtain⟨hck,hG,hO,hz2⟩:=UZ z1
 have hfit:=SQ (n:=n) hpD hcD hlies (by omega) (by rw[oDh 0 hn0];exact hg) (by omega) hs (by omega) (by omega) (by omega)
 obtain⟨E,stE,gE,nE,fE,oE⟩:=KE (t:=36) IP (H:=D1) (zs:=[iv 0,iv 0]) (vs:=[iv (C0 nm s size C),iv 0]) rfl rfl rfl (by omega)
 have stE':A9 Tryd.prog (D1.push (.row [iv 0,iv 0] 36 false false)) 36 (qP D1.next 0) (BG (C0 nm s size C) 0)=some E:=stE
 have e1:AJ 0 (E.get D1.next)=some (iv (C0 nm s size C)):=by rw[gE];rfl
 have oEh:∀ i,i<h.next→E.get i=h.get i:=fun i hi=>by rw[oE i (by omega)];exact oDh i hi
 have gTE:E.get (h.next+2)=.row [Z0,Z0,Z0] 43 false false:=by rw[oE _ (by omega)];exact gTD
 have gFE:E.get (h.next+3)=.row [iv 0,iv 0] 36 false false:=by rw[oE _ (by omega)];exact gFD
 cases d2:(C0 nm s size C != 0) with
 | true=>
  have eR:BB nm s size C=((C0 nm s size C,0),RB):=by unfold BB;rw[if_neg (by rw[z1];decide),if_pos (by simpa using d2)]
  rw[eR]
  obtain⟨G1,G2,s1,s2,s3,s4,s5,s6,s7,s8,s9,sa,sb⟩:=NE gTE gFE (by omega) (by omega) (N3 (h.next+2+2) E) (C0 nm s size C) 0
  rw[nm3] at s2 s4
  have lE:AW 2 0 (E.get D1.next)=some (BG (C0 nm s size C) 0):=by rw[gE];rfl
  have hne:(CV (qP D1.next 0) != CV (qP (h.next+2) 0))=true:=by simp[CV];omega
  have fH1:G1.fl E.floor=G1:=by rw[← s8];exact HE G1
  have fH2:G2.fl E.floor=G2:=by rw[← s9];exact HE G2
  have fH3:G2.fl G1.floor=G2:=by rw[s8,← s9];exact HE G2
  simp only[eE,seval,↓eP,nn,nm3,CT,lA,hty,DD,DF,D7,stD',E2,E8,e0,d1,lAD,EI,lBD,hfit,stE',e1,d2]
  refine WK.flags (fs:=dN) (by kernel_rfl) ?_
  unfold dN
  iterate 4
   refine EE hsn ?_
   simp only[rG,seval,AC,AF,AE,CZ,DY,CQ,DI,EB,List.map_nil,IZ,OL,CG,lE,hne,s1,fH1,s2,fH3]
  refine D_ ?_
  simp only[eE,seval,↓eP,hr,J4,s3,CG,s4]
  exact⟨⟨_,rfl,s5.weak (by omega)⟩,by omega,by omega,fun i hi=>by rw[sb i (by omega)];exact oEh i hi⟩
 | false=>
 have z2:C0 nm s size C=0:=by simpa using d2
 have hF:=VW z2
 have eR:BB nm s size C=QL s size C:=by unfold BB;rw[if_neg (by rw[z1];decide),if_neg (by rw[z2];decide)]
 rw[eR]
 have lAE:AW 8 0 (E.get h.next)=some (.agg #[.string nm,vr,vq,vv,vt,vu,vo,iv s.miss]):=by rw[oE _ (by omega)];exact lAD
 have lBE:AW 2 0 (E.get (h.next+1))=some (.agg #[iv size,vc]):=by rw[oE _ (by omega)];exact lBD
 obtain⟨B,hcon,Pp,CC,V,I,hT,hV⟩:=tH (n:=n) (h:=E) hG hF (hp.mono (by omega) fun i _ hi=>oEh i hi) (hc.mono (by omega) fun i _ hi=>oEh i hi) hl (by omega) (by omega)
 obtain⟨hV1,hV2,hV3⟩:=hV
 have hmal:∀ p,p<s.rows.length→V[p]?=some (C6 s size C p):=fun p hp=>((hV3 p hp).1 (Nat.zero_le _)).1
 have nB:=hT.n
 have fB:=hT.fl
 have gV:=hT.v
 have oBh:∀ i,i<h.next→B.get i=h.get i:=fun i hi=>by rw[hT.o i (by omega)];exact oEh i hi
 have gAB:B.get h.next=.row [.string nm,vr,vq,vv,vt,vu,vo,iv s.miss] 33 false false:=by rw[hT.o _ (by omega),oE _ (by omega),oDQ _ (by omega)];exact gA
 have gTB:B.get (h.next+2)=.row [Z0,Z0,Z0] 43 false false:=by rw[hT.o _ (by omega)];exact gTE
 have gFB:B.get (h.next+3)=.row [iv 0,iv 0] 36 false false:=by rw[hT.o _ (by omega)];exact gFE
 have x1:AJ 1 (B.get h.next)=some vr:=by rw[gAB];rfl
 have LI:HB Tryd.prog B 27 (iv (s.rows.length:Int)) (iv (s.rows.length:Int))=some (qS B.next s.rows.length s.rows.length,B.push (.row (ints (List.replicate s.rows.length 0)) 3 false false)):=by
  have:=Q5 (P:=Tryd.prog) (h:=B) (t:=27) (e:=3) (z:=.int .i64 0) Tryd.underlying27 CP JC GO rfl rfl (by decide) (by decide) (n:=s.rows.length) (by omega)
  rw[show BY (Value.int IntKind.i64 0).cells.toList s.rows.length=ints (List.replicate s.rows.length 0) from RZ _] at this
  exact this
 obtain⟨H7,stT,g7,n7,f7,o7⟩:=KE (t:=43) OF (H:=B.push (.row (ints (List.replicate s.rows.length 0)) 3 false false)) (zs:=[Z0,Z0,Z0]) (vs:=[Z0,Z0,qS B.next s.rows.length s.rows.length]) rfl rfl rfl (by show B.floor≤B.next+1;omega)
 rw[BZ] at g7 n7 o7
 have stT':A9 Tryd.prog ((B.push (.row (ints (List.replicate s.rows.length 0)) 3 false false)).push (.row [Z0,Z0,Z0] 43 false false)) 43 (qP (B.next+1) 0) (.agg #[Z0,Z0,qS B.next s.rows.length s.rows.length])=some H7:=stT
 have o7B:∀ i,i<B.next→H7.get i=B.get i:=fun i hi=>by rw[o7 i (by omega),AQ hi]
 have x7:AJ 1 (H7.get h.next)=some vr:=by rw[o7B _ (by omega)];exact x1
 have hK0:IN B B.next s.rows.length H7 ⟨[],[],List.replicate s.rows.length 0⟩:=⟨by rw[o7 _ (by omega)];exact BM,List.length_replicate,⟨_,_,g7,.inl ⟨rfl,rfl,rfl⟩,.inl ⟨rfl,rfl,rfl⟩⟩,by omega,f7,o7B⟩
 simp only[eE,seval,↓eP,nn,nm3,CT,lA,hty,DD,DF,D7,stD',Nat.zero_add,E2,E8,e0,d1,lAD,EI,lBD,hfit,stE',e1,d2,lAE,lBE,hcon,CJ,CL,x1,len1,LI,Bw,JZ,KB,zcT,BZ,stT',x7]
 clear stT stT' g7 o7 LI x7 hfit hty stD stD' stE stE' e0 e1 hcon
 obtain⟨t0,ht0⟩:∃ t0:EO,t0=⟨[],[],List.replicate s.rows.length 0⟩:=⟨_,rfl⟩
 have eG:QL s size C=EY s.rows (AD (BD s.rows)) (C6 s size C) s.rows.length 0 t0:=by rw[ht0];rfl
 rw[← ht0] at hK0
 have hv0:t0.V.length=0∧t0.G.length=0:=by rw[ht0];exact⟨rfl,rfl⟩
 clear ht0
 obtain⟨RI,hRI⟩:∃ RI,RI=B.next:=⟨_,rfl⟩
 obtain⟨VI,hVI⟩:∃ VI,VI=E.next+2:=⟨_,rfl⟩
 rw[← hRI] at hK0 ⊢
 rw[← hVI] at gV ⊢
 have hb1:h.next+4≤VI∧VI<RI∧B.floor≤RI∧B.floor=h.floor:=by omega
 clear nB fB hT hpD hcD hpQ lAE lBE gTE gFE gTD gFD oE oD o1 gE gD
 refine WK.loop (fun i s'=>s'.T.get 2=qP h.next 0∧s'.T.get 4=qP (h.next+2) 0∧s'.T.get 5=qP (h.next+3) 0∧s'.T.get 9=qS VI s.rows.length s.rows.length∧s'.T.get 11=qP (RI+1) 0∧s'.T.get 52=vr∧s'.T.get 53=iv (s.rows.length:Int)∧s'.T.get 54=iv (i:Int)∧i≤s.rows.length∧∃ t,IN B RI s.rows.length s'.h t∧EY s.rows (AD (BD s.rows)) (C6 s size C) (s.rows.length-i) i t=QL s size C∧t.V.length≤i∧t.G.length≤i) s.rows.length (by omega) ?_ ?_
 ·exact⟨by simp only[eE,seval,↓eP,rP],by simp only[eE,seval,↓eP,rP],by simp only[eE,seval,↓eP,rP],by simp only[eE,seval,↓eP,rP],by simp only[eE,seval,↓eP,rP],by simp only[eE,seval,↓eP,rP],by simp only[eE,seval,↓eP,rP],by simp only[eE,seval,↓eP,rP] <;> rfl,by omega,t0,hK0,eG.symm,by omega,by omega⟩
 rintro i ⟨T,H⟩ hi ⟨t2,t4,t5,t9,t11,t52,t53,t54,hil,t,hK,hgo,htV,htG⟩
 simp only at t2 t4 t5 t9 t11 t52 t53 t54 hK
 have hnK:=hK.n
 have hfK:=hK.fl
 have oKh:∀ j,j<h.next→H.get j=h.get j:=fun j hj=>by rw[hK.o j (by omega)];exact oBh j hj
 by_cases hlt:i<s.rows.length
 rotate_left
 ·have c1:decide ((i:Int)<(s.rows.length:Int))=false:=by simp;omega
  have hin:i=s.rows.length:=by omega
  subst hin
  have eZ:QL s size C=((0,0),t):=by rw[← hgo,Nat.sub_self];rfl
  rw[eZ]
  obtain⟨v,k1,k2,k3⟩:=hK.typedO
  obtain⟨G1,G2,s1,s2,s3,s4,s5,s6,s7,s8,s9,sa,sb⟩:=NE (H:=H) (a:=h.next+2) (by rw[hK.o _ (by omega)];exact gTB) (by rw[hK.o _ (by omega)];exact gFB) (by omega) (by omega) (k2.weak (by omega)) 0 0
  rw[nm3] at s2 s4
  simp only[eE,seval,↓eP,hr,t4,t5,t11,t53,t54,c1,J4,k1,FR,s1,s2,s3,CG,s4]
  exact⟨⟨_,rfl,s5.weak (by omega)⟩,by omega,by omega,fun j hj=>by rw[sb j (by omega)];exact oKh j hj⟩
 have c1:decide ((i:Int)<(s.rows.length:Int))=true:=by simp;omega
 obtain⟨x,hx⟩:∃ x,s.rows[i]?=some x:=⟨_,List.getElem?_eq_getElem hlt⟩
 obtain⟨r,hr1⟩:∃ r,s.rows.length-i=r+1:=⟨s.rows.length-i-1,by omega⟩
 rw[hr1] at hgo
 have hri:s.rows.length-(i+1)=r:=by omega
 have hvH:A_ H vr s.rows:=p1.1.mono (by omega) oKh
 obtain⟨ia,pa,ea,hia,_,_,_,_,_,la⟩:=hvH.row hx
 have fz:flat (CH K5)=true:=rfl
 obtain⟨H2,stX,gX,n2,f2,o2⟩:=KE (t:=61) GJ (H:=H) (zs:=AZ K5) (vs:=AZ x) rfl rfl rfl (by omega)
 have stX':A9 Tryd.prog (H.push (.row (AZ K5) 61 false false)) 61 (qP H.next 0) (CH x)=some H2:=stX
 have hK2:=hK.mono (H':=H2) (by omega) f2 o2
 have y0:AJ 0 (H2.get H.next)=some (iv x.kind):=by rw[gX];rfl
 have w1:=ET i (by omega)
 simp only[S_,seval,↓eP,t53,t54,c1]
 rw[UP]
 refine qL ?_
 obtain⟨D,hD⟩:∃ D,D=H.next:=⟨_,rfl⟩
 obtain⟨L,hL⟩:∃ L:List Int,L=if LV x.kind=true then (BH (AD (BD s.rows)) x.kids.toNat (i+1)).map (C6 s size C) else []:=⟨_,rfl⟩
 refine T_ (wG B RI VI D i h vr s x t L) ?_ ?_
 ·refine qL ?_
  refine T_ (fun e s'=>e=.normal∧s'.h=H2∧s'.T.get 2=qP h.next 0∧s'.T.get 4=qP (h.next+2) 0∧s'.T.get 5=qP (h.next+3) 0∧s'.T.get 9=qS VI s.rows.length s.rows.length∧s'.T.get 11=qP (RI+1) 0∧s'.T.get 52=vr∧s'.T.get 53=iv (s.rows.length:Int)∧s'.T.get 54=iv (i:Int)∧s'.T.get 12=iv (i:Int)∧s'.T.get 13=qP D 0∧s'.T.get 14=iv 0∧s'.T.get 15=Z0∧s'.T.get 76=.bool (LV x.kind)) ?_ ?_
  ·cases c4:(x.kind==4) with
   | true=>
    simp only[eE,seval,↓eP,t2,t4,t5,t9,t11,t52,t53,t54,ea,IG,la,FY,fz,zr,stX',CW,AV,y0,c4,LV,Bool.true_or,hD]
   | false=>
   cases c5:(x.kind==5) with
   | true=>
    simp only[eE,seval,↓eP,t2,t4,t5,t9,t11,t52,t53,t54,ea,IG,la,FY,fz,zr,stX',CW,AV,y0,c4,c5,LV,Bool.true_or,Bool.false_or,hD]
   | false=>
   cases c6:(x.kind==6) with
   | true=>
    simp only[eE,seval,↓eP,t2,t4,t5,t9,t11,t52,t53,t54,ea,IG,la,FY,fz,zr,stX',CW,AV,y0,c4,c5,c6,LV,Bool.true_or,Bool.false_or,hD]
   | false=>
    simp only[eE,seval,↓eP,t2,t4,t5,t9,t11,t52,t53,t54,ea,IG,la,FY,fz,zr,stX',CW,AV,y0,c4,c5,c6,LV,Bool.false_or,hD]
  rintro e ⟨T3,HH⟩ ⟨rfl,hh,u2,u4,u5,u9,u11,u52,u53,u54,u12,u13,u14,u15,u76⟩
  simp only at hh u2 u4 u5 u9 u11 u52 u53 u54 u12 u13 u14 u15 u76
  subst hh
  cases hd:LV x.kind with
  | false=>
   rw[hd] at u76
   have hL0:L=[]:=by rw[hL,if_neg (by rw[hd];decide)]
   simp only[eE,seval,↓eP,u76]
   exact⟨rfl,by simp only[eE,seval,↓eP,rP,u2],by simp only[eE,seval,↓eP,rP,u4],by simp only[eE,seval,↓eP,rP,u5],by simp only[eE,seval,↓eP,rP,u9],by simp only[eE,seval,↓eP,rP,u11],by simp only[eE,seval,↓eP,rP,u52],by simp only[eE,seval,↓eP,rP,u53],by simp only[eE,seval,↓eP,rP,u54],by simp only[eE,seval,↓eP,rP,u12],by simp only[eE,seval,↓eP,rP,u13],by simp only[eE,seval,↓eP,rP,u14],hK2,by rw[hD];exact gX,_,u15,by rw[hL0];exact AM.nil 0 _ 1⟩
  | true=>
   rw[hd] at u76
   have hL1:L=(BH (AD (BD s.rows)) x.kids.toNat (i+1)).map (C6 s size C):=by rw[hL,if_pos hd]
   have x2:AJ 1 (HH.get h.next)=some vr:=by rw[o2 _ (by omega),hK.o _ (by omega)];exact x1
   have hv2:A_ HH vr s.rows:=p1.1.mono (by omega) fun j hj=>by rw[o2 j (by omega)];exact oKh j hj
   obtain⟨zz,hzz,_,hzk⟩:=hG.z hx
   obtain⟨kv,H5,hkids,hkL,f5,n5,o5⟩:=bO (n:=n) hG.t hG.sk hv2 hzz (by omega) (by omega) (by omega)
   rw[← hzk] at hkL
   have hkc:=hkL.ints (Nat.le_refl _)
   have lenK:=fun h'=>JY hkc h'
   have hkl:((BH (AD (BD s.rows)) x.kids.toNat (i+1)).map (fun (k:Nat)=>(k:Int))).length=x.kids.toNat:=by rw[List.length_map,OG]
   obtain⟨k0,hch,hel,hei⟩:=hG.kids0 hx
   rw[hkl,show ((x.kids.toNat:Nat):Int)=x.kids by omega] at lenK
   have hK5:=hK2.mono (H':=H5) (by omega) f5 o5
   have gX5:H5.get D=.row (AZ x) 61 false false:=by rw[o5 D (by omega),hD];exact gX
   have gV5:∀ j,j<RI→H5.get j=B.get j:=hK5.o
   simp only[eE,seval,↓eP,u2,u12,u76,Nat.zero_add,CJ,CL,x2,hkids,lenK]
   generalize hks:BH (AD (BD s.rows)) x.kids.toNat (i+1)=ks at *
   have hksl:ks.length=x.kids.toNat:=by rw[← hks,OG]
   have hk3:x.kids≤3:=by
    obtain⟨q3,q1⟩:=aL hG hx
    unfold LV at hd
    simp at hd
    rcases hd with h | h | h | h
    ·rw[q3 (.inl h)];decide
    ·rw[q1 (.inl h)];decide
    ·rw[q1 (.inr h)];decide
    ·rw[q3 (.inr h)];decide
   refine WK.loop (fun q s'=>s'.T.get 2=qP h.next 0∧s'.T.get 4=qP (h.next+2) 0∧s'.T.get 5=qP (h.next+3) 0∧s'.T.get 9=qS VI s.rows.length s.rows.length∧s'.T.get 11=qP (RI+1) 0∧s'.T.get 52=vr∧s'.T.get 53=iv (s.rows.length:Int)∧s'.T.get 54=iv (i:Int)∧s'.T.get 12=iv (i:Int)∧s'.T.get 13=qP D 0∧s'.T.get 14=iv 0∧s'.T.get 80=kv∧s'.T.get 81=iv x.kids∧s'.T.get 82=iv (q:Int)∧q≤x.kids.toNat∧H5.next≤s'.h.next∧s'.h.floor=H5.floor∧(∀ j,j<H5.next→s'.h.get j=H5.get j)∧∃ w,s'.T.get 15=w∧JA s'.h H5.next w ((ks.take q).map (C6 s size C))) x.kids.toNat (by omega) ?_ ?_
   ·exact⟨by simp only[eE,seval,↓eP,rP,u2],by simp only[eE,seval,↓eP,rP,u4],by simp only[eE,seval,↓eP,rP,u5],by simp only[eE,seval,↓eP,rP,u9],by simp only[eE,seval,↓eP,rP,u11],by simp only[eE,seval,↓eP,rP,u52],by simp only[eE,seval,↓eP,rP,u53],by simp only[eE,seval,↓eP,rP,u54],by simp only[eE,seval,↓eP,rP,u12],by simp only[eE,seval,↓eP,rP,u13],by simp only[eE,seval,↓eP,rP,u14],by simp only[eE,seval,↓eP,rP],by simp only[eE,seval,↓eP,rP],by simp only[eE,seval,↓eP,rP] <;> rfl,by omega,Nat.le_refl _,rfl,fun _ _=>rfl,Z0,by simp only[eE,seval,↓eP,rP,u15],.inl ⟨rfl,rfl⟩⟩
   rintro q ⟨T4,H6⟩ hq ⟨w2,w4,w5,w9,w11,w52,w53,w54,w12,w13,w14,w80,w81,w82,hqk,n6,f6,o6,w,w15,hLq⟩
   simp only at w2 w4 w5 w9 w11 w52 w53 w54 w12 w13 w14 w80 w81 w82 n6 f6 o6 w15 hLq
   by_cases hql:q<x.kids.toNat
   rotate_left
   ·have c3:decide ((q:Int)<x.kids)=false:=by simp;omega
    have hq9:q=x.kids.toNat:=by omega
    subst hq9
    rw[List.take_of_length_le (by omega)] at hLq
    simp only[eE,seval,↓eP,w81,w82,c3]
    exact⟨rfl,by simp only[eE,seval,↓eP,rP,w2],by simp only[eE,seval,↓eP,rP,w4],by simp only[eE,seval,↓eP,rP,w5],by simp only[eE,seval,↓eP,rP,w9],by simp only[eE,seval,↓eP,rP,w11],by simp only[eE,seval,↓eP,rP,w52],by simp only[eE,seval,↓eP,rP,w53],by simp only[eE,seval,↓eP,rP,w54],by simp only[eE,seval,↓eP,rP,w12],by simp only[eE,seval,↓eP,rP,w13],by simp only[eE,seval,↓eP,rP,w14],hK5.mono n6 f6 o6,by rw[o6 D (by omega)];exact gX5,_,by simp only[eE,seval,↓eP,rP,w15];rfl,by rw[hL1];exact hLq.ints (Nat.zero_le _)⟩
   have c3:decide ((q:Int)<x.kids)=true:=by simp;omega
   obtain⟨p,hpk⟩:∃ p,ks[q]?=some p:=⟨_,List.getElem?_eq_getElem (by omega)⟩
   obtain⟨hip,hpl⟩:=hG.kid (k:=q) hx (by rw[hks];exact hpk)
   have hkc6:AT HH.next H6 kv (ks.map (fun (k:Nat)=>(k:Int))):=AT.mono hkc (by omega) fun j h1 h2=>o6 j h2
   obtain⟨ip,pp,ep,hip2,lp⟩:=AT.get hkc6 (i:=q) (x:=(p:Int)) (by rw[List.getElem?_map,hpk];rfl)
   have wq:=ET q (by omega)
   have jxv:=FL (id:=VI) (n:=s.rows.length) (c:=s.rows.length) (i:=p) hpl
   have lv:AJ p (H6.get VI)=some (iv (C6 s size C p)):=by rw[o6 VI (by omega),gV5 VI (by omega),gV];exact NP (hmal p hpl)
   obtain⟨w',H7,happ,hL',f7',n7',o7'⟩:=bM (x:=C6 s size C p) hLq (by omega) (by omega) (by rw[List.length_map,List.length_take];omega)
   have etk:ks.take (q+1)=ks.take q++[p]:=by rw[List.take_add_one,hpk];rfl
   have emap:(ks.take q).map (C6 s size C)++[C6 s size C p]=(ks.take (q+1)).map (C6 s size C):=by rw[etk,List.map_append];rfl
   rw[emap] at hL'
   simp only[eE,seval,↓eP,w2,w4,w5,w9,w11,w52,w53,w54,w12,w13,w14,w15,w80,w81,w82,c3,ep,AV,lp,jxv,lv,N5,happ,wq]
   exact⟨hql,by omega,by omega,by omega,fun j hj=>by rw[o7' j (by omega)];exact o6 j hj,hL'⟩
 rintro e ⟨T3,H3⟩ ⟨rfl,v2,v4,v5,v9,v11,v52,v53,v54,v12,v13,v14,hK3,gX3,lv,v15,hLi⟩
 simp only at v2 v4 v5 v9 v11 v52 v53 v54 v12 v13 v14 hK3 gX3 v15 hLi
 have nK3:=hK3.n
 have fK3:=hK3.fl
 have oK3:∀ H':AA,(∀ j,j<RI→H'.get j=B.get j)→∀ j,j<h.next→H'.get j=h.get j:=fun H' hH j hj=>by rw[hH j (by omega)];exact oBh j hj
 have yk:AJ 0 (H3.get D)=some (iv x.kind):=by rw[gX3];rfl
 have hlist:=fun hd=>Nq hG hx hd (C6 s size C)
 have hLd:∀ hd:LV x.kind=true,(x.kind=4→L=[C6 s size C (i+1),C6 s size C (AD (BD s.rows) (i+1)),C6 s size C (AD (BD s.rows) (AD (BD s.rows) (i+1)))])∧L[0]?=some (C6 s size C (i+1)):=fun hd=>by
  rw[hL,if_pos hd]
  exact hlist hd
 have htell:=Jk (n:=n) (h:=H3) (k:=x.kind) hLi (fun h9=>by rw[(hLd (by rw[h9];rfl)).1 h9];simp) (fun h9=>by
  have:=(List.getElem?_eq_some_iff.1 (hLd (by unfold LV;simp;omega)).2).1
  omega) (by omega)
 clear hL
 generalize hma:C6 s size C (i+1)=ma at *
 generalize hmb:C6 s size C (AD (BD s.rows) (i+1))=mb at *
 generalize hmc:C6 s size C (AD (BD s.rows) (AD (BD s.rows) (i+1)))=mc at *
 by_cases k4:x.kind=4
 ·have hL4:=(hLd (by rw[k4];rfl)).1 k4
  have eT:GP x.kind L=.iface 82 (FA ma mb mc):=by unfold GP;rw[if_pos k4,hL4];rfl
  have zcV:(FA 0 0 0).cells.toList=[iv 0,iv 0,iv 0]:=rfl
  obtain⟨H4,st4,g4,n4,f4,o4⟩:=KE (t:=82) kT (H:=H3) (zs:=[iv 0,iv 0,iv 0]) (vs:=[iv ma,iv mb,iv mc]) rfl rfl rfl (by omega)
  have hK4:=hK3.mono (H':=H4) (by omega) f4 o4
  have l40:AJ 0 (H4.get H3.next)=some (iv ma):=by rw[g4];rfl
  have l41:AJ 1 (H4.get H3.next)=some (iv mb):=by rw[g4];rfl
  have l42:AJ 2 (H4.get H3.next)=some (iv mc):=by rw[g4];rfl
  have lV:AW 3 0 (H4.get H3.next)=some (FA ma mb mc):=by rw[g4];rfl
  obtain⟨ov,nv,G1,G2,q1,q2,q3,q4,q5⟩:=hK4.addV (by omega) (by omega) ma mb mc
  cases dA:decide (ma<mb) with
  | true=>
   have hA:ma<mb:=by simpa using dA
   obtain⟨K1,K2,s1,s2,s3,s4,s5,s6,s7,s8,s9,sa,sb⟩:=NE (H:=G2) (a:=h.next+2) (by rw[q4.o _ (by omega)];exact gTB) (by rw[q4.o _ (by omega)];exact gFB) (by have:=q4.n;omega) (by have:=q4.fl;omega) (N3 (h.next+2+2) G2) 43 (i:Int)
   rw[nm3] at s2 s4
   rw[← hgo,NB hx (b:=43) (by unfold D4;rw[if_pos k4,hma,hmb,hmc,if_pos (.inl hA)]) (by decide)]
   simp only[eE,seval,↓eP,hr,v4,v5,v11,v12,v13,v15,yk,CW,AV,Nat.zero_add,htell,eT,aZ,U5,X1,zcV,st4,bX,bB,l40,l41,MA,L8,q1,eK,lV,ZW,q2,q3,dA,OL,IY,s1,s2,J4,s3,CG,s4]
   exact⟨⟨_,rfl,s5.weak (by omega)⟩,by have:=q4.fl;omega,by have:=q4.n;omega,fun j hj=>by rw[sb j (by omega)];exact oK3 _ q4.o j hj⟩
  | false=>
  have hA:¬ ma<mb:=by simpa using dA
  cases dB:decide (ma>mc) with
  | true=>
   have hB:ma>mc:=by simpa using dB
   obtain⟨K1,K2,s1,s2,s3,s4,s5,s6,s7,s8,s9,sa,sb⟩:=NE (H:=G2) (a:=h.next+2) (by rw[q4.o _ (by omega)];exact gTB) (by rw[q4.o _ (by omega)];exact gFB) (by have:=q4.n;omega) (by have:=q4.fl;omega) (N3 (h.next+2+2) G2) 43 (i:Int)
   rw[nm3] at s2 s4
   rw[← hgo,NB hx (b:=43) (by unfold D4;rw[if_pos k4,hma,hmb,hmc,if_pos (.inr hB)]) (by decide)]
   simp only[eE,seval,↓eP,hr,v4,v5,v11,v12,v13,v15,yk,CW,AV,Nat.zero_add,htell,eT,aZ,U5,X1,zcV,st4,bX,bB,sV,l40,l41,l42,MA,L8,q1,eK,lV,ZW,q2,q3,dA,dB,OL,IY,s1,s2,J4,s3,CG,s4]
   exact⟨⟨_,rfl,s5.weak (by omega)⟩,by have:=q4.fl;omega,by have:=q4.n;omega,fun j hj=>by rw[sb j (by omega)];exact oK3 _ q4.o j hj⟩
  | false=>
   have hB:¬ ma>mc:=by simpa using dB
   have es:D4 (AD (BD s.rows)) (C6 s size C) i x t=(0,{ t with V:=t.V++[(ma,mb,mc)] }):=by unfold D4;rw[if_pos k4,hma,hmb,hmc,if_neg (by omega)]
   rw[PD hx (by rw[es]),es] at hgo
   simp only[eE,seval,↓eP,v2,v4,v5,v9,v11,v52,v53,v54,v13,v14,v15,yk,CW,AV,Nat.zero_add,htell,eT,aZ,U5,X1,zcV,st4,bX,bB,sV,l40,l41,l42,MA,L8,q1,eK,lV,ZW,q2,q3,dA,dB,w1]
   exact⟨hlt,by omega,_,q4,by rw[hri];exact hgo,by simp;omega,by show t.G.length≤_;omega⟩
 by_cases k5:x.kind=5
 ·have hL0:=(hLd (by rw[k5];rfl)).2
  have eT:GP x.kind L=.iface 83 (iv ma):=by unfold GP;rw[if_neg k4,if_pos k5,N_ hL0]
  obtain⟨ov,nv,G1,G2,q1,q2,q3,q4,q5⟩:=hK3.addG (by omega) (by omega) ma
  cases dA:decide (ma<1) with
  | true=>
   have hA:ma<1:=by simpa using dA
   obtain⟨K1,K2,s1,s2,s3,s4,s5,s6,s7,s8,s9,sa,sb⟩:=NE (H:=G2) (a:=h.next+2) (by rw[q4.o _ (by omega)];exact gTB) (by rw[q4.o _ (by omega)];exact gFB) (by have:=q4.n;omega) (by have:=q4.fl;omega) (N3 (h.next+2+2) G2) 43 (i:Int)
   rw[nm3] at s2 s4
   rw[← hgo,NB hx (b:=43) (by unfold D4;rw[if_neg k4,if_pos k5,hma,if_pos (.inl hA)]) (by decide)]
   simp only[eE,seval,↓eP,hr,v4,v5,v11,v12,v13,v15,yk,CW,AV,Nat.zero_add,htell,eT,aV,eH,PN,DG,Nat.zero_add,q1,N5,q2,q3,dA,OL,IY,s1,s2,J4,s3,CG,s4]
   exact⟨⟨_,rfl,s5.weak (by omega)⟩,by have:=q4.fl;omega,by have:=q4.n;omega,fun j hj=>by rw[sb j (by omega)];exact oK3 _ q4.o j hj⟩
  | false=>
  have hA:¬ ma<1:=by simpa using dA
  cases dB:decide (ma>255) with
  | true=>
   have hB:ma>255:=by simpa using dB
   obtain⟨K1,K2,s1,s2,s3,s4,s5,s6,s7,s8,s9,sa,sb⟩:=NE (H:=G2) (a:=h.next+2) (by rw[q4.o _ (by omega)];exact gTB) (by rw[q4.o _ (by omega)];exact gFB) (by have:=q4.n;omega) (by have:=q4.fl;omega) (N3 (h.next+2+2) G2) 43 (i:Int)
   rw[nm3] at s2 s4
   rw[← hgo,NB hx (b:=43) (by unfold D4;rw[if_neg k4,if_pos k5,hma,if_pos (.inr hB)]) (by decide)]
   simp only[eE,seval,↓eP,hr,v4,v5,v11,v12,v13,v15,yk,CW,AV,Nat.zero_add,htell,eT,aV,eH,PN,DG,Nat.zero_add,q1,N5,q2,q3,dA,dB,OL,IY,s1,s2,J4,s3,CG,s4]
   exact⟨⟨_,rfl,s5.weak (by omega)⟩,by have:=q4.fl;omega,by have:=q4.n;omega,fun j hj=>by rw[sb j (by omega)];exact oK3 _ q4.o j hj⟩
  | false=>
   have hB:¬ ma>255:=by simpa using dB
   have es:D4 (AD (BD s.rows)) (C6 s size C) i x t=(0,{ t with G:=t.G++[ma] }):=by unfold D4;rw[if_neg k4,if_pos k5,hma,if_neg (by omega)]
   rw[PD hx (by rw[es]),es] at hgo
   simp only[eE,seval,↓eP,v2,v4,v5,v9,v11,v52,v53,v54,v13,v14,v15,yk,CW,AV,Nat.zero_add,htell,eT,aV,eH,PN,DG,Nat.zero_add,q1,N5,q2,q3,dA,dB,w1]
   exact⟨hlt,by omega,_,q4,by rw[hri];exact hgo,by show t.V.length≤_;omega,by simp;omega⟩
 by_cases k6:x.kind=6
 ·have hL0:=(hLd (by rw[k6];rfl)).2
  have eT:GP x.kind L=.iface 84 (.bool (ma != 0)):=by unfold GP;rw[if_neg k4,if_neg k5,if_pos k6,N_ hL0]
  cases dA:(ma != 0) with
  | false=>
   have hA:ma=0:=by simpa using dA
   obtain⟨K1,K2,s1,s2,s3,s4,s5,s6,s7,s8,s9,sa,sb⟩:=NE (H:=H3) (a:=h.next+2) (by rw[hK3.o _ (by omega)];exact gTB) (by rw[hK3.o _ (by omega)];exact gFB) (by have:=hK3.n;omega) (by have:=hK3.fl;omega) (N3 (h.next+2+2) H3) 44 (i:Int)
   rw[nm3] at s2 s4
   rw[← hgo,NB hx (b:=44) (by unfold D4;rw[if_neg k4,if_neg k5,if_pos k6,hma,if_pos hA]) (by decide)]
   simp only[eE,seval,↓eP,hr,v4,v5,v12,v13,v15,yk,CW,AV,htell,eT,rS,nI,qK,dA,OL,IY,s1,s2,J4,s3,CG,s4]
   exact⟨⟨_,rfl,s5.weak (by omega)⟩,by have:=hK3.fl;omega,by have:=hK3.n;omega,fun j hj=>by rw[sb j (by omega)];exact oK3 _ hK3.o j hj⟩
  | true=>
   have hA:¬ ma=0:=by simpa using dA
   have es:D4 (AD (BD s.rows)) (C6 s size C) i x t=(0,t):=by unfold D4;rw[if_neg k4,if_neg k5,if_pos k6,hma,if_neg hA]
   rw[PD hx (by rw[es]),es] at hgo
   simp only[eE,seval,↓eP,v2,v4,v5,v9,v11,v52,v53,v54,v13,v14,v15,yk,CW,AV,htell,eT,rS,nI,qK,dA,w1]
   exact⟨hlt,by omega,_,hK3,by rw[hri];exact hgo,by omega,by omega⟩
 by_cases k13:x.kind=13
 ·have hL0:=(hLd (by rw[k13];rfl)).2
  have eT:GP x.kind L=.iface 85 (iv ma):=by unfold GP;rw[if_neg k4,if_neg k5,if_neg k6,if_pos k13,N_ hL0]
  have l2R:AJ 2 (H3.get (RI+1))=some (qS RI s.rows.length s.rows.length):=by
   obtain⟨_,_,y1,_⟩:=hK3.y
   rw[y1]
   rfl
  have ixR:=FL (id:=RI) (n:=s.rows.length) (c:=s.rows.length) (i:=i) hlt
  obtain⟨G2,q3,q4,q5⟩:=hK3.setR (by omega) hlt ma
  cases dA:decide (ma<0) with
  | true=>
   have hA:ma<0:=by simpa using dA
   obtain⟨K1,K2,s1,s2,s3,s4,s5,s6,s7,s8,s9,sa,sb⟩:=NE (H:=G2) (a:=h.next+2) (by rw[q4.o _ (by omega)];exact gTB) (by rw[q4.o _ (by omega)];exact gFB) (by have:=q4.n;omega) (by have:=q4.fl;omega) (N3 (h.next+2+2) G2) 43 (i:Int)
   rw[nm3] at s2 s4
   rw[← hgo,NB hx (b:=43) (by unfold D4;rw[if_neg k4,if_neg k5,if_neg k6,if_pos k13,hma,if_pos (.inl hA)]) (by decide)]
   simp only[eE,seval,↓eP,hr,v4,v5,v11,v12,v13,v15,yk,CW,AV,Nat.zero_add,htell,eT,Z8,eI,bC,bP,LN,DG,Nat.zero_add,l2R,ixR,q3,dA,OL,IY,s1,s2,J4,s3,CG,s4]
   exact⟨⟨_,rfl,s5.weak (by omega)⟩,by have:=q4.fl;omega,by have:=q4.n;omega,fun j hj=>by rw[sb j (by omega)];exact oK3 _ q4.o j hj⟩
  | false=>
  have hA:¬ ma<0:=by simpa using dA
  cases dB:decide (ma>4194304) with
  | true=>
   have hB:ma>4194304:=by simpa using dB
   obtain⟨K1,K2,s1,s2,s3,s4,s5,s6,s7,s8,s9,sa,sb⟩:=NE (H:=G2) (a:=h.next+2) (by rw[q4.o _ (by omega)];exact gTB) (by rw[q4.o _ (by omega)];exact gFB) (by have:=q4.n;omega) (by have:=q4.fl;omega) (N3 (h.next+2+2) G2) 43 (i:Int)
   rw[nm3] at s2 s4
   rw[← hgo,NB hx (b:=43) (by unfold D4;rw[if_neg k4,if_neg k5,if_neg k6,if_pos k13,hma,if_pos (.inr hB)]) (by decide)]
   simp only[eE,seval,↓eP,hr,v4,v5,v11,v12,v13,v15,yk,CW,AV,Nat.zero_add,htell,eT,Z8,eI,bC,bP,LN,DG,Nat.zero_add,l2R,ixR,q3,dA,dB,OL,IY,s1,s2,J4,s3,CG,s4]
   exact⟨⟨_,rfl,s5.weak (by omega)⟩,by have:=q4.fl;omega,by have:=q4.n;omega,fun j hj=>by rw[sb j (by omega)];exact oK3 _ q4.o j hj⟩
  | false=>
   have hB:¬ ma>4194304:=by simpa using dB
   have es:D4 (AD (BD s.rows)) (C6 s size C) i x t=(0,{ t with Rd:=t.Rd.set i ma }):=by unfold D4;rw[if_neg k4,if_neg k5,if_neg k6,if_pos k13,hma,if_neg (by omega)]
   rw[PD hx (by rw[es]),es] at hgo
   simp only[eE,seval,↓eP,v2,v4,v5,v9,v11,v52,v53,v54,v12,v13,v14,v15,yk,CW,AV,Nat.zero_add,htell,eT,Z8,eI,bC,bP,LN,DG,Nat.zero_add,l2R,ixR,q3,dA,dB,w1]
   exact⟨hlt,by omega,_,q4,by rw[hri];exact hgo,by show t.V.length≤_;omega,by show t.G.length≤_;omega⟩
 have eT:GP x.kind L=.nilIface:=by unfold GP;rw[if_neg k4,if_neg k5,if_neg k6,if_neg k13]
 have es:D4 (AD (BD s.rows)) (C6 s size C) i x t=(0,t):=by unfold D4;rw[if_neg k4,if_neg k5,if_neg k6,if_neg k13]
 rw[PD hx (by rw[es]),es] at hgo
 simp only[eE,seval,↓eP,v2,v4,v5,v9,v11,v52,v53,v54,v13,v14,v15,yk,CW,AV,htell,eT,Nd,tV,Ad,Fa,w1]
 exact⟨hlt,by omega,_,hK3,by rw[hri];exact hgo,by omega,by omega⟩
theorem k8 {nm:ByteArray} {s:AK} {pv cv:Value} {lo lc:Nat} {size:Int} {C:List Int} (hp:CB lo h pv nm s) (hc:EF lc h cv size C) (hlies:∀ nm' vr vq vv vt vu vo m,pv=.agg #[.string nm',vr,vq,vv,vt,vu,vo,m]→GS vr s.rows.length) (hs:IE s) (hl:s.rows.length<2932031007403) (hC:C.length<17592186044416) (hg:h.get 0=CF) (hn0:0<h.next) (hfl:h.floor≤h.next) (hn:2*E6 s+101100+C.length<n) :
  ∃ v' h',AU n 16 [pv,cv] h=some (v',h')∧aM h' h.next v' (BB nm s size C)∧h'.floor=h.floor∧h.next≤h'.next∧∀ i,i<h.next→h'.get i=h.get i:=by
 obtain⟨n,rfl⟩:=DJ hn
 refine PM (BX ⟨rfl,rfl,rfl⟩) (yV (n:=n) (N:=n) hp hc hlies hs hl hC hg hn0 hfl (by omega) (by omega)) fun v' h1 hf _ ht=>?_
 obtain⟨⟨tv,rfl,ht⟩,_⟩:=ht
 exact⟨⟨tv,rfl,Hm ht hf _ h⟩,rfl,Nat.le_refl _,fun _ _=>rfl⟩
theorem WN {nm:ByteArray} {s:AK} {pv cv:Value} {lo lc:Nat} {size:Int} {C:List Int} (hp:CB lo h pv nm s) (hc:EF lc h cv size C) (hlies:∀ nm' vr vq vv vt vu vo m,pv=.agg #[.string nm',vr,vq,vv,vt,vu,vo,m]→GS vr s.rows.length) (hs:IE s) (hl:s.rows.length<2932031007403) (hC:C.length<17592186044416) (hg:h.get 0=CF) (hn0:0<h.next) (hfl:h.floor≤h.next) (hn:2*E6 s+101100+C.length<n) :
  ∃ v' h',AU n 16 [pv,cv] h=some (v',h')∧Fi h' h.next v' (BB nm s size C)∧h'.floor=h.floor∧h.next≤h'.next∧∀ i,i<h.next→h'.get i=h.get i:=by
 obtain⟨v',h',h1,⟨tv,e,hO⟩,h2⟩:=k8 (n:=n) hp hc hlies hs hl hC hg hn0 hfl hn
 exact⟨v',h',h1,⟨tv,e,hO.typed⟩,h2⟩
end
theorem Cw:Tryd.prog.stoodInHeld 58=false:=by kernel_rfl
theorem dH {a b c:Int}:BA Tryd.prog (part 3 #[.int .i64 a,.int .i64 b,.int .i64 c] 0)=some (.int .i64 a)∧BA Tryd.prog (part 3 #[.int .i64 a,.int .i64 b,.int .i64 c] 1)=some (.int .i64 b)∧BA Tryd.prog (part 3 #[.int .i64 a,.int .i64 b,.int .i64 c] 2)=some (.int .i64 c):=⟨rfl,rfl,rfl⟩
theorem xW {a b c:Int}:flat (FA a b c)=true:=rfl
theorem zG {a b c:Int} (n:Nat):BA Tryd.prog (Op.equalIn (n+2) 58 (FA a b c) (FA a b c))=some true:=by
 rw[Op.equalIn,CE,NA Tryd.underlying58]
 simp only[Option.bind_some,CE,LF,Cw,Bool.false_eq_true,if_false]
 simp[CE,HF,dH.1,dH.2.1,dH.2.2,LP Tryd.underlying3]
theorem z_ {x y:Operand} {a b c:Int}:BU Tryd.prog .neq 58 x y (FA a b c) (FA a b c)=some (.bool false):=by
 have k:BA Tryd.prog (Op.equal 58 (FA a b c) (FA a b c))=some true:=zG 9998
 have e:BA Tryd.prog (do eqGuard .neq 58 x y (FA a b c) (FA a b c);binOp .neq 58 (FA a b c) (FA a b c))=some (.bool false):=by
  rw[CE]
  have g:BA Tryd.prog (eqGuard .neq 58 x y (FA a b c) (FA a b c))=some ():=by
   unfold eqGuard
   simp[CE,LF,HF]
  rw[g]
  show BA Tryd.prog ((do pure (.bool (!(← Op.equal 58 (FA a b c) (FA a b c))))):Sem Value)=_
  rw[CE,k]
  rfl
 simp only[BU,xW,Bool.and_self,if_true,e,KN]
theorem oU:∀ {l:List (Int × Int × Int)} {i:Nat} {x:Int × Int × Int},l[i]?=some x→((GL l).drop (i*3)).take 3=[iv x.1,iv x.2.1,iv x.2.2]
 | [],i,x,h=>by simp at h
 | y :: l,0,x,h=>by
  cases h
  rfl
 | y :: l,i+1,x,h=>by
  have h':l[i]?=some x:=by simpa using h
  rw[show (i+1)*3=i*3+1+1+1 by omega]
  exact oU h'
theorem n_ {R:List AB} {e:Nat→Nat} {val:Nat→Int}:∀ (r i:Nat) (t:EO),(EY R e val r i t).2.V.length≤r+t.V.length∧(EY R e val r i t).2.G.length≤r+t.G.length∧(EY R e val r i t).2.Rd.length≤t.Rd.length
 | 0,i,t=>⟨by simp[EY],by simp[EY],by simp[EY]⟩
 | r + 1,i,t=>by
  unfold EY
  cases hx:R[i]? with
  | none=>exact⟨by simp,by simp,by simp⟩
  | some x=>
   simp only
   by_cases h:(D4 e val i x t).1≠0
   ·rw[if_pos h]
    exact⟨by simp,by simp,by simp⟩
   ·rw[if_neg h]
    obtain⟨a,b,c⟩:=n_ (R:=R) (e:=e) (val:=val) r (i+1) (D4 e val i x t).2
    have hs:(D4 e val i x t).2.V.length≤t.V.length+1∧(D4 e val i x t).2.G.length≤t.G.length+1∧(D4 e val i x t).2.Rd.length≤t.Rd.length:=by
     unfold D4
     (repeat' split) <;> simp
    omega
theorem dW (nm:ByteArray) (s:AK) (size:Int) (C:List Int):(BB nm s size C).2.V.length≤s.rows.length∧(BB nm s size C).2.G.length≤s.rows.length∧(BB nm s size C).2.Rd.length≤s.rows.length:=by
 unfold BB
 split
 ·exact⟨by simp,by simp,by simp⟩
 ·split
  ·exact⟨by simp,by simp,by simp⟩
  ·have h:=n_ (R:=s.rows) (e:=AD (BD s.rows)) (val:=C6 s size C) s.rows.length 0 ⟨[],[],List.replicate s.rows.length 0⟩
   simp only[List.length_nil,List.length_replicate,Nat.add_zero] at h
   exact h
def ZB:List (Bool × Bool × List Operand):=[AR,AR,AH [.tmp 36],AR,AR,AH [.tmp 36,.tmp 39],AH [.tmp 36,.tmp 39],AH [.tmp 36,.tmp 39,.tmp 41],AH [.tmp 36,.tmp 39],AH [.tmp 36,.tmp 39],AL]
section
variable {n N:Nat} {h:AA}
theorem vU {va wa:Value} {t:EO} {la lb:Nat} (ha:F4 la h va t) (hb:F4 lb h wa t) (hV:t.V.length<2932031007403) (hGl:t.G.length<2932031007403) (hR:t.Rd.length<2932031007403) (hN:t.V.length+10<N) (hn:t.G.length+t.Rd.length+20<n) :
  ∃ h',A7 Tryd.prog (AU n) N 18 [va,wa] h=some (.bool true,h')∧∀ i,i<h.next→h'.get i=h.get i:=by
 obtain⟨vv,gv,rv,rfl,a1,a2,a3⟩:=ha
 obtain⟨vw,gw,rw',rfl,b1,b2,b3⟩:=hb
 have hsn:=(FT n).2
 refine EH (R:=fun h'=>∀ i,i<h.next→h'.get i=h.get i) Tryd.func18 rfl (by simp[Tryd.f18]) ?_
 have hr:Tryd.f18.results.toList=[.tmp 4]:=rfl
 have ca:=E3 [vv,gv,rv]
 have cb:=E3 [vw,gw,rw']
 have oa:[vv,gv,rv].all one=true:=by simp only[List.all_cons,List.all_nil,AM.one a1,AM.one a2,AM.one a3,Bool.and_self]
 have ob:[vw,gw,rw'].all one=true:=by simp only[List.all_cons,List.all_nil,AM.one b1,AM.one b2,AM.one b3,Bool.and_self]
 have g0:∀ (a b:BC),let A:=(h.push a).push b
   A.get h.next=a∧A.get (h.next+1)=b∧A.next=h.next+2∧∀ i,i<h.next→A.get i=h.get i:=fun a b=>
  ⟨PE,PK,rfl,fun i hi=>by rw[AQ (by show i<h.next+1;omega),AQ hi]⟩
 obtain⟨gA,gB,nQ,gO⟩:=g0 (.row [vv,gv,rv] 43 false false) (.row [vw,gw,rw'] 43 false false)
 simp only[eE,seval,↓eP,FU,FB,Fsx,ca,oa,cb,ob,OF]
 generalize (h.push (.row [vv,gv,rv] 43 false false)).push (.row [vw,gw,rw'] 43 false false)=Q at *
 have x0:AJ 0 (Q.get h.next)=some vv:=by rw[gA];rfl
 have x1:AJ 1 (Q.get h.next)=some gv:=by rw[gA];rfl
 have x2:AJ 2 (Q.get h.next)=some rv:=by rw[gA];rfl
 have y0:AJ 0 (Q.get (h.next+1))=some vw:=by rw[gB];rfl
 have y1:AJ 1 (Q.get (h.next+1))=some gw:=by rw[gB];rfl
 have y2:AJ 2 (Q.get (h.next+1))=some rw':=by rw[gB];rfl
 have a1':=a1.mono (h':=Q) (by omega) fun i _ hi=>gO i hi
 have b1':=b1.mono (h':=Q) (by omega) fun i _ hi=>gO i hi
 have k1:=UQ (n:=n) (h:=Q) (AT.mono a2 (by omega) fun i _ hi=>gO i hi) (AT.mono b2 (by omega) fun i _ hi=>gO i hi) (by omega) (by omega)
 have k2:=UQ (n:=n) (h:=Q) (AT.mono a3 (by omega) fun i _ hi=>gO i hi) (AT.mono b3 (by omega) fun i _ hi=>gO i hi) (by omega) (by omega)
 have lenA:=fun h'=>AM.len a1 Tryd.underlying41 (h':=h')
 have lenB:=fun h'=>AM.len b1 Tryd.underlying41 (h':=h')
 have c0:((t.V.length:Int) != (t.V.length:Int))=false:=by simp
 simp only[eE,seval,↓eP,Nat.zero_add,MA,PN,LN,L8,DG,x0,x1,x2,y0,y1,y2,lenA,lenB,c0,k1,k2]
 refine WK.loop (fun i s'=>s'.T.get 2=qP h.next 0∧s'.T.get 3=qP (h.next+1) 0∧s'.T.get 5=iv (i:Int)∧s'.h=Q∧i≤t.V.length) t.V.length (by omega) ?_ ?_
 ·exact⟨by simp only[eE,seval,↓eP,rP],by simp only[eE,seval,↓eP,rP],by simp only[eE,seval,↓eP,rP] <;> rfl,rfl,by omega⟩
 rintro i ⟨T,H⟩ hi ⟨t2,t3,t5,hh,hil⟩
 simp only at t2 t3 t5 hh
 subst hh
 by_cases hlt:i<t.V.length
 ·have c1:decide ((i:Int)<(t.V.length:Int))=true:=by simp;omega
  obtain⟨x,hx⟩:∃ x,t.V[i]?=some x:=⟨_,List.getElem?_eq_getElem hlt⟩
  obtain⟨ida,pa,ea,ha1,la'⟩:=AM.whole a1' Tryd.underlying41 MJ hlt
  obtain⟨idb,pb,eb,hb1,lb'⟩:=AM.whole b1' Tryd.underlying41 MJ hlt
  rw[oU hx] at la' lb'
  have w1:=ET i (by omega)
  simp only[eE,seval,↓eP,t2,t5,MA,L8,x0,lenA,c1]
  refine WK.flags (fs:=ZB) (by kernel_rfl) ?_
  unfold ZB
  iterate 11
   refine EE hsn ?_
   simp only[rG,seval,AC,AF,AE,CZ,DY,CQ,DI,EB,t2,MA,L8,x0,t5,ea,vG,la',t3,y0,eb,lb',z_]
  refine D_ ?_
  simp only[eE,seval,↓eP,t2,t3,t5,w1]
  omega
 ·have c1:decide ((i:Int)<(t.V.length:Int))=false:=by simp;omega
  simp only[eE,seval,↓eP,hr,t2,t5,MA,L8,x0,lenA,c1]
  exact gO
theorem UV {va wa:Value} {t:EO} {la lb:Nat} (ha:F4 la h va t) (hb:F4 lb h wa t) (hV:t.V.length<2932031007403) (hGl:t.G.length<2932031007403) (hR:t.Rd.length<2932031007403) (hn:t.V.length+t.G.length+t.Rd.length+40<n) :
  AU n 18 [va,wa] h=some (.bool true,h):=by
 obtain⟨n,rfl⟩:=DJ hn
 exact JR (BX ⟨rfl,rfl,rfl⟩) rfl (vU (n:=n) (N:=n) ha hb hV hGl hR (by omega) (by omega))
end
theorem SW:(Value.int .i64 0).cells.size=1:=rfl
section
variable {h:AA}
theorem VJ {lo:Nat} {v:Value} {C:List Int} (hv:AT lo h v C) (hb:C.length<17592186044416) :
  ∃ c d g h1,C_ Tryd.prog (h.push (.row [] 3 false false)) 27 (qS h.next 0 0) v=some (qS d C.length c,h1)∧h1.get d=.row (ints C) 3 g false∧h.next≤d∧d<h1.next∧h1.floor=h.floor∧h1.next≤h.next+2∧∀ i,i<h.next→h1.get i=h.get i:=by
 have hv1:AM lo (h.push (.row [] 3 false false)) v C.length 1 (ints C):=AM.mono hv (by rw[BZ];omega) fun i _ hi=>AQ hi
 have hsrc:=hv1.src
 have hone:=OS C
 have hll:=F7 C
 obtain⟨_,a,c,rfl,_⟩:=id hv
 have hnu:(0:Nat)≠AP:=by unfold AP;omega
 by_cases h0:C.length=0
 ·have:C=[]:=List.length_eq_zero_iff.1 h0
  subst this
  refine⟨0,h.next,false,h.push (.row [] 3 false false),?_,BM,by omega,by rw[BZ];omega,rfl,by rw[BZ];omega,fun i hi=>AQ hi⟩
  simp only[List.length_nil] at hsrc ⊢
  simp only[C_,Tryd.underlying27,CP,JC,GO,SW,hsrc,hone]
  rw[if_pos (by simp),if_pos trivial,if_neg hnu,if_pos (by omega),if_pos trivial]
 ·refine⟨AP,h.next+1,true,(h.push (.row [] 3 false false)).push (.row (ints C) 3 true false),?_,BM (h:=h.push (.row [] 3 false false)),by omega,by show h.next+1<h.next+1+1;omega,rfl,by show h.next+1+1≤_;omega,fun i hi=>by rw[AQ (by show i<h.next+1;omega),AQ hi]⟩
  have h00:DB (h.push (.row [] 3 false false)) 1 0 (qS h.next 0 0)=some []:=by simp[DB]
  simp only[C_,Tryd.underlying27,CP,JC,GO,SW,hsrc,hone,h00]
  rw[if_pos (by simp),if_pos trivial,if_neg hnu,if_neg (by omega),if_pos (by simp;omega)]
  simp only[Nat.zero_add]
  rfl
end
section
variable {n N:Nat} {h:AA}
end
theorem lQ:(FA 0 0 0).cells.size=3:=rfl
section
variable {h:AA}
theorem Cb {lo:Nat} {v:Value} {V:List (Int × Int × Int)} (hv:AM lo h v V.length 3 (GL V)) (hb:V.length<2932031007403) :
  ∃ c d g h1,C_ Tryd.prog (h.push (.row [] 58 false false)) 41 (qS h.next 0 0) v=some (qS d V.length c,h1)∧h1.get d=.row (GL V) 58 g false∧h.next≤d∧d<h1.next∧h1.floor=h.floor∧h1.next≤h.next+2∧∀ i,i<h.next→h1.get i=h.get i:=by
 have hv1:AM lo (h.push (.row [] 58 false false)) v V.length 3 (GL V):=AM.mono hv (by rw[BZ];omega) fun i _ hi=>AQ hi
 have hsrc:=hv1.src
 have hone:=lW V
 obtain⟨_,a,c,rfl,_⟩:=id hv
 have hnu:(0:Nat)≠AP:=by unfold AP;omega
 by_cases h0:V.length=0
 ·have:V=[]:=List.length_eq_zero_iff.1 h0
  subst this
  refine⟨0,h.next,false,h.push (.row [] 58 false false),?_,BM,by omega,by rw[BZ];omega,rfl,by rw[BZ];omega,fun i hi=>AQ hi⟩
  simp only[List.length_nil] at hsrc ⊢
  simp only[C_,Tryd.underlying41,MJ,cU,Q_,lQ,hsrc,hone]
  rw[if_pos (by simp),if_pos trivial,if_neg hnu,if_pos (by omega),if_pos trivial]
 ·refine⟨AP,h.next+1,true,(h.push (.row [] 58 false false)).push (.row (GL V) 58 true false),?_,BM (h:=h.push (.row [] 58 false false)),by omega,by show h.next+1<h.next+1+1;omega,rfl,by show h.next+1+1≤_;omega,fun i hi=>by rw[AQ (by show i<h.next+1;omega),AQ hi]⟩
  have h00:DB (h.push (.row [] 58 false false)) 3 0 (qS h.next 0 0)=some []:=by simp[DB]
  simp only[C_,Tryd.underlying41,MJ,cU,Q_,lQ,hsrc,hone,h00]
  rw[if_pos (by simp),if_pos trivial,if_neg hnu,if_neg (by omega),if_pos (by simp;omega)]
  simp only[Nat.zero_add]
  rfl
def M1 (lo:Nat) (h:AA) (v:Value) (l:List Int):Prop:=(v=Z0∧l=[])∨∃ id c g,v=qS id l.length c∧lo≤id∧id<h.next∧h.get id=.row (ints l) 3 g false∧((g=false∧c=l.length)∨(g=true∧c=AP))
theorem G7.mine {lo:Nat} {v:Value} {l:List Int} (hv:G7 lo h v l):M1 lo h v l:=by
 rcases hv with h9 | ⟨id,rfl,h1,h2,h3⟩
 ·exact .inl h9
 ·exact .inr ⟨id,_,false,rfl,h1,h2,h3,.inl ⟨rfl,rfl⟩⟩
theorem F2.mine {lo:Nat} {v:Value} {l:List Int} (hv:F2 3 h lo v l.length (ints l)):M1 lo h v l:=by
 rcases hv with⟨rfl,h8,_⟩ | ⟨id,rfl,h1,h2,h3⟩
 ·exact .inl ⟨rfl,List.length_eq_zero_iff.1 h8⟩
 ·exact .inr ⟨id,_,true,rfl,h1,h2,h3,.inr ⟨rfl,rfl⟩⟩
theorem M1.len {lo:Nat} {v:Value} {l:List Int} (hv:M1 lo h v l) (h':AA):CX Tryd.prog h' 27 v=some (iv (l.length:Int)):=by
 rcases hv with⟨rfl,rfl⟩ | ⟨id,c,g,rfl,_⟩
 ·exact cP
 ·exact cP
theorem M1.wr {lo:Nat} {v:Value} {l:List Int} (hv:M1 lo h v l) (hf:h.floor≤lo) {i:Nat} (hi:i<l.length) (x:Int) :
  ∃ p H2,CM Tryd.prog 27 v (iv (i:Int))=some p∧A9 Tryd.prog h 3 p (iv x)=some H2∧M1 lo H2 v (l.set i x)∧H2.next=h.next∧H2.floor=h.floor∧∀ j,(∀ m c,v≠qS j m c)→H2.get j=h.get j:=by
 rcases hv with⟨rfl,rfl⟩ | ⟨id,c,g,rfl,h1,h2,h3,h4⟩
 ·simp at hi
 ·exact⟨_,_,FL hi,LH h3 hi (by omega),.inr ⟨id,c,g,by rw[List.length_set],h1,h2,B0 rfl h2,by rw[List.length_set];exact h4⟩,rfl,rfl,fun j hj=>AX h2 fun e=>hj _ _ (by rw[e])⟩
theorem Me {lo:Nat} {v:Value} {l:List Int} (hv:M1 lo h v l) (hb:l.length<2932031007403) (hf:h.floor≤lo) (a b:Int) :
  ∃ d h1,C_ Tryd.prog (h.push (.row [iv a,iv b] 3 false false)) 27 v (qS h.next 2 2)=some (qS d (l.length+2) AP,h1)∧h1.get d=.row (ints (l++[a,b])) 3 true false∧h.next≤d∧d<h1.next∧h1.floor=h.floor∧h.next≤h1.next∧∀ i,i<h.next→(∀ m c,v≠qS i m c)→h1.get i=h.get i:=by
 have hsrc:DB (h.push (.row [iv a,iv b] 3 false false)) 1 2 (qS h.next 2 2)=some [iv a,iv b]:=by
  simp only[DB,BM]
  rfl
 have e2:ints (l++[a,b])=ints l++[iv a,iv b]:=by simp[ints]
 have o2:[iv a,iv b].all one=true:=rfl
 have il:=F7 l
 rcases hv with⟨rfl,rfl⟩ | ⟨id,c,g,rfl,h1,h2,h3,⟨rfl,rfl⟩ | ⟨rfl,rfl⟩⟩
 ·refine⟨h.next+1,(h.push (.row [iv a,iv b] 3 false false)).push (.row (ints [a,b]) 3 true false),?_,BM (h:=h.push (.row [iv a,iv b] 3 false false)),by omega,by show _<h.next+1+1;omega,rfl,by show h.next≤h.next+1+1;omega,fun i hi _=>by rw[AQ (by show i<h.next+1;omega),AQ hi]⟩
  have hnu:(0:Nat)≠AP:=by unfold AP;omega
  have h0:DB (h.push (.row [iv a,iv b] 3 false false)) 1 0 (Z0)=some []:=by simp[DB]
  simp only[C_,Tryd.underlying27,CP,JC,GO,SW,hsrc,o2,h0,List.length_nil]
  rw[if_pos (by simp),if_pos trivial,if_neg hnu,if_neg (by omega),if_pos (by simp)]
  rfl
 ·refine⟨h.next+1,(h.push (.row [iv a,iv b] 3 false false)).push (.row (ints l++[iv a,iv b]) 3 true false),?_,by rw[e2];exact BM (h:=h.push (.row [iv a,iv b] 3 false false)),by omega,by show _<h.next+1+1;omega,rfl,by show h.next≤h.next+1+1;omega,fun i hi _=>by rw[AQ (by show i<h.next+1;omega),AQ hi]⟩
  have hnu:l.length≠AP:=by unfold AP;omega
  have gi:(h.push (.row [iv a,iv b] 3 false false)).get id=.row (ints l) 3 false false:=by rw[AQ h2];exact h3
  have h0:DB (h.push (.row [iv a,iv b] 3 false false)) 1 l.length (qS id l.length l.length)=some (ints l):=AM.src (lo:=0) (w:=1) (cs:=ints l) (AT.row' (lo:=0) gi ⟨by omega,by rw[BZ];omega⟩ rfl)
  simp only[C_,Tryd.underlying27,CP,JC,GO,SW,hsrc,o2,h0]
  rw[if_pos (by simp),if_pos trivial,if_neg hnu,if_neg (by omega),if_pos (by simp;omega)]
  rfl
 ·have gi:(h.push (.row [iv a,iv b] 3 false false)).get id=.row (ints l) 3 true false:=by rw[AQ h2];exact h3
  have hcut:FI (ints l) 0 (l.length*1)=some (ints l):=by
   unfold FI
   simp[List.take_of_length_le,il]
  refine⟨h.next+1,((h.push (.row [iv a,iv b] 3 false false)).put id .dead).push (.row (ints l++[iv a,iv b]) 3 true false),?_,by rw[e2];exact BM (h:=(h.push (.row [iv a,iv b] 3 false false)).put id .dead),by omega,by show _<h.next+1+1;omega,rfl,by show h.next≤h.next+1+1;omega,fun i hi hne=>?_⟩
  ·have hc2:(decide ((l.length+2)*8≤140737488355328)&&decide (l.length+2≤140737488355328)&&decide ((h.push (.row [iv a,iv b] 3 false false)).floor≤id))=true:=by
    simp only[Bool.and_eq_true,decide_eq_true_eq]
    exact⟨⟨by omega,by omega⟩,by show h.floor≤id;omega⟩
   simp only[C_,Tryd.underlying27,CP,JC,GO,SW,hsrc,o2,gi,hcut,OS]
   rw[if_pos (by simp;unfold AP;omega),if_pos trivial,if_pos trivial,if_pos hc2,if_neg (by omega),if_pos trivial,if_pos trivial]
   rfl
  ·have:id≠i:=fun e=>hne _ _ (by rw[e])
   rw[AQ (by show i<h.next+1;omega),AX (by rw[BZ];omega) this,AQ hi]
theorem Kb {a b:Int}:FC Tryd.prog h 27 2 [(0,iv a),(1,iv b)]=some (qS h.next 2 2,h.push (.row [iv a,iv b] 3 false false)):=by
 have hc:∀ x:Int,(Value.int .i64 x).cells=#[.int .i64 x]:=fun _=>rfl
 simp[FC,Tryd.underlying27,CP,GO,flat,BI,hc,IS,BY,Go.Sx.lay]
end
section
variable {n N:Nat} {h:AA}
theorem Mn {lo:Nat} {v:Value} {l:List Int} (hv:M1 lo h v l) (hb:l.length<2932031007403) (hf:h.floor≤lo) (hlo:lo≤h.next) (hN:l.length+10<N) :
  ∃ h',A7 Tryd.prog (AU n) N 23 [v] h=some (.tuple #[],h')∧(h'.floor=h.floor∧h.next≤h'.next∧∀ i,i<h.next→(∀ m c,v≠qS i m c)→h'.get i=h.get i):=by
 refine EH (R:=fun h'=>h'.floor=h.floor∧h.next≤h'.next∧∀ i,i<h.next→(∀ m c,v≠qS i m c)→h'.get i=h.get i) Tryd.func23 rfl (by simp[Tryd.f23]) ?_
 have hr:Tryd.f23.results.toList=[]:=rfl
 simp only[eE,seval,↓eP,FU,MT,FB,Fsx]
 refine WK.loop (fun i s'=>s'.T.get 0=v∧s'.T.get 2=iv (i:Int)∧i≤l.length∧∃ l',l'.length=l.length∧M1 lo s'.h v l'∧s'.h.next=h.next∧s'.h.floor=h.floor∧∀ j,(∀ m c,v≠qS j m c)→s'.h.get j=h.get j) l.length (by omega) ?_ ?_
 ·exact⟨by simp only[eE,seval,↓eP,rP],by simp only[eE,seval,↓eP,rP] <;> rfl,by omega,l,rfl,hv,rfl,rfl,fun _ _=>rfl⟩
 rintro i ⟨T1,H1⟩ hi ⟨t0,t2,hil,l',hl',hv',n1,f1,o1⟩
 simp only at t0 t2 hv' n1 f1 o1
 have hlen:=hv'.len
 rw[hl'] at hlen
 by_cases hlt:i<l.length
 ·have c1:decide ((i:Int)<(l.length:Int))=true:=by simp;omega
  obtain⟨p,H2,ei,st,hv2,n2,f2,o2⟩:=hv'.wr (by omega) (i:=i) (by omega) (-41)
  have w1:=ET i (by omega)
  simp only[eE,seval,↓eP,t0,t2,hlen,c1,ei,st,w1]
  exact⟨hlt,by omega,_,by rw[List.length_set];exact hl',hv2,by omega,by omega,fun j hj=>by rw[o2 j hj,o1 j hj]⟩
 ·have c1:decide ((i:Int)<(l.length:Int))=false:=by simp;omega
  obtain⟨d,H2,ea,gd,d1,d2,f2,n2,o2⟩:=Me hv' (by omega) (by omega) 42 43
  rw[hl'] at ea
  have ix:CM Tryd.prog 27 (qS d (l.length+2) AP) (iv 0)=some (qP d 0):=FL (id:=d) (n:=l.length+2) (c:=AP) (i:=0) (by omega)
  have st:=LH (i:=0) (x:=44) gd (by simp) (by omega)
  simp only[eE,seval,↓eP,hr,t0,t2,hlen,c1,Kb,ea,ix,st]
  exact⟨f2.trans f1,by show h.next≤H2.next;omega,fun j hj hne=>by rw[AX (by omega) (by omega),o2 j (by omega) hne,o1 j hne]⟩
theorem Z9 {lo:Nat} {v:Value} {l:List Int} (hv:M1 lo h v l) (hb:l.length<2932031007403) (hf:h.floor≤lo) (hlo:lo≤h.next) (hn:l.length+20<n) :
  ∃ h',AU n 23 [v] h=some (.tuple #[],h')∧h'.floor=h.floor∧h.next≤h'.next∧∀ i,i<h.next→(∀ m c,v≠qS i m c)→h'.get i=h.get i:=by
 obtain⟨n,rfl⟩:=DJ hn
 obtain⟨h1,hw,hR⟩:=Mn (n:=n) (N:=n) hv hb hf hlo (by omega)
 obtain⟨v',h',h2,rfl,h3⟩:=PM (n:=n) (R:=fun v' h'=>v'=.tuple #[]∧h'.floor=h.floor∧h.next≤h'.next∧∀ i,i<h.next→(∀ m c,v≠qS i m c)→h'.get i=h.get i) (BX ⟨rfl,rfl,rfl⟩) ⟨_,h1,hw,rfl,hR⟩ fun v' h1 _ _ ht=>⟨ht.1,rfl,Nat.le_refl _,fun _ _ _=>rfl⟩
 exact⟨h',h2,h3⟩
def OH (x:Int) (m:Nat):Nat:=if x.tmod m<0 then (x.tmod m+m).toNat else (x.tmod m).toNat
theorem wO {x:Int} {m:Nat} (hm0:0<m):OH x m<m:=by
 have h1:=Int.tmod_lt_of_pos x (b:=(m:Int)) (by omega)
 have h2:-(m:Int)<Int.tmod x m:=by
  have:=Int.tmod_lt_of_pos (-x) (b:=(m:Int)) (by omega)
  rw[Int.neg_tmod] at this
  omega
 unfold OH
 split <;> omega
theorem Dw {m:Nat} (x:Int) (hm0:0<m) (hm:m<2932031007403) (hN:10<N) :
  ∃ h',A7 Tryd.prog (AU n) N 25 [iv x,iv (m:Int)] h=some (iv (OH x m:Int),h')∧h'=h:=by
 have h1:=Int.tmod_lt_of_pos x (b:=(m:Int)) (by omega)
 have h2:-(m:Int)<Int.tmod x m:=by
  have:=Int.tmod_lt_of_pos (-x) (b:=(m:Int)) (by omega)
  rw[Int.neg_tmod] at this
  omega
 have hrem:∀ a b,BU Tryd.prog .rem 3 a b (iv x) (iv (m:Int))=some (iv (Int.tmod x m)):=fun a b=>UB (by omega)
 have hr:Tryd.f25.results.toList=[.tmp 4]:=rfl
 refine EH (R:=fun h'=>h'=h) Tryd.func25 rfl (by simp[Tryd.f25]) ?_
 by_cases h0:Int.tmod x m<0
 ·have c1:decide (Int.tmod x m<0)=true:=by simpa using h0
  have w2:IntKind.i64.wrap (Int.tmod x m+(m:Int))=(OH x m:Int):=by rw[C7 (by omega) (by omega)];unfold OH;rw[if_pos h0];omega
  simp only[eE,seval,↓eP,hr,hrem,c1,w2]
 ·have c1:decide (Int.tmod x m<0)=false:=by simp;omega
  have e1:Int.tmod x m=(OH x m:Int):=by unfold OH;rw[if_neg h0];omega
  rw[e1] at hrem c1
  simp only[eE,seval,↓eP,hr,hrem,c1]
theorem Bd {m:Nat} (x:Int) (hm0:0<m) (hm:m<2932031007403) (hn:20<n):AU n 25 [iv x,iv (m:Int)] h=some (iv (OH x m:Int),h):=by
 obtain⟨n,rfl⟩:=DJ hn
 obtain⟨h1,hw,rfl⟩:=Dw (n:=n) (N:=n) (h:=h) x hm0 hm (by omega)
 exact EN (BX ⟨rfl,rfl,rfl⟩) rfl hw
end
def FH (R:List AB) (k:Int):Nat→Nat
 | 0=>0
 | i+1=>FH R k i+(match R[i]? with | some x=>if x.kind=k then 1 else 0 | none=>0)
theorem RX {R:List AB} {k:Int} {i:Nat} {x:AB} (hx:R[i]?=some x):FH R k (i+1)=FH R k i+if x.kind=k then 1 else 0:=by
 show FH R k i+_=_
 rw[hx]
section
variable {nm:ByteArray} {s:AK} {size:Int} {C:List Int}
end
structure W_ (pos:Nat) (s:AK):Prop where
 v:s.vars.length=FH s.rows 4 pos
 g:s.tags.length=FH s.rows 5 pos
def fM (s t:AK):Prop:=∀ j:Nat,(t.rows[j]?).map (fun x:AB=>x.kind)=(s.rows[j]?).map (fun x:AB=>x.kind)
theorem SZ {s t:AK} (h:fM s t) (k:Int):∀ i,FH t.rows k i=FH s.rows k i
 | 0=>rfl
 | i+1=>by
  unfold FH
  rw[SZ h k i]
  have:=h i
  cases h1:s.rows[i]? with
  | none=>
   rw[h1] at this
   cases h2:t.rows[i]? with
   | none=>rfl
   | some y=>rw[h2] at this;cases this
  | some x=>
   rw[h1] at this
   cases h2:t.rows[i]? with
   | none=>rw[h2] at this;cases this
   | some y=>
    rw[h2] at this
    have e:y.kind=x.kind:=Option.some.inj this
    simp only[e]
theorem pZ {l:List AB} {k:Nat} {n:Int} (j:Nat):((F8 l k n)[j]?).map (fun x:AB=>x.kind)=(l[j]?).map (fun x:AB=>x.kind):=by
 by_cases e:j=k
 ·subst e
  cases h:l[j]? with
  | none=>
   have:(F8 l j n)[j]?=none:=List.getElem?_eq_none (by rw[QB];exact List.getElem?_eq_none_iff.1 h)
   rw[this]
  | some x=>rw[J9 h];rfl
 ·rw[M_ e]
theorem Al {E:List Int} {i:Nat} {s:AK} {x:AB} (h:W_ i s) (hx:s.rows[i]?=some x) (h0:(FE E i s).1=0):W_ (i+1) (FE E i s).2∧(FE E i s).2.rows.length=s.rows.length:=by
 have c4:=RX (k:=4) hx
 have c5:=RX (k:=5) hx
 by_cases hd:BS x.kind=0
 ·have hk:x.kind≠4∧x.kind≠5:=by
   refine⟨fun e=>?_,fun e=>?_⟩ <;> (rw[e] at hd;cases hd)
  rw[if_neg hk.1] at c4
  rw[if_neg hk.2] at c5
  rw[tJ hx hd] at h0 ⊢
  by_cases c0:DP i x s=0
  case neg=>rw[if_pos c0] at h0;exact absurd h0 c0
  rw[if_neg (by simpa using c0)] at h0 ⊢
  have hr:(B8 i x s).vars=s.vars∧(B8 i x s).tags=s.tags∧fM s (B8 i x s)∧(B8 i x s).rows.length=s.rows.length:=by
   unfold B8
   split
   ·exact⟨rfl,rfl,fun _=>rfl,rfl⟩
   ·split
    ·exact⟨rfl,rfl,fun _=>rfl,rfl⟩
    ·exact⟨rfl,rfl,fun j=>pZ j,QB⟩
  obtain⟨e1,e2,e3,e4⟩:=hr
  obtain⟨n,hn,_⟩:=ZL hx c0
  generalize B8 i x s=s1 at *
  rw[hn] at h0 ⊢
  simp only at h0 ⊢
  by_cases d0:FF { x with n:=n } s1=0
  case neg=>rw[if_pos d0] at h0;exact absurd h0 d0
  rw[if_neg (by simpa using d0)]
  have hs:(EC i { x with n:=n } s1).vars=s1.vars∧(EC i { x with n:=n } s1).tags=s1.tags∧(EC i { x with n:=n } s1).rows=s1.rows:=by
   unfold EC
   (repeat' split) <;> exact⟨rfl,rfl,rfl⟩
  obtain⟨f1,f2,f3⟩:=hs
  have k4:=SZ e3 4 (i+1)
  have k5:=SZ e3 5 (i+1)
  exact⟨⟨by rw[f1,f3,e1,k4,c4];exact h.v,by rw[f2,f3,e2,k5,c5];exact h.g⟩,by rw[f3];exact e4⟩
 ·rw[kN hx hd] at h0 ⊢
  by_cases c0:FD x s=0
  case neg=>rw[if_pos c0] at h0;exact absurd h0 c0
  rw[if_neg (by simpa using c0)]
  have e3:fM s (BO i ((E[i]?).getD 0) x s):=fun j=>by
   rw[W3,if_neg hd]
   exact pZ j
  have k4:=SZ e3 4 (i+1)
  have k5:=SZ e3 5 (i+1)
  have a4:BS x.kind=2↔x.kind=4:=by
   refine⟨fun e=>?_,fun e=>by rw[e];rfl⟩
   unfold BS at e
   (repeat' split at e) <;> simp_all
  have a5:BS x.kind=3↔x.kind=5:=by
   refine⟨fun e=>?_,fun e=>by rw[e];rfl⟩
   unfold BS at e
   (repeat' split at e) <;> simp_all
  refine⟨⟨?_,?_⟩,by rw[W3,if_neg hd];exact QB⟩
  ·rw[k4,c4]
   have e:(BO i ((E[i]?).getD 0) x s).vars=if BS x.kind=2 then s.vars++[x.name] else s.vars:=by
    unfold BO
    rw[if_neg hd]
    rfl
   rw[e]
   by_cases k:x.kind=4
   ·rw[if_pos (a4.2 k),if_pos k,List.length_append,h.v]
    rfl
   ·rw[if_neg (fun e=>k (a4.1 e)),if_neg k]
    exact h.v
  ·rw[k5,c5]
   have e:(BO i ((E[i]?).getD 0) x s).tags=if BS x.kind=3 then s.tags++[x.name] else s.tags:=by
    unfold BO
    rw[if_neg hd]
    rfl
   rw[e]
   by_cases k:x.kind=5
   ·rw[if_pos (a5.2 k),if_pos k,List.length_append,h.g]
    rfl
   ·rw[if_neg (fun e=>k (a5.1 e)),if_neg k]
    exact h.g
theorem qX {E:List Int}:∀ (r i:Nat) (s:AK),W_ i s→i+r=s.rows.length→(DO E r i s).1=0→W_ (i+r) (DO E r i s).2.2
 | 0,i,s,h,_,_=>h
 | r+1,i,s,h,hl,h0=>by
  have e:DO E (r+1) i s=if (FE E i s).1≠0 then ((FE E i s).1,i,s) else DO E r (i+1) (FE E i s).2:=rfl
  rw[e] at h0 ⊢
  by_cases c:(FE E i s).1=0
  case neg=>rw[if_pos c] at h0;exact absurd h0 c
  rw[if_neg (by simpa using c)] at h0 ⊢
  obtain⟨x,hx⟩:∃ x,s.rows[i]?=some x:=⟨_,List.getElem?_eq_getElem (by omega)⟩
  obtain⟨h1,h2⟩:=Al h hx c
  rw[show i+(r+1)=i+1+r by omega]
  exact qX r (i+1) _ h1 (by omega) h0
theorem jK {l:List AB} (h:(BE l).1.1=0):(BE l).2.vars.length=FH (BE l).2.rows 4 (BE l).2.rows.length∧(BE l).2.tags.length=FH (BE l).2.rows 5 (BE l).2.rows.length:=by
 obtain⟨_,_,hg,_,he,hi⟩:=MV h
 have hl:=hi.len
 have:=qX (E:=BR l) l.length 0 (CR l) ⟨rfl,rfl⟩ (by show 0+l.length=l.length;omega) hg
 rw[Nat.zero_add] at this
 rw[hl,he]
 exact⟨this.v,this.g⟩
theorem Z6 {h:AA}:FC Tryd.prog h 27 0 []=some (qS h.next 0 0,h.push (.row [] 3 false false)):=by
 simp only[FC,Tryd.underlying27,CP,GO]
 rfl
theorem NO {e a c d:Int} {x y:Operand}:BU Tryd.prog .neq 36 x y (BG e a) (BG c d)=some (.bool (!(e==c&&a==d))):=by
 have e9:BA Tryd.prog (do eqGuard .neq 36 x y (DV e a) (DV c d);binOp .neq 36 (DV e a) (DV c d))=some (.bool (!(e==c&&a==d))):=by
  rw[CE]
  have g:BA Tryd.prog (eqGuard .neq 36 x y (DV e a) (DV c d))=some ():=by
   unfold eqGuard
   simp[CE,LF,HF,Ck]
  rw[g]
  show BA Tryd.prog ((do pure (.bool (!(← Op.equal 36 (DV e a) (DV c d))))):Sem Value)=_
  rw[CE]
  have k:BA Tryd.prog (Op.equal 36 (DV e a) (DV c d))=some (e==c&&a==d):=qR 9998
  rw[k]
  rfl
 have e2:BU Tryd.prog .neq 36 x y (DV e a) (DV c d)=some (.bool (!(e==c&&a==d))):=by simp only[BU,dF,Bool.and_self,if_true,e9,KN]
 exact e2
theorem W5 {H:AA} {v:Value} {t:EO} {lo:Nat} (ht:F4 lo H v t) (hf:H.floor≤H.next) (e x:Int) :
  ∃ H1 H2,A9 Tryd.prog ((H.push (.row [Z0,Z0,Z0] 43 false false)).push (.row [iv 0,iv 0] 36 false false)) 43 (qP H.next 0) v=some H1 ∧
   A9 Tryd.prog H1 36 (qP (H.next+1) 0) (BG e x)=some H2∧AW 3 0 (H2.get H.next)=some v∧H2.get (H.next+1)=.row [iv e,iv x] 36 false false∧H2.next=H.next+2∧H2.floor=H.floor∧∀ i,i<H.next→H2.get i=H.get i:=by
 obtain⟨vv,gv,rv,rfl,h1,h2,h3⟩:=id ht
 have o1:([vv,gv,rv]:List Value).all one=true:=by simp only[List.all_cons,List.all_nil,AM.one h1,AM.one h2,AM.one h3,Bool.and_self]
 have g0:∀ (a b:BC),let A:=(H.push a).push b
   A.get H.next=a∧A.get (H.next+1)=b∧A.next=H.next+2∧A.floor=H.floor∧∀ i,i<H.next→A.get i=H.get i:=fun a b=>
  ⟨PE,PK,rfl,rfl,fun i hi=>by rw[AQ (by show i<H.next+1;omega),AQ hi]⟩
 obtain⟨ga,gb,n2,f2,o2⟩:=g0 (.row [Z0,Z0,Z0] 43 false false) (.row [iv 0,iv 0] 36 false false)
 generalize (H.push (.row [Z0,Z0,Z0] 43 false false)).push (.row [iv 0,iv 0] 36 false false)=A at *
 have s1:=I5 (vs:=[vv,gv,rv]) OF ga rfl rfl o1 (by omega)
 have g1:∀ j,j≠H.next→(A.put H.next (.row [vv,gv,rv] 43 false false)).get j=A.get j:=fun j hj=>AX (by omega) (Ne.symm hj)
 have s2:=I5 (h:=A.put H.next (.row [vv,gv,rv] 43 false false)) (id:=H.next+1) (vs:=[iv e,iv x]) IP (by rw[g1 _ (by omega)];exact gb) rfl rfl rfl (by show A.floor≤H.next+1;omega)
 have g2:∀ j,j≠H.next+1→((A.put H.next (.row [vv,gv,rv] 43 false false)).put (H.next+1) (.row [iv e,iv x] 36 false false)).get j=(A.put H.next (.row [vv,gv,rv] 43 false false)).get j:=fun j hj=>AX (by show H.next+1<A.next;omega) (Ne.symm hj)
 refine⟨_,_,s1,s2,?_,B0 rfl (by show H.next+1<A.next;omega),n2,f2,fun i hi=>by rw[g2 i (by omega),g1 i (by omega),o2 i hi]⟩
 rw[g2 _ (by omega),B0 rfl (by omega)]
 rfl
section
variable {R:List AB} {M C:List Int} {i:Nat}
end
section
variable {n:Nat} {h:AA}
end
theorem ZR {e a:Int} {x y:Operand}:BU Tryd.prog .neq 36 x y (BG e a) (BG e a)=some (.bool false):=by
 rw[NO]
 simp
theorem aS {o:BC} {a b c:Value} (h:AW 3 0 o=some (.agg #[a,b,c])):AJ 0 o=some a∧AJ 1 o=some b∧AJ 2 o=some c:=by
 cases o
 case row cs t g r=>
  match cs,h with
  | x :: y :: z :: rest,h=>
   have e:AW 3 0 (.row (x :: y :: z :: rest) t g r)=some (.agg #[x,y,z]):=by simp[AW,FI]
   rw[e] at h
   have h9:=congrArg Array.toList (Value.agg.inj (Option.some.inj h))
   simp at h9
   obtain⟨rfl,rfl,rfl⟩:=h9
   exact⟨rfl,rfl,rfl⟩
  | [],h=>simp[AW,FI] at h
  | [_],h=>simp[AW,FI] at h
  | [_,_],h=>simp[AW,FI] at h
 all_goals cases h
section
variable {n N:Nat} {h:AA}
end
def ZV:List (Bool × Bool × List Operand):=[AR,EU,EU,AR,E9 [.tmp 52],E9 [.tmp 52],E9 [.tmp 52],AR,E9 [.tmp 52,.tmp 56],E9 [.tmp 52,.tmp 56],E9 [.tmp 52,.tmp 56],AL,AL,E9 [.tmp 52,.tmp 56,.tmp 60],AL]
theorem Mf {h:AA}:FC Tryd.prog h 41 0 []=some (qS h.next 0 0,h.push (.row [] 58 false false)):=by
 simp only[FC,Tryd.underlying41,MJ,Q_]
 rfl
theorem Cy {a b c:Option Addr} {n m k n' m' k':Nat}:C1 Tryd.prog 43 [(0,.slice a n n'),(1,.slice b m m'),(2,.slice c k k')]=some (.agg #[.slice a n n',.slice b m m',.slice c k k']):=by
 have h:=aU
 rw[Tryd.underlying43] at h
 simp only at h
 simp only[C1,JZ,KB,if_true,Tryd.underlying43,h]
 rfl
theorem Db:HW Tryd.prog (match Tryd.prog.underlying 58 with | some (.struct fs)=>fs.toList | _=>[])=some [(0,1),(1,1),(2,1)]:=by kernel_rfl
theorem Mj:C1 Tryd.prog 58 [(0,iv 77)]=some (.agg #[iv 77,iv 0,iv 0]):=by
 have h:=Db
 rw[Tryd.underlying58] at h
 simp only at h
 have hf:flat (FA 0 0 0)=true:=rfl
 simp only[C1,Q_,hf,if_true,Tryd.underlying58,h]
 rfl
theorem wF {id n c i:Nat} (hi:i<n):CM Tryd.prog 41 (qS id n c) (iv (i:Int))=some (.pointer (some ⟨id,i*3,none⟩)):=by
 simp only[CM,Tryd.underlying41,MJ,CK]
 rw[if_pos (by omega)]
 simp
theorem Nw {h:AA} {id off:Nat} {cs:List Value} {ty:TypeId} {g:Bool} {a b c:Int} (hg:h.get id=.row cs ty g false) (hi:off+3≤cs.length) (hf:h.floor≤id) :
  ∃ cs',cs'.length=cs.length∧A9 Tryd.prog h 58 (qP id off) (.agg #[iv a,iv b,iv c])=some (h.put id (.row cs' ty g false)):=by
 have hv:(Value.agg #[iv a,iv b,iv c]).cells=#[iv a,iv b,iv c]:=rfl
 have hsz:(some 3:Option Nat)=some (#[iv a,iv b,iv c]:Array Value).size:=rfl
 refine⟨Go.Sx.lay cs off [iv a,iv b,iv c],?_,?_⟩
 ·unfold Go.Sx.lay
  simp
  omega
 ·simp only[A9,hv,MJ,GB,hg]
  rw[if_pos hsz,if_pos (by simp[one];omega)]
theorem Dd {L:List AB} {i:Nat} {x:AB} {n:Int} (hx:L[i]?=some x):(L.flatMap AZ).set (i*5) (iv n)=(L.set i { x with kind:=n }).flatMap AZ:=by
 have hi:=(List.getElem?_eq_some_iff.1 hx).1
 have h1:Go.Sx.lay (L.flatMap AZ) (i*5) (AZ { x with kind:=n })=(L.set i { x with kind:=n }).flatMap AZ:=lH hi
 rw[← h1]
 apply List.ext_getElem?
 intro j
 have hl5:(AZ { x with kind:=n }).length=5:=rfl
 have hlen:=IW L
 rw[QA (by rw[hl5,hlen];omega),List.getElem?_set,hl5,hlen]
 have hc:∀ q,q<5→(L.flatMap AZ)[i*5+q]?=(AZ x)[q]?:=fun q hq=>by
  have:=O_ hx
  rw[← this,List.getElem?_take_of_lt hq,List.getElem?_drop]
 by_cases hj:i*5=j
 ·subst hj
  rw[if_pos rfl,if_pos (by omega),if_pos (by omega),show i*5-i*5=0 by omega]
  rfl
 ·rw[if_neg hj]
  split
  ·rename_i h9
   obtain⟨q,rfl⟩:∃ q,j=i*5+q:=⟨j-i*5,by omega⟩
   rw[hc q (by omega),show i*5+q-i*5=q by omega]
   match q,h9,hj with
   | 0,_,hj=>exact absurd rfl hj
   | 1,_,_=>rfl
   | 2,_,_=>rfl
   | 3,_,_=>rfl
   | 4,_,_=>rfl
   | (k+5),h9,_=>omega
  ·rfl
theorem rD {R:List AB} {Q:List (ByteArray × Bool)} {e:Nat→Nat}:∀ r i,(EV R Q e r i).2.length≤R.length
 | 0,i=>by unfold EV;rw[List.length_map];omega
 | r+1,i=>by
  unfold EV
  split
  ·rw[List.length_map];omega
  ·split
   ·exact Nat.zero_le _
   ·exact rD r (i+1)
theorem rR {nm:ByteArray} {s:AK}:(AS nm s).2.length≤s.rows.length:=by
 unfold AS
 split
 ·exact Nat.zero_le _
 ·exact rD _ _
theorem G7.above {lo:Nat} {h:AA} {v:Value} {l:List Int} (ho:G7 lo h v l) {j:Nat} (hj:h.next≤j):∀ m c,v≠qS j m c:=by
 rintro m c rfl
 rcases ho with⟨h9,_⟩ | ⟨id,h1,h2,h3,_⟩
 ·cases h9
 ·cases h1;omega
theorem G7.below {lo:Nat} {h:AA} {v:Value} {l:List Int} (ho:G7 lo h v l) {j:Nat} (hj:j<lo):∀ m c,v≠qS j m c:=by
 rintro m c rfl
 rcases ho with⟨h9,_⟩ | ⟨id,h1,h2,h3,_⟩
 ·cases h9
 ·cases h1;omega
theorem G7.apart {lo:Nat} {h:AA} {v:Value} {l:List Int} (ho:G7 lo h v l) {i:Nat} {cs:List Value} {t:TypeId} {g r:Bool} (hi:h.get i=.row cs t g r) (hne:t≠3∨g=true):∀ m c,v≠qS i m c:=by
 rintro m c rfl
 rcases ho with⟨h9,_⟩ | ⟨id,h1,h2,h3,h4⟩
 ·cases h9
 ·cases h1
  rw[hi] at h4
  cases h4
  rcases hne with h9 | h9
  ·exact h9 rfl
  ·cases h9
theorem F2.above {e:TypeId} {lo n:Nat} {h:AA} {v:Value} {cs:List Value} (ho:F2 e h lo v n cs) {j:Nat} (hj:h.next≤j):∀ m c,v≠qS j m c:=by
 rintro m c rfl
 rcases ho with⟨h9,_⟩ | ⟨id,h1,h2,h3,_⟩
 ·cases h9
 ·cases h1;omega
theorem F2.below {e:TypeId} {lo n:Nat} {h:AA} {v:Value} {cs:List Value} (ho:F2 e h lo v n cs) {j:Nat} (hj:j<lo):∀ m c,v≠qS j m c:=by
 rintro m c rfl
 rcases ho with⟨h9,_⟩ | ⟨id,h1,h2,h3,_⟩
 ·cases h9
 ·cases h1;omega
theorem F2.apart {e:TypeId} {lo n:Nat} {h:AA} {v:Value} {cs:List Value} (ho:F2 e h lo v n cs) {i:Nat} {cs':List Value} {t:TypeId} {g r:Bool} (hi:h.get i=.row cs' t g r) (hne:t≠e∨g=false):∀ m c,v≠qS i m c:=by
 rintro m c rfl
 rcases ho with⟨h9,_⟩ | ⟨id,h1,h2,h3,h4⟩
 ·cases h9
 ·cases h1
  rw[hi] at h4
  cases h4
  rcases hne with h9 | h9
  ·exact h9 rfl
  ·cases h9
theorem cB {H:AA} (hf:H.floor≤H.next) (e x:Int):∃ H',A9 Tryd.prog (H.push (.row [iv 0,iv 0] 36 false false)) 36 (qP H.next 0) (BG e x)=some H'∧H'.get H.next=.row [iv e,iv x] 36 false false∧H'.next=H.next+1∧H'.floor=H.floor∧∀ i,i<H.next→H'.get i=H.get i:=
 KE (zs:=[iv 0,iv 0]) (vs:=[iv e,iv x]) IP rfl rfl rfl hf
structure MK (H:AA) (b:Nat) (v:Value) (nm:ByteArray) (s:AK) (L:List AB):Prop where
 v:∃ vq vv vt vu vo,v=.agg #[.string nm,qS b s.rows.length (s.rows.length+9),vq,vv,vt,vu,vo,iv s.miss]∧AM (b+1) H vq s.queues.length 2 (C9 s.queues)∧AM (b+1) H vv s.vars.length 1 (DA s.vars)∧AM (b+1) H vt s.tags.length 1 (DA s.tags)∧AT (b+1) H vu s.rules∧AT (b+1) H vo s.on
 g:H.get b=.row (L.flatMap AZ) 61 false false
 lt:b<H.next
 len:L.length=s.rows.length+9
theorem MK.pol {H:AA} {b:Nat} {v:Value} {nm:ByteArray} {s:AK} {L:List AB} (hm:MK H b v nm s L):CB b H v nm { s with rows:=L.take s.rows.length }:=by
 obtain⟨vq,vv,vt,vu,vo,rfl,h2,h3,h4,h5,h6⟩:=hm.v
 have hl:=hm.len
 have hg:=hm.g
 have e:L=L.take s.rows.length++L.drop s.rows.length:=(List.take_append_drop _ _).symm
 rw[e,List.flatMap_append] at hg
 have hlt:(L.take s.rows.length).length=s.rows.length:=by rw[List.length_take];omega
 refine⟨_,vq,vv,vt,vu,vo,rfl,?_,h2.weak (by omega),h3.weak (by omega),h4.weak (by omega),h5.weak (by omega),h6.weak (by omega)⟩
 have:=HC.of (AM.row (lo:=b) (c:=s.rows.length+9) (n:=(L.take s.rows.length).length) hg ⟨Nat.le_refl _,hm.lt⟩ (IW _))
 rwa [hlt] at this
theorem MK.mono {H H':AA} {b:Nat} {v:Value} {nm:ByteArray} {s:AK} {L:List AB} (hm:MK H b v nm s L) (hn:H.next≤H'.next) (hg:∀ i,b≤i→i<H.next→H'.get i=H.get i):MK H' b v nm s L:=by
 have hlt:=hm.lt
 obtain⟨vq,vv,vt,vu,vo,h1,h2,h3,h4,h5,h6⟩:=hm.v
 exact⟨⟨vq,vv,vt,vu,vo,h1,h2.mono hn fun i a b=>hg i (by omega) b,h3.mono hn fun i a b=>hg i (by omega) b,h4.mono hn fun i a b=>hg i (by omega) b,h5.mono hn fun i a b=>hg i (by omega) b,h6.mono hn fun i a b=>hg i (by omega) b⟩,by rw[hg b (Nat.le_refl _) hlt];exact hm.g,by omega,hm.len⟩
theorem MK.put {H:AA} {b:Nat} {v:Value} {nm:ByteArray} {s:AK} {L L':List AB} (hm:MK H b v nm s L) (hl:L'.length=L.length):MK (H.put b (.row (L'.flatMap AZ) 61 false false)) b v nm s L':=by
 have hlt:=hm.lt
 obtain⟨vq,vv,vt,vu,vo,h1,h2,h3,h4,h5,h6⟩:=hm.v
 have hg:∀ i,b+1≤i→(H.put b (.row (L'.flatMap AZ) 61 false false)).get i=H.get i:=fun i hi=>AX hlt (by omega)
 exact⟨⟨vq,vv,vt,vu,vo,h1,h2.mono (Nat.le_refl _) fun i a _=>hg i a,h3.mono (Nat.le_refl _) fun i a _=>hg i a,h4.mono (Nat.le_refl _) fun i a _=>hg i a,h5.mono (Nat.le_refl _) fun i a _=>hg i a,h6.mono (Nat.le_refl _) fun i a _=>hg i a⟩,B0 rfl hlt,hlt,hl.trans hm.len⟩
theorem L9.mine {H:AA} {b:Nat} {v:Value} {nm:ByteArray} {s:AK} (hl:L9 H b v nm s):∃ L,MK H b v nm s L:=by
 obtain⟨hv,hlt,⟨L1,r⟩,q,w,t,⟨L2,u⟩,⟨L3,o⟩⟩:=hl
 have qn:∀ l:List (ByteArray × Bool),(C9 l).length=l.length*2:=fun l=>by
  unfold C9
  induction l with
  | nil=>rfl
  | cons x l ih=>rw[List.flatMap_cons,List.length_append,ih,List.length_cons];simp only[List.length_cons,List.length_nil];omega
 have ql:=qn s.queues
 exact⟨L1,⟨_,_,_,_,_,hv,AM.row q ⟨by omega,by omega⟩ ql,AM.row w ⟨by omega,by omega⟩ (by simp[DA]),AM.row t ⟨by omega,by omega⟩ (by simp[DA]),u.cells ⟨by omega,by omega⟩,o.cells ⟨by omega,by omega⟩⟩,r.g,by omega,r.len⟩
section
variable {n:Nat} {h:AA}
theorem Mm {l:List AB} {v cv:Value} {size x:Int} {C:List Int} (hv:A_ h v l) (hc:EF 0 h cv size C) (hL:l.length<2932031007403) (hC:C.length<17592186044416) (hfl:h.floor≤h.next) (hg:h.get 0=CF) (hn0:0<h.next) (hn:100000000000000<n) :
  ∃ h',A7 Tryd.prog (O8 n) n 7 [v,cv,iv x] h=some (.bool true,h')∧True:=by
 obtain⟨vc,rfl,pc⟩:=id hc
 have hsn:=(T7 n).2
 refine EH (R:=fun _=>True) Tryd.func7 rfl (by simp[Tryd.f7]) ?_
 have hr:Tryd.f7.results.toList=[.tmp 6]:=rfl
 have cb:=E3 [iv size,vc]
 have ob:[iv size,vc].all one=true:=by simp only[List.all_cons,List.all_nil,AM.one pc,JU,Bool.and_self]
 have zcT:zT.cells.toList=[Z0,Z0,Z0]:=rfl
 have gB:=BM (h:=h) (o:=.row [iv size,vc] 29 false false)
 have gO:∀ i,i<h.next→(h.push (.row [iv size,vc] 29 false false)).get i=h.get i:=fun i hi=>AQ hi
 have nA:(h.push (.row [iv size,vc] 29 false false)).next=h.next+1:=rfl
 have fA:(h.push (.row [iv size,vc] 29 false false)).floor=h.floor:=rfl
 simp only[eE,seval,↓eP,FU,FB,Fsx,cb,ob,LM]
 generalize h.push (.row [iv size,vc] 29 false false)=A at *
 have hhd:=aD (n:=n) (h:=A) (by rw[gO 0 hn0];exact hg)
 obtain⟨v2,H1,hres,pv,rfl,hp,f1,n1,o1⟩:=U1 (n:=n) (h:=A) (by omega) (by rw[gO 0 hn0];exact hg) (by omega) (hv.mono (by omega) gO) hL (by omega)
 have hres':=EX (n:=n) (by decide) hres
 obtain⟨nm,s,hout⟩:∃ nm s,DS l=(nm,s):=⟨_,_,rfl⟩
 have hsm:=(Q7 (l:=l) hL).1
 have htot:=(Q7 (l:=l) hL).2
 rw[hout] at hp hsm htot
 simp only at hp hsm htot
 obtain⟨vr,vq,vv,vt,vu,vo,rfl,p1,p2,p3,p4,p5,p6⟩:=id hp
 have oa:=I6 (nm:=nm) p1 p2 p3 p4 p5 p6
 obtain⟨⟨hc1,h3⟩,s1,s2,rO,n3,f3,o3⟩:=XP (H:=H1) (cs:=[.string nm,vr,vq,vv,vt,vu,vo,iv s.miss]) (e:=(BE l).1.1) (p:=(BE l).1.2) rfl oa (by omega)
 simp only at s1 s2 rO n3 f3 o3
 have lF:AW 2 0 (h3.get (H1.next+1))=some (BG (BE l).1.1 (BE l).1.2):=by rw[rO.2];rfl
 have lP:AW 8 0 (h3.get H1.next)=some (.agg #[.string nm,vr,vq,vv,vt,vu,vo,iv s.miss]):=KQ rO.1 rfl
 have o3A:∀ i,i<A.next→h3.get i=A.get i:=fun i hi=>by rw[o3 i (by omega),o1 i hi]
 have gB3:h3.get h.next=.row [iv size,vc] 29 false false:=by rw[o3A _ (by omega)];exact gB
 simp only[eE,seval,↓eP,hhd,hres',LY,LX,N2,DD,DF,D7,BZ,s1,s2,Nat.zero_add,CG,lF,FR,NO]
 cases d0:(!((BE l).1.1==0&&(BE l).1.2==0)) with
 | true=>
  simp only[eE,seval,↓eP,hr,d0]
 | false=>
 have hok:(BE l).1.1=0:=by
  simp at d0
  exact d0.1
 have hgood:=hout.symm.trans (PZ hok)
 obtain⟨rfl,rfl⟩:nm=J_ l∧s=(BE l).2:=by cases hgood;exact⟨rfl,rfl⟩
 have hchk:=c_ hok
 have hpos:0<l.length:=(MV hok).1.pos
 have hlen:(BE l).2.rows.length=l.length:=(MV hok).2.2.2.2.2.len
 have hvar:=jK hok
 generalize hs:(BE l).2=s at *
 generalize hnm:J_ l=nm at *
 have hG:=TQ hchk
 have rF:=rO.2
 have lPo:∀ X:AA,X.get H1.next=h3.get H1.next→AW 8 0 (X.get H1.next)=some (.agg #[.string nm,vr,vq,vv,vt,vu,vo,iv s.miss]):=fun X e=>by rw[e];exact lP
 have hlies:∀ nm' vr' vq' vv' vt' vu' vo' m,(Value.agg #[.string nm,vr,vq,vv,vt,vu,vo,iv s.miss])=.agg #[.string nm',vr',vq',vv',vt',vu',vo',m]→GS vr' s.rows.length:=by
  intro _ _ _ _ _ _ _ _ e9
  cases e9
  exact aT p1.1 (by omega)
 have hp3:CB A.next h3 (.agg #[.string nm,vr,vq,vv,vt,vu,vo,iv s.miss]) nm s:=hp.mono (by omega) fun j _ hj=>o3 j (by omega)
 have o3h:∀ j,j<h.next→h3.get j=h.get j:=fun j hj=>by rw[o3A j (by omega),gO j hj]
 obtain⟨a7,H4,hty,⟨tv7,rfl,hT7⟩,f4,n4,o4⟩:=SJ (n:=n) hp3 hlies hsm (by omega) (by rw[o3h 0 hn0];exact hg) (by omega) (by omega) (by omega)
 have hty':=EX (n:=n) (by decide) hty
 have sD:=I5 (h:=H4) (id:=H1.next+1) (vs:=[iv (AS nm s).1.1,iv (AS nm s).1.2]) IP (by rw[o4 _ (by omega)];exact rF) rfl rfl rfl (by omega)
 have sD:A9 Tryd.prog H4 36 (qP (H1.next+1) 0) (BG (AS nm s).1.1 (AS nm s).1.2)=_:=sD
 have gD:(H4.put (H1.next+1) (.row [iv (AS nm s).1.1,iv (AS nm s).1.2] 36 false false)).get (H1.next+1)=.row [iv (AS nm s).1.1,iv (AS nm s).1.2] 36 false false:=B0 rfl (by omega)
 have oD:∀ j,j≠H1.next+1→(H4.put (H1.next+1) (.row [iv (AS nm s).1.1,iv (AS nm s).1.2] 36 false false)).get j=H4.get j:=fun j hj=>AX (by omega) (Ne.symm hj)
 have nD:(H4.put (H1.next+1) (.row [iv (AS nm s).1.1,iv (AS nm s).1.2] 36 false false)).next=H4.next:=rfl
 have fD:(H4.put (H1.next+1) (.row [iv (AS nm s).1.1,iv (AS nm s).1.2] 36 false false)).floor=H4.floor:=rfl
 generalize H4.put (H1.next+1) (.row [iv (AS nm s).1.1,iv (AS nm s).1.2] 36 false false)=D at *
 have oD3:∀ j,j<h3.next→j≠H1.next+1→D.get j=h3.get j:=fun j hj hne=>by rw[oD j hne,o4 j hj]
 have oDh:∀ j,j<h.next→D.get j=h.get j:=fun j hj=>by rw[oD3 j (by omega) (by omega),o3h j hj]
 have hpD:CB A.next D (.agg #[.string nm,vr,vq,vv,vt,vu,vo,iv s.miss]) nm s:=hp.mono (by omega) fun j _ hj=>by rw[oD3 j (by omega) (by omega),o3 j (by omega)]
 have hcD:EF 0 D (.agg #[iv size,vc]) size C:=hc.mono (by omega) fun j _ hj=>oDh j hj
 have hTD:=AT.mono hT7 (h':=D) (by omega) fun j h1 h2=>oD j (by omega)
 obtain⟨a1,H5,hk1,⟨tv1,rfl,hT1⟩,f5,n5,o5⟩:=WN (n:=n) hpD hcD hlies hsm (by omega) hC (by rw[oDh 0 hn0];exact hg) (by omega) (by omega) (by omega)
 have hk1':=EX (n:=n) (by decide) hk1
 obtain⟨F0,Fh,w1,w2,w3,gFF,nF,fF,oF⟩:=W5 hT1 (by omega) (BB nm s size C).1.1 (BB nm s size C).1.2
 have oFD:∀ j,j<D.next→Fh.get j=D.get j:=fun j hj=>by rw[oF j (by omega),o5 j hj]
 have oFh:∀ j,j<h.next→Fh.get j=h.get j:=fun j hj=>by rw[oFD j (by omega),oDh j hj]
 have hpF:CB A.next Fh (.agg #[.string nm,vr,vq,vv,vt,vu,vo,iv s.miss]) nm s:=hp.mono (by omega) fun j _ hj=>by rw[oFD j (by omega),oD3 j (by omega) (by omega),o3 j (by omega)]
 have hcF:EF 0 Fh (.agg #[iv size,vc]) size C:=hc.mono (by omega) fun j _ hj=>oFh j hj
 have hTF:AT h3.next Fh tv7 (AS nm s).2:=AT.mono hTD (by omega) fun j h1 h2=>oFD j h2
 have hT1F:=hT1.mono (H':=Fh) (by omega) fun j h1 h2=>oF j h2
 have lPD:=lPo D (oD3 _ (by omega) (by omega))
 have lPF:=lPo Fh (by rw[oFD _ (by omega)];exact oD3 _ (by omega) (by omega))
 have lCD:AW 2 0 (D.get h.next)=some (.agg #[iv size,vc]):=by rw[oD3 _ (by omega) (by omega),gB3];rfl
 have lCF:AW 2 0 (Fh.get h.next)=some (.agg #[iv size,vc]):=by rw[oFD _ (by omega)];exact lCD
 have gTF:Fh.get (H1.next+1)=.row [iv (AS nm s).1.1,iv (AS nm s).1.2] 36 false false:=by rw[oFD _ (by omega)];exact gD
 have lT:AW 2 0 (Fh.get (H1.next+1))=some (BG (AS nm s).1.1 (AS nm s).1.2):=by rw[gTF];rfl
 have lT1:AJ 1 (Fh.get (H1.next+1))=some (iv (AS nm s).1.2):=by rw[gTF];rfl
 have lK:AW 2 0 (Fh.get (H5.next+1))=some (BG (BB nm s size C).1.1 (BB nm s size C).1.2):=by rw[gFF];rfl
 have x1F:AJ 1 (Fh.get H1.next)=some vr:=by rw[oFD _ (by omega),oD3 _ (by omega) (by omega),rO.1];rfl
 have lenR:=fun h'=>NT p1.2 h'
 have hTlen:=rR (nm:=nm) (s:=s)
 obtain⟨hcV,hcG,hcR⟩:=dW nm s size C
 obtain⟨ci,di,gi,G1,ap1,gd1,dl1,dh1,fG1,nG1,oG1⟩:=VJ (h:=Fh) (v:=tv7) (C:=(AS nm s).2) (lo:=h3.next) hTF (by omega)
 obtain⟨u1,u2,u3,rfl,hV1,hG1,hR1⟩:=id hT1F
 obtain⟨y0,y1,y2⟩:=aS w3
 have hq5:(H5.next<G1.next)=True:=by simp;omega
 obtain⟨cV,dV,gV,B1,apV,gdV,dlV,dhV,fB1,nB1,oB1⟩:=Cb (h:=G1.fl (max G1.floor G1.next)) (v:=u1) (V:=(BB nm s size C).2.V) (lo:=D.next) (hV1.mono (by rw[E1];omega) fun i _ hi=>oG1 i hi) (by omega)
 simp only[E1,HN] at apV dlV nB1 fB1 oB1
 have oB1:∀ i,i<G1.next→B1.get i=G1.get i:=oB1
 obtain⟨cG,dG,gG,B2,apG,gdG,dlG,dhG,fB2,nB2,oB2⟩:=VJ (h:=B1.fl (max G1.floor G1.next)) (v:=u2) (C:=(BB nm s size C).2.G) (lo:=D.next) (AT.mono hG1 (by rw[E1];omega) fun i _ hi=>by rw[H_,oB1 i (by omega),oG1 i hi]) (by omega)
 simp only[E1,HN,H_] at apG dlG nB2 fB2 oB2
 obtain⟨cR,dR,gR,B3,apR,gdR,dlR,dhR,fB3,nB3,oB3⟩:=VJ (h:=B2.fl G1.floor) (v:=u3) (C:=(BB nm s size C).2.Rd) (lo:=D.next) (AT.mono hR1 (by rw[E1];omega) fun i _ hi=>by rw[H_,oB2 i (by omega),oB1 i (by omega),oG1 i hi]) (by omega)
 simp only[E1,HN,H_] at apR dlR nB3 fB3 oB3
 obtain⟨B,stB,gB13,nB,fB,oB⟩:=KE (t:=43) OF (H:=B3.fl G1.floor) (zs:=[Z0,Z0,Z0]) (vs:=[qS dV (BB nm s size C).2.V.length cV,qS dG (BB nm s size C).2.G.length cG,qS dR (BB nm s size C).2.Rd.length cR]) rfl rfl rfl (by rw[HN,E1];omega)
 simp only[E1,HN,H_] at stB gB13 nB fB oB
 simp only[eE,seval,↓eP,d0,Nat.zero_add,CT,lP,hty',sD,EI,lPD,lCD,hk1',JZ,KB,zcT,DD,DF,D7,BZ,w1,w2,Z6,ap1]
 have z0:AJ 0 (G1.get H5.next)=some u1:=by rw[oG1 _ (by omega)];exact y0
 have z0p:∀ a,AJ 0 ((G1.push a).get H5.next)=some u1:=fun a=>by rw[AQ (by omega)];exact z0
 have z1p:∀ a,AJ 1 (((B1.fl G1.floor).push a).get H5.next)=some u2:=fun a=>by rw[AQ (by rw[E1];omega),H_,oB1 _ (by omega),oG1 _ (by omega)];exact y1
 have z2p:∀ a,AJ 2 (((B2.fl G1.floor).push a).get H5.next)=some u3:=fun a=>by rw[AQ (by rw[E1];omega),H_,oB2 _ (by omega),oB1 _ (by omega),oG1 _ (by omega)];exact y2
 refine WK.flags (fs:=ZV) (by kernel_rfl) ?_
 unfold ZV
 iterate 15
  refine EE hsn ?_
  simp only[rG,seval,AC,AF,AE,CZ,DY,CQ,DI,EB,List.map_cons,List.map_nil,IZ,MA,PN,LN,L8,DG,z0,z0p,z1p,z2p,hq5,decide_true,Z6,Mf,apV,apG,apR,Cy,JZ,KB,zcT,stB,HN,H_,E1,J7,HE]
 refine D_ ?_
 simp only[eE,seval,↓eP]
 have oBF:∀ j,j<Fh.next→B.get j=Fh.get j:=fun j hj=>by rw[oB j (by omega),oB3 j (by omega),oB2 j (by omega),oB1 j (by omega),oG1 j hj]
 have oG:∀ j,j<G1.next→B.get j=G1.get j:=fun j hj=>by rw[oB j (by omega),oB3 j (by omega),oB2 j (by omega),oB1 j hj]
 have gDi:B.get di=.row (ints (AS nm s).2) 3 gi false:=by rw[oG di (by omega)];exact gd1
 have gDV:B.get dV=.row (GL (BB nm s size C).2.V) 58 gV false:=by rw[oB dV (by omega),oB3 dV (by omega),oB2 dV (by omega)];exact gdV
 have gDG:B.get dG=.row (ints (BB nm s size C).2.G) 3 gG false:=by rw[oB dG (by omega),oB3 dG (by omega)];exact gdG
 have gDR:B.get dR=.row (ints (BB nm s size C).2.Rd) 3 gR false:=by rw[oB dR (by omega)];exact gdR
 have hwas:F4 1 B (.agg #[qS dV (BB nm s size C).2.V.length cV,qS dG (BB nm s size C).2.G.length cG,qS dR (BB nm s size C).2.Rd.length cR]) (BB nm s size C).2:=
  ⟨_,_,_,rfl,⟨O7 _,_,_,rfl,.inr ⟨dV,0,_,_,_,_,rfl,gDV,⟨by omega,by omega⟩,by rw[List.drop_zero,List.take_of_length_le (by rw[O7];omega)],fun _=>rfl⟩⟩,AT.row' gDG ⟨by omega,by omega⟩ rfl,AT.row' gDR ⟨by omega,by omega⟩ rfl⟩
 have hwant:AT 1 B (qS di (AS nm s).2.length ci) (AS nm s).2:=AT.row' gDi ⟨by omega,by omega⟩ rfl
 generalize hWW:(Value.agg #[qS dV (BB nm s size C).2.V.length cV,qS dG (BB nm s size C).2.G.length cG,qS dR (BB nm s size C).2.Rd.length cR])=tW at *
 have hWl:AW 3 0 (B.get B3.next)=some tW:=by rw[gB13,← hWW];rfl
 have hTV:F4 D.next Fh (.agg #[u1,u2,u3]) (BB nm s size C).2:=⟨_,_,_,rfl,hV1,hG1,hR1⟩
 have kB:∀ X:AA,B.next≤X.next→(∀ j,j<B.next→X.get j=B.get j) →
   AW 8 0 (X.get H1.next)=some (.agg #[.string nm,vr,vq,vv,vt,vu,vo,iv s.miss])∧AW 2 0 (X.get h.next)=some (.agg #[iv size,vc])∧AW 2 0 (X.get (H1.next+1))=some (BG (AS nm s).1.1 (AS nm s).1.2)∧AW 2 0 (X.get (H5.next+1))=some (BG (BB nm s size C).1.1 (BB nm s size C).1.2)∧AW 3 0 (X.get B3.next)=some tW∧AW 3 0 (X.get H5.next)=some (.agg #[u1,u2,u3])∧AJ 1 (X.get H1.next)=some vr ∧
   CB A.next X (.agg #[.string nm,vr,vq,vv,vt,vu,vo,iv s.miss]) nm s∧EF 0 X (.agg #[iv size,vc]) size C∧AT h3.next X tv7 (AS nm s).2∧AT 1 X (qS di (AS nm s).2.length ci) (AS nm s).2∧F4 D.next X (.agg #[u1,u2,u3]) (BB nm s size C).2∧F4 1 X tW (BB nm s size C).2∧X.get 0=CF:=fun X hn9 hX=>
  have hXF:∀ j,j<Fh.next→X.get j=Fh.get j:=fun j hj=>by rw[hX j (by omega),oBF j hj]
  ⟨lPo X (by rw[hXF _ (by omega),oFD _ (by omega)];exact oD3 _ (by omega) (by omega)),by rw[hXF _ (by omega)];exact lCF,by rw[hXF _ (by omega)];exact lT,by rw[hXF _ (by omega)];exact lK,by rw[hX _ (by omega)];exact hWl,by rw[hXF _ (by omega)];exact w3,by rw[hXF _ (by omega)];exact x1F,
   hpF.mono (by omega) fun j _ hj=>hXF j hj,hcF.mono (by omega) fun j _ hj=>hXF j hj,AT.mono hTF (by omega) fun j _ hj=>hXF j hj,AT.mono hwant hn9 fun j _ hj=>hX j hj,hTV.mono (by omega) fun j _ hj=>hXF j hj,hwas.mono hn9 fun j _ hj=>hX j hj,by rw[hXF 0 (by omega)];exact(oFh 0 hn0).trans hg⟩
 generalize hTT:AS nm s=TT at *
 generalize hCC:BB nm s size C=CC at *
 refine WK.loop (fun k s'=>s'.T.get 2=iv x∧s'.T.get 4=qP h.next 0∧s'.T.get 7=qP H1.next 0∧s'.T.get 8=qP (H1.next+1) 0∧s'.T.get 9=tv7∧s'.T.get 10=qP H5.next 0∧s'.T.get 11=qP (H5.next+1) 0∧s'.T.get 12=qS di TT.2.length ci∧s'.T.get 13=qP B3.next 0∧s'.T.get 14=iv (k:Int)∧k≤2∧B.next≤s'.h.next∧s'.h.floor=B.floor∧∀ j,j<B.next→s'.h.get j=B.get j) 2 (by omega) ?_ ?_
 ·exact⟨by simp only[eE,seval,↓eP,rP],by simp only[eE,seval,↓eP,rP],by simp only[eE,seval,↓eP,rP],by simp only[eE,seval,↓eP,rP],by simp only[eE,seval,↓eP,rP],by simp only[eE,seval,↓eP,rP],by simp only[eE,seval,↓eP,rP],by simp only[eE,seval,↓eP,rP],by simp only[eE,seval,↓eP,rP],by simp only[eE,seval,↓eP,rP] <;> rfl,by omega,Nat.le_refl _,by show G1.floor=_;omega,fun _ _=>rfl⟩
 rintro k ⟨T,H⟩ hk9 ⟨t2,t4,t7,t8,t9,t10,t11,t12,t13,t14,hk,nH,fH,oH⟩
 simp only at t2 t4 t7 t8 t9 t10 t11 t12 t13 t14 nH fH oH
 obtain⟨a1,a2,a3,a4,a5,a6,a7,hpH,hcH,hwH,hkH,htH,hsH,hgH⟩:=kB H nH oH
 by_cases hlt:k<2
 ·have c1:decide ((k:Int)<2)=true:=by simp;omega
  have w9:=ET k (by omega)
  obtain⟨v15,H6,hty6,⟨tv15,rfl,hO15⟩,f6,n6,o6⟩:=kG (n:=n) hpH hlies hsm (by omega) hgH (by omega) (by omega) (by omega)
  rw[hTT] at hO15 hty6
  have hty6':=EX (n:=n) (by decide) hty6
  obtain⟨H7,s7,g7,n7,f7,o7⟩:=cB (H:=H6) (by omega) TT.1.1 TT.1.2
  have o7B:∀ j,j<B.next→H7.get j=B.get j:=fun j hj=>by rw[o7 j (by omega),o6 j (by omega),oH j hj]
  obtain⟨b1,b2,b3,b4,b5,b6,b7,hp7,hc7,hw7,hk7,ht7,hs7,hg7⟩:=kB H7 (by omega) o7B
  obtain⟨v17,H8,hck8,⟨tv17,rfl,hO17⟩,f8,n8,o8⟩:=k8 (n:=n) hp7 hc7 hlies hsm (by omega) hC hg7 (by omega) (by omega) (by omega)
  rw[hCC] at hO17 hck8
  have hck8':=EX (n:=n) (by decide) hck8
  obtain⟨H9a,H9,w91,w92,w93,g99,n9,f9,o9⟩:=W5 hO17.typed (by omega) CC.1.1 CC.1.2
  have o9B:∀ j,j<B.next→H9.get j=B.get j:=fun j hj=>by rw[o9 j (by omega),o8 j (by omega),o7B j hj]
  obtain⟨d1,d2,d3,d4,d5,d6,d7,hp9,hc9,hw9,hk9',ht9,hs9,hg9⟩:=kB H9 (by omega) o9B
  have lf16:AW 2 0 (H9.get H6.next)=some (BG TT.1.1 TT.1.2):=by rw[o9 _ (by omega),o8 _ (by omega),g7];rfl
  have lf18:AW 2 0 (H9.get (H8.next+1))=some (BG CC.1.1 CC.1.2):=by rw[g99];rfl
  have hO15':G7 H.next H9 tv15 TT.2:=hO15.mono (by omega) fun i _ hi _=>by rw[o9 i (by omega),o8 i (by omega),o7 i hi]
  have hO17':JI H7.next H9 tv17 CC.2:=hO17.mono (by omega) fun i _ hi=>o9 i hi
  have hs1:=EX (n:=n) (by decide) (UQ (n:=n) (h:=H9) hO15'.ints hk9' (by omega) (by omega))
  have hs2:=EX (n:=n) (by decide) (UV (n:=n) (h:=H9) hO17'.typed hs9 (by omega) (by omega) (by omega) (by omega))
  have hx15:∀ {j},H6.next≤j→∀ m c,tv15≠qS j m c:=fun hj=>hO15.above hj
  have hy15:∀ {j},j<H.next→∀ m c,tv15≠qS j m c:=fun hj=>hO15.below hj
  obtain⟨xs1,k1,fS1,nS1,oS1⟩:=Z9 (n:=n) hO15'.mine (by omega) (by omega) (by omega) (by omega)
  have k1':=EX (n:=n) (by decide) k1
  obtain⟨pv1,pv2,pv3,rfl,hv8,hg8,hr8⟩:=id hO17
  obtain⟨e0,e1,e2⟩:=aS w93
  have hv9:F2 58 H9 H7.next pv1 CC.2.V.length (GL CC.2.V):=hv8.mono (by omega) fun i hi _ _=>o9 i hi
  have hg9':F2 3 H9 H7.next pv2 CC.2.G.length (ints CC.2.G):=hg8.mono (by omega) fun i hi _ _=>o9 i hi
  have hr9:G7 H7.next H9 pv3 CC.2.Rd:=hr8.mono (by omega) fun i _ hi _=>o9 i hi
  have oS1':∀ i,H7.next≤i→i<H9.next→xs1.get i=H9.get i:=fun i h1 h2=>oS1 i h2 (hx15 (by omega))
  have hgS1:=hg9'.mono nS1 fun i hi _ hl=>oS1' i hl hi
  have hrS1:=hr9.mono nS1 fun i hl hi _=>oS1' i hl hi
  have hvS1:=hv9.mono nS1 fun i hi _ hl=>oS1' i hl hi
  have e1':AJ 1 (xs1.get H8.next)=some pv2:=by rw[oS1' _ (by omega) (by omega)];exact e1
  obtain⟨xs2,k2,fS2,nS2,oS2⟩:=Z9 (n:=n) hgS1.mine (by omega) (by omega) (by omega) (by omega)
  have k2':=EX (n:=n) (by decide) k2
  have hrS2:=hrS1.mono nS2 fun i _ hi hc=>oS2 i hi (by obtain⟨cs,hc⟩:=hc;exact hgS1.apart hc (.inr rfl))
  have hvS2:=hvS1.mono nS2 fun i hi hc _=>oS2 i hi (by obtain⟨cs,g,hc⟩:=hc;exact hgS1.apart hc (.inl (by decide)))
  have e2':AJ 2 (xs2.get H8.next)=some pv3:=by rw[oS2 _ (by omega) (hg8.above (by omega)),oS1' _ (by omega) (by omega)];exact e2
  obtain⟨xs3,k3,fS3,nS3,oS3⟩:=Z9 (n:=n) hrS2.mine (by omega) (by omega) (by omega) (by omega)
  have k3':=EX (n:=n) (by decide) k3
  have hvS3:=hvS2.mono nS3 fun i hi hc _=>oS3 i hi (by obtain⟨cs,g,hc⟩:=hc;exact hrS2.apart hc (.inl (by decide)))
  have e0':AJ 0 (xs3.get H8.next)=some pv1:=by rw[oS3 _ (by omega) (hr8.above (by omega)),oS2 _ (by omega) (hg8.above (by omega)),oS1' _ (by omega) (by omega)];exact e0
  have oS3B:∀ j,j<B.next→xs3.get j=B.get j:=fun j hj=>by rw[oS3 j (by omega) (hr8.below (by omega)),oS2 j (by omega) (hg8.below (by omega)),oS1 j (by omega) (hy15 (by omega)),o9B j hj]
  have lenV:∀ X:AA,CX Tryd.prog X 41 pv1=some (iv (CC.2.V.length:Int)):=fun X=>AM.len (hvS3.cells (O7 _) (Nat.le_refl _)) Tryd.underlying41
  simp only[eE,seval,↓eP,t2,t4,t7,t8,t9,t10,t11,t12,t13,t14,c1,Nat.zero_add,CT,a1,hty6',DD,DF,D7,BZ,s7,EI,b1,b2,hck8',JZ,KB,zcT,w91,w92,CG,lf16,lf18,d3,d4,ZR,hs1,J4,w93,d5,hs2,k1',PN,LN,DG,e1',k2',e2',k3']
  refine WK.loop (fun q s'=>s'.T.get 2=iv x∧s'.T.get 4=qP h.next 0∧s'.T.get 7=qP H1.next 0∧s'.T.get 8=qP (H1.next+1) 0∧s'.T.get 9=tv7∧s'.T.get 10=qP H5.next 0∧s'.T.get 11=qP (H5.next+1) 0∧s'.T.get 12=qS di TT.2.length ci∧s'.T.get 13=qP B3.next 0∧s'.T.get 14=iv (k:Int)∧s'.T.get 17=qP H8.next 0∧s'.T.get 19=iv (q:Int)∧q≤CC.2.V.length∧s'.h.next=xs3.next∧s'.h.floor=xs3.floor∧(∀ j,(∀ m c,pv1≠qS j m c)→s'.h.get j=xs3.get j)∧(CC.2.V.length=0∨∃ id cs,pv1=qS id CC.2.V.length AP∧H7.next≤id∧id<xs3.next∧s'.h.get id=.row cs 58 true false∧cs.length=CC.2.V.length*3)) CC.2.V.length (by omega) ?_ ?_
  ·refine⟨by simp only[eE,seval,↓eP,rP,t2],by simp only[eE,seval,↓eP,rP,t4],by simp only[eE,seval,↓eP,rP,t7],by simp only[eE,seval,↓eP,rP,t8],by simp only[eE,seval,↓eP,rP,t9],by simp only[eE,seval,↓eP,rP,t10],by simp only[eE,seval,↓eP,rP,t11],by simp only[eE,seval,↓eP,rP,t12],by simp only[eE,seval,↓eP,rP,t13],by simp only[eE,seval,↓eP,rP,t14],by simp only[eE,seval,↓eP,rP],by simp only[eE,seval,↓eP,rP] <;> rfl,by omega,rfl,rfl,fun _ _=>rfl,?_⟩
   rcases hvS3 with⟨_,h9,_⟩ | ⟨id,h1,h2,h3',h4⟩
   ·exact .inl h9
   ·exact .inr ⟨id,_,h1,h2,h3',h4,O7 _⟩
  rintro q ⟨T2,xs4⟩ hq9 ⟨u2,u4,u7,u8,u9,u10,u11,u12,u13,u14,u17,u19,hq,n4',f4',o4',hrow⟩
  simp only at u2 u4 u7 u8 u9 u10 u11 u12 u13 u14 u17 u19 n4' f4' o4' hrow
  have e0q:AJ 0 (xs4.get H8.next)=some pv1:=by rw[o4' _ (hv8.above (by omega))];exact e0'
  by_cases hql:q<CC.2.V.length
  ·have c2:decide ((q:Int)<(CC.2.V.length:Int))=true:=by simp;omega
   have w8:=ET q (by omega)
   rcases hrow with h0 | ⟨id,cs,rfl,i1,i2,i3,i4⟩
   ·omega
   obtain⟨cs',i5,st⟩:=Nw (a:=77) (b:=0) (c:=0) (off:=q*3) i3 (by omega) (by omega)
   have ix:=wF (id:=id) (c:=AP) hql
   simp only[eE,seval,↓eP,u2,u4,u7,u8,u9,u10,u11,u12,u13,u14,u17,u19,c2,Nat.zero_add,MA,L8,e0q,lenV,Mj,ix,st,w8]
   exact⟨hql,by omega,n4',f4',fun j hj=>by rw[AX (by omega) (fun e=>hj _ _ (by rw[e]))];exact o4' j hj,.inr ⟨id,cs',rfl,i1,i2,B0 rfl (by omega),i5.trans i4⟩⟩
  ·have c2:decide ((q:Int)<(CC.2.V.length:Int))=false:=by simp;omega
   simp only[eE,seval,↓eP,u2,u4,u7,u8,u9,u10,u11,u12,u13,u14,u17,u19,c2,Nat.zero_add,MA,L8,e0q,lenV,w9]
   exact⟨hlt,by omega,by omega,by omega,fun j hj=>by rw[o4' j (hv8.below (by omega)),oS3B j hj]⟩
 have c1:decide ((k:Int)<2)=false:=by simp;omega
 have cz:((s.rows.length:Int)==0)=false:=beq_eq_false_iff_ne.2 (by omega)
 have hs1:=EX (n:=n) (by decide) (UQ (n:=n) (h:=H) hwH hkH (by omega) (by omega))
 have hs2:=EX (n:=n) (by decide) (UV (n:=n) (h:=H) htH hsH (by omega) (by omega) (by omega) (by omega))
 obtain⟨vL,L1,hkL,hLt,nL,fL,oL⟩:=kS (n:=n) hpH hsm (by omega) (by omega) (by omega)
 have hkL':=EX (n:=n) (by decide) hkL
 obtain⟨L0,hM0⟩:=hLt.mine
 obtain⟨wq,wv,wt,wu,wo,rfl,_⟩:=id hM0.v
 obtain⟨_,_,_,_,_,_,eM,m1,m2,m3,m4,m5,m6⟩:=hM0.pol
 cases eM
 have oa2:=I6 (nm:=nm) m1 m2 m3 m4 m5 m6
 obtain⟨H2,st2,g2,n2',f2',o2'⟩:=KE (t:=33) HM (H:=L1) (zs:=CY) (vs:=[.string nm,qS (H.next+3) s.rows.length (s.rows.length+9),wq,wv,wt,wu,wo,iv s.miss]) rfl rfl oa2 (by omega)
 simp only[eE,seval,↓eP,t2,t4,t7,t8,t9,t10,t11,t12,t13,t14,c1,Nat.zero_add,hs1,J4,a5,a6,hs2,CJ,CL,a7,lenR,cz,CT,a1,hkL',LY,LX,N2,BZ,st2]
 have hM2:MK H2 (H.next+3) (.agg #[.string nm,qS (H.next+3) s.rows.length (s.rows.length+9),wq,wv,wt,wu,wo,iv s.miss]) nm s L0:=hM0.mono (by omega) fun i _ hi=>o2' i hi
 have hg2:H2.get 0=CF:=by rw[o2' 0 (by omega),oL 0 (by omega)];exact hgH
 have hlenR:∀ X:AA,CX Tryd.prog X 26 (qS (H.next+3) s.rows.length (s.rows.length+9))=some (iv (s.rows.length:Int)):=fun X=>by simp[CX,Tryd.underlying26]
 refine WK.loop (fun k s'=>s'.T.get 2=iv x∧s'.T.get 20=qP L1.next 0∧s'.T.get 21=iv (k:Int)∧k≤2∧H2.next≤s'.h.next∧s'.h.floor=H2.floor∧s'.h.get 0=CF∧s'.h.get L1.next=.row [.string nm,qS (H.next+3) s.rows.length (s.rows.length+9),wq,wv,wt,wu,wo,iv s.miss] 33 false false∧∃ L,MK s'.h (H.next+3) (.agg #[.string nm,qS (H.next+3) s.rows.length (s.rows.length+9),wq,wv,wt,wu,wo,iv s.miss]) nm s L) 2 (by omega) ?_ ?_
 ·exact⟨by simp only[eE,seval,↓eP,rP,t2],by simp only[eE,seval,↓eP,rP],by simp only[eE,seval,↓eP,rP] <;> rfl,by omega,Nat.le_refl _,rfl,hg2,g2,L0,hM2⟩
 clear hM2 hg2 hM0 hLt
 rintro q ⟨T2,X⟩ hq9 ⟨u2',u20,u21,hq,nX,fX,gX,gP,L,hM⟩
 simp only at u2' u20 u21 nX fX gX gP hM
 by_cases hql:q<2
 rotate_left
 ·have c2:decide ((q:Int)<2)=false:=by simp;omega
  simp only[eE,seval,↓eP,hr,u2',u20,u21,c2]
 have c2:decide ((q:Int)<2)=true:=by simp;omega
 have w8:=ET q (by omega)
 have hMl:=hM.len
 have htk:(L.take s.rows.length).length=s.rows.length:=by rw[List.length_take];omega
 have hpX:=hM.pol
 have hsm2:IE { s with rows:=L.take s.rows.length }:=⟨by show (L.take s.rows.length).length<_;omega,hsm.2⟩
 have htot2:E6 { s with rows:=L.take s.rows.length }=E6 s:=by unfold E6;rw[show ({ s with rows:=L.take s.rows.length }:AK).rows.length=s.rows.length from htk]
 have hrl2:({ s with rows:=L.take s.rows.length }:AK).rows.length=s.rows.length:=htk
 have hmiss:({ s with rows:=L.take s.rows.length }:AK).miss=s.miss:=rfl
 generalize ({ s with rows:=L.take s.rows.length }:AK)=s2 at *
 have hT2len:=rR (nm:=nm) (s:=s2)
 have hlies2:∀ nm' vr' vq' vv' vt' vu' vo' m,(Value.agg #[.string nm,qS (H.next+3) s.rows.length (s.rows.length+9),wq,wv,wt,wu,wo,iv s.miss])=.agg #[.string nm',vr',vq',vv',vt',vu',vo',m]→GS vr' s2.rows.length:=by
  intro _ _ _ _ _ _ _ _ e9
  cases e9
  rw[hrl2]
  exact⟨_,_,_,rfl⟩
 obtain⟨v22,H6,hty6,⟨tv22,rfl,hT22⟩,f6,n6,o6⟩:=SJ (n:=n) hpX hlies2 hsm2 (by omega) gX (by omega) (by omega) (by omega)
 have hty6':=EX (n:=n) (by decide) hty6
 obtain⟨H7,s7,g7,n7,f7,o7⟩:=cB (H:=H6) (by omega) (AS nm s2).1.1 (AS nm s2).1.2
 have o7X:∀ j,j<X.next→H7.get j=X.get j:=fun j hj=>by rw[o7 j (by omega),o6 j hj]
 have hp7:=hpX.mono (h':=H7) (by omega) fun j _ hj=>o7X j hj
 have lt:=hM.lt
 obtain⟨vK,H8,hk8,hK8,n8,f8,o8⟩:=kS (n:=n) hp7 hsm2 (by omega) (by omega) (by omega)
 have hk8':=EX (n:=n) (by decide) hk8
 have hlies3:∀ nm' vr' vq' vv' vt' vu' vo' m,vK=.agg #[.string nm',vr',vq',vv',vt',vu',vo',m]→GS vr' s2.rows.length:=by
  intro _ _ _ _ _ _ _ _ e9
  rw[hK8.v] at e9
  cases e9
  exact⟨_,_,_,rfl⟩
 obtain⟨v24,H9,hty9,⟨tv24,rfl,hT24⟩,f9,n9,o9⟩:=SJ (n:=n) hK8.pol hlies3 hsm2 (by omega) (by rw[o8 0 (by omega),o7X 0 (by omega)];exact gX) (by omega) (by omega) (by omega)
 have hty9':=EX (n:=n) (by decide) hty9
 obtain⟨H10,s10,g10,n10,f10,o10⟩:=cB (H:=H9) (by omega) (AS nm s2).1.1 (AS nm s2).1.2
 have o10X:∀ j,j<X.next→H10.get j=X.get j:=fun j hj=>by rw[o10 j (by omega),o9 j (by omega),o8 j (by omega),o7X j hj]
 have lf23:AW 2 0 (H10.get H6.next)=some (BG (AS nm s2).1.1 (AS nm s2).1.2):=by rw[o10 _ (by omega),o9 _ (by omega),o8 _ (by omega),g7];rfl
 have lf25:AW 2 0 (H10.get H9.next)=some (BG (AS nm s2).1.1 (AS nm s2).1.2):=by rw[g10];rfl
 have hs3:=EX (n:=n) (by decide) (UQ (n:=n) (h:=H10) (AT.mono hT22 (by omega) fun i _ hi=>by rw[o10 i (by omega),o9 i (by omega),o8 i (by omega),o7 i hi]) (AT.mono hT24 (by omega) fun i _ hi=>o10 i hi) (by omega) (by omega))
 have hrd:=EX (n:=n) (by decide) (Bd (n:=n) (h:=H10) x (m:=s.rows.length) (by omega) (by omega) (by omega))
 have hi:=wO (x:=x) (m:=s.rows.length) (by omega)
 generalize OH x s.rows.length=i at *
 have gPX:H10.get L1.next=.row [.string nm,qS (H.next+3) s.rows.length (s.rows.length+9),wq,wv,wt,wu,wo,iv s.miss] 33 false false:=by rw[o10X _ (by omega)];exact gP
 have lPX:AW 8 0 (X.get L1.next)=some (.agg #[.string nm,qS (H.next+3) s.rows.length (s.rows.length+9),wq,wv,wt,wu,wo,iv s.miss]):=KQ gP rfl
 have lP7:AW 8 0 (H7.get L1.next)=some (.agg #[.string nm,qS (H.next+3) s.rows.length (s.rows.length+9),wq,wv,wt,wu,wo,iv s.miss]):=by rw[o7X _ (by omega)];exact lPX
 have lR10:AJ 1 (H10.get L1.next)=some (qS (H.next+3) s.rows.length (s.rows.length+9)):=by rw[gPX];rfl
 obtain⟨y,hy⟩:∃ y,L[i]?=some y:=⟨_,List.getElem?_eq_getElem (by omega)⟩
 have ix:=N7 (id:=H.next+3) (n:=s.rows.length) (c:=s.rows.length+9) hi
 have hM10:=hM.mono (H':=H10) (by omega) fun j _ hj=>o10X j hj
 have sK:=HD (v:=iv 29) (off:=i*5) CP rfl rfl hM10.g (by rw[IW];omega) (by omega)
 rw[Dd hy] at sK
 have hM11:=hM10.put (L':=L.set i { y with kind:=29 }) (by rw[List.length_set])
 have lR11:AJ 1 ((H10.put (H.next+3) (.row ((L.set i { y with kind:=29 }).flatMap AZ) 61 false false)).get L1.next)=some (qS (H.next+3) s.rows.length (s.rows.length+9)):=by rw[AX (by omega) (by omega)];exact lR10
 have hy2:(L.set i { y with kind:=29 })[i]?=some { y with kind:=29 }:=List.getElem?_set_self (by omega)
 have sN:=HD (v:=iv 0) (off:=i*5+3) CP rfl rfl hM11.g (by rw[IW,List.length_set];omega) (by show H10.floor≤_;omega)
 rw[W8 hy2] at sN
 have hM12:=hM11.put (L':=F8 (L.set i { y with kind:=29 }) i 0) (by unfold F8;rw[hy2];simp)
 simp only[eE,seval,↓eP,u2',u20,u21,c2,Nat.zero_add,CT,lPX,lP7,hty6',DD,DF,D7,BZ,s7,hk8',hty9',s10,CG,lf23,lf25,ZR,hs3,CJ,CL,lR10,hlenR,hrd,ix,CW,GI,sK,lR11,sN,w8]
 exact⟨hql,by omega,by show H2.next≤H10.next;omega,by show H10.floor=_;omega,by rw[AX (by show _<H10.next;omega) (by omega),AX (by omega) (by omega),o10X 0 (by omega)];exact gX,by rw[AX (by show _<H10.next;omega) (by omega),AX (by omega) (by omega)];exact gPX,_,hM12⟩
end
end Go.Proofs.YtdejoodfeljmkaaDoor
namespace Go.Proofs.YtdejoodfeljmkaaDoor
open Go Go.Sx Go.ChangeShapes Go.WideShapes Go.ChangeAt Go.RowKit
set_option maxRecDepth 100000
set_option linter.unusedSimpArgs false
set_option linter.unusedVariables false
set_option maxHeartbeats 64000000
section
variable {α:Type} {cells:α→List Value} {w:Nat} {l:List α}
theorem Ip (hcl:∀ x,(cells x).length=w):(l.flatMap cells).length=l.length*w:=by
 induction l with
 | nil=>simp
 | cons x l ih=>
  rw[List.flatMap_cons,List.length_append,ih,hcl,List.length_cons,Nat.succ_mul]
  omega
theorem sY (hcl:∀ x,(cells x).length=w):∀ {l:List α} {i j:Nat} {x:α},l[i]?=some x→j<w→(l.flatMap cells)[i*w+j]?=(cells x)[j]?
 | [],i,j,x,h,_=>by simp at h
 | y :: l,0,j,x,h,hj=>by
  cases h
  rw[List.flatMap_cons,Nat.zero_mul,Nat.zero_add,List.getElem?_append_left (by rw[hcl];exact hj)]
 | y :: l,i+1,j,x,h,hj=>by
  have h':l[i]?=some x:=h
  rw[List.flatMap_cons,List.getElem?_append_right (by rw[hcl,Nat.succ_mul];omega),hcl,← sY hcl h' hj]
  congr 1
  rw[Nat.succ_mul]
  omega
end
def HV (W:World) (v:Value) (n w:Nat) (cs:List Value):Prop:=cs.length=n*w∧((n=0∧v=Z0) ∨
 ∃ b off cap CS ty fr,v=.slice (some ⟨b,off,none⟩) n cap∧n≤cap∧cap<AP∧W.heap[b]?=some (.cells CS ty fr)∧∀ k,k<n*w→CS[off+k]?=cs[k]?)
section
variable {H:Type} {enc:TypeId × Value→H} {W:World} {base b0:Nat} {sp:Nat→Bool} {hd:Bool}
theorem N9 {α:Type} {cells:α→List Value} {Q:α→Prop} {w:Nat} {t e:TypeId} (ht:Tryd.prog.underlying t=some (.slice e)) (hw:Tryd.prog.cellsOf e=w)
  (hopen:∀ n cs y,DataW.trod enc Tryd.prog W base sp hd n e cs=some y→∃ x,cs=cells x∧Q x) (hcl:∀ x,(cells x).length=w) (hw0:0<w)
  {v:Value} {n:Nat} {y:DataW H × List MemPlace} (hval:Cell.okWide Tryd.prog W .any b0 t v) (h:DataW.trod enc Tryd.prog W base sp hd n t [v]=some y):∃ l:List α,(∀ x∈l,Q x)∧HV W v l.length w (l.flatMap cells):=by
 rcases DataW.trod_slice ht h with⟨h1,h2⟩ | ⟨a',len,cap,elems,rest,n',_,h1,_,hb,hl,hm,hlen,hel,_⟩
 ·cases h1
  exact⟨[],fun x hx=>(by cases hx),by simp,.inl ⟨rfl,rfl⟩⟩
 ·cases h1
  simp only[Cell.okWide,ht,Cell.ok] at hval
  obtain⟨_,_,_,hsp,row,cells',hsh,_⟩:=hval
  obtain⟨b,off,spot⟩:=a'
  simp only at hsp
  subst hsp
  have hblk:∃ CS ty fr,W.heap[b]?=some (.cells CS ty fr):=by
   simp only[World.shape?] at hsh
   split at hsh
   ·rename_i CS ty fr hh;exact⟨_,_,_,hh⟩
   ·cases hsh
  obtain⟨CS,ty,fr,hblk⟩:=hblk
  have each:∀ i,i<len→∃ x:α,Q x∧∀ j,j<w→CS[off+(i*w+j)]?=(cells x)[j]?:=fun i hi=>by
   have:=hel i hi
   obtain⟨y,hy⟩:∃ y,elems[i]?=some y:=⟨_,List.getElem?_eq_getElem (by omega)⟩
   rw[hy,b_,hw,Option.bind_eq_some_iff] at this
   obtain⟨cs,hcs,ht⟩:=this
   obtain⟨x,rfl,hx⟩:=hopen _ _ _ ht
   obtain⟨_,hc⟩:=nZ hcs
   refine⟨x,hx,fun j hj=>?_⟩
   rw[← hc j hj,← Nat.add_assoc]
   simp only[World.cell?,hblk,Option.isSome_none,Bool.false_eq_true,if_false]
  obtain⟨l,hll,hl1⟩:∃ l:List α,l.length=len∧∀ i x,l[i]?=some x→Q x∧∀ j,j<w→CS[off+(i*w+j)]?=(cells x)[j]?:=by
   have : ∀ m,m≤len→∃ l:List α,l.length=m∧∀ i x,l[i]?=some x→Q x∧∀ j,j<w→CS[off+(i*w+j)]?=(cells x)[j]?:=by
    intro m
    induction m with
    | zero=>exact fun _=>⟨[],rfl,fun i x h=>by simp at h⟩
    | succ m ih=>
     intro hm
     obtain⟨l,h1,h2⟩:=ih (by omega)
     obtain⟨x,hx⟩:=each m (by omega)
     refine⟨l++[x],by simp[h1],fun i y hy=>?_⟩
     rcases Nat.lt_or_ge i l.length with h3 | h3
     ·rw[List.getElem?_append_left h3] at hy
      exact h2 i y hy
     ·rw[List.getElem?_append_right h3] at hy
      have:i-l.length=0:=by
       rcases Nat.eq_zero_or_pos (i-l.length) with h4 | h4
       ·exact h4
       ·rw[List.getElem?_eq_none (by simp;omega)] at hy
        cases hy
      rw[this] at hy
      cases hy
      have:i=m:=by omega
      subst this
      exact hx
   exact this len (Nat.le_refl _)
  unfold maxLen at hm
  refine⟨l,fun x hx=>?_,Ip hcl,.inr ⟨b,off,cap,CS,ty,fr,by rw[hll],by omega,by unfold AP;omega,hblk,fun k hk=>?_⟩⟩
  ·obtain⟨i,hi⟩:=List.getElem?_of_mem hx
   exact(hl1 i x hi).1
  ·have hdm:=Nat.div_add_mod k w
   rw[Nat.mul_comm] at hdm
   have hj:=Nat.mod_lt k hw0
   have hi:k/w<l.length:=(Nat.div_lt_iff_lt_mul hw0).2 hk
   have hx:=List.getElem?_eq_getElem hi
   rw[← hdm,(hl1 _ _ hx).2 _ hj,sY hcl hx hj]
end
structure NX where
 v:Value
 n:Nat
 w:Nat
 cs:List Value
 ty:TypeId
noncomputable def I7:AA→List NX→AA
 | h,[]=>h
 | h,p :: ps=>I7 (h.push (.row p.cs p.ty false true)) ps
theorem eV:∀ (ps:List NX) (h:AA),(I7 h ps).next=h.next+ps.length∧(I7 h ps).floor=h.floor∧∀ i,i<h.next→(I7 h ps).get i=h.get i
 | [],h=>⟨rfl,rfl,fun _ _=>rfl⟩
 | p :: ps,h=>by
  obtain⟨h1,h2,h3⟩:=eV ps (h.push (.row p.cs p.ty false true))
  rw[BZ] at h1 h3
  refine⟨by show (I7 _ ps).next=_;rw[h1,List.length_cons];omega,h2,fun i hi=>?_⟩
  show (I7 _ ps).get i=_
  rw[h3 i (by omega),AQ hi]
theorem mG:∀ {ps:List NX} {h:AA} {i:Nat} {p:NX},ps[i]?=some p→(I7 h ps).get (h.next+i)=.row p.cs p.ty false true
 | [],h,i,p,hp=>by simp at hp
 | q :: ps,h,0,p,hp=>by
  cases hp
  show (I7 _ ps).get h.next=_
  rw[(eV ps _).2.2 _ (by rw[BZ];omega),BM]
 | q :: ps,h,i+1,p,hp=>by
  have:=mG (ps:=ps) (h:=h.push (.row q.cs q.ty false true)) (i:=i) (p:=p) hp
  rw[BZ] at this
  show (I7 _ ps).get (h.next+(i+1))=_
  rw[← this]
  congr 1
  omega
def NQ (p:NX):Go.Sx.Loc:=match p.v with
 | .slice (some a) _ _=>⟨a.block,a.off,0,0⟩
 | _=>⟨0,0,0,0⟩
def R_ (ps:List NX):BF:=fun i=>if i=0 then some ⟨0,0,0,0⟩ else (ps[i-1]?).map NQ
def RE (i:Nat) (p:NX):Value:=match p.v with
 | .slice (some _) n c=>qS i n c
 | v=>v
theorem ZI {ps:List NX} {i:Nat} {p:NX} (h:ps[i]?=some p):R_ ps (i+1)=some (NQ p):=by
 unfold R_
 rw[if_neg (by omega),Nat.add_sub_cancel,h]
 rfl
theorem ZN {W : World} (h : laidMetH Tryd.prog [("winnow/lex.words", Rows.laid_winnow_lex_words)] W) {ps : List NX} (hps : ∀ p ∈ ps, HV W p.v p.n p.w p.cs ∧ ∀ v ∈ p.cs, BI v = true) :
  BV Tryd.prog (R_ ps) (I7 KA ps) W∧(∀ i,¬ wr ((I7 KA ps).get i))∧(I7 KA ps).next=ps.length+1∧(I7 KA ps).floor=0∧(I7 KA ps).get 0=CF ∧
   ∀ (i:Nat) p,ps[i]?=some p→AI (R_ ps) (RE (i+1) p) p.v∧AM 0 (I7 KA ps) (RE (i+1) p) p.n p.w p.cs:=by
 obtain⟨hn,hf,ho⟩:=eV ps KA
 have h01:KA.next=1:=rfl
 rw[h01] at hn ho
 obtain⟨CS0,ty0,fr0,hb0,hcs0⟩:=fI (zs:=G0) (rest:=[]) fV fO Tryd.underlying126 Tryd.underlying9 ZA YJ h
 have hget:∀ (i:Nat) p,ps[i]?=some p→(I7 KA ps).get (i+1)=.row p.cs p.ty false true:=fun i p hp=>by
  have:=mG (h:=KA) hp
  rw[h01,Nat.add_comm] at this
  exact this
 have hro:=XV (P:=Tryd.prog) (W:=W) (ρ:=R_ ps) (h:=I7 KA ps) rfl (fun i hi=>by
   unfold R_
   rw[if_neg (by omega),List.getElem?_eq_none (by omega)]
   rfl) (fun g hg=>by
   rw[X8] at hg
   obtain rfl:g=0:=by omega
   exact⟨_,rfl,rfl,rfl⟩) (fun i hi=>by
   rw[hn] at hi
   cases i with
   | zero=>
    refine⟨LJ,9,false,⟨0,0,0,0⟩,CS0,ty0,fr0,(ho 0 (by omega)).trans rfl,rfl,hb0,fun k v hv=>⟨v,?_,?_⟩⟩
    ·have:CS0.toList[k]?=some v:=by rw[hcs0];exact hv
     simpa using this
    ·have hm:v∈LJ:=List.mem_of_getElem? hv
     obtain⟨z,_,rfl⟩:=List.mem_map.1 hm
     exact .flat rfl
   | succ i=>
    obtain⟨p,hp⟩:∃ p,ps[i]?=some p:=⟨_,List.getElem?_eq_getElem (by omega)⟩
    obtain⟨⟨hl,hor⟩,hfl⟩:=hps p (List.mem_of_getElem? hp)
    rcases hor with⟨h0,hv⟩ | ⟨b,off,cap,CS,ty,fr,hv,h1,h2,h3,h4⟩
    ·refine⟨p.cs,p.ty,false,NQ p,CS0,ty0,fr0,hget i p hp,ZI hp,by unfold NQ;rw[hv];exact hb0,fun k v hk=>?_⟩
     have:=(List.getElem?_eq_some_iff.1 hk).1
     rw[hl,h0,Nat.zero_mul] at this
     omega
    ·refine⟨p.cs,p.ty,false,NQ p,CS,ty,fr,hget i p hp,ZI hp,by unfold NQ;rw[hv];exact h3,fun k v hk=>⟨v,?_,.flat (hfl v (List.mem_of_getElem? hk))⟩⟩
     have hkl:=(List.getElem?_eq_some_iff.1 hk).1
     have e:(NQ p).d=off:=by unfold NQ;rw[hv]
     rw[e,h4 k (by omega)]
     exact hk)
 refine⟨hro.1,hro.2,by omega,hf,(ho 0 (by omega)).trans rfl,fun i p hp=>?_⟩
 obtain⟨⟨hl,hor⟩,hfl⟩:=hps p (List.mem_of_getElem? hp)
 have hil:=(List.getElem?_eq_some_iff.1 hp).1
 rcases hor with⟨h0,hv⟩ | ⟨b,off,cap,CS,ty,fr,hv,h1,h2,h3,h4⟩
 ·have e:RE (i+1) p=Z0:=by unfold RE;rw[hv]
  have ecs:p.cs=[]:=List.length_eq_zero_iff.1 (by rw[hl,h0,Nat.zero_mul])
  rw[e,hv,ecs,h0]
  exact⟨.flat rfl,AM.nil _ _ _⟩
 ·have e:RE (i+1) p=qS (i+1) p.n cap:=by unfold RE;rw[hv]
  have eL:NQ p=⟨b,off,0,0⟩:=by unfold NQ;rw[hv]
  rw[e]
  refine⟨?_,AM.rowR (ex:=[]) (by rw[List.append_nil];exact hget i p hp) ⟨Nat.zero_le _,by omega⟩ hl fun h=>absurd h (Nat.lt_irrefl 0)⟩
  rw[hv]
  exact AI.slice (L:=⟨b,off,0,0⟩) (by rw[ZI hp,eL]) h2
theorem PX:Tryd.prog.cellsOf 26=1∧Tryd.prog.cellsOf 30=1∧Tryd.prog.cellsOf 31=1∧Tryd.prog.cellsOf 27=1:=⟨by kernel_rfl,by kernel_rfl,by kernel_rfl,by kernel_rfl⟩
theorem dO (l:List Int):l.flatMap (fun x=>[iv x])=ints l:=by
 induction l with
 | nil=>rfl
 | cons x l ih=>rw[List.flatMap_cons,ih];rfl
section
variable {H:Type} {enc:TypeId × Value→H} {W:World} {base b0:Nat} {sp:Nat→Bool} {hd:Bool}
theorem SI {n:Nat} {cs:List Value} {y:DataW H × List MemPlace} (h:DataW.trod enc Tryd.prog W base sp hd n 3 cs=some y):∃ x:Int,cs=[iv x]∧(-9223372036854775808≤x∧x≤9223372036854775807):=by
 obtain⟨a,ha,_,wa⟩:=DataW.trod_int Tryd.underlying3 h
 exact⟨a,ha,bounds_i64 wa⟩
end
section
variable {H:Type} {enc:TypeId × Value→H} {W:World} {base b0:Nat} {sp:Nat→Bool} {hd:Bool} {v:Value} {d:DataW H} {p:List MemPlace}
theorem Cu (hval:Value.okWide Tryd.prog W .any b0 26 v) (h:DataW.Trod enc Tryd.prog W base sp hd 26 v d p):∃ l:List AB,(∀ x∈l,QC x)∧HV W v l.length 5 (l.flatMap AZ):=by
 obtain⟨a,len,cap,rfl⟩:=okWide_slice Tryd.underlying26 hval
 obtain⟨fuel,hf⟩:=h
 have hc:Cell.okWide Tryd.prog W .any b0 26 (.slice a len cap):=by simpa only[Value.okWide,Tryd.underlying26] using hval
 exact N9 Tryd.underlying26 VO (fun n cs y h=>ZJ h) (fun _=>rfl) (by decide) hc hf
end
theorem HV.slS {W:World} {v:Value} {n w:Nat} {cs:List Value} (h:HV W v n w cs):∃ a c,v=.slice a n c:=by
 obtain⟨_,⟨rfl,rfl⟩ | ⟨b,off,cap,CS,ty,fr,rfl,_⟩⟩:=h
 ·exact⟨_,_,rfl⟩
 ·exact⟨_,_,rfl⟩
theorem Mg:Tryd.prog.cellsOf 29=2:=by kernel_rfl
theorem Lv:Tryd.prog.cellTypes Tryd.prog.depth 29=some [3,27]:=by kernel_rfl
theorem jM:Tryd.prog.bytesOf 3=8:=by kernel_rfl
theorem Kc:Tryd.prog.bytesOf 61=48:=by kernel_rfl
def tL (W:World) (v:Value) (size:Int) (C:List Int):Prop:=∃ vc,v=.agg #[iv size,vc]∧HV W vc C.length 1 (ints C)
section
variable {H:Type} {enc:TypeId × Value→H} {W:World} {base b0:Nat} {sp:Nat→Bool} {hd:Bool}
theorem aR {t e:TypeId} (ht:Tryd.prog.underlying t=some (.slice e)) {n m:Nat} {v:Value} {cs:List Value} {w:Nat} (hv:HV W v m w cs) {y:DataW H × List MemPlace} (h:DataW.trod enc Tryd.prog W base sp hd n t [v]=some y)
  (hw:(DataW.weights Tryd.prog t y.1).all (· ≤ reachBytes)=true):m*Tryd.prog.bytesOf e≤reachBytes:=by
 obtain⟨a,c,rfl⟩:=hv.slS
 rcases DataW.trod_slice ht h with⟨h1,h2⟩ | ⟨a',len,cap,elems,rest,n',_,h1,h2,_,_,_,hlen,_⟩
 ·cases h1
  rw[Nat.zero_mul]
  exact Nat.zero_le _
 ·cases h1
  subst h2
  simp only[DataW.weights,ht,List.all_cons,Bool.and_eq_true,decide_eq_true_eq,List.length_map] at hw
  exact Nat.le_trans (Nat.mul_le_mul_right _ (by omega)) hw.1
theorem Nm {v:Value} {l:List AB} {d:DataW H} {p:List MemPlace} (hv:HV W v l.length 5 (l.flatMap AZ)) (h:DataW.Trod enc Tryd.prog W base sp hd 26 v d p) (hw:(DataW.weights Tryd.prog 26 d).all (· ≤ reachBytes)=true):l.length<2932031007403:=by
 obtain⟨fuel,hf⟩:=h
 have hcs:v.cells.toList=[v]:=by
  obtain⟨a,c,rfl⟩:=hv.slS
  rfl
 rw[hcs] at hf
 have:=aR Tryd.underlying26 hv hf hw
 rw[Kc] at this
 unfold reachBytes at this
 omega
theorem uQ {v:Value} {d:DataW H} {p:List MemPlace} (hval:Value.okWide Tryd.prog W .any b0 29 v) (h:DataW.Trod enc Tryd.prog W base sp hd 29 v d p):∃ size C,tL W v size C∧((DataW.weights Tryd.prog 29 d).all (· ≤ reachBytes)=true→C.length<17592186044416):=by
 simp only[Value.okWide,Tryd.underlying29] at hval
 obtain⟨CS,rfl,hsz,ts,hts,_,hcell⟩:=hval
 rw[Lv] at hts
 cases hts
 obtain⟨fuel,hf⟩:=h
 have hcs:(Value.agg CS).cells.toList=CS.toList:=rfl
 rw[hcs] at hf
 obtain⟨xs,m,_,hx,hl,hxl,hf⟩:=DataW.trod_struct Tryd.underlying29 hf
 rw[Mg] at hl
 obtain⟨c0,c1,hcs⟩:∃ c0 c1,CS.toList=[c0,c1]:=by
  match CS.toList,hl with
  | [a,b],_=>exact⟨a,b,rfl⟩
 obtain rfl:CS=#[c0,c1]:=by cases CS;simp_all
 have hxl:xs.length=2:=hxl
 obtain⟨y0,y1,rfl⟩:∃ y0 y1,xs=[y0,y1]:=by
  match xs,hxl with
  | [a,b],_=>exact⟨a,b,rfl⟩
 have f0:DataW.trod enc Tryd.prog W base sp hd m 3 (([c0,c1].drop 0).take (Tryd.prog.cellsOf 3))=some y0:=hf 0 _ rfl
 rw[M9] at f0
 have f1:DataW.trod enc Tryd.prog W base sp hd m 27 (([c0,c1].drop 1).take (Tryd.prog.cellsOf 27))=some y1:=hf 1 _ rfl
 rw[PX.2.2.2] at f1
 have hc:Cell.okWide Tryd.prog W .any b0 27 c1:=by
  obtain⟨u',h1,h2⟩:=hcell 1 c1 rfl
  have:u'=27:=Option.some.inj (h1.symm.trans rfl)
  subst this
  exact h2
 obtain⟨a,ha,wa⟩:=SI f0
 obtain rfl:c0=iv a:=by simpa using ha
 obtain⟨l,hQ,sl⟩:=N9 (cells:=fun x:Int=>[iv x]) Tryd.underlying27 M9 (fun n cs y h=>SI h) (fun _=>rfl) (by decide) hc f1
 rw[dO] at sl
 refine⟨a,l,⟨c1,rfl,sl⟩,fun hw=>?_⟩
 have e:d=.agg ([y0,y1].map (·.1)):=congrArg (·.1) hx
 rw[e] at hw
 have e2:DataW.weights Tryd.prog 29 (.agg ([y0,y1].map (·.1)))=DataW.weights Tryd.prog 3 y0.1++(DataW.weights Tryd.prog 27 y1.1++[]):=by
  simp only[DataW.weights,Tryd.underlying29]
  rfl
 rw[e2,List.all_append,List.append_nil,Bool.and_eq_true] at hw
 have:=aR Tryd.underlying27 sl f1 hw.2
 rw[jM] at this
 unfold reachBytes at this
 omega
end
theorem Na {W : World} (h : laidMetH Tryd.prog [("winnow/lex.words", Rows.laid_winnow_lex_words)] W) {v w u : Value} {l : List AB} {size : Int} {C B : List Int} (hv : HV W v l.length 5 (l.flatMap AZ)) (hw : tL W w size C) (hu : HV W u B.length 1 (ints B)) :
  ∃ hp ρ sv sw su,BV Tryd.prog ρ hp W∧(∀ i,¬ wr (hp.get i))∧AI ρ sv v∧AI ρ sw w∧AI ρ su u∧A_ hp sv l∧EF 0 hp sw size C∧AT 0 hp su B∧hp.floor=0∧hp.get 0=CF∧0<hp.next:=by
 obtain⟨vc,rfl,hc⟩:=hw
 have hR:=ZN h (ps:=[⟨v,_,_,_,61⟩,⟨vc,_,_,_,3⟩,⟨u,_,_,_,3⟩]) (fun p hp=>by
  simp only[List.mem_cons,List.not_mem_nil,or_false] at hp
  rcases hp with rfl | rfl | rfl
  ·refine⟨hv,fun v hv=>?_⟩
   obtain⟨x,_,hx⟩:=List.mem_flatMap.1 hv
   obtain⟨j,hj⟩:=List.getElem?_of_mem hx
   exact XE hj
  ·refine⟨hc,fun v hv=>?_⟩
   obtain⟨x,_,rfl⟩:=List.mem_map.1 hv
   rfl
  ·refine⟨hu,fun v hv=>?_⟩
   obtain⟨x,_,rfl⟩:=List.mem_map.1 hv
   rfl)
 obtain⟨r1,r2,r3,r4,r5,r6⟩:=hR
 obtain⟨a0,b0⟩:=r6 0 _ rfl
 obtain⟨a1,b1⟩:=r6 1 _ rfl
 obtain⟨a2,b2⟩:=r6 2 _ rfl
 exact⟨_,_,_,.agg #[iv size,_],_,r1,r2,a0,.agg (.cons (.flat rfl) (.cons a1 .nil)),a2,(HC.of b0).1,⟨_,rfl,b1⟩,b2,r4,r5,by omega⟩
end Go.Proofs.YtdejoodfeljmkaaDoor
