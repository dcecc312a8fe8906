/- Part 16 of what the claim leans on: 7 texts laid one behind another. -/
import Derived.Test.YtdejoodfeljmkaaGreatDoorTC15
namespace Go.Proofs.YtdejoodfeljmkaaGreatDoor
open Go Go.Sx
set_option maxRecDepth 100000
set_option linter.unusedSimpArgs false
set_option linter.unusedVariables false
set_option maxHeartbeats 64000000
noncomputable def PR4:Code:=rt (rt (Tryz.f22.body.getD .skip))
noncomputable def PR5:Code:=rt PR4
noncomputable def PR6:Code:=rt PR5
noncomputable def PR7:Code:=rt PR6
noncomputable def PR8:Code:=rt PR7
noncomputable def PR19:Code:=rt PR8
noncomputable def JdZ:Array Oper:=J18 Tryz.f22 3
def Jiu:List (Bool × Bool × List Operand):=[fa1,fa0,fa3 [.tmp 4],fa0]
theorem Jd2:J1E JdZ=Jiu:=by kernel_rfl
noncomputable def Jd0:Array Oper:=J18 Tryz.f22 5
def Jiw:List (Bool × Bool × List Operand):=[fa2,fa4 [.tmp 5],fa4 [.tmp 5],fa4 [.tmp 5],fa4 [.tmp 5],fa3 [.tmp 5,.tmp 27],fa3 [.tmp 5,.tmp 27],fa3 [.tmp 5],fa0,fa0,fa0]
theorem JcR:J1E Jd0=Jiw:=by kernel_rfl
theorem stL {t:TypeId} {k:Nat} (ht:szOf Tryz.prog t=some k) {h:SHeap} {id:Nat} {vs cs:List Value} {ty:TypeId} {g:Bool} (hg:h.get id=.row cs ty g false) (hl:k≤cs.length) (hn:vs.length=k) (ho:vs.all one=true) (hf:h.floor≤id) :
  J0K Tryz.prog h t (qP id 0) (.agg vs.toArray)=some (h.put id (.row (vs++cs.drop k) ty g false)):=by
 have hc:(Value.agg vs.toArray).cells=vs.toArray:=rfl
 have hlay:Go.Sx.lay cs 0 vs=vs++cs.drop k:=by
  simp only[Go.Sx.lay,List.take_zero,List.nil_append,Nat.zero_add,hn]
 simp only[J0K,hc,ht,J1q,hg]
 rw[if_pos (by simp[hn]),if_pos (by simp only[ho];simp;omega),hlay]
theorem J2s {nm:ByteArray} {a:Option Addr} {n c:Nat} {m:Int}:J1P Tryz.prog 27 [(0,.string nm),(1,.slice a n c),(7,iv m)]=some (.agg #[.string nm,.slice a n c,Z0,Z0,Z0,Z0,Z0,iv m]):=by
 have h:=J82
 rw[Tryz.underlying27] at h
 simp only at h
 simp only[J1P,J5F,J3Y,if_true,Tryz.underlying27,h]
 rfl
theorem JeD:J2Q Tryz.prog (match Tryz.prog.underlying 90 with | some (.struct fs)=>fs.toList | _=>[])=some [(0,8),(8,1),(9,1)]:=by kernel_rfl
theorem JhH:J1w Tryz.prog 90=some (.agg #[.string ByteArray.empty,Z0,Z0,Z0,Z0,Z0,Z0,iv 0,.map none,.map none]):=by kernel_rfl
abbrev mk0 (k c:Nat):Value:=.agg #[.string ByteArray.empty,Z0,Z0,Z0,Z0,Z0,Z0,iv 0,.map (some k),.map (some c)]
theorem Jh5 {k c:Nat}:J1P Tryz.prog 90 [(1,.map (some k)),(2,.map (some c))]=some (mk0 k c):=by
 have h:=JeD
 rw[Tryz.underlying90] at h
 simp only at h
 have hf:flat (.agg #[.string ByteArray.empty,Z0,Z0,Z0,Z0,Z0,Z0,iv 0,.map none,.map none])=true:=rfl
 simp only[J1P,JhH,hf,if_true,Tryz.underlying90,h]
 rfl
theorem sz86:szOf Tryz.prog 94=some 1:=by kernel_rfl
theorem Jja:J2X Tryz.prog 94=some false:=by kernel_rfl
theorem JhC:J1w Tryz.prog 94=some .nilFunc:=by kernel_rfl
theorem Jhx:J1w Tryz.prog 86=some (.pointer none):=by kernel_rfl
theorem Jib:J1w Tryz.prog 25=some (Z0):=by kernel_rfl
theorem Jdi {h:SHeap} {id off:Nat}:J2x Tryz.prog h 94 (qP id off)=ld1 off (h.get id):=J41 Jja
theorem bs87 {h:SHeap} {f0 f1 f2:FuncId} {a0 a1 a2 b0 b1 b2:Array Value}:J0Q Tryz.prog h 95 3 [(0,.func (.func f0) a0 b0),(1,.func (.func f1) a1 b1),(2,.func (.func f2) a2 b2)]=some (qS h.next 3 3,h.push (.row [.func (.func f0) a0 b0,.func (.func f1) a1 b1,.func (.func f2) a2 b2] 94 false false)):=by
 have hc:∀ (f:FuncId) (a b:Array Value),(Value.func (.func f) a b).cells=#[.func (.func f) a b]:=fun _ _ _=>rfl
 have hz:Value.nilFunc.cells=#[.nilFunc]:=rfl
 simp[J0Q,Tryz.underlying95,sz86,JhC,flat,J1i,hc,hz,J5k,J3e,Go.Sx.lay]
theorem Jj0 {h:SHeap} {id c i:Nat} (hi:i<3):J0R Tryz.prog 95 (qS id 3 c) (iv (i:Int))=some (qP id i):=by
 simp only[J0R,Tryz.underlying95,sz86,J0q]
 rw[if_pos (by omega)]
 simp
theorem Jj3 {h:SHeap} {a:Option Addr} {n c:Nat}:lenS Tryz.prog h 95 (.slice a n c)=some (iv (n:Int)):=by simp[lenS,Tryz.underlying95]
section
variable {N:Nat} {call:J0r}
theorem Je0 (hsn:J1G call) {l:List RowN} {v:Value} {h:SHeap} {K:Kont} (hfl:h.floor≤h.next) (hv:J0l h v l)
  (hg:h.get 0=J14) (hn0:0<h.next)
  (hchk:∀ H,J0l H v l→H.get 0=J14→0<H.next→H.floor≤H.next→call 48 [v] H=some (J2k (J0v l).1 (J0v l).2,H))
  (hk1:(J0v l).1≠0→∀ T' H,T'.get 2=qP h.next 0→T'.get 3=qP (h.next+1) 0→Out2 h.next H zPc (J0v l).1 (J0v l).2 →
   h.next+2≤H.next→H.floor=h.floor→(∀ i,i<h.next→H.get i=h.get i)→K.ap Tryz.prog call N .ret ⟨T',H⟩)
  (hk2:(J0v l).1=0→∀ T' H,T'.get 0=v→T'.get 2=qP h.next 0→T'.get 3=qP (h.next+1) 0→Out2 h.next H zPc 0 0 →
   h.next+2≤H.next→H.floor=h.floor→(∀ i,i<h.next→H.get i=h.get i)→WK Tryz.prog call N PR4 ⟨T',H⟩ K) :
  WK Tryz.prog call N (Tryz.f22.body.getD .skip) ⟨J00 0 [v] .leaf,h⟩ K:=by
 show WK _ _ _ (.seq _ (.seq _ PR4)) _ _
 have zc30:(Value.agg #[.string ByteArray.empty,Z0,Z0,Z0,Z0,Z0,Z0,iv 0]).cells.toList=zPc:=rfl
 have zc33:(J2k 0 0).cells.toList=[iv 0,iv 0]:=rfl
 have ho2:∀ i,i<h.next→((h.push (.row zPc 27 false false)).push (.row [iv 0,iv 0] 32 false false)).get i=h.get i:=fun i hi=>by rw[J06 (by show i<h.next+1;omega),J06 hi]
 have hc:=hchk ((h.push (.row zPc 27 false false)).push (.row [iv 0,iv 0] 32 false false)) (hv.mono (by show h.next≤h.next+1+1;omega) ho2) ((ho2 0 hn0).trans hg) (by show 0<h.next+1+1;omega) (by show h.floor≤h.next+1+1;omega)
 have ga:=J4c (h:=h) (o:=.row zPc 27 false false) (o':=.row [iv 0,iv 0] 32 false false)
 have gb:=J48 (h:=h) (o:=.row zPc 27 false false) (o':=.row [iv 0,iv 0] 32 false false)
 simp only[evC,seval,↓evP,rpD,J0X,J2t,J5F,J3Y,zc30,J3C,J1t,zc33]
 generalize hH2:(h.push (.row zPc 27 false false)).push (.row [iv 0,iv 0] 32 false false)=H2 at *
 have hn2:H2.next=h.next+1+1:=by rw[← hH2];rfl
 have hf2:H2.floor=h.floor:=by rw[← hH2];rfl
 have sF:=stW (t:=32) sz33 (h:=H2.push (.row [iv 0,iv 0] 32 false false)) (vs:=[iv (J0v l).1,iv (J0v l).2]) J0h rfl rfl rfl (by show H2.floor≤H2.next;omega)
 simp only[evC,seval,↓evP,rpD,J0X,J2t,hc,J3C,J1t,zc33,sF]
 have hg4:((H2.push (.row [iv 0,iv 0] 32 false false)).put H2.next (.row [iv (J0v l).1,iv (J0v l).2] 32 false false)).get H2.next=.row [iv (J0v l).1,iv (J0v l).2] 32 false false:=J0b rfl (by show H2.next<H2.next+1;omega)
 have hga:((H2.push (.row [iv 0,iv 0] 32 false false)).put H2.next (.row [iv (J0v l).1,iv (J0v l).2] 32 false false)).get h.next=.row zPc 27 false false:=by
  rw[J05 (by show H2.next<H2.next+1;omega) (by omega),J06 (by omega)];exact ga
 have hgb:((H2.push (.row [iv 0,iv 0] 32 false false)).put H2.next (.row [iv (J0v l).1,iv (J0v l).2] 32 false false)).get (h.next+1)=.row [iv 0,iv 0] 32 false false:=by
  rw[J05 (by show H2.next<H2.next+1;omega) (by omega),J06 (by omega)];exact gb
 have hgo:∀ i,i<h.next→((H2.push (.row [iv 0,iv 0] 32 false false)).put H2.next (.row [iv (J0v l).1,iv (J0v l).2] 32 false false)).get i=h.get i:=fun i hi=>by
  rw[J05 (by show H2.next<H2.next+1;omega) (by omega),J06 (by omega)];exact ho2 i hi
 have hn3:((H2.push (.row [iv 0,iv 0] 32 false false)).put H2.next (.row [iv (J0v l).1,iv (J0v l).2] 32 false false)).next=h.next+3:=by show H2.next+1=_;omega
 have hf3:((H2.push (.row [iv 0,iv 0] 32 false false)).put H2.next (.row [iv (J0v l).1,iv (J0v l).2] 32 false false)).floor=h.floor:=hf2
 generalize (H2.push (.row [iv 0,iv 0] 32 false false)).put H2.next (.row [iv (J0v l).1,iv (J0v l).2] 32 false false)=H3 at *
 have l4:ld1 0 (H3.get H2.next)=some (iv (J0v l).1):=by rw[hg4];rfl
 cases d:((J0v l).1 != 0) with
 | false=>
  have e0:(J0v l).1=0:=by simpa using d
  simp only[evC,seval,↓evP,rpD,J0G,J0X,J2t,J6a,J7G,l4,d]
  refine hk2 e0 _ _ ?_ ?_ ?_ ⟨hga,hgb⟩ (by omega) hf3 hgo <;> simp only[evC,seval,↓evP,rpC]
 | true=>
  have e0:(J0v l).1≠0:=by simpa using d
  have l42:ldN 2 0 (H3.get H2.next)=some (J2k (J0v l).1 (J0v l).2):=by rw[hg4];rfl
  have sP:=stW sz30 (vs:=zPc) hga rfl rfl rfl (by omega)
  have hgb':=(J05 (h:=H3) (i:=h.next) (j:=h.next+1) (o:=.row zPc 27 false false) (by omega) (by omega)).trans hgb
  have sF2:=stW (t:=32) sz33 (vs:=[iv (J0v l).1,iv (J0v l).2]) hgb' rfl rfl rfl (by show H3.floor≤_;omega)
  have n1:(some H2.next != some h.next)=true:=by simp;omega
  have i1:idOf (qP H2.next 0)=some H2.next:=rfl
  have i2:idOf (qP h.next 0)=some h.next:=rfl
  simp only[evC,seval,↓evP,rpD,J0G,J0X,J2t,J6a,J7G,l4,d]
  refine WK.flags (ops:=JdZ) Jd2 ?_
  refine WKF.begin ?_
  have FF:=aQ @J2n (aQ @l42 (aQ @J28 (aQ @i1 (aQ @i2 (aQ @n1 (aQ @sP @sF2))))))
  refine wst hsn 0 (some 18) (.build 27 #[]) none ?_
  simp only[rgC,seval,J04,J02,WKFC,List.map_cons,List.map_nil,FF]
  refine wst hsn 1 (some 19) (.load 32 (.tmp 4)) none ?_
  simp only[rgC,seval,J04,J02,WKFC,rgL,FF]
  refine wst hsn 2 (none) (.store 27 (.tmp 2) (.tmp 18)) none ?_
  simp only[rgC,seval,J04,J02,WKFC,J17,rgS,FF]
  refine wst hsn 3 (none) (.store 32 (.tmp 3) (.tmp 19)) none ?_
  simp only[rgC,seval,J04,J02,WKFC,J17,rgS,FF]
  refine WKF.done (i:=4) (by kernel_rfl) ?_
  clear FF
  simp only[evC,seval,↓evP,rpD,J0G,J0X,J2t]
  have ha:∀ i,i≠h.next→(H3.put h.next (.row zPc 27 false false)).get i=H3.get i:=fun i hi=>J05 (by omega) (Ne.symm hi)
  refine hk1 e0 _ _ ?_ ?_ ⟨?_,J0b rfl (by show h.next+1<H3.next;omega)⟩ (by show h.next+2≤H3.next;omega) hf3 fun i hi=>?_
  ·simp only[evC,seval,↓evP,rpC]
  ·simp only[evC,seval,↓evP,rpC]
  ·rw[J05 (by show h.next+1<H3.next;omega) (by omega)]
   exact J0b rfl (by omega)
  ·rw[J05 (by show h.next+1<H3.next;omega) (by omega),ha i (by omega)]
   exact hgo i hi
structure CellsP (h:SHeap) (m e c5 c6 fl n:Nat) (E:List Int):Prop where
 h5:h.get c5=.row [qP m 0] 86 false false
 h6:h.get c6=.row [qS e n n] 25 false false
 hf:h.get fl=.row [.func (.func 51) #[] #[qP c5 0,qP c6 0],.func (.func 53) #[qP m 0] #[],.func (.func 54) #[qP m 0] #[]] 94 false false
theorem Jdt (hsn:J1G call) {l:List RowN} {v:Value} {T:Tr} {H:SHeap} {K:Kont} (ht:J2c l) (hlen:l.length<900000000) (hfl:H.floor≤H.next) (hv:J0l H v l) (t0:T.get 0=v)
  (hclone:∀ H,J0l H v l→∃ h',call 49 [v] H=some (qS (H.next+1) l.length unk,h')∧(h'.get (H.next+1)=.row (l.flatMap J0e) 60 true false∧h'.next=H.next+2∧h'.floor=H.floor∧∀ i,i<H.next→h'.get i=H.get i))
  (hends:∀ H,J0l H v l→H.floor≤H.next→∃ h',call 50 [v] H=some (qS H.next l.length l.length,h')∧(h'.get H.next=.row (ints (J0o l)) 3 false false∧h'.next=H.next+1∧h'.floor=H.floor∧∀ i,i<H.next→h'.get i=H.get i))
  (hk:∀ T' H' m k c e r c5 c6 fl,T'.get 0=v→T'.get 2=T.get 2→T'.get 3=T.get 3→T'.get 5=qP c5 0→T'.get 6=qP c6 0→T'.get 7=qS fl 3 3 →
   MkE H' H.next m k c e r l.length (J52 l) (J0o l) [c5,c6,fl] (s0N l)→CellsP H' m e c5 c6 fl l.length (J0o l)→H.next≤H'.next→H'.floor=H.floor→(∀ i,i<H.next→H'.get i=H.get i)→WK Tryz.prog call N PR8 ⟨T',H'⟩ K) :
  WK Tryz.prog call N PR4 ⟨T,H⟩ K:=by
 show WK _ _ _ (.seq _ (.seq (.region _ _ true) (.seq _ (.seq _ PR8)))) _ _
 have hpos:=ht.pos
 obtain⟨x,hx⟩:∃ x,l[0]?=some x:=⟨_,List.getElem?_eq_getElem hpos⟩
 have hnm:J52 l=x.name:=by unfold J52;rw[hx]
 have mc:(mk0 H.next (H.next+1)).cells.toList=[.string ByteArray.empty,Z0,Z0,Z0,Z0,Z0,Z0,iv 0,.map (some H.next),.map (some (H.next+1))]:=rfl
 have mo:([.string ByteArray.empty,Z0,Z0,Z0,Z0,Z0,Z0,iv 0,.map (some H.next),.map (some (H.next+1))]:List Value).all one=true:=rfl
 have z79:(Value.pointer none).cells.toList=[.pointer none]:=rfl
 have f79:flat (.pointer none)=true:=rfl
 have hst:J0K Tryz.prog ((((H.push (.map [])).push (.map [])).push (.row [.string ByteArray.empty,Z0,Z0,Z0,Z0,Z0,Z0,iv 0,.map (some H.next),.map (some (H.next+1))] 90 false false)).push (.row [.pointer none] 86 false false)) 86 (qP (H.next+1+1+1) 0) (qP (H.next+1+1) 0)=_:=
  stc (off:=0) sz79 rfl rfl (J0h (h:=(((H.push (.map [])).push (.map [])).push (.row [.string ByteArray.empty,Z0,Z0,Z0,Z0,Z0,Z0,iv 0,.map (some H.next),.map (some (H.next+1))] 90 false false)))) (by decide) (by show H.floor≤H.next+1+1+1;omega)
 simp only[evC,seval,↓evP,rpD,J0X,J2t,Jh5,mc,mo,sz83,Jhx,z79,f79,hst]
 have n1:(((H.push (.map [])).push (.map [])).push (.row [.string ByteArray.empty,Z0,Z0,Z0,Z0,Z0,Z0,iv 0,.map (some H.next),.map (some (H.next+1))] 90 false false)).next=H.next+1+1+1:=rfl
 have P0:∀ i,i<H.next→((((H.push (.map [])).push (.map [])).push (.row [.string ByteArray.empty,Z0,Z0,Z0,Z0,Z0,Z0,iv 0,.map (some H.next),.map (some (H.next+1))] 90 false false)).push (.row [.pointer none] 86 false false)).get i=H.get i:=fun i hi=>by
  rw[J06 (by show i<H.next+1+1+1;omega),J06 (by show i<H.next+1+1;omega),J06 (by show i<H.next+1;omega),J06 hi]
 have P1:((((H.push (.map [])).push (.map [])).push (.row [.string ByteArray.empty,Z0,Z0,Z0,Z0,Z0,Z0,iv 0,.map (some H.next),.map (some (H.next+1))] 90 false false)).push (.row [.pointer none] 86 false false)).get H.next=.map []:=by
  rw[J06 (by show H.next<H.next+1+1+1;omega),J06 (by show H.next<H.next+1+1;omega)];exact J4c
 have P2:((((H.push (.map [])).push (.map [])).push (.row [.string ByteArray.empty,Z0,Z0,Z0,Z0,Z0,Z0,iv 0,.map (some H.next),.map (some (H.next+1))] 90 false false)).push (.row [.pointer none] 86 false false)).get (H.next+1)=.map []:=by
  rw[J06 (by show H.next+1<H.next+1+1+1;omega),J06 (by show H.next+1<H.next+1+1;omega)];exact J48
 have P3:((((H.push (.map [])).push (.map [])).push (.row [.string ByteArray.empty,Z0,Z0,Z0,Z0,Z0,Z0,iv 0,.map (some H.next),.map (some (H.next+1))] 90 false false)).push (.row [.pointer none] 86 false false)).get (H.next+1+1)=.row [.string ByteArray.empty,Z0,Z0,Z0,Z0,Z0,Z0,iv 0,.map (some H.next),.map (some (H.next+1))] 90 false false:=by
  rw[J06 (by show H.next+1+1<H.next+1+1+1;omega)];exact J0h (h:=(H.push (.map [])).push (.map []))
 have nA:((((H.push (.map [])).push (.map [])).push (.row [.string ByteArray.empty,Z0,Z0,Z0,Z0,Z0,Z0,iv 0,.map (some H.next),.map (some (H.next+1))] 90 false false)).push (.row [.pointer none] 86 false false)).next=H.next+4:=rfl
 have fA:((((H.push (.map [])).push (.map [])).push (.row [.string ByteArray.empty,Z0,Z0,Z0,Z0,Z0,Z0,iv 0,.map (some H.next),.map (some (H.next+1))] 90 false false)).push (.row [.pointer none] 86 false false)).floor=H.floor:=rfl
 generalize (((H.push (.map [])).push (.map [])).push (.row [.string ByteArray.empty,Z0,Z0,Z0,Z0,Z0,Z0,iv 0,.map (some H.next),.map (some (H.next+1))] 90 false false)).push (.row [.pointer none] 86 false false)=A0 at *
 have Q:∀ i,i≠H.next+1+1+1→(A0.put (H.next+1+1+1) (.row ([Value.pointer none].set 0 (qP (H.next+1+1) 0)) 86 false false)).get i=A0.get i:=fun i hi=>J05 (by omega) (Ne.symm hi)
 have a0:∀ i,i<H.next→(A0.put (H.next+1+1+1) (.row ([Value.pointer none].set 0 (qP (H.next+1+1) 0)) 86 false false)).get i=H.get i:=fun i hi=>by rw[Q i (by omega)];exact P0 i hi
 have a1:=(Q H.next (by omega)).trans P1
 have a2:=(Q (H.next+1) (by omega)).trans P2
 have a3:=(Q (H.next+1+1) (by omega)).trans P3
 have a4:(A0.put (H.next+1+1+1) (.row ([Value.pointer none].set 0 (qP (H.next+1+1) 0)) 86 false false)).get (H.next+1+1+1)=.row [qP (H.next+1+1) 0] 86 false false:=J0b rfl (by omega)
 have nB:(A0.put (H.next+1+1+1) (.row ([Value.pointer none].set 0 (qP (H.next+1+1) 0)) 86 false false)).next=H.next+4:=nA
 have fB:(A0.put (H.next+1+1+1) (.row ([Value.pointer none].set 0 (qP (H.next+1+1) 0)) 86 false false)).floor=H.floor:=fA
 generalize A0.put (H.next+1+1+1) (.row ([Value.pointer none].set 0 (qP (H.next+1+1) 0)) 86 false false)=A at *
 clear hst n1 P0 P1 P2 P3 nA fA Q A0
 have hvA:J0l A v l:=hv.mono (by omega) a0
 obtain⟨id,q,e0,hid,l0,l1,l2,l3,l4,lr⟩:=hvA.row hx
 have e0':J0R Tryz.prog 22 v (iv 0)=some (qP id q):=e0
 have hidT:(id<A.next)=True:=by simp[hid]
 have l79:ld1 0 (A.get (H.next+1+1+1))=some (qP (H.next+1+1) 0):=by rw[a4];rfl
 have hvf:J0l (A.fl (max A.floor A.next)) v l:=hvA.mono (Nat.le_refl _) fun _ _=>rfl
 obtain⟨h3,hE,g1,g2,g3,g4⟩:=hclone (A.fl (max A.floor A.next)) hvf
 simp only[J0J] at hE g1 g2 g4
 have g4':∀ i,i<A.next→h3.get i=A.get i:=g4
 have hs30:J0K Tryz.prog (h3.fl A.floor) 27 (qP (H.next+1+1) 0) (.agg #[.string x.name,qS (A.next+1) l.length unk,Z0,Z0,Z0,Z0,Z0,iv (-1)])=_:=
  stL (vs:=[.string x.name,qS (A.next+1) l.length unk,Z0,Z0,Z0,Z0,Z0,iv (-1)]) sz30 (by rw[J1g,g4' _ (by omega)];exact a3) (by simp only[List.length_cons,List.length_nil];omega) rfl rfl (by show A.floor≤_;omega)
 have i3:((H.next+1+1+1)<A.next)=True:=by simp;omega
 refine WK.flags (ops:=Jd0) JcR ?_
 refine WKF.begin ?_
 have FF:=aQ @t0 (aQ @l79 (aQ @e0' (aQ @hidT (aQ @i3 (aQ @J07 (aQ @J0d (aQ @J1W (aQ @l1 (aQ @hE (aQ @J2s (aQ @J0g @hs30)))))))))))
 refine wst hsn 0 (some 24) (.load 86 (.tmp 5)) none ?_
 simp only[rgC,seval,J04,J02,WKFC,rgL,FF]
 refine wst hsn 1 (some 25) (.move (.tmp 0)) none ?_
 simp only[rgC,seval,J04,J02,WKFC,FF]
 refine wst hsn 2 (some 26) (.indexAddr 22 (.tmp 25) (.const (Value.int IntKind.i64 0))) none ?_
 simp only[rgC,seval,J04,J02,WKFC,Nat.zero_add,FF]
 refine wst hsn 3 (some 27) (.fieldAddr 60 (.tmp 26) 1) none ?_
 simp only[rgC,seval,J04,J02,WKFC,Nat.zero_add,FF]
 refine wst hsn 4 (some 28) (.load 9 (.tmp 27)) none ?_
 simp only[rgC,seval,J04,J02,WKFC,rgL,FF]
 refine wst hsn 5 (some 29) (.move (.tmp 0)) none ?_
 simp only[rgC,seval,J04,J02,WKFC,FF]
 refine wst hsn 6 (some 30) (.call { callee:=.value (.func 49),args:=#[.tmp 29],argTypes:=#[22] }) none ?_
 simp only[rgC,seval,J04,J02,WKFC,rgK,FF]
 refine wst hsn 7 (some 31) (.build 27 #[(0,.tmp 28),(1,.tmp 30),(7,.const (Value.int IntKind.i64 (-1)))]) none ?_
 simp only[rgC,seval,J04,J02,WKFC,List.map_cons,List.map_nil,FF]
 refine wst hsn 8 (some 32) (.nilCheck (.tmp 24)) none ?_
 simp only[rgC,seval,J04,J02,WKFC,FF]
 refine wst hsn 9 (some 33) (.fieldAddr 90 (.tmp 32) 0) none ?_
 simp only[rgC,seval,J04,J02,WKFC,Nat.zero_add,FF]
 refine wst hsn 10 (none) (.store 27 (.tmp 33) (.tmp 31)) none ?_
 simp only[rgC,seval,J04,J02,WKFC,J17,rgS,FF]
 refine WKF.done (i:=11) (by kernel_rfl) ?_
 clear FF
 have hgo:∀ i,i≠H.next+1+1→((h3.fl A.floor).put (H.next+1+1) (SObj.row ([.string x.name,qS (A.next+1) l.length unk,Z0,Z0,Z0,Z0,Z0,iv (-1)]++List.drop 8 [.string ByteArray.empty,Z0,Z0,Z0,Z0,Z0,Z0,iv 0,.map (some H.next),.map (some (H.next+1))]) 90 false false)).get i=h3.get i:=fun i hi=>J05 (by show _<h3.next;omega) (Ne.symm hi)
 have b0:∀ i,i<H.next→((h3.fl A.floor).put (H.next+1+1) (SObj.row ([.string x.name,qS (A.next+1) l.length unk,Z0,Z0,Z0,Z0,Z0,iv (-1)]++List.drop 8 [.string ByteArray.empty,Z0,Z0,Z0,Z0,Z0,Z0,iv 0,.map (some H.next),.map (some (H.next+1))]) 90 false false)).get i=H.get i:=fun i hi=>by rw[hgo i (by omega),g4' i (by omega),a0 i hi]
 have b1:((h3.fl A.floor).put (H.next+1+1) (SObj.row ([.string x.name,qS (A.next+1) l.length unk,Z0,Z0,Z0,Z0,Z0,iv (-1)]++List.drop 8 [.string ByteArray.empty,Z0,Z0,Z0,Z0,Z0,Z0,iv 0,.map (some H.next),.map (some (H.next+1))]) 90 false false)).get H.next=.map []:=by rw[hgo _ (by omega),g4' _ (by omega)];exact a1
 have b2:((h3.fl A.floor).put (H.next+1+1) (SObj.row ([.string x.name,qS (A.next+1) l.length unk,Z0,Z0,Z0,Z0,Z0,iv (-1)]++List.drop 8 [.string ByteArray.empty,Z0,Z0,Z0,Z0,Z0,Z0,iv 0,.map (some H.next),.map (some (H.next+1))]) 90 false false)).get (H.next+1)=.map []:=by rw[hgo _ (by omega),g4' _ (by omega)];exact a2
 have b3:((h3.fl A.floor).put (H.next+1+1) (SObj.row ([.string x.name,qS (A.next+1) l.length unk,Z0,Z0,Z0,Z0,Z0,iv (-1)]++List.drop 8 [.string ByteArray.empty,Z0,Z0,Z0,Z0,Z0,Z0,iv 0,.map (some H.next),.map (some (H.next+1))]) 90 false false)).get (H.next+1+1)=.row [.string x.name,qS (A.next+1) l.length unk,Z0,Z0,Z0,Z0,Z0,iv (-1),.map (some H.next),.map (some (H.next+1))] 90 false false:=J0b rfl (by show _<h3.next;omega)
 have b4:((h3.fl A.floor).put (H.next+1+1) (SObj.row ([.string x.name,qS (A.next+1) l.length unk,Z0,Z0,Z0,Z0,Z0,iv (-1)]++List.drop 8 [.string ByteArray.empty,Z0,Z0,Z0,Z0,Z0,Z0,iv 0,.map (some H.next),.map (some (H.next+1))]) 90 false false)).get (H.next+1+1+1)=.row [qP (H.next+1+1) 0] 86 false false:=by rw[hgo _ (by omega),g4' _ (by omega)];exact a4
 have b5:((h3.fl A.floor).put (H.next+1+1) (SObj.row ([.string x.name,qS (A.next+1) l.length unk,Z0,Z0,Z0,Z0,Z0,iv (-1)]++List.drop 8 [.string ByteArray.empty,Z0,Z0,Z0,Z0,Z0,Z0,iv 0,.map (some H.next),.map (some (H.next+1))]) 90 false false)).get (A.next+1)=.row (l.flatMap J0e) 60 true false:=by rw[hgo _ (by omega)];exact g1
 have nW:((h3.fl A.floor).put (H.next+1+1) (SObj.row ([.string x.name,qS (A.next+1) l.length unk,Z0,Z0,Z0,Z0,Z0,iv (-1)]++List.drop 8 [.string ByteArray.empty,Z0,Z0,Z0,Z0,Z0,Z0,iv 0,.map (some H.next),.map (some (H.next+1))]) 90 false false)).next=H.next+6:=by show h3.next=_;omega
 have fW:((h3.fl A.floor).put (H.next+1+1) (SObj.row ([.string x.name,qS (A.next+1) l.length unk,Z0,Z0,Z0,Z0,Z0,iv (-1)]++List.drop 8 [.string ByteArray.empty,Z0,Z0,Z0,Z0,Z0,Z0,iv 0,.map (some H.next),.map (some (H.next+1))]) 90 false false)).floor=H.floor:=fB
 generalize (h3.fl A.floor).put (H.next+1+1) (SObj.row ([.string x.name,qS (A.next+1) l.length unk,Z0,Z0,Z0,Z0,Z0,iv (-1)]++List.drop 8 [.string ByteArray.empty,Z0,Z0,Z0,Z0,Z0,Z0,iv 0,.map (some H.next),.map (some (H.next+1))]) 90 false false)=B at *
 have hvB:J0l B v l:=hv.mono (by omega) b0
 obtain⟨h4,hN,k1,k2,k3,k4⟩:=hends B hvB (by omega)
 have z28:(Z0).cells.toList=[Z0]:=rfl
 have f28:flat (Z0)=true:=rfl
 have hst:J0K Tryz.prog (h4.push (.row [Z0] 25 false false)) 25 (qP h4.next 0) (qS B.next l.length l.length)=_:=stc (off:=0) sz28 rfl rfl J0h (by decide) (by show h4.floor≤h4.next;omega)
 have c0:∀ i,i≠h4.next→((h4.push (.row [Z0] 25 false false)).put h4.next (.row ([Z0].set 0 (qS B.next l.length l.length)) 25 false false)).get i=h4.get i:=fun i hi=>by rw[J05 (by show h4.next<h4.next+1;omega) (Ne.symm hi),J3n hi]
 have c6:((h4.push (.row [Z0] 25 false false)).put h4.next (.row ([Z0].set 0 (qS B.next l.length l.length)) 25 false false)).get h4.next=.row [qS B.next l.length l.length] 25 false false:=J0b rfl (by show h4.next<h4.next+1;omega)
 have nC:((h4.push (.row [Z0] 25 false false)).put h4.next (.row ([Z0].set 0 (qS B.next l.length l.length)) 25 false false)).next=H.next+8:=by show h4.next+1=_;omega
 have fC:((h4.push (.row [Z0] 25 false false)).put h4.next (.row ([Z0].set 0 (qS B.next l.length l.length)) 25 false false)).floor=H.floor:=by show h4.floor=_;omega
 simp only[evC,seval,↓evP,rpD,J0X,J2t,t0,hN,Jib,z28,f28,hst]
 generalize (h4.push (.row [Z0] 25 false false)).put h4.next (.row ([Z0].set 0 (qS B.next l.length l.length)) 25 false false)=C at *
 have l5:ld1 0 (C.get (H.next+1+1+1))=some (qP (H.next+1+1) 0):=by rw[c0 _ (by omega),k4 _ (by omega),b4];rfl
 simp only[evC,seval,↓evP,rpD,J0X,J2t,J1W,l5,List.map_toArray,bs87]
 have D0:∀ (o:SObj) i,i<C.next→(C.push o).get i=C.get i:=fun o i hi=>J06 hi
 have D6:∀ (o:SObj) i,i<B.next→(C.push o).get i=B.get i:=fun o i hi=>by rw[D0 o i (by omega),c0 i (by omega),k4 i hi]
 have n4:h4.next=H.next+7:=by omega
 refine hk _ _ (H.next+1+1) H.next (H.next+1) B.next (A.next+1) (H.next+1+1+1) h4.next C.next ?_ ?_ ?_ ?_ ?_ ?_ ⟨fun i=>if i=H.next+1+1 then 0 else if i=A.next+1 then 1 else if i=H.next then 8 else if i=H.next+1 then 9 else if i=B.next then 10 else 11,Z0,Z0,Z0,Z0,Z0,[],?_,?_,⟨by simp[s0N],by simp[s0N],by simp[s0N],by simp[s0N],rfl,fun t ht=>by cases ht⟩,fun i hi=>?_⟩ ⟨?_,?_,J0h⟩ (by show H.next≤C.next+1;omega) (by show C.floor=H.floor;exact fC) fun i hi=>?_
 ·simp only[evC,seval,↓evP,rpC,t0]
 ·simp only[evC,seval,↓evP,rpC]
 ·simp only[evC,seval,↓evP,rpC]
 ·simp only[evC,seval,↓evP,rpC]
 ·simp only[evC,seval,↓evP,rpC]
 ·simp only[evC,seval,↓evP,rpC]
 ·exact
   { cell:=by rw[D6 _ _ (by omega),b3,hnm];rfl
     pol:=
      { rows:=by rw[D6 _ _ (by omega)];exact b5
        len:=rfl
        tr:=by rw[if_neg (by omega),if_pos rfl]
        lr:=⟨by omega,by show _<C.next+1;omega⟩
        q:=J5j
        v:=J5j
        t:=J5j
        u:=J5j
        o:=J5j }
     known:=by rw[D6 _ _ (by omega)];exact b1
     many:=by rw[D6 _ _ (by omega)];exact b2
     ends:=by rw[D0 _ _ (by omega),c0 _ (by omega)];exact k1
     tm:=if_pos rfl
     tk:=by rw[if_neg (by omega),if_neg (by omega),if_pos rfl]
     tc:=by rw[if_neg (by omega),if_neg (by omega),if_neg (by omega),if_pos rfl]
     te:=by rw[if_neg (by omega),if_neg (by omega),if_neg (by omega),if_neg (by omega),if_pos rfl]
     lm:=⟨by omega,by show _<C.next+1;omega⟩
     lk:=⟨Nat.le_refl _,by show _<C.next+1;omega⟩
     lc:=⟨by omega,by show _<C.next+1;omega⟩
     le:=⟨by omega,by show _<C.next+1;omega⟩
     fl:=by show C.floor≤H.next;omega }
 ·refine⟨fun p hp=>(by cases hp),fun k h1 h4=>?_⟩
  have:cntN (s0N l) k=0:=by unfold cntN;(repeat' split) <;> rfl
  rw[if_pos this]
  rfl
 ·have hii:i=H.next+1+1+1∨i=h4.next∨i=C.next:=by simpa using hi
  refine⟨by show i<C.next+1;omega,?_⟩
  show 11≤(if i=H.next+1+1 then 0 else if i=A.next+1 then 1 else if i=H.next then 8 else if i=H.next+1 then 9 else if i=B.next then 10 else 11)
  rw[if_neg (by omega),if_neg (by omega),if_neg (by omega),if_neg (by omega),if_neg (by omega)]
  exact Nat.le_refl _
 ·rw[D6 _ _ (by omega)];exact b4
 ·rw[D0 _ _ (by omega)];exact c6
 ·rw[D6 _ _ (by omega)];exact b0 i hi
end
noncomputable def XB16:Code:=inB (J81 Tryz.f22 1)
theorem Out2.mono {a:Nat} {H H':SHeap} {cs:List Value} {e p:Int} (h:Out2 a H cs e p) (h0:H'.get a=H.get a) (h1:H'.get (a+1)=H.get (a+1)):Out2 a H' cs e p:=⟨h0.trans h.1,h1.trans h.2⟩
section
variable {N:Nat} {call:J0r}
theorem J4J {a:Nat} {H:SHeap} {cs:List Value} {e p:Int} (h:Out2 a H cs e p) (hl:cs.length=8) (ha:a+1<H.next) (hf:H.floor≤a) {cs':List Value} (hl':cs'.length=8) (ho':cs'.all one=true) {e' p':Int} :
  ∃ H',J0K Tryz.prog H 27 (qP a 0) (.agg cs'.toArray)=some (H.put a (.row cs' 27 false false))∧J0K Tryz.prog (H.put a (.row cs' 27 false false)) 32 (qP (a+1) 0) (J2k e' p')=some H' ∧
   Out2 a H' cs' e' p'∧H'.next=H.next∧H'.floor=H.floor∧∀ i,i≠a→i≠a+1→H'.get i=H.get i:=by
 have s1:=stW (k:=8) sz30 h.1 hl hl' ho' hf
 have hb:(H.put a (.row cs' 27 false false)).get (a+1)=.row [iv e,iv p] 32 false false:=by rw[J05 (by omega) (by omega)];exact h.2
 have s2:=stW (t:=32) (k:=2) sz33 (vs:=[iv e',iv p']) hb rfl rfl rfl (by show H.floor≤a+1;omega)
 refine⟨_,s1,s2,⟨?_,J0b rfl (by show a+1<H.next;omega)⟩,rfl,rfl,fun i hi hi'=>?_⟩
 ·rw[J05 (by show a+1<H.next;omega) (by omega)]
  exact J0b rfl (by omega)
 ·rw[J05 (by show a+1<H.next;omega) (by omega),J05 (by omega) (by omega)]
theorem Jc2 {at_ a fl lo m k c e r n:Nat} {nm:ByteArray} {E:List Int} {F:List Nat} {er:Nat→Int} {st:Nat→StN} {T:Tr} {H:SHeap} {K:Kont} {fs:List Value}
  (t2:T.get 2=qP a 0) (t3:T.get 3=qP (a+1) 0) (t7:T.get 7=qS fl 3 3) (t44:T.get 44=iv at_)
  (hN:3<N) (hp:MkE H lo m k c e r n nm E F (st 0)) (ha:a+1<lo) (hlo:lo≤H.next) (hout:Out2 a H zPc 0 0) (hfa:H.floor≤a) (hfl:H.get fl=.row fs 94 false false) (hFl:fl∈F)
  (hlook:∀ i,i<3→∀ H1,MkE H1 lo m k c e r n nm E F (st i)→J2W H H1 lo F→(∀ j,j<i→er j=0)→∃ fid first cap H2,fs[i]?=some (.func (.func fid) first cap)∧call fid (first.toList++[iv at_]++cap.toList) H1=some (iv (er i),H2)∧J2W H1 H2 lo F∧(er i=0→MkE H2 lo m k c e r n nm E F (st (i+1))))
  (hbad:∀ i,i<3→er i≠0→(∀ j,j<i→er j=0)→∀ T' H',T'.get 2=qP a 0→T'.get 3=qP (a+1) 0→Out2 a H' zPc (er i) at_→H.next≤H'.next→H'.floor=H.floor→(∀ i,i<a→H'.get i=H.get i)→K.ap Tryz.prog call N .ret ⟨T',H'⟩)
  (hgood:(∀ j,j<3→er j=0)→∀ T' H',(∀ t,t≤7∨(42≤t∧t≤44)→T'.get t=T.get t)→MkE H' lo m k c e r n nm E F (st 3)→J2W H H' lo F→K.ap Tryz.prog call N .normal ⟨T',H'⟩) :
  WK Tryz.prog call N XB16 ⟨T,H⟩ K:=by
 show WK _ _ _ (.seq _ (.seq _ (.block 2 (.loop (.seq _ (.seq _ (.seq (.block 3 _) _))))))) _ _
 simp only[evC,↓reduceIte,Nat.reduceEqDiff,reduceCtorEq,↓evP,t7,t44,Jj3]
 refine WK.loop (fun i s'=>s'.T.get 47=qS fl 3 3∧s'.T.get 48=iv 3∧s'.T.get 49=iv i∧s'.T.get 8=iv at_∧i≤3∧(∀ t,t≤7∨(42≤t∧t≤44)→s'.T.get t=T.get t)∧MkE s'.h lo m k c e r n nm E F (st i)∧J2W H s'.h lo F∧∀ j,j<i→er j=0) 3 hN ?_ ?_
 ·refine⟨by simp only[evC,↓reduceIte,Nat.reduceEqDiff,reduceCtorEq,↓evP,rpC,Nat.reduceAdd,Nat.reduceLT],by simp only[evC,↓reduceIte,Nat.reduceEqDiff,reduceCtorEq,↓evP,rpC,Nat.reduceAdd,Nat.reduceLT];rfl,by simp only[evC,↓reduceIte,Nat.reduceEqDiff,reduceCtorEq,↓evP,rpC,Nat.reduceAdd,Nat.reduceLT];rfl,by simp only[evC,↓reduceIte,Nat.reduceEqDiff,reduceCtorEq,↓evP,rpC,Nat.reduceAdd,Nat.reduceLT],by omega,fun t ht=>?_,hp,⟨fun _ _=>rfl,Nat.le_refl _,rfl⟩,fun j hj=>by omega⟩
  simp only[Tr.get_put,Option.some.injEq]
  repeat rw[if_neg (by omega)]
 ·rintro i ⟨T1,H1⟩ hi ⟨t47,t48,t49,t8,hi3,hkeep,hp1,haf,hz⟩
  simp only at t47 t48 t49 t8 hkeep hp1 haf
  have t2':T1.get 2=qP a 0:=(hkeep 2 (by omega)).trans t2
  have t3':T1.get 3=qP (a+1) 0:=(hkeep 3 (by omega)).trans t3
  by_cases hlt:i<3
  ·have c1:decide ((i:Int)<3)=true:=by simp;omega
   obtain⟨fid,first,cap,H2,hfi,hcall,haf2,hmk⟩:=hlook i hlt H1 hp1 haf hz
   have hfl1:H1.get fl=.row fs 94 false false:=(haf.1 fl (.inr hFl)).trans hfl
   have lf:ld1 i (H1.get fl)=some (.func (.func fid) first cap):=by rw[hfl1];exact hfi
   have hix:=Jj0 (h:=H1) (id:=fl) (c:=3) hlt
   cases d:(er i != 0) with
   | true=>
    have e0:er i≠0:=by simpa using d
    have n2:H.next≤H2.next:=Nat.le_trans haf.2.1 haf2.2.1
    have f2:H2.floor=H.floor:=haf2.2.2.trans haf.2.2
    have o2:∀ i,i<lo→H2.get i=H.get i:=fun i hi=>(haf2.1 i (.inl hi)).trans (haf.1 i (.inl hi))
    have hout2:Out2 a H2 zPc 0 0:=hout.mono (o2 a (by omega)) (o2 (a+1) ha)
    obtain⟨H',s1,s2,r1,r2,r3,r4⟩:=J4J hout2 rfl (by omega) (by omega) (cs':=zPc) rfl rfl (e':=er i) (p':=at_)
    simp only[evC,seval,↓evP,t47,t48,t49,t8,t2',t3',c1,hix,Jdi,lf,List.toList_toArray,hcall,d,J28,J4G,s1,s2]
    refine hbad i hlt e0 hz _ _ ?_ ?_ r1 (by omega) (r3.trans f2) fun j hj=>(r4 j (by omega) (by omega)).trans (o2 j (by omega))
    ·simp only[evC,seval,↓evP,rpC,t2']
    ·simp only[evC,seval,↓evP,rpC,t3']
   | false=>
    have e0:er i=0:=by simpa using d
    have w1:IntKind.i64.wrap ((i:Int)+1)=((i+1:Nat):Int):=J0s (by omega) (by omega)
    simp only[evC,seval,↓evP,t47,t48,t49,t8,t2',t3',c1,hix,Jdi,lf,List.toList_toArray,hcall,d,w1]
    refine⟨hlt,by omega,fun t ht=>?_,hmk e0,⟨fun i hi=>(haf2.1 i hi).trans (haf.1 i hi),Nat.le_trans haf.2.1 haf2.2.1,haf2.2.2.trans haf.2.2⟩,fun j hj=>?_⟩
    ·repeat rw[if_neg (by omega)]
     exact hkeep t ht
    ·rcases Nat.lt_or_ge j i with h1 | h1
     ·exact hz j h1
     ·have:j=i:=by omega
      subst this
      exact e0
  ·have c1:decide ((i:Int)<3)=false:=by simp;omega
   have:i=3:=by omega
   subst this
   simp only[evC,seval,↓evP,t47,t48,t49,c1]
   refine hgood hz _ _ (fun t ht=>?_) hp1 haf
   simp only[Tr.get_put,Option.some.injEq]
   repeat rw[if_neg (by omega)]
   exact hkeep t ht
end
theorem JeL (k:Int) (h:SHeap) (hk:1≤k∧k≤54):L0 72 [iv k] h=some (iv (J0j k),h):=J0I rfl rfl rfl rfl (J1I J8L hk)
theorem JdA (k:Int) (h:SHeap) (hk:1≤k∧k≤54):L0 74 [iv k] h=some (iv (J1O k),h):=J0I rfl rfl rfl rfl (J1I Jdc hk)
theorem JfH (k:Int) (h:SHeap) (hk:1≤k∧k≤54):L0 75 [iv k] h=some (.bool (J0E k),h):=J0I rfl rfl rfl rfl (J1I J9M hk)
theorem J7P {at_:Nat} {end_:Int} {x:RowN} {s:StN} (hx:s.rows[at_]?=some x):∃ n,(J0W at_ end_ x s).rows[at_]?=some { x with n:=n }:=by
 rw[J8O]
 split
 ·exact⟨x.n,hx⟩
 ·exact⟨_,J4g hx⟩
def erN (at_:Nat) (end_:Int) (x x1 x2:RowN) (s:StN):Nat→Int
 | 0=>J25 x s
 | 1=>J1v at_ x1 (J0W at_ end_ x s)
 | _=>evE x2 (J0D at_ x1 (J0W at_ end_ x s))
def stN (at_:Nat) (end_:Int) (x x1 x2:RowN) (s:StN):Nat→StN
 | 0=>s
 | 1=>J0W at_ end_ x s
 | 2=>J0D at_ x1 (J0W at_ end_ x s)
 | _=>evS at_ x2 (J0D at_ x1 (J0W at_ end_ x s))
theorem Jgq {E:List Int} {at_:Nat} {end_:Int} {x x1 x2:RowN} {s:StN} (hx:s.rows[at_]?=some x) (hE:E[at_]?=some end_) (h1:(J0W at_ end_ x s).rows[at_]?=some x1) (h2:J1v at_ x1 (J0W at_ end_ x s)=0→(J0D at_ x1 (J0W at_ end_ x s)).rows[at_]?=some x2) :
  (∀ i,i<3→erN at_ end_ x x1 x2 s i≠0→(∀ j,j<i→erN at_ end_ x x1 x2 s j=0)→J31 E at_ s=(erN at_ end_ x x1 x2 s i,s))∧((∀ j,j<3→erN at_ end_ x x1 x2 s j=0)→J31 E at_ s=(0,stN at_ end_ x x1 x2 s 3)):=by
 have hEx:(E[at_]?).getD 0=end_:=by rw[hE];rfl
 constructor
 ·intro i hi he hz
  unfold J31
  rw[hx]
  simp only[hEx]
  match i,hi,he,hz with
  | 0,_,he,_=>
   have he:J25 x s≠0:=he
   rw[if_pos he]
   rfl
  | 1,_,he,hz=>
   have h0:J25 x s=0:=hz 0 (by omega)
   have he:J1v at_ x1 (J0W at_ end_ x s)≠0:=he
   rw[if_neg (by simpa using h0),h1]
   simp only
   rw[if_pos he]
   rfl
  | 2,_,he,hz=>
   have h0:J25 x s=0:=hz 0 (by omega)
   have hc:J1v at_ x1 (J0W at_ end_ x s)=0:=hz 1 (by omega)
   have he:evE x2 (J0D at_ x1 (J0W at_ end_ x s))≠0:=he
   rw[if_neg (by simpa using h0),h1]
   simp only
   rw[if_neg (by simpa using hc),h2 hc]
   simp only
   rw[if_pos he]
   rfl
 ·intro hz
  have h0:J25 x s=0:=hz 0 (by omega)
  have hc:J1v at_ x1 (J0W at_ end_ x s)=0:=hz 1 (by omega)
  have he:evE x2 (J0D at_ x1 (J0W at_ end_ x s))=0:=hz 2 (by omega)
  unfold J31
  rw[hx]
  simp only[hEx]
  rw[if_neg (by simpa using h0),h1]
  simp only
  rw[if_neg (by simpa using hc),h2 hc]
  simp only
  rw[if_neg (by simpa using he)]
  rfl
section
variable {n lo m k c e r L:Nat} {h:SHeap} {nm:ByteArray} {E:List Int} {F:List Nat} {s:StN}
theorem Jha {at_:Nat} {end_:Int} {x:RowN} (hp:MkE h lo m k c e r L nm E F s) (hx:s.rows[at_]?=some x) (hkind:1≤x.kind∧x.kind≤54) (hL:L<1099511627776) (he:0≤end_) (hn:0<n) :
  ∃ h',J0T n 52 [qP m 0,iv at_,iv end_] h=some (iv (J25 x s),h')∧(J2W h h' lo F∧(J25 x s=0→MkE h' lo m k c e r L nm E F (J0W at_ end_ x s))):=by
 obtain⟨n,rfl⟩:∃ j,n=j+1:=⟨n-1,by omega⟩
 exact k_wr (J13 ⟨rfl,rfl,rfl⟩) (Jcy (J1z n).2 hp hx hkind hL he (fun k h' hk=>J2Z (J1M (JeL k h' hk))) fun k h'=>J2Z (Jf8 k h'))
theorem JfZ {at_:Nat} {x:RowN} (hp:MkE h lo m k c e r L nm E F s) (hx:s.rows[at_]?=some x) (hkind:1≤x.kind∧x.kind≤54) (hL:L<1099511627776) (hn:0<n) :
  ∃ h',J0T n 53 [qP m 0,iv at_] h=some (iv (J1v at_ x s),h')∧(J2W h h' lo F∧(J1v at_ x s=0→MkE h' lo m k c e r L nm E F (J0D at_ x s))):=by
 obtain⟨n,rfl⟩:∃ j,n=j+1:=⟨n-1,by omega⟩
 exact k_wr (J13 ⟨rfl,rfl,rfl⟩) (JcI (J1z n).2 hp hx hkind hL fun k h' hk=>J2Z (J1M (JdA k h' hk)))
theorem Jfk {at_:Nat} {x:RowN} (hp:MkE h lo m k c e r L nm E F s) (hx:s.rows[at_]?=some x) (hkind:1≤x.kind∧x.kind≤54) (hL:L<1099511627776) (hxn:J0E x.kind=true→x.kind≠10→0≤x.n∧x.n<s.on.length) (hn:0<n) :
  ∃ h',J0T n 54 [qP m 0,iv at_] h=some (iv (evE x s),h')∧(J2W h h' lo F∧(evE x s=0→MkE h' lo m k c e r L nm E F (evS at_ x s))):=by
 obtain⟨n,rfl⟩:∃ j,n=j+1:=⟨n-1,by omega⟩
 exact k_wr (J13 ⟨rfl,rfl,rfl⟩) (Jc9 (J1z n).2 hp hx hkind hL hxn fun k h' hk=>J2Z (J1M (JfH k h' hk)))
theorem JgR {at_ c5 c6:Nat} {end_:Int} {x:RowN} (hp:MkE h lo m k c e r L nm E F s) (hx:s.rows[at_]?=some x) (hkind:1≤x.kind∧x.kind≤54) (hL:L<1099511627776) (he:0≤end_) (hE:E[at_]?=some end_) (hlE:L=E.length)
  (h5:h.get c5=.row [qP m 0] 86 false false) (h6:h.get c6=.row [qS e L L] 25 false false) (hn:1<n) :
  ∃ h',J0T n 51 [iv at_,qP c5 0,qP c6 0] h=some (iv (J25 x s),h')∧(J2W h h' lo F∧(J25 x s=0→MkE h' lo m k c e r L nm E F (J0W at_ end_ x s))):=by
 obtain⟨n,rfl⟩:∃ j,n=j+1:=⟨n-1,by omega⟩
 obtain⟨tag,vq,vv,vt,vu,vo,es,hp',_⟩:=id hp
 obtain⟨h',hc,ha,hm⟩:=Jha (n:=n) (at_:=at_) hp hx hkind hL he (by omega)
 exact k_wr (J13 ⟨rfl,rfl,rfl⟩) (JbK (J1z n).2 h5 h6 hp'.ends hE hlE ⟨h',hc,ha.2.2,ha,hm⟩)
theorem Jh3 {l:List RowN} {at_ c5 c6 fl:Nat} {x x1:RowN} {H:SHeap} (ht:J2c l) (hL:l.length<900000000) (hat:at_<l.length) (hi:InvR l at_ s) (hx:s.rows[at_]?=some x) (h1:(J0W at_ (endN l at_) x s).rows[at_]?=some x1) (hcl:CellsP H m e c5 c6 fl l.length (J0o l)) (h5:c5∈F) (h6:c6∈F) (hfl:fl∈F) (hn:3<n) :
  ∃ x2,(J1v at_ x1 (J0W at_ (endN l at_) x s)=0→(J0D at_ x1 (J0W at_ (endN l at_) x s)).rows[at_]?=some x2)∧∀ i,i<3→∀ H1,MkE H1 lo m k c e r l.length nm (J0o l) F (stN at_ (endN l at_) x x1 x2 s i)→J2W H H1 lo F→(∀ j,j<i→erN at_ (endN l at_) x x1 x2 s j=0) →
   ∃ fid first cap H2,([.func (.func 51) #[] #[qP c5 0,qP c6 0],.func (.func 53) #[qP m 0] #[],.func (.func 54) #[qP m 0] #[]]:List Value)[i]?=some (.func (.func fid) first cap) ∧
    J0T n fid (first.toList++[iv at_]++cap.toList) H1=some (iv (erN at_ (endN l at_) x x1 x2 s i),H2)∧J2W H1 H2 lo F∧(erN at_ (endN l at_) x x1 x2 s i=0→MkE H2 lo m k c e r l.length nm (J0o l) F (stN at_ (endN l at_) x x1 x2 s (i+1))):=by
 have hkind:=J68 ht hi x (List.mem_of_getElem? hx)
 obtain⟨n1,hx1⟩:=J7P (end_:=endN l at_) hx
 rw[h1] at hx1
 cases hx1
 obtain⟨x2,hx2⟩:∃ x2,J1v at_ { x with n:=n1 } (J0W at_ (endN l at_) x s)=0→(J0D at_ { x with n:=n1 } (J0W at_ (endN l at_) x s)).rows[at_]?=some x2∧(∃ n,x2={ x with n:=n })∧(x2.kind≠10→J0E x2.kind=true→WfS (J0D at_ { x with n:=n1 } (J0W at_ (endN l at_) x s))→0≤x2.n∧x2.n<(J0D at_ { x with n:=n1 } (J0W at_ (endN l at_) x s)).on.length):=by
  by_cases hc:J1v at_ { x with n:=n1 } (J0W at_ (endN l at_) x s)=0
  ·obtain⟨n2,a1,a2,a3,a4,a5,a6⟩:=J6j h1 hc
   refine⟨_,fun _=>⟨a1,⟨n2,rfl⟩,fun h10 hev hw=>?_⟩⟩
   have hd:=J6v (k:=x.kind) hev h10
   rcases a6 with⟨b1,_⟩ | ⟨t,b1,b2,b3,_⟩
   ·have b1:J1O x.kind=0:=b1
    rw[hd.1] at b1
    cases b1
   ·have b2:t.kind=J1O x.kind:=b2
    rw[hd.1] at b2
    rw[← a5] at b1
    obtain⟨_,_,q1,q2,_⟩:=hw.th t b1
    rw[b2] at q2
    have q3:t.num<((J0D at_ { x with n:=n1 } (J0W at_ (endN l at_) x s)).queues.length:Int):=q2
    rw[← hw.o] at q3
    simp only
    rw[b3]
    exact⟨q1,q3⟩
  ·exact⟨x,fun h=>absurd h hc⟩
 refine⟨x2,fun h=>(hx2 h).1,?_⟩
 intro i hi3 H1 hp haf hz
 have hEat:(J0o l)[at_]?=some (endN l at_:Int):=J2B hat
 match i,hi3 with
 | 0,_=>
  have g5:H1.get c5=_:=(haf.1 c5 (.inr h5)).trans hcl.h5
  have g6:H1.get c6=_:=(haf.1 c6 (.inr h6)).trans hcl.h6
  obtain⟨H2,q1,q2,q3⟩:=JgR (n:=n) (s:=s) (at_:=at_) hp hx hkind (by omega) (by omega) hEat (by rw[J39]) g5 g6 (by omega)
  exact⟨_,#[],#[qP c5 0,qP c6 0],H2,rfl,q1,q2,q3⟩
 | 1,_=>
  obtain⟨H2,q1,q2,q3⟩:=JfZ (n:=n) (s:=J0W at_ (endN l at_) x s) (at_:=at_) hp h1 hkind (by omega) (by omega)
  exact⟨_,#[qP m 0],#[],H2,rfl,q1,q2,q3⟩
 | 2,_=>
  have hc:J1v at_ { x with n:=n1 } (J0W at_ (endN l at_) x s)=0:=hz 1 (by omega)
  obtain⟨r1,⟨n2,r2⟩,r3⟩:=hx2 hc
  have hw:WfS (J0D at_ { x with n:=n1 } (J0W at_ (endN l at_) x s)):=by
   obtain⟨_,_,_,_,_,_,_,_,_,hw,_⟩:=id hp
   exact hw
  obtain⟨H2,q1,q2,q3⟩:=Jfk (n:=n) (s:=J0D at_ { x with n:=n1 } (J0W at_ (endN l at_) x s)) (at_:=at_) hp r1 (by rw[r2];exact hkind) (by omega) (fun a b=>r3 b a hw) (by omega)
  exact⟨_,#[qP m 0],#[],H2,rfl,q1,q2,q3⟩
end
theorem Jcp {h:SHeap} {r:Nat} {rows:List RowN} {lo hi:Nat} (hg:h.get r=.row (rows.flatMap J0e) 60 true false) (hr:r<h.next) (hlh:lo≤hi) (hhi:hi≤rows.length) :
  ∃ v',J2M Tryz.prog h 22 (qS r rows.length unk) (some (iv lo)) (some (iv hi)) none=some v'∧J0l h v' ((rows.drop lo).take (hi-lo)):=by
 have hl:((rows.drop lo).take (hi-lo)).length=hi-lo:=by rw[List.length_take,List.length_drop];omega
 refine⟨.slice (some ⟨r,lo*5,none⟩) (hi-lo) unk,?_,?_⟩
 ·simp only[J2M,Tryz.underlying22,sz46,J3a,if_true]
  rw[if_pos (by omega)]
  simp only[Int.toNat_natCast]
  rw[if_pos (by omega)]
  simp only[Int.toNat_natCast]
  by_cases h0:lo=0
  ·subst h0
   rw[if_pos rfl]
   simp
  ·rw[if_neg h0,hg]
   simp only[sz46,if_true,Nat.zero_add]
 ·refine⟨some ⟨r,lo*5,none⟩,unk,by rw[hl],.inr ⟨r,lo*5,_,_,_,_,rfl,hg,hr,fun k x hk=>?_⟩⟩
  have hk1:=(List.getElem?_eq_some_iff.1 hk).1
  rw[List.getElem?_take_of_lt (by omega),List.getElem?_drop] at hk
  rw[show lo*5+k*5=(lo+k)*5 by omega]
  exact J2Y hk
section
variable {n lo m k c e r L:Nat} {h:SHeap} {nm:ByteArray} {E:List Int} {F:List Nat} {s:StN}
theorem Jdw {pb eb sb row:Nat} {rows:List RowN} {E rules sums:List Int} (hL:Laying rows E rules) (hc:CntAt h pb eb sb rows E sums) (hs:Sums sums) (hsl:sums.length=rules.length) (hfl:h.floor≤h.next) (hrow:row<rows.length) (hn:rows.length+8<n) :
  J0T n 115 [iv row,qP pb 0,qP eb 0,qP sb 0] h=some (iv (cAt rows E sums row),h):=by
 obtain⟨n,rfl⟩:∃ j,n=j+1:=⟨n-1,by omega⟩
 obtain⟨q,q1,q2,q3,q4⟩:=hL.end hrow
 have hc':cAt rows E sums row=J2j sums ((rows.drop row).take (q-row)) 0:=by unfold cAt;rw[q1];rfl
 rw[hc']
 exact J4r (J13 ⟨rfl,rfl,rfl⟩) rfl (Jbj (J1z n).2 hc hs hfl q1 q2 q3 (by have:=hL.len;omega) (by omega)
  (fun x hx h22=>by rw[hsl];exact hL.calls x (List.mem_of_mem_drop (List.mem_of_mem_take hx)) h22) fun a b h' hb ha=>J2Z (Jdp h' hb ha))
theorem Jg7 {rows:List RowN} {E rules:List Int} (hL:Laying rows E rules) {v0 vr v2 v3 v4 vu v6 v7:Value} {e ce:Nat} {ge:Bool} (hone:[v0,vr,v2,v3,v4,vu,v6,v7].all one=true) (hfl:h.floor≤h.next) (hn:rows.length+rules.length+12<n)
  (hsl:∀ (lo hi:Nat) h',(∀ i,i<h.next→h'.get i=h.get i)→h.next≤h'.next→lo≤hi→hi≤rows.length→∃ v',J2M Tryz.prog h' 22 vr (some (iv lo)) (some (iv hi)) none=some v'∧J0l h' v' ((rows.drop lo).take (hi-lo)))
  {lu:Nat} (hu:J1S lu h vu rules) (he:h.get e=.row (ints E) 3 ge false) (hel:e<h.next) :
  ∃ h',J0T n 76 [.agg #[v0,vr,v2,v3,v4,vu,v6,v7],qS e E.length ce] h=some (.func (.func 115) #[] #[qP h.next 0,qP (h.next+1) 0,qP (h.next+3) 0],h') ∧
   (CntAt h' h.next (h.next+1) (h.next+3) rows E (J42 rows E rules)∧h.next≤h'.next∧h'.floor=h.floor∧∀ i,i<h.next→h'.get i=h.get i):=by
 obtain⟨n,rfl⟩:∃ j,n=j+1:=⟨n-1,by omega⟩
 refine Jc0 (J13 ⟨rfl,rfl,rfl⟩) rfl (Jbn (J1z n).2 hL hone hfl (by omega) (by omega) hsl (fun h'=>hu.len) ?_ ?_ he hel ?_)
 ·obtain⟨_,a,c,h1,_⟩:=hu
  exact⟨a,c,h1⟩
 ·intro h' hold i ru hi
  obtain⟨id,p,h1,h2,h3⟩:=J1S.get hu hi
  exact⟨id,p,h1,by rw[hold id h2];exact h3⟩
 ·intro pb eb sb row sums h' hc hsl' hs hfl' hrow
  exact Jdw hL hc hs hsl' hfl' hrow (by omega)
theorem JgH {tag:Nat→Nat} {vq vv vt vu vo:Value} {es:List (Value × Value)} {l:List RowN} (hp:MkP h lo m k c e r l.length nm (J0o l) tag vq vv vt vu vo es s) (ht:J2c l) (hlen:l.length<900000000) (hi:InvR l l.length s) (hfl:h.floor≤h.next) (hn:l.length+100<n) :
  J0T n 55 [qP m 0,qS e l.length l.length] h=some (iv (J2K s.rows (J0o l) s.rules),h):=by
 obtain⟨n,rfl⟩:∃ j,n=j+1:=⟨n-1,by omega⟩
 have hL:=J8n ht (by omega) hi
 have hnu:=hi.wf.u
 have hrl:=hi.len
 have hpl:=hp.pol.len
 refine J4r (J13 ⟨rfl,rfl,rfl⟩) rfl (JbC (pb:=h.next) (eb:=h.next+1) (sb:=h.next+3) hp hL hfl (by omega) (J68 ht hi) (Jfw ht hi) ?_ (fun k h' hk=>J2Z (J1M (JfH k h' hk))) (fun a b h' hb ha=>J2Z (Jdp h' hb ha)) ?_)
 ·have hE:(J0o l).length=l.length:=J39
  have hs:∀ (lo hi:Nat) (h':SHeap),(∀ i,i<h.next→h'.get i=h.get i)→h.next≤h'.next→lo≤hi→hi≤s.rows.length→∃ v',J2M Tryz.prog h' 22 (qS r l.length unk) (some (iv lo)) (some (iv hi)) none=some v'∧J0l h' v' ((s.rows.drop lo).take (hi-lo)):=fun lo hi h' ho hx a b=>by
   have:=Jcp (h:=h') (r:=r) (rows:=s.rows) (by rw[ho r hp.pol.lr.2];exact hp.pol.rows) (by have:=hp.pol.lr.2;omega) a b
   rw[hpl] at this
   exact this
  have:=Jg7 (n:=n) (h:=h) (ce:=l.length) (v0:=.string nm) (v2:=vq) (v3:=vv) (v4:=vt) (v6:=vo) (v7:=iv s.miss) (vr:=qS r l.length unk) hL ?_ hfl (by omega) hs (J1S.weak (hp.pol.u.cells (by rw[J1h,Nat.mul_one])) (Nat.zero_le _)) hp.ends hp.le.2
  ·rw[hE] at this
   exact this
  ·have q1:=(hp.pol.q.cells (w:=2) (J2J _)).one
   have q2:=(hp.pol.v.cells (w:=1) (by rw[J4W,Nat.mul_one])).one
   have q3:=(hp.pol.t.cells (w:=1) (by rw[J4W,Nat.mul_one])).one
   have q4:=(hp.pol.u.cells (w:=1) (by rw[J1h,Nat.mul_one])).one
   have q5:=(hp.pol.o.cells (w:=1) (by rw[J1h,Nat.mul_one])).one
   simp only[List.all_cons,List.all_nil,q1,q2,q3,q4,q5,J5J,J5K,Bool.and_self]
   rfl
 ·intro row h' hc hfl' hrow
  exact Jdw hL hc (J6d).1 (J6d).2 hfl' hrow (by omega)
end
theorem J2W.trans {h H H':SHeap} {lo:Nat} {F:List Nat} (a:J2W h H lo F) (b:J2W H H' lo F):J2W h H' lo F:=⟨fun i hi=>(b.1 i hi).trans (a.1 i hi),Nat.le_trans a.2.1 b.2.1,b.2.2.trans a.2.2⟩
section
variable {n N:Nat}
theorem Jbf {l:List RowN} {v:Value} {T:Tr} {H:SHeap} {K:Kont} {a fl lo m k c e r c5 c6:Nat} {nm:ByteArray} {F:List Nat} (ht:J2c l) (hL:l.length<900000000) (hn:3<n) (hN:l.length+3<N)
  (t0:T.get 0=v) (t2:T.get 2=qP a 0) (t3:T.get 3=qP (a+1) 0) (t7:T.get 7=qS fl 3 3) (hv:J0l H v l)
  (hp:MkE H lo m k c e r l.length nm (J0o l) F (s0N l)) (hcl:CellsP H m e c5 c6 fl l.length (J0o l)) (h5:c5∈F) (h6:c6∈F) (hfl:fl∈F) (ha:a+1<lo) (hlo:lo≤H.next) (hout:Out2 a H zPc 0 0) (hfa:H.floor≤a)
  (hbad:(goN (J0o l) l.length 0 (s0N l)).1≠0→∀ T' H',T'.get 2=qP a 0→T'.get 3=qP (a+1) 0→Out2 a H' zPc (goN (J0o l) l.length 0 (s0N l)).1 (goN (J0o l) l.length 0 (s0N l)).2.1→H.next≤H'.next→H'.floor=H.floor→(∀ i,i<a→H'.get i=H.get i)→K.ap Tryz.prog (J0T n) N .ret ⟨T',H'⟩)
  (hgood:(goN (J0o l) l.length 0 (s0N l)).1=0→∀ T' H',(∀ t,t≤7→T'.get t=T.get t)→MkE H' lo m k c e r l.length nm (J0o l) F (goN (J0o l) l.length 0 (s0N l)).2.2→InvR l l.length (goN (J0o l) l.length 0 (s0N l)).2.2→J2W H H' lo F→WK Tryz.prog (J0T n) N PR19 ⟨T',H'⟩ K) :
  WK Tryz.prog (J0T n) N PR8 ⟨T,H⟩ K:=by
 show WK _ _ _ (.seq (.seq _ (.block 0 (.loop (.seq _ (.seq _ (.seq (.block 1 XB16) _)))))) PR19) _ _
 have hlen:=fun h'=>hv.len (h':=h')
 simp only[evC,seval,↓evP,t0,hlen]
 refine WK.loop (fun i s'=>s'.T.get 43=iv l.length∧s'.T.get 44=iv i∧i≤l.length∧(∀ t,t≤7→s'.T.get t=T.get t)∧J2W H s'.h lo F∧∃ s,MkE s'.h lo m k c e r l.length nm (J0o l) F s∧InvR l i s∧goN (J0o l) (l.length-i) i s=goN (J0o l) l.length 0 (s0N l)) l.length (by omega) ?_ ?_
 ·refine⟨by simp only[evC,↓reduceIte,Nat.reduceEqDiff,reduceCtorEq,↓evP,rpC,Nat.reduceAdd,Nat.reduceLT],by simp only[evC,↓reduceIte,Nat.reduceEqDiff,reduceCtorEq,↓evP,rpC,Nat.reduceAdd,Nat.reduceLT];rfl,by omega,fun t ht=>?_,⟨fun _ _=>rfl,Nat.le_refl _,rfl⟩,s0N l,hp,inv0 l,rfl⟩
  simp only[Tr.get_put,Option.some.injEq]
  repeat rw[if_neg (by omega)]
 ·rintro i ⟨T1,H1⟩ hi ⟨t43,t44,hil,hkeep,haf,s,hp1,hin,hgo⟩
  simp only at t43 t44 hkeep haf hp1
  by_cases hlt:i<l.length
  ·have c1:decide ((i:Int)<(l.length:Int))=true:=by simp;omega
   obtain⟨x,hx⟩:∃ x,s.rows[i]?=some x:=⟨_,List.getElem?_eq_getElem (by rw[hin.len];exact hlt)⟩
   obtain⟨n1,h1⟩:=J7P (end_:=endN l i) hx
   have hcl1:CellsP H1 m e c5 c6 fl l.length (J0o l):=⟨(haf.1 c5 (.inr h5)).trans hcl.h5,(haf.1 c6 (.inr h6)).trans hcl.h6,(haf.1 fl (.inr hfl)).trans hcl.hf⟩
   obtain⟨x2,hx2,hlook⟩:=Jh3 (n:=n) (lo:=lo) (k:=k) (c:=c) (r:=r) (nm:=nm) (F:=F) ht hL hlt hin hx h1 hcl1 h5 h6 hfl hn
   obtain⟨sb,sg⟩:=Jgq (E:=J0o l) hx (J2B hlt) h1 hx2
   have hr:l.length-i=(l.length-(i+1))+1:=by omega
   rw[hr] at hgo
   have hout1:Out2 a H1 zPc 0 0:=hout.mono (haf.1 a (.inl (by omega))) (haf.1 (a+1) (.inl ha))
   have hn1:=haf.2.1
   have hf1:=haf.2.2
   have w1:IntKind.i64.wrap ((i:Int)+1)=((i+1:Nat):Int):=J0s (by omega) (by omega)
   have hkp:∀ t,t≤44→(T1.put (some 45) (Value.bool true)).get t=T1.get t:=fun t ht=>by
    rw[Tr.get_put,if_neg (fun h=>by have h9:(45:Nat)=t:=Option.some.inj h;omega)]
   simp only[evC,seval,↓evP,t43,t44,c1]
   refine Jc2 (a:=a) (fl:=fl) (er:=erN i (endN l i) x { x with n:=n1 } x2 s) (st:=stN i (endN l i) x { x with n:=n1 } x2 s) (E:=J0o l) (F:=F) ((hkp 2 (by omega)).trans ((hkeep 2 (by omega)).trans t2)) ((hkp 3 (by omega)).trans ((hkeep 3 (by omega)).trans t3)) ((hkp 7 (by omega)).trans ((hkeep 7 (by omega)).trans t7)) ((hkp 44 (by omega)).trans t44) (by omega) hp1 ha (by omega) hout1 (by omega) hcl1.hf hfl hlook ?_ ?_
   ·intro j hj he hz T' H' g2 g3 ho hnx hfx hox
    have hst:=sb j hj he hz
    have hg:goN (J0o l) l.length 0 (s0N l)=(erN i (endN l i) x { x with n:=n1 } x2 s j,i,s):=by
     rw[← hgo]
     unfold goN
     rw[hst,if_pos he]
    simp only[evC,seval,↓evP]
    refine hbad (by rw[hg];exact he) T' H' g2 g3 (by rw[hg];exact ho) (by omega) (by omega) fun q hq=>(hox q hq).trans (haf.1 q (.inl (by omega)))
   ·intro hz T' H' hk' hp' haf'
    have hst:=sg hz
    have e0:(J31 (J0o l) i s).1=0:=by rw[hst]
    have hin':=J6b ht (J3T i) hlt hin e0
    rw[hst] at hin'
    have hg:goN (J0o l) (l.length-(i+1)) (i+1) (stN i (endN l i) x { x with n:=n1 } x2 s 3)=goN (J0o l) l.length 0 (s0N l):=by
     rw[← hgo]
     conv=>rhs;unfold goN
     rw[if_neg (by rw[e0];simp),hst]
    have u43:=(hk' 43 (by omega)).trans ((hkp 43 (by omega)).trans t43)
    have u44:=(hk' 44 (by omega)).trans ((hkp 44 (by omega)).trans t44)
    simp only[evC,seval,↓evP,u43,u44,w1]
    refine⟨hlt,by omega,fun t ht=>?_,haf.trans haf',_,hp',hin',hg⟩
    repeat rw[if_neg (by omega)]
    exact(hk' t (by omega)).trans ((hkp t (by omega)).trans (hkeep t ht))
  ·have c1:decide ((i:Int)<(l.length:Int))=false:=by simp;omega
   have:i=l.length:=by omega
   subst this
   have hg:goN (J0o l) l.length 0 (s0N l)=(0,l.length,s):=by
    rw[← hgo,Nat.sub_self]
    rfl
   simp only[evC,seval,↓evP,t43,t44,c1]
   refine hgood (by rw[hg]) _ _ (fun t ht=>?_) (by rw[hg];exact hp1) (by rw[hg];exact hin) haf
   simp only[Tr.get_put,Option.some.injEq]
   repeat rw[if_neg (by omega)]
   exact hkeep t ht
theorem MkP.polAt {h:SHeap} {lo m k c e r n:Nat} {nm:ByteArray} {E:List Int} {tag:Nat→Nat} {vq vv vt vu vo:Value} {es:List (Value × Value)} {s:StN} (hp:MkP h lo m k c e r n nm E tag vq vv vt vu vo es s) :
  J3x lo h (.agg #[.string nm,qS r n unk,vq,vv,vt,vu,vo,iv s.miss]) nm s:=by
 refine⟨_,vq,vv,vt,vu,vo,rfl,J3P.of ?_,hp.pol.q.cells (J2J _),hp.pol.v.cells (by simp[strs]),hp.pol.t.cells (by simp[strs]),hp.pol.u.cells (by rw[J1h,Nat.mul_one]),hp.pol.o.cells (by rw[J1h,Nat.mul_one])⟩
 have hl:=hp.pol.len
 subst hl
 exact J0p.row (ex:=[]) (by rw[List.append_nil];exact hp.pol.rows) hp.pol.lr (J0N _)
theorem J3x.weak {lo lo':Nat} {h:SHeap} {pv:Value} {nm:ByteArray} {s:StN} (hp:J3x lo h pv nm s) (hl:lo'≤lo):J3x lo' h pv nm s:=by
 obtain⟨vr,vq,vv,vt,vu,vo,h1,h2,h3,h4,h5,h6,h7⟩:=hp
 exact⟨vr,vq,vv,vt,vu,vo,h1,J3P.of (h2.2.weak hl),h3.weak hl,h4.weak hl,h5.weak hl,h6.weak hl,h7.weak hl⟩
def OwnS (lo:Nat) (h:SHeap) (pv:Value) (nm:ByteArray) (s:StN):Prop:=
 ∃ tag r vq vv vt vu vo,pv=.agg #[.string nm,qS r s.rows.length unk,vq,vv,vt,vu,vo,iv s.miss]∧PolS h lo tag r s.rows.length vq vv vt vu vo s
theorem SlAt.weak {h:SHeap} {lo lo':Nat} {tag:Nat→Nat} {j:Nat} {v:Value} {n:Nat} {cs:List Value} {ty:TypeId} (hs:SlAt h lo tag j v n cs ty) (hl:lo'≤lo):SlAt h lo' tag j v n cs ty:=by
 rcases hs with h1 | ⟨id,ex,h1,h2,h3,h4,h5⟩
 ·exact .inl h1
 ·exact .inr ⟨id,ex,h1,h2,by omega,h4,h5⟩
theorem PolS.weak {h:SHeap} {lo lo':Nat} {tag:Nat→Nat} {r n:Nat} {vq vv vt vu vo:Value} {s:StN} (hp:PolS h lo tag r n vq vv vt vu vo s) (hl:lo'≤lo):PolS h lo' tag r n vq vv vt vu vo s:=
 ⟨hp.rows,hp.len,hp.tr,⟨by have:=hp.lr.1;omega,hp.lr.2⟩,hp.q.weak hl,hp.v.weak hl,hp.t.weak hl,hp.u.weak hl,hp.o.weak hl⟩
theorem OwnS.weak {lo lo':Nat} {h:SHeap} {pv:Value} {nm:ByteArray} {s:StN} (hp:OwnS lo h pv nm s) (hl:lo'≤lo):OwnS lo' h pv nm s:=by
 obtain⟨tag,r,vq,vv,vt,vu,vo,h1,h2⟩:=hp
 exact⟨tag,r,vq,vv,vt,vu,vo,h1,h2.weak hl⟩
theorem OwnS.mono {lo:Nat} {h h':SHeap} {pv:Value} {nm:ByteArray} {s:StN} (hp:OwnS lo h pv nm s) (hn:h.next≤h'.next) (hg:∀ i,lo≤i→i<h.next→h'.get i=h.get i):OwnS lo h' pv nm s:=by
 obtain⟨tag,r,vq,vv,vt,vu,vo,h1,h2⟩:=hp
 exact⟨tag,r,vq,vv,vt,vu,vo,h1,h2.mono hn (fun _ _=>rfl) fun i a b _ _=>hg i a b⟩
theorem OwnS.pol {lo:Nat} {h:SHeap} {pv:Value} {nm:ByteArray} {s:StN} (hp:OwnS lo h pv nm s):J3x lo h pv nm s:=by
 obtain⟨tag,r,vq,vv,vt,vu,vo,h1,h2⟩:=hp
 exact⟨_,vq,vv,vt,vu,vo,h1,J3P.of (J0p.row (ex:=[]) (by rw[List.append_nil];exact h2.rows) h2.lr (J0N _)),h2.q.cells (J2J _),h2.v.cells (by simp[strs]),h2.t.cells (by simp[strs]),h2.u.cells (by rw[J1h,Nat.mul_one]),h2.o.cells (by rw[J1h,Nat.mul_one])⟩
theorem MkP.own {h:SHeap} {lo m k c e r n:Nat} {nm:ByteArray} {E:List Int} {tag:Nat→Nat} {vq vv vt vu vo:Value} {es:List (Value × Value)} {s:StN} (hp:MkP h lo m k c e r n nm E tag vq vv vt vu vo es s) :
  OwnS lo h (.agg #[.string nm,qS r n unk,vq,vv,vt,vu,vo,iv s.miss]) nm s:=by
 have hl:=hp.pol.len
 subst hl
 exact⟨tag,r,vq,vv,vt,vu,vo,rfl,hp.pol⟩
theorem JbM {l:List RowN} {T:Tr} {H:SHeap} {K:Kont} {a lo m k c e r c5 c6:Nat} {nm:ByteArray} {F:List Nat} {s:StN} (ht:J2c l) (hL:l.length<900000000) (hn:l.length+100<n)
  (t2:T.get 2=qP a 0) (t3:T.get 3=qP (a+1) 0) (t5:T.get 5=qP c5 0) (t6:T.get 6=qP c6 0)
  (hp:MkE H lo m k c e r l.length nm (J0o l) F s) (hin:InvR l l.length s) (h5:H.get c5=.row [qP m 0] 86 false false) (h6:H.get c6=.row [qS e l.length l.length] 25 false false) (ha:a+1<lo) (hlo:lo≤H.next) (hout:Out2 a H zPc 0 0) (hfa:H.floor≤a)
  (hbad:J2K s.rows (J0o l) s.rules≥0→∀ T' H',T'.get 2=qP a 0→T'.get 3=qP (a+1) 0→Out2 a H' zPc 34 (J2K s.rows (J0o l) s.rules)→H.next≤H'.next→H'.floor=H.floor→(∀ i,i<a→H'.get i=H.get i)→K.ap Tryz.prog (J0T n) N .ret ⟨T',H'⟩)
  (hgood:¬ J2K s.rows (J0o l) s.rules≥0→∀ T' H' cs,T'.get 2=qP a 0→T'.get 3=qP (a+1) 0→cs.length=8→Out2 a H' cs 0 0→OwnS lo H' (.agg cs.toArray) nm s→H.next≤H'.next→H'.floor=H.floor→(∀ i,i<a→H'.get i=H.get i)→K.ap Tryz.prog (J0T n) N .ret ⟨T',H'⟩) :
  WK Tryz.prog (J0T n) N PR19 ⟨T,H⟩ K:=by
 show WK _ _ _ (.seq (.seq _ (.seq _ _)) (.seq _ _)) _ _
 obtain⟨tag,vq,vv,vt,vu,vo,es,hp',_⟩:=id hp
 have hlg:=JgH (n:=n) hp' ht hL hin (by omega) hn
 have l5:ld1 0 (H.get c5)=some (qP m 0):=by rw[h5];rfl
 have l6:ld1 0 (H.get c6)=some (qS e l.length l.length):=by rw[h6];rfl
 cases d:decide (J2K s.rows (J0o l) s.rules≥0) with
 | true=>
  obtain⟨H',s1,s2,r1,r2,r3,r4⟩:=J4J hout rfl (by omega) (by omega) (cs':=zPc) rfl rfl (e':=34) (p':=J2K s.rows (J0o l) s.rules)
  simp only[evC,seval,↓evP,J1W,J0n,t2,t3,t5,t6,l5,l6,hlg,d,J28,J4G,s1,s2]
  refine hbad (by simpa using d) _ _ ?_ ?_ r1 (by omega) r3 fun i hi=>r4 i (by omega) (by omega)
  ·simp only[evC,seval,↓evP,rpC,t2]
  ·simp only[evC,seval,↓evP,rpC,t3]
 | false=>
  have l8:ldN 8 0 (H.get m)=some (.agg #[.string nm,qS r l.length unk,vq,vv,vt,vu,vo,iv s.miss]):=by rw[hp'.cell];rfl
  have hpol:=hp'.own
  have hall:([.string nm,qS r l.length unk,vq,vv,vt,vu,vo,iv s.miss]:List Value).all one=true:=by
   have q1:=(hp'.pol.q.cells (w:=2) (J2J _)).one
   have q2:=(hp'.pol.v.cells (w:=1) (by simp[strs])).one
   have q3:=(hp'.pol.t.cells (w:=1) (by simp[strs])).one
   have q4:=(hp'.pol.u.cells (w:=1) (by rw[J1h,Nat.mul_one])).one
   have q5:=(hp'.pol.o.cells (w:=1) (by rw[J1h,Nat.mul_one])).one
   simp only[List.all_cons,List.all_nil,q1,q2,q3,q4,q5,J5J,J5K,Bool.and_self]
   rfl
  obtain⟨H',s1,s2,r1,r2,r3,r4⟩:=J4J hout rfl (by omega) (by omega) (cs':=[.string nm,qS r l.length unk,vq,vv,vt,vu,vo,iv s.miss]) rfl hall (e':=0) (p':=0)
  simp only[evC,seval,↓evP,J1W,J0n,t2,t3,t5,t6,l5,l6,hlg,d,J0g,J1b,l8,J5n,s1,s2]
  refine hgood (by simpa using d) _ _ _ ?_ ?_ rfl r1 (hpol.mono (by omega) fun i hi _=>r4 i (by omega) (by omega)) (by omega) r3 fun i hi=>r4 i (by omega) (by omega)
  ·simp only[evC,seval,↓evP,rpC,t2]
  ·simp only[evC,seval,↓evP,rpC,t3]
end
theorem J9E {a:Nat} {H:SHeap} {cs:List Value} {ty:TypeId} {g ro:Bool} (h:H.get a=.row cs ty g ro) (hl:cs.length=8):ldN 8 0 (H.get a)=some (.agg cs.toArray):=by
 rw[h]
 have:cs.take 8=cs:=List.take_of_length_le (by omega)
 simp only[ldN,cut,List.drop_zero,this,hl,if_true]
theorem J5d {l:List RowN} (h:(J0v l).1=0):J2L J09 l=none:=by
 unfold J0v at h
 cases hs:J2L J09 l with
 | none=>rfl
 | some p=>
  rw[hs] at h
  simp at h
def Told (h:SHeap) (l:List RowN) (v:Value) (h':SHeap):Prop:=
 ∃ pv,v=.tuple #[pv,J2k (resN l).1.1 (resN l).1.2]∧J3x h.next h' pv (outN l).1 (outN l).2∧h'.floor=h.floor∧h.next≤h'.next∧∀ i,i<h.next→h'.get i=h.get i
theorem J0p.flat {lo:Nat} {h:SHeap} {v:Value} {n w:Nat} {cs:List Value} (hc:J0p lo h v n w cs) (hf:J1i v=true) (lo':Nat) (h':SHeap):J0p lo' h' v n w cs:=by
 obtain⟨hl,a,c,rfl,⟨h0,rfl⟩ | ⟨id,off,row,ty,g,ro,rfl,g1,g2,g3⟩⟩:=hc
 ·exact⟨hl,_,_,rfl,.inl ⟨h0,rfl⟩⟩
 ·cases hf
theorem J92 {h h1:SHeap} {l:List RowN} {v:Value} (hf:J3m v=true) (ht:Told h l v h1):Told h l v h:=by
 obtain⟨pv,rfl,⟨vr,vq,vv,vt,vu,vo,rfl,h2,h3,h4,h5,h6,h7⟩,_⟩:=ht
 have hf':flat (.agg #[.string (outN l).1,vr,vq,vv,vt,vu,vo,iv (outN l).2.miss])=true:=by
  simp only[J3m,List.all_toArray,List.all_cons,Bool.and_eq_true] at hf
  exact hf.1
 simp only[flat,List.all_cons,Bool.and_eq_true] at hf'
 obtain⟨_,f1,f2,f3,f4,f5,f6,_⟩:=hf'
 exact⟨_,rfl,⟨vr,vq,vv,vt,vu,vo,rfl,J3P.of (h2.2.flat f1 _ _),h3.flat f2 _ _,h4.flat f3 _ _,h5.flat f4 _ _,J0p.flat h6 f5 _ _,J0p.flat h7 f6 _ _⟩,rfl,Nat.le_refl _,fun _ _=>rfl⟩
def Jlg (lo:Nat) (h:SHeap) (pv:Value) (nm:ByteArray) (s:StN):Prop:=(pv=zPol∧nm=ByteArray.empty∧s=sZ)∨OwnS lo h pv nm s
theorem Jlg.pol {lo:Nat} {h:SHeap} {pv:Value} {nm:ByteArray} {s:StN} (hp:Jlg lo h pv nm s):J3x lo h pv nm s:=by
 rcases hp with⟨rfl,rfl,rfl⟩ | hp
 ·exact JcV lo h
 ·exact hp.pol
def Jld (h:SHeap) (l:List RowN) (v:Value) (h':SHeap):Prop:=
 ∃ pv,v=.tuple #[pv,J2k (resN l).1.1 (resN l).1.2]∧Jlg h.next h' pv (outN l).1 (outN l).2∧h'.floor=h.floor∧h.next≤h'.next∧∀ i,i<h.next→h'.get i=h.get i
theorem Jld.told {h h':SHeap} {l:List RowN} {v:Value} (ht:Jld h l v h'):Told h l v h':=by
 obtain⟨pv,h1,h2,h3⟩:=ht
 exact⟨pv,h1,h2.pol,h3⟩
theorem Jlz {h h1:SHeap} {l:List RowN} {v:Value} (hf:J3m v=true) (ht:Jld h l v h1):Jld h l v h:=by
 obtain⟨pv,rfl,h2,_⟩:=ht
 refine⟨pv,rfl,?_,rfl,Nat.le_refl _,fun _ _=>rfl⟩
 rcases h2 with h2 | ⟨tag,r,vq,vv,vt,vu,vo,rfl,_⟩
 ·exact .inl h2
 ·have hf':flat (.agg #[.string (outN l).1,qS r (outN l).2.rows.length unk,vq,vv,vt,vu,vo,iv (outN l).2.miss])=true:=by
   simp only[J3m,List.all_toArray,List.all_cons,Bool.and_eq_true] at hf
   exact hf.1
  simp only[flat,List.all_cons,Bool.and_eq_true] at hf'
  exact absurd hf'.2.1 (by simp[J1i])
section
variable {n N:Nat}
theorem JcB {l:List RowN} {v:Value} {h:SHeap} (hfl:h.floor≤h.next) (hg:h.get 0=J14) (hn0:0<h.next) (hv:J0l h v l) (hL:l.length<900000000) (hn:2*l.length+100<n) (hN:l.length+3<N) :
  ∃ v' h',J0L Tryz.prog (J0T n) N 22 [v] h=some (v',h')∧Jld h l v' h':=by
 refine J65 (R:=Jld h l) Tryz.func22 rfl (by simp[Tryz.f22]) ?_
 have hr:Tryz.f22.results.toList=[.cell 2 27,.cell 3 32]:=rfl
 generalize hKK:Kont.top (fun e s=>(e=SExit.normal∨e=SExit.ret)∧∃ vs,resS Tryz.prog s Tryz.f22.results.toList=some vs∧Jld h l (resV vs) s.h)=K
 have fin:∀ (T':Tr) (H':SHeap) cs e p nm s,T'.get 2=qP h.next 0→T'.get 3=qP (h.next+1) 0→cs.length=8→Out2 h.next H' cs e p→Jlg h.next H' (.agg cs.toArray) nm s→(resN l).1=(e,p)→outN l=(nm,s)→h.next≤H'.next→H'.floor=h.floor→(∀ i,i<h.next→H'.get i=h.get i)→K.ap Tryz.prog (J0T n) N .ret ⟨T',H'⟩:=by
  intro T' H' cs e p nm s t2 t3 hl ho hp he hout hnx hf hold
  have l30:=J9E ho.1 hl
  have l33:ldN 2 0 (H'.get (h.next+1))=some (J2k e p):=by rw[ho.2];rfl
  rw[← hKK]
  simp only[evC,seval,↓evP,hr,t2,t3,J1b,J2n,l30,l33]
  exact⟨_,by rw[he],by rw[hout];exact hp,hf,hnx,hold⟩
 have hz:∀ H',Jlg h.next H' zPol ByteArray.empty sZ:=fun H'=>.inl ⟨rfl,rfl,rfl⟩
 refine Je0 (J1z n).2 hfl hv hg hn0 (fun H hv' hg' hn' hfl'=>JgM (by omega) (by omega) hv' hg' hn' hfl') ?_ ?_
 ·intro hc T' H t2 t3 ho hnx hf hold
  refine fin T' H _ _ _ ByteArray.empty sZ t2 t3 rfl ho (hz H) ?_ ?_ (by omega) hf hold
  ·unfold resN
   rw[if_pos hc]
  ·unfold outN
   have:(resN l).1.1≠0:=by unfold resN;rw[if_pos hc];exact hc
   rw[if_pos this]
 ·intro hc T' H t0 t2 t3 ho hnx hf hold
  have ht:=J8d (J5d hc)
  have hvH:J0l H v l:=hv.mono (by omega) hold
  have hcw:=fun H' (hv':J0l H' v l)=>Jc0 (n:=n-1) (J13 (f:=49) (args:=[v]) (h:=H') ⟨rfl,rfl,rfl⟩) rfl (Jby (call:=J0T (n-1)) (N:=n-1) hv' ht.pos (by omega))
  rw[show n-1+1=n by omega] at hcw
  refine Jdt (J1z n).2 ht hL (by omega) hvH t0 hcw (fun H' hv' hf'=>JhY ht hv' (by omega) (by omega) hf') ?_
  intro T1 H1 m k c e r c5 c6 fl u0 u2 u3 u5 u6 u7 hp hcl hnx1 hf1 hold1
  have ho1:Out2 h.next H1 zPc 0 0:=ho.mono (hold1 _ (by omega)) (hold1 _ (by omega))
  refine Jbf (a:=h.next) ht hL (by omega) hN u0 (u2.trans t2) (u3.trans t3) u7 (hvH.mono hnx1 hold1) hp hcl (by simp) (by simp) (by simp) (by omega) (by omega) ho1 (by omega) ?_ ?_
  ·intro hgo T2 H2 w2 w3 ho2 hnx2 hf2 hold2
   refine fin T2 H2 _ _ _ ByteArray.empty sZ w2 w3 rfl ho2 (hz H2) ?_ ?_ (by omega) (by omega) fun i hi=>by rw[hold2 i hi,hold1 i (by omega),hold i hi]
   ·unfold resN
    rw[if_neg (by rw[hc];simp)]
    simp only
    rw[if_pos hgo]
   ·unfold outN
    have:(resN l).1.1≠0:=by
     unfold resN
     rw[if_neg (by rw[hc];simp)]
     simp only
     rw[if_pos hgo]
     exact hgo
    rw[if_pos this]
  ·intro hgo T2 H2 hk2 hp2 hin2 haf
   have g5:=(haf.1 c5 (.inr (by simp))).trans hcl.h5
   have g6:=(haf.1 c6 (.inr (by simp))).trans hcl.h6
   have ho2:Out2 h.next H2 zPc 0 0:=ho1.mono (haf.1 _ (.inl (by omega))) (haf.1 _ (.inl (by omega)))
   have hf2:=haf.2.2
   have hn2:=haf.2.1
   refine JbM (a:=h.next) ht hL (by omega) ((hk2 2 (by omega)).trans (u2.trans t2)) ((hk2 3 (by omega)).trans (u3.trans t3)) ((hk2 5 (by omega)).trans u5) ((hk2 6 (by omega)).trans u6) hp2 hin2 g5 g6 (by omega) (by omega) ho2 (by omega) ?_ ?_
   ·intro hlg T3 H3 x2 x3 ho3 hnx3 hf3 hold3
    have hres:(resN l).1=(34,J2K (goN (J0o l) l.length 0 (s0N l)).2.2.rows (J0o l) (goN (J0o l) l.length 0 (s0N l)).2.2.rules):=by
     unfold resN
     rw[if_neg (by rw[hc];simp)]
     simp only
     rw[if_neg (by rw[hgo];simp),if_pos hlg]
    refine fin T3 H3 _ _ _ ByteArray.empty sZ x2 x3 rfl ho3 (hz H3) hres ?_ (by omega) (by omega) fun i hi=>by rw[hold3 i hi,haf.1 i (.inl (by omega)),hold1 i (by omega),hold i hi]
    unfold outN
    rw[if_pos (by rw[hres];simp)]
   ·intro hlg T3 H3 cs x2 x3 hcs ho3 hpol hnx3 hf3 hold3
    have hres:resN l=((0,0),(goN (J0o l) l.length 0 (s0N l)).2.2):=by
     unfold resN
     rw[if_neg (by rw[hc];simp)]
     simp only
     rw[if_neg (by rw[hgo];simp),if_neg hlg]
    refine fin T3 H3 cs _ _ (J52 l) (goN (J0o l) l.length 0 (s0N l)).2.2 x2 x3 hcs ho3 (.inr (hpol.weak (by omega))) (by rw[hres]) ?_ (by omega) (by omega) fun i hi=>by rw[hold3 i hi,haf.1 i (.inl (by omega)),hold1 i (by omega),hold i hi]
    unfold outN
    rw[hres]
    simp
theorem JmO {l:List RowN} {v:Value} {h:SHeap} (hfl:h.floor≤h.next) (hg:h.get 0=J14) (hn0:0<h.next) (hv:J0l h v l) (hL:l.length<900000000) (hn:2*l.length+110<n) :
  ∃ v' h',J0T n 22 [v] h=some (v',h')∧Jld h l v' h':=by
 obtain⟨n,rfl⟩:∃ j,n=j+1:=⟨n-1,by omega⟩
 exact k_ex (J13 ⟨rfl,rfl,rfl⟩) (JcB (n:=n) (N:=n) hfl hg hn0 hv hL (by omega) (by omega)) fun v' h1 hf _ ht=>Jlz hf ht
theorem Jia {l:List RowN} {v:Value} {h:SHeap} (hfl:h.floor≤h.next) (hg:h.get 0=J14) (hn0:0<h.next) (hv:J0l h v l) (hL:l.length<900000000) (hn:2*l.length+110<n) :
  ∃ v' h',J0T n 22 [v] h=some (v',h')∧Told h l v' h':=by
 obtain⟨v',h',h1,h2⟩:=JmO (n:=n) hfl hg hn0 hv hL hn
 exact⟨v',h',h1,h2.told⟩
end
def InvT (s:StN):Prop:=s.things.length=s.queues.length+s.vars.length+s.tags.length+s.rules.length
theorem Jj2 (l:List RowN):InvT (s0N l):=rfl
theorem JgA {at_:Nat} {end_:Int} {x:RowN} {s:StN} (h:InvT s):InvT (J0W at_ end_ x s):=by
 unfold J0W
 split
 ·exact h
 ·rename_i hd
  have hk:=J3c x.kind
  unfold InvT at h ⊢
  simp only[addN,List.length_append,List.length_cons,List.length_nil]
  obtain h1 | h1 | h1 | h1:J0j x.kind=1∨J0j x.kind=2∨J0j x.kind=3∨J0j x.kind=4:=by omega
  all_goals (rw[h1];simp;omega)
theorem Jet {at_:Nat} {x:RowN} {s:StN} (h:InvT s):InvT (J0D at_ x s):=by
 unfold J0D
 split
 ·exact h
 ·split <;> exact h
theorem JiX {at_:Nat} {x:RowN} {s:StN} (h:InvT s):InvT (evS at_ x s):=by
 unfold evS
 split
 ·exact h
 ·split <;> exact h
theorem Jio {E:List Int} {at_:Nat} {s:StN} (h:InvT s):InvT (J31 E at_ s).2:=by
 unfold J31
 (repeat' split) <;> first | exact h | exact JiX (Jet (JgA h))
theorem Jd6 {s:StN} (h:InvT s) (hw:WfS s):s.things.length<100000:=by
 have:=hw.q;have:=hw.v;have:=hw.t;have:=hw.u
 unfold InvT at h
 omega
theorem Jcq {S Z:List Int} {k:Int} (h0:0≤k) (h1:k<S.length):J5y (S++Z) k=J5y S k:=by
 unfold J5y
 rw[List.getElem?_append_left (by omega)]
theorem J7y {S Z:List Int}:∀ (l:List RowN) (a:Int),(∀ x∈l,x.kind=22→0≤x.n∧x.n<S.length)→J2j (S++Z) l a=J2j S l a
 | [],a,_=>rfl
 | x :: l,a,h=>by
  have ih:=fun b=>J7y (S:=S) (Z:=Z) l b fun y hy=>h y (List.mem_cons_of_mem _ hy)
  unfold J2j
  rw[ih]
  by_cases h22:x.kind=22
  ·rw[if_pos h22,if_pos h22,Jcq (h x (.head _) h22).1 (h x (.head _) h22).2]
  ·rw[if_neg h22,if_neg h22]
theorem JgL {rows:List RowN} {E rules:List Int} (hL:LayR rows E rules):J4Y rows E rules []=J42 rows E rules:=by
 have key:∀ (r S:List Int),(∃ pre,rules=pre++r∧pre.length=S.length)→J8r rows E r S.length (S++List.replicate r.length 0)=J4Y rows E r S:=by
  intro r
  induction r with
  | nil=>intro S _;simp[J8r,J4Y]
  | cons ru r ih=>
   rintro S ⟨pre,hp,hl⟩
   have hru:rules[S.length]?=some ru:=by rw[hp,← hl,List.getElem?_append_right (Nat.le_refl _),Nat.sub_self];rfl
   have hrl:=hL.lay.rl ru (List.mem_of_getElem? hru)
   have hc:cAt rows E (S++List.replicate (ru :: r).length 0) ru.toNat=cAt rows E S ru.toNat:=by
    unfold cAt
    refine J7y _ _ fun x hx h22=>?_
    have h1:=hL.ahead _ _ hru x hx h22
    have h2:=hL.lay.calls x (List.mem_of_mem_drop (List.mem_of_mem_take hx)) h22
    exact⟨h2.1,h1⟩
   unfold J8r J4Y
   rw[hc]
   have:(S++List.replicate (ru :: r).length 0).set S.length (cAt rows E S ru.toNat)=(S++[cAt rows E S ru.toNat])++List.replicate r.length 0:=by
    rw[List.set_append_right _ _ (Nat.le_refl _),Nat.sub_self,List.length_cons,List.replicate_succ,List.set_cons_zero,List.append_assoc]
    rfl
   rw[this]
   have:=ih (S++[cAt rows E S ru.toNat]) ⟨pre++[ru],by rw[hp];simp,by simp[hl]⟩
   rw[List.length_append,List.length_cons,List.length_nil] at this
   exact this
 have:=key rules [] ⟨[],rfl,rfl⟩
 exact this.symm
theorem AftR.trans {h H H':SHeap} {lo:Nat} (a:AftR h H lo) (b:AftR H H' lo):AftR h H' lo:=⟨fun i hi=>(b.1 i hi).trans (a.1 i hi),Nat.le_trans a.2.1 b.2.1,b.2.2.trans a.2.2⟩
theorem AftR.refl (h:SHeap) (lo:Nat):AftR h h lo:=⟨fun _ _=>rfl,Nat.le_refl _,rfl⟩
noncomputable def XB17:Code:=inB (J81 Tryz.f61 1)
noncomputable def XE17:Code:=rt (rt (rt (rt XB17)))
section
variable {n N:Nat}
theorem J4w {T:Tr} {H:SHeap} {K:Kont} {a lo m e r L at_:Nat} {nm:ByteArray} {E:List Int} {s:StN} {x:RowN} {e1 κ:Int} (hκ:1≤κ∧κ≤54) (hn:100020<n) (hat:at_<900000000)
  (t2:T.get 2=qP a 0) (t3:T.get 3=qP (a+1) 0) (t5:T.get 5=qP m 0) (t6:T.get 6=iv at_) (t7:T.get 7=iv e1) (t8:T.get 8=iv κ)
  (hp:e1=0→MkRE H lo m e r L nm E s∧s.rows[at_]?=some x∧x.kind=κ∧(J0E x.kind=true→x.kind≠10→0≤x.n∧x.n<s.on.length)) (ha:a+1<lo) (hlo:lo≤H.next) (hout:Out2 a H zPc 0 0) (hfa:H.floor≤a)
  (hbad:∀ e',e'≠0→((e1≠0∧e'=e1)∨(e1=0∧e'=evE x s))→∀ T' H',T'.get 2=qP a 0→T'.get 3=qP (a+1) 0→Out2 a H' zPc e' at_→H.next≤H'.next→H'.floor=H.floor→(∀ i,i<a→H'.get i=H.get i)→K.ap Tryz.prog (J0T n) N .ret ⟨T',H'⟩)
  (hgood:e1=0→evE x s=0→∀ T' H',(∀ t:Nat,t≤6→T'.get t=T.get t)→MkRE H' lo m e r L nm E (evS at_ x s)→AftR H H' lo→K.ap Tryz.prog (J0T n) N .normal ⟨T',H'⟩) :
  WK Tryz.prog (J0T n) N XE17 ⟨T,H⟩ K:=by
 show WK _ _ _ (.seq (.seq _ _) (.seq _ _)) _ _
 cases d:(e1 != 0) with
 | true=>
  have d1:(e1==0)=false:=by simpa using d
  have e0:e1≠0:=by simpa using d
  obtain⟨H',s1,s2,r1,r2,r3,r4⟩:=J4J hout rfl (by omega) (by omega) (cs':=zPc) rfl rfl (e':=e1) (p':=at_)
  simp only[evC,seval,↓evP,t2,t3,t5,t6,t7,t8,d,d1,J28,J4G,s1,s2]
  refine hbad e1 e0 (.inl ⟨e0,rfl⟩) _ _ ?_ ?_ r1 (by omega) r3 fun i hi=>r4 i (by omega) (by omega)
  ·simp only[evC,seval,↓evP,rpC,t2]
  ·simp only[evC,seval,↓evP,rpC,t3]
 | false=>
  have e0:e1=0:=by simpa using d
  subst e0
  obtain⟨hp1,hx,hk,hxn⟩:=hp rfl
  have hV:=J2Z (n:=n) (J1M (k:=12) (Jgw κ H hκ))
  have z0:((0:Int)==0)=true:=rfl
  cases dv:J0E κ with
  | false=>
   rw[dv] at hV
   rw[← hk] at dv
   have h1:evE x s=0:=by unfold evE;rw[if_pos dv]
   have h2:evS at_ x s=s:=by unfold evS;rw[if_pos dv]
   simp only[evC,seval,↓evP,t2,t3,t5,t6,t7,t8,d,z0,hV]
   refine hgood rfl h1 _ _ (fun t ht=>?_) (by rw[h2];exact hp1) (AftR.refl _ _)
   simp only[Tr.get_put,Option.some.injEq]
   repeat rw[if_neg (by omega)]
  | true=>
   rw[dv] at hV
   rw[← hk] at dv
   obtain⟨H2,q1,q2,q3⟩:=Jf5 (n:=n) (at_:=at_) hp1 hx dv (by omega) (hxn dv) (by omega)
   have n2:=q2.2.1
   have f2:=q2.2.2
   have hout2:Out2 a H2 zPc 0 0:=hout.mono (q2.1 a (by omega)) (q2.1 (a+1) ha)
   cases d2:(evE x s != 0) with
   | true=>
    have e2:evE x s≠0:=by simpa using d2
    obtain⟨H',s1,s2,r1,r2,r3,r4⟩:=J4J hout2 rfl (by omega) (by omega) (cs':=zPc) rfl rfl (e':=evE x s) (p':=at_)
    simp only[evC,seval,↓evP,t2,t3,t5,t6,t7,t8,d,z0,hV,q1,d2,J28,J4G,s1,s2]
    refine hbad _ e2 (.inr ⟨rfl,rfl⟩) _ _ ?_ ?_ r1 (by omega) (by omega) fun i hi=>by rw[r4 i (by omega) (by omega),q2.1 i (by omega)]
    ·simp only[evC,seval,↓evP,rpC,t2]
    ·simp only[evC,seval,↓evP,rpC,t3]
   | false=>
    have e2:evE x s=0:=by simpa using d2
    simp only[evC,seval,↓evP,t2,t3,t5,t6,t7,t8,d,z0,hV,q1,d2]
    refine hgood rfl e2 _ _ (fun t ht=>?_) (q3 e2) q2
    simp only[Tr.get_put,Option.some.injEq]
    repeat rw[if_neg (by omega)]
theorem Jde {l:List RowN} {v:Value} {T:Tr} {H:SHeap} {K:Kont} {a lo m e r at_:Nat} {nm:ByteArray} {s:StN} {x:RowN} (ht:J2c l) (hL:l.length<900000000) (hn:100020<n) (hat:at_<l.length)
  (t0:T.get 0=v) (t2:T.get 2=qP a 0) (t3:T.get 3=qP (a+1) 0) (t5:T.get 5=qP m 0) (t6:T.get 6=iv at_) (hv:J0l H v l)
  (hp:MkRE H lo m e r l.length nm (J0o l) s) (hi:InvR l at_ s) (hT:InvT s) (hx:s.rows[at_]?=some x) (ha:a+1<lo) (hlo:lo≤H.next) (hout:Out2 a H zPc 0 0) (hfa:H.floor≤a)
  (hbad:(J31 (J0o l) at_ s).1≠0→∀ T' H',T'.get 2=qP a 0→T'.get 3=qP (a+1) 0→Out2 a H' zPc (J31 (J0o l) at_ s).1 at_→H.next≤H'.next→H'.floor=H.floor→(∀ i,i<a→H'.get i=H.get i)→K.ap Tryz.prog (J0T n) N .ret ⟨T',H'⟩)
  (hgood:(J31 (J0o l) at_ s).1=0→∀ T' H',(∀ t:Nat,t≤6→T'.get t=T.get t)→MkRE H' lo m e r l.length nm (J0o l) (J31 (J0o l) at_ s).2→AftR H H' lo→K.ap Tryz.prog (J0T n) N .normal ⟨T',H'⟩) :
  WK Tryz.prog (J0T n) N XB17 ⟨T,H⟩ K:=by
 have hkind:=J68 ht hi x (List.mem_of_getElem? hx)
 have hxl:l[at_]?=some x:=by rw[← hi.later at_ (Nat.le_refl _)];exact hx
 have hth:=Jd6 hT hi.wf
 have hEat:(J0o l)[at_]?=some (endN l at_:Int):=J2B hat
 have hEd:((J0o l)[at_]?).getD 0=(endN l at_:Int):=by rw[hEat];rfl
 have hD:=fun H=>J2Z (n:=n) (J1M (k:=12) (Jgc x.kind H hkind))
 have hC:=fun H=>J2Z (n:=n) (J1M (k:=12) (Jfb x.kind H hkind))
 have hV:=fun H=>J2Z (n:=n) (J1M (k:=12) (Jgw x.kind H hkind))
 have z0:((0:Int) != 0)=false:=rfl
 have hnx:=hi.wf
 obtain⟨rid,p,e0,hid,l0,l1,l2,l3,l4,lr⟩:=hv.row hxl
 show WK _ _ _ (.seq _ (.seq _ (.seq (.seq _ _) (.seq (.seq _ _) XE17)))) _ _
 by_cases hd:J0j x.kind=0
 ·rw [hd] at hD
  rw[J8B hx hd] at hbad hgood
  have hxn:∀ x2 s2,J1v at_ x s=0→(J0D at_ x s).rows[at_]?=some x2→s2=J0D at_ x s→WfS s2→x2.kind=x.kind→J0E x2.kind=true→x2.kind≠10→0≤x2.n∧x2.n<s2.on.length:=by
   intro x2 s2 hc hx2 hs2 hw hk2 hev h10
   obtain⟨n2,a1,a2,a3,a4,a5,a6⟩:=J6j hx hc
   rw[a1] at hx2
   cases hx2
   have hdd:=J6v (k:=x.kind) hev h10
   rcases a6 with⟨b1,_⟩ | ⟨t,b1,b2,b3,_⟩
   ·rw[hdd.1] at b1
    cases b1
   ·rw[hdd.1] at b2
    rw[← a5,← hs2] at b1
    obtain⟨_,_,q1,q2,_⟩:=hw.th t b1
    rw[b2] at q2
    have q3:t.num<(s2.queues.length:Int):=q2
    rw[← hw.o] at q3
    simp only
    rw[b3]
    exact⟨q1,q3⟩
  by_cases hc:J1O x.kind=0
  ·rw[hc] at hC
   have h1:J1v at_ x s=0:=by unfold J1v;rw[if_pos hc]
   have h2:J0D at_ x s=s:=by unfold J0D;rw[if_pos hc]
   rw[h1,h2] at hbad hgood
   rw[if_neg (by simp),hx] at hbad hgood
   simp only at hbad hgood
   simp only[evC,seval,↓evP,t0,t6,e0,J0t,J0m,l0,hD,hC,z0]
   refine J4w (e1:=0) (κ:=x.kind) (x:=x) (s:=s) (E:=J0o l) (lo:=lo) (m:=m) hkind hn (by omega) (by simp only[evC,seval,↓evP,rpC,t2]) (by simp only[evC,seval,↓evP,rpC,t3]) (by simp only[evC,seval,↓evP,rpC,t5]) (by simp only[evC,seval,↓evP,rpC,t6]) (by simp only[evC,seval,↓evP,rpC]) (by simp only[evC,seval,↓evP,rpC]) (fun _=>⟨hp,hx,rfl,fun hev h10=>hxn x s h1 (by rw[h2];exact hx) h2.symm hi.wf rfl hev h10⟩) ha hlo hout hfa ?_ ?_
   ·rintro e' he' (⟨h,_⟩ | ⟨_,rfl⟩)
    ·exact absurd rfl h
    ·rw[if_pos he'] at hbad
     exact hbad he'
   ·intro _ hev T' H' hk' hp' ha'
    rw[if_neg (by rw[hev];simp)] at hgood
    refine hgood rfl T' H' (fun t ht=>?_) hp' ha'
    rw[hk' t ht]
    simp only[Tr.get_put,Option.some.injEq]
    repeat rw[if_neg (by omega)]
  ·have d2:(J1O x.kind != 0)=true:=by simpa using hc
   obtain⟨H2,q1,q2,q3⟩:=Jez (n:=n) (at_:=at_) hp hx hc (by omega) hth (by omega)
   have n2:=q2.2.1
   have f2:=q2.2.2
   have hout2:=hout.mono (q2.1 a (by omega)) (q2.1 (a+1) ha)
   simp only[evC,seval,↓evP,t0,t5,t6,e0,J0t,J0m,l0,hD,hC,z0,d2,q1]
   by_cases h1:J1v at_ x s=0
   ·obtain⟨n1,a1,_⟩:=J6j hx h1
    have hp2:=q3 h1
    have hw2:WfS (J0D at_ x s):=by
     obtain⟨_,_,_,hw⟩:=id hp2
     exact hw
    rw[if_neg (by rw[h1];simp),a1] at hbad hgood
    simp only at hbad hgood
    rw[h1]
    refine J4w (e1:=0) (κ:=x.kind) (x:={ x with n:=n1 }) (s:=J0D at_ x s) (E:=J0o l) (lo:=lo) (m:=m) hkind hn (by omega) (by simp only[evC,seval,↓evP,rpC,t2]) (by simp only[evC,seval,↓evP,rpC,t3]) (by simp only[evC,seval,↓evP,rpC,t5]) (by simp only[evC,seval,↓evP,rpC,t6]) (by simp only[evC,seval,↓evP,rpC]) (by simp only[evC,seval,↓evP,rpC]) (fun _=>⟨hp2,a1,rfl,fun hev h10=>hxn _ _ h1 a1 rfl hw2 rfl hev h10⟩) ha (by omega) hout2 (by omega) ?_ ?_
    ·rintro e' he' (⟨h,_⟩ | ⟨_,rfl⟩)
     ·exact absurd rfl h
     ·rw[if_pos he'] at hbad
      exact fun T' H' w2 w3 ho hnx hfx hox=>hbad he' T' H' w2 w3 ho (by omega) (by omega) fun i hi=>by rw[hox i hi,q2.1 i (by omega)]
    ·intro _ hev T' H' hk' hp' ha'
     rw[if_neg (by rw[hev];simp)] at hgood
     refine hgood rfl T' H' (fun t ht=>?_) hp' (q2.trans ha')
     rw[hk' t ht]
     simp only[Tr.get_put,Option.some.injEq]
     repeat rw[if_neg (by omega)]
   ·rw[if_pos h1] at hbad
    refine J4w (e1:=J1v at_ x s) (κ:=x.kind) (x:=x) (s:=s) (E:=J0o l) (lo:=lo) (m:=m) (e:=e) (r:=r) (nm:=nm) (L:=l.length) (at_:=at_) hkind hn (by omega) (by simp only[evC,seval,↓evP,rpC,t2]) (by simp only[evC,seval,↓evP,rpC,t3]) (by simp only[evC,seval,↓evP,rpC,t5]) (by simp only[evC,seval,↓evP,rpC,t6]) (by simp only[evC,seval,↓evP,rpC]) (by simp only[evC,seval,↓evP,rpC]) (fun h=>absurd h h1) ha (by omega) hout2 (by omega) ?_ (fun h=>absurd h h1)
    rintro e' he' (⟨_,rfl⟩ | ⟨h,_⟩)
    ·exact fun T' H' w2 w3 ho hnx hfx hox=>hbad he' T' H' w2 w3 ho (by omega) (by omega) fun i hi=>by rw[hox i hi,q2.1 i (by omega)]
    ·exact absurd h h1
 ·have d1:(J0j x.kind != 0)=true:=by simpa using hd
  obtain⟨hc0,hv0⟩:=excl hd
  rw[hc0] at hC
  rw[J8t hx hd,hEd] at hbad hgood
  obtain⟨H2,q1,q2,q3⟩:=JgC (n:=n) (at_:=at_) hp hx hd (by omega) hEat (by omega) hth (by omega)
  have n2:=q2.2.1
  have f2:=q2.2.2
  have hout2:=hout.mono (q2.1 a (by omega)) (q2.1 (a+1) ha)
  simp only[evC,seval,↓evP,t0,t5,t6,e0,J0t,J0m,l0,hD,hC,z0,d1,q1]
  by_cases h1:J25 x s=0
  ·obtain⟨n1,a1⟩:=J7P (end_:=(endN l at_:Int)) hx
   have hp2:=q3 h1
   have hev:J0E ({ x with n:=n1 }:RowN).kind=false:=hv0
   have g1:evE { x with n:=n1 } (J0W at_ (endN l at_) x s)=0:=by unfold evE;rw[if_pos hev]
   have g2:evS at_ { x with n:=n1 } (J0W at_ (endN l at_) x s)=J0W at_ (endN l at_) x s:=by unfold evS;rw[if_pos hev]
   rw[if_neg (by rw[h1];simp)] at hbad hgood
   rw[h1]
   refine J4w (e1:=0) (κ:=x.kind) (x:={ x with n:=n1 }) (s:=J0W at_ (endN l at_) x s) (E:=J0o l) (lo:=lo) (m:=m) hkind hn (by omega) (by simp only[evC,seval,↓evP,rpC,t2]) (by simp only[evC,seval,↓evP,rpC,t3]) (by simp only[evC,seval,↓evP,rpC,t5]) (by simp only[evC,seval,↓evP,rpC,t6]) (by simp only[evC,seval,↓evP,rpC]) (by simp only[evC,seval,↓evP,rpC]) (fun _=>⟨hp2,a1,rfl,fun h=>by rw[hev] at h;cases h⟩) ha (by omega) hout2 (by omega) ?_ ?_
   ·rintro e' he' (⟨h,_⟩ | ⟨_,rfl⟩)
    ·exact absurd rfl h
    ·exact absurd g1 he'
   ·intro _ _ T' H' hk' hp' ha'
    rw[g2] at hp'
    refine hgood rfl T' H' (fun t ht=>?_) hp' (q2.trans ha')
    rw[hk' t ht]
    simp only[Tr.get_put,Option.some.injEq]
    repeat rw[if_neg (by omega)]
  ·rw[if_pos h1] at hbad
   refine J4w (e1:=J25 x s) (κ:=x.kind) (x:=x) (s:=s) (E:=J0o l) (lo:=lo) (m:=m) (e:=e) (r:=r) (nm:=nm) (L:=l.length) (at_:=at_) hkind hn (by omega) (by simp only[evC,seval,↓evP,rpC,t2]) (by simp only[evC,seval,↓evP,rpC,t3]) (by simp only[evC,seval,↓evP,rpC,t5]) (by simp only[evC,seval,↓evP,rpC,t6]) (by simp only[evC,seval,↓evP,rpC]) (by simp only[evC,seval,↓evP,rpC]) (fun h=>absurd h h1) ha (by omega) hout2 (by omega) ?_ (fun h=>absurd h h1)
   rintro e' he' (⟨_,rfl⟩ | ⟨h,_⟩)
   ·exact fun T' H' w2 w3 ho hnx hfx hox=>hbad he' T' H' w2 w3 ho (by omega) (by omega) fun i hi=>by rw[hox i hi,q2.1 i (by omega)]
   ·exact absurd h h1
end
end Go.Proofs.YtdejoodfeljmkaaGreatDoor
