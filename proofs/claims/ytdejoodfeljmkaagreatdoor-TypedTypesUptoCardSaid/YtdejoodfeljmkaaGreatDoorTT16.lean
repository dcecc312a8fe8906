/- Part 16 of what the claim leans on: 6 texts laid one behind another. -/
import Derived.Test.YtdejoodfeljmkaaGreatDoorTT15
namespace Go.Proofs.YtdejoodfeljmkaaGreatDoor
open Go Go.Sx
set_option maxRecDepth 100000
set_option linter.unusedSimpArgs false
set_option linter.unusedVariables false
def sZ:StN:=⟨[],[],[],[],[],[],0,[]⟩
def J52 (l:List RowN):ByteArray:=match l[0]? with
 | some x=>x.name
 | none=>ByteArray.empty
noncomputable def outN (l:List RowN):ByteArray × StN:=if (resN l).1.1≠0 then (ByteArray.empty,sZ) else (J52 l,(resN l).2)
abbrev zPol:Value:=.agg #[.string ByteArray.empty,.slice none 0 0,.slice none 0 0,.slice none 0 0,.slice none 0 0,.slice none 0 0,.slice none 0 0,iv 0]
theorem JcV (lo:Nat) (h:SHeap):J3x lo h zPol ByteArray.empty sZ:=
 ⟨_,_,_,_,_,_,rfl,J3P.of (J0p.nil lo h 5),J0p.nil lo h 2,J0p.nil lo h 1,J0p.nil lo h 1,J0p.nil lo h 1,J0p.nil lo h 1⟩
theorem stW {t:TypeId} {k:Nat} (ht:szOf Tryz.prog t=some k) {h:SHeap} {id:Nat} {vs cs:List Value} {ty:TypeId} {g:Bool} (hg:h.get id=.row cs ty g false) (hl:cs.length=k) (hn:vs.length=k) (ho:vs.all one=true) (hf:h.floor≤id) :
  J0K Tryz.prog h t (.pointer (some ⟨id,0,none⟩)) (.agg vs.toArray)=some (h.put id (.row vs ty g false)):=by
 have hc:(Value.agg vs.toArray).cells=vs.toArray:=rfl
 have hlay:Go.Sx.lay cs 0 vs=vs:=by
  simp only[Go.Sx.lay,List.take_zero,List.nil_append,Nat.zero_add]
  rw[List.drop_of_length_le (by omega),List.append_nil]
 simp only[J0K,hc,ht,J1q,hg]
 rw[if_pos (by simp[hn]),if_pos (by simp only[ho];simp;omega),hlay]
theorem J5F:J1w Tryz.prog 27=some zPol:=Jir
theorem J3Y:flat zPol=true:=rfl
theorem J82:J2Q Tryz.prog (match Tryz.prog.underlying 27 with | some (.struct fs)=>fs.toList | _=>[])=some [(0,1),(1,1),(2,1),(3,1),(4,1),(5,1),(6,1),(7,1)]:=by kernel_rfl
theorem J28:J1P Tryz.prog 27 []=some zPol:=by
 have h:=J82
 rw[Tryz.underlying27] at h
 simp only at h
 simp only[J1P,J5F,J3Y,if_true,Tryz.underlying27,h]
 rfl
theorem J2E {nm:ByteArray} {m:Int}:J1P Tryz.prog 27 [(0,.string nm),(7,iv m)]=some (.agg #[.string nm,.slice none 0 0,.slice none 0 0,.slice none 0 0,.slice none 0 0,.slice none 0 0,.slice none 0 0,iv m]):=by
 have h:=J82
 rw[Tryz.underlying27] at h
 simp only at h
 simp only[J1P,J5F,J3Y,if_true,Tryz.underlying27,h]
 rfl
theorem JeW:J2Q Tryz.prog (match Tryz.prog.underlying 120 with | some (.struct fs)=>fs.toList | _=>[])=some [(0,8),(8,1),(9,1),(10,5)]:=by kernel_rfl
theorem JhX:J1w Tryz.prog 120=some (.agg #[.string ByteArray.empty,.slice none 0 0,.slice none 0 0,.slice none 0 0,.slice none 0 0,.slice none 0 0,.slice none 0 0,iv 0,.slice none 0 0,.slice none 0 0,iv 0,iv 0,iv 0,iv 0,iv 0]):=by kernel_rfl
abbrev mk0V (nm:ByteArray) (m:Int) (e k:Nat):Value:=.agg #[.string nm,.slice none 0 0,.slice none 0 0,.slice none 0 0,.slice none 0 0,.slice none 0 0,.slice none 0 0,iv m,.slice (some ⟨e,0,none⟩) k k,.slice none 0 0,iv 0,iv 0,iv 0,iv 0,iv 0]
theorem J3V {nm:ByteArray} {m:Int} {e k:Nat}:J1P Tryz.prog 120 [(0,.agg #[.string nm,.slice none 0 0,.slice none 0 0,.slice none 0 0,.slice none 0 0,.slice none 0 0,.slice none 0 0,iv m]),(1,.slice (some ⟨e,0,none⟩) k k)]=some (mk0V nm m e k):=by
 have h:=JeW
 rw[Tryz.underlying120] at h
 simp only at h
 have hf:flat (.agg #[.string ByteArray.empty,.slice none 0 0,.slice none 0 0,.slice none 0 0,.slice none 0 0,.slice none 0 0,.slice none 0 0,iv 0,.slice none 0 0,.slice none 0 0,iv 0,iv 0,iv 0,iv 0,iv 0])=true:=rfl
 simp only[J1P,JhX,hf,if_true,Tryz.underlying120,h]
 rfl
theorem sz31:szOf Tryz.prog 30=some 1:=by kernel_rfl
theorem Jj9:J2X Tryz.prog 30=some false:=by kernel_rfl
theorem J7G {h:SHeap} {id off:Nat}:J2x Tryz.prog h 30 (.pointer (some ⟨id,off,none⟩))=ld1 off (h.get id):=J41 Jj9
theorem J6a {id off:Nat}:J08 Tryz.prog 32 (.pointer (some ⟨id,off,none⟩)) 0=some (.pointer (some ⟨id,off,none⟩)):=by simp[J08,Tryz.underlying32,sz3,sz31,J0q]
theorem Jer {h:SHeap} {l:List RowN} {v:Value} (hv:J0l h v l) (hne:0<l.length) (hlen:l.length<1099511627) :
  J1o Tryz.prog h 22 (.slice none 0 0) v=some (.slice (some ⟨h.next,0,none⟩) l.length unk,h.push (.row (l.flatMap J0e) 60 true false)):=by
 have hsrc:=hv.src
 obtain⟨a,c,rfl,h1⟩:=hv
 have hzs:(Value.agg #[.int .i64 0,.string ByteArray.empty,.int .i64 0,.int .i64 0,.int .i64 0]).cells.size=5:=rfl
 have hu:(0:Nat)≠unk:=by unfold unk;omega
 have e1:¬ (l.length≤0):=by omega
 have e2:l.length*48≤140737488355328:=by omega
 have e3:l.length≤140737488355328:=by omega
 have h0:J16 h 5 0 (.slice none 0 0)=some []:=rfl
 simp only[J1o,Tryz.underlying22,sz46,by46,J40,hzs,hsrc,J4y,hu,h0,e1,e2,e3,decide_true,beq_self_eq_true,Bool.and_self,if_true,if_false,Nat.le_refl,Nat.zero_add,Nat.zero_mul,Nat.zero_le,List.nil_append,show (0<5)=True by simp]
noncomputable def RR4:Code:=rt (rt (rt (Tryz.f61.body.getD .skip)))
noncomputable def RR5:Code:=rt RR4
noncomputable def RR6:Code:=rt RR5
noncomputable def RR19:Code:=rt RR6
noncomputable def Je9:Array Oper:=J18 Tryz.f61 3
def JhQ:List (Bool × Bool × List Operand):=[(false,true,[]),(false,false,[]),(false,true,[.tmp 4]),(false,false,[])]
theorem JdL:J1E Je9=JhQ:=by kernel_rfl
noncomputable def Jdo:Array Oper:=J18 Tryz.f61 4
def JhK:List (Bool × Bool × List Operand):=[(true,false,[]),(true,false,[]),(true,false,[]),(true,false,[]),(true,false,[]),(false,true,[.tmp 21]),(false,true,[.tmp 21]),(false,false,[]),(false,false,[]),(false,false,[])]
theorem JcO:J1E Jdo=JhK:=by kernel_rfl
def Out2 (a:Nat) (H:SHeap) (pcs:List Value) (e p:Int):Prop:=H.get a=.row pcs 27 false false∧H.get (a+1)=.row [iv e,iv p] 32 false false
section
variable {N:Nat} {call:J0r}
set_option maxHeartbeats 4000000 in
theorem Jf3 (hsn:J1G call) {l:List RowN} {v:Value} {h:SHeap} {K:Kont} (hfl:h.floor≤h.next) (hv:J0l h v l)
  (hchk:∀ H,J0l H v l→H.floor≤H.next→call 78 [v] H=some (J2k (J0v l).1 (J0v l).2,H))
  (hk1:(J0v l).1≠0→∀ T' H,T'.get 2=.pointer (some ⟨h.next,0,none⟩)→T'.get 3=.pointer (some ⟨h.next+1,0,none⟩)→Out2 h.next H [.string ByteArray.empty,.slice none 0 0,.slice none 0 0,.slice none 0 0,.slice none 0 0,.slice none 0 0,.slice none 0 0,iv 0] (J0v l).1 (J0v l).2 →
   h.next+2≤H.next→H.floor=h.floor→(∀ i,i<h.next→H.get i=h.get i)→K.ap Tryz.prog call N .ret ⟨T',H⟩)
  (hk2:(J0v l).1=0→∀ T' H,T'.get 0=v→T'.get 2=.pointer (some ⟨h.next,0,none⟩)→T'.get 3=.pointer (some ⟨h.next+1,0,none⟩)→Out2 h.next H [.string ByteArray.empty,.slice none 0 0,.slice none 0 0,.slice none 0 0,.slice none 0 0,.slice none 0 0,.slice none 0 0,iv 0] 0 0 →
   h.next+2≤H.next→H.floor=h.floor→(∀ i,i<h.next→H.get i=h.get i)→WK Tryz.prog call N RR4 ⟨T',H⟩ K) :
  WK Tryz.prog call N (Tryz.f61.body.getD .skip) ⟨J00 0 [v] .leaf,h⟩ K:=by
 show WK _ _ _ (.seq _ (.seq _ (.seq _ RR4))) _ _
 have zc30:(Value.agg #[.string ByteArray.empty,.slice none 0 0,.slice none 0 0,.slice none 0 0,.slice none 0 0,.slice none 0 0,.slice none 0 0,iv 0]).cells.toList=[.string ByteArray.empty,.slice none 0 0,.slice none 0 0,.slice none 0 0,.slice none 0 0,.slice none 0 0,.slice none 0 0,iv 0]:=rfl
 have zc33:(J2k 0 0).cells.toList=[iv 0,iv 0]:=rfl
 have ho2:∀ i,i<h.next→((h.push (.row [.string ByteArray.empty,.slice none 0 0,.slice none 0 0,.slice none 0 0,.slice none 0 0,.slice none 0 0,.slice none 0 0,iv 0] 27 false false)).push (.row [iv 0,iv 0] 32 false false)).get i=h.get i:=fun i hi=>by rw[J06 (by show i<h.next+1;omega),J06 hi]
 have hc:=hchk ((h.push (.row [.string ByteArray.empty,.slice none 0 0,.slice none 0 0,.slice none 0 0,.slice none 0 0,.slice none 0 0,.slice none 0 0,iv 0] 27 false false)).push (.row [iv 0,iv 0] 32 false false)) (hv.mono (by show h.next≤h.next+1+1;omega) ho2) (by show h.floor≤h.next+1+1;omega)
 have ga:=J4c (h:=h) (o:=.row [.string ByteArray.empty,.slice none 0 0,.slice none 0 0,.slice none 0 0,.slice none 0 0,.slice none 0 0,.slice none 0 0,iv 0] 27 false false) (o':=.row [iv 0,iv 0] 32 false false)
 have gb:=J48 (h:=h) (o:=.row [.string ByteArray.empty,.slice none 0 0,.slice none 0 0,.slice none 0 0,.slice none 0 0,.slice none 0 0,.slice none 0 0,iv 0] 27 false false) (o':=.row [iv 0,iv 0] 32 false false)
 simp only[evC,seval,↓evP,rpD,J0X,J2t,J5F,J3Y,zc30,J3C,J1t,zc33]
 generalize hH2:(h.push (.row [.string ByteArray.empty,.slice none 0 0,.slice none 0 0,.slice none 0 0,.slice none 0 0,.slice none 0 0,.slice none 0 0,iv 0] 27 false false)).push (.row [iv 0,iv 0] 32 false false)=H2 at *
 have hn2:H2.next=h.next+1+1:=by rw[← hH2];rfl
 have hf2:H2.floor=h.floor:=by rw[← hH2];rfl
 have sF:=stW (t:=32) sz33 (h:=H2.push (.row [iv 0,iv 0] 32 false false)) (vs:=[iv (J0v l).1,iv (J0v l).2]) J0h rfl rfl rfl (by show H2.floor≤H2.next;omega)
 simp only[evC,seval,↓evP,rpD,J0X,J2t,hc,J3C,J1t,zc33,sF]
 have hg4:((H2.push (.row [iv 0,iv 0] 32 false false)).put H2.next (.row [iv (J0v l).1,iv (J0v l).2] 32 false false)).get H2.next=.row [iv (J0v l).1,iv (J0v l).2] 32 false false:=J0b rfl (by show H2.next<H2.next+1;omega)
 have hga:((H2.push (.row [iv 0,iv 0] 32 false false)).put H2.next (.row [iv (J0v l).1,iv (J0v l).2] 32 false false)).get h.next=.row [.string ByteArray.empty,.slice none 0 0,.slice none 0 0,.slice none 0 0,.slice none 0 0,.slice none 0 0,.slice none 0 0,iv 0] 27 false false:=by
  rw[J05 (by show H2.next<H2.next+1;omega) (by omega),J06 (by omega)];exact ga
 have hgb:((H2.push (.row [iv 0,iv 0] 32 false false)).put H2.next (.row [iv (J0v l).1,iv (J0v l).2] 32 false false)).get (h.next+1)=.row [iv 0,iv 0] 32 false false:=by
  rw[J05 (by show H2.next<H2.next+1;omega) (by omega),J06 (by omega)];exact gb
 have hgo:∀ i,i<h.next→((H2.push (.row [iv 0,iv 0] 32 false false)).put H2.next (.row [iv (J0v l).1,iv (J0v l).2] 32 false false)).get i=h.get i:=fun i hi=>by
  rw[J05 (by show H2.next<H2.next+1;omega) (by omega),J06 (by omega)];exact ho2 i hi
 have hn3:((H2.push (.row [iv 0,iv 0] 32 false false)).put H2.next (.row [iv (J0v l).1,iv (J0v l).2] 32 false false)).next=h.next+3:=by show H2.next+1=_;omega
 have hf3:((H2.push (.row [iv 0,iv 0] 32 false false)).put H2.next (.row [iv (J0v l).1,iv (J0v l).2] 32 false false)).floor=h.floor:=hf2
 generalize (H2.push (.row [iv 0,iv 0] 32 false false)).put H2.next (.row [iv (J0v l).1,iv (J0v l).2] 32 false false)=H3 at *
 have l4:ld1 0 (H3.get H2.next)=some (iv (J0v l).1):=by rw[hg4];rfl
 cases d:((J0v l).1 != 0) with
 | false=>
  have e0:(J0v l).1=0:=by simpa using d
  simp only[evC,seval,↓evP,rpD,J0G,J0X,J2t,J6a,J7G,l4,d]
  refine hk2 e0 _ _ ?_ ?_ ?_ ⟨hga,hgb⟩ (by omega) hf3 hgo <;> simp only[evC,seval,↓evP,rpC]
 | true=>
  have e0:(J0v l).1≠0:=by simpa using d
  have l42:ldN 2 0 (H3.get H2.next)=some (J2k (J0v l).1 (J0v l).2):=by rw[hg4];rfl
  have sP:=stW sz30 (vs:=[.string ByteArray.empty,.slice none 0 0,.slice none 0 0,.slice none 0 0,.slice none 0 0,.slice none 0 0,.slice none 0 0,iv 0]) hga rfl rfl rfl (by omega)
  have hgb':=(J05 (h:=H3) (i:=h.next) (j:=h.next+1) (o:=.row [.string ByteArray.empty,.slice none 0 0,.slice none 0 0,.slice none 0 0,.slice none 0 0,.slice none 0 0,.slice none 0 0,iv 0] 27 false false) (by omega) (by omega)).trans hgb
  have sF2:=stW (t:=32) sz33 (vs:=[iv (J0v l).1,iv (J0v l).2]) hgb' rfl rfl rfl (by show H3.floor≤_;omega)
  have n1:(some H2.next != some h.next)=true:=by simp;omega
  have i1:idOf (.pointer (some ⟨H2.next,0,none⟩))=some H2.next:=rfl
  have i2:idOf (.pointer (some ⟨h.next,0,none⟩))=some h.next:=rfl
  simp only[evC,seval,↓evP,rpD,J0G,J0X,J2t,J6a,J7G,l4,d]
  refine WK.flags (ops:=Je9) JdL ?_
  refine WKF.begin ?_
  have FF:=aQ @J2n (aQ @l42 (aQ @J28 (aQ @i1 (aQ @i2 (aQ @n1 (aQ @sP @sF2))))))
  refine wst hsn 0 (some 17) (.build 27 #[]) none ?_
  simp only[rgC,seval,J04,J02,WKFC,List.map_cons,List.map_nil,FF]
  refine wst hsn 1 (some 18) (.load 32 (.tmp 4)) none ?_
  simp only[rgC,seval,J04,J02,WKFC,rgL,FF]
  refine wst hsn 2 (none) (.store 27 (.tmp 2) (.tmp 17)) none ?_
  simp only[rgC,seval,J04,J02,WKFC,J17,rgS,FF]
  refine wst hsn 3 (none) (.store 32 (.tmp 3) (.tmp 18)) none ?_
  simp only[rgC,seval,J04,J02,WKFC,J17,rgS,FF]
  refine WKF.done (i:=4) (by kernel_rfl) ?_
  clear FF
  simp only[evC,seval,↓evP,rpD,J0G,J0X,J2t]
  have ha:∀ i,i≠h.next→(H3.put h.next (.row [.string ByteArray.empty,.slice none 0 0,.slice none 0 0,.slice none 0 0,.slice none 0 0,.slice none 0 0,.slice none 0 0,iv 0] 27 false false)).get i=H3.get i:=fun i hi=>J05 (by omega) (Ne.symm hi)
  refine hk1 e0 _ _ ?_ ?_ ⟨?_,J0b rfl (by show h.next+1<H3.next;omega)⟩ (by show h.next+2≤H3.next;omega) hf3 fun i hi=>?_
  ·simp only[evC,seval,↓evP,rpC]
  ·simp only[evC,seval,↓evP,rpC]
  ·rw[J05 (by show h.next+1<H3.next;omega) (by omega)]
   exact J0b rfl (by omega)
  ·rw[J05 (by show h.next+1<H3.next;omega) (by omega),ha i (by omega)]
   exact hgo i hi
set_option maxHeartbeats 4000000 in
theorem JeX (hsn:J1G call) {l:List RowN} {v:Value} {T:Tr} {H:SHeap} {K:Kont} (ht:J2c l) (hlen:l.length<900000000) (hfl:H.floor≤H.next) (hv:J0l H v l) (t0:T.get 0=v)
  (hends:∀ H,J0l H v l→H.floor≤H.next→∃ h',call 79 [v] H=some (.slice (some ⟨H.next,0,none⟩) l.length l.length,h')∧(h'.get H.next=.row (ints (J0o l)) 3 false false∧h'.next=H.next+1∧h'.floor=H.floor∧∀ i,i<H.next→h'.get i=H.get i))
  (hk:∀ T' H' m e r,T'.get 0=v→T'.get 2=T.get 2→T'.get 3=T.get 3→T'.get 5=.pointer (some ⟨m,0,none⟩)→MkRE H' H.next m e r l.length (J52 l) (J0o l) (s0N l)→H.next≤H'.next→H'.floor=H.floor→(∀ i,i<H.next→H'.get i=H.get i)→WK Tryz.prog call N RR6 ⟨T',H'⟩ K) :
  WK Tryz.prog call N RR4 ⟨T,H⟩ K:=by
 show WK _ _ _ (.seq (.region _ _ true) (.seq _ RR6)) _ _
 rw[J4p]
 have hpos:=ht.pos
 obtain⟨x,hx⟩:∃ x,l[0]?=some x:=⟨_,List.getElem?_eq_getElem hpos⟩
 obtain⟨id,q,e0,hid,l0,l1,l2,l3,l4,lr⟩:=hv.row hx
 have hvf:J0l (H.fl (max H.floor H.next)) v l:=hv.mono (Nat.le_refl _) fun _ _=>rfl
 obtain⟨h3,hE,g1,g2,g3,g4⟩:=hends (H.fl (max H.floor H.next)) hvf (by show max H.floor H.next≤H.next;omega)
 simp only[J0J] at hE g1 g2 g4
 have g3':h3.floor=max H.floor H.next:=g3
 have g4':∀ i,i<H.next→h3.get i=H.get i:=g4
 have hnm:J52 l=x.name:=by unfold J52;rw[hx]
 have e0':J0R Tryz.prog 22 v (iv 0)=some (.pointer (some ⟨id,q,none⟩)):=e0
 have hidT:(id<H.next)=True:=by simp[hid]
 have hone:(mk0V x.name (-1) H.next l.length).cells.toList.all one=true:=rfl
 have hcl:(mk0V x.name (-1) H.next l.length).cells.toList=[.string x.name,.slice none 0 0,.slice none 0 0,.slice none 0 0,.slice none 0 0,.slice none 0 0,.slice none 0 0,iv (-1),.slice (some ⟨H.next,0,none⟩) l.length l.length,.slice none 0 0,iv 0,iv 0,iv 0,iv 0,iv 0]:=rfl
 refine WK.flags (ops:=Jdo) JcO ?_
 refine WKF.begin ?_
 have FF:=aQ @t0 (aQ @e0' (aQ @hidT (aQ @J07 (aQ @J0d (aQ @l1 (aQ @J2E (aQ @hE (aQ @J3V (aQ @hone (aQ @hcl @sz93))))))))))
 refine wst hsn 0 (some 19) (.move (.tmp 0)) none ?_
 simp only[rgC,seval,J04,J02,WKFC,FF]
 refine wst hsn 1 (some 20) (.indexAddr 22 (.tmp 19) (.const (Value.int IntKind.i64 0))) none ?_
 simp only[rgC,seval,J04,J02,WKFC,Nat.zero_add,FF]
 refine wst hsn 2 (some 21) (.fieldAddr 60 (.tmp 20) 1) none ?_
 simp only[rgC,seval,J04,J02,WKFC,Nat.zero_add,FF]
 refine wst hsn 3 (some 22) (.load 9 (.tmp 21)) none ?_
 simp only[rgC,seval,J04,J02,WKFC,rgL,FF]
 refine wst hsn 4 (some 23) (.build 27 #[(0,.tmp 22),(7,.const (Value.int IntKind.i64 (-1)))]) none ?_
 simp only[rgC,seval,J04,J02,WKFC,List.map_cons,List.map_nil,FF]
 refine wst hsn 5 (some 24) (.move (.tmp 0)) none ?_
 simp only[rgC,seval,J04,J02,WKFC,FF]
 refine wst hsn 6 (some 25) (.call { callee:=.value (.func 79),args:=#[.tmp 24],argTypes:=#[22] }) none ?_
 simp only[rgC,seval,J04,J02,WKFC,rgK,FF]
 refine wst hsn 7 (some 26) (.build 120 #[(0,.tmp 23),(1,.tmp 25)]) none ?_
 simp only[rgC,seval,J04,J02,WKFC,List.map_cons,List.map_nil,FF]
 refine wst hsn 8 (some 27) (.box 120 (.tmp 26)) none ?_
 simp only[rgC,seval,J04,J02,WKFC,rgA,FF]
 refine wst hsn 9 (some 5) (.assign (.tmp 27)) none ?_
 simp only[rgC,seval,J04,J02,WKFC,FF]
 refine WKF.done (i:=10) (by kernel_rfl) ?_
 clear FF
 have hn4:((h3.fl H.floor).push (.row [.string x.name,.slice none 0 0,.slice none 0 0,.slice none 0 0,.slice none 0 0,.slice none 0 0,.slice none 0 0,iv (-1),.slice (some ⟨H.next,0,none⟩) l.length l.length,.slice none 0 0,iv 0,iv 0,iv 0,iv 0,iv 0] 120 false false)).next=H.next+1+1:=by show h3.next+1=_;omega
 have hf4:((h3.fl H.floor).push (.row [.string x.name,.slice none 0 0,.slice none 0 0,.slice none 0 0,.slice none 0 0,.slice none 0 0,.slice none 0 0,iv (-1),.slice (some ⟨H.next,0,none⟩) l.length l.length,.slice none 0 0,iv 0,iv 0,iv 0,iv 0,iv 0] 120 false false)).floor=H.floor:=rfl
 have gm:((h3.fl H.floor).push (.row [.string x.name,.slice none 0 0,.slice none 0 0,.slice none 0 0,.slice none 0 0,.slice none 0 0,.slice none 0 0,iv (-1),.slice (some ⟨H.next,0,none⟩) l.length l.length,.slice none 0 0,iv 0,iv 0,iv 0,iv 0,iv 0] 120 false false)).get h3.next=.row [.string x.name,.slice none 0 0,.slice none 0 0,.slice none 0 0,.slice none 0 0,.slice none 0 0,.slice none 0 0,iv (-1),.slice (some ⟨H.next,0,none⟩) l.length l.length,.slice none 0 0,iv 0,iv 0,iv 0,iv 0,iv 0] 120 false false:=J0h (h:=h3.fl H.floor)
 have ge:((h3.fl H.floor).push (.row [.string x.name,.slice none 0 0,.slice none 0 0,.slice none 0 0,.slice none 0 0,.slice none 0 0,.slice none 0 0,iv (-1),.slice (some ⟨H.next,0,none⟩) l.length l.length,.slice none 0 0,iv 0,iv 0,iv 0,iv 0,iv 0] 120 false false)).get H.next=.row (ints (J0o l)) 3 false false:=by rw[J06 (by show H.next<h3.next;omega)];exact g1
 have go:∀ i,i<H.next→((h3.fl H.floor).push (.row [.string x.name,.slice none 0 0,.slice none 0 0,.slice none 0 0,.slice none 0 0,.slice none 0 0,.slice none 0 0,iv (-1),.slice (some ⟨H.next,0,none⟩) l.length l.length,.slice none 0 0,iv 0,iv 0,iv 0,iv 0,iv 0] 120 false false)).get i=H.get i:=fun i hi=>by rw[J06 (by show i<h3.next;omega)];exact g4' i hi
 generalize (h3.fl H.floor).push (.row [.string x.name,.slice none 0 0,.slice none 0 0,.slice none 0 0,.slice none 0 0,.slice none 0 0,.slice none 0 0,iv (-1),.slice (some ⟨H.next,0,none⟩) l.length l.length,.slice none 0 0,iv 0,iv 0,iv 0,iv 0,iv 0] 120 false false)=H4 at *
 have hv4:J0l H4 v l:=hv.mono (by omega) go
 have hap:=Jer hv4 hpos (by omega)
 have hm1:ld1 1 (H4.get h3.next)=some (.slice none 0 0):=by rw[gm];rfl
 have gm5:(H4.push (.row (l.flatMap J0e) 60 true false)).get h3.next=.row [.string x.name,.slice none 0 0,.slice none 0 0,.slice none 0 0,.slice none 0 0,.slice none 0 0,.slice none 0 0,iv (-1),.slice (some ⟨H.next,0,none⟩) l.length l.length,.slice none 0 0,iv 0,iv 0,iv 0,iv 0,iv 0] 120 false false:=by rw[J06 (by omega)];exact gm
 have hst:=stc (t:=22) (off:=1) sz22 (v:=.slice (some ⟨H4.next,0,none⟩) l.length unk) rfl rfl gm5 (by simp) (by show H4.floor≤_;omega)
 have hfx:H4.fl (h3.fl H.floor).floor=H4:=by
  show H4.fl H.floor=H4
  rw[← hf4]
  exact J6L H4
 simp only[evC,seval,↓evP,rpD,J0G,J0X,J2t,hfx,J0J,t0,J0z,J0y,J0F,hm1,hap,hst]
 have gput:∀ (o:SObj) (i:Nat),i≠h3.next→((H4.push (.row (l.flatMap J0e) 60 true false)).put h3.next o).get i=(H4.push (.row (l.flatMap J0e) 60 true false)).get i:=fun o i hi=>J05 (by show h3.next<H4.next+1;omega) (Ne.symm hi)
 refine hk _ _ h3.next H.next H4.next ?_ ?_ ?_ ?_ ⟨fun i=>if i=h3.next then 0 else if i=H4.next then 1 else if i=H.next then 10 else 11,fun _=>.slice none 0 0,?_,⟨by simp[s0N],by simp[s0N],by simp[s0N],by simp[s0N],rfl,fun t ht=>by cases ht⟩⟩ ?_ (by show H4.floor=H.floor;exact hf4) fun i hi=>?_
 ·simp only[evC,seval,↓evP,rpC,t0]
 ·simp only[evC,seval,↓evP,rpC]
 ·simp only[evC,seval,↓evP,rpC]
 ·simp only[evC,seval,↓evP,rpC]
 ·exact
   { cell:=by
      rw[J0b rfl (by show h3.next<H4.next+1;omega),hnm]
      simp only[J1p,J39]
      rfl
     rows:=by rw[gput _ _ (by omega)];exact J0h
     len:=rfl
     sl:=fun j h2 h8=>by
      have hj:j=2∨j=3∨j=4∨j=5∨j=6∨j=7∨j=8:=by omega
      rcases hj with rfl | rfl | rfl | rfl | rfl | rfl | rfl <;> exact .inl ⟨rfl,rfl,rfl⟩
     ends:=by rw[gput _ _ (by omega),J06 (by omega)];exact ge
     tm:=if_pos rfl
     tr:=by rw[if_neg (by omega),if_pos rfl]
     te:=by rw[if_neg (by omega),if_neg (by omega),if_pos rfl]
     lm:=⟨by omega,by show h3.next<H4.next+1;omega⟩
     lr:=⟨by omega,by show H4.next<H4.next+1;omega⟩
     le:=⟨Nat.le_refl _,by show H.next<H4.next+1;omega⟩
     fl:=by show H4.floor≤H.next;omega }
 ·show H.next≤H4.next+1
  omega
 ·rw[gput _ _ (by omega),J06 (by omega)];exact go i hi
end
noncomputable def PR4:Code:=rt (rt (Tryz.f22.body.getD .skip))
noncomputable def PR5:Code:=rt PR4
noncomputable def PR6:Code:=rt PR5
noncomputable def PR7:Code:=rt PR6
noncomputable def PR8:Code:=rt PR7
noncomputable def PR19:Code:=rt PR8
noncomputable def JdZ:Array Oper:=J18 Tryz.f22 3
def Jiu:List (Bool × Bool × List Operand):=[(false,true,[]),(false,false,[]),(false,true,[.tmp 4]),(false,false,[])]
theorem Jd2:J1E JdZ=Jiu:=by kernel_rfl
noncomputable def Jd0:Array Oper:=J18 Tryz.f22 5
def Jiw:List (Bool × Bool × List Operand):=[(true,true,[]),(true,true,[.tmp 5]),(true,true,[.tmp 5]),(true,true,[.tmp 5]),(true,true,[.tmp 5]),(false,true,[.tmp 5,.tmp 27]),(false,true,[.tmp 5,.tmp 27]),(false,true,[.tmp 5]),(false,false,[]),(false,false,[]),(false,false,[])]
theorem JcR:J1E Jd0=Jiw:=by kernel_rfl
theorem stL {t:TypeId} {k:Nat} (ht:szOf Tryz.prog t=some k) {h:SHeap} {id:Nat} {vs cs:List Value} {ty:TypeId} {g:Bool} (hg:h.get id=.row cs ty g false) (hl:k≤cs.length) (hn:vs.length=k) (ho:vs.all one=true) (hf:h.floor≤id) :
  J0K Tryz.prog h t (.pointer (some ⟨id,0,none⟩)) (.agg vs.toArray)=some (h.put id (.row (vs++cs.drop k) ty g false)):=by
 have hc:(Value.agg vs.toArray).cells=vs.toArray:=rfl
 have hlay:Go.Sx.lay cs 0 vs=vs++cs.drop k:=by
  simp only[Go.Sx.lay,List.take_zero,List.nil_append,Nat.zero_add,hn]
 simp only[J0K,hc,ht,J1q,hg]
 rw[if_pos (by simp[hn]),if_pos (by simp only[ho];simp;omega),hlay]
theorem J2s {nm:ByteArray} {a:Option Addr} {n c:Nat} {m:Int}:J1P Tryz.prog 27 [(0,.string nm),(1,.slice a n c),(7,iv m)]=some (.agg #[.string nm,.slice a n c,.slice none 0 0,.slice none 0 0,.slice none 0 0,.slice none 0 0,.slice none 0 0,iv m]):=by
 have h:=J82
 rw[Tryz.underlying27] at h
 simp only at h
 simp only[J1P,J5F,J3Y,if_true,Tryz.underlying27,h]
 rfl
theorem JeD:J2Q Tryz.prog (match Tryz.prog.underlying 90 with | some (.struct fs)=>fs.toList | _=>[])=some [(0,8),(8,1),(9,1)]:=by kernel_rfl
theorem JhH:J1w Tryz.prog 90=some (.agg #[.string ByteArray.empty,.slice none 0 0,.slice none 0 0,.slice none 0 0,.slice none 0 0,.slice none 0 0,.slice none 0 0,iv 0,.map none,.map none]):=by kernel_rfl
abbrev mk0 (k c:Nat):Value:=.agg #[.string ByteArray.empty,.slice none 0 0,.slice none 0 0,.slice none 0 0,.slice none 0 0,.slice none 0 0,.slice none 0 0,iv 0,.map (some k),.map (some c)]
theorem Jh5 {k c:Nat}:J1P Tryz.prog 90 [(1,.map (some k)),(2,.map (some c))]=some (mk0 k c):=by
 have h:=JeD
 rw[Tryz.underlying90] at h
 simp only at h
 have hf:flat (.agg #[.string ByteArray.empty,.slice none 0 0,.slice none 0 0,.slice none 0 0,.slice none 0 0,.slice none 0 0,.slice none 0 0,iv 0,.map none,.map none])=true:=rfl
 simp only[J1P,JhH,hf,if_true,Tryz.underlying90,h]
 rfl
theorem sz86:szOf Tryz.prog 94=some 1:=by kernel_rfl
theorem Jja:J2X Tryz.prog 94=some false:=by kernel_rfl
theorem JhC:J1w Tryz.prog 94=some .nilFunc:=by kernel_rfl
theorem Jhx:J1w Tryz.prog 86=some (.pointer none):=by kernel_rfl
theorem Jib:J1w Tryz.prog 25=some (.slice none 0 0):=by kernel_rfl
theorem Jdi {h:SHeap} {id off:Nat}:J2x Tryz.prog h 94 (.pointer (some ⟨id,off,none⟩))=ld1 off (h.get id):=J41 Jja
theorem bs87 {h:SHeap} {f0 f1 f2:FuncId} {a0 a1 a2 b0 b1 b2:Array Value}:J0Q Tryz.prog h 95 3 [(0,.func (.func f0) a0 b0),(1,.func (.func f1) a1 b1),(2,.func (.func f2) a2 b2)]=some (.slice (some ⟨h.next,0,none⟩) 3 3,h.push (.row [.func (.func f0) a0 b0,.func (.func f1) a1 b1,.func (.func f2) a2 b2] 94 false false)):=by
 have hc:∀ (f:FuncId) (a b:Array Value),(Value.func (.func f) a b).cells=#[.func (.func f) a b]:=fun _ _ _=>rfl
 have hz:Value.nilFunc.cells=#[.nilFunc]:=rfl
 simp[J0Q,Tryz.underlying95,sz86,JhC,flat,J1i,hc,hz,J5k,J3e,Go.Sx.lay]
theorem Jj0 {h:SHeap} {id c i:Nat} (hi:i<3):J0R Tryz.prog 95 (.slice (some ⟨id,0,none⟩) 3 c) (iv (i:Int))=some (.pointer (some ⟨id,i,none⟩)):=by
 simp only[J0R,Tryz.underlying95,sz86,J0q]
 rw[if_pos (by omega)]
 simp
theorem Jj3 {h:SHeap} {a:Option Addr} {n c:Nat}:lenS Tryz.prog h 95 (.slice a n c)=some (iv (n:Int)):=by simp[lenS,Tryz.underlying95]
section
variable {N:Nat} {call:J0r}
set_option maxHeartbeats 4000000 in
theorem Je0 (hsn:J1G call) {l:List RowN} {v:Value} {h:SHeap} {K:Kont} (hfl:h.floor≤h.next) (hv:J0l h v l)
  (hg:h.get 0=J14) (hn0:0<h.next)
  (hchk:∀ H,J0l H v l→H.get 0=J14→0<H.next→H.floor≤H.next→call 48 [v] H=some (J2k (J0v l).1 (J0v l).2,H))
  (hk1:(J0v l).1≠0→∀ T' H,T'.get 2=.pointer (some ⟨h.next,0,none⟩)→T'.get 3=.pointer (some ⟨h.next+1,0,none⟩)→Out2 h.next H [.string ByteArray.empty,.slice none 0 0,.slice none 0 0,.slice none 0 0,.slice none 0 0,.slice none 0 0,.slice none 0 0,iv 0] (J0v l).1 (J0v l).2 →
   h.next+2≤H.next→H.floor=h.floor→(∀ i,i<h.next→H.get i=h.get i)→K.ap Tryz.prog call N .ret ⟨T',H⟩)
  (hk2:(J0v l).1=0→∀ T' H,T'.get 0=v→T'.get 2=.pointer (some ⟨h.next,0,none⟩)→T'.get 3=.pointer (some ⟨h.next+1,0,none⟩)→Out2 h.next H [.string ByteArray.empty,.slice none 0 0,.slice none 0 0,.slice none 0 0,.slice none 0 0,.slice none 0 0,.slice none 0 0,iv 0] 0 0 →
   h.next+2≤H.next→H.floor=h.floor→(∀ i,i<h.next→H.get i=h.get i)→WK Tryz.prog call N PR4 ⟨T',H⟩ K) :
  WK Tryz.prog call N (Tryz.f22.body.getD .skip) ⟨J00 0 [v] .leaf,h⟩ K:=by
 show WK _ _ _ (.seq _ (.seq _ PR4)) _ _
 have zc30:(Value.agg #[.string ByteArray.empty,.slice none 0 0,.slice none 0 0,.slice none 0 0,.slice none 0 0,.slice none 0 0,.slice none 0 0,iv 0]).cells.toList=[.string ByteArray.empty,.slice none 0 0,.slice none 0 0,.slice none 0 0,.slice none 0 0,.slice none 0 0,.slice none 0 0,iv 0]:=rfl
 have zc33:(J2k 0 0).cells.toList=[iv 0,iv 0]:=rfl
 have ho2:∀ i,i<h.next→((h.push (.row [.string ByteArray.empty,.slice none 0 0,.slice none 0 0,.slice none 0 0,.slice none 0 0,.slice none 0 0,.slice none 0 0,iv 0] 27 false false)).push (.row [iv 0,iv 0] 32 false false)).get i=h.get i:=fun i hi=>by rw[J06 (by show i<h.next+1;omega),J06 hi]
 have hc:=hchk ((h.push (.row [.string ByteArray.empty,.slice none 0 0,.slice none 0 0,.slice none 0 0,.slice none 0 0,.slice none 0 0,.slice none 0 0,iv 0] 27 false false)).push (.row [iv 0,iv 0] 32 false false)) (hv.mono (by show h.next≤h.next+1+1;omega) ho2) ((ho2 0 hn0).trans hg) (by show 0<h.next+1+1;omega) (by show h.floor≤h.next+1+1;omega)
 have ga:=J4c (h:=h) (o:=.row [.string ByteArray.empty,.slice none 0 0,.slice none 0 0,.slice none 0 0,.slice none 0 0,.slice none 0 0,.slice none 0 0,iv 0] 27 false false) (o':=.row [iv 0,iv 0] 32 false false)
 have gb:=J48 (h:=h) (o:=.row [.string ByteArray.empty,.slice none 0 0,.slice none 0 0,.slice none 0 0,.slice none 0 0,.slice none 0 0,.slice none 0 0,iv 0] 27 false false) (o':=.row [iv 0,iv 0] 32 false false)
 simp only[evC,seval,↓evP,rpD,J0X,J2t,J5F,J3Y,zc30,J3C,J1t,zc33]
 generalize hH2:(h.push (.row [.string ByteArray.empty,.slice none 0 0,.slice none 0 0,.slice none 0 0,.slice none 0 0,.slice none 0 0,.slice none 0 0,iv 0] 27 false false)).push (.row [iv 0,iv 0] 32 false false)=H2 at *
 have hn2:H2.next=h.next+1+1:=by rw[← hH2];rfl
 have hf2:H2.floor=h.floor:=by rw[← hH2];rfl
 have sF:=stW (t:=32) sz33 (h:=H2.push (.row [iv 0,iv 0] 32 false false)) (vs:=[iv (J0v l).1,iv (J0v l).2]) J0h rfl rfl rfl (by show H2.floor≤H2.next;omega)
 simp only[evC,seval,↓evP,rpD,J0X,J2t,hc,J3C,J1t,zc33,sF]
 have hg4:((H2.push (.row [iv 0,iv 0] 32 false false)).put H2.next (.row [iv (J0v l).1,iv (J0v l).2] 32 false false)).get H2.next=.row [iv (J0v l).1,iv (J0v l).2] 32 false false:=J0b rfl (by show H2.next<H2.next+1;omega)
 have hga:((H2.push (.row [iv 0,iv 0] 32 false false)).put H2.next (.row [iv (J0v l).1,iv (J0v l).2] 32 false false)).get h.next=.row [.string ByteArray.empty,.slice none 0 0,.slice none 0 0,.slice none 0 0,.slice none 0 0,.slice none 0 0,.slice none 0 0,iv 0] 27 false false:=by
  rw[J05 (by show H2.next<H2.next+1;omega) (by omega),J06 (by omega)];exact ga
 have hgb:((H2.push (.row [iv 0,iv 0] 32 false false)).put H2.next (.row [iv (J0v l).1,iv (J0v l).2] 32 false false)).get (h.next+1)=.row [iv 0,iv 0] 32 false false:=by
  rw[J05 (by show H2.next<H2.next+1;omega) (by omega),J06 (by omega)];exact gb
 have hgo:∀ i,i<h.next→((H2.push (.row [iv 0,iv 0] 32 false false)).put H2.next (.row [iv (J0v l).1,iv (J0v l).2] 32 false false)).get i=h.get i:=fun i hi=>by
  rw[J05 (by show H2.next<H2.next+1;omega) (by omega),J06 (by omega)];exact ho2 i hi
 have hn3:((H2.push (.row [iv 0,iv 0] 32 false false)).put H2.next (.row [iv (J0v l).1,iv (J0v l).2] 32 false false)).next=h.next+3:=by show H2.next+1=_;omega
 have hf3:((H2.push (.row [iv 0,iv 0] 32 false false)).put H2.next (.row [iv (J0v l).1,iv (J0v l).2] 32 false false)).floor=h.floor:=hf2
 generalize (H2.push (.row [iv 0,iv 0] 32 false false)).put H2.next (.row [iv (J0v l).1,iv (J0v l).2] 32 false false)=H3 at *
 have l4:ld1 0 (H3.get H2.next)=some (iv (J0v l).1):=by rw[hg4];rfl
 cases d:((J0v l).1 != 0) with
 | false=>
  have e0:(J0v l).1=0:=by simpa using d
  simp only[evC,seval,↓evP,rpD,J0G,J0X,J2t,J6a,J7G,l4,d]
  refine hk2 e0 _ _ ?_ ?_ ?_ ⟨hga,hgb⟩ (by omega) hf3 hgo <;> simp only[evC,seval,↓evP,rpC]
 | true=>
  have e0:(J0v l).1≠0:=by simpa using d
  have l42:ldN 2 0 (H3.get H2.next)=some (J2k (J0v l).1 (J0v l).2):=by rw[hg4];rfl
  have sP:=stW sz30 (vs:=[.string ByteArray.empty,.slice none 0 0,.slice none 0 0,.slice none 0 0,.slice none 0 0,.slice none 0 0,.slice none 0 0,iv 0]) hga rfl rfl rfl (by omega)
  have hgb':=(J05 (h:=H3) (i:=h.next) (j:=h.next+1) (o:=.row [.string ByteArray.empty,.slice none 0 0,.slice none 0 0,.slice none 0 0,.slice none 0 0,.slice none 0 0,.slice none 0 0,iv 0] 27 false false) (by omega) (by omega)).trans hgb
  have sF2:=stW (t:=32) sz33 (vs:=[iv (J0v l).1,iv (J0v l).2]) hgb' rfl rfl rfl (by show H3.floor≤_;omega)
  have n1:(some H2.next != some h.next)=true:=by simp;omega
  have i1:idOf (.pointer (some ⟨H2.next,0,none⟩))=some H2.next:=rfl
  have i2:idOf (.pointer (some ⟨h.next,0,none⟩))=some h.next:=rfl
  simp only[evC,seval,↓evP,rpD,J0G,J0X,J2t,J6a,J7G,l4,d]
  refine WK.flags (ops:=JdZ) Jd2 ?_
  refine WKF.begin ?_
  have FF:=aQ @J2n (aQ @l42 (aQ @J28 (aQ @i1 (aQ @i2 (aQ @n1 (aQ @sP @sF2))))))
  refine wst hsn 0 (some 18) (.build 27 #[]) none ?_
  simp only[rgC,seval,J04,J02,WKFC,List.map_cons,List.map_nil,FF]
  refine wst hsn 1 (some 19) (.load 32 (.tmp 4)) none ?_
  simp only[rgC,seval,J04,J02,WKFC,rgL,FF]
  refine wst hsn 2 (none) (.store 27 (.tmp 2) (.tmp 18)) none ?_
  simp only[rgC,seval,J04,J02,WKFC,J17,rgS,FF]
  refine wst hsn 3 (none) (.store 32 (.tmp 3) (.tmp 19)) none ?_
  simp only[rgC,seval,J04,J02,WKFC,J17,rgS,FF]
  refine WKF.done (i:=4) (by kernel_rfl) ?_
  clear FF
  simp only[evC,seval,↓evP,rpD,J0G,J0X,J2t]
  have ha:∀ i,i≠h.next→(H3.put h.next (.row [.string ByteArray.empty,.slice none 0 0,.slice none 0 0,.slice none 0 0,.slice none 0 0,.slice none 0 0,.slice none 0 0,iv 0] 27 false false)).get i=H3.get i:=fun i hi=>J05 (by omega) (Ne.symm hi)
  refine hk1 e0 _ _ ?_ ?_ ⟨?_,J0b rfl (by show h.next+1<H3.next;omega)⟩ (by show h.next+2≤H3.next;omega) hf3 fun i hi=>?_
  ·simp only[evC,seval,↓evP,rpC]
  ·simp only[evC,seval,↓evP,rpC]
  ·rw[J05 (by show h.next+1<H3.next;omega) (by omega)]
   exact J0b rfl (by omega)
  ·rw[J05 (by show h.next+1<H3.next;omega) (by omega),ha i (by omega)]
   exact hgo i hi
structure CellsP (h:SHeap) (m e c5 c6 fl n:Nat) (E:List Int):Prop where
 h5:h.get c5=.row [.pointer (some ⟨m,0,none⟩)] 86 false false
 h6:h.get c6=.row [.slice (some ⟨e,0,none⟩) n n] 25 false false
 hf:h.get fl=.row [.func (.func 51) #[] #[.pointer (some ⟨c5,0,none⟩),.pointer (some ⟨c6,0,none⟩)],.func (.func 53) #[.pointer (some ⟨m,0,none⟩)] #[],.func (.func 54) #[.pointer (some ⟨m,0,none⟩)] #[]] 94 false false
set_option maxHeartbeats 4000000 in
theorem Jdt (hsn:J1G call) {l:List RowN} {v:Value} {T:Tr} {H:SHeap} {K:Kont} (ht:J2c l) (hlen:l.length<900000000) (hfl:H.floor≤H.next) (hv:J0l H v l) (t0:T.get 0=v)
  (hclone:∀ H,J0l H v l→∃ h',call 49 [v] H=some (.slice (some ⟨H.next+1,0,none⟩) l.length unk,h')∧(h'.get (H.next+1)=.row (l.flatMap J0e) 60 true false∧h'.next=H.next+2∧h'.floor=H.floor∧∀ i,i<H.next→h'.get i=H.get i))
  (hends:∀ H,J0l H v l→H.floor≤H.next→∃ h',call 50 [v] H=some (.slice (some ⟨H.next,0,none⟩) l.length l.length,h')∧(h'.get H.next=.row (ints (J0o l)) 3 false false∧h'.next=H.next+1∧h'.floor=H.floor∧∀ i,i<H.next→h'.get i=H.get i))
  (hk:∀ T' H' m k c e r c5 c6 fl,T'.get 0=v→T'.get 2=T.get 2→T'.get 3=T.get 3→T'.get 5=.pointer (some ⟨c5,0,none⟩)→T'.get 6=.pointer (some ⟨c6,0,none⟩)→T'.get 7=.slice (some ⟨fl,0,none⟩) 3 3 →
   MkE H' H.next m k c e r l.length (J52 l) (J0o l) [c5,c6,fl] (s0N l)→CellsP H' m e c5 c6 fl l.length (J0o l)→H.next≤H'.next→H'.floor=H.floor→(∀ i,i<H.next→H'.get i=H.get i)→WK Tryz.prog call N PR8 ⟨T',H'⟩ K) :
  WK Tryz.prog call N PR4 ⟨T,H⟩ K:=by
 show WK _ _ _ (.seq _ (.seq (.region _ _ true) (.seq _ (.seq _ PR8)))) _ _
 have hpos:=ht.pos
 obtain⟨x,hx⟩:∃ x,l[0]?=some x:=⟨_,List.getElem?_eq_getElem hpos⟩
 have hnm:J52 l=x.name:=by unfold J52;rw[hx]
 have mc:(mk0 H.next (H.next+1)).cells.toList=[.string ByteArray.empty,.slice none 0 0,.slice none 0 0,.slice none 0 0,.slice none 0 0,.slice none 0 0,.slice none 0 0,iv 0,.map (some H.next),.map (some (H.next+1))]:=rfl
 have mo:([.string ByteArray.empty,.slice none 0 0,.slice none 0 0,.slice none 0 0,.slice none 0 0,.slice none 0 0,.slice none 0 0,iv 0,.map (some H.next),.map (some (H.next+1))]:List Value).all one=true:=rfl
 have z79:(Value.pointer none).cells.toList=[.pointer none]:=rfl
 have f79:flat (.pointer none)=true:=rfl
 have hst:J0K Tryz.prog ((((H.push (.map [])).push (.map [])).push (.row [.string ByteArray.empty,.slice none 0 0,.slice none 0 0,.slice none 0 0,.slice none 0 0,.slice none 0 0,.slice none 0 0,iv 0,.map (some H.next),.map (some (H.next+1))] 90 false false)).push (.row [.pointer none] 86 false false)) 86 (.pointer (some ⟨H.next+1+1+1,0,none⟩)) (.pointer (some ⟨H.next+1+1,0,none⟩))=_:=
  stc (off:=0) sz79 rfl rfl (J0h (h:=(((H.push (.map [])).push (.map [])).push (.row [.string ByteArray.empty,.slice none 0 0,.slice none 0 0,.slice none 0 0,.slice none 0 0,.slice none 0 0,.slice none 0 0,iv 0,.map (some H.next),.map (some (H.next+1))] 90 false false)))) (by decide) (by show H.floor≤H.next+1+1+1;omega)
 simp only[evC,seval,↓evP,rpD,J0X,J2t,Jh5,mc,mo,sz83,Jhx,z79,f79,hst]
 have n1:(((H.push (.map [])).push (.map [])).push (.row [.string ByteArray.empty,.slice none 0 0,.slice none 0 0,.slice none 0 0,.slice none 0 0,.slice none 0 0,.slice none 0 0,iv 0,.map (some H.next),.map (some (H.next+1))] 90 false false)).next=H.next+1+1+1:=rfl
 have P0:∀ i,i<H.next→((((H.push (.map [])).push (.map [])).push (.row [.string ByteArray.empty,.slice none 0 0,.slice none 0 0,.slice none 0 0,.slice none 0 0,.slice none 0 0,.slice none 0 0,iv 0,.map (some H.next),.map (some (H.next+1))] 90 false false)).push (.row [.pointer none] 86 false false)).get i=H.get i:=fun i hi=>by
  rw[J06 (by show i<H.next+1+1+1;omega),J06 (by show i<H.next+1+1;omega),J06 (by show i<H.next+1;omega),J06 hi]
 have P1:((((H.push (.map [])).push (.map [])).push (.row [.string ByteArray.empty,.slice none 0 0,.slice none 0 0,.slice none 0 0,.slice none 0 0,.slice none 0 0,.slice none 0 0,iv 0,.map (some H.next),.map (some (H.next+1))] 90 false false)).push (.row [.pointer none] 86 false false)).get H.next=.map []:=by
  rw[J06 (by show H.next<H.next+1+1+1;omega),J06 (by show H.next<H.next+1+1;omega)];exact J4c
 have P2:((((H.push (.map [])).push (.map [])).push (.row [.string ByteArray.empty,.slice none 0 0,.slice none 0 0,.slice none 0 0,.slice none 0 0,.slice none 0 0,.slice none 0 0,iv 0,.map (some H.next),.map (some (H.next+1))] 90 false false)).push (.row [.pointer none] 86 false false)).get (H.next+1)=.map []:=by
  rw[J06 (by show H.next+1<H.next+1+1+1;omega),J06 (by show H.next+1<H.next+1+1;omega)];exact J48
 have P3:((((H.push (.map [])).push (.map [])).push (.row [.string ByteArray.empty,.slice none 0 0,.slice none 0 0,.slice none 0 0,.slice none 0 0,.slice none 0 0,.slice none 0 0,iv 0,.map (some H.next),.map (some (H.next+1))] 90 false false)).push (.row [.pointer none] 86 false false)).get (H.next+1+1)=.row [.string ByteArray.empty,.slice none 0 0,.slice none 0 0,.slice none 0 0,.slice none 0 0,.slice none 0 0,.slice none 0 0,iv 0,.map (some H.next),.map (some (H.next+1))] 90 false false:=by
  rw[J06 (by show H.next+1+1<H.next+1+1+1;omega)];exact J0h (h:=(H.push (.map [])).push (.map []))
 have nA:((((H.push (.map [])).push (.map [])).push (.row [.string ByteArray.empty,.slice none 0 0,.slice none 0 0,.slice none 0 0,.slice none 0 0,.slice none 0 0,.slice none 0 0,iv 0,.map (some H.next),.map (some (H.next+1))] 90 false false)).push (.row [.pointer none] 86 false false)).next=H.next+4:=rfl
 have fA:((((H.push (.map [])).push (.map [])).push (.row [.string ByteArray.empty,.slice none 0 0,.slice none 0 0,.slice none 0 0,.slice none 0 0,.slice none 0 0,.slice none 0 0,iv 0,.map (some H.next),.map (some (H.next+1))] 90 false false)).push (.row [.pointer none] 86 false false)).floor=H.floor:=rfl
 generalize (((H.push (.map [])).push (.map [])).push (.row [.string ByteArray.empty,.slice none 0 0,.slice none 0 0,.slice none 0 0,.slice none 0 0,.slice none 0 0,.slice none 0 0,iv 0,.map (some H.next),.map (some (H.next+1))] 90 false false)).push (.row [.pointer none] 86 false false)=A0 at *
 have Q:∀ i,i≠H.next+1+1+1→(A0.put (H.next+1+1+1) (.row ([Value.pointer none].set 0 (.pointer (some ⟨H.next+1+1,0,none⟩))) 86 false false)).get i=A0.get i:=fun i hi=>J05 (by omega) (Ne.symm hi)
 have a0:∀ i,i<H.next→(A0.put (H.next+1+1+1) (.row ([Value.pointer none].set 0 (.pointer (some ⟨H.next+1+1,0,none⟩))) 86 false false)).get i=H.get i:=fun i hi=>by rw[Q i (by omega)];exact P0 i hi
 have a1:=(Q H.next (by omega)).trans P1
 have a2:=(Q (H.next+1) (by omega)).trans P2
 have a3:=(Q (H.next+1+1) (by omega)).trans P3
 have a4:(A0.put (H.next+1+1+1) (.row ([Value.pointer none].set 0 (.pointer (some ⟨H.next+1+1,0,none⟩))) 86 false false)).get (H.next+1+1+1)=.row [.pointer (some ⟨H.next+1+1,0,none⟩)] 86 false false:=J0b rfl (by omega)
 have nB:(A0.put (H.next+1+1+1) (.row ([Value.pointer none].set 0 (.pointer (some ⟨H.next+1+1,0,none⟩))) 86 false false)).next=H.next+4:=nA
 have fB:(A0.put (H.next+1+1+1) (.row ([Value.pointer none].set 0 (.pointer (some ⟨H.next+1+1,0,none⟩))) 86 false false)).floor=H.floor:=fA
 generalize A0.put (H.next+1+1+1) (.row ([Value.pointer none].set 0 (.pointer (some ⟨H.next+1+1,0,none⟩))) 86 false false)=A at *
 clear hst n1 P0 P1 P2 P3 nA fA Q A0
 have hvA:J0l A v l:=hv.mono (by omega) a0
 obtain⟨id,q,e0,hid,l0,l1,l2,l3,l4,lr⟩:=hvA.row hx
 have e0':J0R Tryz.prog 22 v (iv 0)=some (.pointer (some ⟨id,q,none⟩)):=e0
 have hidT:(id<A.next)=True:=by simp[hid]
 have l79:ld1 0 (A.get (H.next+1+1+1))=some (.pointer (some ⟨H.next+1+1,0,none⟩)):=by rw[a4];rfl
 have hvf:J0l (A.fl (max A.floor A.next)) v l:=hvA.mono (Nat.le_refl _) fun _ _=>rfl
 obtain⟨h3,hE,g1,g2,g3,g4⟩:=hclone (A.fl (max A.floor A.next)) hvf
 simp only[J0J] at hE g1 g2 g4
 have g4':∀ i,i<A.next→h3.get i=A.get i:=g4
 have hs30:J0K Tryz.prog (h3.fl A.floor) 27 (.pointer (some ⟨H.next+1+1,0,none⟩)) (.agg #[.string x.name,.slice (some ⟨A.next+1,0,none⟩) l.length unk,.slice none 0 0,.slice none 0 0,.slice none 0 0,.slice none 0 0,.slice none 0 0,iv (-1)])=_:=
  stL (vs:=[.string x.name,.slice (some ⟨A.next+1,0,none⟩) l.length unk,.slice none 0 0,.slice none 0 0,.slice none 0 0,.slice none 0 0,.slice none 0 0,iv (-1)]) sz30 (by rw[J1g,g4' _ (by omega)];exact a3) (by simp only[List.length_cons,List.length_nil];omega) rfl rfl (by show A.floor≤_;omega)
 have i3:((H.next+1+1+1)<A.next)=True:=by simp;omega
 refine WK.flags (ops:=Jd0) JcR ?_
 refine WKF.begin ?_
 have FF:=aQ @t0 (aQ @l79 (aQ @e0' (aQ @hidT (aQ @i3 (aQ @J07 (aQ @J0d (aQ @J1W (aQ @l1 (aQ @hE (aQ @J2s (aQ @J0g @hs30)))))))))))
 refine wst hsn 0 (some 24) (.load 86 (.tmp 5)) none ?_
 simp only[rgC,seval,J04,J02,WKFC,rgL,FF]
 refine wst hsn 1 (some 25) (.move (.tmp 0)) none ?_
 simp only[rgC,seval,J04,J02,WKFC,FF]
 refine wst hsn 2 (some 26) (.indexAddr 22 (.tmp 25) (.const (Value.int IntKind.i64 0))) none ?_
 simp only[rgC,seval,J04,J02,WKFC,Nat.zero_add,FF]
 refine wst hsn 3 (some 27) (.fieldAddr 60 (.tmp 26) 1) none ?_
 simp only[rgC,seval,J04,J02,WKFC,Nat.zero_add,FF]
 refine wst hsn 4 (some 28) (.load 9 (.tmp 27)) none ?_
 simp only[rgC,seval,J04,J02,WKFC,rgL,FF]
 refine wst hsn 5 (some 29) (.move (.tmp 0)) none ?_
 simp only[rgC,seval,J04,J02,WKFC,FF]
 refine wst hsn 6 (some 30) (.call { callee:=.value (.func 49),args:=#[.tmp 29],argTypes:=#[22] }) none ?_
 simp only[rgC,seval,J04,J02,WKFC,rgK,FF]
 refine wst hsn 7 (some 31) (.build 27 #[(0,.tmp 28),(1,.tmp 30),(7,.const (Value.int IntKind.i64 (-1)))]) none ?_
 simp only[rgC,seval,J04,J02,WKFC,List.map_cons,List.map_nil,FF]
 refine wst hsn 8 (some 32) (.nilCheck (.tmp 24)) none ?_
 simp only[rgC,seval,J04,J02,WKFC,FF]
 refine wst hsn 9 (some 33) (.fieldAddr 90 (.tmp 32) 0) none ?_
 simp only[rgC,seval,J04,J02,WKFC,Nat.zero_add,FF]
 refine wst hsn 10 (none) (.store 27 (.tmp 33) (.tmp 31)) none ?_
 simp only[rgC,seval,J04,J02,WKFC,J17,rgS,FF]
 refine WKF.done (i:=11) (by kernel_rfl) ?_
 clear FF
 have hgo:∀ i,i≠H.next+1+1→((h3.fl A.floor).put (H.next+1+1) (SObj.row ([.string x.name,.slice (some ⟨A.next+1,0,none⟩) l.length unk,.slice none 0 0,.slice none 0 0,.slice none 0 0,.slice none 0 0,.slice none 0 0,iv (-1)]++List.drop 8 [.string ByteArray.empty,.slice none 0 0,.slice none 0 0,.slice none 0 0,.slice none 0 0,.slice none 0 0,.slice none 0 0,iv 0,.map (some H.next),.map (some (H.next+1))]) 90 false false)).get i=h3.get i:=fun i hi=>J05 (by show _<h3.next;omega) (Ne.symm hi)
 have b0:∀ i,i<H.next→((h3.fl A.floor).put (H.next+1+1) (SObj.row ([.string x.name,.slice (some ⟨A.next+1,0,none⟩) l.length unk,.slice none 0 0,.slice none 0 0,.slice none 0 0,.slice none 0 0,.slice none 0 0,iv (-1)]++List.drop 8 [.string ByteArray.empty,.slice none 0 0,.slice none 0 0,.slice none 0 0,.slice none 0 0,.slice none 0 0,.slice none 0 0,iv 0,.map (some H.next),.map (some (H.next+1))]) 90 false false)).get i=H.get i:=fun i hi=>by rw[hgo i (by omega),g4' i (by omega),a0 i hi]
 have b1:((h3.fl A.floor).put (H.next+1+1) (SObj.row ([.string x.name,.slice (some ⟨A.next+1,0,none⟩) l.length unk,.slice none 0 0,.slice none 0 0,.slice none 0 0,.slice none 0 0,.slice none 0 0,iv (-1)]++List.drop 8 [.string ByteArray.empty,.slice none 0 0,.slice none 0 0,.slice none 0 0,.slice none 0 0,.slice none 0 0,.slice none 0 0,iv 0,.map (some H.next),.map (some (H.next+1))]) 90 false false)).get H.next=.map []:=by rw[hgo _ (by omega),g4' _ (by omega)];exact a1
 have b2:((h3.fl A.floor).put (H.next+1+1) (SObj.row ([.string x.name,.slice (some ⟨A.next+1,0,none⟩) l.length unk,.slice none 0 0,.slice none 0 0,.slice none 0 0,.slice none 0 0,.slice none 0 0,iv (-1)]++List.drop 8 [.string ByteArray.empty,.slice none 0 0,.slice none 0 0,.slice none 0 0,.slice none 0 0,.slice none 0 0,.slice none 0 0,iv 0,.map (some H.next),.map (some (H.next+1))]) 90 false false)).get (H.next+1)=.map []:=by rw[hgo _ (by omega),g4' _ (by omega)];exact a2
 have b3:((h3.fl A.floor).put (H.next+1+1) (SObj.row ([.string x.name,.slice (some ⟨A.next+1,0,none⟩) l.length unk,.slice none 0 0,.slice none 0 0,.slice none 0 0,.slice none 0 0,.slice none 0 0,iv (-1)]++List.drop 8 [.string ByteArray.empty,.slice none 0 0,.slice none 0 0,.slice none 0 0,.slice none 0 0,.slice none 0 0,.slice none 0 0,iv 0,.map (some H.next),.map (some (H.next+1))]) 90 false false)).get (H.next+1+1)=.row [.string x.name,.slice (some ⟨A.next+1,0,none⟩) l.length unk,.slice none 0 0,.slice none 0 0,.slice none 0 0,.slice none 0 0,.slice none 0 0,iv (-1),.map (some H.next),.map (some (H.next+1))] 90 false false:=J0b rfl (by show _<h3.next;omega)
 have b4:((h3.fl A.floor).put (H.next+1+1) (SObj.row ([.string x.name,.slice (some ⟨A.next+1,0,none⟩) l.length unk,.slice none 0 0,.slice none 0 0,.slice none 0 0,.slice none 0 0,.slice none 0 0,iv (-1)]++List.drop 8 [.string ByteArray.empty,.slice none 0 0,.slice none 0 0,.slice none 0 0,.slice none 0 0,.slice none 0 0,.slice none 0 0,iv 0,.map (some H.next),.map (some (H.next+1))]) 90 false false)).get (H.next+1+1+1)=.row [.pointer (some ⟨H.next+1+1,0,none⟩)] 86 false false:=by rw[hgo _ (by omega),g4' _ (by omega)];exact a4
 have b5:((h3.fl A.floor).put (H.next+1+1) (SObj.row ([.string x.name,.slice (some ⟨A.next+1,0,none⟩) l.length unk,.slice none 0 0,.slice none 0 0,.slice none 0 0,.slice none 0 0,.slice none 0 0,iv (-1)]++List.drop 8 [.string ByteArray.empty,.slice none 0 0,.slice none 0 0,.slice none 0 0,.slice none 0 0,.slice none 0 0,.slice none 0 0,iv 0,.map (some H.next),.map (some (H.next+1))]) 90 false false)).get (A.next+1)=.row (l.flatMap J0e) 60 true false:=by rw[hgo _ (by omega)];exact g1
 have nW:((h3.fl A.floor).put (H.next+1+1) (SObj.row ([.string x.name,.slice (some ⟨A.next+1,0,none⟩) l.length unk,.slice none 0 0,.slice none 0 0,.slice none 0 0,.slice none 0 0,.slice none 0 0,iv (-1)]++List.drop 8 [.string ByteArray.empty,.slice none 0 0,.slice none 0 0,.slice none 0 0,.slice none 0 0,.slice none 0 0,.slice none 0 0,iv 0,.map (some H.next),.map (some (H.next+1))]) 90 false false)).next=H.next+6:=by show h3.next=_;omega
 have fW:((h3.fl A.floor).put (H.next+1+1) (SObj.row ([.string x.name,.slice (some ⟨A.next+1,0,none⟩) l.length unk,.slice none 0 0,.slice none 0 0,.slice none 0 0,.slice none 0 0,.slice none 0 0,iv (-1)]++List.drop 8 [.string ByteArray.empty,.slice none 0 0,.slice none 0 0,.slice none 0 0,.slice none 0 0,.slice none 0 0,.slice none 0 0,iv 0,.map (some H.next),.map (some (H.next+1))]) 90 false false)).floor=H.floor:=fB
 generalize (h3.fl A.floor).put (H.next+1+1) (SObj.row ([.string x.name,.slice (some ⟨A.next+1,0,none⟩) l.length unk,.slice none 0 0,.slice none 0 0,.slice none 0 0,.slice none 0 0,.slice none 0 0,iv (-1)]++List.drop 8 [.string ByteArray.empty,.slice none 0 0,.slice none 0 0,.slice none 0 0,.slice none 0 0,.slice none 0 0,.slice none 0 0,iv 0,.map (some H.next),.map (some (H.next+1))]) 90 false false)=B at *
 have hvB:J0l B v l:=hv.mono (by omega) b0
 obtain⟨h4,hN,k1,k2,k3,k4⟩:=hends B hvB (by omega)
 have z28:(Value.slice none 0 0).cells.toList=[.slice none 0 0]:=rfl
 have f28:flat (.slice none 0 0)=true:=rfl
 have hst:J0K Tryz.prog (h4.push (.row [.slice none 0 0] 25 false false)) 25 (.pointer (some ⟨h4.next,0,none⟩)) (.slice (some ⟨B.next,0,none⟩) l.length l.length)=_:=stc (off:=0) sz28 rfl rfl J0h (by decide) (by show h4.floor≤h4.next;omega)
 have c0:∀ i,i≠h4.next→((h4.push (.row [.slice none 0 0] 25 false false)).put h4.next (.row ([Value.slice none 0 0].set 0 (.slice (some ⟨B.next,0,none⟩) l.length l.length)) 25 false false)).get i=h4.get i:=fun i hi=>by rw[J05 (by show h4.next<h4.next+1;omega) (Ne.symm hi),J3n hi]
 have c6:((h4.push (.row [.slice none 0 0] 25 false false)).put h4.next (.row ([Value.slice none 0 0].set 0 (.slice (some ⟨B.next,0,none⟩) l.length l.length)) 25 false false)).get h4.next=.row [.slice (some ⟨B.next,0,none⟩) l.length l.length] 25 false false:=J0b rfl (by show h4.next<h4.next+1;omega)
 have nC:((h4.push (.row [.slice none 0 0] 25 false false)).put h4.next (.row ([Value.slice none 0 0].set 0 (.slice (some ⟨B.next,0,none⟩) l.length l.length)) 25 false false)).next=H.next+8:=by show h4.next+1=_;omega
 have fC:((h4.push (.row [.slice none 0 0] 25 false false)).put h4.next (.row ([Value.slice none 0 0].set 0 (.slice (some ⟨B.next,0,none⟩) l.length l.length)) 25 false false)).floor=H.floor:=by show h4.floor=_;omega
 simp only[evC,seval,↓evP,rpD,J0X,J2t,t0,hN,Jib,z28,f28,hst]
 generalize (h4.push (.row [.slice none 0 0] 25 false false)).put h4.next (.row ([Value.slice none 0 0].set 0 (.slice (some ⟨B.next,0,none⟩) l.length l.length)) 25 false false)=C at *
 have l5:ld1 0 (C.get (H.next+1+1+1))=some (.pointer (some ⟨H.next+1+1,0,none⟩)):=by rw[c0 _ (by omega),k4 _ (by omega),b4];rfl
 simp only[evC,seval,↓evP,rpD,J0X,J2t,J1W,l5,List.map_toArray,bs87]
 have D0:∀ (o:SObj) i,i<C.next→(C.push o).get i=C.get i:=fun o i hi=>J06 hi
 have D6:∀ (o:SObj) i,i<B.next→(C.push o).get i=B.get i:=fun o i hi=>by rw[D0 o i (by omega),c0 i (by omega),k4 i hi]
 have n4:h4.next=H.next+7:=by omega
 refine hk _ _ (H.next+1+1) H.next (H.next+1) B.next (A.next+1) (H.next+1+1+1) h4.next C.next ?_ ?_ ?_ ?_ ?_ ?_ ⟨fun i=>if i=H.next+1+1 then 0 else if i=A.next+1 then 1 else if i=H.next then 8 else if i=H.next+1 then 9 else if i=B.next then 10 else 11,.slice none 0 0,.slice none 0 0,.slice none 0 0,.slice none 0 0,.slice none 0 0,[],?_,?_,⟨by simp[s0N],by simp[s0N],by simp[s0N],by simp[s0N],rfl,fun t ht=>by cases ht⟩,fun i hi=>?_⟩ ⟨?_,?_,J0h⟩ (by show H.next≤C.next+1;omega) (by show C.floor=H.floor;exact fC) fun i hi=>?_
 ·simp only[evC,seval,↓evP,rpC,t0]
 ·simp only[evC,seval,↓evP,rpC]
 ·simp only[evC,seval,↓evP,rpC]
 ·simp only[evC,seval,↓evP,rpC]
 ·simp only[evC,seval,↓evP,rpC]
 ·simp only[evC,seval,↓evP,rpC]
 ·exact
   { cell:=by rw[D6 _ _ (by omega),b3,hnm];rfl
     pol:=
      { rows:=by rw[D6 _ _ (by omega)];exact b5
        len:=rfl
        tr:=by rw[if_neg (by omega),if_pos rfl]
        lr:=⟨by omega,by show _<C.next+1;omega⟩
        q:=J5j
        v:=J5j
        t:=J5j
        u:=J5j
        o:=J5j }
     known:=by rw[D6 _ _ (by omega)];exact b1
     many:=by rw[D6 _ _ (by omega)];exact b2
     ends:=by rw[D0 _ _ (by omega),c0 _ (by omega)];exact k1
     tm:=if_pos rfl
     tk:=by rw[if_neg (by omega),if_neg (by omega),if_pos rfl]
     tc:=by rw[if_neg (by omega),if_neg (by omega),if_neg (by omega),if_pos rfl]
     te:=by rw[if_neg (by omega),if_neg (by omega),if_neg (by omega),if_neg (by omega),if_pos rfl]
     lm:=⟨by omega,by show _<C.next+1;omega⟩
     lk:=⟨Nat.le_refl _,by show _<C.next+1;omega⟩
     lc:=⟨by omega,by show _<C.next+1;omega⟩
     le:=⟨by omega,by show _<C.next+1;omega⟩
     fl:=by show C.floor≤H.next;omega }
 ·refine⟨fun p hp=>(by cases hp),fun k h1 h4=>?_⟩
  have:cntN (s0N l) k=0:=by unfold cntN;(repeat' split) <;> rfl
  rw[if_pos this]
  rfl
 ·have hii:i=H.next+1+1+1∨i=h4.next∨i=C.next:=by simpa using hi
  refine⟨by show i<C.next+1;omega,?_⟩
  show 11≤(if i=H.next+1+1 then 0 else if i=A.next+1 then 1 else if i=H.next then 8 else if i=H.next+1 then 9 else if i=B.next then 10 else 11)
  rw[if_neg (by omega),if_neg (by omega),if_neg (by omega),if_neg (by omega),if_neg (by omega)]
  exact Nat.le_refl _
 ·rw[D6 _ _ (by omega)];exact b4
 ·rw[D0 _ _ (by omega)];exact c6
 ·rw[D6 _ _ (by omega)];exact b0 i hi
end
noncomputable def XB16:Code:=inB (J81 Tryz.f22 1)
theorem Out2.mono {a:Nat} {H H':SHeap} {cs:List Value} {e p:Int} (h:Out2 a H cs e p) (h0:H'.get a=H.get a) (h1:H'.get (a+1)=H.get (a+1)):Out2 a H' cs e p:=⟨h0.trans h.1,h1.trans h.2⟩
section
variable {N:Nat} {call:J0r}
theorem J4J {a:Nat} {H:SHeap} {cs:List Value} {e p:Int} (h:Out2 a H cs e p) (hl:cs.length=8) (ha:a+1<H.next) (hf:H.floor≤a) {cs':List Value} (hl':cs'.length=8) (ho':cs'.all one=true) {e' p':Int} :
  ∃ H',J0K Tryz.prog H 27 (.pointer (some ⟨a,0,none⟩)) (.agg cs'.toArray)=some (H.put a (.row cs' 27 false false))∧J0K Tryz.prog (H.put a (.row cs' 27 false false)) 32 (.pointer (some ⟨a+1,0,none⟩)) (J2k e' p')=some H' ∧
   Out2 a H' cs' e' p'∧H'.next=H.next∧H'.floor=H.floor∧∀ i,i≠a→i≠a+1→H'.get i=H.get i:=by
 have s1:=stW (k:=8) sz30 h.1 hl hl' ho' hf
 have hb:(H.put a (.row cs' 27 false false)).get (a+1)=.row [iv e,iv p] 32 false false:=by rw[J05 (by omega) (by omega)];exact h.2
 have s2:=stW (t:=32) (k:=2) sz33 (vs:=[iv e',iv p']) hb rfl rfl rfl (by show H.floor≤a+1;omega)
 refine⟨_,s1,s2,⟨?_,J0b rfl (by show a+1<H.next;omega)⟩,rfl,rfl,fun i hi hi'=>?_⟩
 ·rw[J05 (by show a+1<H.next;omega) (by omega)]
  exact J0b rfl (by omega)
 ·rw[J05 (by show a+1<H.next;omega) (by omega),J05 (by omega) (by omega)]
set_option maxHeartbeats 4000000 in
theorem Jc2 {at_ a fl lo m k c e r n:Nat} {nm:ByteArray} {E:List Int} {F:List Nat} {er:Nat→Int} {st:Nat→StN} {T:Tr} {H:SHeap} {K:Kont} {fs:List Value}
  (t2:T.get 2=.pointer (some ⟨a,0,none⟩)) (t3:T.get 3=.pointer (some ⟨a+1,0,none⟩)) (t7:T.get 7=.slice (some ⟨fl,0,none⟩) 3 3) (t44:T.get 44=iv at_)
  (hN:3<N) (hp:MkE H lo m k c e r n nm E F (st 0)) (ha:a+1<lo) (hlo:lo≤H.next) (hout:Out2 a H [.string ByteArray.empty,.slice none 0 0,.slice none 0 0,.slice none 0 0,.slice none 0 0,.slice none 0 0,.slice none 0 0,iv 0] 0 0) (hfa:H.floor≤a) (hfl:H.get fl=.row fs 94 false false) (hFl:fl∈F)
  (hlook:∀ i,i<3→∀ H1,MkE H1 lo m k c e r n nm E F (st i)→J2W H H1 lo F→(∀ j,j<i→er j=0)→∃ fid first cap H2,fs[i]?=some (.func (.func fid) first cap)∧call fid (first.toList++[iv at_]++cap.toList) H1=some (iv (er i),H2)∧J2W H1 H2 lo F∧(er i=0→MkE H2 lo m k c e r n nm E F (st (i+1))))
  (hbad:∀ i,i<3→er i≠0→(∀ j,j<i→er j=0)→∀ T' H',T'.get 2=.pointer (some ⟨a,0,none⟩)→T'.get 3=.pointer (some ⟨a+1,0,none⟩)→Out2 a H' [.string ByteArray.empty,.slice none 0 0,.slice none 0 0,.slice none 0 0,.slice none 0 0,.slice none 0 0,.slice none 0 0,iv 0] (er i) at_→H.next≤H'.next→H'.floor=H.floor→(∀ i,i<a→H'.get i=H.get i)→K.ap Tryz.prog call N .ret ⟨T',H'⟩)
  (hgood:(∀ j,j<3→er j=0)→∀ T' H',(∀ t,t≤7∨(42≤t∧t≤44)→T'.get t=T.get t)→MkE H' lo m k c e r n nm E F (st 3)→J2W H H' lo F→K.ap Tryz.prog call N .normal ⟨T',H'⟩) :
  WK Tryz.prog call N XB16 ⟨T,H⟩ K:=by
 show WK _ _ _ (.seq _ (.seq _ (.block 2 (.loop (.seq _ (.seq _ (.seq (.block 3 _) _))))))) _ _
 simp only[evC,↓reduceIte,Nat.reduceEqDiff,reduceCtorEq,↓evP,t7,t44,Jj3]
 refine WK.loop (fun i s'=>s'.T.get 47=.slice (some ⟨fl,0,none⟩) 3 3∧s'.T.get 48=iv 3∧s'.T.get 49=iv i∧s'.T.get 8=iv at_∧i≤3∧(∀ t,t≤7∨(42≤t∧t≤44)→s'.T.get t=T.get t)∧MkE s'.h lo m k c e r n nm E F (st i)∧J2W H s'.h lo F∧∀ j,j<i→er j=0) 3 hN ?_ ?_
 ·refine⟨by simp only[evC,↓reduceIte,Nat.reduceEqDiff,reduceCtorEq,↓evP,rpC,Nat.reduceAdd,Nat.reduceLT],by simp only[evC,↓reduceIte,Nat.reduceEqDiff,reduceCtorEq,↓evP,rpC,Nat.reduceAdd,Nat.reduceLT];rfl,by simp only[evC,↓reduceIte,Nat.reduceEqDiff,reduceCtorEq,↓evP,rpC,Nat.reduceAdd,Nat.reduceLT];rfl,by simp only[evC,↓reduceIte,Nat.reduceEqDiff,reduceCtorEq,↓evP,rpC,Nat.reduceAdd,Nat.reduceLT],by omega,fun t ht=>?_,hp,⟨fun _ _=>rfl,Nat.le_refl _,rfl⟩,fun j hj=>by omega⟩
  simp only[Tr.get_put,Option.some.injEq]
  repeat rw[if_neg (by omega)]
 ·rintro i ⟨T1,H1⟩ hi ⟨t47,t48,t49,t8,hi3,hkeep,hp1,haf,hz⟩
  simp only at t47 t48 t49 t8 hkeep hp1 haf
  have t2':T1.get 2=.pointer (some ⟨a,0,none⟩):=(hkeep 2 (by omega)).trans t2
  have t3':T1.get 3=.pointer (some ⟨a+1,0,none⟩):=(hkeep 3 (by omega)).trans t3
  by_cases hlt:i<3
  ·have c1:decide ((i:Int)<3)=true:=by simp;omega
   obtain⟨fid,first,cap,H2,hfi,hcall,haf2,hmk⟩:=hlook i hlt H1 hp1 haf hz
   have hfl1:H1.get fl=.row fs 94 false false:=(haf.1 fl (.inr hFl)).trans hfl
   have lf:ld1 i (H1.get fl)=some (.func (.func fid) first cap):=by rw[hfl1];exact hfi
   have hix:=Jj0 (h:=H1) (id:=fl) (c:=3) hlt
   cases d:(er i != 0) with
   | true=>
    have e0:er i≠0:=by simpa using d
    have n2:H.next≤H2.next:=Nat.le_trans haf.2.1 haf2.2.1
    have f2:H2.floor=H.floor:=haf2.2.2.trans haf.2.2
    have o2:∀ i,i<lo→H2.get i=H.get i:=fun i hi=>(haf2.1 i (.inl hi)).trans (haf.1 i (.inl hi))
    have hout2:Out2 a H2 [.string ByteArray.empty,.slice none 0 0,.slice none 0 0,.slice none 0 0,.slice none 0 0,.slice none 0 0,.slice none 0 0,iv 0] 0 0:=hout.mono (o2 a (by omega)) (o2 (a+1) ha)
    obtain⟨H',s1,s2,r1,r2,r3,r4⟩:=J4J hout2 rfl (by omega) (by omega) (cs':=[.string ByteArray.empty,.slice none 0 0,.slice none 0 0,.slice none 0 0,.slice none 0 0,.slice none 0 0,.slice none 0 0,iv 0]) rfl rfl (e':=er i) (p':=at_)
    simp only[evC,seval,↓evP,t47,t48,t49,t8,t2',t3',c1,hix,Jdi,lf,List.toList_toArray,hcall,d,J28,J4G,s1,s2]
    refine hbad i hlt e0 hz _ _ ?_ ?_ r1 (by omega) (r3.trans f2) fun j hj=>(r4 j (by omega) (by omega)).trans (o2 j (by omega))
    ·simp only[evC,seval,↓evP,rpC,t2']
    ·simp only[evC,seval,↓evP,rpC,t3']
   | false=>
    have e0:er i=0:=by simpa using d
    have w1:IntKind.i64.wrap ((i:Int)+1)=((i+1:Nat):Int):=J0s (by omega) (by omega)
    simp only[evC,seval,↓evP,t47,t48,t49,t8,t2',t3',c1,hix,Jdi,lf,List.toList_toArray,hcall,d,w1]
    refine⟨hlt,by omega,fun t ht=>?_,hmk e0,⟨fun i hi=>(haf2.1 i hi).trans (haf.1 i hi),Nat.le_trans haf.2.1 haf2.2.1,haf2.2.2.trans haf.2.2⟩,fun j hj=>?_⟩
    ·repeat rw[if_neg (by omega)]
     exact hkeep t ht
    ·rcases Nat.lt_or_ge j i with h1 | h1
     ·exact hz j h1
     ·have:j=i:=by omega
      subst this
      exact e0
  ·have c1:decide ((i:Int)<3)=false:=by simp;omega
   have:i=3:=by omega
   subst this
   simp only[evC,seval,↓evP,t47,t48,t49,c1]
   refine hgood hz _ _ (fun t ht=>?_) hp1 haf
   simp only[Tr.get_put,Option.some.injEq]
   repeat rw[if_neg (by omega)]
   exact hkeep t ht
end
theorem JeL (k:Int) (h:SHeap) (hk:1≤k∧k≤54):L0 72 [iv k] h=some (iv (J0j k),h):=J0I rfl rfl rfl rfl (J1I J8L hk)
theorem JdA (k:Int) (h:SHeap) (hk:1≤k∧k≤54):L0 74 [iv k] h=some (iv (J1O k),h):=J0I rfl rfl rfl rfl (J1I Jdc hk)
theorem JfH (k:Int) (h:SHeap) (hk:1≤k∧k≤54):L0 75 [iv k] h=some (.bool (J0E k),h):=J0I rfl rfl rfl rfl (J1I J9M hk)
theorem J7P {at_:Nat} {end_:Int} {x:RowN} {s:StN} (hx:s.rows[at_]?=some x):∃ n,(J0W at_ end_ x s).rows[at_]?=some { x with n:=n }:=by
 rw[J8O]
 split
 ·exact⟨x.n,hx⟩
 ·exact⟨_,J4g hx⟩
def erN (at_:Nat) (end_:Int) (x x1 x2:RowN) (s:StN):Nat→Int
 | 0=>J25 x s
 | 1=>J1v at_ x1 (J0W at_ end_ x s)
 | _=>evE x2 (J0D at_ x1 (J0W at_ end_ x s))
def stN (at_:Nat) (end_:Int) (x x1 x2:RowN) (s:StN):Nat→StN
 | 0=>s
 | 1=>J0W at_ end_ x s
 | 2=>J0D at_ x1 (J0W at_ end_ x s)
 | _=>evS at_ x2 (J0D at_ x1 (J0W at_ end_ x s))
theorem Jgq {E:List Int} {at_:Nat} {end_:Int} {x x1 x2:RowN} {s:StN} (hx:s.rows[at_]?=some x) (hE:E[at_]?=some end_) (h1:(J0W at_ end_ x s).rows[at_]?=some x1) (h2:J1v at_ x1 (J0W at_ end_ x s)=0→(J0D at_ x1 (J0W at_ end_ x s)).rows[at_]?=some x2) :
  (∀ i,i<3→erN at_ end_ x x1 x2 s i≠0→(∀ j,j<i→erN at_ end_ x x1 x2 s j=0)→J31 E at_ s=(erN at_ end_ x x1 x2 s i,s))∧((∀ j,j<3→erN at_ end_ x x1 x2 s j=0)→J31 E at_ s=(0,stN at_ end_ x x1 x2 s 3)):=by
 have hEx:(E[at_]?).getD 0=end_:=by rw[hE];rfl
 constructor
 ·intro i hi he hz
  unfold J31
  rw[hx]
  simp only[hEx]
  match i,hi,he,hz with
  | 0,_,he,_=>
   have he:J25 x s≠0:=he
   rw[if_pos he]
   rfl
  | 1,_,he,hz=>
   have h0:J25 x s=0:=hz 0 (by omega)
   have he:J1v at_ x1 (J0W at_ end_ x s)≠0:=he
   rw[if_neg (by simpa using h0),h1]
   simp only
   rw[if_pos he]
   rfl
  | 2,_,he,hz=>
   have h0:J25 x s=0:=hz 0 (by omega)
   have hc:J1v at_ x1 (J0W at_ end_ x s)=0:=hz 1 (by omega)
   have he:evE x2 (J0D at_ x1 (J0W at_ end_ x s))≠0:=he
   rw[if_neg (by simpa using h0),h1]
   simp only
   rw[if_neg (by simpa using hc),h2 hc]
   simp only
   rw[if_pos he]
   rfl
 ·intro hz
  have h0:J25 x s=0:=hz 0 (by omega)
  have hc:J1v at_ x1 (J0W at_ end_ x s)=0:=hz 1 (by omega)
  have he:evE x2 (J0D at_ x1 (J0W at_ end_ x s))=0:=hz 2 (by omega)
  unfold J31
  rw[hx]
  simp only[hEx]
  rw[if_neg (by simpa using h0),h1]
  simp only
  rw[if_neg (by simpa using hc),h2 hc]
  simp only
  rw[if_neg (by simpa using he)]
  rfl
section
variable {n lo m k c e r L:Nat} {h:SHeap} {nm:ByteArray} {E:List Int} {F:List Nat} {s:StN}
theorem Jha {at_:Nat} {end_:Int} {x:RowN} (hp:MkE h lo m k c e r L nm E F s) (hx:s.rows[at_]?=some x) (hkind:1≤x.kind∧x.kind≤54) (hL:L<1099511627776) (he:0≤end_) (hn:0<n) :
  ∃ h',J0T n 52 [.pointer (some ⟨m,0,none⟩),iv at_,iv end_] h=some (iv (J25 x s),h')∧(J2W h h' lo F∧(J25 x s=0→MkE h' lo m k c e r L nm E F (J0W at_ end_ x s))):=by
 obtain⟨n,rfl⟩:∃ j,n=j+1:=⟨n-1,by omega⟩
 exact k_wr (J13 ⟨rfl,rfl,rfl⟩) (Jcy (J1z n).2 hp hx hkind hL he (fun k h' hk=>J2Z (J1M (JeL k h' hk))) fun k h'=>J2Z (Jf8 k h'))
theorem JfZ {at_:Nat} {x:RowN} (hp:MkE h lo m k c e r L nm E F s) (hx:s.rows[at_]?=some x) (hkind:1≤x.kind∧x.kind≤54) (hL:L<1099511627776) (hn:0<n) :
  ∃ h',J0T n 53 [.pointer (some ⟨m,0,none⟩),iv at_] h=some (iv (J1v at_ x s),h')∧(J2W h h' lo F∧(J1v at_ x s=0→MkE h' lo m k c e r L nm E F (J0D at_ x s))):=by
 obtain⟨n,rfl⟩:∃ j,n=j+1:=⟨n-1,by omega⟩
 exact k_wr (J13 ⟨rfl,rfl,rfl⟩) (JcI (J1z n).2 hp hx hkind hL fun k h' hk=>J2Z (J1M (JdA k h' hk)))
theorem Jfk {at_:Nat} {x:RowN} (hp:MkE h lo m k c e r L nm E F s) (hx:s.rows[at_]?=some x) (hkind:1≤x.kind∧x.kind≤54) (hL:L<1099511627776) (hxn:J0E x.kind=true→x.kind≠10→0≤x.n∧x.n<s.on.length) (hn:0<n) :
  ∃ h',J0T n 54 [.pointer (some ⟨m,0,none⟩),iv at_] h=some (iv (evE x s),h')∧(J2W h h' lo F∧(evE x s=0→MkE h' lo m k c e r L nm E F (evS at_ x s))):=by
 obtain⟨n,rfl⟩:∃ j,n=j+1:=⟨n-1,by omega⟩
 exact k_wr (J13 ⟨rfl,rfl,rfl⟩) (Jc9 (J1z n).2 hp hx hkind hL hxn fun k h' hk=>J2Z (J1M (JfH k h' hk)))
theorem JgR {at_ c5 c6:Nat} {end_:Int} {x:RowN} (hp:MkE h lo m k c e r L nm E F s) (hx:s.rows[at_]?=some x) (hkind:1≤x.kind∧x.kind≤54) (hL:L<1099511627776) (he:0≤end_) (hE:E[at_]?=some end_) (hlE:L=E.length)
  (h5:h.get c5=.row [.pointer (some ⟨m,0,none⟩)] 86 false false) (h6:h.get c6=.row [.slice (some ⟨e,0,none⟩) L L] 25 false false) (hn:1<n) :
  ∃ h',J0T n 51 [iv at_,.pointer (some ⟨c5,0,none⟩),.pointer (some ⟨c6,0,none⟩)] h=some (iv (J25 x s),h')∧(J2W h h' lo F∧(J25 x s=0→MkE h' lo m k c e r L nm E F (J0W at_ end_ x s))):=by
 obtain⟨n,rfl⟩:∃ j,n=j+1:=⟨n-1,by omega⟩
 obtain⟨tag,vq,vv,vt,vu,vo,es,hp',_⟩:=id hp
 obtain⟨h',hc,ha,hm⟩:=Jha (n:=n) (at_:=at_) hp hx hkind hL he (by omega)
 exact k_wr (J13 ⟨rfl,rfl,rfl⟩) (JbK (J1z n).2 h5 h6 hp'.ends hE hlE ⟨h',hc,ha.2.2,ha,hm⟩)
theorem Jh3 {l:List RowN} {at_ c5 c6 fl:Nat} {x x1:RowN} {H:SHeap} (ht:J2c l) (hL:l.length<900000000) (hat:at_<l.length) (hi:InvR l at_ s) (hx:s.rows[at_]?=some x) (h1:(J0W at_ (endN l at_) x s).rows[at_]?=some x1) (hcl:CellsP H m e c5 c6 fl l.length (J0o l)) (h5:c5∈F) (h6:c6∈F) (hfl:fl∈F) (hn:3<n) :
  ∃ x2,(J1v at_ x1 (J0W at_ (endN l at_) x s)=0→(J0D at_ x1 (J0W at_ (endN l at_) x s)).rows[at_]?=some x2)∧∀ i,i<3→∀ H1,MkE H1 lo m k c e r l.length nm (J0o l) F (stN at_ (endN l at_) x x1 x2 s i)→J2W H H1 lo F→(∀ j,j<i→erN at_ (endN l at_) x x1 x2 s j=0) →
   ∃ fid first cap H2,([.func (.func 51) #[] #[.pointer (some ⟨c5,0,none⟩),.pointer (some ⟨c6,0,none⟩)],.func (.func 53) #[.pointer (some ⟨m,0,none⟩)] #[],.func (.func 54) #[.pointer (some ⟨m,0,none⟩)] #[]]:List Value)[i]?=some (.func (.func fid) first cap) ∧
    J0T n fid (first.toList++[iv at_]++cap.toList) H1=some (iv (erN at_ (endN l at_) x x1 x2 s i),H2)∧J2W H1 H2 lo F∧(erN at_ (endN l at_) x x1 x2 s i=0→MkE H2 lo m k c e r l.length nm (J0o l) F (stN at_ (endN l at_) x x1 x2 s (i+1))):=by
 have hkind:=J68 ht hi x (List.mem_of_getElem? hx)
 obtain⟨n1,hx1⟩:=J7P (end_:=endN l at_) hx
 rw[h1] at hx1
 cases hx1
 obtain⟨x2,hx2⟩:∃ x2,J1v at_ { x with n:=n1 } (J0W at_ (endN l at_) x s)=0→(J0D at_ { x with n:=n1 } (J0W at_ (endN l at_) x s)).rows[at_]?=some x2∧(∃ n,x2={ x with n:=n })∧(x2.kind≠10→J0E x2.kind=true→WfS (J0D at_ { x with n:=n1 } (J0W at_ (endN l at_) x s))→0≤x2.n∧x2.n<(J0D at_ { x with n:=n1 } (J0W at_ (endN l at_) x s)).on.length):=by
  by_cases hc:J1v at_ { x with n:=n1 } (J0W at_ (endN l at_) x s)=0
  ·obtain⟨n2,a1,a2,a3,a4,a5,a6⟩:=J6j h1 hc
   refine⟨_,fun _=>⟨a1,⟨n2,rfl⟩,fun h10 hev hw=>?_⟩⟩
   have hd:=J6v (k:=x.kind) hev h10
   rcases a6 with⟨b1,_⟩ | ⟨t,b1,b2,b3,_⟩
   ·have b1:J1O x.kind=0:=b1
    rw[hd.1] at b1
    cases b1
   ·have b2:t.kind=J1O x.kind:=b2
    rw[hd.1] at b2
    rw[← a5] at b1
    obtain⟨_,_,q1,q2,_⟩:=hw.th t b1
    rw[b2] at q2
    have q3:t.num<((J0D at_ { x with n:=n1 } (J0W at_ (endN l at_) x s)).queues.length:Int):=q2
    rw[← hw.o] at q3
    simp only
    rw[b3]
    exact⟨q1,q3⟩
  ·exact⟨x,fun h=>absurd h hc⟩
 refine⟨x2,fun h=>(hx2 h).1,?_⟩
 intro i hi3 H1 hp haf hz
 have hEat:(J0o l)[at_]?=some (endN l at_:Int):=J2B hat
 match i,hi3 with
 | 0,_=>
  have g5:H1.get c5=_:=(haf.1 c5 (.inr h5)).trans hcl.h5
  have g6:H1.get c6=_:=(haf.1 c6 (.inr h6)).trans hcl.h6
  obtain⟨H2,q1,q2,q3⟩:=JgR (n:=n) (s:=s) (at_:=at_) hp hx hkind (by omega) (by omega) hEat (by rw[J39]) g5 g6 (by omega)
  exact⟨_,#[],#[.pointer (some ⟨c5,0,none⟩),.pointer (some ⟨c6,0,none⟩)],H2,rfl,q1,q2,q3⟩
 | 1,_=>
  obtain⟨H2,q1,q2,q3⟩:=JfZ (n:=n) (s:=J0W at_ (endN l at_) x s) (at_:=at_) hp h1 hkind (by omega) (by omega)
  exact⟨_,#[.pointer (some ⟨m,0,none⟩)],#[],H2,rfl,q1,q2,q3⟩
 | 2,_=>
  have hc:J1v at_ { x with n:=n1 } (J0W at_ (endN l at_) x s)=0:=hz 1 (by omega)
  obtain⟨r1,⟨n2,r2⟩,r3⟩:=hx2 hc
  have hw:WfS (J0D at_ { x with n:=n1 } (J0W at_ (endN l at_) x s)):=by
   obtain⟨_,_,_,_,_,_,_,_,_,hw,_⟩:=id hp
   exact hw
  obtain⟨H2,q1,q2,q3⟩:=Jfk (n:=n) (s:=J0D at_ { x with n:=n1 } (J0W at_ (endN l at_) x s)) (at_:=at_) hp r1 (by rw[r2];exact hkind) (by omega) (fun a b=>r3 b a hw) (by omega)
  exact⟨_,#[.pointer (some ⟨m,0,none⟩)],#[],H2,rfl,q1,q2,q3⟩
end
theorem Jcp {h:SHeap} {r:Nat} {rows:List RowN} {lo hi:Nat} (hg:h.get r=.row (rows.flatMap J0e) 60 true false) (hr:r<h.next) (hlh:lo≤hi) (hhi:hi≤rows.length) :
  ∃ v',J2M Tryz.prog h 22 (.slice (some ⟨r,0,none⟩) rows.length unk) (some (iv lo)) (some (iv hi)) none=some v'∧J0l h v' ((rows.drop lo).take (hi-lo)):=by
 have hl:((rows.drop lo).take (hi-lo)).length=hi-lo:=by rw[List.length_take,List.length_drop];omega
 refine⟨.slice (some ⟨r,lo*5,none⟩) (hi-lo) unk,?_,?_⟩
 ·simp only[J2M,Tryz.underlying22,sz46,J3a,if_true]
  rw[if_pos (by omega)]
  simp only[Int.toNat_natCast]
  rw[if_pos (by omega)]
  simp only[Int.toNat_natCast]
  by_cases h0:lo=0
  ·subst h0
   rw[if_pos rfl]
   simp
  ·rw[if_neg h0,hg]
   simp only[sz46,if_true,Nat.zero_add]
 ·refine⟨some ⟨r,lo*5,none⟩,unk,by rw[hl],.inr ⟨r,lo*5,_,_,_,_,rfl,hg,hr,fun k x hk=>?_⟩⟩
  have hk1:=(List.getElem?_eq_some_iff.1 hk).1
  rw[List.getElem?_take_of_lt (by omega),List.getElem?_drop] at hk
  rw[show lo*5+k*5=(lo+k)*5 by omega]
  exact J2Y hk
section
variable {n lo m k c e r L:Nat} {h:SHeap} {nm:ByteArray} {E:List Int} {F:List Nat} {s:StN}
theorem Jdw {pb eb sb row:Nat} {rows:List RowN} {E rules sums:List Int} (hL:Laying rows E rules) (hc:CntAt h pb eb sb rows E sums) (hs:Sums sums) (hsl:sums.length=rules.length) (hfl:h.floor≤h.next) (hrow:row<rows.length) (hn:rows.length+8<n) :
  J0T n 115 [iv row,.pointer (some ⟨pb,0,none⟩),.pointer (some ⟨eb,0,none⟩),.pointer (some ⟨sb,0,none⟩)] h=some (iv (cAt rows E sums row),h):=by
 obtain⟨n,rfl⟩:∃ j,n=j+1:=⟨n-1,by omega⟩
 obtain⟨q,q1,q2,q3,q4⟩:=hL.end hrow
 have hc':cAt rows E sums row=J2j sums ((rows.drop row).take (q-row)) 0:=by unfold cAt;rw[q1];rfl
 rw[hc']
 exact J4r (J13 ⟨rfl,rfl,rfl⟩) rfl (Jbj (J1z n).2 hc hs hfl q1 q2 q3 (by have:=hL.len;omega) (by omega)
  (fun x hx h22=>by rw[hsl];exact hL.calls x (List.mem_of_mem_drop (List.mem_of_mem_take hx)) h22) fun a b h' hb ha=>J2Z (Jdp h' hb ha))
theorem Jg7 {rows:List RowN} {E rules:List Int} (hL:Laying rows E rules) {v0 vr v2 v3 v4 vu v6 v7:Value} {e ce:Nat} {ge:Bool} (hone:[v0,vr,v2,v3,v4,vu,v6,v7].all one=true) (hfl:h.floor≤h.next) (hn:rows.length+rules.length+12<n)
  (hsl:∀ (lo hi:Nat) h',(∀ i,i<h.next→h'.get i=h.get i)→h.next≤h'.next→lo≤hi→hi≤rows.length→∃ v',J2M Tryz.prog h' 22 vr (some (iv lo)) (some (iv hi)) none=some v'∧J0l h' v' ((rows.drop lo).take (hi-lo)))
  {lu:Nat} (hu:J1S lu h vu rules) (he:h.get e=.row (ints E) 3 ge false) (hel:e<h.next) :
  ∃ h',J0T n 76 [.agg #[v0,vr,v2,v3,v4,vu,v6,v7],.slice (some ⟨e,0,none⟩) E.length ce] h=some (.func (.func 115) #[] #[.pointer (some ⟨h.next,0,none⟩),.pointer (some ⟨h.next+1,0,none⟩),.pointer (some ⟨h.next+3,0,none⟩)],h') ∧
   (CntAt h' h.next (h.next+1) (h.next+3) rows E (J42 rows E rules)∧h.next≤h'.next∧h'.floor=h.floor∧∀ i,i<h.next→h'.get i=h.get i):=by
 obtain⟨n,rfl⟩:∃ j,n=j+1:=⟨n-1,by omega⟩
 refine Jc0 (J13 ⟨rfl,rfl,rfl⟩) rfl (Jbn (J1z n).2 hL hone hfl (by omega) (by omega) hsl (fun h'=>hu.len) ?_ ?_ he hel ?_)
 ·obtain⟨_,a,c,h1,_⟩:=hu
  exact⟨a,c,h1⟩
 ·intro h' hold i ru hi
  obtain⟨id,p,h1,h2,h3⟩:=J1S.get hu hi
  exact⟨id,p,h1,by rw[hold id h2];exact h3⟩
 ·intro pb eb sb row sums h' hc hsl' hs hfl' hrow
  exact Jdw hL hc hs hsl' hfl' hrow (by omega)
theorem JgH {tag:Nat→Nat} {vq vv vt vu vo:Value} {es:List (Value × Value)} {l:List RowN} (hp:MkP h lo m k c e r l.length nm (J0o l) tag vq vv vt vu vo es s) (ht:J2c l) (hlen:l.length<900000000) (hi:InvR l l.length s) (hfl:h.floor≤h.next) (hn:l.length+100<n) :
  J0T n 55 [.pointer (some ⟨m,0,none⟩),.slice (some ⟨e,0,none⟩) l.length l.length] h=some (iv (J2K s.rows (J0o l) s.rules),h):=by
 obtain⟨n,rfl⟩:∃ j,n=j+1:=⟨n-1,by omega⟩
 have hL:=J8n ht (by omega) hi
 have hnu:=hi.wf.u
 have hrl:=hi.len
 have hpl:=hp.pol.len
 refine J4r (J13 ⟨rfl,rfl,rfl⟩) rfl (JbC (pb:=h.next) (eb:=h.next+1) (sb:=h.next+3) hp hL hfl (by omega) (J68 ht hi) (Jfw ht hi) ?_ (fun k h' hk=>J2Z (J1M (JfH k h' hk))) (fun a b h' hb ha=>J2Z (Jdp h' hb ha)) ?_)
 ·have hE:(J0o l).length=l.length:=J39
  have hs:∀ (lo hi:Nat) (h':SHeap),(∀ i,i<h.next→h'.get i=h.get i)→h.next≤h'.next→lo≤hi→hi≤s.rows.length→∃ v',J2M Tryz.prog h' 22 (.slice (some ⟨r,0,none⟩) l.length unk) (some (iv lo)) (some (iv hi)) none=some v'∧J0l h' v' ((s.rows.drop lo).take (hi-lo)):=fun lo hi h' ho hx a b=>by
   have:=Jcp (h:=h') (r:=r) (rows:=s.rows) (by rw[ho r hp.pol.lr.2];exact hp.pol.rows) (by have:=hp.pol.lr.2;omega) a b
   rw[hpl] at this
   exact this
  have:=Jg7 (n:=n) (h:=h) (ce:=l.length) (v0:=.string nm) (v2:=vq) (v3:=vv) (v4:=vt) (v6:=vo) (v7:=iv s.miss) (vr:=.slice (some ⟨r,0,none⟩) l.length unk) hL ?_ hfl (by omega) hs (J1S.weak (hp.pol.u.cells (by rw[J1h,Nat.mul_one])) (Nat.zero_le _)) hp.ends hp.le.2
  ·rw[hE] at this
   exact this
  ·have q1:=(hp.pol.q.cells (w:=2) (J2J _)).one
   have q2:=(hp.pol.v.cells (w:=1) (by rw[J4W,Nat.mul_one])).one
   have q3:=(hp.pol.t.cells (w:=1) (by rw[J4W,Nat.mul_one])).one
   have q4:=(hp.pol.u.cells (w:=1) (by rw[J1h,Nat.mul_one])).one
   have q5:=(hp.pol.o.cells (w:=1) (by rw[J1h,Nat.mul_one])).one
   simp only[List.all_cons,List.all_nil,q1,q2,q3,q4,q5,J5J,J5K,Bool.and_self]
   rfl
 ·intro row h' hc hfl' hrow
  exact Jdw hL hc (J6d).1 (J6d).2 hfl' hrow (by omega)
end
theorem J2W.trans {h H H':SHeap} {lo:Nat} {F:List Nat} (a:J2W h H lo F) (b:J2W H H' lo F):J2W h H' lo F:=⟨fun i hi=>(b.1 i hi).trans (a.1 i hi),Nat.le_trans a.2.1 b.2.1,b.2.2.trans a.2.2⟩
section
variable {n N:Nat}
set_option maxHeartbeats 4000000 in
theorem Jbf {l:List RowN} {v:Value} {T:Tr} {H:SHeap} {K:Kont} {a fl lo m k c e r c5 c6:Nat} {nm:ByteArray} {F:List Nat} (ht:J2c l) (hL:l.length<900000000) (hn:3<n) (hN:l.length+3<N)
  (t0:T.get 0=v) (t2:T.get 2=.pointer (some ⟨a,0,none⟩)) (t3:T.get 3=.pointer (some ⟨a+1,0,none⟩)) (t7:T.get 7=.slice (some ⟨fl,0,none⟩) 3 3) (hv:J0l H v l)
  (hp:MkE H lo m k c e r l.length nm (J0o l) F (s0N l)) (hcl:CellsP H m e c5 c6 fl l.length (J0o l)) (h5:c5∈F) (h6:c6∈F) (hfl:fl∈F) (ha:a+1<lo) (hlo:lo≤H.next) (hout:Out2 a H [.string ByteArray.empty,.slice none 0 0,.slice none 0 0,.slice none 0 0,.slice none 0 0,.slice none 0 0,.slice none 0 0,iv 0] 0 0) (hfa:H.floor≤a)
  (hbad:(goN (J0o l) l.length 0 (s0N l)).1≠0→∀ T' H',T'.get 2=.pointer (some ⟨a,0,none⟩)→T'.get 3=.pointer (some ⟨a+1,0,none⟩)→Out2 a H' [.string ByteArray.empty,.slice none 0 0,.slice none 0 0,.slice none 0 0,.slice none 0 0,.slice none 0 0,.slice none 0 0,iv 0] (goN (J0o l) l.length 0 (s0N l)).1 (goN (J0o l) l.length 0 (s0N l)).2.1→H.next≤H'.next→H'.floor=H.floor→(∀ i,i<a→H'.get i=H.get i)→K.ap Tryz.prog (J0T n) N .ret ⟨T',H'⟩)
  (hgood:(goN (J0o l) l.length 0 (s0N l)).1=0→∀ T' H',(∀ t,t≤7→T'.get t=T.get t)→MkE H' lo m k c e r l.length nm (J0o l) F (goN (J0o l) l.length 0 (s0N l)).2.2→InvR l l.length (goN (J0o l) l.length 0 (s0N l)).2.2→J2W H H' lo F→WK Tryz.prog (J0T n) N PR19 ⟨T',H'⟩ K) :
  WK Tryz.prog (J0T n) N PR8 ⟨T,H⟩ K:=by
 show WK _ _ _ (.seq (.seq _ (.block 0 (.loop (.seq _ (.seq _ (.seq (.block 1 XB16) _)))))) PR19) _ _
 have hlen:=fun h'=>hv.len (h':=h')
 simp only[evC,seval,↓evP,t0,hlen]
 refine WK.loop (fun i s'=>s'.T.get 43=iv l.length∧s'.T.get 44=iv i∧i≤l.length∧(∀ t,t≤7→s'.T.get t=T.get t)∧J2W H s'.h lo F∧∃ s,MkE s'.h lo m k c e r l.length nm (J0o l) F s∧InvR l i s∧goN (J0o l) (l.length-i) i s=goN (J0o l) l.length 0 (s0N l)) l.length (by omega) ?_ ?_
 ·refine⟨by simp only[evC,↓reduceIte,Nat.reduceEqDiff,reduceCtorEq,↓evP,rpC,Nat.reduceAdd,Nat.reduceLT],by simp only[evC,↓reduceIte,Nat.reduceEqDiff,reduceCtorEq,↓evP,rpC,Nat.reduceAdd,Nat.reduceLT];rfl,by omega,fun t ht=>?_,⟨fun _ _=>rfl,Nat.le_refl _,rfl⟩,s0N l,hp,inv0 l,rfl⟩
  simp only[Tr.get_put,Option.some.injEq]
  repeat rw[if_neg (by omega)]
 ·rintro i ⟨T1,H1⟩ hi ⟨t43,t44,hil,hkeep,haf,s,hp1,hin,hgo⟩
  simp only at t43 t44 hkeep haf hp1
  by_cases hlt:i<l.length
  ·have c1:decide ((i:Int)<(l.length:Int))=true:=by simp;omega
   obtain⟨x,hx⟩:∃ x,s.rows[i]?=some x:=⟨_,List.getElem?_eq_getElem (by rw[hin.len];exact hlt)⟩
   obtain⟨n1,h1⟩:=J7P (end_:=endN l i) hx
   have hcl1:CellsP H1 m e c5 c6 fl l.length (J0o l):=⟨(haf.1 c5 (.inr h5)).trans hcl.h5,(haf.1 c6 (.inr h6)).trans hcl.h6,(haf.1 fl (.inr hfl)).trans hcl.hf⟩
   obtain⟨x2,hx2,hlook⟩:=Jh3 (n:=n) (lo:=lo) (k:=k) (c:=c) (r:=r) (nm:=nm) (F:=F) ht hL hlt hin hx h1 hcl1 h5 h6 hfl hn
   obtain⟨sb,sg⟩:=Jgq (E:=J0o l) hx (J2B hlt) h1 hx2
   have hr:l.length-i=(l.length-(i+1))+1:=by omega
   rw[hr] at hgo
   have hout1:Out2 a H1 [.string ByteArray.empty,.slice none 0 0,.slice none 0 0,.slice none 0 0,.slice none 0 0,.slice none 0 0,.slice none 0 0,iv 0] 0 0:=hout.mono (haf.1 a (.inl (by omega))) (haf.1 (a+1) (.inl ha))
   have hn1:=haf.2.1
   have hf1:=haf.2.2
   have w1:IntKind.i64.wrap ((i:Int)+1)=((i+1:Nat):Int):=J0s (by omega) (by omega)
   have hkp:∀ t,t≤44→(T1.put (some 45) (Value.bool true)).get t=T1.get t:=fun t ht=>by
    rw[Tr.get_put,if_neg (fun h=>by have h9:(45:Nat)=t:=Option.some.inj h;omega)]
   simp only[evC,seval,↓evP,t43,t44,c1]
   refine Jc2 (a:=a) (fl:=fl) (er:=erN i (endN l i) x { x with n:=n1 } x2 s) (st:=stN i (endN l i) x { x with n:=n1 } x2 s) (E:=J0o l) (F:=F) ((hkp 2 (by omega)).trans ((hkeep 2 (by omega)).trans t2)) ((hkp 3 (by omega)).trans ((hkeep 3 (by omega)).trans t3)) ((hkp 7 (by omega)).trans ((hkeep 7 (by omega)).trans t7)) ((hkp 44 (by omega)).trans t44) (by omega) hp1 ha (by omega) hout1 (by omega) hcl1.hf hfl hlook ?_ ?_
   ·intro j hj he hz T' H' g2 g3 ho hnx hfx hox
    have hst:=sb j hj he hz
    have hg:goN (J0o l) l.length 0 (s0N l)=(erN i (endN l i) x { x with n:=n1 } x2 s j,i,s):=by
     rw[← hgo]
     unfold goN
     rw[hst,if_pos he]
    simp only[evC,seval,↓evP]
    refine hbad (by rw[hg];exact he) T' H' g2 g3 (by rw[hg];exact ho) (by omega) (by omega) fun q hq=>(hox q hq).trans (haf.1 q (.inl (by omega)))
   ·intro hz T' H' hk' hp' haf'
    have hst:=sg hz
    have e0:(J31 (J0o l) i s).1=0:=by rw[hst]
    have hin':=J6b ht (J3T i) hlt hin e0
    rw[hst] at hin'
    have hg:goN (J0o l) (l.length-(i+1)) (i+1) (stN i (endN l i) x { x with n:=n1 } x2 s 3)=goN (J0o l) l.length 0 (s0N l):=by
     rw[← hgo]
     conv=>rhs;unfold goN
     rw[if_neg (by rw[e0];simp),hst]
    have u43:=(hk' 43 (by omega)).trans ((hkp 43 (by omega)).trans t43)
    have u44:=(hk' 44 (by omega)).trans ((hkp 44 (by omega)).trans t44)
    simp only[evC,seval,↓evP,u43,u44,w1]
    refine⟨hlt,by omega,fun t ht=>?_,haf.trans haf',_,hp',hin',hg⟩
    repeat rw[if_neg (by omega)]
    exact(hk' t (by omega)).trans ((hkp t (by omega)).trans (hkeep t ht))
  ·have c1:decide ((i:Int)<(l.length:Int))=false:=by simp;omega
   have:i=l.length:=by omega
   subst this
   have hg:goN (J0o l) l.length 0 (s0N l)=(0,l.length,s):=by
    rw[← hgo,Nat.sub_self]
    rfl
   simp only[evC,seval,↓evP,t43,t44,c1]
   refine hgood (by rw[hg]) _ _ (fun t ht=>?_) (by rw[hg];exact hp1) (by rw[hg];exact hin) haf
   simp only[Tr.get_put,Option.some.injEq]
   repeat rw[if_neg (by omega)]
   exact hkeep t ht
theorem MkP.polAt {h:SHeap} {lo m k c e r n:Nat} {nm:ByteArray} {E:List Int} {tag:Nat→Nat} {vq vv vt vu vo:Value} {es:List (Value × Value)} {s:StN} (hp:MkP h lo m k c e r n nm E tag vq vv vt vu vo es s) :
  J3x lo h (.agg #[.string nm,.slice (some ⟨r,0,none⟩) n unk,vq,vv,vt,vu,vo,iv s.miss]) nm s:=by
 refine⟨_,vq,vv,vt,vu,vo,rfl,J3P.of ?_,hp.pol.q.cells (J2J _),hp.pol.v.cells (by simp[strs]),hp.pol.t.cells (by simp[strs]),hp.pol.u.cells (by rw[J1h,Nat.mul_one]),hp.pol.o.cells (by rw[J1h,Nat.mul_one])⟩
 have hl:=hp.pol.len
 subst hl
 exact J0p.row (ex:=[]) (by rw[List.append_nil];exact hp.pol.rows) hp.pol.lr (J0N _)
theorem J3x.weak {lo lo':Nat} {h:SHeap} {pv:Value} {nm:ByteArray} {s:StN} (hp:J3x lo h pv nm s) (hl:lo'≤lo):J3x lo' h pv nm s:=by
 obtain⟨vr,vq,vv,vt,vu,vo,h1,h2,h3,h4,h5,h6,h7⟩:=hp
 exact⟨vr,vq,vv,vt,vu,vo,h1,J3P.of (h2.2.weak hl),h3.weak hl,h4.weak hl,h5.weak hl,h6.weak hl,h7.weak hl⟩
def OwnS (lo:Nat) (h:SHeap) (pv:Value) (nm:ByteArray) (s:StN):Prop:=
 ∃ tag r vq vv vt vu vo,pv=.agg #[.string nm,.slice (some ⟨r,0,none⟩) s.rows.length unk,vq,vv,vt,vu,vo,iv s.miss]∧PolS h lo tag r s.rows.length vq vv vt vu vo s
theorem SlAt.weak {h:SHeap} {lo lo':Nat} {tag:Nat→Nat} {j:Nat} {v:Value} {n:Nat} {cs:List Value} {ty:TypeId} (hs:SlAt h lo tag j v n cs ty) (hl:lo'≤lo):SlAt h lo' tag j v n cs ty:=by
 rcases hs with h1 | ⟨id,ex,h1,h2,h3,h4,h5⟩
 ·exact .inl h1
 ·exact .inr ⟨id,ex,h1,h2,by omega,h4,h5⟩
theorem PolS.weak {h:SHeap} {lo lo':Nat} {tag:Nat→Nat} {r n:Nat} {vq vv vt vu vo:Value} {s:StN} (hp:PolS h lo tag r n vq vv vt vu vo s) (hl:lo'≤lo):PolS h lo' tag r n vq vv vt vu vo s:=
 ⟨hp.rows,hp.len,hp.tr,⟨by have:=hp.lr.1;omega,hp.lr.2⟩,hp.q.weak hl,hp.v.weak hl,hp.t.weak hl,hp.u.weak hl,hp.o.weak hl⟩
theorem OwnS.weak {lo lo':Nat} {h:SHeap} {pv:Value} {nm:ByteArray} {s:StN} (hp:OwnS lo h pv nm s) (hl:lo'≤lo):OwnS lo' h pv nm s:=by
 obtain⟨tag,r,vq,vv,vt,vu,vo,h1,h2⟩:=hp
 exact⟨tag,r,vq,vv,vt,vu,vo,h1,h2.weak hl⟩
theorem OwnS.mono {lo:Nat} {h h':SHeap} {pv:Value} {nm:ByteArray} {s:StN} (hp:OwnS lo h pv nm s) (hn:h.next≤h'.next) (hg:∀ i,lo≤i→i<h.next→h'.get i=h.get i):OwnS lo h' pv nm s:=by
 obtain⟨tag,r,vq,vv,vt,vu,vo,h1,h2⟩:=hp
 exact⟨tag,r,vq,vv,vt,vu,vo,h1,h2.mono hn (fun _ _=>rfl) fun i a b _ _=>hg i a b⟩
theorem OwnS.pol {lo:Nat} {h:SHeap} {pv:Value} {nm:ByteArray} {s:StN} (hp:OwnS lo h pv nm s):J3x lo h pv nm s:=by
 obtain⟨tag,r,vq,vv,vt,vu,vo,h1,h2⟩:=hp
 exact⟨_,vq,vv,vt,vu,vo,h1,J3P.of (J0p.row (ex:=[]) (by rw[List.append_nil];exact h2.rows) h2.lr (J0N _)),h2.q.cells (J2J _),h2.v.cells (by simp[strs]),h2.t.cells (by simp[strs]),h2.u.cells (by rw[J1h,Nat.mul_one]),h2.o.cells (by rw[J1h,Nat.mul_one])⟩
theorem MkP.own {h:SHeap} {lo m k c e r n:Nat} {nm:ByteArray} {E:List Int} {tag:Nat→Nat} {vq vv vt vu vo:Value} {es:List (Value × Value)} {s:StN} (hp:MkP h lo m k c e r n nm E tag vq vv vt vu vo es s) :
  OwnS lo h (.agg #[.string nm,.slice (some ⟨r,0,none⟩) n unk,vq,vv,vt,vu,vo,iv s.miss]) nm s:=by
 have hl:=hp.pol.len
 subst hl
 exact⟨tag,r,vq,vv,vt,vu,vo,rfl,hp.pol⟩
set_option maxHeartbeats 4000000 in
theorem JbM {l:List RowN} {T:Tr} {H:SHeap} {K:Kont} {a lo m k c e r c5 c6:Nat} {nm:ByteArray} {F:List Nat} {s:StN} (ht:J2c l) (hL:l.length<900000000) (hn:l.length+100<n)
  (t2:T.get 2=.pointer (some ⟨a,0,none⟩)) (t3:T.get 3=.pointer (some ⟨a+1,0,none⟩)) (t5:T.get 5=.pointer (some ⟨c5,0,none⟩)) (t6:T.get 6=.pointer (some ⟨c6,0,none⟩))
  (hp:MkE H lo m k c e r l.length nm (J0o l) F s) (hin:InvR l l.length s) (h5:H.get c5=.row [.pointer (some ⟨m,0,none⟩)] 86 false false) (h6:H.get c6=.row [.slice (some ⟨e,0,none⟩) l.length l.length] 25 false false) (ha:a+1<lo) (hlo:lo≤H.next) (hout:Out2 a H [.string ByteArray.empty,.slice none 0 0,.slice none 0 0,.slice none 0 0,.slice none 0 0,.slice none 0 0,.slice none 0 0,iv 0] 0 0) (hfa:H.floor≤a)
  (hbad:J2K s.rows (J0o l) s.rules≥0→∀ T' H',T'.get 2=.pointer (some ⟨a,0,none⟩)→T'.get 3=.pointer (some ⟨a+1,0,none⟩)→Out2 a H' [.string ByteArray.empty,.slice none 0 0,.slice none 0 0,.slice none 0 0,.slice none 0 0,.slice none 0 0,.slice none 0 0,iv 0] 34 (J2K s.rows (J0o l) s.rules)→H.next≤H'.next→H'.floor=H.floor→(∀ i,i<a→H'.get i=H.get i)→K.ap Tryz.prog (J0T n) N .ret ⟨T',H'⟩)
  (hgood:¬ J2K s.rows (J0o l) s.rules≥0→∀ T' H' cs,T'.get 2=.pointer (some ⟨a,0,none⟩)→T'.get 3=.pointer (some ⟨a+1,0,none⟩)→cs.length=8→Out2 a H' cs 0 0→OwnS lo H' (.agg cs.toArray) nm s→H.next≤H'.next→H'.floor=H.floor→(∀ i,i<a→H'.get i=H.get i)→K.ap Tryz.prog (J0T n) N .ret ⟨T',H'⟩) :
  WK Tryz.prog (J0T n) N PR19 ⟨T,H⟩ K:=by
 show WK _ _ _ (.seq (.seq _ (.seq _ _)) (.seq _ _)) _ _
 obtain⟨tag,vq,vv,vt,vu,vo,es,hp',_⟩:=id hp
 have hlg:=JgH (n:=n) hp' ht hL hin (by omega) hn
 have l5:ld1 0 (H.get c5)=some (.pointer (some ⟨m,0,none⟩)):=by rw[h5];rfl
 have l6:ld1 0 (H.get c6)=some (.slice (some ⟨e,0,none⟩) l.length l.length):=by rw[h6];rfl
 cases d:decide (J2K s.rows (J0o l) s.rules≥0) with
 | true=>
  obtain⟨H',s1,s2,r1,r2,r3,r4⟩:=J4J hout rfl (by omega) (by omega) (cs':=[.string ByteArray.empty,.slice none 0 0,.slice none 0 0,.slice none 0 0,.slice none 0 0,.slice none 0 0,.slice none 0 0,iv 0]) rfl rfl (e':=34) (p':=J2K s.rows (J0o l) s.rules)
  simp only[evC,seval,↓evP,J1W,J0n,t2,t3,t5,t6,l5,l6,hlg,d,J28,J4G,s1,s2]
  refine hbad (by simpa using d) _ _ ?_ ?_ r1 (by omega) r3 fun i hi=>r4 i (by omega) (by omega)
  ·simp only[evC,seval,↓evP,rpC,t2]
  ·simp only[evC,seval,↓evP,rpC,t3]
 | false=>
  have l8:ldN 8 0 (H.get m)=some (.agg #[.string nm,.slice (some ⟨r,0,none⟩) l.length unk,vq,vv,vt,vu,vo,iv s.miss]):=by rw[hp'.cell];rfl
  have hpol:=hp'.own
  have hall:([.string nm,.slice (some ⟨r,0,none⟩) l.length unk,vq,vv,vt,vu,vo,iv s.miss]:List Value).all one=true:=by
   have q1:=(hp'.pol.q.cells (w:=2) (J2J _)).one
   have q2:=(hp'.pol.v.cells (w:=1) (by simp[strs])).one
   have q3:=(hp'.pol.t.cells (w:=1) (by simp[strs])).one
   have q4:=(hp'.pol.u.cells (w:=1) (by rw[J1h,Nat.mul_one])).one
   have q5:=(hp'.pol.o.cells (w:=1) (by rw[J1h,Nat.mul_one])).one
   simp only[List.all_cons,List.all_nil,q1,q2,q3,q4,q5,J5J,J5K,Bool.and_self]
   rfl
  obtain⟨H',s1,s2,r1,r2,r3,r4⟩:=J4J hout rfl (by omega) (by omega) (cs':=[.string nm,.slice (some ⟨r,0,none⟩) l.length unk,vq,vv,vt,vu,vo,iv s.miss]) rfl hall (e':=0) (p':=0)
  simp only[evC,seval,↓evP,J1W,J0n,t2,t3,t5,t6,l5,l6,hlg,d,J0g,J1b,l8,J5n,s1,s2]
  refine hgood (by simpa using d) _ _ _ ?_ ?_ rfl r1 (hpol.mono (by omega) fun i hi _=>r4 i (by omega) (by omega)) (by omega) r3 fun i hi=>r4 i (by omega) (by omega)
  ·simp only[evC,seval,↓evP,rpC,t2]
  ·simp only[evC,seval,↓evP,rpC,t3]
end
end Go.Proofs.YtdejoodfeljmkaaGreatDoor
