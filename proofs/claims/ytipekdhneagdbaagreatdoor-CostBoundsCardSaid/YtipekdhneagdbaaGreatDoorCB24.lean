/- Part 24 of what the claim leans on: 4 texts laid one behind another. -/
import Derived.Test.YtipekdhneagdbaaGreatDoorCB23
namespace Go.Proofs.YtipekdhneagdbaaGreatDoor
open Go Go.Sx
set_option maxRecDepth 100000
set_option linter.unusedSimpArgs false
set_option linter.unusedVariables false
theorem szVr:szOf Tryz.prog 58=some 3:=by kernel_rfl
theorem byVr:byOf Tryz.prog 58=some 24:=by kernel_rfl
abbrev vrV (a b c:Int):Value:=.agg #[iv a,iv b,iv c]
theorem Jrc:J1w Tryz.prog 58=some (vrV 0 0 0):=by kernel_rfl
theorem Jt3:J2X Tryz.prog 58=some true:=by kernel_rfl
theorem JrW:J2Q Tryz.prog (match Tryz.prog.underlying 58 with | some (.struct fs)=>fs.toList | _=>[])=some [(0,1),(1,1),(2,1)]:=by kernel_rfl
theorem JsH:J2Q Tryz.prog (match Tryz.prog.underlying 30 with | some (.struct fs)=>fs.toList | _=>[])=some [(0,1),(1,1),(2,1)]:=by kernel_rfl
theorem JrA {a:Int}:J1P Tryz.prog 58 [(0,iv a)]=some (vrV a 0 0):=by
 have h:=JrW
 rw[Tryz.underlying58] at h
 simp only at h
 have hf:flat (vrV 0 0 0)=true:=rfl
 simp only[J1P,Jrc,hf,if_true,Tryz.underlying58,h]
 rfl
theorem Js4:flat (.agg #[.slice none 0 0,.slice none 0 0,.slice none 0 0])=true:=rfl
theorem JsY {a b:Option Addr} {n c m d:Nat}:J1P Tryz.prog 30 [(1,.slice a n c),(2,.slice b m d)]=some (.agg #[.slice none 0 0,.slice a n c,.slice b m d]):=by
 have h:=JsH
 rw[Tryz.underlying30] at h
 simp only at h
 simp only[J1P,JrY,Js4,if_true,Tryz.underlying30,h]
 rfl
theorem JsA {h:SHeap} {id off:Nat}:J2x Tryz.prog h 58 (.pointer (some ⟨id,off,none⟩))=ldN 3 off (h.get id):=J5S Jt3 szVr
theorem Jrz {id off:Nat}:J08 Tryz.prog 58 (.pointer (some ⟨id,off,none⟩)) 0=some (.pointer (some ⟨id,off,none⟩)):=by simp[J08,Tryz.underlying58,sz3,J0q]
theorem bsVr {h:SHeap} {a b c:Int}:J0Q Tryz.prog h 28 1 [(0,vrV a b c)]=some (.slice (some ⟨h.next,0,none⟩) 1 1,h.push (.row [iv a,iv b,iv c] 58 false false)):=by
 simp[J0Q,Tryz.underlying28,szVr,Jrc,flat,J1i,J0G,J5k,J3e,Go.Sx.lay]
theorem Jsp:Tryz.prog.stoodInHeld 58=false:=by kernel_rfl
theorem Jqz {a b c:Int}:J0k Tryz.prog (part 3 #[.int .i64 a,.int .i64 b,.int .i64 c] 0)=some (.int .i64 a)∧J0k Tryz.prog (part 3 #[.int .i64 a,.int .i64 b,.int .i64 c] 1)=some (.int .i64 b)∧J0k Tryz.prog (part 3 #[.int .i64 a,.int .i64 b,.int .i64 c] 2)=some (.int .i64 c):=⟨rfl,rfl,rfl⟩
theorem JsI {a b c:Int}:flat (vrV a b c)=true:=rfl
theorem Jsy {a b c a' b' c':Int} (n:Nat):J0k Tryz.prog (Op.equalIn (n+2) 58 (vrV a b c) (vrV a' b' c'))=some (a==a'&&(b==b'&&c==c')):=by
 rw[Op.equalIn,J0c,J1R Tryz.underlying58]
 simp only[Option.bind_some,J0c,J1a,Jsp,Bool.false_eq_true,if_false]
 simp only[List.forIn_toArray,List.forIn_cons,List.forIn_nil,ne_eq,String.reduceEq,not_false_eq_true,if_true,J0c,Jqz.1,Option.bind_some,eqi Tryz.underlying3]
 cases h1:(a==a') <;> cases h2:(b==b') <;> cases h3:(c==c') <;> simp[J0c,J0C,Jqz.2.1,Jqz.2.2,eqi Tryz.underlying3,h2,h3,-beq_iff_eq,-beq_eq_false_iff_ne]
theorem eqVr {x y:Operand} {a b c a' b' c':Int}:binS Tryz.prog .eql 58 x y (vrV a b c) (vrV a' b' c')=some (.bool (a==a'&&(b==b'&&c==c'))):=by
 have k:J0k Tryz.prog (Op.equal 58 (vrV a b c) (vrV a' b' c'))=some (a==a'&&(b==b'&&c==c')):=Jsy 9998
 have e:J0k Tryz.prog (do eqGuard .eql 58 x y (vrV a b c) (vrV a' b' c');binOp .eql 58 (vrV a b c) (vrV a' b' c'))=some (.bool (a==a'&&(b==b'&&c==c'))):=by
  rw[J0c]
  have g:J0k Tryz.prog (eqGuard .eql 58 x y (vrV a b c) (vrV a' b' c'))=some ():=by
   unfold eqGuard
   simp[J0c,J1a,J0C]
  rw[g]
  show J0k Tryz.prog ((do pure (.bool (← Op.equal 58 (vrV a b c) (vrV a' b' c')))):Sem Value)=_
  rw[J0c,k]
  rfl
 simp only[binS,JsI,Bool.and_self,if_true,e,J2F]
theorem JrO {x y:Operand} {a b c:Int}:binS Tryz.prog .eql 58 x y (vrV a b c) (vrV a b c)=some (.bool true):=by
 rw[eqVr]
 simp
theorem JqE:∀ {l:List (Int × Int × Int)} {i:Nat} {x:Int × Int × Int},l[i]?=some x→((vcells l).drop (i*3)).take 3=[iv x.1,iv x.2.1,iv x.2.2]
 | [],i,x,h=>by simp at h
 | q :: l,0,x,h=>by
  simp only[List.getElem?_cons_zero,Option.some.injEq] at h
  subst h
  rfl
 | q :: l,i+1,x,h=>by
  have:=JqE (l:=l) (i:=i) (x:=x) (by simpa using h)
  rw[← this,show (i+1)*3=i*3+3 by omega]
  rfl
theorem lenV {lo:Nat} {h:SHeap} {v:Value} {n w:Nat} {cs:List Value} (hc:J0p lo h v n w cs) (h':SHeap):lenS Tryz.prog h' 28 v=some (iv (n:Int)):=J0p.len hc Tryz.underlying28
theorem Jri (l:List (Int × Int × Int)):(vcells l).all one=true:=by
 unfold vcells
 rw[List.all_flatMap]
 exact List.all_eq_true.2 fun x _=>rfl
structure LentTyp (h:SHeap) (b:Nat) (v:Value) (W:List (Int × Int × Int)) (G rd:List Int) (o:Nat→Nat):Prop where
 v:v=.agg #[.slice (some ⟨o 1,0,none⟩) W.length (W.length+3),.slice (some ⟨o 2,0,none⟩) G.length (G.length+3),.slice (some ⟨o 3,0,none⟩) rd.length (rd.length+3)]
 far:b≤o 2∧o 2<o 3∧o 3<o 1∧o 1<h.next
 w:LentC h (o 1) W.length 3 (vcells W) [iv (-77),iv 0,iv 0] [iv 0,iv 0,iv 0] 58
 g:LentC h (o 2) G.length 1 (ints G) [iv (-77)] [iv 0] 3
 r:LentC h (o 3) rd.length 1 (ints rd) [iv (-77)] [iv 0] 3
theorem LentTyp.typ {h:SHeap} {b:Nat} {v:Value} {W:List (Int × Int × Int)} {G rd:List Int} {o:Nat→Nat} (hL:LentTyp h b v W G rd o):Jqg 0 h v W G rd:=by
 obtain⟨rfl,⟨u1,u2,u3,u4⟩,L1,L2,L3⟩:=hL
 exact⟨_,_,_,rfl,L1.cells ⟨Nat.zero_le _,by omega⟩,L2.cells ⟨Nat.zero_le _,by omega⟩,L3.cells ⟨Nat.zero_le _,by omega⟩⟩
theorem LentTyp.mono {h h':SHeap} {b:Nat} {v:Value} {W:List (Int × Int × Int)} {G rd:List Int} {o:Nat→Nat} (hL:LentTyp h b v W G rd o) (hn:h.next≤h'.next) (hg:∀ i,b≤i→i<h.next→h'.get i=h.get i):LentTyp h' b v W G rd o:=by
 obtain⟨hv,⟨u1,u2,u3,u4⟩,L1,L2,L3⟩:=hL
 exact⟨hv,⟨u1,u2,u3,by omega⟩,L1.mono (hg _ (by omega) (by omega)),L2.mono (hg _ (by omega) (by omega)),L3.mono (hg _ (by omega) (by omega))⟩
noncomputable def JsZ:Array Oper:=J18 Tryz.f8 1
def fsL1:List (Bool × Bool × List Operand):=[(false,true,[]),(false,true,[]),(false,true,[]),(true,true,[.tmp 4]),(true,true,[.tmp 4]),(false,false,[]),(false,false,[]),(true,true,[.tmp 4,.tmp 7]),(false,false,[])]
theorem JsM:J1E JsZ=fsL1:=by kernel_rfl
noncomputable def JsS:Array Oper:=J18 Tryz.f8 2
def fsL2:List (Bool × Bool × List Operand):=[(false,true,[]),(false,true,[]),(false,true,[]),(false,true,[]),(false,true,[]),(true,true,[.tmp 11]),(true,true,[.tmp 11]),(false,true,[]),(true,true,[.tmp 11,.tmp 16]),(true,true,[.tmp 11,.tmp 16]),(false,true,[]),(true,true,[.tmp 11,.tmp 16]),(true,true,[.tmp 11,.tmp 16]),(true,true,[.tmp 11,.tmp 16]),(false,false,[]),(false,false,[]),(false,false,[])]
theorem JsD:J1E JsS=fsL2:=by kernel_rfl
noncomputable def JsJ:Array Oper:=J18 Tryz.f12 1
def fsK1:List (Bool × Bool × List Operand):=[(false,true,[]),(false,true,[]),(false,true,[]),(false,true,[.tmp 10]),(false,true,[.tmp 10]),(false,true,[.tmp 10]),(false,false,[]),(false,false,[]),(false,true,[]),(false,true,[]),(false,true,[.tmp 18]),(false,true,[.tmp 18]),(false,true,[.tmp 18]),(false,true,[.tmp 18]),(false,true,[]),(false,true,[.tmp 18,.tmp 20,.tmp 19]),(false,true,[.tmp 18,.tmp 20,.tmp 19]),(false,true,[.tmp 18,.tmp 20,.tmp 19]),(false,false,[]),(false,false,[]),(false,false,[]),(false,false,[]),(false,false,[]),(false,false,[])]
theorem Jsq:J1E JsJ=fsK1:=by kernel_rfl
theorem gdK1:(JsJ[7]?).bind (·.dst)=some 17:=by kernel_rfl
noncomputable def JsO:Array Oper:=J18 Tryz.f12 5
def fsK5:List (Bool × Bool × List Operand):=[(false,true,[]),(false,true,[]),(false,true,[.tmp 43]),(false,true,[]),(false,true,[]),(false,true,[.tmp 43,.tmp 46]),(false,true,[.tmp 43,.tmp 46]),(false,true,[.tmp 43,.tmp 46,.tmp 48]),(false,true,[.tmp 43,.tmp 46]),(false,true,[.tmp 43,.tmp 46]),(false,false,[]),(false,false,[])]
theorem Jst:J1E JsO=fsK5:=by kernel_rfl
section
variable {n N:Nat} {h:SHeap}
set_option maxHeartbeats 16000000 in
theorem Jr4 {W:List (Int × Int × Int)} {G rd:List Int} {tv:Value} {lo:Nat} (hp:Jqg lo h tv W G rd) (hw:W.length<100000) (hg:G.length<100000) (hrl:rd.length<100000000) (hfl:h.floor≤h.next) (hn:20<n) :
  ∃ v' h',J0L Tryz.prog (J0T n) N 8 [tv] h=some (v',h')∧(∃ o,LentTyp h' h.next v' W G rd o)∧h.next≤h'.next∧h'.floor=h.floor∧∀ i,i<h.next→h'.get i=h.get i:=by
 obtain⟨tw,tg,td,rfl,y1,y2,y3⟩:=hp
 obtain⟨aw,cw,rfl,_⟩:=id y1.2
 have hsn:=(J1z n).2
 refine J65 (R:=fun v' h'=>(∃ o,LentTyp h' h.next v' W G rd o)∧h.next≤h'.next∧h'.floor=h.floor∧∀ i,i<h.next→h'.get i=h.get i) Tryz.func8 rfl (by simp[Tryz.f8]) ?_
 have hr:Tryz.f8.results.toList=[.cell 2 30]:=rfl
 have cy:(Value.agg #[.slice aw W.length cw,tg,td]).cells.toList=[.slice aw W.length cw,tg,td]:=rfl
 have oy:[.slice aw W.length cw,tg,td].all one=true:=by
  have:=y1.one
  simp only[List.all_cons,List.all_nil,this,J0p.one y2,J0p.one y3,Bool.and_self]
 have zcY:(Value.agg #[.slice none 0 0,.slice none 0 0,.slice none 0 0]).cells.toList=[.slice none 0 0,.slice none 0 0,.slice none 0 0]:=rfl
 have len1:=lenV y1
 have g0:∀ (a b:SObj),let A:=(h.push a).push b
   A.get h.next=a∧A.get (h.next+1)=b∧A.next=h.next+2∧A.floor=h.floor∧∀ i,i<h.next→A.get i=h.get i:=fun a b=>
  ⟨J4c,J48,rfl,rfl,fun i hi=>by rw[J06 (by show i<h.next+1;omega),J06 hi]⟩
 obtain⟨gA,gZ,n0,f0,gO⟩:=g0 (.row [.slice aw W.length cw,tg,td] 30 false false) (.row [.slice none 0 0,.slice none 0 0,.slice none 0 0] 30 false false)
 simp only[evC,seval,↓evP,rpD,J0X,J2t,cy,oy,szY,JrY,Js4,zcY]
 generalize (h.push (.row [.slice aw W.length cw,tg,td] 30 false false)).push (.row [.slice none 0 0,.slice none 0 0,.slice none 0 0] 30 false false)=H0 at *
 have hA0:(h.next<H0.next)=True:=by rw[n0];simp
 have x1:ld1 1 (H0.get h.next)=some tg:=by rw[gA];rfl
 have y2':J1S lo (H0.fl (max H0.floor H0.next)) tg G:=J1S.mono y2 (by rw[J0J];omega) fun i _ hi=>gO i hi
 obtain⟨h1,hk1,l1,n1,f1,o1⟩:=JnZ (n:=n) y2' (by omega) (by rw[J0J,JiM];omega) (by omega)
 rw[J0J] at hk1 l1 n1 o1
 rw[JiM] at f1
 have y3':J1S lo (h1.fl H0.floor) td rd:=J1S.mono y3 (by rw[J0J];omega) fun i _ hi=>(o1 i (by omega)).trans (gO i hi)
 obtain⟨h2,hk2,l2,n2,f2,o2⟩:=JnZ (n:=n) y3' (by omega) (by rw[J0J,JiM];omega) (by omega)
 rw[J0J] at hk2 l2 n2 o2
 rw[JiM] at f2
 have x2:ld1 2 (h1.get h.next)=some td:=by rw[o1 _ (by omega)];show ld1 2 (H0.get h.next)=_;rw[gA];rfl
 have hst:J0K Tryz.prog (h2.push (.row [.slice none 0 0,.slice none 0 0,.slice none 0 0] 30 false false)) 30 (.pointer (some ⟨h2.next,0,none⟩)) (.agg #[.slice none 0 0,.slice (some ⟨H0.next,0,none⟩) G.length (G.length+3),.slice (some ⟨h1.next,0,none⟩) rd.length (rd.length+3)])=_:=
  stW szY (vs:=[.slice none 0 0,.slice (some ⟨H0.next,0,none⟩) G.length (G.length+3),.slice (some ⟨h1.next,0,none⟩) rd.length (rd.length+3)]) (J0h (h:=h2)) rfl rfl rfl (by rw[J0i];omega)
 have hf2:h2.fl H0.floor=h2:=by rw[show H0.floor=h2.floor by omega];rfl
 have hf2p:∀ o,(h2.push o).fl H0.floor=h2.push o:=fun o=>by rw[show H0.floor=(h2.push o).floor by show H0.floor=h2.floor;omega];rfl
 refine WK.flags (ops:=JsZ) JsM ?_
 refine WKF.begin ?_
 refine wst hsn 0 (some 4) (.fieldAddr 30 (.tmp 1) 1) none ?_
 simp only[rgC,seval,J04,J02,WKFC,Nat.zero_add,Jqo,Nat.zero_add]
 refine wst hsn 1 (some 5) (.load 25 (.tmp 4)) none ?_
 simp only[rgC,seval,J04,J02,WKFC,rgL,J0n,x1,hA0]
 refine wst hsn 2 (some 6) (.call { callee:=.value (.func 20),args:=#[.tmp 5],argTypes:=#[25] }) none ?_
 simp only[rgC,seval,J04,J02,WKFC,rgK,hk1]
 refine wst hsn 3 (some 7) (.fieldAddr 30 (.tmp 1) 2) none ?_
 simp only[rgC,seval,J04,J02,WKFC,Nat.zero_add,JpX,Nat.zero_add,JiM,Jk2]
 refine wst hsn 4 (some 8) (.load 25 (.tmp 7)) none ?_
 simp only[rgC,seval,J04,J02,WKFC,rgL,J0n,x2,hA0,JiM,J1g,Jk2]
 refine wst hsn 5 (some 9) (.call { callee:=.value (.func 20),args:=#[.tmp 8],argTypes:=#[25] }) none ?_
 simp only[rgC,seval,J04,J02,WKFC,rgK,hk2,hf2,JiM]
 refine wst hsn 6 (some 10) (.build 30 #[(1,.tmp 6),(2,.tmp 9)]) none ?_
 simp only[rgC,seval,J04,J02,WKFC,List.map_cons,List.map_nil,JsY]
 refine wst hsn 7 (some 3) (.alloc 30) none ?_
 simp only[rgC,seval,J04,J02,WKFC,rgA,JrY,Js4,zcY]
 refine wst hsn 8 (none) (.store 30 (.tmp 3) (.tmp 10)) none ?_
 simp only[rgC,seval,J04,J02,WKFC,J17,rgS,hst]
 refine WKF.done (i:=9) (by kernel_rfl) ?_
 have gA1:((h2.push (.row [.slice none 0 0,.slice none 0 0,.slice none 0 0] 30 false false)).put h2.next (.row [.slice none 0 0,.slice (some ⟨H0.next,0,none⟩) G.length (G.length+3),.slice (some ⟨h1.next,0,none⟩) rd.length (rd.length+3)] 30 false false)).get h2.next=.row [.slice none 0 0,.slice (some ⟨H0.next,0,none⟩) G.length (G.length+3),.slice (some ⟨h1.next,0,none⟩) rd.length (rd.length+3)] 30 false false:=J0b rfl (by show h2.next<h2.next+1;omega)
 have oA1:∀ i,i<h2.next→((h2.push (.row [.slice none 0 0,.slice none 0 0,.slice none 0 0] 30 false false)).put h2.next (.row [.slice none 0 0,.slice (some ⟨H0.next,0,none⟩) G.length (G.length+3),.slice (some ⟨h1.next,0,none⟩) rd.length (rd.length+3)] 30 false false)).get i=h2.get i:=fun i hi=>by rw[J05 (by show h2.next<h2.next+1;omega) (by omega),J06 hi]
 have nA1:((h2.push (.row [.slice none 0 0,.slice none 0 0,.slice none 0 0] 30 false false)).put h2.next (.row [.slice none 0 0,.slice (some ⟨H0.next,0,none⟩) G.length (G.length+3),.slice (some ⟨h1.next,0,none⟩) rd.length (rd.length+3)] 30 false false)).next=h2.next+1:=rfl
 have fA1:((h2.push (.row [.slice none 0 0,.slice none 0 0,.slice none 0 0] 30 false false)).put h2.next (.row [.slice none 0 0,.slice (some ⟨H0.next,0,none⟩) G.length (G.length+3),.slice (some ⟨h1.next,0,none⟩) rd.length (rd.length+3)] 30 false false)).floor=h2.floor:=rfl
 simp only[evC,seval,↓evP]
 generalize (h2.push (.row [.slice none 0 0,.slice none 0 0,.slice none 0 0] 30 false false)).put h2.next (.row [.slice none 0 0,.slice (some ⟨H0.next,0,none⟩) G.length (G.length+3),.slice (some ⟨h1.next,0,none⟩) rd.length (rd.length+3)] 30 false false)=A1 at *
 generalize hD:h2.next=D at *
 have oH1:∀ i,i<h.next→A1.get i=h.get i:=fun i hi=>by rw[oA1 i (by omega),o2 i (by omega)];exact(o1 i (by omega)).trans (gO i hi)
 have gAA:∀ i,i<H0.next→A1.get i=H0.get i:=fun i hi=>by rw[oA1 i (by omega),o2 i (by omega)];exact o1 i (by omega)
 have P1:=y1.mono (h':=A1.fl (max A1.floor A1.next)) (by rw[J0J];omega) fun i _ hi=>oH1 i hi
 have w2:IntKind.i64.wrap ((W.length:Int)+3)=((W.length+3:Nat):Int):=J0s (by omega) (by omega)
 have mk2:=fun (H:SHeap)=>Joa (h:=H) (n:=W.length+3) Tryz.underlying28 szVr byVr Jrc rfl rfl (by decide) (by decide) (by omega)
 obtain⟨g2,k2,a1,a2,a3,a4,a5,a6,a7,a8,a9⟩:=Jov (mk:=[iv (-77),iv 0,iv 0]) Tryz.underlying28 szVr byVr Jrc rfl (by decide) P1 (Jri _) rfl rfl (by omega) (by rw[J0J,JiM];omega)
 rw[J0J] at a1 a2 a4 a5 a6 a7 a9
 rw[JiM] at a3 a8
 have sl2:=fun (H:SHeap)=>JnH (h:=H) (id:=A1.next) (n:=W.length+1) (m:=W.length) (c:=W.length+3) Tryz.underlying28 szVr (by omega) (by unfold unk;omega)
 have hfx:g2.fl (max A1.floor A1.next)=g2:=by rw[← a3];exact J6L g2
 have ex:∀ i,i<A1.next→g2.get i=A1.get i:=a4
 have ez:∀ i,i<A1.next→k2.get i=A1.get i:=a9
 have gT:A1.get h.next=.row [.slice aw W.length cw,tg,td] 30 false false:=by rw[gAA _ (by omega)];exact gA
 have e1:(A1.push (.row (J3e ((vrV 0 0 0).cells.toList) (W.length+3)) 58 false false)).get h.next=.row [.slice aw W.length cw,tg,td] 30 false false:=by rw[J06 (by omega)];exact gT
 have e2:g2.get h.next=.row [.slice aw W.length cw,tg,td] 30 false false:=by rw[ex _ (by omega)];exact gT
 have e3:k2.get h.next=.row [.slice aw W.length cw,tg,td] 30 false false:=by rw[ez _ (by omega)];exact gT
 have x0:ld1 0 (.row [.slice aw W.length cw,tg,td] 30 false false)=some (.slice aw W.length cw):=rfl
 have gDk:(k2.fl A1.floor).get D=.row [.slice none 0 0,.slice (some ⟨H0.next,0,none⟩) G.length (G.length+3),.slice (some ⟨h1.next,0,none⟩) rd.length (rd.length+3)] 30 false false:=by rw[J1g,ez _ (by omega)];exact gA1
 have hA:(h.next<A1.next)=True:=by simp;omega
 have st2:J0K Tryz.prog (k2.fl A1.floor) 28 (.pointer (some ⟨D,0,none⟩)) (.slice (some ⟨A1.next,0,none⟩) W.length (W.length+3))=_:=stc szV rfl rfl gDk (by simp only[List.length_cons,List.length_nil];omega) (by rw[JiM];omega)
 simp only[List.set_cons_zero] at st2
 refine WK.flags (ops:=JsS) JsD ?_
 refine WKF.begin ?_
 refine wst hsn 0 (some 11) (.fieldAddr 30 (.tmp 1) 0) none ?_
 simp only[rgC,seval,J04,J02,WKFC,Nat.zero_add,Nat.zero_add,Jq3]
 refine wst hsn 1 (some 12) (.load 28 (.tmp 11)) none ?_
 simp only[rgC,seval,J04,J02,WKFC,rgL,Jqh,gT,x0,hA]
 refine wst hsn 2 (some 13) (.call { callee:=.builtin .len,args:=#[.tmp 12],argTypes:=#[28] }) none ?_
 simp only[rgC,seval,J04,J02,WKFC,rgK,len1]
 refine wst hsn 3 (some 14) (.binOp .add 3 (.tmp 13) (.const (Value.int IntKind.i64 3)) 3) none ?_
 simp only[rgC,seval,J04,J02,WKFC,rgB,w2]
 refine wst hsn 4 (some 15) (.makeSlice 28 (.const (Value.int IntKind.i64 0)) (.tmp 14)) none ?_
 simp only[rgC,seval,J04,J02,WKFC,mk2,J0a]
 refine wst hsn 5 (some 16) (.fieldAddr 30 (.tmp 1) 0) none ?_
 simp only[rgC,seval,J04,J02,WKFC,Jq3,J0a,J0i]
 refine wst hsn 6 (some 17) (.load 28 (.tmp 16)) none ?_
 simp only[rgC,seval,J04,J02,WKFC,rgL,Jqh,e1,x0,hA,J0a,J0i]
 refine wst hsn 7 (some 18) (.call { callee:=.builtin .append,args:=#[.tmp 15,.tmp 17],argTypes:=#[28,28] }) none ?_
 simp only[rgC,seval,J04,J02,WKFC,rgK,a1,J0a,J0i]
 refine wst hsn 8 (some 19) (.build 58 #[(0,.const (Value.int IntKind.i64 (-77)))]) none ?_
 simp only[rgC,seval,J04,J02,WKFC,List.map_cons,List.map_nil,JrA,JiM,Jk2]
 refine wst hsn 9 (some 20) (.buildSlice 28 1 #[(0,.tmp 19)]) none ?_
 simp only[rgC,seval,J04,J02,WKFC,List.map_cons,List.map_nil,bsVr,J0a,J0J,JiM,Jk2]
 refine wst hsn 10 (some 21) (.call { callee:=.builtin .append,args:=#[.tmp 18,.tmp 20],argTypes:=#[28,28] }) none ?_
 simp only[rgC,seval,J04,J02,WKFC,rgK,hfx,a5,J0a,J0i,JiM,Jk2]
 refine wst hsn 11 (some 22) (.fieldAddr 30 (.tmp 1) 0) none ?_
 simp only[rgC,seval,J04,J02,WKFC,Jq3,JiM,Jk2]
 refine wst hsn 12 (some 23) (.load 28 (.tmp 22)) none ?_
 simp only[rgC,seval,J04,J02,WKFC,rgL,Jqh,e3,x0,hA,JiM,J1g,Jk2]
 refine wst hsn 13 (some 24) (.call { callee:=.builtin .len,args:=#[.tmp 23],argTypes:=#[28] }) none ?_
 simp only[rgC,seval,J04,J02,WKFC,rgK,len1,JiM,Jk2]
 refine wst hsn 14 (some 25) (.slice 28 (.tmp 21) none (some (.tmp 24)) none) none ?_
 simp only[rgC,seval,J04,J02,WKFC,rgL,sl2,JiM,Jk2]
 refine wst hsn 15 (some 26) (.fieldAddr 30 (.tmp 3) 0) none ?_
 simp only[rgC,seval,J04,J02,WKFC,Jq3,JiM,Jk2]
 refine wst hsn 16 (none) (.store 28 (.tmp 26) (.tmp 25)) none ?_
 simp only[rgC,seval,J04,J02,WKFC,J17,rgS,st2,JiM,Jk2]
 refine WKF.done (i:=17) (by kernel_rfl) ?_
 have nn2:((k2.fl A1.floor).put D (.row [.slice (some ⟨A1.next,0,none⟩) W.length (W.length+3),.slice (some ⟨H0.next,0,none⟩) G.length (G.length+3),.slice (some ⟨h1.next,0,none⟩) rd.length (rd.length+3)] 30 false false)).next=A1.next+2:=a7
 have ff2:((k2.fl A1.floor).put D (.row [.slice (some ⟨A1.next,0,none⟩) W.length (W.length+3),.slice (some ⟨H0.next,0,none⟩) G.length (G.length+3),.slice (some ⟨h1.next,0,none⟩) rd.length (rd.length+3)] 30 false false)).floor=A1.floor:=rfl
 have gg2:∀ i,i≠D→((k2.fl A1.floor).put D (.row [.slice (some ⟨A1.next,0,none⟩) W.length (W.length+3),.slice (some ⟨H0.next,0,none⟩) G.length (G.length+3),.slice (some ⟨h1.next,0,none⟩) rd.length (rd.length+3)] 30 false false)).get i=k2.get i:=fun i hd=>by rw[J05 (by rw[J0J];omega) (Ne.symm hd)];rfl
 have gD2:((k2.fl A1.floor).put D (.row [.slice (some ⟨A1.next,0,none⟩) W.length (W.length+3),.slice (some ⟨H0.next,0,none⟩) G.length (G.length+3),.slice (some ⟨h1.next,0,none⟩) rd.length (rd.length+3)] 30 false false)).get D=.row [.slice (some ⟨A1.next,0,none⟩) W.length (W.length+3),.slice (some ⟨H0.next,0,none⟩) G.length (G.length+3),.slice (some ⟨h1.next,0,none⟩) rd.length (rd.length+3)] 30 false false:=J0b rfl (by rw[J0J];omega)
 generalize (k2.fl A1.floor).put D (.row [.slice (some ⟨A1.next,0,none⟩) W.length (W.length+3),.slice (some ⟨H0.next,0,none⟩) G.length (G.length+3),.slice (some ⟨h1.next,0,none⟩) rd.length (rd.length+3)] 30 false false)=Q at *
 have lD:ldN 3 0 (Q.get D)=some (.agg #[.slice (some ⟨A1.next,0,none⟩) W.length (W.length+3),.slice (some ⟨H0.next,0,none⟩) G.length (G.length+3),.slice (some ⟨h1.next,0,none⟩) rd.length (rd.length+3)]):=by rw[gD2];rfl
 have gZQ:Q.get (h.next+1)=.row [.slice none 0 0,.slice none 0 0,.slice none 0 0] 30 false false:=by rw[gg2 _ (by omega),ez _ (by omega),gAA _ (by omega)];exact gZ
 have st3:=stW szY (h:=Q) (vs:=[.slice (some ⟨A1.next,0,none⟩) W.length (W.length+3),.slice (some ⟨H0.next,0,none⟩) G.length (G.length+3),.slice (some ⟨h1.next,0,none⟩) rd.length (rd.length+3)]) gZQ rfl rfl rfl (by omega)
 have st3':J0K Tryz.prog Q 30 (.pointer (some ⟨h.next+1,0,none⟩)) (.agg #[.slice (some ⟨A1.next,0,none⟩) W.length (W.length+3),.slice (some ⟨H0.next,0,none⟩) G.length (G.length+3),.slice (some ⟨h1.next,0,none⟩) rd.length (rd.length+3)])=_:=st3
 have lE:ldN 3 0 ((Q.put (h.next+1) (.row [.slice (some ⟨A1.next,0,none⟩) W.length (W.length+3),.slice (some ⟨H0.next,0,none⟩) G.length (G.length+3),.slice (some ⟨h1.next,0,none⟩) rd.length (rd.length+3)] 30 false false)).get (h.next+1))=some (.agg #[.slice (some ⟨A1.next,0,none⟩) W.length (W.length+3),.slice (some ⟨H0.next,0,none⟩) G.length (G.length+3),.slice (some ⟨h1.next,0,none⟩) rd.length (rd.length+3)]):=by rw[J0b rfl (by omega)];rfl
 have oQ:∀ i,i≠h.next+1→i≠D→(Q.put (h.next+1) (.row [.slice (some ⟨A1.next,0,none⟩) W.length (W.length+3),.slice (some ⟨H0.next,0,none⟩) G.length (G.length+3),.slice (some ⟨h1.next,0,none⟩) rd.length (rd.length+3)] 30 false false)).get i=k2.get i:=fun i h1 h2=>by rw[J05 (by omega) (Ne.symm h1),gg2 i h2]
 simp only[evC,seval,↓evP,hr,JqF,lD,st3',lE]
 refine⟨⟨fun j=>if j=1 then A1.next else if j=2 then H0.next else h1.next,rfl,⟨by show h.next≤H0.next;omega,by show H0.next<h1.next;omega,by show h1.next<A1.next;omega,by show A1.next<Q.next;omega⟩,?_,?_,?_⟩,by show h.next≤Q.next;omega,by show Q.floor=_;omega,fun i hi=>?_⟩
 ·exact a6.mono (oQ A1.next (by omega) (by omega))
 ·refine l1.mono (h':=_) ?_
  show _=h1.get H0.next
  rw[oQ H0.next (by omega) (by omega),ez _ (by omega),oA1 _ (by omega),o2 _ (by omega)]
  rfl
 ·refine l2.mono (h':=_) ?_
  show _=h2.get h1.next
  rw[oQ h1.next (by omega) (by omega),ez _ (by omega),oA1 _ (by omega)]
 ·rw[oQ i (by omega) (by omega),ez i (by omega)]
  exact oH1 i hi
theorem Jsd {W:List (Int × Int × Int)} {G rd:List Int} {tv:Value} {lo:Nat} (hp:Jqg lo h tv W G rd) (hw:W.length<100000) (hg:G.length<100000) (hrl:rd.length<100000000) (hfl:h.floor≤h.next) (hn:30<n) :
  ∃ v' h',J0T n 8 [tv] h=some (v',h')∧(∃ o,LentTyp h' h.next v' W G rd o)∧h.next≤h'.next∧h'.floor=h.floor∧∀ i,i<h.next→h'.get i=h.get i:=by
 obtain⟨n,rfl⟩:∃ j,n=j+1:=⟨n-1,by omega⟩
 refine k_ex (J13 ⟨rfl,rfl,rfl⟩) (Jr4 (n:=n) (N:=n) hp hw hg hrl hfl (by omega)) fun v' h1 hf _ ht=>?_
 obtain⟨⟨o,hL⟩,_⟩:=ht
 rw[hL.v] at hf
 cases hf
set_option maxHeartbeats 16000000 in
theorem JqZ {W:List (Int × Int × Int)} {G rd:List Int} {tv v:Value} {lo b:Nat} {o:Nat→Nat} {h0:SHeap} (hL:LentTyp h b v W G rd o) (hp:Jqg lo h0 tv W G rd) (hb:h0.next≤b) (h0g:∀ i,i<h0.next→h.get i=h0.get i) (hf:h.floor≤b) (hw:W.length<100000) (hg:G.length<100000) (hrl:rd.length<100000000) (hn:W.length+G.length+rd.length+60<n) (hN:W.length+60<N) :
  ∃ h',J0L Tryz.prog (J0T n) N 12 [v,tv] h=some (.bool true,h')∧(h.next≤h'.next∧h'.floor=h.floor∧∀ i,i<h.next→i≠o 1→i≠o 2→i≠o 3→h'.get i=h.get i):=by
 obtain⟨tw,tg,td,rfl,y1,y2,y3⟩:=id hp
 obtain⟨aw,cw,rfl,_⟩:=id y1.2
 obtain⟨rfl,⟨u1,u2,u3,u4⟩,L1,L2,L3⟩:=hL
 have hsn:=(J1z n).2
 refine J1N (R:=fun h'=>h.next≤h'.next∧h'.floor=h.floor∧∀ i,i<h.next→i≠o 1→i≠o 2→i≠o 3→h'.get i=h.get i) Tryz.func12 rfl (by simp[Tryz.f12]) ?_
 have hr:Tryz.f12.results.toList=[.tmp 4]:=rfl
 have ca:(Value.agg #[.slice (some ⟨o 1,0,none⟩) W.length (W.length+3),.slice (some ⟨o 2,0,none⟩) G.length (G.length+3),.slice (some ⟨o 3,0,none⟩) rd.length (rd.length+3)]).cells.toList=[.slice (some ⟨o 1,0,none⟩) W.length (W.length+3),.slice (some ⟨o 2,0,none⟩) G.length (G.length+3),.slice (some ⟨o 3,0,none⟩) rd.length (rd.length+3)]:=rfl
 have oa:[Value.slice (some ⟨o 1,0,none⟩) W.length (W.length+3),.slice (some ⟨o 2,0,none⟩) G.length (G.length+3),.slice (some ⟨o 3,0,none⟩) rd.length (rd.length+3)].all one=true:=rfl
 have cy:(Value.agg #[.slice aw W.length cw,tg,td]).cells.toList=[.slice aw W.length cw,tg,td]:=rfl
 have oy:[.slice aw W.length cw,tg,td].all one=true:=by simp only[List.all_cons,List.all_nil,y1.one,J0p.one y2,J0p.one y3,Bool.and_self]
 have lenT:=lenV y1
 have lenM:∀ h':SHeap,lenS Tryz.prog h' 28 (.slice (some ⟨o 1,0,none⟩) W.length (W.length+3))=some (iv (W.length:Int)):=fun h'=>by simp[lenS,Tryz.underlying28]
 have g0:∀ (a b:SObj),let A:=(h.push a).push b
   A.get h.next=a∧A.get (h.next+1)=b∧A.next=h.next+2∧A.floor=h.floor∧∀ i,i<h.next→A.get i=h.get i:=fun a b=>
  ⟨J4c,J48,rfl,rfl,fun i hi=>by rw[J06 (by show i<h.next+1;omega),J06 hi]⟩
 obtain⟨gA,gB,nG,fG,gO⟩:=g0 (.row [.slice (some ⟨o 1,0,none⟩) W.length (W.length+3),.slice (some ⟨o 2,0,none⟩) G.length (G.length+3),.slice (some ⟨o 3,0,none⟩) rd.length (rd.length+3)] 30 false false) (.row [.slice aw W.length cw,tg,td] 30 false false)
 simp only[evC,seval,↓evP,rpD,J0X,J2t,ca,oa,cy,oy,szY]
 generalize (h.push (.row [.slice (some ⟨o 1,0,none⟩) W.length (W.length+3),.slice (some ⟨o 2,0,none⟩) G.length (G.length+3),.slice (some ⟨o 3,0,none⟩) rd.length (rd.length+3)] 30 false false)).push (.row [.slice aw W.length cw,tg,td] 30 false false)=Q at *
 have L1:=L1.mono (gO (o 1) (by omega))
 have L2:=L2.mono (gO (o 2) (by omega))
 have L3:=L3.mono (gO (o 3) (by omega))
 have oQ0:∀ i,i<h0.next→Q.get i=h0.get i:=fun i hi=>by rw[gO i (by omega),h0g i hi]
 have x0:ld1 0 (Q.get h.next)=some (.slice (some ⟨o 1,0,none⟩) W.length (W.length+3)):=by rw[gA];rfl
 have z0:ld1 0 (Q.get (h.next+1))=some (.slice aw W.length cw):=by rw[gB];rfl
 have w1:IntKind.i64.wrap ((W.length:Int)+1)=((W.length+1:Nat):Int):=J0s (by omega) (by omega)
 have sl:=fun (H:SHeap)=>JnH (h:=H) (id:=o 1) (n:=W.length) (m:=W.length+1) (c:=W.length+3) Tryz.underlying28 szVr (by omega) (by unfold unk;omega)
 have ix:=idx0 (id:=o 1) (n:=W.length+1) (c:=W.length+3) (i:=W.length) Tryz.underlying28 szVr (by omega)
 have mk:ld1 (W.length*3) (Q.get (o 1))=some (iv (-77)):=L1.ld (j:=0) (by decide)
 refine WK.flags (ops:=JsJ) Jsq ?_
 refine WKF.begin ?_
 refine wst hsn 0 (some 10) (.fieldAddr 30 (.tmp 2) 0) none ?_
 simp only[rgC,seval,J04,J02,WKFC,Nat.zero_add,Jq3]
 refine wst hsn 1 (some 11) (.load 28 (.tmp 10)) none ?_
 simp only[rgC,seval,J04,J02,WKFC,rgL,Jqh,x0]
 refine wst hsn 2 (some 12) (.call { callee:=.builtin .len,args:=#[.tmp 11],argTypes:=#[28] }) none ?_
 simp only[rgC,seval,J04,J02,WKFC,rgK,lenM]
 refine wst hsn 3 (some 13) (.fieldAddr 30 (.tmp 3) 0) none ?_
 simp only[rgC,seval,J04,J02,WKFC,Jq3]
 refine wst hsn 4 (some 14) (.load 28 (.tmp 13)) none ?_
 simp only[rgC,seval,J04,J02,WKFC,rgL,Jqh,z0]
 refine wst hsn 5 (some 15) (.call { callee:=.builtin .len,args:=#[.tmp 14],argTypes:=#[28] }) none ?_
 simp only[rgC,seval,J04,J02,WKFC,rgK,lenT]
 refine wst hsn 6 (some 16) (.binOp .eql 3 (.tmp 12) (.tmp 15) 3) none ?_
 simp only[rgC,seval,J04,J02,WKFC,rgB,BEq.rfl]
 refine wst hsn 7 (some 17) (.move (.tmp 16)) none ?_
 simp only[rgC,seval,J04,J02,WKFC]
 refine wst hsn 8 (some 18) (.fieldAddr 30 (.tmp 2) 0) (some (7,true)) ?_
 simp only[rgC,seval,J04,J02,WKFC,gdK1,Jq3]
 refine wst hsn 9 (some 19) (.load 28 (.tmp 18)) (some (7,true)) ?_
 simp only[rgC,seval,J04,J02,WKFC,rgL,gdK1,Jqh,x0]
 refine wst hsn 10 (some 20) (.fieldAddr 30 (.tmp 3) 0) (some (7,true)) ?_
 simp only[rgC,seval,J04,J02,WKFC,gdK1,Jq3]
 refine wst hsn 11 (some 21) (.load 28 (.tmp 20)) (some (7,true)) ?_
 simp only[rgC,seval,J04,J02,WKFC,rgL,gdK1,Jqh,z0]
 refine wst hsn 12 (some 22) (.call { callee:=.builtin .len,args:=#[.tmp 21],argTypes:=#[28] }) (some (7,true)) ?_
 simp only[rgC,seval,J04,J02,WKFC,rgK,gdK1,lenT]
 refine wst hsn 13 (some 23) (.binOp .add 3 (.tmp 22) (.const (Value.int IntKind.i64 1)) 3) (some (7,true)) ?_
 simp only[rgC,seval,J04,J02,WKFC,rgB,gdK1,w1]
 refine wst hsn 14 (some 24) (.slice 28 (.tmp 19) none (some (.tmp 23)) none) (some (7,true)) ?_
 simp only[rgC,seval,J04,J02,WKFC,rgL,gdK1,sl]
 refine wst hsn 15 (some 25) (.fieldAddr 30 (.tmp 3) 0) (some (7,true)) ?_
 simp only[rgC,seval,J04,J02,WKFC,gdK1,Jq3]
 refine wst hsn 16 (some 26) (.load 28 (.tmp 25)) (some (7,true)) ?_
 simp only[rgC,seval,J04,J02,WKFC,rgL,gdK1,Jqh,z0]
 refine wst hsn 17 (some 27) (.call { callee:=.builtin .len,args:=#[.tmp 26],argTypes:=#[28] }) (some (7,true)) ?_
 simp only[rgC,seval,J04,J02,WKFC,rgK,gdK1,lenT]
 refine wst hsn 18 (some 28) (.indexAddr 28 (.tmp 24) (.tmp 27)) (some (7,true)) ?_
 simp only[rgC,seval,J04,J02,WKFC,gdK1,ix]
 refine wst hsn 19 (some 29) (.fieldAddr 58 (.tmp 28) 0) (some (7,true)) ?_
 simp only[rgC,seval,J04,J02,WKFC,gdK1,Jrz]
 refine wst hsn 20 (some 30) (.load 3 (.tmp 29)) (some (7,true)) ?_
 simp only[rgC,seval,J04,J02,WKFC,rgL,gdK1,J0m,mk]
 refine wst hsn 21 (some 31) (.binOp .eql 3 (.tmp 30) (.const (Value.int IntKind.i64 (-77))) 3) (some (7,true)) ?_
 simp only[rgC,seval,J04,J02,WKFC,rgB,gdK1,BEq.rfl]
 refine wst hsn 22 (some 32) (.pick (.tmp 17) (.tmp 31) (.const (Value.bool false))) none ?_
 simp only[rgC,seval,J04,J02,WKFC]
 refine wst hsn 23 (some 5) (.assign (.tmp 32)) none ?_
 simp only[rgC,seval,J04,J02,WKFC]
 refine WKF.done (i:=24) (by kernel_rfl) ?_
 simp only[evC,seval,↓evP]
 have hM:J0p 0 Q (.slice (some ⟨o 1,0,none⟩) W.length (W.length+3)) W.length 3 (vcells W):=L1.cells ⟨Nat.zero_le _,by omega⟩
 have hT:J0p lo Q (.slice aw W.length cw) W.length 3 (vcells W):=y1.mono (by omega) fun i _ hi=>oQ0 i hi
 refine WK.loop (fun i s'=>s'.h=Q∧s'.T.get 2=.pointer (some ⟨h.next,0,none⟩)∧s'.T.get 3=.pointer (some ⟨h.next+1,0,none⟩)∧s'.T.get 5=.bool true∧s'.T.get 6=iv i∧i≤W.length) W.length (by omega) ?_ ?_
 ·exact⟨rfl,by simp only[evC,seval,↓evP,rpC],by simp only[evC,seval,↓evP,rpC],by simp only[evC,seval,↓evP,rpC],by simp only[evC,seval,↓evP,rpC],by omega⟩
 rintro i ⟨T1,H1⟩ hi ⟨hH,t2,t3,t5,t6,hil⟩
 simp only at t2 t3 t5 t6 hH
 subst hH
 by_cases hlt:i<W.length
 ·have c1:decide ((i:Int)<(W.length:Int))=true:=by simp;omega
  obtain⟨x,hx⟩:∃ x,W[i]?=some x:=⟨_,List.getElem?_eq_getElem hlt⟩
  obtain⟨i1,p1,a1,b1,d1⟩:=J0p.whole hM Tryz.underlying28 szVr hlt
  obtain⟨i2,p2,a2,b2,d2⟩:=J0p.whole hT Tryz.underlying28 szVr hlt
  rw[JqE hx] at d1 d2
  have w2:IntKind.i64.wrap ((i:Int)+1)=((i+1:Nat):Int):=J0s (by omega) (by omega)
  have t1T:(i1<H1.next)=True:=by simp[b1]
  have t2T:(i2<H1.next)=True:=by simp[b2]
  simp only[evC,seval,↓evP,t2,t5,t6,Jq3,Jqh,x0,lenM,c1]
  refine WK.flags (ops:=JsO) Jst ?_
  refine WKF.begin ?_
  refine wst hsn 0 (some 43) (.fieldAddr 30 (.tmp 2) 0) none ?_
  simp only[rgC,seval,J04,J02,WKFC,Nat.zero_add,t2,Jq3]
  refine wst hsn 1 (some 44) (.load 28 (.tmp 43)) none ?_
  simp only[rgC,seval,J04,J02,WKFC,rgL,Jqh,x0]
  refine wst hsn 2 (some 45) (.move (.tmp 6)) none ?_
  simp only[rgC,seval,J04,J02,WKFC,t6]
  refine wst hsn 3 (some 46) (.indexAddr 28 (.tmp 44) (.tmp 45)) none ?_
  simp only[rgC,seval,J04,J02,WKFC,a1]
  refine wst hsn 4 (some 47) (.load 58 (.tmp 46)) none ?_
  simp only[rgC,seval,J04,J02,WKFC,rgL,JsA,d1,t1T]
  refine wst hsn 5 (some 48) (.fieldAddr 30 (.tmp 3) 0) none ?_
  simp only[rgC,seval,J04,J02,WKFC,t3,Jq3]
  refine wst hsn 6 (some 49) (.load 28 (.tmp 48)) none ?_
  simp only[rgC,seval,J04,J02,WKFC,rgL,Jqh,z0]
  refine wst hsn 7 (some 50) (.move (.tmp 6)) none ?_
  simp only[rgC,seval,J04,J02,WKFC,t6]
  refine wst hsn 8 (some 51) (.indexAddr 28 (.tmp 49) (.tmp 50)) none ?_
  simp only[rgC,seval,J04,J02,WKFC,a2]
  refine wst hsn 9 (some 52) (.load 58 (.tmp 51)) none ?_
  simp only[rgC,seval,J04,J02,WKFC,rgL,JsA,d2,t2T]
  refine wst hsn 10 (some 53) (.binOp .eql 58 (.tmp 47) (.tmp 52) 58) none ?_
  simp only[rgC,seval,J04,J02,WKFC,JrO]
  refine wst hsn 11 (some 5) (.assign (.tmp 53)) none ?_
  simp only[rgC,seval,J04,J02,WKFC]
  refine WKF.done (i:=12) (by kernel_rfl) ?_
  simp only[evC,seval,↓evP,t2,t3,t6,w2]
  exact⟨hlt,hlt⟩
 have c1:decide ((i:Int)<(W.length:Int))=false:=by simp;omega
 simp only[evC,seval,↓evP,t2,t6,Jq3,Jqh,x0,lenM,c1]
 have hsz:=L1.size
 refine WK.loop (fun i s'=>s'.T.get 2=.pointer (some ⟨h.next,0,none⟩)∧s'.T.get 3=.pointer (some ⟨h.next+1,0,none⟩)∧s'.T.get 5=.bool true∧s'.T.get 7=iv i∧i≤W.length∧s'.h.next=H1.next∧s'.h.floor=H1.floor∧(∀ j,j≠o 1→s'.h.get j=H1.get j)∧∃ CS,s'.h.get (o 1)=.row CS 58 false false∧CS.length=(W.length+3)*3) W.length (by omega) ?_ ?_
 ·exact⟨by simp only[evC,seval,↓evP,rpC,t2],by simp only[evC,seval,↓evP,rpC,t3],by simp only[evC,seval,↓evP,rpC,t5],by simp only[evC,seval,↓evP,rpC],by omega,rfl,rfl,fun _ _=>rfl,_,L1.g,hsz⟩
 rintro k ⟨T2,H2⟩ hk ⟨t2,t3,t5,t7,hkl,n2,f2,o2,CS,gC,lC⟩
 simp only at t2 t3 t5 t7 n2 f2 o2 gC
 have x0':ld1 0 (H2.get h.next)=some (.slice (some ⟨o 1,0,none⟩) W.length (W.length+3)):=by rw[o2 _ (by omega)];exact x0
 by_cases hlk:k<W.length
 ·have c2:decide ((k:Int)<(W.length:Int))=true:=by simp;omega
  have hix:=idx0 (id:=o 1) (n:=W.length) (c:=W.length+3) (i:=k) Tryz.underlying28 szVr hlk
  obtain⟨CS',hst,hl'⟩:=Jot (off:=k*3) (v:=vrV 1 0 0) szVr rfl rfl gC (by omega) (by omega)
  have w2:IntKind.i64.wrap ((k:Int)+1)=((k+1:Nat):Int):=J0s (by omega) (by omega)
  simp only[evC,seval,↓evP,t2,t3,t5,t7,Jq3,Jqh,x0',lenM,c2,JrA,hix,hst,w2]
  exact⟨hlk,by omega,n2,f2,fun j hj=>by rw[J05 (by omega) (Ne.symm hj)];exact o2 j hj,CS',J0b rfl (by omega),by omega⟩
 have c2:decide ((k:Int)<(W.length:Int))=false:=by simp;omega
 have x1:ld1 1 (H2.get h.next)=some (.slice (some ⟨o 2,0,none⟩) G.length (G.length+3)):=by rw[o2 _ (by omega),gA];rfl
 have z1:ld1 1 (H2.get (h.next+1))=some tg:=by rw[o2 _ (by omega),gB];rfl
 have M2:=L2.mono (o2 (o 2) (by omega))
 have yg:J1S lo H2 tg G:=J1S.mono y2 (by omega) fun i _ hi=>by rw[o2 i (by omega),oQ0 i hi]
 obtain⟨H3,k3,n3,f3,o3⟩:=Jo0 (n:=n) M2 (by omega) (by omega) yg (by omega) (by omega)
 have x2:ld1 2 (H3.get h.next)=some (.slice (some ⟨o 3,0,none⟩) rd.length (rd.length+3)):=by rw[o3 _ (by omega),o2 _ (by omega),gA];rfl
 have z2:ld1 2 (H3.get (h.next+1))=some td:=by rw[o3 _ (by omega),o2 _ (by omega),gB];rfl
 have M3:=(L3.mono (o2 (o 3) (by omega))).mono (o3 (o 3) (by omega))
 have yd:J1S lo H3 td rd:=J1S.mono y3 (by omega) fun i _ hi=>by rw[o3 i (by omega),o2 i (by omega),oQ0 i hi]
 obtain⟨H4,k4,n4,f4,o4⟩:=Jo0 (n:=n) M3 (by omega) (by omega) yd (by omega) (by omega)
 simp only[evC,seval,↓evP,hr,Nat.zero_add,t2,t3,t5,t7,Jq3,Jqo,JpX,Jqh,J0n,x0',lenM,c2,x1,z1,k3,x2,z2,k4]
 exact⟨by omega,by omega,fun j hj e1 e2 e3=>by rw[o4 j e3,o3 j e2,o2 j e1,gO j hj]⟩
theorem JrV {W:List (Int × Int × Int)} {G rd:List Int} {tv v:Value} {lo b:Nat} {o:Nat→Nat} {h0:SHeap} (hL:LentTyp h b v W G rd o) (hp:Jqg lo h0 tv W G rd) (hb:h0.next≤b) (h0g:∀ i,i<h0.next→h.get i=h0.get i) (hf:h.floor≤b) (hw:W.length<100000) (hg:G.length<100000) (hrl:rd.length<100000000) (hn:W.length+G.length+rd.length+100<n) :
  ∃ h',J0T n 12 [v,tv] h=some (.bool true,h')∧(h.next≤h'.next∧h'.floor=h.floor∧∀ i,i<h.next→i≠o 1→i≠o 2→i≠o 3→h'.get i=h.get i):=by
 obtain⟨n,rfl⟩:∃ j,n=j+1:=⟨n-1,by omega⟩
 exact k_wr (J13 ⟨rfl,rfl,rfl⟩) (JqZ (n:=n) (N:=n) hL hp hb h0g hf hw hg hrl (by omega) (by omega))
theorem Jq4.ints {lo:Nat} {h:SHeap} {cv:Value} {c:CostN} (hc:Jq4 lo h cv c):∃ vo,cv=cV vo c.miss∧one vo=true∧J1S 0 h vo c.on:=by
 obtain⟨vo,rfl,⟨rfl,h2⟩ | ⟨id,rfl,h3,h4,h5⟩⟩:=hc
 ·exact⟨_,rfl,rfl,by rw[h2];exact J0p.nil 0 h 1⟩
 ·exact⟨_,rfl,rfl,J1S.row' h5 ⟨Nat.zero_le _,h4⟩ rfl⟩
theorem Jr1 {ca cb:Value} {c d:CostN} {la lb:Nat} (ha:Jq4 la h ca c) (hb:Jq4 lb h cb d) (hcl:c.on.length<100000) (hn:c.on.length+10<n) :
  ∃ h',J0L Tryz.prog (J0T n) N 13 [ca,cb] h=some (.bool (decide (c.miss=d.miss∧c.on=d.on)),h')∧∀ i,i<h.next→h'.get i=h.get i:=by
 obtain⟨va,rfl,o1,a2⟩:=ha.ints
 obtain⟨vb,rfl,o2,b2⟩:=hb.ints
 refine J1N (R:=fun h'=>∀ i,i<h.next→h'.get i=h.get i) Tryz.func13 rfl (by simp[Tryz.f13]) ?_
 have hr:Tryz.f13.results.toList=[.tmp 4]:=rfl
 have cx:(cV va c.miss).cells.toList=[va,iv c.miss]:=rfl
 have cy:(cV vb d.miss).cells.toList=[vb,iv d.miss]:=rfl
 have ox:[va,iv c.miss].all one=true:=by simp only[List.all_cons,List.all_nil,o1,J5K,Bool.and_self]
 have oy:[vb,iv d.miss].all one=true:=by simp only[List.all_cons,List.all_nil,o2,J5K,Bool.and_self]
 have g0:∀ (a b:SObj),let A:=(h.push a).push b
   A.get h.next=a∧A.get (h.next+1)=b∧A.next=h.next+2∧A.floor=h.floor∧∀ i,i<h.next→A.get i=h.get i:=fun a b=>
  ⟨J4c,J48,rfl,rfl,fun i hi=>by rw[J06 (by show i<h.next+1;omega),J06 hi]⟩
 obtain⟨gA,gB,nG,fG,gO⟩:=g0 (.row [va,iv c.miss] 36 false false) (.row [vb,iv d.miss] 36 false false)
 simp only[evC,seval,↓evP,rpD,J0X,J2t,cx,cy,ox,oy,szC]
 generalize (h.push (.row [va,iv c.miss] 36 false false)).push (.row [vb,iv d.miss] 36 false false)=Q at *
 have x0:ld1 0 (Q.get h.next)=some va:=by rw[gA];rfl
 have x1:ld1 1 (Q.get h.next)=some (iv c.miss):=by rw[gA];rfl
 have z0:ld1 0 (Q.get (h.next+1))=some vb:=by rw[gB];rfl
 have z1:ld1 1 (Q.get (h.next+1))=some (iv d.miss):=by rw[gB];rfl
 have hs:=J78 (n:=n) (h:=Q) (J1S.mono a2 (by omega) fun i _ hi=>gO i hi) (J1S.mono b2 (by omega) fun i _ hi=>gO i hi) (by omega) (by omega)
 cases dm:(c.miss==d.miss) with
 | false=>
  have hne:c.miss≠d.miss:=by simpa using dm
  rw[decide_eq_false (fun h9=>hne h9.1)]
  simp only[evC,seval,↓evP,hr,Nat.zero_add,Jqp,J0m,x1,z1,dm]
  exact gO
 | true=>
  have he:c.miss=d.miss:=by simpa using dm
  have hd:decide (c.miss=d.miss∧c.on=d.on)=decide (c.on=d.on):=by simp[he]
  rw[hd]
  simp only[evC,seval,↓evP,hr,Nat.zero_add,Jqs,Jqp,J0m,J0n,x1,z1,dm,x0,z0,hs]
  exact gO
theorem Js6 {ca cb:Value} {c d:CostN} {la lb:Nat} (ha:Jq4 la h ca c) (hb:Jq4 lb h cb d) (hcl:c.on.length<100000) (hn:c.on.length+20<n) :
  J0T n 13 [ca,cb] h=some (.bool (decide (c.miss=d.miss∧c.on=d.on)),h):=by
 obtain⟨n,rfl⟩:∃ j,n=j+1:=⟨n-1,by omega⟩
 exact J4r (J13 ⟨rfl,rfl,rfl⟩) rfl (Jr1 (n:=n) (N:=n) ha hb hcl (by omega))
theorem Jrf {nm:ByteArray} {s:StN} {W:List (Int × Int × Int)} {G rd:List Int} {pv tv:Value} {lo lt:Nat} (hp:J3x lo h pv nm s) (hty:Jqg lt h tv W G rd) (hn:1<n) :
  ∃ v' h',J0L Tryz.prog (J0T n) N 5 [pv,tv] h=some (v',h')∧(∃ b,v'=.bool b∧(b=false→(s.rows.length≤65536∧s.queues.length≤100∧s.vars.length≤100∧s.tags.length≤100∧s.rules.length≤100∧s.on.length≤100)∧W.length≤100∧G.length≤100∧rd.length≤65536))∧∀ i,i<h.next→h'.get i=h.get i:=by
 obtain⟨vr,vq,vv,vt,vu,vo,rfl,p1,p2,p3,p4,p5,p6⟩:=id hp
 obtain⟨tw,tg,td,rfl,y1,y2,y3⟩:=id hty
 refine J65 (R:=fun v' h'=>(∃ b,v'=.bool b∧(b=false→(s.rows.length≤65536∧s.queues.length≤100∧s.vars.length≤100∧s.tags.length≤100∧s.rules.length≤100∧s.on.length≤100)∧W.length≤100∧G.length≤100∧rd.length≤65536))∧∀ i,i<h.next→h'.get i=h.get i) Tryz.func5 rfl (by simp[Tryz.f5]) ?_
 have hr:Tryz.f5.results.toList=[.tmp 4]:=rfl
 have ca:(Value.agg #[.string nm,vr,vq,vv,vt,vu,vo,iv s.miss]).cells.toList=[.string nm,vr,vq,vv,vt,vu,vo,iv s.miss]:=rfl
 have oa:=all8 (nm:=nm) p1 p2 p3 p4 p5 p6
 have cy:(Value.agg #[tw,tg,td]).cells.toList=[tw,tg,td]:=rfl
 have oy:[tw,tg,td].all one=true:=by simp only[List.all_cons,List.all_nil,y1.one,J0p.one y2,J0p.one y3,Bool.and_self]
 have g0:∀ (a b:SObj),let A:=(h.push a).push b
   A.get h.next=a∧A.get (h.next+1)=b∧A.next=h.next+2∧A.floor=h.floor∧∀ i,i<h.next→A.get i=h.get i:=fun a b=>
  ⟨J4c,J48,rfl,rfl,fun i hi=>by rw[J06 (by show i<h.next+1;omega),J06 hi]⟩
 obtain⟨gA,gB,nG,fG,gO⟩:=g0 (.row [.string nm,vr,vq,vv,vt,vu,vo,iv s.miss] 27 false false) (.row [tw,tg,td] 30 false false)
 simp only[evC,seval,↓evP,rpD,J0X,J2t,ca,oa,cy,oy,sz30,szY]
 generalize (h.push (.row [.string nm,vr,vq,vv,vt,vu,vo,iv s.miss] 27 false false)).push (.row [tw,tg,td] 30 false false)=Q at *
 have lP:ldN 8 0 (Q.get h.next)=some (.agg #[.string nm,vr,vq,vv,vt,vu,vo,iv s.miss]):=J9E gA rfl
 have z0:ld1 0 (Q.get (h.next+1))=some tw:=by rw[gB];rfl
 have z1:ld1 1 (Q.get (h.next+1))=some tg:=by rw[gB];rfl
 have z2:ld1 2 (Q.get (h.next+1))=some td:=by rw[gB];rfl
 have l1:=lenV y1
 have l2:=JfF y2
 have l3:=JfF y3
 obtain⟨b,hfar,hb⟩:=Jpu (n:=n) (hp.mono (h':=Q) (by omega) fun i _ hi=>gO i hi) hn
 cases b with
 | true=>
  simp only[evC,seval,↓evP,hr,J1b,lP,hfar]
  exact⟨⟨_,rfl,fun h9=>by cases h9⟩,gO⟩
 | false=>
 cases d1:decide ((W.length:Int)>100) with
 | true=>
  simp only[evC,seval,↓evP,hr,J1b,lP,hfar,Jq3,Jqh,z0,l1,d1]
  exact⟨⟨_,rfl,fun h9=>by cases h9⟩,gO⟩
 | false=>
 cases d2:decide ((G.length:Int)>100) with
 | true=>
  simp only[evC,seval,↓evP,hr,Nat.zero_add,J1b,lP,hfar,Jq3,Jqh,z0,l1,d1,Jqo,J0n,z1,l2,d2]
  exact⟨⟨_,rfl,fun h9=>by cases h9⟩,gO⟩
 | false=>
 simp only[evC,seval,↓evP,hr,Nat.zero_add,J1b,lP,hfar,Jq3,Jqh,z0,l1,d1,Jqo,J0n,z1,l2,d2,JpX,z2,l3]
 refine⟨⟨_,rfl,fun h9=>⟨hb rfl,?_,?_,?_⟩⟩,gO⟩
 ·have:=of_decide_eq_false d1;omega
 ·have:=of_decide_eq_false d2;omega
 ·have:=of_decide_eq_false h9;omega
theorem JsE {nm:ByteArray} {s:StN} {W:List (Int × Int × Int)} {G rd:List Int} {pv tv:Value} {lo lt:Nat} (hp:J3x lo h pv nm s) (hty:Jqg lt h tv W G rd) (hn:2<n) :
  ∃ b,J0T n 5 [pv,tv] h=some (.bool b,h)∧(b=false→(s.rows.length≤65536∧s.queues.length≤100∧s.vars.length≤100∧s.tags.length≤100∧s.rules.length≤100∧s.on.length≤100)∧W.length≤100∧G.length≤100∧rd.length≤65536):=by
 obtain⟨n,rfl⟩:∃ j,n=j+1:=⟨n-1,by omega⟩
 obtain⟨v',h',e,⟨b,rfl,hb⟩,ho⟩:=Jrf (n:=n) (N:=n) hp hty (by omega)
 exact⟨b,J4r (J13 ⟨rfl,rfl,rfl⟩) rfl ⟨h',e,ho⟩,hb⟩
end
theorem JqD {H:SHeap} {cv:Value} {c:CostN} {lo:Nat} {e p:Int} (hc:Jq4 lo H cv c) (hf:H.floor≤H.next) :
  ∃ H':SHeap × SHeap,J0K Tryz.prog ((H.push (.row [.slice none 0 0,iv 0] 36 false false)).push (.row [iv 0,iv 0] 39 false false)) 36 (.pointer (some ⟨H.next,0,none⟩)) cv=some (H'.1)∧J0K Tryz.prog H'.1 39 (.pointer (some ⟨H.next+1,0,none⟩)) (J2k e p)=some H'.2 ∧
   ldN 2 0 (H'.2.get H.next)=some cv∧ldN 2 0 (H'.2.get (H.next+1))=some (J2k e p)∧H'.2.next=H.next+2∧H'.2.floor=H.floor∧∀ i,i<H.next→H'.2.get i=H.get i:=by
 obtain⟨vo,rfl,ho,_⟩:=hc.ints
 have ga:=J4c (h:=H) (o:=.row [.slice none 0 0,iv 0] 36 false false) (o':=.row [iv 0,iv 0] 39 false false)
 have gb:=J48 (h:=H) (o:=.row [.slice none 0 0,iv 0] 36 false false) (o':=.row [iv 0,iv 0] 39 false false)
 have gold:∀ i,i<H.next→((H.push (.row [.slice none 0 0,iv 0] 36 false false)).push (.row [iv 0,iv 0] 39 false false)).get i=H.get i:=fun i hi=>by rw[J06 (by show i<H.next+1;omega),J06 hi]
 have hnx:((H.push (.row [.slice none 0 0,iv 0] 36 false false)).push (.row [iv 0,iv 0] 39 false false)).next=H.next+2:=rfl
 have hfx:((H.push (.row [.slice none 0 0,iv 0] 36 false false)).push (.row [iv 0,iv 0] 39 false false)).floor=H.floor:=rfl
 generalize (H.push (.row [.slice none 0 0,iv 0] 36 false false)).push (.row [iv 0,iv 0] 39 false false)=G at *
 have a1:=stW (t:=36) szC (vs:=[vo,iv c.miss]) ga rfl rfl (by simp only[List.all_cons,List.all_nil,ho,J5K,Bool.and_self]) (by omega)
 have g3':(G.put H.next (.row [vo,iv c.miss] 36 false false)).get (H.next+1)=.row [iv 0,iv 0] 39 false false:=by rw[J05 (by omega) (by omega)];exact gb
 have a2:=stW (t:=39) sz33 (vs:=[iv e,iv p]) g3' rfl rfl rfl (by show G.floor≤_;omega)
 refine⟨⟨_,_⟩,a1,a2,?_,?_,hnx,hfx,fun i hi=>?_⟩
 ·show ldN 2 0 (((G.put _ _).put _ _).get _)=_
  rw[J05 (by show H.next+1<G.next;omega) (by omega),J0b rfl (by omega)]
  rfl
 ·show ldN 2 0 (((G.put _ _).put _ _).get _)=_
  rw[J0b rfl (by show H.next+1<G.next;omega)]
  rfl
 ·show ((G.put _ _).put _ _).get i=_
  rw[J05 (by show H.next+1<G.next;omega) (by omega),J05 (by omega) (by omega),gold i hi]
section
variable {n:Nat} {h:SHeap}
set_option maxHeartbeats 32000000 in
theorem Jr6 {nm:ByteArray} {s:StN} {W:List (Int × Int × Int)} {G rd:List Int} {pv tv:Value} {lo lt:Nat} (hp:J3x lo h pv nm s) (hty:Jqg lt h tv W G rd) (h64:∀ x∈s.rows,x.kids≤9223372036854775807) (hfl:h.floor≤h.next) (hg:h.get 0=J14) (hn0:0<h.next) (hn:400000<n) :
  ∃ h',J0L Tryz.prog (Jrk n) n 3 [pv,tv] h=some (.bool true,h')∧∀ i,i<h.next→h'.get i=h.get i:=by
 obtain⟨vr,vq,vv,vt,vu,vo,rfl,p1,p2,p3,p4,p5,p6⟩:=id hp
 obtain⟨tw,tg,td,rfl,y1,y2,y3⟩:=id hty
 refine J1N (R:=fun h'=>∀ i,i<h.next→h'.get i=h.get i) Tryz.func3 rfl (by simp[Tryz.f3]) ?_
 have hr:Tryz.f3.results.toList=[.tmp 4]:=rfl
 have ca:(Value.agg #[.string nm,vr,vq,vv,vt,vu,vo,iv s.miss]).cells.toList=[.string nm,vr,vq,vv,vt,vu,vo,iv s.miss]:=rfl
 have zc30:zPol.cells.toList=[.string ByteArray.empty,.slice none 0 0,.slice none 0 0,.slice none 0 0,.slice none 0 0,.slice none 0 0,.slice none 0 0,iv 0]:=rfl
 have zcY:(Value.agg #[.slice none 0 0,.slice none 0 0,.slice none 0 0]).cells.toList=[.slice none 0 0,.slice none 0 0,.slice none 0 0]:=rfl
 have zcC:(cV (.slice none 0 0) 0).cells.toList=[.slice none 0 0,iv 0]:=rfl
 have zc33:(J2k 0 0).cells.toList=[iv 0,iv 0]:=rfl
 have oa:=all8 (nm:=nm) p1 p2 p3 p4 p5 p6
 have cy:(Value.agg #[tw,tg,td]).cells.toList=[tw,tg,td]:=rfl
 have oy:[tw,tg,td].all one=true:=by simp only[List.all_cons,List.all_nil,y1.one,J0p.one y2,J0p.one y3,Bool.and_self]
 have g0:∀ (a b:SObj),let A:=(h.push a).push b
   A.get h.next=a∧A.get (h.next+1)=b∧A.next=h.next+2∧A.floor=h.floor∧∀ i,i<h.next→A.get i=h.get i:=fun a b=>
  ⟨J4c,J48,rfl,rfl,fun i hi=>by rw[J06 (by show i<h.next+1;omega),J06 hi]⟩
 obtain⟨gA,gB,nA,fA,gO⟩:=g0 (.row [.string nm,vr,vq,vv,vt,vu,vo,iv s.miss] 27 false false) (.row [tw,tg,td] 30 false false)
 simp only[evC,seval,↓evP,rpD,J0X,J2t,ca,oa,cy,oy,sz30,szY]
 generalize (h.push (.row [.string nm,vr,vq,vv,vt,vu,vo,iv s.miss] 27 false false)).push (.row [tw,tg,td] 30 false false)=A at *
 have lA:ldN 8 0 (A.get h.next)=some (.agg #[.string nm,vr,vq,vv,vt,vu,vo,iv s.miss]):=J9E gA rfl
 have lB:ldN 3 0 (A.get (h.next+1))=some (.agg #[tw,tg,td]):=by rw[gB];rfl
 have hpA:=hp.mono (h':=A) (by omega) fun i _ hi=>gO i hi
 have htA:=hty.mono (h':=A) (by omega) fun i _ hi=>gO i hi
 obtain⟨b,hfar,hb⟩:=JsE (n:=n) hpA htA (by omega)
 have hfar':=u_k (n:=n) (by decide) hfar
 cases b with
 | true=>
  have hhd:=Jsi (n:=n) (h:=A) (by rw[gO 0 hn0];exact hg)
  simp only[evC,seval,↓evP,hr,J1b,JqF,lA,lB,hfar',hhd]
  exact gO
 | false=>
 obtain⟨⟨b1,b2,b3,b4,b5,b6⟩,b7,b8,b9⟩:=hb rfl
 have hsm:JdC s:=by unfold JdC;omega
 have htot:Jbg s≤66036:=by unfold Jbg;omega
 obtain⟨v1,h1,hlend,⟨o,hL⟩,n1,f1,o1⟩:=Jpq (n:=n) hpA hsm (by omega) (by omega) (by omega) (by omega)
 have hlend':=u_k (n:=n) (by decide) hlend
 have hu:=hL.far
 have hv1:=hL.v
 have hst:=stW (t:=27) sz30 (h:=h1.push (.row [.string ByteArray.empty,.slice none 0 0,.slice none 0 0,.slice none 0 0,.slice none 0 0,.slice none 0 0,.slice none 0 0,iv 0] 27 false false)) (vs:=[.string nm,.slice (some ⟨o 1,0,none⟩) s.rows.length (s.rows.length+9),.slice (some ⟨o 2,0,none⟩) s.queues.length (s.queues.length+3),.slice (some ⟨o 3,0,none⟩) s.vars.length (s.vars.length+3),.slice (some ⟨o 4,0,none⟩) s.tags.length (s.tags.length+3),.slice (some ⟨o 5,0,none⟩) s.rules.length (s.rules.length+3),.slice (some ⟨o 6,0,none⟩) s.on.length (s.on.length+3),iv s.miss]) (J0h (h:=h1)) rfl rfl rfl (by rw[J0i];omega)
 rw[← hv1] at hst
 generalize hcs:[Value.string nm,.slice (some ⟨o 1,0,none⟩) s.rows.length (s.rows.length+9),.slice (some ⟨o 2,0,none⟩) s.queues.length (s.queues.length+3),.slice (some ⟨o 3,0,none⟩) s.vars.length (s.vars.length+3),.slice (some ⟨o 4,0,none⟩) s.tags.length (s.tags.length+3),.slice (some ⟨o 5,0,none⟩) s.rules.length (s.rules.length+3),.slice (some ⟨o 6,0,none⟩) s.on.length (s.on.length+3),iv s.miss]=cs at *
 have gM:((h1.push (.row [.string ByteArray.empty,.slice none 0 0,.slice none 0 0,.slice none 0 0,.slice none 0 0,.slice none 0 0,.slice none 0 0,iv 0] 27 false false)).put h1.next (.row cs 27 false false)).get h1.next=.row cs 27 false false:=J0b rfl (by rw[J1D];omega)
 have o2:∀ i,i<h1.next→((h1.push (.row [.string ByteArray.empty,.slice none 0 0,.slice none 0 0,.slice none 0 0,.slice none 0 0,.slice none 0 0,.slice none 0 0,iv 0] 27 false false)).put h1.next (.row cs 27 false false)).get i=h1.get i:=fun i hi=>by rw[J05 (by rw[J1D];omega) (by omega),J06 hi]
 have n2:((h1.push (.row [.string ByteArray.empty,.slice none 0 0,.slice none 0 0,.slice none 0 0,.slice none 0 0,.slice none 0 0,.slice none 0 0,iv 0] 27 false false)).put h1.next (.row cs 27 false false)).next=h1.next+1:=rfl
 have f2:((h1.push (.row [.string ByteArray.empty,.slice none 0 0,.slice none 0 0,.slice none 0 0,.slice none 0 0,.slice none 0 0,.slice none 0 0,iv 0] 27 false false)).put h1.next (.row cs 27 false false)).floor=h1.floor:=rfl
 have lB2:ldN 3 0 (((h1.push (.row [.string ByteArray.empty,.slice none 0 0,.slice none 0 0,.slice none 0 0,.slice none 0 0,.slice none 0 0,.slice none 0 0,iv 0] 27 false false)).put h1.next (.row cs 27 false false)).get (h.next+1))=some (.agg #[tw,tg,td]):=by rw[o2 _ (by omega),o1 _ (by omega)];exact lB
 simp only[evC,seval,↓evP,J1b,JqF,lA,lB,hfar',hlend',J5F,J3Y,zc30,hst,lB2]
 generalize (h1.push (.row [.string ByteArray.empty,.slice none 0 0,.slice none 0 0,.slice none 0 0,.slice none 0 0,.slice none 0 0,.slice none 0 0,iv 0] 27 false false)).put h1.next (.row cs 27 false false)=H2 at *
 have lM:ldN 8 0 (H2.get h1.next)=some v1:=by rw[hv1,gM];rw[← hcs];rfl
 have hL2:=hL.mono (h':=H2) (by omega) o2
 have oA2:∀ i,i<A.next→H2.get i=A.get i:=fun i hi=>by rw[o2 i (by omega),o1 i hi]
 have ht2:=htA.mono (h':=H2) (by omega) fun i _ hi=>oA2 i hi
 obtain⟨v2,h3,hlt,⟨o',hLt⟩,n3,f3,o3⟩:=Jsd (n:=n) ht2 (by omega) (by omega) (by omega) (by omega) (by omega)
 have hlt':=u_k (n:=n) (by decide) hlt
 have hut:=hLt.far
 have hv2:=hLt.v
 have hst4:=stW (t:=30) szY (h:=h3.push (.row [.slice none 0 0,.slice none 0 0,.slice none 0 0] 30 false false)) (vs:=[.slice (some ⟨o' 1,0,none⟩) W.length (W.length+3),.slice (some ⟨o' 2,0,none⟩) G.length (G.length+3),.slice (some ⟨o' 3,0,none⟩) rd.length (rd.length+3)]) (J0h (h:=h3)) rfl rfl rfl (by rw[J0i];omega)
 rw[← hv2] at hst4
 generalize hcs2:[Value.slice (some ⟨o' 1,0,none⟩) W.length (W.length+3),.slice (some ⟨o' 2,0,none⟩) G.length (G.length+3),.slice (some ⟨o' 3,0,none⟩) rd.length (rd.length+3)]=cs2 at *
 have gN:((h3.push (.row [.slice none 0 0,.slice none 0 0,.slice none 0 0] 30 false false)).put h3.next (.row cs2 30 false false)).get h3.next=.row cs2 30 false false:=J0b rfl (by rw[J1D];omega)
 have o4:∀ i,i<h3.next→((h3.push (.row [.slice none 0 0,.slice none 0 0,.slice none 0 0] 30 false false)).put h3.next (.row cs2 30 false false)).get i=h3.get i:=fun i hi=>by rw[J05 (by rw[J1D];omega) (by omega),J06 hi]
 have n4:((h3.push (.row [.slice none 0 0,.slice none 0 0,.slice none 0 0] 30 false false)).put h3.next (.row cs2 30 false false)).next=h3.next+1:=rfl
 have f4:((h3.push (.row [.slice none 0 0,.slice none 0 0,.slice none 0 0] 30 false false)).put h3.next (.row cs2 30 false false)).floor=h3.floor:=rfl
 simp only[evC,seval,↓evP,JqF,hlt',JrY,Js4,zcY,hst4]
 generalize (h3.push (.row [.slice none 0 0,.slice none 0 0,.slice none 0 0] 30 false false)).put h3.next (.row cs2 30 false false)=H4 at *
 have oH4:∀ i,i<H2.next→H4.get i=H2.get i:=fun i hi=>by rw[o4 i (by omega),o3 i hi]
 have lN:ldN 3 0 (H4.get h3.next)=some v2:=by rw[hv2,gN];rw[← hcs2];rfl
 have lM4:ldN 8 0 (H4.get h1.next)=some v1:=by rw[oH4 _ (by omega)];exact lM
 have hL4:=hL2.mono (h':=H4) (by omega) oH4
 have hLt4:=hLt.mono (h':=H4) (by omega) fun i _ hi=>o4 i hi
 obtain⟨w5,h5,hc5,cv,rfl,hcv,f5,n5,o5⟩:=JsG (n:=n) hL4.pol hL4.lies hLt4.typ hsm (by omega) (by omega) (by omega) (by rw[oH4 0 (by omega),oA2 0 (by omega),gO 0 hn0];exact hg) (by omega) (by omega)
 have hc5':=u_k (n:=n) (by decide) hc5
 obtain⟨⟨ha6,h6⟩,s1,s2,la1,la2,n6,f6,o6⟩:=JqD (e:=(JpV nm s rd).1.1) (p:=(JpV nm s rd).1.2) hcv (by omega)
 simp only at s1 s2 la1 la2 n6 f6 o6
 have oA6:∀ i,i<A.next→h6.get i=A.get i:=fun i hi=>by rw[o6 i (by omega),o5 i (by omega),oH4 i (by omega),oA2 i hi]
 have lA6:ldN 8 0 (h6.get h.next)=some (.agg #[.string nm,vr,vq,vv,vt,vu,vo,iv s.miss]):=by rw[oA6 _ (by omega)];exact lA
 have lB6:ldN 3 0 (h6.get (h.next+1))=some (.agg #[tw,tg,td]):=by rw[oA6 _ (by omega)];exact lB
 obtain⟨w7,h7,hc7,dv,rfl,hdv,f7,n7,o7⟩:=Jss (n:=n) (hpA.mono (h':=h6) (by omega) fun i _ hi=>oA6 i hi) h64 (htA.mono (h':=h6) (by omega) fun i _ hi=>oA6 i hi) hsm (by omega) (by omega) (by omega) (by omega)
 have hc7':=u_k (n:=n) (by decide) hc7
 obtain⟨⟨ha8,h8⟩,s3,s4,lb1,lb2,n8,f8,o8⟩:=JqD (e:=(JpV nm s rd).1.1) (p:=(JpV nm s rd).1.2) hdv (by omega)
 simp only at s3 s4 lb1 lb2 n8 f8 o8
 have oH8:∀ i,i<h5.next→h8.get i=h5.get i:=fun i hi=>by rw[o8 i (by omega),o7 i (by omega),o6 i hi]
 have o48:∀ i,i<H4.next→h8.get i=H4.get i:=fun i hi=>by rw[oH8 i (by omega),o5 i hi]
 have oA8:∀ i,i<A.next→h8.get i=A.get i:=fun i hi=>by rw[o48 i (by omega),oH4 i (by omega),oA2 i hi]
 have hL8:=hL4.mono (h':=h8) (by omega) o48
 obtain⟨h9,hk9,n9,f9,o9⟩:=Jre (n:=n) hL8 hpA (Nat.le_refl _) oA8 (by omega) hsm (by omega) (by omega) (by omega)
 have hk9':=u_k (n:=n) (by decide) hk9
 have far9:∀ i,i<h8.next→(i<A.next∨h1.next≤i)→h9.get i=h8.get i:=fun i hi hc=>o9 i hi fun j j1 j2=>by
  have hc2:j=1∨j=2∨j=3∨j=4∨j=5∨j=6:=by omega
  rcases hc2 with rfl | rfl | rfl | rfl | rfl | rfl <;> omega
 have hLt9:=hLt4.mono (h':=h9) (by omega) fun i h1 h2=>by rw[far9 i (by omega) (by omega),o48 i h2]
 have oA9:∀ i,i<A.next→h9.get i=A.get i:=fun i hi=>by rw[far9 i (by omega) (.inl hi),oA8 i hi]
 obtain⟨h10,hk10,n10,f10,o10⟩:=JrV (n:=n) (h0:=A) hLt9 htA (by omega) oA9 (by omega) (by omega) (by omega) (by omega) (by omega)
 have hk10':=u_k (n:=n) (by decide) hk10
 have far10:∀ i,i<h8.next→(i<A.next∨(h1.next≤i∧i<H2.next)∨h3.next≤i)→h10.get i=h8.get i:=fun i hi hc=>by rw[o10 i (by omega) (by omega) (by omega) (by omega),far9 i hi (by omega)]
 have lM8:ldN 8 0 (h8.get h1.next)=some v1:=by rw[o48 _ (by omega)];exact lM4
 have lA8:ldN 8 0 (h8.get h.next)=some (.agg #[.string nm,vr,vq,vv,vt,vu,vo,iv s.miss]):=by rw[oA8 _ (by omega)];exact lA
 have lN9:ldN 3 0 (h9.get h3.next)=some v2:=by rw[far9 _ (by omega) (by omega),o48 _ (by omega)];exact lN
 have lB9:ldN 3 0 (h9.get (h.next+1))=some (.agg #[tw,tg,td]):=by rw[oA9 _ (by omega)];exact lB
 have q1:ldN 2 0 (h10.get (h5.next+1))=some (J2k (JpV nm s rd).1.1 (JpV nm s rd).1.2):=by rw[far10 _ (by omega) (by omega),o8 _ (by omega),o7 _ (by omega)];exact la2
 have q2:ldN 2 0 (h10.get (h7.next+1))=some (J2k (JpV nm s rd).1.1 (JpV nm s rd).1.2):=by rw[far10 _ (by omega) (by omega)];exact lb2
 have q3:ldN 2 0 (h10.get h5.next)=some cv:=by rw[far10 _ (by omega) (by omega),o8 _ (by omega),o7 _ (by omega)];exact la1
 have q4:ldN 2 0 (h10.get h7.next)=some dv:=by rw[far10 _ (by omega) (by omega)];exact lb1
 have hcl:(JpV nm s rd).2.on.length<100000:=by
  unfold JpV
  split
  ·show (0:Nat)<_;omega
  ·split
   ·show (0:Nat)<_;omega
   ·rcases JqW (R:=s.rows) (V:=valA s.rows (endN (Jk8 s.rows)) rd (JpZ s.rows (endN (Jk8 s.rows)) rd s.rules [])) s.rows.length 0 ⟨List.replicate s.queues.length 0,0⟩ with h9 | h9
    ·rw[h9];show (List.replicate s.queues.length (0:Int)).length<_;rw[List.length_replicate];omega
    ·rw[h9];show (0:Nat)<_;omega
 have hsame:=Js6 (n:=n) (h:=h10) (hcv.mono (h':=h10) (by omega) fun i h1 h2=>by rw[far10 i (by omega) (by omega),oH8 i h2]) (hdv.mono (h':=h10) (by omega) fun i h1 h2=>by rw[far10 i (by omega) (by omega),o8 i h2]) hcl (by omega)
 rw[decide_eq_true ⟨rfl,rfl⟩] at hsame
 have hsame':=u_k (n:=n) (by decide) hsame
 have hhd:=Jsi (n:=n) (h:=h10) (by rw[far10 0 (by omega) (by omega),oA8 0 (by omega),gO 0 hn0];exact hg)
 simp only[evC,seval,↓evP,hr,J1b,JqF,JqN,J2n,lM4,lN,hc5',JqY,JqV,zcC,J3C,J1t,zc33,J1D,s1,s2,lA6,lB6,hc7',s3,s4,lM8,lA8,hk9',lN9,lB9,hk10',q1,q2,eq33,BEq.rfl,Bool.and_self,if_true,q3,q4,hsame',hhd]
 exact fun i hi=>by rw[far10 i (by omega) (by omega),oA8 i (by omega),gO i hi]
end
end Go.Proofs.YtipekdhneagdbaaGreatDoor
namespace Go.Proofs.YtipekdhneagdbaaGreatDoor
open Go Go.Sx Go.ChangeShapes Go.WideShapes Go.ChangeAt Go.RowKit
set_option maxRecDepth 100000
set_option linter.unusedSimpArgs false
set_option linter.unusedVariables false
section
variable {α:Type} {cells:α→List Value} {w:Nat} {l:List α}
theorem Jsf (hcl:∀ x,(cells x).length=w):(l.flatMap cells).length=l.length*w:=by
 induction l with
 | nil=>simp
 | cons x l ih=>
  rw[List.flatMap_cons,List.length_append,ih,hcl,List.length_cons,Nat.succ_mul]
  omega
theorem JrF (hcl:∀ x,(cells x).length=w):∀ {l:List α} {i j:Nat} {x:α},l[i]?=some x→j<w→(l.flatMap cells)[i*w+j]?=(cells x)[j]?
 | [],i,j,x,h,_=>by simp at h
 | y :: l,0,j,x,h,hj=>by
  cases h
  rw[List.flatMap_cons,Nat.zero_mul,Nat.zero_add,List.getElem?_append_left (by rw[hcl];exact hj)]
 | y :: l,i+1,j,x,h,hj=>by
  have h':l[i]?=some x:=h
  rw[List.flatMap_cons,List.getElem?_append_right (by rw[hcl,Nat.succ_mul];omega),hcl,← JrF hcl h' hj]
  congr 1
  rw[Nat.succ_mul]
  omega
end
def Jq8 (W:World) (v:Value) (n w:Nat) (cs:List Value):Prop:=cs.length=n*w∧((n=0∧v=.slice none 0 0) ∨
 ∃ b off cap CS ty fr,v=.slice (some ⟨b,off,none⟩) n cap∧n≤cap∧cap<unk∧W.heap[b]?=some (.cells CS ty fr)∧∀ k,k<n*w→CS[off+k]?=cs[k]?)
section
variable {H:Type} {enc:TypeId × Value→H} {W:World} {base b0:Nat} {sp:Nat→Bool} {hd:Bool}
theorem Jq2 {α:Type} {cells:α→List Value} {Q:α→Prop} {w:Nat} {t e:TypeId} (ht:Tryz.prog.underlying t=some (.slice e)) (hw:Tryz.prog.cellsOf e=w)
  (hopen:∀ n cs y,DataW.trod enc Tryz.prog W base sp hd n e cs=some y→∃ x,cs=cells x∧Q x) (hcl:∀ x,(cells x).length=w) (hw0:0<w)
  {v:Value} {n:Nat} {y:DataW H × List MemPlace} (hval:Cell.okWide Tryz.prog W .any b0 t v) (h:DataW.trod enc Tryz.prog W base sp hd n t [v]=some y):∃ l:List α,(∀ x∈l,Q x)∧Jq8 W v l.length w (l.flatMap cells):=by
 rcases DataW.trod_slice ht h with⟨h1,h2⟩ | ⟨a',len,cap,elems,rest,n',_,h1,_,hb,hl,hm,hlen,hel,_⟩
 ·cases h1
  exact⟨[],fun x hx=>(by cases hx),by simp,.inl ⟨rfl,rfl⟩⟩
 ·cases h1
  simp only[Cell.okWide,ht,Cell.ok] at hval
  obtain⟨_,_,_,hsp,row,cells',hsh,_⟩:=hval
  obtain⟨b,off,spot⟩:=a'
  simp only at hsp
  subst hsp
  have hblk:∃ CS ty fr,W.heap[b]?=some (.cells CS ty fr):=by
   simp only[World.shape?] at hsh
   split at hsh
   ·rename_i CS ty fr hh;exact⟨_,_,_,hh⟩
   ·cases hsh
  obtain⟨CS,ty,fr,hblk⟩:=hblk
  have each:∀ i,i<len→∃ x:α,Q x∧∀ j,j<w→CS[off+(i*w+j)]?=(cells x)[j]?:=fun i hi=>by
   have:=hel i hi
   obtain⟨y,hy⟩:∃ y,elems[i]?=some y:=⟨_,List.getElem?_eq_getElem (by omega)⟩
   rw[hy,J9W,hw,Option.bind_eq_some_iff] at this
   obtain⟨cs,hcs,ht⟩:=this
   obtain⟨x,rfl,hx⟩:=hopen _ _ _ ht
   obtain⟨_,hc⟩:=Jen hcs
   refine⟨x,hx,fun j hj=>?_⟩
   rw[← hc j hj,← Nat.add_assoc]
   simp only[World.cell?,hblk,Option.isSome_none,Bool.false_eq_true,if_false]
  obtain⟨l,hll,hl1⟩:∃ l:List α,l.length=len∧∀ i x,l[i]?=some x→Q x∧∀ j,j<w→CS[off+(i*w+j)]?=(cells x)[j]?:=by
   have : ∀ m,m≤len→∃ l:List α,l.length=m∧∀ i x,l[i]?=some x→Q x∧∀ j,j<w→CS[off+(i*w+j)]?=(cells x)[j]?:=by
    intro m
    induction m with
    | zero=>exact fun _=>⟨[],rfl,fun i x h=>by simp at h⟩
    | succ m ih=>
     intro hm
     obtain⟨l,h1,h2⟩:=ih (by omega)
     obtain⟨x,hx⟩:=each m (by omega)
     refine⟨l++[x],by simp[h1],fun i y hy=>?_⟩
     rcases Nat.lt_or_ge i l.length with h3 | h3
     ·rw[List.getElem?_append_left h3] at hy
      exact h2 i y hy
     ·rw[List.getElem?_append_right h3] at hy
      have:i-l.length=0:=by
       rcases Nat.eq_zero_or_pos (i-l.length) with h4 | h4
       ·exact h4
       ·rw[List.getElem?_eq_none (by simp;omega)] at hy
        cases hy
      rw[this] at hy
      cases hy
      have:i=m:=by omega
      subst this
      exact hx
   exact this len (Nat.le_refl _)
  unfold maxLen at hm
  refine⟨l,fun x hx=>?_,Jsf hcl,.inr ⟨b,off,cap,CS,ty,fr,by rw[hll],by omega,by unfold unk;omega,hblk,fun k hk=>?_⟩⟩
  ·obtain⟨i,hi⟩:=List.getElem?_of_mem hx
   exact(hl1 i x hi).1
  ·have hdm:=Nat.div_add_mod k w
   rw[Nat.mul_comm] at hdm
   have hj:=Nat.mod_lt k hw0
   have hi:k/w<l.length:=(Nat.div_lt_iff_lt_mul hw0).2 hk
   have hx:=List.getElem?_eq_getElem hi
   rw[← hdm,(hl1 _ _ hx).2 _ hj,JrF hcl hx hj]
end
structure Piece where
 v:Value
 n:Nat
 w:Nat
 cs:List Value
 ty:TypeId
noncomputable def JpW:SHeap→List Piece→SHeap
 | h,[]=>h
 | h,p :: ps=>JpW (h.push (.row p.cs p.ty false true)) ps
theorem Jqb:∀ (ps:List Piece) (h:SHeap),(JpW h ps).next=h.next+ps.length∧(JpW h ps).floor=h.floor∧∀ i,i<h.next→(JpW h ps).get i=h.get i
 | [],h=>⟨rfl,rfl,fun _ _=>rfl⟩
 | p :: ps,h=>by
  obtain⟨h1,h2,h3⟩:=Jqb ps (h.push (.row p.cs p.ty false true))
  rw[J1D] at h1 h3
  refine⟨by show (JpW _ ps).next=_;rw[h1,List.length_cons];omega,h2,fun i hi=>?_⟩
  show (JpW _ ps).get i=_
  rw[h3 i (by omega),J06 hi]
theorem Jqm:∀ {ps:List Piece} {h:SHeap} {i:Nat} {p:Piece},ps[i]?=some p→(JpW h ps).get (h.next+i)=.row p.cs p.ty false true
 | [],h,i,p,hp=>by simp at hp
 | q :: ps,h,0,p,hp=>by
  cases hp
  show (JpW _ ps).get h.next=_
  rw[(Jqb ps _).2.2 _ (by rw[J1D];omega),J0h]
 | q :: ps,h,i+1,p,hp=>by
  have:=Jqm (ps:=ps) (h:=h.push (.row q.cs q.ty false true)) (i:=i) (p:=p) hp
  rw[J1D] at this
  show (JpW _ ps).get (h.next+(i+1))=_
  rw[← this]
  congr 1
  omega
def locP (p:Piece):Go.Sx.Loc:=match p.v with
 | .slice (some a) _ _=>⟨a.block,a.off,0,0⟩
 | _=>⟨0,0,0,0⟩
def mapL (ps:List Piece):Map:=fun i=>if i=0 then some ⟨0,0,0,0⟩ else (ps[i-1]?).map locP
def svP (i:Nat) (p:Piece):Value:=match p.v with
 | .slice (some _) n c=>.slice (some ⟨i,0,none⟩) n c
 | v=>v
theorem JqG {ps:List Piece} {i:Nat} {p:Piece} (h:ps[i]?=some p):mapL ps (i+1)=some (locP p):=by
 unfold mapL
 rw[if_neg (by omega),Nat.add_sub_cancel,h]
 rfl
theorem relL {W : World} (h : laidMetH Tryz.prog [("winnow/lex.words", Rows.laid_winnow_lex_words)] W) {ps : List Piece} (hps : ∀ p ∈ ps, Jq8 W p.v p.n p.w p.cs ∧ ∀ v ∈ p.cs, J1i v = true) :
  Rel Tryz.prog (mapL ps) (JpW Jfv ps) W∧(∀ i,¬ wr ((JpW Jfv ps).get i))∧(JpW Jfv ps).next=ps.length+1∧(JpW Jfv ps).floor=0∧(JpW Jfv ps).get 0=J14 ∧
   ∀ (i:Nat) p,ps[i]?=some p→vrel (mapL ps) (svP (i+1) p) p.v∧J0p 0 (JpW Jfv ps) (svP (i+1) p) p.n p.w p.cs:=by
 obtain⟨hn,hf,ho⟩:=Jqb ps Jfv
 have h01:Jfv.next=1:=rfl
 rw[h01] at hn ho
 obtain⟨CS0,ty0,fr0,hb0,hcs0⟩:=J5Q (zs:=J2D) (rest:=[]) JfI J7e Tryz.underlying130 Tryz.underlying9 JfP J7w h
 have hget:∀ (i:Nat) p,ps[i]?=some p→(JpW Jfv ps).get (i+1)=.row p.cs p.ty false true:=fun i p hp=>by
  have:=Jqm (h:=Jfv) hp
  rw[h01,Nat.add_comm] at this
  exact this
 have hro:=Jcz (P:=Tryz.prog) (W:=W) (ρ:=mapL ps) (h:=JpW Jfv ps) rfl (fun i hi=>by
   unfold mapL
   rw[if_neg (by omega),List.getElem?_eq_none (by omega)]
   rfl) (fun g hg=>by
   rw[Jg1] at hg
   obtain rfl:g=0:=by omega
   exact⟨_,rfl,rfl,rfl⟩) (fun i hi=>by
   rw[hn] at hi
   cases i with
   | zero=>
    refine⟨J5v,9,false,⟨0,0,0,0⟩,CS0,ty0,fr0,(ho 0 (by omega)).trans rfl,rfl,hb0,fun k v hv=>⟨v,?_,?_⟩⟩
    ·have:CS0.toList[k]?=some v:=by rw[hcs0];exact hv
     simpa using this
    ·have hm:v∈J5v:=List.mem_of_getElem? hv
     obtain⟨z,_,rfl⟩:=List.mem_map.1 hm
     exact .flat rfl
   | succ i=>
    obtain⟨p,hp⟩:∃ p,ps[i]?=some p:=⟨_,List.getElem?_eq_getElem (by omega)⟩
    obtain⟨⟨hl,hor⟩,hfl⟩:=hps p (List.mem_of_getElem? hp)
    rcases hor with⟨h0,hv⟩ | ⟨b,off,cap,CS,ty,fr,hv,h1,h2,h3,h4⟩
    ·refine⟨p.cs,p.ty,false,locP p,CS0,ty0,fr0,hget i p hp,JqG hp,by unfold locP;rw[hv];exact hb0,fun k v hk=>?_⟩
     have:=(List.getElem?_eq_some_iff.1 hk).1
     rw[hl,h0,Nat.zero_mul] at this
     omega
    ·refine⟨p.cs,p.ty,false,locP p,CS,ty,fr,hget i p hp,JqG hp,by unfold locP;rw[hv];exact h3,fun k v hk=>⟨v,?_,.flat (hfl v (List.mem_of_getElem? hk))⟩⟩
     have hkl:=(List.getElem?_eq_some_iff.1 hk).1
     have e:(locP p).d=off:=by unfold locP;rw[hv]
     rw[e,h4 k (by omega)]
     exact hk)
 refine⟨hro.1,hro.2,by omega,hf,(ho 0 (by omega)).trans rfl,fun i p hp=>?_⟩
 obtain⟨⟨hl,hor⟩,hfl⟩:=hps p (List.mem_of_getElem? hp)
 have hil:=(List.getElem?_eq_some_iff.1 hp).1
 rcases hor with⟨h0,hv⟩ | ⟨b,off,cap,CS,ty,fr,hv,h1,h2,h3,h4⟩
 ·have e:svP (i+1) p=.slice none 0 0:=by unfold svP;rw[hv]
  have ecs:p.cs=[]:=List.length_eq_zero_iff.1 (by rw[hl,h0,Nat.zero_mul])
  rw[e,hv,ecs,h0]
  exact⟨.flat rfl,J0p.nil _ _ _⟩
 ·have e:svP (i+1) p=.slice (some ⟨i+1,0,none⟩) p.n cap:=by unfold svP;rw[hv]
  have eL:locP p=⟨b,off,0,0⟩:=by unfold locP;rw[hv]
  rw[e]
  refine⟨?_,J0p.rowR (ex:=[]) (by rw[List.append_nil];exact hget i p hp) ⟨Nat.zero_le _,by omega⟩ hl fun h=>absurd h (Nat.lt_irrefl 0)⟩
  rw[hv]
  exact vrel.slice (L:=⟨b,off,0,0⟩) (by rw[JqG hp,eL]) h2
theorem Js1:Tryz.prog.cellsOf 27=8:=by kernel_rfl
theorem JrK:Tryz.prog.cellsOf 55=2:=by kernel_rfl
theorem JsR:Tryz.prog.cellsOf 4=1:=by kernel_rfl
theorem Jqc:Tryz.prog.cellsOf 22=1∧Tryz.prog.cellsOf 23=1∧Tryz.prog.cellsOf 24=1∧Tryz.prog.cellsOf 25=1:=⟨by kernel_rfl,by kernel_rfl,by kernel_rfl,by kernel_rfl⟩
theorem Jrg:Tryz.prog.cellTypes Tryz.prog.depth 27=some [9,22,23,24,24,25,25,3]:=by kernel_rfl
structure PolW (W:World) (v:Value) (nm:ByteArray) (s:StN):Prop where
 ok:∃ vr vq vv vt vu vo,v=.agg #[.string nm,vr,vq,vv,vt,vu,vo,iv s.miss]∧Jq8 W vr s.rows.length 5 (s.rows.flatMap J0e)∧Jq8 W vq s.queues.length 2 (J3S s.queues)∧Jq8 W vv s.vars.length 1 (strs s.vars)∧Jq8 W vt s.tags.length 1 (strs s.tags)∧Jq8 W vu s.rules.length 1 (ints s.rules)∧Jq8 W vo s.on.length 1 (ints s.on)
 rows:∀ x∈s.rows,Jd7 x
 miss:-9223372036854775808≤s.miss∧s.miss≤9223372036854775807
 rules:∀ x∈s.rules,-9223372036854775808≤x∧x≤9223372036854775807
 on:∀ x∈s.on,-9223372036854775808≤x∧x≤9223372036854775807
theorem JrR (l:List ByteArray):l.flatMap (fun x=>[Value.string x])=strs l:=by
 induction l with
 | nil=>rfl
 | cons x l ih=>rw[List.flatMap_cons,ih];rfl
theorem Jqu (l:List Int):l.flatMap (fun x=>[iv x])=ints l:=by
 induction l with
 | nil=>rfl
 | cons x l ih=>rw[List.flatMap_cons,ih];rfl
section
variable {H:Type} {enc:TypeId × Value→H} {W:World} {base b0:Nat} {sp:Nat→Bool} {hd:Bool}
theorem Jrm {n:Nat} {cs:List Value} {y:DataW H × List MemPlace} (h:DataW.trod enc Tryz.prog W base sp hd n 55 cs=some y):∃ x:ByteArray × Bool,cs=[.string x.1,.bool x.2]∧True:=by
 obtain⟨xs,m,_,_,hl,hxl,hf⟩:=DataW.trod_struct Tryz.underlying55 h
 rw[JrK] at hl
 obtain⟨c0,c1,rfl⟩:∃ c0 c1,cs=[c0,c1]:=by
  match cs,hl with
  | [a,b],_=>exact⟨a,b,rfl⟩
 have hxl:xs.length=2:=hxl
 have g:∀ i,i<2→∃ y,xs[i]?=some y:=fun i hi=>⟨_,List.getElem?_eq_getElem (by omega)⟩
 obtain⟨y0,e0⟩:=g 0 (by omega)
 obtain⟨y1,e1⟩:=g 1 (by omega)
 have f0:DataW.trod enc Tryz.prog W base sp hd m 9 (([c0,c1].drop 0).take (Tryz.prog.cellsOf 9))=xs[0]?:=hf 0 _ rfl
 rw[Jhu,e0] at f0
 have f1:DataW.trod enc Tryz.prog W base sp hd m 4 (([c0,c1].drop 1).take (Tryz.prog.cellsOf 4))=xs[1]?:=hf 1 _ rfl
 rw[JsR,e1] at f1
 obtain⟨a,ha,_⟩:=DataW.trod_string Tryz.underlying9 f0
 obtain⟨b,hb,_⟩:=DataW.trod_bool Tryz.underlying4 f1
 cases ha
 cases hb
 exact⟨(a,b),rfl,trivial⟩
theorem JqH {n:Nat} {cs:List Value} {y:DataW H × List MemPlace} (h:DataW.trod enc Tryz.prog W base sp hd n 9 cs=some y):∃ x:ByteArray,cs=[.string x]∧True:=by
 obtain⟨a,ha,_⟩:=DataW.trod_string Tryz.underlying9 h
 exact⟨a,ha,trivial⟩
theorem Jqd {n:Nat} {cs:List Value} {y:DataW H × List MemPlace} (h:DataW.trod enc Tryz.prog W base sp hd n 3 cs=some y):∃ x:Int,cs=[iv x]∧(-9223372036854775808≤x∧x≤9223372036854775807):=by
 obtain⟨a,ha,_,wa⟩:=DataW.trod_int Tryz.underlying3 h
 exact⟨a,ha,bounds_i64 wa⟩
theorem JsV {v:Value} {d:DataW H} {p:List MemPlace} (hval:Value.okWide Tryz.prog W .any b0 27 v) (h:DataW.Trod enc Tryz.prog W base sp hd 27 v d p):∃ nm s,PolW W v nm s:=by
 simp only[Value.okWide,Tryz.underlying27] at hval
 obtain⟨CS,rfl,hsz,ts,hts,_,hcell⟩:=hval
 rw[Jrg] at hts
 cases hts
 obtain⟨fuel,hf⟩:=h
 have hcs:(Value.agg CS).cells.toList=CS.toList:=rfl
 rw[hcs] at hf
 obtain⟨xs,m,_,_,hl,hxl,hf⟩:=DataW.trod_struct Tryz.underlying27 hf
 rw[Js1] at hl
 obtain⟨c0,c1,c2,c3,c4,c5,c6,c7,hcs⟩:∃ c0 c1 c2 c3 c4 c5 c6 c7,CS.toList=[c0,c1,c2,c3,c4,c5,c6,c7]:=by
  match CS.toList,hl with
  | [a,b,c,d,e,f,g,i],_=>exact⟨a,b,c,d,e,f,g,i,rfl⟩
 obtain rfl:CS=#[c0,c1,c2,c3,c4,c5,c6,c7]:=by cases CS;simp_all
 have hxl:xs.length=8:=hxl
 have g:∀ i,i<8→∃ y,xs[i]?=some y:=fun i hi=>⟨_,List.getElem?_eq_getElem (by omega)⟩
 obtain⟨y0,e0⟩:=g 0 (by omega)
 obtain⟨y1,e1⟩:=g 1 (by omega)
 obtain⟨y2,e2⟩:=g 2 (by omega)
 obtain⟨y3,e3⟩:=g 3 (by omega)
 obtain⟨y4,e4⟩:=g 4 (by omega)
 obtain⟨y5,e5⟩:=g 5 (by omega)
 obtain⟨y6,e6⟩:=g 6 (by omega)
 obtain⟨y7,e7⟩:=g 7 (by omega)
 have f0:DataW.trod enc Tryz.prog W base sp hd m 9 (([c0,c1,c2,c3,c4,c5,c6,c7].drop 0).take (Tryz.prog.cellsOf 9))=xs[0]?:=hf 0 _ rfl
 rw[Jhu,e0] at f0
 have f1:DataW.trod enc Tryz.prog W base sp hd m 22 (([c0,c1,c2,c3,c4,c5,c6,c7].drop 1).take (Tryz.prog.cellsOf 22))=xs[1]?:=hf 1 _ rfl
 rw[Jqc.1,e1] at f1
 have f2:DataW.trod enc Tryz.prog W base sp hd m 23 (([c0,c1,c2,c3,c4,c5,c6,c7].drop 2).take (Tryz.prog.cellsOf 23))=xs[2]?:=hf 2 _ rfl
 rw[Jqc.2.1,e2] at f2
 have f3:DataW.trod enc Tryz.prog W base sp hd m 24 (([c0,c1,c2,c3,c4,c5,c6,c7].drop 3).take (Tryz.prog.cellsOf 24))=xs[3]?:=hf 3 _ rfl
 rw[Jqc.2.2.1,e3] at f3
 have f4:DataW.trod enc Tryz.prog W base sp hd m 24 (([c0,c1,c2,c3,c4,c5,c6,c7].drop 4).take (Tryz.prog.cellsOf 24))=xs[4]?:=hf 4 _ rfl
 rw[Jqc.2.2.1,e4] at f4
 have f5:DataW.trod enc Tryz.prog W base sp hd m 25 (([c0,c1,c2,c3,c4,c5,c6,c7].drop 5).take (Tryz.prog.cellsOf 25))=xs[5]?:=hf 5 _ rfl
 rw[Jqc.2.2.2,e5] at f5
 have f6:DataW.trod enc Tryz.prog W base sp hd m 25 (([c0,c1,c2,c3,c4,c5,c6,c7].drop 6).take (Tryz.prog.cellsOf 25))=xs[6]?:=hf 6 _ rfl
 rw[Jqc.2.2.2,e6] at f6
 have f7:DataW.trod enc Tryz.prog W base sp hd m 3 (([c0,c1,c2,c3,c4,c5,c6,c7].drop 7).take (Tryz.prog.cellsOf 3))=xs[7]?:=hf 7 _ rfl
 rw[Jag,e7] at f7
 have hc:∀ i v u,(#[c0,c1,c2,c3,c4,c5,c6,c7]:Array Value)[i]?=some v→([9,22,23,24,24,25,25,3]:List Nat)[i%8]?=some u→Cell.okWide Tryz.prog W .any b0 u v:=fun i v u hi hu=>by
  obtain⟨u',h1,h2⟩:=hcell i v hi
  have:u'=u:=Option.some.inj (h1.symm.trans hu)
  subst this
  exact h2
 obtain⟨nm,hnm,_⟩:=JqH f0
 obtain⟨lr,ir,sr⟩:=Jq2 Tryz.underlying22 J9Y (fun n cs y h=>JcH h) (fun _=>rfl) (by decide) (hc 1 _ _ rfl rfl) f1
 obtain⟨lq,_,sq⟩:=Jq2 (cells:=fun x:ByteArray × Bool=>[.string x.1,.bool x.2]) Tryz.underlying23 JrK (fun n cs y h=>Jrm h) (fun _=>rfl) (by decide) (hc 2 _ _ rfl rfl) f2
 obtain⟨lv,_,sv⟩:=Jq2 (cells:=fun x:ByteArray=>[.string x]) Tryz.underlying24 Jhu (fun n cs y h=>JqH h) (fun _=>rfl) (by decide) (hc 3 _ _ rfl rfl) f3
 obtain⟨lt,_,st⟩:=Jq2 (cells:=fun x:ByteArray=>[.string x]) Tryz.underlying24 Jhu (fun n cs y h=>JqH h) (fun _=>rfl) (by decide) (hc 4 _ _ rfl rfl) f4
 obtain⟨lu,iu,su⟩:=Jq2 (cells:=fun x:Int=>[iv x]) Tryz.underlying25 Jag (fun n cs y h=>Jqd h) (fun _=>rfl) (by decide) (hc 5 _ _ rfl rfl) f5
 obtain⟨lo,io,so⟩:=Jq2 (cells:=fun x:Int=>[iv x]) Tryz.underlying25 Jag (fun n cs y h=>Jqd h) (fun _=>rfl) (by decide) (hc 6 _ _ rfl rfl) f6
 obtain⟨ms,hms,bms⟩:=Jqd f7
 obtain rfl:c0=.string nm:=by simpa using hnm
 obtain rfl:c7=iv ms:=by simpa using hms
 rw[JrR] at sv st
 rw[Jqu] at su so
 exact⟨nm,⟨lr,lq,lv,lt,lu,lo,ms,[]⟩,⟨c1,c2,c3,c4,c5,c6,rfl,sr,sq,sv,st,su,so⟩,ir,bms,iu,io⟩
end
section
variable {H:Type} {enc:TypeId × Value→H} {W:World} {base b0:Nat} {sp:Nat→Bool} {hd:Bool} {v:Value} {d:DataW H} {p:List MemPlace}
end
theorem JrC:Tryz.prog.cellsOf 58=3:=by kernel_rfl
theorem Jsu:Tryz.prog.cellsOf 30=3:=by kernel_rfl
theorem Jso:Tryz.prog.cellsOf 28=1:=by kernel_rfl
theorem Jrn:Tryz.prog.cellTypes Tryz.prog.depth 30=some [28,25,25]:=by kernel_rfl
def TypW (W:World) (v:Value) (V:List (Int × Int × Int)) (G rd:List Int):Prop:=
 ∃ vv vg vr,v=.agg #[vv,vg,vr]∧Jq8 W vv V.length 3 (vcells V)∧Jq8 W vg G.length 1 (ints G)∧Jq8 W vr rd.length 1 (ints rd)
section
variable {H:Type} {enc:TypeId × Value→H} {W:World} {base b0:Nat} {sp:Nat→Bool} {hd:Bool}
theorem Js0 {n:Nat} {cs:List Value} {y:DataW H × List MemPlace} (h:DataW.trod enc Tryz.prog W base sp hd n 58 cs=some y):∃ x:Int × Int × Int,cs=[iv x.1,iv x.2.1,iv x.2.2]∧True:=by
 obtain⟨xs,m,_,_,hl,hxl,hf⟩:=DataW.trod_struct Tryz.underlying58 h
 rw[JrC] at hl
 obtain⟨c0,c1,c2,rfl⟩:∃ c0 c1 c2,cs=[c0,c1,c2]:=by
  match cs,hl with
  | [a,b,c],_=>exact⟨a,b,c,rfl⟩
 have hxl:xs.length=3:=hxl
 have g:∀ i,i<3→∃ y,xs[i]?=some y:=fun i hi=>⟨_,List.getElem?_eq_getElem (by omega)⟩
 obtain⟨y0,e0⟩:=g 0 (by omega)
 obtain⟨y1,e1⟩:=g 1 (by omega)
 obtain⟨y2,e2⟩:=g 2 (by omega)
 have f0:DataW.trod enc Tryz.prog W base sp hd m 3 (([c0,c1,c2].drop 0).take (Tryz.prog.cellsOf 3))=xs[0]?:=hf 0 _ rfl
 rw[Jag,e0] at f0
 have f1:DataW.trod enc Tryz.prog W base sp hd m 3 (([c0,c1,c2].drop 1).take (Tryz.prog.cellsOf 3))=xs[1]?:=hf 1 _ rfl
 rw[Jag,e1] at f1
 have f2:DataW.trod enc Tryz.prog W base sp hd m 3 (([c0,c1,c2].drop 2).take (Tryz.prog.cellsOf 3))=xs[2]?:=hf 2 _ rfl
 rw[Jag,e2] at f2
 obtain⟨a,ha,_⟩:=DataW.trod_int Tryz.underlying3 f0
 obtain⟨b,hb,_⟩:=DataW.trod_int Tryz.underlying3 f1
 obtain⟨c,hc,_⟩:=DataW.trod_int Tryz.underlying3 f2
 cases ha
 cases hb
 cases hc
 exact⟨(a,b,c),rfl,trivial⟩
theorem JsP {v:Value} {d:DataW H} {p:List MemPlace} (hval:Value.okWide Tryz.prog W .any b0 30 v) (h:DataW.Trod enc Tryz.prog W base sp hd 30 v d p):∃ V G rd,TypW W v V G rd:=by
 simp only[Value.okWide,Tryz.underlying30] at hval
 obtain⟨CS,rfl,hsz,ts,hts,_,hcell⟩:=hval
 rw[Jrn] at hts
 cases hts
 obtain⟨fuel,hf⟩:=h
 have hcs:(Value.agg CS).cells.toList=CS.toList:=rfl
 rw[hcs] at hf
 obtain⟨xs,m,_,_,hl,hxl,hf⟩:=DataW.trod_struct Tryz.underlying30 hf
 rw[Jsu] at hl
 obtain⟨c0,c1,c2,hcs⟩:∃ c0 c1 c2,CS.toList=[c0,c1,c2]:=by
  match CS.toList,hl with
  | [a,b,c],_=>exact⟨a,b,c,rfl⟩
 obtain rfl:CS=#[c0,c1,c2]:=by cases CS;simp_all
 have hxl:xs.length=3:=hxl
 have g:∀ i,i<3→∃ y,xs[i]?=some y:=fun i hi=>⟨_,List.getElem?_eq_getElem (by omega)⟩
 obtain⟨y0,e0⟩:=g 0 (by omega)
 obtain⟨y1,e1⟩:=g 1 (by omega)
 obtain⟨y2,e2⟩:=g 2 (by omega)
 have f0:DataW.trod enc Tryz.prog W base sp hd m 28 (([c0,c1,c2].drop 0).take (Tryz.prog.cellsOf 28))=xs[0]?:=hf 0 _ rfl
 rw[Jso,e0] at f0
 have f1:DataW.trod enc Tryz.prog W base sp hd m 25 (([c0,c1,c2].drop 1).take (Tryz.prog.cellsOf 25))=xs[1]?:=hf 1 _ rfl
 rw[Jqc.2.2.2,e1] at f1
 have f2:DataW.trod enc Tryz.prog W base sp hd m 25 (([c0,c1,c2].drop 2).take (Tryz.prog.cellsOf 25))=xs[2]?:=hf 2 _ rfl
 rw[Jqc.2.2.2,e2] at f2
 have hc:∀ i v u,(#[c0,c1,c2]:Array Value)[i]?=some v→([28,25,25]:List Nat)[i%3]?=some u→Cell.okWide Tryz.prog W .any b0 u v:=fun i v u hi hu=>by
  obtain⟨u',h1,h2⟩:=hcell i v hi
  have:u'=u:=Option.some.inj (h1.symm.trans hu)
  subst this
  exact h2
 obtain⟨lv,_,sv⟩:=Jq2 (cells:=fun x:Int × Int × Int=>[iv x.1,iv x.2.1,iv x.2.2]) Tryz.underlying28 JrC (fun n cs y h=>Js0 h) (fun _=>rfl) (by decide) (hc 0 _ _ rfl rfl) f0
 obtain⟨lg,_,sg⟩:=Jq2 (cells:=fun x:Int=>[iv x]) Tryz.underlying25 Jag (fun n cs y h=>Jqd h) (fun _=>rfl) (by decide) (hc 1 _ _ rfl rfl) f1
 obtain⟨lr,_,sr⟩:=Jq2 (cells:=fun x:Int=>[iv x]) Tryz.underlying25 Jag (fun n cs y h=>Jqd h) (fun _=>rfl) (by decide) (hc 2 _ _ rfl rfl) f2
 rw[Jqu] at sg sr
 exact⟨lv,lg,lr,c0,c1,c2,rfl,sv,sg,sr⟩
end
theorem Jt7 {W : World} (h : laidMetH Tryz.prog [("winnow/lex.words", Rows.laid_winnow_lex_words)] W) {v w : Value} {nm : ByteArray} {s : StN} {V : List (Int × Int × Int)} {G rd : List Int} (hv : PolW W v nm s) (hw : TypW W w V G rd) :
  ∃ hp ρ sv sw,Rel Tryz.prog ρ hp W∧(∀ i,¬ wr (hp.get i))∧vrel ρ sv v∧vrel ρ sw w∧J3x 0 hp sv nm s∧Jqg 0 hp sw V G rd∧hp.floor=0∧hp.get 0=J14∧0<hp.next:=by
 obtain⟨vr,vq,vv,vt,vu,vo,rfl,s1,s2,s3,s4,s5,s6⟩:=hv.ok
 obtain⟨tw,tg,td,rfl,t1,t2,t3⟩:=hw
 have hR:=relL h (ps:=[⟨vr,_,_,_,51⟩,⟨vq,_,_,_,55⟩,⟨vv,_,_,_,9⟩,⟨vt,_,_,_,9⟩,⟨vu,_,_,_,3⟩,⟨vo,_,_,_,3⟩,⟨tw,_,_,_,58⟩,⟨tg,_,_,_,3⟩,⟨td,_,_,_,3⟩]) (fun p hp=>by
  simp only[List.mem_cons,List.not_mem_nil,or_false] at hp
  have hi:∀ {l:List Int},∀ v∈ints l,J1i v=true:=fun v hv=>by
   obtain⟨x,_,rfl⟩:=List.mem_map.1 hv
   rfl
  have hs:∀ {l:List ByteArray},∀ v∈strs l,J1i v=true:=fun v hv=>by
   obtain⟨x,_,rfl⟩:=List.mem_map.1 hv
   rfl
  rcases hp with rfl | rfl | rfl | rfl | rfl | rfl | rfl | rfl | rfl
  ·refine⟨s1,fun v hv=>?_⟩
   obtain⟨x,_,hx⟩:=List.mem_flatMap.1 hv
   obtain⟨j,hj⟩:=List.getElem?_of_mem hx
   exact J7Q hj
  ·refine⟨s2,fun v hv=>?_⟩
   obtain⟨x,_,hx⟩:=List.mem_flatMap.1 hv
   simp only[List.mem_cons,List.not_mem_nil,or_false] at hx
   rcases hx with rfl | rfl <;> rfl
  ·exact⟨s3,hs⟩
  ·exact⟨s4,hs⟩
  ·exact⟨s5,hi⟩
  ·exact⟨s6,hi⟩
  ·refine⟨t1,fun v hv=>?_⟩
   obtain⟨x,_,hx⟩:=List.mem_flatMap.1 hv
   simp only[List.mem_cons,List.not_mem_nil,or_false] at hx
   rcases hx with rfl | rfl | rfl <;> rfl
  ·exact⟨t2,hi⟩
  ·exact⟨t3,hi⟩)
 obtain⟨r1,r2,r3,r4,r5,r6⟩:=hR
 obtain⟨a0,b0⟩:=r6 0 _ rfl
 obtain⟨a1,b1⟩:=r6 1 _ rfl
 obtain⟨a2,b2⟩:=r6 2 _ rfl
 obtain⟨a3,b3⟩:=r6 3 _ rfl
 obtain⟨a4,b4⟩:=r6 4 _ rfl
 obtain⟨a5,b5⟩:=r6 5 _ rfl
 obtain⟨a6,b6⟩:=r6 6 _ rfl
 obtain⟨a7,b7⟩:=r6 7 _ rfl
 obtain⟨a8,b8⟩:=r6 8 _ rfl
 refine⟨_,_,.agg #[.string nm,_,_,_,_,_,_,iv s.miss],.agg #[_,_,_],r1,r2,.agg (.cons (.flat rfl) (.cons a0 (.cons a1 (.cons a2 (.cons a3 (.cons a4 (.cons a5 (.cons (.flat rfl) .nil)))))))),.agg (.cons a6 (.cons a7 (.cons a8 .nil))),⟨_,_,_,_,_,_,rfl,J3P.of b0,b1,b2,b3,b4,b5⟩,⟨_,_,_,rfl,b6,b7,b8⟩,r4,r5,by omega⟩
end Go.Proofs.YtipekdhneagdbaaGreatDoor
