/- Part 25 of what the claim leans on: 4 texts laid one behind another. -/
import Derived.Test.YtipekdhneagdbaaGreatDoorCT24
namespace Go.Proofs.YtipekdhneagdbaaGreatDoor
open Go Go.Sx
set_option maxRecDepth 100000
set_option linter.unusedSimpArgs false
set_option linter.unusedVariables false
theorem szVr:szOf Tryz.prog 58=some 3:=by kernel_rfl
theorem byVr:byOf Tryz.prog 58=some 24:=by kernel_rfl
abbrev vrV (a b c:Int):Value:=.agg #[iv a,iv b,iv c]
theorem Jrc:J1w Tryz.prog 58=some (vrV 0 0 0):=by kernel_rfl
theorem Jt3:J2X Tryz.prog 58=some true:=by kernel_rfl
theorem JrW:J2Q Tryz.prog (match Tryz.prog.underlying 58 with | some (.struct fs)=>fs.toList | _=>[])=some [(0,1),(1,1),(2,1)]:=by kernel_rfl
theorem JsH:J2Q Tryz.prog (match Tryz.prog.underlying 30 with | some (.struct fs)=>fs.toList | _=>[])=some [(0,1),(1,1),(2,1)]:=by kernel_rfl
theorem JrA {a:Int}:J1P Tryz.prog 58 [(0,iv a)]=some (vrV a 0 0):=by
 have h:=JrW
 rw[Tryz.underlying58] at h
 simp only at h
 have hf:flat (vrV 0 0 0)=true:=rfl
 simp only[J1P,Jrc,hf,if_true,Tryz.underlying58,h]
 rfl
theorem Js4:flat (.agg #[.slice none 0 0,.slice none 0 0,.slice none 0 0])=true:=rfl
theorem JsY {a b:Option Addr} {n c m d:Nat}:J1P Tryz.prog 30 [(1,.slice a n c),(2,.slice b m d)]=some (.agg #[.slice none 0 0,.slice a n c,.slice b m d]):=by
 have h:=JsH
 rw[Tryz.underlying30] at h
 simp only at h
 simp only[J1P,JrY,Js4,if_true,Tryz.underlying30,h]
 rfl
theorem JsA {h:SHeap} {id off:Nat}:J2x Tryz.prog h 58 (.pointer (some ⟨id,off,none⟩))=ldN 3 off (h.get id):=J5S Jt3 szVr
theorem Jrz {id off:Nat}:J08 Tryz.prog 58 (.pointer (some ⟨id,off,none⟩)) 0=some (.pointer (some ⟨id,off,none⟩)):=by simp[J08,Tryz.underlying58,sz3,J0q]
theorem bsVr {h:SHeap} {a b c:Int}:J0Q Tryz.prog h 28 1 [(0,vrV a b c)]=some (.slice (some ⟨h.next,0,none⟩) 1 1,h.push (.row [iv a,iv b,iv c] 58 false false)):=by
 simp[J0Q,Tryz.underlying28,szVr,Jrc,flat,J1i,J0G,J5k,J3e,Go.Sx.lay]
theorem Jsp:Tryz.prog.stoodInHeld 58=false:=by kernel_rfl
theorem Jqz {a b c:Int}:J0k Tryz.prog (part 3 #[.int .i64 a,.int .i64 b,.int .i64 c] 0)=some (.int .i64 a)∧J0k Tryz.prog (part 3 #[.int .i64 a,.int .i64 b,.int .i64 c] 1)=some (.int .i64 b)∧J0k Tryz.prog (part 3 #[.int .i64 a,.int .i64 b,.int .i64 c] 2)=some (.int .i64 c):=⟨rfl,rfl,rfl⟩
theorem JsI {a b c:Int}:flat (vrV a b c)=true:=rfl
theorem Jsy {a b c a' b' c':Int} (n:Nat):J0k Tryz.prog (Op.equalIn (n+2) 58 (vrV a b c) (vrV a' b' c'))=some (a==a'&&(b==b'&&c==c')):=by
 rw[Op.equalIn,J0c,J1R Tryz.underlying58]
 simp only[Option.bind_some,J0c,J1a,Jsp,Bool.false_eq_true,if_false]
 simp only[List.forIn_toArray,List.forIn_cons,List.forIn_nil,ne_eq,String.reduceEq,not_false_eq_true,if_true,J0c,Jqz.1,Option.bind_some,eqi Tryz.underlying3]
 cases h1:(a==a') <;> cases h2:(b==b') <;> cases h3:(c==c') <;> simp[J0c,J0C,Jqz.2.1,Jqz.2.2,eqi Tryz.underlying3,h2,h3,-beq_iff_eq,-beq_eq_false_iff_ne]
theorem eqVr {x y:Operand} {a b c a' b' c':Int}:binS Tryz.prog .eql 58 x y (vrV a b c) (vrV a' b' c')=some (.bool (a==a'&&(b==b'&&c==c'))):=by
 have k:J0k Tryz.prog (Op.equal 58 (vrV a b c) (vrV a' b' c'))=some (a==a'&&(b==b'&&c==c')):=Jsy 9998
 have e:J0k Tryz.prog (do eqGuard .eql 58 x y (vrV a b c) (vrV a' b' c');binOp .eql 58 (vrV a b c) (vrV a' b' c'))=some (.bool (a==a'&&(b==b'&&c==c'))):=by
  rw[J0c]
  have g:J0k Tryz.prog (eqGuard .eql 58 x y (vrV a b c) (vrV a' b' c'))=some ():=by
   unfold eqGuard
   simp[J0c,J1a,J0C]
  rw[g]
  show J0k Tryz.prog ((do pure (.bool (← Op.equal 58 (vrV a b c) (vrV a' b' c')))):Sem Value)=_
  rw[J0c,k]
  rfl
 simp only[binS,JsI,Bool.and_self,if_true,e,J2F]
theorem JrO {x y:Operand} {a b c:Int}:binS Tryz.prog .eql 58 x y (vrV a b c) (vrV a b c)=some (.bool true):=by
 rw[eqVr]
 simp
theorem JqE:∀ {l:List (Int × Int × Int)} {i:Nat} {x:Int × Int × Int},l[i]?=some x→((vcells l).drop (i*3)).take 3=[iv x.1,iv x.2.1,iv x.2.2]
 | [],i,x,h=>by simp at h
 | q :: l,0,x,h=>by
  simp only[List.getElem?_cons_zero,Option.some.injEq] at h
  subst h
  rfl
 | q :: l,i+1,x,h=>by
  have:=JqE (l:=l) (i:=i) (x:=x) (by simpa using h)
  rw[← this,show (i+1)*3=i*3+3 by omega]
  rfl
theorem lenV {lo:Nat} {h:SHeap} {v:Value} {n w:Nat} {cs:List Value} (hc:J0p lo h v n w cs) (h':SHeap):lenS Tryz.prog h' 28 v=some (iv (n:Int)):=J0p.len hc Tryz.underlying28
theorem Jri (l:List (Int × Int × Int)):(vcells l).all one=true:=by
 unfold vcells
 rw[List.all_flatMap]
 exact List.all_eq_true.2 fun x _=>rfl
structure LentTyp (h:SHeap) (b:Nat) (v:Value) (W:List (Int × Int × Int)) (G rd:List Int) (o:Nat→Nat):Prop where
 v:v=.agg #[.slice (some ⟨o 1,0,none⟩) W.length (W.length+3),.slice (some ⟨o 2,0,none⟩) G.length (G.length+3),.slice (some ⟨o 3,0,none⟩) rd.length (rd.length+3)]
 far:b≤o 2∧o 2<o 3∧o 3<o 1∧o 1<h.next
 w:LentC h (o 1) W.length 3 (vcells W) [iv (-77),iv 0,iv 0] [iv 0,iv 0,iv 0] 58
 g:LentC h (o 2) G.length 1 (ints G) [iv (-77)] [iv 0] 3
 r:LentC h (o 3) rd.length 1 (ints rd) [iv (-77)] [iv 0] 3
theorem LentTyp.typ {h:SHeap} {b:Nat} {v:Value} {W:List (Int × Int × Int)} {G rd:List Int} {o:Nat→Nat} (hL:LentTyp h b v W G rd o):Jqg 0 h v W G rd:=by
 obtain⟨rfl,⟨u1,u2,u3,u4⟩,L1,L2,L3⟩:=hL
 exact⟨_,_,_,rfl,L1.cells ⟨Nat.zero_le _,by omega⟩,L2.cells ⟨Nat.zero_le _,by omega⟩,L3.cells ⟨Nat.zero_le _,by omega⟩⟩
theorem LentTyp.mono {h h':SHeap} {b:Nat} {v:Value} {W:List (Int × Int × Int)} {G rd:List Int} {o:Nat→Nat} (hL:LentTyp h b v W G rd o) (hn:h.next≤h'.next) (hg:∀ i,b≤i→i<h.next→h'.get i=h.get i):LentTyp h' b v W G rd o:=by
 obtain⟨hv,⟨u1,u2,u3,u4⟩,L1,L2,L3⟩:=hL
 exact⟨hv,⟨u1,u2,u3,by omega⟩,L1.mono (hg _ (by omega) (by omega)),L2.mono (hg _ (by omega) (by omega)),L3.mono (hg _ (by omega) (by omega))⟩
noncomputable def JsZ:Array Oper:=J18 Tryz.f8 1
def fsL1:List (Bool × Bool × List Operand):=[(false,true,[]),(false,true,[]),(false,true,[]),(true,true,[.tmp 4]),(true,true,[.tmp 4]),(false,false,[]),(false,false,[]),(true,true,[.tmp 4,.tmp 7]),(false,false,[])]
theorem JsM:J1E JsZ=fsL1:=by kernel_rfl
noncomputable def JsS:Array Oper:=J18 Tryz.f8 2
def fsL2:List (Bool × Bool × List Operand):=[(false,true,[]),(false,true,[]),(false,true,[]),(false,true,[]),(false,true,[]),(true,true,[.tmp 11]),(true,true,[.tmp 11]),(false,true,[]),(true,true,[.tmp 11,.tmp 16]),(true,true,[.tmp 11,.tmp 16]),(false,true,[]),(true,true,[.tmp 11,.tmp 16]),(true,true,[.tmp 11,.tmp 16]),(true,true,[.tmp 11,.tmp 16]),(false,false,[]),(false,false,[]),(false,false,[])]
theorem JsD:J1E JsS=fsL2:=by kernel_rfl
noncomputable def JsJ:Array Oper:=J18 Tryz.f12 1
def fsK1:List (Bool × Bool × List Operand):=[(false,true,[]),(false,true,[]),(false,true,[]),(false,true,[.tmp 10]),(false,true,[.tmp 10]),(false,true,[.tmp 10]),(false,false,[]),(false,false,[]),(false,true,[]),(false,true,[]),(false,true,[.tmp 18]),(false,true,[.tmp 18]),(false,true,[.tmp 18]),(false,true,[.tmp 18]),(false,true,[]),(false,true,[.tmp 18,.tmp 20,.tmp 19]),(false,true,[.tmp 18,.tmp 20,.tmp 19]),(false,true,[.tmp 18,.tmp 20,.tmp 19]),(false,false,[]),(false,false,[]),(false,false,[]),(false,false,[]),(false,false,[]),(false,false,[])]
theorem Jsq:J1E JsJ=fsK1:=by kernel_rfl
theorem gdK1:(JsJ[7]?).bind (·.dst)=some 17:=by kernel_rfl
noncomputable def JsO:Array Oper:=J18 Tryz.f12 5
def fsK5:List (Bool × Bool × List Operand):=[(false,true,[]),(false,true,[]),(false,true,[.tmp 43]),(false,true,[]),(false,true,[]),(false,true,[.tmp 43,.tmp 46]),(false,true,[.tmp 43,.tmp 46]),(false,true,[.tmp 43,.tmp 46,.tmp 48]),(false,true,[.tmp 43,.tmp 46]),(false,true,[.tmp 43,.tmp 46]),(false,false,[]),(false,false,[])]
theorem Jst:J1E JsO=fsK5:=by kernel_rfl
section
variable {n N:Nat} {h:SHeap}
set_option maxHeartbeats 16000000 in
theorem Jr4 {W:List (Int × Int × Int)} {G rd:List Int} {tv:Value} {lo:Nat} (hp:Jqg lo h tv W G rd) (hw:W.length<100000) (hg:G.length<100000) (hrl:rd.length<100000000) (hfl:h.floor≤h.next) (hn:20<n) :
  ∃ v' h',J0L Tryz.prog (J0T n) N 8 [tv] h=some (v',h')∧(∃ o,LentTyp h' h.next v' W G rd o)∧h.next≤h'.next∧h'.floor=h.floor∧∀ i,i<h.next→h'.get i=h.get i:=by
 obtain⟨tw,tg,td,rfl,y1,y2,y3⟩:=hp
 obtain⟨aw,cw,rfl,_⟩:=id y1.2
 have hsn:=(J1z n).2
 refine J65 (R:=fun v' h'=>(∃ o,LentTyp h' h.next v' W G rd o)∧h.next≤h'.next∧h'.floor=h.floor∧∀ i,i<h.next→h'.get i=h.get i) Tryz.func8 rfl (by simp[Tryz.f8]) ?_
 have hr:Tryz.f8.results.toList=[.cell 2 30]:=rfl
 have cy:(Value.agg #[.slice aw W.length cw,tg,td]).cells.toList=[.slice aw W.length cw,tg,td]:=rfl
 have oy:[.slice aw W.length cw,tg,td].all one=true:=by
  have:=y1.one
  simp only[List.all_cons,List.all_nil,this,J0p.one y2,J0p.one y3,Bool.and_self]
 have zcY:(Value.agg #[.slice none 0 0,.slice none 0 0,.slice none 0 0]).cells.toList=[.slice none 0 0,.slice none 0 0,.slice none 0 0]:=rfl
 have len1:=lenV y1
 have g0:∀ (a b:SObj),let A:=(h.push a).push b
   A.get h.next=a∧A.get (h.next+1)=b∧A.next=h.next+2∧A.floor=h.floor∧∀ i,i<h.next→A.get i=h.get i:=fun a b=>
  ⟨J4c,J48,rfl,rfl,fun i hi=>by rw[J06 (by show i<h.next+1;omega),J06 hi]⟩
 obtain⟨gA,gZ,n0,f0,gO⟩:=g0 (.row [.slice aw W.length cw,tg,td] 30 false false) (.row [.slice none 0 0,.slice none 0 0,.slice none 0 0] 30 false false)
 simp only[evC,seval,↓evP,rpD,J0X,J2t,cy,oy,szY,JrY,Js4,zcY]
 generalize (h.push (.row [.slice aw W.length cw,tg,td] 30 false false)).push (.row [.slice none 0 0,.slice none 0 0,.slice none 0 0] 30 false false)=H0 at *
 have hA0:(h.next<H0.next)=True:=by rw[n0];simp
 have x1:ld1 1 (H0.get h.next)=some tg:=by rw[gA];rfl
 have y2':J1S lo (H0.fl (max H0.floor H0.next)) tg G:=J1S.mono y2 (by rw[J0J];omega) fun i _ hi=>gO i hi
 obtain⟨h1,hk1,l1,n1,f1,o1⟩:=JnZ (n:=n) y2' (by omega) (by rw[J0J,JiM];omega) (by omega)
 rw[J0J] at hk1 l1 n1 o1
 rw[JiM] at f1
 have y3':J1S lo (h1.fl H0.floor) td rd:=J1S.mono y3 (by rw[J0J];omega) fun i _ hi=>(o1 i (by omega)).trans (gO i hi)
 obtain⟨h2,hk2,l2,n2,f2,o2⟩:=JnZ (n:=n) y3' (by omega) (by rw[J0J,JiM];omega) (by omega)
 rw[J0J] at hk2 l2 n2 o2
 rw[JiM] at f2
 have x2:ld1 2 (h1.get h.next)=some td:=by rw[o1 _ (by omega)];show ld1 2 (H0.get h.next)=_;rw[gA];rfl
 have hst:J0K Tryz.prog (h2.push (.row [.slice none 0 0,.slice none 0 0,.slice none 0 0] 30 false false)) 30 (.pointer (some ⟨h2.next,0,none⟩)) (.agg #[.slice none 0 0,.slice (some ⟨H0.next,0,none⟩) G.length (G.length+3),.slice (some ⟨h1.next,0,none⟩) rd.length (rd.length+3)])=_:=
  stW szY (vs:=[.slice none 0 0,.slice (some ⟨H0.next,0,none⟩) G.length (G.length+3),.slice (some ⟨h1.next,0,none⟩) rd.length (rd.length+3)]) (J0h (h:=h2)) rfl rfl rfl (by rw[J0i];omega)
 have hf2:h2.fl H0.floor=h2:=by rw[show H0.floor=h2.floor by omega];rfl
 have hf2p:∀ o,(h2.push o).fl H0.floor=h2.push o:=fun o=>by rw[show H0.floor=(h2.push o).floor by show H0.floor=h2.floor;omega];rfl
 refine WK.flags (ops:=JsZ) JsM ?_
 refine WKF.begin ?_
 refine wst hsn 0 (some 4) (.fieldAddr 30 (.tmp 1) 1) none ?_
 simp only[rgC,seval,J04,J02,WKFC,Nat.zero_add,Jqo,Nat.zero_add]
 refine wst hsn 1 (some 5) (.load 25 (.tmp 4)) none ?_
 simp only[rgC,seval,J04,J02,WKFC,rgL,J0n,x1,hA0]
 refine wst hsn 2 (some 6) (.call { callee:=.value (.func 20),args:=#[.tmp 5],argTypes:=#[25] }) none ?_
 simp only[rgC,seval,J04,J02,WKFC,rgK,hk1]
 refine wst hsn 3 (some 7) (.fieldAddr 30 (.tmp 1) 2) none ?_
 simp only[rgC,seval,J04,J02,WKFC,Nat.zero_add,JpX,Nat.zero_add,JiM,Jk2]
 refine wst hsn 4 (some 8) (.load 25 (.tmp 7)) none ?_
 simp only[rgC,seval,J04,J02,WKFC,rgL,J0n,x2,hA0,JiM,J1g,Jk2]
 refine wst hsn 5 (some 9) (.call { callee:=.value (.func 20),args:=#[.tmp 8],argTypes:=#[25] }) none ?_
 simp only[rgC,seval,J04,J02,WKFC,rgK,hk2,hf2,JiM]
 refine wst hsn 6 (some 10) (.build 30 #[(1,.tmp 6),(2,.tmp 9)]) none ?_
 simp only[rgC,seval,J04,J02,WKFC,List.map_cons,List.map_nil,JsY]
 refine wst hsn 7 (some 3) (.alloc 30) none ?_
 simp only[rgC,seval,J04,J02,WKFC,rgA,JrY,Js4,zcY]
 refine wst hsn 8 (none) (.store 30 (.tmp 3) (.tmp 10)) none ?_
 simp only[rgC,seval,J04,J02,WKFC,J17,rgS,hst]
 refine WKF.done (i:=9) (by kernel_rfl) ?_
 have gA1:((h2.push (.row [.slice none 0 0,.slice none 0 0,.slice none 0 0] 30 false false)).put h2.next (.row [.slice none 0 0,.slice (some ⟨H0.next,0,none⟩) G.length (G.length+3),.slice (some ⟨h1.next,0,none⟩) rd.length (rd.length+3)] 30 false false)).get h2.next=.row [.slice none 0 0,.slice (some ⟨H0.next,0,none⟩) G.length (G.length+3),.slice (some ⟨h1.next,0,none⟩) rd.length (rd.length+3)] 30 false false:=J0b rfl (by show h2.next<h2.next+1;omega)
 have oA1:∀ i,i<h2.next→((h2.push (.row [.slice none 0 0,.slice none 0 0,.slice none 0 0] 30 false false)).put h2.next (.row [.slice none 0 0,.slice (some ⟨H0.next,0,none⟩) G.length (G.length+3),.slice (some ⟨h1.next,0,none⟩) rd.length (rd.length+3)] 30 false false)).get i=h2.get i:=fun i hi=>by rw[J05 (by show h2.next<h2.next+1;omega) (by omega),J06 hi]
 have nA1:((h2.push (.row [.slice none 0 0,.slice none 0 0,.slice none 0 0] 30 false false)).put h2.next (.row [.slice none 0 0,.slice (some ⟨H0.next,0,none⟩) G.length (G.length+3),.slice (some ⟨h1.next,0,none⟩) rd.length (rd.length+3)] 30 false false)).next=h2.next+1:=rfl
 have fA1:((h2.push (.row [.slice none 0 0,.slice none 0 0,.slice none 0 0] 30 false false)).put h2.next (.row [.slice none 0 0,.slice (some ⟨H0.next,0,none⟩) G.length (G.length+3),.slice (some ⟨h1.next,0,none⟩) rd.length (rd.length+3)] 30 false false)).floor=h2.floor:=rfl
 simp only[evC,seval,↓evP]
 generalize (h2.push (.row [.slice none 0 0,.slice none 0 0,.slice none 0 0] 30 false false)).put h2.next (.row [.slice none 0 0,.slice (some ⟨H0.next,0,none⟩) G.length (G.length+3),.slice (some ⟨h1.next,0,none⟩) rd.length (rd.length+3)] 30 false false)=A1 at *
 generalize hD:h2.next=D at *
 have oH1:∀ i,i<h.next→A1.get i=h.get i:=fun i hi=>by rw[oA1 i (by omega),o2 i (by omega)];exact(o1 i (by omega)).trans (gO i hi)
 have gAA:∀ i,i<H0.next→A1.get i=H0.get i:=fun i hi=>by rw[oA1 i (by omega),o2 i (by omega)];exact o1 i (by omega)
 have P1:=y1.mono (h':=A1.fl (max A1.floor A1.next)) (by rw[J0J];omega) fun i _ hi=>oH1 i hi
 have w2:IntKind.i64.wrap ((W.length:Int)+3)=((W.length+3:Nat):Int):=J0s (by omega) (by omega)
 have mk2:=fun (H:SHeap)=>Joa (h:=H) (n:=W.length+3) Tryz.underlying28 szVr byVr Jrc rfl rfl (by decide) (by decide) (by omega)
 obtain⟨g2,k2,a1,a2,a3,a4,a5,a6,a7,a8,a9⟩:=Jov (mk:=[iv (-77),iv 0,iv 0]) Tryz.underlying28 szVr byVr Jrc rfl (by decide) P1 (Jri _) rfl rfl (by omega) (by rw[J0J,JiM];omega)
 rw[J0J] at a1 a2 a4 a5 a6 a7 a9
 rw[JiM] at a3 a8
 have sl2:=fun (H:SHeap)=>JnH (h:=H) (id:=A1.next) (n:=W.length+1) (m:=W.length) (c:=W.length+3) Tryz.underlying28 szVr (by omega) (by unfold unk;omega)
 have hfx:g2.fl (max A1.floor A1.next)=g2:=by rw[← a3];exact J6L g2
 have ex:∀ i,i<A1.next→g2.get i=A1.get i:=a4
 have ez:∀ i,i<A1.next→k2.get i=A1.get i:=a9
 have gT:A1.get h.next=.row [.slice aw W.length cw,tg,td] 30 false false:=by rw[gAA _ (by omega)];exact gA
 have e1:(A1.push (.row (J3e ((vrV 0 0 0).cells.toList) (W.length+3)) 58 false false)).get h.next=.row [.slice aw W.length cw,tg,td] 30 false false:=by rw[J06 (by omega)];exact gT
 have e2:g2.get h.next=.row [.slice aw W.length cw,tg,td] 30 false false:=by rw[ex _ (by omega)];exact gT
 have e3:k2.get h.next=.row [.slice aw W.length cw,tg,td] 30 false false:=by rw[ez _ (by omega)];exact gT
 have x0:ld1 0 (.row [.slice aw W.length cw,tg,td] 30 false false)=some (.slice aw W.length cw):=rfl
 have gDk:(k2.fl A1.floor).get D=.row [.slice none 0 0,.slice (some ⟨H0.next,0,none⟩) G.length (G.length+3),.slice (some ⟨h1.next,0,none⟩) rd.length (rd.length+3)] 30 false false:=by rw[J1g,ez _ (by omega)];exact gA1
 have hA:(h.next<A1.next)=True:=by simp;omega
 have st2:J0K Tryz.prog (k2.fl A1.floor) 28 (.pointer (some ⟨D,0,none⟩)) (.slice (some ⟨A1.next,0,none⟩) W.length (W.length+3))=_:=stc szV rfl rfl gDk (by simp only[List.length_cons,List.length_nil];omega) (by rw[JiM];omega)
 simp only[List.set_cons_zero] at st2
 refine WK.flags (ops:=JsS) JsD ?_
 refine WKF.begin ?_
 refine wst hsn 0 (some 11) (.fieldAddr 30 (.tmp 1) 0) none ?_
 simp only[rgC,seval,J04,J02,WKFC,Nat.zero_add,Nat.zero_add,Jq3]
 refine wst hsn 1 (some 12) (.load 28 (.tmp 11)) none ?_
 simp only[rgC,seval,J04,J02,WKFC,rgL,Jqh,gT,x0,hA]
 refine wst hsn 2 (some 13) (.call { callee:=.builtin .len,args:=#[.tmp 12],argTypes:=#[28] }) none ?_
 simp only[rgC,seval,J04,J02,WKFC,rgK,len1]
 refine wst hsn 3 (some 14) (.binOp .add 3 (.tmp 13) (.const (Value.int IntKind.i64 3)) 3) none ?_
 simp only[rgC,seval,J04,J02,WKFC,rgB,w2]
 refine wst hsn 4 (some 15) (.makeSlice 28 (.const (Value.int IntKind.i64 0)) (.tmp 14)) none ?_
 simp only[rgC,seval,J04,J02,WKFC,mk2,J0a]
 refine wst hsn 5 (some 16) (.fieldAddr 30 (.tmp 1) 0) none ?_
 simp only[rgC,seval,J04,J02,WKFC,Jq3,J0a,J0i]
 refine wst hsn 6 (some 17) (.load 28 (.tmp 16)) none ?_
 simp only[rgC,seval,J04,J02,WKFC,rgL,Jqh,e1,x0,hA,J0a,J0i]
 refine wst hsn 7 (some 18) (.call { callee:=.builtin .append,args:=#[.tmp 15,.tmp 17],argTypes:=#[28,28] }) none ?_
 simp only[rgC,seval,J04,J02,WKFC,rgK,a1,J0a,J0i]
 refine wst hsn 8 (some 19) (.build 58 #[(0,.const (Value.int IntKind.i64 (-77)))]) none ?_
 simp only[rgC,seval,J04,J02,WKFC,List.map_cons,List.map_nil,JrA,JiM,Jk2]
 refine wst hsn 9 (some 20) (.buildSlice 28 1 #[(0,.tmp 19)]) none ?_
 simp only[rgC,seval,J04,J02,WKFC,List.map_cons,List.map_nil,bsVr,J0a,J0J,JiM,Jk2]
 refine wst hsn 10 (some 21) (.call { callee:=.builtin .append,args:=#[.tmp 18,.tmp 20],argTypes:=#[28,28] }) none ?_
 simp only[rgC,seval,J04,J02,WKFC,rgK,hfx,a5,J0a,J0i,JiM,Jk2]
 refine wst hsn 11 (some 22) (.fieldAddr 30 (.tmp 1) 0) none ?_
 simp only[rgC,seval,J04,J02,WKFC,Jq3,JiM,Jk2]
 refine wst hsn 12 (some 23) (.load 28 (.tmp 22)) none ?_
 simp only[rgC,seval,J04,J02,WKFC,rgL,Jqh,e3,x0,hA,JiM,J1g,Jk2]
 refine wst hsn 13 (some 24) (.call { callee:=.builtin .len,args:=#[.tmp 23],argTypes:=#[28] }) none ?_
 simp only[rgC,seval,J04,J02,WKFC,rgK,len1,JiM,Jk2]
 refine wst hsn 14 (some 25) (.slice 28 (.tmp 21) none (some (.tmp 24)) none) none ?_
 simp only[rgC,seval,J04,J02,WKFC,rgL,sl2,JiM,Jk2]
 refine wst hsn 15 (some 26) (.fieldAddr 30 (.tmp 3) 0) none ?_
 simp only[rgC,seval,J04,J02,WKFC,Jq3,JiM,Jk2]
 refine wst hsn 16 (none) (.store 28 (.tmp 26) (.tmp 25)) none ?_
 simp only[rgC,seval,J04,J02,WKFC,J17,rgS,st2,JiM,Jk2]
 refine WKF.done (i:=17) (by kernel_rfl) ?_
 have nn2:((k2.fl A1.floor).put D (.row [.slice (some ⟨A1.next,0,none⟩) W.length (W.length+3),.slice (some ⟨H0.next,0,none⟩) G.length (G.length+3),.slice (some ⟨h1.next,0,none⟩) rd.length (rd.length+3)] 30 false false)).next=A1.next+2:=a7
 have ff2:((k2.fl A1.floor).put D (.row [.slice (some ⟨A1.next,0,none⟩) W.length (W.length+3),.slice (some ⟨H0.next,0,none⟩) G.length (G.length+3),.slice (some ⟨h1.next,0,none⟩) rd.length (rd.length+3)] 30 false false)).floor=A1.floor:=rfl
 have gg2:∀ i,i≠D→((k2.fl A1.floor).put D (.row [.slice (some ⟨A1.next,0,none⟩) W.length (W.length+3),.slice (some ⟨H0.next,0,none⟩) G.length (G.length+3),.slice (some ⟨h1.next,0,none⟩) rd.length (rd.length+3)] 30 false false)).get i=k2.get i:=fun i hd=>by rw[J05 (by rw[J0J];omega) (Ne.symm hd)];rfl
 have gD2:((k2.fl A1.floor).put D (.row [.slice (some ⟨A1.next,0,none⟩) W.length (W.length+3),.slice (some ⟨H0.next,0,none⟩) G.length (G.length+3),.slice (some ⟨h1.next,0,none⟩) rd.length (rd.length+3)] 30 false false)).get D=.row [.slice (some ⟨A1.next,0,none⟩) W.length (W.length+3),.slice (some ⟨H0.next,0,none⟩) G.length (G.length+3),.slice (some ⟨h1.next,0,none⟩) rd.length (rd.length+3)] 30 false false:=J0b rfl (by rw[J0J];omega)
 generalize (k2.fl A1.floor).put D (.row [.slice (some ⟨A1.next,0,none⟩) W.length (W.length+3),.slice (some ⟨H0.next,0,none⟩) G.length (G.length+3),.slice (some ⟨h1.next,0,none⟩) rd.length (rd.length+3)] 30 false false)=Q at *
 have lD:ldN 3 0 (Q.get D)=some (.agg #[.slice (some ⟨A1.next,0,none⟩) W.length (W.length+3),.slice (some ⟨H0.next,0,none⟩) G.length (G.length+3),.slice (some ⟨h1.next,0,none⟩) rd.length (rd.length+3)]):=by rw[gD2];rfl
 have gZQ:Q.get (h.next+1)=.row [.slice none 0 0,.slice none 0 0,.slice none 0 0] 30 false false:=by rw[gg2 _ (by omega),ez _ (by omega),gAA _ (by omega)];exact gZ
 have st3:=stW szY (h:=Q) (vs:=[.slice (some ⟨A1.next,0,none⟩) W.length (W.length+3),.slice (some ⟨H0.next,0,none⟩) G.length (G.length+3),.slice (some ⟨h1.next,0,none⟩) rd.length (rd.length+3)]) gZQ rfl rfl rfl (by omega)
 have st3':J0K Tryz.prog Q 30 (.pointer (some ⟨h.next+1,0,none⟩)) (.agg #[.slice (some ⟨A1.next,0,none⟩) W.length (W.length+3),.slice (some ⟨H0.next,0,none⟩) G.length (G.length+3),.slice (some ⟨h1.next,0,none⟩) rd.length (rd.length+3)])=_:=st3
 have lE:ldN 3 0 ((Q.put (h.next+1) (.row [.slice (some ⟨A1.next,0,none⟩) W.length (W.length+3),.slice (some ⟨H0.next,0,none⟩) G.length (G.length+3),.slice (some ⟨h1.next,0,none⟩) rd.length (rd.length+3)] 30 false false)).get (h.next+1))=some (.agg #[.slice (some ⟨A1.next,0,none⟩) W.length (W.length+3),.slice (some ⟨H0.next,0,none⟩) G.length (G.length+3),.slice (some ⟨h1.next,0,none⟩) rd.length (rd.length+3)]):=by rw[J0b rfl (by omega)];rfl
 have oQ:∀ i,i≠h.next+1→i≠D→(Q.put (h.next+1) (.row [.slice (some ⟨A1.next,0,none⟩) W.length (W.length+3),.slice (some ⟨H0.next,0,none⟩) G.length (G.length+3),.slice (some ⟨h1.next,0,none⟩) rd.length (rd.length+3)] 30 false false)).get i=k2.get i:=fun i h1 h2=>by rw[J05 (by omega) (Ne.symm h1),gg2 i h2]
 simp only[evC,seval,↓evP,hr,JqF,lD,st3',lE]
 refine⟨⟨fun j=>if j=1 then A1.next else if j=2 then H0.next else h1.next,rfl,⟨by show h.next≤H0.next;omega,by show H0.next<h1.next;omega,by show h1.next<A1.next;omega,by show A1.next<Q.next;omega⟩,?_,?_,?_⟩,by show h.next≤Q.next;omega,by show Q.floor=_;omega,fun i hi=>?_⟩
 ·exact a6.mono (oQ A1.next (by omega) (by omega))
 ·refine l1.mono (h':=_) ?_
  show _=h1.get H0.next
  rw[oQ H0.next (by omega) (by omega),ez _ (by omega),oA1 _ (by omega),o2 _ (by omega)]
  rfl
 ·refine l2.mono (h':=_) ?_
  show _=h2.get h1.next
  rw[oQ h1.next (by omega) (by omega),ez _ (by omega),oA1 _ (by omega)]
 ·rw[oQ i (by omega) (by omega),ez i (by omega)]
  exact oH1 i hi
theorem Jsd {W:List (Int × Int × Int)} {G rd:List Int} {tv:Value} {lo:Nat} (hp:Jqg lo h tv W G rd) (hw:W.length<100000) (hg:G.length<100000) (hrl:rd.length<100000000) (hfl:h.floor≤h.next) (hn:30<n) :
  ∃ v' h',J0T n 8 [tv] h=some (v',h')∧(∃ o,LentTyp h' h.next v' W G rd o)∧h.next≤h'.next∧h'.floor=h.floor∧∀ i,i<h.next→h'.get i=h.get i:=by
 obtain⟨n,rfl⟩:∃ j,n=j+1:=⟨n-1,by omega⟩
 refine k_ex (J13 ⟨rfl,rfl,rfl⟩) (Jr4 (n:=n) (N:=n) hp hw hg hrl hfl (by omega)) fun v' h1 hf _ ht=>?_
 obtain⟨⟨o,hL⟩,_⟩:=ht
 rw[hL.v] at hf
 cases hf
set_option maxHeartbeats 16000000 in
theorem JqZ {W:List (Int × Int × Int)} {G rd:List Int} {tv v:Value} {lo b:Nat} {o:Nat→Nat} {h0:SHeap} (hL:LentTyp h b v W G rd o) (hp:Jqg lo h0 tv W G rd) (hb:h0.next≤b) (h0g:∀ i,i<h0.next→h.get i=h0.get i) (hf:h.floor≤b) (hw:W.length<100000) (hg:G.length<100000) (hrl:rd.length<100000000) (hn:W.length+G.length+rd.length+60<n) (hN:W.length+60<N) :
  ∃ h',J0L Tryz.prog (J0T n) N 12 [v,tv] h=some (.bool true,h')∧(h.next≤h'.next∧h'.floor=h.floor∧∀ i,i<h.next→i≠o 1→i≠o 2→i≠o 3→h'.get i=h.get i):=by
 obtain⟨tw,tg,td,rfl,y1,y2,y3⟩:=id hp
 obtain⟨aw,cw,rfl,_⟩:=id y1.2
 obtain⟨rfl,⟨u1,u2,u3,u4⟩,L1,L2,L3⟩:=hL
 have hsn:=(J1z n).2
 refine J1N (R:=fun h'=>h.next≤h'.next∧h'.floor=h.floor∧∀ i,i<h.next→i≠o 1→i≠o 2→i≠o 3→h'.get i=h.get i) Tryz.func12 rfl (by simp[Tryz.f12]) ?_
 have hr:Tryz.f12.results.toList=[.tmp 4]:=rfl
 have ca:(Value.agg #[.slice (some ⟨o 1,0,none⟩) W.length (W.length+3),.slice (some ⟨o 2,0,none⟩) G.length (G.length+3),.slice (some ⟨o 3,0,none⟩) rd.length (rd.length+3)]).cells.toList=[.slice (some ⟨o 1,0,none⟩) W.length (W.length+3),.slice (some ⟨o 2,0,none⟩) G.length (G.length+3),.slice (some ⟨o 3,0,none⟩) rd.length (rd.length+3)]:=rfl
 have oa:[Value.slice (some ⟨o 1,0,none⟩) W.length (W.length+3),.slice (some ⟨o 2,0,none⟩) G.length (G.length+3),.slice (some ⟨o 3,0,none⟩) rd.length (rd.length+3)].all one=true:=rfl
 have cy:(Value.agg #[.slice aw W.length cw,tg,td]).cells.toList=[.slice aw W.length cw,tg,td]:=rfl
 have oy:[.slice aw W.length cw,tg,td].all one=true:=by simp only[List.all_cons,List.all_nil,y1.one,J0p.one y2,J0p.one y3,Bool.and_self]
 have lenT:=lenV y1
 have lenM:∀ h':SHeap,lenS Tryz.prog h' 28 (.slice (some ⟨o 1,0,none⟩) W.length (W.length+3))=some (iv (W.length:Int)):=fun h'=>by simp[lenS,Tryz.underlying28]
 have g0:∀ (a b:SObj),let A:=(h.push a).push b
   A.get h.next=a∧A.get (h.next+1)=b∧A.next=h.next+2∧A.floor=h.floor∧∀ i,i<h.next→A.get i=h.get i:=fun a b=>
  ⟨J4c,J48,rfl,rfl,fun i hi=>by rw[J06 (by show i<h.next+1;omega),J06 hi]⟩
 obtain⟨gA,gB,nG,fG,gO⟩:=g0 (.row [.slice (some ⟨o 1,0,none⟩) W.length (W.length+3),.slice (some ⟨o 2,0,none⟩) G.length (G.length+3),.slice (some ⟨o 3,0,none⟩) rd.length (rd.length+3)] 30 false false) (.row [.slice aw W.length cw,tg,td] 30 false false)
 simp only[evC,seval,↓evP,rpD,J0X,J2t,ca,oa,cy,oy,szY]
 generalize (h.push (.row [.slice (some ⟨o 1,0,none⟩) W.length (W.length+3),.slice (some ⟨o 2,0,none⟩) G.length (G.length+3),.slice (some ⟨o 3,0,none⟩) rd.length (rd.length+3)] 30 false false)).push (.row [.slice aw W.length cw,tg,td] 30 false false)=Q at *
 have L1:=L1.mono (gO (o 1) (by omega))
 have L2:=L2.mono (gO (o 2) (by omega))
 have L3:=L3.mono (gO (o 3) (by omega))
 have oQ0:∀ i,i<h0.next→Q.get i=h0.get i:=fun i hi=>by rw[gO i (by omega),h0g i hi]
 have x0:ld1 0 (Q.get h.next)=some (.slice (some ⟨o 1,0,none⟩) W.length (W.length+3)):=by rw[gA];rfl
 have z0:ld1 0 (Q.get (h.next+1))=some (.slice aw W.length cw):=by rw[gB];rfl
 have w1:IntKind.i64.wrap ((W.length:Int)+1)=((W.length+1:Nat):Int):=J0s (by omega) (by omega)
 have sl:=fun (H:SHeap)=>JnH (h:=H) (id:=o 1) (n:=W.length) (m:=W.length+1) (c:=W.length+3) Tryz.underlying28 szVr (by omega) (by unfold unk;omega)
 have ix:=idx0 (id:=o 1) (n:=W.length+1) (c:=W.length+3) (i:=W.length) Tryz.underlying28 szVr (by omega)
 have mk:ld1 (W.length*3) (Q.get (o 1))=some (iv (-77)):=L1.ld (j:=0) (by decide)
 refine WK.flags (ops:=JsJ) Jsq ?_
 refine WKF.begin ?_
 refine wst hsn 0 (some 10) (.fieldAddr 30 (.tmp 2) 0) none ?_
 simp only[rgC,seval,J04,J02,WKFC,Nat.zero_add,Jq3]
 refine wst hsn 1 (some 11) (.load 28 (.tmp 10)) none ?_
 simp only[rgC,seval,J04,J02,WKFC,rgL,Jqh,x0]
 refine wst hsn 2 (some 12) (.call { callee:=.builtin .len,args:=#[.tmp 11],argTypes:=#[28] }) none ?_
 simp only[rgC,seval,J04,J02,WKFC,rgK,lenM]
 refine wst hsn 3 (some 13) (.fieldAddr 30 (.tmp 3) 0) none ?_
 simp only[rgC,seval,J04,J02,WKFC,Jq3]
 refine wst hsn 4 (some 14) (.load 28 (.tmp 13)) none ?_
 simp only[rgC,seval,J04,J02,WKFC,rgL,Jqh,z0]
 refine wst hsn 5 (some 15) (.call { callee:=.builtin .len,args:=#[.tmp 14],argTypes:=#[28] }) none ?_
 simp only[rgC,seval,J04,J02,WKFC,rgK,lenT]
 refine wst hsn 6 (some 16) (.binOp .eql 3 (.tmp 12) (.tmp 15) 3) none ?_
 simp only[rgC,seval,J04,J02,WKFC,rgB,BEq.rfl]
 refine wst hsn 7 (some 17) (.move (.tmp 16)) none ?_
 simp only[rgC,seval,J04,J02,WKFC]
 refine wst hsn 8 (some 18) (.fieldAddr 30 (.tmp 2) 0) (some (7,true)) ?_
 simp only[rgC,seval,J04,J02,WKFC,gdK1,Jq3]
 refine wst hsn 9 (some 19) (.load 28 (.tmp 18)) (some (7,true)) ?_
 simp only[rgC,seval,J04,J02,WKFC,rgL,gdK1,Jqh,x0]
 refine wst hsn 10 (some 20) (.fieldAddr 30 (.tmp 3) 0) (some (7,true)) ?_
 simp only[rgC,seval,J04,J02,WKFC,gdK1,Jq3]
 refine wst hsn 11 (some 21) (.load 28 (.tmp 20)) (some (7,true)) ?_
 simp only[rgC,seval,J04,J02,WKFC,rgL,gdK1,Jqh,z0]
 refine wst hsn 12 (some 22) (.call { callee:=.builtin .len,args:=#[.tmp 21],argTypes:=#[28] }) (some (7,true)) ?_
 simp only[rgC,seval,J04,J02,WKFC,rgK,gdK1,lenT]
 refine wst hsn 13 (some 23) (.binOp .add 3 (.tmp 22) (.const (Value.int IntKind.i64 1)) 3) (some (7,true)) ?_
 simp only[rgC,seval,J04,J02,WKFC,rgB,gdK1,w1]
 refine wst hsn 14 (some 24) (.slice 28 (.tmp 19) none (some (.tmp 23)) none) (some (7,true)) ?_
 simp only[rgC,seval,J04,J02,WKFC,rgL,gdK1,sl]
 refine wst hsn 15 (some 25) (.fieldAddr 30 (.tmp 3) 0) (some (7,true)) ?_
 simp only[rgC,seval,J04,J02,WKFC,gdK1,Jq3]
 refine wst hsn 16 (some 26) (.load 28 (.tmp 25)) (some (7,true)) ?_
 simp only[rgC,seval,J04,J02,WKFC,rgL,gdK1,Jqh,z0]
 refine wst hsn 17 (some 27) (.call { callee:=.builtin .len,args:=#[.tmp 26],argTypes:=#[28] }) (some (7,true)) ?_
 simp only[rgC,seval,J04,J02,WKFC,rgK,gdK1,lenT]
 refine wst hsn 18 (some 28) (.indexAddr 28 (.tmp 24) (.tmp 27)) (some (7,true)) ?_
 simp only[rgC,seval,J04,J02,WKFC,gdK1,ix]
 refine wst hsn 19 (some 29) (.fieldAddr 58 (.tmp 28) 0) (some (7,true)) ?_
 simp only[rgC,seval,J04,J02,WKFC,gdK1,Jrz]
 refine wst hsn 20 (some 30) (.load 3 (.tmp 29)) (some (7,true)) ?_
 simp only[rgC,seval,J04,J02,WKFC,rgL,gdK1,J0m,mk]
 refine wst hsn 21 (some 31) (.binOp .eql 3 (.tmp 30) (.const (Value.int IntKind.i64 (-77))) 3) (some (7,true)) ?_
 simp only[rgC,seval,J04,J02,WKFC,rgB,gdK1,BEq.rfl]
 refine wst hsn 22 (some 32) (.pick (.tmp 17) (.tmp 31) (.const (Value.bool false))) none ?_
 simp only[rgC,seval,J04,J02,WKFC]
 refine wst hsn 23 (some 5) (.assign (.tmp 32)) none ?_
 simp only[rgC,seval,J04,J02,WKFC]
 refine WKF.done (i:=24) (by kernel_rfl) ?_
 simp only[evC,seval,↓evP]
 have hM:J0p 0 Q (.slice (some ⟨o 1,0,none⟩) W.length (W.length+3)) W.length 3 (vcells W):=L1.cells ⟨Nat.zero_le _,by omega⟩
 have hT:J0p lo Q (.slice aw W.length cw) W.length 3 (vcells W):=y1.mono (by omega) fun i _ hi=>oQ0 i hi
 refine WK.loop (fun i s'=>s'.h=Q∧s'.T.get 2=.pointer (some ⟨h.next,0,none⟩)∧s'.T.get 3=.pointer (some ⟨h.next+1,0,none⟩)∧s'.T.get 5=.bool true∧s'.T.get 6=iv i∧i≤W.length) W.length (by omega) ?_ ?_
 ·exact⟨rfl,by simp only[evC,seval,↓evP,rpC],by simp only[evC,seval,↓evP,rpC],by simp only[evC,seval,↓evP,rpC],by simp only[evC,seval,↓evP,rpC],by omega⟩
 rintro i ⟨T1,H1⟩ hi ⟨hH,t2,t3,t5,t6,hil⟩
 simp only at t2 t3 t5 t6 hH
 subst hH
 by_cases hlt:i<W.length
 ·have c1:decide ((i:Int)<(W.length:Int))=true:=by simp;omega
  obtain⟨x,hx⟩:∃ x,W[i]?=some x:=⟨_,List.getElem?_eq_getElem hlt⟩
  obtain⟨i1,p1,a1,b1,d1⟩:=J0p.whole hM Tryz.underlying28 szVr hlt
  obtain⟨i2,p2,a2,b2,d2⟩:=J0p.whole hT Tryz.underlying28 szVr hlt
  rw[JqE hx] at d1 d2
  have w2:IntKind.i64.wrap ((i:Int)+1)=((i+1:Nat):Int):=J0s (by omega) (by omega)
  have t1T:(i1<H1.next)=True:=by simp[b1]
  have t2T:(i2<H1.next)=True:=by simp[b2]
  simp only[evC,seval,↓evP,t2,t5,t6,Jq3,Jqh,x0,lenM,c1]
  refine WK.flags (ops:=JsO) Jst ?_
  refine WKF.begin ?_
  refine wst hsn 0 (some 43) (.fieldAddr 30 (.tmp 2) 0) none ?_
  simp only[rgC,seval,J04,J02,WKFC,Nat.zero_add,t2,Jq3]
  refine wst hsn 1 (some 44) (.load 28 (.tmp 43)) none ?_
  simp only[rgC,seval,J04,J02,WKFC,rgL,Jqh,x0]
  refine wst hsn 2 (some 45) (.move (.tmp 6)) none ?_
  simp only[rgC,seval,J04,J02,WKFC,t6]
  refine wst hsn 3 (some 46) (.indexAddr 28 (.tmp 44) (.tmp 45)) none ?_
  simp only[rgC,seval,J04,J02,WKFC,a1]
  refine wst hsn 4 (some 47) (.load 58 (.tmp 46)) none ?_
  simp only[rgC,seval,J04,J02,WKFC,rgL,JsA,d1,t1T]
  refine wst hsn 5 (some 48) (.fieldAddr 30 (.tmp 3) 0) none ?_
  simp only[rgC,seval,J04,J02,WKFC,t3,Jq3]
  refine wst hsn 6 (some 49) (.load 28 (.tmp 48)) none ?_
  simp only[rgC,seval,J04,J02,WKFC,rgL,Jqh,z0]
  refine wst hsn 7 (some 50) (.move (.tmp 6)) none ?_
  simp only[rgC,seval,J04,J02,WKFC,t6]
  refine wst hsn 8 (some 51) (.indexAddr 28 (.tmp 49) (.tmp 50)) none ?_
  simp only[rgC,seval,J04,J02,WKFC,a2]
  refine wst hsn 9 (some 52) (.load 58 (.tmp 51)) none ?_
  simp only[rgC,seval,J04,J02,WKFC,rgL,JsA,d2,t2T]
  refine wst hsn 10 (some 53) (.binOp .eql 58 (.tmp 47) (.tmp 52) 58) none ?_
  simp only[rgC,seval,J04,J02,WKFC,JrO]
  refine wst hsn 11 (some 5) (.assign (.tmp 53)) none ?_
  simp only[rgC,seval,J04,J02,WKFC]
  refine WKF.done (i:=12) (by kernel_rfl) ?_
  simp only[evC,seval,↓evP,t2,t3,t6,w2]
  exact⟨hlt,hlt⟩
 have c1:decide ((i:Int)<(W.length:Int))=false:=by simp;omega
 simp only[evC,seval,↓evP,t2,t6,Jq3,Jqh,x0,lenM,c1]
 have hsz:=L1.size
 refine WK.loop (fun i s'=>s'.T.get 2=.pointer (some ⟨h.next,0,none⟩)∧s'.T.get 3=.pointer (some ⟨h.next+1,0,none⟩)∧s'.T.get 5=.bool true∧s'.T.get 7=iv i∧i≤W.length∧s'.h.next=H1.next∧s'.h.floor=H1.floor∧(∀ j,j≠o 1→s'.h.get j=H1.get j)∧∃ CS,s'.h.get (o 1)=.row CS 58 false false∧CS.length=(W.length+3)*3) W.length (by omega) ?_ ?_
 ·exact⟨by simp only[evC,seval,↓evP,rpC,t2],by simp only[evC,seval,↓evP,rpC,t3],by simp only[evC,seval,↓evP,rpC,t5],by simp only[evC,seval,↓evP,rpC],by omega,rfl,rfl,fun _ _=>rfl,_,L1.g,hsz⟩
 rintro k ⟨T2,H2⟩ hk ⟨t2,t3,t5,t7,hkl,n2,f2,o2,CS,gC,lC⟩
 simp only at t2 t3 t5 t7 n2 f2 o2 gC
 have x0':ld1 0 (H2.get h.next)=some (.slice (some ⟨o 1,0,none⟩) W.length (W.length+3)):=by rw[o2 _ (by omega)];exact x0
 by_cases hlk:k<W.length
 ·have c2:decide ((k:Int)<(W.length:Int))=true:=by simp;omega
  have hix:=idx0 (id:=o 1) (n:=W.length) (c:=W.length+3) (i:=k) Tryz.underlying28 szVr hlk
  obtain⟨CS',hst,hl'⟩:=Jot (off:=k*3) (v:=vrV 1 0 0) szVr rfl rfl gC (by omega) (by omega)
  have w2:IntKind.i64.wrap ((k:Int)+1)=((k+1:Nat):Int):=J0s (by omega) (by omega)
  simp only[evC,seval,↓evP,t2,t3,t5,t7,Jq3,Jqh,x0',lenM,c2,JrA,hix,hst,w2]
  exact⟨hlk,by omega,n2,f2,fun j hj=>by rw[J05 (by omega) (Ne.symm hj)];exact o2 j hj,CS',J0b rfl (by omega),by omega⟩
 have c2:decide ((k:Int)<(W.length:Int))=false:=by simp;omega
 have x1:ld1 1 (H2.get h.next)=some (.slice (some ⟨o 2,0,none⟩) G.length (G.length+3)):=by rw[o2 _ (by omega),gA];rfl
 have z1:ld1 1 (H2.get (h.next+1))=some tg:=by rw[o2 _ (by omega),gB];rfl
 have M2:=L2.mono (o2 (o 2) (by omega))
 have yg:J1S lo H2 tg G:=J1S.mono y2 (by omega) fun i _ hi=>by rw[o2 i (by omega),oQ0 i hi]
 obtain⟨H3,k3,n3,f3,o3⟩:=Jo0 (n:=n) M2 (by omega) (by omega) yg (by omega) (by omega)
 have x2:ld1 2 (H3.get h.next)=some (.slice (some ⟨o 3,0,none⟩) rd.length (rd.length+3)):=by rw[o3 _ (by omega),o2 _ (by omega),gA];rfl
 have z2:ld1 2 (H3.get (h.next+1))=some td:=by rw[o3 _ (by omega),o2 _ (by omega),gB];rfl
 have M3:=(L3.mono (o2 (o 3) (by omega))).mono (o3 (o 3) (by omega))
 have yd:J1S lo H3 td rd:=J1S.mono y3 (by omega) fun i _ hi=>by rw[o3 i (by omega),o2 i (by omega),oQ0 i hi]
 obtain⟨H4,k4,n4,f4,o4⟩:=Jo0 (n:=n) M3 (by omega) (by omega) yd (by omega) (by omega)
 simp only[evC,seval,↓evP,hr,Nat.zero_add,t2,t3,t5,t7,Jq3,Jqo,JpX,Jqh,J0n,x0',lenM,c2,x1,z1,k3,x2,z2,k4]
 exact⟨by omega,by omega,fun j hj e1 e2 e3=>by rw[o4 j e3,o3 j e2,o2 j e1,gO j hj]⟩
theorem JrV {W:List (Int × Int × Int)} {G rd:List Int} {tv v:Value} {lo b:Nat} {o:Nat→Nat} {h0:SHeap} (hL:LentTyp h b v W G rd o) (hp:Jqg lo h0 tv W G rd) (hb:h0.next≤b) (h0g:∀ i,i<h0.next→h.get i=h0.get i) (hf:h.floor≤b) (hw:W.length<100000) (hg:G.length<100000) (hrl:rd.length<100000000) (hn:W.length+G.length+rd.length+100<n) :
  ∃ h',J0T n 12 [v,tv] h=some (.bool true,h')∧(h.next≤h'.next∧h'.floor=h.floor∧∀ i,i<h.next→i≠o 1→i≠o 2→i≠o 3→h'.get i=h.get i):=by
 obtain⟨n,rfl⟩:∃ j,n=j+1:=⟨n-1,by omega⟩
 exact k_wr (J13 ⟨rfl,rfl,rfl⟩) (JqZ (n:=n) (N:=n) hL hp hb h0g hf hw hg hrl (by omega) (by omega))
theorem Jq4.ints {lo:Nat} {h:SHeap} {cv:Value} {c:CostN} (hc:Jq4 lo h cv c):∃ vo,cv=cV vo c.miss∧one vo=true∧J1S 0 h vo c.on:=by
 obtain⟨vo,rfl,⟨rfl,h2⟩ | ⟨id,rfl,h3,h4,h5⟩⟩:=hc
 ·exact⟨_,rfl,rfl,by rw[h2];exact J0p.nil 0 h 1⟩
 ·exact⟨_,rfl,rfl,J1S.row' h5 ⟨Nat.zero_le _,h4⟩ rfl⟩
theorem Jr1 {ca cb:Value} {c d:CostN} {la lb:Nat} (ha:Jq4 la h ca c) (hb:Jq4 lb h cb d) (hcl:c.on.length<100000) (hn:c.on.length+10<n) :
  ∃ h',J0L Tryz.prog (J0T n) N 13 [ca,cb] h=some (.bool (decide (c.miss=d.miss∧c.on=d.on)),h')∧∀ i,i<h.next→h'.get i=h.get i:=by
 obtain⟨va,rfl,o1,a2⟩:=ha.ints
 obtain⟨vb,rfl,o2,b2⟩:=hb.ints
 refine J1N (R:=fun h'=>∀ i,i<h.next→h'.get i=h.get i) Tryz.func13 rfl (by simp[Tryz.f13]) ?_
 have hr:Tryz.f13.results.toList=[.tmp 4]:=rfl
 have cx:(cV va c.miss).cells.toList=[va,iv c.miss]:=rfl
 have cy:(cV vb d.miss).cells.toList=[vb,iv d.miss]:=rfl
 have ox:[va,iv c.miss].all one=true:=by simp only[List.all_cons,List.all_nil,o1,J5K,Bool.and_self]
 have oy:[vb,iv d.miss].all one=true:=by simp only[List.all_cons,List.all_nil,o2,J5K,Bool.and_self]
 have g0:∀ (a b:SObj),let A:=(h.push a).push b
   A.get h.next=a∧A.get (h.next+1)=b∧A.next=h.next+2∧A.floor=h.floor∧∀ i,i<h.next→A.get i=h.get i:=fun a b=>
  ⟨J4c,J48,rfl,rfl,fun i hi=>by rw[J06 (by show i<h.next+1;omega),J06 hi]⟩
 obtain⟨gA,gB,nG,fG,gO⟩:=g0 (.row [va,iv c.miss] 36 false false) (.row [vb,iv d.miss] 36 false false)
 simp only[evC,seval,↓evP,rpD,J0X,J2t,cx,cy,ox,oy,szC]
 generalize (h.push (.row [va,iv c.miss] 36 false false)).push (.row [vb,iv d.miss] 36 false false)=Q at *
 have x0:ld1 0 (Q.get h.next)=some va:=by rw[gA];rfl
 have x1:ld1 1 (Q.get h.next)=some (iv c.miss):=by rw[gA];rfl
 have z0:ld1 0 (Q.get (h.next+1))=some vb:=by rw[gB];rfl
 have z1:ld1 1 (Q.get (h.next+1))=some (iv d.miss):=by rw[gB];rfl
 have hs:=J78 (n:=n) (h:=Q) (J1S.mono a2 (by omega) fun i _ hi=>gO i hi) (J1S.mono b2 (by omega) fun i _ hi=>gO i hi) (by omega) (by omega)
 cases dm:(c.miss==d.miss) with
 | false=>
  have hne:c.miss≠d.miss:=by simpa using dm
  rw[decide_eq_false (fun h9=>hne h9.1)]
  simp only[evC,seval,↓evP,hr,Nat.zero_add,Jqp,J0m,x1,z1,dm]
  exact gO
 | true=>
  have he:c.miss=d.miss:=by simpa using dm
  have hd:decide (c.miss=d.miss∧c.on=d.on)=decide (c.on=d.on):=by simp[he]
  rw[hd]
  simp only[evC,seval,↓evP,hr,Nat.zero_add,Jqs,Jqp,J0m,J0n,x1,z1,dm,x0,z0,hs]
  exact gO
theorem Js6 {ca cb:Value} {c d:CostN} {la lb:Nat} (ha:Jq4 la h ca c) (hb:Jq4 lb h cb d) (hcl:c.on.length<100000) (hn:c.on.length+20<n) :
  J0T n 13 [ca,cb] h=some (.bool (decide (c.miss=d.miss∧c.on=d.on)),h):=by
 obtain⟨n,rfl⟩:∃ j,n=j+1:=⟨n-1,by omega⟩
 exact J4r (J13 ⟨rfl,rfl,rfl⟩) rfl (Jr1 (n:=n) (N:=n) ha hb hcl (by omega))
theorem Jrf {nm:ByteArray} {s:StN} {W:List (Int × Int × Int)} {G rd:List Int} {pv tv:Value} {lo lt:Nat} (hp:J3x lo h pv nm s) (hty:Jqg lt h tv W G rd) (hn:1<n) :
  ∃ v' h',J0L Tryz.prog (J0T n) N 5 [pv,tv] h=some (v',h')∧(∃ b,v'=.bool b∧(b=false→(s.rows.length≤65536∧s.queues.length≤100∧s.vars.length≤100∧s.tags.length≤100∧s.rules.length≤100∧s.on.length≤100)∧W.length≤100∧G.length≤100∧rd.length≤65536))∧∀ i,i<h.next→h'.get i=h.get i:=by
 obtain⟨vr,vq,vv,vt,vu,vo,rfl,p1,p2,p3,p4,p5,p6⟩:=id hp
 obtain⟨tw,tg,td,rfl,y1,y2,y3⟩:=id hty
 refine J65 (R:=fun v' h'=>(∃ b,v'=.bool b∧(b=false→(s.rows.length≤65536∧s.queues.length≤100∧s.vars.length≤100∧s.tags.length≤100∧s.rules.length≤100∧s.on.length≤100)∧W.length≤100∧G.length≤100∧rd.length≤65536))∧∀ i,i<h.next→h'.get i=h.get i) Tryz.func5 rfl (by simp[Tryz.f5]) ?_
 have hr:Tryz.f5.results.toList=[.tmp 4]:=rfl
 have ca:(Value.agg #[.string nm,vr,vq,vv,vt,vu,vo,iv s.miss]).cells.toList=[.string nm,vr,vq,vv,vt,vu,vo,iv s.miss]:=rfl
 have oa:=all8 (nm:=nm) p1 p2 p3 p4 p5 p6
 have cy:(Value.agg #[tw,tg,td]).cells.toList=[tw,tg,td]:=rfl
 have oy:[tw,tg,td].all one=true:=by simp only[List.all_cons,List.all_nil,y1.one,J0p.one y2,J0p.one y3,Bool.and_self]
 have g0:∀ (a b:SObj),let A:=(h.push a).push b
   A.get h.next=a∧A.get (h.next+1)=b∧A.next=h.next+2∧A.floor=h.floor∧∀ i,i<h.next→A.get i=h.get i:=fun a b=>
  ⟨J4c,J48,rfl,rfl,fun i hi=>by rw[J06 (by show i<h.next+1;omega),J06 hi]⟩
 obtain⟨gA,gB,nG,fG,gO⟩:=g0 (.row [.string nm,vr,vq,vv,vt,vu,vo,iv s.miss] 27 false false) (.row [tw,tg,td] 30 false false)
 simp only[evC,seval,↓evP,rpD,J0X,J2t,ca,oa,cy,oy,sz30,szY]
 generalize (h.push (.row [.string nm,vr,vq,vv,vt,vu,vo,iv s.miss] 27 false false)).push (.row [tw,tg,td] 30 false false)=Q at *
 have lP:ldN 8 0 (Q.get h.next)=some (.agg #[.string nm,vr,vq,vv,vt,vu,vo,iv s.miss]):=J9E gA rfl
 have z0:ld1 0 (Q.get (h.next+1))=some tw:=by rw[gB];rfl
 have z1:ld1 1 (Q.get (h.next+1))=some tg:=by rw[gB];rfl
 have z2:ld1 2 (Q.get (h.next+1))=some td:=by rw[gB];rfl
 have l1:=lenV y1
 have l2:=JfF y2
 have l3:=JfF y3
 obtain⟨b,hfar,hb⟩:=Jpu (n:=n) (hp.mono (h':=Q) (by omega) fun i _ hi=>gO i hi) hn
 cases b with
 | true=>
  simp only[evC,seval,↓evP,hr,J1b,lP,hfar]
  exact⟨⟨_,rfl,fun h9=>by cases h9⟩,gO⟩
 | false=>
 cases d1:decide ((W.length:Int)>100) with
 | true=>
  simp only[evC,seval,↓evP,hr,J1b,lP,hfar,Jq3,Jqh,z0,l1,d1]
  exact⟨⟨_,rfl,fun h9=>by cases h9⟩,gO⟩
 | false=>
 cases d2:decide ((G.length:Int)>100) with
 | true=>
  simp only[evC,seval,↓evP,hr,Nat.zero_add,J1b,lP,hfar,Jq3,Jqh,z0,l1,d1,Jqo,J0n,z1,l2,d2]
  exact⟨⟨_,rfl,fun h9=>by cases h9⟩,gO⟩
 | false=>
 simp only[evC,seval,↓evP,hr,Nat.zero_add,J1b,lP,hfar,Jq3,Jqh,z0,l1,d1,Jqo,J0n,z1,l2,d2,JpX,z2,l3]
 refine⟨⟨_,rfl,fun h9=>⟨hb rfl,?_,?_,?_⟩⟩,gO⟩
 ·have:=of_decide_eq_false d1;omega
 ·have:=of_decide_eq_false d2;omega
 ·have:=of_decide_eq_false h9;omega
theorem JsE {nm:ByteArray} {s:StN} {W:List (Int × Int × Int)} {G rd:List Int} {pv tv:Value} {lo lt:Nat} (hp:J3x lo h pv nm s) (hty:Jqg lt h tv W G rd) (hn:2<n) :
  ∃ b,J0T n 5 [pv,tv] h=some (.bool b,h)∧(b=false→(s.rows.length≤65536∧s.queues.length≤100∧s.vars.length≤100∧s.tags.length≤100∧s.rules.length≤100∧s.on.length≤100)∧W.length≤100∧G.length≤100∧rd.length≤65536):=by
 obtain⟨n,rfl⟩:∃ j,n=j+1:=⟨n-1,by omega⟩
 obtain⟨v',h',e,⟨b,rfl,hb⟩,ho⟩:=Jrf (n:=n) (N:=n) hp hty (by omega)
 exact⟨b,J4r (J13 ⟨rfl,rfl,rfl⟩) rfl ⟨h',e,ho⟩,hb⟩
end
noncomputable def Jtl:Array Oper:=J18 Tryz.f15 7
def fsRn:List (Bool × Bool × List Operand):=[(false,true,[]),(false,true,[]),(false,true,[.tmp 32]),(false,true,[.tmp 32]),(false,true,[.tmp 32]),(false,true,[.tmp 32]),(false,true,[.tmp 32]),(false,true,[.tmp 32]),(false,true,[.tmp 32]),(false,true,[.tmp 32]),(false,false,[]),(false,false,[])]
theorem Jti:J1E Jtl=fsRn:=by kernel_rfl
theorem Jth:J2Q Tryz.prog (match Tryz.prog.underlying 30 with | some (.struct fs)=>fs.toList | _=>[])=some [(0,1),(1,1),(2,1)]:=by kernel_rfl
theorem Jtk {a:Option Addr} {n c:Nat}:J1P Tryz.prog 30 [(2,.slice a n c)]=some (.agg #[.slice none 0 0,.slice none 0 0,.slice a n c]):=by
 have h:=Jth
 rw[Tryz.underlying30] at h
 simp only at h
 simp only[J1P,JrY,Js4,if_true,Tryz.underlying30,h]
 rfl
def RndT (h:SHeap) (len:Nat) (v:Value) (h':SHeap):Prop:=
 ∃ rd:List Int,∃ id,rd.length=len∧v=.agg #[.slice none 0 0,.slice none 0 0,.slice (some ⟨id,0,none⟩) len len]∧Jqg h.next h' v [] [] rd∧h'.floor=h.floor∧h.next≤h'.next∧∀ i,i<h.next→h'.get i=h.get i
section
variable {n N:Nat} {h:SHeap}
set_option maxHeartbeats 32000000 in
theorem Jtc {nm:ByteArray} {s:StN} {pv w:Value} {A:List Int} {lo lw:Nat} (hp:J3x lo h pv nm s) (hw:J1S lw h w A) (hl:s.rows.length<90000000) (hfl:h.floor≤h.next) (hN:s.rows.length+10<N) :
  ∃ v' h',J0L Tryz.prog (J0T n) N 15 [pv,w] h=some (v',h')∧RndT h s.rows.length v' h':=by
 have hsn:=(J1z n).2
 refine J65 (R:=RndT h s.rows.length) Tryz.func15 rfl (by simp[Tryz.f15]) ?_
 have hr:Tryz.f15.results.toList=[.cell 4 30]:=rfl
 obtain⟨vr,vq,vv,vt,vu,vo,rfl,p1,p2,p3,p4,p5,p6⟩:=id hp
 obtain⟨ar,cr,hvr,_⟩:=id p1.2.2
 obtain⟨aw,cw,hwv,_⟩:=id hw.2
 subst hvr
 subst hwv
 have ca:(Value.agg #[.string nm,.slice ar s.rows.length cr,vq,vv,vt,vu,vo,iv s.miss]).cells.toList=[.string nm,.slice ar s.rows.length cr,vq,vv,vt,vu,vo,iv s.miss]:=rfl
 have oa:=all8 (nm:=nm) p1 p2 p3 p4 p5 p6
 have len1:∀ h':SHeap,lenS Tryz.prog h' 22 (.slice ar s.rows.length cr)=some (iv (s.rows.length:Int)):=fun h'=>JeK
 have len2:=fun h'=>JfF hw h'
 have zcY:(Value.agg #[.slice none 0 0,.slice none 0 0,.slice none 0 0]).cells.toList=[.slice none 0 0,.slice none 0 0,.slice none 0 0]:=rfl
 have g0:∀ (a b:SObj),let A:=(h.push a).push b
   A.get h.next=a∧A.get (h.next+1)=b∧A.next=h.next+2∧A.floor=h.floor∧∀ i,i<h.next→A.get i=h.get i:=fun a b=>
  ⟨J4c,J48,rfl,rfl,fun i hi=>by rw[J06 (by show i<h.next+1;omega),J06 hi]⟩
 obtain⟨gA,gZ,n0,f0,gO⟩:=g0 (.row [.string nm,.slice ar s.rows.length cr,vq,vv,vt,vu,vo,iv s.miss] 27 false false) (.row [.slice none 0 0,.slice none 0 0,.slice none 0 0] 30 false false)
 simp only[evC,seval,↓evP,rpD,J0X,J2t,ca,oa,sz30,JrY,Js4,zcY]
 generalize (h.push (.row [.string nm,.slice ar s.rows.length cr,vq,vv,vt,vu,vo,iv s.miss] 27 false false)).push (.row [.slice none 0 0,.slice none 0 0,.slice none 0 0] 30 false false)=H0 at *
 have lP1:ld1 1 (H0.get h.next)=some (.slice ar s.rows.length cr):=by rw[gA];rfl
 have hst:=stW (t:=30) szY (h:=(H0.push (.row (ints (List.replicate s.rows.length 0)) 3 false false)).push (.row [.slice none 0 0,.slice none 0 0,.slice none 0 0] 30 false false)) (id:=H0.next+1) (vs:=[.slice none 0 0,.slice none 0 0,.slice (some ⟨H0.next,0,none⟩) s.rows.length s.rows.length]) (J48 (h:=H0)) rfl rfl rfl (by rw[J0i,J0i];omega)
 simp only[evC,seval,↓evP,J0y,J0F,lP1,len1,J8p (show s.rows.length<1099511627776 by omega),Jtk,JrY,Js4,zcY,J1D]
 have hst':J0K Tryz.prog ((H0.push (.row (ints (List.replicate s.rows.length 0)) 3 false false)).push (.row [.slice none 0 0,.slice none 0 0,.slice none 0 0] 30 false false)) 30 (.pointer (some ⟨H0.next+1,0,none⟩)) (.agg #[.slice none 0 0,.slice none 0 0,.slice (some ⟨H0.next,0,none⟩) s.rows.length s.rows.length])=some (((H0.push (.row (ints (List.replicate s.rows.length 0)) 3 false false)).push (.row [.slice none 0 0,.slice none 0 0,.slice none 0 0] 30 false false)).put (H0.next+1) (.row [.slice none 0 0,.slice none 0 0,.slice (some ⟨H0.next,0,none⟩) s.rows.length s.rows.length] 30 false false)):=hst
 simp only[evC,seval,↓evP,hst']
 have gR:(((H0.push (.row (ints (List.replicate s.rows.length 0)) 3 false false)).push (.row [.slice none 0 0,.slice none 0 0,.slice none 0 0] 30 false false)).put (H0.next+1) (.row [.slice none 0 0,.slice none 0 0,.slice (some ⟨H0.next,0,none⟩) s.rows.length s.rows.length] 30 false false)).get H0.next=.row (ints (List.replicate s.rows.length 0)) 3 false false:=by
  rw[J05 (by show H0.next+1<H0.next+2;omega) (by omega)];exact J4c
 have gY:(((H0.push (.row (ints (List.replicate s.rows.length 0)) 3 false false)).push (.row [.slice none 0 0,.slice none 0 0,.slice none 0 0] 30 false false)).put (H0.next+1) (.row [.slice none 0 0,.slice none 0 0,.slice (some ⟨H0.next,0,none⟩) s.rows.length s.rows.length] 30 false false)).get (H0.next+1)=.row [.slice none 0 0,.slice none 0 0,.slice (some ⟨H0.next,0,none⟩) s.rows.length s.rows.length] 30 false false:=
  J0b rfl (by show H0.next+1<H0.next+2;omega)
 have gO1:∀ i,i<H0.next→(((H0.push (.row (ints (List.replicate s.rows.length 0)) 3 false false)).push (.row [.slice none 0 0,.slice none 0 0,.slice none 0 0] 30 false false)).put (H0.next+1) (.row [.slice none 0 0,.slice none 0 0,.slice (some ⟨H0.next,0,none⟩) s.rows.length s.rows.length] 30 false false)).get i=H0.get i:=fun i hi=>by
  rw[J05 (by show H0.next+1<H0.next+2;omega) (by omega),J06 (by show i<H0.next+1;omega),J06 hi]
 have n1:(((H0.push (.row (ints (List.replicate s.rows.length 0)) 3 false false)).push (.row [.slice none 0 0,.slice none 0 0,.slice none 0 0] 30 false false)).put (H0.next+1) (.row [.slice none 0 0,.slice none 0 0,.slice (some ⟨H0.next,0,none⟩) s.rows.length s.rows.length] 30 false false)).next=H0.next+2:=rfl
 have f1:(((H0.push (.row (ints (List.replicate s.rows.length 0)) 3 false false)).push (.row [.slice none 0 0,.slice none 0 0,.slice none 0 0] 30 false false)).put (H0.next+1) (.row [.slice none 0 0,.slice none 0 0,.slice (some ⟨H0.next,0,none⟩) s.rows.length s.rows.length] 30 false false)).floor=H0.floor:=rfl
 generalize ((H0.push (.row (ints (List.replicate s.rows.length 0)) 3 false false)).push (.row [.slice none 0 0,.slice none 0 0,.slice none 0 0] 30 false false)).put (H0.next+1) (.row [.slice none 0 0,.slice none 0 0,.slice (some ⟨H0.next,0,none⟩) s.rows.length s.rows.length] 30 false false)=H1 at *
 refine WK.loop (fun i s'=>s'.T.get 1=.slice aw A.length cw∧s'.T.get 2=.pointer (some ⟨h.next,0,none⟩)∧s'.T.get 4=.pointer (some ⟨h.next+1,0,none⟩)∧s'.T.get 5=.pointer (some ⟨H0.next+1,0,none⟩)∧s'.T.get 7=iv (i:Int)∧i≤s.rows.length∧s'.h.next=H1.next∧s'.h.floor=H1.floor∧(∃ c:Nat,c≤i∧s'.T.get 6=iv (c:Int))∧(∃ rd:List Int,rd.length=s.rows.length∧s'.h.get H0.next=.row (ints rd) 3 false false)∧∀ j,j<H1.next→j≠H0.next→s'.h.get j=H1.get j) s.rows.length (by omega) ?_ ?_
 ·exact⟨by simp only[evC,seval,↓evP,rpC],by simp only[evC,seval,↓evP,rpC],by simp only[evC,seval,↓evP,rpC],by simp only[evC,seval,↓evP,rpC],by simp only[evC,seval,↓evP,rpC],by omega,rfl,rfl,⟨0,by omega,by simp only[evC,seval,↓evP,rpC]⟩,⟨_,List.length_replicate,gR⟩,fun _ _ _=>rfl⟩
 rintro i ⟨T1,H2⟩ hi ⟨t1,t2,t4,t5,t7,hil,m1,m2,⟨c,hci,t6⟩,⟨rd,hrd,gI⟩,m3⟩
 simp only at t1 t2 t4 t5 t7 m1 m2 t6 gI m3
 have oH2:∀ j,j<h.next→H2.get j=h.get j:=fun j hj=>by rw[m3 j (by omega) (by omega),gO1 j (by omega),gO j hj]
 have lP2:ld1 1 (H2.get h.next)=some (.slice ar s.rows.length cr):=by rw[m3 _ (by omega) (by omega),gO1 _ (by omega)];exact lP1
 have g5:H2.get (H0.next+1)=.row [.slice none 0 0,.slice none 0 0,.slice (some ⟨H0.next,0,none⟩) s.rows.length s.rows.length] 30 false false:=by rw[m3 _ (by omega) (by omega)];exact gY
 have l5:ld1 2 (H2.get (H0.next+1))=some (.slice (some ⟨H0.next,0,none⟩) s.rows.length s.rows.length):=by rw[g5];rfl
 have lw5:ldN 3 0 (H2.get (H0.next+1))=some (.agg #[.slice none 0 0,.slice none 0 0,.slice (some ⟨H0.next,0,none⟩) s.rows.length s.rows.length]):=by rw[g5];rfl
 have g4:H2.get (h.next+1)=.row [.slice none 0 0,.slice none 0 0,.slice none 0 0] 30 false false:=by rw[m3 _ (by omega) (by omega),gO1 _ (by omega)];exact gZ
 have hst2:J0K Tryz.prog H2 30 (.pointer (some ⟨h.next+1,0,none⟩)) (.agg #[.slice none 0 0,.slice none 0 0,.slice (some ⟨H0.next,0,none⟩) s.rows.length s.rows.length])=some (H2.put (h.next+1) (.row [.slice none 0 0,.slice none 0 0,.slice (some ⟨H0.next,0,none⟩) s.rows.length s.rows.length] 30 false false)):=stW (t:=30) szY (vs:=[.slice none 0 0,.slice none 0 0,.slice (some ⟨H0.next,0,none⟩) s.rows.length s.rows.length]) g4 rfl rfl rfl (by omega)
 have lE:ldN 3 0 ((H2.put (h.next+1) (.row [.slice none 0 0,.slice none 0 0,.slice (some ⟨H0.next,0,none⟩) s.rows.length s.rows.length] 30 false false)).get (h.next+1))=some (.agg #[.slice none 0 0,.slice none 0 0,.slice (some ⟨H0.next,0,none⟩) s.rows.length s.rows.length]):=by rw[J0b rfl (by omega)];rfl
 have fin:RndT h s.rows.length (.agg #[.slice none 0 0,.slice none 0 0,.slice (some ⟨H0.next,0,none⟩) s.rows.length s.rows.length]) (H2.put (h.next+1) (.row [.slice none 0 0,.slice none 0 0,.slice (some ⟨H0.next,0,none⟩) s.rows.length s.rows.length] 30 false false)):=by
  refine⟨rd,H0.next,hrd,rfl,⟨_,_,_,rfl,J0p.nil _ _ _,J0p.nil _ _ _,?_⟩,by show H2.floor=_;omega,by show _≤H2.next;omega,fun j hj=>?_⟩
  ·rw[← hrd]
   exact J0p.row (ex:=[]) (by rw[J05 (by omega) (by omega),List.append_nil];exact gI) ⟨by omega,by show _<H2.next;omega⟩ (by rw[J1h];omega)
  ·rw[J05 (by omega) (by omega),oH2 j hj]
 cases c1:decide ((i:Int)<(s.rows.length:Int)) with
 | false=>
  simp only[evC,seval,↓evP,hr,t2,t4,t5,t7,J0y,J0F,lP2,len1,c1,JqF,lw5,hst2,lE]
  exact fin
 | true=>
 cases c2:decide ((A.length:Int)>0) with
 | false=>
  simp only[evC,seval,↓evP,hr,t1,t2,t4,t5,t7,J0y,J0F,lP2,len1,len2,c1,c2,JqF,lw5,hst2,lE]
  exact fin
 | true=>
 have d1:=of_decide_eq_true c1
 have d2:=of_decide_eq_true c2
 obtain⟨x,hx⟩:∃ x,s.rows[i]?=some x:=⟨_,List.getElem?_eq_getElem (by omega)⟩
 have p1':J3P lo H2 (.slice ar s.rows.length cr) s.rows:=p1.mono (by omega) fun j _ hj=>oH2 j hj
 obtain⟨id,pk,b0,_,b2,_⟩:=p1'.1.row hx
 have w7:IntKind.i64.wrap ((i:Int)+1)=((i+1:Nat):Int):=by rw[J0s (by omega) (by omega)];omega
 cases c3:(x.kind==13) with
 | false=>
  simp only[evC,seval,↓evP,t1,t2,t4,t5,t6,t7,J0y,J0F,lP2,len1,len2,c1,c2,b0,J0t,J0m,b2,c3,w7]
  exact⟨by omega,by omega,m1,m2,⟨c,by omega,rfl⟩,⟨rd,hrd,gI⟩,m3⟩
 | true=>
 have hwH:J1S lw H2 (.slice aw A.length cw) A:=J1S.mono hw (by omega) fun j _ hj=>oH2 j hj
 obtain⟨q,hq,hql⟩:∃ q:Nat,(c:Int).tmod (A.length:Int)=(q:Int)∧q<A.length:=by
  have h0:=Int.tmod_nonneg (A.length:Int) (show (0:Int)≤(c:Int) by omega)
  have h1:=Int.tmod_lt_of_pos (c:Int) d2
  exact⟨((c:Int).tmod (A.length:Int)).toNat,by omega,by omega⟩
 have hrem:=Jjy (P:=Tryz.prog) (t:=3) (x:=.tmp 36) (y:=.tmp 38) (k:=.i64) (a:=(c:Int)) (show (A.length:Int)≠0 by omega)
 rw[hq] at hrem
 obtain⟨a,ha⟩:∃ a,A[q]?=some a:=⟨_,List.getElem?_eq_getElem hql⟩
 obtain⟨ida,pa,ea,hida,la⟩:=J1S.get hwH ha
 have e1:=J1F (id:=H0.next) (n:=s.rows.length) (c:=s.rows.length) (i:=i) (by omega)
 have hst3:J0K Tryz.prog H2 3 (.pointer (some ⟨H0.next,i,none⟩)) (iv a)=some (H2.put H0.next (.row (ints (rd.set i a)) 3 false false)):=J59 gI (by omega) (by omega)
 have w6:IntKind.i64.wrap ((c:Int)+1)=((c+1:Nat):Int):=by rw[J0s (by omega) (by omega)];omega
 have hA1:(H0.next+1<H2.next)=True:=by simp;omega
 have hA2:(ida<H2.next)=True:=by simp;exact hida
 simp only[evC,seval,↓evP,t1,t2,t7,J0y,J0F,lP2,len1,len2,c1,c2,b0,J0t,J0m,b2,c3]
 refine WK.flags (ops:=Jtl) Jti ?_
 refine WKF.begin ?_
 refine wst hsn 0 (some 32) (.fieldAddr 30 (.tmp 5) 2) none ?_
 simp only[rgC,seval,J04,J02,WKFC,Nat.zero_add,t5,JpX]
 refine wst hsn 1 (some 33) (.load 25 (.tmp 32)) none ?_
 simp only[rgC,seval,J04,J02,WKFC,rgL,J0n,l5,hA1]
 refine wst hsn 2 (some 34) (.move (.tmp 7)) none ?_
 simp only[rgC,seval,J04,J02,WKFC,t7]
 refine wst hsn 3 (some 35) (.move (.tmp 1)) none ?_
 simp only[rgC,seval,J04,J02,WKFC,t1]
 refine wst hsn 4 (some 36) (.move (.tmp 6)) none ?_
 simp only[rgC,seval,J04,J02,WKFC,t6]
 refine wst hsn 5 (some 37) (.move (.tmp 1)) none ?_
 simp only[rgC,seval,J04,J02,WKFC,t1]
 refine wst hsn 6 (some 38) (.call { callee:=.builtin .len,args:=#[.tmp 37],argTypes:=#[25] }) none ?_
 simp only[rgC,seval,J04,J02,WKFC,rgK,len2]
 refine wst hsn 7 (some 39) (.binOp .rem 3 (.tmp 36) (.tmp 38) 3) none ?_
 simp only[rgC,seval,J04,J02,WKFC,hrem]
 refine wst hsn 8 (some 40) (.indexAddr 25 (.tmp 35) (.tmp 39)) none ?_
 simp only[rgC,seval,J04,J02,WKFC,ea]
 refine wst hsn 9 (some 41) (.load 3 (.tmp 40)) none ?_
 simp only[rgC,seval,J04,J02,WKFC,rgL,J0m,la,hA2]
 refine wst hsn 10 (some 42) (.indexAddr 25 (.tmp 33) (.tmp 34)) none ?_
 simp only[rgC,seval,J04,J02,WKFC,e1]
 refine wst hsn 11 (none) (.store 3 (.tmp 42) (.tmp 41)) none ?_
 simp only[rgC,seval,J04,J02,WKFC,J17,rgS,JcC,hst3]
 refine WKF.done (i:=12) (by kernel_rfl) ?_
 simp only[evC,seval,↓evP,t6,t7,w6,w7]
 exact⟨by omega,t1,t2,t4,t5,by omega,m1,m2,⟨c+1,by omega,rfl⟩,⟨_,by rw[List.length_set];exact hrd,J0b rfl (by omega)⟩,fun j h1 h2=>by
  show (H2.put _ _).get j=_
  rw[J05 (by omega) (Ne.symm h2),m3 j h1 h2]⟩
theorem Jtg {nm:ByteArray} {s:StN} {pv w:Value} {A:List Int} {lo lw:Nat} (hp:J3x lo h pv nm s) (hw:J1S lw h w A) (hl:s.rows.length<90000000) (hfl:h.floor≤h.next) (hn:s.rows.length+20<n) :
  ∃ v' h',J0T n 15 [pv,w] h=some (v',h')∧RndT h s.rows.length v' h':=by
 obtain⟨n,rfl⟩:∃ j,n=j+1:=⟨n-1,by omega⟩
 exact k_ex (J13 ⟨rfl,rfl,rfl⟩) (Jtc (n:=n) (N:=n) hp hw hl hfl (by omega)) fun v' h1 hf _ ht=>by
  obtain⟨rd,id,_,rfl,_⟩:=ht
  cases hf
end
theorem JqD {H:SHeap} {cv:Value} {c:CostN} {lo:Nat} {e p:Int} (hc:Jq4 lo H cv c) (hf:H.floor≤H.next) :
  ∃ H':SHeap × SHeap,J0K Tryz.prog ((H.push (.row [.slice none 0 0,iv 0] 36 false false)).push (.row [iv 0,iv 0] 39 false false)) 36 (.pointer (some ⟨H.next,0,none⟩)) cv=some (H'.1)∧J0K Tryz.prog H'.1 39 (.pointer (some ⟨H.next+1,0,none⟩)) (J2k e p)=some H'.2 ∧
   ldN 2 0 (H'.2.get H.next)=some cv∧ldN 2 0 (H'.2.get (H.next+1))=some (J2k e p)∧H'.2.next=H.next+2∧H'.2.floor=H.floor∧∀ i,i<H.next→H'.2.get i=H.get i:=by
 obtain⟨vo,rfl,ho,_⟩:=hc.ints
 have ga:=J4c (h:=H) (o:=.row [.slice none 0 0,iv 0] 36 false false) (o':=.row [iv 0,iv 0] 39 false false)
 have gb:=J48 (h:=H) (o:=.row [.slice none 0 0,iv 0] 36 false false) (o':=.row [iv 0,iv 0] 39 false false)
 have gold:∀ i,i<H.next→((H.push (.row [.slice none 0 0,iv 0] 36 false false)).push (.row [iv 0,iv 0] 39 false false)).get i=H.get i:=fun i hi=>by rw[J06 (by show i<H.next+1;omega),J06 hi]
 have hnx:((H.push (.row [.slice none 0 0,iv 0] 36 false false)).push (.row [iv 0,iv 0] 39 false false)).next=H.next+2:=rfl
 have hfx:((H.push (.row [.slice none 0 0,iv 0] 36 false false)).push (.row [iv 0,iv 0] 39 false false)).floor=H.floor:=rfl
 generalize (H.push (.row [.slice none 0 0,iv 0] 36 false false)).push (.row [iv 0,iv 0] 39 false false)=G at *
 have a1:=stW (t:=36) szC (vs:=[vo,iv c.miss]) ga rfl rfl (by simp only[List.all_cons,List.all_nil,ho,J5K,Bool.and_self]) (by omega)
 have g3':(G.put H.next (.row [vo,iv c.miss] 36 false false)).get (H.next+1)=.row [iv 0,iv 0] 39 false false:=by rw[J05 (by omega) (by omega)];exact gb
 have a2:=stW (t:=39) sz33 (vs:=[iv e,iv p]) g3' rfl rfl rfl (by show G.floor≤_;omega)
 refine⟨⟨_,_⟩,a1,a2,?_,?_,hnx,hfx,fun i hi=>?_⟩
 ·show ldN 2 0 (((G.put _ _).put _ _).get _)=_
  rw[J05 (by show H.next+1<G.next;omega) (by omega),J0b rfl (by omega)]
  rfl
 ·show ldN 2 0 (((G.put _ _).put _ _).get _)=_
  rw[J0b rfl (by show H.next+1<G.next;omega)]
  rfl
 ·show ((G.put _ _).put _ _).get i=_
  rw[J05 (by show H.next+1<G.next;omega) (by omega),J05 (by omega) (by omega),gold i hi]
section
variable {n:Nat} {h:SHeap}
set_option maxHeartbeats 32000000 in
theorem Jr6 {nm:ByteArray} {s:StN} {W:List (Int × Int × Int)} {G rd:List Int} {pv tv:Value} {lo lt:Nat} (hp:J3x lo h pv nm s) (hty:Jqg lt h tv W G rd) (h64:∀ x∈s.rows,x.kids≤9223372036854775807) (hfl:h.floor≤h.next) (hg:h.get 0=J14) (hn0:0<h.next) (hn:400000<n) :
  ∃ h',J0L Tryz.prog (Jrk n) n 3 [pv,tv] h=some (.bool true,h')∧∀ i,i<h.next→h'.get i=h.get i:=by
 obtain⟨vr,vq,vv,vt,vu,vo,rfl,p1,p2,p3,p4,p5,p6⟩:=id hp
 obtain⟨tw,tg,td,rfl,y1,y2,y3⟩:=id hty
 refine J1N (R:=fun h'=>∀ i,i<h.next→h'.get i=h.get i) Tryz.func3 rfl (by simp[Tryz.f3]) ?_
 have hr:Tryz.f3.results.toList=[.tmp 4]:=rfl
 have ca:(Value.agg #[.string nm,vr,vq,vv,vt,vu,vo,iv s.miss]).cells.toList=[.string nm,vr,vq,vv,vt,vu,vo,iv s.miss]:=rfl
 have zc30:zPol.cells.toList=[.string ByteArray.empty,.slice none 0 0,.slice none 0 0,.slice none 0 0,.slice none 0 0,.slice none 0 0,.slice none 0 0,iv 0]:=rfl
 have zcY:(Value.agg #[.slice none 0 0,.slice none 0 0,.slice none 0 0]).cells.toList=[.slice none 0 0,.slice none 0 0,.slice none 0 0]:=rfl
 have zcC:(cV (.slice none 0 0) 0).cells.toList=[.slice none 0 0,iv 0]:=rfl
 have zc33:(J2k 0 0).cells.toList=[iv 0,iv 0]:=rfl
 have oa:=all8 (nm:=nm) p1 p2 p3 p4 p5 p6
 have cy:(Value.agg #[tw,tg,td]).cells.toList=[tw,tg,td]:=rfl
 have oy:[tw,tg,td].all one=true:=by simp only[List.all_cons,List.all_nil,y1.one,J0p.one y2,J0p.one y3,Bool.and_self]
 have g0:∀ (a b:SObj),let A:=(h.push a).push b
   A.get h.next=a∧A.get (h.next+1)=b∧A.next=h.next+2∧A.floor=h.floor∧∀ i,i<h.next→A.get i=h.get i:=fun a b=>
  ⟨J4c,J48,rfl,rfl,fun i hi=>by rw[J06 (by show i<h.next+1;omega),J06 hi]⟩
 obtain⟨gA,gB,nA,fA,gO⟩:=g0 (.row [.string nm,vr,vq,vv,vt,vu,vo,iv s.miss] 27 false false) (.row [tw,tg,td] 30 false false)
 simp only[evC,seval,↓evP,rpD,J0X,J2t,ca,oa,cy,oy,sz30,szY]
 generalize (h.push (.row [.string nm,vr,vq,vv,vt,vu,vo,iv s.miss] 27 false false)).push (.row [tw,tg,td] 30 false false)=A at *
 have lA:ldN 8 0 (A.get h.next)=some (.agg #[.string nm,vr,vq,vv,vt,vu,vo,iv s.miss]):=J9E gA rfl
 have lB:ldN 3 0 (A.get (h.next+1))=some (.agg #[tw,tg,td]):=by rw[gB];rfl
 have hpA:=hp.mono (h':=A) (by omega) fun i _ hi=>gO i hi
 have htA:=hty.mono (h':=A) (by omega) fun i _ hi=>gO i hi
 obtain⟨b,hfar,hb⟩:=JsE (n:=n) hpA htA (by omega)
 have hfar':=u_k (n:=n) (by decide) hfar
 cases b with
 | true=>
  have hhd:=Jsi (n:=n) (h:=A) (by rw[gO 0 hn0];exact hg)
  simp only[evC,seval,↓evP,hr,J1b,JqF,lA,lB,hfar',hhd]
  exact gO
 | false=>
 obtain⟨⟨b1,b2,b3,b4,b5,b6⟩,b7,b8,b9⟩:=hb rfl
 have hsm:JdC s:=by unfold JdC;omega
 have htot:Jbg s≤66036:=by unfold Jbg;omega
 obtain⟨v1,h1,hlend,⟨o,hL⟩,n1,f1,o1⟩:=Jpq (n:=n) hpA hsm (by omega) (by omega) (by omega) (by omega)
 have hlend':=u_k (n:=n) (by decide) hlend
 have hu:=hL.far
 have hv1:=hL.v
 have hst:=stW (t:=27) sz30 (h:=h1.push (.row [.string ByteArray.empty,.slice none 0 0,.slice none 0 0,.slice none 0 0,.slice none 0 0,.slice none 0 0,.slice none 0 0,iv 0] 27 false false)) (vs:=[.string nm,.slice (some ⟨o 1,0,none⟩) s.rows.length (s.rows.length+9),.slice (some ⟨o 2,0,none⟩) s.queues.length (s.queues.length+3),.slice (some ⟨o 3,0,none⟩) s.vars.length (s.vars.length+3),.slice (some ⟨o 4,0,none⟩) s.tags.length (s.tags.length+3),.slice (some ⟨o 5,0,none⟩) s.rules.length (s.rules.length+3),.slice (some ⟨o 6,0,none⟩) s.on.length (s.on.length+3),iv s.miss]) (J0h (h:=h1)) rfl rfl rfl (by rw[J0i];omega)
 rw[← hv1] at hst
 generalize hcs:[Value.string nm,.slice (some ⟨o 1,0,none⟩) s.rows.length (s.rows.length+9),.slice (some ⟨o 2,0,none⟩) s.queues.length (s.queues.length+3),.slice (some ⟨o 3,0,none⟩) s.vars.length (s.vars.length+3),.slice (some ⟨o 4,0,none⟩) s.tags.length (s.tags.length+3),.slice (some ⟨o 5,0,none⟩) s.rules.length (s.rules.length+3),.slice (some ⟨o 6,0,none⟩) s.on.length (s.on.length+3),iv s.miss]=cs at *
 have gM:((h1.push (.row [.string ByteArray.empty,.slice none 0 0,.slice none 0 0,.slice none 0 0,.slice none 0 0,.slice none 0 0,.slice none 0 0,iv 0] 27 false false)).put h1.next (.row cs 27 false false)).get h1.next=.row cs 27 false false:=J0b rfl (by rw[J1D];omega)
 have o2:∀ i,i<h1.next→((h1.push (.row [.string ByteArray.empty,.slice none 0 0,.slice none 0 0,.slice none 0 0,.slice none 0 0,.slice none 0 0,.slice none 0 0,iv 0] 27 false false)).put h1.next (.row cs 27 false false)).get i=h1.get i:=fun i hi=>by rw[J05 (by rw[J1D];omega) (by omega),J06 hi]
 have n2:((h1.push (.row [.string ByteArray.empty,.slice none 0 0,.slice none 0 0,.slice none 0 0,.slice none 0 0,.slice none 0 0,.slice none 0 0,iv 0] 27 false false)).put h1.next (.row cs 27 false false)).next=h1.next+1:=rfl
 have f2:((h1.push (.row [.string ByteArray.empty,.slice none 0 0,.slice none 0 0,.slice none 0 0,.slice none 0 0,.slice none 0 0,.slice none 0 0,iv 0] 27 false false)).put h1.next (.row cs 27 false false)).floor=h1.floor:=rfl
 have lB2:ldN 3 0 (((h1.push (.row [.string ByteArray.empty,.slice none 0 0,.slice none 0 0,.slice none 0 0,.slice none 0 0,.slice none 0 0,.slice none 0 0,iv 0] 27 false false)).put h1.next (.row cs 27 false false)).get (h.next+1))=some (.agg #[tw,tg,td]):=by rw[o2 _ (by omega),o1 _ (by omega)];exact lB
 simp only[evC,seval,↓evP,J1b,JqF,lA,lB,hfar',hlend',J5F,J3Y,zc30,hst,lB2]
 generalize (h1.push (.row [.string ByteArray.empty,.slice none 0 0,.slice none 0 0,.slice none 0 0,.slice none 0 0,.slice none 0 0,.slice none 0 0,iv 0] 27 false false)).put h1.next (.row cs 27 false false)=H2 at *
 have lM:ldN 8 0 (H2.get h1.next)=some v1:=by rw[hv1,gM];rw[← hcs];rfl
 have hL2:=hL.mono (h':=H2) (by omega) o2
 have oA2:∀ i,i<A.next→H2.get i=A.get i:=fun i hi=>by rw[o2 i (by omega),o1 i hi]
 have ht2:=htA.mono (h':=H2) (by omega) fun i _ hi=>oA2 i hi
 obtain⟨v2,h3,hlt,⟨o',hLt⟩,n3,f3,o3⟩:=Jsd (n:=n) ht2 (by omega) (by omega) (by omega) (by omega) (by omega)
 have hlt':=u_k (n:=n) (by decide) hlt
 have hut:=hLt.far
 have hv2:=hLt.v
 have hst4:=stW (t:=30) szY (h:=h3.push (.row [.slice none 0 0,.slice none 0 0,.slice none 0 0] 30 false false)) (vs:=[.slice (some ⟨o' 1,0,none⟩) W.length (W.length+3),.slice (some ⟨o' 2,0,none⟩) G.length (G.length+3),.slice (some ⟨o' 3,0,none⟩) rd.length (rd.length+3)]) (J0h (h:=h3)) rfl rfl rfl (by rw[J0i];omega)
 rw[← hv2] at hst4
 generalize hcs2:[Value.slice (some ⟨o' 1,0,none⟩) W.length (W.length+3),.slice (some ⟨o' 2,0,none⟩) G.length (G.length+3),.slice (some ⟨o' 3,0,none⟩) rd.length (rd.length+3)]=cs2 at *
 have gN:((h3.push (.row [.slice none 0 0,.slice none 0 0,.slice none 0 0] 30 false false)).put h3.next (.row cs2 30 false false)).get h3.next=.row cs2 30 false false:=J0b rfl (by rw[J1D];omega)
 have o4:∀ i,i<h3.next→((h3.push (.row [.slice none 0 0,.slice none 0 0,.slice none 0 0] 30 false false)).put h3.next (.row cs2 30 false false)).get i=h3.get i:=fun i hi=>by rw[J05 (by rw[J1D];omega) (by omega),J06 hi]
 have n4:((h3.push (.row [.slice none 0 0,.slice none 0 0,.slice none 0 0] 30 false false)).put h3.next (.row cs2 30 false false)).next=h3.next+1:=rfl
 have f4:((h3.push (.row [.slice none 0 0,.slice none 0 0,.slice none 0 0] 30 false false)).put h3.next (.row cs2 30 false false)).floor=h3.floor:=rfl
 simp only[evC,seval,↓evP,JqF,hlt',JrY,Js4,zcY,hst4]
 generalize (h3.push (.row [.slice none 0 0,.slice none 0 0,.slice none 0 0] 30 false false)).put h3.next (.row cs2 30 false false)=H4 at *
 have oH4:∀ i,i<H2.next→H4.get i=H2.get i:=fun i hi=>by rw[o4 i (by omega),o3 i hi]
 have lN:ldN 3 0 (H4.get h3.next)=some v2:=by rw[hv2,gN];rw[← hcs2];rfl
 have lM4:ldN 8 0 (H4.get h1.next)=some v1:=by rw[oH4 _ (by omega)];exact lM
 have hL4:=hL2.mono (h':=H4) (by omega) oH4
 have hLt4:=hLt.mono (h':=H4) (by omega) fun i _ hi=>o4 i hi
 obtain⟨w5,h5,hc5,cv,rfl,hcv,f5,n5,o5⟩:=JsG (n:=n) hL4.pol hL4.lies hLt4.typ hsm (by omega) (by omega) (by omega) (by rw[oH4 0 (by omega),oA2 0 (by omega),gO 0 hn0];exact hg) (by omega) (by omega)
 have hc5':=u_k (n:=n) (by decide) hc5
 obtain⟨⟨ha6,h6⟩,s1,s2,la1,la2,n6,f6,o6⟩:=JqD (e:=(JpV nm s rd).1.1) (p:=(JpV nm s rd).1.2) hcv (by omega)
 simp only at s1 s2 la1 la2 n6 f6 o6
 have oA6:∀ i,i<A.next→h6.get i=A.get i:=fun i hi=>by rw[o6 i (by omega),o5 i (by omega),oH4 i (by omega),oA2 i hi]
 have lA6:ldN 8 0 (h6.get h.next)=some (.agg #[.string nm,vr,vq,vv,vt,vu,vo,iv s.miss]):=by rw[oA6 _ (by omega)];exact lA
 have lB6:ldN 3 0 (h6.get (h.next+1))=some (.agg #[tw,tg,td]):=by rw[oA6 _ (by omega)];exact lB
 obtain⟨w7,h7,hc7,dv,rfl,hdv,f7,n7,o7⟩:=Jss (n:=n) (hpA.mono (h':=h6) (by omega) fun i _ hi=>oA6 i hi) h64 (htA.mono (h':=h6) (by omega) fun i _ hi=>oA6 i hi) hsm (by omega) (by omega) (by omega) (by omega)
 have hc7':=u_k (n:=n) (by decide) hc7
 obtain⟨⟨ha8,h8⟩,s3,s4,lb1,lb2,n8,f8,o8⟩:=JqD (e:=(JpV nm s rd).1.1) (p:=(JpV nm s rd).1.2) hdv (by omega)
 simp only at s3 s4 lb1 lb2 n8 f8 o8
 have oH8:∀ i,i<h5.next→h8.get i=h5.get i:=fun i hi=>by rw[o8 i (by omega),o7 i (by omega),o6 i hi]
 have o48:∀ i,i<H4.next→h8.get i=H4.get i:=fun i hi=>by rw[oH8 i (by omega),o5 i hi]
 have oA8:∀ i,i<A.next→h8.get i=A.get i:=fun i hi=>by rw[o48 i (by omega),oH4 i (by omega),oA2 i hi]
 have hL8:=hL4.mono (h':=h8) (by omega) o48
 obtain⟨h9,hk9,n9,f9,o9⟩:=Jre (n:=n) hL8 hpA (Nat.le_refl _) oA8 (by omega) hsm (by omega) (by omega) (by omega)
 have hk9':=u_k (n:=n) (by decide) hk9
 have far9:∀ i,i<h8.next→(i<A.next∨h1.next≤i)→h9.get i=h8.get i:=fun i hi hc=>o9 i hi fun j j1 j2=>by
  have hc2:j=1∨j=2∨j=3∨j=4∨j=5∨j=6:=by omega
  rcases hc2 with rfl | rfl | rfl | rfl | rfl | rfl <;> omega
 have hLt9:=hLt4.mono (h':=h9) (by omega) fun i h1 h2=>by rw[far9 i (by omega) (by omega),o48 i h2]
 have oA9:∀ i,i<A.next→h9.get i=A.get i:=fun i hi=>by rw[far9 i (by omega) (.inl hi),oA8 i hi]
 obtain⟨h10,hk10,n10,f10,o10⟩:=JrV (n:=n) (h0:=A) hLt9 htA (by omega) oA9 (by omega) (by omega) (by omega) (by omega) (by omega)
 have hk10':=u_k (n:=n) (by decide) hk10
 have far10:∀ i,i<h8.next→(i<A.next∨(h1.next≤i∧i<H2.next)∨h3.next≤i)→h10.get i=h8.get i:=fun i hi hc=>by rw[o10 i (by omega) (by omega) (by omega) (by omega),far9 i hi (by omega)]
 have lM8:ldN 8 0 (h8.get h1.next)=some v1:=by rw[o48 _ (by omega)];exact lM4
 have lA8:ldN 8 0 (h8.get h.next)=some (.agg #[.string nm,vr,vq,vv,vt,vu,vo,iv s.miss]):=by rw[oA8 _ (by omega)];exact lA
 have lN9:ldN 3 0 (h9.get h3.next)=some v2:=by rw[far9 _ (by omega) (by omega),o48 _ (by omega)];exact lN
 have lB9:ldN 3 0 (h9.get (h.next+1))=some (.agg #[tw,tg,td]):=by rw[oA9 _ (by omega)];exact lB
 have q1:ldN 2 0 (h10.get (h5.next+1))=some (J2k (JpV nm s rd).1.1 (JpV nm s rd).1.2):=by rw[far10 _ (by omega) (by omega),o8 _ (by omega),o7 _ (by omega)];exact la2
 have q2:ldN 2 0 (h10.get (h7.next+1))=some (J2k (JpV nm s rd).1.1 (JpV nm s rd).1.2):=by rw[far10 _ (by omega) (by omega)];exact lb2
 have q3:ldN 2 0 (h10.get h5.next)=some cv:=by rw[far10 _ (by omega) (by omega),o8 _ (by omega),o7 _ (by omega)];exact la1
 have q4:ldN 2 0 (h10.get h7.next)=some dv:=by rw[far10 _ (by omega) (by omega)];exact lb1
 have hcl:(JpV nm s rd).2.on.length<100000:=by
  unfold JpV
  split
  ·show (0:Nat)<_;omega
  ·split
   ·show (0:Nat)<_;omega
   ·rcases JqW (R:=s.rows) (V:=valA s.rows (endN (Jk8 s.rows)) rd (JpZ s.rows (endN (Jk8 s.rows)) rd s.rules [])) s.rows.length 0 ⟨List.replicate s.queues.length 0,0⟩ with h9 | h9
    ·rw[h9];show (List.replicate s.queues.length (0:Int)).length<_;rw[List.length_replicate];omega
    ·rw[h9];show (0:Nat)<_;omega
 have hsame:=Js6 (n:=n) (h:=h10) (hcv.mono (h':=h10) (by omega) fun i h1 h2=>by rw[far10 i (by omega) (by omega),oH8 i h2]) (hdv.mono (h':=h10) (by omega) fun i h1 h2=>by rw[far10 i (by omega) (by omega),o8 i h2]) hcl (by omega)
 rw[decide_eq_true ⟨rfl,rfl⟩] at hsame
 have hsame':=u_k (n:=n) (by decide) hsame
 have hhd:=Jsi (n:=n) (h:=h10) (by rw[far10 0 (by omega) (by omega),oA8 0 (by omega),gO 0 hn0];exact hg)
 simp only[evC,seval,↓evP,hr,J1b,JqF,JqN,J2n,lM4,lN,hc5',JqY,JqV,zcC,J3C,J1t,zc33,J1D,s1,s2,lA6,lB6,hc7',s3,s4,lM8,lA8,hk9',lN9,lB9,hk10',q1,q2,eq33,BEq.rfl,Bool.and_self,if_true,q3,q4,hsame',hhd]
 exact fun i hi=>by rw[far10 i (by omega) (by omega),oA8 i (by omega),gO i hi]
end
theorem Jtf {l:List RowN} {s:StN} (hi:InvR l l.length s):Jkk s.rows l:=by
 refine⟨hi.len,fun i x hx=>?_⟩
 have hl:=(List.getElem?_eq_some_iff.1 hx).1
 obtain⟨y,hy⟩:∃ y,s.rows[i]?=some y:=⟨_,List.getElem?_eq_getElem (by rw[hi.len];exact hl)⟩
 obtain⟨z,hz,he⟩:=hi.same i y hy
 rw[hx] at hz
 cases hz
 exact⟨y,hy,by rw[he]⟩
noncomputable def Jtd (n:Nat):J0r:=orS (J70 [3] (J8V (J0L Tryz.prog (Jrk n) n))) (Jrk n)
theorem Jtb (n:Nat):J1x Tryz.prog (Jtd n)∧J1G (Jtd n):=
 Jav (Jaz (JaL (J6m J2f (Jrb n).1 (Jrb n).2 n).1)) (Jrb n)
section
variable {n:Nat} {f:FuncId} {args:List Value} {h:SHeap} {r:Value × SHeap}
theorem v_u (hf:[3].contains f=false) (hb:Jrk n f args h=some r):Jtd n f args h=some r:=by
 unfold Jtd orS J70
 rw[hf]
 exact hb
theorem Jtn {v:Value} (hv:J3m v=true) (hw:∃ h1,J0L Tryz.prog (Jrk n) n 3 args h=some (v,h1)∧∀ i,i<h.next→h1.get i=h.get i):Jtd n 3 args h=some (v,h):=by
 obtain⟨h1,h2,h3⟩:=hw
 refine Ja4 ?_
 unfold J70
 have e:[3].contains 3=true:=by decide
 rw[e]
 exact Ja6 h2 hv h3
end
noncomputable def Jtm:Array Oper:=J18 Tryz.f4 6
def fsTr:List (Bool × Bool × List Operand):=[(true,true,[]),(false,true,[.tmp 5]),(false,true,[.tmp 5,.tmp 5]),(false,true,[.tmp 5]),(false,false,[]),(false,false,[])]
theorem Jtj:J1E Jtm=fsTr:=by kernel_rfl
section
variable {n:Nat} {h:SHeap}
set_option maxHeartbeats 32000000 in
theorem Jte {l:List RowN} {v w:Value} {A:List Int} {lw:Nat} (hv:J0l h v l) (hw:J1S lw h w A) (h64:∀ x∈l,x.kids≤9223372036854775807) (hfl:h.floor≤h.next) (hg:h.get 0=J14) (hn0:0<h.next) (hn:400000<n) :
  ∃ h',J0L Tryz.prog (Jtd n) n 4 [v,w] h=some (.bool true,h')∧True:=by
 have hsn:=(Jtb n).2
 refine J1N (R:=fun _=>True) Tryz.func4 rfl (by simp[Tryz.f4]) ?_
 have hr:Tryz.f4.results.toList=[.tmp 4]:=rfl
 have lenv:∀ h':SHeap,lenS Tryz.prog h' 22 v=some (iv (l.length:Int)):=fun h'=>hv.len
 cases d:decide ((l.length:Int)>65536) with
 | true=>
  have hhd:=v_u (n:=n) (by decide) (Jsi (n:=n) hg)
  simp only[evC,seval,↓evP,hr,lenv,d,hhd]
 | false=>
 have hl:l.length≤65536:=by
  have:=of_decide_eq_false d
  omega
 obtain⟨v2,h2,hres,pv,rfl,hp,f2,n2,o2⟩:=Jij (n:=n) (h:=h) (by omega) hv (by omega) h64 (by omega)
 have hres':=v_u (n:=n) (by decide) (u_k (n:=n) (by decide) hres)
 obtain⟨nm,s,hout⟩:∃ nm s,outN l=(nm,s):=⟨_,_,rfl⟩
 rw[hout] at hp
 simp only at hp
 obtain⟨vr,vq,vv,vt,vu,vo,rfl,p1,p2,p3,p4,p5,p6⟩:=hp
 have oa:=all8 (nm:=nm) p1 p2 p3 p4 p5 p6
 obtain⟨⟨hc,h3⟩,s1,s2,rO,n3,f3,o3⟩:=Jlt (H:=h2) (cs:=[.string nm,vr,vq,vv,vt,vu,vo,iv s.miss]) (e:=(resN l).1.1) (p:=(resN l).1.2) rfl oa (by omega)
 simp only at s1 s2 rO n3 f3 o3
 have lF:ld1 0 (h3.get (h2.next+1))=some (iv (resN l).1.1):=by rw[rO.2];rfl
 have zc30:zPol.cells.toList=[.string ByteArray.empty,.slice none 0 0,.slice none 0 0,.slice none 0 0,.slice none 0 0,.slice none 0 0,.slice none 0 0,iv 0]:=rfl
 have zc33:(J2k 0 0).cells.toList=[iv 0,iv 0]:=rfl
 have hg3:h3.get 0=J14:=by rw[o3 0 (by omega),o2 0 (by omega)];exact hg
 simp only[evC,seval,↓evP,lenv,d,hres',J5F,J3Y,zc30,J3C,J1t,zc33,J1D,s1,s2,Nat.zero_add,J6a,J7G,lF]
 cases d0:((resN l).1.1 != 0) with
 | true=>
  have hhd:=v_u (n:=n) (by decide) (Jsi (n:=n) (h:=h3) hg3)
  simp only[evC,seval,↓evP,hr,hhd]
 | false=>
 have hok:(resN l).1.1=0:=by simpa using d0
 have hgood:=hout.symm.trans (JeO hok)
 obtain⟨rfl,rfl⟩:nm=J52 l∧s=(resN l).2:=by cases hgood;exact⟨rfl,rfl⟩
 obtain⟨_,_,_,_,_,hi⟩:=JhO hok
 have hlen:=hi.len
 have hkid:=Jtf hi
 generalize hs:(resN l).2=s at *
 have k64:∀ x∈s.rows,x.kids≤9223372036854775807:=fun x hx=>by
  obtain⟨i,hix⟩:=List.getElem?_of_mem hx
  have hil:=(List.getElem?_eq_some_iff.1 hix).1
  have hy:=List.getElem?_eq_getElem (show i<l.length by omega)
  obtain⟨y,h1,h2⟩:=hkid.2 i _ hy
  rw[hix] at h1
  cases h1
  rw[h2]
  exact h64 _ (List.getElem_mem _)
 have hp3:J3x h.next h3 (.agg #[.string (J52 l),vr,vq,vv,vt,vu,vo,iv s.miss]) (J52 l) s:=J3x.mono (h:=h2) ⟨vr,vq,vv,vt,vu,vo,rfl,p1,p2,p3,p4,p5,p6⟩ (by omega) fun i _ hi=>o3 i hi
 have lP3:ldN 8 0 (h3.get h2.next)=some (.agg #[.string (J52 l),vr,vq,vv,vt,vu,vo,iv s.miss]):=J9E rO.1 rfl
 have hw3:J1S lw (h3.fl (max h3.floor h3.next)) w A:=J1S.mono hw (by rw[J0J];omega) fun j _ hj=>by rw[J1g,o3 j (by omega),o2 j hj]
 obtain⟨vy,h4,hrn,rd,id,hrd,rfl,hty,f4,n4,o4⟩:=Jtg (n:=n) (h:=h3.fl (max h3.floor h3.next)) (hp3.mono (h':=h3.fl (max h3.floor h3.next)) (by rw[J0J];exact Nat.le_refl _) fun j _ _=>by rw[J1g]) hw3 (by omega) (by rw[J0J,JiM];omega) (by omega)
 have hrn':=v_u (n:=n) (by decide) (u_k (n:=n) (by decide) hrn)
 have hA:(h2.next<h3.next)=True:=by simp;omega
 rw[J0J] at n4 o4 hty
 rw[JiM] at f4
 have hlaw:∀ F,F≤h4.next→Jtd n 3 [.agg #[.string (J52 l),vr,vq,vv,vt,vu,vo,iv s.miss],.agg #[.slice none 0 0,.slice none 0 0,.slice (some ⟨id,0,none⟩) s.rows.length s.rows.length]] (h4.fl F)=some (.bool true,h4.fl F):=fun F hF=>
  Jtn rfl (Jr6 (n:=n) (h:=h4.fl F) (hp3.mono (h':=h4.fl F) (by rw[J0J];exact n4) fun j _ hj=>by rw[J1g,o4 j hj,J1g]) (hty.mono (h':=h4.fl F) (by rw[J0J];exact Nat.le_refl _) fun j _ _=>J1g) k64 (by rw[JiM,J0J];exact hF) (by rw[J1g,o4 0 (by omega),J1g];exact hg3) (by rw[J0J];omega) hn)
 have hlaw3:=hlaw h3.floor (by omega)
 simp only[evC,seval,↓evP]
 refine WK.flags (ops:=Jtm) Jtj ?_
 refine WKF.begin ?_
 refine wst hsn 0 (some 20) (.load 27 (.tmp 5)) none ?_
 simp only[rgC,seval,J04,J02,WKFC,rgL,JcC,J1b,lP3,hA]
 refine wst hsn 1 (some 21) (.load 27 (.tmp 5)) none ?_
 simp only[rgC,seval,J04,J02,WKFC,rgL,J1b,lP3,hA]
 refine wst hsn 2 (some 22) (.move (.tmp 1)) none ?_
 simp only[rgC,seval,J04,J02,WKFC,Tr.get_set]
 refine wst hsn 3 (some 23) (.call { callee:=.value (.func 15),args:=#[.tmp 21,.tmp 22],argTypes:=#[27,25] }) none ?_
 simp only[rgC,seval,J04,J02,WKFC,rgK,hrn']
 refine wst hsn 4 (some 24) (.call { callee:=.value (.func 3),args:=#[.tmp 20,.tmp 23],argTypes:=#[27,30] }) none ?_
 simp only[rgC,seval,J04,J02,WKFC,rgK,hlaw3,JiM,Jk2]
 refine wst hsn 5 (some 4) (.assign (.tmp 24)) none ?_
 simp only[rgC,seval,J04,J02,WKFC,JiM,Jk2]
 refine WKF.done (i:=6) (by kernel_rfl) ?_
 simp only[evC,seval,↓evP,hr]
end
end Go.Proofs.YtipekdhneagdbaaGreatDoor
