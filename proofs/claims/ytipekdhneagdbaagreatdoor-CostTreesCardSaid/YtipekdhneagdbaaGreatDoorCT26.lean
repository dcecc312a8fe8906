/- Part 26 of what the claim leans on: 1 texts laid one behind another. -/
import Derived.Test.YtipekdhneagdbaaGreatDoorCT25
namespace Go.Proofs.YtipekdhneagdbaaGreatDoor
open Go Go.Sx Go.ChangeShapes Go.WideShapes Go.ChangeAt Go.RowKit
set_option maxRecDepth 100000
set_option linter.unusedSimpArgs false
set_option linter.unusedVariables false
section
variable {α:Type} {cells:α→List Value} {w:Nat} {l:List α}
theorem Jsf (hcl:∀ x,(cells x).length=w):(l.flatMap cells).length=l.length*w:=by
 induction l with
 | nil=>simp
 | cons x l ih=>
  rw[List.flatMap_cons,List.length_append,ih,hcl,List.length_cons,Nat.succ_mul]
  omega
theorem JrF (hcl:∀ x,(cells x).length=w):∀ {l:List α} {i j:Nat} {x:α},l[i]?=some x→j<w→(l.flatMap cells)[i*w+j]?=(cells x)[j]?
 | [],i,j,x,h,_=>by simp at h
 | y :: l,0,j,x,h,hj=>by
  cases h
  rw[List.flatMap_cons,Nat.zero_mul,Nat.zero_add,List.getElem?_append_left (by rw[hcl];exact hj)]
 | y :: l,i+1,j,x,h,hj=>by
  have h':l[i]?=some x:=h
  rw[List.flatMap_cons,List.getElem?_append_right (by rw[hcl,Nat.succ_mul];omega),hcl,← JrF hcl h' hj]
  congr 1
  rw[Nat.succ_mul]
  omega
end
def Jq8 (W:World) (v:Value) (n w:Nat) (cs:List Value):Prop:=cs.length=n*w∧((n=0∧v=.slice none 0 0) ∨
 ∃ b off cap CS ty fr,v=.slice (some ⟨b,off,none⟩) n cap∧n≤cap∧cap<unk∧W.heap[b]?=some (.cells CS ty fr)∧∀ k,k<n*w→CS[off+k]?=cs[k]?)
section
variable {H:Type} {enc:TypeId × Value→H} {W:World} {base b0:Nat} {sp:Nat→Bool} {hd:Bool}
theorem Jq2 {α:Type} {cells:α→List Value} {Q:α→Prop} {w:Nat} {t e:TypeId} (ht:Tryz.prog.underlying t=some (.slice e)) (hw:Tryz.prog.cellsOf e=w)
  (hopen:∀ n cs y,DataW.trod enc Tryz.prog W base sp hd n e cs=some y→∃ x,cs=cells x∧Q x) (hcl:∀ x,(cells x).length=w) (hw0:0<w)
  {v:Value} {n:Nat} {y:DataW H × List MemPlace} (hval:Cell.okWide Tryz.prog W .any b0 t v) (h:DataW.trod enc Tryz.prog W base sp hd n t [v]=some y):∃ l:List α,(∀ x∈l,Q x)∧Jq8 W v l.length w (l.flatMap cells):=by
 rcases DataW.trod_slice ht h with⟨h1,h2⟩ | ⟨a',len,cap,elems,rest,n',_,h1,_,hb,hl,hm,hlen,hel,_⟩
 ·cases h1
  exact⟨[],fun x hx=>(by cases hx),by simp,.inl ⟨rfl,rfl⟩⟩
 ·cases h1
  simp only[Cell.okWide,ht,Cell.ok] at hval
  obtain⟨_,_,_,hsp,row,cells',hsh,_⟩:=hval
  obtain⟨b,off,spot⟩:=a'
  simp only at hsp
  subst hsp
  have hblk:∃ CS ty fr,W.heap[b]?=some (.cells CS ty fr):=by
   simp only[World.shape?] at hsh
   split at hsh
   ·rename_i CS ty fr hh;exact⟨_,_,_,hh⟩
   ·cases hsh
  obtain⟨CS,ty,fr,hblk⟩:=hblk
  have each:∀ i,i<len→∃ x:α,Q x∧∀ j,j<w→CS[off+(i*w+j)]?=(cells x)[j]?:=fun i hi=>by
   have:=hel i hi
   obtain⟨y,hy⟩:∃ y,elems[i]?=some y:=⟨_,List.getElem?_eq_getElem (by omega)⟩
   rw[hy,J9W,hw,Option.bind_eq_some_iff] at this
   obtain⟨cs,hcs,ht⟩:=this
   obtain⟨x,rfl,hx⟩:=hopen _ _ _ ht
   obtain⟨_,hc⟩:=Jen hcs
   refine⟨x,hx,fun j hj=>?_⟩
   rw[← hc j hj,← Nat.add_assoc]
   simp only[World.cell?,hblk,Option.isSome_none,Bool.false_eq_true,if_false]
  obtain⟨l,hll,hl1⟩:∃ l:List α,l.length=len∧∀ i x,l[i]?=some x→Q x∧∀ j,j<w→CS[off+(i*w+j)]?=(cells x)[j]?:=by
   have : ∀ m,m≤len→∃ l:List α,l.length=m∧∀ i x,l[i]?=some x→Q x∧∀ j,j<w→CS[off+(i*w+j)]?=(cells x)[j]?:=by
    intro m
    induction m with
    | zero=>exact fun _=>⟨[],rfl,fun i x h=>by simp at h⟩
    | succ m ih=>
     intro hm
     obtain⟨l,h1,h2⟩:=ih (by omega)
     obtain⟨x,hx⟩:=each m (by omega)
     refine⟨l++[x],by simp[h1],fun i y hy=>?_⟩
     rcases Nat.lt_or_ge i l.length with h3 | h3
     ·rw[List.getElem?_append_left h3] at hy
      exact h2 i y hy
     ·rw[List.getElem?_append_right h3] at hy
      have:i-l.length=0:=by
       rcases Nat.eq_zero_or_pos (i-l.length) with h4 | h4
       ·exact h4
       ·rw[List.getElem?_eq_none (by simp;omega)] at hy
        cases hy
      rw[this] at hy
      cases hy
      have:i=m:=by omega
      subst this
      exact hx
   exact this len (Nat.le_refl _)
  unfold maxLen at hm
  refine⟨l,fun x hx=>?_,Jsf hcl,.inr ⟨b,off,cap,CS,ty,fr,by rw[hll],by omega,by unfold unk;omega,hblk,fun k hk=>?_⟩⟩
  ·obtain⟨i,hi⟩:=List.getElem?_of_mem hx
   exact(hl1 i x hi).1
  ·have hdm:=Nat.div_add_mod k w
   rw[Nat.mul_comm] at hdm
   have hj:=Nat.mod_lt k hw0
   have hi:k/w<l.length:=(Nat.div_lt_iff_lt_mul hw0).2 hk
   have hx:=List.getElem?_eq_getElem hi
   rw[← hdm,(hl1 _ _ hx).2 _ hj,JrF hcl hx hj]
end
structure Piece where
 v:Value
 n:Nat
 w:Nat
 cs:List Value
 ty:TypeId
noncomputable def JpW:SHeap→List Piece→SHeap
 | h,[]=>h
 | h,p :: ps=>JpW (h.push (.row p.cs p.ty false true)) ps
theorem Jqb:∀ (ps:List Piece) (h:SHeap),(JpW h ps).next=h.next+ps.length∧(JpW h ps).floor=h.floor∧∀ i,i<h.next→(JpW h ps).get i=h.get i
 | [],h=>⟨rfl,rfl,fun _ _=>rfl⟩
 | p :: ps,h=>by
  obtain⟨h1,h2,h3⟩:=Jqb ps (h.push (.row p.cs p.ty false true))
  rw[J1D] at h1 h3
  refine⟨by show (JpW _ ps).next=_;rw[h1,List.length_cons];omega,h2,fun i hi=>?_⟩
  show (JpW _ ps).get i=_
  rw[h3 i (by omega),J06 hi]
theorem Jqm:∀ {ps:List Piece} {h:SHeap} {i:Nat} {p:Piece},ps[i]?=some p→(JpW h ps).get (h.next+i)=.row p.cs p.ty false true
 | [],h,i,p,hp=>by simp at hp
 | q :: ps,h,0,p,hp=>by
  cases hp
  show (JpW _ ps).get h.next=_
  rw[(Jqb ps _).2.2 _ (by rw[J1D];omega),J0h]
 | q :: ps,h,i+1,p,hp=>by
  have:=Jqm (ps:=ps) (h:=h.push (.row q.cs q.ty false true)) (i:=i) (p:=p) hp
  rw[J1D] at this
  show (JpW _ ps).get (h.next+(i+1))=_
  rw[← this]
  congr 1
  omega
def locP (p:Piece):Go.Sx.Loc:=match p.v with
 | .slice (some a) _ _=>⟨a.block,a.off,0,0⟩
 | _=>⟨0,0,0,0⟩
def mapL (ps:List Piece):Map:=fun i=>if i=0 then some ⟨0,0,0,0⟩ else (ps[i-1]?).map locP
def svP (i:Nat) (p:Piece):Value:=match p.v with
 | .slice (some _) n c=>.slice (some ⟨i,0,none⟩) n c
 | v=>v
theorem JqG {ps:List Piece} {i:Nat} {p:Piece} (h:ps[i]?=some p):mapL ps (i+1)=some (locP p):=by
 unfold mapL
 rw[if_neg (by omega),Nat.add_sub_cancel,h]
 rfl
theorem relL {W : World} (h : laidMetH Tryz.prog [("winnow/lex.words", Rows.laid_winnow_lex_words)] W) {ps : List Piece} (hps : ∀ p ∈ ps, Jq8 W p.v p.n p.w p.cs ∧ ∀ v ∈ p.cs, J1i v = true) :
  Rel Tryz.prog (mapL ps) (JpW Jfv ps) W∧(∀ i,¬ wr ((JpW Jfv ps).get i))∧(JpW Jfv ps).next=ps.length+1∧(JpW Jfv ps).floor=0∧(JpW Jfv ps).get 0=J14 ∧
   ∀ (i:Nat) p,ps[i]?=some p→vrel (mapL ps) (svP (i+1) p) p.v∧J0p 0 (JpW Jfv ps) (svP (i+1) p) p.n p.w p.cs:=by
 obtain⟨hn,hf,ho⟩:=Jqb ps Jfv
 have h01:Jfv.next=1:=rfl
 rw[h01] at hn ho
 obtain⟨CS0,ty0,fr0,hb0,hcs0⟩:=J5Q (zs:=J2D) (rest:=[]) JfI J7e Tryz.underlying130 Tryz.underlying9 JfP J7w h
 have hget:∀ (i:Nat) p,ps[i]?=some p→(JpW Jfv ps).get (i+1)=.row p.cs p.ty false true:=fun i p hp=>by
  have:=Jqm (h:=Jfv) hp
  rw[h01,Nat.add_comm] at this
  exact this
 have hro:=Jcz (P:=Tryz.prog) (W:=W) (ρ:=mapL ps) (h:=JpW Jfv ps) rfl (fun i hi=>by
   unfold mapL
   rw[if_neg (by omega),List.getElem?_eq_none (by omega)]
   rfl) (fun g hg=>by
   rw[Jg1] at hg
   obtain rfl:g=0:=by omega
   exact⟨_,rfl,rfl,rfl⟩) (fun i hi=>by
   rw[hn] at hi
   cases i with
   | zero=>
    refine⟨J5v,9,false,⟨0,0,0,0⟩,CS0,ty0,fr0,(ho 0 (by omega)).trans rfl,rfl,hb0,fun k v hv=>⟨v,?_,?_⟩⟩
    ·have:CS0.toList[k]?=some v:=by rw[hcs0];exact hv
     simpa using this
    ·have hm:v∈J5v:=List.mem_of_getElem? hv
     obtain⟨z,_,rfl⟩:=List.mem_map.1 hm
     exact .flat rfl
   | succ i=>
    obtain⟨p,hp⟩:∃ p,ps[i]?=some p:=⟨_,List.getElem?_eq_getElem (by omega)⟩
    obtain⟨⟨hl,hor⟩,hfl⟩:=hps p (List.mem_of_getElem? hp)
    rcases hor with⟨h0,hv⟩ | ⟨b,off,cap,CS,ty,fr,hv,h1,h2,h3,h4⟩
    ·refine⟨p.cs,p.ty,false,locP p,CS0,ty0,fr0,hget i p hp,JqG hp,by unfold locP;rw[hv];exact hb0,fun k v hk=>?_⟩
     have:=(List.getElem?_eq_some_iff.1 hk).1
     rw[hl,h0,Nat.zero_mul] at this
     omega
    ·refine⟨p.cs,p.ty,false,locP p,CS,ty,fr,hget i p hp,JqG hp,by unfold locP;rw[hv];exact h3,fun k v hk=>⟨v,?_,.flat (hfl v (List.mem_of_getElem? hk))⟩⟩
     have hkl:=(List.getElem?_eq_some_iff.1 hk).1
     have e:(locP p).d=off:=by unfold locP;rw[hv]
     rw[e,h4 k (by omega)]
     exact hk)
 refine⟨hro.1,hro.2,by omega,hf,(ho 0 (by omega)).trans rfl,fun i p hp=>?_⟩
 obtain⟨⟨hl,hor⟩,hfl⟩:=hps p (List.mem_of_getElem? hp)
 have hil:=(List.getElem?_eq_some_iff.1 hp).1
 rcases hor with⟨h0,hv⟩ | ⟨b,off,cap,CS,ty,fr,hv,h1,h2,h3,h4⟩
 ·have e:svP (i+1) p=.slice none 0 0:=by unfold svP;rw[hv]
  have ecs:p.cs=[]:=List.length_eq_zero_iff.1 (by rw[hl,h0,Nat.zero_mul])
  rw[e,hv,ecs,h0]
  exact⟨.flat rfl,J0p.nil _ _ _⟩
 ·have e:svP (i+1) p=.slice (some ⟨i+1,0,none⟩) p.n cap:=by unfold svP;rw[hv]
  have eL:locP p=⟨b,off,0,0⟩:=by unfold locP;rw[hv]
  rw[e]
  refine⟨?_,J0p.rowR (ex:=[]) (by rw[List.append_nil];exact hget i p hp) ⟨Nat.zero_le _,by omega⟩ hl fun h=>absurd h (Nat.lt_irrefl 0)⟩
  rw[hv]
  exact vrel.slice (L:=⟨b,off,0,0⟩) (by rw[JqG hp,eL]) h2
theorem Jqu (l:List Int):l.flatMap (fun x=>[iv x])=ints l:=by
 induction l with
 | nil=>rfl
 | cons x l ih=>rw[List.flatMap_cons,ih];rfl
section
variable {H:Type} {enc:TypeId × Value→H} {W:World} {base b0:Nat} {sp:Nat→Bool} {hd:Bool}
theorem Jqd {n:Nat} {cs:List Value} {y:DataW H × List MemPlace} (h:DataW.trod enc Tryz.prog W base sp hd n 3 cs=some y):∃ x:Int,cs=[iv x]∧(-9223372036854775808≤x∧x≤9223372036854775807):=by
 obtain⟨a,ha,_,wa⟩:=DataW.trod_int Tryz.underlying3 h
 exact⟨a,ha,bounds_i64 wa⟩
end
section
variable {H:Type} {enc:TypeId × Value→H} {W:World} {base b0:Nat} {sp:Nat→Bool} {hd:Bool} {v:Value} {d:DataW H} {p:List MemPlace}
theorem Jt1 (hval:Value.okWide Tryz.prog W .any b0 22 v) (h:DataW.Trod enc Tryz.prog W base sp hd 22 v d p):∃ l:List RowN,(∀ x∈l,Jd7 x)∧Jq8 W v l.length 5 (l.flatMap J0e):=by
 obtain⟨a,len,cap,rfl⟩:=okWide_slice Tryz.underlying22 hval
 obtain⟨fuel,hf⟩:=h
 have hc:Cell.okWide Tryz.prog W .any b0 22 (.slice a len cap):=by simpa only[Value.okWide,Tryz.underlying22] using hval
 exact Jq2 Tryz.underlying22 J9Y (fun n cs y h=>JcH h) (fun _=>rfl) (by decide) hc hf
theorem Jt0 (hval:Value.okWide Tryz.prog W .any b0 25 v) (h:DataW.Trod enc Tryz.prog W base sp hd 25 v d p):∃ l:List Int,Jq8 W v l.length 1 (ints l):=by
 obtain⟨a,len,cap,rfl⟩:=okWide_slice Tryz.underlying25 hval
 obtain⟨fuel,hf⟩:=h
 have hc:Cell.okWide Tryz.prog W .any b0 25 (.slice a len cap):=by simpa only[Value.okWide,Tryz.underlying25] using hval
 obtain⟨l,_,hl⟩:=Jq2 (cells:=fun x:Int=>[iv x]) Tryz.underlying25 Jag (fun n cs y h=>Jqd h) (fun _=>rfl) (by decide) hc hf
 rw[Jqu] at hl
 exact⟨l,hl⟩
end
theorem Jta {W : World} (h : laidMetH Tryz.prog [("winnow/lex.words", Rows.laid_winnow_lex_words)] W) {v w : Value} {l : List RowN} {A : List Int} (hv : Jq8 W v l.length 5 (l.flatMap J0e)) (hw : Jq8 W w A.length 1 (ints A)) :
  ∃ hp ρ sv sw,Rel Tryz.prog ρ hp W∧(∀ i,¬ wr (hp.get i))∧vrel ρ sv v∧vrel ρ sw w∧J0l hp sv l∧J1S 0 hp sw A∧hp.floor=0∧hp.get 0=J14∧0<hp.next:=by
 have hR:=relL h (ps:=[⟨v,_,_,_,51⟩,⟨w,_,_,_,3⟩]) (fun p hp=>by
  simp only[List.mem_cons,List.not_mem_nil,or_false] at hp
  rcases hp with rfl | rfl
  ·refine⟨hv,fun v hv=>?_⟩
   obtain⟨x,_,hx⟩:=List.mem_flatMap.1 hv
   obtain⟨j,hj⟩:=List.getElem?_of_mem hx
   exact J7Q hj
  ·refine⟨hw,fun v hv=>?_⟩
   obtain⟨x,_,rfl⟩:=List.mem_map.1 hv
   rfl)
 obtain⟨r1,r2,r3,r4,r5,r6⟩:=hR
 obtain⟨a0,b0⟩:=r6 0 _ rfl
 obtain⟨a1,b1⟩:=r6 1 _ rfl
 exact⟨_,_,_,_,r1,r2,a0,a1,(J3P.of b0).1,b1,r4,r5,by omega⟩
end Go.Proofs.YtipekdhneagdbaaGreatDoor
