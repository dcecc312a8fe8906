/- Part 22 of what the claim leans on: 5 texts laid one behind another. -/
import Derived.Test.YtipekdhneagdbaaGreatDoorCT21
namespace Go.Proofs.YtipekdhneagdbaaGreatDoor
open Go Go.Sx
set_option maxRecDepth 100000
set_option linter.unusedSimpArgs false
set_option linter.unusedVariables false
theorem bs22 {h:SHeap} {x:RowN}:J0Q Tryz.prog h 22 1 [(0,rowV x)]=some (.slice (some ⟨h.next,0,none⟩) 1 1,h.push (.row (J0e x) 51 false false)):=by
 simp[J0Q,Tryz.underlying22,sz46,J40,flat,J1i,J0G,J5k,J3e,Go.Sx.lay]
 rfl
theorem Jp5 {h:SHeap} {lo:Nat} {v:Value} {l:List RowN} {x:RowN} (hs:SlAt h lo (fun _=>1) 1 v l.length (l.flatMap J0e) 51) (hlo:lo≤h.next) (hf:h.floor≤lo) (hb:l.length<10000000) :
  ∃ v' h',J1o Tryz.prog (h.push (.row (J0e x) 51 false false)) 22 v (.slice (some ⟨h.next,0,none⟩) 1 1)=some (v',h')∧SlAt h' lo (fun _=>1) 1 v' (l++[x]).length ((l++[x]).flatMap J0e) 51∧h'.floor=h.floor∧h.next≤h'.next∧∀ i,i<lo→h'.get i=h.get i:=by
 have hs':SlAt (h.push (.row (J0e x) 51 false false)) lo (fun i=>if i=h.next then 0 else 1) 1 v l.length (l.flatMap J0e) 51:=hs.mono (by show h.next≤h.next+1;omega) (fun i hi=>if_neg (by omega)) fun i _ hi _=>J06 hi
 obtain⟨v',h1,a1,a2,a3,a4,a5,a6,a7⟩:=J3B (et:=51) (w:=5) (c:=1) (sc:=1) (xs:=J0e x) Tryz.underlying22 sz46 by46 J40 rfl (by decide) (by decide) hs' (J0N l) (J4y l) rfl rfl (by decide) (by decide) hb (src:=h.next) J0h (by show h.next<h.next+1;omega) hf (by simp)
 have hnx:h1.next=h.next+2:=a4
 refine⟨v',h1,a1,?_,a3,by omega,fun i hi=>?_⟩
 ·rcases a2 with a2 | a2
  ·rcases a2 with⟨h2,_⟩ | ⟨id,ex,b1,b2,b3,b4,b5⟩
   ·omega
   ·refine .inr ⟨id,ex,?_,?_,b3,b4,rfl⟩
    ·rw[b1,List.length_append];rfl
    ·rw[b2,List.flatMap_append,List.flatMap_cons,List.flatMap_nil,List.append_nil]
  ·exact absurd (show lo≤h.next+1 by omega) a2
 ·rw[a7 i (by show i<h.next+1;omega) (by omega),J06 (by omega)]
section
variable {call:J0r} {n N:Nat} {h:SHeap}
set_option maxHeartbeats 8000000 in
theorem JoE {l:List RowN} {v:Value} (hv:J0l h v l) (hl:l.length<9000000) (hfl:h.floor≤h.next) (hN:l.length+5<N) :
  ∃ v' h',J0L Tryz.prog call N 49 [v] h=some (v',h')∧J0p h.next h' v' (Jk8 l).length 5 ((Jk8 l).flatMap J0e)∧h'.floor=h.floor∧h.next≤h'.next∧∀ i,i<h.next→h'.get i=h.get i:=by
 refine J65 (R:=fun v' h'=>J0p h.next h' v' (Jk8 l).length 5 ((Jk8 l).flatMap J0e)∧h'.floor=h.floor∧h.next≤h'.next∧∀ i,i<h.next→h'.get i=h.get i) Tryz.func49 rfl (by simp[Tryz.f49]) ?_
 have hr:Tryz.f49.results.toList=[.tmp 2]:=rfl
 simp only[evC,seval,↓evP]
 refine WK.loop (fun i s'=>s'.T.get 0=v∧s'.T.get 4=iv i∧i≤l.length∧h.next≤s'.h.next∧s'.h.floor=h.floor∧(∀ i,i<h.next→s'.h.get i=h.get i)∧∃ u,s'.T.get 3=u∧SlAt s'.h h.next (fun _=>1) 1 u (Jk8 (l.take i)).length ((Jk8 (l.take i)).flatMap J0e) 51) l.length (by omega) ?_ ?_
 ·exact⟨by simp only[evC,↓reduceIte,Nat.reduceEqDiff,reduceCtorEq,↓evP,rpC,Nat.reduceAdd,Nat.reduceLT],by simp only[evC,↓reduceIte,Nat.reduceEqDiff,reduceCtorEq,↓evP,rpC,Nat.reduceAdd,Nat.reduceLT];rfl,by omega,Nat.le_refl _,rfl,fun _ _=>rfl,_,by simp only[evC,↓reduceIte,Nat.reduceEqDiff,reduceCtorEq,↓evP,rpC,Nat.reduceAdd,Nat.reduceLT],J5j⟩
 rintro i ⟨T1,H1⟩ hi ⟨t0,t4,hil,n1,f1,o1,u,t3,hS⟩
 simp only at t0 t4 n1 f1 o1 t3 hS
 have hv1:J0l H1 v l:=hv.mono n1 o1
 have hlen:=fun h'=>hv1.len (h':=h')
 by_cases hlt:i<l.length
 ·have c1:decide ((i:Int)<(l.length:Int))=true:=by simp;omega
  obtain⟨x,hx⟩:∃ x,l[i]?=some x:=⟨_,List.getElem?_eq_getElem hlt⟩
  obtain⟨rid,p,e0,hid,l0,l1,l2,l3,l4,lr⟩:=hv1.row hx
  have hz:flat (.agg #[.int .i64 0,.string ByteArray.empty,.int .i64 0,.int .i64 0,.int .i64 0])=true:=rfl
  have hzc:(Value.agg #[.int .i64 0,.string ByteArray.empty,.int .i64 0,.int .i64 0,.int .i64 0]).cells.toList=[.int .i64 0,.string ByteArray.empty,.int .i64 0,.int .i64 0,.int .i64 0]:=rfl
  have hst:J0K Tryz.prog (H1.push (.row [.int .i64 0,.string ByteArray.empty,.int .i64 0,.int .i64 0,.int .i64 0] 51 false false)) 51 (.pointer (some ⟨H1.next,0,none⟩)) (.agg #[.int .i64 x.kind,.string x.name,.int .i64 x.ends,.int .i64 x.n,.int .i64 x.kids])=some ((H1.push (.row [.int .i64 0,.string ByteArray.empty,.int .i64 0,.int .i64 0,.int .i64 0] 51 false false)).put H1.next (.row (J0e x) 51 false false)):=Jaf (by omega)
  have gN:((H1.push (.row [.int .i64 0,.string ByteArray.empty,.int .i64 0,.int .i64 0,.int .i64 0] 51 false false)).put H1.next (.row (J0e x) 51 false false)).get H1.next=.row (J0e x) 51 false false:=J0b rfl (by show H1.next<H1.next+1;omega)
  have gO:∀ i,i<H1.next→((H1.push (.row [.int .i64 0,.string ByteArray.empty,.int .i64 0,.int .i64 0,.int .i64 0] 51 false false)).put H1.next (.row (J0e x) 51 false false)).get i=H1.get i:=fun i hi=>by rw[J05 (by show H1.next<H1.next+1;omega) (by omega),J06 hi]
  have nG:((H1.push (.row [.int .i64 0,.string ByteArray.empty,.int .i64 0,.int .i64 0,.int .i64 0] 51 false false)).put H1.next (.row (J0e x) 51 false false)).next=H1.next+1:=rfl
  have fG:((H1.push (.row [.int .i64 0,.string ByteArray.empty,.int .i64 0,.int .i64 0,.int .i64 0] 51 false false)).put H1.next (.row (J0e x) 51 false false)).floor=H1.floor:=rfl
  generalize (H1.push (.row [.int .i64 0,.string ByteArray.empty,.int .i64 0,.int .i64 0,.int .i64 0] 51 false false)).put H1.next (.row (J0e x) 51 false false)=G at *
  have w1:IntKind.i64.wrap ((i:Int)+1)=((i+1:Nat):Int):=J0s (by omega) (by omega)
  have lk:ld1 0 (G.get H1.next)=some (iv x.kind):=by rw[gN];rfl
  have htk:Jk8 (l.take (i+1))=Jk8 (l.take i)++[Jli x]:=by
   rw[List.take_add_one,hx,Jk8,Jk8,List.map_append]
   rfl
  have hlt2:(Jk8 (l.take i)).length<10000000:=by
   rw[Jk8,List.length_map,List.length_take]
   omega
  cases d:(x.kind != 27) with
  | false=>
   have hz1:Jli x=x:=by unfold Jli;rw[if_neg (by simpa using d)]
   have lw:ldN 5 0 (G.get H1.next)=some (rowV x):=by rw[gN];rfl
   have hSG:SlAt G h.next (fun _=>1) 1 u (Jk8 (l.take i)).length ((Jk8 (l.take i)).flatMap J0e) 51:=hS.mono (by omega) (fun _ _=>rfl) fun i _ hi _=>gO i hi
   obtain⟨v',H2,ha,hS2,f2,n2,o2⟩:=Jp5 (x:=x) hSG (by omega) (by omega) hlt2
   simp only[evC,seval,↓evP,t0,t3,t4,hlen,c1,e0,J0u,lr,J40,hz,hzc,hst,J0t,J0m,lk,d,lw,bs22,ha,w1]
   refine⟨hlt,by omega,by omega,by omega,fun i hi=>by rw[o2 i hi,gO i (by omega),o1 i hi],?_⟩
   rw[htk,hz1]
   exact hS2
  | true=>
   have hz1:Jli x={ x with n:=0 }:=by unfold Jli;rw[if_pos (by simpa using d)]
   have hs3:=stc (t:=3) (off:=3) (v:=iv 0) sz3 rfl rfl gN (by show 3<5;omega) (by omega)
   have gN2:(G.put H1.next (.row ((J0e x).set 3 (iv 0)) 51 false false)).get H1.next=.row (J0e { x with n:=0 }) 51 false false:=J0b rfl (by omega)
   have gO2:∀ i,i<H1.next→(G.put H1.next (.row ((J0e x).set 3 (iv 0)) 51 false false)).get i=H1.get i:=fun i hi=>by rw[J05 (by omega) (by omega),gO i hi]
   have nG2:(G.put H1.next (.row ((J0e x).set 3 (iv 0)) 51 false false)).next=H1.next+1:=nG
   have fG2:(G.put H1.next (.row ((J0e x).set 3 (iv 0)) 51 false false)).floor=H1.floor:=fG
   generalize G.put H1.next (.row ((J0e x).set 3 (iv 0)) 51 false false)=G2 at *
   have lw:ldN 5 0 (G2.get H1.next)=some (rowV { x with n:=0 }):=by rw[gN2];rfl
   have hSG:SlAt G2 h.next (fun _=>1) 1 u (Jk8 (l.take i)).length ((Jk8 (l.take i)).flatMap J0e) 51:=hS.mono (by omega) (fun _ _=>rfl) fun i _ hi _=>gO2 i hi
   obtain⟨v',H2,ha,hS2,f2,n2,o2⟩:=Jp5 (x:={ x with n:=0 }) hSG (by omega) (by omega) hlt2
   simp only[evC,seval,↓evP,Nat.zero_add,t0,t3,t4,hlen,c1,e0,J0u,lr,J40,hz,hzc,hst,J0t,J0O,J0m,lk,d,hs3,lw,bs22,ha,w1]
   refine⟨hlt,by omega,by omega,by omega,fun i hi=>by rw[o2 i hi,gO2 i (by omega),o1 i hi],?_⟩
   rw[htk,hz1]
   exact hS2
 have c1:decide ((i:Int)<(l.length:Int))=false:=by simp;omega
 have:i=l.length:=by omega
 subst this
 rw[List.take_length] at hS
 simp only[evC,seval,↓evP,hr,t0,t3,t4,hlen,c1]
 exact⟨hS.cells (J0N _),f1,n1,o1⟩
theorem Jpn {l:List RowN} {v:Value} (hv:J0l h v l) (hl:l.length<9000000) (hfl:h.floor≤h.next) (hn:l.length+10<n) :
  ∃ v' h',J0T n 49 [v] h=some (v',h')∧J0l h' v' (Jk8 l)∧h'.floor=h.floor∧h.next≤h'.next∧∀ i,i<h.next→h'.get i=h.get i:=by
 obtain⟨n,rfl⟩:∃ j,n=j+1:=⟨n-1,by omega⟩
 have hex:=k_ex (n:=n) (R:=fun v' h'=>J0p h.next h' v' (Jk8 l).length 5 ((Jk8 l).flatMap J0e)∧h'.floor=h.floor∧h.next≤h'.next∧∀ i,i<h.next→h'.get i=h.get i) (J13 (f:=49) (args:=[v]) (h:=h) ⟨rfl,rfl,rfl⟩) (JoE (call:=J0T n) (N:=n) hv hl hfl (by omega)) fun v' h1 hf _ ⟨hc,_⟩=>⟨hc.flat ?_ _ _,rfl,Nat.le_refl _,fun _ _=>rfl⟩
 ·obtain⟨v',h',e,hc,a⟩:=hex
  exact⟨v',h',e,(J3P.of hc).1,a⟩
 ·obtain⟨_,a,c,rfl,_⟩:=hc
  exact hf
set_option maxHeartbeats 8000000 in
theorem JoT {nm:ByteArray} {s:StN} {pv:Value} {lo:Nat} (hp:J3x lo h pv nm s) (h64:∀ x∈s.rows,x.kids≤9223372036854775807) (hs:JdC s) (hl:s.rows.length<9000000) (hfl:h.floor≤h.next) (hn:Jbg s+100200<n) :
  ∃ h',J0L Tryz.prog (J0T n) N 23 [pv] h=some (iv (JkA nm s),h')∧∀ i,i<h.next→h'.get i=h.get i:=by
 obtain⟨vr,vq,vv,vt,vu,vo,rfl,p1,p2,p3,p4,p5,p6⟩:=hp
 refine J1N (R:=fun h'=>∀ i,i<h.next→h'.get i=h.get i) Tryz.func23 rfl (by simp[Tryz.f23]) ?_
 have hr:Tryz.f23.results.toList=[.tmp 2]:=rfl
 have htot:Jbg s=s.rows.length+s.queues.length+s.vars.length+s.tags.length+s.rules.length+s.on.length:=rfl
 have ca:(Value.agg #[.string nm,vr,vq,vv,vt,vu,vo,iv s.miss]).cells.toList=[.string nm,vr,vq,vv,vt,vu,vo,iv s.miss]:=rfl
 have oa:=all8 (nm:=nm) p1 p2 p3 p4 p5 p6
 have gA:(h.push (.row [.string nm,vr,vq,vv,vt,vu,vo,iv s.miss] 27 false false)).get h.next=.row [.string nm,vr,vq,vv,vt,vu,vo,iv s.miss] 27 false false:=J0h
 have gO:∀ i,i<h.next→(h.push (.row [.string nm,vr,vq,vv,vt,vu,vo,iv s.miss] 27 false false)).get i=h.get i:=fun i hi=>J06 hi
 have nA:(h.push (.row [.string nm,vr,vq,vv,vt,vu,vo,iv s.miss] 27 false false)).next=h.next+1:=rfl
 have fA:(h.push (.row [.string nm,vr,vq,vv,vt,vu,vo,iv s.miss] 27 false false)).floor=h.floor:=rfl
 show WK _ _ _ (.seq _ (.seq _ (.seq _ _))) _ _
 simp only[evC,seval,↓evP,rpD,J0X,J2t,ca,oa,sz30]
 generalize h.push (.row [.string nm,vr,vq,vv,vt,vu,vo,iv s.miss] 27 false false)=A at *
 have l1:ld1 1 (A.get h.next)=some vr:=by rw[gA];rfl
 have P1:J0l A vr s.rows:=p1.1.mono (by omega) gO
 obtain⟨v',h1,hpl,hvz,f1,n1,o1⟩:=Jpn (n:=n) P1 hl (by omega) (by omega)
 have hzl:(Jk8 s.rows).length=s.rows.length:=by rw[Jk8,List.length_map]
 have hz64:∀ x∈Jk8 s.rows,x.kids≤9223372036854775807:=fun x hx=>by
  obtain⟨y,hy,rfl⟩:=List.mem_map.1 hx
  have:=h64 y hy
  unfold Jli
  split <;> exact this
 obtain⟨v2,h2,hres,pv,rfl,hp',f2,n2,o2⟩:=Jij (n:=n) (h:=h1) (by omega) hvz (by omega) hz64 (by omega)
 obtain⟨vr',vq',vv',vt',vu',vo',rfl,b1,b2,b3,b4,b5,b6⟩:=hp'
 obtain⟨⟨hb,h3⟩,s1,s2,rO,n3,f3,o3⟩:=Jlt (H:=h2) (cs:=[.string (outN (Jk8 s.rows)).1,vr',vq',vv',vt',vu',vo',iv (outN (Jk8 s.rows)).2.miss]) (e:=(resN (Jk8 s.rows)).1.1) (p:=(resN (Jk8 s.rows)).1.2) rfl (all8 b1 b2 b3 b4 b5 b6) (by omega)
 simp only at s1 s2 rO n3 f3 o3
 have zc30:zPol.cells.toList=[.string ByteArray.empty,.slice none 0 0,.slice none 0 0,.slice none 0 0,.slice none 0 0,.slice none 0 0,.slice none 0 0,iv 0]:=rfl
 have zc33:(J2k 0 0).cells.toList=[iv 0,iv 0]:=rfl
 have HO:∀ i,i<h.next→h3.get i=h.get i:=fun i hi=>by rw[o3 i (by omega),o2 i (by omega),o1 i (by omega),gO i hi]
 have HA:h3.get h.next=.row [.string nm,vr,vq,vv,vt,vu,vo,iv s.miss] 27 false false:=by rw[o3 _ (by omega),o2 _ (by omega),o1 _ (by omega)];exact gA
 have LA:ldN 8 0 (h3.get h.next)=some (.agg #[.string nm,vr,vq,vv,vt,vu,vo,iv s.miss]):=by rw[HA];rfl
 have LB:ldN 8 0 (h3.get h2.next)=some (.agg #[.string (outN (Jk8 s.rows)).1,vr',vq',vv',vt',vu',vo',iv (outN (Jk8 s.rows)).2.miss]):=by rw[rO.1];rfl
 have lF:ld1 0 (h3.get (h2.next+1))=some (iv (resN (Jk8 s.rows)).1.1):=by rw[rO.2];rfl
 have NN:h.next≤h3.next:=by omega
 have hpA:J3x lo h3 (.agg #[.string nm,vr,vq,vv,vt,vu,vo,iv s.miss]) nm s:=⟨vr,vq,vv,vt,vu,vo,rfl,p1.mono NN fun i _ hi=>HO i hi,p2.mono NN fun i _ hi=>HO i hi,p3.mono NN fun i _ hi=>HO i hi,p4.mono NN fun i _ hi=>HO i hi,J1S.mono p5 NN fun i _ hi=>HO i hi,J1S.mono p6 NN fun i _ hi=>HO i hi⟩
 have hpB:J3x h1.next h3 (.agg #[.string (outN (Jk8 s.rows)).1,vr',vq',vv',vt',vu',vo',iv (outN (Jk8 s.rows)).2.miss]) (outN (Jk8 s.rows)).1 (outN (Jk8 s.rows)).2:=
  J3x.mono ⟨vr',vq',vv',vt',vu',vo',rfl,b1,b2,b3,b4,b5,b6⟩ (by omega) fun i _ hi=>o3 i hi
 obtain⟨b,hsame,hb'⟩:=JgK (n:=n) (h:=h3) hpA hpB hs (by omega)
 simp only[evC,seval,↓evP,Nat.zero_add,J0y,J0F,l1,hpl,hres,J5F,J3Y,zc30,J3C,J1t,zc33,J1D,s1,s2]
 cases d0:((resN (Jk8 s.rows)).1.1 != 0) with
 | true=>
  rw[show JkA nm s=23 from if_neg fun h9=>absurd h9.1 (by simpa using d0)]
  simp only[evC,seval,↓evP,hr,J6a,J7G,lF,d0]
  exact HO
 | false=>
  cases b with
  | true=>
   rw[show JkA nm s=0 from if_pos ⟨by simpa using d0,hb'.1 rfl⟩]
   simp only[evC,seval,↓evP,hr,J6a,J7G,lF,d0,J1b,LA,LB,hsame]
   exact HO
  | false=>
   rw[show JkA nm s=23 from if_neg fun h9=>by have:=hb'.2 h9.2;cases this]
   simp only[evC,seval,↓evP,hr,J6a,J7G,lF,d0,J1b,LA,LB,hsame]
   exact HO
theorem JpH {nm:ByteArray} {s:StN} {pv:Value} {lo:Nat} (hp:J3x lo h pv nm s) (h64:∀ x∈s.rows,x.kids≤9223372036854775807) (hs:JdC s) (hl:s.rows.length<9000000) (hfl:h.floor≤h.next) (hn:Jbg s+100300<n) :
  J0T n 23 [pv] h=some (iv (JkA nm s),h):=by
 obtain⟨n,rfl⟩:∃ j,n=j+1:=⟨n-1,by omega⟩
 exact J4r (J13 ⟨rfl,rfl,rfl⟩) rfl (JoT (N:=n) hp h64 hs hl hfl (by omega))
end
theorem LentPol.pol {h:SHeap} {b:Nat} {v:Value} {nm:ByteArray} {s:StN} {o:Nat→Nat} (hL:LentPol h b v nm s o):J3x 0 h v nm s:=by
 obtain⟨rfl,⟨u1,u2,u3,u4,u5,u6,u7⟩,⟨L,L1⟩,L2,L3,L4,L5,L6⟩:=hL
 exact⟨_,_,_,_,_,_,rfl,J0l.cells (JnT L1 (by omega)),L2.cells ⟨Nat.zero_le _,by omega⟩,L3.cells ⟨Nat.zero_le _,by omega⟩,L4.cells ⟨Nat.zero_le _,by omega⟩,L5.cells ⟨Nat.zero_le _,by omega⟩,L6.cells ⟨Nat.zero_le _,by omega⟩⟩
theorem LentPol.mono {h h':SHeap} {b:Nat} {v:Value} {nm:ByteArray} {s:StN} {o:Nat→Nat} (hL:LentPol h b v nm s o) (hn:h.next≤h'.next) (hg:∀ i,i<h.next→h'.get i=h.get i):LentPol h' b v nm s o:=by
 obtain⟨hv,⟨u1,u2,u3,u4,u5,u6,u7⟩,⟨L,L1⟩,L2,L3,L4,L5,L6⟩:=hL
 exact⟨hv,⟨u1,u2,u3,u4,u5,u6,by omega⟩,⟨L,by rw[hg _ (by omega)];exact L1.g,L1.len,L1.own,L1.marks⟩,L2.mono (hg _ (by omega)),L3.mono (hg _ (by omega)),L4.mono (hg _ (by omega)),L5.mono (hg _ (by omega)),L6.mono (hg _ (by omega))⟩
theorem LentPol.lies {h:SHeap} {b:Nat} {v:Value} {nm:ByteArray} {s:StN} {o:Nat→Nat} (hL:LentPol h b v nm s o):∀ nm' vr vq vv vt vu vo m,v=.agg #[.string nm',vr,vq,vv,vt,vu,vo,m]→Lies vr s.rows.length:=by
 intro nm' vr vq vv vt vu vo m hv
 rw[hL.v] at hv
 simp only[Value.agg.injEq,Array.mk.injEq,List.cons.injEq] at hv
 obtain⟨_,h1,_⟩:=hv
 subst h1
 exact⟨_,_,_,rfl⟩
section
variable {n N:Nat} {h:SHeap}
set_option maxHeartbeats 8000000 in
theorem JoQ {nm:ByteArray} {s:StN} {pv:Value} {lo:Nat} (hp:J3x lo h pv nm s) (hn:0<n) :
  ∃ v' h',J0L Tryz.prog (J0T n) N 16 [pv] h=some (v',h')∧(∃ b,v'=.bool b∧(b=false→s.rows.length≤65536∧s.queues.length≤100∧s.vars.length≤100∧s.tags.length≤100∧s.rules.length≤100∧s.on.length≤100))∧∀ i,i<h.next→h'.get i=h.get i:=by
 obtain⟨vr,vq,vv,vt,vu,vo,rfl,p1,p2,p3,p4,p5,p6⟩:=hp
 refine J65 (R:=fun v' h'=>(∃ b,v'=.bool b∧(b=false→s.rows.length≤65536∧s.queues.length≤100∧s.vars.length≤100∧s.tags.length≤100∧s.rules.length≤100∧s.on.length≤100))∧∀ i,i<h.next→h'.get i=h.get i) Tryz.func16 rfl (by simp[Tryz.f16]) ?_
 have hr:Tryz.f16.results.toList=[.tmp 2]:=rfl
 have ca:(Value.agg #[.string nm,vr,vq,vv,vt,vu,vo,iv s.miss]).cells.toList=[.string nm,vr,vq,vv,vt,vu,vo,iv s.miss]:=rfl
 have oa:=all8 (nm:=nm) p1 p2 p3 p4 p5 p6
 obtain⟨x0,x1,x2,x3,x4,x5,x6,x7⟩:=Jhw (a:=.string nm) (b:=vr) (c:=vq) (d:=vv) (e:=vt) (f:=vu) (g:=vo) (i:=iv s.miss) (ty:=27) (x:=false) (y:=false)
 have gA:(h.push (.row [.string nm,vr,vq,vv,vt,vu,vo,iv s.miss] 27 false false)).get h.next=.row [.string nm,vr,vq,vv,vt,vu,vo,iv s.miss] 27 false false:=J0h
 have gO:∀ i,i<h.next→(h.push (.row [.string nm,vr,vq,vv,vt,vu,vo,iv s.miss] 27 false false)).get i=h.get i:=fun i hi=>J06 hi
 have nA:(h.push (.row [.string nm,vr,vq,vv,vt,vu,vo,iv s.miss] 27 false false)).next=h.next+1:=rfl
 have len2:=JfC p2
 have len3:=JfT p3
 have len4:=JfT p4
 have len5:=JfF p5
 have len6:=JfF p6
 simp only[evC,seval,↓evP,rpD,J0X,J2t,ca,oa,sz30]
 generalize h.push (.row [.string nm,vr,vq,vv,vt,vu,vo,iv s.miss] 27 false false)=A at *
 rw[← gA] at x0 x1 x2 x3 x4 x5 x6 x7
 have P1:J0l A vr s.rows:=p1.1.mono (by omega) gO
 have hfar:=JiW (n:=n) P1 hn
 cases d0:decide ((s.rows.length:Int)>65536) with
 | true=>
  rw[d0] at hfar
  simp only[evC,seval,↓evP,hr,Nat.zero_add,J0y,J0F,x1,hfar]
  exact⟨⟨true,rfl,fun h=>by cases h⟩,gO⟩
 | false=>
 rw[d0] at hfar
 have e0:=of_decide_eq_false d0
 cases d1:decide ((s.queues.length:Int)>100) with
 | true=>
  simp only[evC,seval,↓evP,hr,Nat.zero_add,J0y,J0B,J0F,J0S,x1,x2,hfar,len2,d1]
  exact⟨⟨true,rfl,fun h=>by cases h⟩,gO⟩
 | false=>
 have e1:=of_decide_eq_false d1
 cases d2:decide ((s.vars.length:Int)>100) with
 | true=>
  simp only[evC,seval,↓evP,hr,Nat.zero_add,J0y,J0B,J1A,J0F,J0S,J0Y,x1,x2,x3,hfar,len2,len3,d1,d2]
  exact⟨⟨true,rfl,fun h=>by cases h⟩,gO⟩
 | false=>
 have e2:=of_decide_eq_false d2
 cases d3:decide ((s.tags.length:Int)>100) with
 | true=>
  simp only[evC,seval,↓evP,hr,Nat.zero_add,J0y,J0B,J1A,J1B,J0F,J0S,J0Y,x1,x2,x3,x4,hfar,len2,len3,len4,d1,d2,d3]
  exact⟨⟨true,rfl,fun h=>by cases h⟩,gO⟩
 | false=>
 have e3:=of_decide_eq_false d3
 cases d4:decide ((s.rules.length:Int)>100) with
 | true=>
  simp only[evC,seval,↓evP,hr,Nat.zero_add,J0y,J0B,J1A,J1B,J36,J0F,J0S,J0Y,J0n,x1,x2,x3,x4,x5,hfar,len2,len3,len4,len5,d1,d2,d3,d4]
  exact⟨⟨true,rfl,fun h=>by cases h⟩,gO⟩
 | false=>
 have e4:=of_decide_eq_false d4
 simp only[evC,seval,↓evP,hr,Nat.zero_add,J0y,J0B,J1A,J1B,J36,J1T,J0F,J0S,J0Y,J0n,x1,x2,x3,x4,x5,x6,hfar,len2,len3,len4,len5,len6,d1,d2,d3,d4]
 exact⟨⟨_,rfl,fun h=>by have:=of_decide_eq_false h;omega⟩,gO⟩
theorem Jpu {nm:ByteArray} {s:StN} {pv:Value} {lo:Nat} (hp:J3x lo h pv nm s) (hn:1<n) :
  ∃ b,J0T n 16 [pv] h=some (.bool b,h)∧(b=false→s.rows.length≤65536∧s.queues.length≤100∧s.vars.length≤100∧s.tags.length≤100∧s.rules.length≤100∧s.on.length≤100):=by
 obtain⟨n,rfl⟩:∃ j,n=j+1:=⟨n-1,by omega⟩
 obtain⟨v',h',e,⟨b,rfl,hb⟩,ho⟩:=JoQ (n:=n) (N:=n) hp (by omega)
 exact⟨b,J4r (J13 ⟨rfl,rfl,rfl⟩) rfl ⟨h',e,ho⟩,hb⟩
end
theorem JqK {l:List RowN}:∀ (a b p q r:Nat),J35 l a p q→J35 l b q r→J35 l (a+b) p r
 | 0,b,p,q,r,h,h2=>by
  have:p=q:=h
  subst this
  rw[Nat.zero_add]
  exact h2
 | a+1,b,p,q,r,⟨p',h1,h3,h4,h5⟩,h2=>by
  rw[show a+1+b=(a+b)+1 by omega]
  exact⟨p',h1,h3,h4,JqK a b p' q r h5 h2⟩
section
variable {call:J0r} {N:Nat} {h:SHeap}
set_option maxHeartbeats 4000000 in
theorem Jsb {Z L:List RowN} {v:Value} {at_ q:Nat} (hsk:Jkk L Z) (hv:J0l h v L) (hs:SubT Z at_ q) (hlen:L.length<1099511627776) (hN:L.length+3<N) :
  J0L Tryz.prog call N 64 [v,iv at_] h=some (iv q,h):=by
 refine J1m Tryz.func64 rfl (by simp[Tryz.f64]) ?_
 have hr:Tryz.f64.results.toList=[.tmp 4]:=rfl
 have hl:=fun h'=>hv.len (h':=h')
 have hq:=hs.lt
 have hZ:=hsk.1
 simp only[evC,seval,↓evP,rpC,hr]
 refine WK.loop (fun i s'=>s'.h=h∧s'.T.get 0=v∧s'.T.get 1=iv ((at_+i:Nat):Int)∧∃ r:Nat,s'.T.get 5=iv r∧J35 Z r (at_+i) q) (q-at_) (by omega) ?_ ?_
 ·exact⟨rfl,by simp only[evC,seval,↓evP,rpC],by simp only[evC,seval,↓evP,rpC,Nat.add_zero],1,by simp only[evC,seval,↓evP,rpC],q,hs,hq.1,hq.2,rfl⟩
 rintro i ⟨T1,H1⟩ hi ⟨rfl,t0,t1,r,t5,hc⟩
 simp only at t0 t1 t5
 cases r with
 | zero=>
  have hpq:at_+i=q:=hc
  have c1:decide (((0:Nat):Int)>0)=false:=rfl
  rw[hpq] at t1
  simp only[evC,seval,↓evP,rpC,hr,t0,t1,t5,c1]
 | succ r=>
  obtain⟨p',h1,h2,h3,h4⟩:=hc
  have hle:=J2o _ _ _ h4
  have c1:decide (((r+1:Nat):Int)>0)=true:=decide_eq_true (by omega)
  have c2:decide (((at_+i:Nat):Int)≥0)=true:=decide_eq_true (by omega)
  have c3:decide (((at_+i:Nat):Int)<(L.length:Int))=true:=by simp;omega
  obtain⟨x,hx,hk0,_,hch⟩:=h1.kids
  obtain⟨y,hy,hyk⟩:=hsk.2 _ x hx
  obtain⟨id,p,e0,hid,l0,l1,l2,l3,l4,lr⟩:=hv.row hy
  rw[hyk] at l4
  have hcl:=J2o _ _ _ hch
  have m1:(if (L.length:Int)<x.kids then (L.length:Int) else x.kids)=x.kids:=if_neg (by omega)
  have m2:(if x.kids>0 then x.kids else 0)=x.kids:=by split <;> omega
  have w1:IntKind.i64.wrap (x.kids-1)=x.kids-1:=J0s (by omega) (by omega)
  have w2:IntKind.i64.wrap (((r+1:Nat):Int)+(x.kids-1))=((x.kids.toNat+r:Nat):Int):=by rw[J0s (by omega) (by omega)];omega
  have w3:IntKind.i64.wrap (((at_+i:Nat):Int)+1)=((at_+(i+1):Nat):Int):=by rw[J0s (by omega) (by omega)];omega
  simp only[evC,seval,↓evP,rpC,t0,t1,t5,c1,c2,hl,c3,e0,l4,m1,m2,w1,w2,w3]
  exact⟨by omega,_,rfl,JqK _ _ _ _ _ hch h4⟩
theorem Jt5 {n:Nat} {Z L:List RowN} {v:Value} {at_ q:Nat} (hsk:Jkk L Z) (hv:J0l h v L) (hs:SubT Z at_ q) (hlen:L.length<1099511627776) (hn:L.length+5<n) :
  J0T n 64 [v,iv at_] h=some (iv q,h):=by
 obtain⟨n,rfl⟩:∃ j,n=j+1:=⟨n-1,by omega⟩
 exact J6r (J13 ⟨rfl,rfl,rfl⟩) rfl (Jsb hsk hv hs hlen (by omega))
def JpU (e:Nat→Nat):Nat→Nat→List Nat
 | 0,_=>[]
 | k+1,p=>p :: JpU e k (e p)
theorem Jqt {e:Nat→Nat}:∀ k p,(JpU e k p).length=k
 | 0,p=>rfl
 | k+1,p=>by show (JpU e k (e p)).length+1=_;rw[Jqt k (e p)]
def IntL (h:SHeap) (lo:Nat) (v:Value) (l:List Int):Prop:=
 (v=.slice none 0 0∧l=[])∨∃ id c,v=.slice (some ⟨id,0,none⟩) l.length c∧lo≤id∧id<h.next∧((c=unk∧h.get id=.row (ints l) 3 true false)∨(c=l.length∧h.get id=.row (ints l) 3 false false))
theorem IntL.ints {lo lo':Nat} {v:Value} {l:List Int} (hl:IntL h lo v l) (hle:lo'≤lo):J1S lo' h v l:=by
 rcases hl with⟨rfl,rfl⟩ | ⟨id,c,rfl,h1,h2,⟨_,h3⟩ | ⟨_,h3⟩⟩
 ·exact J0p.nil lo' h 1
 ·exact J1S.row' h3 ⟨by omega,h2⟩ rfl
 ·exact J1S.row' h3 ⟨by omega,h2⟩ rfl
theorem IntL.mono {h':SHeap} {lo:Nat} {v:Value} {l:List Int} (hl:IntL h lo v l) (hn:h.next≤h'.next) (hg:∀ i,lo≤i→i<h.next→h'.get i=h.get i):IntL h' lo v l:=by
 rcases hl with h1 | ⟨id,c,h1,h2,h3,h4⟩
 ·exact .inl h1
 ·exact .inr ⟨id,c,h1,h2,by omega,by rw[hg id h2 h3];exact h4⟩
theorem Jrq:(Value.int .i64 0).cells.size=1:=rfl
theorem Jqv {lo:Nat} {v:Value} {l:List Int} {x:Int} (hl:IntL h lo v l) (hlo:lo≤h.next) (hf:h.floor≤lo) (hb:l.length<100000000000) :
  ∃ v' h',J1o Tryz.prog (h.push (.row [iv x] 3 false false)) 25 v (.slice (some ⟨h.next,0,none⟩) 1 1)=some (v',h')∧IntL h' lo v' (l++[x])∧h'.floor=h.floor∧h.next≤h'.next∧∀ i,i<lo→h'.get i=h.get i:=by
 have hsrc:J16 (h.push (.row [iv x] 3 false false)) 1 1 (.slice (some ⟨h.next,0,none⟩) 1 1)=some [iv x]:=by
  simp only[J16,J0h]
  rfl
 have hone:([iv x]:List Value).all one=true:=rfl
 have hi1:ints (l++[x])=ints l++[iv x]:=by simp[ints]
 rcases hl with⟨rfl,rfl⟩ | ⟨id,c,rfl,h1,h2,h3⟩
 ·have hnu:(0:Nat)≠unk:=by unfold unk;omega
  refine⟨.slice (some ⟨(h.push (.row [iv x] 3 false false)).next,0,none⟩) 1 unk,(h.push (.row [iv x] 3 false false)).push (.row [iv x] 3 true false),?_,.inr ⟨_,unk,rfl,?_,?_,.inl ⟨rfl,J0h⟩⟩,rfl,by show h.next≤h.next+1+1;omega,fun i hi=>?_⟩
  ·have h0:J16 (h.push (.row [iv x] 3 false false)) 1 0 (.slice none 0 0)=some []:=by simp[J16]
   simp only[J1o,Tryz.underlying25,sz3,by3,J8P,Jrq,hsrc,hone,h0]
   rw[if_pos (by simp),if_pos trivial,if_neg hnu,if_neg (by omega),if_pos (by simp)]
   rfl
  ·show lo≤h.next+1;omega
  ·show h.next+1<h.next+1+1;omega
  ·rw[J06 (by show i<h.next+1;omega),J06 (by omega)]
 ·have hll:(ints l).length=l.length:=J1h l
  rcases h3 with⟨rfl,hg⟩ | ⟨rfl,hg⟩
  ·have hu:l.length≤unk:=by unfold unk;omega
   have hg':(h.push (.row [iv x] 3 false false)).get id=.row (ints l) 3 true false:=by rw[J06 h2];exact hg
   have hcut:cut (ints l) 0 (l.length*1)=some (ints l):=by
    simp only[cut,List.drop_zero]
    rw[List.take_of_length_le (by omega),if_pos (by omega)]
   refine⟨.slice (some ⟨(h.push (.row [iv x] 3 false false)).next,0,none⟩) (l.length+1) unk,((h.push (.row [iv x] 3 false false)).put id .dead).push (.row (ints l++[iv x]) 3 true false),?_,.inr ⟨_,unk,by rw[List.length_append];rfl,?_,?_,.inl ⟨rfl,?_⟩⟩,rfl,by show h.next≤h.next+1+1;omega,fun i hi=>?_⟩
   ·simp only[J1o,Tryz.underlying25,sz3,by3,J8P,Jrq,hsrc,hone,hg',hcut,J5u]
    rw[if_pos (by simp;omega),if_pos trivial,if_pos trivial,if_pos (by rw[J0i,decide_eq_true (show (l.length+1)*8≤140737488355328 by omega),decide_eq_true (show l.length+1≤140737488355328 by omega),decide_eq_true (show h.floor≤id by omega)];rfl),if_neg (by decide),if_pos trivial,if_pos trivial]
   ·show lo≤h.next+1;omega
   ·show h.next+1<h.next+1+1;omega
   ·rw[hi1]
    exact J0h
   ·rw[J06 (by show i<h.next+1;omega),J05 (by show id<h.next+1;omega) (by omega),J06 (by omega)]
  ·have hcut:J16 (h.push (.row [iv x] 3 false false)) 1 l.length (.slice (some ⟨id,0,none⟩) l.length l.length)=some (ints l):=by
    by_cases h0:l.length=0
    ·rw[List.length_eq_zero_iff.1 h0]
     rfl
    ·simp only[J16,J06 h2,hg,cut,List.drop_zero]
     rw[if_neg h0,List.take_of_length_le (by omega),if_pos (by omega)]
   refine⟨.slice (some ⟨(h.push (.row [iv x] 3 false false)).next,0,none⟩) (l.length+1) unk,(h.push (.row [iv x] 3 false false)).push (.row (ints l++[iv x]) 3 true false),?_,.inr ⟨_,unk,by rw[List.length_append];rfl,?_,?_,.inl ⟨rfl,?_⟩⟩,rfl,by show h.next≤h.next+1+1;omega,fun i hi=>?_⟩
   ·simp only[J1o,Tryz.underlying25,sz3,by3,J8P,Jrq,hsrc,hone,hcut]
    rw[if_pos (by simp),if_pos trivial,if_neg (by unfold unk;omega),if_neg (by omega),if_pos (by simp only[Bool.and_eq_true,decide_eq_true_eq];omega)]
   ·show lo≤h.next+1;omega
   ·show h.next+1<h.next+1+1;omega
   ·rw[hi1]
    exact J0h
   ·rw[J06 (by show i<h.next+1;omega),J06 (by omega)]
set_option maxHeartbeats 8000000 in
theorem Jrr {n:Nat} {Z L:List RowN} {v:Value} {at_:Nat} {x:RowN} (ht:J2c Z) (hsk:Jkk L Z) (hv:J0l h v L) (hx:Z[at_]?=some x) (hlen:L.length<100000000) (hn:L.length+10<n) (hN:L.length+3<N) (hfl:h.floor≤h.next) :
  ∃ v' h',J0L Tryz.prog (J0T n) N 48 [v,iv at_] h=some (v',h')∧(IntL h' h.next v' ((JpU (endN Z) x.kids.toNat (at_+1)).map (fun (k:Nat)=>(k:Int)))∧h'.floor=h.floor∧h.next≤h'.next∧∀ i,i<h.next→h'.get i=h.get i):=by
 refine J65 (R:=fun v' h'=>IntL h' h.next v' ((JpU (endN Z) x.kids.toNat (at_+1)).map (fun (k:Nat)=>(k:Int)))∧h'.floor=h.floor∧h.next≤h'.next∧∀ i,i<h.next→h'.get i=h.get i) Tryz.func48 rfl (by simp[Tryz.f48]) ?_
 have hr:Tryz.f48.results.toList=[.tmp 4]:=rfl
 have hl:=fun (h':SHeap)=>hv.len (h':=h')
 have hal:=(List.getElem?_eq_some_iff.1 hx).1
 have hZ:=hsk.1
 have hs:=ht.end hal
 obtain⟨x',hx',hk0,_,hch⟩:=hs.kids
 rw[hx] at hx'
 cases hx'
 have hq:=hs.lt
 have hcl:=J2o _ _ _ hch
 obtain⟨y,hy,hyk⟩:=hsk.2 _ x hx
 obtain⟨id,p,e0,hid,l0,l1,l2,l3,l4,lr⟩:=hv.row hy
 rw[hyk] at l4
 have c1:decide ((at_:Int)<0)=false:=by simp
 have c2:decide ((at_:Int)≥(L.length:Int))=false:=by simp;omega
 have w1:IntKind.i64.wrap ((at_:Int)+1)=((at_+1:Nat):Int):=J0s (by omega) (by omega)
 simp only[evC,seval,↓evP,rpC,hr,c1,hl,c2,w1,e0,l4]
 refine WK.loop (fun i s'=>s'.T.get 0=v∧s'.T.get 21=iv x.kids∧s'.T.get 22=iv i∧i≤x.kids.toNat∧h.next≤s'.h.next∧s'.h.floor=h.floor∧(∀ j,j<h.next→s'.h.get j=h.get j)∧∃ p l w,s'.T.get 6=iv ((p:Nat):Int)∧s'.T.get 5=w∧IntL s'.h h.next w (l.map (fun (k:Nat)=>(k:Int)))∧l.length=i∧l++JpU (endN Z) (x.kids.toNat-i) p=JpU (endN Z) x.kids.toNat (at_+1)∧J35 Z (x.kids.toNat-i) p (endN Z at_)) x.kids.toNat (by omega) ?_ ?_
 ·exact⟨by simp only[evC,seval,↓evP,rpC],by simp only[evC,seval,↓evP,rpC],by simp only[evC,seval,↓evP,rpC],by omega,Nat.le_refl _,rfl,fun _ _=>rfl,at_+1,[],.slice none 0 0,by simp only[evC,seval,↓evP,rpC],by simp only[evC,seval,↓evP,rpC],.inl ⟨rfl,rfl⟩,rfl,rfl,hch⟩
 rintro i ⟨T1,H1⟩ hi ⟨t0,t21,t22,hil,m1,m2,m3,p,l,w,t6,t5,hL,hll,hlk,hc⟩
 simp only at t0 t21 t22 m1 m2 m3 t6 t5 hL
 by_cases hlt:i<x.kids.toNat
 ·have d1:decide ((i:Int)<x.kids)=true:=by simp;omega
  obtain⟨r,hr1⟩:∃ r,x.kids.toNat-i=r+1:=⟨x.kids.toNat-i-1,by omega⟩
  rw[hr1] at hc hlk
  obtain⟨p',s1,s2,s3,s4⟩:=hc
  have hle:=J2o _ _ _ s4
  have d2:decide ((p:Int)≥(L.length:Int))=false:=by simp;omega
  have hep:=J5P s1
  obtain⟨w',H',happ,hL',fH,nH,oH⟩:=Jqv (x:=(p:Int)) hL m1 (by omega) (by rw[List.length_map];omega)
  have hvH:J0l H' v L:=hv.mono (by omega) fun j hj=>(oH j hj).trans (m3 j hj)
  have hend:=Jt5 (n:=n) hsk hvH s1 (by omega) (by omega)
  have w2:IntKind.i64.wrap ((i:Int)+1)=((i+1:Nat):Int):=J0s (by omega) (by omega)
  simp only[evC,seval,↓evP,t0,t21,t22,t5,t6,d1,hl,d2,bs28,happ,hend,w2]
  refine⟨hlt,by omega,by omega,by omega,fun j hj=>(oH j hj).trans (m3 j hj),p',l++[p],w',rfl,rfl,?_,by rw[List.length_append,hll];rfl,?_,?_⟩
  ·rw[List.map_append]
   exact hL'
  ·rw[List.append_assoc,← hlk,show x.kids.toNat-(i+1)=r by omega]
   show l++(p :: JpU (endN Z) r p')=l++(p :: JpU (endN Z) r (endN Z p))
   rw[hep]
  ·rw[show x.kids.toNat-(i+1)=r by omega]
   exact s4
 ·have d1:decide ((i:Int)<x.kids)=false:=by simp;omega
  rw[show x.kids.toNat-i=0 by omega] at hlk
  have hl9:l=JpU (endN Z) x.kids.toNat (at_+1):=by
   rw[← hlk]
   exact(List.append_nil l).symm
  subst hl9
  simp only[evC,seval,↓evP,hr,t0,t21,t22,t5,t6,d1]
  exact⟨hL,m2,m1,m3⟩
theorem IntL.flat {lo:Nat} {v:Value} {l:List Int} (hl:IntL h lo v l) (hf:J3m v=true) (h':SHeap) (lo':Nat):IntL h' lo' v l:=by
 rcases hl with h1 | ⟨id,c,rfl,_⟩
 ·exact .inl h1
 ·cases hf
theorem JsU {n:Nat} {Z L:List RowN} {v:Value} {at_:Nat} {x:RowN} (ht:J2c Z) (hsk:Jkk L Z) (hv:J0l h v L) (hx:Z[at_]?=some x) (hlen:L.length<100000000) (hn:L.length+20<n) (hfl:h.floor≤h.next) :
  ∃ v' h',J0T n 48 [v,iv at_] h=some (v',h')∧(IntL h' h.next v' ((JpU (endN Z) x.kids.toNat (at_+1)).map (fun (k:Nat)=>(k:Int)))∧h'.floor=h.floor∧h.next≤h'.next∧∀ i,i<h.next→h'.get i=h.get i):=by
 obtain⟨n,rfl⟩:∃ j,n=j+1:=⟨n-1,by omega⟩
 exact k_ex (J13 ⟨rfl,rfl,rfl⟩) (Jrr (n:=n) (N:=n) ht hsk hv hx hlen (by omega) (by omega) hfl) fun v' h1 hf _ ht=>⟨ht.1.flat hf _ _,rfl,Nat.le_refl _,fun _ _=>rfl⟩
end
def Jq0:List Int→Int
 | []=>0
 | x :: l=>(if x<0 then 0 else x)+Jq0 l
def JqS (l:List Int):Int:=if Jq0 l>4611686018427387904 then 4611686018427387904 else Jq0 l
theorem Jqk (a b:List Int):Jq0 (a++b)=Jq0 a+Jq0 b:=by
 induction a with
 | nil=>simp[Jq0]
 | cons x a ih=>simp only[List.cons_append,Jq0,ih];omega
theorem Jq6 (a:List Int):0≤Jq0 a:=by
 induction a with
 | nil=>simp[Jq0]
 | cons x a ih=>simp only[Jq0];split <;> omega
theorem Jr5 {l:List Int} {k:Nat} {x:Int} (hk:l[k]?=some x):Jq0 (l.take (k+1))=Jq0 (l.take k)+(if x<0 then 0 else x):=by
 rw[List.take_add_one,hk,Jqk]
 simp[Jq0]
theorem JrP {l:List Int} (k:Nat):Jq0 (l.take k)≤Jq0 l:=by
 have h:=Jqk (l.take k) (l.drop k)
 rw[List.take_append_drop] at h
 have:=Jq6 (l.drop k)
 omega
def In64 (l:List Int):Prop:=∀ x∈l,-9223372036854775808≤x∧x<9223372036854775808
section
variable {call:J0r} {n:Nat} {h:SHeap} {v:Value} {l:List Int}
theorem JrM (hv:Jao h v l) (hl:In64 l) (hlen:l.length<9223372036854775807) (hn:l.length<n):J0L Tryz.prog call n 17 [v] h=some (.int .i64 (JqS l),h):=by
 refine J1m Tryz.func17 rfl (by simp[Tryz.f17]) ?_
 have hr:Tryz.f17.results.toList=[.tmp 2]:=rfl
 simp only[evC,↓reduceIte,Nat.reduceEqDiff,reduceCtorEq,hv.len Tryz.underlying25,hr]
 refine WK.loop (fun k s=>s.h=h∧s.T.get 6=v∧s.T.get 7=.int .i64 l.length∧s.T.get 8=.int .i64 k∧∃ acc,s.T.get 3=.int .i64 acc∧acc=Jq0 (l.take k)∧acc≤4611686018427387904) l.length hn ?_ ?_
 ·simp only[evC,↓reduceIte,Nat.reduceEqDiff,reduceCtorEq]
  exact⟨rfl,by simp[Jq0],by omega⟩
 ·rintro k ⟨T,h1⟩ hk ⟨rfl,h6,h7,h8,acc,h3,ha,hb⟩
  simp only at h6 h7 h8 h3
  have hacc:=Jq6 (l.take k)
  simp only[evC,↓reduceIte,Nat.reduceEqDiff,reduceCtorEq,h6,h7,h8,h3]
  refine⟨fun hlt=>?_,fun hge=>?_⟩
  ·have hlt':k<l.length:=by omega
   have hx:l[k]?=some l[k]:=List.getElem?_eq_getElem hlt'
   have hin:=hl l[k] (List.getElem_mem hlt')
   have htk:=Jr5 hx
   have hle:=JrP (l:=l) (k+1)
   generalize l[k]=x at hx hin htk
   obtain⟨p,hp1,hp2⟩:=hv.idx Tryz.underlying25 sz3 agg3 hx (kd:=.i64)
   simp only[evC,↓reduceIte,Nat.reduceEqDiff,reduceCtorEq,hp1,hp2,h3,h6,h7,h8]
   have hm:(if (0:Int)>x then 0 else x)=(if x<0 then 0 else x):=rfl
   rw[hm]
   have hm0:0≤(if x<0 then (0:Int) else x)∧(if x<0 then (0:Int) else x)<9223372036854775808:=by split <;> omega
   generalize (if x<0 then (0:Int) else x)=m at htk hm0
   rw[J0s (x:=4611686018427387904-acc) (by omega) (by omega)]
   refine⟨fun hgt=>?_,fun hle'=>⟨hlt',?_,?_,?_⟩⟩
   ·unfold JqS
    rw[if_pos (by omega)]
   ·rw[J0s (by omega) (by omega)];rfl
   ·rw[J0s (by omega) (by omega)];omega
   ·rw[J0s (by omega) (by omega)];omega
  ·have:k=l.length:=by omega
   subst this
   rw[List.take_length] at ha
   unfold JqS
   rw[if_neg (by omega),ha]
end
def JrS (a b:Int):Int:=if a>4611686018427387904-b then 4611686018427387904 else a+b
def JsF (a b:Int):Int:=if a>0∧b>4611686018427387904/a then 4611686018427387904 else a*b
section
variable {call:J0r} {n:Nat} {h:SHeap} {v:Value} {l:List Int}
theorem Jrj {a b:Int} (ha:0≤a∧a≤4611686018427387904) (hb:0≤b∧b≤4611686018427387904):J0L Tryz.prog call n 50 [.int .i64 a,.int .i64 b] h=some (.int .i64 (JrS a b),h):=by
 refine J1m Tryz.func50 rfl (by simp[Tryz.f50]) ?_
 have hr:Tryz.f50.results.toList=[.tmp 4]:=rfl
 simp only[evC,↓reduceIte,Nat.reduceEqDiff,reduceCtorEq,hr,JrS]
 rw[J0s (x:=4611686018427387904-b) (by omega) (by omega)]
 refine⟨fun h1=>?_,fun h1=>?_⟩
 ·rw[if_pos h1]
 ·rw[if_neg h1,J0s (by omega) (by omega)]
theorem Js3 {a b:Int} (ha:0≤a∧a≤4611686018427387904) (hb:0≤b∧b≤4611686018427387904):J0L Tryz.prog call n 51 [.int .i64 a,.int .i64 b] h=some (.int .i64 (JsF a b),h):=by
 refine J1m Tryz.func51 rfl (by simp[Tryz.f51]) ?_
 have hr:Tryz.f51.results.toList=[.tmp 4]:=rfl
 by_cases h0:a>0
 ·simp only[evC,↓reduceIte,Nat.reduceEqDiff,reduceCtorEq,hr,JsF,h0,JjO (show a≠0 by omega)]
  have hq:Int.tdiv 4611686018427387904 a=4611686018427387904/a:=Int.tdiv_eq_ediv_of_nonneg (by omega)
  have h1:4611686018427387904/a≤4611686018427387904:=Int.ediv_le_self _ (by omega)
  have h2:0≤4611686018427387904/a:=Int.ediv_nonneg (by omega) (by omega)
  rw[hq,J0s (x:=4611686018427387904/a) (by omega) (by omega)]
  refine⟨fun h3=>?_,fun h3=>?_⟩
  ·rw[if_pos h3]
  ·rw[if_neg h3]
   have h4:a*b≤4611686018427387904:=by
    have:=Int.mul_le_mul_of_nonneg_left (show b≤4611686018427387904/a by omega) (show 0≤a by omega)
    have:=Int.mul_ediv_self_le (x:=4611686018427387904) (k:=a) (by omega)
    omega
   have h5:0≤a*b:=Int.mul_nonneg (by omega) hb.1
   rw[J0s (by omega) (by omega)]
 ·have ha0:a=0:=by omega
  subst ha0
  simp only[evC,↓reduceIte,Nat.reduceEqDiff,reduceCtorEq,hr,JsF,h0]
  rw[if_neg (fun h=>h.1.elim),Int.zero_mul,J0s (by omega) (by omega)]
end
theorem Jry (a:Nat) (ha:a<18446744073709551616):bits .and .u64 (a:Int) 4294967295=((a%4294967296:Nat):Int):=by
 have h:=bits_and_u64_nat a 4294967295 ha (by omega)
 have e:a &&& 4294967295=a%4294967296:=Nat.and_two_pow_sub_one_eq_mod a 32
 rw[e] at h
 exact h
theorem Jsa (a:Nat):(a:Int).fdiv (2 ^ min ((32:Int).toNat) IntKind.u64.bits)=((a/4294967296:Nat):Int):=by
 rw[Int.fdiv_eq_ediv_of_nonneg _ (by decide)]
 rfl
theorem Jqn (a:Nat) (ha:a<18446744073709551616):IntKind.u64.wrap (a:Int)=(a:Int):=JiL (by omega) (by omega)
theorem mulU (a b:Nat):(a:Int)*(b:Int)=((a*b:Nat):Int):=(Int.natCast_mul a b).symm
theorem addU (a b:Nat):(a:Int)+(b:Int)=((a+b:Nat):Int):=(Int.natCast_add a b).symm
section
variable {call:J0r} {n:Nat} {h:SHeap} {v:Value} {l:List Int}
theorem JrG (x y:Nat) (hx:x<18446744073709551616) (hy:y<18446744073709551616) :
  J0L Tryz.prog call n 41 [.int .u64 x,.int .u64 y] h=some (.tuple #[.int .u64 ((x*y/18446744073709551616:Nat):Int),.int .u64 ((x*y%18446744073709551616:Nat):Int)],h):=by
 refine J1m Tryz.func41 rfl (by simp[Tryz.f41]) ?_
 have hr:Tryz.f41.results.toList=[.tmp 4,.tmp 5]:=rfl
 obtain⟨bd,bt,bw,hhi⟩:=Lib.mul64_hi x y hx hy
 have ba:=Lib.half_mul_le (a:=x/4294967296) (b:=y/4294967296) (by omega) (by omega)
 have h32:¬ (32:Int)<0:=by omega
 simp only[evC,↓reduceIte,Nat.reduceEqDiff,reduceCtorEq,hr,Jjz,Jjv h32,Jry x hx,Jry y hy,Jsa,mulU]
 have b1:=Lib.half_mul_le (a:=x/4294967296) (b:=y%4294967296) (by omega) (by omega)
 have b2:=Lib.half_mul_le (a:=x%4294967296) (b:=y/4294967296) (by omega) (by omega)
 have hq:x*y/18446744073709551616<18446744073709551616:=by
  refine Nat.div_lt_of_lt_mul ?_
  exact Nat.lt_of_le_of_lt (Nat.mul_le_mul_right y (Nat.le_of_lt hx)) (Nat.mul_lt_mul_of_pos_left hy (by omega))
 rw[Jqn (x%4294967296*(y%4294967296)) bd,Jsa,Jqn (x/4294967296*(y%4294967296)) (by omega),addU,Jqn _ bt,Jsa,Jry _ bt,Jqn (x%4294967296*(y/4294967296)) (by omega),addU,Jqn _ bw,Jsa,
  Jqn (x/4294967296*(y/4294967296)) (by omega),addU,Jqn _ (by omega),addU,Jqn _ (by omega),hhi,Ji1]
def fold (l:List Int):Int:=l.foldl (fun n x=>if n*x>4611686018427387904 then 4611686018427387904 else n*x) 1
def Jq5 (l:List Int):Bool:=l.all fun x=>decide (0<x)
def Jqf (l:List Int):Int:=if Jq5 l then fold l else 0
theorem JrN {l:List Int} {k:Nat} {x:Int} (hk:l[k]?=some x):fold (l.take (k+1))=if fold (l.take k)*x>4611686018427387904 then 4611686018427387904 else fold (l.take k)*x:=by
 unfold fold
 rw[List.take_add_one,hk,List.foldl_append]
 rfl
theorem Jr2 {l:List Int} {k:Nat} {x:Int} (hk:l[k]?=some x):Jq5 (l.take (k+1))=(Jq5 (l.take k)&&decide (0<x)):=by
 unfold Jq5
 rw[List.take_add_one,hk,List.all_append]
 simp
theorem Jrp {l:List Int} (h:Jq5 l=true):1≤fold l∧fold l≤4611686018427387904:=by
 have key:∀ (l:List Int) (a:Int),Jq5 l=true→1≤a∧a≤4611686018427387904→1≤l.foldl (fun n x=>if n*x>4611686018427387904 then 4611686018427387904 else n*x) a∧l.foldl (fun n x=>if n*x>4611686018427387904 then 4611686018427387904 else n*x) a≤4611686018427387904:=by
  intro l
  induction l with
  | nil=>intro a _ ha;exact ha
  | cons x l ih=>
   intro a hl ha
   simp only[Jq5,List.all_cons,Bool.and_eq_true,decide_eq_true_eq] at hl
   rw[List.foldl_cons]
   refine ih _ hl.2 ?_
   have:0<a*x:=Int.mul_pos (by omega) hl.1
   split <;> omega
 exact key l 1 h (by omega)
theorem JqM {l:List Int} {k:Nat} {x:Int} (hk:l[k]?=some x) (hx:x≤0):Jq5 l=false:=by
 unfold Jq5
 rw[List.all_eq_false]
 exact⟨x,List.mem_of_getElem? hk,by simp;omega⟩
theorem Jr0 (hm:∀ x y h,x<18446744073709551616→y<18446744073709551616→call 41 [.int .u64 (x:Nat),.int .u64 (y:Nat)] h=some (.tuple #[.int .u64 ((x*y/18446744073709551616:Nat):Int),.int .u64 ((x*y%18446744073709551616:Nat):Int)],h))
  (hv:Jao h v l) (hl:In64 l) (hlen:l.length<9223372036854775807) (hn:l.length<n):J0L Tryz.prog call n 18 [v] h=some (.int .i64 (Jqf l),h):=by
 refine J1m Tryz.func18 rfl (by simp[Tryz.f18]) ?_
 have hr:Tryz.f18.results.toList=[.tmp 2]:=rfl
 simp only[evC,↓reduceIte,Nat.reduceEqDiff,reduceCtorEq,hv.len Tryz.underlying25,hr]
 refine WK.loop (fun k s=>s.h=h∧s.T.get 0=v∧s.T.get 10=v∧s.T.get 11=.int .i64 l.length∧s.T.get 12=.int .i64 k∧s.T.get 3=.int .i64 1∧Jq5 (l.take k)=true) l.length hn ?_ ?_
 ·simp only[evC,↓reduceIte,Nat.reduceEqDiff,reduceCtorEq]
  exact⟨rfl,rfl⟩
 ·rintro k ⟨T,h1⟩ hk ⟨rfl,h0,h10,h11,h12,h3,ha⟩
  simp only at h0 h10 h11 h12 h3
  simp only[evC,↓reduceIte,Nat.reduceEqDiff,reduceCtorEq,h0,h10,h11,h12,h3]
  refine⟨fun hlt=>?_,fun hge=>?_⟩
  ·have hlt':k<l.length:=by omega
   have hx:l[k]?=some l[k]:=List.getElem?_eq_getElem hlt'
   have htk:=Jr2 hx
   have hz:=fun h=>JqM hx h
   generalize l[k]=x at hx htk hz
   obtain⟨p,hp1,hp2⟩:=hv.idx Tryz.underlying25 sz3 agg3 hx (kd:=.i64)
   simp only[evC,↓reduceIte,Nat.reduceEqDiff,reduceCtorEq,hp1,hp2,h0,h10,h11,h12,h3]
   refine⟨fun hle=>?_,fun hgt=>⟨hlt',?_,?_⟩⟩
   ·unfold Jqf
    rw[hz hle]
    rfl
   ·rw[J0s (by omega) (by omega)];rfl
   ·rw[htk,ha];simp;omega
  ·have hkl:k=l.length:=by omega
   subst hkl
   rw[List.take_length] at ha
   simp only[evC,↓reduceIte,Nat.reduceEqDiff,reduceCtorEq,h0,h3,hv.len Tryz.underlying25]
   refine WK.loop (fun k s=>s.h=h1∧s.T.get 19=v∧s.T.get 20=.int .i64 l.length∧s.T.get 21=.int .i64 k∧s.T.get 3=.int .i64 (fold (l.take k))) l.length hn ?_ ?_
   ·simp only[evC,↓reduceIte,Nat.reduceEqDiff,reduceCtorEq,h3]
    exact⟨rfl,rfl⟩
   ·rintro k ⟨T2,h2⟩ hk2 ⟨rfl,h19,h20,h21,h3'⟩
    simp only at h19 h20 h21 h3'
    simp only[evC,↓reduceIte,Nat.reduceEqDiff,reduceCtorEq,h19,h20,h21,h3']
    refine⟨fun hlt=>?_,fun hge=>?_⟩
    ·have hlt':k<l.length:=by omega
     have hx:l[k]?=some l[k]:=List.getElem?_eq_getElem hlt'
     have htk:=JrN hx
     have hin:=hl l[k] (List.getElem_mem hlt')
     have hpos:0<l[k]:=by
      have:=List.all_eq_true.1 ha l[k] (List.getElem_mem hlt')
      simpa using this
     have hfr:=Jrp (l:=l.take k) (by
      unfold Jq5 at ha ⊢
      rw[List.all_eq_true] at ha ⊢
      exact fun x hx=>ha x (List.mem_of_mem_take hx))
     generalize l[k]=x at hx htk hin hpos
     generalize fold (l.take k)=a at htk hfr h3'
     obtain⟨p,hp1,hp2⟩:=hv.idx Tryz.underlying25 sz3 agg3 hx (kd:=.i64)
     obtain⟨a,rfl⟩:∃ m:Nat,a=m:=⟨a.toNat,by omega⟩
     obtain⟨x,rfl⟩:∃ m:Nat,x=m:=⟨x.toNat,by omega⟩
     have hma:=hm a x h2 (by omega) (by omega)
     have hcast:(a:Int)*(x:Int)=((a*x:Nat):Int):=mulU a x
     rw[hcast] at htk
     generalize hhi:a*x/18446744073709551616=hi at hma
     generalize hlo:a*x%18446744073709551616=lo at hma
     generalize a*x=ax at hhi hlo htk
     by_cases hc:(hi:Int)>0
     ·simp only[evC,↓reduceIte,Nat.reduceEqDiff,reduceCtorEq,hp1,hp2,h19,h20,h21,h3',JiE Tryz.underlying3 Tryz.underlying80,Jqn a (by omega),Jqn x (by omega),hma,JiE Tryz.underlying80 Tryz.underlying3,hc]
      refine⟨hlt',?_,?_⟩
      ·rw[J0s (by omega) (by omega)];rfl
      ·rw[htk,if_pos (by omega)]
     ·simp only[evC,↓reduceIte,Nat.reduceEqDiff,reduceCtorEq,hp1,hp2,h19,h20,h21,h3',JiE Tryz.underlying3 Tryz.underlying80,Jqn a (by omega),Jqn x (by omega),hma,JiE Tryz.underlying80 Tryz.underlying3,hc]
      refine⟨fun hgt=>⟨hlt',?_,?_⟩,fun hle=>⟨hlt',?_,?_⟩⟩
      ·rw[J0s (by omega) (by omega)];rfl
      ·rw[htk,if_pos (by omega)]
      ·rw[J0s (by omega) (by omega)];rfl
      ·rw[htk,if_neg (by omega),J0s (by omega) (by omega)];omega
    ·have hkl:k=l.length:=by omega
     subst hkl
     rw[List.take_length] at h3'
     unfold Jqf
     rw[ha,List.take_length]
     rfl
end
theorem J1S.at_ {lo:Nat} {h:SHeap} {v:Value} {l:List Int} (hc:J1S lo h v l):Jao h v l:=by
 obtain⟨hl,a,c,rfl,⟨h0,rfl⟩ | ⟨id,off,row,ty,g,ro,rfl,h1,h2,h3,h4⟩⟩:=hc
 ·refine⟨none,c,by rw[h0],fun b hb=>(by cases hb),fun k x hk=>?_⟩
  rw[List.length_eq_zero_iff.1 h0] at hk
  simp at hk
 ·refine⟨_,c,rfl,fun b hb=>(by cases hb;rfl),fun k x hk=>⟨id,off,row,ty,g,ro,rfl,h1,?_⟩⟩
  have hkl:=(List.getElem?_eq_some_iff.1 hk).1
  have:(ints l)[k]?=some (.int .i64 x):=by rw[J6g,hk];rfl
  rw[← h3,List.getElem?_take_of_lt (by omega),List.getElem?_drop] at this
  exact this
def byN (a b:Int):Int:=if a>0∧b>4611686018427387904/a then 4611686018427387904 else a*b
def sumL (l:List Int):Int:=l.foldl J2I 0
theorem JqI:∀ (l:List Int) (a:Int),Sums l→0≤a→a≤4611686018427387904→0≤l.foldl J2I a∧l.foldl J2I a≤4611686018427387904
 | [],a,_,h1,h2=>⟨h1,h2⟩
 | x :: l,a,hs,h1,h2=>by
  have hx:=hs x (by simp)
  have p:=J3O h1 hx.1 hx.2
  exact JqI l _ (fun y hy=>hs y (by simp[hy])) p.1 p.2
theorem Jqr:∀ (l:List Int) (a:Int),Sums l→0≤a→a≤4611686018427387904→l.foldl J2I a=if a+Jq0 l>4611686018427387904 then 4611686018427387904 else a+Jq0 l
 | [],a,_,h1,h2=>by
  show a=if a+0>4611686018427387904 then 4611686018427387904 else a+0
  rw[Int.add_zero,if_neg (by omega)]
 | x :: l,a,hs,h1,h2=>by
  have hx:=hs x (by simp)
  have p:=J3O h1 hx.1 hx.2
  have hp:=Jq6 l
  show l.foldl J2I (J2I a x)=_
  rw[Jqr l _ (fun y hy=>hs y (by simp[hy])) p.1 p.2]
  show _=if a+((if x<0 then 0 else x)+Jq0 l)>4611686018427387904 then 4611686018427387904 else a+((if x<0 then 0 else x)+Jq0 l)
  rw[if_neg (show ¬ x<0 by omega)]
  unfold J2I
  (repeat' split) <;> omega
theorem Js7 {l:List Int} (hs:Sums l):JqS l=sumL l:=by
 unfold sumL JqS
 rw[Jqr l 0 hs (by decide) (by decide),Int.zero_add]
theorem Jrw {a b:Int} (ha:0≤a∧a≤4611686018427387904) (hb:0≤b∧b≤4611686018427387904):0≤byN a b∧byN a b≤4611686018427387904:=by
 unfold byN
 by_cases h:a>0∧b>4611686018427387904/a
 ·rw[if_pos h]
  omega
 ·rw[if_neg h]
  refine⟨Int.mul_nonneg ha.1 hb.1,?_⟩
  by_cases h0:a>0
  ·have h1:=Int.mul_le_mul_of_nonneg_left (show b≤4611686018427387904/a by omega) (show 0≤a by omega)
   have h2:=Int.mul_ediv_self_le (x:=4611686018427387904) (k:=a) (by omega)
   omega
  ·rw[show a=0 by omega,Int.zero_mul]
   decide
theorem JsB {a b:Int} (ha:0≤a∧a≤4611686018427387904) (hb:0≤b∧b≤4611686018427387904):Jqf [a,b]=byN a b:=by
 unfold Jqf byN
 by_cases h1:0<a
 ·by_cases h2:0<b
  ·have e1:Jq5 [a,b]=true:=by simp[Jq5,h1,h2]
   rw[e1,if_pos rfl]
   show (if (if 1*a>4611686018427387904 then 4611686018427387904 else 1*a)*b>4611686018427387904 then 4611686018427387904 else (if 1*a>4611686018427387904 then 4611686018427387904 else 1*a)*b)=_
   rw[Int.one_mul]
   simp only[if_neg (show ¬ a>4611686018427387904 by omega)]
   have hd:b>4611686018427387904/a↔a*b>4611686018427387904:=by
    have:=Int.ediv_lt_iff_lt_mul (a:=4611686018427387904) (b:=b) (c:=a) (by omega)
    rw[Int.mul_comm a b]
    exact this
   by_cases h3:a*b>4611686018427387904
   ·rw[if_pos h3,if_pos ⟨by omega,hd.2 h3⟩]
   ·rw[if_neg h3,if_neg (fun h=>h3 (hd.1 h.2))]
  ·have e1:Jq5 [a,b]=false:=by simp[Jq5];omega
   have h0:0≤4611686018427387904/a:=Int.ediv_nonneg (by omega) (by omega)
   rw[e1,if_neg (by decide),if_neg (fun h=>by omega),show b=0 by omega,Int.mul_zero]
 ·have e1:Jq5 [a,b]=false:=by simp[Jq5];omega
  rw[e1,if_neg (by decide),if_neg (fun h=>by omega),show a=0 by omega,Int.zero_mul]
section
variable {n lo:Nat} {h:SHeap} {v:Value} {l:List Int}
theorem JrH {l:List Int} (hs:Sums l):In64 l:=fun x hx=>by have:=hs x hx;omega
theorem Jsr (hv:J1S lo h v l) (hs:Sums l) (hlen:l.length<1000000000000) (hn:l.length+5<n):J0T n 17 [v] h=some (iv (sumL l),h):=by
 obtain⟨n,rfl⟩:∃ j,n=j+1:=⟨n-1,by omega⟩
 rw[← Js7 hs]
 exact J6r (J13 ⟨rfl,rfl,rfl⟩) rfl (JrM hv.at_ (JrH hs) (by omega) (by omega))
theorem JsC {x y:Nat} (hx:x<18446744073709551616) (hy:y<18446744073709551616) (hn:0<n) :
  J0T n 41 [.int .u64 x,.int .u64 y] h=some (.tuple #[.int .u64 ((x*y/18446744073709551616:Nat):Int),.int .u64 ((x*y%18446744073709551616:Nat):Int)],h):=by
 obtain⟨n,rfl⟩:∃ j,n=j+1:=⟨n-1,by omega⟩
 exact J6r (J13 ⟨rfl,rfl,rfl⟩) (by simp[J3m,flat,J1i]) (JrG x y hx hy)
theorem Jsw (hv:J1S lo h v l) (hs:In64 l) (hlen:l.length<1000000000000) (hn:l.length+5<n):J0T n 18 [v] h=some (iv (Jqf l),h):=by
 obtain⟨n,rfl⟩:∃ j,n=j+1:=⟨n-1,by omega⟩
 exact J6r (J13 ⟨rfl,rfl,rfl⟩) rfl (Jr0 (fun x y h hx hy=>JsC hx hy (by omega)) hv.at_ hs (by omega) (by omega))
theorem Jqe {a b:Int} (ha:0≤a∧a≤4611686018427387904) (hb:0≤b∧b≤4611686018427387904) (hn:0<n):J0T n 50 [iv a,iv b] h=some (iv (J2I a b),h):=by
 obtain⟨n,rfl⟩:∃ j,n=j+1:=⟨n-1,by omega⟩
 exact J6r (J13 ⟨rfl,rfl,rfl⟩) rfl (Jrj ha hb)
theorem JsW {a b:Int} (ha:0≤a∧a≤4611686018427387904) (hb:0≤b∧b≤4611686018427387904) (hn:0<n):J0T n 51 [iv a,iv b] h=some (iv (byN a b),h):=by
 obtain⟨n,rfl⟩:∃ j,n=j+1:=⟨n-1,by omega⟩
 exact J6r (J13 ⟨rfl,rfl,rfl⟩) rfl (Js3 ha hb)
end
def vAt (vs:List Int) (i:Nat):Int:=(vs[i]?).getD 0
def valK (k:Int) (vs:List Int) (r q:Int):Int:=
 if k=24 then 0
 else J2I (if k=12 then J2I (vAt vs 0) (if vAt vs 2>vAt vs 1 then vAt vs 2 else vAt vs 1)
  else if k=13 then byN r (J2I (vAt vs 1) (vAt vs 2)) else if k=22 then q else sumL vs) 1
def valM (R:List RowN) (e:Nat→Nat) (rd S:List Int):Nat→Nat→Int
 | 0,_=>0
 | m+1,at_=>match R[at_]? with
  | none=>0
  | some x=>valK x.kind ((JpU e x.kids.toNat (at_+1)).map (valM R e rd S m)) ((rd[at_]?).getD 0) (J5y S x.n)
def valA (R:List RowN) (e:Nat→Nat) (rd S:List Int) (at_:Nat):Int:=valM R e rd S R.length at_
theorem JrE {vs:List Int} (hs:Sums vs) (i:Nat):0≤vAt vs i∧vAt vs i≤4611686018427387904:=by
 unfold vAt
 cases h:vs[i]? with
 | none=>exact⟨by simp,by simp⟩
 | some x=>exact hs x (List.mem_of_getElem? h)
theorem Jsx {k:Int} {vs:List Int} {r q:Int} (hs:Sums vs) (hr:0≤r∧r≤4611686018427387904) (hq:0≤q∧q≤4611686018427387904):0≤valK k vs r q∧valK k vs r q≤4611686018427387904:=by
 have v0:=JrE hs 0
 have v1:=JrE hs 1
 have v2:=JrE hs 2
 unfold valK
 by_cases h24:k=24
 ·rw[if_pos h24]
  exact⟨by decide,by decide⟩
 rw[if_neg h24]
 refine J3O ?_ (by decide) (by decide) |>.imp id id
 by_cases h12:k=12
 ·rw[if_pos h12]
  exact(J3O v0.1 (by split <;> omega) (by split <;> omega)).1
 rw[if_neg h12]
 by_cases h13:k=13
 ·rw[if_pos h13]
  have p:=J3O v1.1 v2.1 v2.2
  exact(Jrw hr p).1
 rw[if_neg h13]
 by_cases h22:k=22
 ·rw[if_pos h22];exact hq.1
 ·rw[if_neg h22]
  exact(JqI vs 0 hs (by decide) (by decide)).1
def Jq9 (rd:List Int):Prop:=∀ x∈rd,0≤x∧x≤4194304
theorem Jqw {rd:List Int} (h:Jq9 rd) (i:Nat):0≤(rd[i]?).getD 0∧(rd[i]?).getD 0≤4611686018427387904:=by
 cases hx:rd[i]? with
 | none=>exact⟨by simp,by simp⟩
 | some x=>have:=h x (List.mem_of_getElem? hx);simp only[Option.getD_some];omega
section
variable {R Z:List RowN} {e:Nat→Nat} {rd S:List Int}
theorem JqU (hr:Jq9 rd) (hs:Sums S):∀ m at_,0≤valM R e rd S m at_∧valM R e rd S m at_≤4611686018427387904
 | 0,at_=>(by decide:(0:Int)≤0∧(0:Int)≤4611686018427387904)
 | m+1,at_=>by
  unfold valM
  cases R[at_]? with
  | none=>exact(by decide:(0:Int)≤0∧(0:Int)≤4611686018427387904)
  | some x=>
   refine Jsx (fun y hy=>?_) (Jqw hr at_) (Jfo hs x.n)
   obtain⟨k,_,rfl⟩:=List.mem_map.1 hy
   exact JqU hr hs m k
theorem JqT (hr:Jq9 rd) (hs:Sums S) (m:Nat) (ks:List Nat):Sums (ks.map (valM R e rd S m)):=fun y hy=>by
 obtain⟨k,_,rfl⟩:=List.mem_map.1 hy
 exact JqU hr hs m k
theorem Jqq:∀ (c p q:Nat),J35 Z c p q→∀ k∈JpU (endN Z) c p,∃ qk,SubT Z k qk∧p≤k∧qk≤q
 | 0,p,q,_,k,hk=>by simp[JpU] at hk
 | c+1,p,q,⟨p',h1,h2,h3,h4⟩,k,hk=>by
  have hle:=J2o _ _ _ h4
  simp only[JpU,List.mem_cons] at hk
  rcases hk with rfl | hk
  ·exact⟨p',h1,Nat.le_refl _,by omega⟩
  ·rw[J5P h1] at hk
   obtain⟨qk,a,b,d⟩:=Jqq c p' q h4 k hk
   exact⟨qk,a,by omega,d⟩
theorem Jse (hsk:Jkk R Z):∀ d m at_ q,SubT Z at_ q→q-at_≤d→d≤m→valM R (endN Z) rd S m at_=valM R (endN Z) rd S d at_:=by
 intro d
 induction d with
 | zero=>intro m at_ q h hd;have:=h.lt;omega
 | succ d ih=>
  intro m at_ q h hd hm
  obtain⟨m,rfl⟩:∃ j,m=j+1:=⟨m-1,by omega⟩
  obtain⟨x,hx,_,_,hc⟩:=h.kids
  obtain⟨y,hy,hyk⟩:=hsk.2 _ x hx
  unfold valM
  rw[hy]
  simp only
  congr 1
  refine List.map_congr_left fun k hk=>?_
  rw[hyk] at hk
  obtain⟨qk,a,b,c⟩:=Jqq _ _ _ hc k hk
  exact ih m k qk a (by omega) (by omega)
theorem Jru (ht:J2c Z) (hsk:Jkk R Z) {at_:Nat} {x:RowN} (hx:R[at_]?=some x):valA R (endN Z) rd S at_=valK x.kind ((JpU (endN Z) x.kids.toNat (at_+1)).map (valA R (endN Z) rd S)) ((rd[at_]?).getD 0) (J5y S x.n):=by
 have hl:=(List.getElem?_eq_some_iff.1 hx).1
 have hZ:=hsk.1
 have hs:=ht.end (show at_<Z.length by omega)
 have hq:=hs.lt
 have e1:valA R (endN Z) rd S at_=valM R (endN Z) rd S (R.length+1) at_:=(Jse hsk R.length (R.length+1) at_ _ hs (by omega) (by omega)).symm
 rw[e1]
 unfold valM
 rw[hx]
 rfl
theorem JqJ (hr:Jq9 rd) (hs:Sums S) (at_:Nat):0≤valA R e rd S at_∧valA R e rd S at_≤4611686018427387904:=JqU hr hs _ _
end
theorem Jr3 {vs:List Int} (hs:Sums vs):sumL (1 :: vs)=J2I (sumL vs) 1:=by
 have p:=Jq6 vs
 show vs.foldl J2I (J2I 0 1)=J2I (vs.foldl J2I 0) 1
 rw[Jqr vs (J2I 0 1) hs (by decide) (by decide),Jqr vs 0 hs (by decide) (by decide),show J2I 0 1=1 by decide]
 unfold J2I
 (repeat' split) <;> omega
theorem Jsh {a b:Int} (ha:0≤a∧a≤4611686018427387904) (hb:0≤b∧b≤4611686018427387904):sumL [1,a,b]=J2I (J2I a b) 1:=by
 rw[Jr3 (fun x hx=>by simp only[List.mem_cons,List.not_mem_nil,or_false] at hx;rcases hx with rfl | rfl <;> omega)]
 show J2I (J2I (J2I 0 a) b) 1=_
 rw[show J2I 0 a=a by unfold J2I;rw[if_neg (by omega),Int.zero_add]]
theorem Jrv {a:Int} (ha:0≤a∧a≤4611686018427387904):sumL [1,a]=J2I a 1:=by
 rw[Jr3 (fun x hx=>by simp only[List.mem_cons,List.not_mem_nil,or_false] at hx;subst hx;exact ha)]
 show J2I (J2I 0 a) 1=_
 rw[show J2I 0 a=a by unfold J2I;rw[if_neg (by omega),Int.zero_add]]
theorem Jrd {a b:Int} (ha:0≤a∧a≤4611686018427387904):sumL [a,b]=J2I a b:=by
 show J2I (J2I 0 a) b=_
 rw[show J2I 0 a=a by unfold J2I;rw[if_neg (by omega),Int.zero_add]]
theorem JrD {a b r q:Int} (hb:0≤b):valK 12 [a,b] r q=J2I (J2I a b) 1:=by
 show J2I (J2I a (if (0:Int)>b then 0 else b)) 1=_
 rw[if_neg (show ¬ (0:Int)>b by omega)]
theorem JrB {a b c r q:Int}:valK 12 [a,b,c] r q=J2I (J2I a (if c>b then c else b)) 1:=rfl
theorem JqQ {a b c r q:Int}:valK 13 [a,b,c] r q=J2I (byN r (J2I b c)) 1:=rfl
theorem JqR {vs:List Int} {r q:Int}:valK 22 vs r q=J2I q 1:=rfl
theorem JqO {k:Int} {vs:List Int} {r q:Int} (h1:k≠24) (h2:k≠12) (h3:k≠13) (h4:k≠22):valK k vs r q=J2I (sumL vs) 1:=by
 unfold valK
 rw[if_neg h1,if_neg h2,if_neg h3,if_neg h4]
end Go.Proofs.YtipekdhneagdbaaGreatDoor
