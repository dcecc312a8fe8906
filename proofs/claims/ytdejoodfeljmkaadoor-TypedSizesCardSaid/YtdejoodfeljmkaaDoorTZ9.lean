/- Part 9 of what the claim leans on: 28 texts laid one behind another. -/
import Derived.Test.YtdejoodfeljmkaaDoorTZ8
namespace Go.Proofs.YtdejoodfeljmkaaDoor
open Go Go.Sx
set_option maxRecDepth 100000
set_option linter.unusedSimpArgs false
set_option linter.unusedVariables false
set_option maxHeartbeats 64000000
section
variable {h:AA} {lo m k c e r n:Nat} {nm:ByteArray} {E:List Int} {tag:Nat→Nat} {vq vv vt vu vo:Value} {es:List (Value × Value)} {s:AN}
theorem qW {l:List (ByteArray × Bool)} {x:ByteArray × Bool}:C1 l++[.string x.1,.bool x.2]=C1 (l++[x]):=by simp[C1]
theorem jE {l:List ByteArray} {x:ByteArray}:C7 l++[.string x]=C7 (l++[x]):=by simp[C7]
theorem m9 {l:List Int} {x:Int}:ints l++[iv x]=ints (l++[x]):=by simp[ints]
theorem BH.appQ (hp:BH h lo m k c e r n nm E tag vq vv vt vu vo es s) (x:(ByteArray × Bool)) (hb:s.queues.length<10000000):∃ v' h1,DL Tryd.prog (h.push (.row [.string x.1,.bool x.2] 102 false false)) 30 vq (qS h.next 1 1)=some (v',h1)∧h1.get m=h.get m∧one v'=true∧v'.cells=#[v']∧h1.floor=h.floor∧h1.next=h.next+2∧(∀ i,i<h.next→i<lo∨11≤tag i→h1.get i=h.get i) ∧
  BH (h1.put m (.row [.string nm,qS r n AO,v',vv,vt,vu,vo,iv s.miss,.map (some k),.map (some c)] 69 false false)) lo m k c e r n nm E (fun i=>if i=h.next+1 then 2 else tag i) v' vv vt vu vo es { s with queues:=s.queues++[x] }:=by
 have hlm:=hp.lm
 have hpp:=hp.mono (h':=h.push (.row [.string x.1,.bool x.2] 102 false false)) (tag':=fun i=>if i=h.next then 11 else tag i) (by show h.next≤h.next+1;omega) rfl (fun i hi=>if_neg (by omega)) fun i _ hi=>AR hi
 obtain⟨v',h1,a1,a2,a3,a4,a5,a6,a7⟩:=O8 (et:=102) (w:=2) (c:=1) (sc:=1) (xs:=[.string x.1,.bool x.2]) Tryd.underlying30 O3 j8 RS rfl (by decide) (by decide) hpp.pol.q (N_ _) (cF _) rfl rfl (by decide) (by decide) (by omega) (src:=h.next) BM (by show h.next<h.next+1;omega) hp.fl (by simp)
 have hnx:h1.next=h.next+2:=a4
 have hold:∀ i,i<h.next→¬ (lo≤i∧tag i=2)→h1.get i=h.get i:=fun i hi hne=>by
  rw[a7 i (by show i<h.next+1;omega) (by rw[if_neg (by omega)];exact hne),AR hi]
 have hm1:m<h1.next:=by omega
 have hgm:h1.get m=h.get m:=hold m hlm.2 (by rw[hp.tm];omega)
 have hSl:E3 h1 lo (fun i=>if i=h.next+1 then 2 else tag i) 2 v' (s.queues.length+1) (C1 s.queues++[.string x.1,.bool x.2]) 102:=by
  rcases a2 with a2 | a2
  ·refine a2.mono' fun i hi=>?_
   show (if i=h.next+1 then 2 else tag i)=(if i=h.next+1 then 2 else if i=h.next then 11 else tag i)∨(if i=h.next+1 then 2 else if i=h.next then 11 else tag i)≠2
   by_cases e1:i=h.next+1
   ·left;rw[if_pos e1,if_pos e1]
   ·rw[if_neg e1,if_neg e1]
    by_cases e2:i=h.next
    ·right;rw[if_pos e2];decide
    ·left;rw[if_neg e2]
  ·exact absurd (show lo≤h.next+1 by omega) a2
 refine⟨v',h1,a1,hgm,a5,a6,a3,hnx,fun i hi hlo=>hold i hi (by omega),?_⟩
 have hn2:h.next≤(h1.put m (.row [.string nm,qS r n AO,v',vv,vt,vu,vo,iv s.miss,.map (some k),.map (some c)] 69 false false)).next:=by show h.next≤h1.next;omega
 have ht2:∀ i,i<h.next→(fun i=>if i=h.next+1 then 2 else tag i) i=tag i:=fun i hi=>if_neg (by omega)
 have hg2:∀ i,lo≤i→i<h.next→tag i≠0→tag i≠2→(h1.put m (.row [.string nm,qS r n AO,v',vv,vt,vu,vo,iv s.miss,.map (some k),.map (some c)] 69 false false)).get i=h.get i:=fun i h1' h2 h3 h4=>by
  rw[AV hm1 (GB (tag:=tag) (by rw[hp.tm];exact h3.symm)),hold i h2 (fun e=>h4 e.2)]
 have hgj:∀ jj,jj≠0→jj≠2→(jj≠2)→∀ i,lo≤i→i<h.next→tag i=jj→(h1.put m (.row [.string nm,qS r n AO,v',vv,vt,vu,vo,iv s.miss,.map (some k),.map (some c)] 69 false false)).get i=h.get i:=fun jj z1 z2 _ i h1' h2 h3=>hg2 i h1' h2 (by omega) (by omega)
 refine hp.pol' hn2 a3 ht2 (fun i h1' h2 h3=>hg2 i h1' h2 (by omega) (by omega)) (B0 rfl hm1) ?_ rfl
 exact
  { rows:=by rw[hg2 r hp.pol.lr.1 hp.pol.lr.2 (by rw[hp.pol.tr];decide) (by rw[hp.pol.tr];decide)];exact hp.pol.rows
    len:=hp.pol.len
    tr:=(ht2 r hp.pol.lr.2).trans hp.pol.tr
    lr:=⟨hp.pol.lr.1,by have:=hp.pol.lr.2;omega⟩
    q:=by
     have h9:=hSl.mono (h':=(h1.put m (.row [.string nm,qS r n AO,v',vv,vt,vu,vo,iv s.miss,.map (some k),.map (some c)] 69 false false))) (Nat.le_refl _) (fun _ _=>rfl) fun i _ _ h3=>AV hm1 (GB (tag:=fun i=>if i=h.next+1 then 2 else tag i) (by rw[h3];show (if m=h.next+1 then _ else tag m)≠_;rw[if_neg (by omega),hp.tm];decide))
     rw[qW] at h9
     simp only[List.length_append,List.length_cons,List.length_nil]
     exact h9
    v:=hp.pol.v.mono hn2 ht2 (hgj 3 (by decide) (by decide) (by decide))
    t:=hp.pol.t.mono hn2 ht2 (hgj 4 (by decide) (by decide) (by decide))
    u:=hp.pol.u.mono hn2 ht2 (hgj 5 (by decide) (by decide) (by decide))
    o:=hp.pol.o.mono hn2 ht2 (hgj 6 (by decide) (by decide) (by decide)) }
theorem BH.appV (hp:BH h lo m k c e r n nm E tag vq vv vt vu vo es s) (x:ByteArray) (hb:s.vars.length<10000000):∃ v' h1,DL Tryd.prog (h.push (.row [.string x] 9 false false)) 31 vv (qS h.next 1 1)=some (v',h1)∧h1.get m=h.get m∧one v'=true∧v'.cells=#[v']∧h1.floor=h.floor∧h1.next=h.next+2∧(∀ i,i<h.next→i<lo∨11≤tag i→h1.get i=h.get i) ∧
  BH (h1.put m (.row [.string nm,qS r n AO,vq,v',vt,vu,vo,iv s.miss,.map (some k),.map (some c)] 69 false false)) lo m k c e r n nm E (fun i=>if i=h.next+1 then 3 else tag i) vq v' vt vu vo es { s with vars:=s.vars++[x] }:=by
 have hlm:=hp.lm
 have hpp:=hp.mono (h':=h.push (.row [.string x] 9 false false)) (tag':=fun i=>if i=h.next then 11 else tag i) (by show h.next≤h.next+1;omega) rfl (fun i hi=>if_neg (by omega)) fun i _ hi=>AR hi
 obtain⟨v',h1,a1,a2,a3,a4,a5,a6,a7⟩:=O8 (et:=9) (w:=1) (c:=1) (sc:=1) (xs:=[.string x]) Tryd.underlying31 L_ VN SF rfl (by decide) (by decide) hpp.pol.v (by rw[Nat.mul_one];exact UO _) (W6 _) rfl rfl (by decide) (by decide) (by omega) (src:=h.next) BM (by show h.next<h.next+1;omega) hp.fl (by simp)
 have hnx:h1.next=h.next+2:=a4
 have hold:∀ i,i<h.next→¬ (lo≤i∧tag i=3)→h1.get i=h.get i:=fun i hi hne=>by
  rw[a7 i (by show i<h.next+1;omega) (by rw[if_neg (by omega)];exact hne),AR hi]
 have hm1:m<h1.next:=by omega
 have hgm:h1.get m=h.get m:=hold m hlm.2 (by rw[hp.tm];omega)
 have hSl:E3 h1 lo (fun i=>if i=h.next+1 then 3 else tag i) 3 v' (s.vars.length+1) (C7 s.vars++[.string x]) 9:=by
  rcases a2 with a2 | a2
  ·refine a2.mono' fun i hi=>?_
   show (if i=h.next+1 then 3 else tag i)=(if i=h.next+1 then 3 else if i=h.next then 11 else tag i)∨(if i=h.next+1 then 3 else if i=h.next then 11 else tag i)≠3
   by_cases e1:i=h.next+1
   ·left;rw[if_pos e1,if_pos e1]
   ·rw[if_neg e1,if_neg e1]
    by_cases e2:i=h.next
    ·right;rw[if_pos e2];decide
    ·left;rw[if_neg e2]
  ·exact absurd (show lo≤h.next+1 by omega) a2
 refine⟨v',h1,a1,hgm,a5,a6,a3,hnx,fun i hi hlo=>hold i hi (by omega),?_⟩
 have hn2:h.next≤(h1.put m (.row [.string nm,qS r n AO,vq,v',vt,vu,vo,iv s.miss,.map (some k),.map (some c)] 69 false false)).next:=by show h.next≤h1.next;omega
 have ht2:∀ i,i<h.next→(fun i=>if i=h.next+1 then 3 else tag i) i=tag i:=fun i hi=>if_neg (by omega)
 have hg2:∀ i,lo≤i→i<h.next→tag i≠0→tag i≠3→(h1.put m (.row [.string nm,qS r n AO,vq,v',vt,vu,vo,iv s.miss,.map (some k),.map (some c)] 69 false false)).get i=h.get i:=fun i h1' h2 h3 h4=>by
  rw[AV hm1 (GB (tag:=tag) (by rw[hp.tm];exact h3.symm)),hold i h2 (fun e=>h4 e.2)]
 have hgj:∀ jj,jj≠0→jj≠3→(jj≠3)→∀ i,lo≤i→i<h.next→tag i=jj→(h1.put m (.row [.string nm,qS r n AO,vq,v',vt,vu,vo,iv s.miss,.map (some k),.map (some c)] 69 false false)).get i=h.get i:=fun jj z1 z2 _ i h1' h2 h3=>hg2 i h1' h2 (by omega) (by omega)
 refine hp.pol' hn2 a3 ht2 (fun i h1' h2 h3=>hg2 i h1' h2 (by omega) (by omega)) (B0 rfl hm1) ?_ rfl
 exact
  { rows:=by rw[hg2 r hp.pol.lr.1 hp.pol.lr.2 (by rw[hp.pol.tr];decide) (by rw[hp.pol.tr];decide)];exact hp.pol.rows
    len:=hp.pol.len
    tr:=(ht2 r hp.pol.lr.2).trans hp.pol.tr
    lr:=⟨hp.pol.lr.1,by have:=hp.pol.lr.2;omega⟩
    q:=hp.pol.q.mono hn2 ht2 (hgj 2 (by decide) (by decide) (by decide))
    v:=by
     have h9:=hSl.mono (h':=(h1.put m (.row [.string nm,qS r n AO,vq,v',vt,vu,vo,iv s.miss,.map (some k),.map (some c)] 69 false false))) (Nat.le_refl _) (fun _ _=>rfl) fun i _ _ h3=>AV hm1 (GB (tag:=fun i=>if i=h.next+1 then 3 else tag i) (by rw[h3];show (if m=h.next+1 then _ else tag m)≠_;rw[if_neg (by omega),hp.tm];decide))
     rw[jE] at h9
     simp only[List.length_append,List.length_cons,List.length_nil]
     exact h9
    t:=hp.pol.t.mono hn2 ht2 (hgj 4 (by decide) (by decide) (by decide))
    u:=hp.pol.u.mono hn2 ht2 (hgj 5 (by decide) (by decide) (by decide))
    o:=hp.pol.o.mono hn2 ht2 (hgj 6 (by decide) (by decide) (by decide)) }
theorem BH.appT (hp:BH h lo m k c e r n nm E tag vq vv vt vu vo es s) (x:ByteArray) (hb:s.tags.length<10000000):∃ v' h1,DL Tryd.prog (h.push (.row [.string x] 9 false false)) 31 vt (qS h.next 1 1)=some (v',h1)∧h1.get m=h.get m∧one v'=true∧v'.cells=#[v']∧h1.floor=h.floor∧h1.next=h.next+2∧(∀ i,i<h.next→i<lo∨11≤tag i→h1.get i=h.get i) ∧
  BH (h1.put m (.row [.string nm,qS r n AO,vq,vv,v',vu,vo,iv s.miss,.map (some k),.map (some c)] 69 false false)) lo m k c e r n nm E (fun i=>if i=h.next+1 then 4 else tag i) vq vv v' vu vo es { s with tags:=s.tags++[x] }:=by
 have hlm:=hp.lm
 have hpp:=hp.mono (h':=h.push (.row [.string x] 9 false false)) (tag':=fun i=>if i=h.next then 11 else tag i) (by show h.next≤h.next+1;omega) rfl (fun i hi=>if_neg (by omega)) fun i _ hi=>AR hi
 obtain⟨v',h1,a1,a2,a3,a4,a5,a6,a7⟩:=O8 (et:=9) (w:=1) (c:=1) (sc:=1) (xs:=[.string x]) Tryd.underlying31 L_ VN SF rfl (by decide) (by decide) hpp.pol.t (by rw[Nat.mul_one];exact UO _) (W6 _) rfl rfl (by decide) (by decide) (by omega) (src:=h.next) BM (by show h.next<h.next+1;omega) hp.fl (by simp)
 have hnx:h1.next=h.next+2:=a4
 have hold:∀ i,i<h.next→¬ (lo≤i∧tag i=4)→h1.get i=h.get i:=fun i hi hne=>by
  rw[a7 i (by show i<h.next+1;omega) (by rw[if_neg (by omega)];exact hne),AR hi]
 have hm1:m<h1.next:=by omega
 have hgm:h1.get m=h.get m:=hold m hlm.2 (by rw[hp.tm];omega)
 have hSl:E3 h1 lo (fun i=>if i=h.next+1 then 4 else tag i) 4 v' (s.tags.length+1) (C7 s.tags++[.string x]) 9:=by
  rcases a2 with a2 | a2
  ·refine a2.mono' fun i hi=>?_
   show (if i=h.next+1 then 4 else tag i)=(if i=h.next+1 then 4 else if i=h.next then 11 else tag i)∨(if i=h.next+1 then 4 else if i=h.next then 11 else tag i)≠4
   by_cases e1:i=h.next+1
   ·left;rw[if_pos e1,if_pos e1]
   ·rw[if_neg e1,if_neg e1]
    by_cases e2:i=h.next
    ·right;rw[if_pos e2];decide
    ·left;rw[if_neg e2]
  ·exact absurd (show lo≤h.next+1 by omega) a2
 refine⟨v',h1,a1,hgm,a5,a6,a3,hnx,fun i hi hlo=>hold i hi (by omega),?_⟩
 have hn2:h.next≤(h1.put m (.row [.string nm,qS r n AO,vq,vv,v',vu,vo,iv s.miss,.map (some k),.map (some c)] 69 false false)).next:=by show h.next≤h1.next;omega
 have ht2:∀ i,i<h.next→(fun i=>if i=h.next+1 then 4 else tag i) i=tag i:=fun i hi=>if_neg (by omega)
 have hg2:∀ i,lo≤i→i<h.next→tag i≠0→tag i≠4→(h1.put m (.row [.string nm,qS r n AO,vq,vv,v',vu,vo,iv s.miss,.map (some k),.map (some c)] 69 false false)).get i=h.get i:=fun i h1' h2 h3 h4=>by
  rw[AV hm1 (GB (tag:=tag) (by rw[hp.tm];exact h3.symm)),hold i h2 (fun e=>h4 e.2)]
 have hgj:∀ jj,jj≠0→jj≠4→(jj≠4)→∀ i,lo≤i→i<h.next→tag i=jj→(h1.put m (.row [.string nm,qS r n AO,vq,vv,v',vu,vo,iv s.miss,.map (some k),.map (some c)] 69 false false)).get i=h.get i:=fun jj z1 z2 _ i h1' h2 h3=>hg2 i h1' h2 (by omega) (by omega)
 refine hp.pol' hn2 a3 ht2 (fun i h1' h2 h3=>hg2 i h1' h2 (by omega) (by omega)) (B0 rfl hm1) ?_ rfl
 exact
  { rows:=by rw[hg2 r hp.pol.lr.1 hp.pol.lr.2 (by rw[hp.pol.tr];decide) (by rw[hp.pol.tr];decide)];exact hp.pol.rows
    len:=hp.pol.len
    tr:=(ht2 r hp.pol.lr.2).trans hp.pol.tr
    lr:=⟨hp.pol.lr.1,by have:=hp.pol.lr.2;omega⟩
    q:=hp.pol.q.mono hn2 ht2 (hgj 2 (by decide) (by decide) (by decide))
    v:=hp.pol.v.mono hn2 ht2 (hgj 3 (by decide) (by decide) (by decide))
    t:=by
     have h9:=hSl.mono (h':=(h1.put m (.row [.string nm,qS r n AO,vq,vv,v',vu,vo,iv s.miss,.map (some k),.map (some c)] 69 false false))) (Nat.le_refl _) (fun _ _=>rfl) fun i _ _ h3=>AV hm1 (GB (tag:=fun i=>if i=h.next+1 then 4 else tag i) (by rw[h3];show (if m=h.next+1 then _ else tag m)≠_;rw[if_neg (by omega),hp.tm];decide))
     rw[jE] at h9
     simp only[List.length_append,List.length_cons,List.length_nil]
     exact h9
    u:=hp.pol.u.mono hn2 ht2 (hgj 5 (by decide) (by decide) (by decide))
    o:=hp.pol.o.mono hn2 ht2 (hgj 6 (by decide) (by decide) (by decide)) }
theorem BH.appU (hp:BH h lo m k c e r n nm E tag vq vv vt vu vo es s) (x:Int) (hb:s.rules.length<10000000):∃ v' h1,DL Tryd.prog (h.push (.row [iv x] 3 false false)) 27 vu (qS h.next 1 1)=some (v',h1)∧h1.get m=h.get m∧one v'=true∧v'.cells=#[v']∧h1.floor=h.floor∧h1.next=h.next+2∧(∀ i,i<h.next→i<lo∨11≤tag i→h1.get i=h.get i) ∧
  BH (h1.put m (.row [.string nm,qS r n AO,vq,vv,vt,v',vo,iv s.miss,.map (some k),.map (some c)] 69 false false)) lo m k c e r n nm E (fun i=>if i=h.next+1 then 5 else tag i) vq vv vt v' vo es { s with rules:=s.rules++[x] }:=by
 have hlm:=hp.lm
 have hpp:=hp.mono (h':=h.push (.row [iv x] 3 false false)) (tag':=fun i=>if i=h.next then 11 else tag i) (by show h.next≤h.next+1;omega) rfl (fun i hi=>if_neg (by omega)) fun i _ hi=>AR hi
 obtain⟨v',h1,a1,a2,a3,a4,a5,a6,a7⟩:=O8 (et:=3) (w:=1) (c:=1) (sc:=1) (xs:=[iv x]) Tryd.underlying27 C4 J1 HZ rfl (by decide) (by decide) hpp.pol.u (by rw[Nat.mul_one];exact F9 _) (OY _) rfl rfl (by decide) (by decide) (by omega) (src:=h.next) BM (by show h.next<h.next+1;omega) hp.fl (by simp)
 have hnx:h1.next=h.next+2:=a4
 have hold:∀ i,i<h.next→¬ (lo≤i∧tag i=5)→h1.get i=h.get i:=fun i hi hne=>by
  rw[a7 i (by show i<h.next+1;omega) (by rw[if_neg (by omega)];exact hne),AR hi]
 have hm1:m<h1.next:=by omega
 have hgm:h1.get m=h.get m:=hold m hlm.2 (by rw[hp.tm];omega)
 have hSl:E3 h1 lo (fun i=>if i=h.next+1 then 5 else tag i) 5 v' (s.rules.length+1) (ints s.rules++[iv x]) 3:=by
  rcases a2 with a2 | a2
  ·refine a2.mono' fun i hi=>?_
   show (if i=h.next+1 then 5 else tag i)=(if i=h.next+1 then 5 else if i=h.next then 11 else tag i)∨(if i=h.next+1 then 5 else if i=h.next then 11 else tag i)≠5
   by_cases e1:i=h.next+1
   ·left;rw[if_pos e1,if_pos e1]
   ·rw[if_neg e1,if_neg e1]
    by_cases e2:i=h.next
    ·right;rw[if_pos e2];decide
    ·left;rw[if_neg e2]
  ·exact absurd (show lo≤h.next+1 by omega) a2
 refine⟨v',h1,a1,hgm,a5,a6,a3,hnx,fun i hi hlo=>hold i hi (by omega),?_⟩
 have hn2:h.next≤(h1.put m (.row [.string nm,qS r n AO,vq,vv,vt,v',vo,iv s.miss,.map (some k),.map (some c)] 69 false false)).next:=by show h.next≤h1.next;omega
 have ht2:∀ i,i<h.next→(fun i=>if i=h.next+1 then 5 else tag i) i=tag i:=fun i hi=>if_neg (by omega)
 have hg2:∀ i,lo≤i→i<h.next→tag i≠0→tag i≠5→(h1.put m (.row [.string nm,qS r n AO,vq,vv,vt,v',vo,iv s.miss,.map (some k),.map (some c)] 69 false false)).get i=h.get i:=fun i h1' h2 h3 h4=>by
  rw[AV hm1 (GB (tag:=tag) (by rw[hp.tm];exact h3.symm)),hold i h2 (fun e=>h4 e.2)]
 have hgj:∀ jj,jj≠0→jj≠5→(jj≠5)→∀ i,lo≤i→i<h.next→tag i=jj→(h1.put m (.row [.string nm,qS r n AO,vq,vv,vt,v',vo,iv s.miss,.map (some k),.map (some c)] 69 false false)).get i=h.get i:=fun jj z1 z2 _ i h1' h2 h3=>hg2 i h1' h2 (by omega) (by omega)
 refine hp.pol' hn2 a3 ht2 (fun i h1' h2 h3=>hg2 i h1' h2 (by omega) (by omega)) (B0 rfl hm1) ?_ rfl
 exact
  { rows:=by rw[hg2 r hp.pol.lr.1 hp.pol.lr.2 (by rw[hp.pol.tr];decide) (by rw[hp.pol.tr];decide)];exact hp.pol.rows
    len:=hp.pol.len
    tr:=(ht2 r hp.pol.lr.2).trans hp.pol.tr
    lr:=⟨hp.pol.lr.1,by have:=hp.pol.lr.2;omega⟩
    q:=hp.pol.q.mono hn2 ht2 (hgj 2 (by decide) (by decide) (by decide))
    v:=hp.pol.v.mono hn2 ht2 (hgj 3 (by decide) (by decide) (by decide))
    t:=hp.pol.t.mono hn2 ht2 (hgj 4 (by decide) (by decide) (by decide))
    u:=by
     have h9:=hSl.mono (h':=(h1.put m (.row [.string nm,qS r n AO,vq,vv,vt,v',vo,iv s.miss,.map (some k),.map (some c)] 69 false false))) (Nat.le_refl _) (fun _ _=>rfl) fun i _ _ h3=>AV hm1 (GB (tag:=fun i=>if i=h.next+1 then 5 else tag i) (by rw[h3];show (if m=h.next+1 then _ else tag m)≠_;rw[if_neg (by omega),hp.tm];decide))
     rw[m9] at h9
     simp only[List.length_append,List.length_cons,List.length_nil]
     exact h9
    o:=hp.pol.o.mono hn2 ht2 (hgj 6 (by decide) (by decide) (by decide)) }
theorem BH.appO (hp:BH h lo m k c e r n nm E tag vq vv vt vu vo es s) (x:Int) (hb:s.on.length<10000000):∃ v' h1,DL Tryd.prog (h.push (.row [iv x] 3 false false)) 27 vo (qS h.next 1 1)=some (v',h1)∧h1.get m=h.get m∧one v'=true∧v'.cells=#[v']∧h1.floor=h.floor∧h1.next=h.next+2∧(∀ i,i<h.next→i<lo∨11≤tag i→h1.get i=h.get i) ∧
  BH (h1.put m (.row [.string nm,qS r n AO,vq,vv,vt,vu,v',iv s.miss,.map (some k),.map (some c)] 69 false false)) lo m k c e r n nm E (fun i=>if i=h.next+1 then 6 else tag i) vq vv vt vu v' es { s with on:=s.on++[x] }:=by
 have hlm:=hp.lm
 have hpp:=hp.mono (h':=h.push (.row [iv x] 3 false false)) (tag':=fun i=>if i=h.next then 11 else tag i) (by show h.next≤h.next+1;omega) rfl (fun i hi=>if_neg (by omega)) fun i _ hi=>AR hi
 obtain⟨v',h1,a1,a2,a3,a4,a5,a6,a7⟩:=O8 (et:=3) (w:=1) (c:=1) (sc:=1) (xs:=[iv x]) Tryd.underlying27 C4 J1 HZ rfl (by decide) (by decide) hpp.pol.o (by rw[Nat.mul_one];exact F9 _) (OY _) rfl rfl (by decide) (by decide) (by omega) (src:=h.next) BM (by show h.next<h.next+1;omega) hp.fl (by simp)
 have hnx:h1.next=h.next+2:=a4
 have hold:∀ i,i<h.next→¬ (lo≤i∧tag i=6)→h1.get i=h.get i:=fun i hi hne=>by
  rw[a7 i (by show i<h.next+1;omega) (by rw[if_neg (by omega)];exact hne),AR hi]
 have hm1:m<h1.next:=by omega
 have hgm:h1.get m=h.get m:=hold m hlm.2 (by rw[hp.tm];omega)
 have hSl:E3 h1 lo (fun i=>if i=h.next+1 then 6 else tag i) 6 v' (s.on.length+1) (ints s.on++[iv x]) 3:=by
  rcases a2 with a2 | a2
  ·refine a2.mono' fun i hi=>?_
   show (if i=h.next+1 then 6 else tag i)=(if i=h.next+1 then 6 else if i=h.next then 11 else tag i)∨(if i=h.next+1 then 6 else if i=h.next then 11 else tag i)≠6
   by_cases e1:i=h.next+1
   ·left;rw[if_pos e1,if_pos e1]
   ·rw[if_neg e1,if_neg e1]
    by_cases e2:i=h.next
    ·right;rw[if_pos e2];decide
    ·left;rw[if_neg e2]
  ·exact absurd (show lo≤h.next+1 by omega) a2
 refine⟨v',h1,a1,hgm,a5,a6,a3,hnx,fun i hi hlo=>hold i hi (by omega),?_⟩
 have hn2:h.next≤(h1.put m (.row [.string nm,qS r n AO,vq,vv,vt,vu,v',iv s.miss,.map (some k),.map (some c)] 69 false false)).next:=by show h.next≤h1.next;omega
 have ht2:∀ i,i<h.next→(fun i=>if i=h.next+1 then 6 else tag i) i=tag i:=fun i hi=>if_neg (by omega)
 have hg2:∀ i,lo≤i→i<h.next→tag i≠0→tag i≠6→(h1.put m (.row [.string nm,qS r n AO,vq,vv,vt,vu,v',iv s.miss,.map (some k),.map (some c)] 69 false false)).get i=h.get i:=fun i h1' h2 h3 h4=>by
  rw[AV hm1 (GB (tag:=tag) (by rw[hp.tm];exact h3.symm)),hold i h2 (fun e=>h4 e.2)]
 have hgj:∀ jj,jj≠0→jj≠6→(jj≠6)→∀ i,lo≤i→i<h.next→tag i=jj→(h1.put m (.row [.string nm,qS r n AO,vq,vv,vt,vu,v',iv s.miss,.map (some k),.map (some c)] 69 false false)).get i=h.get i:=fun jj z1 z2 _ i h1' h2 h3=>hg2 i h1' h2 (by omega) (by omega)
 refine hp.pol' hn2 a3 ht2 (fun i h1' h2 h3=>hg2 i h1' h2 (by omega) (by omega)) (B0 rfl hm1) ?_ rfl
 exact
  { rows:=by rw[hg2 r hp.pol.lr.1 hp.pol.lr.2 (by rw[hp.pol.tr];decide) (by rw[hp.pol.tr];decide)];exact hp.pol.rows
    len:=hp.pol.len
    tr:=(ht2 r hp.pol.lr.2).trans hp.pol.tr
    lr:=⟨hp.pol.lr.1,by have:=hp.pol.lr.2;omega⟩
    q:=hp.pol.q.mono hn2 ht2 (hgj 2 (by decide) (by decide) (by decide))
    v:=hp.pol.v.mono hn2 ht2 (hgj 3 (by decide) (by decide) (by decide))
    t:=hp.pol.t.mono hn2 ht2 (hgj 4 (by decide) (by decide) (by decide))
    u:=hp.pol.u.mono hn2 ht2 (hgj 5 (by decide) (by decide) (by decide))
    o:=by
     have h9:=hSl.mono (h':=(h1.put m (.row [.string nm,qS r n AO,vq,vv,vt,vu,v',iv s.miss,.map (some k),.map (some c)] 69 false false))) (Nat.le_refl _) (fun _ _=>rfl) fun i _ _ h3=>AV hm1 (GB (tag:=fun i=>if i=h.next+1 then 6 else tag i) (by rw[h3];show (if m=h.next+1 then _ else tag m)≠_;rw[if_neg (by omega),hp.tm];decide))
     rw[m9] at h9
     simp only[List.length_append,List.length_cons,List.length_nil]
     exact h9 }
end
noncomputable def D5:Code:=rt (rt (rt (rt (Tryd.f31.body.getD .skip))))
noncomputable def D8:Code:=rt D5
noncomputable def cT:Code:=rt (rt (rt D8))
noncomputable def uS:Code:=rt cT
noncomputable def mP:Array Oper:=DT Tryd.f31 5
def wU:List (Bool × Bool × List Operand):=[AQ,AQ,AQ,AQ,AH [.tmp 29],AH [.tmp 29],AH [.tmp 29],AH [.tmp 29],AK,AK,AK,AK,AH [.tmp 29,.tmp 33,.tmp 30],AK,AK]
theorem wN:DP mP=wU:=by kernel_rfl
def Z9:List (Bool × Bool × List Operand):=[AQ,AQ,AQ,AQ,AH [.tmp 58],AH [.tmp 58],AH [.tmp 58],AH [.tmp 58],AH [.tmp 58,.tmp 62],AH [.tmp 58,.tmp 62],AH [.tmp 58,.tmp 62],AH [.tmp 58,.tmp 62],AH [.tmp 58,.tmp 62],AK]
def YZ:List (Bool × Bool × List Operand):=[EN,AQ,AQ,AQ,AQ,AQ,AH [.tmp 80],AH [.tmp 80],AH [.tmp 80],AH [.tmp 80],AH [.tmp 80,.tmp 84],AH [.tmp 80,.tmp 84],AH [.tmp 80,.tmp 84],AH [.tmp 80,.tmp 84],AH [.tmp 80,.tmp 84],AH [.tmp 80],AH [.tmp 80],AK,AK,AK,AK,AK]
def Z_:List (Bool × Bool × List Operand):=[EN,AQ,AQ,AQ,AQ,AQ,AH [.tmp 114],AH [.tmp 114],AH [.tmp 114],AH [.tmp 114],AH [.tmp 114],AK,AK,AK,AK,AK]
def aK:List (Bool × Bool × List Operand):=[EN,AQ,AQ,AQ,AQ,AQ,AH [.tmp 131],AH [.tmp 131],AH [.tmp 131],AH [.tmp 131],AH [.tmp 131],AK,AK,AK,AK,AK]
theorem jV {h:AA} {id:Nat} {a b c x y z:Value} {ty:TypeId} {g:Bool} (hg:h.get id=.row [x,y,z] ty g false) (hf:h.floor≤id) (ho:[a,b,c].all one=true):A_ Tryd.prog h 99 (qP id 0) (.agg #[a,b,c])=some (h.put id (.row [a,b,c] ty g false)):=by
 have hl:Go.Sx.lay [x,y,z] 0 [a,b,c]=[a,b,c]:=rfl
 have hc:(Value.agg #[a,b,c]).cells=#[a,b,c]:=rfl
 have hsz:(some 3:Option Nat)=some (#[a,b,c]:Array Value).size:=rfl
 simp only[A_,hc,kR,FW,hg]
 rw[if_pos hsz,if_pos (by simp only[List.length_cons,List.length_nil,ho];simp[hf])]
 rfl
theorem pK {b t:Nat} (ht:t≤b) {T:Tr} {d:Nat} {v:Value} (hd:b<d):(T.put (some d) v).get t=T.get t:=zJ (b:=b+1) hd (by omega)
theorem IY {T:Tr} {v:Value}:T.put none v=T:=rfl
section
variable {call:AM} {N:Nat} {h:AA} {lo m k c e r n:Nat} {nm:ByteArray} {E:List Int} {tag:Nat→Nat} {vq vv vt vu vo:Value} {es:List (Value × Value)} {s:AN}
theorem yZ (hsn:B8 call) {T:Tr} {at_:Nat} {x:AB} {K:CG} (hp:BH h lo m k c e r n nm E tag vq vv vt vu vo es s) (hx:s.rows[at_]?=some x)
  (t0:T.get 0=qP m 0) (t7:T.get 7=.pointer (some ⟨r,at_*5,none⟩))
  (hk1:∀ T' H,(FQ s.things x.name).isSome=true→T'.get 6=iv 31→(∀ i,i<h.next→H.get i=h.get i)→h.next≤H.next→H.floor=h.floor→K.ap Tryd.prog call N .ret ⟨T',H⟩)
  (hk2:∀ T' H,FQ s.things x.name=none→(∀ t,t≤8→T'.get t=T.get t)→(∀ i,i<h.next→H.get i=h.get i)→h.next≤H.next→H.floor=h.floor→WK Tryd.prog call N D8 ⟨T',H⟩ K):WK Tryd.prog call N D5 ⟨T,h⟩ K:=by
 show WK _ _ _ (.seq (.seq (.region _ _ true) _) D8) _ _
 rw[KX,KX]
 have c8:=hp.c8
 obtain⟨hlt,l0,l1,l2,l3,l4,lr⟩:=hp.row hx
 have hlook:=nT (x:=x.name) hp.known
 have hm:=hp.lm.2
 have hkn:=hp.lk.2
 have hr:=hp.pol.lr.2
 have hflo:h.floor≤h.next:=by have:=hp.fl;have:=hp.lm.1;omega
 have n1:(some m != some h.next)=true:=by simp;omega
 have n2:(some r != some h.next)=true:=by simp;omega
 have n3:(some k != some h.next)=true:=by simp;omega
 have hnew:(h.push (.row [iv 0,iv 0,iv 0] 99 false false)).get h.next=.row [iv 0,iv 0,iv 0] 99 false false:=BM
 have hst:=fun a b d=>jV (a:=iv a) (b:=iv b) (c:=iv d) hnew (by exact hflo) rfl
 have hold:∀ o i,i<h.next→((h.push (.row [iv 0,iv 0,iv 0] 99 false false)).put h.next o).get i=h.get i:=fun o i hi=>by rw[AV (by show h.next<h.next+1;omega) (by omega),AR hi]
 have hfl0:flat (.agg #[iv 0,iv 0,iv 0])=true:=rfl
 have hcl0:=E_ [iv 0,iv 0,iv 0]
 have i1:CH (qP m 8)=some m:=rfl
 have i2:CH (.pointer (some ⟨r,at_*5+1,none⟩))=some r:=rfl
 have i3:CH (.map (some k))=some k:=rfl
 have i4:CH (qP h.next 0)=some h.next:=rfl
 refine WK.flags (ops:=mP) wN ?_
 refine CF.begin ?_
 refine AG hsn 0 (some 27) (.move (.tmp 0)) none ?_
 simp only[rG,seval,AC,AF,AE,t0]
 refine AG hsn 1 (some 28) (.nilCheck (.tmp 27)) none ?_
 simp only[rG,seval,AC,AF,AE]
 refine AG hsn 2 (some 29) (.fieldAddr 69 (.tmp 28) 1) none ?_
 simp only[rG,seval,AC,AF,AE,Nat.zero_add,ZC]
 refine AG hsn 3 (some 30) (.load 66 (.tmp 29)) none ?_
 simp only[rG,seval,AC,AF,AE,CT,XR,c8]
 refine AG hsn 4 (some 31) (.move (.tmp 7)) none ?_
 simp only[rG,seval,AC,AF,AE,t7]
 refine AG hsn 5 (some 32) (.nilCheck (.tmp 31)) none ?_
 simp only[rG,seval,AC,AF,AE]
 refine AG hsn 6 (some 33) (.fieldAddr 61 (.tmp 32) 1) none ?_
 simp only[rG,seval,AC,AF,AE,K9]
 refine AG hsn 7 (some 34) (.load 9 (.tmp 33)) none ?_
 simp only[rG,seval,AC,AF,AE,CT,GE,l1]
 cases hf:FQ s.things x.name with
 | some t=>
  rw[hf] at hlook
  refine AG hsn 8 (some 35) (.lookup 66 (.tmp 30) (.tmp 34) true) none ?_
  simp only[rG,seval,AC,AF,AE,CT,hlook,i3]
  refine AG hsn 9 (some 26) (.move (.tmp 35)) none ?_
  simp only[rG,seval,AC,AF,AE]
  refine AG hsn 10 (some 36) (.extract (.tmp 26) 0) none ?_
  simp only[rG,seval,AC,AF,AE,List.getElem?_toArray,List.getElem?_cons_zero]
  refine AG hsn 11 (some 37) (.extract (.tmp 26) 1) none ?_
  simp only[rG,seval,AC,AF,AE,List.getElem?_toArray,List.getElem?_cons_succ,List.getElem?_cons_zero]
  refine AG hsn 12 (some 9) (.alloc 99) none ?_
  simp only[rG,seval,AC,AF,AE,U7,RC,hfl0,hcl0]
  refine AG hsn 13 (none) (.store 99 (.tmp 9) (.tmp 36)) none ?_
  simp only[rG,seval,AC,AF,AE,CK,C6,hst,i4,CK,List.all_nil]
  refine AG hsn 14 (some 10) (.assign (.tmp 37)) none ?_
  simp only[rG,seval,AC,AF,AE]
  refine CF.done (i:=15) (by kernel_rfl) ?_
  simp only[eE,seval,↓eP,rP]
  exact hk1 _ _ (by rw[hf];rfl) (by simp only[Tr.get_put,if_true]) (hold _) (by show h.next≤h.next+1;omega) rfl
 | none=>
  rw[hf] at hlook
  refine AG hsn 8 (some 35) (.lookup 66 (.tmp 30) (.tmp 34) true) none ?_
  simp only[rG,seval,AC,AF,AE,CT,hlook,i3]
  refine AG hsn 9 (some 26) (.move (.tmp 35)) none ?_
  simp only[rG,seval,AC,AF,AE]
  refine AG hsn 10 (some 36) (.extract (.tmp 26) 0) none ?_
  simp only[rG,seval,AC,AF,AE,List.getElem?_toArray,List.getElem?_cons_zero]
  refine AG hsn 11 (some 37) (.extract (.tmp 26) 1) none ?_
  simp only[rG,seval,AC,AF,AE,List.getElem?_toArray,List.getElem?_cons_succ,List.getElem?_cons_zero]
  refine AG hsn 12 (some 9) (.alloc 99) none ?_
  simp only[rG,seval,AC,AF,AE,U7,RC,hfl0,hcl0]
  refine AG hsn 13 (none) (.store 99 (.tmp 9) (.tmp 36)) none ?_
  simp only[rG,seval,AC,AF,AE,CK,C6,hst,i4,CK,List.all_nil]
  refine AG hsn 14 (some 10) (.assign (.tmp 37)) none ?_
  simp only[rG,seval,AC,AF,AE]
  refine CF.done (i:=15) (by kernel_rfl) ?_
  simp only[eE,seval,↓eP,rP]
  refine hk2 _ _ hf (fun t ht=>?_) (hold _) (by show h.next≤h.next+1;omega) rfl
  simp only[pK ht,IY,Nat.reduceLT]
noncomputable def a9:Code:=rt uS
theorem Ev (hsn:B8 call) {T:Tr} {at_:Nat} {x:AB} {K:CG} {kd end_:Int} (hp:BH h lo m k c e r n nm E tag vq vv vt vu vo es s) (hx:s.rows[at_]?=some x) (hm:QW es s) (h1:1≤kd) (h4:kd≤4) (hcn:BO s kd<1000)
  (h80:∀ h',call 49 [iv kd] h'=some (iv (IN kd),h')) (hf:FQ s.things x.name=none)
  (t0:T.get 0=qP m 0) (t2:T.get 2=iv end_) (t7:T.get 7=.pointer (some ⟨r,at_*5,none⟩)) (t8:T.get 8=iv kd)
  (hk1:∀ T',(BO s kd:Int)=IN kd→T'.get 6=iv 3→K.ap Tryd.prog call N .ret ⟨T',h⟩)
  (hk2:∀ T' H,(BO s kd:Int)≠IN kd→(∀ t,t≤8→T'.get t=T.get t)→BH H lo m k c e r n nm E tag vq vv vt vu vo (FR (iv kd) (iv ((BO s kd:Int)+1)) es) { s with rows:=GT s.rows at_ (BO s kd),things:=s.things++[⟨x.name,kd,(BO s kd:Int),end_⟩] } →
   (∀ i,i<lo∨(i<h.next∧11≤tag i)→H.get i=h.get i)→H.next=h.next→H.floor=h.floor→WK Tryd.prog call N a9 ⟨T',H⟩ K):WK Tryd.prog call N D8 ⟨T,h⟩ K:=by
 show WK _ _ _ (.seq _ (.seq _ (.seq _ cT))) _ _
 have c9:=hp.c9
 have hlook:=xA hp.many hm h1 h4
 have w1:IntKind.i64.wrap ((BO s kd:Int)+1)=(BO s kd:Int)+1:=C9 (by omega) (by omega)
 have hput:=Fm (v:=iv ((BO s kd:Int)+1)) hp.many hm h1 h4 (by have:=hp.fl;have:=hp.lc.1;omega)
 cases d1:((BO s kd:Int)==IN kd) with
 | true=>
  simp only[eE,seval,↓eP,rP,t0,t8,iE,oJ,c9,hlook,h80,d1]
  exact hk1 _ (by simpa using d1) (by simp only[Tr.get_put,if_true])
 | false=>
  simp only[eE,seval,↓eP,rP,t0,t8,iE,oJ,c9,hlook,h80,d1,w1,hput]
  have hp1:=hp.putC (FR (iv kd) (iv ((BO s kd:Int)+1)) es)
  have hlo1:∀ i,i<lo∨(i<h.next∧11≤tag i)→(h.put c (.map (FR (iv kd) (iv ((BO s kd:Int)+1)) es))).get i=h.get i:=fun i hi=>AV hp.lc.2 (OG hp.lc.1 (by rw[hp.tc];decide) hi)
  have hnx1:(h.put c (.map (FR (iv kd) (iv ((BO s kd:Int)+1)) es))).next=h.next:=rfl
  have hfl1:(h.put c (.map (FR (iv kd) (iv ((BO s kd:Int)+1)) es))).floor=h.floor:=rfl
  generalize h.put c (.map (FR (iv kd) (iv ((BO s kd:Int)+1)) es))=H1 at *
  show WK _ _ _ (.seq (.region _ _ true) (.seq _ a9)) _ _
  rw[KX]
  have b8:=hp1.c8
  obtain⟨hlt,l0,l1,l2,l3,l4,lr⟩:=hp1.row hx
  have hpk:=Ep (a:=kd) (b:=(BO s kd:Int)) (c:=end_) hp1.known hf (by have:=hp1.fl;have:=hp1.lk.1;omega)
  refine WK.flags (fs:=Z9) (by kernel_rfl) ?_
  unfold Z9
  iterate 14
   refine D9 hsn ?_
   simp only[rG,seval,AC,AF,AE,CT,DU,CK,C6,EA,t0,ZC,XR,b8,t7,K9,GE,l1,t8,List.map_cons,List.map_nil,YI,t2,vO,hpk]
  refine D4 ?_
  have hp2:=hp1.putK (s.things++[⟨x.name,kd,(BO s kd:Int),end_⟩])
  have hlo2:∀ i,i<lo∨(i<h.next∧11≤tag i)→(H1.put k (.map ((s.things++[(⟨x.name,kd,(BO s kd:Int),end_⟩:FT)]).map I5))).get i=h.get i:=fun i hi=>by rw[AV hp1.lk.2 (OG hp1.lk.1 (by rw[hp1.tk];decide) hi)];exact hlo1 i hi
  have hnx2:(H1.put k (.map ((s.things++[(⟨x.name,kd,(BO s kd:Int),end_⟩:FT)]).map I5))).next=h.next:=hnx1
  have hfl2:(H1.put k (.map ((s.things++[(⟨x.name,kd,(BO s kd:Int),end_⟩:FT)]).map I5))).floor=h.floor:=hfl1
  generalize H1.put k (.map ((s.things++[(⟨x.name,kd,(BO s kd:Int),end_⟩:FT)]).map I5))=H2 at *
  have hrl:=J2 s.rows
  have hlen:=hp.pol.len
  have hst:=HW (off:=at_*5+3) C4 (v:=iv (BO s kd:Int)) rfl rfl hp2.pol.rows (by rw[hrl];omega) (by have:=hp2.fl;have:=hp2.pol.lr.1;omega)
  rw[bE hx] at hst
  have hp3:=hp2.putR (l:=GT s.rows at_ (BO s kd:Int)) VZ
  simp only[eE,seval,↓eP,rP,t7,hst]
  refine hk2 _ _ (by simpa using d1) (fun t ht=>?_) hp3 (fun i hi=>?_) hnx2 hfl2
  ·simp only[pK ht,IY,Nat.reduceLT]
  ·rw[AV hp2.pol.lr.2 (OG hp2.pol.lr.1 (by rw[hp2.pol.tr];decide) hi)]
   exact hlo2 i hi
def aI (kd:Int) (at_:Nat) (x:AB) (s:AN):AN:=
 { s with
   queues:=if kd=1 then s.queues++[(x.name,x.kind==3)] else s.queues
   vars:=if kd=2 then s.vars++[x.name] else s.vars
   tags:=if kd=3 then s.tags++[x.name] else s.tags
   rules:=if kd=4 then s.rules++[(at_:Int)+1] else s.rules
   on:=if kd=1 then s.on++[-1] else s.on }
theorem zC (hsn:B8 call) {T:Tr} {at_:Nat} {x:AB} {K:CG} {kd:Int} (hp:BH h lo m k c e r n nm E tag vq vv vt vu vo es s) (hx:s.rows[at_]?=some x) (h1:1≤kd) (h4:kd≤4)
  (hb:s.queues.length<1000∧s.vars.length<1000∧s.tags.length<1000∧s.rules.length<1000∧s.on.length<1000) (hn:n<30000000000000)
  (t0:T.get 0=qP m 0) (t1:T.get 1=iv at_) (t7:T.get 7=.pointer (some ⟨r,at_*5,none⟩)) (t8:T.get 8=iv kd)
  (hk:∀ T' H tag' vq' vv' vt' vu' vo',T'.get 6=iv 0→BH H lo m k c e r n nm E tag' vq' vv' vt' vu' vo' es (aI kd at_ x s)→(∀ i,i<h.next→tag' i=tag i)→(∀ i,i<lo∨(i<h.next∧11≤tag i)→H.get i=h.get i)→h.next≤H.next→H.floor=h.floor→K.ap Tryd.prog call N .ret ⟨T',H⟩):WK Tryd.prog call N a9 ⟨T,h⟩ K:=by
 show WK _ _ _ (.seq (.seq _ (.block _ _)) (.seq _ _)) _ _
 have hm:=hp.lm.2
 have hlm:=hp.lm.1
 have hflm:h.floor≤m:=by have:=hp.fl;omega
 obtain⟨hlt,l0,l1,l2,l3,l4,lr⟩:=hp.row hx
 have hk4:kd=1∨kd=2∨kd=3∨kd=4:=by omega
 have nl:∀ (o o':A9) i,i<lo∨(i<h.next∧11≤tag i)→∀ hh:AA,(∀ i,i<h.next→i<lo∨11≤tag i→hh.get i=h.get i)→hh.next=h.next+2→(hh.put m o).get i=h.get i:=fun o o' i hi hh h1 h2=>by rw[AV (by omega) (OG hlm (by rw[hp.tm];decide) hi),h1 i (by omega) (by omega)]
 have tg:∀ j i,i<h.next→(fun i=>if i=h.next+1 then j else tag i) i=tag i:=fun j i hi=>if_neg (by omega)
 rcases hk4 with rfl | rfl | rfl | rfl
 ·obtain⟨v',h1',a1,a2,a3,a4,a5,a6,a7,hp2⟩:=hp.appQ (x.name,x.kind==3) (by omega)
  have c2:=hp.c2
  have hfx:h1'.fl h.floor=h1':=by rw[← a5];exact HY h1'
  have hst:A_ Tryd.prog h1' 30 (qP m 2) v'=_:=HW aV a4 a3 (a2.trans hp.cell) (by simp only[List.length_cons,List.length_nil];omega) (by rw[a5];exact hflm)
  have lo2:=nl (.row [.string nm,qS r n AO,v',vv,vt,vu,vo,iv s.miss,.map (some k),.map (some c)] 69 false false) .dead
  simp only[List.set_cons_succ,List.set_cons_zero] at hst
  simp only[eE,seval,↓eP,rP,t8]
  show WK _ _ _ (.region _ _ true) _ _
  refine WK.flags (fs:=YZ) (by kernel_rfl) ?_
  unfold YZ
  iterate 22
   refine D9 hsn ?_
   simp only[rG,seval,AC,AF,AE,CT,DU,CK,C6,EA,t0,IH,FX,FY,c2,t7,K9,GE,l1,C2,AU,l0,List.map_cons,List.map_nil,Gi,uC,NP,a1,hfx,IC,hst]
  refine D4 ?_
  have lo3:=fun i hi=>lo2 i hi h1' a7 a6
  have hfl3:(h1'.put m (.row [.string nm,qS r n AO,v',vv,vt,vu,vo,iv s.miss,.map (some k),.map (some c)] 69 false false)).floor=h.floor:=a5
  have hnx3:(h1'.put m (.row [.string nm,qS r n AO,v',vv,vt,vu,vo,iv s.miss,.map (some k),.map (some c)] 69 false false)).next=h.next+2:=a6
  generalize h1'.put m (.row [.string nm,qS r n AO,v',vv,vt,vu,vo,iv s.miss,.map (some k),.map (some c)] 69 false false)=H2 at *
  obtain⟨v2,h2',b1,b2,b3,b4,b5,b6,b7,hp3⟩:=hp2.appO (-1) (by simp only;omega)
  have d6:=hp2.c6
  have hst2:A_ Tryd.prog h2' 27 (qP m 6) v2=_:=HW LI b4 b3 (b2.trans hp2.cell) (by simp only[List.length_cons,List.length_nil];omega) (by rw[b5,hfl3];exact hflm)
  simp only[List.set_cons_succ,List.set_cons_zero] at hst2
  simp only[eE,seval,↓eP,rP,t0,IH,KU,DV,d6,NS,b1,hst2]
  refine hk _ _ _ _ _ _ _ _ (by simp only[Tr.get_put,if_true]) hp3 (fun i hi=>?_) (fun i hi=>?_) ?_ (b5.trans hfl3)
  ·show (if i=H2.next+1 then 6 else if i=h.next+1 then 2 else tag i)=tag i
   rw[if_neg (by omega),if_neg (by omega)]
  ·rw[AV (by omega) (OG hlm (by rw[hp.tm];decide) hi),b7 i (by omega) (by show i<lo∨11≤(if i=h.next+1 then 2 else tag i);rw[if_neg (by omega)];omega),lo3 i hi]
  ·show h.next≤h2'.next;omega
 ·obtain⟨v',h1',a1,a2,a3,a4,a5,a6,a7,hp2⟩:=hp.appV x.name (by omega)
  have c3:=hp.c3
  have hfx:h1'.fl h.floor=h1':=by rw[← a5];exact HY h1'
  have hst:A_ Tryd.prog h1' 31 (qP m 3) v'=_:=HW QO a4 a3 (a2.trans hp.cell) (by simp only[List.length_cons,List.length_nil];omega) (by rw[a5];exact hflm)
  simp only[List.set_cons_succ,List.set_cons_zero] at hst
  simp only[eE,seval,↓eP,rP,t8,Int.reduceBEq]
  show WK _ _ _ (.region _ _ true) _ _
  refine WK.flags (fs:=Z_) (by kernel_rfl) ?_
  unfold Z_
  iterate 16
   refine D9 hsn ?_
   simp only[rG,seval,AC,AF,AE,CT,DU,CK,C6,EA,t0,IH,K_,JR,c3,t7,K9,GE,l1,List.map_cons,List.map_nil,nK,NP,a1,hfx,IC,hst]
  refine D4 ?_
  simp only[eE,seval,↓eP,rP]
  refine hk _ _ _ _ _ _ _ _ (by simp only[Tr.get_put,if_true]) hp2 (tg _) (fun i hi=>nl _ .dead i hi h1' a7 a6) ?_ a5
  show h.next≤h1'.next;omega
 ·obtain⟨v',h1',a1,a2,a3,a4,a5,a6,a7,hp2⟩:=hp.appT x.name (by omega)
  have c4:=hp.c4
  have hfx:h1'.fl h.floor=h1':=by rw[← a5];exact HY h1'
  have hst:A_ Tryd.prog h1' 31 (qP m 4) v'=_:=HW QO a4 a3 (a2.trans hp.cell) (by simp only[List.length_cons,List.length_nil];omega) (by rw[a5];exact hflm)
  simp only[List.set_cons_succ,List.set_cons_zero] at hst
  simp only[eE,seval,↓eP,rP,t8,Int.reduceBEq]
  show WK _ _ _ (.region _ _ true) _ _
  refine WK.flags (fs:=aK) (by kernel_rfl) ?_
  unfold aK
  iterate 16
   refine D9 hsn ?_
   simp only[rG,seval,AC,AF,AE,CT,DU,CK,C6,EA,t0,IH,LB,JR,c4,t7,K9,GE,l1,List.map_cons,List.map_nil,nK,NP,a1,hfx,IC,hst]
  refine D4 ?_
  simp only[eE,seval,↓eP,rP]
  refine hk _ _ _ _ _ _ _ _ (by simp only[Tr.get_put,if_true]) hp2 (tg _) (fun i hi=>nl _ .dead i hi h1' a7 a6) ?_ a5
  show h.next≤h1'.next;omega
 ·obtain⟨v',h1',a1,a2,a3,a4,a5,a6,a7,hp2⟩:=hp.appU ((at_:Int)+1) (by omega)
  have c5:=hp.c5
  have w1:IntKind.i64.wrap ((at_:Int)+1)=(at_:Int)+1:=C9 (by omega) (by omega)
  have hst:A_ Tryd.prog h1' 27 (qP m 5) v'=_:=HW LI a4 a3 (a2.trans hp.cell) (by simp only[List.length_cons,List.length_nil];omega) (by rw[a5];exact hflm)
  simp only[List.set_cons_succ,List.set_cons_zero] at hst
  simp only[eE,seval,↓eP,rP,t0,t1,t8,Int.reduceBEq,IH,KC,DV,c5,w1,NS,a1,hst]
  refine hk _ _ _ _ _ _ _ _ (by simp only[Tr.get_put,if_true]) hp2 (tg _) (fun i hi=>nl _ .dead i hi h1' a7 a6) ?_ a5
  show h.next≤h1'.next;omega
end
structure LL (s:AN):Prop where
 q:s.queues.length≤16
 v:s.vars.length≤16
 t:s.tags.length≤4
 u:s.rules.length≤64
 o:s.on.length=s.queues.length
 th:∀ t∈s.things,1≤t.kind∧t.kind≤4∧0≤t.num∧t.num<BO s t.kind∧0≤t.known
theorem QU (k:Int):0≤BS k∧BS k≤4:=by unfold BS;(repeat' split) <;> omega
theorem iG (k:Int):0≤DZ k∧DZ k≤4:=by unfold DZ;(repeat' split) <;> omega
theorem JV {l:List AB} {k:Nat} {n:Int} {x:AB} (hx:l[k]?=some x):(GT l k n)[k]?=some { x with n:=n }:=by
 unfold GT
 rw[hx]
 simp[(List.getElem?_eq_some_iff.1 hx).1]
theorem wP {s:AN} (hw:LL s) (k:Int):BO s k≤64:=by
 have:=hw.q;have:=hw.v;have:=hw.t;have:=hw.u
 unfold BO
 (repeat' split) <;> omega
section
variable {call:AM} {N:Nat} {h:AA} {lo m k c e r n:Nat} {nm:ByteArray} {E:List Int} {F:List Nat} {tag:Nat→Nat} {vq vv vt vu vo:Value} {es:List (Value × Value)} {s:AN}
def EC (h:AA) (lo m k c e r n:Nat) (nm:ByteArray) (E:List Int) (F:List Nat) (s:AN):Prop:=∃ tag vq vv vt vu vo es,BH h lo m k c e r n nm E tag vq vv vt vu vo es s∧QW es s∧LL s∧∀ i∈F,i<h.next∧11≤tag i
def E6 (h H:AA) (lo:Nat) (F:List Nat):Prop:=(∀ i,i<lo∨i∈F→H.get i=h.get i)∧h.next≤H.next∧H.floor=h.floor
theorem sE {s s':AN} {kd:Int} {es:List (Value × Value)} (hm:QW es s) (h1:BO s' kd=BO s kd+1) (h2:∀ k,1≤k→k≤4→k≠kd→BO s' k=BO s k):QW (FR (iv kd) (iv ((BO s kd:Int)+1)) es) s':=by
 refine⟨eD _ _ _ hm.1,fun k k1 k4=>?_⟩
 rw[jX _ _ _ _ hm.1]
 by_cases hk:k=kd
 ·subst hk
  rw[if_pos rfl,h1,if_neg (by omega)]
  rfl
 ·rw[if_neg hk,h2 k k1 k4 hk]
  exact hm.2 k k1 k4
theorem XW {s:AN} {at_:Nat} {end_:Int} {x:AB} {k:Int} (hk:1≤k∧k≤4):BO (EK at_ end_ x s) k=BO s k+(if k=BS x.kind then 1 else 0):=by
 have hd:=QU x.kind
 generalize hkd:BS x.kind=kd at *
 unfold BO EK
 rw[hkd]
 obtain rfl | rfl | rfl | rfl:k=1∨k=2∨k=3∨k=4:=by omega
 all_goals
  by_cases e:kd=1
  ·subst e;simp
  by_cases e2:kd=2
  ·subst e2;simp
  by_cases e3:kd=3
  ·subst e3;simp
  by_cases e4:kd=4
  ·subst e4;simp
  simp[e,e2,e3,e4,Ne.symm e,Ne.symm e2,Ne.symm e3,Ne.symm e4]
  try omega
theorem i8 {s:AN} {at_:Nat} {end_:Int} {x:AB} (hw:LL s) (hkd:BS x.kind≠0) (hne:(BO s (BS x.kind):Int)≠IN (BS x.kind)) (he:0≤end_):LL (EK at_ end_ x s):=by
 have hd:=QU x.kind
 have hq:=hw.q;have hv:=hw.v;have ht:=hw.t;have hu:=hw.u;have ho:=hw.o
 have hth:=hw.th
 have hcnt:=fun k (hk:1≤k∧k≤4)=>XW (s:=s) (at_:=at_) (end_:=end_) (x:=x) hk
 have key:∀ t∈(EK at_ end_ x s).things,1≤t.kind∧t.kind≤4∧0≤t.num∧t.num<BO (EK at_ end_ x s) t.kind∧0≤t.known:=by
  intro t htm
  simp only[EK,List.mem_append,List.mem_cons,List.not_mem_nil,or_false] at htm
  rcases htm with htm | rfl
  ·obtain⟨a1,a2,a3,a4,a5⟩:=hth t htm
   rw[hcnt _ ⟨a1,a2⟩]
   exact⟨a1,a2,a3,by split <;> omega,a5⟩
  ·have hk1:1≤BS x.kind:=by omega
   refine⟨hk1,hd.2,Int.natCast_nonneg _,?_,he⟩
   rw[hcnt _ ⟨hk1,hd.2⟩,if_pos rfl]
   simp only
   omega
 generalize hkd2:BS x.kind=kd at *
 have e:∀ k,k=kd→1≤k→BO s k≠(IN k).toNat:=by
  intro k hk h1 h
  subst hk
  apply hne
  rw[h]
  unfold IN
  (repeat' split) <;> rfl
 constructor
 ·simp only[EK,hkd2]
  split
  ·rename_i h1
   have:=e 1 h1.symm (by omega)
   simp[BO,IN] at this
   simp
   omega
  ·exact hq
 ·simp only[EK,hkd2]
  split
  ·rename_i h1
   have:=e 2 h1.symm (by omega)
   simp[BO,IN] at this
   simp
   omega
  ·exact hv
 ·simp only[EK,hkd2]
  split
  ·rename_i h1
   have:=e 3 h1.symm (by omega)
   simp[BO,IN] at this
   simp
   omega
  ·exact ht
 ·simp only[EK,hkd2]
  split
  ·rename_i h1
   have:=e 4 h1.symm (by omega)
   simp[BO,IN] at this
   simp
   omega
  ·exact hu
 ·simp only[EK,hkd2]
  split
  ·simp[ho]
  ·exact ho
 ·exact key
theorem Bv (hsn:B8 call) {at_:Nat} {end_:Int} {x:AB} (hp:EC h lo m k c e r n nm E F s) (hx:s.rows[at_]?=some x) (hkind:1≤x.kind∧x.kind≤54) (hn:n<30000000000000) (he:0≤end_)
  (h79:∀ k h',1≤k∧k≤54→call 48 [iv k] h'=some (iv (BS k),h')) (h80:∀ k h',call 49 [iv k] h'=some (iv (IN k),h')) :
  ∃ h',A8 Tryd.prog call N 31 [qP m 0,iv at_,iv end_] h=some (iv (ET x s),h')∧(E6 h h' lo F∧(ET x s=0→EC h' lo m k c e r n nm E F (BN at_ end_ x s))):=by
 obtain⟨tag,vq,vv,vt,vu,vo,es,hp,hm,hw,hF⟩:=hp
 have hlF:∀ i,i<lo∨i∈F→i<lo∨(i<h.next∧11≤tag i):=fun i hi=>hi.imp id fun h=>hF i h
 have hll:∀ i,i<lo∨i∈F→i<h.next:=fun i hi=>by have:=hp.lm;have:=hlF i hi;omega
 refine EL (R:=fun h'=>E6 h h' lo F∧(ET x s=0→EC h' lo m k c e r n nm E F (BN at_ end_ x s))) Tryd.func31 rfl (by simp[Tryd.f31]) ?_
 have hr:Tryd.f31.results.toList=[.tmp 6]:=rfl
 generalize hKK:CG.top (fun ex s_1=>(ex=D7.normal∨ex=D7.ret)∧∃ vs,FH Tryd.prog s_1 Tryd.f31.results.toList=some vs∧HV vs=iv (ET x s)∧E6 h s_1.h lo F∧(ET x s=0→EC s_1.h lo m k c e r n nm E F (BN at_ end_ x s)))=K
 have fin:∀ (T':Tr) H v,T'.get 6=iv v→v=ET x s→E6 h H lo F→(v=0→EC H lo m k c e r n nm E F (BN at_ end_ x s))→K.ap Tryd.prog call N .ret ⟨T',H⟩:=fun T' H v h6 hv ha hb=>by
  subst hv
  rw[← hKK]
  simp only[eE,↓reduceIte,Nat.reduceEqDiff,reduceCtorEq,↓eP,rP,Nat.reduceAdd,Nat.reduceLT,hr,h6]
  exact⟨ha,hb⟩
 show WK _ _ _ (.seq _ (.seq _ (.seq _ (.seq _ D5)))) _ _
 have hm1:=hp.c1
 obtain⟨hlt,l0,l1,l2,l3,l4,lr⟩:=hp.row hx
 have hd79:=fun h'=>h79 x.kind h' hkind
 have hdl:=QU x.kind
 by_cases d0:BS x.kind=0
 ·have dE:ET x s=0:=by unfold ET;rw[if_pos d0]
  have dS:BN at_ end_ x s=s:=by unfold BN;rw[if_pos d0]
  have b0:(BS x.kind==0)=true:=by simpa using d0
  simp only[eE,seval,↓eP,rP,IH,DI,DK,hm1,ON hlt,l0,hd79,b0]
  exact fin _ _ 0 (by simp only[Tr.get_put,if_true]) dE.symm ⟨fun _ _=>rfl,Nat.le_refl _,rfl⟩ fun _=>by rw[dS];exact⟨tag,vq,vv,vt,vu,vo,es,hp,hm,hw,hF⟩
 ·have b0:(BS x.kind==0)=false:=by simpa using d0
  simp only[eE,seval,↓eP,rP,IH,DI,DK,hm1,ON hlt,l0,hd79,b0]
  have hlh:lo≤h.next:=by have:=hp.lm;omega
  refine yZ hsn hp hx (by simp only[eE,seval,↓eP,rP]) (by simp only[eE,seval,↓eP,rP]) (fun T' H hf h6 ho hn hf2=>?_) fun T' H hf hT ho hn1 hf2=>?_
  ·exact fin _ _ 31 h6 (by unfold ET;rw[if_neg d0,if_pos hf]) ⟨fun i hi=>ho i (hll i hi),hn,hf2⟩ fun h=>by cases h
  ·have hp1:BH H lo m k c e r n nm E tag vq vv vt vu vo es s:=hp.mono hn1 hf2 (fun _ _=>rfl) fun i _ hi=>ho i hi
   have hE1:¬ (FQ s.things x.name).isSome=true:=by rw[hf];simp
   have cle:=wP hw (BS x.kind)
   refine Ev (end_:=end_) hsn hp1 hx hm (by omega) hdl.2 (by omega) (fun h'=>h80 _ h') hf (by rw[hT 0 (by decide)];simp only[eE,seval,↓eP,rP]) (by rw[hT 2 (by decide)];simp only[eE,seval,↓eP,rP]) (by rw[hT 7 (by decide)];simp only[eE,seval,↓eP,rP]) (by rw[hT 8 (by decide)];simp only[eE,seval,↓eP,rP]) (fun T2 hc h6=>?_) fun T2 H2 hc hT2 hp2 ho2 hn2 hf3=>?_
   ·exact fin _ _ 3 h6 (by unfold ET;rw[if_neg d0,if_neg hE1,if_pos hc]) ⟨fun i hi=>ho i (hll i hi),hn1,hf2⟩ fun h=>by cases h
   ·have hq:=hw.q;have hv:=hw.v;have ht:=hw.t;have hu:=hw.u;have ho':=hw.o
    refine zC hsn hp2 (at_:=at_) (x:={ x with n:=(BO s (BS x.kind):Int) }) (JV hx) (by omega) hdl.2 ⟨by show s.queues.length<1000;omega,by show s.vars.length<1000;omega,by show s.tags.length<1000;omega,by show s.rules.length<1000;omega,by show s.on.length<1000;omega⟩ hn
     (by rw[hT2 0 (by decide),hT 0 (by decide)];simp only[eE,seval,↓eP,rP]) (by rw[hT2 1 (by decide),hT 1 (by decide)];simp only[eE,seval,↓eP,rP]) (by rw[hT2 7 (by decide),hT 7 (by decide)];simp only[eE,seval,↓eP,rP]) (by rw[hT2 8 (by decide),hT 8 (by decide)];simp only[eE,seval,↓eP,rP]) fun T3 H3 tag' vq' vv' vt' vu' vo' h6 hp3 htg ho3 hn3 hf4=>?_
    have hS:BN at_ end_ x s=EK at_ end_ x s:=by unfold BN;rw[if_neg d0]
    refine fin _ _ 0 h6 (by unfold ET;rw[if_neg d0,if_neg hE1,if_neg hc]) ⟨fun i hi=>by
     have h0:=hlF i hi
     rw[ho3 i (by omega),ho2 i (by omega),ho i (hll i hi)],by omega,by rw[hf4,hf3,hf2]⟩ fun _=>?_
    rw[hS]
    refine⟨tag',vq',vv',vt',vu',vo',_,hp3,sE hm ?_ ?_,i8 hw d0 hc he,fun i hi=>?_⟩
    ·exact(XW ⟨by omega,hdl.2⟩).trans (by rw[if_pos rfl])
    ·intro k k1 k4 hk
     exact(XW ⟨k1,k4⟩).trans (by rw[if_neg hk,Nat.add_zero])
    ·have h0:=hF i hi
     rw[htg i (by omega)]
     exact⟨by omega,h0.2⟩
end
theorem KK {P:Program}:AZ P Go.program=some P:=rfl
theorem GQ {P:Program} {α:Type} {a:α}:AZ P (pure a:Sem α)=some a:=rfl
theorem KW {P:Program} {t:TypeId} {k0 k:IntKind} {a b:Int} (h:P.underlying t=some (.int k0)) (d:Nat):AZ P (Op.equalIn (d+1) t (.int k a) (.int k b))=some (a==b):=by
 rw[Op.equalIn,B9,M2 h]
 simp[GQ]
theorem W5 {a b:Int}:AZ Tryd.prog (part 3 #[.int .i64 a,.int .i64 b] 0)=some (.int .i64 a)∧AZ Tryd.prog (part 3 #[.int .i64 a,.int .i64 b] 1)=some (.int .i64 b)∧AZ Tryd.prog (part 34 #[.int .i64 a,.int .i64 b] 0)=some (.int .i64 a):=⟨rfl,rfl,rfl⟩
theorem r_:Tryd.prog.stoodInHeld 97=false:=by kernel_rfl
theorem zG:Tryd.prog.eqGuardType Tryd.prog.depth 36=false:=by kernel_rfl
theorem Ac:Tryd.prog.stoodInHeld 36=false:=by kernel_rfl
abbrev DH (a b:Int):Value:=.agg #[.int .i64 a,.int .i64 b]
theorem ZF {a b:Int}:flat (DH a b)=true:=rfl
theorem p_ {a b c d:Int} (n:Nat):AZ Tryd.prog (Op.equalIn (n+2) 97 (DH a b) (DH c d))=some (a==c&&b==d):=by
 rw[Op.equalIn,B9,M2 Tryd.underlying97]
 simp only[Option.bind_some,B9,KK,r_,Bool.false_eq_true,if_false]
 simp only[List.forIn_toArray,List.forIn_cons,List.forIn_nil,ne_eq,String.reduceEq,not_false_eq_true,if_true,B9,W5.1,Option.bind_some,KW Tryd.underlying3]
 cases h1:(a==c) <;> cases h2:(b==d) <;> simp[B9,GQ,W5.2.1,KW Tryd.underlying3,h2,-beq_iff_eq,-beq_eq_false_iff_ne]
theorem lX {a b c d:Int} (n:Nat):AZ Tryd.prog (Op.equalIn (n+2) 36 (DH a b) (DH c d))=some (a==c&&b==d):=by
 rw[Op.equalIn,B9,M2 Tryd.underlying36]
 simp only[Option.bind_some,B9,KK,Ac,Bool.false_eq_true,if_false]
 simp only[List.forIn_toArray,List.forIn_cons,List.forIn_nil,ne_eq,String.reduceEq,not_false_eq_true,if_true,B9,W5.2.2,Option.bind_some,KW Tryd.underlying3,KW Tryd.underlying34]
 cases h1:(a==c) <;> cases h2:(b==d) <;> simp[B9,GQ,W5.2.1,KW Tryd.underlying3,KW Tryd.underlying34,h2,-beq_iff_eq,-beq_eq_false_iff_ne]
theorem jR {x y:Operand} {a b c d:Int}:BR Tryd.prog .neq 97 x y (DH a b) (DH c d)=some (.bool (!(a==c&&b==d))):=by
 have e:AZ Tryd.prog (do eqGuard .neq 97 x y (DH a b) (DH c d);binOp .neq 97 (DH a b) (DH c d))=some (.bool (!(a==c&&b==d))):=by
  rw[B9]
  have g:AZ Tryd.prog (eqGuard .neq 97 x y (DH a b) (DH c d))=some ():=by
   unfold eqGuard
   simp[B9,KK,GQ]
  rw[g]
  show AZ Tryd.prog ((do pure (.bool (!(← Op.equal 97 (DH a b) (DH c d))))):Sem Value)=_
  rw[B9]
  have k:AZ Tryd.prog (Op.equal 97 (DH a b) (DH c d))=some (a==c&&b==d):=p_ 9998
  rw[k]
  rfl
 simp only[BR,ZF,Bool.and_self,if_true,e,JZ]
theorem yI {x y:Operand} {a b c d:Int}:BR Tryd.prog .eql 36 x y (DH a b) (DH c d)=some (.bool (a==c&&b==d)):=by
 have e:AZ Tryd.prog (do eqGuard .eql 36 x y (DH a b) (DH c d);binOp .eql 36 (DH a b) (DH c d))=some (.bool (a==c&&b==d)):=by
  rw[B9]
  have g:AZ Tryd.prog (eqGuard .eql 36 x y (DH a b) (DH c d))=some ():=by
   unfold eqGuard
   simp[B9,KK,GQ]
  rw[g]
  show AZ Tryd.prog ((do pure (.bool (← Op.equal 36 (DH a b) (DH c d)))):Sem Value)=_
  rw[B9]
  have k:AZ Tryd.prog (Op.equal 36 (DH a b) (DH c d))=some (a==c&&b==d):=lX 9998
  rw[k]
  rfl
 simp only[BR,ZF,Bool.and_self,if_true,e,JZ]
noncomputable def C5:Code:=rt (rt (rt (rt (Tryd.f32.body.getD .skip))))
noncomputable def eK:Array Oper:=DT Tryd.f32 5
def Hn:List (Bool × Bool × List Operand):=[AQ,AQ,AQ,AQ,AH [.tmp 26],AH [.tmp 26],AH [.tmp 26],AH [.tmp 26],AK,AK,AK,AK,AH [.tmp 26,.tmp 30,.tmp 27],AK,AK]
theorem yK:DP eK=Hn:=by kernel_rfl
theorem oR {a b c:Value} {ty:TypeId} {g ro:Bool}:BF 2 0 (.row [a,b,c] ty g ro)=some (.agg #[a,b]):=rfl
section
variable {call:AM} {N:Nat} {h:AA} {lo m k c e r n:Nat} {nm:ByteArray} {E:List Int} {F:List Nat} {tag:Nat→Nat} {vq vv vt vu vo:Value} {es:List (Value × Value)} {s:AN}
theorem kP {s:AN} {l:List AB} {k:Int}:BO { s with rows:=l } k=BO s k:=rfl
theorem rL (hsn:B8 call) {at_:Nat} {x:AB} (hp:EC h lo m k c e r n nm E F s) (hx:s.rows[at_]?=some x) (hkind:1≤x.kind∧x.kind≤54) (hn:n<30000000000000)
  (h81:∀ k h',1≤k∧k≤54→call 50 [iv k] h'=some (iv (DZ k),h')) :
  ∃ h',A8 Tryd.prog call N 32 [qP m 0,iv at_] h=some (iv (DJ at_ x s),h')∧(E6 h h' lo F∧(DJ at_ x s=0→EC h' lo m k c e r n nm E F (B7 at_ x s))):=by
 obtain⟨tag,vq,vv,vt,vu,vo,es,hp,hm,hw,hF⟩:=hp
 have hlF:∀ i,i<lo∨i∈F→i<lo∨(i<h.next∧11≤tag i):=fun i hi=>hi.imp id fun h=>hF i h
 have hll:∀ i,i<lo∨i∈F→i<h.next:=fun i hi=>by have:=hp.lm;have:=hlF i hi;omega
 refine EL (R:=fun h'=>E6 h h' lo F∧(DJ at_ x s=0→EC h' lo m k c e r n nm E F (B7 at_ x s))) Tryd.func32 rfl (by simp[Tryd.f32]) ?_
 have hr:Tryd.f32.results.toList=[.tmp 4]:=rfl
 generalize hKK:CG.top (fun ex s_1=>(ex=D7.normal∨ex=D7.ret)∧∃ vs,FH Tryd.prog s_1 Tryd.f32.results.toList=some vs∧HV vs=iv (DJ at_ x s)∧E6 h s_1.h lo F∧(DJ at_ x s=0→EC s_1.h lo m k c e r n nm E F (B7 at_ x s)))=K
 have fin:∀ (T':Tr) H v,T'.get 4=iv v→v=DJ at_ x s→E6 h H lo F→(v=0→EC H lo m k c e r n nm E F (B7 at_ x s))→K.ap Tryd.prog call N .ret ⟨T',H⟩:=fun T' H v h6 hv ha hb=>by
  subst hv
  rw[← hKK]
  simp only[eE,↓reduceIte,Nat.reduceEqDiff,reduceCtorEq,↓eP,rP,Nat.reduceAdd,Nat.reduceLT,hr,h6]
  exact⟨ha,hb⟩
 show WK _ _ _ (.seq _ (.seq _ (.seq _ (.seq _ C5)))) _ _
 have hm1:=hp.c1
 obtain⟨hlt,l0,l1,l2,l3,l4,lr⟩:=hp.row hx
 have hd81:=fun h'=>h81 x.kind h' hkind
 have hdl:=iG x.kind
 by_cases d0:DZ x.kind=0
 ·have dE:DJ at_ x s=0:=by unfold DJ;rw[if_pos d0]
  have dS:B7 at_ x s=s:=by unfold B7;rw[if_pos d0]
  have b0:(DZ x.kind==0)=true:=by simpa using d0
  simp only[eE,seval,↓eP,rP,IH,DI,DK,hm1,ON hlt,l0,hd81,b0]
  exact fin _ _ 0 (by simp only[Tr.get_put,if_true]) dE.symm ⟨fun _ _=>rfl,Nat.le_refl _,rfl⟩ fun _=>by rw[dS];exact⟨tag,vq,vv,vt,vu,vo,es,hp,hm,hw,hF⟩
 ·have b0:(DZ x.kind==0)=false:=by simpa using d0
  simp only[eE,seval,↓eP,rP,IH,DI,DK,hm1,ON hlt,l0,hd81,b0]
  have hlh:lo≤h.next:=by have:=hp.lm;omega
  show WK _ _ _ (.seq (.region _ _ true) _) _ _
  rw[KX]
  have c8:=hp.c8
  have hlook:=nT (x:=x.name) hp.known
  have hmn:=hp.lm.2
  have hkn:=hp.lk.2
  have hrn:=hp.pol.lr.2
  have hflo:h.floor≤h.next:=by have:=hp.fl;omega
  have n1:(some m != some h.next)=true:=by simp;omega
  have n2:(some r != some h.next)=true:=by simp;omega
  have n3:(some k != some h.next)=true:=by simp;omega
  have hnew:(h.push (.row [iv 0,iv 0,iv 0] 99 false false)).get h.next=.row [iv 0,iv 0,iv 0] 99 false false:=BM
  have hst:=fun a b d=>jV (a:=iv a) (b:=iv b) (c:=iv d) hnew (by exact hflo) rfl
  have hold:∀ o i,i<h.next→((h.push (.row [iv 0,iv 0,iv 0] 99 false false)).put h.next o).get i=h.get i:=fun o i hi=>by rw[AV (by show h.next<h.next+1;omega) (by omega),AR hi]
  have hgn:∀ o,((h.push (.row [iv 0,iv 0,iv 0] 99 false false)).put h.next o).get h.next=o:=fun o=>B0 rfl (by show h.next<h.next+1;omega)
  have hfl0:flat (.agg #[iv 0,iv 0,iv 0])=true:=rfl
  have hcl0:=E_ [iv 0,iv 0,iv 0]
  have i1:CH (qP m 8)=some m:=rfl
  have i2:CH (.pointer (some ⟨r,at_*5+1,none⟩))=some r:=rfl
  have i3:CH (.map (some k))=some k:=rfl
  have i4:CH (qP h.next 0)=some h.next:=rfl
  refine WK.flags (ops:=eK) yK ?_
  refine CF.begin ?_
  refine AG hsn 0 (some 24) (.move (.tmp 0)) none ?_
  simp only[rG,seval,AC,AF,AE,Tr.get_set]
  refine AG hsn 1 (some 25) (.nilCheck (.tmp 24)) none ?_
  simp only[rG,seval,AC,AF,AE]
  refine AG hsn 2 (some 26) (.fieldAddr 69 (.tmp 25) 1) none ?_
  simp only[rG,seval,AC,AF,AE,Nat.zero_add,ZC]
  refine AG hsn 3 (some 27) (.load 66 (.tmp 26)) none ?_
  simp only[rG,seval,AC,AF,AE,CT,XR,c8]
  refine AG hsn 4 (some 28) (.move (.tmp 5)) none ?_
  simp only[rG,seval,AC,AF,AE]
  refine AG hsn 5 (some 29) (.nilCheck (.tmp 28)) none ?_
  simp only[rG,seval,AC,AF,AE]
  refine AG hsn 6 (some 30) (.fieldAddr 61 (.tmp 29) 1) none ?_
  simp only[rG,seval,AC,AF,AE,K9]
  refine AG hsn 7 (some 31) (.load 9 (.tmp 30)) none ?_
  simp only[rG,seval,AC,AF,AE,CT,GE,l1]
  cases hf:FQ s.things x.name with
  | none=>
   rw[hf] at hlook
   refine AG hsn 8 (some 32) (.lookup 66 (.tmp 27) (.tmp 31) true) none ?_
   simp only[rG,seval,AC,AF,AE,CT,hlook,i3]
   refine AG hsn 9 (some 23) (.move (.tmp 32)) none ?_
   simp only[rG,seval,AC,AF,AE]
   refine AG hsn 10 (some 33) (.extract (.tmp 23) 0) none ?_
   simp only[rG,seval,AC,AF,AE,List.getElem?_toArray,List.getElem?_cons_zero]
   refine AG hsn 11 (some 34) (.extract (.tmp 23) 1) none ?_
   simp only[rG,seval,AC,AF,AE,List.getElem?_toArray,List.getElem?_cons_succ,List.getElem?_cons_zero]
   refine AG hsn 12 (some 7) (.alloc 99) none ?_
   simp only[rG,seval,AC,AF,AE,U7,RC,hfl0,hcl0]
   refine AG hsn 13 (none) (.store 99 (.tmp 7) (.tmp 33)) none ?_
   simp only[rG,seval,AC,AF,AE,CK,C6,hst,i4,CK,List.all_nil]
   refine AG hsn 14 (some 8) (.assign (.tmp 34)) none ?_
   simp only[rG,seval,AC,AF,AE]
   refine CF.done (i:=15) (by kernel_rfl) ?_
   have dE:DJ at_ x s=32:=by unfold DJ;rw[if_neg d0,hf]
   simp only[eE,seval,↓eP,rP]
   exact fin _ _ 32 (by simp only[Tr.get_put,if_true]) dE.symm ⟨fun i hi=>hold _ i (hll i hi),by show h.next≤h.next+1;omega,rfl⟩ fun h=>by cases h
  | some t=>
   rw[hf] at hlook
   refine AG hsn 8 (some 32) (.lookup 66 (.tmp 27) (.tmp 31) true) none ?_
   simp only[rG,seval,AC,AF,AE,CT,hlook,i3]
   refine AG hsn 9 (some 23) (.move (.tmp 32)) none ?_
   simp only[rG,seval,AC,AF,AE]
   refine AG hsn 10 (some 33) (.extract (.tmp 23) 0) none ?_
   simp only[rG,seval,AC,AF,AE,List.getElem?_toArray,List.getElem?_cons_zero]
   refine AG hsn 11 (some 34) (.extract (.tmp 23) 1) none ?_
   simp only[rG,seval,AC,AF,AE,List.getElem?_toArray,List.getElem?_cons_succ,List.getElem?_cons_zero]
   refine AG hsn 12 (some 7) (.alloc 99) none ?_
   simp only[rG,seval,AC,AF,AE,U7,RC,hfl0,hcl0]
   refine AG hsn 13 (none) (.store 99 (.tmp 7) (.tmp 33)) none ?_
   simp only[rG,seval,AC,AF,AE,CK,C6,hst,i4,CK,List.all_nil]
   refine AG hsn 14 (some 8) (.assign (.tmp 34)) none ?_
   simp only[rG,seval,AC,AF,AE]
   refine CF.done (i:=15) (by kernel_rfl) ?_
   have hp1:BH ((h.push (.row [iv 0,iv 0,iv 0] 99 false false)).put h.next (.row [iv t.kind,iv t.num,iv t.known] 99 false false)) lo m k c e r n nm E tag vq vv vt vu vo es s:=hp.putNew
   have hgo:=hold (.row [iv t.kind,iv t.num,iv t.known] 99 false false)
   have hgd:=hgn (.row [iv t.kind,iv t.num,iv t.known] 99 false false)
   have hnx:((h.push (.row [iv 0,iv 0,iv 0] 99 false false)).put h.next (.row [iv t.kind,iv t.num,iv t.known] 99 false false)).next=h.next+1:=rfl
   have hfl:((h.push (.row [iv 0,iv 0,iv 0] 99 false false)).put h.next (.row [iv t.kind,iv t.num,iv t.known] 99 false false)).floor=h.floor:=rfl
   generalize (h.push (.row [iv 0,iv 0,iv 0] 99 false false)).put h.next (.row [iv t.kind,iv t.num,iv t.known] 99 false false)=H1 at *
   generalize hdd:h.next=d at *
   have htm:t∈s.things:=List.mem_of_find?_eq_some hf
   obtain⟨q1,q2,q3,q4,q5⟩:=hw.th t htm
   cases dk:decide (t.known>(at_:Int)) with
   | true=>
    have dE:DJ at_ x s=32:=by unfold DJ;rw[if_neg d0,hf];simp only;rw[if_pos (by simpa using dk)]
    simp only[eE,seval,↓eP,rP,aC,hgd,dk]
    exact fin _ _ 32 (by simp only[Tr.get_put,if_true]) dE.symm ⟨fun i hi=>hgo i (hll i hi),by omega,hfl⟩ fun h=>by cases h
   | false=>
    have dk':¬ t.known>(at_:Int):=by simpa using dk
    cases dq:(t.kind==DZ x.kind) with
    | false=>
     have dE:DJ at_ x s=33:=by unfold DJ;rw[if_neg d0,hf];simp only;rw[if_neg dk',if_pos (by simpa using dq)]
     simp only[eE,seval,↓eP,rP,aC,dL,fL,eO,hgd,dk,oR,YI,jR,dq]
     exact fin _ _ 33 (by simp only[Tr.get_put,if_true]) dE.symm ⟨fun i hi=>hgo i (hll i hi),by omega,hfl⟩ fun h=>by cases h
    | true=>
     have dq':¬ t.kind≠DZ x.kind:=by simpa using dq
     have dE:DJ at_ x s=0:=by unfold DJ;rw[if_neg d0,hf];simp only;rw[if_neg dk',if_neg dq']
     have dS:B7 at_ x s={ s with rows:=GT s.rows at_ t.num }:=by unfold B7;rw[if_neg d0,hf]
     have hrl:=J2 s.rows
     have hlen:=hp1.pol.len
     have hst3:=HW (off:=at_*5+3) C4 (v:=iv t.num) rfl rfl hp1.pol.rows (by rw[hrl];omega) (by have:=hp1.fl;have:=hp1.pol.lr.1;omega)
     rw[bE hx] at hst3
     have hp3:=hp1.putR (l:=GT s.rows at_ t.num) VZ
     simp only[eE,seval,↓eP,rP,aC,dL,fL,eO,hgd,dk,oR,YI,jR,dq,hst3]
     refine fin _ _ 0 (by simp only[Tr.get_put,if_true]) dE.symm ⟨fun i hi=>?_,by show h.next≤H1.next;omega,hfl⟩ fun _=>?_
     ·rw[AV hp1.pol.lr.2 (OG (h:=h) (tag:=tag) hp1.pol.lr.1 (by rw[hp1.pol.tr];decide) (by rw[hdd];exact hlF i hi))]
      exact hgo i (hll i hi)
     ·rw[dS]
      exact⟨tag,vq,vv,vt,vu,vo,es,hp3,hm,⟨hw.q,hw.v,hw.t,hw.u,hw.o,hw.th⟩,fun i hi=>⟨by have h0:=hF i hi;show i<H1.next;omega,(hF i hi).2⟩⟩
end
noncomputable def E4:Code:=rt (rt (rt (Tryd.f33.body.getD .skip)))
def aB:List (Bool × Bool × List Operand):=[AQ,AQ,AQ,AQ,AQ,AH [.tmp 29],AH [.tmp 29],AK,AK]
section
variable {call:AM} {N:Nat} {h H:AA} {lo m k c e r n:Nat} {nm:ByteArray} {E:List Int} {F:List Nat} {tag:Nat→Nat} {vq vv vt vu vo:Value} {es:List (Value × Value)} {s:AN}
theorem BH.putMiss (hp:BH h lo m k c e r n nm E tag vq vv vt vu vo es s) (x:Int):BH (h.put m (.row [.string nm,qS r n AO,vq,vv,vt,vu,vo,iv x,.map (some k),.map (some c)] 69 false false)) lo m k c e r n nm E tag vq vv vt vu vo es { s with miss:=x }:=by
 have h0:∀ i,tag i≠0→(h.put m (.row [.string nm,qS r n AO,vq,vv,vt,vu,vo,iv x,.map (some k),.map (some c)] 69 false false)).get i=h.get i:=fun i hi=>AV hp.lm.2 (GB (tag:=tag) (by rw[hp.tm];exact fun e=>hi e.symm))
 have hq:=hp.pol.mono (h':=h.put m (.row [.string nm,qS r n AO,vq,vv,vt,vu,vo,iv x,.map (some k),.map (some c)] 69 false false)) (Nat.le_refl _) (fun _ _=>rfl) fun i _ _ h1 _=>h0 i (by omega)
 exact hp.pol' (Nat.le_refl _) rfl (fun _ _=>rfl) (fun i _ _ h1=>h0 i (by omega)) (B0 rfl hp.lm.2) ⟨hq.rows,hq.len,hq.tr,hq.lr,hq.q,hq.v,hq.t,hq.u,hq.o⟩ rfl
theorem BH.putOn (hp:BH h lo m k c e r n nm E tag vq vv vt vu vo es s) {i:Nat} (hi:i<s.on.length) (x:Int):∃ id ex,vo=qS id s.on.length AO∧h.get id=.row (ints s.on++ex) 3 true false∧lo≤id∧id<h.next∧tag id=6 ∧
  BH (h.put id (.row ((ints s.on++ex).set i (iv x)) 3 true false)) lo m k c e r n nm E tag vq vv vt vu vo es { s with on:=s.on.set i x }:=by
 rcases hp.pol.o with⟨h0,_,_⟩ | ⟨id,ex,h1,h2,h3,h4,h5⟩
 ·omega
 ·refine⟨id,ex,h1,h2,h3,h4,h5,?_⟩
  have hset:(ints s.on++ex).set i (iv x)=ints (s.on.set i x)++ex:=by
   rw[List.set_append_left _ _ (by rw[F9];exact hi),gI]
  rw[hset]
  have h0:∀ j,tag j≠6→(h.put id (.row (ints (s.on.set i x)++ex) 3 true false)).get j=h.get j:=fun j hj=>AV h4 (GB (tag:=tag) (by rw[h5];exact fun e=>hj e.symm))
  have hq:=hp.pol
  refine hp.pol' (Nat.le_refl _) rfl (fun _ _=>rfl) (fun j _ _ h1=>h0 j (by omega)) (by rw[h0 m (by rw[hp.tm];decide)];exact hp.cell) ?_ rfl
  refine⟨by rw[h0 r (by rw[hq.tr];decide)];exact hq.rows,hq.len,hq.tr,hq.lr,hq.q.mono (Nat.le_refl _) (fun _ _=>rfl) fun j _ _ h3=>h0 j (by omega),hq.v.mono (Nat.le_refl _) (fun _ _=>rfl) fun j _ _ h3=>h0 j (by omega),hq.t.mono (Nat.le_refl _) (fun _ _=>rfl) fun j _ _ h3=>h0 j (by omega),hq.u.mono (Nat.le_refl _) (fun _ _=>rfl) fun j _ _ h3=>h0 j (by omega),?_⟩
  refine .inr ⟨id,ex,by rw[h1,List.length_set],B0 rfl h4,h3,h4,h5⟩
theorem Au {l:List Int} {ex:List Value} {i:Nat} {x:Int} {ty:TypeId} {g ro:Bool} (hx:l[i]?=some x):AJ i (.row (ints l++ex) ty g ro)=some (iv x):=by
 have hl:=(List.getElem?_eq_some_iff.1 hx).1
 simp only[AJ]
 rw[List.getElem?_append_left (by rw[F9];exact hl),aT,hx]
 rfl
theorem Fs (hsn:B8 call) {at_:Nat} {x:AB} (hp:EC h lo m k c e r n nm E F s) (hx:s.rows[at_]?=some x) (hkind:1≤x.kind∧x.kind≤54) (hn:n<30000000000000) (hxn:GY x.kind=true→x.kind≠10→0≤x.n∧x.n<s.on.length)
  (h82:∀ k h',1≤k∧k≤54→call 51 [iv k] h'=some (.bool (GY k),h')) :
  ∃ h',A8 Tryd.prog call N 33 [qP m 0,iv at_] h=some (iv (EX x s),h')∧(E6 h h' lo F∧(EX x s=0→EC h' lo m k c e r n nm E F (EG at_ x s))):=by
 obtain⟨tag,vq,vv,vt,vu,vo,es,hp,hm,hw,hF⟩:=hp
 have hlF:∀ i,i<lo∨i∈F→i<lo∨(i<h.next∧11≤tag i):=fun i hi=>hi.imp id fun h=>hF i h
 have hll:∀ i,i<lo∨i∈F→i<h.next:=fun i hi=>by have:=hp.lm;have:=hlF i hi;omega
 refine EL (R:=fun h'=>E6 h h' lo F∧(EX x s=0→EC h' lo m k c e r n nm E F (EG at_ x s))) Tryd.func33 rfl (by simp[Tryd.f33]) ?_
 have hr:Tryd.f33.results.toList=[.tmp 4]:=rfl
 generalize hKK:CG.top (fun ex s_1=>(ex=D7.normal∨ex=D7.ret)∧∃ vs,FH Tryd.prog s_1 Tryd.f33.results.toList=some vs∧HV vs=iv (EX x s)∧E6 h s_1.h lo F∧(EX x s=0→EC s_1.h lo m k c e r n nm E F (EG at_ x s)))=K
 have fin:∀ (T':Tr) H v,T'.get 4=iv v→v=EX x s→E6 h H lo F→(v=0→EC H lo m k c e r n nm E F (EG at_ x s))→K.ap Tryd.prog call N .ret ⟨T',H⟩:=fun T' H v h6 hv ha hb=>by
  subst hv
  rw[← hKK]
  simp only[eE,↓reduceIte,Nat.reduceEqDiff,reduceCtorEq,↓eP,rP,Nat.reduceAdd,Nat.reduceLT,hr,h6]
  exact⟨ha,hb⟩
 show WK _ _ _ (.seq _ (.seq _ (.seq _ E4))) _ _
 have hm1:=hp.c1
 obtain⟨hlt,l0,l1,l2,l3,l4,lr⟩:=hp.row hx
 have hev:=fun h'=>h82 x.kind h' hkind
 have hflo:h.floor≤h.next:=by have:=hp.fl;have:=hp.lm;omega
 have hflT:(h.floor≤h.next)=True:=by simpa using hflo
 have hlh:lo≤h.next:=by have:=hp.lm;omega
 have hrn:=hp.pol.lr.2
 have hmn:=hp.lm.2
 have hrF:(r=h.next)=False:=by simp;omega
 have hmF:(m=h.next)=False:=by simp;omega
 have hltT:(h.next<h.next+1)=True:=by simp
 have hp1:=fun o o'=>hp.putNew (o:=o) (o':=o')
 have hone:([.int .i64 x.kind,.string x.name,.int .i64 x.ends,.int .i64 x.n,.int .i64 x.kids]:List Value).all one=true:=rfl
 have hz:flat (.agg #[.int .i64 0,.string ByteArray.empty,.int .i64 0,.int .i64 0,.int .i64 0])=true:=rfl
 have hzc:=E_ ER
 have hst:A_ Tryd.prog (h.push (.row ER 61 false false)) 61 (qP h.next 0) (.agg #[.int .i64 x.kind,.string x.name,.int .i64 x.ends,.int .i64 x.n,.int .i64 x.kids])=some ((h.push (.row ER 61 false false)).put h.next (.row [.int .i64 x.kind,.string x.name,.int .i64 x.ends,.int .i64 x.n,.int .i64 x.kids] 61 false false)):=by
  rw[E9,BM,RT,if_pos ⟨hflo,hone⟩]
 have hp1:BH ((h.push (.row ER 61 false false)).put h.next (.row [.int .i64 x.kind,.string x.name,.int .i64 x.ends,.int .i64 x.n,.int .i64 x.kids] 61 false false)) lo m k c e r n nm E tag vq vv vt vu vo es s:=hp.putNew
 have hgd:((h.push (.row ER 61 false false)).put h.next (.row [.int .i64 x.kind,.string x.name,.int .i64 x.ends,.int .i64 x.n,.int .i64 x.kids] 61 false false)).get h.next=.row [.int .i64 x.kind,.string x.name,.int .i64 x.ends,.int .i64 x.n,.int .i64 x.kids] 61 false false:=B0 rfl (by show h.next<h.next+1;omega)
 have hgo:∀ i,i<h.next→((h.push (.row ER 61 false false)).put h.next (.row [.int .i64 x.kind,.string x.name,.int .i64 x.ends,.int .i64 x.n,.int .i64 x.kids] 61 false false)).get i=h.get i:=fun i hi=>by rw[AV (by show h.next<h.next+1;omega) (by omega),AR hi]
 have hnx:((h.push (.row ER 61 false false)).put h.next (.row [.int .i64 x.kind,.string x.name,.int .i64 x.ends,.int .i64 x.n,.int .i64 x.kids] 61 false false)).next=h.next+1:=rfl
 have hfl:((h.push (.row ER 61 false false)).put h.next (.row [.int .i64 x.kind,.string x.name,.int .i64 x.ends,.int .i64 x.n,.int .i64 x.kids] 61 false false)).floor=h.floor:=rfl
 generalize hH1:(h.push (.row ER 61 false false)).put h.next (.row [.int .i64 x.kind,.string x.name,.int .i64 x.ends,.int .i64 x.n,.int .i64 x.kids] 61 false false)=H1 at *
 have hw1:IntKind.i64.wrap ((at_:Int)+1)=(at_:Int)+1:=C9 (by omega) (by omega)
 have after1:E6 h H1 lo F:=⟨fun i hi=>hgo i (hll i hi),by omega,hfl⟩
 have hF1:∀ i∈F,i<H1.next∧11≤tag i:=fun i hi=>⟨by have h0:=hF i hi;omega,(hF i hi).2⟩
 have e46:=@HN
 cases d0:GY x.kind with
 | false=>
  have dE:EX x s=0:=by unfold EX;rw[if_pos d0]
  have dS:EG at_ x s=s:=by unfold EG;rw[if_pos d0]
  simp only[eE,seval,↓eP,Nat.reduceAdd,Nat.zero_add,IH,DI,DK,HN,AU,hm1,ON hlt,lr,FI,hz,hzc,hst,hgd,C2,IW,hev,d0]
  exact fin _ _ 0 (by simp only[Tr.get_put,if_true]) dE.symm after1 fun _=>by rw[dS];exact⟨tag,vq,vv,vt,vu,vo,es,hp1,hm,hw,hF1⟩
 | true=>
  simp only[eE,seval,↓eP,Nat.reduceAdd,Nat.zero_add,IH,DI,DK,HN,AU,hm1,ON hlt,lr,FI,hz,hzc,hst,hgd,C2,IW,hev,d0]
  show WK _ _ _ (.seq _ (.seq (.seq _ (.cond _ (.region _ _ _) _)) (.seq (.seq _ (.cond _ _ _)) (.seq _ (.seq _ _))))) _ _
  cases d10:(x.kind==10) with
  | true=>
   have k10:x.kind=10:=by simpa using d10
   have d10':(x.kind != 10)=false:=by rw[bne,d10];rfl
   have c7:=hp1.c7
   have hst7:A_ Tryd.prog H1 3 (qP m 7) (iv ((at_:Int)+1))=_:=HW C4 rfl rfl hp1.cell (by simp only[List.length_cons,List.length_nil];omega) (by have:=hp1.fl;have:=hp1.lm;omega)
   simp only[List.set_cons_succ,List.set_cons_zero] at hst7
   cases dm:decide (s.miss≥0) with
   | true=>
    have dE:EX x s=31:=by unfold EX;rw[if_neg (by rw[d0];simp),if_pos k10,if_pos (by simpa using dm)]
    simp only[eE,seval,↓eP,Nat.zero_add,IH,J_,AU,hgd,C2,IW,d10',c7,dm]
    exact fin _ _ 31 (by simp only[Tr.get_put,if_true]) dE.symm after1 fun h=>by cases h
   | false=>
    have dE:EX x s=0:=by unfold EX;rw[if_neg (by rw[d0];simp),if_pos k10,if_neg (by simpa using dm)]
    have dS:EG at_ x s={ s with miss:=(at_:Int)+1 }:=by unfold EG;rw[if_neg (by rw[d0];simp),if_pos k10]
    simp only[eE,seval,↓eP,Nat.zero_add,IH,J_,AU,hgd,C2,IW,d10',c7,dm,hw1,hst7]
    refine fin _ _ 0 (by simp only[Tr.get_put,if_true]) dE.symm ⟨fun i hi=>?_,by show h.next≤H1.next;omega,hfl⟩ fun _=>?_
    ·rw[AV hp1.lm.2 (OG (h:=h) hp1.lm.1 (by rw[hp1.tm];decide) (hlF i hi))]
     exact hgo i (hll i hi)
    ·rw[dS]
     exact⟨tag,vq,vv,vt,vu,vo,es,hp1.putMiss _,hm,⟨hw.q,hw.v,hw.t,hw.u,hw.o,hw.th⟩,hF1⟩
  | false=>
   have k10:¬ x.kind=10:=by simpa using d10
   have d10':(x.kind != 10)=true:=by rw[bne,d10];rfl
   obtain⟨hn0,hn1⟩:=hxn d0 k10
   obtain⟨i,hi⟩:∃ i:Nat,x.n=(i:Int):=⟨x.n.toNat,by omega⟩
   have hil:i<s.on.length:=by omega
   obtain⟨id,ex,ev,hgi,hli,hni,hti,hp2⟩:=hp1.putOn hil ((at_:Int)+1)
   obtain⟨v,hv⟩:∃ v,s.on[i]?=some v:=⟨_,List.getElem?_eq_getElem hil⟩
   have c6:=hp1.c6
   rw[ev] at c6
   have lv:=Au (ex:=ex) (ty:=3) (g:=true) (ro:=false) hv
   have hst6:=HW (h:=H1) (off:=i) C4 (v:=iv ((at_:Int)+1)) rfl rfl hgi (by rw[List.length_append,F9];omega) (by have:=hp1.fl;omega)
   have hton:x.n.toNat=i:=by omega
   simp only[eE,seval,↓eP,Nat.zero_add,IH,J_,AU,hgd,C2,IW,d10']
   show WK _ _ _ (.region _ _ true) _ _
   refine WK.flags (fs:=aB) (by kernel_rfl) ?_
   unfold aB
   iterate 9
    refine D9 hsn ?_
    simp only[rG,seval,AC,AF,AE,CT,DU,CK,C6,EA,hi,IH,KU,DV,c6,F8,AU,hgd,PV,FB hil]
   refine D4 ?_
   cases dm:decide (v≥0) with
   | true=>
    have dE:EX x s=31:=by unfold EX;rw[if_neg (by rw[d0];simp),if_neg k10,hton,hv];simp only;rw[if_pos (by simpa using dm)]
    simp only[eE,seval,↓eP,AU,hgi,lv,dm]
    exact fin _ _ 31 (by simp only[Tr.get_put,if_true]) dE.symm after1 fun h=>by cases h
   | false=>
    have dE:EX x s=0:=by unfold EX;rw[if_neg (by rw[d0];simp),if_neg k10,hton,hv];simp only;rw[if_neg (by simpa using dm)]
    have dS:EG at_ x s={ s with on:=s.on.set i ((at_:Int)+1) }:=by unfold EG;rw[if_neg (by rw[d0];simp),if_neg k10,hton]
    simp only[eE,seval,↓eP,AU,hgi,lv,dm,hw1,hst6]
    refine fin _ _ 0 (by simp only[Tr.get_put,if_true]) dE.symm ⟨fun j hj=>?_,by show h.next≤H1.next;omega,hfl⟩ fun _=>?_
    ·rw[AV hni (OG (h:=h) hli (by rw[hti];decide) (hlF j hj))]
     exact hgo j (hll j hj)
    ·rw[dS]
     exact⟨tag,vq,vv,vt,vu,vo,es,hp2,hm,⟨hw.q,hw.v,hw.t,hw.u,by simp only[List.length_set];exact hw.o,hw.th⟩,hF1⟩
end
def HL (a b:Int):Int:=if a>4611686018427387904-b then 4611686018427387904 else a+b
theorem TF {a b:Int} (ha:0≤a) (hb:0≤b) (hb2:b≤4611686018427387904):0≤HL a b∧HL a b≤4611686018427387904:=by unfold HL;split <;> omega
def M4 (sums:List Int) (k:Int):Int:=(sums[k.toNat]?).getD 0
def H_ (sums:List Int):List AB→Int→Int
 | [],n=>n
 | x :: l,n=>H_ sums l (if x.kind=22 then HL (HL n 1) (M4 sums x.n) else HL n 1)
def JP (sums:List Int):Prop:=∀ x∈sums,0≤x∧x≤4611686018427387904
theorem tK {sums:List Int} (hs:JP sums) (k:Int):0≤M4 sums k∧M4 sums k≤4611686018427387904:=by
 unfold M4
 cases h:sums[k.toNat]? with
 | none=>exact⟨by simp,by simp⟩
 | some x=>exact hs x (List.mem_of_getElem? h)
theorem b_ {sums:List Int} (hs:JP sums):∀ (l:List AB) (n:Int),0≤n→n≤4611686018427387904→0≤H_ sums l n∧H_ sums l n≤4611686018427387904
 | [],n,h0,h1=>⟨h0,h1⟩
 | x :: l,n,h0,h1=>by
  have h2:=TF (a:=n) (b:=1) h0 (by omega) (by omega)
  have h3:=tK hs x.n
  have h4:=TF h2.1 h3.1 h3.2
  unfold H_
  split
  ·exact b_ hs l _ h4.1 h4.2
  ·exact b_ hs l _ h2.1 h2.2
section
variable {call:AM} {N:Nat} {h:AA}
theorem Gg {a b:Int} (hb:0≤b∧b≤4611686018427387904) (ha:0≤a∧a≤4611686018427387904):A8 Tryd.prog call N 53 [iv a,iv b] h=some (iv (HL a b),h):=by
 refine DA Tryd.func53 rfl (by simp[Tryd.f53]) ?_
 have hr:Tryd.f53.results.toList=[.tmp 4]:=rfl
 have w1:IntKind.i64.wrap (4611686018427387904-b)=4611686018427387904-b:=C9 (by omega) (by omega)
 unfold HL
 cases d:decide (a>4611686018427387904-b) with
 | true=>
  rw[if_pos (by simpa using d)]
  simp only[eE,seval,↓eP,rP,hr,w1,d]
 | false=>
  have d':¬ a>4611686018427387904-b:=by simpa using d
  have w2:IntKind.i64.wrap (a+b)=a+b:=C9 (by omega) (by omega)
  rw[if_neg d']
  simp only[eE,seval,↓eP,rP,hr,w1,d,w2]
theorem d9 {a b:Int} (h:AA) (hb:0≤b∧b≤4611686018427387904) (ha:0≤a∧a≤4611686018427387904):L1 53 [iv a,iv b] h=some (iv (HL a b),h):=J9 (II rfl rfl) rfl rfl rfl ⟨_,Gg hb ha⟩
def XO:List (Bool × Bool × List Operand):=[AQ,AQ,AH [.tmp 9],AH [.tmp 9],AH [.tmp 9,.tmp 2],AH [.tmp 9],AH [.tmp 9],AK,AK,AH [.tmp 9,.tmp 2,.tmp 14,.tmp 10]]
structure I0 (h:AA) (pb eb sb:Nat) (rows:List AB) (E sums:List Int):Prop where
 p:∃ v0 vr v2 v3 v4 v5 v6 v7 g,h.get pb=.row [v0,vr,v2,v3,v4,v5,v6,v7] 33 g false∧(∀ (lo hi:Nat) h',(∀ i,i<h.next→h'.get i=h.get i)→h.next≤h'.next→lo≤hi→hi≤rows.length→∃ v',GN Tryd.prog h' 26 vr (some (iv lo)) (some (iv hi)) none=some v'∧A7 h' v' ((rows.drop lo).take (hi-lo)))
 e:∃ e n c g g',h.get eb=.row [qS e n c] 27 g false∧h.get e=.row (ints E) 3 g' false∧n=E.length∧e<h.next
 s:∃ q n c g g',h.get sb=.row [qS q n c] 27 g false∧h.get q=.row (ints sums) 3 g' false∧n=sums.length∧q<h.next
 lp:pb<h.next
 le:eb<h.next
 ls:sb<h.next
theorem I0.mono {h h':AA} {pb eb sb:Nat} {rows:List AB} {E sums:List Int} (hc:I0 h pb eb sb rows E sums) (hn:h.next≤h'.next) (hg:∀ i,i<h.next→h'.get i=h.get i):I0 h' pb eb sb rows E sums where
 p:=by
  obtain⟨v0,vr,v2,v3,v4,v5,v6,v7,g,h1,h2⟩:=hc.p
  exact⟨v0,vr,v2,v3,v4,v5,v6,v7,g,by rw[hg pb hc.lp];exact h1,fun lo hi h2' a b=>h2 lo hi h2' (fun i hi'=>by rw[a i (by omega),hg i hi']) (by omega)⟩
 e:=by
  obtain⟨e,n,c,g,g',h1,h2,h3,h4⟩:=hc.e
  exact⟨e,n,c,g,g',by rw[hg eb hc.le];exact h1,by rw[hg e h4];exact h2,h3,by omega⟩
 s:=by
  obtain⟨e,n,c,g,g',h1,h2,h3,h4⟩:=hc.s
  exact⟨e,n,c,g,g',by rw[hg sb hc.ls];exact h1,by rw[hg e h4];exact h2,h3,by omega⟩
 lp:=by have:=hc.lp;omega
 le:=by have:=hc.le;omega
 ls:=by have:=hc.ls;omega
theorem Hs (hsn:B8 call) {pb eb sb row q:Nat} {rows:List AB} {E sums:List Int} (hc:I0 h pb eb sb rows E sums) (hs:JP sums) (hfl:h.floor≤h.next) (hE:E[row]?=some (q:Int)) (hrq:row≤q) (hq:q≤rows.length) (hlen:rows.length<30000000000000) (hN:rows.length+3<N)
  (hcalls:∀ x∈(rows.drop row).take (q-row),x.kind=22→0≤x.n∧x.n<sums.length) (h83:∀ a b h',0≤b∧b≤4611686018427387904→0≤a∧a≤4611686018427387904→call 53 [iv a,iv b] h'=some (iv (HL a b),h')) :
  ∃ h',A8 Tryd.prog call N 66 [iv row,qP pb 0,qP eb 0,qP sb 0] h=some (iv (H_ sums ((rows.drop row).take (q-row)) 0),h')∧∀ i,i<h.next→h'.get i=h.get i:=by
 refine EL (R:=fun h'=>∀ i,i<h.next→h'.get i=h.get i) Tryd.func66 rfl (by simp[Tryd.f66]) ?_
 have hr:Tryd.f66.results.toList=[.tmp 5]:=rfl
 obtain⟨v0,vr,v2,v3,v4,v5,v6,v7,g,hg1,hsl⟩:=hc.p
 obtain⟨e,ne,ce,ge,ge',he1,he2,he3,he4⟩:=hc.e
 obtain⟨sq,ns,cs,gs,gs',hs1,hs2,hs3,hs4⟩:=hc.s
 obtain⟨v',hv1,hv2⟩:=hsl row q h (fun _ _=>rfl) (Nat.le_refl _) hrq hq
 have hrE:row<E.length:=(List.getElem?_eq_some_iff.1 hE).1
 have hll:=fun h'=>hv2.len (h':=h')
 have hseg:((rows.drop row).take (q-row)).length=q-row:=by rw[List.length_take,List.length_drop];omega
 generalize hS:(rows.drop row).take (q-row)=S at *
 have lE:=MM (ty:=3) (g:=ge') (ro:=false) hE
 obtain⟨va,vc,hve⟩:∃ a c,v'=.slice a S.length c:=by obtain⟨a,c,h1,_⟩:=hv2;exact⟨a,c,h1⟩
 subst hve
 simp only[eE,seval,↓eP,rP]
 show WK _ _ _ (.region _ _ true) _ _
 refine WK.flags (fs:=XO) (by kernel_rfl) ?_
 unfold XO
 iterate 10
  refine D9 hsn ?_
  simp only[rG,seval,AC,AF,AE,CT,DU,CK,C6,EA,DI,Option.map_some,JA,false_implies,DK,hg1,RQ,DV,he1,IW,FB (show row<ne by omega),AU,he2,lE,Option.map_none,hv1,hll]
 refine D4 ?_
 simp only[eE,seval,↓eP,rP]
 refine WK.loop (fun i s=>s.T.get 3=qP sb 0∧s.T.get 16=.slice va S.length vc∧s.T.get 17=iv (S.length:Int)∧s.T.get 18=iv i∧i≤S.length∧s.h.floor=h.floor∧h.next≤s.h.next∧(∀ i,i<h.next→s.h.get i=h.get i) ∧
  ∃ n:Int,s.T.get 6=iv n∧0≤n∧n≤4611686018427387904∧H_ sums (S.drop i) n=H_ sums S 0) S.length (by omega) ?_ ?_
 ·simp only[eE,↓reduceIte,Nat.reduceEqDiff,reduceCtorEq,↓eP,rP,Nat.reduceAdd,Nat.reduceLT]
  exact⟨by omega,by omega,fun _ _=>trivial,by omega,by omega,rfl⟩
 ·rintro i ⟨T1,H1⟩ hi ⟨t3,t16,t17,t18,hil,hf1,hn1,ho1,n,t6,hn0,hnB,hcn⟩
  simp only at t3 t16 t17 t18 hf1 hn1 ho1 t6
  by_cases hlt:i<S.length
  ·have c1:decide ((i:Int)<(S.length:Int))=true:=by simp;omega
   obtain⟨x,hx⟩:∃ x,S[i]?=some x:=⟨_,List.getElem?_eq_getElem hlt⟩
   have hv3:A7 H1 (.slice va S.length vc) S:=hv2.mono hn1 ho1
   obtain⟨id,p,e0,hid,l0,l1,l2,l3,l4,lr⟩:=hv3.row hx
   have hflo:H1.floor≤H1.next:=by omega
   have hz:flat (.agg #[.int .i64 0,.string ByteArray.empty,.int .i64 0,.int .i64 0,.int .i64 0])=true:=rfl
   have hzc:=E_ ER
   have hone:([.int .i64 x.kind,.string x.name,.int .i64 x.ends,.int .i64 x.n,.int .i64 x.kids]:List Value).all one=true:=rfl
   have hst:A_ Tryd.prog (H1.push (.row ER 61 false false)) 61 (qP H1.next 0) (.agg #[.int .i64 x.kind,.string x.name,.int .i64 x.ends,.int .i64 x.n,.int .i64 x.kids])=some ((H1.push (.row ER 61 false false)).put H1.next (.row [.int .i64 x.kind,.string x.name,.int .i64 x.ends,.int .i64 x.n,.int .i64 x.kids] 61 false false)):=by
    rw[E9,BM,RT,if_pos ⟨hflo,hone⟩]
   have hgd:((H1.push (.row ER 61 false false)).put H1.next (.row [.int .i64 x.kind,.string x.name,.int .i64 x.ends,.int .i64 x.n,.int .i64 x.kids] 61 false false)).get H1.next=.row [.int .i64 x.kind,.string x.name,.int .i64 x.ends,.int .i64 x.n,.int .i64 x.kids] 61 false false:=B0 rfl (by show H1.next<H1.next+1;omega)
   have hgo:∀ i,i<h.next→((H1.push (.row ER 61 false false)).put H1.next (.row [.int .i64 x.kind,.string x.name,.int .i64 x.ends,.int .i64 x.n,.int .i64 x.kids] 61 false false)).get i=h.get i:=fun i hi=>by rw[AV (by show H1.next<H1.next+1;omega) (by omega),AR (by omega)];exact ho1 i hi
   have hnx:((H1.push (.row ER 61 false false)).put H1.next (.row [.int .i64 x.kind,.string x.name,.int .i64 x.ends,.int .i64 x.n,.int .i64 x.kids] 61 false false)).next=H1.next+1:=rfl
   have hfl2:((H1.push (.row ER 61 false false)).put H1.next (.row [.int .i64 x.kind,.string x.name,.int .i64 x.ends,.int .i64 x.n,.int .i64 x.kids] 61 false false)).floor=H1.floor:=rfl
   generalize (H1.push (.row ER 61 false false)).put H1.next (.row [.int .i64 x.kind,.string x.name,.int .i64 x.ends,.int .i64 x.n,.int .i64 x.kids] 61 false false)=H2 at *
   have p1:=TF (a:=n) (b:=1) hn0 (by omega) (by omega)
   have h831:=fun hh=>h83 n 1 hh (by omega) ⟨hn0,hnB⟩
   have w1:=EU i (by omega)
   have hdr:S.drop i=x :: S.drop (i+1):=by
    obtain⟨hl,rfl⟩:=List.getElem?_eq_some_iff.1 hx
    exact List.drop_eq_getElem_cons hl
   rw[hdr] at hcn
   change H_ sums (S.drop (i+1)) (if x.kind=22 then HL (HL n 1) (M4 sums x.n) else HL n 1)=_ at hcn
   cases d22:(x.kind==22) with
   | false=>
    rw[if_neg (by simpa using d22)] at hcn
    simp only[eE,seval,↓eP,t3,t16,t17,t18,t6,c1,e0,HN,lr,FI,hz,hzc,hst,h831,C2,AU,hgd,IW,d22,w1]
    exact⟨by omega,by omega,by rw[hfl2];exact hf1,by omega,hgo,p1.1,p1.2,hcn⟩
   | true=>
    have k22:x.kind=22:=by simpa using d22
    rw[if_pos k22] at hcn
    obtain⟨c0,c2⟩:=hcalls x (List.mem_of_getElem? hx) k22
    obtain⟨j,hj⟩:∃ j:Nat,x.n=(j:Int):=⟨x.n.toNat,by omega⟩
    have hjl:j<sums.length:=by omega
    obtain⟨y,hy⟩:∃ y,sums[j]?=some y:=⟨_,List.getElem?_eq_getElem hjl⟩
    have hyy:=hs y (List.mem_of_getElem? hy)
    have hsa:M4 sums x.n=y:=by unfold M4;rw[show x.n.toNat=j by omega,hy];rfl
    rw[hsa] at hcn
    have hgs:H2.get sb=.row [qS sq ns cs] 27 gs false:=by rw[hgo sb hc.ls];exact hs1
    have hgq:H2.get sq=.row (ints sums) 3 gs' false:=by rw[hgo sq hs4];exact hs2
    have lS:=MM (ty:=3) (g:=gs') (ro:=false) hy
    have h832:=fun hh=>h83 (HL n 1) y hh hyy p1
    have ix:CL Tryd.prog 27 (qS sq ns cs) (iv x.n)=some (qP sq j):=by rw[hj];exact FB (show j<ns by omega)
    have p2:=TF p1.1 hyy.1 hyy.2
    simp only[eE,seval,↓eP,Nat.zero_add,t3,t16,t17,t18,t6,c1,e0,HN,lr,FI,hz,hzc,hst,h831,C2,F8,AU,hgd,IW,PV,d22,w1,DV,hgs,ix,hgq,lS,h832]
    exact⟨by omega,by omega,by rw[hfl2];exact hf1,by omega,hgo,p2.1,p2.2,hcn⟩
  ·have c1:decide ((i:Int)<(S.length:Int))=false:=by simp;omega
   have hn:H_ sums S 0=n:=by
    rw[← hcn,List.drop_of_length_le (by omega)]
    rfl
   rw[hn]
   simp only[eE,seval,↓eP,hr,t17,t18,t6,c1]
   exact ho1
end
def GA (rows:List AB) (E sums:List Int) (row:Nat):Int:=H_ sums ((rows.drop row).take (((E[row]?).getD 0).toNat-row)) 0
def OE (rows:List AB) (E:List Int):List Int→Nat→List Int→List Int
 | [],_,sums=>sums
 | ru :: rest,i,sums=>OE rows E rest (i+1) (sums.set i (GA rows E sums ru.toNat))
def KB (rows:List AB) (E rules:List Int):List Int:=OE rows E rules 0 (List.replicate rules.length 0)
structure OH (rows:List AB) (E rules:List Int):Prop where
 len:rows.length<2932031007403
 e:E.length=rows.length
 ends:∀ i,i<rows.length→∃ q:Nat,E[i]?=some (q:Int)∧i<q∧q≤rows.length
 rl:∀ ru∈rules,0≤ru∧ru<rows.length
 nrules:rules.length<1000000
 calls:∀ x∈rows,x.kind=22→0≤x.n∧x.n<rules.length
theorem iL (n:Nat):JP (List.replicate n 0):=fun x hx=>by
 rw[List.mem_replicate] at hx
 rw[hx.2]
 omega
theorem oK {sums:List Int} (hs:JP sums) (i:Nat) {x:Int} (hx:0≤x∧x≤4611686018427387904):JP (sums.set i x):=fun y hy=>by
 rcases List.mem_or_eq_of_mem_set hy with h | h
 ·exact hs y h
 ·rw[h];exact hx
theorem WX {rows:List AB} {E sums:List Int} (hs:JP sums) (row:Nat):0≤GA rows E sums row∧GA rows E sums row≤4611686018427387904:=b_ hs _ 0 (by omega) (by omega)
theorem pA {rows:List AB} {E:List Int}:∀ (l:List Int) (i:Nat) (sums:List Int),JP sums→JP (OE rows E l i sums)∧(OE rows E l i sums).length=sums.length
 | [],i,sums,hs=>⟨hs,rfl⟩
 | ru :: rest,i,sums,hs=>by
  have:=pA (rows:=rows) (E:=E) rest (i+1) (sums.set i (GA rows E sums ru.toNat)) (oK hs _ (WX hs _))
  rw[List.length_set] at this
  exact this
theorem ZH {rows:List AB} {E rules:List Int}:JP (KB rows E rules)∧(KB rows E rules).length=rules.length:=by
 have:=pA (rows:=rows) (E:=E) rules 0 _ (iL rules.length)
 rw[List.length_replicate] at this
 exact this
def X_:List (Bool × Bool × List Operand):=[(true,false,[]),FO [.tmp 5],AH [.tmp 5],AH [.tmp 5],AH [.tmp 5],AK,AK]
theorem I0.flr {h:AA} {pb eb sb:Nat} {rows:List AB} {E sums:List Int} (hc:I0 h pb eb sb rows E sums) (f:Nat):I0 (h.fl f) pb eb sb rows E sums:=hc.mono (Nat.le_refl _) fun _ _=>rfl
section
variable {call:AM} {N:Nat} {h:AA}
theorem tD (hsn:B8 call) {rows:List AB} {E rules:List Int} (hL:OH rows E rules) {v0 vr v2 v3 v4 vu v6 v7:Value} {e ce:Nat} {ge:Bool} (hone:[v0,vr,v2,v3,v4,vu,v6,v7].all one=true) (hfl:h.floor≤h.next) (hN:rows.length+3<N) (hN2:rules.length+3<N)
  (hsl:∀ (lo hi:Nat) h',(∀ i,i<h.next→h'.get i=h.get i)→h.next≤h'.next→lo≤hi→hi≤rows.length→∃ v',GN Tryd.prog h' 26 vr (some (iv lo)) (some (iv hi)) none=some v'∧A7 h' v' ((rows.drop lo).take (hi-lo)))
  (hul:∀ h',CX Tryd.prog h' 27 vu=some (iv (rules.length:Int))) (hus:∃ a c,vu=.slice a rules.length c)
  (hu:∀ h':AA,(∀ i,i<h.next→h'.get i=h.get i)→∀ (i:Nat) ru,rules[i]?=some ru→∃ id off,CL Tryd.prog 27 vu (iv i)=some (qP id off)∧AJ off (h'.get id)=some (iv ru))
  (he:h.get e=.row (ints E) 3 ge false) (hel:e<h.next)
  (h88:∀ pb eb sb (row:Nat) sums h',I0 h' pb eb sb rows E sums→sums.length=rules.length→JP sums→h'.floor≤h'.next→row<rows.length→call 66 [iv row,qP pb 0,qP eb 0,qP sb 0] h'=some (iv (GA rows E sums row),h')) :
  ∃ h',A8 Tryd.prog call N 52 [.agg #[v0,vr,v2,v3,v4,vu,v6,v7],qS e E.length ce] h=some (.func (.func 66) #[] #[qP h.next 0,qP (h.next+1) 0,qP (h.next+3) 0],h') ∧
   (I0 h' h.next (h.next+1) (h.next+3) rows E (KB rows E rules)∧h.next≤h'.next∧h'.floor=h.floor∧∀ i,i<h.next→h'.get i=h.get i):=by
 refine EL (R:=fun h'=>I0 h' h.next (h.next+1) (h.next+3) rows E (KB rows E rules)∧h.next≤h'.next∧h'.floor=h.floor∧∀ i,i<h.next→h'.get i=h.get i) Tryd.func52 rfl (by simp[Tryd.f52]) ?_
 have hr:Tryd.f52.results.toList=[.tmp 4]:=rfl
 have hlen:=hL.len
 have hnr:=hL.nrules
 obtain⟨ua,uc,rfl⟩:=hus
 have hcs:∀ a n c,(Value.slice a n c).cells.toList=[.slice a n c]:=fun _ _ _=>rfl
 have hos:∀ a n c,([.slice a n c]:List Value).all one=true:=fun _ _ _=>rfl
 have hca:=E_ [v0,vr,v2,v3,v4,.slice ua rules.length uc,v6,v7]
 have z28:CU Tryd.prog 27=some (Z0):=by kernel_rfl
 have fz:flat (Z0)=true:=rfl
 have hmk:=fun hh=>j9 (h:=hh) (show rules.length<30000000000000 by omega)
 have ld5:∀ {a b c d e' f:Value} {l:List Value} {ty:TypeId} {g ro:Bool},AJ 5 (.row (a :: b :: c :: d :: e' :: f :: l) ty g ro)=some f:=rfl
 have hst:∀ hh:AA,hh.get (h.next+3)=.row [Z0] 27 false false→hh.floor≤h.next+3→∀ a n c,A_ Tryd.prog hh 27 (qP (h.next+3) 0) (.slice a n c)=some (hh.put (h.next+3) (.row [.slice a n c] 27 false false)):=fun hh hg hf a n c=>HW LI rfl rfl hg (by decide) hf
 generalize hA:A9.row [v0,vr,v2,v3,v4,.slice ua rules.length uc,v6,v7] 33 false false=A at *
 generalize hB:A9.row [qS e E.length ce] 27 false false=B at *
 have hst0:=hst ((((h.push A).push B).push (.row (ints (List.replicate rules.length 0)) 3 false false)).push (.row [Z0] 27 false false)) BM (by show h.floor≤h.next+3;omega) (some ⟨h.next+2,0,none⟩) rules.length rules.length
 have a5:AJ 5 A=some (.slice ua rules.length uc):=by rw[← hA];rfl
 have hX:∀ C D o,let H:=((((h.push A).push B).push C).push D).put (h.next+3) o
   H.get h.next=A∧H.get (h.next+1)=B∧H.get (h.next+2)=C∧H.get (h.next+3)=o∧H.next=h.next+4∧H.floor=h.floor∧∀ i,i<h.next→H.get i=h.get i:=fun C D o=>by
  have q1:(h.push A).next=h.next+1:=rfl
  have q2:((h.push A).push B).next=h.next+2:=rfl
  have q3:(((h.push A).push B).push C).next=h.next+3:=rfl
  have q4:((((h.push A).push B).push C).push D).next=h.next+4:=rfl
  refine⟨?_,?_,?_,B0 rfl (by omega),rfl,rfl,fun i hi=>?_⟩
  ·rw[AV (by omega) (by omega),AR (by omega),AR (by omega),AR (by omega),BM]
  ·rw[AV (by omega) (by omega),AR (by omega),AR (by omega)]
   exact BM (h:=h.push A)
  ·rw[AV (by omega) (by omega),AR (by omega)]
   exact BM (h:=(h.push A).push B)
  ·rw[AV (by omega) (by omega),AR (by omega),AR (by omega),AR (by omega),AR hi]
 have gA2:((h.push A).push B).get h.next=A:=by
  rw[AR (by show h.next<h.next+1;omega),BM]
 obtain⟨x0,x1,x2,x3,x4,x5,x6⟩:=hX (.row (ints (List.replicate rules.length 0)) 3 false false) (.row [Z0] 27 false false) (.row [qS (h.next+2) rules.length rules.length] 27 false false)
 simp only[eE,seval,↓eP,hca,hone,hcs,hos,HU,LI,hA,hB,CY,Nat.add_assoc,Nat.reduceAdd,Nat.zero_add,KC,DV,gA2,a5,hul,hmk,z28,fz,hst0,List.map_toArray,x0]
 generalize hH:((((h.push A).push B).push (.row (ints (List.replicate rules.length 0)) 3 false false)).push (.row [Z0] 27 false false)).put (h.next+3) (.row [qS (h.next+2) rules.length rules.length] 27 false false)=H at *
 have mkC:∀ (H':AA) sums,H'.get h.next=A→H'.get (h.next+1)=B→H'.get (h.next+3)=.row [qS (h.next+2) rules.length rules.length] 27 false false→H'.get (h.next+2)=.row (ints sums) 3 false false→sums.length=rules.length→H'.next=h.next+4→(∀ i,i<h.next→H'.get i=h.get i)→I0 H' h.next (h.next+1) (h.next+3) rows E sums:=fun H' sums g0 g1 g3 g2 hl hn ho=>
  { p:=⟨_,_,_,_,_,_,_,_,_,g0.trans hA.symm,fun lo hi h2 a b=>hsl lo hi h2 (fun i hi=>by rw[a i (by omega),ho i hi]) (by omega)⟩
    e:=⟨e,E.length,ce,_,_,g1.trans hB.symm,by rw[ho e hel];exact he,rfl,by omega⟩
    s:=⟨h.next+2,rules.length,rules.length,_,_,g3,g2,hl.symm,by omega⟩
    lp:=by omega
    le:=by omega
    ls:=by omega }
 refine WK.loop (fun i s=>s.T.get 5=qP (h.next+3) 0∧s.T.get 6=.func (.func 66) #[] #[qP h.next 0,qP (h.next+1) 0,qP (h.next+3) 0]∧s.T.get 15=.slice ua rules.length uc∧s.T.get 16=iv (rules.length:Int)∧s.T.get 17=iv i∧i≤rules.length ∧
  s.h.get h.next=A∧s.h.get (h.next+1)=B∧s.h.get (h.next+3)=.row [qS (h.next+2) rules.length rules.length] 27 false false∧s.h.next=h.next+4∧s.h.floor=h.floor∧(∀ i,i<h.next→s.h.get i=h.get i) ∧
  ∃ sums,s.h.get (h.next+2)=.row (ints sums) 3 false false∧sums.length=rules.length∧JP sums∧OE rows E (rules.drop i) i sums=KB rows E rules) rules.length (by omega) ?_ ?_
 ·simp only[eE,↓reduceIte,Nat.reduceEqDiff,reduceCtorEq,↓eP,rP,Nat.reduceAdd,Nat.reduceLT]
  exact⟨rfl,x0,x1,x3,x4,x5,x6,_,x2,by rw[List.length_replicate],iL _,rfl⟩
 ·rintro i ⟨T1,H1⟩ hi ⟨t5,t6,t15,t16,t17,hil,y0,y1,y3,y4,y5,y6,sums,y2,ysl,yS,yF⟩
  simp only at t5 t6 t15 t16 t17 y0 y1 y2 y3 y4 y5 y6
  have hC:=mkC H1 sums y0 y1 y3 y2 ysl y4 y6
  by_cases hlt:i<rules.length
  ·have c1:decide ((i:Int)<(rules.length:Int))=true:=by simp;omega
   obtain⟨ru,hru⟩:∃ ru,rules[i]?=some ru:=⟨_,List.getElem?_eq_getElem hlt⟩
   obtain⟨id,off,ix,lx⟩:=hu H1 y6 i ru hru
   have hrr:=hL.rl ru (List.mem_of_getElem? hru)
   obtain⟨row,hrow⟩:∃ row:Nat,ru=(row:Int):=⟨ru.toNat,by omega⟩
   subst hrow
   have hcall:=h88 h.next (h.next+1) (h.next+3) row sums (H1.fl (max H1.floor H1.next)) (hC.flr _) ysl yS (by show max H1.floor H1.next≤H1.next;omega) (by omega)
   have hd3:decide (h.next+3<H1.next)=true:=by simp;omega
   have w1:=EU i (by omega)
   have hcA:=WX (rows:=rows) (E:=E) yS row
   have hst:=MQ (x:=GA rows E sums row) y2 (by omega:i<sums.length) (by omega)
   simp only[eE,seval,↓eP,t15,t16,t17,c1,ix,AU,lx]
   show WK _ _ _ (.region _ _ true) _ _
   refine WK.flags (fs:=X_) (by kernel_rfl) ?_
   unfold X_
   iterate 7
    refine D9 hsn ?_
    simp only[rG,seval,AC,AF,AE,CT,DU,CK,C6,EA,t5,DV,y3,IW,hd3,t6,hcall,FB hlt,hst]
   refine D4 ?_
   have hn2:h.next+2<H1.next:=by omega
   simp only[eE,seval,↓eP,t5,t6,t15,t16,t17,w1]
   refine⟨hlt,by omega,?_,?_,?_,y4,y5,fun j hj=>?_,_,B0 rfl hn2,by rw[List.length_set];exact ysl,oK yS _ hcA,?_⟩
   ·rw[AV hn2 (by omega)];exact y0
   ·rw[AV hn2 (by omega)];exact y1
   ·rw[AV hn2 (by omega)];exact y3
   ·rw[AV hn2 (by omega)];exact y6 j hj
   ·rw[← yF,List.drop_eq_getElem_cons hlt]
    have:rules[i]=(row:Int):=(List.getElem?_eq_some_iff.1 hru).2
    rw[this]
    rfl
  ·have c1:decide ((i:Int)<(rules.length:Int))=false:=by simp;omega
   have hF:sums=KB rows E rules:=by
    rw[← yF,List.drop_of_length_le (by omega)]
    rfl
   rw[← hF]
   simp only[eE,seval,↓eP,hr,t16,t17,t6,c1]
   exact⟨hC,by omega,y5,y6⟩
end
def Q3 (rows:List AB) (E sums:List Int):List AB→Nat→Int→Int
 | [],_,_=>-1
 | x :: l,at_,n=>if GY x.kind=false then Q3 rows E sums l (at_+1) n
  else if HL n (GA rows E sums (at_+1))>16384 then at_ else Q3 rows E sums l (at_+1) (HL n (GA rows E sums (at_+1)))
def J4 (rows:List AB) (E rules:List Int):Int:=Q3 rows E (KB rows E rules) rows 0 0
section
variable {call:AM} {N:Nat} {h:AA} {lo m k c e r n:Nat} {nm:ByteArray} {E:List Int} {tag:Nat→Nat} {vq vv vt vu vo:Value} {es:List (Value × Value)} {s:AN}
theorem sH (hp:BH h lo m k c e r n nm E tag vq vv vt vu vo es s) (hL:OH s.rows E s.rules) (hfl:h.floor≤h.next) (hN:s.rows.length+3<N) {ev_:Value} (hkinds:∀ x∈s.rows,1≤x.kind∧x.kind≤54)
  (hevs:∀ i x,s.rows[i]?=some x→GY x.kind=true→i+1<s.rows.length) {pb eb sb:Nat}
  (h72:∃ h',call 52 [.agg #[.string nm,qS r n AO,vq,vv,vt,vu,vo,iv s.miss],ev_] h=some (.func (.func 66) #[] #[qP pb 0,qP eb 0,qP sb 0],h') ∧
   (I0 h' pb eb sb s.rows E (KB s.rows E s.rules)∧h.next≤h'.next∧h'.floor=h.floor∧∀ i,i<h.next→h'.get i=h.get i))
  (h82:∀ k h',1≤k∧k≤54→call 51 [iv k] h'=some (.bool (GY k),h')) (h83:∀ a b h',0≤b∧b≤4611686018427387904→0≤a∧a≤4611686018427387904→call 53 [iv a,iv b] h'=some (iv (HL a b),h'))
  (h88:∀ (row:Nat) h',I0 h' pb eb sb s.rows E (KB s.rows E s.rules)→h'.floor≤h'.next→row<s.rows.length→call 66 [iv row,qP pb 0,qP eb 0,qP sb 0] h'=some (iv (GA s.rows E (KB s.rows E s.rules) row),h')) :
  ∃ h',A8 Tryd.prog call N 34 [qP m 0,ev_] h=some (iv (J4 s.rows E s.rules),h')∧∀ i,i<h.next→h'.get i=h.get i:=by
 refine EL (R:=fun h'=>∀ i,i<h.next→h'.get i=h.get i) Tryd.func34 rfl (by simp[Tryd.f34]) ?_
 have hr:Tryd.f34.results.toList=[.tmp 4]:=rfl
 obtain⟨h1,hcl,hC,hn1,hf1,ho1⟩:=h72
 have hlen:=hL.len
 have hsl:=hp.pol.len
 have hmn:=hp.lm.2
 have l8:BF 8 0 (h.get m)=some (.agg #[.string nm,qS r n AO,vq,vv,vt,vu,vo,iv s.miss]):=by rw[hp.cell];rfl
 have c1:AJ 1 (h1.get m)=some (qS r n AO):=by rw[ho1 m hmn];exact hp.c1
 have hv1:A7 h1 (qS r n AO) s.rows:=hp.pol.at.mono hn1 ho1
 have hll:=fun h'=>hv1.len (h':=h')
 have hS:=(ZH (rows:=s.rows) (E:=E) (rules:=s.rules)).1
 simp only[eE,↓reduceIte,Nat.reduceEqDiff,reduceCtorEq,↓eP,Nat.reduceAdd,Nat.zero_add,IH,DI,EM,l8,hcl,DK,c1,hll]
 generalize hsum:KB s.rows E s.rules=sums at *
 refine WK.loop (fun i s'=>s'.T.get 5=.func (.func 66) #[] #[qP pb 0,qP eb 0,qP sb 0]∧s'.T.get 19=qS r n AO∧s'.T.get 20=iv (s.rows.length:Int)∧s'.T.get 21=iv i∧i≤s.rows.length∧s'.h.floor=h1.floor∧h1.next≤s'.h.next∧(∀ i,i<h1.next→s'.h.get i=h1.get i) ∧
  ∃ a:Int,s'.T.get 6=iv a∧0≤a∧a≤4611686018427387904∧Q3 s.rows E sums (s.rows.drop i) i a=J4 s.rows E s.rules) s.rows.length (by omega) ?_ ?_
 ·simp only[eE,↓reduceIte,Nat.reduceEqDiff,reduceCtorEq,↓eP,rP,Nat.reduceAdd,Nat.reduceLT]
  refine⟨by omega,by omega,fun _ _=>trivial,by omega,by omega,?_⟩
  unfold J4
  rw[hsum]
  rfl
 ·rintro i ⟨T1,H1⟩ hi ⟨t5,t19,t20,t21,hil,hf2,hn2,ho2,a,t6,ha0,haB,hcn⟩
  simp only at t5 t19 t20 t21 hf2 hn2 ho2 t6
  by_cases hlt:i<s.rows.length
  ·have c1:decide ((i:Int)<(s.rows.length:Int))=true:=by simp;omega
   obtain⟨x,hx⟩:∃ x,s.rows[i]?=some x:=⟨_,List.getElem?_eq_getElem hlt⟩
   have hv3:A7 H1 (qS r n AO) s.rows:=hv1.mono hn2 ho2
   obtain⟨id,p,e0,hid,l0,l1,l2,l3,l4,lr⟩:=hv3.row hx
   have hkx:=hkinds x (List.mem_of_getElem? hx)
   have hev:=fun h'=>h82 x.kind h' hkx
   have hflo:H1.floor≤H1.next:=by omega
   have hz:flat (.agg #[.int .i64 0,.string ByteArray.empty,.int .i64 0,.int .i64 0,.int .i64 0])=true:=rfl
   have hzc:=E_ ER
   have hone:([.int .i64 x.kind,.string x.name,.int .i64 x.ends,.int .i64 x.n,.int .i64 x.kids]:List Value).all one=true:=rfl
   have hst:A_ Tryd.prog (H1.push (.row ER 61 false false)) 61 (qP H1.next 0) (.agg #[.int .i64 x.kind,.string x.name,.int .i64 x.ends,.int .i64 x.n,.int .i64 x.kids])=some ((H1.push (.row ER 61 false false)).put H1.next (.row [.int .i64 x.kind,.string x.name,.int .i64 x.ends,.int .i64 x.n,.int .i64 x.kids] 61 false false)):=by
    rw[E9,BM,RT,if_pos ⟨hflo,hone⟩]
   have hgd:((H1.push (.row ER 61 false false)).put H1.next (.row [.int .i64 x.kind,.string x.name,.int .i64 x.ends,.int .i64 x.n,.int .i64 x.kids] 61 false false)).get H1.next=.row [.int .i64 x.kind,.string x.name,.int .i64 x.ends,.int .i64 x.n,.int .i64 x.kids] 61 false false:=B0 rfl (by show H1.next<H1.next+1;omega)
   have hgo:∀ i,i<h1.next→((H1.push (.row ER 61 false false)).put H1.next (.row [.int .i64 x.kind,.string x.name,.int .i64 x.ends,.int .i64 x.n,.int .i64 x.kids] 61 false false)).get i=h1.get i:=fun i hi=>by rw[AV (by show H1.next<H1.next+1;omega) (by omega),AR (by omega)];exact ho2 i hi
   have hnx:((H1.push (.row ER 61 false false)).put H1.next (.row [.int .i64 x.kind,.string x.name,.int .i64 x.ends,.int .i64 x.n,.int .i64 x.kids] 61 false false)).next=H1.next+1:=rfl
   have hfl2:((H1.push (.row ER 61 false false)).put H1.next (.row [.int .i64 x.kind,.string x.name,.int .i64 x.ends,.int .i64 x.n,.int .i64 x.kids] 61 false false)).floor=H1.floor:=rfl
   generalize (H1.push (.row ER 61 false false)).put H1.next (.row [.int .i64 x.kind,.string x.name,.int .i64 x.ends,.int .i64 x.n,.int .i64 x.kids] 61 false false)=H2 at *
   have w1:=EU i (by omega)
   have hdr:s.rows.drop i=x :: s.rows.drop (i+1):=by
    obtain⟨hl,rfl⟩:=List.getElem?_eq_some_iff.1 hx
    exact List.drop_eq_getElem_cons hl
   rw[hdr] at hcn
   change (if GY x.kind=false then Q3 s.rows E sums (s.rows.drop (i+1)) (i+1) a else if HL a (GA s.rows E sums (i+1))>16384 then (i:Int) else Q3 s.rows E sums (s.rows.drop (i+1)) (i+1) (HL a (GA s.rows E sums (i+1))))=_ at hcn
   cases dv:GY x.kind with
   | false=>
    rw[if_pos dv] at hcn
    simp only[eE,seval,↓eP,t5,t6,t19,t20,t21,c1,e0,HN,lr,FI,hz,hzc,hst,C2,AU,hgd,IW,hev,dv,w1]
    exact⟨by omega,by omega,by rw[hfl2];exact hf2,by omega,hgo,ha0,haB,hcn⟩
   | true=>
    rw[if_neg (by rw[dv];simp)] at hcn
    have hi1:=hevs i x hx dv
    have hC2:I0 H2 pb eb sb s.rows E sums:=hC.mono (by omega) hgo
    have hcall:=h88 (i+1) H2 hC2 (by omega) hi1
    have hcA:=WX (rows:=s.rows) (E:=E) hS (i+1)
    have hpl:=h83 a _ H2 hcA ⟨ha0,haB⟩
    have hpn:=TF ha0 hcA.1 hcA.2
    cases dg:decide (HL a (GA s.rows E sums (i+1))>16384) with
    | true=>
     rw[if_pos (by simpa using dg)] at hcn
     rw[← hcn]
     simp only[eE,seval,↓eP,hr,t5,t6,t19,t20,t21,c1,e0,HN,lr,FI,hz,hzc,hst,C2,AU,hgd,IW,hev,dv,w1,hcall,hpl,dg]
     exact fun j hj=>by rw[hgo j (by omega)];exact ho1 j hj
    | false=>
     rw[if_neg (by simpa using dg)] at hcn
     simp only[eE,seval,↓eP,t5,t6,t19,t20,t21,c1,e0,HN,lr,FI,hz,hzc,hst,C2,AU,hgd,IW,hev,dv,w1,hcall,hpl,dg]
     exact⟨by omega,by omega,by rw[hfl2];exact hf2,by omega,hgo,hpn.1,hpn.2,hcn⟩
  ·have c1:decide ((i:Int)<(s.rows.length:Int))=false:=by simp;omega
   have hn:J4 s.rows E s.rules=-1:=by
    rw[← hcn,List.drop_of_length_le (by omega)]
    rfl
   rw[hn]
   simp only[eE,seval,↓eP,hr,t20,t21,c1]
   exact fun j hj=>by rw[ho2 j (by omega)];exact ho1 j hj
end
def CI (l:List AB):AN:=⟨l,[],[],[],[],[],-1,[]⟩
def FU (E:List Int) (at_:Nat) (s:AN):Int × AN:=
 match s.rows[at_]? with
 | none=>(0,s)
 | some x=>
  if ET x s≠0 then (ET x s,s) else
  match (BN at_ ((E[at_]?).getD 0) x s).rows[at_]? with
  | none=>(0,s)
  | some x1=>
   if DJ at_ x1 (BN at_ ((E[at_]?).getD 0) x s)≠0 then (DJ at_ x1 (BN at_ ((E[at_]?).getD 0) x s),s) else
   match (B7 at_ x1 (BN at_ ((E[at_]?).getD 0) x s)).rows[at_]? with
   | none=>(0,s)
   | some x2=>if EX x2 (B7 at_ x1 (BN at_ ((E[at_]?).getD 0) x s))≠0 then (EX x2 (B7 at_ x1 (BN at_ ((E[at_]?).getD 0) x s)),s)
    else (0,EG at_ x2 (B7 at_ x1 (BN at_ ((E[at_]?).getD 0) x s)))
def DW (E:List Int):Nat→Nat→AN→Int × Nat × AN
 | 0,at_,s=>(0,at_,s)
 | r+1,at_,s=>if (FU E at_ s).1≠0 then ((FU E at_ s).1,at_,s) else DW E r (at_+1) (FU E at_ s).2
noncomputable def BZ (l:List AB):(Int × Int) × AN:=
 if (CQ l).1≠0 then (CQ l,CI l) else
 let g:=DW (BL l) l.length 0 (CI l)
 if g.1≠0 then ((g.1,(g.2.1:Int)),CI l) else
 let b:=J4 g.2.2.rows (BL l) g.2.2.rules
 if b≥0 then ((34,b),CI l) else ((0,0),g.2.2)
theorem DM.fit {l:List AB} {at_ q:Nat} (h:DM l at_ q):∃ x,l[at_]?=some x∧C8 AT x=true:=by
 rcases h with⟨m,what,h⟩ | ⟨rfl,m,h⟩
 ·cases m with
  | zero=>cases h
  | succ m=>
   cases hx:l[at_]? with
   | none=>rw[bN hx] at h;cases h
   | some x=>
    rw[WZ hx] at h
    split at h
    ·rename_i hc
     simp only[Bool.and_eq_true] at hc
     exact⟨x,rfl,hc.2⟩
    ·cases h
 ·cases hx:l[0]? with
  | none=>rw[XK hx] at h;cases h
  | some x=>
   rw[UE hx] at h
   split at h
   ·rename_i hc
    simp only[Bool.and_eq_true] at hc
    exact⟨x,rfl,hc.2⟩
   ·cases h
theorem CE.row {l:List AB} (h:CE l) {i:Nat} {x:AB} (hx:l[i]?=some x):C8 AT x=true∧(1≤x.kind∧x.kind≤54)∧Fsx x.kind≤x.kids∧i+1+x.kids.toNat≤AD l i∧AD l i≤l.length:=by
 have hi:=(List.getElem?_eq_some_iff.1 hx).1
 have hs:=h.end hi
 obtain⟨y,hy,h1⟩:=hs.fit
 obtain⟨z,hz,h2,h3,h4⟩:=hs.kids
 rw[hx] at hy hz
 cases hy
 cases hz
 refine⟨h1,h3,?_,IF _ _ _ h4,hs.lt.2⟩
 unfold C8 at h1
 simp only[Bool.and_eq_true,decide_eq_true_eq] at h1
 omega
theorem Af {k:Int} (h:GY k=true) (h10:k≠10):DZ k=1∧BS k=0:=by
 unfold GY at h
 simp only[Bool.and_eq_true,decide_eq_true_eq] at h
 obtain rfl | rfl:k=8∨k=9:=by omega
 ·exact⟨rfl,rfl⟩
 ·exact⟨rfl,rfl⟩
theorem NR {l:List AB} {k i:Nat} {n:Int} (h:i≠k):(GT l k n)[i]?=l[i]?:=by
 unfold GT
 split
 ·rw[List.getElem?_set_ne (Ne.symm h)]
 ·rfl
structure HG (l:List AB) (at_:Nat) (s:AN):Prop where
 wf:LL s
 len:s.rows.length=l.length
 same:∀ (i:Nat) (x:AB),s.rows[i]?=some x→∃ y:AB,l[i]?=some y∧x={ y with n:=x.n }
 later:∀ i:Nat,at_≤i→s.rows[i]?=l[i]?
 rl:∀ ru∈s.rules,0≤ru∧ru<l.length
 calls:∀ (i:Nat) (x:AB),i<at_→s.rows[i]?=some x→x.kind=22→0≤x.n∧x.n<s.rules.length
theorem YM (l:List AB):HG l 0 (CI l) where
 wf:=⟨by simp[CI],by simp[CI],by simp[CI],by simp[CI],rfl,fun t ht=>by simp[CI] at ht⟩
 len:=rfl
 same:=fun i x hx=>⟨x,hx,rfl⟩
 later:=fun _ _=>rfl
 rl:=fun ru h=>by simp[CI] at h
 calls:=fun i x h=>by omega
theorem kM {at_:Nat} {end_:Int} {x:AB} {s:AN}:(BN at_ end_ x s).rows=if BS x.kind=0 then s.rows else GT s.rows at_ (BO s (BS x.kind)):=by
 unfold BN
 split <;> rfl
theorem ZA {l:List FT} {x:ByteArray} {t:FT} (h:FQ l x=some t):t∈l:=List.mem_of_find?_eq_some h
theorem Er {l:List AB} {E:List Int} {at_:Nat} {s:AN} {x:AB} (ht:CE l) (hE:0≤(E[at_]?).getD 0) (hi:HG l at_ s) (hx:s.rows[at_]?=some x) (hd:ET x s=0) :
  LL (BN at_ ((E[at_]?).getD 0) x s)∧(BN at_ ((E[at_]?).getD 0) x s).rows.length=l.length∧(∃ n,(BN at_ ((E[at_]?).getD 0) x s).rows[at_]?=some { x with n:=n })∧(∀ i,i≠at_→(BN at_ ((E[at_]?).getD 0) x s).rows[i]?=s.rows[i]?) ∧
  (∀ ru∈(BN at_ ((E[at_]?).getD 0) x s).rules,0≤ru∧ru<l.length)∧s.rules.length≤(BN at_ ((E[at_]?).getD 0) x s).rules.length:=by
 have hxl:l[at_]?=some x:=by rw[← hi.later at_ (Nat.le_refl _)];exact hx
 unfold BN
 unfold ET at hd
 by_cases d0:BS x.kind=0
 ·rw[if_pos d0]
  exact⟨hi.wf,hi.len,⟨x.n,hx⟩,fun _ _=>rfl,hi.rl,Nat.le_refl _⟩
 ·rw [if_neg d0] at hd ⊢
  have hne:(BO s (BS x.kind):Int)≠IN (BS x.kind):=fun h=>by
   split at hd
   ·cases hd
   ·omega
  refine⟨i8 hi.wf d0 hne hE,?_,⟨_,JV hx⟩,fun i hne=>NR hne,fun ru hru=>?_,?_⟩
  ·exact VZ.trans hi.len
  ·simp only[EK] at hru
   split at hru
   ·rename_i h4
    simp only[List.mem_append,List.mem_cons,List.not_mem_nil,or_false] at hru
    rcases hru with h | rfl
    ·exact hi.rl ru h
    ·have:=ht.row hxl
     have h7:x.kind=7:=by
      revert h4
      unfold BS
      (repeat' split) <;> simp_all
     have hl7:Fsx x.kind=0∨0<Fsx x.kind:=by have:=P9 x.kind;omega
     have h1:Fsx x.kind=1:=by rw[h7];rfl
     omega
   ·exact hi.rl ru hru
  ·simp only[EK]
   split
   ·simp
   ·exact Nat.le_refl _
theorem U3 {l:List AB} {E:List Int} {at_:Nat} {s:AN} (ht:CE l) (hE:0≤(E[at_]?).getD 0) (hat:at_<l.length) (hi:HG l at_ s) (h0:(FU E at_ s).1=0):HG l (at_+1) (FU E at_ s).2:=by
 obtain⟨x,hx⟩:∃ x,s.rows[at_]?=some x:=⟨_,List.getElem?_eq_getElem (by rw[hi.len];exact hat)⟩
 have hxl:l[at_]?=some x:=by rw[← hi.later at_ (Nat.le_refl _)];exact hx
 unfold FU at h0 ⊢
 rw[hx] at h0 ⊢
 simp only at h0 ⊢
 by_cases hd:ET x s=0
 case neg=>rw[if_pos hd] at h0;exact absurd h0 hd
 rw[if_neg (by simpa using hd)] at h0 ⊢
 obtain⟨w1,n1,⟨k1,r1⟩,o1,u1,c1⟩:=Er ht hE hi hx hd
 generalize BN at_ ((E[at_]?).getD 0) x s=s1 at *
 rw[r1] at h0 ⊢
 simp only at h0 ⊢
 by_cases hc:DJ at_ { x with n:=k1 } s1=0
 case neg=>rw[if_pos hc] at h0;exact absurd h0 hc
 rw[if_neg (by simpa using hc)] at h0 ⊢
 have hcall:LL (B7 at_ { x with n:=k1 } s1)∧(B7 at_ { x with n:=k1 } s1).rows.length=l.length∧(∃ n,(B7 at_ { x with n:=k1 } s1).rows[at_]?=some { x with n:=n }∧(x.kind=22→0≤n∧n<s1.rules.length)∧(DZ x.kind=1→0≤n∧n<s1.on.length)) ∧
   (∀ i,i≠at_→(B7 at_ { x with n:=k1 } s1).rows[i]?=s1.rows[i]?)∧(B7 at_ { x with n:=k1 } s1).rules=s1.rules∧(B7 at_ { x with n:=k1 } s1).on=s1.on:=by
  unfold B7
  unfold DJ at hc
  by_cases d0:DZ x.kind=0
  ·rw[if_pos d0]
   refine⟨w1,n1,⟨k1,r1,fun h=>?_,fun h=>by omega⟩,fun _ _=>rfl,rfl,rfl⟩
   rw[h] at d0
   cases d0
  ·rw [if_neg d0] at hc ⊢
   cases hf:FQ s1.things x.name with
   | none=>simp only[hf] at hc;cases hc
   | some t=>
    simp only[hf] at hc ⊢
    have htm:=w1.th t (ZA hf)
    have hk:t.kind=DZ x.kind:=by
     split at hc
     ·cases hc
     ·split at hc
      ·cases hc
      ·rename_i h;simpa using h
    refine⟨⟨w1.q,w1.v,w1.t,w1.u,w1.o,w1.th⟩,VZ.trans n1,⟨t.num,(JV r1).trans rfl,fun h=>?_,fun h=>?_⟩,fun i hne=>NR hne,trivial,trivial⟩
    ·have h4:t.kind=4:=by rw[hk,h];rfl
     rw[h4] at htm
     exact⟨htm.2.2.1,htm.2.2.2.1⟩
    ·rw[hk,h] at htm
     rw[w1.o]
     exact⟨htm.2.2.1,htm.2.2.2.1⟩
 obtain⟨w2,n2,⟨k2,r2,q2,e2⟩,o2,u2,v2⟩:=hcall
 generalize B7 at_ { x with n:=k1 } s1=s2 at *
 rw[r2] at h0 ⊢
 simp only at h0 ⊢
 by_cases hv:EX { x with n:=k2 } s2=0
 case neg=>rw[if_pos hv] at h0;exact absurd h0 hv
 rw[if_neg (by simpa using hv)] at h0 ⊢
 have hev:LL (EG at_ { x with n:=k2 } s2)∧(EG at_ { x with n:=k2 } s2).rows=s2.rows∧(EG at_ { x with n:=k2 } s2).rules=s2.rules:=by
  unfold EG
  split
  ·exact⟨w2,rfl,rfl⟩
  ·split
   ·exact⟨⟨w2.q,w2.v,w2.t,w2.u,w2.o,w2.th⟩,rfl,rfl⟩
   ·exact⟨⟨w2.q,w2.v,w2.t,w2.u,by simp only[List.length_set];exact w2.o,w2.th⟩,rfl,rfl⟩
 obtain⟨w3,r3,u3⟩:=hev
 refine⟨w3,by rw[r3];exact n2,fun i y hy=>?_,fun i hi'=>?_,by rw[u3,u2];exact u1,fun i y hi' hy h22=>?_⟩
 ·rw[r3] at hy
  by_cases hia:i=at_
  ·subst hia
   rw[r2] at hy
   cases hy
   exact⟨x,hxl,rfl⟩
  ·rw[o2 i hia,o1 i hia] at hy
   exact hi.same i y hy
 ·rw[r3,o2 i (by omega),o1 i (by omega)]
  exact hi.later i (by omega)
 ·rw[r3] at hy
  rw[u3,u2]
  by_cases hia:i=at_
  ·subst hia
   rw[r2] at hy
   cases hy
   exact q2 h22
  ·rw[o2 i hia,o1 i hia] at hy
   have:=hi.calls i y (by omega) hy h22
   omega
theorem m_ {l:List AB} {E:List Int} (ht:CE l) (hE:∀ i:Nat,0≤(E[i]?).getD 0):∀ r at_ s,at_+r=l.length→HG l at_ s→(DW E r at_ s).1=0→HG l l.length (DW E r at_ s).2.2
 | 0,at_,s,hr,hi,_=>by
  have:at_=l.length:=by omega
  subst this
  exact hi
 | r+1,at_,s,hr,hi,h0=>by
  unfold DW at h0 ⊢
  by_cases h:(FU E at_ s).1=0
  ·rw[if_neg (by simpa using h)] at h0 ⊢
   exact m_ ht hE r (at_+1) _ (by omega) (U3 ht (hE at_) (by omega) hi h) h0
  ·rw[if_pos h] at h0
   exact absurd h0 h
theorem UQ {l:List AB} (i:Nat):0≤((BL l)[i]?).getD 0:=by
 by_cases hi:i<l.length
 ·rw[O6 hi]
  simp
 ·rw[List.getElem?_eq_none (by rw[SP];omega)]
  simp
theorem oZ {l:List AB} {s:AN} (ht:CE l) (hlen:l.length<2932031007403) (hi:HG l l.length s):OH s.rows (BL l) s.rules where
 len:=by rw[hi.len];exact hlen
 e:=by rw[SP,hi.len]
 ends:=fun i h=>by
  rw[hi.len] at h
  have:=(ht.end h).lt
  exact⟨AD l i,O6 h,by omega,by rw[hi.len];omega⟩
 rl:=fun ru h=>by rw[hi.len];exact hi.rl ru h
 nrules:=by have:=hi.wf.u;omega
 calls:=fun x hx h22=>by
  obtain⟨i,hil,rfl⟩:=List.getElem_of_mem hx
  exact hi.calls i _ (by rw[← hi.len];exact hil) (List.getElem?_eq_getElem hil) h22
theorem ZZ {l:List AB} {at_:Nat} {s:AN} (ht:CE l) (hi:HG l at_ s):∀ x∈s.rows,1≤x.kind∧x.kind≤54:=fun x hx=>by
 obtain⟨i,hil,rfl⟩:=List.getElem_of_mem hx
 obtain⟨y,hy,he⟩:=hi.same i _ (List.getElem?_eq_getElem hil)
 rw[he]
 exact(ht.row hy).2.1
theorem Et {l:List AB} {at_:Nat} {s:AN} (ht:CE l) (hi:HG l at_ s):∀ i x,s.rows[i]?=some x→GY x.kind=true→i+1<s.rows.length:=fun i x hx hev=>by
 obtain⟨y,hy,he⟩:=hi.same i _ hx
 have h1:=ht.row hy
 rw[he] at hev
 have hk:Fsx y.kind=1:=by
  unfold GY at hev
  simp only[Bool.and_eq_true,decide_eq_true_eq] at hev
  obtain h | h | h:y.kind=8∨y.kind=9∨y.kind=10:=by omega
  all_goals (rw[h];rfl)
 rw[hi.len]
 omega
theorem TT (l:List AB):(l.flatMap AW).all one=true:=by
 rw[List.all_eq_true]
 intro v hv
 rw[List.mem_flatMap] at hv
 obtain⟨r,_,hv⟩:=hv
 simp only[AW,List.mem_cons,List.not_mem_nil,or_false] at hv
 rcases hv with rfl | rfl | rfl | rfl | rfl <;> rfl
theorem vI {α:Type} (l:List α) (a b:Nat):l.take (a+b)=l.take a++(l.drop a).take b:=List.take_add
theorem bU:∀ (l:List AB) (cs:List Value) (off:Nat),(∀ k r,l[k]?=some r→(cs.drop (off+k*5)).take 5=AW r)→(cs.drop off).take (l.length*5)=l.flatMap AW
 | [],cs,off,_=>by simp
 | r :: l,cs,off,h=>by
  have h0:=h 0 r rfl
  rw[Nat.zero_mul,Nat.add_zero] at h0
  have ih:=bU l cs (off+5) fun k r' hk=>by
   have:=h (k+1) r' hk
   rw[← this]
   congr 2
   omega
  rw[List.length_cons,show (l.length+1)*5=5+l.length*5 by omega,vI,h0,List.drop_drop,ih,List.flatMap_cons]
theorem A7.src {h:AA} {v:Value} {l:List AB} (hv:A7 h v l):DQ h 5 l.length v=some (l.flatMap AW):=by
 obtain⟨a,c,rfl,⟨rfl,rfl⟩ | ⟨id,off,cs,ty,g,ro,rfl,hg,hid,hc⟩⟩:=hv
 ·rfl
 ·have:=bU l cs off hc
  have hl:=J2 l
  simp only[DQ,hg,F1,this,hl,if_true]
  by_cases h0:l.length=0
  ·rw[if_pos h0,List.length_eq_zero_iff.1 h0]
   rfl
  ·rw[if_neg h0]
section
variable {call:AM} {N:Nat} {h:AA}
theorem oC {l:List AB} {v:Value} (hv:A7 h v l) (hne:0<l.length) (hlen:l.length<2932031007403):∃ h',A8 Tryd.prog call N 28 [v] h=some (qS (h.next+1) l.length AO,h')∧(h'.get (h.next+1)=.row (l.flatMap AW) 61 true false∧h'.next=h.next+2∧h'.floor=h.floor∧∀ i,i<h.next→h'.get i=h.get i):=by
 refine EL (R:=fun h'=>h'.get (h.next+1)=.row (l.flatMap AW) 61 true false∧h'.next=h.next+2∧h'.floor=h.floor∧∀ i,i<h.next→h'.get i=h.get i) Tryd.func28 rfl (by simp[Tryd.f28]) ?_
 have hr:Tryd.f28.results.toList=[.tmp 2]:=rfl
 have hsrc:=(hv.mono (h':=h.push (.row [] 61 false false)) (by show h.next≤h.next+1;omega) fun i hi=>AR hi).src
 obtain⟨a,c,rfl,h1⟩:=hv
 obtain⟨id,off,rfl⟩:∃ id off,a=some ⟨id,off,none⟩:=by
  rcases h1 with⟨h1,_⟩ | ⟨id,off,_,_,_,_,h2,_⟩
  ·rw[h1] at hne;exact absurd hne (by simp)
  ·exact⟨id,off,h2⟩
 have hb:BR Tryd.prog .eql 26 (.tmp 3) (.const (Z0)) (.slice (some ⟨id,off,none⟩) l.length c) (Z0)=some (.bool false):=by
  have hf:flat (.slice (some ⟨id,off,none⟩) l.length c)=false:=rfl
  simp only[BR,hf,Bool.false_and,Bool.false_eq_true,if_false,Tryd.underlying26]
 have hbs:FC Tryd.prog h 26 0 []=some (qS h.next 0 0,h.push (.row [] 61 false false)):=by
  simp[FC,Tryd.underlying26,FV,FI,flat,BI,MI,IQ,BQ]
 have hzs:(Value.agg #[.int .i64 0,.string ByteArray.empty,.int .i64 0,.int .i64 0,.int .i64 0]).cells.size=5:=rfl
 have hap:DL Tryd.prog (h.push (.row [] 61 false false)) 26 (qS h.next 0 0) (.slice (some ⟨id,off,none⟩) l.length c)=some (qS (h.next+1) l.length AO,(h.push (.row [] 61 false false)).push (.row (l.flatMap AW) 61 true false)):=by
  have hu:(0:Nat)≠AO:=by unfold AO;omega
  have e1:¬ (l.length≤0):=by omega
  have e2:l.length*48≤140737488355328:=by omega
  have e3:l.length≤140737488355328:=by omega
  have h0:DQ (h.push (.row [] 61 false false)) 5 0 (qS h.next 0 0)=some []:=by simp[DQ]
  simp only[DL,Tryd.underlying26,FV,QD,FI,hzs,hsrc,TT,hu,h0,e1,e2,e3,decide_true,beq_self_eq_true,Bool.and_self,if_true,if_false,Nat.le_refl,Nat.zero_add,Nat.zero_mul,Nat.zero_le,List.nil_append,show (0<5)=True by simp,CY]
 simp only[eE,seval,↓eP,hr,hb,hbs,hap]
 refine⟨?_,rfl,rfl,fun i hi=>?_⟩
 ·exact BM (h:=h.push (.row [] 61 false false))
 ·rw[AR (by show i<h.next+1;omega),AR hi]
def YV:List (Bool × Bool × List Operand):=[AQ,AH [.tmp 1],AH [.tmp 1],AH [.tmp 1,.tmp 2],AH [.tmp 1],AH [.tmp 1],AK,AK]
theorem s_ (hsn:B8 call) {at_ m e c5 c6 n ce:Nat} {E:List Int} {y v:Int} {g5 g6 ge:Bool} {R:AA→Prop} (h5:h.get c5=.row [qP m 0] 65 g5 false) (h6:h.get c6=.row [qS e n ce] 27 g6 false) (he:h.get e=.row (ints E) 3 ge false) (hy:E[at_]?=some y) (hn:n=E.length)
  (hc:∃ h',call 31 [qP m 0,iv at_,iv y] h=some (iv v,h')∧(h'.floor=h.floor∧R h')):∃ h',A8 Tryd.prog call N 30 [iv at_,qP c5 0,qP c6 0] h=some (iv v,h')∧R h':=by
 refine EL (R:=R) Tryd.func30 rfl (by simp[Tryd.f30]) ?_
 have hr:Tryd.f30.results.toList=[.tmp 4]:=rfl
 obtain⟨h',hc,hf,hR⟩:=hc
 have hat:at_<n:=by rw[hn];exact(List.getElem?_eq_some_iff.1 hy).1
 have hfx:h'.fl h.floor=h':=by rw[← hf];exact HY h'
 have lE:=MM (ty:=3) (g:=ge) (ro:=false) hy
 simp only[eE,seval,↓eP]
 show WK _ _ _ (.region _ _ true) _ _
 refine WK.flags (fs:=YV) (by kernel_rfl) ?_
 unfold YV
 iterate 8
  refine D9 hsn ?_
  simp only[rG,seval,AC,AF,AE,CT,DU,CK,C6,EA,S7,h5,IW,DV,h6,FB hat,AU,he,lE,hc,hfx]
 refine D4 ?_
 simp only[eE,seval,↓eP,hr]
 exact hR
end
section
variable {h:AA} {id off:Nat}
end
def FJ (V:Nat→Value) (j:Nat) (v:Value):Nat→Value:=fun i=>if i=j then v else V i
section
variable {h h':AA} {lo m e r n:Nat} {nm:ByteArray} {E:List Int} {tag tag':Nat→Nat} {V:Nat→Value} {C:List Int} {s s':AN}
end
section
variable {call:AM} {N:Nat} {h:AA} {lo m e r n:Nat} {nm:ByteArray} {E:List Int} {tag:Nat→Nat} {V:Nat→Value} {C:List Int} {s:AN}
def Q0 (h H:AA) (lo:Nat):Prop:=(∀ i,i<lo→H.get i=h.get i)∧h.next≤H.next∧H.floor=h.floor
end
theorem OA {h:AA} {o o':A9}:((h.push o).push o').get h.next=o:=by rw[AR (by show h.next<h.next+1;omega)];exact BM
theorem OL {h:AA} {o o':A9}:((h.push o).push o').get (h.next+1)=o':=BM (h:=h.push o)
section
variable {call:AM} {n:Nat}
end
def PL (r:Nat):Code→Option Code
 | .seq a b=>match PL r a with
  | some o=>some o
  | none=>PL r b
 | .cond _ a b=>match PL r a with
  | some o=>some o
  | none=>PL r b
 | .block i c=>if i=r then some (.block i c) else PL r c
 | .loop c=>PL r c
 | _=>none
def tX (fn:Func) (r:Nat):Code:=match fn.body with
 | some c=>(PL r c).getD .skip
 | none=>.skip
section
variable {call:AM} {N:Nat}
end
structure PY (l:List AB) (O:List Int) (j:Nat) (most:Int):Prop where
 len:O.length=l.length
 top:0<j→∀ x,l[0]?=some x→O[0]?=some (GS x.kind)
 kid:∀ p k i x y o,i<j→IZ l p k i→l[p]?=some x→l[i]?=some y→O[p]?=some o→O[i]?=some (o+GW (CP x.kind) (CP y.kind) k+GS y.kind)
 le:∀ (i:Nat) o,i<j→O[i]?=some o→0≤o∧o≤2*(i:Int)+2
 max:(j=0∧most=0)∨(0<j∧MD O 0 j most)
theorem PY.most {l:List AB} {O:List Int} {j:Nat} {most:Int} (h:PY l O j most):0≤most∧most≤2*(j:Int):=by
 rcases h.max with⟨_,h1⟩ | ⟨_,_,i,_,h2,h3⟩
 ·omega
 ·have:=h.le i _ h2 h3
  omega
theorem PY.step {l:List AB} {O:List Int} {j:Nat} {most n:Int} (ht:CE l) (h:PY l O j most) (hj:j<l.length)
  (hn:(j=0∧∀ x,l[0]?=some x→n=GS x.kind)∨∃ p k x y o,IZ l p k j∧l[p]?=some x∧l[j]?=some y∧O[p]?=some o∧n=o+GW (CP x.kind) (CP y.kind) k+GS y.kind):PY l (O.set j n) (j+1) (if n>most then n else most):=by
 have hlO:=h.len
 have hnle:0≤n∧n≤2*(j:Int)+2:=by
  rcases hn with⟨rfl,h1⟩ | ⟨p,k,x,y,o,h1,h2,h3,h4,rfl⟩
  ·have:=W3 l[0].kind
   have:=h1 l[0] (List.getElem?_eq_getElem hj)
   omega
  ·have:=h.le p o h1.lt h4
   have:=W3 y.kind
   have:=bO (CP x.kind) (CP y.kind) k
   have:=h1.lt
   omega
 refine⟨by simpa using hlO,fun _ x hx=>?_,fun p k i x y o hi hk hx hy ho=>?_,fun i o hi ho=>?_,.inr ⟨by omega,?_⟩⟩
 ·by_cases h0:j=0
  ·subst h0
   rw[List.getElem?_set_self (by omega)]
   rcases hn with⟨_,h1⟩ | ⟨p,k,x,y,o,h1,_⟩
   ·rw[h1 x hx]
   ·have:=h1.lt;omega
  ·rw[List.getElem?_set_ne (by omega)]
   exact h.top (by omega) x hx
 ·have hlt:=hk.lt
  rw[List.getElem?_set_ne (by omega)] at ho
  by_cases hij:j=i
  ·subst hij
   rw[List.getElem?_set_self (by omega)]
   rcases hn with⟨rfl,_⟩ | ⟨p',k',x',y',o',h1,h2,h3,h4,rfl⟩
   ·omega
   ·obtain⟨rfl,rfl⟩:=IZ.unique ht hk h1
    rw[hx] at h2
    rw[hy] at h3
    rw[ho] at h4
    cases h2
    cases h3
    cases h4
    rfl
  ·rw[List.getElem?_set_ne (by omega)]
   exact h.kid p k i x y o (by omega) hk hx hy ho
 ·by_cases hij:j=i
  ·subst hij
   rw[List.getElem?_set_self (by omega)] at ho
   cases ho
   exact hnle
  ·rw[List.getElem?_set_ne (by omega)] at ho
   exact h.le i o (by omega) ho
 ·rcases h.max with⟨rfl,rfl⟩ | ⟨hp,h1,i,h2,h3,h4⟩
  ·have he:(if n>0 then n else 0)=n:=by split <;> omega
   rw[he]
   refine⟨fun i x _ hi hx=>?_,0,by omega,by omega,List.getElem?_set_self (by omega)⟩
   obtain rfl:i=0:=by omega
   rw[List.getElem?_set_self (by omega)] at hx
   cases hx
   omega
  ·refine⟨fun t x _ ht hx=>?_,?_⟩
   ·by_cases htj:j=t
    ·subst htj
     rw[List.getElem?_set_self (by omega)] at hx
     cases hx
     split <;> omega
    ·rw[List.getElem?_set_ne htj] at hx
     have:=h1 t x (by omega) (by omega) hx
     split <;> omega
   ·split
    ·exact⟨j,by omega,by omega,List.getElem?_set_self (by omega)⟩
    ·exact⟨i,h2,by omega,by rw[List.getElem?_set_ne (by omega)];exact h4⟩
theorem PY.done {l:List AB} {O:List Int} {most:Int} (ht:CE l) (h:PY l O l.length most):most=(CV l (l.length+1) 0).1:=by
 have hp:=ht.pos
 have hx:l[0]?=some l[0]:=List.getElem?_eq_getElem hp
 have hO:eB l O:=⟨fun x hx=>h.top hp x hx,fun p k i x y o hk hx hy ho=>h.kid p k i x y o (List.getElem?_eq_some_iff.1 hy).1 hk hx hy ho⟩
 have h1:=(rH hO (l.length+1) 0 l.length _ _ ht (by omega) hx (hO.top _ hx)).1
 rw[Int.sub_self,Int.zero_add] at h1
 rcases h.max with⟨h0,_⟩ | ⟨_,h2⟩
 ·omega
 ·exact h2.unique h1
section
variable {call:AM} {N:Nat}
def inB:Code→Code
 | .block _ c=>c
 | c=>c
end
def AP (lo:Nat) (h:AA) (v:Value) (n w:Nat) (cs:List Value):Prop:=
 cs.length=n*w∧∃ a c,v=.slice a n c∧((n=0∧a=none)∨∃ id off row ty g ro,a=some ⟨id,off,none⟩∧h.get id=.row row ty g ro∧(lo≤id∧id<h.next)∧(row.drop off).take (n*w)=cs∧(0<lo→ro=false))
section
variable {lo:Nat} {h h':AA} {v:Value} {n w:Nat} {cs:List Value}
theorem AP.mono (hc:AP lo h v n w cs) (hn:h.next≤h'.next) (hg:∀ i,lo≤i→i<h.next→h'.get i=h.get i):AP lo h' v n w cs:=by
 obtain⟨hl,a,c,rfl,h1 | ⟨id,off,row,ty,g,ro,rfl,h1,h2,h3⟩⟩:=hc
 ·exact⟨hl,_,_,rfl,.inl h1⟩
 ·exact⟨hl,_,_,rfl,.inr ⟨id,off,row,ty,g,ro,rfl,by rw[hg id h2.1 h2.2];exact h1,by omega,h3⟩⟩
theorem AP.weak (hc:AP lo h v n w cs) {lo':Nat} (hl:lo'≤lo):AP lo' h v n w cs:=by
 obtain⟨hl',a,c,rfl,h1 | ⟨id,off,row,ty,g,ro,rfl,h1,h2,h3⟩⟩:=hc
 ·exact⟨hl',_,_,rfl,.inl h1⟩
 ·exact⟨hl',_,_,rfl,.inr ⟨id,off,row,ty,g,ro,rfl,h1,by omega,h3.1,fun h=>h3.2 (by omega)⟩⟩
theorem AP.len (hc:AP lo h v n w cs) {t e:TypeId} (ht:Tryd.prog.underlying t=some (.slice e)) {h':AA}:CX Tryd.prog h' t v=some (iv (n:Int)):=by
 obtain⟨_,a,c,rfl,_⟩:=hc
 simp[CX,ht]
theorem AP.idx (hc:AP lo h v n w cs) {t e:TypeId} (ht:Tryd.prog.underlying t=some (.slice e)) (he:BG Tryd.prog e=some w) {i:Nat} (hi:i<n) :
  ∃ id p,CL Tryd.prog t v (iv (i:Int))=some (qP id p)∧id<h.next∧∀ j,j<w→AJ (p+j) (h.get id)=cs[i*w+j]?:=by
 obtain⟨hl,a,c,rfl,⟨h0,_⟩ | ⟨id,off,row,ty,g,ro,rfl,h1,h2,h3⟩⟩:=hc
 ·omega
 ·refine⟨id,off+i*w,?_,h2.2,fun j hj=>?_⟩
  ·simp only[CL,ht,he,CJ]
   rw[if_pos (by omega)]
   simp
  ·have hlt:i*w+j<n*w:=by
    have:(i+1)*w≤n*w:=Nat.mul_le_mul_right w hi
    rw[Nat.add_mul] at this
    omega
   rw[h1,← h3.1,List.getElem?_take_of_lt hlt,List.getElem?_drop]
   simp only[AJ]
   congr 1
   omega
theorem AP.whole (hc:AP lo h v n w cs) {t e:TypeId} (ht:Tryd.prog.underlying t=some (.slice e)) (he:BG Tryd.prog e=some w) {i:Nat} (hi:i<n) :
  ∃ id p,CL Tryd.prog t v (iv (i:Int))=some (qP id p)∧id<h.next∧BF w p (h.get id)=some (.agg ((cs.drop (i*w)).take w).toArray):=by
 obtain⟨hl,a,c,rfl,⟨h0,_⟩ | ⟨id,off,row,ty,g,ro,rfl,h1,h2,h3⟩⟩:=hc
 ·omega
 ·have hle:i*w+w≤n*w:=by
   have:(i+1)*w≤n*w:=Nat.mul_le_mul_right w hi
   rw[Nat.add_mul] at this
   omega
  have e1:(cs.drop (i*w)).take w=(row.drop (off+i*w)).take w:=by
   rw[← h3.1,List.drop_take,List.drop_drop,List.take_take]
   congr 1
   omega
  have e2:((cs.drop (i*w)).take w).length=w:=by
   rw[List.length_take,List.length_drop,hl]
   omega
  refine⟨id,off+i*w,?_,h2.2,?_⟩
  ·simp only[CL,ht,he,CJ]
   rw[if_pos (by omega)]
   simp
  ·rw[h1]
   simp only[BF,F1,← e1,e2,if_true]
theorem AP.src (hc:AP lo h v n w cs):DQ h w n v=some cs:=by
 obtain⟨hl,a,c,rfl,⟨h0,rfl⟩ | ⟨id,off,row,ty,g,ro,rfl,h1,h2,h3⟩⟩:=hc
 ·subst h0
  rw[Nat.zero_mul] at hl
  rw[List.length_eq_zero_iff.1 hl]
  rfl
 ·by_cases h0:n=0
  ·subst h0
   rw[Nat.zero_mul] at hl
   rw[List.length_eq_zero_iff.1 hl]
   simp[DQ]
  ·simp only[DQ,h0,if_false,h1,F1,h3.1,hl,if_true]
theorem AP.nil (lo:Nat) (h:AA) (w:Nat):AP lo h (Z0) 0 w []:=⟨by simp,none,0,rfl,.inl ⟨rfl,rfl⟩⟩
theorem AP.rowR {r:Nat} {ty:TypeId} {g ro:Bool} {ex:List Value} {c:Nat} (hg:h.get r=.row (cs++ex) ty g ro) (hr:lo≤r∧r<h.next) (hl:cs.length=n*w) (hro:0<lo→ro=false):AP lo h (qS r n c) n w cs:=
 ⟨hl,_,_,rfl,.inr ⟨r,0,_,_,_,_,rfl,hg,hr,by rw[List.drop_zero,List.take_append_of_le_length (by omega),List.take_of_length_le (by omega)],hro⟩⟩
theorem AP.row {r:Nat} {ty:TypeId} {g:Bool} {ex:List Value} {c:Nat} (hg:h.get r=.row (cs++ex) ty g false) (hr:lo≤r∧r<h.next) (hl:cs.length=n*w):AP lo h (qS r n c) n w cs:=AP.rowR hg hr hl fun _=>rfl
theorem AP.one (hc:AP lo h v n w cs):one v=true:=by
 obtain⟨_,a,c,rfl,_⟩:=hc
 rfl
theorem E3.cells {tag:Nat→Nat} {j:Nat} {ty:TypeId} (hs:E3 h lo tag j v n cs ty) (hl:cs.length=n*w):AP lo h v n w cs:=by
 rcases hs with⟨rfl,rfl,rfl⟩ | ⟨id,ex,rfl,h2,h3,h4,h5⟩
 ·exact AP.nil lo h w
 ·exact AP.row h2 ⟨h3,h4⟩ hl
end
def AX (lo:Nat) (h:AA) (v:Value) (l:List Int):Prop:=AP lo h v l.length 1 (ints l)
section
variable {lo:Nat} {h h':AA} {v:Value} {l:List Int}
theorem AX.mono (hc:AX lo h v l) (hn:h.next≤h'.next) (hg:∀ i,lo≤i→i<h.next→h'.get i=h.get i):AX lo h' v l:=AP.mono hc hn hg
theorem AX.weak (hc:AX lo h v l) {lo':Nat} (hl:lo'≤lo):AX lo' h v l:=AP.weak hc hl
theorem AX.len (hc:AX lo h v l) {h':AA}:CX Tryd.prog h' 27 v=some (iv (l.length:Int)):=AP.len hc Tryd.underlying27
theorem AX.get (hc:AX lo h v l) {i:Nat} {x:Int} (hx:l[i]?=some x):∃ id p,CL Tryd.prog 27 v (iv (i:Int))=some (qP id p)∧id<h.next∧AJ p (h.get id)=some (iv x):=by
 obtain⟨id,p,h1,h2,h3⟩:=AP.idx hc Tryd.underlying27 C4 (List.getElem?_eq_some_iff.1 hx).1
 refine⟨id,p,h1,h2,?_⟩
 have:=h3 0 (by decide)
 rw[Nat.add_zero] at this
 rw[this,Nat.mul_one,Nat.add_zero,aT,hx]
 rfl
theorem AX.row {r:Nat} {ty:TypeId} {g:Bool} {ex:List Value} {c n:Nat} (hg:h.get r=.row (ints l++ex) ty g false) (hr:lo≤r∧r<h.next) (hn:n=l.length):AX lo h (qS r n c) l:=by
 subst hn
 exact AP.row hg hr (by rw[F9,Nat.mul_one])
theorem AX.row' {r:Nat} {ty:TypeId} {g:Bool} {c n:Nat} (hg:h.get r=.row (ints l) ty g false) (hr:lo≤r∧r<h.next) (hn:n=l.length):AX lo h (qS r n c) l:=AX.row (ex:=[]) (by rw[List.append_nil];exact hg) hr hn
end
def HJ (lo:Nat) (h:AA) (v:Value) (l:List AB):Prop:=A7 h v l∧AP lo h v l.length 5 (l.flatMap AW)
theorem HJ.of {lo:Nat} {h:AA} {v:Value} {l:List AB} (hc:AP lo h v l.length 5 (l.flatMap AW)):HJ lo h v l:=by
 refine⟨?_,hc⟩
 obtain⟨hl,a,c,rfl,⟨h0,rfl⟩ | ⟨id,off,row,ty,g,ro,rfl,h1,h2,h3⟩⟩:=hc
 ·exact⟨_,_,rfl,.inl ⟨List.length_eq_zero_iff.1 h0,rfl⟩⟩
 ·refine⟨_,_,rfl,.inr ⟨id,off,row,ty,g,ro,rfl,h1,h2.2,fun k r hk=>?_⟩⟩
  have hlt:=(List.getElem?_eq_some_iff.1 hk).1
  rw[← PO hk,← h3.1,List.drop_take,List.drop_drop,List.take_take]
  congr 1
  have:k*5+5≤l.length*5:=by omega
  omega
theorem HJ.mono {lo:Nat} {h h':AA} {v:Value} {l:List AB} (hc:HJ lo h v l) (hn:h.next≤h'.next) (hg:∀ i,lo≤i→i<h.next→h'.get i=h.get i):HJ lo h' v l:=HJ.of (hc.2.mono hn hg)
theorem A7.cells {h:AA} {v:Value} {l:List AB} (hv:A7 h v l):HJ 0 h v l:=by
 have hs:=J2 l
 refine HJ.of ⟨hs,?_⟩
 obtain⟨a,c,rfl,⟨rfl,rfl⟩ | ⟨id,off,cs,ty,g,ro,rfl,hg,hid,hc⟩⟩:=hv
 ·exact⟨_,_,rfl,.inl ⟨rfl,rfl⟩⟩
 ·exact⟨_,_,rfl,.inr ⟨id,off,cs,ty,g,ro,rfl,hg,⟨Nat.zero_le _,hid⟩,bU l cs off hc,fun h=>absurd h (Nat.lt_irrefl 0)⟩⟩
def CO (lo:Nat) (h:AA) (pv:Value) (nm:ByteArray) (s:AN):Prop:=
 ∃ vr vq vv vt vu vo,pv=.agg #[.string nm,vr,vq,vv,vt,vu,vo,iv s.miss]∧HJ lo h vr s.rows∧AP lo h vq s.queues.length 2 (C1 s.queues)∧AP lo h vv s.vars.length 1 (C7 s.vars)∧AP lo h vt s.tags.length 1 (C7 s.tags)∧AX lo h vu s.rules∧AX lo h vo s.on
theorem CO.mono {lo:Nat} {h h':AA} {pv:Value} {nm:ByteArray} {s:AN} (hp:CO lo h pv nm s) (hn:h.next≤h'.next) (hg:∀ i,lo≤i→i<h.next→h'.get i=h.get i):CO lo h' pv nm s:=by
 obtain⟨vr,vq,vv,vt,vu,vo,h1,h2,h3,h4,h5,h6,h7⟩:=hp
 exact⟨vr,vq,vv,vt,vu,vo,h1,h2.mono hn hg,h3.mono hn hg,h4.mono hn hg,h5.mono hn hg,h6.mono hn hg,h7.mono hn hg⟩
theorem A7.one {h:AA} {v:Value} {l:List AB} (hv:A7 h v l):one v=true:=by
 obtain⟨a,c,rfl,_⟩:=hv
 rfl
section
variable {call:AM} {N:Nat} {h:AA}
end
theorem S3 {P:Program} {call:AM} {n:Nat} {f:FuncId} {args:List Value} {h:AA} {fn:Func} {c:Code} {R:Value→AA→Prop} (hf:P.funcs[f]?=some fn) (hb:fn.body=some c) (hl:args.length≤fn.ntmps)
  (hw:WK P call n c ⟨HX 0 args .leaf,h⟩ (.top fun e s=>(e=.normal∨e=.ret)∧∃ vs,FH P s fn.results.toList=some vs∧R (HV vs) s.h)):∃ v h',A8 P call n f args h=some (v,h')∧R v h':=bX hf hb hl hw
def blk (rows:List AB) (E:List Int) (row:Nat):List AB:=(rows.drop row).take (((E[row]?).getD 0).toNat-row)
theorem OH.end {rows:List AB} {E rules:List Int} (hL:OH rows E rules) {i:Nat} (hi:i<rows.length):∃ q:Nat,E[i]?=some (q:Int)∧i≤q∧q≤rows.length∧blk rows E i=(rows.drop i).take (q-i):=by
 obtain⟨q,h1,h2,h3⟩:=hL.ends i hi
 exact⟨q,h1,by omega,h3,by unfold blk;rw[h1];rfl⟩
section
variable {call:AM} {N:Nat} {h:AA}
end
theorem dW {at_:Nat} {s:AN} {x:AB} (hx:s.rows[at_]?=some x) (hc:DJ at_ x s=0) :
  ∃ n,(B7 at_ x s).rows[at_]?=some { x with n:=n }∧(∀ i,i≠at_→(B7 at_ x s).rows[i]?=s.rows[i]?)∧(B7 at_ x s).rules=s.rules∧(B7 at_ x s).on=s.on∧(B7 at_ x s).things=s.things ∧
   ((DZ x.kind=0∧n=x.n)∨∃ t∈s.things,t.kind=DZ x.kind∧n=t.num∧t.known≤at_∧FQ s.things x.name=some t):=by
 unfold DJ at hc
 unfold B7
 by_cases h0:DZ x.kind=0
 ·rw[if_pos h0]
  exact⟨x.n,hx,fun _ _=>rfl,rfl,rfl,rfl,.inl ⟨h0,rfl⟩⟩
 ·rw [if_neg h0] at hc ⊢
  cases hf:FQ s.things x.name with
  | none=>rw[hf] at hc;cases hc
  | some t=>
   rw[hf] at hc
   simp only at hc ⊢
   refine⟨t.num,JV hx,fun i hi=>NR hi,trivial,trivial,trivial,.inr ⟨t,ZA hf,?_,rfl,?_,rfl⟩⟩
   ·split at hc
    ·cases hc
    ·split at hc
     ·cases hc
     ·rename_i h;simpa using h
   ·split at hc
    ·cases hc
    ·omega
section
variable {call:AM} {N:Nat} {h:AA}
theorem qO {k:Int}:A8 Tryd.prog call N 49 [iv k] h=some (iv (IN k),h):=by
 refine DA Tryd.func49 rfl (by simp[Tryd.f49]) ?_
 have hr:Tryd.f49.results.toList=[.tmp 2]:=rfl
 unfold IN
 by_cases h1:k=1
 ·have c1:(k==1)=true:=by simpa using h1
  rw[if_pos h1]
  simp only[eE,seval,↓eP,rP,hr,c1]
 have c1:(k==1)=false:=by simpa using h1
 rw[if_neg h1]
 by_cases h2:k=2
 ·have c2:(k==2)=true:=by simpa using h2
  rw[if_pos h2]
  simp only[eE,seval,↓eP,rP,hr,c1,c2]
 have c2:(k==2)=false:=by simpa using h2
 rw[if_neg h2]
 by_cases h3:k=3
 ·have c3:(k==3)=true:=by simpa using h3
  rw[if_pos h3]
  simp only[eE,seval,↓eP,rP,hr,c1,c2,c3]
 have c3:(k==3)=false:=by simpa using h3
 rw[if_neg h3]
 simp only[eE,seval,↓eP,rP,hr,c1,c2,c3]
end
theorem Eh (k:Int) (h:AA):L1 49 [iv k] h=some (iv (IN k),h):=J9 (II rfl rfl) rfl rfl rfl ⟨_,qO⟩
section
variable {n lo m e r k:Nat} {h:AA} {nm:ByteArray} {E:List Int} {s:AN}
end
section
variable {n:Nat} {h:AA} {rows:List AB} {E rules:List Int} {vr v0 vq vv vt vu vo v7 ve:Value}
end
def sZ:AN:=⟨[],[],[],[],[],[],0,[]⟩
def L4 (l:List AB):ByteArray:=match l[0]? with
 | some x=>x.name
 | none=>ByteArray.empty
noncomputable def DR (l:List AB):ByteArray × AN:=if (BZ l).1.1≠0 then (ByteArray.empty,sZ) else (L4 l,(BZ l).2)
abbrev QC:Value:=.agg #[.string ByteArray.empty,Z0,Z0,Z0,Z0,Z0,Z0,iv 0]
theorem vX (lo:Nat) (h:AA):CO lo h QC ByteArray.empty sZ:=
 ⟨_,_,_,_,_,_,rfl,HJ.of (AP.nil lo h 5),AP.nil lo h 2,AP.nil lo h 1,AP.nil lo h 1,AP.nil lo h 1,AP.nil lo h 1⟩
theorem JX {t:TypeId} {k:Nat} (ht:BG Tryd.prog t=some k) {h:AA} {id:Nat} {vs cs:List Value} {ty:TypeId} {g:Bool} (hg:h.get id=.row cs ty g false) (hl:cs.length=k) (hn:vs.length=k) (ho:vs.all one=true) (hf:h.floor≤id) :
  A_ Tryd.prog h t (qP id 0) (.agg vs.toArray)=some (h.put id (.row vs ty g false)):=by
 have hc:(Value.agg vs.toArray).cells=vs.toArray:=rfl
 have hlay:Go.Sx.lay cs 0 vs=vs:=by
  simp only[Go.Sx.lay,List.take_zero,List.nil_append,Nat.zero_add]
  rw[List.drop_of_length_le (by omega),List.append_nil]
 simp only[A_,hc,ht,FW,hg]
 rw[if_pos (by simp[hn]),if_pos (by simp only[ho];simp;omega),hlay]
theorem NF:CU Tryd.prog 33=some QC:=vB
theorem NJ:flat QC=true:=rfl
theorem VP:H0 Tryd.prog (match Tryd.prog.underlying 33 with | some (.struct fs)=>fs.toList | _=>[])=some [(0,1),(1,1),(2,1),(3,1),(4,1),(5,1),(6,1),(7,1)]:=by kernel_rfl
theorem Z6:CZ Tryd.prog 33 []=some QC:=by
 have h:=VP
 rw[Tryd.underlying33] at h
 simp only at h
 simp only[CZ,NF,NJ,if_true,Tryd.underlying33,h]
 rfl
theorem sV:BG Tryd.prog 34=some 1:=by kernel_rfl
theorem rN:E1 Tryd.prog 34=some false:=by kernel_rfl
theorem EQ {h:AA} {id off:Nat}:DY Tryd.prog h 34 (qP id off)=AJ off (h.get id):=KN rN
theorem EP {id off:Nat}:BJ Tryd.prog 36 (qP id off) 0=some (qP id off):=by simp[BJ,Tryd.underlying36,sV,CJ]
def HF (a:Nat) (H:AA) (pcs:List Value) (e p:Int):Prop:=H.get a=.row pcs 33 false false∧H.get (a+1)=.row [iv e,iv p] 36 false false
section
variable {N:Nat} {call:AM}
end
noncomputable def VY:Code:=rt (rt (Tryd.f13.body.getD .skip))
noncomputable def tW:Code:=rt VY
noncomputable def xC:Code:=rt tW
noncomputable def vY:Code:=rt xC
noncomputable def UD:Code:=rt vY
noncomputable def VR:Code:=rt UD
noncomputable def jB:Array Oper:=DT Tryd.f13 3
def Ec:List (Bool × Bool × List Operand):=[AQ,AK,AH [.tmp 4],AK]
theorem Ae:DP jB=Ec:=by kernel_rfl
noncomputable def dC:Array Oper:=DT Tryd.f13 5
def zB:List (Bool × Bool × List Operand):=[EN,FO [.tmp 5],FO [.tmp 5],FO [.tmp 5],FO [.tmp 5],AH [.tmp 5,.tmp 27],AH [.tmp 5,.tmp 27],AH [.tmp 5],AK,AK,AK]
theorem uG:DP dC=zB:=by kernel_rfl
theorem Bl {t:TypeId} {k:Nat} (ht:BG Tryd.prog t=some k) {h:AA} {id:Nat} {vs cs:List Value} {ty:TypeId} {g:Bool} (hg:h.get id=.row cs ty g false) (hl:k≤cs.length) (hn:vs.length=k) (ho:vs.all one=true) (hf:h.floor≤id) :
  A_ Tryd.prog h t (qP id 0) (.agg vs.toArray)=some (h.put id (.row (vs++cs.drop k) ty g false)):=by
 have hc:(Value.agg vs.toArray).cells=vs.toArray:=rfl
 have hlay:Go.Sx.lay cs 0 vs=vs++cs.drop k:=by
  simp only[Go.Sx.lay,List.take_zero,List.nil_append,Nat.zero_add,hn]
 simp only[A_,hc,ht,FW,hg]
 rw[if_pos (by simp[hn]),if_pos (by simp only[ho];simp;omega),hlay]
theorem rB {nm:ByteArray} {a:Option Addr} {n c:Nat} {m:Int}:CZ Tryd.prog 33 [(0,.string nm),(1,.slice a n c),(7,iv m)]=some (.agg #[.string nm,.slice a n c,Z0,Z0,Z0,Z0,Z0,iv m]):=by
 have h:=VP
 rw[Tryd.underlying33] at h
 simp only at h
 simp only[CZ,NF,NJ,if_true,Tryd.underlying33,h]
 rfl
theorem uO:H0 Tryd.prog (match Tryd.prog.underlying 69 with | some (.struct fs)=>fs.toList | _=>[])=some [(0,8),(8,1),(9,1)]:=by kernel_rfl
theorem uK:CU Tryd.prog 69=some (.agg #[.string ByteArray.empty,Z0,Z0,Z0,Z0,Z0,Z0,iv 0,.map none,.map none]):=by kernel_rfl
abbrev mM (k c:Nat):Value:=.agg #[.string ByteArray.empty,Z0,Z0,Z0,Z0,Z0,Z0,iv 0,.map (some k),.map (some c)]
theorem yR {k c:Nat}:CZ Tryd.prog 69 [(1,.map (some k)),(2,.map (some c))]=some (mM k c):=by
 have h:=uO
 rw[Tryd.underlying69] at h
 simp only at h
 have hf:flat (.agg #[.string ByteArray.empty,Z0,Z0,Z0,Z0,Z0,Z0,iv 0,.map none,.map none])=true:=rfl
 simp only[CZ,uK,hf,if_true,Tryd.underlying69,h]
 rfl
theorem iB:BG Tryd.prog 73=some 1:=by kernel_rfl
theorem uL:E1 Tryd.prog 73=some false:=by kernel_rfl
theorem Dx:CU Tryd.prog 73=some .nilFunc:=by kernel_rfl
theorem Gb:CU Tryd.prog 65=some (.pointer none):=by kernel_rfl
theorem Cb:CU Tryd.prog 27=some (Z0):=by kernel_rfl
theorem dF {h:AA} {id off:Nat}:DY Tryd.prog h 73 (qP id off)=AJ off (h.get id):=KN uL
theorem sR {h:AA} {f0 f1 f2:FuncId} {a0 a1 a2 b0 b1 b2:Array Value}:FC Tryd.prog h 74 3 [(0,.func (.func f0) a0 b0),(1,.func (.func f1) a1 b1),(2,.func (.func f2) a2 b2)]=some (qS h.next 3 3,h.push (.row [.func (.func f0) a0 b0,.func (.func f1) a1 b1,.func (.func f2) a2 b2] 73 false false)):=by
 have hc:∀ (f:FuncId) (a b:Array Value),(Value.func (.func f) a b).cells=#[.func (.func f) a b]:=fun _ _ _=>rfl
 have hz:Value.nilFunc.cells=#[.nilFunc]:=rfl
 simp[FC,Tryd.underlying74,iB,Dx,flat,BI,hc,hz,IQ,BQ,Go.Sx.lay]
theorem zV {h:AA} {id c i:Nat} (hi:i<3):CL Tryd.prog 74 (qS id 3 c) (iv (i:Int))=some (qP id i):=by
 simp only[CL,Tryd.underlying74,iB,CJ]
 rw[if_pos (by omega)]
 simp
theorem Dg {h:AA} {a:Option Addr} {n c:Nat}:CX Tryd.prog h 74 (.slice a n c)=some (iv (n:Int)):=by simp[CX,Tryd.underlying74]
section
variable {N:Nat} {call:AM}
theorem zP (hsn:B8 call) {l:List AB} {v:Value} {h:AA} {K:CG} (hfl:h.floor≤h.next) (hv:A7 h v l)
  (hg:h.get 0=CW) (hn0:0<h.next)
  (hchk:∀ H,A7 H v l→H.get 0=CW→0<H.next→H.floor≤H.next→call 27 [v] H=some (CD (CQ l).1 (CQ l).2,H))
  (hk1:(CQ l).1≠0→∀ T' H,T'.get 2=qP h.next 0→T'.get 3=qP (h.next+1) 0→HF h.next H CN (CQ l).1 (CQ l).2 →
   h.next+2≤H.next→H.floor=h.floor→(∀ i,i<h.next→H.get i=h.get i)→K.ap Tryd.prog call N .ret ⟨T',H⟩)
  (hk2:(CQ l).1=0→∀ T' H,T'.get 0=v→T'.get 2=qP h.next 0→T'.get 3=qP (h.next+1) 0→HF h.next H CN 0 0 →
   h.next+2≤H.next→H.floor=h.floor→(∀ i,i<h.next→H.get i=h.get i)→WK Tryd.prog call N VY ⟨T',H⟩ K) :
  WK Tryd.prog call N (Tryd.f13.body.getD .skip) ⟨HX 0 [v] .leaf,h⟩ K:=by
 show WK _ _ _ (.seq _ (.seq _ VY)) _ _
 have QR:=E_ CN
 have ho2:∀ i,i<h.next→((h.push (.row CN 33 false false)).push (.row [iv 0,iv 0] 36 false false)).get i=h.get i:=fun i hi=>by rw[AR (by show i<h.next+1;omega),AR hi]
 have hc:=hchk ((h.push (.row CN 33 false false)).push (.row [iv 0,iv 0] 36 false false)) (hv.mono (by show h.next≤h.next+1+1;omega) ho2) ((ho2 0 hn0).trans hg) (by show 0<h.next+1+1;omega) (by show h.floor≤h.next+1+1;omega)
 have ga:=OA (h:=h) (o:=.row CN 33 false false) (o':=.row [iv 0,iv 0] 36 false false)
 have gb:=OL (h:=h) (o:=.row CN 33 false false) (o':=.row [iv 0,iv 0] 36 false false)
 simp only[eE,seval,↓eP,F5,E9,F6,NF,NJ,QR,E2,EZ,F7]
 generalize hH2:(h.push (.row CN 33 false false)).push (.row [iv 0,iv 0] 36 false false)=H2 at *
 have hn2:H2.next=h.next+1+1:=by rw[← hH2];rfl
 have hf2:H2.floor=h.floor:=by rw[← hH2];rfl
 have sF:=JX (t:=36) JS (h:=H2.push (.row [iv 0,iv 0] 36 false false)) (vs:=[iv (CQ l).1,iv (CQ l).2]) BM rfl rfl rfl (by show H2.floor≤H2.next;omega)
 simp only[eE,seval,↓eP,F5,E9,F6,hc,E2,EZ,F7,sF]
 have hg4:((H2.push (.row [iv 0,iv 0] 36 false false)).put H2.next (.row [iv (CQ l).1,iv (CQ l).2] 36 false false)).get H2.next=.row [iv (CQ l).1,iv (CQ l).2] 36 false false:=B0 rfl (by show H2.next<H2.next+1;omega)
 have hga:((H2.push (.row [iv 0,iv 0] 36 false false)).put H2.next (.row [iv (CQ l).1,iv (CQ l).2] 36 false false)).get h.next=.row CN 33 false false:=by
  rw[AV (by show H2.next<H2.next+1;omega) (by omega),AR (by omega)];exact ga
 have hgb:((H2.push (.row [iv 0,iv 0] 36 false false)).put H2.next (.row [iv (CQ l).1,iv (CQ l).2] 36 false false)).get (h.next+1)=.row [iv 0,iv 0] 36 false false:=by
  rw[AV (by show H2.next<H2.next+1;omega) (by omega),AR (by omega)];exact gb
 have hgo:∀ i,i<h.next→((H2.push (.row [iv 0,iv 0] 36 false false)).put H2.next (.row [iv (CQ l).1,iv (CQ l).2] 36 false false)).get i=h.get i:=fun i hi=>by
  rw[AV (by show H2.next<H2.next+1;omega) (by omega),AR (by omega)];exact ho2 i hi
 have hn3:((H2.push (.row [iv 0,iv 0] 36 false false)).put H2.next (.row [iv (CQ l).1,iv (CQ l).2] 36 false false)).next=h.next+3:=by show H2.next+1=_;omega
 have hf3:((H2.push (.row [iv 0,iv 0] 36 false false)).put H2.next (.row [iv (CQ l).1,iv (CQ l).2] 36 false false)).floor=h.floor:=hf2
 generalize (H2.push (.row [iv 0,iv 0] 36 false false)).put H2.next (.row [iv (CQ l).1,iv (CQ l).2] 36 false false)=H3 at *
 have l4:AJ 0 (H3.get H2.next)=some (iv (CQ l).1):=by rw[hg4];rfl
 cases d:((CQ l).1 != 0) with
 | false=>
  have e0:(CQ l).1=0:=by simpa using d
  simp only[eE,seval,↓eP,F5,MI,E9,F6,EP,EQ,l4,d]
  refine hk2 e0 _ _ ?_ ?_ ?_ ⟨hga,hgb⟩ (by omega) hf3 hgo <;> simp only[eE,seval,↓eP,rP]
 | true=>
  have e0:(CQ l).1≠0:=by simpa using d
  have l42:BF 2 0 (H3.get H2.next)=some (CD (CQ l).1 (CQ l).2):=by rw[hg4];rfl
  have sP:=JX HU (vs:=CN) hga rfl rfl rfl (by omega)
  have hgb':=(AV (h:=H3) (i:=h.next) (j:=h.next+1) (o:=.row CN 33 false false) (by omega) (by omega)).trans hgb
  have sF2:=JX (t:=36) JS (vs:=[iv (CQ l).1,iv (CQ l).2]) hgb' rfl rfl rfl (by show H3.floor≤_;omega)
  have n1:(some H2.next != some h.next)=true:=by simp;omega
  have i1:CH (qP H2.next 0)=some H2.next:=rfl
  have i2:CH (qP h.next 0)=some h.next:=rfl
  simp only[eE,seval,↓eP,F5,MI,E9,F6,EP,EQ,l4,d]
  refine WK.flags (ops:=jB) Ae ?_
  refine CF.begin ?_
  refine AG hsn 0 (some 18) (.build 33 #[]) none ?_
  simp only[rG,seval,AC,AF,AE,List.map_nil,Z6]
  refine AG hsn 1 (some 19) (.load 36 (.tmp 4)) none ?_
  simp only[rG,seval,AC,AF,AE,CT,EB,l42,i1]
  refine AG hsn 2 (none) (.store 33 (.tmp 2) (.tmp 18)) none ?_
  simp only[rG,seval,AC,AF,AE,CK,C6,i1,i2,n1,sP]
  refine AG hsn 3 (none) (.store 36 (.tmp 3) (.tmp 19)) none ?_
  simp only[rG,seval,AC,AF,AE,CK,C6,sF2]
  refine CF.done (i:=4) (by kernel_rfl) ?_
  simp only[eE,seval,↓eP,F5,MI,E9,F6]
  have ha:∀ i,i≠h.next→(H3.put h.next (.row CN 33 false false)).get i=H3.get i:=fun i hi=>AV (by omega) (Ne.symm hi)
  refine hk1 e0 _ _ ?_ ?_ ⟨?_,B0 rfl (by show h.next+1<H3.next;omega)⟩ (by show h.next+2≤H3.next;omega) hf3 fun i hi=>?_
  ·simp only[eE,seval,↓eP,rP]
  ·simp only[eE,seval,↓eP,rP]
  ·rw[AV (by show h.next+1<H3.next;omega) (by omega)]
   exact B0 rfl (by omega)
  ·rw[AV (by show h.next+1<H3.next;omega) (by omega),ha i (by omega)]
   exact hgo i hi
structure T6 (h:AA) (m e c5 c6 fl n:Nat) (E:List Int):Prop where
 h5:h.get c5=.row [qP m 0] 65 false false
 h6:h.get c6=.row [qS e n n] 27 false false
 hf:h.get fl=.row [.func (.func 30) #[] #[qP c5 0,qP c6 0],.func (.func 32) #[qP m 0] #[],.func (.func 33) #[qP m 0] #[]] 73 false false
theorem wK (hsn:B8 call) {l:List AB} {v:Value} {T:Tr} {H:AA} {K:CG} (ht:CE l) (hlen:l.length<2932031007403) (hfl:H.floor≤H.next) (hv:A7 H v l) (t0:T.get 0=v)
  (hclone:∀ H,A7 H v l→∃ h',call 28 [v] H=some (qS (H.next+1) l.length AO,h')∧(h'.get (H.next+1)=.row (l.flatMap AW) 61 true false∧h'.next=H.next+2∧h'.floor=H.floor∧∀ i,i<H.next→h'.get i=H.get i))
  (hends:∀ H,A7 H v l→H.floor≤H.next→∃ h',call 29 [v] H=some (qS H.next l.length l.length,h')∧(h'.get H.next=.row (ints (BL l)) 3 false false∧h'.next=H.next+1∧h'.floor=H.floor∧∀ i,i<H.next→h'.get i=H.get i))
  (hk:∀ T' H' m k c e r c5 c6 fl,T'.get 0=v→T'.get 2=T.get 2→T'.get 3=T.get 3→T'.get 5=qP c5 0→T'.get 6=qP c6 0→T'.get 7=qS fl 3 3 →
   EC H' H.next m k c e r l.length (L4 l) (BL l) [c5,c6,fl] (CI l)→T6 H' m e c5 c6 fl l.length (BL l)→H.next≤H'.next→H'.floor=H.floor→(∀ i,i<H.next→H'.get i=H.get i)→WK Tryd.prog call N UD ⟨T',H'⟩ K) :
  WK Tryd.prog call N VY ⟨T,H⟩ K:=by
 show WK _ _ _ (.seq _ (.seq (.region _ _ true) (.seq _ (.seq _ UD)))) _ _
 have hpos:=ht.pos
 obtain⟨x,hx⟩:∃ x,l[0]?=some x:=⟨_,List.getElem?_eq_getElem hpos⟩
 have hnm:L4 l=x.name:=by unfold L4;rw[hx]
 have mc:(mM H.next (H.next+1)).cells.toList=[.string ByteArray.empty,Z0,Z0,Z0,Z0,Z0,Z0,iv 0,.map (some H.next),.map (some (H.next+1))]:=rfl
 have mo:([.string ByteArray.empty,Z0,Z0,Z0,Z0,Z0,Z0,iv 0,.map (some H.next),.map (some (H.next+1))]:List Value).all one=true:=rfl
 have z79:(Value.pointer none).cells.toList=[.pointer none]:=rfl
 have f79:flat (.pointer none)=true:=rfl
 have hst:A_ Tryd.prog ((((H.push (.map [])).push (.map [])).push (.row [.string ByteArray.empty,Z0,Z0,Z0,Z0,Z0,Z0,iv 0,.map (some H.next),.map (some (H.next+1))] 69 false false)).push (.row [.pointer none] 65 false false)) 65 (qP (H.next+1+1+1) 0) (qP (H.next+1+1) 0)=_:=
  HW (off:=0) Fy rfl rfl (BM (h:=(((H.push (.map [])).push (.map [])).push (.row [.string ByteArray.empty,Z0,Z0,Z0,Z0,Z0,Z0,iv 0,.map (some H.next),.map (some (H.next+1))] 69 false false)))) (by decide) (by show H.floor≤H.next+1+1+1;omega)
 simp only[eE,seval,↓eP,F5,E9,F6,yR,mc,mo,Aq,Gb,z79,f79,hst]
 have n1:(((H.push (.map [])).push (.map [])).push (.row [.string ByteArray.empty,Z0,Z0,Z0,Z0,Z0,Z0,iv 0,.map (some H.next),.map (some (H.next+1))] 69 false false)).next=H.next+1+1+1:=rfl
 have P0:∀ i,i<H.next→((((H.push (.map [])).push (.map [])).push (.row [.string ByteArray.empty,Z0,Z0,Z0,Z0,Z0,Z0,iv 0,.map (some H.next),.map (some (H.next+1))] 69 false false)).push (.row [.pointer none] 65 false false)).get i=H.get i:=fun i hi=>by
  rw[AR (by show i<H.next+1+1+1;omega),AR (by show i<H.next+1+1;omega),AR (by show i<H.next+1;omega),AR hi]
 have P1:((((H.push (.map [])).push (.map [])).push (.row [.string ByteArray.empty,Z0,Z0,Z0,Z0,Z0,Z0,iv 0,.map (some H.next),.map (some (H.next+1))] 69 false false)).push (.row [.pointer none] 65 false false)).get H.next=.map []:=by
  rw[AR (by show H.next<H.next+1+1+1;omega),AR (by show H.next<H.next+1+1;omega)];exact OA
 have P2:((((H.push (.map [])).push (.map [])).push (.row [.string ByteArray.empty,Z0,Z0,Z0,Z0,Z0,Z0,iv 0,.map (some H.next),.map (some (H.next+1))] 69 false false)).push (.row [.pointer none] 65 false false)).get (H.next+1)=.map []:=by
  rw[AR (by show H.next+1<H.next+1+1+1;omega),AR (by show H.next+1<H.next+1+1;omega)];exact OL
 have P3:((((H.push (.map [])).push (.map [])).push (.row [.string ByteArray.empty,Z0,Z0,Z0,Z0,Z0,Z0,iv 0,.map (some H.next),.map (some (H.next+1))] 69 false false)).push (.row [.pointer none] 65 false false)).get (H.next+1+1)=.row [.string ByteArray.empty,Z0,Z0,Z0,Z0,Z0,Z0,iv 0,.map (some H.next),.map (some (H.next+1))] 69 false false:=by
  rw[AR (by show H.next+1+1<H.next+1+1+1;omega)];exact BM (h:=(H.push (.map [])).push (.map []))
 have nA:((((H.push (.map [])).push (.map [])).push (.row [.string ByteArray.empty,Z0,Z0,Z0,Z0,Z0,Z0,iv 0,.map (some H.next),.map (some (H.next+1))] 69 false false)).push (.row [.pointer none] 65 false false)).next=H.next+4:=rfl
 have fA:((((H.push (.map [])).push (.map [])).push (.row [.string ByteArray.empty,Z0,Z0,Z0,Z0,Z0,Z0,iv 0,.map (some H.next),.map (some (H.next+1))] 69 false false)).push (.row [.pointer none] 65 false false)).floor=H.floor:=rfl
 generalize (((H.push (.map [])).push (.map [])).push (.row [.string ByteArray.empty,Z0,Z0,Z0,Z0,Z0,Z0,iv 0,.map (some H.next),.map (some (H.next+1))] 69 false false)).push (.row [.pointer none] 65 false false)=A0 at *
 have Q:∀ i,i≠H.next+1+1+1→(A0.put (H.next+1+1+1) (.row ([Value.pointer none].set 0 (qP (H.next+1+1) 0)) 65 false false)).get i=A0.get i:=fun i hi=>AV (by omega) (Ne.symm hi)
 have a0:∀ i,i<H.next→(A0.put (H.next+1+1+1) (.row ([Value.pointer none].set 0 (qP (H.next+1+1) 0)) 65 false false)).get i=H.get i:=fun i hi=>by rw[Q i (by omega)];exact P0 i hi
 have a1:=(Q H.next (by omega)).trans P1
 have a2:=(Q (H.next+1) (by omega)).trans P2
 have a3:=(Q (H.next+1+1) (by omega)).trans P3
 have a4:(A0.put (H.next+1+1+1) (.row ([Value.pointer none].set 0 (qP (H.next+1+1) 0)) 65 false false)).get (H.next+1+1+1)=.row [qP (H.next+1+1) 0] 65 false false:=B0 rfl (by omega)
 have nB:(A0.put (H.next+1+1+1) (.row ([Value.pointer none].set 0 (qP (H.next+1+1) 0)) 65 false false)).next=H.next+4:=nA
 have fB:(A0.put (H.next+1+1+1) (.row ([Value.pointer none].set 0 (qP (H.next+1+1) 0)) 65 false false)).floor=H.floor:=fA
 generalize A0.put (H.next+1+1+1) (.row ([Value.pointer none].set 0 (qP (H.next+1+1) 0)) 65 false false)=A at *
 clear hst n1 P0 P1 P2 P3 nA fA Q A0
 have hvA:A7 A v l:=hv.mono (by omega) a0
 obtain⟨id,q,e0,hid,l0,l1,l2,l3,l4,lr⟩:=hvA.row hx
 have e0':CL Tryd.prog 26 v (iv 0)=some (qP id q):=e0
 have hidT:(id<A.next)=True:=by simp[hid]
 have l79:AJ 0 (A.get (H.next+1+1+1))=some (qP (H.next+1+1) 0):=by rw[a4];rfl
 have hvf:A7 (A.fl (max A.floor A.next)) v l:=hvA.mono (Nat.le_refl _) fun _ _=>rfl
 obtain⟨h3,hE,g1,g2,g3,g4⟩:=hclone (A.fl (max A.floor A.next)) hvf
 simp only[HQ] at hE g1 g2 g4
 have g4':∀ i,i<A.next→h3.get i=A.get i:=g4
 have hs30:A_ Tryd.prog (h3.fl A.floor) 33 (qP (H.next+1+1) 0) (.agg #[.string x.name,qS (A.next+1) l.length AO,Z0,Z0,Z0,Z0,Z0,iv (-1)])=_:=
  Bl (vs:=[.string x.name,qS (A.next+1) l.length AO,Z0,Z0,Z0,Z0,Z0,iv (-1)]) HU (by rw[LY,g4' _ (by omega)];exact a3) (by simp only[List.length_cons,List.length_nil];omega) rfl rfl (by show A.floor≤_;omega)
 have i3:((H.next+1+1+1)<A.next)=True:=by simp;omega
 refine WK.flags (ops:=dC) uG ?_
 refine CF.begin ?_
 refine AG hsn 0 (some 24) (.load 65 (.tmp 5)) none ?_
 simp only[rG,seval,AC,AF,AE,CT,l79,i3,S7]
 refine AG hsn 1 (some 25) (.move (.tmp 0)) none ?_
 simp only[rG,seval,AC,AF,AE,t0]
 refine AG hsn 2 (some 26) (.indexAddr 26 (.tmp 25) (.const (Value.int IntKind.i64 0))) none ?_
 simp only[rG,seval,AC,AF,AE,e0']
 refine AG hsn 3 (some 27) (.fieldAddr 61 (.tmp 26) 1) none ?_
 simp only[rG,seval,AC,AF,AE,K9]
 refine AG hsn 4 (some 28) (.load 9 (.tmp 27)) none ?_
 simp only[rG,seval,AC,AF,AE,CT,hidT,GE,l1]
 refine AG hsn 5 (some 29) (.move (.tmp 0)) none ?_
 simp only[rG,seval,AC,AF,AE,t0]
 refine AG hsn 6 (some 30) (.call { callee:=.value (.func 28),args:=#[.tmp 29],argTypes:=#[26] }) none ?_
 simp only[rG,seval,AC,AF,AE,DU,hE]
 refine AG hsn 7 (some 31) (.build 33 #[(0,.tmp 28),(1,.tmp 30),(7,.const (Value.int IntKind.i64 (-1)))]) none ?_
 simp only[rG,seval,AC,AF,AE,List.map_cons,List.map_nil,rB]
 refine AG hsn 8 (some 32) (.nilCheck (.tmp 24)) none ?_
 simp only[rG,seval,AC,AF,AE]
 refine AG hsn 9 (some 33) (.fieldAddr 69 (.tmp 32) 0) none ?_
 simp only[rG,seval,AC,AF,AE,IH]
 refine AG hsn 10 (none) (.store 33 (.tmp 33) (.tmp 31)) none ?_
 simp only[rG,seval,AC,AF,AE,CK,C6,hs30]
 refine CF.done (i:=11) (by kernel_rfl) ?_
 have hgo:∀ i,i≠H.next+1+1→((h3.fl A.floor).put (H.next+1+1) (A9.row ([.string x.name,qS (A.next+1) l.length AO,Z0,Z0,Z0,Z0,Z0,iv (-1)]++List.drop 8 [.string ByteArray.empty,Z0,Z0,Z0,Z0,Z0,Z0,iv 0,.map (some H.next),.map (some (H.next+1))]) 69 false false)).get i=h3.get i:=fun i hi=>AV (by show _<h3.next;omega) (Ne.symm hi)
 have b0:∀ i,i<H.next→((h3.fl A.floor).put (H.next+1+1) (A9.row ([.string x.name,qS (A.next+1) l.length AO,Z0,Z0,Z0,Z0,Z0,iv (-1)]++List.drop 8 [.string ByteArray.empty,Z0,Z0,Z0,Z0,Z0,Z0,iv 0,.map (some H.next),.map (some (H.next+1))]) 69 false false)).get i=H.get i:=fun i hi=>by rw[hgo i (by omega),g4' i (by omega),a0 i hi]
 have b1:((h3.fl A.floor).put (H.next+1+1) (A9.row ([.string x.name,qS (A.next+1) l.length AO,Z0,Z0,Z0,Z0,Z0,iv (-1)]++List.drop 8 [.string ByteArray.empty,Z0,Z0,Z0,Z0,Z0,Z0,iv 0,.map (some H.next),.map (some (H.next+1))]) 69 false false)).get H.next=.map []:=by rw[hgo _ (by omega),g4' _ (by omega)];exact a1
 have b2:((h3.fl A.floor).put (H.next+1+1) (A9.row ([.string x.name,qS (A.next+1) l.length AO,Z0,Z0,Z0,Z0,Z0,iv (-1)]++List.drop 8 [.string ByteArray.empty,Z0,Z0,Z0,Z0,Z0,Z0,iv 0,.map (some H.next),.map (some (H.next+1))]) 69 false false)).get (H.next+1)=.map []:=by rw[hgo _ (by omega),g4' _ (by omega)];exact a2
 have b3:((h3.fl A.floor).put (H.next+1+1) (A9.row ([.string x.name,qS (A.next+1) l.length AO,Z0,Z0,Z0,Z0,Z0,iv (-1)]++List.drop 8 [.string ByteArray.empty,Z0,Z0,Z0,Z0,Z0,Z0,iv 0,.map (some H.next),.map (some (H.next+1))]) 69 false false)).get (H.next+1+1)=.row [.string x.name,qS (A.next+1) l.length AO,Z0,Z0,Z0,Z0,Z0,iv (-1),.map (some H.next),.map (some (H.next+1))] 69 false false:=B0 rfl (by show _<h3.next;omega)
 have b4:((h3.fl A.floor).put (H.next+1+1) (A9.row ([.string x.name,qS (A.next+1) l.length AO,Z0,Z0,Z0,Z0,Z0,iv (-1)]++List.drop 8 [.string ByteArray.empty,Z0,Z0,Z0,Z0,Z0,Z0,iv 0,.map (some H.next),.map (some (H.next+1))]) 69 false false)).get (H.next+1+1+1)=.row [qP (H.next+1+1) 0] 65 false false:=by rw[hgo _ (by omega),g4' _ (by omega)];exact a4
 have b5:((h3.fl A.floor).put (H.next+1+1) (A9.row ([.string x.name,qS (A.next+1) l.length AO,Z0,Z0,Z0,Z0,Z0,iv (-1)]++List.drop 8 [.string ByteArray.empty,Z0,Z0,Z0,Z0,Z0,Z0,iv 0,.map (some H.next),.map (some (H.next+1))]) 69 false false)).get (A.next+1)=.row (l.flatMap AW) 61 true false:=by rw[hgo _ (by omega)];exact g1
 have nW:((h3.fl A.floor).put (H.next+1+1) (A9.row ([.string x.name,qS (A.next+1) l.length AO,Z0,Z0,Z0,Z0,Z0,iv (-1)]++List.drop 8 [.string ByteArray.empty,Z0,Z0,Z0,Z0,Z0,Z0,iv 0,.map (some H.next),.map (some (H.next+1))]) 69 false false)).next=H.next+6:=by show h3.next=_;omega
 have fW:((h3.fl A.floor).put (H.next+1+1) (A9.row ([.string x.name,qS (A.next+1) l.length AO,Z0,Z0,Z0,Z0,Z0,iv (-1)]++List.drop 8 [.string ByteArray.empty,Z0,Z0,Z0,Z0,Z0,Z0,iv 0,.map (some H.next),.map (some (H.next+1))]) 69 false false)).floor=H.floor:=fB
 generalize (h3.fl A.floor).put (H.next+1+1) (A9.row ([.string x.name,qS (A.next+1) l.length AO,Z0,Z0,Z0,Z0,Z0,iv (-1)]++List.drop 8 [.string ByteArray.empty,Z0,Z0,Z0,Z0,Z0,Z0,iv 0,.map (some H.next),.map (some (H.next+1))]) 69 false false)=B at *
 have hvB:A7 B v l:=hv.mono (by omega) b0
 obtain⟨h4,hN,k1,k2,k3,k4⟩:=hends B hvB (by omega)
 have z28:(Z0).cells.toList=[Z0]:=rfl
 have f28:flat (Z0)=true:=rfl
 have hst:A_ Tryd.prog (h4.push (.row [Z0] 27 false false)) 27 (qP h4.next 0) (qS B.next l.length l.length)=_:=HW (off:=0) LI rfl rfl BM (by decide) (by show h4.floor≤h4.next;omega)
 have c0:∀ i,i≠h4.next→((h4.push (.row [Z0] 27 false false)).put h4.next (.row ([Z0].set 0 (qS B.next l.length l.length)) 27 false false)).get i=h4.get i:=fun i hi=>by rw[AV (by show h4.next<h4.next+1;omega) (Ne.symm hi),NC hi]
 have c6:((h4.push (.row [Z0] 27 false false)).put h4.next (.row ([Z0].set 0 (qS B.next l.length l.length)) 27 false false)).get h4.next=.row [qS B.next l.length l.length] 27 false false:=B0 rfl (by show h4.next<h4.next+1;omega)
 have nC:((h4.push (.row [Z0] 27 false false)).put h4.next (.row ([Z0].set 0 (qS B.next l.length l.length)) 27 false false)).next=H.next+8:=by show h4.next+1=_;omega
 have fC:((h4.push (.row [Z0] 27 false false)).put h4.next (.row ([Z0].set 0 (qS B.next l.length l.length)) 27 false false)).floor=H.floor:=by show h4.floor=_;omega
 simp only[eE,seval,↓eP,F5,E9,F6,t0,hN,Cb,z28,f28,hst]
 generalize (h4.push (.row [Z0] 27 false false)).put h4.next (.row ([Z0].set 0 (qS B.next l.length l.length)) 27 false false)=C at *
 have l5:AJ 0 (C.get (H.next+1+1+1))=some (qP (H.next+1+1) 0):=by rw[c0 _ (by omega),k4 _ (by omega),b4];rfl
 simp only[eE,seval,↓eP,F5,E9,F6,S7,l5,List.map_toArray,sR]
 have D0:∀ (o:A9) i,i<C.next→(C.push o).get i=C.get i:=fun o i hi=>AR hi
 have D6:∀ (o:A9) i,i<B.next→(C.push o).get i=B.get i:=fun o i hi=>by rw[D0 o i (by omega),c0 i (by omega),k4 i hi]
 have n4:h4.next=H.next+7:=by omega
 refine hk _ _ (H.next+1+1) H.next (H.next+1) B.next (A.next+1) (H.next+1+1+1) h4.next C.next ?_ ?_ ?_ ?_ ?_ ?_ ⟨fun i=>if i=H.next+1+1 then 0 else if i=A.next+1 then 1 else if i=H.next then 8 else if i=H.next+1 then 9 else if i=B.next then 10 else 11,Z0,Z0,Z0,Z0,Z0,[],?_,?_,⟨by simp[CI],by simp[CI],by simp[CI],by simp[CI],rfl,fun t ht=>by cases ht⟩,fun i hi=>?_⟩ ⟨?_,?_,BM⟩ (by show H.next≤C.next+1;omega) (by show C.floor=H.floor;exact fC) fun i hi=>?_
 ·simp only[eE,seval,↓eP,rP,t0]
 ·simp only[eE,seval,↓eP,rP]
 ·simp only[eE,seval,↓eP,rP]
 ·simp only[eE,seval,↓eP,rP]
 ·simp only[eE,seval,↓eP,rP]
 ·simp only[eE,seval,↓eP,rP]
 ·exact
   { cell:=by rw[D6 _ _ (by omega),b3,hnm];rfl
     pol:=
      { rows:=by rw[D6 _ _ (by omega)];exact b5
        len:=rfl
        tr:=by rw[if_neg (by omega),if_pos rfl]
        lr:=⟨by omega,by show _<C.next+1;omega⟩
        q:=SZ
        v:=SZ
        t:=SZ
        u:=SZ
        o:=SZ }
     known:=by rw[D6 _ _ (by omega)];exact b1
     many:=by rw[D6 _ _ (by omega)];exact b2
     ends:=by rw[D0 _ _ (by omega),c0 _ (by omega)];exact k1
     tm:=if_pos rfl
     tk:=by rw[if_neg (by omega),if_neg (by omega),if_pos rfl]
     tc:=by rw[if_neg (by omega),if_neg (by omega),if_neg (by omega),if_pos rfl]
     te:=by rw[if_neg (by omega),if_neg (by omega),if_neg (by omega),if_neg (by omega),if_pos rfl]
     lm:=⟨by omega,by show _<C.next+1;omega⟩
     lk:=⟨Nat.le_refl _,by show _<C.next+1;omega⟩
     lc:=⟨by omega,by show _<C.next+1;omega⟩
     le:=⟨by omega,by show _<C.next+1;omega⟩
     fl:=by show C.floor≤H.next;omega }
 ·refine⟨fun p hp=>(by cases hp),fun k h1 h4=>?_⟩
  have:BO (CI l) k=0:=by unfold BO;(repeat' split) <;> rfl
  rw[if_pos this]
  rfl
 ·have hii:i=H.next+1+1+1∨i=h4.next∨i=C.next:=by simpa using hi
  refine⟨by show i<C.next+1;omega,?_⟩
  show 11≤(if i=H.next+1+1 then 0 else if i=A.next+1 then 1 else if i=H.next then 8 else if i=H.next+1 then 9 else if i=B.next then 10 else 11)
  rw[if_neg (by omega),if_neg (by omega),if_neg (by omega),if_neg (by omega),if_neg (by omega)]
  exact Nat.le_refl _
 ·rw[D6 _ _ (by omega)];exact b4
 ·rw[D0 _ _ (by omega)];exact c6
 ·rw[D6 _ _ (by omega)];exact b0 i hi
end
noncomputable def nR:Code:=inB (tX Tryd.f13 1)
theorem HF.mono {a:Nat} {H H':AA} {cs:List Value} {e p:Int} (h:HF a H cs e p) (h0:H'.get a=H.get a) (h1:H'.get (a+1)=H.get (a+1)):HF a H' cs e p:=⟨h0.trans h.1,h1.trans h.2⟩
section
variable {N:Nat} {call:AM}
theorem SM {a:Nat} {H:AA} {cs:List Value} {e p:Int} (h:HF a H cs e p) (hl:cs.length=8) (ha:a+1<H.next) (hf:H.floor≤a) {cs':List Value} (hl':cs'.length=8) (ho':cs'.all one=true) {e' p':Int} :
  ∃ H',A_ Tryd.prog H 33 (qP a 0) (.agg cs'.toArray)=some (H.put a (.row cs' 33 false false))∧A_ Tryd.prog (H.put a (.row cs' 33 false false)) 36 (qP (a+1) 0) (CD e' p')=some H' ∧
   HF a H' cs' e' p'∧H'.next=H.next∧H'.floor=H.floor∧∀ i,i≠a→i≠a+1→H'.get i=H.get i:=by
 have s1:=JX (k:=8) HU h.1 hl hl' ho' hf
 have hb:(H.put a (.row cs' 33 false false)).get (a+1)=.row [iv e,iv p] 36 false false:=by rw[AV (by omega) (by omega)];exact h.2
 have s2:=JX (t:=36) (k:=2) JS (vs:=[iv e',iv p']) hb rfl rfl rfl (by show H.floor≤a+1;omega)
 refine⟨_,s1,s2,⟨?_,B0 rfl (by show a+1<H.next;omega)⟩,rfl,rfl,fun i hi hi'=>?_⟩
 ·rw[AV (by show a+1<H.next;omega) (by omega)]
  exact B0 rfl (by omega)
 ·rw[AV (by show a+1<H.next;omega) (by omega),AV (by omega) (by omega)]
theorem Im {at_ a fl lo m k c e r n:Nat} {nm:ByteArray} {E:List Int} {F:List Nat} {er:Nat→Int} {st:Nat→AN} {T:Tr} {H:AA} {K:CG} {fs:List Value}
  (t2:T.get 2=qP a 0) (t3:T.get 3=qP (a+1) 0) (t7:T.get 7=qS fl 3 3) (t44:T.get 44=iv at_)
  (hN:3<N) (hp:EC H lo m k c e r n nm E F (st 0)) (ha:a+1<lo) (hlo:lo≤H.next) (hout:HF a H CN 0 0) (hfa:H.floor≤a) (hfl:H.get fl=.row fs 73 false false) (hFl:fl∈F)
  (hlook:∀ i,i<3→∀ H1,EC H1 lo m k c e r n nm E F (st i)→E6 H H1 lo F→(∀ j,j<i→er j=0)→∃ fid first cap H2,fs[i]?=some (.func (.func fid) first cap)∧call fid (first.toList++[iv at_]++cap.toList) H1=some (iv (er i),H2)∧E6 H1 H2 lo F∧(er i=0→EC H2 lo m k c e r n nm E F (st (i+1))))
  (hbad:∀ i,i<3→er i≠0→(∀ j,j<i→er j=0)→∀ T' H',T'.get 2=qP a 0→T'.get 3=qP (a+1) 0→HF a H' CN (er i) at_→H.next≤H'.next→H'.floor=H.floor→(∀ i,i<a→H'.get i=H.get i)→K.ap Tryd.prog call N .ret ⟨T',H'⟩)
  (hgood:(∀ j,j<3→er j=0)→∀ T' H',(∀ t,t≤7∨(42≤t∧t≤44)→T'.get t=T.get t)→EC H' lo m k c e r n nm E F (st 3)→E6 H H' lo F→K.ap Tryd.prog call N .normal ⟨T',H'⟩) :
  WK Tryd.prog call N nR ⟨T,H⟩ K:=by
 show WK _ _ _ (.seq _ (.seq _ (.block 2 (.loop (.seq _ (.seq _ (.seq (.block 3 _) _))))))) _ _
 simp only[eE,↓reduceIte,Nat.reduceEqDiff,reduceCtorEq,↓eP,t7,t44,Dg]
 refine WK.loop (fun i s'=>s'.T.get 47=qS fl 3 3∧s'.T.get 48=iv 3∧s'.T.get 49=iv i∧s'.T.get 8=iv at_∧i≤3∧(∀ t,t≤7∨(42≤t∧t≤44)→s'.T.get t=T.get t)∧EC s'.h lo m k c e r n nm E F (st i)∧E6 H s'.h lo F∧∀ j,j<i→er j=0) 3 hN ?_ ?_
 ·refine⟨by simp only[eE,↓reduceIte,Nat.reduceEqDiff,reduceCtorEq,↓eP,rP,Nat.reduceAdd,Nat.reduceLT],by simp only[eE,↓reduceIte,Nat.reduceEqDiff,reduceCtorEq,↓eP,rP,Nat.reduceAdd,Nat.reduceLT];rfl,by simp only[eE,↓reduceIte,Nat.reduceEqDiff,reduceCtorEq,↓eP,rP,Nat.reduceAdd,Nat.reduceLT];rfl,by simp only[eE,↓reduceIte,Nat.reduceEqDiff,reduceCtorEq,↓eP,rP,Nat.reduceAdd,Nat.reduceLT],by omega,fun t ht=>?_,hp,⟨fun _ _=>rfl,Nat.le_refl _,rfl⟩,fun j hj=>by omega⟩
  simp only[Tr.get_put,Option.some.injEq]
  repeat rw[if_neg (by omega)]
 ·rintro i ⟨T1,H1⟩ hi ⟨t47,t48,t49,t8,hi3,hkeep,hp1,haf,hz⟩
  simp only at t47 t48 t49 t8 hkeep hp1 haf
  have t2':T1.get 2=qP a 0:=(hkeep 2 (by omega)).trans t2
  have t3':T1.get 3=qP (a+1) 0:=(hkeep 3 (by omega)).trans t3
  by_cases hlt:i<3
  ·have c1:decide ((i:Int)<3)=true:=by simp;omega
   obtain⟨fid,first,cap,H2,hfi,hcall,haf2,hmk⟩:=hlook i hlt H1 hp1 haf hz
   have hfl1:H1.get fl=.row fs 73 false false:=(haf.1 fl (.inr hFl)).trans hfl
   have lf:AJ i (H1.get fl)=some (.func (.func fid) first cap):=by rw[hfl1];exact hfi
   have hix:=zV (h:=H1) (id:=fl) (c:=3) hlt
   cases d:(er i != 0) with
   | true=>
    have e0:er i≠0:=by simpa using d
    have n2:H.next≤H2.next:=Nat.le_trans haf.2.1 haf2.2.1
    have f2:H2.floor=H.floor:=haf2.2.2.trans haf.2.2
    have o2:∀ i,i<lo→H2.get i=H.get i:=fun i hi=>(haf2.1 i (.inl hi)).trans (haf.1 i (.inl hi))
    have hout2:HF a H2 CN 0 0:=hout.mono (o2 a (by omega)) (o2 (a+1) ha)
    obtain⟨H',s1,s2,r1,r2,r3,r4⟩:=SM hout2 rfl (by omega) (by omega) (cs':=CN) rfl rfl (e':=er i) (p':=at_)
    simp only[eE,seval,↓eP,t47,t48,t49,t8,t2',t3',c1,hix,dF,lf,hcall,d,Z6,I_,s1,s2]
    refine hbad i hlt e0 hz _ _ ?_ ?_ r1 (by omega) (r3.trans f2) fun j hj=>(r4 j (by omega) (by omega)).trans (o2 j (by omega))
    ·simp only[eE,seval,↓eP,rP,t2']
    ·simp only[eE,seval,↓eP,rP,t3']
   | false=>
    have e0:er i=0:=by simpa using d
    have w1:=EU i (by omega)
    simp only[eE,seval,↓eP,t47,t48,t49,t8,c1,hix,dF,lf,hcall,d,w1]
    refine⟨hlt,by omega,fun t ht=>?_,hmk e0,⟨fun i hi=>(haf2.1 i hi).trans (haf.1 i hi),Nat.le_trans haf.2.1 haf2.2.1,haf2.2.2.trans haf.2.2⟩,fun j hj=>?_⟩
    ·repeat rw[if_neg (by omega)]
     exact hkeep t ht
    ·rcases Nat.lt_or_ge j i with h1 | h1
     ·exact hz j h1
     ·have:j=i:=by omega
      subst this
      exact e0
  ·have c1:decide ((i:Int)<3)=false:=by simp;omega
   have:i=3:=by omega
   subst this
   simp only[eE,seval,↓eP,t48,t49]
   refine hgood hz _ _ (fun t ht=>?_) hp1 haf
   simp only[Tr.get_put,Option.some.injEq]
   repeat rw[if_neg (by omega)]
   exact hkeep t ht
end
theorem p8 (k:Int) (h:AA) (hk:1≤k∧k≤54):L0 48 [iv k] h=some (iv (BS k),h):=J9 rfl rfl rfl rfl (M3 Dq hk)
theorem sN (k:Int) (h:AA) (hk:1≤k∧k≤54):L0 50 [iv k] h=some (iv (DZ k),h):=J9 rfl rfl rfl rfl (M3 Gs hk)
theorem eH (k:Int) (h:AA) (hk:1≤k∧k≤54):L0 51 [iv k] h=some (.bool (GY k),h):=J9 rfl rfl rfl rfl (M3 vT hk)
theorem kQ {at_:Nat} {end_:Int} {x:AB} {s:AN} (hx:s.rows[at_]?=some x):∃ n,(BN at_ end_ x s).rows[at_]?=some { x with n:=n }:=by
 rw[kM]
 split
 ·exact⟨x.n,hx⟩
 ·exact⟨_,JV hx⟩
def N0 (at_:Nat) (end_:Int) (x x1 x2:AB) (s:AN):Nat→Int
 | 0=>ET x s
 | 1=>DJ at_ x1 (BN at_ end_ x s)
 | _=>EX x2 (B7 at_ x1 (BN at_ end_ x s))
def SC (at_:Nat) (end_:Int) (x x1 x2:AB) (s:AN):Nat→AN
 | 0=>s
 | 1=>BN at_ end_ x s
 | 2=>B7 at_ x1 (BN at_ end_ x s)
 | _=>EG at_ x2 (B7 at_ x1 (BN at_ end_ x s))
theorem Jh {E:List Int} {at_:Nat} {end_:Int} {x x1 x2:AB} {s:AN} (hx:s.rows[at_]?=some x) (hE:E[at_]?=some end_) (h1:(BN at_ end_ x s).rows[at_]?=some x1) (h2:DJ at_ x1 (BN at_ end_ x s)=0→(B7 at_ x1 (BN at_ end_ x s)).rows[at_]?=some x2) :
  (∀ i,i<3→N0 at_ end_ x x1 x2 s i≠0→(∀ j,j<i→N0 at_ end_ x x1 x2 s j=0)→FU E at_ s=(N0 at_ end_ x x1 x2 s i,s))∧((∀ j,j<3→N0 at_ end_ x x1 x2 s j=0)→FU E at_ s=(0,SC at_ end_ x x1 x2 s 3)):=by
 have hEx:(E[at_]?).getD 0=end_:=by rw[hE];rfl
 constructor
 ·intro i hi he hz
  unfold FU
  rw[hx]
  simp only[hEx]
  match i,hi,he,hz with
  | 0,_,he,_=>
   have he:ET x s≠0:=he
   rw[if_pos he]
   rfl
  | 1,_,he,hz=>
   have h0:ET x s=0:=hz 0 (by omega)
   have he:DJ at_ x1 (BN at_ end_ x s)≠0:=he
   rw[if_neg (by simpa using h0),h1]
   simp only
   rw[if_pos he]
   rfl
  | 2,_,he,hz=>
   have h0:ET x s=0:=hz 0 (by omega)
   have hc:DJ at_ x1 (BN at_ end_ x s)=0:=hz 1 (by omega)
   have he:EX x2 (B7 at_ x1 (BN at_ end_ x s))≠0:=he
   rw[if_neg (by simpa using h0),h1]
   simp only
   rw[if_neg (by simpa using hc),h2 hc]
   simp only
   rw[if_pos he]
   rfl
 ·intro hz
  have h0:ET x s=0:=hz 0 (by omega)
  have hc:DJ at_ x1 (BN at_ end_ x s)=0:=hz 1 (by omega)
  have he:EX x2 (B7 at_ x1 (BN at_ end_ x s))=0:=hz 2 (by omega)
  unfold FU
  rw[hx]
  simp only[hEx]
  rw[if_neg (by simpa using h0),h1]
  simp only
  rw[if_neg (by simpa using hc),h2 hc]
  simp only
  rw[if_neg (by simpa using he)]
  rfl
section
variable {n lo m k c e r L:Nat} {h:AA} {nm:ByteArray} {E:List Int} {F:List Nat} {s:AN}
theorem uZ {at_:Nat} {end_:Int} {x:AB} (hp:EC h lo m k c e r L nm E F s) (hx:s.rows[at_]?=some x) (hkind:1≤x.kind∧x.kind≤54) (hL:L<30000000000000) (he:0≤end_) (hn:0<n) :
  ∃ h',AS n 31 [qP m 0,iv at_,iv end_] h=some (iv (ET x s),h')∧(E6 h h' lo F∧(ET x s=0→EC h' lo m k c e r L nm E F (BN at_ end_ x s))):=by
 obtain⟨n,rfl⟩:=C_ hn
 exact WA (BT ⟨rfl,rfl,rfl⟩) (Bv (FD n).2 hp hx hkind hL he (fun k h' hk=>JI (KZ (p8 k h' hk))) fun k h'=>JI (Eh k h'))
theorem Ix {at_:Nat} {x:AB} (hp:EC h lo m k c e r L nm E F s) (hx:s.rows[at_]?=some x) (hkind:1≤x.kind∧x.kind≤54) (hL:L<30000000000000) (hn:0<n) :
  ∃ h',AS n 32 [qP m 0,iv at_] h=some (iv (DJ at_ x s),h')∧(E6 h h' lo F∧(DJ at_ x s=0→EC h' lo m k c e r L nm E F (B7 at_ x s))):=by
 obtain⟨n,rfl⟩:=C_ hn
 exact WA (BT ⟨rfl,rfl,rfl⟩) (rL (FD n).2 hp hx hkind hL fun k h' hk=>JI (KZ (sN k h' hk)))
theorem Gl {at_:Nat} {x:AB} (hp:EC h lo m k c e r L nm E F s) (hx:s.rows[at_]?=some x) (hkind:1≤x.kind∧x.kind≤54) (hL:L<30000000000000) (hxn:GY x.kind=true→x.kind≠10→0≤x.n∧x.n<s.on.length) (hn:0<n) :
  ∃ h',AS n 33 [qP m 0,iv at_] h=some (iv (EX x s),h')∧(E6 h h' lo F∧(EX x s=0→EC h' lo m k c e r L nm E F (EG at_ x s))):=by
 obtain⟨n,rfl⟩:=C_ hn
 exact WA (BT ⟨rfl,rfl,rfl⟩) (Fs (FD n).2 hp hx hkind hL hxn fun k h' hk=>JI (KZ (eH k h' hk)))
theorem Bz {at_ c5 c6:Nat} {end_:Int} {x:AB} (hp:EC h lo m k c e r L nm E F s) (hx:s.rows[at_]?=some x) (hkind:1≤x.kind∧x.kind≤54) (hL:L<30000000000000) (he:0≤end_) (hE:E[at_]?=some end_) (hlE:L=E.length)
  (h5:h.get c5=.row [qP m 0] 65 false false) (h6:h.get c6=.row [qS e L L] 27 false false) (hn:1<n) :
  ∃ h',AS n 30 [iv at_,qP c5 0,qP c6 0] h=some (iv (ET x s),h')∧(E6 h h' lo F∧(ET x s=0→EC h' lo m k c e r L nm E F (BN at_ end_ x s))):=by
 obtain⟨n,rfl⟩:∃ j,n=j+1:=⟨n-1,by omega⟩
 obtain⟨tag,vq,vv,vt,vu,vo,es,hp',_⟩:=id hp
 obtain⟨h',hc,ha,hm⟩:=uZ (n:=n) (at_:=at_) hp hx hkind hL he (by omega)
 exact WA (BT ⟨rfl,rfl,rfl⟩) (s_ (FD n).2 h5 h6 hp'.ends hE hlE ⟨h',hc,ha.2.2,ha,hm⟩)
theorem tI {l:List AB} {at_ c5 c6 fl:Nat} {x x1:AB} {H:AA} (ht:CE l) (hL:l.length<2932031007403) (hat:at_<l.length) (hi:HG l at_ s) (hx:s.rows[at_]?=some x) (h1:(BN at_ (AD l at_) x s).rows[at_]?=some x1) (hcl:T6 H m e c5 c6 fl l.length (BL l)) (h5:c5∈F) (h6:c6∈F) (hfl:fl∈F) (hn:3<n) :
  ∃ x2,(DJ at_ x1 (BN at_ (AD l at_) x s)=0→(B7 at_ x1 (BN at_ (AD l at_) x s)).rows[at_]?=some x2)∧∀ i,i<3→∀ H1,EC H1 lo m k c e r l.length nm (BL l) F (SC at_ (AD l at_) x x1 x2 s i)→E6 H H1 lo F→(∀ j,j<i→N0 at_ (AD l at_) x x1 x2 s j=0) →
   ∃ fid first cap H2,([.func (.func 30) #[] #[qP c5 0,qP c6 0],.func (.func 32) #[qP m 0] #[],.func (.func 33) #[qP m 0] #[]]:List Value)[i]?=some (.func (.func fid) first cap) ∧
    AS n fid (first.toList++[iv at_]++cap.toList) H1=some (iv (N0 at_ (AD l at_) x x1 x2 s i),H2)∧E6 H1 H2 lo F∧(N0 at_ (AD l at_) x x1 x2 s i=0→EC H2 lo m k c e r l.length nm (BL l) F (SC at_ (AD l at_) x x1 x2 s (i+1))):=by
 have hkind:=ZZ ht hi x (List.mem_of_getElem? hx)
 obtain⟨n1,hx1⟩:=kQ (end_:=AD l at_) hx
 rw[h1] at hx1
 cases hx1
 obtain⟨x2,hx2⟩:∃ x2,DJ at_ { x with n:=n1 } (BN at_ (AD l at_) x s)=0→(B7 at_ { x with n:=n1 } (BN at_ (AD l at_) x s)).rows[at_]?=some x2∧(∃ n,x2={ x with n:=n })∧(x2.kind≠10→GY x2.kind=true→LL (B7 at_ { x with n:=n1 } (BN at_ (AD l at_) x s))→0≤x2.n∧x2.n<(B7 at_ { x with n:=n1 } (BN at_ (AD l at_) x s)).on.length):=by
  by_cases hc:DJ at_ { x with n:=n1 } (BN at_ (AD l at_) x s)=0
  ·obtain⟨n2,a1,a2,a3,a4,a5,a6⟩:=dW h1 hc
   refine⟨_,fun _=>⟨a1,⟨n2,rfl⟩,fun h10 hev hw=>?_⟩⟩
   have hd:=Af (k:=x.kind) hev h10
   rcases a6 with⟨b1,_⟩ | ⟨t,b1,b2,b3,_⟩
   ·have b1:DZ x.kind=0:=b1
    rw[hd.1] at b1
    cases b1
   ·have b2:t.kind=DZ x.kind:=b2
    rw[hd.1] at b2
    rw[← a5] at b1
    obtain⟨_,_,q1,q2,_⟩:=hw.th t b1
    rw[b2] at q2
    have q3:t.num<((B7 at_ { x with n:=n1 } (BN at_ (AD l at_) x s)).queues.length:Int):=q2
    rw[← hw.o] at q3
    simp only
    rw[b3]
    exact⟨q1,q3⟩
  ·exact⟨x,fun h=>absurd h hc⟩
 refine⟨x2,fun h=>(hx2 h).1,?_⟩
 intro i hi3 H1 hp haf hz
 have hEat:(BL l)[at_]?=some (AD l at_:Int):=O6 hat
 match i,hi3 with
 | 0,_=>
  have g5:H1.get c5=_:=(haf.1 c5 (.inr h5)).trans hcl.h5
  have g6:H1.get c6=_:=(haf.1 c6 (.inr h6)).trans hcl.h6
  obtain⟨H2,q1,q2,q3⟩:=Bz (n:=n) (s:=s) (at_:=at_) hp hx hkind (by omega) (by omega) hEat (by rw[SP]) g5 g6 (by omega)
  exact⟨_,#[],#[qP c5 0,qP c6 0],H2,rfl,q1,q2,q3⟩
 | 1,_=>
  obtain⟨H2,q1,q2,q3⟩:=Ix (n:=n) (s:=BN at_ (AD l at_) x s) (at_:=at_) hp h1 hkind (by omega) (by omega)
  exact⟨_,#[qP m 0],#[],H2,rfl,q1,q2,q3⟩
 | 2,_=>
  have hc:DJ at_ { x with n:=n1 } (BN at_ (AD l at_) x s)=0:=hz 1 (by omega)
  obtain⟨r1,⟨n2,r2⟩,r3⟩:=hx2 hc
  have hw:LL (B7 at_ { x with n:=n1 } (BN at_ (AD l at_) x s)):=by
   obtain⟨_,_,_,_,_,_,_,_,_,hw,_⟩:=id hp
   exact hw
  obtain⟨H2,q1,q2,q3⟩:=Gl (n:=n) (s:=B7 at_ { x with n:=n1 } (BN at_ (AD l at_) x s)) (at_:=at_) hp r1 (by rw[r2];exact hkind) (by omega) (fun a b=>r3 b a hw) (by omega)
  exact⟨_,#[qP m 0],#[],H2,rfl,q1,q2,q3⟩
end
theorem uU {h:AA} {r:Nat} {rows:List AB} {lo hi:Nat} (hg:h.get r=.row (rows.flatMap AW) 61 true false) (hr:r<h.next) (hlh:lo≤hi) (hhi:hi≤rows.length) :
  ∃ v',GN Tryd.prog h 26 (qS r rows.length AO) (some (iv lo)) (some (iv hi)) none=some v'∧A7 h v' ((rows.drop lo).take (hi-lo)):=by
 have hl:((rows.drop lo).take (hi-lo)).length=hi-lo:=by rw[List.length_take,List.length_drop];omega
 refine⟨.slice (some ⟨r,lo*5,none⟩) (hi-lo) AO,?_,?_⟩
 ·simp only[GN,Tryd.underlying26,FV,FM,if_true]
  rw[if_pos (by omega)]
  simp only[Int.toNat_natCast]
  rw[if_pos (by omega)]
  simp only[Int.toNat_natCast]
  by_cases h0:lo=0
  ·subst h0
   rw[if_pos rfl]
   simp
  ·rw[if_neg h0,hg]
   simp only[FV,if_true,Nat.zero_add]
 ·refine⟨some ⟨r,lo*5,none⟩,AO,by rw[hl],.inr ⟨r,lo*5,_,_,_,_,rfl,hg,hr,fun k x hk=>?_⟩⟩
  have hk1:=(List.getElem?_eq_some_iff.1 hk).1
  rw[List.getElem?_take_of_lt (by omega),List.getElem?_drop] at hk
  rw[show lo*5+k*5=(lo+k)*5 by omega]
  exact PO hk
section
variable {n lo m k c e r L:Nat} {h:AA} {nm:ByteArray} {E:List Int} {F:List Nat} {s:AN}
theorem fK {pb eb sb row:Nat} {rows:List AB} {E rules sums:List Int} (hL:OH rows E rules) (hc:I0 h pb eb sb rows E sums) (hs:JP sums) (hsl:sums.length=rules.length) (hfl:h.floor≤h.next) (hrow:row<rows.length) (hn:rows.length+8<n) :
  AS n 66 [iv row,qP pb 0,qP eb 0,qP sb 0] h=some (iv (GA rows E sums row),h):=by
 obtain⟨n,rfl⟩:=C_ hn
 obtain⟨q,q1,q2,q3,q4⟩:=hL.end hrow
 have hc':GA rows E sums row=H_ sums ((rows.drop row).take (q-row)) 0:=by unfold GA;rw[q1];rfl
 rw[hc']
 exact JQ (BT ⟨rfl,rfl,rfl⟩) rfl (Hs (FD n).2 hc hs hfl q1 q2 q3 (by have:=hL.len;omega) (by omega)
  (fun x hx h22=>by rw[hsl];exact hL.calls x (List.mem_of_mem_drop (List.mem_of_mem_take hx)) h22) fun a b h' hb ha=>JI (d9 h' hb ha))
theorem Hy {rows:List AB} {E rules:List Int} (hL:OH rows E rules) {v0 vr v2 v3 v4 vu v6 v7:Value} {e ce:Nat} {ge:Bool} (hone:[v0,vr,v2,v3,v4,vu,v6,v7].all one=true) (hfl:h.floor≤h.next) (hn:rows.length+rules.length+12<n)
  (hsl:∀ (lo hi:Nat) h',(∀ i,i<h.next→h'.get i=h.get i)→h.next≤h'.next→lo≤hi→hi≤rows.length→∃ v',GN Tryd.prog h' 26 vr (some (iv lo)) (some (iv hi)) none=some v'∧A7 h' v' ((rows.drop lo).take (hi-lo)))
  {lu:Nat} (hu:AX lu h vu rules) (he:h.get e=.row (ints E) 3 ge false) (hel:e<h.next) :
  ∃ h',AS n 52 [.agg #[v0,vr,v2,v3,v4,vu,v6,v7],qS e E.length ce] h=some (.func (.func 66) #[] #[qP h.next 0,qP (h.next+1) 0,qP (h.next+3) 0],h') ∧
   (I0 h' h.next (h.next+1) (h.next+3) rows E (KB rows E rules)∧h.next≤h'.next∧h'.floor=h.floor∧∀ i,i<h.next→h'.get i=h.get i):=by
 obtain⟨n,rfl⟩:=C_ hn
 refine PX (BT ⟨rfl,rfl,rfl⟩) rfl (tD (FD n).2 hL hone hfl (by omega) (by omega) hsl (fun h'=>hu.len) ?_ ?_ he hel ?_)
 ·obtain⟨_,a,c,h1,_⟩:=hu
  exact⟨a,c,h1⟩
 ·intro h' hold i ru hi
  obtain⟨id,p,h1,h2,h3⟩:=AX.get hu hi
  exact⟨id,p,h1,by rw[hold id h2];exact h3⟩
 ·intro pb eb sb row sums h' hc hsl' hs hfl' hrow
  exact fK hL hc hs hsl' hfl' hrow (by omega)
theorem Bp {tag:Nat→Nat} {vq vv vt vu vo:Value} {es:List (Value × Value)} {l:List AB} (hp:BH h lo m k c e r l.length nm (BL l) tag vq vv vt vu vo es s) (ht:CE l) (hlen:l.length<2932031007403) (hi:HG l l.length s) (hfl:h.floor≤h.next) (hn:l.length+100<n) :
  AS n 34 [qP m 0,qS e l.length l.length] h=some (iv (J4 s.rows (BL l) s.rules),h):=by
 obtain⟨n,rfl⟩:=C_ hn
 have hL:=oZ ht (by omega) hi
 have hnu:=hi.wf.u
 have hrl:=hi.len
 have hpl:=hp.pol.len
 refine JQ (BT ⟨rfl,rfl,rfl⟩) rfl (sH (pb:=h.next) (eb:=h.next+1) (sb:=h.next+3) hp hL hfl (by omega) (ZZ ht hi) (Et ht hi) ?_ (fun k h' hk=>JI (KZ (eH k h' hk))) (fun a b h' hb ha=>JI (d9 h' hb ha)) ?_)
 ·have hE:(BL l).length=l.length:=SP
  have hs:∀ (lo hi:Nat) (h':AA),(∀ i,i<h.next→h'.get i=h.get i)→h.next≤h'.next→lo≤hi→hi≤s.rows.length→∃ v',GN Tryd.prog h' 26 (qS r l.length AO) (some (iv lo)) (some (iv hi)) none=some v'∧A7 h' v' ((s.rows.drop lo).take (hi-lo)):=fun lo hi h' ho hx a b=>by
   have:=uU (h:=h') (r:=r) (rows:=s.rows) (by rw[ho r hp.pol.lr.2];exact hp.pol.rows) (by have:=hp.pol.lr.2;omega) a b
   rw[hpl] at this
   exact this
  have:=Hy (n:=n) (h:=h) (ce:=l.length) (v0:=.string nm) (v2:=vq) (v3:=vv) (v4:=vt) (v6:=vo) (v7:=iv s.miss) (vr:=qS r l.length AO) hL ?_ hfl (by omega) hs (AX.weak (hp.pol.u.cells (by rw[F9,Nat.mul_one])) (Nat.zero_le _)) hp.ends hp.le.2
  ·rw[hE] at this
   exact this
  ·have q1:=(hp.pol.q.cells (w:=2) (N_ _)).one
   have q2:=(hp.pol.v.cells (w:=1) (by rw[UO,Nat.mul_one])).one
   have q3:=(hp.pol.t.cells (w:=1) (by rw[UO,Nat.mul_one])).one
   have q4:=(hp.pol.u.cells (w:=1) (by rw[F9,Nat.mul_one])).one
   have q5:=(hp.pol.o.cells (w:=1) (by rw[F9,Nat.mul_one])).one
   simp only[List.all_cons,List.all_nil,q1,q2,q3,q4,q5,QB,KH,Bool.and_self]
   rfl
 ·intro row h' hc hfl' hrow
  exact fK hL hc (ZH).1 (ZH).2 hfl' hrow (by omega)
end
theorem E6.trans {h H H':AA} {lo:Nat} {F:List Nat} (a:E6 h H lo F) (b:E6 H H' lo F):E6 h H' lo F:=⟨fun i hi=>(b.1 i hi).trans (a.1 i hi),Nat.le_trans a.2.1 b.2.1,b.2.2.trans a.2.2⟩
section
variable {n N:Nat}
theorem Iy {l:List AB} {v:Value} {T:Tr} {H:AA} {K:CG} {a fl lo m k c e r c5 c6:Nat} {nm:ByteArray} {F:List Nat} (ht:CE l) (hL:l.length<2932031007403) (hn:3<n) (hN:l.length+3<N)
  (t0:T.get 0=v) (t2:T.get 2=qP a 0) (t3:T.get 3=qP (a+1) 0) (t7:T.get 7=qS fl 3 3) (hv:A7 H v l)
  (hp:EC H lo m k c e r l.length nm (BL l) F (CI l)) (hcl:T6 H m e c5 c6 fl l.length (BL l)) (h5:c5∈F) (h6:c6∈F) (hfl:fl∈F) (ha:a+1<lo) (hlo:lo≤H.next) (hout:HF a H CN 0 0) (hfa:H.floor≤a)
  (hbad:(DW (BL l) l.length 0 (CI l)).1≠0→∀ T' H',T'.get 2=qP a 0→T'.get 3=qP (a+1) 0→HF a H' CN (DW (BL l) l.length 0 (CI l)).1 (DW (BL l) l.length 0 (CI l)).2.1→H.next≤H'.next→H'.floor=H.floor→(∀ i,i<a→H'.get i=H.get i)→K.ap Tryd.prog (AS n) N .ret ⟨T',H'⟩)
  (hgood:(DW (BL l) l.length 0 (CI l)).1=0→∀ T' H',(∀ t,t≤7→T'.get t=T.get t)→EC H' lo m k c e r l.length nm (BL l) F (DW (BL l) l.length 0 (CI l)).2.2→HG l l.length (DW (BL l) l.length 0 (CI l)).2.2→E6 H H' lo F→WK Tryd.prog (AS n) N VR ⟨T',H'⟩ K) :
  WK Tryd.prog (AS n) N UD ⟨T,H⟩ K:=by
 show WK _ _ _ (.seq (.seq _ (.block 0 (.loop (.seq _ (.seq _ (.seq (.block 1 nR) _)))))) VR) _ _
 have hlen:=fun h'=>hv.len (h':=h')
 simp only[eE,seval,↓eP,t0,hlen]
 refine WK.loop (fun i s'=>s'.T.get 43=iv l.length∧s'.T.get 44=iv i∧i≤l.length∧(∀ t,t≤7→s'.T.get t=T.get t)∧E6 H s'.h lo F∧∃ s,EC s'.h lo m k c e r l.length nm (BL l) F s∧HG l i s∧DW (BL l) (l.length-i) i s=DW (BL l) l.length 0 (CI l)) l.length (by omega) ?_ ?_
 ·refine⟨by simp only[eE,↓reduceIte,Nat.reduceEqDiff,reduceCtorEq,↓eP,rP,Nat.reduceAdd,Nat.reduceLT],by simp only[eE,↓reduceIte,Nat.reduceEqDiff,reduceCtorEq,↓eP,rP,Nat.reduceAdd,Nat.reduceLT];rfl,by omega,fun t ht=>?_,⟨fun _ _=>rfl,Nat.le_refl _,rfl⟩,CI l,hp,YM l,rfl⟩
  simp only[Tr.get_put,Option.some.injEq]
  repeat rw[if_neg (by omega)]
 ·rintro i ⟨T1,H1⟩ hi ⟨t43,t44,hil,hkeep,haf,s,hp1,hin,hgo⟩
  simp only at t43 t44 hkeep haf hp1
  by_cases hlt:i<l.length
  ·have c1:decide ((i:Int)<(l.length:Int))=true:=by simp;omega
   obtain⟨x,hx⟩:∃ x,s.rows[i]?=some x:=⟨_,List.getElem?_eq_getElem (by rw[hin.len];exact hlt)⟩
   obtain⟨n1,h1⟩:=kQ (end_:=AD l i) hx
   have hcl1:T6 H1 m e c5 c6 fl l.length (BL l):=⟨(haf.1 c5 (.inr h5)).trans hcl.h5,(haf.1 c6 (.inr h6)).trans hcl.h6,(haf.1 fl (.inr hfl)).trans hcl.hf⟩
   obtain⟨x2,hx2,hlook⟩:=tI (n:=n) (lo:=lo) (k:=k) (c:=c) (r:=r) (nm:=nm) (F:=F) ht hL hlt hin hx h1 hcl1 h5 h6 hfl hn
   obtain⟨sb,sg⟩:=Jh (E:=BL l) hx (O6 hlt) h1 hx2
   have hr:l.length-i=(l.length-(i+1))+1:=by omega
   rw[hr] at hgo
   have hout1:HF a H1 CN 0 0:=hout.mono (haf.1 a (.inl (by omega))) (haf.1 (a+1) (.inl ha))
   have hn1:=haf.2.1
   have hf1:=haf.2.2
   have w1:=EU i (by omega)
   have hkp:∀ t,t≤44→(T1.put (some 45) (Value.bool true)).get t=T1.get t:=fun t ht=>by
    rw[Tr.get_put,if_neg (fun h=>by have h9:(45:Nat)=t:=Option.some.inj h;omega)]
   simp only[eE,seval,↓eP,t43,t44,c1]
   refine Im (a:=a) (fl:=fl) (er:=N0 i (AD l i) x { x with n:=n1 } x2 s) (st:=SC i (AD l i) x { x with n:=n1 } x2 s) (E:=BL l) (F:=F) ((hkp 2 (by omega)).trans ((hkeep 2 (by omega)).trans t2)) ((hkp 3 (by omega)).trans ((hkeep 3 (by omega)).trans t3)) ((hkp 7 (by omega)).trans ((hkeep 7 (by omega)).trans t7)) ((hkp 44 (by omega)).trans t44) (by omega) hp1 ha (by omega) hout1 (by omega) hcl1.hf hfl hlook ?_ ?_
   ·intro j hj he hz T' H' g2 g3 ho hnx hfx hox
    have hst:=sb j hj he hz
    have hg:DW (BL l) l.length 0 (CI l)=(N0 i (AD l i) x { x with n:=n1 } x2 s j,i,s):=by
     rw[← hgo]
     unfold DW
     rw[hst,if_pos he]
    simp only[eE,seval,↓eP]
    refine hbad (by rw[hg];exact he) T' H' g2 g3 (by rw[hg];exact ho) (by omega) (by omega) fun q hq=>(hox q hq).trans (haf.1 q (.inl (by omega)))
   ·intro hz T' H' hk' hp' haf'
    have hst:=sg hz
    have e0:(FU (BL l) i s).1=0:=by rw[hst]
    have hin':=U3 ht (UQ i) hlt hin e0
    rw[hst] at hin'
    have hg:DW (BL l) (l.length-(i+1)) (i+1) (SC i (AD l i) x { x with n:=n1 } x2 s 3)=DW (BL l) l.length 0 (CI l):=by
     rw[← hgo]
     conv=>rhs;unfold DW
     rw[if_neg (by rw[e0];simp),hst]
    have u43:=(hk' 43 (by omega)).trans ((hkp 43 (by omega)).trans t43)
    have u44:=(hk' 44 (by omega)).trans ((hkp 44 (by omega)).trans t44)
    simp only[eE,seval,↓eP,u43,u44,w1]
    refine⟨hlt,by omega,fun t ht=>?_,haf.trans haf',_,hp',hin',hg⟩
    repeat rw[if_neg (by omega)]
    exact(hk' t (by omega)).trans ((hkp t (by omega)).trans (hkeep t ht))
  ·have c1:decide ((i:Int)<(l.length:Int))=false:=by simp;omega
   have:i=l.length:=by omega
   subst this
   have hg:DW (BL l) l.length 0 (CI l)=(0,l.length,s):=by
    rw[← hgo,Nat.sub_self]
    rfl
   simp only[eE,seval,↓eP,t43,t44,c1]
   refine hgood (by rw[hg]) _ _ (fun t ht=>?_) (by rw[hg];exact hp1) (by rw[hg];exact hin) haf
   simp only[Tr.get_put,Option.some.injEq]
   repeat rw[if_neg (by omega)]
   exact hkeep t ht
theorem CO.weak {lo lo':Nat} {h:AA} {pv:Value} {nm:ByteArray} {s:AN} (hp:CO lo h pv nm s) (hl:lo'≤lo):CO lo' h pv nm s:=by
 obtain⟨vr,vq,vv,vt,vu,vo,h1,h2,h3,h4,h5,h6,h7⟩:=hp
 exact⟨vr,vq,vv,vt,vu,vo,h1,HJ.of (h2.2.weak hl),h3.weak hl,h4.weak hl,h5.weak hl,h6.weak hl,h7.weak hl⟩
def LS (lo:Nat) (h:AA) (pv:Value) (nm:ByteArray) (s:AN):Prop:=
 ∃ tag r vq vv vt vu vo,pv=.agg #[.string nm,qS r s.rows.length AO,vq,vv,vt,vu,vo,iv s.miss]∧J0 h lo tag r s.rows.length vq vv vt vu vo s
theorem E3.weak {h:AA} {lo lo':Nat} {tag:Nat→Nat} {j:Nat} {v:Value} {n:Nat} {cs:List Value} {ty:TypeId} (hs:E3 h lo tag j v n cs ty) (hl:lo'≤lo):E3 h lo' tag j v n cs ty:=by
 rcases hs with h1 | ⟨id,ex,h1,h2,h3,h4,h5⟩
 ·exact .inl h1
 ·exact .inr ⟨id,ex,h1,h2,by omega,h4,h5⟩
theorem J0.weak {h:AA} {lo lo':Nat} {tag:Nat→Nat} {r n:Nat} {vq vv vt vu vo:Value} {s:AN} (hp:J0 h lo tag r n vq vv vt vu vo s) (hl:lo'≤lo):J0 h lo' tag r n vq vv vt vu vo s:=
 ⟨hp.rows,hp.len,hp.tr,⟨by have:=hp.lr.1;omega,hp.lr.2⟩,hp.q.weak hl,hp.v.weak hl,hp.t.weak hl,hp.u.weak hl,hp.o.weak hl⟩
theorem LS.weak {lo lo':Nat} {h:AA} {pv:Value} {nm:ByteArray} {s:AN} (hp:LS lo h pv nm s) (hl:lo'≤lo):LS lo' h pv nm s:=by
 obtain⟨tag,r,vq,vv,vt,vu,vo,h1,h2⟩:=hp
 exact⟨tag,r,vq,vv,vt,vu,vo,h1,h2.weak hl⟩
theorem LS.mono {lo:Nat} {h h':AA} {pv:Value} {nm:ByteArray} {s:AN} (hp:LS lo h pv nm s) (hn:h.next≤h'.next) (hg:∀ i,lo≤i→i<h.next→h'.get i=h.get i):LS lo h' pv nm s:=by
 obtain⟨tag,r,vq,vv,vt,vu,vo,h1,h2⟩:=hp
 exact⟨tag,r,vq,vv,vt,vu,vo,h1,h2.mono hn (fun _ _=>rfl) fun i a b _ _=>hg i a b⟩
theorem LS.pol {lo:Nat} {h:AA} {pv:Value} {nm:ByteArray} {s:AN} (hp:LS lo h pv nm s):CO lo h pv nm s:=by
 obtain⟨tag,r,vq,vv,vt,vu,vo,h1,h2⟩:=hp
 exact⟨_,vq,vv,vt,vu,vo,h1,HJ.of (AP.row (ex:=[]) (by rw[List.append_nil];exact h2.rows) h2.lr (J2 _)),h2.q.cells (N_ _),h2.v.cells (by simp[C7]),h2.t.cells (by simp[C7]),h2.u.cells (by rw[F9,Nat.mul_one]),h2.o.cells (by rw[F9,Nat.mul_one])⟩
theorem BH.own {h:AA} {lo m k c e r n:Nat} {nm:ByteArray} {E:List Int} {tag:Nat→Nat} {vq vv vt vu vo:Value} {es:List (Value × Value)} {s:AN} (hp:BH h lo m k c e r n nm E tag vq vv vt vu vo es s) :
  LS lo h (.agg #[.string nm,qS r n AO,vq,vv,vt,vu,vo,iv s.miss]) nm s:=by
 have hl:=hp.pol.len
 subst hl
 exact⟨tag,r,vq,vv,vt,vu,vo,rfl,hp.pol⟩
theorem wG {l:List AB} {T:Tr} {H:AA} {K:CG} {a lo m k c e r c5 c6:Nat} {nm:ByteArray} {F:List Nat} {s:AN} (ht:CE l) (hL:l.length<2932031007403) (hn:l.length+100<n)
  (t2:T.get 2=qP a 0) (t3:T.get 3=qP (a+1) 0) (t5:T.get 5=qP c5 0) (t6:T.get 6=qP c6 0)
  (hp:EC H lo m k c e r l.length nm (BL l) F s) (hin:HG l l.length s) (h5:H.get c5=.row [qP m 0] 65 false false) (h6:H.get c6=.row [qS e l.length l.length] 27 false false) (ha:a+1<lo) (hlo:lo≤H.next) (hout:HF a H CN 0 0) (hfa:H.floor≤a)
  (hbad:J4 s.rows (BL l) s.rules≥0→∀ T' H',T'.get 2=qP a 0→T'.get 3=qP (a+1) 0→HF a H' CN 34 (J4 s.rows (BL l) s.rules)→H.next≤H'.next→H'.floor=H.floor→(∀ i,i<a→H'.get i=H.get i)→K.ap Tryd.prog (AS n) N .ret ⟨T',H'⟩)
  (hgood:¬ J4 s.rows (BL l) s.rules≥0→∀ T' H' cs,T'.get 2=qP a 0→T'.get 3=qP (a+1) 0→cs.length=8→HF a H' cs 0 0→LS lo H' (.agg cs.toArray) nm s→H.next≤H'.next→H'.floor=H.floor→(∀ i,i<a→H'.get i=H.get i)→K.ap Tryd.prog (AS n) N .ret ⟨T',H'⟩) :
  WK Tryd.prog (AS n) N VR ⟨T,H⟩ K:=by
 show WK _ _ _ (.seq (.seq _ (.seq _ _)) (.seq _ _)) _ _
 obtain⟨tag,vq,vv,vt,vu,vo,es,hp',_⟩:=id hp
 have hlg:=Bp (n:=n) hp' ht hL hin (by omega) hn
 have l5:AJ 0 (H.get c5)=some (qP m 0):=by rw[h5];rfl
 have l6:AJ 0 (H.get c6)=some (qS e l.length l.length):=by rw[h6];rfl
 cases d:decide (J4 s.rows (BL l) s.rules≥0) with
 | true=>
  obtain⟨H',s1,s2,r1,r2,r3,r4⟩:=SM hout rfl (by omega) (by omega) (cs':=CN) rfl rfl (e':=34) (p':=J4 s.rows (BL l) s.rules)
  simp only[eE,seval,↓eP,S7,DV,t2,t3,t5,t6,l5,l6,hlg,d,Z6,I_,s1,s2]
  refine hbad (by simpa using d) _ _ ?_ ?_ r1 (by omega) r3 fun i hi=>r4 i (by omega) (by omega)
  ·simp only[eE,seval,↓eP,rP,t2]
  ·simp only[eE,seval,↓eP,rP,t3]
 | false=>
  have l8:BF 8 0 (H.get m)=some (.agg #[.string nm,qS r l.length AO,vq,vv,vt,vu,vo,iv s.miss]):=by rw[hp'.cell];rfl
  have hpol:=hp'.own
  have hall:([.string nm,qS r l.length AO,vq,vv,vt,vu,vo,iv s.miss]:List Value).all one=true:=by
   have q1:=(hp'.pol.q.cells (w:=2) (N_ _)).one
   have q2:=(hp'.pol.v.cells (w:=1) (by simp[C7])).one
   have q3:=(hp'.pol.t.cells (w:=1) (by simp[C7])).one
   have q4:=(hp'.pol.u.cells (w:=1) (by rw[F9,Nat.mul_one])).one
   have q5:=(hp'.pol.o.cells (w:=1) (by rw[F9,Nat.mul_one])).one
   simp only[List.all_cons,List.all_nil,q1,q2,q3,q4,q5,QB,KH,Bool.and_self]
   rfl
  obtain⟨H',s1,s2,r1,r2,r3,r4⟩:=SM hout rfl (by omega) (by omega) (cs':=[.string nm,qS r l.length AO,vq,vv,vt,vu,vo,iv s.miss]) rfl hall (e':=0) (p':=0)
  simp only[eE,seval,↓eP,S7,DV,t2,t3,t5,t6,l5,l6,hlg,d,IH,EM,l8,MA,s1,s2]
  refine hgood (by simpa using d) _ _ _ ?_ ?_ rfl r1 (hpol.mono (by omega) fun i hi _=>r4 i (by omega) (by omega)) (by omega) r3 fun i hi=>r4 i (by omega) (by omega)
  ·simp only[eE,seval,↓eP,rP,t2]
  ·simp only[eE,seval,↓eP,rP,t3]
end
theorem MS {a:Nat} {H:AA} {cs:List Value} {ty:TypeId} {g ro:Bool} (h:H.get a=.row cs ty g ro) (hl:cs.length=8):BF 8 0 (H.get a)=some (.agg cs.toArray):=by
 rw[h]
 have:cs.take 8=cs:=List.take_of_length_le (by omega)
 simp only[BF,F1,List.drop_zero,this,hl,if_true]
theorem fS {l:List AB} (h:(CQ l).1=0):IJ AT l=none:=by
 unfold CQ at h
 cases hs:IJ AT l with
 | none=>rfl
 | some p=>
  rw[hs] at h
  simp at h
def WF (h:AA) (l:List AB) (v:Value) (h':AA):Prop:=
 ∃ pv,v=.tuple #[pv,CD (BZ l).1.1 (BZ l).1.2]∧CO h.next h' pv (DR l).1 (DR l).2∧h'.floor=h.floor∧h.next≤h'.next∧∀ i,i<h.next→h'.get i=h.get i
theorem AP.flat {lo:Nat} {h:AA} {v:Value} {n w:Nat} {cs:List Value} (hc:AP lo h v n w cs) (hf:BI v=true) (lo':Nat) (h':AA):AP lo' h' v n w cs:=by
 obtain⟨hl,a,c,rfl,⟨h0,rfl⟩ | ⟨id,off,row,ty,g,ro,rfl,g1,g2,g3⟩⟩:=hc
 ·exact⟨hl,_,_,rfl,.inl ⟨h0,rfl⟩⟩
 ·cases hf
def TK (lo:Nat) (h:AA) (pv:Value) (nm:ByteArray) (s:AN):Prop:=(pv=QC∧nm=ByteArray.empty∧s=sZ)∨LS lo h pv nm s
theorem TK.pol {lo:Nat} {h:AA} {pv:Value} {nm:ByteArray} {s:AN} (hp:TK lo h pv nm s):CO lo h pv nm s:=by
 rcases hp with⟨rfl,rfl,rfl⟩ | hp
 ·exact vX lo h
 ·exact hp.pol
def OB (h:AA) (l:List AB) (v:Value) (h':AA):Prop:=
 ∃ pv,v=.tuple #[pv,CD (BZ l).1.1 (BZ l).1.2]∧TK h.next h' pv (DR l).1 (DR l).2∧h'.floor=h.floor∧h.next≤h'.next∧∀ i,i<h.next→h'.get i=h.get i
theorem OB.told {h h':AA} {l:List AB} {v:Value} (ht:OB h l v h'):WF h l v h':=by
 obtain⟨pv,h1,h2,h3⟩:=ht
 exact⟨pv,h1,h2.pol,h3⟩
theorem Cr {h h1:AA} {l:List AB} {v:Value} (hf:EF v=true) (ht:OB h l v h1):OB h l v h:=by
 obtain⟨pv,rfl,h2,_⟩:=ht
 refine⟨pv,rfl,?_,rfl,Nat.le_refl _,fun _ _=>rfl⟩
 rcases h2 with h2 | ⟨tag,r,vq,vv,vt,vu,vo,rfl,_⟩
 ·exact .inl h2
 ·have hf':flat (.agg #[.string (DR l).1,qS r (DR l).2.rows.length AO,vq,vv,vt,vu,vo,iv (DR l).2.miss])=true:=by
   simp only[EF,List.all_toArray,List.all_cons,Bool.and_eq_true] at hf
   exact hf.1
  simp only[flat,List.all_cons,Bool.and_eq_true] at hf'
  exact absurd hf'.2.1 (by simp[BI])
section
variable {n N:Nat}
theorem Fl {l:List AB} {v:Value} {h:AA} (hfl:h.floor≤h.next) (hg:h.get 0=CW) (hn0:0<h.next) (hv:A7 h v l) (hL:l.length<2932031007403) (hn:2*l.length+100<n) (hN:l.length+3<N) :
  ∃ v' h',A8 Tryd.prog (AS n) N 13 [v] h=some (v',h')∧OB h l v' h':=by
 refine S3 (R:=OB h l) Tryd.func13 rfl (by simp[Tryd.f13]) ?_
 have hr:Tryd.f13.results.toList=[.cell 2 33,.cell 3 36]:=rfl
 generalize hKK:CG.top (fun e s=>(e=D7.normal∨e=D7.ret)∧∃ vs,FH Tryd.prog s Tryd.f13.results.toList=some vs∧OB h l (HV vs) s.h)=K
 have fin:∀ (T':Tr) (H':AA) cs e p nm s,T'.get 2=qP h.next 0→T'.get 3=qP (h.next+1) 0→cs.length=8→HF h.next H' cs e p→TK h.next H' (.agg cs.toArray) nm s→(BZ l).1=(e,p)→DR l=(nm,s)→h.next≤H'.next→H'.floor=h.floor→(∀ i,i<h.next→H'.get i=h.get i)→K.ap Tryd.prog (AS n) N .ret ⟨T',H'⟩:=by
  intro T' H' cs e p nm s t2 t3 hl ho hp he hout hnx hf hold
  have l30:=MS ho.1 hl
  have l33:BF 2 0 (H'.get (h.next+1))=some (CD e p):=by rw[ho.2];rfl
  rw[← hKK]
  simp only[eE,seval,↓eP,hr,t2,t3,EM,EB,l30,l33]
  exact⟨_,by rw[he],by rw[hout];exact hp,hf,hnx,hold⟩
 have hz:∀ H',TK h.next H' QC ByteArray.empty sZ:=fun H'=>.inl ⟨rfl,rfl,rfl⟩
 refine zP (FD n).2 hfl hv hg hn0 (fun H hv' hg' hn' hfl'=>Fw (by omega) (by omega) hv' hg' hn' hfl') ?_ ?_
 ·intro hc T' H t2 t3 ho hnx hf hold
  refine fin T' H _ _ _ ByteArray.empty sZ t2 t3 rfl ho (hz H) ?_ ?_ (by omega) hf hold
  ·unfold BZ
   rw[if_pos hc]
  ·unfold DR
   have:(BZ l).1.1≠0:=by unfold BZ;rw[if_pos hc];exact hc
   rw[if_pos this]
 ·intro hc T' H t0 t2 t3 ho hnx hf hold
  have ht:=pH (fS hc)
  have hvH:A7 H v l:=hv.mono (by omega) hold
  have hcw:=fun H' (hv':A7 H' v l)=>PX (n:=n-1) (BT (f:=28) (args:=[v]) (h:=H') ⟨rfl,rfl,rfl⟩) rfl (oC (call:=AS (n-1)) (N:=n-1) hv' ht.pos (by omega))
  rw[show n-1+1=n by omega] at hcw
  refine wK (FD n).2 ht hL (by omega) hvH t0 hcw (fun H' hv' hf'=>Bm ht hv' (by omega) (by omega) hf') ?_
  intro T1 H1 m k c e r c5 c6 fl u0 u2 u3 u5 u6 u7 hp hcl hnx1 hf1 hold1
  have ho1:HF h.next H1 CN 0 0:=ho.mono (hold1 _ (by omega)) (hold1 _ (by omega))
  refine Iy (a:=h.next) ht hL (by omega) hN u0 (u2.trans t2) (u3.trans t3) u7 (hvH.mono hnx1 hold1) hp hcl (by simp) (by simp) (by simp) (by omega) (by omega) ho1 (by omega) ?_ ?_
  ·intro hgo T2 H2 w2 w3 ho2 hnx2 hf2 hold2
   refine fin T2 H2 _ _ _ ByteArray.empty sZ w2 w3 rfl ho2 (hz H2) ?_ ?_ (by omega) (by omega) fun i hi=>by rw[hold2 i hi,hold1 i (by omega),hold i hi]
   ·unfold BZ
    rw[if_neg (by rw[hc];simp)]
    simp only
    rw[if_pos hgo]
   ·unfold DR
    have:(BZ l).1.1≠0:=by
     unfold BZ
     rw[if_neg (by rw[hc];simp)]
     simp only
     rw[if_pos hgo]
     exact hgo
    rw[if_pos this]
  ·intro hgo T2 H2 hk2 hp2 hin2 haf
   have g5:=(haf.1 c5 (.inr (by simp))).trans hcl.h5
   have g6:=(haf.1 c6 (.inr (by simp))).trans hcl.h6
   have ho2:HF h.next H2 CN 0 0:=ho1.mono (haf.1 _ (.inl (by omega))) (haf.1 _ (.inl (by omega)))
   have hf2:=haf.2.2
   have hn2:=haf.2.1
   refine wG (a:=h.next) ht hL (by omega) ((hk2 2 (by omega)).trans (u2.trans t2)) ((hk2 3 (by omega)).trans (u3.trans t3)) ((hk2 5 (by omega)).trans u5) ((hk2 6 (by omega)).trans u6) hp2 hin2 g5 g6 (by omega) (by omega) ho2 (by omega) ?_ ?_
   ·intro hlg T3 H3 x2 x3 ho3 hnx3 hf3 hold3
    have hres:(BZ l).1=(34,J4 (DW (BL l) l.length 0 (CI l)).2.2.rows (BL l) (DW (BL l) l.length 0 (CI l)).2.2.rules):=by
     unfold BZ
     rw[if_neg (by rw[hc];simp)]
     simp only
     rw[if_neg (by rw[hgo];simp),if_pos hlg]
    refine fin T3 H3 _ _ _ ByteArray.empty sZ x2 x3 rfl ho3 (hz H3) hres ?_ (by omega) (by omega) fun i hi=>by rw[hold3 i hi,haf.1 i (.inl (by omega)),hold1 i (by omega),hold i hi]
    unfold DR
    rw[if_pos (by rw[hres];simp)]
   ·intro hlg T3 H3 cs x2 x3 hcs ho3 hpol hnx3 hf3 hold3
    have hres:BZ l=((0,0),(DW (BL l) l.length 0 (CI l)).2.2):=by
     unfold BZ
     rw[if_neg (by rw[hc];simp)]
     simp only
     rw[if_neg (by rw[hgo];simp),if_neg hlg]
    refine fin T3 H3 cs _ _ (L4 l) (DW (BL l) l.length 0 (CI l)).2.2 x2 x3 hcs ho3 (.inr (hpol.weak (by omega))) (by rw[hres]) ?_ (by omega) (by omega) fun i hi=>by rw[hold3 i hi,haf.1 i (.inl (by omega)),hold1 i (by omega),hold i hi]
    unfold DR
    rw[hres]
    simp
theorem Bo {l:List AB} {v:Value} {h:AA} (hfl:h.floor≤h.next) (hg:h.get 0=CW) (hn0:0<h.next) (hv:A7 h v l) (hL:l.length<2932031007403) (hn:2*l.length+110<n) :
  ∃ v' h',AS n 13 [v] h=some (v',h')∧OB h l v' h':=by
 obtain⟨n,rfl⟩:=C_ hn
 exact PN (BT ⟨rfl,rfl,rfl⟩) (Fl (n:=n) (N:=n) hfl hg hn0 hv hL (by omega) (by omega)) fun v' h1 hf _ ht=>Cr hf ht
theorem kX {l:List AB} {v:Value} {h:AA} (hfl:h.floor≤h.next) (hg:h.get 0=CW) (hn0:0<h.next) (hv:A7 h v l) (hL:l.length<2932031007403) (hn:2*l.length+110<n) :
  ∃ v' h',AS n 13 [v] h=some (v',h')∧WF h l v' h':=by
 obtain⟨v',h',h1,h2⟩:=Bo (n:=n) hfl hg hn0 hv hL hn
 exact⟨v',h',h1,h2.told⟩
end
theorem Q0.trans {h H H':AA} {lo:Nat} (a:Q0 h H lo) (b:Q0 H H' lo):Q0 h H' lo:=⟨fun i hi=>(b.1 i hi).trans (a.1 i hi),Nat.le_trans a.2.1 b.2.1,b.2.2.trans a.2.2⟩
theorem Q0.refl (h:AA) (lo:Nat):Q0 h h lo:=⟨fun _ _=>rfl,Nat.le_refl _,rfl⟩
section
variable {n N:Nat}
end
def FA (x:Int):Int:=if x < -1073741824 then -1073741824 else if x>1073741824 then 1073741824 else x
def OW (a b:Int):Int:=if Int.tmod a b≠0∧(decide (Int.tmod a b<0) != decide (b<0))=true then Int.tdiv a b-1 else Int.tdiv a b
def J7 (a b:Int):Int:=if b=0 then 0 else FA (OW a b)
def I9 (x:Int):Prop:=-9223372036854775808≤x∧x<9223372036854775808
theorem i9 (x:Int):-1073741824≤FA x∧FA x≤1073741824:=by unfold FA;(repeat' split) <;> omega
theorem TL (a b:Int) (hb:b≠0):∃ p,p=b*a.tdiv b∧a=p+a.tmod b∧(0≤a→0≤a.tmod b)∧(a≤0→a.tmod b≤0)∧(a.tmod b).natAbs<b.natAbs∧(a.tdiv b).natAbs≤a.natAbs∧(2≤b.natAbs→2*(a.tdiv b).natAbs≤a.natAbs)∧(b=1→a.tdiv b=a)∧(b=-1→a.tdiv b=-a)∧(a.tmod b).natAbs≤a.natAbs:=by
 refine⟨b*a.tdiv b,rfl,?_,?_,?_,?_,?_,?_,?_,?_,?_⟩
 ·have:=Int.tmod_add_mul_tdiv a b
  omega
 ·exact fun h=>Int.tmod_nonneg b h
 ·intro h
  have h1:=Int.tmod_nonneg (a:=-a) b (by omega)
  rw[Int.neg_tmod] at h1
  omega
 ·rw[Int.natAbs_tmod]
  exact Nat.mod_lt _ (by omega)
 ·rw[Int.natAbs_tdiv]
  exact Nat.div_le_self _ _
 ·intro h
  rw[Int.natAbs_tdiv]
  have h1:a.natAbs/b.natAbs≤a.natAbs/2:=Nat.div_le_div_left h (by omega)
  have h2:Nat.div a.natAbs b.natAbs=a.natAbs/b.natAbs:=rfl
  omega
 ·rintro rfl;exact Int.tdiv_one a
 ·rintro rfl;rw[Int.tdiv_neg,Int.tdiv_one]
 ·rw[Int.natAbs_tmod];exact Nat.mod_le _ _
section
variable {call:AM} {n:Nat} {h:AA}
theorem De {x:Int}:A8 Tryd.prog call n 9 [.int .i64 x] h=some (.int .i64 (FA x),h):=by
 refine DA Tryd.func9 rfl (by simp[Tryd.f9]) ?_
 have hr:Tryd.f9.results.toList=[.tmp 2]:=rfl
 simp only[eE,seval,hr]
 unfold FA
 (repeat' split) <;> omega
theorem pS {a b:Int} (ha:I9 a) (hb:I9 b) (h0:b≠0) (hx:¬ (b=-1∧a < -1073741824)):I9 (Int.tdiv a b)∧I9 (Int.tmod a b)∧(Int.tmod a b≠0→I9 (Int.tdiv a b-1)):=by
 obtain⟨p,hp,h1,h2,h3,h4,h5,h6,h7,h8,h9⟩:=TL a b h0
 unfold I9 at *
 generalize Int.tdiv a b=q at *
 generalize Int.tmod a b=r at *
 refine⟨?_,?_,?_⟩
 ·by_cases e:b=1
  ·have:=h7 e;omega
  ·by_cases e':b=-1
   ·have:=h8 e';omega
   ·have:=h6 (by omega);omega
 ·omega
 ·intro hr
  have:=h6 (by omega)
  omega
theorem ZE {a b:Int}:(Int.tmod a b=0→OW a b=Int.tdiv a b)∧(Int.tmod a b≠0→OW a b=if (decide (Int.tmod a b<0) != decide (b<0))=true then Int.tdiv a b-1 else Int.tdiv a b):=by
 unfold OW
 exact⟨fun h=>by rw[if_neg (fun hh=>hh.1 h)],fun h=>by simp only[h,ne_eq,not_false_eq_true,true_and]⟩
theorem qZ (hc:∀ x h,call 9 [.int .i64 x] h=some (.int .i64 (FA x),h)) {a b:Int} (ha:I9 a) (hb:I9 b):A8 Tryd.prog call n 11 [.int .i64 a,.int .i64 b] h=some (.int .i64 (J7 a b),h):=by
 refine DA Tryd.func11 rfl (by simp[Tryd.f11]) ?_
 have hr:Tryd.f11.results.toList=[.tmp 4]:=rfl
 by_cases h0:b=0
 ·subst h0
  simp only[eE,seval,↓eP,hr]
  rfl
 have e0:(b==0)=false:=by simpa using h0
 have hD:J7 a b=FA (OW a b):=by unfold J7;rw[if_neg h0]
 by_cases hx:b=-1∧a < -1073741824
 ·obtain⟨rfl,hx⟩:=hx
  have ex:decide (a < -1073741824)=true:=by simpa using hx
  simp only[eE,seval,↓eP,hr,e0,ex]
  rw[hD]
  obtain⟨p,hp,h1,h2,h3,h4,h5,h6,h7,h8,h9⟩:=TL a (-1) h0
  have:=h8 rfl
  unfold OW
  rw[if_neg (by omega),this]
  unfold FA
  rw[if_neg (by omega),if_pos (by omega)]
 ·obtain⟨r1,r2,r3⟩:=pS ha hb h0 hx
  obtain⟨f1,f2⟩:=ZE (a:=a) (b:=b)
  rw[hD]
  by_cases hm:Int.tmod a b=0
  ·have em:(Int.tmod a b != 0)=false:=by simpa using hm
   rw[f1 hm]
   by_cases e1:b=-1
   ·have ex:decide (a < -1073741824)=false:=by simp;omega
    subst e1
    simp only[eE,seval,↓eP,hr,e0,ex]
    refine WK.quiet (by kernel_rfl) ?_
    simp only[eE,seval,↓eP,P7 h0,VC h0,em,hc]
    rw[C9 r1.1 r1.2]
   ·have ex:(b == -1)=false:=by simpa using e1
    simp only[eE,seval,↓eP,hr,e0,ex]
    refine WK.quiet (by kernel_rfl) ?_
    simp only[eE,seval,↓eP,P7 h0,VC h0,em,hc]
    rw[C9 r1.1 r1.2]
  ·have em:(Int.tmod a b != 0)=true:=by simpa using hm
   rw[f2 hm]
   have r4:=r3 hm
   have e1:b≠-1:=by
    rintro rfl
    obtain⟨p,hp,h1,h2,h3,h4,h5,h6,h7,h8,h9⟩:=TL a (-1) h0
    omega
   have ex:(b == -1)=false:=by simpa using e1
   simp only[eE,seval,↓eP,hr,e0,ex]
   refine WK.quiet (by kernel_rfl) ?_
   cases hs:(decide (Int.tmod a b<0) != decide (b<0)) with
   | true=>
    simp only[eE,seval,↓eP,P7 h0,VC h0,em,hc,TJ Tryd.underlying4,hs]
    rw[C9 r1.1 r1.2,C9 r4.1 r4.2]
   | false=>
    simp only[eE,seval,↓eP,P7 h0,VC h0,em,hc,TJ Tryd.underlying4,hs]
    rw[C9 r1.1 r1.2]
end
section
variable {n:Nat} {h:AA}
theorem ZV {x:Int} (hn:0<n):AS n 9 [.int .i64 x] h=some (.int .i64 (FA x),h):=by
 obtain⟨n,rfl⟩:=C_ hn
 exact EE (BT ⟨rfl,rfl,rfl⟩) rfl De
theorem Fx {a b:Int} (ha:I9 a) (hb:I9 b) (hn:1<n):AS n 11 [.int .i64 a,.int .i64 b] h=some (.int .i64 (J7 a b),h):=by
 obtain⟨n,rfl⟩:=C_ hn
 exact EE (BT ⟨rfl,rfl,rfl⟩) rfl (qZ (fun _ _=>ZV (by omega)) ha hb)
end
end Go.Proofs.YtdejoodfeljmkaaDoor
