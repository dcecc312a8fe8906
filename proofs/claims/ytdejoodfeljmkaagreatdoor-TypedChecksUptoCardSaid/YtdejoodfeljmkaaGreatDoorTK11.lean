/- Part 11 of what the claim leans on: 1 texts laid one behind another. -/
import Derived.Test.YtdejoodfeljmkaaGreatDoorTK10
namespace Go.Proofs.YtdejoodfeljmkaaGreatDoor
open Go Go.Sx
set_option maxRecDepth 100000
set_option linter.unusedSimpArgs false
set_option linter.unusedVariables false
set_option maxHeartbeats 64000000
def FX (x:Int):Int:=if x < -1073741824 then -1073741824 else if x>1073741824 then 1073741824 else x
def PY (a b:Int):Int:=if Int.tmod a b≠0∧(decide (Int.tmod a b<0) != decide (b<0))=true then Int.tdiv a b-1 else Int.tdiv a b
def LP (a b:Int):Int:=if b=0 then 0 else FX (PY a b)
def KX (x:Int):Prop:=-9223372036854775808≤x∧x<9223372036854775808
theorem wY (x:Int):-1073741824≤FX x∧FX x≤1073741824:=by unfold FX;(repeat' split) <;> omega
theorem XU {x:Int} (h:-1073741824≤x∧x≤1073741824):FX x=x:=by unfold FX;(repeat' split) <;> omega
theorem V9 (a b:Int) (hb:b≠0):∃ p,p=b*a.tdiv b∧a=p+a.tmod b∧(0≤a→0≤a.tmod b)∧(a≤0→a.tmod b≤0)∧(a.tmod b).natAbs<b.natAbs∧(a.tdiv b).natAbs≤a.natAbs∧(2≤b.natAbs→2*(a.tdiv b).natAbs≤a.natAbs)∧(b=1→a.tdiv b=a)∧(b=-1→a.tdiv b=-a)∧(a.tmod b).natAbs≤a.natAbs:=by
 refine⟨b*a.tdiv b,rfl,?_,?_,?_,?_,?_,?_,?_,?_,?_⟩
 ·have:=Int.tmod_add_mul_tdiv a b
  omega
 ·exact fun h=>Int.tmod_nonneg b h
 ·intro h
  have h1:=Int.tmod_nonneg (a:=-a) b (by omega)
  rw[Int.neg_tmod] at h1
  omega
 ·rw[Int.natAbs_tmod]
  exact Nat.mod_lt _ (by omega)
 ·rw[Int.natAbs_tdiv]
  exact Nat.div_le_self _ _
 ·intro h
  rw[Int.natAbs_tdiv]
  have h1:a.natAbs/b.natAbs≤a.natAbs/2:=Nat.div_le_div_left h (by omega)
  have h2:Nat.div a.natAbs b.natAbs=a.natAbs/b.natAbs:=rfl
  omega
 ·rintro rfl;exact Int.tdiv_one a
 ·rintro rfl;rw[Int.tdiv_neg,Int.tdiv_one]
 ·rw[Int.natAbs_tmod];exact Nat.mod_le _ _
section
variable {call:AS} {n:Nat} {h:AA}
theorem Qn {x:Int}:AY Tryz.prog call n 25 [.int .i64 x] h=some (.int .i64 (FX x),h):=by
 refine CO Tryz.func25 rfl (by simp[Tryz.f25]) ?_
 have hr:Tryz.f25.results.toList=[.tmp 2]:=rfl
 simp only[eE,seval,hr]
 unfold FX
 (repeat' split) <;> omega
theorem Pd {x:Int}:AY Tryz.prog call n 106 [.int .i64 x] h=some (.int .i64 (FX x),h):=by
 refine CO Tryz.func106 rfl (by simp[Tryz.f106]) ?_
 have hr:Tryz.f106.results.toList=[.tmp 2]:=rfl
 simp only[eE,seval,hr]
 unfold FX
 (repeat' split) <;> omega
theorem kU {a b:Int} (ha:KX a) (hb:KX b) (h0:b≠0) (hx:¬ (b=-1∧a < -1073741824)):KX (Int.tdiv a b)∧KX (Int.tmod a b)∧(Int.tmod a b≠0→KX (Int.tdiv a b-1)):=by
 obtain⟨p,hp,h1,h2,h3,h4,h5,h6,h7,h8,h9⟩:=V9 a b h0
 unfold KX at *
 generalize Int.tdiv a b=q at *
 generalize Int.tmod a b=r at *
 refine⟨?_,?_,?_⟩
 ·by_cases e:b=1
  ·have:=h7 e;omega
  ·by_cases e':b=-1
   ·have:=h8 e';omega
   ·have:=h6 (by omega);omega
 ·omega
 ·intro hr
  have:=h6 (by omega)
  omega
theorem jI {a b:Int}:(Int.tmod a b=0→PY a b=Int.tdiv a b)∧(Int.tmod a b≠0→PY a b=if (decide (Int.tmod a b<0) != decide (b<0))=true then Int.tdiv a b-1 else Int.tdiv a b):=by
 unfold PY
 exact⟨fun h=>by rw[if_neg (fun hh=>hh.1 h)],fun h=>by simp only[h,ne_eq,not_false_eq_true,true_and]⟩
theorem Jw (hc:∀ x h,call 25 [.int .i64 x] h=some (.int .i64 (FX x),h)) {a b:Int} (ha:KX a) (hb:KX b):AY Tryz.prog call n 24 [.int .i64 a,.int .i64 b] h=some (.int .i64 (LP a b),h):=by
 refine CO Tryz.func24 rfl (by simp[Tryz.f24]) ?_
 have hr:Tryz.f24.results.toList=[.tmp 4]:=rfl
 by_cases h0:b=0
 ·subst h0
  simp only[eE,seval,↓eP,hr]
  rfl
 have e0:(b==0)=false:=by simpa using h0
 have hD:LP a b=FX (PY a b):=by unfold LP;rw[if_neg h0]
 by_cases hx:b=-1∧a < -1073741824
 ·obtain⟨rfl,hx⟩:=hx
  have ex:decide (a < -1073741824)=true:=by simpa using hx
  simp only[eE,seval,↓eP,hr,e0,ex]
  rw[hD]
  obtain⟨p,hp,h1,h2,h3,h4,h5,h6,h7,h8,h9⟩:=V9 a (-1) h0
  have:=h8 rfl
  unfold PY
  rw[if_neg (by omega),this]
  unfold FX
  rw[if_neg (by omega),if_pos (by omega)]
 ·obtain⟨r1,r2,r3⟩:=kU ha hb h0 hx
  obtain⟨f1,f2⟩:=jI (a:=a) (b:=b)
  rw[hD]
  by_cases hm:Int.tmod a b=0
  ·have em:(Int.tmod a b != 0)=false:=by simpa using hm
   rw[f1 hm]
   by_cases e1:b=-1
   ·have ex:decide (a < -1073741824)=false:=by simp;omega
    subst e1
    simp only[eE,seval,↓eP,hr,e0,ex]
    refine WK.quiet (by kernel_rfl) ?_
    simp only[eE,seval,↓eP,QW h0,ZK h0,em,hc]
    rw[BT r1.1 r1.2]
   ·have ex:(b == -1)=false:=by simpa using e1
    simp only[eE,seval,↓eP,hr,e0,ex]
    refine WK.quiet (by kernel_rfl) ?_
    simp only[eE,seval,↓eP,QW h0,ZK h0,em,hc]
    rw[BT r1.1 r1.2]
  ·have em:(Int.tmod a b != 0)=true:=by simpa using hm
   rw[f2 hm]
   have r4:=r3 hm
   have e1:b≠-1:=by
    rintro rfl
    obtain⟨p,hp,h1,h2,h3,h4,h5,h6,h7,h8,h9⟩:=V9 a (-1) h0
    omega
   have ex:(b == -1)=false:=by simpa using e1
   simp only[eE,seval,↓eP,hr,e0,ex]
   refine WK.quiet (by kernel_rfl) ?_
   cases hs:(decide (Int.tmod a b<0) != decide (b<0)) with
   | true=>
    simp only[eE,seval,↓eP,QW h0,ZK h0,em,hc,UO Tryz.underlying4,hs]
    rw[BT r1.1 r1.2,BT r4.1 r4.2]
   | false=>
    simp only[eE,seval,↓eP,QW h0,ZK h0,em,hc,UO Tryz.underlying4,hs]
    rw[BT r1.1 r1.2]
theorem yQ (hc:∀ x h,call 106 [.int .i64 x] h=some (.int .i64 (FX x),h)) {a b:Int} (ha:KX a) (hb:KX b):AY Tryz.prog call n 107 [.int .i64 a,.int .i64 b] h=some (.int .i64 (LP a b),h):=by
 refine CO Tryz.func107 rfl (by simp[Tryz.f107]) ?_
 have hr:Tryz.f107.results.toList=[.tmp 4]:=rfl
 by_cases h0:b=0
 ·subst h0
  simp only[eE,seval,↓eP,hr]
  rfl
 have e0:(b==0)=false:=by simpa using h0
 have hD:LP a b=FX (PY a b):=by unfold LP;rw[if_neg h0]
 rw[hD]
 by_cases e1:b=-1
 ·subst e1
  obtain⟨p,hp,h1,h2,h3,h4,h5,h6,h7,h8,h9⟩:=V9 a (-1) h0
  have hq:=h8 rfl
  have hf:PY a (-1)=-a:=by rw[jI.1 (by omega),hq]
  rw[hf]
  by_cases hx:a=-9223372036854775808
  ·subst hx
   simp only[eE,seval,↓eP,hr,e0]
   rfl
  ·have ex:(a == -9223372036854775808)=false:=by simpa using hx
   simp only[eE,seval,↓eP,hr,e0,ex,hc]
   unfold KX at ha
   rw[BT (by omega) (by omega),Int.zero_sub]
 ·have ex:(b == -1)=false:=by simpa using e1
  obtain⟨r1,r2,r3⟩:=kU ha hb h0 (fun h=>e1 h.1)
  obtain⟨p,hp,h1,h2,h3,h4,h5,h6,h7,h8,h9⟩:=V9 a b h0
  obtain⟨f1,f2⟩:=jI (a:=a) (b:=b)
  have hqb:IntKind.i64.wrap (Int.tdiv a b)=Int.tdiv a b:=BT r1.1 r1.2
  have hp2:Int.tdiv a b*b=p:=by rw[hp,Int.mul_comm]
  have hpw:IntKind.i64.wrap p=p:=by
   unfold KX at ha
   exact BT (by omega) (by omega)
  have hrw:IntKind.i64.wrap (a-p)=Int.tmod a b:=by
   have e:a-p=Int.tmod a b:=by omega
   rw[e,BT r2.1 r2.2]
  by_cases hm:Int.tmod a b=0
  ·have em:(Int.tmod a b != 0)=false:=by simpa using hm
   rw[f1 hm]
   simp only[eE,seval,↓eP,hr,QW h0,e0,ex,hc,hqb,hp2,hpw,hrw,em]
  ·have em:(Int.tmod a b != 0)=true:=by simpa using hm
   rw[f2 hm]
   have r4:=r3 hm
   cases hs:(decide (Int.tmod a b<0) != decide (b<0)) with
   | true=>
    simp only[eE,seval,↓eP,hr,QW h0,e0,ex,hc,hqb,hp2,hpw,hrw,em,UO Tryz.underlying4,hs]
    rw[BT r4.1 r4.2]
   | false=>
    simp only[eE,seval,↓eP,hr,QW h0,e0,ex,hc,hqb,hp2,hpw,hrw,em,UO Tryz.underlying4,hs]
end
section
variable {n:Nat} {h:AA}
theorem bN {x:Int} (hn:0<n):AK n 25 [.int .i64 x] h=some (.int .i64 (FX x),h):=by
 obtain⟨n,rfl⟩:=B8 hn
 exact D4 (BD ⟨rfl,rfl,rfl⟩) rfl Qn
theorem rA {x:Int} (hn:0<n):AK n 106 [.int .i64 x] h=some (.int .i64 (FX x),h):=by
 obtain⟨n,rfl⟩:=B8 hn
 exact D4 (BD ⟨rfl,rfl,rfl⟩) rfl Pd
theorem Uy {a b:Int} (ha:KX a) (hb:KX b) (hn:1<n):AK n 24 [.int .i64 a,.int .i64 b] h=some (.int .i64 (LP a b),h):=by
 obtain⟨n,rfl⟩:=B8 hn
 exact D4 (BD ⟨rfl,rfl,rfl⟩) rfl (Jw (fun _ _=>bN (by omega)) ha hb)
theorem zZ {a b:Int} (ha:KX a) (hb:KX b) (hn:1<n):AK n 107 [.int .i64 a,.int .i64 b] h=some (.int .i64 (LP a b),h):=by
 obtain⟨n,rfl⟩:=B8 hn
 exact D4 (BD ⟨rfl,rfl,rfl⟩) rfl (yQ (fun _ _=>rA (by omega)) ha hb)
end
end Go.Proofs.YtdejoodfeljmkaaGreatDoor
