/- Part 7 of what the claim leans on: 3 texts laid one behind another. -/
import Derived.Test.YtdejoodfeljmkaaDoorTO6
import Derived.Test.YtdejoodfeljmkaaDoorRows
namespace Go.Proofs.YtdejoodfeljmkaaDoor
open Go Go.Sx
set_option maxRecDepth 100000
set_option maxHeartbeats 64000000
def G0:List (List UInt8):=[[112,111,108,105,99,121],[113,117,101,117,101],[114,101,115,105,100,101,110,116],[103,104,111,115,116],[118,97,114],[105,110],[116,97,103],[114,101,113,117,105,114,101],[114,117,108,101],[111,110],[104,105,116],[109,105,115,115],[105,102],[101,108,115,101],[108,111,111,112],[119,104,105,108,101],[115,101,116],[109,97,114,107],[105,110,115,101,114,116],[109,111,118,101],[102,111,114,103,101,116],[115,104,105,102,116],[101,118,105,99,116],[116,111],[100,114,111,112],[99,97,108,108],[112,97,115,115],[102,114,111,110,116],[98,97,99,107],[120],[116,114,117,101],[102,97,108,115,101],[108,101,110],[99,97,112],[115,105,122,101],[116,111,116,97,108],[101,109,112,116,121],[102,117,108,108],[97,116],[109,105,110],[109,97,120]]
def LJ:List Value:=G0.map fun z=>Value.string ⟨z.toArray⟩
theorem fV : Tryd.prog.globalNamed "winnow/lex.words" = some 0 := by kernel_rfl
theorem fO:(Tryd.prog.globals[0]?).map (·.type)=some 126:=by kernel_rfl
theorem YJ:Tryd.prog.cellsOf 126=41:=by kernel_rfl
theorem ZA:Tryd.prog.cellsOf 9=1:=by kernel_rfl
theorem X8:Tryd.prog.globals.size=1:=by kernel_rfl
def KA:AA:=⟨1,0,.node (.row LJ 9 false true) .leaf .leaf⟩
def tB:BC:=.row LJ 9 false true
def fS:I8:=⟨13,[(.slice (some ⟨1,0,none⟩) 6 6)],2,[(0,tB),(1,(.row [(.int .i64 1),(.string (bs [112])),(.int .i64 0),(.int .i64 0),(.int .i64 2),(.int .i64 2),(.string (bs [113])),(.int .i64 0),(.int .i64 0),(.int .i64 0),(.int .i64 4),(.string (bs [118])),(.int .i64 0),(.int .i64 0),(.int .i64 3),(.int .i64 27),(.string (bs [])),(.int .i64 0),(.int .i64 0),(.int .i64 0),(.int .i64 27),(.string (bs [])),(.int .i64 0),(.int .i64 0),(.int .i64 0),(.int .i64 32),(.string (bs [113])),(.int .i64 0),(.int .i64 0),(.int .i64 0)] 61 false true))],(.tuple #[(.agg #[(.string (bs [112])),(.slice (some ⟨29,0,none⟩) 6 AP),(.slice (some ⟨36,0,none⟩) 1 AP),(.slice (some ⟨42,0,none⟩) 1 AP),(.slice none 0 0),(.slice none 0 0),(.slice (some ⟨38,0,none⟩) 1 AP),(.int .i64 (-1))]),(.agg #[(.int .i64 0),(.int .i64 0)])]),[.dead,.dead,.dead,.dead,.dead,.dead,.dead,.dead,.dead,.dead,.dead,.dead,.dead,.dead,.dead,.dead,.dead,.dead,.dead,.dead,.dead,.dead,.dead,.dead,.dead,.dead,.dead,(.row [(.int .i64 1),(.string (bs [112])),(.int .i64 0),(.int .i64 0),(.int .i64 2),(.int .i64 2),(.string (bs [113])),(.int .i64 0),(.int .i64 0),(.int .i64 0),(.int .i64 4),(.string (bs [118])),(.int .i64 0),(.int .i64 0),(.int .i64 3),(.int .i64 27),(.string (bs [])),(.int .i64 0),(.int .i64 0),(.int .i64 0),(.int .i64 27),(.string (bs [])),(.int .i64 0),(.int .i64 0),(.int .i64 0),(.int .i64 32),(.string (bs [113])),(.int .i64 0),(.int .i64 0),(.int .i64 0)] 61 true false),.dead,.dead,.dead,.dead,.dead,.dead,(.row [(.string (bs [113])),(.bool false)] 102 true false),.dead,(.row [(.int .i64 (-1))] 3 true false),.dead,.dead,.dead,(.row [(.string (bs [118]))] 9 true false),.dead,.dead,.dead,.dead,.dead,.dead,.dead,.dead,.dead,.dead,.dead,.dead,.dead,.dead,.dead]⟩
theorem Cm:fS.ok (KM Tryd.prog 200)=true:=by kernel_rfl
def pN:I8:=⟨38,[(.agg #[(.string (bs [112])),(.slice (some ⟨29,0,none⟩) 6 AP),(.slice (some ⟨36,0,none⟩) 1 AP),(.slice (some ⟨42,0,none⟩) 1 AP),(.slice none 0 0),(.slice none 0 0),(.slice (some ⟨38,0,none⟩) 1 AP),(.int .i64 (-1))])],58,[(0,tB),(29,(.row [(.int .i64 1),(.string (bs [112])),(.int .i64 0),(.int .i64 0),(.int .i64 2),(.int .i64 2),(.string (bs [113])),(.int .i64 0),(.int .i64 0),(.int .i64 0),(.int .i64 4),(.string (bs [118])),(.int .i64 0),(.int .i64 0),(.int .i64 3),(.int .i64 27),(.string (bs [])),(.int .i64 0),(.int .i64 0),(.int .i64 0),(.int .i64 27),(.string (bs [])),(.int .i64 0),(.int .i64 0),(.int .i64 0),(.int .i64 32),(.string (bs [113])),(.int .i64 0),(.int .i64 0),(.int .i64 0)] 61 true true)),(36,(.row [(.string (bs [113])),(.bool false)] 102 true true)),(42,(.row [(.string (bs [118]))] 9 true true)),(38,(.row [(.int .i64 (-1))] 3 true true))],(.int .i64 0),[]⟩
theorem Az:pN.okF Tryd.prog (KM Tryd.prog 200)=true:=by kernel_rfl
noncomputable def Jm:AN:=GF (Q3 fS) (S8 pN)
end Go.Proofs.YtdejoodfeljmkaaDoor
