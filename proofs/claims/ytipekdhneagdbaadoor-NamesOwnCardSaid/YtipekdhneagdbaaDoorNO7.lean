/- Part 7 of what the claim leans on: 1 texts laid one behind another. -/
import Derived.Test.YtipekdhneagdbaaDoorNO6
import Derived.Test.YtipekdhneagdbaaDoorRows
namespace Go.Proofs.YtipekdhneagdbaaDoor
open Go Go.Sx
set_option maxRecDepth 100000
set_option maxHeartbeats 64000000
def GM:List (List UInt8):=[[112,111,108,105,99,121],[113,117,101,117,101],[114,101,115,105,100,101,110,116],[103,104,111,115,116],[118,97,114],[105,110],[116,97,103],[114,101,113,117,105,114,101],[114,117,108,101],[111,110],[104,105,116],[109,105,115,115],[105,102],[101,108,115,101],[108,111,111,112],[119,104,105,108,101],[115,101,116],[109,97,114,107],[105,110,115,101,114,116],[109,111,118,101],[102,111,114,103,101,116],[115,104,105,102,116],[101,118,105,99,116],[116,111],[100,114,111,112],[99,97,108,108],[112,97,115,115],[102,114,111,110,116],[98,97,99,107],[120],[116,114,117,101],[102,97,108,115,101],[108,101,110],[99,97,112],[115,105,122,101],[116,111,116,97,108],[101,109,112,116,121],[102,117,108,108],[97,116],[109,105,110],[109,97,120]]
def KB:List Value:=GM.map fun z=>Value.string ⟨z.toArray⟩
theorem VZ : Tryd.prog.globalNamed "winnow/lex.words" = some 0 := by kernel_rfl
theorem UL:(Tryd.prog.globals[0]?).map (·.type)=some 145:=by kernel_rfl
theorem WN:Tryd.prog.cellsOf 145=41:=by kernel_rfl
theorem V6:Tryd.prog.cellsOf 9=1:=by kernel_rfl
theorem R2:Tryd.prog.globals.size=1:=by kernel_rfl
def E5:AA:=⟨1,0,.node (.row KB 9 false true) .leaf .leaf⟩
end Go.Proofs.YtipekdhneagdbaaDoor
