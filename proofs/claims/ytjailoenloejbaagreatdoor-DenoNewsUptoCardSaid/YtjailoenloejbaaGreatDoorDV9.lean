/- Part 9. -/
import Derived.Test.YtjailoenloejbaaGreatDoorDV8
import Derived.Test.YtjailoenloejbaaGreatDoorRows
namespace Go.Proofs.YtjailoenloejbaaGreatDoor
open Go Go.Sx Go.Proofs.Tryz
theorem _root_.Go.Sx.au:type_of%@Go.Proofs.Tryz.underlying25:=@Go.Proofs.Tryz.underlying25
theorem _root_.Go.Sx.bn:type_of%@Go.Proofs.Tryz.underlying28:=@Go.Proofs.Tryz.underlying28
theorem _root_.Go.Sx.bq:type_of%@Go.Proofs.Tryz.underlying22:=@Go.Proofs.Tryz.underlying22
theorem _root_.Go.Sx.bG:type_of%@Go.Proofs.Tryz.underlying27:=@Go.Proofs.Tryz.underlying27
theorem _root_.Go.Sx.ci:type_of%@Go.Proofs.Tryz.underlying23:=@Go.Proofs.Tryz.underlying23
theorem _root_.Go.Sx.cN:type_of%@Go.Proofs.Tryz.underlying24:=@Go.Proofs.Tryz.underlying24
theorem _root_.Go.Sx.db:type_of%@Go.Proofs.Tryz.underlying273:=@Go.Proofs.Tryz.underlying273
theorem _root_.Go.Sx.dc:type_of%@Go.Proofs.Tryz.underlying3:=@Go.Proofs.Tryz.underlying3
theorem _root_.Go.Sx.dy:type_of%@Go.Proofs.Tryz.underlying142:=@Go.Proofs.Tryz.underlying142
theorem _root_.Go.Sx.ei:type_of%@Go.Proofs.Tryz.underlying30:=@Go.Proofs.Tryz.underlying30
theorem _root_.Go.Sx.eo:type_of%@Go.Proofs.Tryz.underlying79:=@Go.Proofs.Tryz.underlying79
theorem _root_.Go.Sx.ez:type_of%@Go.Proofs.Tryz.underlying125:=@Go.Proofs.Tryz.underlying125
theorem _root_.Go.Sx.fh:type_of%@Go.Proofs.Tryz.underlying9:=@Go.Proofs.Tryz.underlying9
theorem _root_.Go.Sx.fo:type_of%@Go.Proofs.Tryz.underlying158:=@Go.Proofs.Tryz.underlying158
theorem _root_.Go.Sx.fp:type_of%@Go.Proofs.Tryz.underlying160:=@Go.Proofs.Tryz.underlying160
theorem _root_.Go.Sx.ft:type_of%@Go.Proofs.Tryz.underlying249:=@Go.Proofs.Tryz.underlying249
theorem _root_.Go.Sx.fP:type_of%@Go.Proofs.Tryz.underlying152:=@Go.Proofs.Tryz.underlying152
theorem _root_.Go.Sx.fX:type_of%@Go.Proofs.Tryz.underlying162:=@Go.Proofs.Tryz.underlying162
theorem _root_.Go.Sx.gj:type_of%@Go.Proofs.Tryz.underlying32:=@Go.Proofs.Tryz.underlying32
theorem _root_.Go.Sx.gk:type_of%@Go.Proofs.Tryz.underlying84:=@Go.Proofs.Tryz.underlying84
theorem _root_.Go.Sx.gm:type_of%@Go.Proofs.Tryz.underlying4:=@Go.Proofs.Tryz.underlying4
theorem _root_.Go.Sx.gx:type_of%@Go.Proofs.Tryz.underlying248:=@Go.Proofs.Tryz.underlying248
theorem _root_.Go.Sx.gz:type_of%@Go.Proofs.Tryz.underlying43:=@Go.Proofs.Tryz.underlying43
theorem _root_.Go.Sx.ig:type_of%@Go.Proofs.Tryz.underlying257:=@Go.Proofs.Tryz.underlying257
theorem _root_.Go.Sx.ii:type_of%@Go.Proofs.Tryz.underlying233:=@Go.Proofs.Tryz.underlying233
theorem _root_.Go.Sx.ij:type_of%@Go.Proofs.Tryz.underlying170:=@Go.Proofs.Tryz.underlying170
theorem _root_.Go.Sx.ik:type_of%@Go.Proofs.Tryz.underlying147:=@Go.Proofs.Tryz.underlying147
theorem _root_.Go.Sx.il:type_of%@Go.Proofs.Tryz.underlying141:=@Go.Proofs.Tryz.underlying141
theorem _root_.Go.Sx.im:type_of%@Go.Proofs.Tryz.underlying185:=@Go.Proofs.Tryz.underlying185
theorem _root_.Go.Sx.jd:type_of%@Go.Proofs.Tryz.func133:=@Go.Proofs.Tryz.func133
set_option maxRecDepth 100000
set_option maxHeartbeats 0
def K6:List (List UInt8):=[[112,111,108,105,99,121],[113,117,101,117,101],[114,101,115,105,100,101,110,116],[103,104,111,115,116],[118,97,114],[105,110],[116,97,103],[114,101,113,117,105,114,101],[114,117,108,101],[111,110],[104,105,116],[109,105,115,115],[105,102],[101,108,115,101],[108,111,111,112],[119,104,105,108,101],[115,101,116],[109,97,114,107],[105,110,115,101,114,116],[109,111,118,101],[102,111,114,103,101,116],[115,104,105,102,116],[101,118,105,99,116],[116,111],[100,114,111,112],[99,97,108,108],[112,97,115,115],[102,114,111,110,116],[98,97,99,107],[120],[116,114,117,101],[102,97,108,115,101],[108,101,110],[99,97,112],[115,105,122,101],[116,111,116,97,108],[101,109,112,116,121],[102,117,108,108],[97,116],[109,105,110],[109,97,120]]
def QK:List Value:=K6.map fun z=>Value.string ⟨z.toArray⟩
theorem vZ:prog.globalNamed "winnow/lex.words" =some 0:=by kernel_rfl
theorem yO:(prog.globals[0]?).map (·.type)=some 277:=by kernel_rfl
theorem xF:prog.cellsOf 277=41:=by kernel_rfl
theorem rL:prog.cellsOf 9=1:=by kernel_rfl
theorem oM:prog.globals.size=1:=by simp
def N7:AA:=⟨1,0,.node (.row QK 9 false true) .leaf .leaf⟩
end Go.Proofs.YtjailoenloejbaaGreatDoor




