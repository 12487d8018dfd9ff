/-
  Part of the proof: The functions that the law's function reaches.
-/
import Derived.Test.YtpdlpdkehminlaaGreatDoorRows
import Derived.Clock
set_option linter.all false
set_option maxRecDepth 100000
set_option maxHeartbeats 20000000
open Go.Code renaming globalsNamed->zai
namespace Go.Proofs.YtpdlpdkehminlaaGreatDoor
set_option maxRecDepth 100000
def W9:List FuncId:=[4,6,15,7,16,8,18,12,30,53,31,54,55,85,128,56,86,129,57,87,58,88,130,131,132,89,59,90,133,160,120,154,185,216,235,161,77,19,34,63,93,20,35,36,37,38,39,21,22,23,40,64,65,94,74,66,96,97,98]
def WF:List FuncId:=[104,95,134,67,99,46,82,81,118,119,153,177,121,155,178,122,123,156,179,180,181,157,182,158,183,215,234,243,247,248,244,249,250,124,125,24,44,79,117,152,173,174,201,211,212,175,176,213,214,232,233,78,116,150,172,151,45,80,68]
def Xe:List FuncId:=[101,102,100,69,103,105,135,136,162,186,41,70,71,72,73,42,43,75,106,107,108,109,110,137,111,112,139,163,113,138,141,145,170,168,200,210,223,229,84,224,238,225,239,240,226,241,242,246,227,228,230,231,187,188,217,236,245,189,164]
def WL:List FuncId:=[190,146,140,143,144,142,165,166,167,169,202,203,218,204,219,220,205,221,222,237,206,207,208,209,76,114,115,147,171,52,148,149,25,26,47,48,83,126,127,159,184,49,51,50,27,17,13,33,62,32,60,91,61,92,10,29]
theorem KZ:Tryz.prog.closure 4=W9++(WF++(Xe++WL)):=by kernel_rfl
theorem XD:W9.flatMap (λg=>((Tryz.prog.funcs[g]?).bind (·.body)).elim [] zai)=[0,0,0,0,0,0]:=by kernel_rfl
theorem Xr:WF.flatMap (λg=>((Tryz.prog.funcs[g]?).bind (·.body)).elim [] zai)=[1,2,3]:=by kernel_rfl
theorem XF:Xe.flatMap (λg=>((Tryz.prog.funcs[g]?).bind (·.body)).elim [] zai)=[]:=by kernel_rfl
theorem Xw:WL.flatMap (λg=>((Tryz.prog.funcs[g]?).bind (·.body)).elim [] zai)=[]:=by kernel_rfl
end Go.Proofs.YtpdlpdkehminlaaGreatDoor
