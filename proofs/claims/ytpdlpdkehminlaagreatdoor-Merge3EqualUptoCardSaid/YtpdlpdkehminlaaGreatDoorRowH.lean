/-
  Merge3Equal: the tied card, in the form for arguments of bulk at most 1048576: if both sides are equal, the merge is that side, without conflicts; for any two trees of at most 60 nodes on at most 16 levels and any at most 80 pairs; the card ties the listed variables to the program's text. Conditions: those of the given row and card (bulk at most 1048576; the listed variables as the text lays them).
-/
import Derived.Test.YtpdlpdkehminlaaGreatDoorRowF
import Derived.Test.YtpdlpdkehminlaaGreatDoorRowG
import Derived.Test.YtpdlpdkehminlaaGreatDoorTie
set_option linter.all false
set_option maxRecDepth 100000
set_option maxHeartbeats 20000000
open Option.some renaming inj->eF
namespace Go.Proofs.YtpdlpdkehminlaaGreatDoor
open Go
theorem merge3EqualUpto_card:Rows.Merge3EqualUptoCardSaid:=Claim7.holds_tied_plain_at .later [] [.data,.data,.data,.widerDeep] true (true, "34953b61fd6bef1d0058f3a0ff564a405bf5b06f25c401ac38416270161e9e26") false Ui (λ_ h=>by cases h) Tn (λ_ h=>by cases h) merge3EqualUpto_row_tie rfl ⟨rfl,rfl⟩ VH rfl (λf fn hf hfn=>by
   obtain rfl:f=4:=eF (Lz.symm.trans hf)|>.symm;obtain rfl:fn=Tryz.f4:=(eF (Tryz.func4.symm.trans hfn)).symm;exact⟨Us,λj t ht=>by
    rw[Tryz.params4]at ht;have hm:t∈[25,25,26]:=by simpa using Array.mem_of_getElem? ht
    exact(show Tryz.prog.wantsStandIn t=false by simpa using List.all_eq_true.1 Mr t hm)⟩)
  Wh
#print axioms merge3EqualUpto_card
end Go.Proofs.YtpdlpdkehminlaaGreatDoor
