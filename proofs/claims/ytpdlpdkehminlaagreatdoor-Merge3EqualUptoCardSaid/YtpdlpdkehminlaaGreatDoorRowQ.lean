/-
  Part of the proof: Merge3Equal: the witness: the listed variables can be laid.
-/
import Derived.Test.YtpdlpdkehminlaaGreatDoorRows
import Derived.WalkKit
import Derived.ProofKit
import Derived.OpenShut
import Derived.ShutString
import Derived.Clock
import Derived.OpenVars
import Derived.LaidMore
import Derived.Lay
import Derived.LaidOnce
import Derived.SevenTiedAt
import Derived.Deep.DeepHandedRow
set_option linter.all false
set_option maxRecDepth 100000
set_option maxHeartbeats 20000000
open ByteArray renaming empty->zbD
open Go.Input renaming okWide_of_okWideB->zbT
open Go.MakeChecks renaming laidMetH_plain->zd0
open Go.Proofs.YtpdlpdkehminlaaGreatDoor.Rows renaming merge3EqualSpec->lc,merge3EqualUptoRow->eA
open Go.Proofs.YtpdlpdkehminlaaGreatDoor.Rows.OpenSpec renaming upto->lI
open Go.World renaming holding->zdw,laidAll->oc
namespace Go.Proofs.YtpdlpdkehminlaaGreatDoor
open Go.ChangeShapes Go.WideShapes Go.ChangeAt Go.RowKit Go.Clock
open Go.ChangeMaps (open_string shut_string)
abbrev DQ:List (String×DataW Unit):=eA.laid
abbrev GG:Array Value:=#[.agg #[.int .i64 0,.string zbD,.slice none 0 0,.slice none 0 0],.agg #[.int .i64 0,.string zbD,.slice none 0 0,.slice none 0 0],.slice none 0 0]
theorem WJ:ownKnob Tryz.prog.godebug=none:=by kernel_rfl
theorem Sq:Tryz.prog.inits.idxOf? 4=none:=by kernel_rfl
theorem Wc(os:Os):(zdw Tryz.prog os ⟨#[],#[],[]⟩).layFits Tryz.prog DQ []=true:=by kernel_rfl
theorem QD:(DQ.all λx=>x.2.handleName?.isNone)=true:=by kernel_rfl
theorem Uw(os:Os):(zdw Tryz.prog os ⟨#[],#[],[]⟩).layIfaces Tryz.prog DQ (oc Tryz.prog os DQ)=true:=by kernel_rfl
theorem WI(os:Os)(args:Array Value):laidMetH Tryz.prog DQ ((oc Tryz.prog os DQ).forCall (λ_ _=>0) ⟨#[],args,[]⟩).memory:=by rw[zd0 _ _ _ QD];exact laidMet_laidAll _ (Wc os) (Uw os)
theorem Xb(os:Os):((oc Tryz.prog os DQ).forCall (λ_ _=>0) ⟨#[],GG,[]⟩).variablesZipB Tryz.prog=true:=by kernel_rfl
theorem Wl(os:Os):(((oc Tryz.prog os DQ).forCall (λ_ _=>0) ⟨#[],GG,[]⟩).heap.toList.drop Tryz.prog.globals.size).take ((begin Tryz.prog (λ_ _=>0) default).world.heap.size-Tryz.prog.globals.size)=(begin Tryz.prog (λ_ _=>0) default).world.heap.toList.drop Tryz.prog.globals.size:=by kernel_rfl
section
variable{H:Type} (enc:TypeId×Value->H) (os:Os)
theorem TD:Input.okWideB Tryz.prog ((oc Tryz.prog os DQ).forCall (λ_ _=>0) ⟨#[],GG,[]⟩) 4 ⟨#[],GG,[]⟩=true:=by kernel_rfl
theorem Uf:DataW.whole enc Tryz.prog ((oc Tryz.prog os DQ).forCall (λ_ _=>0) ⟨#[],GG,[]⟩).memory Tryz.f4.params.toList (lI lc).vars false GG.toList 8=some ([.agg [.lit (.int .i64 0),.lit (.string []),.nil,.nil],.agg [.lit (.int .i64 0),.lit (.string []),.nil,.nil],.nil],[],[]):=by kernel_rfl
theorem VQ:(lI lc).bare.sizedB enc Tryz.prog Tryz.f4 false ((oc Tryz.prog os DQ).forCall (λ_ _=>0) ⟨#[],GG,[]⟩).memory GG 8=true:=by kernel_rfl
theorem Ve:Rows.uptoSmall H ([.agg [.lit (.int .i64 0),.lit (.string []),.nil,.nil],.agg [.lit (.int .i64 0),.lit (.string []),.nil,.nil],.nil]++[])=true:=by kernel_rfl
theorem Rj:∃(w:World)(tape:Tape)(i:Input),w.os=os/\(w.forCall tape i).Shaped Tryz.prog/\i.vars=[]/\Input.okWide Tryz.prog (w.forCall tape i) .any w.heap.size 4 i/\(lI lc).preRow enc Tryz.prog Tryz.f4 eA.domain false eA.laid (w.forCall tape i).memory i.args/\({}:Assume).holds Tryz.prog (lone (Frame.enter Tryz.prog 4 i.args .normal) [] (w.forCall tape i)):=⟨oc Tryz.prog os DQ,λ_ _=>0,⟨#[],GG,[]⟩,World.laidAll_os _ _ _,World.shaped_of_ZipB (Xb os) (Wl os),(zbT (base:=0) (TD os)).1,(zbT (TD os)).2,OpenSpec.preRow_of_cond 8 (Uf enc os) (by kernel_rfl) (λk hk=>by cases hk;exact Ve) (VQ enc os) (WI os _),by simp only[Assume.holds];exact⟨by simp,by simp,λh=>(by cases h),by simp,by simp⟩⟩
end
end Go.Proofs.YtpdlpdkehminlaaGreatDoor
