import Derived.Test.YtkcmgjagjbiinaaC21nW16
import Derived.Test.YtkcmgjagjbiinaaRows
import Derived.WalkKit
import Derived.ProofKit
import Derived.OpenShut
/- ShrinkNames is true: the limits, the errors and the small trees of the chapter come out as the law says, walked through the program once, with each answer read off the summaries of Check, Plan, Excess, Apply and Clip. Conditions: none beyond those of the given statement. -/
set_option linter.unusedVariables false
set_option linter.unusedSimpArgs false
set_option maxRecDepth 100000
namespace Go.Proofs.Ytkcmgjagjbiinaa.AL
open Go
attribute [local simp] qf cv qbin ibin sbin qun retPost rvOk ctV ctPost marksOk retV resAll resOf V.lt ltL V.ren renL V.exp V.exp1 cleanL V.clean closedL V.closed V.cells V.one V.tree
  loadV cellsAt isNC nilQ isSlD isIfD slNew ownRows ownCells V.isOwn slStore srcO qlook mlook mget mstr zval qnone qmake mput lmap isAggD placesOf fillV putCells lstore bound seqParts V.sh shL Blk.sh newV V.ok peqs peq srcRows qbytes byteSl appOk mmV mmR hidE V.fz fzL Blk.fz fzOk and_assoc
attribute [-simp] Int.not_le Int.not_lt Nat.not_le Nat.not_lt
theorem own0 : ownKnob Try.prog.godebug = none := by kernel_rfl
theorem laid0 : laidOutB Try.prog = true := by kernel_rfl
theorem par_of {P : Program} {ts : List TypeId} (h : (ts.all fun t => P.readableRec t && decide (t < P.types.size)) = true) : ∀ t ∈ ts, P.readableRec t = true ∧ t < P.types.size := by
  intro t ht
  have := List.all_eq_true.1 h t ht
  simpa using this
end Go.Proofs.Ytkcmgjagjbiinaa.AL
namespace Go.Proofs.Ytkcmgjagjbiinaa
open Go.Proofs.Ytkcmgjagjbiinaa.AL
open Go.ChangeShapes Go.WideShapes Go.ChangeAt Go.RowKit
instance : Gl Try.checked.prog := inferInstanceAs (Gl Try.prog)
set_option maxRecDepth 1000000 in
theorem lifted (os : Os) (started : os.Started) (H : Type) (enc : TypeId × Value → H) :
    ReturnsInHanded {} Try.checked os 9 .any (Rows.shrinkNamesSpec.pre6 enc Try.prog Try.f9 Rows.shrinkNamesRow.domain false) (Rows.shrinkNamesSpec.post enc Try.prog Try.f9 false true false false) := by
  refine law_lifted (C := Try.checked) (fn := Try.f9) (k := 12) own0 laid0 started (by kernel_rfl) Try.func9 (by decide) rfl rfl rfl (by kernel_rfl) (par_of (by kernel_rfl)) ?_ ?_ (by kernel_rfl) (fun W g => by simp [Gl.gv, R]) shrinkNames_runs'
  · intro ds h
    match ds, h with
    | [], _ => rfl
  · exact ChangeSpec.witness6 (enc := enc) (C := Try.checked) false ⟨#[], #[], []⟩ 8 (by kernel_rfl) (by kernel_rfl) (by kernel_rfl) (by kernel_rfl)
theorem over : Rows.shrinkNamesRow.holds Try.pinned (OpenSpec.ofChange Rows.shrinkNamesSpec) :=
  OpenClaim.holds_of_wide 9 Try.f9 rfl rfl rfl rfl rfl rfl rfl ⟨rfl, rfl, rfl, rfl, rfl⟩ rfl rfl rfl rfl rfl (by kernel_rfl) Try.func9 (by kernel_rfl)
    (of_decide_eq_true (by kernel_rfl)) (by unfold Func.isWrapper; first | (rw [if_pos (by decide +kernel)]; kernel_rfl) | (rw [if_neg (by decide +kernel)]; exact ⟨rfl, rfl⟩))
    (fun os started H enc _ => lifted os started H enc)
theorem proved : Rows.ShrinkNamesSaid := over
#print axioms proved
end Go.Proofs.Ytkcmgjagjbiinaa
namespace Go.Proofs.Ytkcmgjagjbiinaa.AL

end Go.Proofs.Ytkcmgjagjbiinaa.AL
