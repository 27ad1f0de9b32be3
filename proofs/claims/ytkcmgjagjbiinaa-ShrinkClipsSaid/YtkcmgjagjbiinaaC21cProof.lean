import Derived.Test.YtkcmgjagjbiinaaC21cW16
import Derived.Test.YtkcmgjagjbiinaaRows
import Derived.WalkKit
import Derived.ProofKit
import Derived.OpenShut
/- ShrinkClips is true at every input: for every two trees of holders, a clipped tree is sound, no holder has more than it had, no sound tree of the same shape below it has more, and clipping again changes nothing. Conditions: none beyond those of the given statement. -/
set_option linter.unusedVariables false
set_option linter.unusedSimpArgs false
set_option maxRecDepth 100000
namespace Go.Proofs.Ytkcmgjagjbiinaa.AL
open Go
attribute [local simp] qf cv qbin ibin sbin qun retPost rvOk ctV ctPost marksOk retV resAll resOf V.lt ltL V.ren renL V.exp V.exp1 cleanL V.clean closedL V.closed V.cells V.one V.tree
  loadV cellsAt isNC nilQ isSlD isIfD slNew ownRows ownCells V.isOwn slStore srcO qlook mlook mget mstr zval qnone qmake mput lmap isAggD placesOf fillV putCells lstore bound seqParts V.sh shL Blk.sh newV V.ok peqs peq srcRows qbytes byteSl appOk mmV mmR hidE V.fz fzL Blk.fz fzOk and_assoc
attribute [-simp] Int.not_le Int.not_lt Nat.not_le Nat.not_lt
theorem own0 : ownKnob Try.prog.godebug = none := by kernel_rfl
theorem laid0 : laidOutB Try.prog = true := by kernel_rfl
theorem par_of {P : Program} {ts : List TypeId} (h : (ts.all fun t => P.readableRec t && decide (t < P.types.size)) = true) : ∀ t ∈ ts, P.readableRec t = true ∧ t < P.types.size := by
  intro t ht
  have := List.all_eq_true.1 h t ht
  simpa using this
end Go.Proofs.Ytkcmgjagjbiinaa.AL
namespace Go.Proofs.Ytkcmgjagjbiinaa
open Go.Proofs.Ytkcmgjagjbiinaa.AL
open Go.ChangeShapes Go.WideShapes Go.ChangeAt Go.RowKit
instance : Gl Try.checked.prog := inferInstanceAs (Gl Try.prog)
set_option maxRecDepth 1000000 in
theorem lifted (os : Os) (started : os.Started) (H : Type) (enc : TypeId × Value → H) :
    ReturnsInHanded {} Try.checked os 8 .any (Rows.shrinkClipsSpec.pre6 enc Try.prog Try.f8 Rows.shrinkClipsRow.domain false) (Rows.shrinkClipsSpec.post enc Try.prog Try.f8 false true false false) := by
  refine law_lifted (C := Try.checked) (fn := Try.f8) (k := 12) own0 laid0 started (by kernel_rfl) Try.func8 (by decide) rfl rfl rfl (by kernel_rfl) (par_of (by kernel_rfl)) ?_ ?_ (by kernel_rfl) (fun W g => by simp [Gl.gv, R]) shrinkClips_runs
  · intro ds h
    match ds, h with
    | [_, _], _ => rfl
  · exact ChangeSpec.witness6 (enc := enc) (C := Try.checked) false ⟨#[], #[.slice none 0 0, .slice none 0 0], []⟩ 8 (by kernel_rfl) (by kernel_rfl) (by kernel_rfl) (by kernel_rfl)
theorem over : Rows.shrinkClipsRow.holds Try.pinned (OpenSpec.ofChange Rows.shrinkClipsSpec) :=
  OpenClaim.holds_of_wide 8 Try.f8 rfl rfl rfl rfl rfl rfl rfl ⟨rfl, rfl, rfl, rfl, rfl⟩ rfl rfl rfl rfl rfl (by kernel_rfl) Try.func8 (by kernel_rfl)
    (of_decide_eq_true (by kernel_rfl)) (by unfold Func.isWrapper; first | (rw [if_pos (by decide +kernel)]; kernel_rfl) | (rw [if_neg (by decide +kernel)]; exact ⟨rfl, rfl⟩))
    (fun os started H enc _ => lifted os started H enc)
theorem proved : Rows.ShrinkClipsSaid := over
#print axioms proved
end Go.Proofs.Ytkcmgjagjbiinaa
namespace Go.Proofs.Ytkcmgjagjbiinaa.AL

end Go.Proofs.Ytkcmgjagjbiinaa.AL
