import Derived.Test.YtbnjijffkjcmcaaDoorZW11
import Derived.Test.YtbnjijffkjcmcaaDoorRows
import Derived.Test.YtbnjijffkjcmcaaDoorCards
import Derived.Test.YtbnjijffkjcmcaaDoorTie
import Derived.WalkKit
import Derived.ProofKit
import Derived.OpenShut
import Derived.SevenTiedAt
import Derived.Lay
import Derived.MakeChecks
/- Proved: gatepath/gatepathlaw02.SpanNames returns true (limits, errors, and the longest lists of the chapter); the library's tables that the program lists read as its own text lays them. -/
set_option linter.unusedVariables false
set_option linter.unusedSimpArgs false
set_option maxRecDepth 100000
namespace Go.Proofs.YtbnjijffkjcmcaaDoor.AL
open Go
attribute [local simp] qf cv qbin ibin sbin qun retPost rvOk ctV ctPost marksOk retV resAll resOf V.lt ltL V.ren renL V.exp V.exp1 cleanL V.clean closedL V.closed V.cells V.one V.tree
  loadV cellsAt isNC nilQ isSlD isIfD slNew ownRows ownCells V.isOwn slStore srcO qlook mlook mget mstr zval qnone qmake mput lmap isAggD placesOf fillV putCells lstore bound seqParts V.sh shL Blk.sh newV V.ok peqs peq srcRows qbytes byteSl appOk mmV mmR hidE V.fz fzL Blk.fz fzOk and_assoc
attribute [-simp] Int.not_le Int.not_lt Nat.not_le Nat.not_lt
theorem own0 : ownKnob Tryd.prog.godebug = none := by kernel_rfl
theorem laid0 : laidOutB Tryd.prog = true := by kernel_rfl
theorem par_of {P : Program} {ts : List TypeId} (h : (ts.all fun t => P.readableRec t && decide (t < P.types.size)) = true) : ∀ t ∈ ts, P.readableRec t = true ∧ t < P.types.size := by
  intro t ht
  have := List.all_eq_true.1 h t ht
  simpa using this
end Go.Proofs.YtbnjijffkjcmcaaDoor.AL
namespace Go.Proofs.YtbnjijffkjcmcaaDoor
open Go.Proofs.YtbnjijffkjcmcaaDoor.AL
open Go.ChangeShapes Go.WideShapes Go.ChangeAt Go.RowKit
instance : Gl Tryd.checked.prog := inferInstanceAs (Gl Tryd.prog)
theorem door_met (os : Os) (args : Array Value) : laidMetH Tryd.prog Rows.spanNamesRow.laid ((World.laidAll Tryd.prog os Rows.spanNamesRow.laid).forCall (fun _ _ => 0) ⟨#[], args, []⟩).memory := by
  rw [MakeChecks.laidMetH_plain _ _ _ (by kernel_rfl)]
  exact laidMet_laidAll _ (by kernel_rfl) (by kernel_rfl)
theorem door_shaped (os : Os) : (World.laidAll Tryd.prog os Rows.spanNamesRow.laid).Shaped Tryd.prog := World.shaped_of_ZipB (by kernel_rfl) (by kernel_rfl)
set_option maxRecDepth 1000000 in
theorem lifted (os : Os) (started : os.Started) (H : Type) (enc : TypeId × Value → H) :
    ReturnsInHanded {} Tryd.checked os 13 .any (fun w args => (Rows.spanNamesSpec.pre enc Tryd.prog Tryd.f13 [] false w args ∧ laidMetH Tryd.prog Rows.spanNamesRow.laid w) ∧ sizedMet enc Tryd.prog Tryd.f13 (OpenSpec.ofChange Rows.spanNamesSpec) false w args) (Rows.spanNamesSpec.post enc Tryd.prog Tryd.f13 false true false false) := by
  refine law_lifted_shaped (C := Tryd.checked) (fn := Tryd.f13) (k := 6) own0 laid0 started (by kernel_rfl) Tryd.func13 (by decide) rfl rfl rfl (by kernel_rfl) (par_of (by kernel_rfl)) ?_ ?_ (by kernel_rfl) (fun W h hs => gokD W h hs) spanNames_runs
  · intro ds h
    match ds, h with
    | [], _ => rfl
  · exact ChangeSpec.witness_shaped (enc := enc) (C := Tryd.checked) (os := os) (X := fun w _ => laidMetH Tryd.prog Rows.spanNamesRow.laid w) false (World.laidAll Tryd.prog os Rows.spanNamesRow.laid) #[] 8 (World.laidAll_os _ _ _) (door_shaped os) (by kernel_rfl) (by kernel_rfl) (by kernel_rfl) (door_met os _)
theorem over : Rows.SpanNamesSaid :=
  OpenClaim.holds_of_wide 13 Tryd.f13 rfl rfl rfl rfl rfl rfl rfl ⟨rfl, rfl, rfl, rfl, rfl⟩ rfl rfl rfl rfl rfl (by kernel_rfl) Tryd.func13 (by kernel_rfl)
    (of_decide_eq_true (by kernel_rfl)) (by unfold Func.isWrapper; first | (rw [if_pos (by decide +kernel)]; kernel_rfl) | (rw [if_neg (by decide +kernel)]; exact ⟨rfl, rfl⟩))
    (fun os started H enc _ => lifted os started H enc)
theorem proved : Rows.SpanNamesCardSaid :=
  Claim7.holds_tied_plain_at .later [] [.data, .data, .data, .data, .sentinel, .sentinel, .pinned] true (true, "c0ea4c4150479217396dcbc0c5f277155f8403788f21918df5420d968a99d510") true
    over (fun _ h => by cases h) (by kernel_rfl) (fun _ h => by cases h) spanNames_row_tie rfl ⟨rfl, rfl⟩ (by kernel_rfl) rfl
    (fun f fn hf hfn => by
      obtain rfl : f = 13 := Option.some.inj ((show Tryd.prog.funcNamed "gatepath/gatepathlaw02.SpanNames" = some 13 by kernel_rfl).symm.trans hf) |>.symm
      obtain rfl : fn = Tryd.f13 := (Option.some.inj (Tryd.func13.symm.trans hfn)).symm
      exact ⟨by kernel_rfl, fun j t ht => by
        have hm : t ∈ Tryd.f13.params.toList := by simpa using Array.mem_of_getElem? ht
        have hall : (Tryd.f13.params.toList.all fun u => !Tryd.prog.wantsStandIn u) = true := by kernel_rfl
        exact (show Tryd.prog.wantsStandIn t = false by simpa using List.all_eq_true.1 hall t hm)⟩)
    (by kernel_rfl)
#print axioms proved
end Go.Proofs.YtbnjijffkjcmcaaDoor
namespace Go.Proofs.YtbnjijffkjcmcaaDoor.AL

end Go.Proofs.YtbnjijffkjcmcaaDoor.AL
