import Derived.Test.YtbnjijffkjcmcaaGreatDoorZW12
import Derived.Test.YtbnjijffkjcmcaaGreatDoorRows
import Derived.Test.YtbnjijffkjcmcaaGreatDoorCards
import Derived.Test.YtbnjijffkjcmcaaGreatDoorTie
import Derived.WalkKit
import Derived.ProofKit
import Derived.OpenShut
import Derived.SevenTiedAt
import Derived.Lay
import Derived.MakeChecks
/- Proved: whatever the span and string given, gatepath/gatepathlaw02.SpanTexts returns true (Text and Parse return what the reference returns), and the inputs read as they did; the library's tables that the program lists read as its own text lays them. -/
set_option linter.unusedVariables false
set_option linter.unusedSimpArgs false
set_option maxRecDepth 100000
namespace Go.Proofs.YtbnjijffkjcmcaaGreatDoor.AL
open Go
attribute [local simp] qf cv qbin ibin sbin qun retPost rvOk ctV ctPost marksOk retV resAll resOf V.lt ltL V.ren renL V.exp V.exp1 cleanL V.clean closedL V.closed V.cells V.one V.tree
  loadV cellsAt isNC nilQ isSlD isIfD slNew ownRows ownCells V.isOwn slStore srcO qlook mlook mget mstr zval qnone qmake mput lmap isAggD placesOf fillV putCells lstore bound seqParts V.sh shL Blk.sh newV V.ok peqs peq srcRows qbytes byteSl appOk mmV mmR hidE V.fz fzL Blk.fz fzOk and_assoc
attribute [-simp] Int.not_le Int.not_lt Nat.not_le Nat.not_lt
theorem own0 : ownKnob Tryz.prog.godebug = none := by kernel_rfl
theorem laid0 : laidOutB Tryz.prog = true := by kernel_rfl
theorem par_of {P : Program} {ts : List TypeId} (h : (ts.all fun t => P.readableRec t && decide (t < P.types.size)) = true) : ∀ t ∈ ts, P.readableRec t = true ∧ t < P.types.size := by
  intro t ht
  have := List.all_eq_true.1 h t ht
  simpa using this
end Go.Proofs.YtbnjijffkjcmcaaGreatDoor.AL
namespace Go.Proofs.YtbnjijffkjcmcaaGreatDoor
open Go.Proofs.YtbnjijffkjcmcaaGreatDoor.AL
open Go.ChangeShapes Go.WideShapes Go.ChangeAt Go.RowKit
instance : Gl Tryz.checked.prog := inferInstanceAs (Gl Tryz.prog)
theorem door_met (os : Os) (args : Array Value) : laidMetH Tryz.prog Rows.spanTextsRow.laid ((World.laidAll Tryz.prog os Rows.spanTextsRow.laid).forCall (fun _ _ => 0) ⟨#[], args, []⟩).memory := by
  rw [MakeChecks.laidMetH_plain _ _ _ (by kernel_rfl)]
  exact laidMet_laidAll _ (by kernel_rfl) (by kernel_rfl)
theorem door_shaped (os : Os) : (World.laidAll Tryz.prog os Rows.spanTextsRow.laid).Shaped Tryz.prog := World.shaped_of_ZipB (by kernel_rfl) (by kernel_rfl)
set_option maxRecDepth 1000000 in
theorem lifted (os : Os) (started : os.Started) (H : Type) (enc : TypeId × Value → H) :
    ReturnsInHanded {} Tryz.checked os 3 .any (fun w args => (Rows.spanTextsSpec.pre enc Tryz.prog Tryz.f3 [] false w args ∧ laidMetH Tryz.prog Rows.spanTextsRow.laid w) ∧ sizedMet enc Tryz.prog Tryz.f3 (OpenSpec.ofChange Rows.spanTextsSpec) false w args) (Rows.spanTextsSpec.post enc Tryz.prog Tryz.f3 false true false false) := by
  refine law_lifted_shaped (C := Tryz.checked) (fn := Tryz.f3) (k := 6) own0 laid0 started (by kernel_rfl) Tryz.func3 (by decide) rfl rfl rfl (by kernel_rfl) (par_of (by kernel_rfl)) ?_ ?_ (by kernel_rfl) (fun W h hs => gokD W h hs) spanTexts_runs
  · intro ds h
    match ds, h with
    | [_, _, _], _ => rfl
  · exact ChangeSpec.witness_shaped (enc := enc) (C := Tryz.checked) (os := os) (X := fun w _ => laidMetH Tryz.prog Rows.spanTextsRow.laid w) false (World.laidAll Tryz.prog os Rows.spanTextsRow.laid) #[.int .u8 0, .agg #[.int .u64 0, .int .u64 0, .int .u64 0, .int .u64 0], .string ⟨#[]⟩] 8 (World.laidAll_os _ _ _) (door_shaped os) (by kernel_rfl) (by kernel_rfl) (by kernel_rfl) (door_met os _)
theorem over : Rows.SpanTextsSaid :=
  OpenClaim.holds_of_wide 3 Tryz.f3 rfl rfl rfl rfl rfl rfl rfl ⟨rfl, rfl, rfl, rfl, rfl⟩ rfl rfl rfl rfl rfl (by kernel_rfl) Tryz.func3 (by kernel_rfl)
    (of_decide_eq_true (by kernel_rfl)) (by unfold Func.isWrapper; first | (rw [if_pos (by decide +kernel)]; kernel_rfl) | (rw [if_neg (by decide +kernel)]; exact ⟨rfl, rfl⟩))
    (fun os started H enc _ => lifted os started H enc)
theorem proved : Rows.SpanTextsCardSaid :=
  Claim7.holds_tied_plain_at .later [] [.data, .data, .data, .data, .sentinel, .sentinel, .pinned] true (true, "3ab39a34ffb0ea0ef27e9070a2edb9a88b379e8819bd284f30bf4f19a193012c") true
    over (fun _ h => by cases h) (by kernel_rfl) (fun _ h => by cases h) spanTexts_row_tie rfl ⟨rfl, rfl⟩ (by kernel_rfl) rfl
    (fun f fn hf hfn => by
      obtain rfl : f = 3 := Option.some.inj ((show Tryz.prog.funcNamed "gatepath/gatepathlaw02.SpanTexts" = some 3 by kernel_rfl).symm.trans hf) |>.symm
      obtain rfl : fn = Tryz.f3 := (Option.some.inj (Tryz.func3.symm.trans hfn)).symm
      exact ⟨by kernel_rfl, fun j t ht => by
        have hm : t ∈ Tryz.f3.params.toList := by simpa using Array.mem_of_getElem? ht
        have hall : (Tryz.f3.params.toList.all fun u => !Tryz.prog.wantsStandIn u) = true := by kernel_rfl
        exact (show Tryz.prog.wantsStandIn t = false by simpa using List.all_eq_true.1 hall t hm)⟩)
    (by kernel_rfl)
#print axioms proved
end Go.Proofs.YtbnjijffkjcmcaaGreatDoor
namespace Go.Proofs.YtbnjijffkjcmcaaGreatDoor.AL

end Go.Proofs.YtbnjijffkjcmcaaGreatDoor.AL
