/-
  No cell of these rows narrows 'for every input' (looked for: loops, veiled, ifaces, maps, wideKeys, modest, calm, conditions, laid).
  DERIVED. THE GIVEN ROWS OF THIS SEAT. 7 by the template 'for every input the law returns true; each argument reads behind the call as it read before'; 0 by the template 'total and deterministic' (their statements: YtkcmgjagjbiinaaTotals.lean).
  GIVEN WITH THE SEED: the statements are not yours to turn. If you find one false, say at which input.
  Laid BY PROGRAM, IN A SANDBOX (cutbox-rows.mjs): the forced cells as the released guide's own fill.sh prints them over the translation 8f9234750e6bfcfe… (all of the seat's roots in one cut). By AI agents, Wed Nov 11 2026. No macro, syntax, notation, axiom, sorry.
-/
import Derived.Test.YtkcmgjagjbiinaaChecked
import GoSem.Claim
import GoSem.ClaimJoined
import GoSem.ClaimMapViews
import Derived.JoinedTies
import Derived.KernelRfl
namespace Go.Proofs.Ytkcmgjagjbiinaa
/- THE CELL 'sum', in the pinned program and in every row, IS THE sha256 OF THE DUMP (.gsa) THAT YtkcmgjagjbiinaaProg.lean LOADS. Nothing in Lean hashes anything: it is a label: what it is worth is what the hold of that sum in a sandbox is worth. -/
noncomputable def Try.pinned : Pinned := { name := "ytkcmgjagjbiinaa", sum := "8f9234750e6bfcfec76eea188dbeaad9ef615ef587af08af3a8d8016b1757661", checked := Try.checked }
namespace Rows
def none {H : Type} : Left H := { results := [], args := [] }

/-- 'gatepathlaw21.ShrinkApplies': WHATEVER THE INPUT: true; the input reads as it did. -/
def shrinkAppliesSpec : ChangeSpec := { name := "shrinkApplies", fn := fun _ => fun
  | [d1, d2] => { results := [.lit (.bool true)], args := [d1, d2] }
  | _ => none }
def shrinkAppliesRow : OpenClaim := { program := "ytkcmgjagjbiinaa", sum := "8f9234750e6bfcfec76eea188dbeaad9ef615ef587af08af3a8d8016b1757661", func := "gatepath/gatepathlaw21.ShrinkApplies", spec := "shrinkApplies", inPlace := ["math/bits.Add64", "math/bits.Sub64"], unfollowed := true, recurses := true, apart := false }
def ShrinkAppliesSaid : Prop := shrinkAppliesRow.holds Try.pinned (OpenSpec.ofChange shrinkAppliesSpec)

/-- ITS FALSE NEIGHBOUR: 'it returns false'. Refute it at one input. -/
def shrinkAppliesWrong : ChangeSpec := { name := "shrinkApplies", fn := fun _ => fun
  | [d1, d2] => { results := [.lit (.bool false)], args := [d1, d2] }
  | _ => none }
def ShrinkAppliesWrongFalsely : Prop := shrinkAppliesRow.holds Try.pinned (OpenSpec.ofChange shrinkAppliesWrong)

/-- 'gatepathlaw21.ShrinkHolds': WHATEVER THE INPUT: true; the input reads as it did. -/
def shrinkHoldsSpec : ChangeSpec := { name := "shrinkHolds", fn := fun _ => fun
  | [d1, d2] => { results := [.lit (.bool true)], args := [d1, d2] }
  | _ => none }
def shrinkHoldsRow : OpenClaim := { program := "ytkcmgjagjbiinaa", sum := "8f9234750e6bfcfec76eea188dbeaad9ef615ef587af08af3a8d8016b1757661", func := "gatepath/gatepathlaw21.ShrinkHolds", spec := "shrinkHolds", inPlace := ["math/bits.Add64", "math/bits.Sub64"], unfollowed := true, recurses := true, apart := false }
def ShrinkHoldsSaid : Prop := shrinkHoldsRow.holds Try.pinned (OpenSpec.ofChange shrinkHoldsSpec)

/-- ITS FALSE NEIGHBOUR: 'it returns false'. Refute it at one input. -/
def shrinkHoldsWrong : ChangeSpec := { name := "shrinkHolds", fn := fun _ => fun
  | [d1, d2] => { results := [.lit (.bool false)], args := [d1, d2] }
  | _ => none }
def ShrinkHoldsWrongFalsely : Prop := shrinkHoldsRow.holds Try.pinned (OpenSpec.ofChange shrinkHoldsWrong)

/-- 'gatepathlaw21.ShrinkFew': WHATEVER THE INPUT: true; the input reads as it did. -/
def shrinkFewSpec : ChangeSpec := { name := "shrinkFew", fn := fun _ => fun
  | [d1, d2] => { results := [.lit (.bool true)], args := [d1, d2] }
  | _ => none }
def shrinkFewRow : OpenClaim := { program := "ytkcmgjagjbiinaa", sum := "8f9234750e6bfcfec76eea188dbeaad9ef615ef587af08af3a8d8016b1757661", func := "gatepath/gatepathlaw21.ShrinkFew", spec := "shrinkFew", inPlace := ["math/bits.Add64", "math/bits.Sub64"], unfollowed := true, recurses := true, apart := false }
def ShrinkFewSaid : Prop := shrinkFewRow.holds Try.pinned (OpenSpec.ofChange shrinkFewSpec)

/-- ITS FALSE NEIGHBOUR: 'it returns false'. Refute it at one input. -/
def shrinkFewWrong : ChangeSpec := { name := "shrinkFew", fn := fun _ => fun
  | [d1, d2] => { results := [.lit (.bool false)], args := [d1, d2] }
  | _ => none }
def ShrinkFewWrongFalsely : Prop := shrinkFewRow.holds Try.pinned (OpenSpec.ofChange shrinkFewWrong)

/-- 'gatepathlaw21.ShrinkPlans': WHATEVER THE INPUT: true; the input reads as it did. -/
def shrinkPlansSpec : ChangeSpec := { name := "shrinkPlans", fn := fun _ => fun
  | [d1, d2] => { results := [.lit (.bool true)], args := [d1, d2] }
  | _ => none }
def shrinkPlansRow : OpenClaim := { program := "ytkcmgjagjbiinaa", sum := "8f9234750e6bfcfec76eea188dbeaad9ef615ef587af08af3a8d8016b1757661", func := "gatepath/gatepathlaw21.ShrinkPlans", spec := "shrinkPlans", inPlace := ["math/bits.Add64", "math/bits.Sub64"], unfollowed := true, recurses := true, apart := false }
def ShrinkPlansSaid : Prop := shrinkPlansRow.holds Try.pinned (OpenSpec.ofChange shrinkPlansSpec)

/-- ITS FALSE NEIGHBOUR: 'it returns false'. Refute it at one input. -/
def shrinkPlansWrong : ChangeSpec := { name := "shrinkPlans", fn := fun _ => fun
  | [d1, d2] => { results := [.lit (.bool false)], args := [d1, d2] }
  | _ => none }
def ShrinkPlansWrongFalsely : Prop := shrinkPlansRow.holds Try.pinned (OpenSpec.ofChange shrinkPlansWrong)

/-- 'gatepathlaw21.ShrinkSound': WHATEVER THE INPUT: true; the input reads as it did. -/
def shrinkSoundSpec : ChangeSpec := { name := "shrinkSound", fn := fun _ => fun
  | [d1, d2] => { results := [.lit (.bool true)], args := [d1, d2] }
  | _ => none }
def shrinkSoundRow : OpenClaim := { program := "ytkcmgjagjbiinaa", sum := "8f9234750e6bfcfec76eea188dbeaad9ef615ef587af08af3a8d8016b1757661", func := "gatepath/gatepathlaw21.ShrinkSound", spec := "shrinkSound", inPlace := ["math/bits.Add64", "math/bits.Sub64"], unfollowed := true, recurses := true, apart := false }
def ShrinkSoundSaid : Prop := shrinkSoundRow.holds Try.pinned (OpenSpec.ofChange shrinkSoundSpec)

/-- ITS FALSE NEIGHBOUR: 'it returns false'. Refute it at one input. -/
def shrinkSoundWrong : ChangeSpec := { name := "shrinkSound", fn := fun _ => fun
  | [d1, d2] => { results := [.lit (.bool false)], args := [d1, d2] }
  | _ => none }
def ShrinkSoundWrongFalsely : Prop := shrinkSoundRow.holds Try.pinned (OpenSpec.ofChange shrinkSoundWrong)

/-- 'gatepathlaw21.ShrinkClips': WHATEVER THE INPUT: true; the input reads as it did. -/
def shrinkClipsSpec : ChangeSpec := { name := "shrinkClips", fn := fun _ => fun
  | [d1, d2] => { results := [.lit (.bool true)], args := [d1, d2] }
  | _ => none }
def shrinkClipsRow : OpenClaim := { program := "ytkcmgjagjbiinaa", sum := "8f9234750e6bfcfec76eea188dbeaad9ef615ef587af08af3a8d8016b1757661", func := "gatepath/gatepathlaw21.ShrinkClips", spec := "shrinkClips", inPlace := ["math/bits.Add64", "math/bits.Sub64"], unfollowed := true, recurses := true, apart := false }
def ShrinkClipsSaid : Prop := shrinkClipsRow.holds Try.pinned (OpenSpec.ofChange shrinkClipsSpec)

/-- ITS FALSE NEIGHBOUR: 'it returns false'. Refute it at one input. -/
def shrinkClipsWrong : ChangeSpec := { name := "shrinkClips", fn := fun _ => fun
  | [d1, d2] => { results := [.lit (.bool false)], args := [d1, d2] }
  | _ => none }
def ShrinkClipsWrongFalsely : Prop := shrinkClipsRow.holds Try.pinned (OpenSpec.ofChange shrinkClipsWrong)

/-- 'gatepathlaw21.ShrinkNames': WHATEVER THE INPUT: true; the input reads as it did. -/
def shrinkNamesSpec : ChangeSpec := { name := "shrinkNames", fn := fun _ => fun
  | [] => { results := [.lit (.bool true)], args := [] }
  | _ => none }
def shrinkNamesRow : OpenClaim := { program := "ytkcmgjagjbiinaa", sum := "8f9234750e6bfcfec76eea188dbeaad9ef615ef587af08af3a8d8016b1757661", func := "gatepath/gatepathlaw21.ShrinkNames", spec := "shrinkNames", inPlace := ["math/bits.Add64", "math/bits.Sub64"], unfollowed := true, recurses := true, apart := false }
def ShrinkNamesSaid : Prop := shrinkNamesRow.holds Try.pinned (OpenSpec.ofChange shrinkNamesSpec)

/-- ITS FALSE NEIGHBOUR: 'it returns false'. Refute it at one input. -/
def shrinkNamesWrong : ChangeSpec := { name := "shrinkNames", fn := fun _ => fun
  | [] => { results := [.lit (.bool false)], args := [] }
  | _ => none }
def ShrinkNamesWrongFalsely : Prop := shrinkNamesRow.holds Try.pinned (OpenSpec.ofChange shrinkNamesWrong)

/- THE SECOND FORM. 'bulk': how many values and letters a reading holds, each counted each time it is reached (what is shared counts as often as it is met; a slice's spare places count too). A statement '..UptoSaid' is the law's where the arguments, and the package variables that the reading takes, are together of bulk at most 1048576: NARROWER than '..Said'. Prove '..Said' where nothing that the law and all that it calls make is longer than what came in: it says more and counts as full. Else prove '..UptoSaid'. A law counts once. -/
mutual
def uptoBulk {H : Type} : DataW H → Nat
  | .lit (.string bytes) => bytes.length + 1
  | .lit _ => 1
  | .nil => 1
  | .ptr d => uptoBulk d + 1
  | .slice elems spare => uptoBulkAll elems + uptoBulkAll spare + 1
  | .agg parts => uptoBulkAll parts + 1
  | .iface _ d => uptoBulk d + 1
  | .map entries => uptoBulkEntries entries + 1
  | .held _ => 1
def uptoBulkAll {H : Type} : List (DataW H) → Nat
  | [] => 0
  | d :: r => uptoBulk d + uptoBulkAll r
def uptoBulkEntries {H : Type} : List (Lit × DataW H) → Nat
  | [] => 0
  | x :: r => uptoBulkEntry x + uptoBulkEntries r
def uptoBulkEntry {H : Type} : Lit × DataW H → Nat
  | (.string bytes, d) => bytes.length + uptoBulk d + 1
  | (_, d) => uptoBulk d + 1
 end
def uptoSmall : (H : Type) → List (DataW H) → Bool := fun _ ds => decide (uptoBulkAll ds ≤ 1048576)
def OpenSpec.upto (s : _root_.Go.ChangeSpec) : _root_.Go.OpenSpec := { _root_.Go.OpenSpec.ofChange s with cond := some uptoSmall }

/-- 'gatepathlaw21.ShrinkApplies', WHERE WHAT IT READS IS OF BULK AT MOST 1048576: true; the input reads as it did. -/
def shrinkAppliesUptoRow : OpenClaim := { program := "ytkcmgjagjbiinaa", sum := "8f9234750e6bfcfec76eea188dbeaad9ef615ef587af08af3a8d8016b1757661", func := "gatepath/gatepathlaw21.ShrinkApplies", spec := "shrinkApplies", inPlace := ["math/bits.Add64", "math/bits.Sub64"], unfollowed := true, recurses := true, apart := false, narrowed := true }
def ShrinkAppliesUptoSaid : Prop := shrinkAppliesUptoRow.holds Try.pinned (OpenSpec.upto shrinkAppliesSpec)

/-- 'gatepathlaw21.ShrinkHolds', WHERE WHAT IT READS IS OF BULK AT MOST 1048576: true; the input reads as it did. -/
def shrinkHoldsUptoRow : OpenClaim := { program := "ytkcmgjagjbiinaa", sum := "8f9234750e6bfcfec76eea188dbeaad9ef615ef587af08af3a8d8016b1757661", func := "gatepath/gatepathlaw21.ShrinkHolds", spec := "shrinkHolds", inPlace := ["math/bits.Add64", "math/bits.Sub64"], unfollowed := true, recurses := true, apart := false, narrowed := true }
def ShrinkHoldsUptoSaid : Prop := shrinkHoldsUptoRow.holds Try.pinned (OpenSpec.upto shrinkHoldsSpec)

/-- 'gatepathlaw21.ShrinkFew', WHERE WHAT IT READS IS OF BULK AT MOST 1048576: true; the input reads as it did. -/
def shrinkFewUptoRow : OpenClaim := { program := "ytkcmgjagjbiinaa", sum := "8f9234750e6bfcfec76eea188dbeaad9ef615ef587af08af3a8d8016b1757661", func := "gatepath/gatepathlaw21.ShrinkFew", spec := "shrinkFew", inPlace := ["math/bits.Add64", "math/bits.Sub64"], unfollowed := true, recurses := true, apart := false, narrowed := true }
def ShrinkFewUptoSaid : Prop := shrinkFewUptoRow.holds Try.pinned (OpenSpec.upto shrinkFewSpec)

/-- 'gatepathlaw21.ShrinkPlans', WHERE WHAT IT READS IS OF BULK AT MOST 1048576: true; the input reads as it did. -/
def shrinkPlansUptoRow : OpenClaim := { program := "ytkcmgjagjbiinaa", sum := "8f9234750e6bfcfec76eea188dbeaad9ef615ef587af08af3a8d8016b1757661", func := "gatepath/gatepathlaw21.ShrinkPlans", spec := "shrinkPlans", inPlace := ["math/bits.Add64", "math/bits.Sub64"], unfollowed := true, recurses := true, apart := false, narrowed := true }
def ShrinkPlansUptoSaid : Prop := shrinkPlansUptoRow.holds Try.pinned (OpenSpec.upto shrinkPlansSpec)

/-- 'gatepathlaw21.ShrinkSound', WHERE WHAT IT READS IS OF BULK AT MOST 1048576: true; the input reads as it did. -/
def shrinkSoundUptoRow : OpenClaim := { program := "ytkcmgjagjbiinaa", sum := "8f9234750e6bfcfec76eea188dbeaad9ef615ef587af08af3a8d8016b1757661", func := "gatepath/gatepathlaw21.ShrinkSound", spec := "shrinkSound", inPlace := ["math/bits.Add64", "math/bits.Sub64"], unfollowed := true, recurses := true, apart := false, narrowed := true }
def ShrinkSoundUptoSaid : Prop := shrinkSoundUptoRow.holds Try.pinned (OpenSpec.upto shrinkSoundSpec)

/-- 'gatepathlaw21.ShrinkClips', WHERE WHAT IT READS IS OF BULK AT MOST 1048576: true; the input reads as it did. -/
def shrinkClipsUptoRow : OpenClaim := { program := "ytkcmgjagjbiinaa", sum := "8f9234750e6bfcfec76eea188dbeaad9ef615ef587af08af3a8d8016b1757661", func := "gatepath/gatepathlaw21.ShrinkClips", spec := "shrinkClips", inPlace := ["math/bits.Add64", "math/bits.Sub64"], unfollowed := true, recurses := true, apart := false, narrowed := true }
def ShrinkClipsUptoSaid : Prop := shrinkClipsUptoRow.holds Try.pinned (OpenSpec.upto shrinkClipsSpec)

/-- 'gatepathlaw21.ShrinkNames', WHERE WHAT IT READS IS OF BULK AT MOST 1048576: true; the input reads as it did. -/
def shrinkNamesUptoRow : OpenClaim := { program := "ytkcmgjagjbiinaa", sum := "8f9234750e6bfcfec76eea188dbeaad9ef615ef587af08af3a8d8016b1757661", func := "gatepath/gatepathlaw21.ShrinkNames", spec := "shrinkNames", inPlace := ["math/bits.Add64", "math/bits.Sub64"], unfollowed := true, recurses := true, apart := false, narrowed := true }
def ShrinkNamesUptoSaid : Prop := shrinkNamesUptoRow.holds Try.pinned (OpenSpec.upto shrinkNamesSpec)

end Rows
end Go.Proofs.Ytkcmgjagjbiinaa
