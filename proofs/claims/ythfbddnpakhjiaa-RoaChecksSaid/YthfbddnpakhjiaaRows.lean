/-
  No cell of these rows narrows 'for every input' (looked for: loops, veiled, ifaces, maps, wideKeys, modest, calm, conditions, laid).
  DERIVED. THE GIVEN ROWS OF THIS SEAT. 7 by the template 'for every input the law returns true; each argument reads behind the call as it read before'; 0 by the template 'total and deterministic' (their statements: YthfbddnpakhjiaaTotals.lean).
  GIVEN WITH THE SEED: the statements are not yours to turn. If you find one false, say at which input.
  Laid BY PROGRAM, IN A SANDBOX (cutbox-rows.mjs): the forced cells as the released guide's own fill.sh prints them over the translation 85a6a7de0efcb54c… (all of the seat's roots in one cut). By AI agents, Wed Nov 11 2026. No macro, syntax, notation, axiom, sorry.
-/
import Derived.Test.YthfbddnpakhjiaaChecked
import GoSem.Claim
import GoSem.ClaimJoined
import GoSem.ClaimMapViews
import Derived.JoinedTies
import Derived.KernelRfl
namespace Go.Proofs.Ythfbddnpakhjiaa
/- THE CELL 'sum', in the pinned program and in every row, IS THE sha256 OF THE DUMP (.gsa) THAT YthfbddnpakhjiaaProg.lean LOADS. Nothing in Lean hashes anything: it is a label: what it is worth is what the hold of that sum in a sandbox is worth. -/
noncomputable def Try.pinned : Pinned := { name := "ythfbddnpakhjiaa", sum := "85a6a7de0efcb54c1a1ee07aeb729e8dc98ff22d3247ef81c7f1786d4e147218", checked := Try.checked }
namespace Rows
def none {H : Type} : Left H := { results := [], args := [] }

/-- 'gatepathlaw14.RoaAllows': WHATEVER THE INPUT: true; the input reads as it did. -/
def roaAllowsSpec : ChangeSpec := { name := "roaAllows", fn := fun _ => fun
  | [d1, d2, d3] => { results := [.lit (.bool true)], args := [d1, d2, d3] }
  | _ => none }
def roaAllowsRow : OpenClaim := { program := "ythfbddnpakhjiaa", sum := "85a6a7de0efcb54c1a1ee07aeb729e8dc98ff22d3247ef81c7f1786d4e147218", func := "gatepath/gatepathlaw14.RoaAllows", spec := "roaAllows", unfollowed := true, recurses := true, apart := false }
def RoaAllowsSaid : Prop := roaAllowsRow.holds Try.pinned (OpenSpec.ofChange roaAllowsSpec)

/-- ITS FALSE NEIGHBOUR: 'it returns false'. Refute it at one input. -/
def roaAllowsWrong : ChangeSpec := { name := "roaAllows", fn := fun _ => fun
  | [d1, d2, d3] => { results := [.lit (.bool false)], args := [d1, d2, d3] }
  | _ => none }
def RoaAllowsWrongFalsely : Prop := roaAllowsRow.holds Try.pinned (OpenSpec.ofChange roaAllowsWrong)

/-- 'gatepathlaw14.RoaCodes': WHATEVER THE INPUT: true; the input reads as it did. -/
def roaCodesSpec : ChangeSpec := { name := "roaCodes", fn := fun _ => fun
  | [d1, d2] => { results := [.lit (.bool true)], args := [d1, d2] }
  | _ => none }
def roaCodesRow : OpenClaim := { program := "ythfbddnpakhjiaa", sum := "85a6a7de0efcb54c1a1ee07aeb729e8dc98ff22d3247ef81c7f1786d4e147218", func := "gatepath/gatepathlaw14.RoaCodes", spec := "roaCodes", unfollowed := true, recurses := true, apart := false }
def RoaCodesSaid : Prop := roaCodesRow.holds Try.pinned (OpenSpec.ofChange roaCodesSpec)

/-- ITS FALSE NEIGHBOUR: 'it returns false'. Refute it at one input. -/
def roaCodesWrong : ChangeSpec := { name := "roaCodes", fn := fun _ => fun
  | [d1, d2] => { results := [.lit (.bool false)], args := [d1, d2] }
  | _ => none }
def RoaCodesWrongFalsely : Prop := roaCodesRow.holds Try.pinned (OpenSpec.ofChange roaCodesWrong)

/-- 'gatepathlaw14.RoaBack': WHATEVER THE INPUT: true; the input reads as it did. -/
def roaBackSpec : ChangeSpec := { name := "roaBack", fn := fun _ => fun
  | [d] => { results := [.lit (.bool true)], args := [d] }
  | _ => none }
def roaBackRow : OpenClaim := { program := "ythfbddnpakhjiaa", sum := "85a6a7de0efcb54c1a1ee07aeb729e8dc98ff22d3247ef81c7f1786d4e147218", func := "gatepath/gatepathlaw14.RoaBack", spec := "roaBack", unfollowed := true, recurses := true, apart := false }
def RoaBackSaid : Prop := roaBackRow.holds Try.pinned (OpenSpec.ofChange roaBackSpec)

/-- ITS FALSE NEIGHBOUR: 'it returns false'. Refute it at one input. -/
def roaBackWrong : ChangeSpec := { name := "roaBack", fn := fun _ => fun
  | [d] => { results := [.lit (.bool false)], args := [d] }
  | _ => none }
def RoaBackWrongFalsely : Prop := roaBackRow.holds Try.pinned (OpenSpec.ofChange roaBackWrong)

/-- 'gatepathlaw14.RoaOnce': WHATEVER THE INPUT: true; the input reads as it did. -/
def roaOnceSpec : ChangeSpec := { name := "roaOnce", fn := fun _ => fun
  | [d] => { results := [.lit (.bool true)], args := [d] }
  | _ => none }
def roaOnceRow : OpenClaim := { program := "ythfbddnpakhjiaa", sum := "85a6a7de0efcb54c1a1ee07aeb729e8dc98ff22d3247ef81c7f1786d4e147218", func := "gatepath/gatepathlaw14.RoaOnce", spec := "roaOnce", unfollowed := true, recurses := true, apart := false }
def RoaOnceSaid : Prop := roaOnceRow.holds Try.pinned (OpenSpec.ofChange roaOnceSpec)

/-- ITS FALSE NEIGHBOUR: 'it returns false'. Refute it at one input. -/
def roaOnceWrong : ChangeSpec := { name := "roaOnce", fn := fun _ => fun
  | [d] => { results := [.lit (.bool false)], args := [d] }
  | _ => none }
def RoaOnceWrongFalsely : Prop := roaOnceRow.holds Try.pinned (OpenSpec.ofChange roaOnceWrong)

/-- 'gatepathlaw14.RoaOrigins': WHATEVER THE INPUT: true; the input reads as it did. -/
def roaOriginsSpec : ChangeSpec := { name := "roaOrigins", fn := fun _ => fun
  | [d1, d2, d3] => { results := [.lit (.bool true)], args := [d1, d2, d3] }
  | _ => none }
def roaOriginsRow : OpenClaim := { program := "ythfbddnpakhjiaa", sum := "85a6a7de0efcb54c1a1ee07aeb729e8dc98ff22d3247ef81c7f1786d4e147218", func := "gatepath/gatepathlaw14.RoaOrigins", spec := "roaOrigins", unfollowed := true, recurses := true, apart := false }
def RoaOriginsSaid : Prop := roaOriginsRow.holds Try.pinned (OpenSpec.ofChange roaOriginsSpec)

/-- ITS FALSE NEIGHBOUR: 'it returns false'. Refute it at one input. -/
def roaOriginsWrong : ChangeSpec := { name := "roaOrigins", fn := fun _ => fun
  | [d1, d2, d3] => { results := [.lit (.bool false)], args := [d1, d2, d3] }
  | _ => none }
def RoaOriginsWrongFalsely : Prop := roaOriginsRow.holds Try.pinned (OpenSpec.ofChange roaOriginsWrong)

/-- 'gatepathlaw14.RoaChecks': WHATEVER THE INPUT: true; the input reads as it did. -/
def roaChecksSpec : ChangeSpec := { name := "roaChecks", fn := fun _ => fun
  | [d1, d2] => { results := [.lit (.bool true)], args := [d1, d2] }
  | _ => none }
def roaChecksRow : OpenClaim := { program := "ythfbddnpakhjiaa", sum := "85a6a7de0efcb54c1a1ee07aeb729e8dc98ff22d3247ef81c7f1786d4e147218", func := "gatepath/gatepathlaw14.RoaChecks", spec := "roaChecks", inPlace := ["math/bits.Add64"], unfollowed := true, recurses := true, apart := false }
def RoaChecksSaid : Prop := roaChecksRow.holds Try.pinned (OpenSpec.ofChange roaChecksSpec)

/-- ITS FALSE NEIGHBOUR: 'it returns false'. Refute it at one input. -/
def roaChecksWrong : ChangeSpec := { name := "roaChecks", fn := fun _ => fun
  | [d1, d2] => { results := [.lit (.bool false)], args := [d1, d2] }
  | _ => none }
def RoaChecksWrongFalsely : Prop := roaChecksRow.holds Try.pinned (OpenSpec.ofChange roaChecksWrong)

/-- 'gatepathlaw14.RoaNames': WHATEVER THE INPUT: true; the input reads as it did. -/
def roaNamesSpec : ChangeSpec := { name := "roaNames", fn := fun _ => fun
  | [] => { results := [.lit (.bool true)], args := [] }
  | _ => none }
def roaNamesRow : OpenClaim := { program := "ythfbddnpakhjiaa", sum := "85a6a7de0efcb54c1a1ee07aeb729e8dc98ff22d3247ef81c7f1786d4e147218", func := "gatepath/gatepathlaw14.RoaNames", spec := "roaNames", inPlace := ["math/bits.Add64"], unfollowed := true, recurses := true, apart := false }
def RoaNamesSaid : Prop := roaNamesRow.holds Try.pinned (OpenSpec.ofChange roaNamesSpec)

/-- ITS FALSE NEIGHBOUR: 'it returns false'. Refute it at one input. -/
def roaNamesWrong : ChangeSpec := { name := "roaNames", fn := fun _ => fun
  | [] => { results := [.lit (.bool false)], args := [] }
  | _ => none }
def RoaNamesWrongFalsely : Prop := roaNamesRow.holds Try.pinned (OpenSpec.ofChange roaNamesWrong)

/- THE SECOND FORM. 'bulk': how many values and letters a reading holds, each counted each time it is reached (what is shared counts as often as it is met; a slice's spare places count too). A statement '..UptoSaid' is the law's where the arguments, and the package variables that the reading takes, are together of bulk at most 1048576: NARROWER than '..Said'. Prove '..Said' where nothing that the law and all that it calls make is longer than what came in: it says more and counts as full. Else prove '..UptoSaid'. A law counts once. -/
mutual
def uptoBulk {H : Type} : DataW H → Nat
  | .lit (.string bytes) => bytes.length + 1
  | .lit _ => 1
  | .nil => 1
  | .ptr d => uptoBulk d + 1
  | .slice elems spare => uptoBulkAll elems + uptoBulkAll spare + 1
  | .agg parts => uptoBulkAll parts + 1
  | .iface _ d => uptoBulk d + 1
  | .map entries => uptoBulkEntries entries + 1
  | .held _ => 1
def uptoBulkAll {H : Type} : List (DataW H) → Nat
  | [] => 0
  | d :: r => uptoBulk d + uptoBulkAll r
def uptoBulkEntries {H : Type} : List (Lit × DataW H) → Nat
  | [] => 0
  | x :: r => uptoBulkEntry x + uptoBulkEntries r
def uptoBulkEntry {H : Type} : Lit × DataW H → Nat
  | (.string bytes, d) => bytes.length + uptoBulk d + 1
  | (_, d) => uptoBulk d + 1
 end
def uptoSmall : (H : Type) → List (DataW H) → Bool := fun _ ds => decide (uptoBulkAll ds ≤ 1048576)
def OpenSpec.upto (s : _root_.Go.ChangeSpec) : _root_.Go.OpenSpec := { _root_.Go.OpenSpec.ofChange s with cond := some uptoSmall }

/-- 'gatepathlaw14.RoaAllows', WHERE WHAT IT READS IS OF BULK AT MOST 1048576: true; the input reads as it did. -/
def roaAllowsUptoRow : OpenClaim := { program := "ythfbddnpakhjiaa", sum := "85a6a7de0efcb54c1a1ee07aeb729e8dc98ff22d3247ef81c7f1786d4e147218", func := "gatepath/gatepathlaw14.RoaAllows", spec := "roaAllows", unfollowed := true, recurses := true, apart := false, narrowed := true }
def RoaAllowsUptoSaid : Prop := roaAllowsUptoRow.holds Try.pinned (OpenSpec.upto roaAllowsSpec)

/-- 'gatepathlaw14.RoaCodes', WHERE WHAT IT READS IS OF BULK AT MOST 1048576: true; the input reads as it did. -/
def roaCodesUptoRow : OpenClaim := { program := "ythfbddnpakhjiaa", sum := "85a6a7de0efcb54c1a1ee07aeb729e8dc98ff22d3247ef81c7f1786d4e147218", func := "gatepath/gatepathlaw14.RoaCodes", spec := "roaCodes", unfollowed := true, recurses := true, apart := false, narrowed := true }
def RoaCodesUptoSaid : Prop := roaCodesUptoRow.holds Try.pinned (OpenSpec.upto roaCodesSpec)

/-- 'gatepathlaw14.RoaBack', WHERE WHAT IT READS IS OF BULK AT MOST 1048576: true; the input reads as it did. -/
def roaBackUptoRow : OpenClaim := { program := "ythfbddnpakhjiaa", sum := "85a6a7de0efcb54c1a1ee07aeb729e8dc98ff22d3247ef81c7f1786d4e147218", func := "gatepath/gatepathlaw14.RoaBack", spec := "roaBack", unfollowed := true, recurses := true, apart := false, narrowed := true }
def RoaBackUptoSaid : Prop := roaBackUptoRow.holds Try.pinned (OpenSpec.upto roaBackSpec)

/-- 'gatepathlaw14.RoaOnce', WHERE WHAT IT READS IS OF BULK AT MOST 1048576: true; the input reads as it did. -/
def roaOnceUptoRow : OpenClaim := { program := "ythfbddnpakhjiaa", sum := "85a6a7de0efcb54c1a1ee07aeb729e8dc98ff22d3247ef81c7f1786d4e147218", func := "gatepath/gatepathlaw14.RoaOnce", spec := "roaOnce", unfollowed := true, recurses := true, apart := false, narrowed := true }
def RoaOnceUptoSaid : Prop := roaOnceUptoRow.holds Try.pinned (OpenSpec.upto roaOnceSpec)

/-- 'gatepathlaw14.RoaOrigins', WHERE WHAT IT READS IS OF BULK AT MOST 1048576: true; the input reads as it did. -/
def roaOriginsUptoRow : OpenClaim := { program := "ythfbddnpakhjiaa", sum := "85a6a7de0efcb54c1a1ee07aeb729e8dc98ff22d3247ef81c7f1786d4e147218", func := "gatepath/gatepathlaw14.RoaOrigins", spec := "roaOrigins", unfollowed := true, recurses := true, apart := false, narrowed := true }
def RoaOriginsUptoSaid : Prop := roaOriginsUptoRow.holds Try.pinned (OpenSpec.upto roaOriginsSpec)

/-- 'gatepathlaw14.RoaChecks', WHERE WHAT IT READS IS OF BULK AT MOST 1048576: true; the input reads as it did. -/
def roaChecksUptoRow : OpenClaim := { program := "ythfbddnpakhjiaa", sum := "85a6a7de0efcb54c1a1ee07aeb729e8dc98ff22d3247ef81c7f1786d4e147218", func := "gatepath/gatepathlaw14.RoaChecks", spec := "roaChecks", inPlace := ["math/bits.Add64"], unfollowed := true, recurses := true, apart := false, narrowed := true }
def RoaChecksUptoSaid : Prop := roaChecksUptoRow.holds Try.pinned (OpenSpec.upto roaChecksSpec)

/-- 'gatepathlaw14.RoaNames', WHERE WHAT IT READS IS OF BULK AT MOST 1048576: true; the input reads as it did. -/
def roaNamesUptoRow : OpenClaim := { program := "ythfbddnpakhjiaa", sum := "85a6a7de0efcb54c1a1ee07aeb729e8dc98ff22d3247ef81c7f1786d4e147218", func := "gatepath/gatepathlaw14.RoaNames", spec := "roaNames", inPlace := ["math/bits.Add64"], unfollowed := true, recurses := true, apart := false, narrowed := true }
def RoaNamesUptoSaid : Prop := roaNamesUptoRow.holds Try.pinned (OpenSpec.upto roaNamesSpec)

end Rows
end Go.Proofs.Ythfbddnpakhjiaa
