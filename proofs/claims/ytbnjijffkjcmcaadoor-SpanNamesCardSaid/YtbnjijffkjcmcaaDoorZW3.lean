import Derived.Test.YtbnjijffkjcmcaaDoorZW2
import Derived.Test.YtbnjijffkjcmcaaDoorZW1
/- What single functions compute: a part of the proof; no conditions. -/
set_option linter.unusedVariables false
set_option linter.unusedSimpArgs false
set_option maxRecDepth 100000
namespace Go.Proofs.YtbnjijffkjcmcaaDoor.AL
open Go
attribute [local simp] qf cv qbin ibin sbin qun retPost rvOk ctV ctPost marksOk retV resAll resOf V.lt ltL V.ren renL V.exp V.exp1 cleanL V.clean closedL V.closed V.cells V.one V.tree
  loadV cellsAt isNC nilQ isSlD isIfD slNew ownRows ownCells V.isOwn slStore srcO qlook mlook mget mstr zval qnone qmake mput lmap isAggD placesOf fillV putCells lstore bound seqParts V.sh shL Blk.sh newV V.ok peqs peq srcRows qbytes byteSl appOk mmV mmR hidE V.fz fzL Blk.fz fzOk and_assoc
attribute [-simp] Int.not_le Int.not_lt Nat.not_le Nat.not_lt
def cAddr (f h l : Int) : Bool := f == 6 || (f == 4 && h == 0 && decide (l < 4294967296))
def wid (f : Int) : Int := if f = 4 then 32 else if f = 6 then 128 else 0
def SWid : List V → Option Res
  | [.int .u8 f] => some ⟨.int .i64 (wid f), []⟩
  | _ => none
def SAddr : List V → Option Res
  | [.int .u8 f, .agg [.int .u64 h, .int .u64 l]] => some ⟨.bool (cAddr f h l), []⟩
  | _ => none
theorem runs_number_width : ∀ args r, SWid args = some r → Runs Tryd.prog 45 args r := by
  intro args r h
  unfold SWid at h
  split at h
  · rename_i f
    cases h
    refine Runs.of_body Tryd.func45 (by decide) rfl (by simp [Tryd.f45]) (W.of_WE (T0_ok _) (by kernel_rfl) M0 _ (by kernel_rfl) ?_)
    simp +contextual [Tryd.f45, wid]
    try grind
  · cases h
theorem runs_ref01_Width : ∀ args r, SWid args = some r → Runs Tryd.prog 73 args r := by
  intro args r h
  unfold SWid at h
  split at h
  · rename_i f
    cases h
    refine Runs.of_body Tryd.func73 (by decide) rfl (by simp [Tryd.f73]) (W.of_WE (T0_ok _) (by kernel_rfl) M0 _ (by kernel_rfl) ?_)
    simp +contextual [Tryd.f73, wid]
    try grind
  · cases h
theorem runs_number_CheckAddr : ∀ args r, SAddr args = some r → Runs Tryd.prog 31 args r := by
  intro args r h
  unfold SAddr at h
  split at h
  · rename_i f h l
    cases h
    refine Runs.of_body Tryd.func31 (by decide) rfl (by simp [Tryd.f31]) (W.of_WE (T0_ok _) (by kernel_rfl) M0 _ (by kernel_rfl) ?_)
    simp +contextual [Tryd.f31, cAddr]
    try grind
  · cases h
theorem runs_ref01_CheckAddr : ∀ args r, SAddr args = some r → Runs Tryd.prog 51 args r := by
  intro args r h
  unfold SAddr at h
  split at h
  · rename_i f h l
    cases h
    refine Runs.of_body Tryd.func51 (by decide) rfl (by simp [Tryd.f51]) (W.of_WE (T0_ok _) (by kernel_rfl) M0 _ (by kernel_rfl) ?_)
    simp +contextual [Tryd.f51, cAddr]
    try grind
  · cases h

end Go.Proofs.YtbnjijffkjcmcaaDoor.AL
namespace Go.Proofs.YtbnjijffkjcmcaaDoor.AL
open Go
attribute [local simp] qf cv qbin ibin sbin qun retPost rvOk ctV ctPost marksOk retV resAll resOf V.lt ltL V.ren renL V.exp V.exp1 cleanL V.clean closedL V.closed V.cells V.one V.tree
  loadV cellsAt isNC nilQ isSlD isIfD slNew ownRows ownCells V.isOwn slStore srcO qlook mlook mget mstr zval qnone qmake mput lmap isAggD placesOf fillV putCells lstore bound seqParts V.sh shL Blk.sh newV V.ok peqs peq srcRows qbytes byteSl appOk mmV mmR hidE V.fz fzL Blk.fz fzOk and_assoc
attribute [-simp] Int.not_le Int.not_lt Nat.not_le Nat.not_lt
def goodC (c : Int) : Bool := (decide (97 ≤ c) && decide (c ≤ 122)) || (decide (65 ≤ c) && decide (c ≤ 90)) || (decide (48 ≤ c) && decide (c ≤ 57)) || decide (c = 45) || decide (c = 95)
def SGood : List V → Option Res
  | [.int .u8 c] => some ⟨.bool (goodC c), []⟩
  | _ => none
theorem runs_number_Name_1 : ∀ args r, SGood args = some r → Runs Tryd.prog 67 args r := by
  intro args r h
  unfold SGood at h
  split at h
  · rename_i c
    cases h
    refine Runs.of_body Tryd.func67 (by decide) rfl (by simp [Tryd.f67]) (W.of_WE (T0_ok _) (by kernel_rfl) M0 _ (by kernel_rfl) ?_)
    simp +contextual (maxSteps := 1000000) [Tryd.f67]
    simp [goodC]
    repeat' (first | apply And.intro | intro _)
    all_goals (first | omega | (apply propext; omega))
  · cases h
def SNan : List V → Option Res
  | [.int .u64 c] => some ⟨.bool false, []⟩
  | _ => none
theorem runs_cmp_isNaN_uint64_ : ∀ args r, SNan args = some r → Runs Tryd.prog 92 args r := by
  intro args r h
  unfold SNan at h
  split at h
  · rename_i c
    cases h
    refine Runs.of_body Tryd.func92 (by decide) rfl (by simp [Tryd.f92]) (W.of_WE (T0_ok _) (by kernel_rfl) M0 _ (by kernel_rfl) ?_)
    simp +contextual [Tryd.f92]
  · cases h
def cmpI (a b : Int) : Int := if a < b then -1 else if a > b then 1 else 0
def SCmp : List V → Option Res
  | [.int .u64 a, .int .u64 b] => some ⟨.int .i64 (cmpI a b), []⟩
  | _ => none
theorem runs_cmp_Compare_uint64_ : ∀ args r, SCmp args = some r → Runs Tryd.prog 66 args r := by
  intro args r h
  unfold SCmp at h
  split at h
  · rename_i c
    cases h
    refine Runs.of_body Tryd.func66 (by decide) rfl (by simp [Tryd.f66]) (W.of_WE (T := T0.add 92 SNan) (Tab.add_ok (T0_ok _) runs_cmp_isNaN_uint64_) (by kernel_rfl) M0 _ (by kernel_rfl) ?_)
    simp +contextual [Tryd.f66, SNan]
    simp only [cmpI]
    grind
  · cases h
def cmpA (a b c d : Int) : Int := if a = c ∧ b = d then 0 else if a < c ∨ (a = c ∧ b < d) then -1 else 1
def SCompare : List V → Option Res
  | [.agg [.int .u64 a, .int .u64 b], .agg [.int .u64 c, .int .u64 d]] => some ⟨.int .i64 (cmpA a b c d), []⟩
  | _ => none
theorem runs_number_Compare : ∀ args r, SCompare args = some r → Runs Tryd.prog 32 args r := by
  intro args r h
  unfold SCompare at h
  split at h
  · rename_i c
    cases h
    refine Runs.of_body Tryd.func32 (by decide) rfl (by simp [Tryd.f32]) (W.of_WE (T := T0.add 66 SCmp) (Tab.add_ok (T0_ok _) runs_cmp_Compare_uint64_) (by kernel_rfl) M0 _ (by kernel_rfl) ?_)
    simp +contextual [Tryd.f32, SCmp]
    simp only [cmpI, cmpA]
    grind
  · cases h
end Go.Proofs.YtbnjijffkjcmcaaDoor.AL
namespace Go.Proofs.YtbnjijffkjcmcaaDoor.AL
open Go
attribute [local simp] qf cv qbin ibin sbin qun retPost rvOk ctV ctPost marksOk retV resAll resOf V.lt ltL V.ren renL V.exp V.exp1 cleanL V.clean closedL V.closed V.cells V.one V.tree
  loadV cellsAt isNC nilQ isSlD isIfD slNew ownRows ownCells V.isOwn slStore srcO qlook mlook mget mstr zval qnone qmake mput lmap isAggD placesOf fillV putCells lstore bound seqParts V.sh shL Blk.sh newV V.ok peqs peq srcRows qbytes byteSl appOk mmV mmR hidE V.fz fzL Blk.fz fzOk and_assoc
attribute [-simp] Int.not_le Int.not_lt Nat.not_le Nat.not_lt
def nameS (s : ByteArray) : Bool := (decide (1 ≤ s.size) && decide (s.size ≤ 40)) && (List.range s.size).all fun i => goodC (sat s i)
theorem nameS_bad {s : ByteArray} {k : Nat} (hk : k < s.size) (h : goodC (sat s k) = false) : nameS s = false := by
  unfold nameS
  have : ((List.range s.size).all fun i => goodC (sat s i)) = false := by
    rw [List.all_eq_false]
    exact ⟨k, by simpa using hk, by simpa using h⟩
  rw [this, Bool.and_false]
theorem nameS_good {s : ByteArray} (h : ∀ i, i < s.size → goodC (sat s i) = true) : nameS s = (decide (1 ≤ s.size) && decide (s.size ≤ 40)) := by
  unfold nameS
  have : ((List.range s.size).all fun i => goodC (sat s i)) = true := by
    rw [List.all_eq_true]
    intro i hi
    exact h i (by simpa using hi)
  rw [this, Bool.and_true]
def SName : List V → Option Res
  | [.str s] => if s.size ≤ 9223372036854775807 then some ⟨.bool (nameS s), []⟩ else none
  | _ => none
theorem runs_number_Name : ∀ args r, SName args = some r → Runs Tryd.prog 33 args r := by
  intro args r h
  unfold SName at h
  split at h
  · rename_i s
    split at h
    · rename_i hs
      cases h
      have hT : (T0.add 67 SGood).ok Tryd.prog := Tab.add_ok (T0_ok _) runs_number_Name_1
      refine Runs.of_body Tryd.func33 (by decide) rfl (by simp [Tryd.f33]) ?_
      refine W.seqE hT mixed M0 (by kernel_rfl) ?_
      simp +contextual [Tryd.f33]
      refine W.seqE hT mixed M0 (by kernel_rfl) ?_
      simp +contextual [Tryd.f33]
      refine W.cut (∀ i, i < s.size → goodC (sat s i) = true) [(0, .str s)] [] 25 ?_ ?_
      · refine W.seqE hT mixed M0 (by kernel_rfl) ?_
        simp +contextual [Tryd.f33]
        refine W.block (W.for (fun k => ∀ i, i < k → goodC (sat s i) = true) (fun k => [(0, .str s), (3, .fn 67 [] []), (6, .int .i64 s.size), (7, .int .i64 k)]) (fun _ => []) 25 s.size (by simp) ?_ ?_)
        · simp
        · intro k hk hJ
          refine W.of_WE hT mixed M0 _ (by kernel_rfl) ?_
          simp +contextual [SGood, Tryd.f33]
          refine ⟨fun hlt => ⟨fun hg => (nameS_bad hlt hg), fun hg => ⟨fun i hi => ?_, ?_⟩⟩, fun hle i hi => hJ i (by omega)⟩
          · by_cases hik : i = k
            · subst hik; exact hg
            · exact hJ i (by omega)
          · rw [wrap_i64]; omega
      · intro hC
        refine W.of_WE hT mixed M0 _ (by kernel_rfl) ?_
        simp +contextual [Tryd.f33]
        rw [nameS_good hC]
        refine ⟨fun h => ?_, fun h => ?_⟩
        · have h1 : 1 ≤ s.size := by omega
          simp only [h1, decide_true, Bool.true_and, decide_eq_decide]
          omega
        · have h1 : ¬ 1 ≤ s.size := by omega
          simp only [h1, decide_false, Bool.false_and]
    · cases h
  · cases h

end Go.Proofs.YtbnjijffkjcmcaaDoor.AL
namespace Go.Proofs.YtbnjijffkjcmcaaDoor.AL
open Go
attribute [local simp] qf cv qbin ibin sbin qun retPost rvOk ctV ctPost marksOk retV resAll resOf V.lt ltL V.ren renL V.exp V.exp1 cleanL V.clean closedL V.closed V.cells V.one V.tree
  loadV cellsAt isNC nilQ isSlD isIfD slNew ownRows ownCells V.isOwn slStore srcO qlook mlook mget mstr zval qnone qmake mput lmap isAggD placesOf fillV putCells lstore bound seqParts V.sh shL Blk.sh newV V.ok peqs peq srcRows qbytes byteSl appOk mmV mmR hidE V.fz fzL Blk.fz fzOk and_assoc
attribute [-simp] Int.not_le Int.not_lt Nat.not_le Nat.not_lt
theorem pow_lt64 {k : Nat} (h : k ≤ 63) : 2 ^ k ≤ 9223372036854775808 := by
  have := Nat.pow_le_pow_right (n := 2) (by omega) h
  simpa using this
def SPow : List V → Option Res
  | [.int .i64 n] => if 0 ≤ n ∧ n ≤ 63 then some ⟨.int .u64 (2 ^ n.toNat), []⟩ else none
  | _ => none
theorem runs_ref01_power : ∀ args r, SPow args = some r → Runs Tryd.prog 81 args r := by
  intro args r h
  unfold SPow at h
  split at h
  · rename_i n
    split at h
    · rename_i hn
      cases h
      obtain ⟨n, rfl⟩ : ∃ m : Nat, n = m := ⟨n.toNat, by omega⟩
      refine Runs.of_body Tryd.func81 (by decide) rfl (by simp [Tryd.f81]) ?_
      refine W.seqE (T0_ok _) mixed M0 (by kernel_rfl) ?_
      simp +contextual [Tryd.f81]
      refine W.seqE (T0_ok _) mixed M0 (by kernel_rfl) ?_
      simp +contextual [Tryd.f81]
      refine W.cut True [(3, .int .u64 (2 ^ n))] [] 14 ?_ ?_
      · refine W.seqE (T0_ok _) mixed M0 (by kernel_rfl) ?_
        simp +contextual [Tryd.f81]
        refine W.block (W.for (fun _ => True) (fun k => [(0, .int .i64 n), (3, .int .u64 (2 ^ k)), (4, .int .i64 k)]) (fun _ => []) 14 n trivial ?_ ?_)
        · simp
        · intro k hk _
          refine W.of_WE (T0_ok _) mixed M0 _ (by kernel_rfl) ?_
          simp +contextual
          refine ⟨fun hlt => ?_, fun hle => by rw [show k = n by omega]⟩
          have h1 := pow_lt64 (k := k) (by omega)
          have h2 : ((2 ^ k : Nat) : Int) = (2 : Int) ^ k := by push_cast; rfl
          have h3 : (2 : Int) ^ (k + 1) = 2 * 2 ^ k := by rw [Int.pow_succ, Int.mul_comm]
          have h4 : (0 : Int) < 2 ^ k := Int.pow_pos (by omega)
          have h5 : (2 : Int) ^ (k + 1) ≤ 9223372036854775808 := by
            have := pow_lt64 (k := k + 1) (by omega)
            rw [show (2 : Int) ^ (k + 1) = ((2 ^ (k + 1) : Nat) : Int) by push_cast; rfl]
            omega
          rw [wrap_u64, wrap_i64]
          generalize hp : (2 : Int) ^ k = p at *
          rw [h3] at h5 ⊢
          constructor <;> omega
      · intro _
        refine W.of_WE (T0_ok _) mixed M0 _ (by kernel_rfl) ?_
        simp +contextual [Tryd.f81]
    · cases h
  · cases h

end Go.Proofs.YtbnjijffkjcmcaaDoor.AL
namespace Go.Proofs.YtbnjijffkjcmcaaDoor.AL
open Go
attribute [local simp] qf cv qbin ibin sbin qun retPost rvOk ctV ctPost marksOk retV resAll resOf V.lt ltL V.ren renL V.exp V.exp1 cleanL V.clean closedL V.closed V.cells V.one V.tree
  loadV cellsAt isNC nilQ isSlD isIfD slNew ownRows ownCells V.isOwn slStore srcO qlook mlook mget mstr zval qnone qmake mput lmap isAggD placesOf fillV putCells lstore bound seqParts V.sh shL Blk.sh newV V.ok peqs peq srcRows qbytes byteSl appOk mmV mmR hidE V.fz fzL Blk.fz fzOk and_assoc
attribute [-simp] Int.not_le Int.not_lt Nat.not_le Nat.not_lt
theorem size0 {s : ByteArray} (h : s.size = 0) : s = ByteArray.empty := by
  cases s with
  | mk d =>
    have : d = #[] := Array.eq_empty_of_size_eq_zero h
    subst this; rfl
end Go.Proofs.YtbnjijffkjcmcaaDoor.AL
namespace Go.Proofs.YtbnjijffkjcmcaaDoor.AL
open Go
attribute [local simp] qf cv qbin ibin sbin qun retPost rvOk ctV ctPost marksOk retV resAll resOf V.lt ltL V.ren renL V.exp V.exp1 cleanL V.clean closedL V.closed V.cells V.one V.tree
  loadV cellsAt isNC nilQ isSlD isIfD slNew ownRows ownCells V.isOwn slStore srcO qlook mlook mget mstr zval qnone qmake mput lmap isAggD placesOf fillV putCells lstore bound seqParts V.sh shL Blk.sh newV V.ok peqs peq srcRows qbytes byteSl appOk mmV mmR hidE V.fz fzL Blk.fz fzOk and_assoc
attribute [-simp] Int.not_le Int.not_lt Nat.not_le Nat.not_lt
def inA (h l : Int) : Prop := 0 ≤ h ∧ h ≤ 18446744073709551615 ∧ 0 ≤ l ∧ l ≤ 18446744073709551615
instance (h l : Int) : Decidable (inA h l) := by unfold inA; infer_instance
def widN (f : Int) : Nat := if f = 4 then 32 else if f = 6 then 128 else 0
theorem wid_N (f : Int) : wid f = widN f := by unfold wid widN; split; rfl; split <;> rfl
theorem widN_le (f : Int) : widN f ≤ 128 := by unfold widN; split; omega; split <;> omega
def SBits : List V → Option Res
  | [.int .u8 f, .agg [.int .u64 h, .int .u64 l]] => if inA h l then some ⟨.own 0, [.sl 1 3 (rg (widN f) fun i => bt h l (widN f - 1 - i))]⟩ else none
  | _ => none
theorem runs_ref01_Bits : ∀ args r, SBits args = some r → Runs Tryd.prog 52 args r := by
  intro args r h
  unfold SBits at h
  split at h
  · rename_i f h l
    split at h
    · rename_i hin
      cases h
      have hT : ((T0.add 73 SWid).add 81 SPow).ok Tryd.prog := Tab.add_ok (Tab.add_ok (T0_ok _) runs_ref01_Width) runs_ref01_power
      refine Runs.of_body Tryd.func52 (by decide) rfl (by simp [Tryd.f52]) ?_
      refine W.seqE hT mixed M0 (by kernel_rfl) ?_
      simp +contextual [Tryd.f52]
      refine W.seqE hT mixed M0 (by kernel_rfl) ?_
      simp +contextual [Tryd.f52]
      refine W.seqE hT mixed M0 (by kernel_rfl) ?_
      simp +contextual [Tryd.f52, SWid, wid_N]
      have hw := widN_le f
      generalize widN f = w at *
      refine W.wk (Wk.adopt 5 1 3 (by omega) (by simp)) ?_
      refine W.cut True [(5, .own 0)] [.sl 1 3 (rg w fun i => bt h l (w - 1 - i))] 39 ?_ ?_
      · refine W.seqE hT mixed M0 (by kernel_rfl) ?_
        simp +contextual [Tryd.f52]
        refine W.block (W.for (fun _ => True) (fun k => [(3, .ptr 0 0), (5, .own 1), (6, .int .i64 w), (7, .int .i64 k)]) (fun k => [.box 24 [.int .u64 h, .int .u64 l], .sl 1 3 (rg k fun i => bt h l (w - 1 - i))]) 39 w trivial ?_ ?_)
        · simp [rg_zero]
        · intro k hk _
          refine W.of_WE hT mixed M0 _ (by kernel_rfl) ?_
          simp +contextual [SPow]
          rw [rg_length]
          obtain ⟨h0, h1, l0, l1⟩ := hin
          refine ⟨fun hlt => ?_, fun hge => by rw [show k = w by omega]⟩
          simp (disch := omega) only [wr_i64, true_and]
          have e1 : (((w : Int) - 1 - k).toNat) = w - 1 - k := by omega
          have key : ∀ x : Int, x = bt h l (w - 1 - k) → rg k (fun i => bt h l (w - 1 - i)) ++ [[V.int .i64 x]] = rg (k + 1) fun i => bt h l (w - 1 - i) := fun x hx => by
            rw [hx]; exact rg_snoc k _
          refine ⟨fun hg => ⟨fun g1 g2 => ⟨?_, by omega, by omega, key _ ?_⟩, by omega, by omega⟩, fun hg => ⟨fun g1 g2 => ⟨?_, by omega, by omega, key _ ?_⟩, by omega, by omega⟩⟩
          · exact Int.ne_of_gt (ipow_pos _)
          · rw [tdiv_pos h0]
            have := div_pow_bd h0 ((w : Int) - 1 - k - 64).toNat
            rw [wr_u64 (by omega) (by omega), tmod_two (by omega), wr_i64 (by omega) (by omega)]
            unfold bt
            rw [if_pos (by omega)]
            congr 3
            omega
          · exact Int.ne_of_gt (ipow_pos _)
          · rw [tdiv_pos l0]
            have := div_pow_bd l0 ((w : Int) - 1 - k).toNat
            rw [wr_u64 (by omega) (by omega), tmod_two (by omega), wr_i64 (by omega) (by omega)]
            unfold bt
            rw [if_neg (by omega), e1]
      · intro _
        refine W.of_WE hT mixed M0 _ (by kernel_rfl) ?_
        simp +contextual
    · cases h
  · cases h

end Go.Proofs.YtbnjijffkjcmcaaDoor.AL
namespace Go.Proofs.YtbnjijffkjcmcaaDoor.AL
open Go
attribute [local simp] qf cv qbin ibin sbin qun retPost rvOk ctV ctPost marksOk retV resAll resOf V.lt ltL V.ren renL V.exp V.exp1 cleanL V.clean closedL V.closed V.cells V.one V.tree
  loadV cellsAt isNC nilQ isSlD isIfD slNew ownRows ownCells V.isOwn slStore srcO qlook mlook mget mstr zval qnone qmake mput lmap isAggD placesOf fillV putCells lstore bound seqParts V.sh shL Blk.sh newV V.ok peqs peq srcRows qbytes byteSl appOk mmV mmR hidE V.fz fzL Blk.fz fzOk and_assoc
attribute [-simp] Int.not_le Int.not_lt Nat.not_le Nat.not_lt
def SAdr : List V → Option Res
  | [.rd 1 rows] => match intsOf rows with
    | some bs => if bits01 bs = true ∧ bs.length ≤ 1000 then some ⟨.agg [.int .u64 (adrOf bs).1, .int .u64 (adrOf bs).2], []⟩ else none
    | none => none
  | _ => none
end Go.Proofs.YtbnjijffkjcmcaaDoor.AL
namespace Go.Proofs.YtbnjijffkjcmcaaDoor.AL
open Go
attribute [local simp] qf cv qbin ibin sbin qun retPost rvOk ctV ctPost marksOk retV resAll resOf V.lt ltL V.ren renL V.exp V.exp1 cleanL V.clean closedL V.closed V.cells V.one V.tree
  loadV cellsAt isNC nilQ isSlD isIfD slNew ownRows ownCells V.isOwn slStore srcO qlook mlook mget mstr zval qnone qmake mput lmap isAggD placesOf fillV putCells lstore bound seqParts V.sh shL Blk.sh newV V.ok peqs peq srcRows qbytes byteSl appOk mmV mmR hidE V.fz fzL Blk.fz fzOk and_assoc
attribute [-simp] Int.not_le Int.not_lt Nat.not_le Nat.not_lt
def SAnd : List V → Option Res
  | [.agg [.int .u64 a, .int .u64 b], .agg [.int .u64 c, .int .u64 d]] => some ⟨.agg [.int .u64 (bAnd .u64 a c), .int .u64 (bAnd .u64 b d)], []⟩
  | _ => none
theorem runs_number_and : ∀ args r, SAnd args = some r → Runs Tryd.prog 46 args r := by
  intro args r h
  unfold SAnd at h
  split at h
  · rename_i a b c d
    cases h
    refine Runs.of_body Tryd.func46 (by decide) rfl (by simp [Tryd.f46]) ?_
    refine W.of_WE (T0_ok _) mixed M0 _ (by kernel_rfl) ?_
    simp +contextual [Tryd.f46]
  · cases h
def maskA (f : Int) (w : Nat) : Int × Int := if f = 4 then (0, 4294967296 - 2 ^ w) else if 64 ≤ w then (18446744073709551616 - 2 ^ (w - 64), 0) else (18446744073709551615, 18446744073709551616 - 2 ^ w)
def SMask : List V → Option Res
  | [.int .u8 f, .int .i64 n] => if (f = 4 ∨ f = 6) ∧ 0 ≤ n ∧ n ≤ widN f then some ⟨.agg [.int .u64 (maskA f (widN f - n.toNat)).1, .int .u64 (maskA f (widN f - n.toNat)).2], []⟩ else none
  | _ => none
theorem runs_number_mask : ∀ args r, SMask args = some r → Runs Tryd.prog 47 args r := by
  intro args r h
  unfold SMask at h
  split at h
  · rename_i f n
    split at h
    · rename_i hin
      cases h
      obtain ⟨hf, h0, hn⟩ := hin
      have hT : (T0.add 45 SWid).ok Tryd.prog := Tab.add_ok (T0_ok _) runs_number_width
      refine Runs.of_body Tryd.func47 (by decide) rfl (by simp [Tryd.f47]) ?_
      refine W.of_WE hT mixed M0 _ (by kernel_rfl) ?_
      simp +contextual [Tryd.f47, SWid, wid_N]
      have hw : (widN f : Int) - n = ((widN f - n.toNat : Nat) : Int) := by omega
      have hk : widN f - n.toNat ≤ 128 := by have := widN_le f; omega
      have hk4 : f = 4 → widN f - n.toNat ≤ 32 := by rintro rfl; show 32 - n.toNat ≤ 32; omega
      rw [hw]
      have hw4 : f = 4 → (widN 4 : Int) - n = ((widN 4 - n.toNat : Nat) : Int) := by rintro rfl; exact hw
      have hk4' : f = 4 → widN 4 - n.toNat ≤ 32 := by rintro rfl; exact hk4 rfl
      generalize widN f - n.toNat = k at *
      rw [wr_i64 (x := (k : Int)) (by omega) (by omega)]
      refine ⟨fun hg => ?_, fun hl => ?_⟩
      · rw [wr_i64 (by omega) (by omega)]
        refine ⟨by omega, fun h4 => absurd (hk4 h4) (by omega), fun h4 => ?_⟩
        rw [show (k : Int) - 64 = ((k - 64 : Nat) : Int) by omega, bShl_all (by omega)]
        unfold maskA
        rw [if_neg h4, if_pos (by omega)]
        exact ⟨rfl, rfl⟩
      · refine ⟨by omega, fun h4 => ?_, fun h4 => ?_⟩
        · rw [hw4 h4]
          have := hk4' h4
          rw [wr_i64 (by omega) (by omega), bShl_all (by omega), mask32 this]
          exact ⟨rfl, rfl⟩
        · rw [bShl_all (by omega)]
          unfold maskA
          rw [if_neg h4, if_neg (by omega)]
          exact ⟨rfl, rfl⟩
    · cases h
  · cases h

end Go.Proofs.YtbnjijffkjcmcaaDoor.AL
namespace Go.Proofs.YtbnjijffkjcmcaaDoor.AL
open Go
attribute [local simp] qf cv qbin ibin sbin qun retPost rvOk ctV ctPost marksOk retV resAll resOf V.lt ltL V.ren renL V.exp V.exp1 cleanL V.clean closedL V.closed V.cells V.one V.tree
  loadV cellsAt isNC nilQ isSlD isIfD slNew ownRows ownCells V.isOwn slStore srcO qlook mlook mget mstr zval qnone qmake mput lmap isAggD placesOf fillV putCells lstore bound seqParts V.sh shL Blk.sh newV V.ok peqs peq srcRows qbytes byteSl appOk mmV mmR hidE V.fz fzL Blk.fz fzOk and_assoc
attribute [-simp] Int.not_le Int.not_lt Nat.not_le Nat.not_lt
theorem rg_get? (n i : Nat) (f : Nat → Int) : (rg n f)[i]? = if i < n then some [.int .i64 (f i)] else none := by
  unfold rg
  by_cases h : i < n <;> simp [h]
theorem rg_get {n i : Nat} (f : Nat → Int) (h : i < (rg n f).length) : (rg n f)[i] = [.int .i64 (f i)] := by simp [rg]
attribute [simp] rg_get? rg_get rg_length
def bitA (f h l i : Int) : Int × Int := if cAddr f h l = true ∧ 0 ≤ i ∧ i < widN f then (bt h l (widN f - 1 - i.toNat), 0) else (0, 2)
def SBit : List V → Option Res
  | [.int .u8 f, .agg [.int .u64 h, .int .u64 l], .int .i64 i] => if inA h l then some ⟨.tup [.int .i64 (bitA f h l i).1, .int .i64 (bitA f h l i).2], []⟩ else none
  | _ => none
theorem bit_cases (f h l i : Int) : (∃ j : Nat, i = j ∧ j < widN f ∧ cAddr f h l = true ∧ bitA f h l i = (bt h l (widN f - 1 - j), 0)) ∨
    (bitA f h l i = (0, 2) ∧ (cAddr f h l = false ∨ (cAddr f h l = true ∧ i < 0) ∨ (cAddr f h l = true ∧ ¬ i < 0 ∧ (widN f : Int) ≤ i))) := by
  unfold bitA
  by_cases h1 : cAddr f h l = true ∧ 0 ≤ i ∧ i < widN f
  · exact .inl ⟨i.toNat, by omega, by omega, h1.1, by rw [if_pos h1]⟩
  · refine .inr ⟨by rw [if_neg h1], ?_⟩
    cases hc : cAddr f h l
    · simp
    · simp only [hc, true_and] at h1 ⊢
      simp
      omega
theorem runs_number_Bit : ∀ args r, SBit args = some r → Runs Tryd.prog 30 args r := by
  intro args r h
  unfold SBit at h
  split at h
  · rename_i f h l i
    split at h
    · rename_i hin
      cases h
      have hT : ((T0.add 45 SWid).add 31 SAddr).ok Tryd.prog := Tab.add_ok (Tab.add_ok (T0_ok _) runs_number_width) runs_number_CheckAddr
      refine Runs.of_body Tryd.func30 (by decide) rfl (by simp [Tryd.f30]) ?_
      refine W.of_WE hT mixed M0 _ (by kernel_rfl) ?_
      rcases bit_cases f h l i with ⟨j, rfl, hj, hc, hb⟩ | ⟨hb, hc | ⟨hc, hi⟩ | ⟨hc, hi, hw⟩⟩
      · have hw := widN_le f
        have h1 : IntKind.i64.wrap (IntKind.i64.wrap ((widN f : Int) - 1) - j) = ((widN f - 1 - j : Nat) : Int) := by
          rw [wr_i64 (x := (widN f : Int) - 1) (by omega) (by omega), wr_i64 (by omega) (by omega)]; omega
        simp +contextual [Tryd.f30, SWid, SAddr, wid_N, hb, hc, h1, show ¬ ((j : Int) < 0) by omega, show ¬ ((widN f : Int) ≤ j) by omega]
        have hkb : widN f - 1 - j ≤ 127 := by omega
        generalize widN f - 1 - j = k at *
        obtain ⟨h0, h1, l0, l1⟩ := hin
        refine ⟨fun hk => ?_, fun hk => ?_⟩
        · rw [wr_i64 (by omega) (by omega), show (k : Int) - 64 = ((k - 64 : Nat) : Int) by omega, bShr_nat (by omega)]
          have := div_pow_bd h0 (k - 64)
          rw [bAnd_one' (by omega) (by omega), wr_i64 (by omega) (by omega)]
          unfold bt
          rw [if_pos (by omega)]
          exact ⟨by omega, rfl⟩
        · rw [bShr_nat (by omega)]
          have := div_pow_bd l0 k
          rw [bAnd_one' (by omega) (by omega), wr_i64 (by omega) (by omega)]
          unfold bt
          rw [if_neg (by omega)]
      · simp +contextual [Tryd.f30, SWid, SAddr, wid_N, hb, hc]
      · simp +contextual [Tryd.f30, SWid, SAddr, wid_N, hb, hc, hi]
      · simp +contextual [Tryd.f30, SWid, SAddr, wid_N, hb, hc, hi, hw]
    · cases h
  · cases h
end Go.Proofs.YtbnjijffkjcmcaaDoor.AL
namespace Go.Proofs.YtbnjijffkjcmcaaDoor.AL
open Go
attribute [local simp] qf cv qbin ibin sbin qun retPost rvOk ctV ctPost marksOk retV resAll resOf V.lt ltL V.ren renL V.exp V.exp1 cleanL V.clean closedL V.closed V.cells V.one V.tree
  loadV cellsAt isNC nilQ isSlD isIfD slNew ownRows ownCells V.isOwn slStore srcO qlook mlook mget mstr zval qnone qmake mput lmap isAggD placesOf fillV putCells lstore bound seqParts V.sh shL Blk.sh newV V.ok peqs peq srcRows qbytes byteSl appOk mmV mmR hidE V.fz fzL Blk.fz fzOk and_assoc
attribute [-simp] Int.not_le Int.not_lt Nat.not_le Nat.not_lt
def SCut : List V → Option Res
  | [.int .u8 f, .agg [.int .u64 h, .int .u64 l], .int .i64 n] => if inA h l then
      (if cAddr f h l = true ∧ 0 ≤ n ∧ n ≤ widN f then some ⟨.tup [.agg [.int .u8 f, .int .u64 (cutA h l (widN f - n.toNat)).1, .int .u64 (cutA h l (widN f - n.toNat)).2, .int .i64 n], .int .i64 0], []⟩
      else some ⟨.tup [.agg [.int .u8 0, .int .u64 0, .int .u64 0, .int .i64 0], .int .i64 2], []⟩) else none
  | _ => none
theorem cut_cases (f h l n : Int) : (∃ j : Nat, n = j ∧ j ≤ widN f ∧ cAddr f h l = true) ∨
    (¬ (cAddr f h l = true ∧ 0 ≤ n ∧ n ≤ widN f) ∧ (cAddr f h l = false ∨ (cAddr f h l = true ∧ n < 0) ∨ (cAddr f h l = true ∧ ¬ n < 0 ∧ (widN f : Int) < n))) := by
  by_cases h1 : cAddr f h l = true ∧ 0 ≤ n ∧ n ≤ widN f
  · exact .inl ⟨n.toNat, by omega, by omega, h1.1⟩
  · refine .inr ⟨h1, ?_⟩
    cases hc : cAddr f h l
    · simp
    · simp only [hc, true_and] at h1 ⊢
      simp
      omega
theorem cAddr_46 {f h l : Int} (h : cAddr f h l = true) : f = 4 ∨ f = 6 := by
  unfold cAddr at h
  simp at h
  omega
theorem cAddr_4 {f h l : Int} (hc : cAddr f h l = true) (hf : f = 4) : h = 0 ∧ l < 4294967296 := by
  unfold cAddr at hc
  simp [hf] at hc
  omega
/-- The mask of a given length cuts. -/
theorem mask_cut {f h l : Int} {k : Nat} (hin : inA h l) (hc : cAddr f h l = true) (hk : k ≤ widN f) : bAnd .u64 h (maskA f k).1 = (cutA h l k).1 ∧ bAnd .u64 l (maskA f k).2 = (cutA h l k).2 := by
  obtain ⟨h0, h1, l0, l1⟩ := hin
  unfold maskA cutA
  by_cases h4 : f = 4
  · obtain ⟨rfl, hl⟩ := cAddr_4 hc h4
    subst h4
    have hk' : k ≤ 32 := hk
    rw [if_pos rfl, if_neg (by omega)]
    refine ⟨bAnd_zero (by omega) (by omega), ?_⟩
    exact bAnd_mask (m := 32) hk' (by omega) l0 (by show l < 4294967296; omega)
  · rw [if_neg h4]
    have := widN_le f
    by_cases hk : 64 ≤ k
    · rw [if_pos hk, if_pos hk]
      exact ⟨bAnd_mask (m := 64) (k := k - 64) (by omega) (by omega) h0 (by show h < 18446744073709551616; omega), bAnd_zero' l0 l1⟩
    · rw [if_neg hk, if_neg hk]
      exact ⟨bAnd_full h0 h1, bAnd_mask (m := 64) (k := k) (by omega) (by omega) l0 (by show l < 18446744073709551616; omega)⟩
def M_f29 : Md := fun i => if i = 3 then some #[0, 0, 0, 0, 12, 30, 0, 127, 255, 511] else some #[]
@[simp] theorem M_f29_eq {i : Nat} : M_f29 i = (if i = 3 then some #[0, 0, 0, 0, 12, 30, 0, 127, 255, 511] else some #[]) := rfl
theorem runs_number_Cut : ∀ args r, SCut args = some r → Runs Tryd.prog 29 args r := by
  intro args r hh
  unfold SCut at hh
  split at hh
  · rename_i f h l n
    split at hh
    · rename_i hin
      have hT : ((((T0.add 45 SWid).add 31 SAddr).add 47 SMask).add 46 SAnd).ok Tryd.prog := Tab.add_ok (Tab.add_ok (Tab.add_ok (Tab.add_ok (T0_ok _) runs_number_width) runs_number_CheckAddr) runs_number_mask) runs_number_and
      refine Runs.of_body Tryd.func29 (by decide) rfl (by simp [Tryd.f29]) ?_
      refine W.of_WE hT mixed M_f29 _ (by kernel_rfl) ?_
      rcases cut_cases f h l n with ⟨j, rfl, hj, hc⟩ | ⟨hb, hc | ⟨hc, hi⟩ | ⟨hc, hi, hw⟩⟩
      · have hw := widN_le f
        have h46 := cAddr_46 hc
        have hmc := mask_cut (f := f) (k := widN f - j) hin hc (by omega)
        simp [hc, show ((j : Int) ≤ (widN f : Int)) by omega] at hh
        subst hh
        simp +contextual [Tryd.f29, SWid, SAddr, SMask, SAnd, wid_N, hc, show ¬ ((j : Int) < 0) by omega, show ¬ ((widN f : Int) < j) by omega, show ((j : Int) ≤ (widN f : Int)) by omega, h46, hmc]
      · rw [if_neg hb] at hh; cases hh
        simp +contextual [Tryd.f29, SWid, SAddr, wid_N, hc]
      · rw [if_neg hb] at hh; cases hh
        simp +contextual [Tryd.f29, SWid, SAddr, wid_N, hc, hi]
      · rw [if_neg hb] at hh; cases hh
        simp +contextual [Tryd.f29, SWid, SAddr, wid_N, hc, hi, hw]
    · cases hh
  · cases hh

end Go.Proofs.YtbnjijffkjcmcaaDoor.AL
namespace Go.Proofs.YtbnjijffkjcmcaaDoor.AL
open Go
attribute [local simp] qf cv qbin ibin sbin qun retPost rvOk ctV ctPost marksOk retV resAll resOf V.lt ltL V.ren renL V.exp V.exp1 cleanL V.clean closedL V.closed V.cells V.one V.tree
  loadV cellsAt isNC nilQ isSlD isIfD slNew ownRows ownCells V.isOwn slStore srcO qlook mlook mget mstr zval qnone qmake mput lmap isAggD placesOf fillV putCells lstore bound seqParts V.sh shL Blk.sh newV V.ok peqs peq srcRows qbytes byteSl appOk mmV mmR hidE V.fz fzL Blk.fz fzOk and_assoc
attribute [-simp] Int.not_le Int.not_lt Nat.not_le Nat.not_lt
@[simp] theorem toNat_add2 (a b : Nat) : ((a : Int) + (b : Int)).toNat = a + b := by omega
theorem bits01_rg (w : Nat) (f : Nat → Int) (h : ∀ i, i < w → f i = 0 ∨ f i = 1) : bits01 ((List.range w).map f) = true := by
  rw [bits01_iff]
  intro b hb
  simp only [List.mem_map, List.mem_range] at hb
  obtain ⟨i, hi, rfl⟩ := hb
  exact h i hi
theorem numA_lt {f h l : Int} (hin : inA h l) (hc : cAddr f h l = true) : 0 ≤ numA (h, l) ∧ numA (h, l) < 2 ^ widN f := by
  obtain ⟨h0, h1, l0, l1⟩ := hin
  unfold numA
  simp only
  rcases cAddr_46 hc with rfl | rfl
  · obtain ⟨rfl, hl⟩ := cAddr_4 hc rfl
    show _ ∧ _ < (4294967296 : Int)
    omega
  · show _ ∧ _ < (340282366920938463463374607431768211456 : Int)
    omega
theorem adr_cut {f h l : Int} {n : Nat} (hin : inA h l) (hc : cAddr f h l = true) (hn : n ≤ widN f) :
    adrOf ((List.range (widN f)).map fun i => if i < n then bt h l (widN f - 1 - i) else 0) = cutA h l (widN f - n) := by
  have h1 := numA_lt hin hc
  obtain ⟨h0, hh, l0, l1⟩ := hin
  have h2 := adrOf_bits (numA (h, l)) (widN f) n (widN_le f) hn h1.1 h1.2 (widN f) (Nat.le_refl _)
  simp only [bt_num l0 l1]
  have hbd := adrOf_bd ((List.range (widN f)).map fun i => if i < n then numA (h, l) / 2 ^ (widN f - 1 - i) % 2 else 0) (by
      intro b hb
      simp only [List.mem_map] at hb
      obtain ⟨i, _, rfl⟩ := hb
      split <;> omega) (0, 0) (by simp)
  refine numA_inj ⟨hbd.2.2.1, hbd.2.2.2⟩ ?_ ?_
  · unfold cutA
    split
    · simp
    · have := ipow_pos (widN f - n)
      have h3 := Int.ediv_mul_le l (Int.ne_of_gt this)
      exact ⟨Int.mul_nonneg (Int.ediv_nonneg l0 (by omega)) (by omega), by omega⟩
  · rw [h2, cutA_num l0 l1]
    split
    · rw [show n = widN f by omega]; simp
    · rfl
theorem SAdr_rg {w : Nat} {f : Nat → Int} (hw : w ≤ 1000) (h : ∀ i, i < w → f i = 0 ∨ f i = 1) : SAdr [.rd 1 (rg w f)] = some ⟨.agg [.int .u64 (adrOf ((List.range w).map f)).1, .int .u64 (adrOf ((List.range w).map f)).2], []⟩ := by
  simp only [SAdr, intsOf_rg]
  rw [if_pos ⟨bits01_rg w f h, by simpa using hw⟩]
end Go.Proofs.YtbnjijffkjcmcaaDoor.AL
namespace Go.Proofs.YtbnjijffkjcmcaaDoor.AL
open Go
attribute [local simp] qf cv qbin ibin sbin qun retPost rvOk ctV ctPost marksOk retV resAll resOf V.lt ltL V.ren renL V.exp V.exp1 cleanL V.clean closedL V.closed V.cells V.one V.tree
  loadV cellsAt isNC nilQ isSlD isIfD slNew ownRows ownCells V.isOwn slStore srcO qlook mlook mget mstr zval qnone qmake mput lmap isAggD placesOf fillV putCells lstore bound seqParts V.sh shL Blk.sh newV V.ok peqs peq srcRows qbytes byteSl appOk mmV mmR hidE V.fz fzL Blk.fz fzOk and_assoc
attribute [-simp] Int.not_le Int.not_lt Nat.not_le Nat.not_lt
def chkP (f h l n : Int) : Int := if widN f = 0 then 2 else if cAddr f h l = true ∧ 0 ≤ n ∧ n ≤ widN f then (if cutA h l (widN f - n.toNat) = (h, l) then 0 else 8) else 8
def SCheck : List V → Option Res
  | [.agg [.int .u8 f, .int .u64 h, .int .u64 l, .int .i64 n]] => if inA h l then some ⟨.int .i64 (chkP f h l n), []⟩ else none
  | _ => none
theorem chk_cases (f h l n : Int) : (widN f = 0 ∧ chkP f h l n = 2) ∨
    (widN f ≠ 0 ∧ ∃ j : Nat, n = j ∧ j ≤ widN f ∧ cAddr f h l = true ∧ chkP f h l n = if cutA h l (widN f - j) = (h, l) then 0 else 8) ∨
    (widN f ≠ 0 ∧ chkP f h l n = 8 ∧ (cAddr f h l = false ∨ (cAddr f h l = true ∧ n < 0) ∨ (cAddr f h l = true ∧ ¬ n < 0 ∧ (widN f : Int) < n))) := by
  unfold chkP
  by_cases h0 : widN f = 0
  · exact .inl ⟨h0, by rw [if_pos h0]⟩
  · refine .inr ?_
    rcases cut_cases f h l n with ⟨j, hj, hjw, hc⟩ | ⟨hb, h2⟩
    · refine .inl ⟨h0, j, hj, hjw, hc, ?_⟩
      rw [if_neg h0, if_pos ⟨hc, by omega, by omega⟩, hj]
      rfl
    · exact .inr ⟨h0, by rw [if_neg h0, if_neg hb], h2⟩
theorem cutA_rng {h l : Int} (hin : inA h l) (k : Nat) : 0 ≤ (cutA h l k).1 ∧ (cutA h l k).1 ≤ 18446744073709551615 ∧ 0 ≤ (cutA h l k).2 ∧ (cutA h l k).2 ≤ 18446744073709551615 := by
  obtain ⟨h0, hh, l0, l1⟩ := hin
  have key : ∀ (x : Int) (m : Nat), 0 ≤ x → 0 ≤ x / 2 ^ m * 2 ^ m ∧ x / 2 ^ m * 2 ^ m ≤ x := fun x m hx => by
    have := ipow_pos m
    exact ⟨Int.mul_nonneg (Int.ediv_nonneg hx (by omega)) (by omega), Int.ediv_mul_le x (Int.ne_of_gt this)⟩
  unfold cutA
  split
  · have := key h (k - 64) h0
    simp only
    omega
  · have := key l k l0
    simp only
    omega
theorem cut_zero {f h l : Int} {j : Nat} (hin : inA h l) (hj : j ≤ widN f) : (cutA h l (widN f - j) = (h, l)) ↔ ∀ i, j ≤ i → i < widN f → bt h l (widN f - 1 - i) = 0 := by
  have hr := cutA_rng hin (widN f - j)
  obtain ⟨h0, hh, l0, l1⟩ := hin
  have h1 : cutA h l (widN f - j) = (h, l) ↔ numA (h, l) / 2 ^ (widN f - j) * 2 ^ (widN f - j) = numA (h, l) := by
    rw [← cutA_num l0 l1]
    exact ⟨fun h => by rw [h], fun h => numA_inj hr.2.2 ⟨l0, l1⟩ h⟩
  rw [h1, cut_iff]
  simp only [bt_num l0 l1]
  constructor
  · intro h i h2 h3
    exact h (widN f - 1 - i) (by omega)
  · intro h i hi
    have := h (widN f - 1 - i) (by omega) (by omega)
    rwa [show widN f - 1 - (widN f - 1 - i) = i by omega] at this
def M_f14 : Md := fun i => if i = 3 then some #[0, 1, 0, 4, 15, 31, 63, 127, 255, 511, 1023, 2047, 4095, 8191, 4095, 20479, 53247, 131071, 262143, 524287, 1048575, 2097151, 1048575, 5242879, 1048575, 17825791, 63963135, 134217727, 1048575, 269484031, 1073741823, 2147483647] else some #[]
@[simp] theorem M_f14_eq {i : Nat} : M_f14 i = (if i = 3 then some #[0, 1, 0, 4, 15, 31, 63, 127, 255, 511, 1023, 2047, 4095, 8191, 4095, 20479, 53247, 131071, 262143, 524287, 1048575, 2097151, 1048575, 5242879, 1048575, 17825791, 63963135, 134217727, 1048575, 269484031, 1073741823, 2147483647] else some #[]) := rfl
theorem runs_number_Check : ∀ args r, SCheck args = some r → Runs Tryd.prog 14 args r := by
  intro args r hh
  unfold SCheck at hh
  split at hh
  · rename_i f h l n
    split at hh
    · rename_i hin
      cases hh
      have hT : ((((T0.add 45 SWid).add 31 SAddr).add 47 SMask).add 46 SAnd).ok Tryd.prog := Tab.add_ok (Tab.add_ok (Tab.add_ok (Tab.add_ok (T0_ok _) runs_number_width) runs_number_CheckAddr) runs_number_mask) runs_number_and
      refine Runs.of_body Tryd.func14 (by decide) rfl (by simp [Tryd.f14]) ?_
      refine W.of_WE hT mixed M_f14 _ (by kernel_rfl) ?_
      rcases chk_cases f h l n with ⟨h0, hq⟩ | ⟨h0, j, rfl, hj, hc, hq⟩ | ⟨h0, hq, hc | ⟨hc, hi⟩ | ⟨hc, hi, hw⟩⟩
      · simp [Tryd.f14, SWid, wid_N, h0, hq]
      · have hw := widN_le f
        have h46 := cAddr_46 hc
        have hmc := mask_cut (f := f) (k := widN f - j) hin hc (by omega)
        simp +contextual [Tryd.f14, SWid, SAddr, SMask, SAnd, wid_N, hc, h0, show ¬ ((j : Int) < 0) by omega, show ¬ ((widN f : Int) < j) by omega, show ((j : Int) ≤ (widN f : Int)) by omega, h46, hmc, hq]
        cases hcu : cutA h l (widN f - j) with
        | mk a b => simp [Prod.ext_iff]; constructor <;> intros <;> omega
      · simp [Tryd.f14, SWid, SAddr, wid_N, h0, hc, hq]
      · simp [Tryd.f14, SWid, SAddr, wid_N, h0, hc, hi, hq]
      · simp [Tryd.f14, SWid, SAddr, wid_N, h0, hc, hi, hw, hq]
    · cases hh
  · cases hh
theorem runs_ref01_Check : ∀ args r, SCheck args = some r → Runs Tryd.prog 43 args r := by
  intro args r hh
  unfold SCheck at hh
  split at hh
  · rename_i f h l n
    split at hh
    · rename_i hin
      cases hh
      have hT : (((T0.add 73 SWid).add 51 SAddr).add 52 SBits).ok Tryd.prog := Tab.add_ok (Tab.add_ok (Tab.add_ok (T0_ok _) runs_ref01_Width) runs_ref01_CheckAddr) runs_ref01_Bits
      refine Runs.of_body Tryd.func43 (by decide) rfl (by simp [Tryd.f43]) ?_
      refine W.seqE hT mixed M0 (by kernel_rfl) ?_
      simp +contextual [Tryd.f43]
      refine W.seqE hT mixed M0 (by kernel_rfl) ?_
      simp +contextual [Tryd.f43, SWid, wid_N]
      refine W.seqE hT mixed M0 (by kernel_rfl) ?_
      rcases chk_cases f h l n with ⟨h0, hq⟩ | ⟨h0, j, rfl, hj, hc, hq⟩ | ⟨h0, hq, hc | ⟨hc, hi⟩ | ⟨hc, hi, hw⟩⟩
      · simp [Tryd.f43, SWid, wid_N, h0, hq]
      · have hw := widN_le f
        simp [Tryd.f43, SWid, SAddr, wid_N, hc, h0]
        refine W.seqE hT mixed M0 (by kernel_rfl) ?_
        simp [Tryd.f43, SWid, SAddr, wid_N, hc, h0, show ¬ ((j : Int) < 0) by omega, show ¬ ((widN f : Int) < j) by omega]
        refine W.seqE hT mixed M0 (by kernel_rfl) ?_
        simp [Tryd.f43, SBits, hin]
        have hz := cut_zero (f := f) (j := j) hin hj
        refine W.cut (cutA h l (widN f - j) = (h, l)) [] [] 45 ?_ ?_
        · refine W.seqE hT mixed M0 (by kernel_rfl) ?_
          simp [Tryd.f43]
          refine W.block (W.for (fun k => ∀ i, i < k → bt h l (widN f - 1 - (j + i)) = 0) (fun k => [(3, .int .i64 (widN f)), (4, .own 0), (5, .int .i64 (j + k))])
            (fun k => [.sl 1 3 (rg (widN f) fun i => bt h l (widN f - 1 - i))]) 45 (widN f - j) (fun i hi => absurd hi (by omega)) ?_ ?_)
          · simp
          · intro k hk hJ
            refine W.of_WE hT mixed M0 _ (by kernel_rfl) ?_
            by_cases hlt : j + k < widN f
            · simp +contextual [hlt, show ((j : Int) + k < (widN f : Int)) by omega]
              refine ⟨by omega, fun hb => ?_, fun hb => ?_⟩
              · rw [hq, if_neg]
                intro hcu
                exact hb (hz.1 hcu (j + k) (by omega) hlt)
              · rw [wr_i64 (by omega) (by omega)]
                refine ⟨by omega, fun i hi => ?_, by omega⟩
                rcases Nat.lt_or_ge i k with h1 | h1
                · exact hJ i h1
                · rwa [show i = k by omega]
            · simp +contextual [hlt, show ¬ ((j : Int) + k < (widN f : Int)) by omega]
              exact hz.2 fun i h1 h2 => by
                have := hJ (i - j) (by omega)
                rwa [show j + (i - j) = i by omega] at this
        · intro hcu
          rw [if_pos hcu] at hq
          refine W.of_WE hT mixed M0 _ (by kernel_rfl) ?_
          simp +contextual [Tryd.f43, hq]
      · simp [Tryd.f43, SWid, SAddr, wid_N, h0, hc, hq]
        refine W.seqE hT mixed M0 (by kernel_rfl) ?_
        simp [Tryd.f43, SWid, SAddr, wid_N, h0, hc, hq]
      · simp [Tryd.f43, SWid, SAddr, wid_N, h0, hc, hi, hq]
        refine W.seqE hT mixed M0 (by kernel_rfl) ?_
        simp [Tryd.f43, SWid, SAddr, wid_N, h0, hc, hi, hq]
      · simp [Tryd.f43, SWid, SAddr, wid_N, h0, hc, hi, hw, hq]
        refine W.seqE hT mixed M0 (by kernel_rfl) ?_
        simp [Tryd.f43, SWid, SAddr, wid_N, h0, hc, hi, hw, hq]
    · cases hh
  · cases hh

end Go.Proofs.YtbnjijffkjcmcaaDoor.AL
namespace Go.Proofs.YtbnjijffkjcmcaaDoor.AL
open Go
attribute [local simp] qf cv qbin ibin sbin qun retPost rvOk ctV ctPost marksOk retV resAll resOf V.lt ltL V.ren renL V.exp V.exp1 cleanL V.clean closedL V.closed V.cells V.one V.tree
  loadV cellsAt isNC nilQ isSlD isIfD slNew ownRows ownCells V.isOwn slStore srcO qlook mlook mget mstr zval qnone qmake mput lmap isAggD placesOf fillV putCells lstore bound seqParts V.sh shL Blk.sh newV V.ok peqs peq srcRows qbytes byteSl appOk mmV mmR hidE V.fz fzL Blk.fz fzOk and_assoc
attribute [-simp] Int.not_le Int.not_lt Nat.not_le Nat.not_lt
def covP (f h l n f' h' l' n' : Int) : Bool := decide (chkP f h l n = 0) && (decide (chkP f' h' l' n' = 0) && (decide (f = f') && (decide (n ≤ n') && decide (cutA h' l' (widN f - n.toNat) = (h, l)))))
def SCovers : List V → Option Res
  | [.agg [.int .u8 f, .int .u64 h, .int .u64 l, .int .i64 n], .agg [.int .u8 f', .int .u64 h', .int .u64 l', .int .i64 n']] => if inA h l ∧ inA h' l' then some ⟨.bool (covP f h l n f' h' l' n'), []⟩ else none
  | _ => none
theorem chk_zero {f h l n : Int} (h0 : chkP f h l n = 0) : ∃ j : Nat, n = j ∧ j ≤ widN f ∧ cAddr f h l = true ∧ cutA h l (widN f - j) = (h, l) := by
  rcases chk_cases f h l n with ⟨_, hq⟩ | ⟨_, j, hj, hjw, hc, hq⟩ | ⟨_, hq, _⟩
  · rw [hq] at h0; omega
  · refine ⟨j, hj, hjw, hc, ?_⟩
    rw [hq] at h0
    split at h0
    · assumption
    · omega
  · rw [hq] at h0; omega
theorem cov_bits {f h l h' l' : Int} {j : Nat} (hin : inA h l) (hin' : inA h' l') (hc : cAddr f h l = true) (hc' : cAddr f h' l' = true) (hj : j ≤ widN f) (hcut : cutA h l (widN f - j) = (h, l)) :
    cutA h' l' (widN f - j) = (h, l) ↔ ∀ i, i < j → bt h l (widN f - 1 - i) = bt h' l' (widN f - 1 - i) := by
  have hr := cutA_rng hin' (widN f - j)
  have n1 := numA_lt hin hc
  have n2 := numA_lt hin' hc'
  obtain ⟨h0, hh, l0, l1⟩ := hin
  obtain ⟨h0', hh', l0', l1'⟩ := hin'
  have hcut' := congrArg numA hcut
  rw [cutA_num l0 l1] at hcut'
  have hp := ipow_pos (widN f - j)
  have e1 : cutA h' l' (widN f - j) = (h, l) ↔ numA (h', l') / 2 ^ (widN f - j) = numA (h, l) / 2 ^ (widN f - j) := by
    constructor
    · intro e
      have e2 := congrArg numA e
      rw [cutA_num l0' l1'] at e2
      rw [← e2, Int.mul_ediv_cancel _ (by omega)]
    · intro e
      refine numA_inj hr.2.2 ⟨l0, l1⟩ ?_
      rw [cutA_num l0' l1', e, hcut']
  rw [e1, ← bits_from (w := widN f) (by omega) n2.1 n2.2 n1.1 n1.2]
  simp only [bt_num l0 l1, bt_num l0' l1']
  constructor
  · intro hb i hi
    exact (hb (widN f - 1 - i) (by omega) (by omega)).symm
  · intro hb i h1 h2
    have := (hb (widN f - 1 - i) (by omega)).symm
    rwa [show widN f - 1 - (widN f - 1 - i) = i by omega] at this
theorem cov_cases (f h l n f' h' l' n' : Int) : (∃ j : Nat, n = j ∧ j ≤ widN f ∧ cAddr f h l = true ∧ cutA h l (widN f - j) = (h, l) ∧ cAddr f h' l' = true ∧ (j : Int) ≤ n' ∧ n' ≤ widN f ∧ f = f' ∧ chkP f h l j = 0 ∧ chkP f h' l' n' = 0 ∧ covP f h l n f' h' l' n' = decide (cutA h' l' (widN f - j) = (h, l))) ∨
    (covP f h l n f' h' l' n' = false ∧ (¬ chkP f h l n = 0 ∨ (chkP f h l n = 0 ∧ ¬ chkP f' h' l' n' = 0) ∨ (chkP f h l n = 0 ∧ chkP f' h' l' n' = 0 ∧ ¬ f = f') ∨ (chkP f h l n = 0 ∧ chkP f' h' l' n' = 0 ∧ f = f' ∧ n' < n))) := by
  unfold covP
  by_cases h1 : chkP f h l n = 0
  · by_cases h2 : chkP f' h' l' n' = 0
    · by_cases h3 : f = f'
      · by_cases h4 : n ≤ n'
        · left
          obtain ⟨j, hj, hjw, hc, hcut⟩ := chk_zero h1
          obtain ⟨j', hj', hjw', hc', hcut'⟩ := chk_zero h2
          subst h3
          subst hj
          exact ⟨j, rfl, hjw, hc, hcut, hc', h4, by omega, rfl, h1, h2, by simp [h1, h2, h4]⟩
        · right
          simp [h1, h2, h3, h4]
          omega
      · right; simp [h1, h2, h3]
    · right; simp [h1, h2]
  · right; simp [h1]
def M_f15 : Md := fun i => if i = 3 then some #[0, 1, 0, 4, 0, 16, 60, 127, 0, 256, 1023, 2047] else some #[]
@[simp] theorem M_f15_eq {i : Nat} : M_f15 i = (if i = 3 then some #[0, 1, 0, 4, 0, 16, 60, 127, 0, 256, 1023, 2047] else some #[]) := rfl
theorem runs_number_Covers : ∀ args r, SCovers args = some r → Runs Tryd.prog 15 args r := by
  intro args r hh
  unfold SCovers at hh
  split at hh
  · rename_i f h l n f' h' l' n'
    split at hh
    · rename_i hin
      obtain ⟨hin, hin'⟩ := hin
      cases hh
      have hT : (((T0.add 47 SMask).add 46 SAnd).add 14 SCheck).ok Tryd.prog := Tab.add_ok (Tab.add_ok (Tab.add_ok (T0_ok _) runs_number_mask) runs_number_and) runs_number_Check
      refine Runs.of_body Tryd.func15 (by decide) rfl (by simp [Tryd.f15]) ?_
      refine W.of_WE hT mixed M_f15 _ (by kernel_rfl) ?_
      rcases cov_cases f h l n f' h' l' n' with ⟨j, rfl, hj, hc, hcut, hc', hn, hn', rfl, hk, hk', hq⟩ | ⟨hq, h1 | ⟨h1, h2⟩ | ⟨h1, h2, h3⟩ | ⟨h1, h2, rfl, h4⟩⟩
      · have hw := widN_le f
        have h46 := cAddr_46 hc
        have hmc := mask_cut (f := f) (k := widN f - j) hin' hc' (by omega)
        simp +contextual [Tryd.f15, SCheck, SMask, SAnd, hin, hin', hk, hk', hq, h46, hmc, hj, show ¬ (n' < (j : Int)) by omega]
        cases hcu : cutA h' l' (widN f - j) with
        | mk a b => simp [Prod.ext_iff]
      · simp [Tryd.f15, SCheck, hin, hq, h1]
      · simp [Tryd.f15, SCheck, hin, hin', hq, h1, h2]
      · simp [Tryd.f15, SCheck, hin, hin', hq, h1, h2, h3]
      · simp [Tryd.f15, SCheck, hin, hin', hq, h1, h2, h4]
    · cases hh
  · cases hh
end Go.Proofs.YtbnjijffkjcmcaaDoor.AL
namespace Go.Proofs.YtbnjijffkjcmcaaDoor.AL
open Go
attribute [local simp] qf cv qbin ibin sbin qun retPost rvOk ctV ctPost marksOk retV resAll resOf V.lt ltL V.ren renL V.exp V.exp1 cleanL V.clean closedL V.closed V.cells V.one V.tree
  loadV cellsAt isNC nilQ isSlD isIfD slNew ownRows ownCells V.isOwn slStore srcO qlook mlook mget mstr zval qnone qmake mput lmap isAggD placesOf fillV putCells lstore bound seqParts V.sh shL Blk.sh newV V.ok peqs peq srcRows qbytes byteSl appOk mmV mmR hidE V.fz fzL Blk.fz fzOk and_assoc
attribute [-simp] Int.not_le Int.not_lt Nat.not_le Nat.not_lt
/-- A span's check. -/
def chkS (f h l h' l' : Int) : Int := if widN f = 0 then 2 else if cAddr f h l = true ∧ cAddr f h' l' = true ∧ cmpA h l h' l' ≤ 0 then 0 else 8
def SChkS : List V → Option Res
  | [.int .u8 f, .agg [.int .u64 h, .int .u64 l, .int .u64 h', .int .u64 l']] => some ⟨.int .i64 (chkS f h l h' l'), []⟩
  | _ => none
theorem wid0 (f : Int) : widN f = 0 ↔ ¬ f = 4 ∧ ¬ f = 6 := by
  unfold widN
  split
  · simp_all
  · split <;> simp_all
theorem runs_span_Check : ∀ args r, SChkS args = some r → Runs Tryd.prog 36 args r := by
  intro args r hh
  unfold SChkS at hh
  split at hh
  · rename_i f h l h' l'
    cases hh
    have hT : ((T0.add 31 SAddr).add 32 SCompare).ok Tryd.prog := Tab.add_ok (Tab.add_ok (T0_ok _) runs_number_CheckAddr) runs_number_Compare
    refine Runs.of_body Tryd.func36 (by decide) rfl (by simp [Tryd.f36]) ?_
    refine W.of_WE hT mixed M0 _ (by kernel_rfl) ?_
    by_cases h4 : f = 4
    · cases c1 : cAddr f h l
      · simp [Tryd.f36, SAddr, h4 ▸ c1, h4, chkS, widN]
      · cases c2 : cAddr f h' l'
        · simp [Tryd.f36, SAddr, h4 ▸ c1, h4 ▸ c2, h4, chkS, widN]
        · by_cases c3 : cmpA h l h' l' ≤ 0
          · simp [Tryd.f36, SAddr, h4 ▸ c1, h4 ▸ c2, h4, chkS, widN, SCompare, c3, show ¬ 0 < cmpA h l h' l' by omega]
          · simp [Tryd.f36, SAddr, h4 ▸ c1, h4 ▸ c2, h4, chkS, widN, SCompare, c3, show 0 < cmpA h l h' l' by omega]
    · by_cases h6 : f = 6
      · cases c1 : cAddr f h l
        · simp [Tryd.f36, SAddr, h6 ▸ c1, h6, chkS, widN]
        · cases c2 : cAddr f h' l'
          · simp [Tryd.f36, SAddr, h6 ▸ c1, h6 ▸ c2, h6, chkS, widN]
          · by_cases c3 : cmpA h l h' l' ≤ 0
            · simp [Tryd.f36, SAddr, h6 ▸ c1, h6 ▸ c2, h6, chkS, widN, SCompare, c3, show ¬ 0 < cmpA h l h' l' by omega]
            · simp [Tryd.f36, SAddr, h6 ▸ c1, h6 ▸ c2, h6, chkS, widN, SCompare, c3, show 0 < cmpA h l h' l' by omega]
      · simp [Tryd.f36, h4, h6, chkS, widN]
  · cases hh
def inS (h l h' l' x y : Int) : Bool := decide (cmpA h l x y ≤ 0) && decide (cmpA x y h' l' ≤ 0)
def SInS : List V → Option Res
  | [.agg [.int .u64 h, .int .u64 l, .int .u64 h', .int .u64 l'], .agg [.int .u64 x, .int .u64 y]] => some ⟨.bool (inS h l h' l' x y), []⟩
  | _ => none
def SKW : List V → Option Res
  | [.int .u8 f] => some ⟨.int .i64 (if f = 4 then 32 else 128), []⟩
  | _ => none
theorem runs_span_kind_width : ∀ args r, SKW args = some r → Runs Tryd.prog 94 args r := by
  intro args r hh
  unfold SKW at hh
  split at hh
  · rename_i f
    cases hh
    refine Runs.of_body Tryd.func94 (by decide) rfl (by simp [Tryd.f94]) ?_
    refine W.of_WE (T0_ok _) mixed M0 _ (by kernel_rfl) ?_
    by_cases c1 : f = 4
    · simp [Tryd.f94, c1]
    · simp [Tryd.f94, c1]
  · cases hh
/-- The width that a span's walk takes for a family. -/
def kw (f : Int) : Nat := if f = 4 then 32 else 128
def SLast : List V → Option Res
  | [.agg [.int .u8 f, .int .u64 h, .int .u64 l, .int .i64 n]] => if inA h l ∧ 0 ≤ n ∧ n ≤ kw f then some ⟨.agg [.int .u64 (lastA h l (kw f - n.toNat)).1, .int .u64 (lastA h l (kw f - n.toNat)).2], []⟩ else none
  | _ => none
def M_f69 : Md := fun i => if i = 1 then some #[0, 1, 3, 0, 8, 31, 63] else if i = 5 then some #[0, 1, 0, 4, 12, 28, 63, 127, 255] else if i = 6 then some #[0, 1, 0, 4, 12, 31, 63, 127] else some #[]
@[simp] theorem M_f69_eq {i : Nat} : M_f69 i = (if i = 1 then some #[0, 1, 3, 0, 8, 31, 63] else if i = 5 then some #[0, 1, 0, 4, 12, 28, 63, 127, 255] else if i = 6 then some #[0, 1, 0, 4, 12, 31, 63, 127] else some #[]) := rfl
theorem runs_span_last : ∀ args r, SLast args = some r → Runs Tryd.prog 69 args r := by
  intro args r hh
  unfold SLast at hh
  split at hh
  · rename_i f h l n
    split at hh
    · rename_i hin
      cases hh
      obtain ⟨⟨h0, h1, l0, l1⟩, hn0, hn1⟩ := hin
      obtain ⟨j, rfl⟩ : ∃ j : Nat, n = j := ⟨n.toNat, by omega⟩
      have hT : (T0.add 94 SKW).ok Tryd.prog := Tab.add_ok (T0_ok _) runs_span_kind_width
      have hkw : (if f = 4 then (32 : Int) else 128) = (kw f : Int) := by unfold kw; split <;> rfl
      have hk128 : kw f ≤ 128 := by unfold kw; split <;> omega
      have hw : IntKind.i64.wrap ((kw f : Int) - j) = ((kw f - j : Nat) : Int) := by rw [wr_i64 (by omega) (by omega)]; omega
      refine Runs.of_body Tryd.func69 (by decide) rfl (by simp [Tryd.f69]) ?_
      refine W.of_WE hT mixed M_f69 _ (by kernel_rfl) ?_
      simp [Tryd.f69, SKW, hkw, hw]
      have hkb : kw f - j ≤ 128 := by omega
      generalize kw f - j = k at *
      have hcom : ∀ m : Nat, m ≤ 64 → bCom .u64 (bShl .u64 18446744073709551615 m) = 2 ^ m - 1 := by
        intro m hm
        have g1 := ipow_le64 hm
        have g2 := ipow_pos m
        rw [bShl_all hm, bCom_u64' (by omega) (by omega)]
        omega
      unfold lastA
      refine ⟨fun hg => ?_, fun hl => ?_⟩
      · rw [wr_i64 (by omega) (by omega), show (k : Int) - 64 = ((k - 64 : Nat) : Int) by omega, hcom _ (by omega), bOr_mask (by omega) h0 h1, if_pos (by omega)]
        exact ⟨by omega, rfl, rfl⟩
      · rw [hcom _ (by omega), bOr_mask (by omega) l0 l1, if_neg (by omega)]
        exact ⟨rfl, rfl⟩
    · cases hh
  · cases hh
theorem kw_wid {f h l : Int} (hc : cAddr f h l = true) : kw f = widN f := by
  rcases cAddr_46 hc with rfl | rfl <;> rfl
theorem lastA_rng {h l : Int} (hin : inA h l) {k : Nat} (hk : k ≤ 128) : inA (lastA h l k).1 (lastA h l k).2 := by
  obtain ⟨h0, h1, l0, l1⟩ := hin
  have key : ∀ (x : Int) (m : Nat), m ≤ 64 → 0 ≤ x → x ≤ 18446744073709551615 → 0 ≤ x / 2 ^ m * 2 ^ m + (2 ^ m - 1) ∧ x / 2 ^ m * 2 ^ m + (2 ^ m - 1) ≤ 18446744073709551615 := by
    intro x m hm hx hx'
    have g := ipow_pos m
    have e1 : 0 ≤ x / 2 ^ m * 2 ^ m := Int.mul_nonneg (Int.ediv_nonneg hx (by omega)) (by omega)
    have e2 : x / 2 ^ m < 2 ^ (64 - m) := by
      apply Int.ediv_lt_of_lt_mul g
      rw [← ipow_add, show 64 - m + m = 64 by omega]
      show x < 18446744073709551616
      omega
    have e3 : (x / 2 ^ m + 1) * 2 ^ m ≤ 2 ^ (64 - m) * 2 ^ m := Int.mul_le_mul_of_nonneg_right (by omega) (by omega)
    rw [← ipow_add, show 64 - m + m = 64 by omega, Int.add_mul, show (2 : Int) ^ 64 = 18446744073709551616 from rfl] at e3
    omega
  unfold lastA inA
  split
  · have := key h (k - 64) (by omega) h0 h1
    simp only
    omega
  · have := key l k (by omega) l0 l1
    simp only
    omega
theorem adr_last {f h l : Int} {n : Nat} (hin : inA h l) (hc : cAddr f h l = true) (hn : n ≤ widN f) :
    adrOf ((List.range (widN f)).map fun i => if i < n then bt h l (widN f - 1 - i) else 1) = lastA h l (widN f - n) := by
  have h1 := numA_lt hin hc
  have hr := lastA_rng (k := widN f - n) hin (by have := widN_le f; omega)
  obtain ⟨h0, hh, l0, l1⟩ := hin
  have h2 := adrOf_ones (numA (h, l)) (widN f) n (widN_le f) hn h1.1 h1.2 (widN f) (Nat.le_refl _)
  simp only [bt_num l0 l1]
  have hbd := adrOf_bd ((List.range (widN f)).map fun i => if i < n then numA (h, l) / 2 ^ (widN f - 1 - i) % 2 else 1) (by
      intro b hb
      simp only [List.mem_map] at hb
      obtain ⟨i, _, rfl⟩ := hb
      split <;> omega) (0, 0) (by simp)
  refine numA_inj ⟨hbd.2.2.1, hbd.2.2.2⟩ hr.2.2 ?_
  rw [lastA_num l0 l1]
  refine h2.trans ?_
  split
  · rw [show n = widN f by omega]; simp
  · rfl
def SLastR : List V → Option Res
  | [.agg [.int .u8 f, .int .u64 h, .int .u64 l, .int .i64 n]] => if inA h l ∧ cAddr f h l = true ∧ 0 ≤ n ∧ n ≤ widN f then some ⟨.agg [.int .u64 (lastA h l (widN f - n.toNat)).1, .int .u64 (lastA h l (widN f - n.toNat)).2], []⟩ else none
  | _ => none
end Go.Proofs.YtbnjijffkjcmcaaDoor.AL
namespace Go.Proofs.YtbnjijffkjcmcaaDoor.AL
open Go
attribute [local simp] qf cv qbin ibin sbin qun retPost rvOk ctV ctPost marksOk retV resAll resOf V.lt ltL V.ren renL V.exp V.exp1 cleanL V.clean closedL V.closed V.cells V.one V.tree
  loadV cellsAt isNC nilQ isSlD isIfD slNew ownRows ownCells V.isOwn slStore srcO qlook mlook mget mstr zval qnone qmake mput lmap isAggD placesOf fillV putCells lstore bound seqParts V.sh shL Blk.sh newV V.ok peqs peq srcRows qbytes byteSl appOk mmV mmR hidE V.fz fzL Blk.fz fzOk and_assoc
attribute [-simp] Int.not_le Int.not_lt Nat.not_le Nat.not_lt
def SOf : List V → Option Res
  | [.agg [.int .u8 f, .int .u64 h, .int .u64 l, .int .i64 n]] => if inA h l then
      (if chkP f h l n = 0 then some ⟨.tup [.agg [.int .u64 h, .int .u64 l, .int .u64 (lastA h l (widN f - n.toNat)).1, .int .u64 (lastA h l (widN f - n.toNat)).2], .int .i64 0], []⟩
      else some ⟨.tup [.agg [.int .u64 0, .int .u64 0, .int .u64 0, .int .u64 0], .int .i64 (chkP f h l n)], []⟩) else none
  | _ => none
def M_f38 : Md := fun i => if i = 4 then some #[0, 1, 0, 4, 15, 31, 63] else some #[]
@[simp] theorem M_f38_eq {i : Nat} : M_f38 i = (if i = 4 then some #[0, 1, 0, 4, 15, 31, 63] else some #[]) := rfl
theorem runs_span_Of : ∀ args r, SOf args = some r → Runs Tryd.prog 38 args r := by
  intro args r hh
  unfold SOf at hh
  split at hh
  · rename_i f h l n
    split at hh
    · rename_i hin
      have hT : ((T0.add 14 SCheck).add 69 SLast).ok Tryd.prog := Tab.add_ok (Tab.add_ok (T0_ok _) runs_number_Check) runs_span_last
      refine Runs.of_body Tryd.func38 (by decide) rfl (by simp [Tryd.f38]) ?_
      refine W.of_WE hT mixed M_f38 _ (by kernel_rfl) ?_
      by_cases c : chkP f h l n = 0
      · rw [if_pos c] at hh; cases hh
        obtain ⟨j, rfl, hj, hc, _⟩ := chk_zero c
        have hk := kw_wid hc
        simp [Tryd.f38, SCheck, hin, c, SLast, hk, hj]
      · rw [if_neg c] at hh; cases hh
        simp [Tryd.f38, SCheck, hin, c]
    · cases hh
  · cases hh
end Go.Proofs.YtbnjijffkjcmcaaDoor.AL
