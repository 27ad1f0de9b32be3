import Derived.Test.YtkcmgjagjbiinaaC21nW2
import Derived.Test.YtkcmgjagjbiinaaC21nW1
import Derived.Laws.Externs
/- What single functions compute: a part of the proof; no conditions. -/
set_option linter.unusedVariables false
set_option linter.unusedSimpArgs false
set_option maxRecDepth 100000
namespace Go.Proofs.Ytkcmgjagjbiinaa.AL
open Go
attribute [local simp] qf cv qbin ibin sbin qun retPost rvOk ctV ctPost marksOk retV resAll resOf V.lt ltL V.ren renL V.exp V.exp1 cleanL V.clean closedL V.closed V.cells V.one V.tree
  loadV cellsAt isNC nilQ isSlD isIfD slNew ownRows ownCells V.isOwn slStore srcO qlook mlook mget mstr zval qnone qmake mput lmap isAggD placesOf fillV putCells lstore bound seqParts V.sh shL Blk.sh newV V.ok peqs peq srcRows qbytes byteSl appOk mmV mmR hidE V.fz fzL Blk.fz fzOk and_assoc
attribute [-simp] Int.not_le Int.not_lt Nat.not_le Nat.not_lt
def nameS (s : ByteArray) : Bool := (decide (1 ≤ s.size) && decide (s.size ≤ 40)) && (List.range s.size).all fun i => goodC (sat s i)
theorem nameS_bad {s : ByteArray} {k : Nat} (hk : k < s.size) (h : goodC (sat s k) = false) : nameS s = false := by
  unfold nameS
  have : ((List.range s.size).all fun i => goodC (sat s i)) = false := by
    rw [List.all_eq_false]
    exact ⟨k, by simpa using hk, by simpa using h⟩
  rw [this, Bool.and_false]
theorem nameS_good {s : ByteArray} (h : ∀ i, i < s.size → goodC (sat s i) = true) : nameS s = (decide (1 ≤ s.size) && decide (s.size ≤ 40)) := by
  unfold nameS
  have : ((List.range s.size).all fun i => goodC (sat s i)) = true := by
    rw [List.all_eq_true]
    intro i hi
    exact h i (by simpa using hi)
  rw [this, Bool.and_true]
def SName : List V → Option Res
  | [.str s] => if s.size ≤ 9223372036854775807 then some ⟨.bool (nameS s), []⟩ else none
  | _ => none
theorem runs_number_Name : ∀ args r, SName args = some r → Runs Try.prog 64 args r := by
  intro args r h
  unfold SName at h
  split at h
  · rename_i s
    split at h
    · rename_i hs
      cases h
      have hT : (T0.add 84 SGood).ok Try.prog := Tab.add_ok (T0_ok _) runs_number_Name_1
      refine Runs.of_body Try.func64 (by decide) rfl (by simp [Try.f64]) ?_
      refine W.seqE hT mixed M0 (by kernel_rfl) ?_
      simp +contextual [Try.f64]
      refine W.seqE hT mixed M0 (by kernel_rfl) ?_
      simp +contextual [Try.f64]
      refine W.cut (∀ i, i < s.size → goodC (sat s i) = true) [(0, .str s)] [] 25 ?_ ?_
      · refine W.seqE hT mixed M0 (by kernel_rfl) ?_
        simp +contextual [Try.f64]
        refine W.block (W.for (fun k => ∀ i, i < k → goodC (sat s i) = true) (fun k => [(0, .str s), (3, .fn 84 [] []), (6, .int .i64 s.size), (7, .int .i64 k)]) (fun _ => []) 25 s.size (by simp) ?_ ?_)
        · simp
        · intro k hk hJ
          refine W.of_WE hT mixed M0 _ (by kernel_rfl) ?_
          simp +contextual [SGood, Try.f64]
          refine ⟨fun hlt => ⟨fun hg => (nameS_bad hlt hg), fun hg => ⟨fun i hi => ?_, ?_⟩⟩, fun hle i hi => hJ i (by omega)⟩
          · by_cases hik : i = k
            · subst hik; exact hg
            · exact hJ i (by omega)
          · rw [wrap_i64]; omega
      · intro hC
        refine W.of_WE hT mixed M0 _ (by kernel_rfl) ?_
        simp +contextual [Try.f64]
        rw [nameS_good hC]
        refine ⟨fun h => ?_, fun h => ?_⟩
        · have h1 : 1 ≤ s.size := by omega
          simp only [h1, decide_true, Bool.true_and, decide_eq_decide]
          omega
        · have h1 : ¬ 1 ≤ s.size := by omega
          simp only [h1, decide_false, Bool.false_and]
    · cases h
  · cases h

end Go.Proofs.Ytkcmgjagjbiinaa.AL
namespace Go.Proofs.Ytkcmgjagjbiinaa.AL
open Go
attribute [local simp] qf cv qbin ibin sbin qun retPost rvOk ctV ctPost marksOk retV resAll resOf V.lt ltL V.ren renL V.exp V.exp1 cleanL V.clean closedL V.closed V.cells V.one V.tree
  loadV cellsAt isNC nilQ isSlD isIfD slNew ownRows ownCells V.isOwn slStore srcO qlook mlook mget mstr zval qnone qmake mput lmap isAggD placesOf fillV putCells lstore bound seqParts V.sh shL Blk.sh newV V.ok peqs peq srcRows qbytes byteSl appOk mmV mmR hidE V.fz fzL Blk.fz fzOk and_assoc
attribute [-simp] Int.not_le Int.not_lt Nat.not_le Nat.not_lt
theorem pow_lt64 {k : Nat} (h : k ≤ 63) : 2 ^ k ≤ 9223372036854775808 := by
  have := Nat.pow_le_pow_right (n := 2) (by omega) h
  simpa using this
def SPow : List V → Option Res
  | [.int .i64 n] => if 0 ≤ n ∧ n ≤ 63 then some ⟨.int .u64 (2 ^ n.toNat), []⟩ else none
  | _ => none
theorem runs_ref01_power : ∀ args r, SPow args = some r → Runs Try.prog 103 args r := by
  intro args r h
  unfold SPow at h
  split at h
  · rename_i n
    split at h
    · rename_i hn
      cases h
      obtain ⟨n, rfl⟩ : ∃ m : Nat, n = m := ⟨n.toNat, by omega⟩
      refine Runs.of_body Try.func103 (by decide) rfl (by simp [Try.f103]) ?_
      refine W.seqE (T0_ok _) mixed M0 (by kernel_rfl) ?_
      simp +contextual [Try.f103]
      refine W.seqE (T0_ok _) mixed M0 (by kernel_rfl) ?_
      simp +contextual [Try.f103]
      refine W.cut True [(3, .int .u64 (2 ^ n))] [] 14 ?_ ?_
      · refine W.seqE (T0_ok _) mixed M0 (by kernel_rfl) ?_
        simp +contextual [Try.f103]
        refine W.block (W.for (fun _ => True) (fun k => [(0, .int .i64 n), (3, .int .u64 (2 ^ k)), (4, .int .i64 k)]) (fun _ => []) 14 n trivial ?_ ?_)
        · simp
        · intro k hk _
          refine W.of_WE (T0_ok _) mixed M0 _ (by kernel_rfl) ?_
          simp +contextual
          refine ⟨fun hlt => ?_, fun hle => by rw [show k = n by omega]⟩
          have h1 := pow_lt64 (k := k) (by omega)
          have h2 : ((2 ^ k : Nat) : Int) = (2 : Int) ^ k := by push_cast; rfl
          have h3 : (2 : Int) ^ (k + 1) = 2 * 2 ^ k := by rw [Int.pow_succ, Int.mul_comm]
          have h4 : (0 : Int) < 2 ^ k := Int.pow_pos (by omega)
          have h5 : (2 : Int) ^ (k + 1) ≤ 9223372036854775808 := by
            have := pow_lt64 (k := k + 1) (by omega)
            rw [show (2 : Int) ^ (k + 1) = ((2 ^ (k + 1) : Nat) : Int) by push_cast; rfl]
            omega
          rw [wrap_u64, wrap_i64]
          generalize hp : (2 : Int) ^ k = p at *
          rw [h3] at h5 ⊢
          constructor <;> omega
      · intro _
        refine W.of_WE (T0_ok _) mixed M0 _ (by kernel_rfl) ?_
        simp +contextual [Try.f103]
    · cases h
  · cases h

end Go.Proofs.Ytkcmgjagjbiinaa.AL
namespace Go.Proofs.Ytkcmgjagjbiinaa.AL
open Go
attribute [local simp] qf cv qbin ibin sbin qun retPost rvOk ctV ctPost marksOk retV resAll resOf V.lt ltL V.ren renL V.exp V.exp1 cleanL V.clean closedL V.closed V.cells V.one V.tree
  loadV cellsAt isNC nilQ isSlD isIfD slNew ownRows ownCells V.isOwn slStore srcO qlook mlook mget mstr zval qnone qmake mput lmap isAggD placesOf fillV putCells lstore bound seqParts V.sh shL Blk.sh newV V.ok peqs peq srcRows qbytes byteSl appOk mmV mmR hidE V.fz fzL Blk.fz fzOk and_assoc
attribute [-simp] Int.not_le Int.not_lt Nat.not_le Nat.not_lt
theorem size0 {s : ByteArray} (h : s.size = 0) : s = ByteArray.empty := by
  cases s with
  | mk d =>
    have : d = #[] := Array.eq_empty_of_size_eq_zero h
    subst this; rfl
theorem runs_ref01_Name : ∀ args r, SName args = some r → Runs Try.prog 60 args r := by
  intro args r h
  unfold SName at h
  split at h
  · rename_i s
    split at h
    · rename_i hs
      cases h
      have hT := T0_ok Try.prog
      refine Runs.of_body Try.func60 (by decide) rfl (by simp [Try.f60]) ?_
      refine W.seqE hT mixed M0 (by kernel_rfl) ?_
      simp +contextual [Try.f60]
      refine W.cut (1 ≤ s.size ∧ s.size ≤ 40) [(0, .str s)] [] 53 ?_ ?_
      · refine W.of_WE hT mixed M0 _ (by kernel_rfl) ?_
        simp +contextual [Try.f60]
        refine ⟨?_, fun h => ⟨fun h => ?_, fun h2 => ⟨?_, by omega⟩⟩⟩
        · rintro rfl; rfl
        · unfold nameS
          have : decide (s.size ≤ 40) = false := by simp; omega
          rw [this, Bool.and_false, Bool.false_and]
        · rcases Nat.eq_zero_or_pos s.size with h0 | h0
          · exact absurd (size0 h0) h
          · omega
      · intro hC
        refine W.cut (∀ i, i < s.size → goodC (sat s i) = true) [(0, .str s)] [] 53 ?_ ?_
        · refine W.seqE hT mixed M0 (by kernel_rfl) ?_
          simp +contextual [Try.f60]
          refine W.block (W.for (fun k => ∀ i, i < k → goodC (sat s i) = true) (fun k => [(0, .str s), (3, .int .i64 k)]) (fun _ => []) 53 s.size (by simp) ?_ ?_)
          · simp
          · intro k hk hJ
            refine W.of_WE hT mixed M0 _ (by kernel_rfl) ?_
            simp +contextual (maxSteps := 1000000) [Try.f60]
            refine ⟨fun hlt => ?_, fun hle i hi => hJ i (by omega)⟩
            have kt : goodC (sat s k) = true → (∀ (i : Nat), i < k + 1 → goodC (sat s ↑i) = true) := fun hg i hi => by
              by_cases hik : i = k
              · subst hik; exact hg
              · exact hJ i (by omega)
            have kw : IntKind.i64.wrap ((k : Int) + 1) = (k : Int) + 1 := by rw [wrap_i64]; omega
            have kf : goodC (sat s k) = false → nameS s = false := nameS_bad hlt
            generalize (∀ (i : Nat), i < k + 1 → goodC (sat s ↑i) = true) = J1 at *
            rw [kw]
            generalize sat s k = c at *
            generalize nameS s = nm at *
            clear hJ
            simp [goodC] at kt kf
            repeat' (first | apply And.intro | intro _)
            all_goals (first | rfl | exact kt (by omega) | exact kf (by omega) (by omega) (by omega) (by omega) (by omega))
        · intro hC
          refine W.of_WE hT mixed M0 _ (by kernel_rfl) ?_
          simp +contextual [Try.f60]
          rename_i hC0
          rw [nameS_good hC]
          simp
          omega
    · cases h
  · cases h

end Go.Proofs.Ytkcmgjagjbiinaa.AL
namespace Go.Proofs.Ytkcmgjagjbiinaa.AL
open Go
attribute [local simp] qf cv qbin ibin sbin qun retPost rvOk ctV ctPost marksOk retV resAll resOf V.lt ltL V.ren renL V.exp V.exp1 cleanL V.clean closedL V.closed V.cells V.one V.tree
  loadV cellsAt isNC nilQ isSlD isIfD slNew ownRows ownCells V.isOwn slStore srcO qlook mlook mget mstr zval qnone qmake mput lmap isAggD placesOf fillV putCells lstore bound seqParts V.sh shL Blk.sh newV V.ok peqs peq srcRows qbytes byteSl appOk mmV mmR hidE V.fz fzL Blk.fz fzOk and_assoc
attribute [-simp] Int.not_le Int.not_lt Nat.not_le Nat.not_lt
def inA (h l : Int) : Prop := 0 ≤ h ∧ h ≤ 18446744073709551615 ∧ 0 ≤ l ∧ l ≤ 18446744073709551615
instance (h l : Int) : Decidable (inA h l) := by unfold inA; infer_instance
def widN (f : Int) : Nat := if f = 4 then 32 else if f = 6 then 128 else 0
theorem wid_N (f : Int) : wid f = widN f := by unfold wid widN; split; rfl; split <;> rfl
theorem widN_le (f : Int) : widN f ≤ 128 := by unfold widN; split; omega; split <;> omega
def SBits : List V → Option Res
  | [.int .u8 f, .agg [.int .u64 h, .int .u64 l]] => if inA h l then some ⟨.own 0, [.sl 1 3 (rg (widN f) fun i => bt h l (widN f - 1 - i))]⟩ else none
  | _ => none
theorem runs_ref01_Bits : ∀ args r, SBits args = some r → Runs Try.prog 89 args r := by
  intro args r h
  unfold SBits at h
  split at h
  · rename_i f h l
    split at h
    · rename_i hin
      cases h
      have hT : ((T0.add 102 SWid).add 103 SPow).ok Try.prog := Tab.add_ok (Tab.add_ok (T0_ok _) runs_ref01_Width) runs_ref01_power
      refine Runs.of_body Try.func89 (by decide) rfl (by simp [Try.f89]) ?_
      refine W.seqE hT mixed M0 (by kernel_rfl) ?_
      simp +contextual [Try.f89]
      refine W.seqE hT mixed M0 (by kernel_rfl) ?_
      simp +contextual [Try.f89]
      refine W.seqE hT mixed M0 (by kernel_rfl) ?_
      simp +contextual [Try.f89, SWid, wid_N]
      have hw := widN_le f
      generalize widN f = w at *
      refine W.wk (Wk.adopt 5 1 3 (by omega) (by simp)) ?_
      refine W.cut True [(5, .own 0)] [.sl 1 3 (rg w fun i => bt h l (w - 1 - i))] 39 ?_ ?_
      · refine W.seqE hT mixed M0 (by kernel_rfl) ?_
        simp +contextual [Try.f89]
        refine W.block (W.for (fun _ => True) (fun k => [(3, .ptr 0 0), (5, .own 1), (6, .int .i64 w), (7, .int .i64 k)]) (fun k => [.box 99 [.int .u64 h, .int .u64 l], .sl 1 3 (rg k fun i => bt h l (w - 1 - i))]) 39 w trivial ?_ ?_)
        · simp [rg_zero]
        · intro k hk _
          refine W.of_WE hT mixed M0 _ (by kernel_rfl) ?_
          simp +contextual [SPow]
          rw [rg_length]
          obtain ⟨h0, h1, l0, l1⟩ := hin
          refine ⟨fun hlt => ?_, fun hge => by rw [show k = w by omega]⟩
          simp (disch := omega) only [wr_i64, true_and]
          have e1 : (((w : Int) - 1 - k).toNat) = w - 1 - k := by omega
          have key : ∀ x : Int, x = bt h l (w - 1 - k) → rg k (fun i => bt h l (w - 1 - i)) ++ [[V.int .i64 x]] = rg (k + 1) fun i => bt h l (w - 1 - i) := fun x hx => by
            rw [hx]; exact rg_snoc k _
          refine ⟨fun hg => ⟨fun g1 g2 => ⟨?_, by omega, by omega, key _ ?_⟩, by omega, by omega⟩, fun hg => ⟨fun g1 g2 => ⟨?_, by omega, by omega, key _ ?_⟩, by omega, by omega⟩⟩
          · exact Int.ne_of_gt (ipow_pos _)
          · rw [tdiv_pos h0]
            have := div_pow_bd h0 ((w : Int) - 1 - k - 64).toNat
            rw [wr_u64 (by omega) (by omega), tmod_two (by omega), wr_i64 (by omega) (by omega)]
            unfold bt
            rw [if_pos (by omega)]
            congr 3
            omega
          · exact Int.ne_of_gt (ipow_pos _)
          · rw [tdiv_pos l0]
            have := div_pow_bd l0 ((w : Int) - 1 - k).toNat
            rw [wr_u64 (by omega) (by omega), tmod_two (by omega), wr_i64 (by omega) (by omega)]
            unfold bt
            rw [if_neg (by omega), e1]
      · intro _
        refine W.of_WE hT mixed M0 _ (by kernel_rfl) ?_
        simp +contextual
    · cases h
  · cases h

end Go.Proofs.Ytkcmgjagjbiinaa.AL
namespace Go.Proofs.Ytkcmgjagjbiinaa.AL
open Go
attribute [local simp] qf cv qbin ibin sbin qun retPost rvOk ctV ctPost marksOk retV resAll resOf V.lt ltL V.ren renL V.exp V.exp1 cleanL V.clean closedL V.closed V.cells V.one V.tree
  loadV cellsAt isNC nilQ isSlD isIfD slNew ownRows ownCells V.isOwn slStore srcO qlook mlook mget mstr zval qnone qmake mput lmap isAggD placesOf fillV putCells lstore bound seqParts V.sh shL Blk.sh newV V.ok peqs peq srcRows qbytes byteSl appOk mmV mmR hidE V.fz fzL Blk.fz fzOk and_assoc
attribute [-simp] Int.not_le Int.not_lt Nat.not_le Nat.not_lt
def SAdr : List V → Option Res
  | [.rd 1 rows] => match intsOf rows with
    | some bs => if bits01 bs = true ∧ bs.length ≤ 1000 then some ⟨.agg [.int .u64 (adrOf bs).1, .int .u64 (adrOf bs).2], []⟩ else none
    | none => none
  | _ => none
def M_f90 : Md := fun i => if i = 5 then some #[0, 1, 0, 4, 15, 0, 32, 0, 224, 511, 1023, 2047] else if i = 6 then some #[0, 1, 0, 4, 15, 0, 0, 96, 224, 480, 1023, 2047, 4095] else some #[]
@[simp] theorem M_f90_eq {i : Nat} : M_f90 i = (if i = 5 then some #[0, 1, 0, 4, 15, 0, 32, 0, 224, 511, 1023, 2047] else if i = 6 then some #[0, 1, 0, 4, 15, 0, 0, 96, 224, 480, 1023, 2047, 4095] else some #[]) := rfl
theorem runs_ref01_Addr : ∀ args r, SAdr args = some r → Runs Try.prog 90 args r := by
  intro args r h
  unfold SAdr at h
  split at h
  · rename_i rows
    split at h
    · rename_i bs hbs
      split at h
      · rename_i hin
        cases h
        obtain ⟨h01, hlen⟩ := hin
        rw [bits01_iff] at h01
        have hrows := intsOf_eq hbs
        subst hrows
        have hT : (T0.add 103 SPow).ok Try.prog := Tab.add_ok (T0_ok _) runs_ref01_power
        refine Runs.of_body Try.func90 (by decide) rfl (by simp [Try.f90]) ?_
        refine W.seqE hT mixed M_f90 (by kernel_rfl) ?_
        simp +contextual [Try.f90]
        refine W.seqE hT mixed M_f90 (by kernel_rfl) ?_
        simp +contextual [Try.f90]
        refine W.cut True [(2, .ptr 0 0), (3, .ptr 1 0)] [.box 99 [.int .u64 0, .int .u64 0], .box 99 [.int .u64 (adrOf bs).1, .int .u64 (adrOf bs).2]] 35 ?_ ?_
        · refine W.seqE hT mixed M_f90 (by kernel_rfl) ?_
          simp +contextual [Try.f90]
          refine W.block (W.for (fun _ => True) (fun k => [(0, .rd 1 (bs.map fun x => [.int .i64 x])), (2, .ptr 0 0), (3, .ptr 1 0), (4, .int .i64 k)])
            (fun k => [.box 99 [.int .u64 0, .int .u64 0], .box 99 [.int .u64 (adrOf (bs.take k)).1, .int .u64 (adrOf (bs.take k)).2]]) 35 bs.length trivial ?_ ?_)
          · simp [adrOf]
          · intro k hk _
            refine W.of_WE hT mixed M_f90 _ (by kernel_rfl) ?_
            simp +contextual [SPow]
            have hbd := adrOf_bd (bs.take k) (fun b hb => h01 b (List.mem_of_mem_take hb)) (0, 0) (by simp)
            change 0 ≤ (adrOf (bs.take k)).1 ∧ (adrOf (bs.take k)).1 ≤ 18446744073709551615 ∧ 0 ≤ (adrOf (bs.take k)).2 ∧ (adrOf (bs.take k)).2 ≤ 18446744073709551615 at hbd
            refine ⟨fun hkl => ?_, fun hkl => ?_⟩
            · have hb := h01 _ (List.getElem_mem hkl)
              rw [take_snoc' bs k hkl, adrOf_snoc, Int.tdiv_eq_ediv_of_nonneg hbd.2.2.1]
              simp only [adrStep, wrap_i64, wrap_u64]
              omega
            · rw [List.take_of_length_le (by omega)]
              exact ⟨rfl, rfl⟩
        · intro _
          refine W.of_WE hT mixed M_f90 _ (by kernel_rfl) ?_
          simp +contextual
      · cases h
    · cases h
  · cases h

end Go.Proofs.Ytkcmgjagjbiinaa.AL
namespace Go.Proofs.Ytkcmgjagjbiinaa.AL
open Go
attribute [local simp] qf cv qbin ibin sbin qun retPost rvOk ctV ctPost marksOk retV resAll resOf V.lt ltL V.ren renL V.exp V.exp1 cleanL V.clean closedL V.closed V.cells V.one V.tree
  loadV cellsAt isNC nilQ isSlD isIfD slNew ownRows ownCells V.isOwn slStore srcO qlook mlook mget mstr zval qnone qmake mput lmap isAggD placesOf fillV putCells lstore bound seqParts V.sh shL Blk.sh newV V.ok peqs peq srcRows qbytes byteSl appOk mmV mmR hidE V.fz fzL Blk.fz fzOk and_assoc
attribute [-simp] Int.not_le Int.not_lt Nat.not_le Nat.not_lt
def SAnd : List V → Option Res
  | [.agg [.int .u64 a, .int .u64 b], .agg [.int .u64 c, .int .u64 d]] => some ⟨.agg [.int .u64 (bAnd .u64 a c), .int .u64 (bAnd .u64 b d)], []⟩
  | _ => none
def maskA (f : Int) (w : Nat) : Int × Int := if f = 4 then (0, 4294967296 - 2 ^ w) else if 64 ≤ w then (18446744073709551616 - 2 ^ (w - 64), 0) else (18446744073709551615, 18446744073709551616 - 2 ^ w)
def SMask : List V → Option Res
  | [.int .u8 f, .int .i64 n] => if (f = 4 ∨ f = 6) ∧ 0 ≤ n ∧ n ≤ widN f then some ⟨.agg [.int .u64 (maskA f (widN f - n.toNat)).1, .int .u64 (maskA f (widN f - n.toNat)).2], []⟩ else none
  | _ => none
end Go.Proofs.Ytkcmgjagjbiinaa.AL
namespace Go.Proofs.Ytkcmgjagjbiinaa.AL
open Go
attribute [local simp] qf cv qbin ibin sbin qun retPost rvOk ctV ctPost marksOk retV resAll resOf V.lt ltL V.ren renL V.exp V.exp1 cleanL V.clean closedL V.closed V.cells V.one V.tree
  loadV cellsAt isNC nilQ isSlD isIfD slNew ownRows ownCells V.isOwn slStore srcO qlook mlook mget mstr zval qnone qmake mput lmap isAggD placesOf fillV putCells lstore bound seqParts V.sh shL Blk.sh newV V.ok peqs peq srcRows qbytes byteSl appOk mmV mmR hidE V.fz fzL Blk.fz fzOk and_assoc
attribute [-simp] Int.not_le Int.not_lt Nat.not_le Nat.not_lt
theorem rg_get? (n i : Nat) (f : Nat → Int) : (rg n f)[i]? = if i < n then some [.int .i64 (f i)] else none := by
  unfold rg
  by_cases h : i < n <;> simp [h]
theorem rg_get {n i : Nat} (f : Nat → Int) (h : i < (rg n f).length) : (rg n f)[i] = [.int .i64 (f i)] := by simp [rg]
attribute [simp] rg_get? rg_get rg_length
def bitA (f h l i : Int) : Int × Int := if cAddr f h l = true ∧ 0 ≤ i ∧ i < widN f then (bt h l (widN f - 1 - i.toNat), 0) else (0, 2)
def SBit : List V → Option Res
  | [.int .u8 f, .agg [.int .u64 h, .int .u64 l], .int .i64 i] => if inA h l then some ⟨.tup [.int .i64 (bitA f h l i).1, .int .i64 (bitA f h l i).2], []⟩ else none
  | _ => none
theorem bit_cases (f h l i : Int) : (∃ j : Nat, i = j ∧ j < widN f ∧ cAddr f h l = true ∧ bitA f h l i = (bt h l (widN f - 1 - j), 0)) ∨
    (bitA f h l i = (0, 2) ∧ (cAddr f h l = false ∨ (cAddr f h l = true ∧ i < 0) ∨ (cAddr f h l = true ∧ ¬ i < 0 ∧ (widN f : Int) ≤ i))) := by
  unfold bitA
  by_cases h1 : cAddr f h l = true ∧ 0 ≤ i ∧ i < widN f
  · exact .inl ⟨i.toNat, by omega, by omega, h1.1, by rw [if_pos h1]⟩
  · refine .inr ⟨by rw [if_neg h1], ?_⟩
    cases hc : cAddr f h l
    · simp
    · simp only [hc, true_and] at h1 ⊢
      simp
      omega
end Go.Proofs.Ytkcmgjagjbiinaa.AL
namespace Go.Proofs.Ytkcmgjagjbiinaa.AL
open Go
attribute [local simp] qf cv qbin ibin sbin qun retPost rvOk ctV ctPost marksOk retV resAll resOf V.lt ltL V.ren renL V.exp V.exp1 cleanL V.clean closedL V.closed V.cells V.one V.tree
  loadV cellsAt isNC nilQ isSlD isIfD slNew ownRows ownCells V.isOwn slStore srcO qlook mlook mget mstr zval qnone qmake mput lmap isAggD placesOf fillV putCells lstore bound seqParts V.sh shL Blk.sh newV V.ok peqs peq srcRows qbytes byteSl appOk mmV mmR hidE V.fz fzL Blk.fz fzOk and_assoc
attribute [-simp] Int.not_le Int.not_lt Nat.not_le Nat.not_lt
def SCut : List V → Option Res
  | [.int .u8 f, .agg [.int .u64 h, .int .u64 l], .int .i64 n] => if inA h l then
      (if cAddr f h l = true ∧ 0 ≤ n ∧ n ≤ widN f then some ⟨.tup [.agg [.int .u8 f, .int .u64 (cutA h l (widN f - n.toNat)).1, .int .u64 (cutA h l (widN f - n.toNat)).2, .int .i64 n], .int .i64 0], []⟩
      else some ⟨.tup [.agg [.int .u8 0, .int .u64 0, .int .u64 0, .int .i64 0], .int .i64 2], []⟩) else none
  | _ => none
theorem cut_cases (f h l n : Int) : (∃ j : Nat, n = j ∧ j ≤ widN f ∧ cAddr f h l = true) ∨
    (¬ (cAddr f h l = true ∧ 0 ≤ n ∧ n ≤ widN f) ∧ (cAddr f h l = false ∨ (cAddr f h l = true ∧ n < 0) ∨ (cAddr f h l = true ∧ ¬ n < 0 ∧ (widN f : Int) < n))) := by
  by_cases h1 : cAddr f h l = true ∧ 0 ≤ n ∧ n ≤ widN f
  · exact .inl ⟨n.toNat, by omega, by omega, h1.1⟩
  · refine .inr ⟨h1, ?_⟩
    cases hc : cAddr f h l
    · simp
    · simp only [hc, true_and] at h1 ⊢
      simp
      omega
theorem cAddr_46 {f h l : Int} (h : cAddr f h l = true) : f = 4 ∨ f = 6 := by
  unfold cAddr at h
  simp at h
  omega
theorem cAddr_4 {f h l : Int} (hc : cAddr f h l = true) (hf : f = 4) : h = 0 ∧ l < 4294967296 := by
  unfold cAddr at hc
  simp [hf] at hc
  omega
/-- The mask of a given length cuts. -/
theorem mask_cut {f h l : Int} {k : Nat} (hin : inA h l) (hc : cAddr f h l = true) (hk : k ≤ widN f) : bAnd .u64 h (maskA f k).1 = (cutA h l k).1 ∧ bAnd .u64 l (maskA f k).2 = (cutA h l k).2 := by
  obtain ⟨h0, h1, l0, l1⟩ := hin
  unfold maskA cutA
  by_cases h4 : f = 4
  · obtain ⟨rfl, hl⟩ := cAddr_4 hc h4
    subst h4
    have hk' : k ≤ 32 := hk
    rw [if_pos rfl, if_neg (by omega)]
    refine ⟨bAnd_zero (by omega) (by omega), ?_⟩
    exact bAnd_mask (m := 32) hk' (by omega) l0 (by show l < 4294967296; omega)
  · rw [if_neg h4]
    have := widN_le f
    by_cases hk : 64 ≤ k
    · rw [if_pos hk, if_pos hk]
      exact ⟨bAnd_mask (m := 64) (k := k - 64) (by omega) (by omega) h0 (by show h < 18446744073709551616; omega), bAnd_zero' l0 l1⟩
    · rw [if_neg hk, if_neg hk]
      exact ⟨bAnd_full h0 h1, bAnd_mask (m := 64) (k := k) (by omega) (by omega) l0 (by show l < 18446744073709551616; omega)⟩
end Go.Proofs.Ytkcmgjagjbiinaa.AL
namespace Go.Proofs.Ytkcmgjagjbiinaa.AL
open Go
attribute [local simp] qf cv qbin ibin sbin qun retPost rvOk ctV ctPost marksOk retV resAll resOf V.lt ltL V.ren renL V.exp V.exp1 cleanL V.clean closedL V.closed V.cells V.one V.tree
  loadV cellsAt isNC nilQ isSlD isIfD slNew ownRows ownCells V.isOwn slStore srcO qlook mlook mget mstr zval qnone qmake mput lmap isAggD placesOf fillV putCells lstore bound seqParts V.sh shL Blk.sh newV V.ok peqs peq srcRows qbytes byteSl appOk mmV mmR hidE V.fz fzL Blk.fz fzOk and_assoc
attribute [-simp] Int.not_le Int.not_lt Nat.not_le Nat.not_lt
@[simp] theorem toNat_add2 (a b : Nat) : ((a : Int) + (b : Int)).toNat = a + b := by omega
theorem bits01_rg (w : Nat) (f : Nat → Int) (h : ∀ i, i < w → f i = 0 ∨ f i = 1) : bits01 ((List.range w).map f) = true := by
  rw [bits01_iff]
  intro b hb
  simp only [List.mem_map, List.mem_range] at hb
  obtain ⟨i, hi, rfl⟩ := hb
  exact h i hi
theorem numA_lt {f h l : Int} (hin : inA h l) (hc : cAddr f h l = true) : 0 ≤ numA (h, l) ∧ numA (h, l) < 2 ^ widN f := by
  obtain ⟨h0, h1, l0, l1⟩ := hin
  unfold numA
  simp only
  rcases cAddr_46 hc with rfl | rfl
  · obtain ⟨rfl, hl⟩ := cAddr_4 hc rfl
    show _ ∧ _ < (4294967296 : Int)
    omega
  · show _ ∧ _ < (340282366920938463463374607431768211456 : Int)
    omega
theorem adr_cut {f h l : Int} {n : Nat} (hin : inA h l) (hc : cAddr f h l = true) (hn : n ≤ widN f) :
    adrOf ((List.range (widN f)).map fun i => if i < n then bt h l (widN f - 1 - i) else 0) = cutA h l (widN f - n) := by
  have h1 := numA_lt hin hc
  obtain ⟨h0, hh, l0, l1⟩ := hin
  have h2 := adrOf_bits (numA (h, l)) (widN f) n (widN_le f) hn h1.1 h1.2 (widN f) (Nat.le_refl _)
  simp only [bt_num l0 l1]
  have hbd := adrOf_bd ((List.range (widN f)).map fun i => if i < n then numA (h, l) / 2 ^ (widN f - 1 - i) % 2 else 0) (by
      intro b hb
      simp only [List.mem_map] at hb
      obtain ⟨i, _, rfl⟩ := hb
      split <;> omega) (0, 0) (by simp)
  refine numA_inj ⟨hbd.2.2.1, hbd.2.2.2⟩ ?_ ?_
  · unfold cutA
    split
    · simp
    · have := ipow_pos (widN f - n)
      have h3 := Int.ediv_mul_le l (Int.ne_of_gt this)
      exact ⟨Int.mul_nonneg (Int.ediv_nonneg l0 (by omega)) (by omega), by omega⟩
  · rw [h2, cutA_num l0 l1]
    split
    · rw [show n = widN f by omega]; simp
    · rfl
theorem SAdr_rg {w : Nat} {f : Nat → Int} (hw : w ≤ 1000) (h : ∀ i, i < w → f i = 0 ∨ f i = 1) : SAdr [.rd 1 (rg w f)] = some ⟨.agg [.int .u64 (adrOf ((List.range w).map f)).1, .int .u64 (adrOf ((List.range w).map f)).2], []⟩ := by
  simp only [SAdr, intsOf_rg]
  rw [if_pos ⟨bits01_rg w f h, by simpa using hw⟩]
end Go.Proofs.Ytkcmgjagjbiinaa.AL
namespace Go.Proofs.Ytkcmgjagjbiinaa.AL
open Go
attribute [local simp] qf cv qbin ibin sbin qun retPost rvOk ctV ctPost marksOk retV resAll resOf V.lt ltL V.ren renL V.exp V.exp1 cleanL V.clean closedL V.closed V.cells V.one V.tree
  loadV cellsAt isNC nilQ isSlD isIfD slNew ownRows ownCells V.isOwn slStore srcO qlook mlook mget mstr zval qnone qmake mput lmap isAggD placesOf fillV putCells lstore bound seqParts V.sh shL Blk.sh newV V.ok peqs peq srcRows qbytes byteSl appOk mmV mmR hidE V.fz fzL Blk.fz fzOk and_assoc
attribute [-simp] Int.not_le Int.not_lt Nat.not_le Nat.not_lt
def chkP (f h l n : Int) : Int := if widN f = 0 then 2 else if cAddr f h l = true ∧ 0 ≤ n ∧ n ≤ widN f then (if cutA h l (widN f - n.toNat) = (h, l) then 0 else 8) else 8
def SCheck : List V → Option Res
  | [.agg [.int .u8 f, .int .u64 h, .int .u64 l, .int .i64 n]] => if inA h l then some ⟨.int .i64 (chkP f h l n), []⟩ else none
  | _ => none
theorem chk_cases (f h l n : Int) : (widN f = 0 ∧ chkP f h l n = 2) ∨
    (widN f ≠ 0 ∧ ∃ j : Nat, n = j ∧ j ≤ widN f ∧ cAddr f h l = true ∧ chkP f h l n = if cutA h l (widN f - j) = (h, l) then 0 else 8) ∨
    (widN f ≠ 0 ∧ chkP f h l n = 8 ∧ (cAddr f h l = false ∨ (cAddr f h l = true ∧ n < 0) ∨ (cAddr f h l = true ∧ ¬ n < 0 ∧ (widN f : Int) < n))) := by
  unfold chkP
  by_cases h0 : widN f = 0
  · exact .inl ⟨h0, by rw [if_pos h0]⟩
  · refine .inr ?_
    rcases cut_cases f h l n with ⟨j, hj, hjw, hc⟩ | ⟨hb, h2⟩
    · refine .inl ⟨h0, j, hj, hjw, hc, ?_⟩
      rw [if_neg h0, if_pos ⟨hc, by omega, by omega⟩, hj]
      rfl
    · exact .inr ⟨h0, by rw [if_neg h0, if_neg hb], h2⟩
theorem cutA_rng {h l : Int} (hin : inA h l) (k : Nat) : 0 ≤ (cutA h l k).1 ∧ (cutA h l k).1 ≤ 18446744073709551615 ∧ 0 ≤ (cutA h l k).2 ∧ (cutA h l k).2 ≤ 18446744073709551615 := by
  obtain ⟨h0, hh, l0, l1⟩ := hin
  have key : ∀ (x : Int) (m : Nat), 0 ≤ x → 0 ≤ x / 2 ^ m * 2 ^ m ∧ x / 2 ^ m * 2 ^ m ≤ x := fun x m hx => by
    have := ipow_pos m
    exact ⟨Int.mul_nonneg (Int.ediv_nonneg hx (by omega)) (by omega), Int.ediv_mul_le x (Int.ne_of_gt this)⟩
  unfold cutA
  split
  · have := key h (k - 64) h0
    simp only
    omega
  · have := key l k l0
    simp only
    omega
theorem cut_zero {f h l : Int} {j : Nat} (hin : inA h l) (hj : j ≤ widN f) : (cutA h l (widN f - j) = (h, l)) ↔ ∀ i, j ≤ i → i < widN f → bt h l (widN f - 1 - i) = 0 := by
  have hr := cutA_rng hin (widN f - j)
  obtain ⟨h0, hh, l0, l1⟩ := hin
  have h1 : cutA h l (widN f - j) = (h, l) ↔ numA (h, l) / 2 ^ (widN f - j) * 2 ^ (widN f - j) = numA (h, l) := by
    rw [← cutA_num l0 l1]
    exact ⟨fun h => by rw [h], fun h => numA_inj hr.2.2 ⟨l0, l1⟩ h⟩
  rw [h1, cut_iff]
  simp only [bt_num l0 l1]
  constructor
  · intro h i h2 h3
    exact h (widN f - 1 - i) (by omega)
  · intro h i hi
    have := h (widN f - 1 - i) (by omega) (by omega)
    rwa [show widN f - 1 - (widN f - 1 - i) = i by omega] at this
end Go.Proofs.Ytkcmgjagjbiinaa.AL
namespace Go.Proofs.Ytkcmgjagjbiinaa.AL
open Go
attribute [local simp] qf cv qbin ibin sbin qun retPost rvOk ctV ctPost marksOk retV resAll resOf V.lt ltL V.ren renL V.exp V.exp1 cleanL V.clean closedL V.closed V.cells V.one V.tree
  loadV cellsAt isNC nilQ isSlD isIfD slNew ownRows ownCells V.isOwn slStore srcO qlook mlook mget mstr zval qnone qmake mput lmap isAggD placesOf fillV putCells lstore bound seqParts V.sh shL Blk.sh newV V.ok peqs peq srcRows qbytes byteSl appOk mmV mmR hidE V.fz fzL Blk.fz fzOk and_assoc
attribute [-simp] Int.not_le Int.not_lt Nat.not_le Nat.not_lt
def covP (f h l n f' h' l' n' : Int) : Bool := decide (chkP f h l n = 0) && (decide (chkP f' h' l' n' = 0) && (decide (f = f') && (decide (n ≤ n') && decide (cutA h' l' (widN f - n.toNat) = (h, l)))))
def SCovers : List V → Option Res
  | [.agg [.int .u8 f, .int .u64 h, .int .u64 l, .int .i64 n], .agg [.int .u8 f', .int .u64 h', .int .u64 l', .int .i64 n']] => if inA h l ∧ inA h' l' then some ⟨.bool (covP f h l n f' h' l' n'), []⟩ else none
  | _ => none
theorem chk_zero {f h l n : Int} (h0 : chkP f h l n = 0) : ∃ j : Nat, n = j ∧ j ≤ widN f ∧ cAddr f h l = true ∧ cutA h l (widN f - j) = (h, l) := by
  rcases chk_cases f h l n with ⟨_, hq⟩ | ⟨_, j, hj, hjw, hc, hq⟩ | ⟨_, hq, _⟩
  · rw [hq] at h0; omega
  · refine ⟨j, hj, hjw, hc, ?_⟩
    rw [hq] at h0
    split at h0
    · assumption
    · omega
  · rw [hq] at h0; omega
theorem cov_bits {f h l h' l' : Int} {j : Nat} (hin : inA h l) (hin' : inA h' l') (hc : cAddr f h l = true) (hc' : cAddr f h' l' = true) (hj : j ≤ widN f) (hcut : cutA h l (widN f - j) = (h, l)) :
    cutA h' l' (widN f - j) = (h, l) ↔ ∀ i, i < j → bt h l (widN f - 1 - i) = bt h' l' (widN f - 1 - i) := by
  have hr := cutA_rng hin' (widN f - j)
  have n1 := numA_lt hin hc
  have n2 := numA_lt hin' hc'
  obtain ⟨h0, hh, l0, l1⟩ := hin
  obtain ⟨h0', hh', l0', l1'⟩ := hin'
  have hcut' := congrArg numA hcut
  rw [cutA_num l0 l1] at hcut'
  have hp := ipow_pos (widN f - j)
  have e1 : cutA h' l' (widN f - j) = (h, l) ↔ numA (h', l') / 2 ^ (widN f - j) = numA (h, l) / 2 ^ (widN f - j) := by
    constructor
    · intro e
      have e2 := congrArg numA e
      rw [cutA_num l0' l1'] at e2
      rw [← e2, Int.mul_ediv_cancel _ (by omega)]
    · intro e
      refine numA_inj hr.2.2 ⟨l0, l1⟩ ?_
      rw [cutA_num l0' l1', e, hcut']
  rw [e1, ← bits_from (w := widN f) (by omega) n2.1 n2.2 n1.1 n1.2]
  simp only [bt_num l0 l1, bt_num l0' l1']
  constructor
  · intro hb i hi
    exact (hb (widN f - 1 - i) (by omega) (by omega)).symm
  · intro hb i h1 h2
    have := (hb (widN f - 1 - i) (by omega)).symm
    rwa [show widN f - 1 - (widN f - 1 - i) = i by omega] at this
theorem cov_cases (f h l n f' h' l' n' : Int) : (∃ j : Nat, n = j ∧ j ≤ widN f ∧ cAddr f h l = true ∧ cutA h l (widN f - j) = (h, l) ∧ cAddr f h' l' = true ∧ (j : Int) ≤ n' ∧ n' ≤ widN f ∧ f = f' ∧ chkP f h l j = 0 ∧ chkP f h' l' n' = 0 ∧ covP f h l n f' h' l' n' = decide (cutA h' l' (widN f - j) = (h, l))) ∨
    (covP f h l n f' h' l' n' = false ∧ (¬ chkP f h l n = 0 ∨ (chkP f h l n = 0 ∧ ¬ chkP f' h' l' n' = 0) ∨ (chkP f h l n = 0 ∧ chkP f' h' l' n' = 0 ∧ ¬ f = f') ∨ (chkP f h l n = 0 ∧ chkP f' h' l' n' = 0 ∧ f = f' ∧ n' < n))) := by
  unfold covP
  by_cases h1 : chkP f h l n = 0
  · by_cases h2 : chkP f' h' l' n' = 0
    · by_cases h3 : f = f'
      · by_cases h4 : n ≤ n'
        · left
          obtain ⟨j, hj, hjw, hc, hcut⟩ := chk_zero h1
          obtain ⟨j', hj', hjw', hc', hcut'⟩ := chk_zero h2
          subst h3
          subst hj
          exact ⟨j, rfl, hjw, hc, hcut, hc', h4, by omega, rfl, h1, h2, by simp [h1, h2, h4]⟩
        · right
          simp [h1, h2, h3, h4]
          omega
      · right; simp [h1, h2, h3]
    · right; simp [h1, h2]
  · right; simp [h1]
end Go.Proofs.Ytkcmgjagjbiinaa.AL
namespace Go.Proofs.Ytkcmgjagjbiinaa.AL
open Go
attribute [local simp] qf cv qbin ibin sbin qun retPost rvOk ctV ctPost marksOk retV resAll resOf V.lt ltL V.ren renL V.exp V.exp1 cleanL V.clean closedL V.closed V.cells V.one V.tree
  loadV cellsAt isNC nilQ isSlD isIfD slNew ownRows ownCells V.isOwn slStore srcO qlook mlook mget mstr zval qnone qmake mput lmap isAggD placesOf fillV putCells lstore bound seqParts V.sh shL Blk.sh newV V.ok peqs peq srcRows qbytes byteSl appOk mmV mmR hidE V.fz fzL Blk.fz fzOk and_assoc
attribute [-simp] Int.not_le Int.not_lt Nat.not_le Nat.not_lt
/-- A span's check. -/
def chkS (f h l h' l' : Int) : Int := if widN f = 0 then 2 else if cAddr f h l = true ∧ cAddr f h' l' = true ∧ cmpA h l h' l' ≤ 0 then 0 else 8
def SChkS : List V → Option Res
  | [.int .u8 f, .agg [.int .u64 h, .int .u64 l, .int .u64 h', .int .u64 l']] => some ⟨.int .i64 (chkS f h l h' l'), []⟩
  | _ => none
theorem wid0 (f : Int) : widN f = 0 ↔ ¬ f = 4 ∧ ¬ f = 6 := by
  unfold widN
  split
  · simp_all
  · split <;> simp_all
theorem runs_span_Check : ∀ args r, SChkS args = some r → Runs Try.prog 101 args r := by
  intro args r hh
  unfold SChkS at hh
  split at hh
  · rename_i f h l h' l'
    cases hh
    have hT : ((T0.add 98 SAddr).add 79 SCompare).ok Try.prog := Tab.add_ok (Tab.add_ok (T0_ok _) runs_number_CheckAddr) runs_number_Compare
    refine Runs.of_body Try.func101 (by decide) rfl (by simp [Try.f101]) ?_
    refine W.of_WE hT mixed M0 _ (by kernel_rfl) ?_
    by_cases h4 : f = 4
    · cases c1 : cAddr f h l
      · simp [Try.f101, SAddr, h4 ▸ c1, h4, chkS, widN]
      · cases c2 : cAddr f h' l'
        · simp [Try.f101, SAddr, h4 ▸ c1, h4 ▸ c2, h4, chkS, widN]
        · by_cases c3 : cmpA h l h' l' ≤ 0
          · simp [Try.f101, SAddr, h4 ▸ c1, h4 ▸ c2, h4, chkS, widN, SCompare, c3, show ¬ 0 < cmpA h l h' l' by omega]
          · simp [Try.f101, SAddr, h4 ▸ c1, h4 ▸ c2, h4, chkS, widN, SCompare, c3, show 0 < cmpA h l h' l' by omega]
    · by_cases h6 : f = 6
      · cases c1 : cAddr f h l
        · simp [Try.f101, SAddr, h6 ▸ c1, h6, chkS, widN]
        · cases c2 : cAddr f h' l'
          · simp [Try.f101, SAddr, h6 ▸ c1, h6 ▸ c2, h6, chkS, widN]
          · by_cases c3 : cmpA h l h' l' ≤ 0
            · simp [Try.f101, SAddr, h6 ▸ c1, h6 ▸ c2, h6, chkS, widN, SCompare, c3, show ¬ 0 < cmpA h l h' l' by omega]
            · simp [Try.f101, SAddr, h6 ▸ c1, h6 ▸ c2, h6, chkS, widN, SCompare, c3, show 0 < cmpA h l h' l' by omega]
      · simp [Try.f101, h4, h6, chkS, widN]
  · cases hh
theorem runs_ref02_Check : ∀ args r, SChkS args = some r → Runs Try.prog 87 args r := by
  intro args r hh
  unfold SChkS at hh
  split at hh
  · rename_i f h l h' l'
    cases hh
    have hT : (((T0.add 88 SAddr).add 73 SCompare).add 102 SWid).ok Try.prog := Tab.add_ok (Tab.add_ok (Tab.add_ok (T0_ok _) runs_ref01_CheckAddr) runs_ref01_Compare) runs_ref01_Width
    refine Runs.of_body Try.func87 (by decide) rfl (by simp [Try.f87]) ?_
    refine W.of_WE hT mixed M0 _ (by kernel_rfl) ?_
    by_cases h0 : widN f = 0
    · simp [Try.f87, SWid, wid_N, h0, chkS]
    · cases c1 : cAddr f h l
      · simp [Try.f87, SWid, wid_N, h0, SAddr, c1, chkS]
      · cases c2 : cAddr f h' l'
        · simp [Try.f87, SWid, wid_N, h0, SAddr, c1, c2, chkS]
        · by_cases c3 : cmpA h l h' l' ≤ 0
          · simp [Try.f87, SWid, wid_N, h0, SAddr, c1, c2, chkS, SCompare, c3, show ¬ 0 < cmpA h l h' l' by omega]
          · simp [Try.f87, SWid, wid_N, h0, SAddr, c1, c2, chkS, SCompare, c3, show 0 < cmpA h l h' l' by omega]
  · cases hh
def inS (h l h' l' x y : Int) : Bool := decide (cmpA h l x y ≤ 0) && decide (cmpA x y h' l' ≤ 0)
def SInS : List V → Option Res
  | [.agg [.int .u64 h, .int .u64 l, .int .u64 h', .int .u64 l'], .agg [.int .u64 x, .int .u64 y]] => some ⟨.bool (inS h l h' l' x y), []⟩
  | _ => none
theorem runs_ref02_In : ∀ args r, SInS args = some r → Runs Try.prog 112 args r := by
  intro args r hh
  unfold SInS at hh
  split at hh
  · rename_i h l h' l' x y
    cases hh
    have hT : (T0.add 73 SCompare).ok Try.prog := Tab.add_ok (T0_ok _) runs_ref01_Compare
    refine Runs.of_body Try.func112 (by decide) rfl (by simp [Try.f112]) ?_
    refine W.of_WE hT mixed M0 _ (by kernel_rfl) ?_
    by_cases c1 : cmpA h l x y ≤ 0
    · simp [Try.f112, SCompare, c1, inS]
    · simp [Try.f112, SCompare, c1, inS]
  · cases hh
def SKW : List V → Option Res
  | [.int .u8 f] => some ⟨.int .i64 (if f = 4 then 32 else 128), []⟩
  | _ => none
/-- The width that a span's walk takes for a family. -/
def kw (f : Int) : Nat := if f = 4 then 32 else 128
def SLast : List V → Option Res
  | [.agg [.int .u8 f, .int .u64 h, .int .u64 l, .int .i64 n]] => if inA h l ∧ 0 ≤ n ∧ n ≤ kw f then some ⟨.agg [.int .u64 (lastA h l (kw f - n.toNat)).1, .int .u64 (lastA h l (kw f - n.toNat)).2], []⟩ else none
  | _ => none
theorem kw_wid {f h l : Int} (hc : cAddr f h l = true) : kw f = widN f := by
  rcases cAddr_46 hc with rfl | rfl <;> rfl
theorem lastA_rng {h l : Int} (hin : inA h l) {k : Nat} (hk : k ≤ 128) : inA (lastA h l k).1 (lastA h l k).2 := by
  obtain ⟨h0, h1, l0, l1⟩ := hin
  have key : ∀ (x : Int) (m : Nat), m ≤ 64 → 0 ≤ x → x ≤ 18446744073709551615 → 0 ≤ x / 2 ^ m * 2 ^ m + (2 ^ m - 1) ∧ x / 2 ^ m * 2 ^ m + (2 ^ m - 1) ≤ 18446744073709551615 := by
    intro x m hm hx hx'
    have g := ipow_pos m
    have e1 : 0 ≤ x / 2 ^ m * 2 ^ m := Int.mul_nonneg (Int.ediv_nonneg hx (by omega)) (by omega)
    have e2 : x / 2 ^ m < 2 ^ (64 - m) := by
      apply Int.ediv_lt_of_lt_mul g
      rw [← ipow_add, show 64 - m + m = 64 by omega]
      show x < 18446744073709551616
      omega
    have e3 : (x / 2 ^ m + 1) * 2 ^ m ≤ 2 ^ (64 - m) * 2 ^ m := Int.mul_le_mul_of_nonneg_right (by omega) (by omega)
    rw [← ipow_add, show 64 - m + m = 64 by omega, Int.add_mul, show (2 : Int) ^ 64 = 18446744073709551616 from rfl] at e3
    omega
  unfold lastA inA
  split
  · have := key h (k - 64) (by omega) h0 h1
    simp only
    omega
  · have := key l k (by omega) l0 l1
    simp only
    omega
theorem adr_last {f h l : Int} {n : Nat} (hin : inA h l) (hc : cAddr f h l = true) (hn : n ≤ widN f) :
    adrOf ((List.range (widN f)).map fun i => if i < n then bt h l (widN f - 1 - i) else 1) = lastA h l (widN f - n) := by
  have h1 := numA_lt hin hc
  have hr := lastA_rng (k := widN f - n) hin (by have := widN_le f; omega)
  obtain ⟨h0, hh, l0, l1⟩ := hin
  have h2 := adrOf_ones (numA (h, l)) (widN f) n (widN_le f) hn h1.1 h1.2 (widN f) (Nat.le_refl _)
  simp only [bt_num l0 l1]
  have hbd := adrOf_bd ((List.range (widN f)).map fun i => if i < n then numA (h, l) / 2 ^ (widN f - 1 - i) % 2 else 1) (by
      intro b hb
      simp only [List.mem_map] at hb
      obtain ⟨i, _, rfl⟩ := hb
      split <;> omega) (0, 0) (by simp)
  refine numA_inj ⟨hbd.2.2.1, hbd.2.2.2⟩ hr.2.2 ?_
  rw [lastA_num l0 l1]
  refine h2.trans ?_
  split
  · rw [show n = widN f by omega]; simp
  · rfl
def SLastR : List V → Option Res
  | [.agg [.int .u8 f, .int .u64 h, .int .u64 l, .int .i64 n]] => if inA h l ∧ cAddr f h l = true ∧ 0 ≤ n ∧ n ≤ widN f then some ⟨.agg [.int .u64 (lastA h l (widN f - n.toNat)).1, .int .u64 (lastA h l (widN f - n.toNat)).2], []⟩ else none
  | _ => none
theorem runs_ref02_Last : ∀ args r, SLastR args = some r → Runs Try.prog 107 args r := by
  intro args r hh
  unfold SLastR at hh
  split at hh
  · rename_i f h l n
    split at hh
    · rename_i hin
      cases hh
      obtain ⟨hin, hc, hn0, hn1⟩ := hin
      obtain ⟨j, rfl⟩ : ∃ j : Nat, n = j := ⟨n.toNat, by omega⟩
      have hw := widN_le f
      have hT : ((T0.add 89 SBits).add 90 SAdr).ok Try.prog := Tab.add_ok (Tab.add_ok (T0_ok _) runs_ref01_Bits) runs_ref01_Addr
      refine Runs.of_body Try.func107 (by decide) rfl (by simp [Try.f107]) ?_
      refine W.seqE hT mixed M0 (by kernel_rfl) ?_
      simp [Try.f107]
      refine W.seqE hT mixed M0 (by kernel_rfl) ?_
      simp [Try.f107, SBits, hin]
      refine W.cut True [(2, .ptr 0 0), (3, .own 1)] [.box 99 [.int .u64 0, .int .u64 0], .sl 1 3 (rg (widN f) fun i => if i < j then bt h l (widN f - 1 - i) else 1)] 23 ?_ ?_
      · refine W.seqE hT mixed M0 (by kernel_rfl) ?_
        simp [Try.f107]
        refine W.block (W.for (fun _ => True) (fun k => [(2, .ptr 0 0), (3, .own 1), (4, .int .i64 (j + k))])
          (fun k => [.box 99 [.int .u64 0, .int .u64 0], .sl 1 3 (rg (widN f) fun i => if i < j ∨ j + k ≤ i then bt h l (widN f - 1 - i) else 1)]) 23 (widN f - j) trivial ?_ ?_)
        · simp
          exact rg_congr fun i _ => by rw [if_pos (by omega)]
        · intro k hk _
          refine W.of_WE hT mixed M0 _ (by kernel_rfl) ?_
          by_cases hlt : j + k < widN f
          · simp [hlt, show ((j : Int) + k < (widN f : Int)) by omega]
            rw [wr_i64 (by omega) (by omega)]
            refine ⟨by omega, by omega, by omega, ?_⟩
            simp only [rg_set]
            refine rg_congr fun i hi => ?_
            by_cases h2 : i = j + k
            · rw [if_pos h2, if_neg (by omega)]
            · rw [if_neg h2]
              by_cases h3 : i < j ∨ j + k ≤ i
              · rw [if_pos h3, if_pos (by omega)]
              · rw [if_neg h3, if_neg (by omega)]
          · simp [hlt, show ¬ ((j : Int) + k < (widN f : Int)) by omega]
            refine rg_congr fun i hi => ?_
            by_cases h2 : i < j
            · rw [if_pos (.inl h2), if_pos h2]
            · rw [if_neg (by omega), if_neg h2]
      · intro _
        refine W.of_WE hT mixed M0 _ (by kernel_rfl) ?_
        have hA := SAdr_rg (w := widN f) (f := fun i => if i < j then bt h l (widN f - 1 - i) else 1) (by omega) (by intro i _; split; exact bt_01 ..; simp)
        rw [adr_last hin hc (by omega)] at hA
        simp +contextual [Try.f107, hA]
    · cases hh
  · cases hh

end Go.Proofs.Ytkcmgjagjbiinaa.AL
namespace Go.Proofs.Ytkcmgjagjbiinaa.AL
open Go
attribute [local simp] qf cv qbin ibin sbin qun retPost rvOk ctV ctPost marksOk retV resAll resOf V.lt ltL V.ren renL V.exp V.exp1 cleanL V.clean closedL V.closed V.cells V.one V.tree
  loadV cellsAt isNC nilQ isSlD isIfD slNew ownRows ownCells V.isOwn slStore srcO qlook mlook mget mstr zval qnone qmake mput lmap isAggD placesOf fillV putCells lstore bound seqParts V.sh shL Blk.sh newV V.ok peqs peq srcRows qbytes byteSl appOk mmV mmR hidE V.fz fzL Blk.fz fzOk and_assoc
attribute [-simp] Int.not_le Int.not_lt Nat.not_le Nat.not_lt
def SOf : List V → Option Res
  | [.agg [.int .u8 f, .int .u64 h, .int .u64 l, .int .i64 n]] => if inA h l then
      (if chkP f h l n = 0 then some ⟨.tup [.agg [.int .u64 h, .int .u64 l, .int .u64 (lastA h l (widN f - n.toNat)).1, .int .u64 (lastA h l (widN f - n.toNat)).2], .int .i64 0], []⟩
      else some ⟨.tup [.agg [.int .u64 0, .int .u64 0, .int .u64 0, .int .u64 0], .int .i64 (chkP f h l n)], []⟩) else none
  | _ => none
end Go.Proofs.Ytkcmgjagjbiinaa.AL
namespace Go.Proofs.Ytkcmgjagjbiinaa.AL
open Go
attribute [local simp] qf cv qbin ibin sbin qun retPost rvOk ctV ctPost marksOk retV resAll resOf V.lt ltL V.ren renL V.exp V.exp1 cleanL V.clean closedL V.closed V.cells V.one V.tree
  loadV cellsAt isNC nilQ isSlD isIfD slNew ownRows ownCells V.isOwn slStore srcO qlook mlook mget mstr zval qnone qmake mput lmap isAggD placesOf fillV putCells lstore bound seqParts V.sh shL Blk.sh newV V.ok peqs peq srcRows qbytes byteSl appOk mmV mmR hidE V.fz fzL Blk.fz fzOk and_assoc
attribute [-simp] Int.not_le Int.not_lt Nat.not_le Nat.not_lt
theorem Runs.of_value {P : Program} [Gl P] {f : FuncId} {args : List V} {v : V} (h : ∀ (E : Env) (us : List Value) (w : World), RL E args us → ∃ u, (callFunc f us.toArray).run P w = .ok (.value u) w ∧ R E v u) : Runs P f args ⟨v, []⟩ := by
  intro E us hD hO hG hargs
  obtain ⟨u, h1, h2⟩ := h E us E.w hargs
  unfold CalledX
  rw [h1]
  exact ⟨E, rfl, ⟨fun b hb => absurd hb (hD b), h2, ⟨fun b x hx => by simp [Res.hp] at hx, fun b b' x x' g hx => by simp [Res.hp] at hx⟩, Ev.refl _ _, fun g _ => Iff.rfl, hO⟩⟩
def addR (x y c : Int) : Int × Int := ((x + y + c) % 18446744073709551616, (x + y + c) / 18446744073709551616)
def SAdd64 : List V → Option Res
  | [.int .u64 x, .int .u64 y, .int .u64 c] => if 0 ≤ x ∧ 0 ≤ y ∧ 0 ≤ c ∧ c ≤ 1 then some ⟨.tup [.int .u64 (addR x y c).1, .int .u64 (addR x y c).2], []⟩ else none
  | _ => none
theorem runs_bits_Add64 : ∀ args r, SAdd64 args = some r → Runs Try.prog 97 args r := by
  intro args r hh
  unfold SAdd64 at hh
  split at hh
  · rename_i x y c
    split at hh
    · rename_i hin
      cases hh
      refine Runs.of_value fun E us w hr => ?_
      simp only [RL, R] at hr
      obtain ⟨_, _, rfl, rfl, _, _, rfl, rfl, _, _, rfl, rfl, rfl⟩ := hr
      refine ⟨.tuple #[.int .u64 (addR x y c).1, .int .u64 (addR x y c).2], ?_, ?_⟩
      · rw [run_callFunc_extern Try.func97 (by kernel_rfl) (by kernel_rfl) (by kernel_rfl) (e := add64Entry) (by kernel_rfl)]
        show ((add64Entry #[.int .u64 x, .int .u64 y, .int .u64 c]).run _ w).andThen _ = _
        rw [run_add64 x y c hin.1 hin.2.1 hin.2.2.1 hin.2.2.2]
        rfl
      · simp only [R]
        exact ⟨_, rfl, by simp [RL, R]⟩
    · cases hh
  · cases hh
def subR (x y b : Int) : Int × Int := ((x - y - b) % 18446744073709551616, if x < y + b then 1 else 0)
def SSub64 : List V → Option Res
  | [.int .u64 x, .int .u64 y, .int .u64 c] => if 0 ≤ x ∧ x ≤ 18446744073709551615 ∧ 0 ≤ y ∧ y ≤ 18446744073709551615 ∧ 0 ≤ c ∧ c ≤ 1 then some ⟨.tup [.int .u64 (subR x y c).1, .int .u64 (subR x y c).2], []⟩ else none
  | _ => none
def sub64E : Array Value → Sem Value := fun args => do
  let (x, y, b) ← Extern.MathBitsCarry.three "Sub64" args
  pure (Extern.MathBitsCarry.pair ((x + Extern.MathBitsCarry.m64 - y - b) % Extern.MathBitsCarry.m64) (if x < y + b then 1 else 0))
theorem run_sub64E {P : Program} (x y b : Nat) (hb : b ≤ 1) (w : World) :
    (sub64E #[.int .u64 x, .int .u64 y, .int .u64 b]).run P w =
      .ok (.tuple #[.int .u64 (((x + 18446744073709551616 - y - b) % 18446744073709551616 : Nat) : Int), .int .u64 ((if x < y + b then 1 else 0 : Nat) : Int)]) w := by
  have : b = 0 ∨ b = 1 := by omega
  rcases this with rfl | rfl <;> rfl
theorem runs_bits_Sub64 : ∀ args r, SSub64 args = some r → Runs Try.prog 96 args r := by
  intro args r hh
  unfold SSub64 at hh
  split at hh
  · rename_i x y c
    split at hh
    · rename_i hin
      cases hh
      obtain ⟨hx, hx', hy, hy', hc, hc'⟩ := hin
      obtain ⟨x, rfl⟩ := Int.eq_ofNat_of_zero_le hx
      obtain ⟨y, rfl⟩ := Int.eq_ofNat_of_zero_le hy
      obtain ⟨c, rfl⟩ := Int.eq_ofNat_of_zero_le hc
      refine Runs.of_value fun E us w hr => ?_
      simp only [RL, R] at hr
      obtain ⟨_, _, rfl, rfl, _, _, rfl, rfl, _, _, rfl, rfl, rfl⟩ := hr
      refine ⟨.tuple #[.int .u64 (subR x y c).1, .int .u64 (subR x y c).2], ?_, ?_⟩
      · rw [run_callFunc_extern Try.func96 (by kernel_rfl) (by kernel_rfl) (by kernel_rfl) (e := sub64E) (by kernel_rfl)]
        show ((sub64E #[.int .u64 x, .int .u64 y, .int .u64 c]).run _ w).andThen _ = _
        rw [run_sub64E x y c (by omega)]
        have e1 : (((x + 18446744073709551616 - y - c) % 18446744073709551616 : Nat) : Int) = (subR x y c).1 := by unfold subR; simp only; omega
        have e2 : ((if x < y + c then 1 else 0 : Nat) : Int) = (subR x y c).2 := by
          unfold subR
          by_cases h : x < y + c
          · rw [if_pos h]; simp only; rw [if_pos (by omega)]; rfl
          · rw [if_neg h]; simp only; rw [if_neg (by omega)]; rfl
        rw [e1, e2]
        rfl
      · simp only [R]
        exact ⟨_, rfl, by simp [RL, R]⟩
    · cases hh
  · cases hh
/-- The address that is greater by one; is there any? -/
def nextA (f h l : Int) : Int × Int × Bool :=
  let p := addR l 1 0
  let q := addR h 0 p.2
  if cAddr f h l = true ∧ cAddr f q.1 p.1 = true ∧ ¬ q.2 = 1 then (q.1, p.1, true) else (0, 0, false)
def SNext : List V → Option Res
  | [.int .u8 f, .agg [.int .u64 h, .int .u64 l]] => if inA h l then some ⟨.tup [.agg [.int .u64 (nextA f h l).1, .int .u64 (nextA f h l).2.1], .bool (nextA f h l).2.2], []⟩ else none
  | _ => none
theorem runs_span_Next : ∀ args r, SNext args = some r → Runs Try.prog 83 args r := by
  intro args r hh
  unfold SNext at hh
  split at hh
  · rename_i f h l
    split at hh
    · rename_i hin
      cases hh
      obtain ⟨h0, h1, l0, l1⟩ := hin
      have hT : ((T0.add 98 SAddr).add 97 SAdd64).ok Try.prog := Tab.add_ok (Tab.add_ok (T0_ok _) runs_number_CheckAddr) runs_bits_Add64
      have hc : 0 ≤ (addR l 1 0).2 ∧ (addR l 1 0).2 ≤ 1 := by unfold addR; simp only; omega
      refine Runs.of_body Try.func83 (by decide) rfl (by simp [Try.f83]) ?_
      refine W.of_WE hT mixed M0 _ (by kernel_rfl) ?_
      cases c1 : cAddr f h l
      · simp [Try.f83, SAdd64, h0, l0, hc, SAddr, c1, nextA]
      · cases c2 : cAddr f (addR h 0 (addR l 1 0).2).1 (addR l 1 0).1
        · simp [Try.f83, SAdd64, h0, l0, hc, SAddr, c1, c2, nextA]
        · by_cases c3 : (addR h 0 (addR l 1 0).2).2 = 1
          · simp [Try.f83, SAdd64, h0, l0, hc, SAddr, c1, c2, c3, nextA]
          · simp [Try.f83, SAdd64, h0, l0, hc, SAddr, c1, c2, c3, nextA]
    · cases hh
  · cases hh
def prevA (h l : Int) : Int × Int × Bool :=
  let p := subR l 1 0
  let q := subR h 0 p.2
  if q.2 = 1 then (0, 0, false) else (q.1, p.1, true)
def SPrev : List V → Option Res
  | [.agg [.int .u64 h, .int .u64 l]] => if inA h l then some ⟨.tup [.agg [.int .u64 (prevA h l).1, .int .u64 (prevA h l).2.1], .bool (prevA h l).2.2], []⟩ else none
  | _ => none
theorem runs_span_Prev : ∀ args r, SPrev args = some r → Runs Try.prog 82 args r := by
  intro args r hh
  unfold SPrev at hh
  split at hh
  · rename_i h l
    split at hh
    · rename_i hin
      cases hh
      obtain ⟨h0, h1, l0, l1⟩ := hin
      have hT : (T0.add 96 SSub64).ok Try.prog := Tab.add_ok (T0_ok _) runs_bits_Sub64
      have hc : 0 ≤ (subR l 1 0).2 ∧ (subR l 1 0).2 ≤ 1 := by unfold subR; simp only; split <;> omega
      refine Runs.of_body Try.func82 (by decide) rfl (by simp [Try.f82]) ?_
      refine W.of_WE hT mixed M0 _ (by kernel_rfl) ?_
      by_cases c3 : (subR h 0 (subR l 1 0).2).2 = 1
      · simp [Try.f82, SSub64, h0, l0, h1, l1, hc, c3, prevA]
      · simp [Try.f82, SSub64, h0, l0, h1, l1, hc, c3, prevA]
    · cases hh
  · cases hh

end Go.Proofs.Ytkcmgjagjbiinaa.AL
