import Derived.Test.YtbnjijffkjcmcaaDoorPX6W10
import Derived.Test.YtbnjijffkjcmcaaDoorPX6W8
import Derived.Test.YtbnjijffkjcmcaaDoorPX6AL4
import Derived.LaidMore
import Derived.Stop.Joined
import Derived.Stop.LaidErr
import Derived.Lib.LaidTab
import Derived.Shelf.Vars
import Derived.HandedShaped
import Derived.Lib.Walk
import Derived.Lib.AtoiErrMem
import Derived.Test.YtbnjijffkjcmcaaDoorRows
/- What single functions compute: a part of the proof; no conditions. -/
set_option linter.unusedVariables false
set_option linter.unusedSimpArgs false
set_option maxRecDepth 100000
set_option linter.unusedSectionVars false
namespace Go.Proofs.YtbnjijffkjcmcaaDoor.AL
open Go
attribute [local simp] qf cv qbin ibin sbin qun retPost rvOk ctV ctPost marksOk retV resAll resOf V.lt ltL V.ren renL V.exp V.exp1 cleanL V.clean closedL V.closed V.cells V.one V.tree
  loadV cellsAt isNC nilQ isSlD isIfD slNew ownRows ownCells V.isOwn slStore srcO qlook mlook mget mstr zval qnone qmake mput lmap isAggD placesOf fillV putCells lstore bound seqParts V.sh shL Blk.sh newV V.ok peqs peq srcRows qbytes byteSl appOk mmV mmR hidE V.fz fzL Blk.fz fzOk and_assoc
attribute [-simp] Int.not_le Int.not_lt Nat.not_le Nat.not_lt
def M_f7 : Md := fun i => if i = 2 then some #[0, 0, 3, 0, 0, 31, 63, 127] else some #[]
@[simp] theorem M_f7_eq {i : Nat} : M_f7 i = (if i = 2 then some #[0, 0, 3, 0, 0, 31, 63, 127] else some #[]) := rfl
theorem bit6 (h l : Int) {k : Nat} (hk : k < 128) : bitA 6 h l (k : Int) = (bt h l (127 - k), 0) := by
  unfold bitA
  rw [if_pos ⟨rfl, by omega, by show (k : Int) < 128; omega⟩, Int.toNat_natCast]; rfl
theorem numberCompare_runs : ∀ As, ArgsV Tryd.prog Tryd.f7.params.toList [[.int .u64, .int .u64], [.int .u64, .int .u64]] As → Runs Tryd.prog 7 As ⟨.bool true, []⟩ := by
  intro As h
  simp [Tryd.f7, ArgsV, LSh, VSh, argV] at h
  obtain ⟨_, _, rfl, ⟨_, _, rfl, ⟨h1, rfl, hh1⟩, _, rfl, l1, rfl, hl1⟩, _, rfl, _, _, rfl, ⟨h2, rfl, hh2⟩, _, rfl, l2, rfl, hl2⟩ := h
  have i1 : inA h1 l1 := ⟨(u64_rng hh1).1, (u64_rng hh1).2, (u64_rng hl1).1, (u64_rng hl1).2⟩
  have i2 : inA h2 l2 := ⟨(u64_rng hh2).1, (u64_rng hh2).2, (u64_rng hl2).1, (u64_rng hl2).2⟩
  have hT : (((T0.add 32 SCompare).add 30 SBit).add 16 SAlive1).ok Tryd.prog := Tab.add_ok (Tab.add_ok (Tab.add_ok (T0_ok _) runs_number_Compare) runs_number_Bit) runs_alive1
  have ez := @cmp_zero h1 l1 h2 l2
  have ea := cmp_anti h1 l1 h2 l2
  have er := cmp_rng h1 l1 h2 l2
  have ed := fun k => @cmp_diff h1 l1 h2 l2 k i1 i2
  have es := cmp_same i1 i2
  have c1 : SCompare [.agg [.int .u64 h1, .int .u64 l1], .agg [.int .u64 h2, .int .u64 l2]] = some ⟨.int .i64 (cmpA h1 l1 h2 l2), []⟩ := rfl
  have c2 : SCompare [.agg [.int .u64 h2, .int .u64 l2], .agg [.int .u64 h1, .int .u64 l1]] = some ⟨.int .i64 (cmpA h2 l2 h1 l1), []⟩ := rfl
  have b1 : ∀ k : Nat, k < 128 → SBit [.int .u8 6, .agg [.int .u64 h1, .int .u64 l1], .int .i64 (k : Int)] = some ⟨.tup [.int .i64 (bt h1 l1 (127 - k)), .int .i64 0], []⟩ := fun k hk => by simp only [SBit]; rw [if_pos i1, bit6 _ _ hk]
  have b2 : ∀ k : Nat, k < 128 → SBit [.int .u8 6, .agg [.int .u64 h2, .int .u64 l2], .int .i64 (k : Int)] = some ⟨.tup [.int .i64 (bt h2 l2 (127 - k)), .int .i64 0], []⟩ := fun k hk => by simp only [SBit]; rw [if_pos i2, bit6 _ _ hk]
  have r1 := fun k => bt_01 h1 l1 k
  have r2 := fun k => bt_01 h2 l2 k
  generalize cmpA h1 l1 h2 l2 = C at *
  generalize cmpA h2 l2 h1 l1 = C' at *
  generalize hB1 : bt h1 l1 = B1 at *
  generalize hB2 : bt h2 l2 = B2 at *
  refine Runs.of_body Tryd.func7 (by decide) rfl (by simp [Tryd.f7]) ?_
  refine W.seqE hT mixed M_f7 (by kernel_rfl) ?_
  simp [Tryd.f7]
  refine W.seqE hT mixed M_f7 (by kernel_rfl) ?_
  simp [SAlive1]
  refine W.seqE hT mixed M_f7 (by kernel_rfl) ?_
  simp [c1, c2]
  have w0 : IntKind.i64.wrap (C + C') = 0 := by rw [ea]; rfl
  refine W.cut True [(2, .ptr 0 0), (3, .ptr 1 0), (5, .bool true), (6, .int .i64 C)] [.box 24 [.int .u64 h1, .int .u64 l1], .box 24 [.int .u64 h2, .int .u64 l2]] 78 ?_ ?_
  · refine W.of_WE hT mixed M_f7 _ (by kernel_rfl) ?_
    by_cases hz : C = 0
    · have hz' := ez.1 hz
      have hz2 : C' = 0 := by omega
      simp [show IntKind.i64.wrap 0 = 0 from rfl, hz, hz2, hz']
    · have hz' : ¬ (h1 = h2 ∧ l1 = l2) := fun q => hz (ez.2 q)
      have n1 : ¬ C < -1 := by omega
      have n2 : ¬ 1 < C := by omega
      simp [w0, hz, hz', n1, n2]
  intro _
  refine W.cut (C = 0) [(5, .bool true), (6, .int .i64 C)] [] 78 ?_ ?_
  · refine W.seqE hT mixed M_f7 (by kernel_rfl) ?_
    simp [Tryd.f7]
    refine W.block (W.for (fun k => ∀ i, i < k → B1 (127 - i) = B2 (127 - i)) (fun k => [(2, .ptr 0 0), (3, .ptr 1 0), (5, .bool true), (6, .int .i64 C), (8, .int .i64 k)])
      (fun k => [.box 24 [.int .u64 h1, .int .u64 l1], .box 24 [.int .u64 h2, .int .u64 l2]]) 78 128 (fun i hi => absurd hi (by omega)) ?_ ?_)
    · simp
    · intro k hk hJ
      refine W.of_WE hT mixed M_f7 _ (by kernel_rfl) ?_
      by_cases hlt : k < 128
      · have e1 := b1 k hlt
        have e2 := b2 k hlt
        have hlt' : (k : Int) < 128 := by omega
        have w1 : IntKind.i64.wrap ((k : Int) + 1) = ((k + 1 : Nat) : Int) := by rw [wr_i64 (by omega) (by omega)]; omega
        by_cases hd : B1 (127 - k) = B2 (127 - k)
        · simp [hlt', e1, e2, hd, w1]
          refine ⟨hlt, fun i hi => ?_⟩
          rcases Nat.lt_or_ge i k with q | q
          · exact hJ i q
          · rw [show i = k by omega]; exact hd
        · have hc := ed k hlt hJ hd
          have w2 : IntKind.i64.wrap (B1 (127 - k) - B2 (127 - k)) = C := by
            have := r1 (127 - k); have := r2 (127 - k)
            rw [wr_i64 (by omega) (by omega), hc]
          simp [hlt', e1, e2, hd, w2]
      · have hlt' : ¬ (k : Int) < 128 := by omega
        simp [hlt']
        exact es fun i hi => hJ i (by omega)
  intro hz
  refine W.of_WE hT mixed M_f7 _ (by kernel_rfl) ?_
  simp [Tryd.f7, hz]

end Go.Proofs.YtbnjijffkjcmcaaDoor.AL
namespace Go.Proofs.YtbnjijffkjcmcaaDoor.AL
open Go
attribute [local simp] qf cv qbin ibin sbin qun retPost rvOk ctV ctPost marksOk retV resAll resOf V.lt ltL V.ren renL V.exp V.exp1 cleanL V.clean closedL V.closed V.cells V.one V.tree
  loadV cellsAt isNC nilQ isSlD isIfD slNew ownRows ownCells V.isOwn slStore srcO qlook mlook mget mstr zval qnone qmake mput lmap isAggD placesOf fillV putCells lstore bound seqParts V.sh shL Blk.sh newV V.ok peqs peq srcRows qbytes byteSl appOk mmV mmR hidE V.fz fzL Blk.fz fzOk and_assoc
attribute [-simp] Int.not_le Int.not_lt Nat.not_le Nat.not_lt
def M_f5 : Md := fun i => some #[]
@[simp] theorem M_f5_eq {i : Nat} : M_f5 i = (some #[]) := rfl
theorem bitC {f h l : Int} {k : Nat} (hc : cAddr f h l = true) (hk : k < widN f) : bitA f h l (k : Int) = (bt h l (widN f - 1 - k), 0) := by
  unfold bitA
  rw [if_pos ⟨hc, by omega, by omega⟩, Int.toNat_natCast]
theorem numberCuts_runs : ∀ As, ArgsV Tryd.prog Tryd.f5.params.toList [[.int .u8], [.int .u64, .int .u64], [.int .i64], [.int .i64]] As → Runs Tryd.prog 5 As ⟨.bool true, []⟩ := by
  intro As hA
  simp [Tryd.f5, ArgsV, LSh, VSh, argV] at hA
  obtain ⟨_, _, rfl, ⟨_, rfl, f, rfl, hf⟩, _, _, rfl, ⟨_, _, rfl, ⟨h, rfl, hh⟩, _, rfl, l, rfl, hl⟩, _, _, rfl, ⟨_, rfl, n, rfl, hn⟩, _, rfl, _, rfl, m, rfl, hm⟩ := hA
  simp only [List.head?_cons, Option.getD_some]
  have hin : inA h l := ⟨(u64_rng hh).1, (u64_rng hh).2, (u64_rng hl).1, (u64_rng hl).2⟩
  have hT : (((((T0.add 29 SCut).add 30 SBit).add 14 SCheck).add 15 SCovers).add 16 SAlive1).ok Tryd.prog := Tab.add_ok (Tab.add_ok (Tab.add_ok (Tab.add_ok (Tab.add_ok (T0_ok _) runs_number_Cut) runs_number_Bit) runs_number_Check) runs_number_Covers) runs_alive1
  refine Runs.of_body Tryd.func5 (by decide) rfl (by simp [Tryd.f5]) ?_
  rcases cut_cases f h l n with ⟨j, rfl, hj, hc⟩ | ⟨hb, hrest⟩
  · have hw := widN_le f
    have h46 := cAddr_46 hc
    have hr := cutA_rng hin (widN f - j)
    have hinP : inA (cutA h l (widN f - j)).1 (cutA h l (widN f - j)).2 := hr
    have hck := chk_cut hin hc hj
    have hcc := cAddr_cut (k := widN f - j) hin hc (by omega)
    have hcv := cov_cut (j' := widN f) hin hc hj (Nat.le_refl _)
    rw [Nat.sub_self, cutA_zero] at hcv
    have hbt := fun i => bt_cut (h := h) (l := l) (k := widN f - j) (i := i) hin
    have e1 : SCut [.int .u8 f, .agg [.int .u64 h, .int .u64 l], .int .i64 j] = some ⟨.tup [.agg [.int .u8 f, .int .u64 (cutA h l (widN f - j)).1, .int .u64 (cutA h l (widN f - j)).2, .int .i64 j], .int .i64 0], []⟩ := by
      simp only [SCut]; rw [if_pos hin, if_pos ⟨hc, by omega, by omega⟩, Int.toNat_natCast]
    have e2 : SCut [.int .u8 f, .agg [.int .u64 h, .int .u64 l], .int .i64 (widN f)] = some ⟨.tup [.agg [.int .u8 f, .int .u64 h, .int .u64 l, .int .i64 (widN f)], .int .i64 0], []⟩ := by
      simp only [SCut]; rw [if_pos hin, if_pos ⟨hc, by omega, by omega⟩, Int.toNat_natCast, Nat.sub_self, cutA_zero]
    have e3 : (∃ j' : Nat, m = j' ∧ j' ≤ widN f ∧ SCut [.int .u8 f, .agg [.int .u64 h, .int .u64 l], .int .i64 m] = some ⟨.tup [.agg [.int .u8 f, .int .u64 (cutA h l (widN f - j')).1, .int .u64 (cutA h l (widN f - j')).2, .int .i64 j'], .int .i64 0], []⟩) ∨ SCut [.int .u8 f, .agg [.int .u64 h, .int .u64 l], .int .i64 m] = some ⟨.tup [.agg [.int .u8 0, .int .u64 0, .int .u64 0, .int .i64 0], .int .i64 2], []⟩ := by
      simp only [SCut]
      rw [if_pos hin]
      rcases cut_cases f h l m with ⟨j', rfl, hj', _⟩ | ⟨hb', _⟩
      · exact .inl ⟨j', rfl, hj', by rw [if_pos ⟨hc, by omega, by omega⟩, Int.toNat_natCast]⟩
      · exact .inr (by rw [if_neg hb'])
    have e4 : SCheck [.agg [.int .u8 f, .int .u64 (cutA h l (widN f - j)).1, .int .u64 (cutA h l (widN f - j)).2, .int .i64 j]] = some ⟨.int .i64 0, []⟩ := by
      simp only [SCheck]; rw [if_pos hinP, hck]
    have e5 : SCovers [.agg [.int .u8 f, .int .u64 (cutA h l (widN f - j)).1, .int .u64 (cutA h l (widN f - j)).2, .int .i64 j], .agg [.int .u8 f, .int .u64 h, .int .u64 l, .int .i64 (widN f)]] = some ⟨.bool true, []⟩ := by
      simp only [SCovers]; rw [if_pos ⟨hinP, hin⟩, hcv, decide_eq_true hj]
    have e6 : ∀ j' : Nat, j' ≤ widN f → SCovers [.agg [.int .u8 f, .int .u64 (cutA h l (widN f - j)).1, .int .u64 (cutA h l (widN f - j)).2, .int .i64 j], .agg [.int .u8 f, .int .u64 (cutA h l (widN f - j')).1, .int .u64 (cutA h l (widN f - j')).2, .int .i64 j']] = some ⟨.bool (decide (j ≤ j')), []⟩ := fun j' hj' => by
      simp only [SCovers]; rw [if_pos ⟨hinP, cutA_rng hin _⟩, cov_cut hin hc hj hj']
    have e7 : ∀ k : Nat, k < widN f → SBit [.int .u8 f, .agg [.int .u64 h, .int .u64 l], .int .i64 k] = some ⟨.tup [.int .i64 (bt h l (widN f - 1 - k)), .int .i64 0], []⟩ := fun k hk => by
      simp only [SBit]; rw [if_pos hin, bitC hc hk]
    have e8 : ∀ k : Nat, k < widN f → SBit [.int .u8 f, .agg [.int .u64 (cutA h l (widN f - j)).1, .int .u64 (cutA h l (widN f - j)).2], .int .i64 k] = some ⟨.tup [.int .i64 (if k < j then bt h l (widN f - 1 - k) else 0), .int .i64 0], []⟩ := fun k hk => by
      simp only [SBit]; rw [if_pos hinP, bitC hcc hk, hbt]
      by_cases hkj : k < j
      · rw [if_pos hkj, if_pos (by omega)]
      · rw [if_neg hkj, if_neg (by omega)]
    have r1 := fun k => bt_01 h l k
    generalize bt h l = B at *
    have hwf : (if f = 6 then (128 : Int) else 32) = (widN f : Int) := by rcases h46 with rfl | rfl <;> rfl
    generalize (cutA h l (widN f - j)).1 = c1 at *
    generalize (cutA h l (widN f - j)).2 = c2 at *
    refine W.seqE hT mixed M_f5 (by kernel_rfl) ?_
    simp [Tryd.f5]
    refine W.seqE hT mixed M_f5 (by kernel_rfl) ?_
    simp [SAlive1]
    refine W.seqE hT mixed M_f5 (by kernel_rfl) ?_
    simp [e1]
    refine W.cut True [(0, .int .u8 f), (2, .int .i64 j), (3, .int .i64 m), (5, .ptr 0 0), (9, .bool true), (10, .ptr 1 0)] [.box 24 [.int .u64 h, .int .u64 l], .box 26 [.int .u8 f, .int .u64 c1, .int .u64 c2, .int .i64 j]] 156 ?_ ?_
    · refine W.of_WE hT mixed M_f5 _ (by kernel_rfl) ?_
      simp
    intro _
    refine W.seqE hT mixed M_f5 (by kernel_rfl) ?_
    simp [Tryd.f5]
    refine W.cut True [(0, .int .u8 f), (2, .int .i64 j), (3, .int .i64 m), (5, .ptr 0 0), (9, .bool true), (10, .ptr 1 0), (12, .int .i64 (widN f))] [.box 24 [.int .u64 h, .int .u64 l], .box 26 [.int .u8 f, .int .u64 c1, .int .u64 c2, .int .i64 j]] 156 ?_ ?_
    · refine W.of_WE hT mixed M_f5 _ (by kernel_rfl) ?_
      rcases h46 with rfl | rfl <;> simp [widN]
    intro _
    refine W.seqE hT mixed M_f5 (by kernel_rfl) ?_
    simp [Tryd.f5, e2]
    refine W.cut True [(0, .int .u8 f), (2, .int .i64 j), (3, .int .i64 m), (5, .ptr 0 0), (9, .bool true), (10, .ptr 1 0), (12, .int .i64 (widN f))] [.box 24 [.int .u64 h, .int .u64 l], .box 26 [.int .u8 f, .int .u64 c1, .int .u64 c2, .int .i64 j]] 156 ?_ ?_
    · refine W.of_WE hT mixed M_f5 _ (by kernel_rfl) ?_
      simp [e4, e5]
    intro _
    refine W.cut True [(0, .int .u8 f), (2, .int .i64 j), (3, .int .i64 m), (5, .ptr 0 0), (9, .bool true), (10, .ptr 1 0)] [.box 24 [.int .u64 h, .int .u64 l], .box 26 [.int .u8 f, .int .u64 c1, .int .u64 c2, .int .i64 j]] 156 ?_ ?_
    · refine W.seqE hT mixed M_f5 (by kernel_rfl) ?_
      simp [Tryd.f5]
      refine W.block (W.for (fun _ => True) (fun k => [(0, .int .u8 f), (2, .int .i64 j), (3, .int .i64 m), (5, .ptr 0 0), (9, .bool true), (10, .ptr 1 0), (12, .int .i64 (widN f)), (15, .int .i64 k)])
        (fun k => [.box 24 [.int .u64 h, .int .u64 l], .box 26 [.int .u8 f, .int .u64 c1, .int .u64 c2, .int .i64 j]]) 156 (widN f) trivial ?_ ?_)
      · simp
      · intro k hk _
        refine W.of_WE hT mixed M_f5 _ (by kernel_rfl) ?_
        by_cases hlt : k < widN f
        · have q1 := e7 k hlt
          have q2 := e8 k hlt
          have w1 : IntKind.i64.wrap ((k : Int) + 1) = ((k + 1 : Nat) : Int) := by rw [wr_i64 (by omega) (by omega)]; omega
          have q3 := r1 (widN f - 1 - k)
          generalize B (widN f - 1 - k) = b at *
          by_cases hkj : k < j
          · rw [if_pos hkj] at q2
            rcases q3 with rfl | rfl <;> simp [hlt, q1, q2, w1, hkj, show ¬ j ≤ k by omega]
          · rw [if_neg hkj] at q2
            rcases q3 with rfl | rfl <;> simp [hlt, q1, q2, w1, hkj, show j ≤ k by omega]
        · simp [hlt]
    intro _
    refine W.of_WE hT mixed M_f5 _ (by kernel_rfl) ?_
    rcases e3 with ⟨j', rfl, hj', e3⟩ | e3
    · simp [Tryd.f5, e3, e6 j' hj']
    · simp [Tryd.f5, e3]
  · have e1 : SCut [.int .u8 f, .agg [.int .u64 h, .int .u64 l], .int .i64 n] = some ⟨.tup [.agg [.int .u8 0, .int .u64 0, .int .u64 0, .int .i64 0], .int .i64 2], []⟩ := by
      simp only [SCut]; rw [if_pos hin, if_neg hb]
    refine W.seqE hT mixed M_f5 (by kernel_rfl) ?_
    simp [Tryd.f5]
    refine W.seqE hT mixed M_f5 (by kernel_rfl) ?_
    simp [SAlive1]
    refine W.seqE hT mixed M_f5 (by kernel_rfl) ?_
    simp [e1]
    refine W.cut False [] [] 156 ?_ (fun h => h.elim)
    refine W.of_WE hT mixed M_f5 _ (by kernel_rfl) ?_
    simp [Tryd.f5]

end Go.Proofs.YtbnjijffkjcmcaaDoor.AL
namespace Go.Proofs.YtbnjijffkjcmcaaDoor.AL
open Go
attribute [local simp] qf cv qbin ibin sbin qun retPost rvOk ctV ctPost marksOk retV resAll resOf V.lt ltL V.ren renL V.exp V.exp1 cleanL V.clean closedL V.closed V.cells V.one V.tree
  loadV cellsAt isNC nilQ isSlD isIfD slNew ownRows ownCells V.isOwn slStore srcO qlook mlook mget mstr zval qnone qmake mput lmap isAggD placesOf fillV putCells lstore bound seqParts V.sh shL Blk.sh newV V.ok peqs peq srcRows qbytes byteSl appOk mmV mmR hidE V.fz fzL Blk.fz fzOk and_assoc
attribute [-simp] Int.not_le Int.not_lt Nat.not_le Nat.not_lt
def M_f6 : Md := fun i => some #[]
@[simp] theorem M_f6_eq {i : Nat} : M_f6 i = (some #[]) := rfl
theorem inv1 {f : Int} {h l : Nat} (hh : h < 18446744073709551616) (hl : l < 18446744073709551616) : ∃ T e x b1 b2 g, SAddrT [.int .u8 f, .agg [.int .u64 (h : Int), .int .u64 (l : Int)]] = some ⟨.tup [.str (bs T), .int .i64 e], []⟩ ∧
    SAP [.str (bs T)] = some ⟨.tup [.int .u8 x, .agg [.int .u64 b1, .int .u64 b2], .int .i64 g], []⟩ ∧ (e = 0 ↔ cAddr f h l = true) ∧ (e = 0 → g = 0 ∧ x = f ∧ b1 = h ∧ b2 = l) := by
  have ha := addrT_at (f := f) hh hl
  by_cases hc : cAddr f h l = true
  · rw [if_pos hc] at ha
    obtain ⟨hv, h46⟩ := cAddr_or hc hh hl
    have hp := ap_at (l := addrT f.toNat h l) (by have := addrT_len f.toNat h l; omega)
    rw [pa_text hv] at hp
    exact ⟨_, _, _, _, _, _, ha, hp, by simp [hc], fun _ => ⟨rfl, by omega, rfl, rfl⟩⟩
  · rw [if_neg hc] at ha
    have hp := ap_at (l := []) (by simp)
    cases hq : pa [] with
    | none => rw [hq] at hp; exact ⟨_, _, _, _, _, _, ha, hp, by simp [hc], fun h => by omega⟩
    | some v => obtain ⟨x, y, z⟩ := v; rw [hq] at hp; exact ⟨_, _, _, _, _, _, ha, hp, by simp [hc], fun h => by omega⟩
theorem inv2 {f n : Int} {h l : Nat} (hh : h < 18446744073709551616) (hl : l < 18446744073709551616) : ∃ T e f' h' l' n' g, STx [.agg [.int .u8 f, .int .u64 (h : Int), .int .u64 (l : Int), .int .i64 n]] = some ⟨.tup [.str (bs T), .int .i64 e], []⟩ ∧
    SPf [.str (bs T)] = some ⟨.tup [.agg [.int .u8 f', .int .u64 h', .int .u64 l', .int .i64 n'], .int .i64 g], []⟩ ∧ chkP f h l n = e ∧ (e = 0 → g = 0 ∧ f' = f ∧ h' = h ∧ l' = l ∧ n' = n) := by
  have ha := tx_at (f := f) (n := n) hh hl
  by_cases hc : chkP f h l n = 0
  · rw [if_pos hc] at ha
    obtain ⟨hca, j, rfl, hj⟩ := chk_addr hc
    obtain ⟨hv, h46⟩ := cAddr_or hca hh hl
    have hf : ((f.toNat : Nat) : Int) = f := by omega
    rw [Int.toNat_natCast] at ha
    have hp := pf_at (l := ppT f.toNat h l j) (by
      have := addrT_len f.toNat h l
      have hdl : (dgs 10 j).length ≤ 3 := dgs_len (by omega) 2 j (by omega) (by omega)
      unfold ppT; simp; omega)
    rw [pp_iff.2 ⟨hv, by rw [hf]; exact hc, rfl⟩] at hp
    exact ⟨_, _, _, _, _, _, _, ha, hp, hc, fun _ => ⟨rfl, hf, rfl, rfl, rfl⟩⟩
  · rw [if_neg hc] at ha
    have hp := pf_at (l := []) (by simp)
    cases hq : pp [] with
    | none => rw [hq] at hp; exact ⟨_, _, _, _, _, _, _, ha, hp, rfl, fun h => absurd h hc⟩
    | some v => obtain ⟨x, y, z, w⟩ := v; rw [hq] at hp; exact ⟨_, _, _, _, _, _, _, ha, hp, rfl, fun h => absurd h hc⟩
theorem inv3 {n : Nat} (h : n < 4294967296) : ∃ T, SAsT [.int .u32 (n : Int)] = some ⟨.str (bs T), []⟩ ∧ SAsP [.str (bs T)] = some ⟨.tup [.int .u32 (n : Int), .int .i64 0], []⟩ := by
  have hp := asp_at (l := asT n) (by
    have hdl : (dgs 10 n).length ≤ 11 := dgs_len (by omega) 10 n (by omega) (by omega)
    unfold asT; simp; omega)
  rw [asp_iff.2 ⟨h, rfl⟩] at hp
  exact ⟨_, ast_at h, hp⟩
theorem inv4 {s : List UInt8} (hs : s.length < 100000) : ∃ x b1 b2 e T g, SAP [.str (bs s)] = some ⟨.tup [.int .u8 x, .agg [.int .u64 b1, .int .u64 b2], .int .i64 e], []⟩ ∧
    SAddrT [.int .u8 x, .agg [.int .u64 b1, .int .u64 b2]] = some ⟨.tup [.str (bs T), .int .i64 g], []⟩ ∧ (e = 0 → g = 0 ∧ T = s) := by
  have hp := ap_at hs
  cases hq : pa s with
  | none =>
    rw [hq] at hp
    have ha := addrT_at (f := 0) (h := 0) (l := 0) (by omega) (by omega)
    exact ⟨_, _, _, _, _, _, hp, ha, fun h => by omega⟩
  | some v =>
    obtain ⟨f, h, l⟩ := v
    rw [hq] at hp
    obtain ⟨hv, ht⟩ := pa_iff.1 hq
    have hb : h < 18446744073709551616 ∧ l < 18446744073709551616 ∧ cAddr f h l = true := by
      rcases hv with ⟨rfl, hh, hl⟩ | ⟨rfl, rfl, hl⟩
      · exact ⟨hh, hl, by unfold cAddr; simp⟩
      · exact ⟨by omega, by omega, by unfold cAddr; simp; omega⟩
    have ha := addrT_at (f := f) hb.1 hb.2.1
    rw [if_pos hb.2.2, Int.toNat_natCast, ht] at ha
    exact ⟨_, _, _, _, _, _, hp, ha, fun _ => ⟨rfl, rfl⟩⟩
theorem inv5 {s : List UInt8} (hs : s.length < 100000) : ∃ f h l n e T g, SPf [.str (bs s)] = some ⟨.tup [.agg [.int .u8 f, .int .u64 h, .int .u64 l, .int .i64 n], .int .i64 e], []⟩ ∧
    STx [.agg [.int .u8 f, .int .u64 h, .int .u64 l, .int .i64 n]] = some ⟨.tup [.str (bs T), .int .i64 g], []⟩ ∧ (e = 0 → g = 0 ∧ T = s) := by
  have hp := pf_at hs
  cases hq : pp s with
  | none =>
    rw [hq] at hp
    have ha := tx_at (f := 0) (n := 0) (h := 0) (l := 0) (by omega) (by omega)
    exact ⟨_, _, _, _, _, _, _, hp, ha, fun h => by omega⟩
  | some v =>
    obtain ⟨f, h, l, n⟩ := v
    rw [hq] at hp
    obtain ⟨hv, hc, ht⟩ := pp_iff.1 hq
    have hb : h < 18446744073709551616 ∧ l < 18446744073709551616 := by
      rcases hv with ⟨rfl, hh, hl⟩ | ⟨rfl, rfl, hl⟩
      · exact ⟨hh, hl⟩
      · exact ⟨by omega, by omega⟩
    have ha := tx_at (f := f) (n := n) hb.1 hb.2
    rw [if_pos hc, Int.toNat_natCast, Int.toNat_natCast, ht] at ha
    exact ⟨_, _, _, _, _, _, _, hp, ha, fun _ => ⟨rfl, rfl⟩⟩
theorem inv6 {s : List UInt8} (hs : s.length < 100000) : ∃ n e T, SAsP [.str (bs s)] = some ⟨.tup [.int .u32 n, .int .i64 e], []⟩ ∧ SAsT [.int .u32 n] = some ⟨.str (bs T), []⟩ ∧ (e = 0 → T = s) := by
  have hp := asp_at hs
  cases hq : asp s with
  | none =>
    rw [hq] at hp
    exact ⟨_, _, _, hp, ast_at (n := 0) (by omega), fun h => by omega⟩
  | some n =>
    rw [hq] at hp
    obtain ⟨hn, ht⟩ := asp_iff.1 hq
    exact ⟨_, _, _, hp, ast_at hn, fun _ => ht⟩
theorem numberInverse_runs : ∀ As, ArgsV Tryd.prog Tryd.f6.params.toList [[.int .u8], [.int .u64, .int .u64], [.int .u8, .int .u64, .int .u64, .int .i64], [.int .u32], [.str]] As → Runs Tryd.prog 6 As ⟨.bool true, []⟩ := by
  intro As hA
  simp [Tryd.f6, ArgsV, LSh, VSh, argV] at hA
  obtain ⟨_, _, rfl, ⟨_, rfl, f, rfl, hf⟩, _, _, rfl, ⟨_, _, rfl, ⟨h, rfl, hh⟩, _, rfl, l, rfl, hl⟩, _, _, rfl, ⟨_, _, rfl, ⟨f2, rfl, hf2⟩, _, _, rfl, ⟨h2, rfl, hh2⟩, _, _, rfl, ⟨l2, rfl, hl2⟩, _, rfl, n2, rfl, hn2⟩, _, _, rfl, ⟨_, rfl, an, rfl, has⟩, _, rfl, _, rfl, s0, rfl, hs0⟩ := hA
  simp only [List.head?_cons, Option.getD_some]
  have hT : ((((((((T0.add 17 SAddrT).add 19 SAP).add 31 SAddr).add 21 STx).add 23 SPf).add 14 SCheck).add 27 SAsT).add 25 SAsP |>.add 16 SAlive1).ok Tryd.prog := Tab.add_ok (Tab.add_ok (Tab.add_ok (Tab.add_ok (Tab.add_ok (Tab.add_ok (Tab.add_ok (Tab.add_ok (Tab.add_ok (T0_ok _) runs_AddrText) runs_AddrParse) runs_number_CheckAddr) runs_number_Text) runs_number_Parse) runs_number_Check) runs_AsText) runs_AsParse) runs_alive1
  obtain ⟨s, rfl⟩ := bs_ex s0
  obtain ⟨r1, r2⟩ := u64_rng hh
  obtain ⟨r3, r4⟩ := u64_rng hl
  obtain ⟨r5, r6⟩ := u64_rng hh2
  obtain ⟨r7, r8⟩ := u64_rng hl2
  have r9 : 0 ≤ an ∧ an < 4294967296 := by
    simp only [Lit.wf, Bool.and_eq_true, decide_eq_true_eq] at has
    have e1 : IntKind.u32.min = 0 := rfl
    have e2 : IntKind.u32.max = 4294967295 := rfl
    omega
  obtain ⟨h, rfl⟩ : ∃ n : Nat, h = n := ⟨h.toNat, by omega⟩
  obtain ⟨l, rfl⟩ : ∃ n : Nat, l = n := ⟨l.toNat, by omega⟩
  obtain ⟨h2, rfl⟩ : ∃ n : Nat, h2 = n := ⟨h2.toNat, by omega⟩
  obtain ⟨l2, rfl⟩ : ∃ n : Nat, l2 = n := ⟨l2.toNat, by omega⟩
  obtain ⟨an, rfl⟩ : ∃ n : Nat, an = n := ⟨an.toNat, by omega⟩
  refine Runs.of_body Tryd.func6 (by decide) rfl (by simp [Tryd.f6]) ?_
  refine W.seqE hT mixed M_f6 (by kernel_rfl) ?_
  simp [Tryd.f6]
  refine W.seqE hT mixed M_f6 (by kernel_rfl) ?_
  simp [SAlive1]
  by_cases hlen : 1000 < s.length
  · have hlen' : (1000 : Int) < s.length := by omega
    refine W.cut False [] [] 164 ?_ (fun h => h.elim)
    refine W.of_WE hT mixed M_f6 _ (by kernel_rfl) ?_
    simp [Tryd.f6, bs_size, hlen']
  have hlen' : ¬ (1000 : Int) < s.length := by omega
  obtain ⟨T1, e1, x1, b1, c1, g1, k1, k2, k3, k4⟩ := inv1 (f := f) (h := h) (l := l) (by omega) (by omega)
  obtain ⟨T2, e2, f3, h3, l3, n3, g2, m1, m2, m3, m4⟩ := inv2 (f := f2) (n := n2) (h := h2) (l := l2) (by omega) (by omega)
  obtain ⟨T3, p1, p2⟩ := inv3 (n := an) (by omega)
  obtain ⟨x4, b4, c4, e4, T4, g4, q1, q2, q3⟩ := inv4 (s := s) (by omega)
  obtain ⟨f5, h5, l5, n5, e5, T5, g5, t1, t2, t3⟩ := inv5 (s := s) (by omega)
  obtain ⟨n6, e6, T6, u1, u2, u3⟩ := inv6 (s := s) (by omega)
  have ck : SCheck [.agg [.int .u8 f2, .int .u64 (h2 : Int), .int .u64 (l2 : Int), .int .i64 n2]] = some ⟨.int .i64 e2, []⟩ := by
    simp only [SCheck]; rw [if_pos ⟨by omega, by omega, by omega, by omega⟩, m3]
  have ca : SAddr [.int .u8 f, .agg [.int .u64 (h : Int), .int .u64 (l : Int)]] = some ⟨.bool (decide (e1 = 0)), []⟩ := by
    simp only [SAddr]
    rw [show cAddr f h l = decide (e1 = 0) by rw [Bool.eq_iff_iff, decide_eq_true_eq, k3]]
  clear k3 m3
  refine W.cut True [(0, .int .u8 f), (3, .int .u32 an), (4, .str (bs s)), (6, .ptr 0 0), (7, .ptr 1 0), (11, .bool true)] [.box 24 [.int .u64 h, .int .u64 l], .box 26 [.int .u8 f2, .int .u64 h2, .int .u64 l2, .int .i64 n2]] 164 ?_ ?_
  · refine W.of_WE hT mixed M_f6 _ (by kernel_rfl) ?_
    simp [Tryd.f6, bs_size, hlen']
  intro _
  refine W.seqE hT mixed M_f6 (by kernel_rfl) ?_
  simp [Tryd.f6, k1]
  refine W.seqE hT mixed M_f6 (by kernel_rfl) ?_
  simp [k2]
  refine W.cut True [(3, .int .u32 an), (4, .str (bs s)), (7, .ptr 0 0), (11, .bool true), (15, .ptr 1 0)] [.box 26 [.int .u8 f2, .int .u64 h2, .int .u64 l2, .int .i64 n2], .box 24 [.int .u64 b1, .int .u64 c1]] 164 ?_ ?_
  · refine W.of_WE hT mixed M_f6 _ (by kernel_rfl) ?_
    by_cases he : e1 = 0
    · obtain ⟨rfl, rfl, rfl, rfl⟩ := k4 he
      simp [he, ca]
    · simp [he, ca]
  intro _
  refine W.seqE hT mixed M_f6 (by kernel_rfl) ?_
  simp [Tryd.f6, m1]
  refine W.seqE hT mixed M_f6 (by kernel_rfl) ?_
  simp [m2]
  refine W.cut True [(3, .int .u32 an), (4, .str (bs s)), (11, .bool true), (15, .ptr 0 0), (17, .ptr 1 0)] [.box 24 [.int .u64 b1, .int .u64 c1], .box 26 [.int .u8 f3, .int .u64 h3, .int .u64 l3, .int .i64 n3]] 164 ?_ ?_
  · refine W.of_WE hT mixed M_f6 _ (by kernel_rfl) ?_
    by_cases he : e2 = 0
    · obtain ⟨rfl, rfl, rfl, rfl, rfl⟩ := m4 he
      simp [he, ck]
    · simp [he, ck]
  intro _
  refine W.seqE hT mixed M_f6 (by kernel_rfl) ?_
  simp [Tryd.f6, p1, p2]
  refine W.cut True [(4, .str (bs s)), (11, .bool true), (15, .ptr 0 0), (17, .ptr 1 0)] [.box 24 [.int .u64 b1, .int .u64 c1], .box 26 [.int .u8 f3, .int .u64 h3, .int .u64 l3, .int .i64 n3]] 164 ?_ ?_
  · refine W.of_WE hT mixed M_f6 _ (by kernel_rfl) ?_
    simp
  intro _
  refine W.seqE hT mixed M_f6 (by kernel_rfl) ?_
  simp [Tryd.f6, q1]
  refine W.seqE hT mixed M_f6 (by kernel_rfl) ?_
  simp [q2]
  refine W.cut True [(4, .str (bs s)), (11, .bool true), (17, .ptr 0 0)] [.box 26 [.int .u8 f3, .int .u64 h3, .int .u64 l3, .int .i64 n3]] 164 ?_ ?_
  · refine W.of_WE hT mixed M_f6 _ (by kernel_rfl) ?_
    by_cases he : e4 = 0
    · obtain ⟨rfl, rfl⟩ := q3 he
      simp [he]
    · simp [he]
  intro _
  refine W.seqE hT mixed M_f6 (by kernel_rfl) ?_
  simp [Tryd.f6, t1]
  refine W.seqE hT mixed M_f6 (by kernel_rfl) ?_
  simp [t2]
  refine W.cut True [(4, .str (bs s)), (11, .bool true)] [] 164 ?_ ?_
  · refine W.of_WE hT mixed M_f6 _ (by kernel_rfl) ?_
    by_cases he : e5 = 0
    · obtain ⟨rfl, rfl⟩ := t3 he
      simp [he]
    · simp [he]
  intro _
  refine W.of_WE hT mixed M_f6 _ (by kernel_rfl) ?_
  by_cases he : e6 = 0
  · obtain rfl := u3 he
    simp [Tryd.f6, u1, u2, he]
  · simp [Tryd.f6, u1, u2, he]

end Go.Proofs.YtbnjijffkjcmcaaDoor.AL
namespace Go.Proofs.YtbnjijffkjcmcaaDoor.AL
open Go
attribute [local simp] qf cv qbin ibin sbin qun retPost rvOk ctV ctPost marksOk retV resAll resOf V.lt ltL V.ren renL V.exp V.exp1 cleanL V.clean closedL V.closed V.cells V.one V.tree
  loadV cellsAt isNC nilQ isSlD isIfD slNew ownRows ownCells V.isOwn slStore srcO qlook mlook mget mstr zval qnone qmake mput lmap isAggD placesOf fillV putCells lstore bound seqParts V.sh shL Blk.sh newV V.ok peqs peq srcRows qbytes byteSl appOk mmV mmR hidE V.fz fzL Blk.fz fzOk and_assoc
attribute [-simp] Int.not_le Int.not_lt Nat.not_le Nat.not_lt
def M_f4 : Md := fun i => some #[]
@[simp] theorem M_f4_eq {i : Nat} : M_f4 i = (some #[]) := rfl
theorem numberTexts_runs : ∀ As, ArgsV Tryd.prog Tryd.f4.params.toList [[.int .u8], [.int .u64, .int .u64], [.int .u8, .int .u64, .int .u64, .int .i64], [.int .u32], [.str]] As → Runs Tryd.prog 4 As ⟨.bool true, []⟩ := by
  intro As hA
  simp [Tryd.f4, ArgsV, LSh, VSh, argV] at hA
  obtain ⟨_, _, rfl, ⟨_, rfl, f, rfl, hf⟩, _, _, rfl, ⟨_, _, rfl, ⟨h, rfl, hh⟩, _, rfl, l, rfl, hl⟩, _, _, rfl, ⟨_, _, rfl, ⟨f2, rfl, hf2⟩, _, _, rfl, ⟨h2, rfl, hh2⟩, _, _, rfl, ⟨l2, rfl, hl2⟩, _, rfl, n2, rfl, hn2⟩, _, _, rfl, ⟨_, rfl, an, rfl, has⟩, _, rfl, _, rfl, s0, rfl, hs0⟩ := hA
  simp only [List.head?_cons, Option.getD_some]
  have hT : ((((((((((((T0.add 17 SAddrT).add 19 SAP).add 21 STx).add 23 SPf).add 27 SAsT).add 25 SAsP).add 18 SAddrT).add 20 SAP).add 22 STx).add 24 SPf).add 28 SAsT).add 26 SAsP).ok Tryd.prog := Tab.add_ok (Tab.add_ok (Tab.add_ok (Tab.add_ok (Tab.add_ok (Tab.add_ok (Tab.add_ok (Tab.add_ok (Tab.add_ok (Tab.add_ok (Tab.add_ok (Tab.add_ok (T0_ok _) runs_AddrText) runs_AddrParse) runs_number_Text) runs_number_Parse) runs_AsText) runs_AsParse) runs_ref01_AddrText) runs_ref01_AddrParse) runs_ref01_Text) runs_ref01_Parse) runs_ref01_AsText) runs_ref01_AsParse
  obtain ⟨s, rfl⟩ := bs_ex s0
  obtain ⟨r1, r2⟩ := u64_rng hh
  obtain ⟨r3, r4⟩ := u64_rng hl
  obtain ⟨r5, r6⟩ := u64_rng hh2
  obtain ⟨r7, r8⟩ := u64_rng hl2
  have r9 : 0 ≤ an ∧ an < 4294967296 := by
    simp only [Lit.wf, Bool.and_eq_true, decide_eq_true_eq] at has
    have e1 : IntKind.u32.min = 0 := rfl
    have e2 : IntKind.u32.max = 4294967295 := rfl
    omega
  obtain ⟨h, rfl⟩ : ∃ n : Nat, h = n := ⟨h.toNat, by omega⟩
  obtain ⟨l, rfl⟩ : ∃ n : Nat, l = n := ⟨l.toNat, by omega⟩
  obtain ⟨h2, rfl⟩ : ∃ n : Nat, h2 = n := ⟨h2.toNat, by omega⟩
  obtain ⟨l2, rfl⟩ : ∃ n : Nat, l2 = n := ⟨l2.toNat, by omega⟩
  obtain ⟨an, rfl⟩ : ∃ n : Nat, an = n := ⟨an.toNat, by omega⟩
  refine Runs.of_body Tryd.func4 (by decide) rfl (by simp [Tryd.f4]) ?_
  refine W.seqE hT mixed M_f4 (by kernel_rfl) ?_
  simp [Tryd.f4]
  by_cases hlen : 1000 < s.length
  · have hlen' : (1000 : Int) < s.length := by omega
    refine W.cut False [] [] 136 ?_ (fun h => h.elim)
    refine W.of_WE hT mixed M_f4 _ (by kernel_rfl) ?_
    simp [Tryd.f4, bs_size, hlen']
  have hlen' : ¬ (1000 : Int) < s.length := by omega
  obtain ⟨T1, e1, _, _, _, _, k1, _, _, _⟩ := inv1 (f := f) (h := h) (l := l) (by omega) (by omega)
  obtain ⟨T2, e2, _, _, _, _, _, m1, _, _, _⟩ := inv2 (f := f2) (n := n2) (h := h2) (l := l2) (by omega) (by omega)
  obtain ⟨T3, p1, _⟩ := inv3 (n := an) (by omega)
  obtain ⟨x4, b4, c4, e4, _, _, q1, _, _⟩ := inv4 (s := s) (by omega)
  obtain ⟨f5, h5, l5, n5, e5, _, _, t1, _, _⟩ := inv5 (s := s) (by omega)
  obtain ⟨n6, e6, _, u1, _, _⟩ := inv6 (s := s) (by omega)
  refine W.cut True [(0, .int .u8 f), (3, .int .u32 an), (4, .str (bs s)), (6, .ptr 0 0), (7, .ptr 1 0)] [.box 24 [.int .u64 h, .int .u64 l], .box 26 [.int .u8 f2, .int .u64 h2, .int .u64 l2, .int .i64 n2]] 136 ?_ ?_
  · refine W.of_WE hT mixed M_f4 _ (by kernel_rfl) ?_
    simp [Tryd.f4, bs_size, hlen']
  intro _
  refine W.seqE hT mixed M_f4 (by kernel_rfl) ?_
  simp [Tryd.f4, k1]
  refine W.seqE hT mixed M_f4 (by kernel_rfl) ?_
  simp [k1]
  refine W.cut True [(3, .int .u32 an), (4, .str (bs s)), (7, .ptr 0 0)] [.box 26 [.int .u8 f2, .int .u64 h2, .int .u64 l2, .int .i64 n2]] 136 ?_ ?_
  · refine W.of_WE hT mixed M_f4 _ (by kernel_rfl) ?_
    simp
  intro _
  refine W.seqE hT mixed M_f4 (by kernel_rfl) ?_
  simp [Tryd.f4, q1]
  refine W.seqE hT mixed M_f4 (by kernel_rfl) ?_
  simp [q1]
  refine W.cut True [(3, .int .u32 an), (4, .str (bs s)), (7, .ptr 0 0)] [.box 26 [.int .u8 f2, .int .u64 h2, .int .u64 l2, .int .i64 n2]] 136 ?_ ?_
  · refine W.of_WE hT mixed M_f4 _ (by kernel_rfl) ?_
    simp
  intro _
  refine W.seqE hT mixed M_f4 (by kernel_rfl) ?_
  simp [Tryd.f4, m1]
  refine W.seqE hT mixed M_f4 (by kernel_rfl) ?_
  simp [m1]
  refine W.cut True [(3, .int .u32 an), (4, .str (bs s))] [] 136 ?_ ?_
  · refine W.of_WE hT mixed M_f4 _ (by kernel_rfl) ?_
    simp
  intro _
  refine W.seqE hT mixed M_f4 (by kernel_rfl) ?_
  simp [Tryd.f4, t1]
  refine W.seqE hT mixed M_f4 (by kernel_rfl) ?_
  simp [t1]
  refine W.seqE hT mixed M_f4 (by kernel_rfl) ?_
  simp [u1]
  refine W.seqE hT mixed M_f4 (by kernel_rfl) ?_
  simp [u1]
  refine W.of_WE hT mixed M_f4 _ (by kernel_rfl) ?_
  simp [Tryd.f4, p1]

end Go.Proofs.YtbnjijffkjcmcaaDoor.AL
namespace Go.Proofs.YtbnjijffkjcmcaaDoor.AL
open Go
/-! A law whose row lists variables, with the world's shape. -/
open Go.WideShapes Go.ChangeShapes
section
variable {H : Type} {enc : TypeId × Value → H}
theorem handed_and_shaped {a : Assume} {C : Checked} {os : Os} {f : FuncId} {fn : Func} {s : ChangeSpec} {conds : List PathCond} {apart fresh handsOn again : Bool} {X : World → Array Value → Prop}
    (hX : ∀ (w w' : World) (args : Array Value), w.heap = w'.heap → X w args → X w' args)
    (own : ownKnob C.prog.godebug = none) (started : os.Started) (noInit : C.prog.inits.idxOf? f = none) (hfn : C.prog.funcs[f]? = some fn)
    (witness : ∃ (w : World) (tape : Tape) (i : Input), w.os = os ∧ (w.forCall tape i).Shaped C.prog ∧ i.vars = [] ∧ Input.okWide C.prog (w.forCall tape i) .any w.heap.size f i ∧
      ((s.pre enc C.prog fn conds apart (w.forCall tape i).memory i.args ∧ X (w.forCall tape i).memory i.args) ∧ sizedMet enc C.prog fn (OpenSpec.ofChange s) apart (w.forCall tape i).memory i.args) ∧ a.holds C.prog (lone (Frame.enter C.prog f i.args .normal) [] (w.forCall tape i)))
    (contract : ∀ (W : World) (base : Nat) (args : Array Value) (ds gs : List (DataW H)) (before : List MemPlace),
      (∀ (j : Nat) t v, fn.params[j]? = some t → args[j]? = some v → Value.okWide C.prog W .any base t v) →
      DataW.Whole enc C.prog fn.params.toList s.vars apart W args.toList ds gs before → X W args → W.ShapedOpen C.prog →
      Calls C.prog f args W fun e W' => ∃ v, e = .returned v ∧ s.post enc C.prog fn apart fresh handsOn again W args v W') :
    ReturnsInHanded a C os f .any (fun w args => (s.pre enc C.prog fn conds apart w args ∧ X w args) ∧ sizedMet enc C.prog fn (OpenSpec.ofChange s) apart w args) (s.post enc C.prog fn apart fresh handsOn again) := by
  refine returnsInHanded_of_calls own started noInit witness ?_
  intro w tape i _ hsh _ hok hpre hholds
  obtain ⟨_, _, _, fn', hfn', _, _, _, _, hval⟩ := hok
  have e : fn' = fn := Option.some.inj (hfn'.symm.trans hfn)
  subst e
  obtain ⟨⟨⟨ds, gs, before, hw, hc⟩, hx⟩, hz⟩ := hpre
  have hw' := DataW.Whole.of_heap (w' := w.forCall tape i) (by rfl) hw
  refine (contract (w.forCall tape i) w.heap.size i.args ds gs before hval hw' (hX _ _ _ (by rfl) hx) hsh).mono fun e W' ⟨v, he, hp⟩ => ?_
  subst he
  exact ChangeSpec.post_blind hp
theorem law_lifted_shaped {C : Checked} [Gl C.prog] {os : Os} {f : FuncId} {fn : Func} {c : Code} {s : ChangeSpec} {apart fresh handsOn : Bool} {tb : TypeId} {k : Nat} {ls : List (List Sh)} {laid : List (String × DataW Unit)}
    (own : ownKnob C.prog.godebug = none) (laidOut : laidOutB C.prog = true) (started : os.Started) (noInit : C.prog.inits.idxOf? f = none) (hf : C.prog.funcs[f]? = some fn) (hn : fn.name ≠ "runtime.NumGoroutine") (hb : fn.body = some c)
    (hvars : s.vars = []) (hres : fn.resultTypes = #[tb]) (htb : C.prog.underlying tb = some .bool) (hpar : ∀ t ∈ fn.params.toList, C.prog.readableRec t = true ∧ t < C.prog.types.size)
    (hspec : ∀ ds : List (DataW H), ds.length = fn.params.size → s.fn H ds = { results := [.lit (.bool true)], args := ds })
    (witness : ∃ (w : World) (tape : Tape) (i : Input), w.os = os ∧ (w.forCall tape i).Shaped C.prog ∧ i.vars = [] ∧ Input.okWide C.prog (w.forCall tape i) .any w.heap.size f i ∧
      ((s.pre enc C.prog fn [] apart (w.forCall tape i).memory i.args ∧ laidMetH C.prog laid (w.forCall tape i).memory) ∧ sizedMet enc C.prog fn (OpenSpec.ofChange s) apart (w.forCall tape i).memory i.args) ∧ ({} : Assume).holds C.prog (lone (Frame.enter C.prog f i.args .normal) [] (w.forCall tape i)))
    (hsh : shAll C.prog k fn.params.toList = some ls)
    (hglob : ∀ W : World, laidMetH C.prog laid W → W.ShapedOpen C.prog → GOK C.prog ⟨W, fun _ => False, fun _ => undef, fun _ => False⟩)
    (hruns : ∀ As, ArgsV C.prog fn.params.toList ls As → Runs C.prog f As ⟨.bool true, []⟩) :
    ReturnsInHanded {} C os f .any (fun w args => (s.pre enc C.prog fn [] apart w args ∧ laidMetH C.prog laid w) ∧ sizedMet enc C.prog fn (OpenSpec.ofChange s) apart w args) (s.post enc C.prog fn apart fresh handsOn false) := by
  refine handed_and_shaped (C := C) (X := fun w _ => laidMetH C.prog laid w) (fun _ _ _ hh h => h.of_heap hh) own started noInit hf witness ?_
  intro W base args ds gs before hval hW hL hS
  have hW' := hW
  obtain ⟨p, q, hA, hV, rfl, hfz, hnd⟩ := hW
  rw [hvars] at hV
  obtain ⟨rfl, rfl⟩ := trodVars_none hV
  obtain ⟨As, h1, h2⟩ := args_V (E := ⟨W, fun _ => False, fun _ => undef, fun _ => False⟩) rfl (by simp) hA hsh (fun j t v e1 e2 => hval j t v (by simpa using e1) (by simpa using e2))
  have hlen : ds.length = fn.params.size := by
    have : ∀ {ts : List TypeId} {vs : List Value} {ds : List (DataW H)} {ps : List MemPlace}, DataW.TrodAll enc C.prog W 0 (fun _ => true) true ts vs ds ps → ds.length = ts.length := by
      intro ts
      induction ts with
      | nil => intro vs ds ps h; obtain ⟨_, rfl, _⟩ := trodAll_nil h; rfl
      | cons t ts ih =>
        intro vs ds ps h
        obtain ⟨_, _, _, _, _, _, _, rfl, _, _, h2⟩ := trodAll_cons h
        simp [ih h2]
    simpa using this hA
  have hc := law_calls (vs := args.toList) hf hn hb (hruns As h1) (hglob W hL hS) h2
  rw [show args.toList.toArray = args by simp] at hc
  refine hc.mono fun e W' ⟨he, bel⟩ => ?_
  subst he
  obtain ⟨qs, hq⟩ := args_behind laidOut bel hA hpar
  refine ⟨_, rfl, ds, [], _, [], qs, [], hW', ?_, ?_, ?_, bel.frame _, fun h => by cases h⟩
  · rw [List.append_nil, hspec ds hlen, hres]
    exact trodAll_mk1 (Go.RowKit.shut_bool htb _)
  · rw [List.append_nil, hspec ds hlen]
    exact hq
  · rw [List.append_nil, hspec ds hlen, hvars]
    rfl
end
/-! What the listed variables tell. -/
theorem RRow.of_cells {E : Env} {g : Nat} : ∀ (cs : List V) (vs : List Value) (o : Nat), RL E cs vs → (∀ u ∈ vs, u.oneCell' = true) → (∀ j u, vs[j]? = some u → E.w.cell? ⟨g, o + j, none⟩ = some u) → RRow E cs g o :=
  fun cs vs o h1 h2 h3 => RRow.of_list h1 h3 h2
theorem RL_ints {E : Env} (k : IntKind) : ∀ (zs : List Int), RL E (zs.map fun n => .int k n) (zs.map fun n => Value.int k n)
  | [] => by simp [RL]
  | z :: zs => by simp only [List.map_cons, RL, R]; exact ⟨_, _, rfl, rfl, RL_ints k zs⟩
theorem rptr_of_tab {P : Program} {W : World} {name : String} {k : IntKind} {zs : List Int} {g : Nat} (h : Lib.TabIs P W name k zs) (hg : P.globalNamed name = some g) (hne : zs ≠ []) :
    R ⟨W, fun _ => False, fun _ => undef, fun _ => False⟩ (.rptr (zs.map fun n => .int k n) 0) (.pointer (some ⟨g, 0, none⟩)) := by
  have hc := fun i hi => h.cell hg i hi
  simp only [R]
  refine ⟨g, 0, rfl, fun h => h, ?_, ?_, RRow.of_cells _ (zs.map fun n => Value.int k n) 0 (RL_ints k zs) ?_ ?_⟩
  · obtain ⟨z, zs', rfl⟩ := List.exists_cons_of_ne_nil hne
    exact Lib.lt_of_cell (hc 0 (by simp))
  · intro c hc
    obtain ⟨n, _, rfl⟩ := List.mem_map.1 hc
    rfl
  · intro u hu
    obtain ⟨n, _, rfl⟩ := List.mem_map.1 hu
    rfl
  · intro j u hu
    rw [Nat.zero_add]
    obtain ⟨hj, rfl⟩ := List.getElem?_eq_some_iff.1 hu
    rw [hc j (by simpa using hj)]
    have hj' : j < zs.length := by simpa using hj
    simp [hj']
theorem lay_of_tab {P : Program} {W : World} {name : String} {k : IntKind} {zs : List Int} {g : Nat} (h : Lib.TabIs P W name k zs) (hg : P.globalNamed name = some g) :
    g < W.heap.size ∧ ∃ arr ty fr, W.heap[g]? = some (.cells arr ty fr) ∧ arr.toList = zs.map fun z => Value.int k z := by
  unfold Lib.TabIs World.var? at h
  rw [hg, Option.bind_some] at h
  split at h
  · rename_i cs ty fr hh
    simp only [Option.some.injEq] at h
    exact ⟨(Array.getElem?_eq_some_iff.1 hh).1, cs, ty, fr, hh, by rw [h]⟩
  · cases h
theorem rptr_one {W : World} {g : Nat} {x : V} {u : Value} (hx : x.tree = true) (h : W.cell? ⟨g, 0, none⟩ = some u) (ho : u.oneCell' = true) (hr : R ⟨W, fun _ => False, fun _ => undef, fun _ => False⟩ x u) :
    R ⟨W, fun _ => False, fun _ => undef, fun _ => False⟩ (.rptr [x] 0) (.pointer (some ⟨g, 0, none⟩)) := by
  simp only [R]
  refine ⟨g, 0, rfl, fun h => h, Lib.lt_of_cell h, ?_, ?_⟩
  · intro c hc
    simp only [List.mem_cons, List.not_mem_nil, or_false] at hc
    subst hc; exact hx
  · simp only [RRow]
    exact ⟨⟨u, h, ho, hr⟩, trivial⟩
end Go.Proofs.YtbnjijffkjcmcaaDoor.AL
namespace Go.Proofs.YtbnjijffkjcmcaaDoor.AL
open Go
attribute [local simp] qf cv qbin ibin sbin qun retPost rvOk ctV ctPost marksOk retV resAll resOf V.lt ltL V.ren renL V.exp V.exp1 cleanL V.clean closedL V.closed V.cells V.one V.tree
  loadV cellsAt isNC nilQ isSlD isIfD slNew ownRows ownCells V.isOwn slStore srcO qlook mlook mget mstr zval qnone qmake mput lmap isAggD placesOf fillV putCells lstore bound seqParts V.sh shL Blk.sh newV V.ok peqs peq srcRows qbytes byteSl appOk mmV mmR hidE V.fz fzL Blk.fz fzOk and_assoc
attribute [-simp] Int.not_le Int.not_lt Nat.not_le Nat.not_lt
/-! The row's listed variables, and the world's shape, give what the walks lean on. -/
def laidAll : List (String × DataW Unit) := [("math/bits.deBruijn32tab", Go.Proofs.YtbnjijffkjcmcaaDoor.Rows.laid_math_bits_deBruijn32tab), ("math/bits.deBruijn64tab", Go.Proofs.YtbnjijffkjcmcaaDoor.Rows.laid_math_bits_deBruijn64tab), ("internal/strconv.uint64pow10", Go.Proofs.YtbnjijffkjcmcaaDoor.Rows.laid_internal_strconv_uint64pow10), ("unicode/utf8.acceptRanges", Go.Proofs.YtbnjijffkjcmcaaDoor.Rows.laid_unicode_utf8_acceptRanges), ("strconv.ErrRange", Go.Proofs.YtbnjijffkjcmcaaDoor.Rows.laid_strconv_ErrRange), ("strconv.ErrSyntax", Go.Proofs.YtbnjijffkjcmcaaDoor.Rows.laid_strconv_ErrSyntax), ("unicode/utf8.first", Go.Proofs.YtbnjijffkjcmcaaDoor.Rows.laid_unicode_utf8_first)]
theorem gokD (W : World) (h : laidMetH Tryd.prog laidAll W) (hs : W.ShapedOpen Tryd.prog) : GOK Tryd.prog ⟨W, fun _ => False, fun _ => undef, fun _ => False⟩ := by
  have h0 : laidMet Tryd.prog laidAll W := h
  have h1 := h0.tail
  have h2 := h1.tail
  have h3 := h2.tail
  have h4 := h3.tail
  have h5 := h4.tail
  have g5 : Tryd.prog.globalNamed "math/bits.deBruijn64tab" = some 5 := by kernel_rfl
  have g0 : Tryd.prog.globalNamed "internal/strconv.uint64pow10" = some 0 := by kernel_rfl
  have g2 : Tryd.prog.globalNamed "strconv.ErrSyntax" = some 2 := by kernel_rfl
  have g3 : Tryd.prog.globalNamed "strconv.ErrRange" = some 3 := by kernel_rfl
  have t5 : Lib.TabIs Tryd.prog W "math/bits.deBruijn64tab" .u8 [0, 1, 56, 2, 57, 49, 28, 3, 61, 58, 42, 50, 38, 29, 17, 4, 62, 47, 59, 36, 45, 43, 51, 22, 53, 39, 33, 30, 24, 18, 12, 5, 63, 55, 48, 27, 60, 41, 37, 16, 46, 35, 44, 21, 52, 32, 23, 11, 54, 26, 40, 15, 34, 20, 31, 10, 25, 14, 19, 9, 13, 8, 7, 6] :=
    Lib.tabIs_of_head (t := 184) (e := 5) (n := 64) g5 (by kernel_rfl) (by kernel_rfl) (by kernel_rfl) (by kernel_rfl) (by kernel_rfl) h1
  have t0 : Lib.TabIs Tryd.prog W "internal/strconv.uint64pow10" .u64 Lib.pow10Tab :=
    Lib.tabIs_of_head (t := 163) (e := 22) (n := 20) g0 (by kernel_rfl) (by kernel_rfl) (by kernel_rfl) (by kernel_rfl) (by kernel_rfl) h2
  have hrow : ∀ u, Tryd.prog.typeName? 3 u = some "*errors.errorString" → u = 180 := fun u hu => typeName_ptr_named (nm := "errors.errorString") (by rw [show "*" ++ "errors.errorString" = "*errors.errorString" by decide]; kernel_rfl) (by kernel_rfl) (by decide) u (by rw [show "*" ++ "errors.errorString" = "*errors.errorString" by decide]; exact hu)
  obtain ⟨a3, s3, v3, _⟩ := laid_sentinel (ti := 105) (tp := 180) (te := 182) (ts := 9) h4 g3 (by kernel_rfl) Tryd.underlying105 hrow (by kernel_rfl) Tryd.underlying182 rfl rfl (by kernel_rfl) (by kernel_rfl) (by kernel_rfl)
  obtain ⟨a2, s2, v2, _⟩ := laid_sentinel (ti := 105) (tp := 180) (te := 182) (ts := 9) h5 g2 (by kernel_rfl) Tryd.underlying105 hrow (by kernel_rfl) Tryd.underlying182 rfl rfl (by kernel_rfl) (by kernel_rfl) (by kernel_rfl)
  obtain ⟨m, hm⟩ := Go.Proofs.cell_of_shapedOpen_int (g := 1) (zero := #[.int .i64 0]) (t := 3) (k := .i64) hs (of_decide_eq_true (by kernel_rfl)) (by kernel_rfl) rfl (by kernel_rfl) (by kernel_rfl) (by kernel_rfl)
  have c3 := World.var?_cell g3 v3 0
  have c2 := World.var?_cell g2 v2 0
  refine ⟨fun g => ?_, fun g cs hg => ?_⟩
  · show R _ (gvT g) _
    unfold gvT
    split
    · rename_i e; subst e; exact rptr_of_tab t5 g5 (by simp)
    · split
      · rename_i e; subst e; exact rptr_one rfl hm rfl (by simp [R])
      · split
        · rename_i e; subst e; exact rptr_one rfl (by simpa using c2) rfl (by simp [R])
        · split
          · rename_i e; subst e; exact rptr_one rfl (by simpa using c3) rfl (by simp [R])
          · simp [R]
  · change gvL g = some cs at hg
    unfold gvL at hg
    split at hg
    · rename_i e
      subst e
      cases hg
      obtain ⟨k1, k2⟩ := lay_of_tab t0 g0
      exact ⟨fun h => h, k1, k2⟩
    · cases hg

end Go.Proofs.YtbnjijffkjcmcaaDoor.AL
