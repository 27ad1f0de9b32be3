import Derived.Test.YtkcmgjagjbiinaaC21nW3
import Derived.Test.YtkcmgjagjbiinaaC21nW1
/- What single functions compute: a part of the proof; no conditions. -/
set_option linter.unusedVariables false
set_option linter.unusedSimpArgs false
set_option maxRecDepth 100000
namespace Go.Proofs.Ytkcmgjagjbiinaa.AL
open Go
attribute [local simp] qf cv qbin ibin sbin qun retPost rvOk ctV ctPost marksOk retV resAll resOf V.lt ltL V.ren renL V.exp V.exp1 cleanL V.clean closedL V.closed V.cells V.one V.tree
  loadV cellsAt isNC nilQ isSlD isIfD slNew ownRows ownCells V.isOwn slStore srcO qlook mlook mget mstr zval qnone qmake mput lmap isAggD placesOf fillV putCells lstore bound seqParts V.sh shL Blk.sh newV V.ok peqs peq srcRows qbytes byteSl appOk mmV mmR hidE V.fz fzL Blk.fz fzOk and_assoc
attribute [-simp] Int.not_le Int.not_lt Nat.not_le Nat.not_lt
theorem ltge (a b : Int) : a < b ∨ b ≤ a := by omega
theorem nextA_num {f h l : Int} (hin : inA h l) (hc : cAddr f h l = true) :
    (numA (h, l) + 1 < 2 ^ widN f → ∃ x y, nextA f h l = (x, y, true) ∧ numA (x, y) = numA (h, l) + 1 ∧ inA x y) ∧ (2 ^ widN f ≤ numA (h, l) + 1 → nextA f h l = (0, 0, false)) := by
  obtain ⟨h0, h1, l0, l1⟩ := hin
  rcases cAddr_46 hc with rfl | rfl
  · obtain ⟨rfl, hl⟩ := cAddr_4 hc rfl
    have ew : (2 : Int) ^ widN 4 = 4294967296 := rfl
    have e1 : addR l 1 0 = (l + 1, 0) := by unfold addR; congr 1 <;> omega
    have e2 : addR 0 0 0 = (0, 0) := rfl
    have e3 : ∀ y : Int, cAddr 4 0 y = decide (y < 4294967296) := fun y => by simp [cAddr]
    unfold nextA
    simp only [e1, e2, hc, e3, numA, ew]
    refine ⟨fun hlt => ⟨0, l + 1, ?_, by omega, ?_⟩, fun hge => ?_⟩
    · rw [if_pos ⟨trivial, by simp; omega, by omega⟩]
    · unfold inA; omega
    · rw [if_neg]
      simp
      omega
  · have ew : (2 : Int) ^ widN 6 = 340282366920938463463374607431768211456 := rfl
    have e3 : ∀ x y : Int, cAddr 6 x y = true := fun x y => rfl
    unfold nextA addR
    simp only [e3, numA, ew, true_and]
    refine ⟨fun hlt => ⟨(h + 0 + (l + 1 + 0) / 18446744073709551616) % 18446744073709551616, (l + 1 + 0) % 18446744073709551616, ?_, by omega, ?_⟩, fun hge => ?_⟩
    · rw [if_pos (by omega)]
    · unfold inA; omega
    · rw [if_neg (by omega)]
theorem prevA_num {h l : Int} (hin : inA h l) : (0 < numA (h, l) → ∃ x y, prevA h l = (x, y, true) ∧ numA (x, y) = numA (h, l) - 1 ∧ inA x y) ∧ (numA (h, l) = 0 → prevA h l = (0, 0, false)) := by
  obtain ⟨h0, h1, l0, l1⟩ := hin
  unfold prevA subR numA
  simp only
  refine ⟨fun hlt => ?_, fun hz => ?_⟩
  · by_cases hl : l = 0
    · refine ⟨h - 1, 18446744073709551615, ?_, by omega, by unfold inA; omega⟩
      subst hl
      rw [if_pos (show (0 : Int) < 1 + 0 by omega), if_neg (show ¬ (if h < 0 + 1 then (1 : Int) else 0) = 1 by split <;> omega)]
      congr 1
      · omega
    · refine ⟨h, l - 1, ?_, by omega, by unfold inA; omega⟩
      rw [if_neg (show ¬ l < 1 + 0 by omega), if_neg (show ¬ (if h < 0 + 0 then (1 : Int) else 0) = 1 by split <;> omega)]
      congr 1
      · omega
      · congr 1; omega
  · have : h = 0 := by omega
    have : l = 0 := by omega
    subst h l
    rfl
theorem adrOf_all {N : Int} {w : Nat} (hw : w ≤ 128) (hN : 0 ≤ N) (hN' : N < 2 ^ w) : numA (adrOf ((List.range w).map fun i => N / 2 ^ (w - 1 - i) % 2)) = N := by
  have h := adrOf_bits N w w hw (Nat.le_refl _) hN hN' w (Nat.le_refl _)
  rw [if_pos (Nat.le_refl _), Nat.sub_self] at h
  have e : ((List.range w).map fun i => N / 2 ^ (w - 1 - i) % 2) = (List.range w).map fun i => if i < w then N / 2 ^ (w - 1 - i) % 2 else 0 := by
    apply List.map_congr_left
    intro i hi
    rw [if_pos (List.mem_range.1 hi)]
  rw [e, h]
  simp
theorem bits_rng (w : Nat) (f : Nat → Int) (h : ∀ i, i < w → f i = 0 ∨ f i = 1) : inA (adrOf ((List.range w).map f)).1 (adrOf ((List.range w).map f)).2 := by
  have := adrOf_bd ((List.range w).map f) (by
      intro b hb
      simp only [List.mem_map, List.mem_range] at hb
      obtain ⟨i, hi, rfl⟩ := hb
      exact h i hi) (0, 0) (by simp)
  exact this
theorem next_some {f h l : Int} {k : Nat} (hin : inA h l) (hc : cAddr f h l = true) (hk : k < widN f) (h1 : ∀ m, m < k → bt h l m = 1) (h0 : bt h l k = 0) :
    nextA f h l = ((adrOf ((List.range (widN f)).map fun i => if widN f - 1 - i < k then 0 else if widN f - 1 - i = k then 1 else bt h l (widN f - 1 - i))).1,
      (adrOf ((List.range (widN f)).map fun i => if widN f - 1 - i < k then 0 else if widN f - 1 - i = k then 1 else bt h l (widN f - 1 - i))).2, true) := by
  have hn := numA_lt hin hc
  have hnx := (nextA_num hin hc).1
  have l0 := hin.2.2.1
  have l1 := hin.2.2.2
  simp only [bt_num l0 l1] at h1 h0 ⊢
  have hs := succ_bits h1 h0
  have hlt : numA (h, l) + 1 < 2 ^ widN f := by
    rcases ltge (numA (h, l) + 1) (2 ^ widN f) with hh | hh
    · exact hh
    · exfalso
      have e : numA (h, l) + 1 = 1 * 2 ^ widN f := by omega
      have := hs k
      rw [e, mul_bit_lt hk] at this
      simp at this
  obtain ⟨x, y, e, hxy, hxy'⟩ := hnx hlt
  simp only [← hs]
  have ha := adrOf_all (w := widN f) (widN_le f) (N := numA (h, l) + 1) (by omega) hlt
  have hr := bits_rng (widN f) (fun i => (numA (h, l) + 1) / 2 ^ (widN f - 1 - i) % 2) (fun i _ => by omega)
  have := numA_inj (p := (x, y)) (q := adrOf ((List.range (widN f)).map fun i => (numA (h, l) + 1) / 2 ^ (widN f - 1 - i) % 2)) hxy'.2.2 hr.2.2 (by rw [hxy, ha])
  rw [e, ← this]
theorem next_none {f h l : Int} (hin : inA h l) (hc : cAddr f h l = true) (h1 : ∀ m, m < widN f → bt h l m = 1) : nextA f h l = (0, 0, false) := by
  have hn := numA_lt hin hc
  refine (nextA_num hin hc).2 ?_
  have l0 := hin.2.2.1
  have l1 := hin.2.2.2
  simp only [bt_num l0 l1] at h1
  obtain ⟨q, hq⟩ := ones_mul _ h1
  have hp := ipow_pos (widN f)
  have : 0 < q := by
    rcases ltge 0 q with h | h
    · exact h
    · have : q * 2 ^ widN f ≤ 0 := Int.mul_nonpos_of_nonpos_of_nonneg h (by omega)
      omega
  have : 1 * 2 ^ widN f ≤ q * 2 ^ widN f := Int.mul_le_mul_of_nonneg_right (by omega) (by omega)
  omega
theorem prev_some {h l : Int} {k : Nat} (hin : inA h l) (hk : k < 128) (h1 : ∀ m, m < k → bt h l m = 0) (h0 : bt h l k = 1) :
    prevA h l = ((adrOf ((List.range 128).map fun i => if 127 - i < k then 1 else if 127 - i = k then 0 else bt h l (127 - i))).1,
      (adrOf ((List.range 128).map fun i => if 127 - i < k then 1 else if 127 - i = k then 0 else bt h l (127 - i))).2, true) := by
  have hn := numA_lt (f := 6) hin rfl
  have hpv := (prevA_num hin).1
  have l0 := hin.2.2.1
  have l1 := hin.2.2.2
  simp only [bt_num l0 l1] at h1 h0 ⊢
  have hs := pred_bits h1 h0
  have hlt : 0 < numA (h, l) := by
    rcases ltge 0 (numA (h, l)) with hh | hh
    · exact hh
    · exfalso
      have e : numA (h, l) = 0 := by omega
      rw [e] at h0
      simp at h0
  obtain ⟨x, y, e, hxy, hxy'⟩ := hpv hlt
  simp only [← hs]
  have ha := adrOf_all (w := 128) (by omega) (N := numA (h, l) - 1) (by omega) (by have : (2 : Int) ^ widN 6 = 2 ^ 128 := rfl; omega)
  have hr := bits_rng 128 (fun i => (numA (h, l) - 1) / 2 ^ (127 - i) % 2) (fun i _ => by omega)
  have := numA_inj (p := (x, y)) (q := adrOf ((List.range 128).map fun i => (numA (h, l) - 1) / 2 ^ (127 - i) % 2)) hxy'.2.2 hr.2.2 (by rw [hxy]; exact ha.symm)
  rw [e, ← this]
theorem prev_none {h l : Int} (hin : inA h l) (h1 : ∀ m, m < 128 → bt h l m = 0) : prevA h l = (0, 0, false) := by
  have hn := numA_lt (f := 6) hin rfl
  refine (prevA_num hin).2 ?_
  have l0 := hin.2.2.1
  have l1 := hin.2.2.2
  simp only [bt_num l0 l1] at h1
  obtain ⟨q, hq⟩ := zeros_mul 128 h1
  have e : (2 : Int) ^ widN 6 = 2 ^ 128 := rfl
  rw [e] at hn
  have hp := ipow_pos 128
  have h2 : q < 1 := by
    rcases ltge q 1 with h | h
    · exact h
    · have : 1 * 2 ^ 128 ≤ q * 2 ^ 128 := Int.mul_le_mul_of_nonneg_right h (by omega)
      omega
  have h3 : 0 ≤ q := by
    rcases ltge q 0 with h | h
    · have : q * 2 ^ 128 ≤ (-1) * 2 ^ 128 := Int.mul_le_mul_of_nonneg_right (by omega) (by omega)
      omega
    · exact h
  rw [hq, show q = 0 by omega]
  simp

end Go.Proofs.Ytkcmgjagjbiinaa.AL
namespace Go.Proofs.Ytkcmgjagjbiinaa.AL
open Go
attribute [local simp] qf cv qbin ibin sbin qun retPost rvOk ctV ctPost marksOk retV resAll resOf V.lt ltL V.ren renL V.exp V.exp1 cleanL V.clean closedL V.closed V.cells V.one V.tree
  loadV cellsAt isNC nilQ isSlD isIfD slNew ownRows ownCells V.isOwn slStore srcO qlook mlook mget mstr zval qnone qmake mput lmap isAggD placesOf fillV putCells lstore bound seqParts V.sh shL Blk.sh newV V.ok peqs peq srcRows qbytes byteSl appOk mmV mmR hidE V.fz fzL Blk.fz fzOk and_assoc
attribute [-simp] Int.not_le Int.not_lt Nat.not_le Nat.not_lt
theorem runs_ref02_Next : ∀ args r, SNext args = some r → Runs Try.prog 72 args r := by
  intro args r hh
  unfold SNext at hh
  split at hh
  · rename_i f h l
    split at hh
    · rename_i hin
      cases hh
      have hT : (((T0.add 88 SAddr).add 89 SBits).add 90 SAdr).ok Try.prog := Tab.add_ok (Tab.add_ok (Tab.add_ok (T0_ok _) runs_ref01_CheckAddr) runs_ref01_Bits) runs_ref01_Addr
      refine Runs.of_body Try.func72 (by decide) rfl (by simp [Try.f72]) ?_
      refine W.seqE hT mixed M0 (by kernel_rfl) ?_
      simp [Try.f72]
      refine W.seqE hT mixed M0 (by kernel_rfl) ?_
      cases hc : cAddr f h l
      · simp [Try.f72, SAddr, hc, nextA]
      · simp [Try.f72, SAddr, hc]
        refine W.seqE hT mixed M0 (by kernel_rfl) ?_
        simp [Try.f72, SBits, hin]
        have hw := widN_le f
        refine W.cut (∀ m, m < widN f → bt h l m = 1) [(4, .ptr 0 0)] [.box 99 [.int .u64 0, .int .u64 0]] 37 ?_ ?_
        · refine W.seqE hT mixed M0 (by kernel_rfl) ?_
          simp [Try.f72]
          rw [wr_i64 (by omega) (by omega)]
          refine W.block (W.for (fun k => ∀ m, m < k → bt h l m = 1) (fun k => [(4, .ptr 0 0), (5, .bool false), (6, .own 1), (7, .int .i64 ((widN f : Int) - 1 - k))])
            (fun k => [.box 99 [.int .u64 0, .int .u64 0], .sl 1 3 (rg (widN f) fun i => if widN f - 1 - i < k then 0 else bt h l (widN f - 1 - i))]) 37 (widN f) (fun m hm => absurd hm (by omega)) ?_ ?_)
          · simp
          · intro k hk hJ
            refine W.of_WE hT mixed M0 _ (by kernel_rfl) ?_
            by_cases hlt : k < widN f
            · have e : (widN f : Int) - 1 - k = ((widN f - 1 - k : Nat) : Int) := by omega
              have e2 : widN f - 1 - (widN f - 1 - k) = k := by omega
              have e3 : IntKind.i64.wrap (((widN f - 1 - k : Nat) : Int) - 1) = (widN f : Int) - 1 - ((k : Int) + 1) := by rw [wr_i64 (by omega) (by omega)]; omega
              rw [e]
              by_cases h0 : bt h l k = 0
              · have hA := SAdr_rg (w := widN f) (f := fun i => if widN f - 1 - i < k then 0 else if widN f - 1 - i = k then 1 else bt h l (widN f - 1 - i)) (by omega) (by intro i _; split; simp; split; simp; exact bt_01 ..)
                have hset : (rg (widN f) fun i => if widN f - 1 - i < k then 0 else bt h l (widN f - 1 - i)).set (widN f - 1 - k) [.int .i64 1] = rg (widN f) fun i => if widN f - 1 - i < k then 0 else if widN f - 1 - i = k then 1 else bt h l (widN f - 1 - i) := by
                  rw [rg_set]
                  refine rg_congr fun i hi => ?_
                  by_cases g : i = widN f - 1 - k
                  · rw [if_pos g, if_neg (by omega), if_pos (by omega)]
                  · rw [if_neg g]
                    by_cases g2 : widN f - 1 - i < k
                    · rw [if_pos g2, if_pos g2]
                    · rw [if_neg g2, if_neg g2, if_neg (by omega)]
                have hnx := next_some hin hc hlt hJ h0
                simp [show widN f - 1 - k < widN f by omega, e2, h0, hset, hA, hnx]
              · have h1 : bt h l k = 1 := by have := bt_01 h l k; omega
                have hset : (rg (widN f) fun i => if widN f - 1 - i < k then 0 else bt h l (widN f - 1 - i)).set (widN f - 1 - k) [.int .i64 0] = rg (widN f) fun i => if widN f - 1 - i < k + 1 then 0 else bt h l (widN f - 1 - i) := by
                  rw [rg_set]
                  refine rg_congr fun i hi => ?_
                  by_cases g : i = widN f - 1 - k
                  · rw [if_pos g, if_pos (by omega)]
                  · rw [if_neg g]
                    by_cases g2 : widN f - 1 - i < k
                    · rw [if_pos g2, if_pos (by omega)]
                    · rw [if_neg g2, if_neg (by omega)]
                simp [show widN f - 1 - k < widN f by omega, e2, h0, hset, e3, hlt]
                intro m hm
                rcases Nat.lt_or_ge m k with g | g
                · exact hJ m g
                · rwa [show m = k by omega]
            · have hk' : k = widN f := by omega
              subst hk'
              have e : ((widN f : Int) - 1 - (widN f : Int)) = -1 := by omega
              rw [e]
              simp
              exact hJ
        · intro hall
          refine W.of_WE hT mixed M0 _ (by kernel_rfl) ?_
          have := next_none hin hc hall
          simp [Try.f72, this]
    · cases hh
  · cases hh
theorem SBits6 {h l : Int} (hin : inA h l) : SBits [.int .u8 6, .agg [.int .u64 h, .int .u64 l]] = some ⟨.own 0, [.sl 1 3 (rg 128 fun i => bt h l (127 - i))]⟩ := by
  simp only [SBits, if_pos hin]
  rfl
theorem runs_ref02_Prev : ∀ args r, SPrev args = some r → Runs Try.prog 108 args r := by
  intro args r hh
  unfold SPrev at hh
  split at hh
  · rename_i h l
    split at hh
    · rename_i hin
      cases hh
      have hT : ((T0.add 89 SBits).add 90 SAdr).ok Try.prog := Tab.add_ok (Tab.add_ok (T0_ok _) runs_ref01_Bits) runs_ref01_Addr
      refine Runs.of_body Try.func108 (by decide) rfl (by simp [Try.f108]) ?_
      refine W.seqE hT mixed M0 (by kernel_rfl) ?_
      simp [Try.f108]
      refine W.seqE hT mixed M0 (by kernel_rfl) ?_
      simp [Try.f108, SBits6 hin]
      refine W.cut (∀ m, m < 128 → bt h l m = 0) [(2, .ptr 0 0)] [.box 99 [.int .u64 0, .int .u64 0]] 29 ?_ ?_
      · refine W.seqE hT mixed M0 (by kernel_rfl) ?_
        simp [Try.f108]
        rw [show IntKind.i64.wrap 127 = 127 from rfl]
        refine W.block (W.for (fun k => ∀ m, m < k → bt h l m = 0) (fun k => [(2, .ptr 0 0), (3, .bool false), (4, .own 1), (5, .int .i64 (127 - k))])
          (fun k => [.box 99 [.int .u64 0, .int .u64 0], .sl 1 3 (rg 128 fun i => if 127 - i < k then 1 else bt h l (127 - i))]) 29 128 (fun m hm => absurd hm (by omega)) ?_ ?_)
        · simp
        · intro k hk hJ
          refine W.of_WE hT mixed M0 _ (by kernel_rfl) ?_
          by_cases hlt : k < 128
          · have e : (127 : Int) - k = ((127 - k : Nat) : Int) := by omega
            have e2 : 127 - (127 - k) = k := by omega
            have e3 : IntKind.i64.wrap (((127 - k : Nat) : Int) - 1) = 127 - ((k : Int) + 1) := by rw [wr_i64 (by omega) (by omega)]; omega
            rw [e]
            by_cases h0 : bt h l k = 1
            · have hA := SAdr_rg (w := 128) (f := fun i => if 127 - i < k then 1 else if 127 - i = k then 0 else bt h l (127 - i)) (by omega) (by intro i _; split; simp; split; simp; exact bt_01 ..)
              have hset : (rg 128 fun i => if 127 - i < k then 1 else bt h l (127 - i)).set (127 - k) [.int .i64 0] = rg 128 fun i => if 127 - i < k then 1 else if 127 - i = k then 0 else bt h l (127 - i) := by
                rw [rg_set]
                refine rg_congr fun i hi => ?_
                by_cases g : i = 127 - k
                · rw [if_pos g, if_neg (by omega), if_pos (by omega)]
                · rw [if_neg g]
                  by_cases g2 : 127 - i < k
                  · rw [if_pos g2, if_pos g2]
                  · rw [if_neg g2, if_neg g2, if_neg (by omega)]
              have hnx := prev_some hin hlt hJ h0
              simp [show 127 - k < 128 by omega, e2, h0, hset, hA, hnx]
              omega
            · have h1 : bt h l k = 0 := by have := bt_01 h l k; omega
              have hset : (rg 128 fun i => if 127 - i < k then 1 else bt h l (127 - i)).set (127 - k) [.int .i64 1] = rg 128 fun i => if 127 - i < k + 1 then 1 else bt h l (127 - i) := by
                rw [rg_set]
                refine rg_congr fun i hi => ?_
                by_cases g : i = 127 - k
                · rw [if_pos g, if_pos (by omega)]
                · rw [if_neg g]
                  by_cases g2 : 127 - i < k
                  · rw [if_pos g2, if_pos (by omega)]
                  · rw [if_neg g2, if_neg (by omega)]
              simp [show 127 - k < 128 by omega, e2, h0, hset, e3, hlt]
              refine ⟨by omega, fun m hm => ?_⟩
              rcases Nat.lt_or_ge m k with g | g
              · exact hJ m g
              · rwa [show m = k by omega]
          · have hk' : k = 128 := by omega
            subst hk'
            simp
            exact hJ
      · intro hall
        refine W.of_WE hT mixed M0 _ (by kernel_rfl) ?_
        have := prev_none hin hall
        simp [Try.f108, this]
    · cases hh
  · cases hh

end Go.Proofs.Ytkcmgjagjbiinaa.AL
namespace Go.Proofs.Ytkcmgjagjbiinaa.AL
open Go
attribute [local simp] qf cv qbin ibin sbin qun retPost rvOk ctV ctPost marksOk retV resAll resOf V.lt ltL V.ren renL V.exp V.exp1 cleanL V.clean closedL V.closed V.cells V.one V.tree
  loadV cellsAt isNC nilQ isSlD isIfD slNew ownRows ownCells V.isOwn slStore srcO qlook mlook mget mstr zval qnone qmake mput lmap isAggD placesOf fillV putCells lstore bound seqParts V.sh shL Blk.sh newV V.ok peqs peq srcRows qbytes byteSl appOk mmV mmR hidE V.fz fzL Blk.fz fzOk and_assoc
attribute [-simp] Int.not_le Int.not_lt Nat.not_le Nat.not_lt
/-- One half of a prefix: its address with bit n (from the highest) set so. -/
def halfA (f h l : Int) (n : Nat) (b : Int) : Int × Int := adrOf ((List.range (widN f)).map fun i => if i = n then b else bt h l (widN f - 1 - i))
def SHalf : List V → Option Res
  | [.agg [.int .u8 f, .int .u64 h, .int .u64 l, .int .i64 n], .int .i64 b] => if inA h l ∧ 0 ≤ n ∧ n < widN f ∧ (b = 0 ∨ b = 1) then
      some ⟨.agg [.int .u8 f, .int .u64 (halfA f h l n.toNat b).1, .int .u64 (halfA f h l n.toNat b).2, .int .i64 (n + 1)], []⟩ else none
  | _ => none
/-- Rows of prefixes. -/
structure PF where
  f : Int
  h : Int
  l : Int
  n : Int
  deriving DecidableEq
def PF.row (a : PF) : List V := [.int .u8 a.f, .int .u64 a.h, .int .u64 a.l, .int .i64 a.n]
def pfOf : List V → Option PF
  | [.int .u8 f, .int .u64 h, .int .u64 l, .int .i64 n] => some ⟨f, h, l, n⟩
  | _ => none
theorem pfOf_row (a : PF) : pfOf a.row = some a := rfl
theorem pfOf_eq {r : List V} {a : PF} (h : pfOf r = some a) : r = a.row := by
  unfold pfOf at h
  split at h
  · cases h; rfl
  · cases h
def pfsOf : List (List V) → Option (List PF)
  | [] => some []
  | r :: rows => match pfOf r, pfsOf rows with
    | some a, some l => some (a :: l)
    | _, _ => none
theorem pfsOf_map (l : List PF) : pfsOf (l.map PF.row) = some l := by
  induction l with
  | nil => rfl
  | cons x l ih => simp [pfsOf, ih, pfOf_row]
theorem pfsOf_eq : ∀ {rows : List (List V)} {l : List PF}, pfsOf rows = some l → rows = l.map PF.row
  | [], l, h => by simp [pfsOf] at h; subst h; rfl
  | r :: rows, l, h => by
    unfold pfsOf at h
    split at h
    · rename_i a l' h1 h2
      cases h
      rw [pfOf_eq h1, pfsOf_eq h2]; rfl
    · cases h
def SSameP : List V → Option Res
  | [.rd 4 r1, .rd 4 r2] => match pfsOf r1, pfsOf r2 with
    | some a, some b => if a.length ≤ 1000000 ∧ b.length ≤ 1000000 then some ⟨.bool (decide (a = b)), []⟩ else none
    | _, _ => none
  | _ => none
end Go.Proofs.Ytkcmgjagjbiinaa.AL
namespace Go.Proofs.Ytkcmgjagjbiinaa.AL
open Go
attribute [local simp] qf cv qbin ibin sbin qun retPost rvOk ctV ctPost marksOk retV resAll resOf V.lt ltL V.ren renL V.exp V.exp1 cleanL V.clean closedL V.closed V.cells V.one V.tree
  loadV cellsAt isNC nilQ isSlD isIfD slNew ownRows ownCells V.isOwn slStore srcO qlook mlook mget mstr zval qnone qmake mput lmap isAggD placesOf fillV putCells lstore bound seqParts V.sh shL Blk.sh newV V.ok peqs peq srcRows qbytes byteSl appOk mmV mmR hidE V.fz fzL Blk.fz fzOk and_assoc
attribute [-simp] Int.not_le Int.not_lt Nat.not_le Nat.not_lt
/-- Does the prefix of n bits that begins the span lie in it? -/
def okF (f h l h' l' : Int) (n : Nat) : Bool := decide (cutA h l (widN f - n) = (h, l)) && decide (cmpA (lastA h l (widN f - n)).1 (lastA h l (widN f - n)).2 h' l' ≤ 0)
def fstN (f h l h' l' : Int) : Nat := ((List.range (widN f)).find? fun n => okF f h l h' l' n).getD (widN f)
theorem fstN_eq {f h l h' l' : Int} {k : Nat} (hk : k ≤ widN f) (h1 : ∀ i, i < k → okF f h l h' l' i = false) (h2 : okF f h l h' l' k = true) : fstN f h l h' l' = k := by
  unfold fstN
  rcases Nat.lt_or_ge k (widN f) with hlt | hge
  · have : (List.range (widN f)).find? (fun n => okF f h l h' l' n) = some k := by
      rw [List.find?_range_eq_some]
      exact ⟨h2, by simpa using hlt, fun i hi => by simp [h1 i hi]⟩
    rw [this]; rfl
  · have e : k = widN f := by omega
    have : (List.range (widN f)).find? (fun n => okF f h l h' l' n) = none := by
      rw [List.find?_eq_none]
      intro i hi
      rw [List.mem_range] at hi
      simp [h1 i (by omega)]
    rw [this, e]; rfl
theorem cut0 {h l : Int} : cutA h l 0 = (h, l) := by unfold cutA; simp
theorem last0 {h l : Int} : lastA h l 0 = (h, l) := by unfold lastA; simp
theorem okF_w {f h l h' l' : Int} (hc : cmpA h l h' l' ≤ 0) : okF f h l h' l' (widN f) = true := by
  unfold okF
  rw [Nat.sub_self, cut0, last0]
  simp [hc]
def SFirst : List V → Option Res
  | [.agg [.int .u8 f, .int .u64 h, .int .u64 l, .int .u64 h', .int .u64 l']] => if inA h l ∧ inA h' l' ∧ chkS f h l h' l' = 0 then some ⟨.agg [.int .u8 f, .int .u64 h, .int .u64 l, .int .i64 (fstN f h l h' l')], []⟩ else none
  | _ => none
theorem chkS_zero {f h l h' l' : Int} (h0 : chkS f h l h' l' = 0) : cAddr f h l = true ∧ cAddr f h' l' = true ∧ cmpA h l h' l' ≤ 0 := by
  unfold chkS at h0
  split at h0
  · omega
  · split at h0
    · assumption
    · omega
end Go.Proofs.Ytkcmgjagjbiinaa.AL
namespace Go.Proofs.Ytkcmgjagjbiinaa.AL
open Go
attribute [local simp] qf cv qbin ibin sbin qun retPost rvOk ctV ctPost marksOk retV resAll resOf V.lt ltL V.ren renL V.exp V.exp1 cleanL V.clean closedL V.closed V.cells V.one V.tree
  loadV cellsAt isNC nilQ isSlD isIfD slNew ownRows ownCells V.isOwn slStore srcO qlook mlook mget mstr zval qnone qmake mput lmap isAggD placesOf fillV putCells lstore bound seqParts V.sh shL Blk.sh newV V.ok peqs peq srcRows qbytes byteSl appOk mmV mmR hidE V.fz fzL Blk.fz fzOk and_assoc
attribute [-simp] Int.not_le Int.not_lt Nat.not_le Nat.not_lt
theorem cmpA_lt {a b c d : Int} (h1 : inA a b) (h2 : inA c d) : cmpA a b c d < 0 ↔ numA (a, b) < numA (c, d) := by
  obtain ⟨a0, a1, b0, b1⟩ := h1
  obtain ⟨c0, c1, d0, d1⟩ := h2
  unfold cmpA numA
  simp only
  split
  · omega
  · split <;> omega
theorem cmpA_le {a b c d : Int} (h1 : inA a b) (h2 : inA c d) : cmpA a b c d ≤ 0 ↔ numA (a, b) ≤ numA (c, d) := by
  obtain ⟨a0, a1, b0, b1⟩ := h1
  obtain ⟨c0, c1, d0, d1⟩ := h2
  unfold cmpA numA
  simp only
  split
  · omega
  · split <;> omega
theorem half_num {f h l q : Int} {j k : Nat} (hin : inA h l) (hc : cAddr f h l = true) (hk : j + (k + 1) = widN f) (hq : numA (h, l) = q * 2 ^ (k + 1)) :
    halfA f h l j 0 = (h, l) ∧ halfA f h l j 1 = toA (numA (h, l) + 2 ^ k) ∧ numA (h, l) + 2 ^ k < 2 ^ widN f := by
  have hn := numA_lt hin hc
  have hw := widN_le f
  obtain ⟨h0, h1, l0, l1⟩ := hin
  have e := ipow_succ k
  have hp := ipow_pos k
  have e1 : numA (h, l) + 2 ^ k = (2 * q + 1) * 2 ^ k := by rw [hq, e, Int.add_mul, Int.one_mul, ← Int.mul_assoc, Int.mul_right_comm, Int.mul_comm 2 q]
  have e0 : numA (h, l) = (2 * q) * 2 ^ k := by rw [hq, e, ← Int.mul_assoc, Int.mul_right_comm, Int.mul_comm 2 q]
  have hlt : numA (h, l) + 2 ^ k < 2 ^ widN f := by
    have e2 : (2 : Int) ^ widN f = 2 ^ j * 2 ^ (k + 1) := by rw [← ipow_add]; congr 1; omega
    have g : q * 2 ^ (k + 1) < 2 ^ j * 2 ^ (k + 1) := by rw [← hq, ← e2]; exact hn.2
    have g2 := Int.lt_of_mul_lt_mul_right g (by omega)
    have g3 : (q + 1) * 2 ^ (k + 1) ≤ 2 ^ j * 2 ^ (k + 1) := Int.mul_le_mul_of_nonneg_right (by omega) (by omega)
    rw [Int.add_mul, Int.one_mul, ← hq, ← e2] at g3
    omega
  have b01 : ∀ i, i < widN f → (if i = j then (0 : Int) else bt h l (widN f - 1 - i)) = numA (h, l) / 2 ^ (widN f - 1 - i) % 2 := by
    intro i hi
    split
    · rename_i hij
      subst hij
      rw [hq, show widN f - 1 - i = k by omega, mul_bit_lt (by omega)]
    · exact bt_num l0 l1 _
  have b11 : ∀ i, i < widN f → (if i = j then (1 : Int) else bt h l (widN f - 1 - i)) = (numA (h, l) + 2 ^ k) / 2 ^ (widN f - 1 - i) % 2 := by
    intro i hi
    split
    · rename_i hij
      subst hij
      rw [e1, show widN f - 1 - i = k by omega, mul_bit_ge (Nat.le_refl _), Nat.sub_self]
      simp
    · rename_i hij
      rw [bt_num l0 l1, e1]
      rcases Nat.lt_or_ge (widN f - 1 - i) k with hlt | hge
      · rw [mul_bit_lt hlt, e0, mul_bit_lt hlt]
      · rw [mul_bit_ge hge, e0, mul_bit_ge hge]
        obtain ⟨m, hm⟩ : ∃ m, widN f - 1 - i - k = m + 1 := ⟨widN f - 1 - i - k - 1, by omega⟩
        rw [hm, Nat.add_comm m 1, ← div_div_pow, ← div_div_pow, show (2 * q) / 2 ^ 1 = q by omega, show (2 * q + 1) / 2 ^ 1 = q by omega]
  refine ⟨?_, ?_, hlt⟩
  · unfold halfA
    rw [List.map_congr_left (fun i hi => b01 i (List.mem_range.1 hi))]
    have hr := bits_rng (widN f) (fun i => numA (h, l) / 2 ^ (widN f - 1 - i) % 2) (fun i _ => by omega)
    refine numA_inj hr.2.2 ⟨l0, l1⟩ ?_
    exact adrOf_all hw hn.1 hn.2
  · unfold halfA
    rw [List.map_congr_left (fun i hi => b11 i (List.mem_range.1 hi))]
    have hr := bits_rng (widN f) (fun i => (numA (h, l) + 2 ^ k) / 2 ^ (widN f - 1 - i) % 2) (fun i _ => by omega)
    have hr2 := toA_rng (N := numA (h, l) + 2 ^ k) (by omega) (by
      have : (2 : Int) ^ widN f ≤ 340282366920938463463374607431768211456 := by
        have e3 : (340282366920938463463374607431768211456 : Int) = 2 ^ (128 - widN f) * 2 ^ widN f := by rw [← ipow_add, show 128 - widN f + widN f = 128 by omega]; rfl
        have g := ipow_pos (128 - widN f)
        have g2 : (1 : Int) * 2 ^ widN f ≤ 2 ^ (128 - widN f) * 2 ^ widN f := Int.mul_le_mul_of_nonneg_right (by omega) (by omega)
        omega
      omega)
    refine numA_inj hr.2.2 hr2.2.2 ?_
    rw [numA_toA]
    exact adrOf_all hw (by omega) hlt
theorem toA_adr {f N : Int} (hf : f = 4 ∨ f = 6) (h0 : 0 ≤ N) (h1 : N < 2 ^ widN f) : inA (toA N).1 (toA N).2 ∧ cAddr f (toA N).1 (toA N).2 = true := by
  have hr : N < 340282366920938463463374607431768211456 := by
    rcases hf with rfl | rfl
    · have h1' : N < 4294967296 := h1
      omega
    · exact h1
  refine ⟨toA_rng h0 hr, ?_⟩
  unfold cAddr
  rcases hf with rfl | rfl
  · have h1' : N < 4294967296 := h1
    unfold toA
    simp
    omega
  · simp
def rowW (f : Int) (p : Int × Nat) : PF := ⟨f, (toA p.1).1, (toA p.1).2, (widN f : Int) - p.2⟩
def wRows (f a b : Int) (k : Nat) (N : Int) : List (List V) := (wthN a b k N).map fun p => (rowW f p).row
theorem wRows_len {f a b : Int} {k : Nat} {N : Int} : (wRows f a b k N).length ≤ 2 * k + 2 := by
  unfold wRows
  rw [List.length_map]
  exact wthN_len
def SWth (K : Nat) : List V → Option Res
  | [.agg [.int .u64 h1, .int .u64 l1, .int .u64 h2, .int .u64 l2], .agg [.int .u8 f, .int .u64 h, .int .u64 l, .int .i64 n]] =>
    if inA h1 l1 ∧ inA h2 l2 ∧ inA h l ∧ cAddr f h l = true ∧ 0 ≤ n ∧ n ≤ widN f ∧ widN f - n.toNat < K ∧ numA (h, l) % 2 ^ (widN f - n.toNat) = 0 then
      some ⟨.own 0, [.sl 4 158 (wRows f (numA (h1, l1)) (numA (h2, l2)) (widN f - n.toNat) (numA (h, l)))]⟩ else none
  | _ => none
end Go.Proofs.Ytkcmgjagjbiinaa.AL
namespace Go.Proofs.Ytkcmgjagjbiinaa.AL
open Go
attribute [local simp] qf cv qbin ibin sbin qun retPost rvOk ctV ctPost marksOk retV resAll resOf V.lt ltL V.ren renL V.exp V.exp1 cleanL V.clean closedL V.closed V.cells V.one V.tree
  loadV cellsAt isNC nilQ isSlD isIfD slNew ownRows ownCells V.isOwn slStore srcO qlook mlook mget mstr zval qnone qmake mput lmap isAggD placesOf fillV putCells lstore bound seqParts V.sh shL Blk.sh newV V.ok peqs peq srcRows qbytes byteSl appOk mmV mmR hidE V.fz fzL Blk.fz fzOk and_assoc
attribute [-simp] Int.not_le Int.not_lt Nat.not_le Nat.not_lt
def SPre : List V → Option Res
  | [.int .u8 f, .agg [.int .u64 h1, .int .u64 l1, .int .u64 h2, .int .u64 l2]] => if inA h1 l1 ∧ inA h2 l2 then
      (if chkS f h1 l1 h2 l2 = 0 then some ⟨.tup [.own 0, .int .i64 0], [.sl 4 158 (wRows f (numA (h1, l1)) (numA (h2, l2)) (widN f) 0)]⟩
        else some ⟨.tup [.nils, .int .i64 (chkS f h1 l1 h2 l2)], []⟩) else none
  | _ => none
theorem chk_46 {f h l h' l' : Int} (h0 : chkS f h l h' l' = 0) : f = 4 ∨ f = 6 := cAddr_46 (chkS_zero h0).1
end Go.Proofs.Ytkcmgjagjbiinaa.AL
namespace Go.Proofs.Ytkcmgjagjbiinaa.AL
open Go
attribute [local simp] qf cv qbin ibin sbin qun retPost rvOk ctV ctPost marksOk retV resAll resOf V.lt ltL V.ren renL V.exp V.exp1 cleanL V.clean closedL V.closed V.cells V.one V.tree
  loadV cellsAt isNC nilQ isSlD isIfD slNew ownRows ownCells V.isOwn slStore srcO qlook mlook mget mstr zval qnone qmake mput lmap isAggD placesOf fillV putCells lstore bound seqParts V.sh shL Blk.sh newV V.ok peqs peq srcRows qbytes byteSl appOk mmV mmR hidE V.fz fzL Blk.fz fzOk and_assoc
attribute [-simp] Int.not_le Int.not_lt Nat.not_le Nat.not_lt
/-- slices.IndexFunc and ContainsFunc at one type, for any test that has its summary. -/
theorem runs_Idx_set {g : FuncId} {S : List V → Option Res} (hS : ∀ args r, S args = some r → Runs Try.prog g args r) {caps : List V} (hcl : cleanL caps = true) {p : List V → Bool} {rows : List (List V)} (hlen : rows.length ≤ 1000000)
    (hp : ∀ r ∈ rows, r.length = 4 ∧ cleanL r = true ∧ S (.agg r :: caps) = some ⟨.bool (p r), []⟩) : Runs Try.prog 110 [.rd 4 rows, .fn g [] caps] ⟨.int .i64 (idxP p rows), []⟩ := by
  have hT : (T0.add g S).ok Try.prog := Tab.add_ok (T0_ok _) hS
  have hc1 := (cleanL_ren [] 0 caps hcl).1
  have hc2 := (cleanL_ren [] 0 caps hcl).2
  refine Runs.of_body Try.func110 (by decide) rfl (by simp [Try.f110]) ?_
  refine W.seqE hT mixed M0 (by kernel_rfl) ?_
  simp [Try.f110]
  refine W.cut (∀ r ∈ rows, p r = false) [] [] 19 ?_ ?_
  · refine W.seqE hT mixed M0 (by kernel_rfl) ?_
    simp [Try.f110]
    refine W.block (W.for (fun k => ∀ i (hi : i < k) (h2 : i < rows.length), p rows[i] = false)
      (fun k => [(0, .rd 4 rows), (1, .fn g [] caps), (6, .rd 4 rows), (7, .int .i64 rows.length), (8, .int .i64 k)]) (fun k => []) 19 rows.length (fun i hi => absurd hi (by omega)) ?_ ?_)
    · simp [hc1, hc2]
    · intro k hk hJ
      refine W.of_WE hT mixed M0 _ (by kernel_rfl) ?_
      by_cases hlt : k < rows.length
      · obtain ⟨h1, h2, h3⟩ := hp rows[k] (List.getElem_mem hlt)
        have hw1 : IntKind.i64.wrap ((k : Int) + 1) = k + 1 := wr_i64 (by omega) (by omega)
        have htk : rows[k].take 4 = rows[k] := List.take_of_length_le (by omega)
        cases ha : p rows[k]
        · rw [ha] at h3
          have hJ' : ∀ i (hi : i < k + 1) (h2 : i < rows.length), p rows[i] = false := by
            intro i hi h2
            rcases Nat.lt_or_ge i k with g | g
            · exact hJ i g h2
            · have : i = k := by omega
              subst this; exact ha
          simp [hlt, h1, h2, htk, h3, hcl, hw1, hc1, hc2, exp1_clean _ h2]
          exact hJ'
        · rw [ha] at h3
          have := idxP_at hlt (fun i hi => hJ i hi (by omega)) ha
          simp [hlt, h1, h2, htk, h3, hcl, this, exp1_clean _ h2]
      · have : k = rows.length := by omega
        subst this
        simp
        intro r hr
        obtain ⟨i, hi, rfl⟩ := List.mem_iff_getElem.1 hr
        exact hJ i hi hi
  · intro hn
    refine W.of_WE hT mixed M0 _ (by kernel_rfl) ?_
    simp [Try.f110, idxP_none hn]
theorem runs_Con_set {g : FuncId} {S : List V → Option Res} (hS : ∀ args r, S args = some r → Runs Try.prog g args r) {caps : List V} (hcl : cleanL caps = true) {p : List V → Bool} {rows : List (List V)} (hlen : rows.length ≤ 1000000)
    (hp : ∀ r ∈ rows, r.length = 4 ∧ cleanL r = true ∧ S (.agg r :: caps) = some ⟨.bool (p r), []⟩) : Runs Try.prog 99 [.rd 4 rows, .fn g [] caps] ⟨.bool (rows.any p), []⟩ := by
  have hI := runs_Idx_set hS hcl hlen hp
  have hT : (T0.add 110 (oneS [.rd 4 rows, .fn g [] caps] ⟨.int .i64 (idxP p rows), []⟩)).ok Try.prog := Tab.add_ok (T0_ok _) (oneS_ok hI)
  refine Runs.of_body Try.func99 (by decide) rfl (by simp [Try.f99]) ?_
  refine W.of_WE hT mixed M0 _ (by kernel_rfl) ?_
  have ha := idxP_any (p := p) (l := rows)
  simp [Try.f99, oneS_self, hcl, ha]


end Go.Proofs.Ytkcmgjagjbiinaa.AL
namespace Go.Proofs.Ytkcmgjagjbiinaa.AL
open Go
attribute [local simp] qf cv qbin ibin sbin qun retPost rvOk ctV ctPost marksOk retV resAll resOf V.lt ltL V.ren renL V.exp V.exp1 cleanL V.clean closedL V.closed V.cells V.one V.tree
  loadV cellsAt isNC nilQ isSlD isIfD slNew ownRows ownCells V.isOwn slStore srcO qlook mlook mget mstr zval qnone qmake mput lmap isAggD placesOf fillV putCells lstore bound seqParts V.sh shL Blk.sh newV V.ok peqs peq srcRows qbytes byteSl appOk mmV mmR hidE V.fz fzL Blk.fz fzOk and_assoc
attribute [-simp] Int.not_le Int.not_lt Nat.not_le Nat.not_lt
def SWide1 : List V → Option Res
  | [.agg [.int .u32 a, .int .u32 b]] => if inAS ⟨a, b⟩ then some ⟨.agg (wideS ⟨a, b⟩).row, []⟩ else none
  | _ => none
theorem runs_resource_wide : ∀ args r, SWide1 args = some r → Runs Try.prog 81 args r := by
  intro args r hh
  unfold SWide1 at hh
  split at hh
  · rename_i a b
    split at hh
    · rename_i hin
      cases hh
      obtain ⟨h1, h2, h3, h4⟩ := hin
      have w1 : IntKind.u64.wrap a = a := wr_u64 h1 (by simp only at h2; omega)
      have w2 : IntKind.u64.wrap b = b := wr_u64 h3 (by simp only at h4; omega)
      refine Runs.of_body Try.func81 (by decide) rfl (by simp [Try.f81]) ?_
      refine W.of_WE (T0_ok _) mixed M0 _ (by kernel_rfl) ?_
      simp [Try.f81, w1, w2, SP.row, wideS]
    · cases hh
  · cases hh
def SConvW : List V → Option Res
  | [.rd 2 rows, .fn 81 [] []] => match assOf rows with
    | some l => if (∀ s ∈ l, inAS s) ∧ l.length ≤ 1000000 then some ⟨.rd 4 (sRows (l.map wideS)), []⟩ else none
    | none => none
  | _ => none
theorem runs_convert_wide : ∀ args r, SConvW args = some r → Runs Try.prog 80 args r := by
  intro args r hh
  unfold SConvW at hh
  split at hh
  · rename_i rows
    split at hh
    · rename_i l hl
      split at hh
      · rename_i hin
        obtain ⟨hin, hlen⟩ := hin
        cases hh
        have h1 := parse_eq asOf_eq hl
        subst h1
        have hT : (T0.add 81 SWide1).ok Try.prog := Tab.add_ok (T0_ok _) runs_resource_wide
        refine Runs.of_body Try.func80 (by decide) rfl (by simp [Try.f80]) ?_
        refine W.seqE hT mixed M0 (by kernel_rfl) ?_
        simp [Try.f80]
        refine W.seqE hT mixed M0 (by kernel_rfl) ?_
        simp [Try.f80]
        refine W.wk (Wk.adopt 5 4 101 (by omega) (by simp)) ?_
        refine W.cut True [(5, .own 0)] [.sl 4 101 (sRows (l.map wideS))] 22 ?_ ?_
        · refine W.seqE hT mixed M0 (by kernel_rfl) ?_
          simp [Try.f80]
          refine W.block (W.for (fun k => True) (fun k => [(1, .fn 81 [] []), (5, .own 0), (8, .rd 2 (aRows l)), (9, .int .i64 l.length), (10, .int .i64 k)]) (fun k => [.sl 4 101 (sRows ((l.take k).map wideS))]) 22 l.length trivial ?_ ?_)
          · simp [sRows, aRows]
          · intro k hk _
            refine W.of_WE hT mixed M0 _ (by kernel_rfl) ?_
            by_cases hlt : k < l.length
            · have hw1 : IntKind.i64.wrap ((k : Int) + 1) = k + 1 := wr_i64 (by omega) (by omega)
              have hg := aRows_get hlt
              have hs := hin l[k] (List.getElem_mem hlt)
              have hsn := sRows_wide_snoc hlt
              have hlk : (sRows ((l.take k).map wideS)).length ≤ 1000000 := by rw [sRows_len]; simp; omega
              generalize sRows ((l.take k).map wideS) = R at *
              simp [hlt, AS.row, SWide1, hs, hw1, SP.row]
              simp [SP.row] at hsn
              rw [hsn]
              exact ⟨by omega, by omega, rfl⟩
            · have : k = l.length := by omega
              subst this
              simp
        · intro _
          refine W.seqE hT mixed M0 (by kernel_rfl) ?_
          simp [Try.f80]
          refine W.wk (Wk.freeze 0 (.sl 4 101 (sRows (l.map wideS))) (by simp) (by simp)) ?_
          refine W.of_WE hT mixed M0 _ (by kernel_rfl) ?_
          simp [Try.f80]
      · cases hh
    · cases hh
  · cases hh
def SSets : List V → Option Res
  | [.agg [.rd 4 r4, .rd 4 r6, .rd 2 ra]] => match assOf ra with
    | some l => if (∀ s ∈ l, inAS s) ∧ l.length ≤ 1000000 then some ⟨.agg [.rd 4 r4, .rd 4 r6, .rd 4 (sRows (l.map wideS))], []⟩ else none
    | none => none
  | _ => none
def M_f58 : Md := fun i => if i = 1 then some #[0, 1, 0, 4, 0, 16, 48, 127, 255] else some #[]
@[simp] theorem M_f58_eq {i : Nat} : M_f58 i = (if i = 1 then some #[0, 1, 0, 4, 0, 16, 48, 127, 255] else some #[]) := rfl
theorem runs_resource_sets : ∀ args r, SSets args = some r → Runs Try.prog 58 args r := by
  intro args r hh
  unfold SSets at hh
  split at hh
  · rename_i r4 r6 ra
    split at hh
    · rename_i l hl
      split at hh
      · rename_i hin
        cases hh
        have hT : (T0.add 80 SConvW).ok Try.prog := Tab.add_ok (T0_ok _) runs_convert_wide
        have hcv : SConvW [.rd 2 ra, .fn 81 [] []] = some ⟨.rd 4 (sRows (l.map wideS)), []⟩ := by
          simp only [SConvW, hl]; rw [if_pos hin]
        refine Runs.of_body Try.func58 (by decide) rfl (by simp [Try.f58]) ?_
        refine W.of_WE hT mixed M_f58 _ (by kernel_rfl) ?_
        simp [Try.f58, hcv]
      · cases hh
    · cases hh
  · cases hh
def SWideR : List V → Option Res
  | [.rd 2 rows] => match assOf rows with
    | some l => if (∀ s ∈ l, inAS s) ∧ l.length ≤ 1000000 then some ⟨.rd 4 (sRows (l.map wideS)), []⟩ else none
    | none => none
  | _ => none
def M_f63 : Md := fun i => if i = 5 then some #[0, 0, 0, 6, 14, 30, 62, 126, 0, 0, 768, 1792, 3840, 7936, 16128, 32766, 65534, 131071, 262143] else some #[]
@[simp] theorem M_f63_eq {i : Nat} : M_f63 i = (if i = 5 then some #[0, 0, 0, 6, 14, 30, 62, 126, 0, 0, 768, 1792, 3840, 7936, 16128, 32766, 65534, 131071, 262143] else some #[]) := rfl
theorem runs_ref03_wide : ∀ args r, SWideR args = some r → Runs Try.prog 63 args r := by
  intro args r hh
  unfold SWideR at hh
  split at hh
  · rename_i rows
    split at hh
    · rename_i l hl
      split at hh
      · rename_i hin
        obtain ⟨hin, hlen⟩ := hin
        cases hh
        have h1 := parse_eq asOf_eq hl
        subst h1
        refine Runs.of_body Try.func63 (by decide) rfl (by simp [Try.f63]) ?_
        refine W.seqE (T0_ok _) mixed M_f63 (by kernel_rfl) ?_
        simp [Try.f63]
        refine W.seqE (T0_ok _) mixed M_f63 (by kernel_rfl) ?_
        simp [Try.f63]
        refine W.wk (Wk.adopt 3 4 101 (by omega) (by simp)) ?_
        refine W.cut True [(3, .own 0)] [.sl 4 101 (sRows (l.map wideS))] 30 ?_ ?_
        · refine W.seqE (T0_ok _) mixed M_f63 (by kernel_rfl) ?_
          simp [Try.f63]
          refine W.block (W.for (fun k => True) (fun k => [(0, .rd 2 (aRows l)), (3, .own 0), (4, .int .i64 k)]) (fun k => [.sl 4 101 (sRows ((l.take k).map wideS))]) 30 l.length trivial ?_ ?_)
          · simp [sRows, aRows]
          · intro k hk _
            refine W.of_WE (T0_ok _) mixed M_f63 _ (by kernel_rfl) ?_
            by_cases hlt : k < l.length
            · have hw1 : IntKind.i64.wrap ((k : Int) + 1) = k + 1 := wr_i64 (by omega) (by omega)
              obtain ⟨s1, s2, s3, s4⟩ := hin l[k] (List.getElem_mem hlt)
              have w1 : IntKind.u64.wrap l[k].a = l[k].a := wr_u64 s1 (by omega)
              have w2 : IntKind.u64.wrap l[k].b = l[k].b := wr_u64 s3 (by omega)
              have hsn := sRows_wide_snoc hlt
              have hlk : (sRows ((l.take k).map wideS)).length ≤ 1000000 := by rw [sRows_len]; simp; omega
              generalize sRows ((l.take k).map wideS) = R at *
              simp [hlt, AS.row, hw1, w1, w2]
              simp [SP.row, wideS] at hsn
              rw [hsn]
              exact ⟨by omega, by omega, rfl⟩
            · have : k = l.length := by omega
              subst this
              simp
        · intro _
          refine W.seqE (T0_ok _) mixed M_f63 (by kernel_rfl) ?_
          simp [Try.f63]
          refine W.wk (Wk.freeze 0 (.sl 4 101 (sRows (l.map wideS))) (by simp) (by simp)) ?_
          refine W.of_WE (T0_ok _) mixed M_f63 _ (by kernel_rfl) ?_
          simp [Try.f63]
      · cases hh
    · cases hh
  · cases hh
def SLists : List V → Option Res
  | [.agg [.rd 4 r4, .rd 4 r6, .rd 2 ra]] => match assOf ra with
    | some l => if (∀ s ∈ l, inAS s) ∧ l.length ≤ 1000000 then some ⟨.tup [.rd 1 [[.rd 4 r4], [.rd 4 r6], [.rd 4 (sRows (l.map wideS))]], .rd 1 famRows], []⟩ else none
    | none => none
  | _ => none
def M_f38 : Md := fun i => if i = 1 then some #[0, 1, 0, 4, 0, 16, 48, 127, 0, 255, 1023] else some #[]
@[simp] theorem M_f38_eq {i : Nat} : M_f38 i = (if i = 1 then some #[0, 1, 0, 4, 0, 16, 48, 127, 0, 255, 1023] else some #[]) := rfl
theorem runs_ref03_lists : ∀ args r, SLists args = some r → Runs Try.prog 38 args r := by
  intro args r hh
  unfold SLists at hh
  split at hh
  · rename_i r4 r6 ra
    split at hh
    · rename_i l hl
      split at hh
      · rename_i hin
        cases hh
        have hT : (T0.add 63 SWideR).ok Try.prog := Tab.add_ok (T0_ok _) runs_ref03_wide
        have hcv : SWideR [.rd 2 ra] = some ⟨.rd 4 (sRows (l.map wideS)), []⟩ := by
          simp only [SWideR, hl]; rw [if_pos hin]
        refine Runs.of_body Try.func38 (by decide) rfl (by simp [Try.f38]) ?_
        refine W.seqE hT mixed M_f38 (by kernel_rfl) ?_
        simp [Try.f38]
        refine W.seqE hT mixed M_f38 (by kernel_rfl) ?_
        simp [Try.f38, hcv]
        refine W.wk (Wk.freeze 80 (.sl 1 23 [[.rd 4 r4], [.rd 4 r6], [.rd 4 (sRows (l.map wideS))]]) (by simp) (by simp)) ?_
        refine W.wk (Wk.freeze 88 (.sl 1 5 famRows) (by simp [famRows]) (by simp [famRows])) ?_
        refine W.of_WE hT mixed M_f38 _ (by kernel_rfl) ?_
        simp [Try.f38, famRows]
      · cases hh
    · cases hh
  · cases hh

end Go.Proofs.Ytkcmgjagjbiinaa.AL
namespace Go.Proofs.Ytkcmgjagjbiinaa.AL
open Go
attribute [local simp] qf cv qbin ibin sbin qun retPost rvOk ctV ctPost marksOk retV resAll resOf V.lt ltL V.ren renL V.exp V.exp1 cleanL V.clean closedL V.closed V.cells V.one V.tree
  loadV cellsAt isNC nilQ isSlD isIfD slNew ownRows ownCells V.isOwn slStore srcO qlook mlook mget mstr zval qnone qmake mput lmap isAggD placesOf fillV putCells lstore bound seqParts V.sh shL Blk.sh newV V.ok peqs peq srcRows qbytes byteSl appOk mmV mmR hidE V.fz fzL Blk.fz fzOk and_assoc
attribute [-simp] Int.not_le Int.not_lt Nat.not_le Nat.not_lt
def SLists2 : List V → Option Res
  | [.agg [.rd 4 r4, .rd 4 r6, .nils]] => some ⟨.tup [.rd 1 [[.rd 4 r4], [.rd 4 r6], [.rd 4 []]], .rd 1 famRows], []⟩
  | x => SLists x
theorem runs_lists2 : ∀ args r, SLists2 args = some r → Runs Try.prog 38 args r := by
  intro args r hh
  unfold SLists2 at hh
  split at hh
  · rename_i r4 r6
    cases hh
    refine Runs.weak (args' := [.agg [.rd 4 r4, .rd 4 r6, .rd 2 []]]) ?_ (runs_ref03_lists _ _ (by simp [SLists, parseRows, sRows]))
    intro E vs h
    simp only [RL, R] at h ⊢
    obtain ⟨v, vs', rfl, ⟨ws, rfl, w1, ws1, rfl, g1, w2, ws2, rfl, g2, w3, ws3, rfl, g3, rfl⟩, rfl⟩ := h
    exact ⟨_, _, rfl, ⟨_, rfl, w1, _, rfl, g1, w2, _, rfl, g2, w3, _, rfl, by subst g3; exact ⟨none, 0, rfl, Nat.le_refl _, Nat.zero_le _, by simp⟩, rfl⟩, rfl⟩
  · exact runs_ref03_lists _ _ hh
def SGr3 : List V → Option Res
  | [.agg [.rd 4 r4, .rd 4 r6, .rd 2 ra]] => some ⟨.bool (grt r4.length || grt r6.length || grt ra.length), []⟩
  | _ => none
def M_f11 : Md := fun i => some #[]
@[simp] theorem M_f11_eq {i : Nat} : M_f11 i = (some #[]) := rfl
theorem runs_ref03_Great : ∀ args r, SGr3 args = some r → Runs Try.prog 11 args r := by
  intro args r hh
  unfold SGr3 at hh
  split at hh
  · rename_i r4 r6 ra
    cases hh
    have hT : (T0.add 38 SLists2).ok Try.prog := Tab.add_ok (T0_ok _) runs_lists2
    refine Runs.of_body Try.func11 (by decide) rfl (by simp [Try.f11]) ?_
    refine W.seqE hT mixed M_f11 (by kernel_rfl) ?_
    simp [Try.f11]
    refine W.seqE hT mixed M_f11 (by kernel_rfl) ?_
    simp [Try.f11, SLists2]
    refine W.cut (grt r4.length = false ∧ grt r6.length = false) [(1, .ptr 0 0)] [.box 26 [.rd 4 r4, .rd 4 r6, .rd 2 ra]] 57 ?_ ?_
    · refine W.seqE hT mixed M_f11 (by kernel_rfl) ?_
      simp [Try.f11]
      refine W.block (W.for (fun k => (0 < k → grt r4.length = false) ∧ (1 < k → grt r6.length = false)) (fun k => [(1, .ptr 0 0), (3, .rd 1 [[.rd 4 r4], [.rd 4 r6], [.rd 4 []]]), (5, .int .i64 k)])
        (fun k => [.box 26 [.rd 4 r4, .rd 4 r6, .rd 2 ra]]) 57 2 (by simp) ?_ ?_)
      · simp
      · intro k hk hJ
        refine W.of_WE hT mixed M_f11 _ (by kernel_rfl) ?_
        match k, hk, hJ with
        | 0, _, hJ =>
          by_cases a1 : (40 : Int) < r4.length
          · by_cases a2 : (r4.length : Int) ≤ 200
            · simp [a1, a2, grt_T1 a1 a2]
            · by_cases a3 : (400 : Int) < r4.length
              · simp [a1, a2, a3, grt_T2 a3]
              · simp [a1, a2, a3, grt_F2 a2 a3]; rfl
          · have a3 : ¬ (400 : Int) < r4.length := by omega
            simp [a1, a3, grt_F1 a1]; rfl
        | 1, _, hJ =>
          have h0 := hJ.1 (by omega)
          by_cases a1 : (40 : Int) < r6.length
          · by_cases a2 : (r6.length : Int) ≤ 200
            · simp [a1, a2, grt_T1 a1 a2, h0]
            · by_cases a3 : (400 : Int) < r6.length
              · simp [a1, a2, a3, grt_T2 a3, h0]
              · simp [a1, a2, a3, grt_F2 a2 a3, h0]; rfl
          · have a3 : ¬ (400 : Int) < r6.length := by omega
            simp [a1, a3, grt_F1 a1, h0]; rfl
        | 2, _, hJ => simp [hJ.1 (by omega), hJ.2 (by omega)]
    · rintro ⟨h4, h6⟩
      refine W.of_WE hT mixed M_f11 _ (by kernel_rfl) ?_
      by_cases a1 : (40 : Int) < ra.length
      · by_cases a2 : (ra.length : Int) ≤ 200
        · simp [Try.f11, a1, a2, grt_T1 a1 a2, h4, h6]
        · by_cases a3 : (400 : Int) < ra.length
          · simp [Try.f11, a1, a2, a3, grt_T2 a3, h4, h6]
          · simp [Try.f11, a1, a2, a3, grt_F2 a2 a3, h4, h6]
      · have a3 : ¬ (400 : Int) < ra.length := by omega
        simp [Try.f11, a1, a3, grt_F1 a1, h4, h6]
  · cases hh

end Go.Proofs.Ytkcmgjagjbiinaa.AL
namespace Go.Proofs.Ytkcmgjagjbiinaa.AL
open Go
attribute [local simp] qf cv qbin ibin sbin qun retPost rvOk ctV ctPost marksOk retV resAll resOf V.lt ltL V.ren renL V.exp V.exp1 cleanL V.clean closedL V.closed V.cells V.one V.tree
  loadV cellsAt isNC nilQ isSlD isIfD slNew ownRows ownCells V.isOwn slStore srcO qlook mlook mget mstr zval qnone qmake mput lmap isAggD placesOf fillV putCells lstore bound seqParts V.sh shL Blk.sh newV V.ok peqs peq srcRows qbytes byteSl appOk mmV mmR hidE V.fz fzL Blk.fz fzOk and_assoc
attribute [-simp] Int.not_le Int.not_lt Nat.not_le Nat.not_lt
def SGood1 : List V → Option Res
  | [.agg [.int .u64 h, .int .u64 l, .int .u64 h', .int .u64 l'], .rptr [.int .u8 f] 0] => some ⟨.bool (decide (chkS f h l h' l' ≠ 0)), []⟩
  | _ => none
theorem runs_good1 : ∀ args r, SGood1 args = some r → Runs Try.prog 100 args r := by
  intro args r hh
  unfold SGood1 at hh
  split at hh
  · rename_i h l h' l' f
    cases hh
    have hT : (T0.add 101 SChkS).ok Try.prog := Tab.add_ok (T0_ok _) runs_span_Check
    refine Runs.of_body Try.func100 (by decide) rfl (by simp [Try.f100]) ?_
    refine W.of_WE hT mixed M0 _ (by kernel_rfl) ?_
    simp [Try.f100, SChkS]
  · cases hh
def badS (f : Int) (s : SP) : Bool := decide (chkS f s.h s.l s.h' s.l' ≠ 0)
def goodL (f : Int) (l : List SP) : Bool := !l.any (badS f)
def badR (f : Int) (r : List V) : Bool := match spOf r with
  | some s => badS f s
  | none => false
theorem any_badR {f : Int} {l : List SP} : (sRows l).any (badR f) = l.any (badS f) := by
  unfold sRows
  rw [List.any_map]
  congr 1
def SGoodK : List V → Option Res
  | [.int .i64 k, .rd 4 rows] => match spsOf rows with
    | some l => if (k = 0 ∨ k = 1 ∨ k = 2) ∧ l.length ≤ 1000000 then some ⟨.bool (goodL (famK k.toNat) l), []⟩ else none
    | none => none
  | _ => none
theorem runs_good : ∀ args r, SGoodK args = some r → Runs Try.prog 85 args r := by
  intro args r hh
  unfold SGoodK at hh
  split at hh
  · rename_i k rows
    split at hh
    · rename_i l hl
      split at hh
      · rename_i hin
        obtain ⟨hk, hlen⟩ := hin
        cases hh
        have h1 := parse_eq spOf_eq hl
        subst h1
        have hcon : ∀ f : Int, Runs Try.prog 99 [.rd 4 (sRows l), .fn 100 [] [.rptr [.int .u8 f] 0]] ⟨.bool (l.any (badS f)), []⟩ := by
          intro f
          rw [← any_badR]
          refine runs_Con_set runs_good1 (by simp) (by simpa using hlen) (fun r hr => ?_)
          obtain ⟨s, hs, rfl⟩ := List.mem_map.1 hr
          exact ⟨rfl, rfl, rfl⟩
        have hT : ∀ f : Int, (T0.add 99 (oneS [.rd 4 (sRows l), .fn 100 [] [.rptr [.int .u8 f] 0]] ⟨.bool (l.any (badS f)), []⟩)).ok Try.prog := fun f => Tab.add_ok (T0_ok _) (oneS_ok (hcon f))
        refine Runs.of_body Try.func85 (by decide) rfl (by simp [Try.f85]) ?_
        refine W.seqE (T0_ok _) mixed M0 (by kernel_rfl) ?_
        simp [Try.f85]
        refine W.cut True [(1, .rd 4 (sRows l)), (5, .ptr 0 0)] [.box 5 [.int .u8 (famK k.toNat)]] 14 ?_ ?_
        · refine W.of_WE (T0_ok _) mixed M0 _ (by kernel_rfl) ?_
          rcases hk with rfl | rfl | rfl
          · simp [Try.f85, famK]; rfl
          · simp [Try.f85, famK]; rfl
          · simp [Try.f85, famK]; rfl
        · intro _
          refine W.wk (Wk.freeze 0 (.box 5 [.int .u8 (famK k.toNat)]) (by simp) (by simp)) ?_
          refine W.of_WE (hT (famK k.toNat)) mixed M0 _ (by kernel_rfl) ?_
          simp [Try.f85, oneS_self, goodL]
      · cases hh
    · cases hh
  · cases hh

end Go.Proofs.Ytkcmgjagjbiinaa.AL
namespace Go.Proofs.Ytkcmgjagjbiinaa.AL
open Go
attribute [local simp] qf cv qbin ibin sbin qun retPost rvOk ctV ctPost marksOk retV resAll resOf V.lt ltL V.ren renL V.exp V.exp1 cleanL V.clean closedL V.closed V.cells V.one V.tree
  loadV cellsAt isNC nilQ isSlD isIfD slNew ownRows ownCells V.isOwn slStore srcO qlook mlook mget mstr zval qnone qmake mput lmap isAggD placesOf fillV putCells lstore bound seqParts V.sh shL Blk.sh newV V.ok peqs peq srcRows qbytes byteSl appOk mmV mmR hidE V.fz fzL Blk.fz fzOk and_assoc
attribute [-simp] Int.not_le Int.not_lt Nat.not_le Nat.not_lt
def chkdR (r : RS) : Int := if 200 < r.l4.length ∨ 200 < r.l6.length ∨ 200 < r.la.length then 4 else if goodL 4 r.l4 = true ∧ goodL 6 r.l6 = true ∧ goodL 4 (r.la.map wideS) = true then 0 else 8
def SChkd : List V → Option Res
  | [.agg cs] => match rsOf cs with
    | some r => if inRS r ∧ lenRS 1000000 r then some ⟨.int .i64 (chkdR r), []⟩ else none
    | none => none
  | _ => none
theorem sets_at {r : RS} (hin : inRS r) (hlen : lenRS 1000000 r) : SSets [.agg r.cells] = some ⟨.agg [.rd 4 (sRows r.l4), .rd 4 (sRows r.l6), .rd 4 (sRows (r.la.map wideS))], []⟩ := by
  simp only [SSets, RS.cells, aRows_parse]
  rw [if_pos ⟨hin.2.2, hlen.2.2⟩]
theorem good_at {k : Nat} {l : List SP} (hk : k = 0 ∨ k = 1 ∨ k = 2) (hlen : l.length ≤ 1000000) : SGoodK [.int .i64 k, .rd 4 (sRows l)] = some ⟨.bool (goodL (famK k) l), []⟩ := by
  simp only [SGoodK, sRows_parse]
  rw [if_pos ⟨by omega, hlen⟩, Int.toNat_natCast]
theorem runs_checked : ∀ args r, SChkd args = some r → Runs Try.prog 65 args r := by
  intro args r hh
  unfold SChkd at hh
  split at hh
  · rename_i cs
    split at hh
    · rename_i r hr
      split at hh
      · rename_i hin
        obtain ⟨hin, hlen⟩ := hin
        cases hh
        have h1 := rsOf_eq hr
        subst h1
        have hs := sets_at hin hlen
        have hT : ((T0.add 58 SSets).add 85 SGoodK).ok Try.prog := Tab.add_ok (Tab.add_ok (T0_ok _) runs_resource_sets) runs_good
        refine Runs.of_body Try.func65 (by decide) rfl (by simp [Try.f65]) ?_
        refine W.seqE hT mixed M0 (by kernel_rfl) ?_
        simp [Try.f65, RS.cells]
        refine W.cut (¬ (200 < r.l4.length ∨ 200 < r.l6.length ∨ 200 < r.la.length)) [(1, .ptr 0 0)] [.box 26 r.cells] 27 ?_ ?_
        · refine W.of_WE hT mixed M0 _ (by kernel_rfl) ?_
          simp [Try.f65, RS.cells]
          have key : ∀ a b c : Nat, ((200 : Int) < if (if a < b then (b : Int) else (a : Int)) < (c : Int) then (c : Int) else if a < b then (b : Int) else (a : Int)) ↔ (200 < a ∨ 200 < b ∨ 200 < c) := by
            intro a b c
            by_cases c1 : a < b
            · simp only [c1, if_true]
              by_cases c2 : (b : Int) < c
              · simp only [c2, if_true]; omega
              · simp only [c2, if_false]; omega
            · simp only [c1, if_false]
              by_cases c2 : (a : Int) < c
              · simp only [c2, if_true]; omega
              · simp only [c2, if_false]; omega
          rw [key]
          refine ⟨fun h => by unfold chkdR; rw [if_pos h], fun h => by omega⟩
        · intro hm
          refine W.cut (goodL 4 r.l4 = true ∧ goodL 6 r.l6 = true ∧ goodL 4 (r.la.map wideS) = true) [] [] 27 ?_ ?_
          · refine W.seqE hT mixed M0 (by kernel_rfl) ?_
            simp only [RS.cells] at hs ⊢
            simp [Try.f65, hs]
            have g0 : SGoodK [.int .i64 0, .rd 4 (sRows r.l4)] = some ⟨.bool (goodL 4 r.l4), []⟩ := good_at (k := 0) (.inl rfl) hlen.1
            have g1 : SGoodK [.int .i64 1, .rd 4 (sRows r.l6)] = some ⟨.bool (goodL 6 r.l6), []⟩ := good_at (k := 1) (.inr (.inl rfl)) hlen.2.1
            have g2 : SGoodK [.int .i64 2, .rd 4 (sRows (r.la.map wideS))] = some ⟨.bool (goodL 4 (r.la.map wideS)), []⟩ := good_at (k := 2) (.inr (.inr rfl)) (by simpa using hlen.2.2)
            refine W.block (W.for (fun k => (0 < k → goodL 4 r.l4 = true) ∧ (1 < k → goodL 6 r.l6 = true) ∧ (2 < k → goodL 4 (r.la.map wideS) = true))
              (fun k => [(17, .agg [.rd 4 (sRows r.l4), .rd 4 (sRows r.l6), .rd 4 (sRows (r.la.map wideS))]), (18, .int .i64 k)]) (fun k => []) 27 3 (by simp) ?_ ?_)
            · simp
            · intro k hk hJ
              refine W.of_WE hT mixed M0 _ (by kernel_rfl) ?_
              match k, hk, hJ with
              | 0, _, hJ =>
                cases e : goodL 4 r.l4
                · rw [e] at g0
                  simp [g0, e, chkdR, hm]
                · rw [e] at g0
                  simp [g0, e]; rfl
              | 1, _, hJ =>
                have j0 := hJ.1 (by omega)
                cases e : goodL 6 r.l6
                · rw [e] at g1
                  simp [g1, e, chkdR, hm]
                · rw [e] at g1
                  simp [g1, e, j0]; rfl
              | 2, _, hJ =>
                have j0 := hJ.1 (by omega)
                have j1 := hJ.2.1 (by omega)
                cases e : goodL 4 (r.la.map wideS)
                · rw [e] at g2
                  simp [g2, e, chkdR, hm]
                · rw [e] at g2
                  simp [g2, e, j0, j1]; rfl
              | 3, _, hJ => simp [hJ.1, hJ.2.1, hJ.2.2]
          · rintro ⟨g0, g1, g2⟩
            refine W.of_WE hT mixed M0 _ (by kernel_rfl) ?_
            simp [Try.f65, chkdR, hm, g0, g1, g2]
      · cases hh
    · cases hh
  · cases hh

end Go.Proofs.Ytkcmgjagjbiinaa.AL
