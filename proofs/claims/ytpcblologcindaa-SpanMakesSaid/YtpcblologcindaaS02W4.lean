import Derived.Test.YtpcblologcindaaS02W3
import Derived.Test.YtpcblologcindaaS02W1
/- What single functions compute: a part of the proof; no conditions. -/
set_option linter.unusedVariables false
set_option linter.unusedSimpArgs false
set_option maxRecDepth 100000
namespace Go.Proofs.Ytpcblologcindaa.AL
open Go
attribute [local simp] qf cv qbin ibin sbin qun retPost rvOk ctV ctPost marksOk retV resAll resOf V.lt ltL V.ren renL V.exp cleanL V.clean closedL V.closed V.cells V.one V.tree
  loadV cellsAt isAggD placesOf fillV putCells lstore bound seqParts V.sh shL Blk.sh newV V.ok peqs peq srcRows appOk V.fz fzL Blk.fz fzOk and_assoc
attribute [-simp] Int.not_le Int.not_lt Nat.not_le Nat.not_lt
theorem ltge (a b : Int) : a < b ∨ b ≤ a := by omega
theorem nextA_num {f h l : Int} (hin : inA h l) (hc : cAddr f h l = true) :
    (numA (h, l) + 1 < 2 ^ widN f → ∃ x y, nextA f h l = (x, y, true) ∧ numA (x, y) = numA (h, l) + 1 ∧ inA x y) ∧ (2 ^ widN f ≤ numA (h, l) + 1 → nextA f h l = (0, 0, false)) := by
  obtain ⟨h0, h1, l0, l1⟩ := hin
  rcases cAddr_46 hc with rfl | rfl
  · obtain ⟨rfl, hl⟩ := cAddr_4 hc rfl
    have ew : (2 : Int) ^ widN 4 = 4294967296 := rfl
    have e1 : addR l 1 0 = (l + 1, 0) := by unfold addR; congr 1 <;> omega
    have e2 : addR 0 0 0 = (0, 0) := rfl
    have e3 : ∀ y : Int, cAddr 4 0 y = decide (y < 4294967296) := fun y => by simp [cAddr]
    unfold nextA
    simp only [e1, e2, hc, e3, numA, ew]
    refine ⟨fun hlt => ⟨0, l + 1, ?_, by omega, ?_⟩, fun hge => ?_⟩
    · rw [if_pos ⟨trivial, by simp; omega, by omega⟩]
    · unfold inA; omega
    · rw [if_neg]
      simp
      omega
  · have ew : (2 : Int) ^ widN 6 = 340282366920938463463374607431768211456 := rfl
    have e3 : ∀ x y : Int, cAddr 6 x y = true := fun x y => rfl
    unfold nextA addR
    simp only [e3, numA, ew, true_and]
    refine ⟨fun hlt => ⟨(h + 0 + (l + 1 + 0) / 18446744073709551616) % 18446744073709551616, (l + 1 + 0) % 18446744073709551616, ?_, by omega, ?_⟩, fun hge => ?_⟩
    · rw [if_pos (by omega)]
    · unfold inA; omega
    · rw [if_neg (by omega)]
theorem prevA_num {h l : Int} (hin : inA h l) : (0 < numA (h, l) → ∃ x y, prevA h l = (x, y, true) ∧ numA (x, y) = numA (h, l) - 1 ∧ inA x y) ∧ (numA (h, l) = 0 → prevA h l = (0, 0, false)) := by
  obtain ⟨h0, h1, l0, l1⟩ := hin
  unfold prevA subR numA
  simp only
  refine ⟨fun hlt => ?_, fun hz => ?_⟩
  · by_cases hl : l = 0
    · refine ⟨h - 1, 18446744073709551615, ?_, by omega, by unfold inA; omega⟩
      subst hl
      rw [if_pos (show (0 : Int) < 1 + 0 by omega), if_neg (show ¬ (if h < 0 + 1 then (1 : Int) else 0) = 1 by split <;> omega)]
      congr 1
      · omega
    · refine ⟨h, l - 1, ?_, by omega, by unfold inA; omega⟩
      rw [if_neg (show ¬ l < 1 + 0 by omega), if_neg (show ¬ (if h < 0 + 0 then (1 : Int) else 0) = 1 by split <;> omega)]
      congr 1
      · omega
      · congr 1; omega
  · have : h = 0 := by omega
    have : l = 0 := by omega
    subst h l
    rfl
theorem adrOf_all {N : Int} {w : Nat} (hw : w ≤ 128) (hN : 0 ≤ N) (hN' : N < 2 ^ w) : numA (adrOf ((List.range w).map fun i => N / 2 ^ (w - 1 - i) % 2)) = N := by
  have h := adrOf_bits N w w hw (Nat.le_refl _) hN hN' w (Nat.le_refl _)
  rw [if_pos (Nat.le_refl _), Nat.sub_self] at h
  have e : ((List.range w).map fun i => N / 2 ^ (w - 1 - i) % 2) = (List.range w).map fun i => if i < w then N / 2 ^ (w - 1 - i) % 2 else 0 := by
    apply List.map_congr_left
    intro i hi
    rw [if_pos (List.mem_range.1 hi)]
  rw [e, h]
  simp
theorem bits_rng (w : Nat) (f : Nat → Int) (h : ∀ i, i < w → f i = 0 ∨ f i = 1) : inA (adrOf ((List.range w).map f)).1 (adrOf ((List.range w).map f)).2 := by
  have := adrOf_bd ((List.range w).map f) (by
      intro b hb
      simp only [List.mem_map, List.mem_range] at hb
      obtain ⟨i, hi, rfl⟩ := hb
      exact h i hi) (0, 0) (by simp)
  exact this
theorem next_some {f h l : Int} {k : Nat} (hin : inA h l) (hc : cAddr f h l = true) (hk : k < widN f) (h1 : ∀ m, m < k → bt h l m = 1) (h0 : bt h l k = 0) :
    nextA f h l = ((adrOf ((List.range (widN f)).map fun i => if widN f - 1 - i < k then 0 else if widN f - 1 - i = k then 1 else bt h l (widN f - 1 - i))).1,
      (adrOf ((List.range (widN f)).map fun i => if widN f - 1 - i < k then 0 else if widN f - 1 - i = k then 1 else bt h l (widN f - 1 - i))).2, true) := by
  have hn := numA_lt hin hc
  have hnx := (nextA_num hin hc).1
  have l0 := hin.2.2.1
  have l1 := hin.2.2.2
  simp only [bt_num l0 l1] at h1 h0 ⊢
  have hs := succ_bits h1 h0
  have hlt : numA (h, l) + 1 < 2 ^ widN f := by
    rcases ltge (numA (h, l) + 1) (2 ^ widN f) with hh | hh
    · exact hh
    · exfalso
      have e : numA (h, l) + 1 = 1 * 2 ^ widN f := by omega
      have := hs k
      rw [e, mul_bit_lt hk] at this
      simp at this
  obtain ⟨x, y, e, hxy, hxy'⟩ := hnx hlt
  simp only [← hs]
  have ha := adrOf_all (w := widN f) (widN_le f) (N := numA (h, l) + 1) (by omega) hlt
  have hr := bits_rng (widN f) (fun i => (numA (h, l) + 1) / 2 ^ (widN f - 1 - i) % 2) (fun i _ => by omega)
  have := numA_inj (p := (x, y)) (q := adrOf ((List.range (widN f)).map fun i => (numA (h, l) + 1) / 2 ^ (widN f - 1 - i) % 2)) hxy'.2.2 hr.2.2 (by rw [hxy, ha])
  rw [e, ← this]
theorem next_none {f h l : Int} (hin : inA h l) (hc : cAddr f h l = true) (h1 : ∀ m, m < widN f → bt h l m = 1) : nextA f h l = (0, 0, false) := by
  have hn := numA_lt hin hc
  refine (nextA_num hin hc).2 ?_
  have l0 := hin.2.2.1
  have l1 := hin.2.2.2
  simp only [bt_num l0 l1] at h1
  obtain ⟨q, hq⟩ := ones_mul _ h1
  have hp := ipow_pos (widN f)
  have : 0 < q := by
    rcases ltge 0 q with h | h
    · exact h
    · have : q * 2 ^ widN f ≤ 0 := Int.mul_nonpos_of_nonpos_of_nonneg h (by omega)
      omega
  have : 1 * 2 ^ widN f ≤ q * 2 ^ widN f := Int.mul_le_mul_of_nonneg_right (by omega) (by omega)
  omega
theorem prev_some {h l : Int} {k : Nat} (hin : inA h l) (hk : k < 128) (h1 : ∀ m, m < k → bt h l m = 0) (h0 : bt h l k = 1) :
    prevA h l = ((adrOf ((List.range 128).map fun i => if 127 - i < k then 1 else if 127 - i = k then 0 else bt h l (127 - i))).1,
      (adrOf ((List.range 128).map fun i => if 127 - i < k then 1 else if 127 - i = k then 0 else bt h l (127 - i))).2, true) := by
  have hn := numA_lt (f := 6) hin rfl
  have hpv := (prevA_num hin).1
  have l0 := hin.2.2.1
  have l1 := hin.2.2.2
  simp only [bt_num l0 l1] at h1 h0 ⊢
  have hs := pred_bits h1 h0
  have hlt : 0 < numA (h, l) := by
    rcases ltge 0 (numA (h, l)) with hh | hh
    · exact hh
    · exfalso
      have e : numA (h, l) = 0 := by omega
      rw [e] at h0
      simp at h0
  obtain ⟨x, y, e, hxy, hxy'⟩ := hpv hlt
  simp only [← hs]
  have ha := adrOf_all (w := 128) (by omega) (N := numA (h, l) - 1) (by omega) (by have : (2 : Int) ^ widN 6 = 2 ^ 128 := rfl; omega)
  have hr := bits_rng 128 (fun i => (numA (h, l) - 1) / 2 ^ (127 - i) % 2) (fun i _ => by omega)
  have := numA_inj (p := (x, y)) (q := adrOf ((List.range 128).map fun i => (numA (h, l) - 1) / 2 ^ (127 - i) % 2)) hxy'.2.2 hr.2.2 (by rw [hxy]; exact ha.symm)
  rw [e, ← this]
theorem prev_none {h l : Int} (hin : inA h l) (h1 : ∀ m, m < 128 → bt h l m = 0) : prevA h l = (0, 0, false) := by
  have hn := numA_lt (f := 6) hin rfl
  refine (prevA_num hin).2 ?_
  have l0 := hin.2.2.1
  have l1 := hin.2.2.2
  simp only [bt_num l0 l1] at h1
  obtain ⟨q, hq⟩ := zeros_mul 128 h1
  have e : (2 : Int) ^ widN 6 = 2 ^ 128 := rfl
  rw [e] at hn
  have hp := ipow_pos 128
  have h2 : q < 1 := by
    rcases ltge q 1 with h | h
    · exact h
    · have : 1 * 2 ^ 128 ≤ q * 2 ^ 128 := Int.mul_le_mul_of_nonneg_right h (by omega)
      omega
  have h3 : 0 ≤ q := by
    rcases ltge q 0 with h | h
    · have : q * 2 ^ 128 ≤ (-1) * 2 ^ 128 := Int.mul_le_mul_of_nonneg_right (by omega) (by omega)
      omega
    · exact h
  rw [hq, show q = 0 by omega]
  simp

end Go.Proofs.Ytpcblologcindaa.AL
namespace Go.Proofs.Ytpcblologcindaa.AL
open Go
attribute [local simp] qf cv qbin ibin sbin qun retPost rvOk ctV ctPost marksOk retV resAll resOf V.lt ltL V.ren renL V.exp cleanL V.clean closedL V.closed V.cells V.one V.tree
  loadV cellsAt isAggD placesOf fillV putCells lstore bound seqParts V.sh shL Blk.sh newV V.ok peqs peq srcRows appOk V.fz fzL Blk.fz fzOk and_assoc
attribute [-simp] Int.not_le Int.not_lt Nat.not_le Nat.not_lt
theorem runs_ref02_Next : ∀ args r, SNext args = some r → Runs Try.prog 25 args r := by
  intro args r hh
  unfold SNext at hh
  split at hh
  · rename_i f h l
    split at hh
    · rename_i hin
      cases hh
      have hT : (((T0.add 12 SAddr).add 32 SBits).add 35 SAdr).ok Try.prog := Tab.add_ok (Tab.add_ok (Tab.add_ok (T0_ok _) runs_ref01_CheckAddr) runs_ref01_Bits) runs_ref01_Addr
      refine Runs.of_body Try.func25 (by decide) rfl (by simp [Try.f25]) ?_
      refine W.seqE hT mixed M0 (by kernel_rfl) ?_
      simp [Try.f25]
      refine W.seqE hT mixed M0 (by kernel_rfl) ?_
      cases hc : cAddr f h l
      · simp [Try.f25, SAddr, hc, nextA]
      · simp [Try.f25, SAddr, hc]
        refine W.seqE hT mixed M0 (by kernel_rfl) ?_
        simp [Try.f25, SBits, hin]
        have hw := widN_le f
        refine W.cut (∀ m, m < widN f → bt h l m = 1) [(4, .ptr 0 0)] [.box 24 [.int .u64 0, .int .u64 0]] 37 ?_ ?_
        · refine W.seqE hT mixed M0 (by kernel_rfl) ?_
          simp [Try.f25]
          rw [wr_i64 (by omega) (by omega)]
          refine W.block (W.for (fun k => ∀ m, m < k → bt h l m = 1) (fun k => [(4, .ptr 0 0), (5, .bool false), (6, .own 1), (7, .int .i64 ((widN f : Int) - 1 - k))])
            (fun k => [.box 24 [.int .u64 0, .int .u64 0], .sl 1 3 (rg (widN f) fun i => if widN f - 1 - i < k then 0 else bt h l (widN f - 1 - i))]) 37 (widN f) (fun m hm => absurd hm (by omega)) ?_ ?_)
          · simp
          · intro k hk hJ
            refine W.of_WE hT mixed M0 _ (by kernel_rfl) ?_
            by_cases hlt : k < widN f
            · have e : (widN f : Int) - 1 - k = ((widN f - 1 - k : Nat) : Int) := by omega
              have e2 : widN f - 1 - (widN f - 1 - k) = k := by omega
              have e3 : IntKind.i64.wrap (((widN f - 1 - k : Nat) : Int) - 1) = (widN f : Int) - 1 - ((k : Int) + 1) := by rw [wr_i64 (by omega) (by omega)]; omega
              rw [e]
              by_cases h0 : bt h l k = 0
              · have hA := SAdr_rg (w := widN f) (f := fun i => if widN f - 1 - i < k then 0 else if widN f - 1 - i = k then 1 else bt h l (widN f - 1 - i)) (by omega) (by intro i _; split; simp; split; simp; exact bt_01 ..)
                have hset : (rg (widN f) fun i => if widN f - 1 - i < k then 0 else bt h l (widN f - 1 - i)).set (widN f - 1 - k) [.int .i64 1] = rg (widN f) fun i => if widN f - 1 - i < k then 0 else if widN f - 1 - i = k then 1 else bt h l (widN f - 1 - i) := by
                  rw [rg_set]
                  refine rg_congr fun i hi => ?_
                  by_cases g : i = widN f - 1 - k
                  · rw [if_pos g, if_neg (by omega), if_pos (by omega)]
                  · rw [if_neg g]
                    by_cases g2 : widN f - 1 - i < k
                    · rw [if_pos g2, if_pos g2]
                    · rw [if_neg g2, if_neg g2, if_neg (by omega)]
                have hnx := next_some hin hc hlt hJ h0
                simp [show widN f - 1 - k < widN f by omega, e2, h0, hset, hA, hnx]
              · have h1 : bt h l k = 1 := by have := bt_01 h l k; omega
                have hset : (rg (widN f) fun i => if widN f - 1 - i < k then 0 else bt h l (widN f - 1 - i)).set (widN f - 1 - k) [.int .i64 0] = rg (widN f) fun i => if widN f - 1 - i < k + 1 then 0 else bt h l (widN f - 1 - i) := by
                  rw [rg_set]
                  refine rg_congr fun i hi => ?_
                  by_cases g : i = widN f - 1 - k
                  · rw [if_pos g, if_pos (by omega)]
                  · rw [if_neg g]
                    by_cases g2 : widN f - 1 - i < k
                    · rw [if_pos g2, if_pos (by omega)]
                    · rw [if_neg g2, if_neg (by omega)]
                simp [show widN f - 1 - k < widN f by omega, e2, h0, hset, e3, hlt]
                intro m hm
                rcases Nat.lt_or_ge m k with g | g
                · exact hJ m g
                · rwa [show m = k by omega]
            · have hk' : k = widN f := by omega
              subst hk'
              have e : ((widN f : Int) - 1 - (widN f : Int)) = -1 := by omega
              rw [e]
              simp
              exact hJ
        · intro hall
          refine W.of_WE hT mixed M0 _ (by kernel_rfl) ?_
          have := next_none hin hc hall
          simp [Try.f25, this]
    · cases hh
  · cases hh
theorem SBits6 {h l : Int} (hin : inA h l) : SBits [.int .u8 6, .agg [.int .u64 h, .int .u64 l]] = some ⟨.own 0, [.sl 1 3 (rg 128 fun i => bt h l (127 - i))]⟩ := by
  simp only [SBits, if_pos hin]
  rfl
theorem runs_ref02_Prev : ∀ args r, SPrev args = some r → Runs Try.prog 27 args r := by
  intro args r hh
  unfold SPrev at hh
  split at hh
  · rename_i h l
    split at hh
    · rename_i hin
      cases hh
      have hT : ((T0.add 32 SBits).add 35 SAdr).ok Try.prog := Tab.add_ok (Tab.add_ok (T0_ok _) runs_ref01_Bits) runs_ref01_Addr
      refine Runs.of_body Try.func27 (by decide) rfl (by simp [Try.f27]) ?_
      refine W.seqE hT mixed M0 (by kernel_rfl) ?_
      simp [Try.f27]
      refine W.seqE hT mixed M0 (by kernel_rfl) ?_
      simp [Try.f27, SBits6 hin]
      refine W.cut (∀ m, m < 128 → bt h l m = 0) [(2, .ptr 0 0)] [.box 24 [.int .u64 0, .int .u64 0]] 29 ?_ ?_
      · refine W.seqE hT mixed M0 (by kernel_rfl) ?_
        simp [Try.f27]
        rw [show IntKind.i64.wrap 127 = 127 from rfl]
        refine W.block (W.for (fun k => ∀ m, m < k → bt h l m = 0) (fun k => [(2, .ptr 0 0), (3, .bool false), (4, .own 1), (5, .int .i64 (127 - k))])
          (fun k => [.box 24 [.int .u64 0, .int .u64 0], .sl 1 3 (rg 128 fun i => if 127 - i < k then 1 else bt h l (127 - i))]) 29 128 (fun m hm => absurd hm (by omega)) ?_ ?_)
        · simp
        · intro k hk hJ
          refine W.of_WE hT mixed M0 _ (by kernel_rfl) ?_
          by_cases hlt : k < 128
          · have e : (127 : Int) - k = ((127 - k : Nat) : Int) := by omega
            have e2 : 127 - (127 - k) = k := by omega
            have e3 : IntKind.i64.wrap (((127 - k : Nat) : Int) - 1) = 127 - ((k : Int) + 1) := by rw [wr_i64 (by omega) (by omega)]; omega
            rw [e]
            by_cases h0 : bt h l k = 1
            · have hA := SAdr_rg (w := 128) (f := fun i => if 127 - i < k then 1 else if 127 - i = k then 0 else bt h l (127 - i)) (by omega) (by intro i _; split; simp; split; simp; exact bt_01 ..)
              have hset : (rg 128 fun i => if 127 - i < k then 1 else bt h l (127 - i)).set (127 - k) [.int .i64 0] = rg 128 fun i => if 127 - i < k then 1 else if 127 - i = k then 0 else bt h l (127 - i) := by
                rw [rg_set]
                refine rg_congr fun i hi => ?_
                by_cases g : i = 127 - k
                · rw [if_pos g, if_neg (by omega), if_pos (by omega)]
                · rw [if_neg g]
                  by_cases g2 : 127 - i < k
                  · rw [if_pos g2, if_pos g2]
                  · rw [if_neg g2, if_neg g2, if_neg (by omega)]
              have hnx := prev_some hin hlt hJ h0
              simp [show 127 - k < 128 by omega, e2, h0, hset, hA, hnx]
              omega
            · have h1 : bt h l k = 0 := by have := bt_01 h l k; omega
              have hset : (rg 128 fun i => if 127 - i < k then 1 else bt h l (127 - i)).set (127 - k) [.int .i64 1] = rg 128 fun i => if 127 - i < k + 1 then 1 else bt h l (127 - i) := by
                rw [rg_set]
                refine rg_congr fun i hi => ?_
                by_cases g : i = 127 - k
                · rw [if_pos g, if_pos (by omega)]
                · rw [if_neg g]
                  by_cases g2 : 127 - i < k
                  · rw [if_pos g2, if_pos (by omega)]
                  · rw [if_neg g2, if_neg (by omega)]
              simp [show 127 - k < 128 by omega, e2, h0, hset, e3, hlt]
              refine ⟨by omega, fun m hm => ?_⟩
              rcases Nat.lt_or_ge m k with g | g
              · exact hJ m g
              · rwa [show m = k by omega]
          · have hk' : k = 128 := by omega
            subst hk'
            simp
            exact hJ
      · intro hall
        refine W.of_WE hT mixed M0 _ (by kernel_rfl) ?_
        have := prev_none hin hall
        simp [Try.f27, this]
    · cases hh
  · cases hh

end Go.Proofs.Ytpcblologcindaa.AL
namespace Go.Proofs.Ytpcblologcindaa.AL
open Go
attribute [local simp] qf cv qbin ibin sbin qun retPost rvOk ctV ctPost marksOk retV resAll resOf V.lt ltL V.ren renL V.exp cleanL V.clean closedL V.closed V.cells V.one V.tree
  loadV cellsAt isAggD placesOf fillV putCells lstore bound seqParts V.sh shL Blk.sh newV V.ok peqs peq srcRows appOk V.fz fzL Blk.fz fzOk and_assoc
attribute [-simp] Int.not_le Int.not_lt Nat.not_le Nat.not_lt
/-- One half of a prefix: its address with bit n (from the highest) set so. -/
def halfA (f h l : Int) (n : Nat) (b : Int) : Int × Int := adrOf ((List.range (widN f)).map fun i => if i = n then b else bt h l (widN f - 1 - i))
def SHalf : List V → Option Res
  | [.agg [.int .u8 f, .int .u64 h, .int .u64 l, .int .i64 n], .int .i64 b] => if inA h l ∧ 0 ≤ n ∧ n < widN f ∧ (b = 0 ∨ b = 1) then
      some ⟨.agg [.int .u8 f, .int .u64 (halfA f h l n.toNat b).1, .int .u64 (halfA f h l n.toNat b).2, .int .i64 (n + 1)], []⟩ else none
  | _ => none
def M_f50 : Md := fun i => if i = 3 then some #[0, 1, 0, 4, 0, 16, 48, 127, 255] else some #[]
@[simp] theorem M_f50_eq {i : Nat} : M_f50 i = (if i = 3 then some #[0, 1, 0, 4, 0, 16, 48, 127, 255] else some #[]) := rfl
theorem runs_ref02_half : ∀ args r, SHalf args = some r → Runs Try.prog 50 args r := by
  intro args r hh
  unfold SHalf at hh
  split at hh
  · rename_i f h l n b
    split at hh
    · rename_i hin
      cases hh
      obtain ⟨hin, hn0, hn1, hb⟩ := hin
      obtain ⟨j, rfl⟩ : ∃ j : Nat, n = j := ⟨n.toNat, by omega⟩
      have hw := widN_le f
      have hT : ((T0.add 32 SBits).add 35 SAdr).ok Try.prog := Tab.add_ok (Tab.add_ok (T0_ok _) runs_ref01_Bits) runs_ref01_Addr
      have hA := SAdr_rg (w := widN f) (f := fun i => if i = j then b else bt h l (widN f - 1 - i)) (by omega) (by intro i _; split; exact hb; exact bt_01 ..)
      have hw1 : IntKind.i64.wrap ((j : Int) + 1) = j + 1 := wr_i64 (by omega) (by omega)
      refine Runs.of_body Try.func50 (by decide) rfl (by simp [Try.f50]) ?_
      refine W.of_WE hT mixed M_f50 _ (by kernel_rfl) ?_
      simp [Try.f50, SBits, hin, show j < widN f by omega, rg_set, hA, hw1, halfA]
    · cases hh
  · cases hh
/-- Rows of prefixes. -/
structure PF where
  f : Int
  h : Int
  l : Int
  n : Int
  deriving DecidableEq
def PF.row (a : PF) : List V := [.int .u8 a.f, .int .u64 a.h, .int .u64 a.l, .int .i64 a.n]
def pfOf : List V → Option PF
  | [.int .u8 f, .int .u64 h, .int .u64 l, .int .i64 n] => some ⟨f, h, l, n⟩
  | _ => none
theorem pfOf_row (a : PF) : pfOf a.row = some a := rfl
theorem pfOf_eq {r : List V} {a : PF} (h : pfOf r = some a) : r = a.row := by
  unfold pfOf at h
  split at h
  · cases h; rfl
  · cases h
def pfsOf : List (List V) → Option (List PF)
  | [] => some []
  | r :: rows => match pfOf r, pfsOf rows with
    | some a, some l => some (a :: l)
    | _, _ => none
theorem pfsOf_map (l : List PF) : pfsOf (l.map PF.row) = some l := by
  induction l with
  | nil => rfl
  | cons x l ih => simp [pfsOf, ih, pfOf_row]
theorem pfsOf_eq : ∀ {rows : List (List V)} {l : List PF}, pfsOf rows = some l → rows = l.map PF.row
  | [], l, h => by simp [pfsOf] at h; subst h; rfl
  | r :: rows, l, h => by
    unfold pfsOf at h
    split at h
    · rename_i a l' h1 h2
      cases h
      rw [pfOf_eq h1, pfsOf_eq h2]; rfl
    · cases h
def SSameP : List V → Option Res
  | [.rd 4 r1, .rd 4 r2] => match pfsOf r1, pfsOf r2 with
    | some a, some b => if a.length ≤ 1000000 ∧ b.length ≤ 1000000 then some ⟨.bool (decide (a = b)), []⟩ else none
    | _, _ => none
  | _ => none
def M_f23 : Md := fun i => if i = 6 then some #[0, 0, 3, 7, 0, 0, 48, 112, 255] else some #[]
@[simp] theorem M_f23_eq {i : Nat} : M_f23 i = (if i = 6 then some #[0, 0, 3, 7, 0, 0, 48, 112, 255] else some #[]) := rfl
theorem runs_ref02_SamePrefixes : ∀ args r, SSameP args = some r → Runs Try.prog 23 args r := by
  intro args r hh
  unfold SSameP at hh
  split at hh
  · rename_i r1 r2
    split at hh
    · rename_i a b ha hb
      split at hh
      · rename_i hin
        cases hh
        have h1 := pfsOf_eq ha
        have h2 := pfsOf_eq hb
        subst h1 h2
        refine Runs.of_body Try.func23 (by decide) rfl (by simp [Try.f23]) ?_
        refine W.seqE (T0_ok _) mixed M_f23 (by kernel_rfl) ?_
        simp [Try.f23]
        refine W.seqE (T0_ok _) mixed M_f23 (by kernel_rfl) ?_
        by_cases hlen : a.length = b.length
        · simp [Try.f23, hlen]
          refine W.cut (a = b) [] [] 26 ?_ ?_
          · refine W.seqE (T0_ok _) mixed M_f23 (by kernel_rfl) ?_
            simp [Try.f23]
            refine W.block (W.for (fun k => a.take k = b.take k) (fun k => [(0, .rd 4 (a.map PF.row)), (1, .rd 4 (b.map PF.row)), (5, .int .i64 k)]) (fun k => []) 26 a.length (by simp) ?_ ?_)
            · simp
            · intro k hk hJ
              refine W.of_WE (T0_ok _) mixed M_f23 _ (by kernel_rfl) ?_
              by_cases hlt : k < a.length
              · have hlb : k < b.length := by omega
                have hw1 : IntKind.i64.wrap ((k : Int) + 1) = k + 1 := wr_i64 (by omega) (by omega)
                by_cases he : a[k] = b[k]
                · simp [hlt, hlb, PF.row, he, hw1]
                  rw [take_snoc' a k hlt, take_snoc' b k hlb, hJ, he]
                · have hne : ¬ a = b := fun e => he (by subst e; rfl)
                  have hf : ¬ ((a[k].f = b[k].f ∧ a[k].h = b[k].h) ∧ a[k].l = b[k].l ∧ a[k].n = b[k].n) := by
                    rintro ⟨⟨g1, g2⟩, g3, g4⟩
                    exact he (by cases ea : a[k]; cases eb : b[k]; simp_all)
                  simp [hlt, hlb, PF.row, hw1]
                  refine ⟨fun _ => hne, fun g1 g2 g3 g4 => absurd ⟨⟨g1, g2⟩, g3, g4⟩ hf⟩
              · have : k = a.length := by omega
                subst this
                simp
                rw [List.take_length, hlen, List.take_length] at hJ
                exact hJ
          · intro he
            refine W.of_WE (T0_ok _) mixed M_f23 _ (by kernel_rfl) ?_
            simp [Try.f23, he]
        · have hne : ¬ a = b := fun e => hlen (by rw [e])
          simp [Try.f23, hne, show ¬ ((a.length : Int) = b.length) by omega]
      · cases hh
    · cases hh
  · cases hh

end Go.Proofs.Ytpcblologcindaa.AL
namespace Go.Proofs.Ytpcblologcindaa.AL
open Go
attribute [local simp] qf cv qbin ibin sbin qun retPost rvOk ctV ctPost marksOk retV resAll resOf V.lt ltL V.ren renL V.exp cleanL V.clean closedL V.closed V.cells V.one V.tree
  loadV cellsAt isAggD placesOf fillV putCells lstore bound seqParts V.sh shL Blk.sh newV V.ok peqs peq srcRows appOk V.fz fzL Blk.fz fzOk and_assoc
attribute [-simp] Int.not_le Int.not_lt Nat.not_le Nat.not_lt
/-- Does the prefix of n bits that begins the span lie in it? -/
def okF (f h l h' l' : Int) (n : Nat) : Bool := decide (cutA h l (widN f - n) = (h, l)) && decide (cmpA (lastA h l (widN f - n)).1 (lastA h l (widN f - n)).2 h' l' ≤ 0)
def fstN (f h l h' l' : Int) : Nat := ((List.range (widN f)).find? fun n => okF f h l h' l' n).getD (widN f)
theorem fstN_eq {f h l h' l' : Int} {k : Nat} (hk : k ≤ widN f) (h1 : ∀ i, i < k → okF f h l h' l' i = false) (h2 : okF f h l h' l' k = true) : fstN f h l h' l' = k := by
  unfold fstN
  rcases Nat.lt_or_ge k (widN f) with hlt | hge
  · have : (List.range (widN f)).find? (fun n => okF f h l h' l' n) = some k := by
      rw [List.find?_range_eq_some]
      exact ⟨h2, by simpa using hlt, fun i hi => by simp [h1 i hi]⟩
    rw [this]; rfl
  · have e : k = widN f := by omega
    have : (List.range (widN f)).find? (fun n => okF f h l h' l' n) = none := by
      rw [List.find?_eq_none]
      intro i hi
      rw [List.mem_range] at hi
      simp [h1 i (by omega)]
    rw [this, e]; rfl
theorem cut0 {h l : Int} : cutA h l 0 = (h, l) := by unfold cutA; simp
theorem last0 {h l : Int} : lastA h l 0 = (h, l) := by unfold lastA; simp
theorem okF_w {f h l h' l' : Int} (hc : cmpA h l h' l' ≤ 0) : okF f h l h' l' (widN f) = true := by
  unfold okF
  rw [Nat.sub_self, cut0, last0]
  simp [hc]
def SFirst : List V → Option Res
  | [.agg [.int .u8 f, .int .u64 h, .int .u64 l, .int .u64 h', .int .u64 l']] => if inA h l ∧ inA h' l' ∧ chkS f h l h' l' = 0 then some ⟨.agg [.int .u8 f, .int .u64 h, .int .u64 l, .int .i64 (fstN f h l h' l')], []⟩ else none
  | _ => none
theorem chkS_zero {f h l h' l' : Int} (h0 : chkS f h l h' l' = 0) : cAddr f h l = true ∧ cAddr f h' l' = true ∧ cmpA h l h' l' ≤ 0 := by
  unfold chkS at h0
  split at h0
  · omega
  · split at h0
    · assumption
    · omega
def M_f48 : Md := fun i => if i = 4 then some #[0, 1, 0, 4, 12, 31, 63, 127, 255, 127, 639, 1663, 4095, 8191, 16383] else some #[]
@[simp] theorem M_f48_eq {i : Nat} : M_f48 i = (if i = 4 then some #[0, 1, 0, 4, 12, 31, 63, 127, 255, 127, 639, 1663, 4095, 8191, 16383] else some #[]) := rfl
theorem runs_span_walk_first : ∀ args r, SFirst args = some r → Runs Try.prog 48 args r := by
  intro args r hh
  unfold SFirst at hh
  split at hh
  · rename_i f h l h' l'
    split at hh
    · rename_i hin
      cases hh
      obtain ⟨hin, hin', hchk⟩ := hin
      obtain ⟨hc, hc', hle⟩ := chkS_zero hchk
      have hw := widN_le f
      have hT : (((T0.add 7 SCut).add 38 SLast).add 13 SCompare).ok Try.prog := Tab.add_ok (Tab.add_ok (Tab.add_ok (T0_ok _) runs_number_Cut) runs_span_last) runs_number_Compare
      refine Runs.of_body Try.func48 (by decide) rfl (by simp [Try.f48]) ?_
      refine W.seqE hT mixed M_f48 (by kernel_rfl) ?_
      simp [Try.f48]
      refine W.seqE hT mixed M_f48 (by kernel_rfl) ?_
      simp [Try.f48]
      refine W.block (W.for (fun k => ∀ i, i < k → okF f h l h' l' i = false) (fun k => [(1, .ptr 0 0), (2, .ptr 1 0), (3, .int .i64 k)])
        (fun k => [.box 74 [.int .u8 f, .int .u64 h, .int .u64 l, .int .u64 h', .int .u64 l'], .box 26 [.int .u8 0, .int .u64 0, .int .u64 0, .int .i64 0]]) 34 (widN f) (fun i hi => absurd hi (by omega)) ?_ ?_)
      · simp
      · intro k hk hJ
        have hcut : SCut [.int .u8 f, .agg [.int .u64 h, .int .u64 l], .int .i64 k] = some ⟨.tup [.agg [.int .u8 f, .int .u64 (cutA h l (widN f - k)).1, .int .u64 (cutA h l (widN f - k)).2, .int .i64 k], .int .i64 0], []⟩ := by
          simp only [SCut]
          rw [if_pos hin, if_pos ⟨hc, by omega, by omega⟩]
          rfl
        have hw1 : IntKind.i64.wrap ((k : Int) + 1) = k + 1 := wr_i64 (by omega) (by omega)
        have hlast : SLast [.agg [.int .u8 f, .int .u64 h, .int .u64 l, .int .i64 k]] = some ⟨.agg [.int .u64 (lastA h l (widN f - k)).1, .int .u64 (lastA h l (widN f - k)).2], []⟩ := by
          simp only [SLast, kw_wid hc]
          rw [if_pos ⟨hin, by omega, by omega⟩]
          rfl
        refine W.of_WE hT mixed M_f48 _ (by kernel_rfl) ?_
        by_cases c1 : cutA h l (widN f - k) = (h, l)
        · rw [c1] at hcut
          by_cases c2 : cmpA (lastA h l (widN f - k)).1 (lastA h l (widN f - k)).2 h' l' ≤ 0
          · have := fstN_eq hk hJ (by simp [okF, c1, c2])
            simp [Try.f48, hcut, hlast, SCompare, c2, this]
          · have hlt : k < widN f := by
              rcases Nat.lt_or_ge k (widN f) with g | g
              · exact g
              · have e : k = widN f := by omega
                rw [e, Nat.sub_self, last0] at c2
                exact absurd hle c2
            simp [Try.f48, hcut, hlast, SCompare, c2, hw1, hlt]
            intro i hi
            rcases Nat.lt_or_ge i k with g | g
            · exact hJ i g
            · rw [show i = k by omega]; simp [okF, c2]
        · have hlt : k < widN f := by
            rcases Nat.lt_or_ge k (widN f) with g | g
            · exact g
            · have e : k = widN f := by omega
              rw [e, Nat.sub_self, cut0] at c1
              exact absurd rfl c1
          have c1' : ¬ ((cutA h l (widN f - k)).1 = h ∧ (cutA h l (widN f - k)).2 = l) := fun g => c1 (Prod.ext g.1 g.2)
          have hJ' : ∀ i, i < k + 1 → okF f h l h' l' i = false := by
            intro i hi
            rcases Nat.lt_or_ge i k with g | g
            · exact hJ i g
            · rw [show i = k by omega]; simp [okF, c1]
          have c1b : (decide ((cutA h l (widN f - k)).1 = h) && decide ((cutA h l (widN f - k)).2 = l)) = false := by simpa using c1'
          simp [Try.f48, hcut, hw1, hlt, c1b]
          exact hJ'
    · cases hh
  · cases hh

end Go.Proofs.Ytpcblologcindaa.AL
namespace Go.Proofs.Ytpcblologcindaa.AL
open Go
attribute [local simp] qf cv qbin ibin sbin qun retPost rvOk ctV ctPost marksOk retV resAll resOf V.lt ltL V.ren renL V.exp cleanL V.clean closedL V.closed V.cells V.one V.tree
  loadV cellsAt isAggD placesOf fillV putCells lstore bound seqParts V.sh shL Blk.sh newV V.ok peqs peq srcRows appOk V.fz fzL Blk.fz fzOk and_assoc
attribute [-simp] Int.not_le Int.not_lt Nat.not_le Nat.not_lt
theorem cmpA_lt {a b c d : Int} (h1 : inA a b) (h2 : inA c d) : cmpA a b c d < 0 ↔ numA (a, b) < numA (c, d) := by
  obtain ⟨a0, a1, b0, b1⟩ := h1
  obtain ⟨c0, c1, d0, d1⟩ := h2
  unfold cmpA numA
  simp only
  split
  · omega
  · split <;> omega
theorem cmpA_le {a b c d : Int} (h1 : inA a b) (h2 : inA c d) : cmpA a b c d ≤ 0 ↔ numA (a, b) ≤ numA (c, d) := by
  obtain ⟨a0, a1, b0, b1⟩ := h1
  obtain ⟨c0, c1, d0, d1⟩ := h2
  unfold cmpA numA
  simp only
  split
  · omega
  · split <;> omega
theorem half_num {f h l q : Int} {j k : Nat} (hin : inA h l) (hc : cAddr f h l = true) (hk : j + (k + 1) = widN f) (hq : numA (h, l) = q * 2 ^ (k + 1)) :
    halfA f h l j 0 = (h, l) ∧ halfA f h l j 1 = toA (numA (h, l) + 2 ^ k) ∧ numA (h, l) + 2 ^ k < 2 ^ widN f := by
  have hn := numA_lt hin hc
  have hw := widN_le f
  obtain ⟨h0, h1, l0, l1⟩ := hin
  have e := ipow_succ k
  have hp := ipow_pos k
  have e1 : numA (h, l) + 2 ^ k = (2 * q + 1) * 2 ^ k := by rw [hq, e, Int.add_mul, Int.one_mul, ← Int.mul_assoc, Int.mul_right_comm, Int.mul_comm 2 q]
  have e0 : numA (h, l) = (2 * q) * 2 ^ k := by rw [hq, e, ← Int.mul_assoc, Int.mul_right_comm, Int.mul_comm 2 q]
  have hlt : numA (h, l) + 2 ^ k < 2 ^ widN f := by
    have e2 : (2 : Int) ^ widN f = 2 ^ j * 2 ^ (k + 1) := by rw [← ipow_add]; congr 1; omega
    have g : q * 2 ^ (k + 1) < 2 ^ j * 2 ^ (k + 1) := by rw [← hq, ← e2]; exact hn.2
    have g2 := Int.lt_of_mul_lt_mul_right g (by omega)
    have g3 : (q + 1) * 2 ^ (k + 1) ≤ 2 ^ j * 2 ^ (k + 1) := Int.mul_le_mul_of_nonneg_right (by omega) (by omega)
    rw [Int.add_mul, Int.one_mul, ← hq, ← e2] at g3
    omega
  have b01 : ∀ i, i < widN f → (if i = j then (0 : Int) else bt h l (widN f - 1 - i)) = numA (h, l) / 2 ^ (widN f - 1 - i) % 2 := by
    intro i hi
    split
    · rename_i hij
      subst hij
      rw [hq, show widN f - 1 - i = k by omega, mul_bit_lt (by omega)]
    · exact bt_num l0 l1 _
  have b11 : ∀ i, i < widN f → (if i = j then (1 : Int) else bt h l (widN f - 1 - i)) = (numA (h, l) + 2 ^ k) / 2 ^ (widN f - 1 - i) % 2 := by
    intro i hi
    split
    · rename_i hij
      subst hij
      rw [e1, show widN f - 1 - i = k by omega, mul_bit_ge (Nat.le_refl _), Nat.sub_self]
      simp
    · rename_i hij
      rw [bt_num l0 l1, e1]
      rcases Nat.lt_or_ge (widN f - 1 - i) k with hlt | hge
      · rw [mul_bit_lt hlt, e0, mul_bit_lt hlt]
      · rw [mul_bit_ge hge, e0, mul_bit_ge hge]
        obtain ⟨m, hm⟩ : ∃ m, widN f - 1 - i - k = m + 1 := ⟨widN f - 1 - i - k - 1, by omega⟩
        rw [hm, Nat.add_comm m 1, ← div_div_pow, ← div_div_pow, show (2 * q) / 2 ^ 1 = q by omega, show (2 * q + 1) / 2 ^ 1 = q by omega]
  refine ⟨?_, ?_, hlt⟩
  · unfold halfA
    rw [List.map_congr_left (fun i hi => b01 i (List.mem_range.1 hi))]
    have hr := bits_rng (widN f) (fun i => numA (h, l) / 2 ^ (widN f - 1 - i) % 2) (fun i _ => by omega)
    refine numA_inj hr.2.2 ⟨l0, l1⟩ ?_
    exact adrOf_all hw hn.1 hn.2
  · unfold halfA
    rw [List.map_congr_left (fun i hi => b11 i (List.mem_range.1 hi))]
    have hr := bits_rng (widN f) (fun i => (numA (h, l) + 2 ^ k) / 2 ^ (widN f - 1 - i) % 2) (fun i _ => by omega)
    have hr2 := toA_rng (N := numA (h, l) + 2 ^ k) (by omega) (by
      have : (2 : Int) ^ widN f ≤ 340282366920938463463374607431768211456 := by
        have e3 : (340282366920938463463374607431768211456 : Int) = 2 ^ (128 - widN f) * 2 ^ widN f := by rw [← ipow_add, show 128 - widN f + widN f = 128 by omega]; rfl
        have g := ipow_pos (128 - widN f)
        have g2 : (1 : Int) * 2 ^ widN f ≤ 2 ^ (128 - widN f) * 2 ^ widN f := Int.mul_le_mul_of_nonneg_right (by omega) (by omega)
        omega
      omega)
    refine numA_inj hr.2.2 hr2.2.2 ?_
    rw [numA_toA]
    exact adrOf_all hw (by omega) hlt
theorem toA_adr {f N : Int} (hf : f = 4 ∨ f = 6) (h0 : 0 ≤ N) (h1 : N < 2 ^ widN f) : inA (toA N).1 (toA N).2 ∧ cAddr f (toA N).1 (toA N).2 = true := by
  have hr : N < 340282366920938463463374607431768211456 := by
    rcases hf with rfl | rfl
    · have h1' : N < 4294967296 := h1
      omega
    · exact h1
  refine ⟨toA_rng h0 hr, ?_⟩
  unfold cAddr
  rcases hf with rfl | rfl
  · have h1' : N < 4294967296 := h1
    unfold toA
    simp
    omega
  · simp
def rowW (f : Int) (p : Int × Nat) : PF := ⟨f, (toA p.1).1, (toA p.1).2, (widN f : Int) - p.2⟩
def wRows (f a b : Int) (k : Nat) (N : Int) : List (List V) := (wthN a b k N).map fun p => (rowW f p).row
theorem wRows_len {f a b : Int} {k : Nat} {N : Int} : (wRows f a b k N).length ≤ 2 * k + 2 := by
  unfold wRows
  rw [List.length_map]
  exact wthN_len
def SWth (K : Nat) : List V → Option Res
  | [.agg [.int .u64 h1, .int .u64 l1, .int .u64 h2, .int .u64 l2], .agg [.int .u8 f, .int .u64 h, .int .u64 l, .int .i64 n]] =>
    if inA h1 l1 ∧ inA h2 l2 ∧ inA h l ∧ cAddr f h l = true ∧ 0 ≤ n ∧ n ≤ widN f ∧ widN f - n.toNat < K ∧ numA (h, l) % 2 ^ (widN f - n.toNat) = 0 then
      some ⟨.own 0, [.sl 4 26 (wRows f (numA (h1, l1)) (numA (h2, l2)) (widN f - n.toNat) (numA (h, l)))]⟩ else none
  | _ => none
def M_f41 : Md := fun i => if i = 6 then some #[0, 0, 2, 7, 0, 0, 47, 127, 255, 511] else some #[]
@[simp] theorem M_f41_eq {i : Nat} : M_f41 i = (if i = 6 then some #[0, 0, 2, 7, 0, 0, 47, 127, 255, 511] else some #[]) := rfl
theorem runs_within : ∀ (K : Nat) args r, SWth K args = some r → Runs Try.prog 41 args r
  | 0, args, r, hh => by
    unfold SWth at hh
    split at hh
    · split at hh
      · omega
      · cases hh
    · cases hh
  | K + 1, args, r, hh => by
    unfold SWth at hh
    split at hh
    · rename_i h1 l1 h2 l2 f h l n
      split at hh
      · rename_i hin
        cases hh
        obtain ⟨hin1, hin2, hin, hc, hn0, hn1, hK, hal⟩ := hin
        obtain ⟨j, rfl⟩ : ∃ j : Nat, n = j := ⟨n.toNat, by omega⟩
        simp only [Int.toNat_natCast] at hK hal ⊢
        obtain ⟨k, hk⟩ : ∃ k, k = widN f - j := ⟨_, rfl⟩
        rw [← hk] at hK hal ⊢
        have hw := widN_le f
        have hp := ipow_pos k
        have hT : (((((T0.add 39 SLastR).add 14 SCompare).add 49 SInS).add 50 SHalf).add 41 (SWth K)).ok Try.prog :=
          Tab.add_ok (Tab.add_ok (Tab.add_ok (Tab.add_ok (Tab.add_ok (T0_ok _) runs_ref02_Last) runs_ref01_Compare) runs_ref02_In) runs_ref02_half) (runs_within K)
        have hlast : SLastR [.agg [.int .u8 f, .int .u64 h, .int .u64 l, .int .i64 j]] = some ⟨.agg [.int .u64 (lastA h l k).1, .int .u64 (lastA h l k).2], []⟩ := by
          simp only [SLastR]
          rw [if_pos ⟨hin, hc, by omega, by omega⟩, hk]
          rfl
        have hLr := lastA_rng (k := k) hin (by omega)
        have hLn := lastA_num hin.2.2.1 hin.2.2.2 (h := h) k
        have hN : numA (h, l) / 2 ^ k * 2 ^ k = numA (h, l) := by
          have := Int.mul_ediv_add_emod (numA (h, l)) (2 ^ k)
          rw [hal, Int.mul_comm] at this
          omega
        rw [hN] at hLn
        refine Runs.of_body Try.func41 (by decide) rfl (by simp [Try.f41]) ?_
        refine W.seqE hT mixed M_f41 (by kernel_rfl) ?_
        simp [Try.f41]
        refine W.seqE hT mixed M_f41 (by kernel_rfl) ?_
        simp [Try.f41, hlast]
        have c1 := cmpA_lt hLr hin1
        have c2 := cmpA_lt hin2 hin
        have c3 := cmpA_le hin1 hin
        have c4 := cmpA_le hin hin2
        have c5 := cmpA_le hin1 hLr
        have c6 := cmpA_le hLr hin2
        rw [hLn] at c1 c5 c6
        by_cases hout : numA (h, l) + 2 ^ k - 1 < numA (h1, l1) ∨ numA (h2, l2) < numA (h, l)
        · have hE : wRows f (numA (h1, l1)) (numA (h2, l2)) k (numA (h, l)) = [] := by unfold wRows; rw [wthN_out hout]; rfl
          rw [hE]
          refine W.seq (W.seqE hT mixed M_f41 (by kernel_rfl) ?_)
          by_cases d1 : cmpA (lastA h l k).1 (lastA h l k).2 h1 l1 < 0
          · simp [Try.f41, SCompare, d1]
            refine W.cond true (by simp) (fun _ => ?_) (by simp)
            refine W.seqE hT mixed M_f41 (by kernel_rfl) ?_
            simp
            refine W.wk (Wk.adopt 4 4 26 (by omega) (by simp)) ?_
            refine W.of_WE hT mixed M_f41 _ (by kernel_rfl) ?_
            simp [Try.f41]
          · have d2 : cmpA h2 l2 h l < 0 := by omega
            simp [Try.f41, SCompare, d1, d2]
            refine W.cond true (by simp) (fun _ => ?_) (by simp)
            refine W.seqE hT mixed M_f41 (by kernel_rfl) ?_
            simp
            refine W.wk (Wk.adopt 4 4 26 (by omega) (by simp)) ?_
            refine W.of_WE hT mixed M_f41 _ (by kernel_rfl) ?_
            simp [Try.f41]
        · refine W.seqE hT mixed M_f41 (by kernel_rfl) ?_
          have d1 : ¬ cmpA (lastA h l k).1 (lastA h l k).2 h1 l1 < 0 := by omega
          have d2 : ¬ cmpA h2 l2 h l < 0 := by omega
          simp [Try.f41, SCompare, d1, d2]
          by_cases hI : numA (h1, l1) ≤ numA (h, l) ∧ numA (h, l) + 2 ^ k - 1 ≤ numA (h2, l2)
          · have hE : wRows f (numA (h1, l1)) (numA (h2, l2)) k (numA (h, l)) = [(⟨f, h, l, j⟩ : PF).row] := by
              unfold wRows; rw [wthN_in hI.1 hI.2]
              have e1 : (widN f : Int) - k = j := by omega
              simp [rowW, toA_numA hin.2.2.1 hin.2.2.2, e1]
            rw [hE]
            refine W.of_WE hT mixed M_f41 _ (by kernel_rfl) ?_
            have d3 : inS h1 l1 h2 l2 h l = true := by simp [inS]; omega
            have d4 : inS h1 l1 h2 l2 (lastA h l k).1 (lastA h l k).2 = true := by simp [inS]; omega
            simp [Try.f41, SInS, d3, d4, PF.row]
          · have d3 : (inS h1 l1 h2 l2 h l && inS h1 l1 h2 l2 (lastA h l k).1 (lastA h l k).2) = false := by
              simp [inS]
              omega
            obtain ⟨k', rfl⟩ : ∃ k', k = k' + 1 := by
              cases k with
              | zero => exfalso; apply hI; simp at hout ⊢; omega
              | succ k' => exact ⟨k', rfl⟩
            have hq : numA (h, l) = numA (h, l) / 2 ^ (k' + 1) * 2 ^ (k' + 1) := hN.symm
            obtain ⟨g0, g1, g2⟩ := half_num (j := j) hin hc (by omega) hq
            have hw0 : IntKind.i64.wrap ((j : Int) + 1) = ((j + 1 : Nat) : Int) := by rw [wr_i64 (by omega) (by omega)]; rfl
            have hh0 : SHalf [.agg [.int .u8 f, .int .u64 h, .int .u64 l, .int .i64 j], .int .i64 0] = some ⟨.agg [.int .u8 f, .int .u64 h, .int .u64 l, .int .i64 (j + 1)], []⟩ := by
              simp only [SHalf]
              rw [if_pos ⟨hin, by omega, by omega, by simp⟩, Int.toNat_natCast, g0]
            have hh1 : SHalf [.agg [.int .u8 f, .int .u64 h, .int .u64 l, .int .i64 j], .int .i64 1] = some ⟨.agg [.int .u8 f, .int .u64 (toA (numA (h, l) + 2 ^ k')).1, .int .u64 (toA (numA (h, l) + 2 ^ k')).2, .int .i64 (j + 1)], []⟩ := by
              simp only [SHalf]
              rw [if_pos ⟨hin, by omega, by omega, by simp⟩, Int.toNat_natCast, g1]
            have hp' := ipow_pos k'
            have hnn := numA_lt hin hc
            obtain ⟨hrng, hadr⟩ := toA_adr (f := f) (N := numA (h, l) + 2 ^ k') (cAddr_46 hc) (by omega) g2
            have hal0 : numA (h, l) % 2 ^ k' = 0 := by
              rw [hq, ipow_succ, ← Int.mul_assoc, Int.mul_right_comm]
              exact Int.mul_emod_left _ _
            have hal1 : (numA (h, l) + 2 ^ k') % 2 ^ k' = 0 := by rw [Int.add_emod_right]; exact hal0
            have hr0 : SWth K [.agg [.int .u64 h1, .int .u64 l1, .int .u64 h2, .int .u64 l2], .agg [.int .u8 f, .int .u64 h, .int .u64 l, .int .i64 (j + 1)]] =
                some ⟨.own 0, [.sl 4 26 (wRows f (numA (h1, l1)) (numA (h2, l2)) k' (numA (h, l)))]⟩ := by
              simp only [SWth]
              rw [show widN f - ((j : Int) + 1).toNat = k' by omega, if_pos ⟨hin1, hin2, hin, hc, by omega, by omega, by omega, hal0⟩]
            have hr1 : SWth K [.agg [.int .u64 h1, .int .u64 l1, .int .u64 h2, .int .u64 l2], .agg [.int .u8 f, .int .u64 (toA (numA (h, l) + 2 ^ k')).1, .int .u64 (toA (numA (h, l) + 2 ^ k')).2, .int .i64 (j + 1)]] =
                some ⟨.own 0, [.sl 4 26 (wRows f (numA (h1, l1)) (numA (h2, l2)) k' (numA (h, l) + 2 ^ k'))]⟩ := by
              simp only [SWth]
              rw [show widN f - ((j : Int) + 1).toNat = k' by omega, if_pos ⟨hin1, hin2, hrng, hadr, by omega, by omega, by omega, by
                rw [show ((toA (numA (h, l) + 2 ^ k')).1, (toA (numA (h, l) + 2 ^ k')).2) = toA (numA (h, l) + 2 ^ k') from rfl, numA_toA]; exact hal1⟩]
              · rw [show ((toA (numA (h, l) + 2 ^ k')).1, (toA (numA (h, l) + 2 ^ k')).2) = toA (numA (h, l) + 2 ^ k') from rfl, numA_toA]
            have hE : wRows f (numA (h1, l1)) (numA (h2, l2)) (k' + 1) (numA (h, l)) = wRows f (numA (h1, l1)) (numA (h2, l2)) k' (numA (h, l)) ++ wRows f (numA (h1, l1)) (numA (h2, l2)) k' (numA (h, l) + 2 ^ k') := by
              unfold wRows; rw [wthN_halves hI, List.map_append]
            have b0 := @wRows_len f (numA (h1, l1)) (numA (h2, l2)) k' (numA (h, l))
            have b1 := @wRows_len f (numA (h1, l1)) (numA (h2, l2)) k' (numA (h, l) + 2 ^ k')
            rw [hE]
            generalize wRows f (numA (h1, l1)) (numA (h2, l2)) k' (numA (h, l)) = R0 at *
            generalize wRows f (numA (h1, l1)) (numA (h2, l2)) k' (numA (h, l) + 2 ^ k') = R1 at *
            refine W.cut True [(2, .ptr 0 0), (3, .ptr 1 0)] [.box 44 [.int .u64 h1, .int .u64 l1, .int .u64 h2, .int .u64 l2], .box 26 [.int .u8 f, .int .u64 h, .int .u64 l, .int .i64 j]] 41 ?_ ?_
            · refine W.of_WE hT mixed M_f41 _ (by kernel_rfl) ?_
              cases e3 : inS h1 l1 h2 l2 h l
              · simp [Try.f41, SInS, e3]
              · rw [e3, Bool.true_and] at d3
                simp [Try.f41, SInS, e3, d3]
            · intro _
              refine W.of_WE hT mixed M_f41 _ (by kernel_rfl) ?_
              have hb : R0.length + R1.length ≤ 1000 := by omega
              simp [Try.f41, hh0, hh1, hr0, hr1]
              omega
      · cases hh
    · cases hh

end Go.Proofs.Ytpcblologcindaa.AL
namespace Go.Proofs.Ytpcblologcindaa.AL
open Go
attribute [local simp] qf cv qbin ibin sbin qun retPost rvOk ctV ctPost marksOk retV resAll resOf V.lt ltL V.ren renL V.exp cleanL V.clean closedL V.closed V.cells V.one V.tree
  loadV cellsAt isAggD placesOf fillV putCells lstore bound seqParts V.sh shL Blk.sh newV V.ok peqs peq srcRows appOk V.fz fzL Blk.fz fzOk and_assoc
attribute [-simp] Int.not_le Int.not_lt Nat.not_le Nat.not_lt
def SPre : List V → Option Res
  | [.int .u8 f, .agg [.int .u64 h1, .int .u64 l1, .int .u64 h2, .int .u64 l2]] => if inA h1 l1 ∧ inA h2 l2 then
      (if chkS f h1 l1 h2 l2 = 0 then some ⟨.tup [.own 0, .int .i64 0], [.sl 4 26 (wRows f (numA (h1, l1)) (numA (h2, l2)) (widN f) 0)]⟩
        else some ⟨.tup [.nils, .int .i64 (chkS f h1 l1 h2 l2)], []⟩) else none
  | _ => none
theorem chk_46 {f h l h' l' : Int} (h0 : chkS f h l h' l' = 0) : f = 4 ∨ f = 6 := cAddr_46 (chkS_zero h0).1
def M_f22 : Md := fun i => some #[]
@[simp] theorem M_f22_eq {i : Nat} : M_f22 i = (some #[]) := rfl
theorem runs_ref02_Prefixes : ∀ args r, SPre args = some r → Runs Try.prog 22 args r := by
  intro args r hh
  unfold SPre at hh
  split at hh
  · rename_i f h1 l1 h2 l2
    split at hh
    · rename_i hin
      obtain ⟨hin1, hin2⟩ := hin
      have hw := widN_le f
      have hT : ((T0.add 29 SChkS).add 41 (SWth 129)).ok Try.prog := Tab.add_ok (Tab.add_ok (T0_ok _) runs_ref02_Check) (runs_within 129)
      split at hh
      · rename_i hc
        cases hh
        have h46 := chk_46 hc
        have hwth : SWth 129 [.agg [.int .u64 h1, .int .u64 l1, .int .u64 h2, .int .u64 l2], .agg [.int .u8 f, .int .u64 0, .int .u64 0, .int .i64 0]] =
            some ⟨.own 0, [.sl 4 26 (wRows f (numA (h1, l1)) (numA (h2, l2)) (widN f) 0)]⟩ := by
          simp only [SWth]
          rw [if_pos ⟨hin1, hin2, by decide, by rcases h46 with rfl | rfl <;> decide, by omega, by omega, by omega, by simp [numA]⟩]
          simp [numA]
        refine Runs.of_body Try.func22 (by decide) rfl (by simp [Try.f22]) ?_
        refine W.of_WE hT mixed M_f22 _ (by kernel_rfl) ?_
        simp [Try.f22, SChkS, hin1, hin2, hc, hwth]
      · rename_i hc
        cases hh
        refine Runs.of_body Try.func22 (by decide) rfl (by simp [Try.f22]) ?_
        refine W.of_WE hT mixed M_f22 _ (by kernel_rfl) ?_
        simp [Try.f22, SChkS, hin1, hin2, hc]
    · cases hh
  · cases hh

end Go.Proofs.Ytpcblologcindaa.AL
namespace Go.Proofs.Ytpcblologcindaa.AL
open Go
attribute [local simp] qf cv qbin ibin sbin qun retPost rvOk ctV ctPost marksOk retV resAll resOf V.lt ltL V.ren renL V.exp cleanL V.clean closedL V.closed V.cells V.one V.tree
  loadV cellsAt isAggD placesOf fillV putCells lstore bound seqParts V.sh shL Blk.sh newV V.ok peqs peq srcRows appOk V.fz fzL Blk.fz fzOk and_assoc
attribute [-simp] Int.not_le Int.not_lt Nat.not_le Nat.not_lt
theorem fstN_spec {f h l h' l' : Int} (hw : okF f h l h' l' (widN f) = true) : fstN f h l h' l' ≤ widN f ∧ okF f h l h' l' (fstN f h l h' l') = true ∧ ∀ i, i < fstN f h l h' l' → okF f h l h' l' i = false := by
  unfold fstN
  cases hf : (List.range (widN f)).find? fun n => okF f h l h' l' n with
  | none =>
    rw [List.find?_eq_none] at hf
    refine ⟨Nat.le_refl _, hw, fun i hi => ?_⟩
    have := hf i (List.mem_range.2 hi)
    simpa using this
  | some k =>
    rw [List.find?_range_eq_some] at hf
    simp only [Option.getD_some]
    refine ⟨by have := hf.2.1; rw [List.mem_range] at this; omega, hf.1, fun i hi => ?_⟩
    have := hf.2.2 i hi
    simpa using this
theorem okF_iff {f h l h' l' : Int} (hin : inA h l) (hin' : inA h' l') {n : Nat} : okF f h l h' l' n = true ↔ (∃ q : Int, numA (h, l) = q * 2 ^ (widN f - n)) ∧ numA (h, l) + 2 ^ (widN f - n) - 1 ≤ numA (h', l') := by
  have hw := widN_le f
  have hc := cutA_num hin.2.2.1 hin.2.2.2 (h := h) (widN f - n)
  have hl := lastA_num hin.2.2.1 hin.2.2.2 (h := h) (widN f - n)
  have hlr := lastA_rng (k := widN f - n) hin (by omega)
  have hp := ipow_pos (widN f - n)
  have e1 : cutA h l (widN f - n) = (h, l) ↔ numA (h, l) / 2 ^ (widN f - n) * 2 ^ (widN f - n) = numA (h, l) := by
    constructor
    · intro e; rw [← hc, e]
    · intro e
      refine numA_inj ?_ ⟨hin.2.2.1, hin.2.2.2⟩ (hc.trans e)
      unfold cutA
      split
      · simp
      · have := Int.ediv_mul_le l (b := 2 ^ (widN f - n)) (by omega)
        have h3 : 0 ≤ l / 2 ^ (widN f - n) * 2 ^ (widN f - n) := Int.mul_nonneg (Int.ediv_nonneg hin.2.2.1 (by omega)) (by omega)
        exact ⟨h3, by have := hin.2.2.2; omega⟩
  have e2 := cmpA_le hlr hin'
  unfold okF
  rw [Bool.and_eq_true, decide_eq_true_eq, decide_eq_true_eq, e1, e2, show ((lastA h l (widN f - n)).1, (lastA h l (widN f - n)).2) = lastA h l (widN f - n) from rfl, hl]
  constructor
  · rintro ⟨g1, g2⟩
    exact ⟨⟨_, g1.symm⟩, by rw [g1] at g2; omega⟩
  · rintro ⟨⟨q, g1⟩, g2⟩
    have g3 : numA (h, l) / 2 ^ (widN f - n) * 2 ^ (widN f - n) = numA (h, l) := by rw [g1, Int.mul_ediv_cancel _ (by omega)]
    exact ⟨g3, by rw [g3]; omega⟩
/-- One step of the walk, in numbers. -/
theorem fst_step {f h l h' l' : Int} (hin : inA h l) (hin' : inA h' l') (hc : cAddr f h l = true) (hle : numA (h, l) ≤ numA (h', l')) :
    fstN f h l h' l' ≤ widN f ∧ numA (lastA h l (widN f - fstN f h l h' l')) = numA (h, l) + 2 ^ (widN f - fstN f h l h' l') - 1 ∧ numA (h, l) + 2 ^ (widN f - fstN f h l h' l') - 1 ≤ numA (h', l') ∧
      wthN (numA (h, l)) (numA (h', l')) (widN f) 0 = (numA (h, l), widN f - fstN f h l h' l') :: wthN (numA (h, l) + 2 ^ (widN f - fstN f h l h' l')) (numA (h', l')) (widN f) 0 := by
  obtain ⟨h1, h2, h3⟩ := fstN_spec (okF_w ((cmpA_le hin hin').2 hle) (f := f))
  have hn := numA_lt hin hc
  generalize fstN f h l h' l' = n at *
  have g := (okF_iff hin hin').1 h2
  have hlast := lastA_num hin.2.2.1 hin.2.2.2 (h := h) (widN f - n)
  have hp := ipow_pos (widN f - n)
  obtain ⟨q, hq⟩ := g.1
  have g3 : numA (h, l) / 2 ^ (widN f - n) * 2 ^ (widN f - n) = numA (h, l) := by rw [hq, Int.mul_ediv_cancel _ (by omega)]
  refine ⟨h1, by rw [hlast, g3]; omega, g.2, ?_⟩
  refine wthN_step g.1 g.2 ⟨0, by simp⟩ hn.1 (by rw [Int.zero_add]; exact hn.2) (Nat.sub_le _ _) ?_
  rcases Nat.eq_zero_or_pos n with hn0 | hn0
  · left; omega
  · right
    intro hh
    have hf := h3 (n - 1) (by omega)
    have ht := (okF_iff (f := f) (n := n - 1) hin hin').2 (by rw [show widN f - (n - 1) = widN f - n + 1 by omega]; exact hh)
    rw [hf] at ht
    cases ht

end Go.Proofs.Ytpcblologcindaa.AL
