import Derived.Test.YtbnjijffkjcmcaaDoorZW3
import Derived.Laws.Externs
import Derived.Test.YtbnjijffkjcmcaaDoorZW1
import Derived.RangeFuncRecord
/- What single functions compute: a part of the proof; no conditions. -/
set_option linter.unusedVariables false
set_option linter.unusedSimpArgs false
set_option maxRecDepth 100000
namespace Go.Proofs.YtbnjijffkjcmcaaDoor.AL
open Go
attribute [local simp] qf cv qbin ibin sbin qun retPost rvOk ctV ctPost marksOk retV resAll resOf V.lt ltL V.ren renL V.exp V.exp1 cleanL V.clean closedL V.closed V.cells V.one V.tree
  loadV cellsAt isNC nilQ isSlD isIfD slNew ownRows ownCells V.isOwn slStore srcO qlook mlook mget mstr zval qnone qmake mput lmap isAggD placesOf fillV putCells lstore bound seqParts V.sh shL Blk.sh newV V.ok peqs peq srcRows qbytes byteSl appOk mmV mmR hidE V.fz fzL Blk.fz fzOk and_assoc
attribute [-simp] Int.not_le Int.not_lt Nat.not_le Nat.not_lt
theorem Runs.of_value {P : Program} [Gl P] {f : FuncId} {args : List V} {v : V} (h : ∀ (E : Env) (us : List Value) (w : World), RL E args us → ∃ u, (callFunc f us.toArray).run P w = .ok (.value u) w ∧ R E v u) : Runs P f args ⟨v, []⟩ := by
  intro E us hD hO hG hargs
  obtain ⟨u, h1, h2⟩ := h E us E.w hargs
  unfold CalledX
  rw [h1]
  exact ⟨E, rfl, ⟨fun b hb => absurd hb (hD b), h2, ⟨fun b x hx => by simp [Res.hp] at hx, fun b b' x x' g hx => by simp [Res.hp] at hx⟩, Ev.refl _ _, fun g _ => Iff.rfl, hO⟩⟩
def addR (x y c : Int) : Int × Int := ((x + y + c) % 18446744073709551616, (x + y + c) / 18446744073709551616)
def SAdd64 : List V → Option Res
  | [.int .u64 x, .int .u64 y, .int .u64 c] => if 0 ≤ x ∧ 0 ≤ y ∧ 0 ≤ c ∧ c ≤ 1 then some ⟨.tup [.int .u64 (addR x y c).1, .int .u64 (addR x y c).2], []⟩ else none
  | _ => none
theorem runs_bits_Add64 : ∀ args r, SAdd64 args = some r → Runs Tryd.prog 70 args r := by
  intro args r hh
  unfold SAdd64 at hh
  split at hh
  · rename_i x y c
    split at hh
    · rename_i hin
      cases hh
      refine Runs.of_value fun E us w hr => ?_
      simp only [RL, R] at hr
      obtain ⟨_, _, rfl, rfl, _, _, rfl, rfl, _, _, rfl, rfl, rfl⟩ := hr
      refine ⟨.tuple #[.int .u64 (addR x y c).1, .int .u64 (addR x y c).2], ?_, ?_⟩
      · rw [run_callFunc_extern Tryd.func70 (by kernel_rfl) (by kernel_rfl) (by kernel_rfl) (e := add64Entry) (by kernel_rfl)]
        show ((add64Entry #[.int .u64 x, .int .u64 y, .int .u64 c]).run _ w).andThen _ = _
        rw [run_add64 x y c hin.1 hin.2.1 hin.2.2.1 hin.2.2.2]
        rfl
      · simp only [R]
        exact ⟨_, rfl, by simp [RL, R]⟩
    · cases hh
  · cases hh
def subR (x y b : Int) : Int × Int := ((x - y - b) % 18446744073709551616, if x < y + b then 1 else 0)
def SSub64 : List V → Option Res
  | [.int .u64 x, .int .u64 y, .int .u64 c] => if 0 ≤ x ∧ x ≤ 18446744073709551615 ∧ 0 ≤ y ∧ y ≤ 18446744073709551615 ∧ 0 ≤ c ∧ c ≤ 1 then some ⟨.tup [.int .u64 (subR x y c).1, .int .u64 (subR x y c).2], []⟩ else none
  | _ => none
def sub64E : Array Value → Sem Value := fun args => do
  let (x, y, b) ← Extern.MathBitsCarry.three "Sub64" args
  pure (Extern.MathBitsCarry.pair ((x + Extern.MathBitsCarry.m64 - y - b) % Extern.MathBitsCarry.m64) (if x < y + b then 1 else 0))
theorem run_sub64E {P : Program} (x y b : Nat) (hb : b ≤ 1) (w : World) :
    (sub64E #[.int .u64 x, .int .u64 y, .int .u64 b]).run P w =
      .ok (.tuple #[.int .u64 (((x + 18446744073709551616 - y - b) % 18446744073709551616 : Nat) : Int), .int .u64 ((if x < y + b then 1 else 0 : Nat) : Int)]) w := by
  have : b = 0 ∨ b = 1 := by omega
  rcases this with rfl | rfl <;> rfl
theorem runs_bits_Sub64 : ∀ args r, SSub64 args = some r → Runs Tryd.prog 71 args r := by
  intro args r hh
  unfold SSub64 at hh
  split at hh
  · rename_i x y c
    split at hh
    · rename_i hin
      cases hh
      obtain ⟨hx, hx', hy, hy', hc, hc'⟩ := hin
      obtain ⟨x, rfl⟩ := Int.eq_ofNat_of_zero_le hx
      obtain ⟨y, rfl⟩ := Int.eq_ofNat_of_zero_le hy
      obtain ⟨c, rfl⟩ := Int.eq_ofNat_of_zero_le hc
      refine Runs.of_value fun E us w hr => ?_
      simp only [RL, R] at hr
      obtain ⟨_, _, rfl, rfl, _, _, rfl, rfl, _, _, rfl, rfl, rfl⟩ := hr
      refine ⟨.tuple #[.int .u64 (subR x y c).1, .int .u64 (subR x y c).2], ?_, ?_⟩
      · rw [run_callFunc_extern Tryd.func71 (by kernel_rfl) (by kernel_rfl) (by kernel_rfl) (e := sub64E) (by kernel_rfl)]
        show ((sub64E #[.int .u64 x, .int .u64 y, .int .u64 c]).run _ w).andThen _ = _
        rw [run_sub64E x y c (by omega)]
        have e1 : (((x + 18446744073709551616 - y - c) % 18446744073709551616 : Nat) : Int) = (subR x y c).1 := by unfold subR; simp only; omega
        have e2 : ((if x < y + c then 1 else 0 : Nat) : Int) = (subR x y c).2 := by
          unfold subR
          by_cases h : x < y + c
          · rw [if_pos h]; simp only; rw [if_pos (by omega)]; rfl
          · rw [if_neg h]; simp only; rw [if_neg (by omega)]; rfl
        rw [e1, e2]
        rfl
      · simp only [R]
        exact ⟨_, rfl, by simp [RL, R]⟩
    · cases hh
  · cases hh
/-- The address that is greater by one; is there any? -/
def nextA (f h l : Int) : Int × Int × Bool :=
  let p := addR l 1 0
  let q := addR h 0 p.2
  if cAddr f h l = true ∧ cAddr f q.1 p.1 = true ∧ ¬ q.2 = 1 then (q.1, p.1, true) else (0, 0, false)
def SNext : List V → Option Res
  | [.int .u8 f, .agg [.int .u64 h, .int .u64 l]] => if inA h l then some ⟨.tup [.agg [.int .u64 (nextA f h l).1, .int .u64 (nextA f h l).2.1], .bool (nextA f h l).2.2], []⟩ else none
  | _ => none
theorem runs_span_Next : ∀ args r, SNext args = some r → Runs Tryd.prog 39 args r := by
  intro args r hh
  unfold SNext at hh
  split at hh
  · rename_i f h l
    split at hh
    · rename_i hin
      cases hh
      obtain ⟨h0, h1, l0, l1⟩ := hin
      have hT : ((T0.add 31 SAddr).add 70 SAdd64).ok Tryd.prog := Tab.add_ok (Tab.add_ok (T0_ok _) runs_number_CheckAddr) runs_bits_Add64
      have hc : 0 ≤ (addR l 1 0).2 ∧ (addR l 1 0).2 ≤ 1 := by unfold addR; simp only; omega
      refine Runs.of_body Tryd.func39 (by decide) rfl (by simp [Tryd.f39]) ?_
      refine W.of_WE hT mixed M0 _ (by kernel_rfl) ?_
      cases c1 : cAddr f h l
      · simp [Tryd.f39, SAdd64, h0, l0, hc, SAddr, c1, nextA]
      · cases c2 : cAddr f (addR h 0 (addR l 1 0).2).1 (addR l 1 0).1
        · simp [Tryd.f39, SAdd64, h0, l0, hc, SAddr, c1, c2, nextA]
        · by_cases c3 : (addR h 0 (addR l 1 0).2).2 = 1
          · simp [Tryd.f39, SAdd64, h0, l0, hc, SAddr, c1, c2, c3, nextA]
          · simp [Tryd.f39, SAdd64, h0, l0, hc, SAddr, c1, c2, c3, nextA]
    · cases hh
  · cases hh
def prevA (h l : Int) : Int × Int × Bool :=
  let p := subR l 1 0
  let q := subR h 0 p.2
  if q.2 = 1 then (0, 0, false) else (q.1, p.1, true)
def SPrev : List V → Option Res
  | [.agg [.int .u64 h, .int .u64 l]] => if inA h l then some ⟨.tup [.agg [.int .u64 (prevA h l).1, .int .u64 (prevA h l).2.1], .bool (prevA h l).2.2], []⟩ else none
  | _ => none
theorem runs_span_Prev : ∀ args r, SPrev args = some r → Runs Tryd.prog 40 args r := by
  intro args r hh
  unfold SPrev at hh
  split at hh
  · rename_i h l
    split at hh
    · rename_i hin
      cases hh
      obtain ⟨h0, h1, l0, l1⟩ := hin
      have hT : (T0.add 71 SSub64).ok Tryd.prog := Tab.add_ok (T0_ok _) runs_bits_Sub64
      have hc : 0 ≤ (subR l 1 0).2 ∧ (subR l 1 0).2 ≤ 1 := by unfold subR; simp only; split <;> omega
      refine Runs.of_body Tryd.func40 (by decide) rfl (by simp [Tryd.f40]) ?_
      refine W.of_WE hT mixed M0 _ (by kernel_rfl) ?_
      by_cases c3 : (subR h 0 (subR l 1 0).2).2 = 1
      · simp [Tryd.f40, SSub64, h0, l0, h1, l1, hc, c3, prevA]
      · simp [Tryd.f40, SSub64, h0, l0, h1, l1, hc, c3, prevA]
    · cases hh
  · cases hh

end Go.Proofs.YtbnjijffkjcmcaaDoor.AL
namespace Go.Proofs.YtbnjijffkjcmcaaDoor.AL
open Go
attribute [local simp] qf cv qbin ibin sbin qun retPost rvOk ctV ctPost marksOk retV resAll resOf V.lt ltL V.ren renL V.exp V.exp1 cleanL V.clean closedL V.closed V.cells V.one V.tree
  loadV cellsAt isNC nilQ isSlD isIfD slNew ownRows ownCells V.isOwn slStore srcO qlook mlook mget mstr zval qnone qmake mput lmap isAggD placesOf fillV putCells lstore bound seqParts V.sh shL Blk.sh newV V.ok peqs peq srcRows qbytes byteSl appOk mmV mmR hidE V.fz fzL Blk.fz fzOk and_assoc
attribute [-simp] Int.not_le Int.not_lt Nat.not_le Nat.not_lt
theorem ltge (a b : Int) : a < b ∨ b ≤ a := by omega
theorem nextA_num {f h l : Int} (hin : inA h l) (hc : cAddr f h l = true) :
    (numA (h, l) + 1 < 2 ^ widN f → ∃ x y, nextA f h l = (x, y, true) ∧ numA (x, y) = numA (h, l) + 1 ∧ inA x y) ∧ (2 ^ widN f ≤ numA (h, l) + 1 → nextA f h l = (0, 0, false)) := by
  obtain ⟨h0, h1, l0, l1⟩ := hin
  rcases cAddr_46 hc with rfl | rfl
  · obtain ⟨rfl, hl⟩ := cAddr_4 hc rfl
    have ew : (2 : Int) ^ widN 4 = 4294967296 := rfl
    have e1 : addR l 1 0 = (l + 1, 0) := by unfold addR; congr 1 <;> omega
    have e2 : addR 0 0 0 = (0, 0) := rfl
    have e3 : ∀ y : Int, cAddr 4 0 y = decide (y < 4294967296) := fun y => by simp [cAddr]
    unfold nextA
    simp only [e1, e2, hc, e3, numA, ew]
    refine ⟨fun hlt => ⟨0, l + 1, ?_, by omega, ?_⟩, fun hge => ?_⟩
    · rw [if_pos ⟨trivial, by simp; omega, by omega⟩]
    · unfold inA; omega
    · rw [if_neg]
      simp
      omega
  · have ew : (2 : Int) ^ widN 6 = 340282366920938463463374607431768211456 := rfl
    have e3 : ∀ x y : Int, cAddr 6 x y = true := fun x y => rfl
    unfold nextA addR
    simp only [e3, numA, ew, true_and]
    refine ⟨fun hlt => ⟨(h + 0 + (l + 1 + 0) / 18446744073709551616) % 18446744073709551616, (l + 1 + 0) % 18446744073709551616, ?_, by omega, ?_⟩, fun hge => ?_⟩
    · rw [if_pos (by omega)]
    · unfold inA; omega
    · rw [if_neg (by omega)]
theorem prevA_num {h l : Int} (hin : inA h l) : (0 < numA (h, l) → ∃ x y, prevA h l = (x, y, true) ∧ numA (x, y) = numA (h, l) - 1 ∧ inA x y) ∧ (numA (h, l) = 0 → prevA h l = (0, 0, false)) := by
  obtain ⟨h0, h1, l0, l1⟩ := hin
  unfold prevA subR numA
  simp only
  refine ⟨fun hlt => ?_, fun hz => ?_⟩
  · by_cases hl : l = 0
    · refine ⟨h - 1, 18446744073709551615, ?_, by omega, by unfold inA; omega⟩
      subst hl
      rw [if_pos (show (0 : Int) < 1 + 0 by omega), if_neg (show ¬ (if h < 0 + 1 then (1 : Int) else 0) = 1 by split <;> omega)]
      congr 1
      · omega
    · refine ⟨h, l - 1, ?_, by omega, by unfold inA; omega⟩
      rw [if_neg (show ¬ l < 1 + 0 by omega), if_neg (show ¬ (if h < 0 + 0 then (1 : Int) else 0) = 1 by split <;> omega)]
      congr 1
      · omega
      · congr 1; omega
  · have : h = 0 := by omega
    have : l = 0 := by omega
    subst h l
    rfl
theorem adrOf_all {N : Int} {w : Nat} (hw : w ≤ 128) (hN : 0 ≤ N) (hN' : N < 2 ^ w) : numA (adrOf ((List.range w).map fun i => N / 2 ^ (w - 1 - i) % 2)) = N := by
  have h := adrOf_bits N w w hw (Nat.le_refl _) hN hN' w (Nat.le_refl _)
  rw [if_pos (Nat.le_refl _), Nat.sub_self] at h
  have e : ((List.range w).map fun i => N / 2 ^ (w - 1 - i) % 2) = (List.range w).map fun i => if i < w then N / 2 ^ (w - 1 - i) % 2 else 0 := by
    apply List.map_congr_left
    intro i hi
    rw [if_pos (List.mem_range.1 hi)]
  rw [e, h]
  simp
theorem bits_rng (w : Nat) (f : Nat → Int) (h : ∀ i, i < w → f i = 0 ∨ f i = 1) : inA (adrOf ((List.range w).map f)).1 (adrOf ((List.range w).map f)).2 := by
  have := adrOf_bd ((List.range w).map f) (by
      intro b hb
      simp only [List.mem_map, List.mem_range] at hb
      obtain ⟨i, hi, rfl⟩ := hb
      exact h i hi) (0, 0) (by simp)
  exact this
theorem next_some {f h l : Int} {k : Nat} (hin : inA h l) (hc : cAddr f h l = true) (hk : k < widN f) (h1 : ∀ m, m < k → bt h l m = 1) (h0 : bt h l k = 0) :
    nextA f h l = ((adrOf ((List.range (widN f)).map fun i => if widN f - 1 - i < k then 0 else if widN f - 1 - i = k then 1 else bt h l (widN f - 1 - i))).1,
      (adrOf ((List.range (widN f)).map fun i => if widN f - 1 - i < k then 0 else if widN f - 1 - i = k then 1 else bt h l (widN f - 1 - i))).2, true) := by
  have hn := numA_lt hin hc
  have hnx := (nextA_num hin hc).1
  have l0 := hin.2.2.1
  have l1 := hin.2.2.2
  simp only [bt_num l0 l1] at h1 h0 ⊢
  have hs := succ_bits h1 h0
  have hlt : numA (h, l) + 1 < 2 ^ widN f := by
    rcases ltge (numA (h, l) + 1) (2 ^ widN f) with hh | hh
    · exact hh
    · exfalso
      have e : numA (h, l) + 1 = 1 * 2 ^ widN f := by omega
      have := hs k
      rw [e, mul_bit_lt hk] at this
      simp at this
  obtain ⟨x, y, e, hxy, hxy'⟩ := hnx hlt
  simp only [← hs]
  have ha := adrOf_all (w := widN f) (widN_le f) (N := numA (h, l) + 1) (by omega) hlt
  have hr := bits_rng (widN f) (fun i => (numA (h, l) + 1) / 2 ^ (widN f - 1 - i) % 2) (fun i _ => by omega)
  have := numA_inj (p := (x, y)) (q := adrOf ((List.range (widN f)).map fun i => (numA (h, l) + 1) / 2 ^ (widN f - 1 - i) % 2)) hxy'.2.2 hr.2.2 (by rw [hxy, ha])
  rw [e, ← this]
theorem next_none {f h l : Int} (hin : inA h l) (hc : cAddr f h l = true) (h1 : ∀ m, m < widN f → bt h l m = 1) : nextA f h l = (0, 0, false) := by
  have hn := numA_lt hin hc
  refine (nextA_num hin hc).2 ?_
  have l0 := hin.2.2.1
  have l1 := hin.2.2.2
  simp only [bt_num l0 l1] at h1
  obtain ⟨q, hq⟩ := ones_mul _ h1
  have hp := ipow_pos (widN f)
  have : 0 < q := by
    rcases ltge 0 q with h | h
    · exact h
    · have : q * 2 ^ widN f ≤ 0 := Int.mul_nonpos_of_nonpos_of_nonneg h (by omega)
      omega
  have : 1 * 2 ^ widN f ≤ q * 2 ^ widN f := Int.mul_le_mul_of_nonneg_right (by omega) (by omega)
  omega
theorem prev_some {h l : Int} {k : Nat} (hin : inA h l) (hk : k < 128) (h1 : ∀ m, m < k → bt h l m = 0) (h0 : bt h l k = 1) :
    prevA h l = ((adrOf ((List.range 128).map fun i => if 127 - i < k then 1 else if 127 - i = k then 0 else bt h l (127 - i))).1,
      (adrOf ((List.range 128).map fun i => if 127 - i < k then 1 else if 127 - i = k then 0 else bt h l (127 - i))).2, true) := by
  have hn := numA_lt (f := 6) hin rfl
  have hpv := (prevA_num hin).1
  have l0 := hin.2.2.1
  have l1 := hin.2.2.2
  simp only [bt_num l0 l1] at h1 h0 ⊢
  have hs := pred_bits h1 h0
  have hlt : 0 < numA (h, l) := by
    rcases ltge 0 (numA (h, l)) with hh | hh
    · exact hh
    · exfalso
      have e : numA (h, l) = 0 := by omega
      rw [e] at h0
      simp at h0
  obtain ⟨x, y, e, hxy, hxy'⟩ := hpv hlt
  simp only [← hs]
  have ha := adrOf_all (w := 128) (by omega) (N := numA (h, l) - 1) (by omega) (by have : (2 : Int) ^ widN 6 = 2 ^ 128 := rfl; omega)
  have hr := bits_rng 128 (fun i => (numA (h, l) - 1) / 2 ^ (127 - i) % 2) (fun i _ => by omega)
  have := numA_inj (p := (x, y)) (q := adrOf ((List.range 128).map fun i => (numA (h, l) - 1) / 2 ^ (127 - i) % 2)) hxy'.2.2 hr.2.2 (by rw [hxy]; exact ha.symm)
  rw [e, ← this]
theorem prev_none {h l : Int} (hin : inA h l) (h1 : ∀ m, m < 128 → bt h l m = 0) : prevA h l = (0, 0, false) := by
  have hn := numA_lt (f := 6) hin rfl
  refine (prevA_num hin).2 ?_
  have l0 := hin.2.2.1
  have l1 := hin.2.2.2
  simp only [bt_num l0 l1] at h1
  obtain ⟨q, hq⟩ := zeros_mul 128 h1
  have e : (2 : Int) ^ widN 6 = 2 ^ 128 := rfl
  rw [e] at hn
  have hp := ipow_pos 128
  have h2 : q < 1 := by
    rcases ltge q 1 with h | h
    · exact h
    · have : 1 * 2 ^ 128 ≤ q * 2 ^ 128 := Int.mul_le_mul_of_nonneg_right h (by omega)
      omega
  have h3 : 0 ≤ q := by
    rcases ltge q 0 with h | h
    · have : q * 2 ^ 128 ≤ (-1) * 2 ^ 128 := Int.mul_le_mul_of_nonneg_right (by omega) (by omega)
      omega
    · exact h
  rw [hq, show q = 0 by omega]
  simp

end Go.Proofs.YtbnjijffkjcmcaaDoor.AL
namespace Go.Proofs.YtbnjijffkjcmcaaDoor.AL
open Go
attribute [local simp] qf cv qbin ibin sbin qun retPost rvOk ctV ctPost marksOk retV resAll resOf V.lt ltL V.ren renL V.exp V.exp1 cleanL V.clean closedL V.closed V.cells V.one V.tree
  loadV cellsAt isNC nilQ isSlD isIfD slNew ownRows ownCells V.isOwn slStore srcO qlook mlook mget mstr zval qnone qmake mput lmap isAggD placesOf fillV putCells lstore bound seqParts V.sh shL Blk.sh newV V.ok peqs peq srcRows qbytes byteSl appOk mmV mmR hidE V.fz fzL Blk.fz fzOk and_assoc
attribute [-simp] Int.not_le Int.not_lt Nat.not_le Nat.not_lt
theorem SBits6 {h l : Int} (hin : inA h l) : SBits [.int .u8 6, .agg [.int .u64 h, .int .u64 l]] = some ⟨.own 0, [.sl 1 3 (rg 128 fun i => bt h l (127 - i))]⟩ := by
  simp only [SBits, if_pos hin]
  rfl
end Go.Proofs.YtbnjijffkjcmcaaDoor.AL
namespace Go.Proofs.YtbnjijffkjcmcaaDoor.AL
open Go
attribute [local simp] qf cv qbin ibin sbin qun retPost rvOk ctV ctPost marksOk retV resAll resOf V.lt ltL V.ren renL V.exp V.exp1 cleanL V.clean closedL V.closed V.cells V.one V.tree
  loadV cellsAt isNC nilQ isSlD isIfD slNew ownRows ownCells V.isOwn slStore srcO qlook mlook mget mstr zval qnone qmake mput lmap isAggD placesOf fillV putCells lstore bound seqParts V.sh shL Blk.sh newV V.ok peqs peq srcRows qbytes byteSl appOk mmV mmR hidE V.fz fzL Blk.fz fzOk and_assoc
attribute [-simp] Int.not_le Int.not_lt Nat.not_le Nat.not_lt
/-- One half of a prefix: its address with bit n (from the highest) set so. -/
def halfA (f h l : Int) (n : Nat) (b : Int) : Int × Int := adrOf ((List.range (widN f)).map fun i => if i = n then b else bt h l (widN f - 1 - i))
def SHalf : List V → Option Res
  | [.agg [.int .u8 f, .int .u64 h, .int .u64 l, .int .i64 n], .int .i64 b] => if inA h l ∧ 0 ≤ n ∧ n < widN f ∧ (b = 0 ∨ b = 1) then
      some ⟨.agg [.int .u8 f, .int .u64 (halfA f h l n.toNat b).1, .int .u64 (halfA f h l n.toNat b).2, .int .i64 (n + 1)], []⟩ else none
  | _ => none
/-- Rows of prefixes. -/
structure PF where
  f : Int
  h : Int
  l : Int
  n : Int
  deriving DecidableEq
def PF.row (a : PF) : List V := [.int .u8 a.f, .int .u64 a.h, .int .u64 a.l, .int .i64 a.n]
def pfOf : List V → Option PF
  | [.int .u8 f, .int .u64 h, .int .u64 l, .int .i64 n] => some ⟨f, h, l, n⟩
  | _ => none
theorem pfOf_row (a : PF) : pfOf a.row = some a := rfl
theorem pfOf_eq {r : List V} {a : PF} (h : pfOf r = some a) : r = a.row := by
  unfold pfOf at h
  split at h
  · cases h; rfl
  · cases h
def pfsOf : List (List V) → Option (List PF)
  | [] => some []
  | r :: rows => match pfOf r, pfsOf rows with
    | some a, some l => some (a :: l)
    | _, _ => none
theorem pfsOf_map (l : List PF) : pfsOf (l.map PF.row) = some l := by
  induction l with
  | nil => rfl
  | cons x l ih => simp [pfsOf, ih, pfOf_row]
theorem pfsOf_eq : ∀ {rows : List (List V)} {l : List PF}, pfsOf rows = some l → rows = l.map PF.row
  | [], l, h => by simp [pfsOf] at h; subst h; rfl
  | r :: rows, l, h => by
    unfold pfsOf at h
    split at h
    · rename_i a l' h1 h2
      cases h
      rw [pfOf_eq h1, pfsOf_eq h2]; rfl
    · cases h
def SSameP : List V → Option Res
  | [.rd 4 r1, .rd 4 r2] => match pfsOf r1, pfsOf r2 with
    | some a, some b => if a.length ≤ 1000000 ∧ b.length ≤ 1000000 then some ⟨.bool (decide (a = b)), []⟩ else none
    | _, _ => none
  | _ => none
end Go.Proofs.YtbnjijffkjcmcaaDoor.AL
namespace Go.Proofs.YtbnjijffkjcmcaaDoor.AL
open Go
attribute [local simp] qf cv qbin ibin sbin qun retPost rvOk ctV ctPost marksOk retV resAll resOf V.lt ltL V.ren renL V.exp V.exp1 cleanL V.clean closedL V.closed V.cells V.one V.tree
  loadV cellsAt isNC nilQ isSlD isIfD slNew ownRows ownCells V.isOwn slStore srcO qlook mlook mget mstr zval qnone qmake mput lmap isAggD placesOf fillV putCells lstore bound seqParts V.sh shL Blk.sh newV V.ok peqs peq srcRows qbytes byteSl appOk mmV mmR hidE V.fz fzL Blk.fz fzOk and_assoc
attribute [-simp] Int.not_le Int.not_lt Nat.not_le Nat.not_lt
/-- Does the prefix of n bits that begins the span lie in it? -/
def okF (f h l h' l' : Int) (n : Nat) : Bool := decide (cutA h l (widN f - n) = (h, l)) && decide (cmpA (lastA h l (widN f - n)).1 (lastA h l (widN f - n)).2 h' l' ≤ 0)
def fstN (f h l h' l' : Int) : Nat := ((List.range (widN f)).find? fun n => okF f h l h' l' n).getD (widN f)
theorem fstN_eq {f h l h' l' : Int} {k : Nat} (hk : k ≤ widN f) (h1 : ∀ i, i < k → okF f h l h' l' i = false) (h2 : okF f h l h' l' k = true) : fstN f h l h' l' = k := by
  unfold fstN
  rcases Nat.lt_or_ge k (widN f) with hlt | hge
  · have : (List.range (widN f)).find? (fun n => okF f h l h' l' n) = some k := by
      rw [List.find?_range_eq_some]
      exact ⟨h2, by simpa using hlt, fun i hi => by simp [h1 i hi]⟩
    rw [this]; rfl
  · have e : k = widN f := by omega
    have : (List.range (widN f)).find? (fun n => okF f h l h' l' n) = none := by
      rw [List.find?_eq_none]
      intro i hi
      rw [List.mem_range] at hi
      simp [h1 i (by omega)]
    rw [this, e]; rfl
theorem cut0 {h l : Int} : cutA h l 0 = (h, l) := by unfold cutA; simp
theorem last0 {h l : Int} : lastA h l 0 = (h, l) := by unfold lastA; simp
theorem okF_w {f h l h' l' : Int} (hc : cmpA h l h' l' ≤ 0) : okF f h l h' l' (widN f) = true := by
  unfold okF
  rw [Nat.sub_self, cut0, last0]
  simp [hc]
def SFirst : List V → Option Res
  | [.agg [.int .u8 f, .int .u64 h, .int .u64 l, .int .u64 h', .int .u64 l']] => if inA h l ∧ inA h' l' ∧ chkS f h l h' l' = 0 then some ⟨.agg [.int .u8 f, .int .u64 h, .int .u64 l, .int .i64 (fstN f h l h' l')], []⟩ else none
  | _ => none
theorem chkS_zero {f h l h' l' : Int} (h0 : chkS f h l h' l' = 0) : cAddr f h l = true ∧ cAddr f h' l' = true ∧ cmpA h l h' l' ≤ 0 := by
  unfold chkS at h0
  split at h0
  · omega
  · split at h0
    · assumption
    · omega
def M_f72 : Md := fun i => if i = 4 then some #[0, 1, 0, 4, 12, 31, 63, 127, 255, 127, 639, 1663, 4095, 8191, 16383] else some #[]
@[simp] theorem M_f72_eq {i : Nat} : M_f72 i = (if i = 4 then some #[0, 1, 0, 4, 12, 31, 63, 127, 255, 127, 639, 1663, 4095, 8191, 16383] else some #[]) := rfl
theorem runs_span_walk_first : ∀ args r, SFirst args = some r → Runs Tryd.prog 72 args r := by
  intro args r hh
  unfold SFirst at hh
  split at hh
  · rename_i f h l h' l'
    split at hh
    · rename_i hin
      cases hh
      obtain ⟨hin, hin', hchk⟩ := hin
      obtain ⟨hc, hc', hle⟩ := chkS_zero hchk
      have hw := widN_le f
      have hT : (((T0.add 29 SCut).add 69 SLast).add 32 SCompare).ok Tryd.prog := Tab.add_ok (Tab.add_ok (Tab.add_ok (T0_ok _) runs_number_Cut) runs_span_last) runs_number_Compare
      refine Runs.of_body Tryd.func72 (by decide) rfl (by simp [Tryd.f72]) ?_
      refine W.seqE hT mixed M_f72 (by kernel_rfl) ?_
      simp [Tryd.f72]
      refine W.seqE hT mixed M_f72 (by kernel_rfl) ?_
      simp [Tryd.f72]
      refine W.block (W.for (fun k => ∀ i, i < k → okF f h l h' l' i = false) (fun k => [(1, .ptr 0 0), (2, .ptr 1 0), (3, .int .i64 k)])
        (fun k => [.box 119 [.int .u8 f, .int .u64 h, .int .u64 l, .int .u64 h', .int .u64 l'], .box 26 [.int .u8 0, .int .u64 0, .int .u64 0, .int .i64 0]]) 34 (widN f) (fun i hi => absurd hi (by omega)) ?_ ?_)
      · simp
      · intro k hk hJ
        have hcut : SCut [.int .u8 f, .agg [.int .u64 h, .int .u64 l], .int .i64 k] = some ⟨.tup [.agg [.int .u8 f, .int .u64 (cutA h l (widN f - k)).1, .int .u64 (cutA h l (widN f - k)).2, .int .i64 k], .int .i64 0], []⟩ := by
          simp only [SCut]
          rw [if_pos hin, if_pos ⟨hc, by omega, by omega⟩]
          rfl
        have hw1 : IntKind.i64.wrap ((k : Int) + 1) = k + 1 := wr_i64 (by omega) (by omega)
        have hlast : SLast [.agg [.int .u8 f, .int .u64 h, .int .u64 l, .int .i64 k]] = some ⟨.agg [.int .u64 (lastA h l (widN f - k)).1, .int .u64 (lastA h l (widN f - k)).2], []⟩ := by
          simp only [SLast, kw_wid hc]
          rw [if_pos ⟨hin, by omega, by omega⟩]
          rfl
        refine W.of_WE hT mixed M_f72 _ (by kernel_rfl) ?_
        by_cases c1 : cutA h l (widN f - k) = (h, l)
        · rw [c1] at hcut
          by_cases c2 : cmpA (lastA h l (widN f - k)).1 (lastA h l (widN f - k)).2 h' l' ≤ 0
          · have := fstN_eq hk hJ (by simp [okF, c1, c2])
            simp [Tryd.f72, hcut, hlast, SCompare, c2, this]
          · have hlt : k < widN f := by
              rcases Nat.lt_or_ge k (widN f) with g | g
              · exact g
              · have e : k = widN f := by omega
                rw [e, Nat.sub_self, last0] at c2
                exact absurd hle c2
            simp [Tryd.f72, hcut, hlast, SCompare, c2, hw1, hlt]
            intro i hi
            rcases Nat.lt_or_ge i k with g | g
            · exact hJ i g
            · rw [show i = k by omega]; simp [okF, c2]
        · have hlt : k < widN f := by
            rcases Nat.lt_or_ge k (widN f) with g | g
            · exact g
            · have e : k = widN f := by omega
              rw [e, Nat.sub_self, cut0] at c1
              exact absurd rfl c1
          have c1' : ¬ ((cutA h l (widN f - k)).1 = h ∧ (cutA h l (widN f - k)).2 = l) := fun g => c1 (Prod.ext g.1 g.2)
          have hJ' : ∀ i, i < k + 1 → okF f h l h' l' i = false := by
            intro i hi
            rcases Nat.lt_or_ge i k with g | g
            · exact hJ i g
            · rw [show i = k by omega]; simp [okF, c1]
          have c1b : (decide ((cutA h l (widN f - k)).1 = h) && decide ((cutA h l (widN f - k)).2 = l)) = false := by simpa using c1'
          simp [Tryd.f72, hcut, hw1, hlt, c1b]
          exact hJ'
    · cases hh
  · cases hh

end Go.Proofs.YtbnjijffkjcmcaaDoor.AL
namespace Go.Proofs.YtbnjijffkjcmcaaDoor.AL
open Go
attribute [local simp] qf cv qbin ibin sbin qun retPost rvOk ctV ctPost marksOk retV resAll resOf V.lt ltL V.ren renL V.exp V.exp1 cleanL V.clean closedL V.closed V.cells V.one V.tree
  loadV cellsAt isNC nilQ isSlD isIfD slNew ownRows ownCells V.isOwn slStore srcO qlook mlook mget mstr zval qnone qmake mput lmap isAggD placesOf fillV putCells lstore bound seqParts V.sh shL Blk.sh newV V.ok peqs peq srcRows qbytes byteSl appOk mmV mmR hidE V.fz fzL Blk.fz fzOk and_assoc
attribute [-simp] Int.not_le Int.not_lt Nat.not_le Nat.not_lt
theorem cmpA_lt {a b c d : Int} (h1 : inA a b) (h2 : inA c d) : cmpA a b c d < 0 ↔ numA (a, b) < numA (c, d) := by
  obtain ⟨a0, a1, b0, b1⟩ := h1
  obtain ⟨c0, c1, d0, d1⟩ := h2
  unfold cmpA numA
  simp only
  split
  · omega
  · split <;> omega
theorem cmpA_le {a b c d : Int} (h1 : inA a b) (h2 : inA c d) : cmpA a b c d ≤ 0 ↔ numA (a, b) ≤ numA (c, d) := by
  obtain ⟨a0, a1, b0, b1⟩ := h1
  obtain ⟨c0, c1, d0, d1⟩ := h2
  unfold cmpA numA
  simp only
  split
  · omega
  · split <;> omega
theorem half_num {f h l q : Int} {j k : Nat} (hin : inA h l) (hc : cAddr f h l = true) (hk : j + (k + 1) = widN f) (hq : numA (h, l) = q * 2 ^ (k + 1)) :
    halfA f h l j 0 = (h, l) ∧ halfA f h l j 1 = toA (numA (h, l) + 2 ^ k) ∧ numA (h, l) + 2 ^ k < 2 ^ widN f := by
  have hn := numA_lt hin hc
  have hw := widN_le f
  obtain ⟨h0, h1, l0, l1⟩ := hin
  have e := ipow_succ k
  have hp := ipow_pos k
  have e1 : numA (h, l) + 2 ^ k = (2 * q + 1) * 2 ^ k := by rw [hq, e, Int.add_mul, Int.one_mul, ← Int.mul_assoc, Int.mul_right_comm, Int.mul_comm 2 q]
  have e0 : numA (h, l) = (2 * q) * 2 ^ k := by rw [hq, e, ← Int.mul_assoc, Int.mul_right_comm, Int.mul_comm 2 q]
  have hlt : numA (h, l) + 2 ^ k < 2 ^ widN f := by
    have e2 : (2 : Int) ^ widN f = 2 ^ j * 2 ^ (k + 1) := by rw [← ipow_add]; congr 1; omega
    have g : q * 2 ^ (k + 1) < 2 ^ j * 2 ^ (k + 1) := by rw [← hq, ← e2]; exact hn.2
    have g2 := Int.lt_of_mul_lt_mul_right g (by omega)
    have g3 : (q + 1) * 2 ^ (k + 1) ≤ 2 ^ j * 2 ^ (k + 1) := Int.mul_le_mul_of_nonneg_right (by omega) (by omega)
    rw [Int.add_mul, Int.one_mul, ← hq, ← e2] at g3
    omega
  have b01 : ∀ i, i < widN f → (if i = j then (0 : Int) else bt h l (widN f - 1 - i)) = numA (h, l) / 2 ^ (widN f - 1 - i) % 2 := by
    intro i hi
    split
    · rename_i hij
      subst hij
      rw [hq, show widN f - 1 - i = k by omega, mul_bit_lt (by omega)]
    · exact bt_num l0 l1 _
  have b11 : ∀ i, i < widN f → (if i = j then (1 : Int) else bt h l (widN f - 1 - i)) = (numA (h, l) + 2 ^ k) / 2 ^ (widN f - 1 - i) % 2 := by
    intro i hi
    split
    · rename_i hij
      subst hij
      rw [e1, show widN f - 1 - i = k by omega, mul_bit_ge (Nat.le_refl _), Nat.sub_self]
      simp
    · rename_i hij
      rw [bt_num l0 l1, e1]
      rcases Nat.lt_or_ge (widN f - 1 - i) k with hlt | hge
      · rw [mul_bit_lt hlt, e0, mul_bit_lt hlt]
      · rw [mul_bit_ge hge, e0, mul_bit_ge hge]
        obtain ⟨m, hm⟩ : ∃ m, widN f - 1 - i - k = m + 1 := ⟨widN f - 1 - i - k - 1, by omega⟩
        rw [hm, Nat.add_comm m 1, ← div_div_pow, ← div_div_pow, show (2 * q) / 2 ^ 1 = q by omega, show (2 * q + 1) / 2 ^ 1 = q by omega]
  refine ⟨?_, ?_, hlt⟩
  · unfold halfA
    rw [List.map_congr_left (fun i hi => b01 i (List.mem_range.1 hi))]
    have hr := bits_rng (widN f) (fun i => numA (h, l) / 2 ^ (widN f - 1 - i) % 2) (fun i _ => by omega)
    refine numA_inj hr.2.2 ⟨l0, l1⟩ ?_
    exact adrOf_all hw hn.1 hn.2
  · unfold halfA
    rw [List.map_congr_left (fun i hi => b11 i (List.mem_range.1 hi))]
    have hr := bits_rng (widN f) (fun i => (numA (h, l) + 2 ^ k) / 2 ^ (widN f - 1 - i) % 2) (fun i _ => by omega)
    have hr2 := toA_rng (N := numA (h, l) + 2 ^ k) (by omega) (by
      have : (2 : Int) ^ widN f ≤ 340282366920938463463374607431768211456 := by
        have e3 : (340282366920938463463374607431768211456 : Int) = 2 ^ (128 - widN f) * 2 ^ widN f := by rw [← ipow_add, show 128 - widN f + widN f = 128 by omega]; rfl
        have g := ipow_pos (128 - widN f)
        have g2 : (1 : Int) * 2 ^ widN f ≤ 2 ^ (128 - widN f) * 2 ^ widN f := Int.mul_le_mul_of_nonneg_right (by omega) (by omega)
        omega
      omega)
    refine numA_inj hr.2.2 hr2.2.2 ?_
    rw [numA_toA]
    exact adrOf_all hw (by omega) hlt
theorem toA_adr {f N : Int} (hf : f = 4 ∨ f = 6) (h0 : 0 ≤ N) (h1 : N < 2 ^ widN f) : inA (toA N).1 (toA N).2 ∧ cAddr f (toA N).1 (toA N).2 = true := by
  have hr : N < 340282366920938463463374607431768211456 := by
    rcases hf with rfl | rfl
    · have h1' : N < 4294967296 := h1
      omega
    · exact h1
  refine ⟨toA_rng h0 hr, ?_⟩
  unfold cAddr
  rcases hf with rfl | rfl
  · have h1' : N < 4294967296 := h1
    unfold toA
    simp
    omega
  · simp
def rowW (f : Int) (p : Int × Nat) : PF := ⟨f, (toA p.1).1, (toA p.1).2, (widN f : Int) - p.2⟩
def wRows (f a b : Int) (k : Nat) (N : Int) : List (List V) := (wthN a b k N).map fun p => (rowW f p).row
theorem wRows_len {f a b : Int} {k : Nat} {N : Int} : (wRows f a b k N).length ≤ 2 * k + 2 := by
  unfold wRows
  rw [List.length_map]
  exact wthN_len
def SWth (K : Nat) : List V → Option Res
  | [.agg [.int .u64 h1, .int .u64 l1, .int .u64 h2, .int .u64 l2], .agg [.int .u8 f, .int .u64 h, .int .u64 l, .int .i64 n]] =>
    if inA h1 l1 ∧ inA h2 l2 ∧ inA h l ∧ cAddr f h l = true ∧ 0 ≤ n ∧ n ≤ widN f ∧ widN f - n.toNat < K ∧ numA (h, l) % 2 ^ (widN f - n.toNat) = 0 then
      some ⟨.own 0, [.sl 4 26 (wRows f (numA (h1, l1)) (numA (h2, l2)) (widN f - n.toNat) (numA (h, l)))]⟩ else none
  | _ => none
end Go.Proofs.YtbnjijffkjcmcaaDoor.AL
namespace Go.Proofs.YtbnjijffkjcmcaaDoor.AL
open Go
attribute [local simp] qf cv qbin ibin sbin qun retPost rvOk ctV ctPost marksOk retV resAll resOf V.lt ltL V.ren renL V.exp V.exp1 cleanL V.clean closedL V.closed V.cells V.one V.tree
  loadV cellsAt isNC nilQ isSlD isIfD slNew ownRows ownCells V.isOwn slStore srcO qlook mlook mget mstr zval qnone qmake mput lmap isAggD placesOf fillV putCells lstore bound seqParts V.sh shL Blk.sh newV V.ok peqs peq srcRows qbytes byteSl appOk mmV mmR hidE V.fz fzL Blk.fz fzOk and_assoc
attribute [-simp] Int.not_le Int.not_lt Nat.not_le Nat.not_lt
def SPre : List V → Option Res
  | [.int .u8 f, .agg [.int .u64 h1, .int .u64 l1, .int .u64 h2, .int .u64 l2]] => if inA h1 l1 ∧ inA h2 l2 then
      (if chkS f h1 l1 h2 l2 = 0 then some ⟨.tup [.own 0, .int .i64 0], [.sl 4 26 (wRows f (numA (h1, l1)) (numA (h2, l2)) (widN f) 0)]⟩
        else some ⟨.tup [.nils, .int .i64 (chkS f h1 l1 h2 l2)], []⟩) else none
  | _ => none
theorem chk_46 {f h l h' l' : Int} (h0 : chkS f h l h' l' = 0) : f = 4 ∨ f = 6 := cAddr_46 (chkS_zero h0).1
end Go.Proofs.YtbnjijffkjcmcaaDoor.AL
namespace Go.Proofs.YtbnjijffkjcmcaaDoor.AL
open Go
attribute [local simp] qf cv qbin ibin sbin qun retPost rvOk ctV ctPost marksOk retV resAll resOf V.lt ltL V.ren renL V.exp V.exp1 cleanL V.clean closedL V.closed V.cells V.one V.tree
  loadV cellsAt isNC nilQ isSlD isIfD slNew ownRows ownCells V.isOwn slStore srcO qlook mlook mget mstr zval qnone qmake mput lmap isAggD placesOf fillV putCells lstore bound seqParts V.sh shL Blk.sh newV V.ok peqs peq srcRows qbytes byteSl appOk mmV mmR hidE V.fz fzL Blk.fz fzOk and_assoc
attribute [-simp] Int.not_le Int.not_lt Nat.not_le Nat.not_lt
theorem fstN_spec {f h l h' l' : Int} (hw : okF f h l h' l' (widN f) = true) : fstN f h l h' l' ≤ widN f ∧ okF f h l h' l' (fstN f h l h' l') = true ∧ ∀ i, i < fstN f h l h' l' → okF f h l h' l' i = false := by
  unfold fstN
  cases hf : (List.range (widN f)).find? fun n => okF f h l h' l' n with
  | none =>
    rw [List.find?_eq_none] at hf
    refine ⟨Nat.le_refl _, hw, fun i hi => ?_⟩
    have := hf i (List.mem_range.2 hi)
    simpa using this
  | some k =>
    rw [List.find?_range_eq_some] at hf
    simp only [Option.getD_some]
    refine ⟨by have := hf.2.1; rw [List.mem_range] at this; omega, hf.1, fun i hi => ?_⟩
    have := hf.2.2 i hi
    simpa using this
theorem okF_iff {f h l h' l' : Int} (hin : inA h l) (hin' : inA h' l') {n : Nat} : okF f h l h' l' n = true ↔ (∃ q : Int, numA (h, l) = q * 2 ^ (widN f - n)) ∧ numA (h, l) + 2 ^ (widN f - n) - 1 ≤ numA (h', l') := by
  have hw := widN_le f
  have hc := cutA_num hin.2.2.1 hin.2.2.2 (h := h) (widN f - n)
  have hl := lastA_num hin.2.2.1 hin.2.2.2 (h := h) (widN f - n)
  have hlr := lastA_rng (k := widN f - n) hin (by omega)
  have hp := ipow_pos (widN f - n)
  have e1 : cutA h l (widN f - n) = (h, l) ↔ numA (h, l) / 2 ^ (widN f - n) * 2 ^ (widN f - n) = numA (h, l) := by
    constructor
    · intro e; rw [← hc, e]
    · intro e
      refine numA_inj ?_ ⟨hin.2.2.1, hin.2.2.2⟩ (hc.trans e)
      unfold cutA
      split
      · simp
      · have := Int.ediv_mul_le l (b := 2 ^ (widN f - n)) (by omega)
        have h3 : 0 ≤ l / 2 ^ (widN f - n) * 2 ^ (widN f - n) := Int.mul_nonneg (Int.ediv_nonneg hin.2.2.1 (by omega)) (by omega)
        exact ⟨h3, by have := hin.2.2.2; omega⟩
  have e2 := cmpA_le hlr hin'
  unfold okF
  rw [Bool.and_eq_true, decide_eq_true_eq, decide_eq_true_eq, e1, e2, show ((lastA h l (widN f - n)).1, (lastA h l (widN f - n)).2) = lastA h l (widN f - n) from rfl, hl]
  constructor
  · rintro ⟨g1, g2⟩
    exact ⟨⟨_, g1.symm⟩, by rw [g1] at g2; omega⟩
  · rintro ⟨⟨q, g1⟩, g2⟩
    have g3 : numA (h, l) / 2 ^ (widN f - n) * 2 ^ (widN f - n) = numA (h, l) := by rw [g1, Int.mul_ediv_cancel _ (by omega)]
    exact ⟨g3, by rw [g3]; omega⟩
/-- One step of the walk, in numbers. -/
theorem fst_step {f h l h' l' : Int} (hin : inA h l) (hin' : inA h' l') (hc : cAddr f h l = true) (hle : numA (h, l) ≤ numA (h', l')) :
    fstN f h l h' l' ≤ widN f ∧ numA (lastA h l (widN f - fstN f h l h' l')) = numA (h, l) + 2 ^ (widN f - fstN f h l h' l') - 1 ∧ numA (h, l) + 2 ^ (widN f - fstN f h l h' l') - 1 ≤ numA (h', l') ∧
      wthN (numA (h, l)) (numA (h', l')) (widN f) 0 = (numA (h, l), widN f - fstN f h l h' l') :: wthN (numA (h, l) + 2 ^ (widN f - fstN f h l h' l')) (numA (h', l')) (widN f) 0 := by
  obtain ⟨h1, h2, h3⟩ := fstN_spec (okF_w ((cmpA_le hin hin').2 hle) (f := f))
  have hn := numA_lt hin hc
  generalize fstN f h l h' l' = n at *
  have g := (okF_iff hin hin').1 h2
  have hlast := lastA_num hin.2.2.1 hin.2.2.2 (h := h) (widN f - n)
  have hp := ipow_pos (widN f - n)
  obtain ⟨q, hq⟩ := g.1
  have g3 : numA (h, l) / 2 ^ (widN f - n) * 2 ^ (widN f - n) = numA (h, l) := by rw [hq, Int.mul_ediv_cancel _ (by omega)]
  refine ⟨h1, by rw [hlast, g3]; omega, g.2, ?_⟩
  refine wthN_step g.1 g.2 ⟨0, by simp⟩ hn.1 (by rw [Int.zero_add]; exact hn.2) (Nat.sub_le _ _) ?_
  rcases Nat.eq_zero_or_pos n with hn0 | hn0
  · left; omega
  · right
    intro hh
    have hf := h3 (n - 1) (by omega)
    have ht := (okF_iff (f := f) (n := n - 1) hin hin').2 (by rw [show widN f - (n - 1) = widN f - n + 1 by omega]; exact hh)
    rw [hf] at ht
    cases ht

end Go.Proofs.YtbnjijffkjcmcaaDoor.AL
namespace Go.Proofs.YtbnjijffkjcmcaaDoor.AL
open Go
attribute [local simp] qf cv qbin ibin sbin qun retPost rvOk ctV ctPost marksOk retV resAll resOf V.lt ltL V.ren renL V.exp V.exp1 cleanL V.clean closedL V.closed V.cells V.one V.tree
  loadV cellsAt isNC nilQ isSlD isIfD slNew ownRows ownCells V.isOwn slStore srcO qlook mlook mget mstr zval qnone qmake mput lmap isAggD placesOf fillV putCells lstore bound seqParts V.sh shL Blk.sh newV V.ok peqs peq srcRows qbytes byteSl appOk mmV mmR hidE V.fz fzL Blk.fz fzOk and_assoc
attribute [-simp] Int.not_le Int.not_lt Nat.not_le Nat.not_lt
theorem num_adr {f x y : Int} (hf : f = 4 ∨ f = 6) (hin : inA x y) (h1 : numA (x, y) < 2 ^ widN f) : cAddr f x y = true := by
  have h0 : 0 ≤ numA (x, y) := by unfold numA; have := hin.1; have := hin.2.2.1; simp only; omega
  have := (toA_adr hf h0 h1).2
  rw [toA_numA hin.2.2.1 hin.2.2.2] at this
  exact this
/-- The prefixes of a span, in order. -/
def wList (f h1 l1 h2 l2 : Int) : List (Int × Nat) := wthN (numA (h1, l1)) (numA (h2, l2)) (widN f) 0
/-- Nothing has turned but block c. -/
def But (c : Nat) (s s' : St) : Prop := s.nx ≤ s'.nx ∧ ∀ b, b < s.nx → b ≠ c → s'.hp b = s.hp b
/-- What the walk's iterator does: for each prefix it calls yield; the caller brings what it keeps true. -/
def AllC : Ct := fun vs s K _ => ∃ (b c : Nat) (f h1 l1 h2 l2 : Int), vs = [.yld b, .ptr c 0] ∧ s.hp c = some (.box 119 [.int .u8 f, .int .u64 h1, .int .u64 l1, .int .u64 h2, .int .u64 l2]) ∧ c < s.nx ∧
  inA h1 l1 ∧ inA h2 l2 ∧ chkS f h1 l1 h2 l2 = 0 ∧ ∃ I : Nat → St → Prop, I 0 s ∧
    (∀ k p s0 s', (wList f h1 l1 h2 l2)[k]? = some p → I k s0 → But c s0 s' → CallY Tryd.prog b s' [.agg (rowW f p).row]
      (fun v s'' => v = .bool true ∧ I (k + 1) s'' ∧ s'.nx ≤ s''.nx ∧ ∀ x, (x = c ∨ (s0.nx ≤ x ∧ x < s'.nx)) → s''.hp x = s'.hp x) noX) ∧
    (∀ s0 s', I (wList f h1 l1 h2 l2).length s0 → But c s0 s' → K (.tup []) s')
structure WAt (c : Nat) (f h2 l2 : Int) (L : List (Int × Nat)) (I : Nat → St → Prop) (u : St) (k : Nat) (h l : Int) : Prop where
  hp : u.hp c = some (.box 119 [.int .u8 f, .int .u64 h, .int .u64 l, .int .u64 h2, .int .u64 l2])
  lt : c < u.nx
  inv : ∃ s0, I k s0 ∧ But c s0 u
  hin : inA h l
  hc : cAddr f h l = true
  le : numA (h, l) ≤ numA (h2, l2)
  rest : L.drop k = wthN (numA (h, l)) (numA (h2, l2)) (widN f) 0
def walkSt (b c : Nat) (u : St) : St := { tm := fun t => if t = 0 then .yld b else if t = 1 then .ptr c 0 else .junk, hp := u.hp, nx := u.nx, nt := 28 }
@[simp] theorem walkSt_tm {b c : Nat} {u : St} {t : Nat} : (walkSt b c u).tm t = if t = 0 then .yld b else if t = 1 then .ptr c 0 else .junk := rfl
@[simp] theorem walkSt_hp {b c : Nat} {u : St} : (walkSt b c u).hp = u.hp := rfl
@[simp] theorem walkSt_nx {b c : Nat} {u : St} : (walkSt b c u).nx = u.nx := rfl
@[simp] theorem walkSt_nt {b c : Nat} {u : St} : (walkSt b c u).nt = 28 := rfl
@[simp] theorem walkSt_top {b c : Nat} {u : St} : (walkSt b c u).top = true := rfl
@[simp] theorem walkSt_df {b c : Nat} {u : St} : (walkSt b c u).df = [] := rfl
@[simp] theorem walkSt_kp {b c : Nat} {u : St} : (walkSt b c u).kp = true := rfl
structure WI (c : Nat) (f h2 l2 : Int) (L : List (Int × Nat)) (I : Nat → St → Prop) where
  u : St
  k : Nat
  h : Int
  l : Int
  at' : WAt c f h2 l2 L I u k h l
theorem walk_next {P : Program} [Gl P] {c : Nat} {f h2 l2 : Int} {L : List (Int × Nat)} {I : Nat → St → Prop} {s' : St} (b k : Nat) (x y : Int) (hk : k < L.length) (hw : WAt c f h2 l2 L I s' (k + 1) x y) (h0 : s'.tm 0 = .yld b) (h1 : s'.tm 1 = .ptr c 0)
    (h2' : s'.nt = 28) (h3 : s'.top = true) (h4 : s'.df = []) (h5 : s'.kp = true) : ∃ j : WI c f h2 l2 L I, Wk P s' (walkSt b c j.u) ∧ L.length - j.k < L.length - k := by
  refine ⟨⟨s', k + 1, x, y, hw⟩, Wk.le ⟨fun t => ?_, fun _ _ h => h, Nat.le_refl _, h2'.symm, h3.symm, h4.symm, fun _ => h5⟩, ?_⟩
  · show (if t = 0 then V.yld b else if t = 1 then V.ptr c 0 else V.junk) = .junk ∨ _
    by_cases e0 : t = 0
    · subst e0; right; rw [h0]; rfl
    · by_cases e1 : t = 1
      · subst e1; right; rw [h1]; rfl
      · left; rw [if_neg e0, if_neg e1]
  · show L.length - (k + 1) < L.length - k
    omega
def M_f93 : Md := fun i => if i = 1 then some #[0, 0, 3, 7, 15, 31, 63, 31, 159, 415, 1023, 2047, 4] else if i = 2 then some #[0, 1, 0, 4, 15, 31, 63, 63, 127, 383, 895] else some #[]
@[simp] theorem M_f93_eq {i : Nat} : M_f93 i = (if i = 1 then some #[0, 0, 3, 7, 15, 31, 63, 31, 159, 415, 1023, 2047, 4] else if i = 2 then some #[0, 1, 0, 4, 15, 31, 63, 63, 127, 383, 895] else some #[]) := rfl
theorem all1_ok {vs : List V} {s : St} {K X : V → St → Prop} (hh : AllC vs s K X) : CallW Tryd.prog 93 s vs K X := by
  obtain ⟨b, c, f, h1, l1, h2, l2, rfl, hbox, hlt, hin1, hin2, hchk, I, hI0, hround, hfin⟩ := hh
  obtain ⟨hc1, hc2, hle⟩ := chkS_zero hchk
  have h46 := chk_46 hchk
  have hT : ((((T0.add 72 SFirst).add 69 SLast).add 39 SNext).addY (Yself Tryd.prog)).ok Tryd.prog := Tab.addYself_ok (Tab.add_ok (Tab.add_ok (Tab.add_ok (T0_ok _) runs_span_walk_first) runs_span_last) runs_span_Next)
  refine CallW.of_body Tryd.func93 (by decide) rfl (by simp [Tryd.f93]) ?_
  obtain ⟨L, hL⟩ : ∃ L, L = wList f h1 l1 h2 l2 := ⟨_, rfl⟩
  rw [← hL] at hround hfin
  refine W.block (W.loop (ι := WI c f h2 l2 L I) (fun i => walkSt b c i.u) (fun i => L.length - i.k) ⟨s, 0, h1, l1, ⟨hbox, hlt, ⟨s, hI0, Nat.le_refl _, fun _ _ _ => rfl⟩, hin1, hc1, (cmpA_le hin1 hin2).1 hle, by rw [hL]; rfl⟩⟩ ?_ ?_)
  · refine Wk.le ⟨fun t => ?_, fun _ _ h => h, Nat.le_refl _, rfl, rfl, rfl, fun _ => rfl⟩
    right
    simp [St.enter, initTm]
    rcases t with _ | _ | t <;> simp
  · rintro ⟨u, k, h, l, hu⟩
    have hub := hu.hp
    have hul := hu.lt
    obtain ⟨s0, hI, hbut⟩ := hu.inv
    obtain ⟨g1, g2, g3, g4⟩ := fst_step hu.hin hin2 hu.hc hu.le
    have hcn : ∀ m, (c = u.nx + m) = False := fun m => by simp; omega
    have hchk' : chkS f h l h2 l2 = 0 := by
      unfold chkS
      rw [if_neg (by rw [wid0]; omega), if_pos ⟨hu.hc, hc2, (cmpA_le hu.hin hin2).2 hu.le⟩]
    have hfst : SFirst [.agg [.int .u8 f, .int .u64 h, .int .u64 l, .int .u64 h2, .int .u64 l2]] = some ⟨.agg [.int .u8 f, .int .u64 h, .int .u64 l, .int .i64 (fstN f h l h2 l2)], []⟩ := by
      simp only [SFirst]
      rw [if_pos ⟨hu.hin, hin2, hchk'⟩]
    have hw := widN_le f
    have hlastr := lastA_rng (k := widN f - fstN f h l h2 l2) hu.hin (by omega)
    have hlast : SLast [.agg [.int .u8 f, .int .u64 h, .int .u64 l, .int .i64 (fstN f h l h2 l2)]] = some ⟨.agg [.int .u64 (lastA h l (widN f - fstN f h l h2 l2)).1, .int .u64 (lastA h l (widN f - fstN f h l h2 l2)).2], []⟩ := by
      simp only [SLast, kw_wid hu.hc]
      rw [if_pos ⟨hu.hin, by omega, by omega⟩]
      rfl
    generalize fstN f h l h2 l2 = n at *
    refine W.block (W.seqE hT mixed M_f93 (by kernel_rfl) ?_)
    simp [Tryd.f93, hub, hcn, hfst]
    refine W.seq (W.seqE hT mixed M_f93 (by kernel_rfl) ?_)
    simp [Tryd.f93, hub, hcn, Yself]
    have hk : L[k]? = some (numA (h, l), widN f - n) := by
      have := hu.rest
      rw [g4] at this
      have e : (L.drop k)[0]? = some (numA (h, l), widN f - n) := by rw [this]; rfl
      simpa using e
    have hrow : (rowW f (numA (h, l), widN f - n)).row = [.int .u8 f, .int .u64 h, .int .u64 l, .int .i64 n] := by
      have e1 : (widN f : Int) - (widN f - n : Nat) = n := by omega
      simp [rowW, PF.row, toA_numA hu.hin.2.2.1 hu.hin.2.2.2, e1]
    show CallY _ _ _ _ _ _
    have hbut1 := hbut.1
    have hbut2 := hbut.2
    refine CallY.mono (K := fun v s'' => v = .bool true ∧ I (k + 1) s'' ∧ u.nx + 8 + 8 + 8 + 8 + 96 ≤ s''.nx ∧ s''.hp c = u.hp c ∧ s''.hp (u.nx + 8 + 8) = some (.box 26 [.int .u8 f, .int .u64 h, .int .u64 l, .int .i64 n])) (X := noX) ?_ ?_ (fun _ _ h => h.elim)
    · rw [← hrow]
      refine CallY.mono (hround k _ s0 _ hk hI ?_) ?_ (fun _ _ h => h)
      · refine ⟨?_, fun x hx hxc => ?_⟩
        · simp
          omega
        · have := hbut2 x hx hxc
          simp [show ¬ x = u.nx + 8 + 8 by omega]
          exact this
      · rintro v s2 ⟨rfl, hI2, hnx2, hkeep⟩
        refine ⟨rfl, hI2, by simpa using hnx2, ?_, ?_⟩
        · have hb2 := hkeep c (.inl rfl)
          simpa [show ¬ c = u.nx + 8 + 8 by omega] using hb2
        · have hp2 := hkeep (u.nx + 8 + 8) (.inr ⟨by omega, by simp⟩)
          simpa using hp2
    · rintro v s2 ⟨rfl, hI2, hnx2, hb2, hp2⟩
      rw [hub] at hb2
      have hc3 : c < s2.nx := by omega
      have hp3 : u.nx + 8 + 8 < s2.nx := by omega
      have hln : numA (lastA h l (widN f - n)) < 2 ^ widN f := by have := (numA_lt hin2 hc2).2; omega
      by_cases e : (lastA h l (widN f - n)).1 = h2 ∧ (lastA h l (widN f - n)).2 = l2
      · simp [Tryd.f93, hb2, hp2, hc3, hp3, hlast, e.1, e.2]
        refine W.of_WE hT mixed M_f93 _ (by kernel_rfl) ?_
        simp [Tryd.f93]
        have hb : numA (h2, l2) = numA (h, l) + 2 ^ (widN f - n) - 1 := by rw [← g2, ← e.1, ← e.2]
        have hlen : L.length = k + 1 := by
          have h1 := hu.rest
          rw [g4, wthN_empty (by omega)] at h1
          have h2 := congrArg List.length h1
          simp at h2
          omega
        refine hfin s2 _ (by rw [hlen]; exact hI2) ⟨?_, fun x hx hxc => ?_⟩
        · simp [St.unmark]
        · simp [St.unmark]
      · have e' : (decide ((lastA h l (widN f - n)).1 = h2) && decide ((lastA h l (widN f - n)).2 = l2)) = false := by simpa using e
        have hlt1 : numA (lastA h l (widN f - n)) < numA (h2, l2) := by
          rcases Int.lt_or_eq_of_le g3 with h3 | h3
          · omega
          · exfalso
            have : lastA h l (widN f - n) = (h2, l2) := numA_inj hlastr.2.2 hin2.2.2 (by rw [g2, h3])
            exact e ⟨by rw [this], by rw [this]⟩
        have hlc := num_adr h46 hlastr hln
        obtain ⟨x, y, hnx, hxy, hxin⟩ := (nextA_num hlastr hlc).1 (by
          have := (numA_lt hin2 hc2).2
          rw [show ((lastA h l (widN f - n)).1, (lastA h l (widN f - n)).2) = lastA h l (widN f - n) from rfl]
          omega)
        rw [show ((lastA h l (widN f - n)).1, (lastA h l (widN f - n)).2) = lastA h l (widN f - n) from rfl] at hxy
        have hnext : SNext [.int .u8 f, .agg [.int .u64 (lastA h l (widN f - n)).1, .int .u64 (lastA h l (widN f - n)).2]] = some ⟨.tup [.agg [.int .u64 x, .int .u64 y], .bool true], []⟩ := by
          simp only [SNext]
          rw [if_pos hlastr, hnx]
        have hxc : cAddr f x y = true := num_adr h46 hxin (by have := (numA_lt hin2 hc2).2; omega)
        have hle2 : numA (x, y) ≤ numA (h2, l2) := by omega
        have hkl : k < L.length := (List.getElem?_eq_some_iff.1 hk).1
        simp [Tryd.f93, hb2, hp2, hc3, hp3, hlast, e']
        refine W.of_WE hT mixed M_f93 _ (by kernel_rfl) ?_
        have hc5 : c < s2.nx + 96 := by omega
        have hp5 : u.nx + 8 + 8 < s2.nx + 96 := by omega
        simp
        refine W.of_WE hT mixed M_f93 _ (by kernel_rfl) ?_
        simp [Tryd.f93, hb2, hp2, hc5, hp5, hlast, hnext]
        refine walk_next b k x y hkl ⟨?_, ?_, ⟨s2, hI2, ?_, fun z hz hzc => ?_⟩, hxin, hxc, hle2, ?_⟩ ?_ ?_ ?_ ?_ ?_ ?_
        · simp
        · simp; omega
        · simp; omega
        · simp [hzc]
        · have h1 := hu.rest
          rw [g4] at h1
          have h2 : L.drop (k + 1) = (L.drop k).drop 1 := by rw [List.drop_drop]
          rw [h2, h1, List.drop_one, List.tail_cons, hxy, g2]
          congr 1
          omega
        all_goals simp

end Go.Proofs.YtbnjijffkjcmcaaDoor.AL
namespace Go.Proofs.YtbnjijffkjcmcaaDoor.AL
open Go
attribute [local simp] qf cv qbin ibin sbin qun retPost rvOk ctV ctPost marksOk retV resAll resOf V.lt ltL V.ren renL V.exp V.exp1 cleanL V.clean closedL V.closed V.cells V.one V.tree
  loadV cellsAt isNC nilQ isSlD isIfD slNew ownRows ownCells V.isOwn slStore srcO qlook mlook mget mstr zval qnone qmake mput lmap isAggD placesOf fillV putCells lstore bound seqParts V.sh shL Blk.sh newV V.ok peqs peq srcRows qbytes byteSl appOk mmV mmR hidE V.fz fzL Blk.fz fzOk and_assoc
attribute [-simp] Int.not_le Int.not_lt Nat.not_le Nat.not_lt
def SAll : List V → Option Res
  | [.agg [.int .u8 f, .int .u64 h, .int .u64 l, .int .u64 h', .int .u64 l']] => some ⟨.fn 93 [] [.ptr 0 0], [.box 119 [.int .u8 f, .int .u64 h, .int .u64 l, .int .u64 h', .int .u64 l']]⟩
  | _ => none
theorem runs_span_walk_all : ∀ args r, SAll args = some r → Runs Tryd.prog 68 args r := by
  intro args r hh
  unfold SAll at hh
  split at hh
  · rename_i f h l h' l'
    cases hh
    refine Runs.of_body Tryd.func68 (by decide) rfl (by simp [Tryd.f68]) ?_
    refine W.of_WE (T0_ok _) mixed M0 _ (by kernel_rfl) ?_
    simp [Tryd.f68]
  · cases hh
/-- What the loop has gathered so far: block 0 leads to it. -/
def OutAt (rows : List (List V)) (u : St) : Prop := (rows = [] ∧ u.hp 0 = some (.box 66 [.nils])) ∨ ∃ o, 4 ≤ o ∧ o < u.nx ∧ u.hp 0 = some (.box 66 [.own o]) ∧ u.hp o = some (.sl 4 26 rows)
theorem runs_span_Prefixes : ∀ args r, SPre args = some r → Runs Tryd.prog 35 args r := by
  intro args r hh
  unfold SPre at hh
  split at hh
  · rename_i f h1 l1 h2 l2
    split at hh
    · rename_i hin
      obtain ⟨hin1, hin2⟩ := hin
      have hT : ((T0.add 36 SChkS).add 68 SAll).ok Tryd.prog := Tab.add_ok (Tab.add_ok (T0_ok _) runs_span_Check) runs_span_walk_all
      split at hh
      · rename_i hc
        cases hh
        refine Runs.of_body Tryd.func35 (by decide) rfl (by simp [Tryd.f35]) ?_
        refine W.cut True [(0, .int .u8 f), (3, .ptr 0 0)] [.box 65 [.int .u64 h1, .int .u64 l1, .int .u64 h2, .int .u64 l2]] 25 ?_ ?_
        · refine W.of_WE hT mixed M0 _ (by kernel_rfl) ?_
          simp [Tryd.f35]
        · intro _
          refine W.cut True [(0, .int .u8 f), (3, .ptr 0 0)] [.box 65 [.int .u64 h1, .int .u64 l1, .int .u64 h2, .int .u64 l2]] 25 ?_ ?_
          · refine W.of_WE hT mixed M0 _ (by kernel_rfl) ?_
            simp [Tryd.f35, SChkS, hin1, hin2, hc]
          · intro _
            refine W.seqE hT mixed M0 (by kernel_rfl) ?_
            simp [Tryd.f35]
            refine W.seq (W.cut True [(7, .ptr 0 0), (18, .fn 93 [] [.ptr 1 0])] [.box 66 [.nils], .box 119 [.int .u8 f, .int .u64 h1, .int .u64 l1, .int .u64 h2, .int .u64 l2]] 25 ?_ ?_)
            · refine W.of_WE hT mixed M0 _ (by kernel_rfl) ?_
              simp [Tryd.f35, SAll]
            · intro _
              refine W.block (W.rangeFunc' (n := 2) (by simp) (gf := 93) (fi := []) (caps := [.ptr 1 0]) (by simp) (by simp) Tryd.func93 (by decide) rfl ?_)
              intro fn Lp hLp
              refine all1_ok ⟨3, 1, f, h1, l1, h2, l2, rfl, by simp, by simp, hin1, hin2, hc, fun k u => OutAt (((wList f h1 l1 h2 l2).take k).map fun p => (rowW f p).row) u ∧ u.hp 3 = some (Lp .ready none) ∧ u.hp 2 = some (.obj (.deferred (some []))) ∧ 4 ≤ u.nx, ?_, ?_, ?_⟩
              · simp [OutAt]
              · intro k p s0 s' hp hI hbut
                obtain ⟨hout, hb3, hb2, hn4⟩ := hI
                obtain ⟨hbn, hbo⟩ := hbut
                have e3 : s'.hp 3 = some (Lp .ready none) := by rw [hbo 3 (by omega) (by decide)]; exact hb3
                have e2 : s'.hp 2 = some (.obj (.deferred (some []))) := by rw [hbo 2 (by omega) (by decide)]; exact hb2
                have e0 : s'.hp 0 = s0.hp 0 := hbo 0 (by omega) (by decide)
                have htk : (((wList f h1 l1 h2 l2).take (k + 1)).map fun p => (rowW f p).row) = (((wList f h1 l1 h2 l2).take k).map fun p => (rowW f p).row) ++ [(rowW f p).row] := by
                  rw [List.take_add_one, hp]; simp
                have hlen : (((wList f h1 l1 h2 l2).take k).map fun p => (rowW f p).row).length ≤ 300 := by
                  have := wthN_len (a := numA (h1, l1)) (b := numA (h2, l2)) (k := widN f) (N := 0)
                  have hw := widN_le f
                  have e : wList f h1 l1 h2 l2 = wthN (numA (h1, l1)) (numA (h2, l2)) (widN f) 0 := rfl
                  rw [e]; simp; omega
                simp only [htk]
                generalize (((wList f h1 l1 h2 l2).take k).map fun p => (rowW f p).row) = rows at hout hlen ⊢
                refine CallY.of_loop' hLp e3 rfl (by simp) ?_
                refine W.of_WE (T0_ok _) mixed M0 _ (by kernel_rfl) ?_
                have z3 := fresh_ne (show 3 < s'.nx by omega)
                have z0 := fresh_ne (show 0 < s'.nx by omega)
                have z1 := fresh_ne (show 1 < s'.nx by omega)
                have z2 := fresh_ne (show 2 < s'.nx by omega)
                rcases hout with ⟨hr, h0⟩ | ⟨o, ho4, ho, h0, hob⟩
                · rw [h0] at e0
                  simp [rowW, PF.row, e3, z3]
                  refine W.of_WE (T0_ok _) mixed M0 _ (by kernel_rfl) ?_
                  simp [rowW, PF.row, e3, e2, e0, z3, z0, z2, z1]
                  subst hr
                  refine ⟨.inr ⟨s'.nx + 8 + 8 + 8 + 8 + 8, by omega, by simp, by simp [z0, z3], by simp [z0, z3]⟩, by omega, ?_⟩
                  intro x hx1 hx2
                  have zx := fresh_ne hx2
                  simp [zx, show ¬ x = 3 by omega, show ¬ x = 0 by omega]
                · rw [h0] at e0
                  have eo : s'.hp o = some (.sl 4 26 rows) := by rw [hbo o ho (by omega)]; exact hob
                  have zo := fresh_ne (show o < s'.nx by omega)
                  simp [rowW, PF.row, e3, z3]
                  refine W.of_WE (T0_ok _) mixed M0 _ (by kernel_rfl) ?_
                  simp [rowW, PF.row, e3, e0, eo, z3, z0, zo, show ¬ o = 0 by omega, show ¬ o = 3 by omega, show ¬ 3 = o by omega, show ¬ 0 = o by omega, e2, z1, z2, show ¬ 1 = o by omega, show ¬ 2 = o by omega]
                  refine ⟨by omega, by omega, .inr ⟨s'.nx + 8 + 8 + 8 + 8 + 8, by omega, by simp, by simp [z0, z3, zo, show ¬ o = 0 by omega], by simp [z0, z3, zo]⟩, by omega, ?_⟩
                  intro x hx1 hx2
                  have zx := fresh_ne hx2
                  simp [zx, show ¬ x = 3 by omega, show ¬ x = 0 by omega, show ¬ x = o by omega]
              · intro s0 s' hI hbut
                obtain ⟨hout, hb3, hb2, hn4⟩ := hI
                obtain ⟨hbn, hbo⟩ := hbut
                have e3 : s'.hp 3 = some (Lp .ready none) := by rw [hbo 3 (by omega) (by decide)]; exact hb3
                have e2 : s'.hp 2 = some (.obj (.deferred (some []))) := by rw [hbo 2 (by omega) (by decide)]; exact hb2
                have e0 : s'.hp 0 = s0.hp 0 := hbo 0 (by omega) (by decide)
                rw [List.take_length] at hout
                have hne : ((wList f h1 l1 h2 l2).map fun p => (rowW f p).row) ≠ [] := by
                  obtain ⟨hc1, hc2, hle⟩ := chkS_zero hc
                  have := (fst_step (f := f) hin1 hin2 hc1 ((cmpA_le hin1 hin2).1 hle)).2.2.2
                  simp only [wList]
                  rw [this]
                  simp
                obtain ⟨o, ho4, ho, h0, hob⟩ := hout.resolve_left (fun h => hne h.1)
                rw [h0] at e0
                have eo : s'.hp o = some (.sl 4 26 ((wList f h1 l1 h2 l2).map fun p => (rowW f p).row)) := by rw [hbo o ho (by omega)]; exact hob
                refine ⟨.ready, none, e3, by simp, ?_⟩
                show W _ _ _ _
                refine W.of_WE (T0_ok _) mixed M0 _ (by kernel_rfl) ?_
                simp [e0, e2, eo]
                exact ⟨o, by omega, by omega, eo, rfl⟩
      · rename_i hc
        cases hh
        refine Runs.of_body Tryd.func35 (by decide) rfl (by simp [Tryd.f35]) ?_
        refine W.seqE hT mixed M0 (by kernel_rfl) ?_
        simp [Tryd.f35]
        refine W.cut False [] [] 25 ?_ (fun h => h.elim)
        refine W.of_WE hT mixed M0 _ (by kernel_rfl) ?_
        simp [Tryd.f35, SChkS, hin1, hin2, hc]
    · cases hh
  · cases hh

end Go.Proofs.YtbnjijffkjcmcaaDoor.AL
