import Derived.Test.YtbnjijffkjcmcaaGreatDoorZW3
import Derived.Laws.Externs
import Derived.Test.YtbnjijffkjcmcaaGreatDoorZW1
/- What single functions compute: a part of the proof; no conditions. -/
set_option linter.unusedVariables false
set_option linter.unusedSimpArgs false
set_option maxRecDepth 100000
set_option linter.unusedSectionVars false
namespace Go.Proofs.YtbnjijffkjcmcaaGreatDoor.AL
open Go
attribute [local simp] qf cv qbin ibin sbin qun retPost rvOk ctV ctPost marksOk retV resAll resOf V.lt ltL V.ren renL V.exp V.exp1 cleanL V.clean closedL V.closed V.cells V.one V.tree
  loadV cellsAt isNC nilQ isSlD isIfD slNew ownRows ownCells V.isOwn slStore srcO qlook mlook mget mstr zval qnone qmake mput lmap isAggD placesOf fillV putCells lstore bound seqParts V.sh shL Blk.sh newV V.ok peqs peq srcRows qbytes byteSl appOk mmV mmR hidE V.fz fzL Blk.fz fzOk and_assoc
attribute [-simp] Int.not_le Int.not_lt Nat.not_le Nat.not_lt
def SOf : List V → Option Res
  | [.agg [.int .u8 f, .int .u64 h, .int .u64 l, .int .i64 n]] => if inA h l then
      (if chkP f h l n = 0 then some ⟨.tup [.agg [.int .u64 h, .int .u64 l, .int .u64 (lastA h l (widN f - n.toNat)).1, .int .u64 (lastA h l (widN f - n.toNat)).2], .int .i64 0], []⟩
      else some ⟨.tup [.agg [.int .u64 0, .int .u64 0, .int .u64 0, .int .u64 0], .int .i64 (chkP f h l n)], []⟩) else none
  | _ => none
def M_f17 : Md := fun i => if i = 4 then some #[0, 1, 0, 4, 15, 31, 63] else some #[]
@[simp] theorem M_f17_eq {i : Nat} : M_f17 i = (if i = 4 then some #[0, 1, 0, 4, 15, 31, 63] else some #[]) := rfl
theorem runs_span_Of : ∀ args r, SOf args = some r → Runs Tryz.prog 17 args r := by
  intro args r hh
  unfold SOf at hh
  split at hh
  · rename_i f h l n
    split at hh
    · rename_i hin
      have hT : ((T0.add 29 SCheck).add 10 SLast).ok Tryz.prog := Tab.add_ok (Tab.add_ok (T0_ok _) runs_number_Check) runs_span_last
      refine Runs.of_body Tryz.func17 (by decide) rfl (by simp [Tryz.f17]) ?_
      refine W.of_WE hT mixed M_f17 _ (by kernel_rfl) ?_
      by_cases c : chkP f h l n = 0
      · rw [if_pos c] at hh; cases hh
        obtain ⟨j, rfl, hj, hc, _⟩ := chk_zero c
        have hk := kw_wid hc
        simp [Tryz.f17, SCheck, hin, c, SLast, hk, hj]
      · rw [if_neg c] at hh; cases hh
        simp [Tryz.f17, SCheck, hin, c]
    · cases hh
  · cases hh
def M_f21 : Md := fun i => if i = 3 then some #[0, 1, 0, 4, 15, 31, 63] else some #[]
@[simp] theorem M_f21_eq {i : Nat} : M_f21 i = (if i = 3 then some #[0, 1, 0, 4, 15, 31, 63] else some #[]) := rfl
theorem runs_ref02_Of : ∀ args r, SOf args = some r → Runs Tryz.prog 21 args r := by
  intro args r hh
  unfold SOf at hh
  split at hh
  · rename_i f h l n
    split at hh
    · rename_i hin
      have hT : ((T0.add 35 SCheck).add 47 SLastR).ok Tryz.prog := Tab.add_ok (Tab.add_ok (T0_ok _) runs_ref01_Check) runs_ref02_Last
      refine Runs.of_body Tryz.func21 (by decide) rfl (by simp [Tryz.f21]) ?_
      refine W.of_WE hT mixed M_f21 _ (by kernel_rfl) ?_
      by_cases c : chkP f h l n = 0
      · rw [if_pos c] at hh; cases hh
        obtain ⟨j, rfl, hj, hc, _⟩ := chk_zero c
        simp [Tryz.f21, SCheck, hin, c, SLastR, hc, hj]
      · rw [if_neg c] at hh; cases hh
        simp [Tryz.f21, SCheck, hin, c]
    · cases hh
  · cases hh

end Go.Proofs.YtbnjijffkjcmcaaGreatDoor.AL
namespace Go.Proofs.YtbnjijffkjcmcaaGreatDoor.AL
open Go
attribute [local simp] qf cv qbin ibin sbin qun retPost rvOk ctV ctPost marksOk retV resAll resOf V.lt ltL V.ren renL V.exp V.exp1 cleanL V.clean closedL V.closed V.cells V.one V.tree
  loadV cellsAt isNC nilQ isSlD isIfD slNew ownRows ownCells V.isOwn slStore srcO qlook mlook mget mstr zval qnone qmake mput lmap isAggD placesOf fillV putCells lstore bound seqParts V.sh shL Blk.sh newV V.ok peqs peq srcRows qbytes byteSl appOk mmV mmR hidE V.fz fzL Blk.fz fzOk and_assoc
attribute [-simp] Int.not_le Int.not_lt Nat.not_le Nat.not_lt
theorem Runs.of_value {P : Program} [Gl P] {f : FuncId} {args : List V} {v : V} (h : ∀ (E : Env) (us : List Value) (w : World), RL E args us → ∃ u, (callFunc f us.toArray).run P w = .ok (.value u) w ∧ R E v u) : Runs P f args ⟨v, []⟩ := by
  intro E us hD hO hG hargs
  obtain ⟨u, h1, h2⟩ := h E us E.w hargs
  unfold CalledX
  rw [h1]
  exact ⟨E, rfl, ⟨fun b hb => absurd hb (hD b), h2, ⟨fun b x hx => by simp [Res.hp] at hx, fun b b' x x' g hx => by simp [Res.hp] at hx⟩, Ev.refl _ _, fun g _ => Iff.rfl, hO⟩⟩
def addR (x y c : Int) : Int × Int := ((x + y + c) % 18446744073709551616, (x + y + c) / 18446744073709551616)
def SAdd64 : List V → Option Res
  | [.int .u64 x, .int .u64 y, .int .u64 c] => if 0 ≤ x ∧ 0 ≤ y ∧ 0 ≤ c ∧ c ≤ 1 then some ⟨.tup [.int .u64 (addR x y c).1, .int .u64 (addR x y c).2], []⟩ else none
  | _ => none
def subR (x y b : Int) : Int × Int := ((x - y - b) % 18446744073709551616, if x < y + b then 1 else 0)
def SSub64 : List V → Option Res
  | [.int .u64 x, .int .u64 y, .int .u64 c] => if 0 ≤ x ∧ x ≤ 18446744073709551615 ∧ 0 ≤ y ∧ y ≤ 18446744073709551615 ∧ 0 ≤ c ∧ c ≤ 1 then some ⟨.tup [.int .u64 (subR x y c).1, .int .u64 (subR x y c).2], []⟩ else none
  | _ => none
def sub64E : Array Value → Sem Value := fun args => do
  let (x, y, b) ← Extern.MathBitsCarry.three "Sub64" args
  pure (Extern.MathBitsCarry.pair ((x + Extern.MathBitsCarry.m64 - y - b) % Extern.MathBitsCarry.m64) (if x < y + b then 1 else 0))
theorem run_sub64E {P : Program} (x y b : Nat) (hb : b ≤ 1) (w : World) :
    (sub64E #[.int .u64 x, .int .u64 y, .int .u64 b]).run P w =
      .ok (.tuple #[.int .u64 (((x + 18446744073709551616 - y - b) % 18446744073709551616 : Nat) : Int), .int .u64 ((if x < y + b then 1 else 0 : Nat) : Int)]) w := by
  have : b = 0 ∨ b = 1 := by omega
  rcases this with rfl | rfl <;> rfl
/-- The address that is greater by one; is there any? -/
def nextA (f h l : Int) : Int × Int × Bool :=
  let p := addR l 1 0
  let q := addR h 0 p.2
  if cAddr f h l = true ∧ cAddr f q.1 p.1 = true ∧ ¬ q.2 = 1 then (q.1, p.1, true) else (0, 0, false)
def SNext : List V → Option Res
  | [.int .u8 f, .agg [.int .u64 h, .int .u64 l]] => if inA h l then some ⟨.tup [.agg [.int .u64 (nextA f h l).1, .int .u64 (nextA f h l).2.1], .bool (nextA f h l).2.2], []⟩ else none
  | _ => none
def prevA (h l : Int) : Int × Int × Bool :=
  let p := subR l 1 0
  let q := subR h 0 p.2
  if q.2 = 1 then (0, 0, false) else (q.1, p.1, true)
def SPrev : List V → Option Res
  | [.agg [.int .u64 h, .int .u64 l]] => if inA h l then some ⟨.tup [.agg [.int .u64 (prevA h l).1, .int .u64 (prevA h l).2.1], .bool (prevA h l).2.2], []⟩ else none
  | _ => none
end Go.Proofs.YtbnjijffkjcmcaaGreatDoor.AL
namespace Go.Proofs.YtbnjijffkjcmcaaGreatDoor.AL
open Go
attribute [local simp] qf cv qbin ibin sbin qun retPost rvOk ctV ctPost marksOk retV resAll resOf V.lt ltL V.ren renL V.exp V.exp1 cleanL V.clean closedL V.closed V.cells V.one V.tree
  loadV cellsAt isNC nilQ isSlD isIfD slNew ownRows ownCells V.isOwn slStore srcO qlook mlook mget mstr zval qnone qmake mput lmap isAggD placesOf fillV putCells lstore bound seqParts V.sh shL Blk.sh newV V.ok peqs peq srcRows qbytes byteSl appOk mmV mmR hidE V.fz fzL Blk.fz fzOk and_assoc
attribute [-simp] Int.not_le Int.not_lt Nat.not_le Nat.not_lt
theorem ltge (a b : Int) : a < b ∨ b ≤ a := by omega
theorem nextA_num {f h l : Int} (hin : inA h l) (hc : cAddr f h l = true) :
    (numA (h, l) + 1 < 2 ^ widN f → ∃ x y, nextA f h l = (x, y, true) ∧ numA (x, y) = numA (h, l) + 1 ∧ inA x y) ∧ (2 ^ widN f ≤ numA (h, l) + 1 → nextA f h l = (0, 0, false)) := by
  obtain ⟨h0, h1, l0, l1⟩ := hin
  rcases cAddr_46 hc with rfl | rfl
  · obtain ⟨rfl, hl⟩ := cAddr_4 hc rfl
    have ew : (2 : Int) ^ widN 4 = 4294967296 := rfl
    have e1 : addR l 1 0 = (l + 1, 0) := by unfold addR; congr 1 <;> omega
    have e2 : addR 0 0 0 = (0, 0) := rfl
    have e3 : ∀ y : Int, cAddr 4 0 y = decide (y < 4294967296) := fun y => by simp [cAddr]
    unfold nextA
    simp only [e1, e2, hc, e3, numA, ew]
    refine ⟨fun hlt => ⟨0, l + 1, ?_, by omega, ?_⟩, fun hge => ?_⟩
    · rw [if_pos ⟨trivial, by simp; omega, by omega⟩]
    · unfold inA; omega
    · rw [if_neg]
      simp
      omega
  · have ew : (2 : Int) ^ widN 6 = 340282366920938463463374607431768211456 := rfl
    have e3 : ∀ x y : Int, cAddr 6 x y = true := fun x y => rfl
    unfold nextA addR
    simp only [e3, numA, ew, true_and]
    refine ⟨fun hlt => ⟨(h + 0 + (l + 1 + 0) / 18446744073709551616) % 18446744073709551616, (l + 1 + 0) % 18446744073709551616, ?_, by omega, ?_⟩, fun hge => ?_⟩
    · rw [if_pos (by omega)]
    · unfold inA; omega
    · rw [if_neg (by omega)]
theorem prevA_num {h l : Int} (hin : inA h l) : (0 < numA (h, l) → ∃ x y, prevA h l = (x, y, true) ∧ numA (x, y) = numA (h, l) - 1 ∧ inA x y) ∧ (numA (h, l) = 0 → prevA h l = (0, 0, false)) := by
  obtain ⟨h0, h1, l0, l1⟩ := hin
  unfold prevA subR numA
  simp only
  refine ⟨fun hlt => ?_, fun hz => ?_⟩
  · by_cases hl : l = 0
    · refine ⟨h - 1, 18446744073709551615, ?_, by omega, by unfold inA; omega⟩
      subst hl
      rw [if_pos (show (0 : Int) < 1 + 0 by omega), if_neg (show ¬ (if h < 0 + 1 then (1 : Int) else 0) = 1 by split <;> omega)]
      congr 1
      · omega
    · refine ⟨h, l - 1, ?_, by omega, by unfold inA; omega⟩
      rw [if_neg (show ¬ l < 1 + 0 by omega), if_neg (show ¬ (if h < 0 + 0 then (1 : Int) else 0) = 1 by split <;> omega)]
      congr 1
      · omega
      · congr 1; omega
  · have : h = 0 := by omega
    have : l = 0 := by omega
    subst h l
    rfl
theorem adrOf_all {N : Int} {w : Nat} (hw : w ≤ 128) (hN : 0 ≤ N) (hN' : N < 2 ^ w) : numA (adrOf ((List.range w).map fun i => N / 2 ^ (w - 1 - i) % 2)) = N := by
  have h := adrOf_bits N w w hw (Nat.le_refl _) hN hN' w (Nat.le_refl _)
  rw [if_pos (Nat.le_refl _), Nat.sub_self] at h
  have e : ((List.range w).map fun i => N / 2 ^ (w - 1 - i) % 2) = (List.range w).map fun i => if i < w then N / 2 ^ (w - 1 - i) % 2 else 0 := by
    apply List.map_congr_left
    intro i hi
    rw [if_pos (List.mem_range.1 hi)]
  rw [e, h]
  simp
theorem bits_rng (w : Nat) (f : Nat → Int) (h : ∀ i, i < w → f i = 0 ∨ f i = 1) : inA (adrOf ((List.range w).map f)).1 (adrOf ((List.range w).map f)).2 := by
  have := adrOf_bd ((List.range w).map f) (by
      intro b hb
      simp only [List.mem_map, List.mem_range] at hb
      obtain ⟨i, hi, rfl⟩ := hb
      exact h i hi) (0, 0) (by simp)
  exact this
theorem next_some {f h l : Int} {k : Nat} (hin : inA h l) (hc : cAddr f h l = true) (hk : k < widN f) (h1 : ∀ m, m < k → bt h l m = 1) (h0 : bt h l k = 0) :
    nextA f h l = ((adrOf ((List.range (widN f)).map fun i => if widN f - 1 - i < k then 0 else if widN f - 1 - i = k then 1 else bt h l (widN f - 1 - i))).1,
      (adrOf ((List.range (widN f)).map fun i => if widN f - 1 - i < k then 0 else if widN f - 1 - i = k then 1 else bt h l (widN f - 1 - i))).2, true) := by
  have hn := numA_lt hin hc
  have hnx := (nextA_num hin hc).1
  have l0 := hin.2.2.1
  have l1 := hin.2.2.2
  simp only [bt_num l0 l1] at h1 h0 ⊢
  have hs := succ_bits h1 h0
  have hlt : numA (h, l) + 1 < 2 ^ widN f := by
    rcases ltge (numA (h, l) + 1) (2 ^ widN f) with hh | hh
    · exact hh
    · exfalso
      have e : numA (h, l) + 1 = 1 * 2 ^ widN f := by omega
      have := hs k
      rw [e, mul_bit_lt hk] at this
      simp at this
  obtain ⟨x, y, e, hxy, hxy'⟩ := hnx hlt
  simp only [← hs]
  have ha := adrOf_all (w := widN f) (widN_le f) (N := numA (h, l) + 1) (by omega) hlt
  have hr := bits_rng (widN f) (fun i => (numA (h, l) + 1) / 2 ^ (widN f - 1 - i) % 2) (fun i _ => by omega)
  have := numA_inj (p := (x, y)) (q := adrOf ((List.range (widN f)).map fun i => (numA (h, l) + 1) / 2 ^ (widN f - 1 - i) % 2)) hxy'.2.2 hr.2.2 (by rw [hxy, ha])
  rw [e, ← this]
theorem next_none {f h l : Int} (hin : inA h l) (hc : cAddr f h l = true) (h1 : ∀ m, m < widN f → bt h l m = 1) : nextA f h l = (0, 0, false) := by
  have hn := numA_lt hin hc
  refine (nextA_num hin hc).2 ?_
  have l0 := hin.2.2.1
  have l1 := hin.2.2.2
  simp only [bt_num l0 l1] at h1
  obtain ⟨q, hq⟩ := ones_mul _ h1
  have hp := ipow_pos (widN f)
  have : 0 < q := by
    rcases ltge 0 q with h | h
    · exact h
    · have : q * 2 ^ widN f ≤ 0 := Int.mul_nonpos_of_nonpos_of_nonneg h (by omega)
      omega
  have : 1 * 2 ^ widN f ≤ q * 2 ^ widN f := Int.mul_le_mul_of_nonneg_right (by omega) (by omega)
  omega
theorem prev_some {h l : Int} {k : Nat} (hin : inA h l) (hk : k < 128) (h1 : ∀ m, m < k → bt h l m = 0) (h0 : bt h l k = 1) :
    prevA h l = ((adrOf ((List.range 128).map fun i => if 127 - i < k then 1 else if 127 - i = k then 0 else bt h l (127 - i))).1,
      (adrOf ((List.range 128).map fun i => if 127 - i < k then 1 else if 127 - i = k then 0 else bt h l (127 - i))).2, true) := by
  have hn := numA_lt (f := 6) hin rfl
  have hpv := (prevA_num hin).1
  have l0 := hin.2.2.1
  have l1 := hin.2.2.2
  simp only [bt_num l0 l1] at h1 h0 ⊢
  have hs := pred_bits h1 h0
  have hlt : 0 < numA (h, l) := by
    rcases ltge 0 (numA (h, l)) with hh | hh
    · exact hh
    · exfalso
      have e : numA (h, l) = 0 := by omega
      rw [e] at h0
      simp at h0
  obtain ⟨x, y, e, hxy, hxy'⟩ := hpv hlt
  simp only [← hs]
  have ha := adrOf_all (w := 128) (by omega) (N := numA (h, l) - 1) (by omega) (by have : (2 : Int) ^ widN 6 = 2 ^ 128 := rfl; omega)
  have hr := bits_rng 128 (fun i => (numA (h, l) - 1) / 2 ^ (127 - i) % 2) (fun i _ => by omega)
  have := numA_inj (p := (x, y)) (q := adrOf ((List.range 128).map fun i => (numA (h, l) - 1) / 2 ^ (127 - i) % 2)) hxy'.2.2 hr.2.2 (by rw [hxy]; exact ha.symm)
  rw [e, ← this]
theorem prev_none {h l : Int} (hin : inA h l) (h1 : ∀ m, m < 128 → bt h l m = 0) : prevA h l = (0, 0, false) := by
  have hn := numA_lt (f := 6) hin rfl
  refine (prevA_num hin).2 ?_
  have l0 := hin.2.2.1
  have l1 := hin.2.2.2
  simp only [bt_num l0 l1] at h1
  obtain ⟨q, hq⟩ := zeros_mul 128 h1
  have e : (2 : Int) ^ widN 6 = 2 ^ 128 := rfl
  rw [e] at hn
  have hp := ipow_pos 128
  have h2 : q < 1 := by
    rcases ltge q 1 with h | h
    · exact h
    · have : 1 * 2 ^ 128 ≤ q * 2 ^ 128 := Int.mul_le_mul_of_nonneg_right h (by omega)
      omega
  have h3 : 0 ≤ q := by
    rcases ltge q 0 with h | h
    · have : q * 2 ^ 128 ≤ (-1) * 2 ^ 128 := Int.mul_le_mul_of_nonneg_right (by omega) (by omega)
      omega
    · exact h
  rw [hq, show q = 0 by omega]
  simp

end Go.Proofs.YtbnjijffkjcmcaaGreatDoor.AL
namespace Go.Proofs.YtbnjijffkjcmcaaGreatDoor.AL
open Go
attribute [local simp] qf cv qbin ibin sbin qun retPost rvOk ctV ctPost marksOk retV resAll resOf V.lt ltL V.ren renL V.exp V.exp1 cleanL V.clean closedL V.closed V.cells V.one V.tree
  loadV cellsAt isNC nilQ isSlD isIfD slNew ownRows ownCells V.isOwn slStore srcO qlook mlook mget mstr zval qnone qmake mput lmap isAggD placesOf fillV putCells lstore bound seqParts V.sh shL Blk.sh newV V.ok peqs peq srcRows qbytes byteSl appOk mmV mmR hidE V.fz fzL Blk.fz fzOk and_assoc
attribute [-simp] Int.not_le Int.not_lt Nat.not_le Nat.not_lt
theorem SBits6 {h l : Int} (hin : inA h l) : SBits [.int .u8 6, .agg [.int .u64 h, .int .u64 l]] = some ⟨.own 0, [.sl 1 3 (rg 128 fun i => bt h l (127 - i))]⟩ := by
  simp only [SBits, if_pos hin]
  rfl
end Go.Proofs.YtbnjijffkjcmcaaGreatDoor.AL
namespace Go.Proofs.YtbnjijffkjcmcaaGreatDoor.AL
open Go
attribute [local simp] qf cv qbin ibin sbin qun retPost rvOk ctV ctPost marksOk retV resAll resOf V.lt ltL V.ren renL V.exp V.exp1 cleanL V.clean closedL V.closed V.cells V.one V.tree
  loadV cellsAt isNC nilQ isSlD isIfD slNew ownRows ownCells V.isOwn slStore srcO qlook mlook mget mstr zval qnone qmake mput lmap isAggD placesOf fillV putCells lstore bound seqParts V.sh shL Blk.sh newV V.ok peqs peq srcRows qbytes byteSl appOk mmV mmR hidE V.fz fzL Blk.fz fzOk and_assoc
attribute [-simp] Int.not_le Int.not_lt Nat.not_le Nat.not_lt
/-- One half of a prefix: its address with bit n (from the highest) set so. -/
def halfA (f h l : Int) (n : Nat) (b : Int) : Int × Int := adrOf ((List.range (widN f)).map fun i => if i = n then b else bt h l (widN f - 1 - i))
def SHalf : List V → Option Res
  | [.agg [.int .u8 f, .int .u64 h, .int .u64 l, .int .i64 n], .int .i64 b] => if inA h l ∧ 0 ≤ n ∧ n < widN f ∧ (b = 0 ∨ b = 1) then
      some ⟨.agg [.int .u8 f, .int .u64 (halfA f h l n.toNat b).1, .int .u64 (halfA f h l n.toNat b).2, .int .i64 (n + 1)], []⟩ else none
  | _ => none
def M_f64 : Md := fun i => if i = 3 then some #[0, 1, 0, 4, 0, 16, 48, 127, 255] else some #[]
@[simp] theorem M_f64_eq {i : Nat} : M_f64 i = (if i = 3 then some #[0, 1, 0, 4, 0, 16, 48, 127, 255] else some #[]) := rfl
theorem runs_ref02_half : ∀ args r, SHalf args = some r → Runs Tryz.prog 64 args r := by
  intro args r hh
  unfold SHalf at hh
  split at hh
  · rename_i f h l n b
    split at hh
    · rename_i hin
      cases hh
      obtain ⟨hin, hn0, hn1, hb⟩ := hin
      obtain ⟨j, rfl⟩ : ∃ j : Nat, n = j := ⟨n.toNat, by omega⟩
      have hw := widN_le f
      have hT : ((T0.add 38 SBits).add 74 SAdr).ok Tryz.prog := Tab.add_ok (Tab.add_ok (T0_ok _) runs_ref01_Bits) runs_ref01_Addr
      have hA := SAdr_rg (w := widN f) (f := fun i => if i = j then b else bt h l (widN f - 1 - i)) (by omega) (by intro i _; split; exact hb; exact bt_01 ..)
      have hw1 : IntKind.i64.wrap ((j : Int) + 1) = j + 1 := wr_i64 (by omega) (by omega)
      refine Runs.of_body Tryz.func64 (by decide) rfl (by simp [Tryz.f64]) ?_
      refine W.of_WE hT mixed M_f64 _ (by kernel_rfl) ?_
      simp [Tryz.f64, SBits, hin, show j < widN f by omega, rg_set, hA, hw1, halfA]
    · cases hh
  · cases hh
/-- Rows of prefixes. -/
structure PF where
  f : Int
  h : Int
  l : Int
  n : Int
  deriving DecidableEq
def PF.row (a : PF) : List V := [.int .u8 a.f, .int .u64 a.h, .int .u64 a.l, .int .i64 a.n]
def pfOf : List V → Option PF
  | [.int .u8 f, .int .u64 h, .int .u64 l, .int .i64 n] => some ⟨f, h, l, n⟩
  | _ => none
theorem pfOf_row (a : PF) : pfOf a.row = some a := rfl
theorem pfOf_eq {r : List V} {a : PF} (h : pfOf r = some a) : r = a.row := by
  unfold pfOf at h
  split at h
  · cases h; rfl
  · cases h
def pfsOf : List (List V) → Option (List PF)
  | [] => some []
  | r :: rows => match pfOf r, pfsOf rows with
    | some a, some l => some (a :: l)
    | _, _ => none
theorem pfsOf_map (l : List PF) : pfsOf (l.map PF.row) = some l := by
  induction l with
  | nil => rfl
  | cons x l ih => simp [pfsOf, ih, pfOf_row]
theorem pfsOf_eq : ∀ {rows : List (List V)} {l : List PF}, pfsOf rows = some l → rows = l.map PF.row
  | [], l, h => by simp [pfsOf] at h; subst h; rfl
  | r :: rows, l, h => by
    unfold pfsOf at h
    split at h
    · rename_i a l' h1 h2
      cases h
      rw [pfOf_eq h1, pfsOf_eq h2]; rfl
    · cases h
def SSameP : List V → Option Res
  | [.rd 4 r1, .rd 4 r2] => match pfsOf r1, pfsOf r2 with
    | some a, some b => if a.length ≤ 1000000 ∧ b.length ≤ 1000000 then some ⟨.bool (decide (a = b)), []⟩ else none
    | _, _ => none
  | _ => none
end Go.Proofs.YtbnjijffkjcmcaaGreatDoor.AL
namespace Go.Proofs.YtbnjijffkjcmcaaGreatDoor.AL
open Go
attribute [local simp] qf cv qbin ibin sbin qun retPost rvOk ctV ctPost marksOk retV resAll resOf V.lt ltL V.ren renL V.exp V.exp1 cleanL V.clean closedL V.closed V.cells V.one V.tree
  loadV cellsAt isNC nilQ isSlD isIfD slNew ownRows ownCells V.isOwn slStore srcO qlook mlook mget mstr zval qnone qmake mput lmap isAggD placesOf fillV putCells lstore bound seqParts V.sh shL Blk.sh newV V.ok peqs peq srcRows qbytes byteSl appOk mmV mmR hidE V.fz fzL Blk.fz fzOk and_assoc
attribute [-simp] Int.not_le Int.not_lt Nat.not_le Nat.not_lt
/-- Does the prefix of n bits that begins the span lie in it? -/
def okF (f h l h' l' : Int) (n : Nat) : Bool := decide (cutA h l (widN f - n) = (h, l)) && decide (cmpA (lastA h l (widN f - n)).1 (lastA h l (widN f - n)).2 h' l' ≤ 0)
def fstN (f h l h' l' : Int) : Nat := ((List.range (widN f)).find? fun n => okF f h l h' l' n).getD (widN f)
theorem fstN_eq {f h l h' l' : Int} {k : Nat} (hk : k ≤ widN f) (h1 : ∀ i, i < k → okF f h l h' l' i = false) (h2 : okF f h l h' l' k = true) : fstN f h l h' l' = k := by
  unfold fstN
  rcases Nat.lt_or_ge k (widN f) with hlt | hge
  · have : (List.range (widN f)).find? (fun n => okF f h l h' l' n) = some k := by
      rw [List.find?_range_eq_some]
      exact ⟨h2, by simpa using hlt, fun i hi => by simp [h1 i hi]⟩
    rw [this]; rfl
  · have e : k = widN f := by omega
    have : (List.range (widN f)).find? (fun n => okF f h l h' l' n) = none := by
      rw [List.find?_eq_none]
      intro i hi
      rw [List.mem_range] at hi
      simp [h1 i (by omega)]
    rw [this, e]; rfl
theorem cut0 {h l : Int} : cutA h l 0 = (h, l) := by unfold cutA; simp
theorem last0 {h l : Int} : lastA h l 0 = (h, l) := by unfold lastA; simp
theorem okF_w {f h l h' l' : Int} (hc : cmpA h l h' l' ≤ 0) : okF f h l h' l' (widN f) = true := by
  unfold okF
  rw [Nat.sub_self, cut0, last0]
  simp [hc]
def SFirst : List V → Option Res
  | [.agg [.int .u8 f, .int .u64 h, .int .u64 l, .int .u64 h', .int .u64 l']] => if inA h l ∧ inA h' l' ∧ chkS f h l h' l' = 0 then some ⟨.agg [.int .u8 f, .int .u64 h, .int .u64 l, .int .i64 (fstN f h l h' l')], []⟩ else none
  | _ => none
theorem chkS_zero {f h l h' l' : Int} (h0 : chkS f h l h' l' = 0) : cAddr f h l = true ∧ cAddr f h' l' = true ∧ cmpA h l h' l' ≤ 0 := by
  unfold chkS at h0
  split at h0
  · omega
  · split at h0
    · assumption
    · omega
def M_f9 : Md := fun i => if i = 4 then some #[0, 1, 0, 4, 12, 31, 63, 127, 255, 127, 639, 1663, 4095, 8191, 16383] else some #[]
@[simp] theorem M_f9_eq {i : Nat} : M_f9 i = (if i = 4 then some #[0, 1, 0, 4, 12, 31, 63, 127, 255, 127, 639, 1663, 4095, 8191, 16383] else some #[]) := rfl
theorem runs_span_walk_first : ∀ args r, SFirst args = some r → Runs Tryz.prog 9 args r := by
  intro args r hh
  unfold SFirst at hh
  split at hh
  · rename_i f h l h' l'
    split at hh
    · rename_i hin
      cases hh
      obtain ⟨hin, hin', hchk⟩ := hin
      obtain ⟨hc, hc', hle⟩ := chkS_zero hchk
      have hw := widN_le f
      have hT : (((T0.add 27 SCut).add 10 SLast).add 26 SCompare).ok Tryz.prog := Tab.add_ok (Tab.add_ok (Tab.add_ok (T0_ok _) runs_number_Cut) runs_span_last) runs_number_Compare
      refine Runs.of_body Tryz.func9 (by decide) rfl (by simp [Tryz.f9]) ?_
      refine W.seqE hT mixed M_f9 (by kernel_rfl) ?_
      simp [Tryz.f9]
      refine W.seqE hT mixed M_f9 (by kernel_rfl) ?_
      simp [Tryz.f9]
      refine W.block (W.for (fun k => ∀ i, i < k → okF f h l h' l' i = false) (fun k => [(1, .ptr 0 0), (2, .ptr 1 0), (3, .int .i64 k)])
        (fun k => [.box 42 [.int .u8 f, .int .u64 h, .int .u64 l, .int .u64 h', .int .u64 l'], .box 39 [.int .u8 0, .int .u64 0, .int .u64 0, .int .i64 0]]) 34 (widN f) (fun i hi => absurd hi (by omega)) ?_ ?_)
      · simp
      · intro k hk hJ
        have hcut : SCut [.int .u8 f, .agg [.int .u64 h, .int .u64 l], .int .i64 k] = some ⟨.tup [.agg [.int .u8 f, .int .u64 (cutA h l (widN f - k)).1, .int .u64 (cutA h l (widN f - k)).2, .int .i64 k], .int .i64 0], []⟩ := by
          simp only [SCut]
          rw [if_pos hin, if_pos ⟨hc, by omega, by omega⟩]
          rfl
        have hw1 : IntKind.i64.wrap ((k : Int) + 1) = k + 1 := wr_i64 (by omega) (by omega)
        have hlast : SLast [.agg [.int .u8 f, .int .u64 h, .int .u64 l, .int .i64 k]] = some ⟨.agg [.int .u64 (lastA h l (widN f - k)).1, .int .u64 (lastA h l (widN f - k)).2], []⟩ := by
          simp only [SLast, kw_wid hc]
          rw [if_pos ⟨hin, by omega, by omega⟩]
          rfl
        refine W.of_WE hT mixed M_f9 _ (by kernel_rfl) ?_
        by_cases c1 : cutA h l (widN f - k) = (h, l)
        · rw [c1] at hcut
          by_cases c2 : cmpA (lastA h l (widN f - k)).1 (lastA h l (widN f - k)).2 h' l' ≤ 0
          · have := fstN_eq hk hJ (by simp [okF, c1, c2])
            simp [Tryz.f9, hcut, hlast, SCompare, c2, this]
          · have hlt : k < widN f := by
              rcases Nat.lt_or_ge k (widN f) with g | g
              · exact g
              · have e : k = widN f := by omega
                rw [e, Nat.sub_self, last0] at c2
                exact absurd hle c2
            simp [Tryz.f9, hcut, hlast, SCompare, c2, hw1, hlt]
            intro i hi
            rcases Nat.lt_or_ge i k with g | g
            · exact hJ i g
            · rw [show i = k by omega]; simp [okF, c2]
        · have hlt : k < widN f := by
            rcases Nat.lt_or_ge k (widN f) with g | g
            · exact g
            · have e : k = widN f := by omega
              rw [e, Nat.sub_self, cut0] at c1
              exact absurd rfl c1
          have c1' : ¬ ((cutA h l (widN f - k)).1 = h ∧ (cutA h l (widN f - k)).2 = l) := fun g => c1 (Prod.ext g.1 g.2)
          have hJ' : ∀ i, i < k + 1 → okF f h l h' l' i = false := by
            intro i hi
            rcases Nat.lt_or_ge i k with g | g
            · exact hJ i g
            · rw [show i = k by omega]; simp [okF, c1]
          have c1b : (decide ((cutA h l (widN f - k)).1 = h) && decide ((cutA h l (widN f - k)).2 = l)) = false := by simpa using c1'
          simp [Tryz.f9, hcut, hw1, hlt, c1b]
          exact hJ'
    · cases hh
  · cases hh

end Go.Proofs.YtbnjijffkjcmcaaGreatDoor.AL
namespace Go.Proofs.YtbnjijffkjcmcaaGreatDoor.AL
open Go
attribute [local simp] qf cv qbin ibin sbin qun retPost rvOk ctV ctPost marksOk retV resAll resOf V.lt ltL V.ren renL V.exp V.exp1 cleanL V.clean closedL V.closed V.cells V.one V.tree
  loadV cellsAt isNC nilQ isSlD isIfD slNew ownRows ownCells V.isOwn slStore srcO qlook mlook mget mstr zval qnone qmake mput lmap isAggD placesOf fillV putCells lstore bound seqParts V.sh shL Blk.sh newV V.ok peqs peq srcRows qbytes byteSl appOk mmV mmR hidE V.fz fzL Blk.fz fzOk and_assoc
attribute [-simp] Int.not_le Int.not_lt Nat.not_le Nat.not_lt
theorem cmpA_lt {a b c d : Int} (h1 : inA a b) (h2 : inA c d) : cmpA a b c d < 0 ↔ numA (a, b) < numA (c, d) := by
  obtain ⟨a0, a1, b0, b1⟩ := h1
  obtain ⟨c0, c1, d0, d1⟩ := h2
  unfold cmpA numA
  simp only
  split
  · omega
  · split <;> omega
theorem cmpA_le {a b c d : Int} (h1 : inA a b) (h2 : inA c d) : cmpA a b c d ≤ 0 ↔ numA (a, b) ≤ numA (c, d) := by
  obtain ⟨a0, a1, b0, b1⟩ := h1
  obtain ⟨c0, c1, d0, d1⟩ := h2
  unfold cmpA numA
  simp only
  split
  · omega
  · split <;> omega
theorem half_num {f h l q : Int} {j k : Nat} (hin : inA h l) (hc : cAddr f h l = true) (hk : j + (k + 1) = widN f) (hq : numA (h, l) = q * 2 ^ (k + 1)) :
    halfA f h l j 0 = (h, l) ∧ halfA f h l j 1 = toA (numA (h, l) + 2 ^ k) ∧ numA (h, l) + 2 ^ k < 2 ^ widN f := by
  have hn := numA_lt hin hc
  have hw := widN_le f
  obtain ⟨h0, h1, l0, l1⟩ := hin
  have e := ipow_succ k
  have hp := ipow_pos k
  have e1 : numA (h, l) + 2 ^ k = (2 * q + 1) * 2 ^ k := by rw [hq, e, Int.add_mul, Int.one_mul, ← Int.mul_assoc, Int.mul_right_comm, Int.mul_comm 2 q]
  have e0 : numA (h, l) = (2 * q) * 2 ^ k := by rw [hq, e, ← Int.mul_assoc, Int.mul_right_comm, Int.mul_comm 2 q]
  have hlt : numA (h, l) + 2 ^ k < 2 ^ widN f := by
    have e2 : (2 : Int) ^ widN f = 2 ^ j * 2 ^ (k + 1) := by rw [← ipow_add]; congr 1; omega
    have g : q * 2 ^ (k + 1) < 2 ^ j * 2 ^ (k + 1) := by rw [← hq, ← e2]; exact hn.2
    have g2 := Int.lt_of_mul_lt_mul_right g (by omega)
    have g3 : (q + 1) * 2 ^ (k + 1) ≤ 2 ^ j * 2 ^ (k + 1) := Int.mul_le_mul_of_nonneg_right (by omega) (by omega)
    rw [Int.add_mul, Int.one_mul, ← hq, ← e2] at g3
    omega
  have b01 : ∀ i, i < widN f → (if i = j then (0 : Int) else bt h l (widN f - 1 - i)) = numA (h, l) / 2 ^ (widN f - 1 - i) % 2 := by
    intro i hi
    split
    · rename_i hij
      subst hij
      rw [hq, show widN f - 1 - i = k by omega, mul_bit_lt (by omega)]
    · exact bt_num l0 l1 _
  have b11 : ∀ i, i < widN f → (if i = j then (1 : Int) else bt h l (widN f - 1 - i)) = (numA (h, l) + 2 ^ k) / 2 ^ (widN f - 1 - i) % 2 := by
    intro i hi
    split
    · rename_i hij
      subst hij
      rw [e1, show widN f - 1 - i = k by omega, mul_bit_ge (Nat.le_refl _), Nat.sub_self]
      simp
    · rename_i hij
      rw [bt_num l0 l1, e1]
      rcases Nat.lt_or_ge (widN f - 1 - i) k with hlt | hge
      · rw [mul_bit_lt hlt, e0, mul_bit_lt hlt]
      · rw [mul_bit_ge hge, e0, mul_bit_ge hge]
        obtain ⟨m, hm⟩ : ∃ m, widN f - 1 - i - k = m + 1 := ⟨widN f - 1 - i - k - 1, by omega⟩
        rw [hm, Nat.add_comm m 1, ← div_div_pow, ← div_div_pow, show (2 * q) / 2 ^ 1 = q by omega, show (2 * q + 1) / 2 ^ 1 = q by omega]
  refine ⟨?_, ?_, hlt⟩
  · unfold halfA
    rw [List.map_congr_left (fun i hi => b01 i (List.mem_range.1 hi))]
    have hr := bits_rng (widN f) (fun i => numA (h, l) / 2 ^ (widN f - 1 - i) % 2) (fun i _ => by omega)
    refine numA_inj hr.2.2 ⟨l0, l1⟩ ?_
    exact adrOf_all hw hn.1 hn.2
  · unfold halfA
    rw [List.map_congr_left (fun i hi => b11 i (List.mem_range.1 hi))]
    have hr := bits_rng (widN f) (fun i => (numA (h, l) + 2 ^ k) / 2 ^ (widN f - 1 - i) % 2) (fun i _ => by omega)
    have hr2 := toA_rng (N := numA (h, l) + 2 ^ k) (by omega) (by
      have : (2 : Int) ^ widN f ≤ 340282366920938463463374607431768211456 := by
        have e3 : (340282366920938463463374607431768211456 : Int) = 2 ^ (128 - widN f) * 2 ^ widN f := by rw [← ipow_add, show 128 - widN f + widN f = 128 by omega]; rfl
        have g := ipow_pos (128 - widN f)
        have g2 : (1 : Int) * 2 ^ widN f ≤ 2 ^ (128 - widN f) * 2 ^ widN f := Int.mul_le_mul_of_nonneg_right (by omega) (by omega)
        omega
      omega)
    refine numA_inj hr.2.2 hr2.2.2 ?_
    rw [numA_toA]
    exact adrOf_all hw (by omega) hlt
theorem toA_adr {f N : Int} (hf : f = 4 ∨ f = 6) (h0 : 0 ≤ N) (h1 : N < 2 ^ widN f) : inA (toA N).1 (toA N).2 ∧ cAddr f (toA N).1 (toA N).2 = true := by
  have hr : N < 340282366920938463463374607431768211456 := by
    rcases hf with rfl | rfl
    · have h1' : N < 4294967296 := h1
      omega
    · exact h1
  refine ⟨toA_rng h0 hr, ?_⟩
  unfold cAddr
  rcases hf with rfl | rfl
  · have h1' : N < 4294967296 := h1
    unfold toA
    simp
    omega
  · simp
def rowW (f : Int) (p : Int × Nat) : PF := ⟨f, (toA p.1).1, (toA p.1).2, (widN f : Int) - p.2⟩
def wRows (f a b : Int) (k : Nat) (N : Int) : List (List V) := (wthN a b k N).map fun p => (rowW f p).row
theorem wRows_len {f a b : Int} {k : Nat} {N : Int} : (wRows f a b k N).length ≤ 2 * k + 2 := by
  unfold wRows
  rw [List.length_map]
  exact wthN_len
def SWth (K : Nat) : List V → Option Res
  | [.agg [.int .u64 h1, .int .u64 l1, .int .u64 h2, .int .u64 l2], .agg [.int .u8 f, .int .u64 h, .int .u64 l, .int .i64 n]] =>
    if inA h1 l1 ∧ inA h2 l2 ∧ inA h l ∧ cAddr f h l = true ∧ 0 ≤ n ∧ n ≤ widN f ∧ widN f - n.toNat < K ∧ numA (h, l) % 2 ^ (widN f - n.toNat) = 0 then
      some ⟨.own 0, [.sl 4 39 (wRows f (numA (h1, l1)) (numA (h2, l2)) (widN f - n.toNat) (numA (h, l)))]⟩ else none
  | _ => none
def M_f34 : Md := fun i => if i = 6 then some #[0, 0, 2, 7, 0, 0, 47, 127, 255, 511] else some #[]
@[simp] theorem M_f34_eq {i : Nat} : M_f34 i = (if i = 6 then some #[0, 0, 2, 7, 0, 0, 47, 127, 255, 511] else some #[]) := rfl
theorem runs_within : ∀ (K : Nat) args r, SWth K args = some r → Runs Tryz.prog 34 args r
  | 0, args, r, hh => by
    unfold SWth at hh
    split at hh
    · split at hh
      · omega
      · cases hh
    · cases hh
  | K + 1, args, r, hh => by
    unfold SWth at hh
    split at hh
    · rename_i h1 l1 h2 l2 f h l n
      split at hh
      · rename_i hin
        cases hh
        obtain ⟨hin1, hin2, hin, hc, hn0, hn1, hK, hal⟩ := hin
        obtain ⟨j, rfl⟩ : ∃ j : Nat, n = j := ⟨n.toNat, by omega⟩
        simp only [Int.toNat_natCast] at hK hal ⊢
        obtain ⟨k, hk⟩ : ∃ k, k = widN f - j := ⟨_, rfl⟩
        rw [← hk] at hK hal ⊢
        have hw := widN_le f
        have hp := ipow_pos k
        have hT : (((((T0.add 47 SLastR).add 50 SCompare).add 63 SInS).add 64 SHalf).add 34 (SWth K)).ok Tryz.prog :=
          Tab.add_ok (Tab.add_ok (Tab.add_ok (Tab.add_ok (Tab.add_ok (T0_ok _) runs_ref02_Last) runs_ref01_Compare) runs_ref02_In) runs_ref02_half) (runs_within K)
        have hlast : SLastR [.agg [.int .u8 f, .int .u64 h, .int .u64 l, .int .i64 j]] = some ⟨.agg [.int .u64 (lastA h l k).1, .int .u64 (lastA h l k).2], []⟩ := by
          simp only [SLastR]
          rw [if_pos ⟨hin, hc, by omega, by omega⟩, hk]
          rfl
        have hLr := lastA_rng (k := k) hin (by omega)
        have hLn := lastA_num hin.2.2.1 hin.2.2.2 (h := h) k
        have hN : numA (h, l) / 2 ^ k * 2 ^ k = numA (h, l) := by
          have := Int.mul_ediv_add_emod (numA (h, l)) (2 ^ k)
          rw [hal, Int.mul_comm] at this
          omega
        rw [hN] at hLn
        refine Runs.of_body Tryz.func34 (by decide) rfl (by simp [Tryz.f34]) ?_
        refine W.seqE hT mixed M_f34 (by kernel_rfl) ?_
        simp [Tryz.f34]
        refine W.seqE hT mixed M_f34 (by kernel_rfl) ?_
        simp [Tryz.f34, hlast]
        have c1 := cmpA_lt hLr hin1
        have c2 := cmpA_lt hin2 hin
        have c3 := cmpA_le hin1 hin
        have c4 := cmpA_le hin hin2
        have c5 := cmpA_le hin1 hLr
        have c6 := cmpA_le hLr hin2
        rw [hLn] at c1 c5 c6
        by_cases hout : numA (h, l) + 2 ^ k - 1 < numA (h1, l1) ∨ numA (h2, l2) < numA (h, l)
        · have hE : wRows f (numA (h1, l1)) (numA (h2, l2)) k (numA (h, l)) = [] := by unfold wRows; rw [wthN_out hout]; rfl
          rw [hE]
          refine W.seq (W.seqE hT mixed M_f34 (by kernel_rfl) ?_)
          by_cases d1 : cmpA (lastA h l k).1 (lastA h l k).2 h1 l1 < 0
          · simp [Tryz.f34, SCompare, d1]
            refine W.cond true (by simp) (fun _ => ?_) (by simp)
            refine W.seqE hT mixed M_f34 (by kernel_rfl) ?_
            simp
            refine W.wk (Wk.adopt 4 4 39 (by omega) (by simp)) ?_
            refine W.of_WE hT mixed M_f34 _ (by kernel_rfl) ?_
            simp [Tryz.f34]
          · have d2 : cmpA h2 l2 h l < 0 := by omega
            simp [Tryz.f34, SCompare, d1, d2]
            refine W.cond true (by simp) (fun _ => ?_) (by simp)
            refine W.seqE hT mixed M_f34 (by kernel_rfl) ?_
            simp
            refine W.wk (Wk.adopt 4 4 39 (by omega) (by simp)) ?_
            refine W.of_WE hT mixed M_f34 _ (by kernel_rfl) ?_
            simp [Tryz.f34]
        · refine W.seqE hT mixed M_f34 (by kernel_rfl) ?_
          have d1 : ¬ cmpA (lastA h l k).1 (lastA h l k).2 h1 l1 < 0 := by omega
          have d2 : ¬ cmpA h2 l2 h l < 0 := by omega
          simp [Tryz.f34, SCompare, d1, d2]
          by_cases hI : numA (h1, l1) ≤ numA (h, l) ∧ numA (h, l) + 2 ^ k - 1 ≤ numA (h2, l2)
          · have hE : wRows f (numA (h1, l1)) (numA (h2, l2)) k (numA (h, l)) = [(⟨f, h, l, j⟩ : PF).row] := by
              unfold wRows; rw [wthN_in hI.1 hI.2]
              have e1 : (widN f : Int) - k = j := by omega
              simp [rowW, toA_numA hin.2.2.1 hin.2.2.2, e1]
            rw [hE]
            refine W.of_WE hT mixed M_f34 _ (by kernel_rfl) ?_
            have d3 : inS h1 l1 h2 l2 h l = true := by simp [inS]; omega
            have d4 : inS h1 l1 h2 l2 (lastA h l k).1 (lastA h l k).2 = true := by simp [inS]; omega
            simp [Tryz.f34, SInS, d3, d4, PF.row]
          · have d3 : (inS h1 l1 h2 l2 h l && inS h1 l1 h2 l2 (lastA h l k).1 (lastA h l k).2) = false := by
              simp [inS]
              omega
            obtain ⟨k', rfl⟩ : ∃ k', k = k' + 1 := by
              cases k with
              | zero => exfalso; apply hI; simp at hout ⊢; omega
              | succ k' => exact ⟨k', rfl⟩
            have hq : numA (h, l) = numA (h, l) / 2 ^ (k' + 1) * 2 ^ (k' + 1) := hN.symm
            obtain ⟨g0, g1, g2⟩ := half_num (j := j) hin hc (by omega) hq
            have hw0 : IntKind.i64.wrap ((j : Int) + 1) = ((j + 1 : Nat) : Int) := by rw [wr_i64 (by omega) (by omega)]; rfl
            have hh0 : SHalf [.agg [.int .u8 f, .int .u64 h, .int .u64 l, .int .i64 j], .int .i64 0] = some ⟨.agg [.int .u8 f, .int .u64 h, .int .u64 l, .int .i64 (j + 1)], []⟩ := by
              simp only [SHalf]
              rw [if_pos ⟨hin, by omega, by omega, by simp⟩, Int.toNat_natCast, g0]
            have hh1 : SHalf [.agg [.int .u8 f, .int .u64 h, .int .u64 l, .int .i64 j], .int .i64 1] = some ⟨.agg [.int .u8 f, .int .u64 (toA (numA (h, l) + 2 ^ k')).1, .int .u64 (toA (numA (h, l) + 2 ^ k')).2, .int .i64 (j + 1)], []⟩ := by
              simp only [SHalf]
              rw [if_pos ⟨hin, by omega, by omega, by simp⟩, Int.toNat_natCast, g1]
            have hp' := ipow_pos k'
            have hnn := numA_lt hin hc
            obtain ⟨hrng, hadr⟩ := toA_adr (f := f) (N := numA (h, l) + 2 ^ k') (cAddr_46 hc) (by omega) g2
            have hal0 : numA (h, l) % 2 ^ k' = 0 := by
              rw [hq, ipow_succ, ← Int.mul_assoc, Int.mul_right_comm]
              exact Int.mul_emod_left _ _
            have hal1 : (numA (h, l) + 2 ^ k') % 2 ^ k' = 0 := by rw [Int.add_emod_right]; exact hal0
            have hr0 : SWth K [.agg [.int .u64 h1, .int .u64 l1, .int .u64 h2, .int .u64 l2], .agg [.int .u8 f, .int .u64 h, .int .u64 l, .int .i64 (j + 1)]] =
                some ⟨.own 0, [.sl 4 39 (wRows f (numA (h1, l1)) (numA (h2, l2)) k' (numA (h, l)))]⟩ := by
              simp only [SWth]
              rw [show widN f - ((j : Int) + 1).toNat = k' by omega, if_pos ⟨hin1, hin2, hin, hc, by omega, by omega, by omega, hal0⟩]
            have hr1 : SWth K [.agg [.int .u64 h1, .int .u64 l1, .int .u64 h2, .int .u64 l2], .agg [.int .u8 f, .int .u64 (toA (numA (h, l) + 2 ^ k')).1, .int .u64 (toA (numA (h, l) + 2 ^ k')).2, .int .i64 (j + 1)]] =
                some ⟨.own 0, [.sl 4 39 (wRows f (numA (h1, l1)) (numA (h2, l2)) k' (numA (h, l) + 2 ^ k'))]⟩ := by
              simp only [SWth]
              rw [show widN f - ((j : Int) + 1).toNat = k' by omega, if_pos ⟨hin1, hin2, hrng, hadr, by omega, by omega, by omega, by
                rw [show ((toA (numA (h, l) + 2 ^ k')).1, (toA (numA (h, l) + 2 ^ k')).2) = toA (numA (h, l) + 2 ^ k') from rfl, numA_toA]; exact hal1⟩]
              · rw [show ((toA (numA (h, l) + 2 ^ k')).1, (toA (numA (h, l) + 2 ^ k')).2) = toA (numA (h, l) + 2 ^ k') from rfl, numA_toA]
            have hE : wRows f (numA (h1, l1)) (numA (h2, l2)) (k' + 1) (numA (h, l)) = wRows f (numA (h1, l1)) (numA (h2, l2)) k' (numA (h, l)) ++ wRows f (numA (h1, l1)) (numA (h2, l2)) k' (numA (h, l) + 2 ^ k') := by
              unfold wRows; rw [wthN_halves hI, List.map_append]
            have b0 := @wRows_len f (numA (h1, l1)) (numA (h2, l2)) k' (numA (h, l))
            have b1 := @wRows_len f (numA (h1, l1)) (numA (h2, l2)) k' (numA (h, l) + 2 ^ k')
            rw [hE]
            generalize wRows f (numA (h1, l1)) (numA (h2, l2)) k' (numA (h, l)) = R0 at *
            generalize wRows f (numA (h1, l1)) (numA (h2, l2)) k' (numA (h, l) + 2 ^ k') = R1 at *
            refine W.cut True [(2, .ptr 0 0), (3, .ptr 1 0)] [.box 26 [.int .u64 h1, .int .u64 l1, .int .u64 h2, .int .u64 l2], .box 39 [.int .u8 f, .int .u64 h, .int .u64 l, .int .i64 j]] 41 ?_ ?_
            · refine W.of_WE hT mixed M_f34 _ (by kernel_rfl) ?_
              cases e3 : inS h1 l1 h2 l2 h l
              · simp [Tryz.f34, SInS, e3]
              · rw [e3, Bool.true_and] at d3
                simp [Tryz.f34, SInS, e3, d3]
            · intro _
              refine W.of_WE hT mixed M_f34 _ (by kernel_rfl) ?_
              have hb : R0.length + R1.length ≤ 1000 := by omega
              simp [Tryz.f34, hh0, hh1, hr0, hr1]
              omega
      · cases hh
    · cases hh

end Go.Proofs.YtbnjijffkjcmcaaGreatDoor.AL
namespace Go.Proofs.YtbnjijffkjcmcaaGreatDoor.AL
open Go
attribute [local simp] qf cv qbin ibin sbin qun retPost rvOk ctV ctPost marksOk retV resAll resOf V.lt ltL V.ren renL V.exp V.exp1 cleanL V.clean closedL V.closed V.cells V.one V.tree
  loadV cellsAt isNC nilQ isSlD isIfD slNew ownRows ownCells V.isOwn slStore srcO qlook mlook mget mstr zval qnone qmake mput lmap isAggD placesOf fillV putCells lstore bound seqParts V.sh shL Blk.sh newV V.ok peqs peq srcRows qbytes byteSl appOk mmV mmR hidE V.fz fzL Blk.fz fzOk and_assoc
attribute [-simp] Int.not_le Int.not_lt Nat.not_le Nat.not_lt
def SPre : List V → Option Res
  | [.int .u8 f, .agg [.int .u64 h1, .int .u64 l1, .int .u64 h2, .int .u64 l2]] => if inA h1 l1 ∧ inA h2 l2 then
      (if chkS f h1 l1 h2 l2 = 0 then some ⟨.tup [.own 0, .int .i64 0], [.sl 4 39 (wRows f (numA (h1, l1)) (numA (h2, l2)) (widN f) 0)]⟩
        else some ⟨.tup [.nils, .int .i64 (chkS f h1 l1 h2 l2)], []⟩) else none
  | _ => none
theorem chk_46 {f h l h' l' : Int} (h0 : chkS f h l h' l' = 0) : f = 4 ∨ f = 6 := cAddr_46 (chkS_zero h0).1
def M_f13 : Md := fun i => some #[]
@[simp] theorem M_f13_eq {i : Nat} : M_f13 i = (some #[]) := rfl
theorem runs_ref02_Prefixes : ∀ args r, SPre args = some r → Runs Tryz.prog 13 args r := by
  intro args r hh
  unfold SPre at hh
  split at hh
  · rename_i f h1 l1 h2 l2
    split at hh
    · rename_i hin
      obtain ⟨hin1, hin2⟩ := hin
      have hw := widN_le f
      have hT : ((T0.add 24 SChkS).add 34 (SWth 129)).ok Tryz.prog := Tab.add_ok (Tab.add_ok (T0_ok _) runs_ref02_Check) (runs_within 129)
      split at hh
      · rename_i hc
        cases hh
        have h46 := chk_46 hc
        have hwth : SWth 129 [.agg [.int .u64 h1, .int .u64 l1, .int .u64 h2, .int .u64 l2], .agg [.int .u8 f, .int .u64 0, .int .u64 0, .int .i64 0]] =
            some ⟨.own 0, [.sl 4 39 (wRows f (numA (h1, l1)) (numA (h2, l2)) (widN f) 0)]⟩ := by
          simp only [SWth]
          rw [if_pos ⟨hin1, hin2, by decide, by rcases h46 with rfl | rfl <;> decide, by omega, by omega, by omega, by simp [numA]⟩]
          simp [numA]
        refine Runs.of_body Tryz.func13 (by decide) rfl (by simp [Tryz.f13]) ?_
        refine W.of_WE hT mixed M_f13 _ (by kernel_rfl) ?_
        simp [Tryz.f13, SChkS, hin1, hin2, hc, hwth]
      · rename_i hc
        cases hh
        refine Runs.of_body Tryz.func13 (by decide) rfl (by simp [Tryz.f13]) ?_
        refine W.of_WE hT mixed M_f13 _ (by kernel_rfl) ?_
        simp [Tryz.f13, SChkS, hin1, hin2, hc]
    · cases hh
  · cases hh

end Go.Proofs.YtbnjijffkjcmcaaGreatDoor.AL
namespace Go.Proofs.YtbnjijffkjcmcaaGreatDoor.AL
open Go
attribute [local simp] qf cv qbin ibin sbin qun retPost rvOk ctV ctPost marksOk retV resAll resOf V.lt ltL V.ren renL V.exp V.exp1 cleanL V.clean closedL V.closed V.cells V.one V.tree
  loadV cellsAt isNC nilQ isSlD isIfD slNew ownRows ownCells V.isOwn slStore srcO qlook mlook mget mstr zval qnone qmake mput lmap isAggD placesOf fillV putCells lstore bound seqParts V.sh shL Blk.sh newV V.ok peqs peq srcRows qbytes byteSl appOk mmV mmR hidE V.fz fzL Blk.fz fzOk and_assoc
attribute [-simp] Int.not_le Int.not_lt Nat.not_le Nat.not_lt
theorem fstN_spec {f h l h' l' : Int} (hw : okF f h l h' l' (widN f) = true) : fstN f h l h' l' ≤ widN f ∧ okF f h l h' l' (fstN f h l h' l') = true ∧ ∀ i, i < fstN f h l h' l' → okF f h l h' l' i = false := by
  unfold fstN
  cases hf : (List.range (widN f)).find? fun n => okF f h l h' l' n with
  | none =>
    rw [List.find?_eq_none] at hf
    refine ⟨Nat.le_refl _, hw, fun i hi => ?_⟩
    have := hf i (List.mem_range.2 hi)
    simpa using this
  | some k =>
    rw [List.find?_range_eq_some] at hf
    simp only [Option.getD_some]
    refine ⟨by have := hf.2.1; rw [List.mem_range] at this; omega, hf.1, fun i hi => ?_⟩
    have := hf.2.2 i hi
    simpa using this
theorem okF_iff {f h l h' l' : Int} (hin : inA h l) (hin' : inA h' l') {n : Nat} : okF f h l h' l' n = true ↔ (∃ q : Int, numA (h, l) = q * 2 ^ (widN f - n)) ∧ numA (h, l) + 2 ^ (widN f - n) - 1 ≤ numA (h', l') := by
  have hw := widN_le f
  have hc := cutA_num hin.2.2.1 hin.2.2.2 (h := h) (widN f - n)
  have hl := lastA_num hin.2.2.1 hin.2.2.2 (h := h) (widN f - n)
  have hlr := lastA_rng (k := widN f - n) hin (by omega)
  have hp := ipow_pos (widN f - n)
  have e1 : cutA h l (widN f - n) = (h, l) ↔ numA (h, l) / 2 ^ (widN f - n) * 2 ^ (widN f - n) = numA (h, l) := by
    constructor
    · intro e; rw [← hc, e]
    · intro e
      refine numA_inj ?_ ⟨hin.2.2.1, hin.2.2.2⟩ (hc.trans e)
      unfold cutA
      split
      · simp
      · have := Int.ediv_mul_le l (b := 2 ^ (widN f - n)) (by omega)
        have h3 : 0 ≤ l / 2 ^ (widN f - n) * 2 ^ (widN f - n) := Int.mul_nonneg (Int.ediv_nonneg hin.2.2.1 (by omega)) (by omega)
        exact ⟨h3, by have := hin.2.2.2; omega⟩
  have e2 := cmpA_le hlr hin'
  unfold okF
  rw [Bool.and_eq_true, decide_eq_true_eq, decide_eq_true_eq, e1, e2, show ((lastA h l (widN f - n)).1, (lastA h l (widN f - n)).2) = lastA h l (widN f - n) from rfl, hl]
  constructor
  · rintro ⟨g1, g2⟩
    exact ⟨⟨_, g1.symm⟩, by rw [g1] at g2; omega⟩
  · rintro ⟨⟨q, g1⟩, g2⟩
    have g3 : numA (h, l) / 2 ^ (widN f - n) * 2 ^ (widN f - n) = numA (h, l) := by rw [g1, Int.mul_ediv_cancel _ (by omega)]
    exact ⟨g3, by rw [g3]; omega⟩
/-- One step of the walk, in numbers. -/
theorem fst_step {f h l h' l' : Int} (hin : inA h l) (hin' : inA h' l') (hc : cAddr f h l = true) (hle : numA (h, l) ≤ numA (h', l')) :
    fstN f h l h' l' ≤ widN f ∧ numA (lastA h l (widN f - fstN f h l h' l')) = numA (h, l) + 2 ^ (widN f - fstN f h l h' l') - 1 ∧ numA (h, l) + 2 ^ (widN f - fstN f h l h' l') - 1 ≤ numA (h', l') ∧
      wthN (numA (h, l)) (numA (h', l')) (widN f) 0 = (numA (h, l), widN f - fstN f h l h' l') :: wthN (numA (h, l) + 2 ^ (widN f - fstN f h l h' l')) (numA (h', l')) (widN f) 0 := by
  obtain ⟨h1, h2, h3⟩ := fstN_spec (okF_w ((cmpA_le hin hin').2 hle) (f := f))
  have hn := numA_lt hin hc
  generalize fstN f h l h' l' = n at *
  have g := (okF_iff hin hin').1 h2
  have hlast := lastA_num hin.2.2.1 hin.2.2.2 (h := h) (widN f - n)
  have hp := ipow_pos (widN f - n)
  obtain ⟨q, hq⟩ := g.1
  have g3 : numA (h, l) / 2 ^ (widN f - n) * 2 ^ (widN f - n) = numA (h, l) := by rw [hq, Int.mul_ediv_cancel _ (by omega)]
  refine ⟨h1, by rw [hlast, g3]; omega, g.2, ?_⟩
  refine wthN_step g.1 g.2 ⟨0, by simp⟩ hn.1 (by rw [Int.zero_add]; exact hn.2) (Nat.sub_le _ _) ?_
  rcases Nat.eq_zero_or_pos n with hn0 | hn0
  · left; omega
  · right
    intro hh
    have hf := h3 (n - 1) (by omega)
    have ht := (okF_iff (f := f) (n := n - 1) hin hin').2 (by rw [show widN f - (n - 1) = widN f - n + 1 by omega]; exact hh)
    rw [hf] at ht
    cases ht

end Go.Proofs.YtbnjijffkjcmcaaGreatDoor.AL
namespace Go.Proofs.YtbnjijffkjcmcaaGreatDoor.AL
open Go
/-! Covering is an order. -/
theorem div_mul_div {x : Int} {a b : Nat} (h : a ≤ b) : x / 2 ^ a * 2 ^ a / 2 ^ b = x / 2 ^ b := by
  obtain ⟨d, rfl⟩ : ∃ d, b = a + d := ⟨b - a, by omega⟩
  have hp := ipow_pos a
  rw [ipow_add, ← Int.ediv_ediv_of_nonneg (Int.le_of_lt hp), ← Int.ediv_ediv_of_nonneg (Int.le_of_lt hp), Int.mul_ediv_cancel _ (by omega)]
theorem cutA_cut {h l : Int} {a b : Nat} (hin : inA h l) (hab : a ≤ b) : cutA (cutA h l a).1 (cutA h l a).2 b = cutA h l b := by
  have r1 := cutA_rng hin a
  have r2 := cutA_rng (show inA (cutA h l a).1 (cutA h l a).2 from r1) b
  have r3 := cutA_rng hin b
  refine numA_inj ⟨r2.2.2.1, r2.2.2.2⟩ ⟨r3.2.2.1, r3.2.2.2⟩ ?_
  rw [cutA_num r1.2.2.1 r1.2.2.2, cutA_num hin.2.2.1 hin.2.2.2, div_mul_div hab, cutA_num hin.2.2.1 hin.2.2.2]
theorem cov_iff {f h l n f' h' l' n' : Int} : covP f h l n f' h' l' n' = true ↔ chkP f h l n = 0 ∧ chkP f' h' l' n' = 0 ∧ f = f' ∧ n ≤ n' ∧ cutA h' l' (widN f - n.toNat) = (h, l) := by
  unfold covP
  simp only [Bool.and_eq_true, decide_eq_true_eq]
theorem cov_self (f h l n : Int) : covP f h l n f h l n = decide (chkP f h l n = 0) := by
  rw [Bool.eq_iff_iff, cov_iff, decide_eq_true_eq]
  constructor
  · intro h; exact h.1
  · intro hc
    obtain ⟨j, rfl, _, _, hcut⟩ := chk_zero hc
    exact ⟨hc, hc, rfl, Int.le_refl _, by rw [Int.toNat_natCast]; exact hcut⟩
theorem cov_anti {f h l n f' h' l' n' : Int} (h1 : covP f h l n f' h' l' n' = true) (h2 : covP f' h' l' n' f h l n = true) : f = f' ∧ h = h' ∧ l = l' ∧ n = n' := by
  obtain ⟨c1, c2, rfl, e1, k1⟩ := cov_iff.1 h1
  obtain ⟨_, _, _, e2, k2⟩ := cov_iff.1 h2
  obtain rfl : n = n' := by omega
  obtain ⟨j, rfl, _, _, hcut⟩ := chk_zero c2
  rw [Int.toNat_natCast, hcut] at k1
  simp only [Prod.mk.injEq] at k1
  exact ⟨rfl, k1.1.symm, k1.2.symm, rfl⟩
theorem cov_trans {f h l n f' h' l' n' f2 h2 l2 n2 : Int} (hin : inA h2 l2) (k1 : covP f h l n f' h' l' n' = true) (k2 : covP f' h' l' n' f2 h2 l2 n2 = true) : covP f h l n f2 h2 l2 n2 = true := by
  obtain ⟨c1, c2, rfl, e1, k1⟩ := cov_iff.1 k1
  obtain ⟨_, c3, rfl, e2, k2⟩ := cov_iff.1 k2
  refine cov_iff.2 ⟨c1, c3, rfl, by omega, ?_⟩
  have := cutA_cut hin (a := widN f - n'.toNat) (b := widN f - n.toNat) (by omega)
  rw [k2] at this
  rw [← this]
  exact k1
theorem cov_tree' {f h l n f' h' l' n' f2 h2 l2 n2 : Int} (hin : inA h2 l2) (k1 : covP f h l n f2 h2 l2 n2 = true) (k2 : covP f' h' l' n' f2 h2 l2 n2 = true) (hn : n ≤ n') : covP f h l n f' h' l' n' = true := by
  obtain ⟨c1, c3, rfl, e1, k1⟩ := cov_iff.1 k1
  obtain ⟨c2, _, rfl, e2, k2⟩ := cov_iff.1 k2
  refine cov_iff.2 ⟨c1, c2, rfl, hn, ?_⟩
  have := cutA_cut hin (a := widN f' - n'.toNat) (b := widN f' - n.toNat) (by omega)
  rw [k2, k1] at this
  exact this
theorem cov_tree {f h l n f' h' l' n' f2 h2 l2 n2 : Int} (hin : inA h2 l2) (k1 : covP f h l n f2 h2 l2 n2 = true) (k2 : covP f' h' l' n' f2 h2 l2 n2 = true) : covP f h l n f' h' l' n' = true ∨ covP f' h' l' n' f h l n = true := by
  rcases Int.le_total n n' with hn | hn
  · exact .inl (cov_tree' hin k1 k2 hn)
  · exact .inr (cov_tree' hin k2 k1 hn)
end Go.Proofs.YtbnjijffkjcmcaaGreatDoor.AL
namespace Go.Proofs.YtbnjijffkjcmcaaGreatDoor.AL
open Go
/-! Addresses in their order; prefixes that are cut. -/
theorem cmpA_num {a b c d : Int} (h1 : inA a b) (h2 : inA c d) : cmpA a b c d = if numA (a, b) < numA (c, d) then -1 else if numA (c, d) < numA (a, b) then 1 else 0 := by
  obtain ⟨a0, a1, b0, b1⟩ := h1
  obtain ⟨c0, c1, d0, d1⟩ := h2
  unfold cmpA numA
  simp only
  repeat' split
  all_goals omega
theorem numA_rng {a b : Int} (h1 : inA a b) : 0 ≤ numA (a, b) ∧ numA (a, b) < 2 ^ 128 := by
  obtain ⟨a0, a1, b0, b1⟩ := h1
  unfold numA
  simp only
  show _ ∧ _ < (340282366920938463463374607431768211456 : Int)
  omega
theorem pow_split {x : Int} (j : Nat) : x / 2 ^ j = 2 * (x / 2 ^ (j + 1)) + x / 2 ^ j % 2 := by
  have : x / 2 ^ (j + 1) = x / 2 ^ j / 2 := by rw [ipow_add, ← Int.ediv_ediv_of_nonneg (Int.le_of_lt (ipow_pos j))]; rfl
  rw [this]; omega
theorem div_lt {x y : Int} {j : Nat} (h : x / 2 ^ j < y / 2 ^ j) : x < y := by
  rcases Int.lt_or_le x y with k | k
  · exact k
  · have := Int.ediv_le_ediv (ipow_pos j) k
    omega
theorem cmp_diff {a b c d : Int} {k : Nat} (h1 : inA a b) (h2 : inA c d) (hk : k < 128) (hs : ∀ i, i < k → bt a b (127 - i) = bt c d (127 - i)) (hd : bt a b (127 - k) ≠ bt c d (127 - k)) :
    cmpA a b c d = bt a b (127 - k) - bt c d (127 - k) := by
  have n1 := numA_rng h1
  have n2 := numA_rng h2
  rw [cmpA_num h1 h2]
  have e1 := bt_num h1.2.2.1 h1.2.2.2 (h := a) (127 - k)
  have e2 := bt_num h2.2.2.1 h2.2.2.2 (h := c) (127 - k)
  have hb := (bits_from (w := 128) (k := 127 - k + 1) (N := numA (a, b)) (M := numA (c, d)) (by omega) n1.1 n1.2 n2.1 n2.2).1 (fun i x1 x2 => by
    have := hs (127 - i) (by omega)
    rw [show 127 - (127 - i) = i by omega, bt_num h1.2.2.1 h1.2.2.2, bt_num h2.2.2.1 h2.2.2.2] at this
    exact this)
  have s1 := pow_split (x := numA (a, b)) (127 - k)
  have s2 := pow_split (x := numA (c, d)) (127 - k)
  have l1 := @div_lt (numA (a, b)) (numA (c, d)) (127 - k)
  have l2 := @div_lt (numA (c, d)) (numA (a, b)) (127 - k)
  rw [e1, e2] at hd ⊢
  rw [hb] at s1
  generalize numA (a, b) / 2 ^ (127 - k) = X at *
  generalize numA (c, d) / 2 ^ (127 - k) = Y at *
  have : X < Y ∨ Y < X := by omega
  rcases this with q | q
  · rw [if_pos (l1 q)]; omega
  · have := l2 q
    rw [if_neg (by omega), if_pos this]; omega
theorem cmp_same {a b c d : Int} (h1 : inA a b) (h2 : inA c d) (hs : ∀ i, i < 128 → bt a b (127 - i) = bt c d (127 - i)) : cmpA a b c d = 0 := by
  have n1 := numA_rng h1
  have n2 := numA_rng h2
  have hb := (bits_from (w := 128) (k := 0) (N := numA (a, b)) (M := numA (c, d)) (by omega) n1.1 n1.2 n2.1 n2.2).1 (fun i x1 x2 => by
    have := hs (127 - i) (by omega)
    rw [show 127 - (127 - i) = i by omega, bt_num h1.2.2.1 h1.2.2.2, bt_num h2.2.2.1 h2.2.2.2] at this
    exact this)
  simp only [Int.pow_zero, Int.ediv_one] at hb
  rw [cmpA_num h1 h2, hb]; simp
theorem cmp_zero {a b c d : Int} : cmpA a b c d = 0 ↔ a = c ∧ b = d := by
  unfold cmpA
  split
  · simp_all
  · split <;> simp_all
theorem cmp_anti (a b c d : Int) : cmpA a b c d + cmpA c d a b = 0 := by
  unfold cmpA
  repeat' split
  all_goals omega
theorem cmp_rng (a b c d : Int) : -1 ≤ cmpA a b c d ∧ cmpA a b c d ≤ 1 := by
  unfold cmpA
  repeat' split
  all_goals omega
theorem cutA_zero (h l : Int) : cutA h l 0 = (h, l) := by simp [cutA]
theorem cAddr_cut {f h l : Int} {k : Nat} (hin : inA h l) (hc : cAddr f h l = true) (hk : k ≤ widN f) : cAddr f (cutA h l k).1 (cutA h l k).2 = true := by
  rcases cAddr_46 hc with rfl | rfl
  · obtain ⟨rfl, hl⟩ := cAddr_4 hc rfl
    have hk' : k ≤ 32 := hk
    have e : cutA 0 l k = (0, l / 2 ^ k * 2 ^ k) := by unfold cutA; rw [if_neg (by omega)]
    have := Int.ediv_mul_le l (Int.ne_of_gt (ipow_pos k))
    rw [e]
    unfold cAddr
    simp
    omega
  · rfl
theorem bt_cut {h l : Int} {k i : Nat} (hin : inA h l) : bt (cutA h l k).1 (cutA h l k).2 i = if k ≤ i then bt h l i else 0 := by
  have hr := cutA_rng hin k
  rw [bt_num hr.2.2.1 hr.2.2.2, bt_num hin.2.2.1 hin.2.2.2]
  rw [show ((cutA h l k).1, (cutA h l k).2) = cutA h l k from rfl, cutA_num hin.2.2.1 hin.2.2.2]
  split
  · rename_i hk; rw [div_mul_div hk]
  · rename_i hk
    obtain ⟨d, rfl⟩ : ∃ d, k = i + (d + 1) := ⟨k - i - 1, by omega⟩
    have hp := ipow_pos i
    rw [ipow_add i (d + 1), Int.mul_comm (2 ^ i) (2 ^ (d + 1)), ← Int.mul_assoc, Int.mul_ediv_cancel _ (by omega), ipow_succ, ← Int.mul_assoc]
    omega
theorem chk_cut {f h l : Int} {j : Nat} (hin : inA h l) (hc : cAddr f h l = true) (hj : j ≤ widN f) : chkP f (cutA h l (widN f - j)).1 (cutA h l (widN f - j)).2 j = 0 := by
  unfold chkP
  have hw : widN f ≠ 0 := by rcases cAddr_46 hc with rfl | rfl <;> decide
  rw [if_neg hw, if_pos ⟨cAddr_cut hin hc (by omega), by omega, by omega⟩, Int.toNat_natCast, cutA_cut hin (Nat.le_refl _), if_pos rfl]
theorem cov_cut {f h l : Int} {j j' : Nat} (hin : inA h l) (hc : cAddr f h l = true) (hj : j ≤ widN f) (hj' : j' ≤ widN f) :
    covP f (cutA h l (widN f - j)).1 (cutA h l (widN f - j)).2 j f (cutA h l (widN f - j')).1 (cutA h l (widN f - j')).2 j' = decide (j ≤ j') := by
  rw [Bool.eq_iff_iff, cov_iff, decide_eq_true_eq]
  constructor
  · intro h; omega
  · intro hjj
    exact ⟨chk_cut hin hc hj, chk_cut hin hc hj', rfl, by omega, by rw [Int.toNat_natCast, cutA_cut hin (by omega)]⟩
end Go.Proofs.YtbnjijffkjcmcaaGreatDoor.AL
