import Derived.Test.YtbnjijffkjcmcaaGreatDoorZW5
import Derived.Test.YtbnjijffkjcmcaaGreatDoorZW3
import Derived.Test.YtbnjijffkjcmcaaGreatDoorZW4
import Derived.Test.YtbnjijffkjcmcaaGreatDoorZW1
/- What single functions compute: a part of the proof; no conditions. -/
set_option linter.unusedVariables false
set_option linter.unusedSimpArgs false
set_option linter.unusedSectionVars false
set_option maxRecDepth 100000
namespace Go.Proofs.YtbnjijffkjcmcaaGreatDoor.AL
open Go
/-! ### Strings of prefixes and of numbers of systems -/
theorem hj_no {c : UInt8} (hc : c.toNat < 48 ∨ (57 < c.toNat ∧ c.toNat < 97) ∨ 102 < c.toNat) (h58 : c ≠ 58) (L : List Nat) (h : ∀ x ∈ L, x < 65536) : c ∉ hj L := by
  intro hm
  unfold hj at hm
  rcases mem_join _ hm with hm | ⟨p, hp, hm⟩
  · simp at hm; exact h58 hm
  · obtain ⟨y, hy, rfl⟩ := List.mem_map.1 hp
    exact dgs_no (by omega) (by omega) (by have := h y hy; omega) hc hm
theorem addrT_no {c : UInt8} (hc : c.toNat < 46 ∨ c.toNat = 47 ∨ (58 < c.toNat ∧ c.toNat < 97) ∨ 102 < c.toNat) (f h l : Nat) : c ∉ addrT f h l := by
  have h58 : c ≠ 58 := by rintro rfl; revert hc; decide
  have h46 : c ≠ 46 := by rintro rfl; revert hc; decide
  have hc' : c.toNat < 48 ∨ (57 < c.toNat ∧ c.toNat < 97) ∨ 102 < c.toNat := by omega
  intro hm
  unfold addrT at hm
  split at hm
  · unfold text6L at hm
    have hG := G8_lt h l
    split at hm
    · exact hj_no hc' h58 _ hG hm
    · rcases List.mem_append.1 hm with hm | hm
      · exact hj_no hc' h58 _ (fun x hx => hG x (List.mem_of_mem_take hx)) hm
      · simp only [List.mem_cons] at hm
        rcases hm with hm | hm | hm
        · exact h58 hm
        · exact h58 hm
        · exact hj_no hc' h58 _ (fun x hx => hG x (List.mem_of_mem_drop hx)) hm
  · unfold t4 at hm
    rcases mem_join _ hm with hm | ⟨p, hp, hm⟩
    · simp at hm; exact h46 hm
    · simp only [List.mem_cons, List.not_mem_nil, or_false] at hp
      have key : ∀ i, c ∉ dgs 10 (b4 l i) := fun i => dgs_no (by omega) (by omega) (by have := b4_lt l i; omega) hc'
      rcases hp with rfl | rfl | rfl | rfl <;> exact key _ hm
theorem cutG_at {c : UInt8} {a : List UInt8} (b : List UInt8) (h : c ∉ a) : cutG [c] (a ++ c :: b) = some (a, b) := by
  rcases cutG_one c (a ++ c :: b) with ⟨_, h2⟩ | ⟨a', b', h1, h2, h3⟩
  · exact absurd (by simp) h2
  · rw [h1]
    have e1 := spl_app b h
    rw [h3, spl_app b' h2] at e1
    simp only [List.cons.injEq] at e1
    obtain ⟨rfl, _⟩ := e1
    have := List.append_cancel_left h3
    simp only [List.cons.injEq, true_and] at this
    rw [this]
def ppT (f h l n : Nat) : List UInt8 := addrT f h l ++ 47 :: dgs 10 n
def ppX (s : List UInt8) (n : Nat) : Option (Nat × Nat × Nat) → Option (Nat × Nat × Nat × Nat)
  | some (f, h, l) => if chkP f h l n = 0 ∧ ppT f h l n = s then some (f, h, l, n) else none
  | none => none
/-- What the program reads as a prefix. -/
def pp (s : List UInt8) : Option (Nat × Nat × Nat × Nat) := match pu 10 255 (Lib.cut s [47]).2.1 with
  | .ok n => ppX s n (pa (Lib.cut s [47]).1)
  | _ => none
theorem chk_le {f h l n : Nat} (hc : chkP f h l n = 0) : n ≤ 128 := by
  obtain ⟨j, e, hj, _⟩ := chk_zero hc
  have := widN_le f
  omega
theorem pp_iff {s : List UInt8} {f h l n : Nat} : pp s = some (f, h, l, n) ↔ vA f h l ∧ chkP f h l n = 0 ∧ ppT f h l n = s := by
  constructor
  · intro e
    unfold pp at e
    split at e
    · rename_i m hm
      cases hp : pa (Lib.cut s [47]).1 with
      | none => rw [hp] at e; cases e
      | some q =>
        obtain ⟨f', h', l'⟩ := q
        rw [hp] at e
        simp only [ppX] at e
        split at e
        · rename_i hh
          cases e
          exact ⟨(pa_iff.1 hp).1, hh⟩
        · cases e
    · cases e
  · rintro ⟨hv, hc, rfl⟩
    have hn := chk_le hc
    have hcut : Lib.cut (ppT f h l n) [47] = (addrT f h l, dgs 10 n, true) := by
      rw [cut_cutG (by simp)]
      unfold ppT
      rw [cutG_at _ (addrT_no (by decide) f h l)]
    unfold pp
    rw [hcut]
    simp only
    rw [pu_dgs (by omega) (by omega) (by omega) (by omega), pa_text hv]
    simp only [ppX]
    rw [if_pos ⟨hc, trivial⟩]
/-- What the reference reads as a prefix. -/
def rpX (x y : List UInt8) : Option (Nat × Nat × Nat) → Option (Nat × Nat × Nat × Nat)
  | some (f, h, l) => if (rnum 10 128 y).2 = true ∧ chkP f h l (rnum 10 128 y).1 = 0 then some (f, h, l, (rnum 10 128 y).1) else none
  | none => none
def rp (s : List UInt8) : Option (Nat × Nat × Nat × Nat) := match spl 47 s with
  | [x, y] => rpX x y (ra x)
  | _ => none
theorem rp_eq (s : List UInt8) : rp s = pp s := by
  apply Option.ext
  rintro ⟨f, h, l, n⟩
  rw [pp_iff]
  constructor
  · intro e
    unfold rp at e
    split at e
    · rename_i x y hs
      have hj := join_spl 47 s
      rw [hs, join_cons2, Lib.join_one] at hj
      cases hp : ra x with
      | none => rw [hp] at e; cases e
      | some q =>
        obtain ⟨f', h', l'⟩ := q
        rw [hp] at e
        simp only [rpX] at e
        split at e
        · rename_i hh
          cases e
          rw [ra_eq] at hp
          obtain ⟨h1, h2⟩ := pa_iff.1 hp
          obtain ⟨h3, _⟩ := (rnum_iff (b := 10) (lim := 128) (by omega) (by omega) (by decide) (by decide) (l := y) (n := (rnum 10 128 y).1)).1 (by rw [← hh.1])
          refine ⟨h1, hh.2, ?_⟩
          unfold ppT
          rw [← h3, h2, ← hj]
          simp
        · cases e
    · cases e
  · rintro ⟨hv, hc, rfl⟩
    have hn := chk_le hc
    have hs : spl 47 (ppT f h l n) = [addrT f h l, dgs 10 n] := by
      unfold ppT
      rw [spl_app _ (addrT_no (by decide) f h l), spl_none (dgs_no (by omega) (by omega) (by omega) (by decide))]
    have hr := (rnum_iff (b := 10) (lim := 128) (by omega) (by omega) (by decide) (by decide) (l := dgs 10 n) (n := n)).2 ⟨rfl, hn⟩
    unfold rp
    rw [hs]
    simp only
    rw [ra_eq, pa_text hv]
    simp only [rpX, hr]
    rw [if_pos ⟨trivial, hc⟩]
def asT (n : Nat) : List UInt8 := 65 :: 83 :: dgs 10 n
/-- What the program reads as a number of a system. -/
def asp (s : List UInt8) : Option Nat := if Lib.hasPrefix s [65, 83] = true then (match pu 10 4294967295 (Lib.trimPrefix s [65, 83]) with
  | .ok n => if asT n = s then some n else none
  | _ => none) else none
theorem hasP_as (r : List UInt8) : Lib.hasPrefix (65 :: 83 :: r) [65, 83] = true ∧ Lib.trimPrefix (65 :: 83 :: r) [65, 83] = r := by
  have h : Lib.hasPrefix (65 :: 83 :: r) [65, 83] = true := by simp [Lib.hasPrefix, List.isPrefixOf]
  exact ⟨h, by unfold Lib.trimPrefix; rw [if_pos h]; rfl⟩
theorem asp_iff {s : List UInt8} {n : Nat} : asp s = some n ↔ n < 4294967296 ∧ asT n = s := by
  constructor
  · intro e
    unfold asp at e
    split at e
    · split at e
      · rename_i m hm
        split at e
        · rename_i h
          cases e
          refine ⟨?_, h⟩
          unfold pu at hm
          split at hm
          · cases hm
          · have := puF_le _ _ _ (Nat.zero_le _) hm
            omega
        · cases e
      · cases e
    · cases e
  · rintro ⟨h, rfl⟩
    obtain ⟨h1, h2⟩ := hasP_as (dgs 10 n)
    unfold asp
    have e : asT n = 65 :: 83 :: dgs 10 n := rfl
    rw [e, if_pos h1, h2, pu_dgs (by omega) (by omega) (by omega) (by omega)]
    simp only
    rw [if_pos e]
def ras (s : List UInt8) : Option Nat := if s.length < 2 ∨ s.take 2 ≠ [65, 83] then none else if (rnum 10 4294967295 (s.drop 2)).2 = true then some (rnum 10 4294967295 (s.drop 2)).1 else none
theorem ras_eq (s : List UInt8) : ras s = asp s := by
  apply Option.ext
  intro n
  rw [asp_iff]
  have hi := fun (l : List UInt8) (n : Nat) => rnum_iff (b := 10) (lim := 4294967295) (by omega) (by omega) (by decide) (by decide) (l := l) (n := n)
  constructor
  · intro e
    unfold ras at e
    split at e
    · cases e
    · rename_i h1
      split at e
      · rename_i h2
        cases e
        obtain ⟨h3, h4⟩ := (hi (s.drop 2) _).1 (by rw [← h2])
        refine ⟨by omega, ?_⟩
        unfold asT
        rw [← h3]
        have ht : s.take 2 = [65, 83] := by
          rcases Classical.em (s.take 2 = [65, 83]) with h | h
          · exact h
          · exact absurd (.inr h) h1
        have := List.take_append_drop 2 s
        rw [ht] at this
        exact this
      · cases e
  · rintro ⟨h, rfl⟩
    have hr := (hi (dgs 10 n) n).2 ⟨rfl, by omega⟩
    unfold ras asT
    rw [if_neg (by simp)]
    simp only [List.drop_succ_cons, List.drop_zero, hr, if_true]
theorem asT_inj {n m : Nat} (hn : n < 4294967296) (hm : m < 4294967296) (h : asT n = asT m) : n = m := by
  unfold asT at h
  simp only [List.cons.injEq, true_and] at h
  exact dgs_inj (by omega) (by omega) (by omega) (by omega) h
end Go.Proofs.YtbnjijffkjcmcaaGreatDoor.AL
namespace Go.Proofs.YtbnjijffkjcmcaaGreatDoor.AL
open Go
/-! Strings of spans. -/
theorem last_num {h l : Int} (hin : inA h l) (k : Nat) : numA (lastA h l k) = numA (h, l) / 2 ^ k * 2 ^ k + (2 ^ k - 1) := lastA_num hin.2.2.1 hin.2.2.2 k
/-- The prefix that begins a span is a prefix. -/
theorem fstN_ok {f h l h' l' : Int} (hw : okF f h l h' l' (widN f) = true) : fstN f h l h' l' ≤ widN f ∧ okF f h l h' l' (fstN f h l h' l') = true := by
  unfold fstN
  cases hf : (List.range (widN f)).find? (fun n => okF f h l h' l' n) with
  | none => exact ⟨Nat.le_refl _, hw⟩
  | some k =>
    rw [List.find?_range_eq_some] at hf
    exact ⟨by have := hf.2.1; simp at this; show k ≤ _; omega, hf.1⟩
theorem fst_chk {f h l h' l' : Int} (hin : inA h l) (hc : chkS f h l h' l' = 0) : chkP f h l (fstN f h l h' l') = 0 ∧ fstN f h l h' l' ≤ widN f := by
  obtain ⟨h1, h2, h3⟩ := chkS_zero hc
  obtain ⟨k1, k2⟩ := fstN_ok (okF_w (f := f) h3)
  refine ⟨?_, k1⟩
  unfold okF at k2
  rw [Bool.and_eq_true, decide_eq_true_eq] at k2
  have := chk_cut hin h1 k1
  rw [k2.1] at this
  exact this
theorem pow_lt {a b : Nat} (h : a < b) : (2 : Int) ^ a < 2 ^ b := by
  rw [← ipow, ← ipow]
  have := Nat.pow_lt_pow_right (a := 2) (by omega) h
  omega
theorem cmp_gt {a b c d : Int} (h1 : inA a b) (h2 : inA c d) (h : numA (c, d) < numA (a, b)) : ¬ cmpA a b c d ≤ 0 := by
  rw [cmpA_num h1 h2, if_neg (by omega), if_pos h]; omega
theorem cmp_le {a b c d : Int} (h1 : inA a b) (h2 : inA c d) (h : numA (a, b) ≤ numA (c, d)) : cmpA a b c d ≤ 0 := by
  rw [cmpA_num h1 h2]
  split
  · omega
  · rw [if_neg (by omega)]; omega
theorem cAddr_last {f h l : Int} {k : Nat} (hin : inA h l) (hc : cAddr f h l = true) (hk : k ≤ widN f) : cAddr f (lastA h l k).1 (lastA h l k).2 = true := by
  have hw := widN_le f
  have hL : inA (lastA h l k).1 (lastA h l k).2 := lastA_rng hin (by omega)
  have hN := last_num hin k
  have hb := numA_lt hin hc
  have hp := ipow_pos k
  have h1 : numA (h, l) / 2 ^ k < 2 ^ (widN f - k) := by
    rw [Int.ediv_lt_iff_lt_mul hp, ← ipow_add, Nat.sub_add_cancel hk]
    exact hb.2
  have h2 : (numA (h, l) / 2 ^ k + 1) * 2 ^ k ≤ 2 ^ (widN f - k) * 2 ^ k := Int.mul_le_mul_of_nonneg_right (by omega) (by omega)
  rw [← ipow_add, Nat.sub_add_cancel hk, Int.add_mul, Int.one_mul] at h2
  rcases cAddr_46 hc with rfl | rfl
  · have h3 : (2 : Int) ^ widN 4 = 4294967296 := rfl
    rw [h3] at h2
    have h4 : numA (lastA h l k) < 4294967296 := by omega
    obtain ⟨a0, a1, b0, b1⟩ := hL
    unfold numA at h4
    unfold cAddr
    simp
    omega
  · unfold cAddr; simp
/-- The first prefix of the span of a prefix is this prefix. -/
theorem fst_last {f h l : Int} {n : Nat} (hin : inA h l) (hc : chkP f h l n = 0) : fstN f h l (lastA h l (widN f - n)).1 (lastA h l (widN f - n)).2 = n ∧ chkS f h l (lastA h l (widN f - n)).1 (lastA h l (widN f - n)).2 = 0 ∧
    inA (lastA h l (widN f - n)).1 (lastA h l (widN f - n)).2 := by
  obtain ⟨j, e, hj, hca, hcut⟩ := chk_zero hc
  obtain rfl : n = j := by omega
  have hw := widN_le f
  have hL : inA (lastA h l (widN f - n)).1 (lastA h l (widN f - n)).2 := lastA_rng hin (by omega)
  have hN := last_num hin (widN f - n)
  have hcN := cutA_num hin.2.2.1 hin.2.2.2 (h := h) (widN f - n)
  rw [hcut] at hcN
  rw [← hcN] at hN
  have hp := ipow_pos (widN f - n)
  have heta : ((lastA h l (widN f - n)).1, (lastA h l (widN f - n)).2) = lastA h l (widN f - n) := rfl
  have hle : cmpA h l (lastA h l (widN f - n)).1 (lastA h l (widN f - n)).2 ≤ 0 := cmp_le hin hL (by rw [heta, hN]; omega)
  refine ⟨?_, ?_, hL⟩
  · refine fstN_eq hj (fun i hi => ?_) ?_
    · unfold okF
      by_cases hci : cutA h l (widN f - i) = (h, l)
      · have hLi : inA (lastA h l (widN f - i)).1 (lastA h l (widN f - i)).2 := lastA_rng hin (by omega)
        have hNi := last_num hin (widN f - i)
        have hcNi := cutA_num hin.2.2.1 hin.2.2.2 (h := h) (widN f - i)
        rw [hci] at hcNi
        rw [← hcNi] at hNi
        have hpp := pow_lt (show widN f - n < widN f - i by omega)
        have := cmp_gt hLi hL (by
          rw [heta, show ((lastA h l (widN f - i)).1, (lastA h l (widN f - i)).2) = lastA h l (widN f - i) from rfl, hN, hNi]; omega)
        simp [this]
      · simp [hci]
    · unfold okF
      rw [Bool.and_eq_true, decide_eq_true_eq, decide_eq_true_eq]
      exact ⟨hcut, cmp_le hL hL (Int.le_refl _)⟩
  · unfold chkS
    have hw0 : widN f ≠ 0 := by rcases cAddr_46 hca with rfl | rfl <;> decide
    rw [if_neg hw0, if_pos ⟨hca, cAddr_last hin hca (by omega), hle⟩]
/-- The string of a span. -/
def spT (f h l h' l' : Nat) : List UInt8 := if lastA h l (widN f - fstN f h l h' l') = ((h' : Int), (l' : Int)) then ppT f h l (fstN f h l h' l') else addrT f h l ++ 45 :: addrT f h' l'
def spX (s : List UInt8) : Option (Nat × Nat × Nat) → Option (Nat × Nat × Nat) → Option (Nat × Nat × Nat × Nat × Nat)
  | some (f, h, l), some (g, h', l') => if f = g ∧ chkS f h l h' l' = 0 ∧ spT f h l h' l' = s then some (f, h, l, h', l') else none
  | _, _ => none
/-- What the program reads as a span. -/
def sp (s : List UInt8) : Option (Nat × Nat × Nat × Nat × Nat) := match pp s with
  | some (f, h, l, n) => some (f, h, l, (lastA h l (widN f - n)).1.toNat, (lastA h l (widN f - n)).2.toNat)
  | none => spX s (pa (Lib.cut s [45]).1) (pa (Lib.cut s [45]).2.1)
theorem vA_inA {f h l : Nat} (hv : vA f h l) : inA (h : Int) (l : Int) ∧ cAddr f h l = true := by
  rcases hv with ⟨rfl, q1, q2⟩ | ⟨rfl, rfl, q2⟩
  · exact ⟨⟨by omega, by omega, by omega, by omega⟩, by unfold cAddr; simp⟩
  · exact ⟨⟨by omega, by omega, by omega, by omega⟩, by unfold cAddr; simp; omega⟩
theorem vA_of {f h l : Nat} (hc : cAddr f h l = true) (hh : h < 18446744073709551616) (hl : l < 18446744073709551616) : vA f h l := by
  rcases cAddr_46 hc with e | e
  · obtain ⟨e1, e2⟩ := cAddr_4 hc e
    exact .inr ⟨by omega, by omega, by omega⟩
  · exact .inl ⟨by omega, hh, hl⟩
theorem ppT_no45 (f h l n : Nat) (hn : n < 18446744073709551616) : (45 : UInt8) ∉ ppT f h l n := by
  unfold ppT
  rw [List.mem_append, List.mem_cons]
  rintro (q | q | q)
  · exact addrT_no (c := 45) (.inl (by decide)) f h l q
  · exact absurd q (by decide)
  · exact dgs_no (b := 10) (by omega) (by omega) hn (c := 45) (.inl (by decide)) q
theorem sp_iff {s : List UInt8} {f h l h' l' : Nat} : sp s = some (f, h, l, h', l') ↔ (h < 18446744073709551616 ∧ l < 18446744073709551616 ∧ h' < 18446744073709551616 ∧ l' < 18446744073709551616) ∧ chkS f h l h' l' = 0 ∧ spT f h l h' l' = s := by
  constructor
  · intro e
    unfold sp at e
    cases hp : pp s with
    | some v =>
      obtain ⟨f2, h2, l2, n⟩ := v
      rw [hp] at e
      simp only [Option.some.injEq, Prod.mk.injEq] at e
      obtain ⟨rfl, rfl, rfl, e1, e2⟩ := e
      obtain ⟨hv, hc, ht⟩ := pp_iff.1 hp
      obtain ⟨hin, hca⟩ := vA_inA hv
      obtain ⟨k1, k2, k3⟩ := fst_last hin hc
      obtain ⟨a0, a1, b0, b1⟩ := k3
      have x1 : (lastA h2 l2 (widN f2 - n)).1 = (h' : Int) := by omega
      have x2 : (lastA h2 l2 (widN f2 - n)).2 = (l' : Int) := by omega
      rw [x1, x2] at k1 k2
      obtain ⟨i0, i1, i2, i3⟩ := hin
      refine ⟨⟨by omega, by omega, by omega, by omega⟩, k2, ?_⟩
      unfold spT
      rw [k1, if_pos (Prod.ext x1 x2)]
      exact ht
    | none =>
      rw [hp] at e
      simp only at e
      unfold spX at e
      split at e
      · rename_i f1 h1 l1 g h2 l2 q1 q2
        split at e
        · rename_i hq
          simp only [Option.some.injEq, Prod.mk.injEq] at e
          obtain ⟨rfl, rfl, rfl, rfl, rfl⟩ := e
          obtain ⟨i0, i1, i2, i3⟩ := (vA_inA (pa_iff.1 q1).1).1
          obtain ⟨j0, j1, j2, j3⟩ := (vA_inA (pa_iff.1 q2).1).1
          exact ⟨⟨by omega, by omega, by omega, by omega⟩, hq.2⟩
        · cases e
      · cases e
  · rintro ⟨⟨r1, r2, r3, r4⟩, hc, ht⟩
    have hin : inA (h : Int) (l : Int) := ⟨by omega, by omega, by omega, by omega⟩
    obtain ⟨c1, c2, c3⟩ := chkS_zero hc
    have v1 := vA_of c1 r1 r2
    have v2 := vA_of c2 r3 r4
    obtain ⟨k1, k2⟩ := fst_chk hin hc
    unfold spT at ht
    split at ht
    · rename_i hl
      have hp : pp s = some (f, h, l, fstN f h l h' l') := pp_iff.2 ⟨v1, k1, ht⟩
      unfold sp
      rw [hp]
      simp only [hl, Int.toNat_natCast]
    · rename_i hl
      have hno : ∀ a b c, (45 : UInt8) ∉ addrT a b c := fun a b c => addrT_no (c := 45) (.inl (by decide)) a b c
      have hp : pp s = none := by
        cases hq : pp s with
        | none => rfl
        | some v =>
          obtain ⟨f2, h2, l2, n⟩ := v
          obtain ⟨_, hcc, ht2⟩ := pp_iff.1 hq
          exfalso
          have := chk_le hcc
          refine ppT_no45 f2 h2 l2 n (by omega) ?_
          rw [ht2, ← ht]
          simp
      have hcut : Lib.cut s [45] = (addrT f h l, addrT f h' l', true) := by
        rw [cut_cutG (by simp), ← ht, cutG_at _ (hno f h l)]
      unfold sp
      rw [hp]
      simp only [hcut, pa_text v1, pa_text v2]
      unfold spX
      simp only
      rw [if_pos ⟨trivial, hc, by unfold spT; rw [if_neg hl, ht]⟩]
end Go.Proofs.YtbnjijffkjcmcaaGreatDoor.AL
namespace Go.Proofs.YtbnjijffkjcmcaaGreatDoor.AL
open Go
attribute [local simp] qf cv qbin ibin sbin qun retPost rvOk ctV ctPost marksOk retV resAll resOf V.lt ltL V.ren renL V.exp V.exp1 cleanL V.clean closedL V.closed V.cells V.one V.tree
  loadV cellsAt isNC nilQ isSlD isIfD slNew ownRows ownCells V.isOwn slStore srcO qlook mlook mget mstr zval qnone qmake mput lmap isAggD placesOf fillV putCells lstore bound seqParts V.sh shL Blk.sh newV V.ok peqs peq srcRows qbytes byteSl appOk mmV mmR hidE V.fz fzL Blk.fz fzOk and_assoc
attribute [-simp] Int.not_le Int.not_lt Nat.not_le Nat.not_lt
/-- A group of an address of 128 bits. -/
def grp (x : Int) (i : Nat) : Int := bAnd .u64 (bShr .u64 x (48 - 16 * (i : Int))) 65535
def grps (h l : Int) : List V := [.int .u64 (grp h 0), .int .u64 (grp h 1), .int .u64 (grp h 2), .int .u64 (grp h 3), .int .u64 (grp l 0), .int .u64 (grp l 1), .int .u64 (grp l 2), .int .u64 (grp l 3)]
def grpK (h l : Int) (k : Nat) : List V := [.int .u64 (if 0 < k then grp h 0 else 0), .int .u64 (if 1 < k then grp h 1 else 0), .int .u64 (if 2 < k then grp h 2 else 0), .int .u64 (if 3 < k then grp h 3 else 0),
  .int .u64 (if 0 < k then grp l 0 else 0), .int .u64 (if 1 < k then grp l 1 else 0), .int .u64 (if 2 < k then grp l 2 else 0), .int .u64 (if 3 < k then grp l 3 else 0)]
def SGrps : List V → Option Res
  | [.agg [.int .u64 h, .int .u64 l]] => some ⟨.agg (grps h l), []⟩
  | _ => none
theorem runs_groups : ∀ args r, SGrps args = some r → Runs Tryz.prog 56 args r := by
  intro args r hh
  unfold SGrps at hh
  split at hh
  · rename_i h l
    cases hh
    refine Runs.of_body Tryz.func56 (by decide) rfl (by simp [Tryz.f56]) ?_
    refine W.seqE (T0_ok _) mixed M0 (by kernel_rfl) ?_
    simp [Tryz.f56]
    refine W.seqE (T0_ok _) mixed M0 (by kernel_rfl) ?_
    simp
    refine W.cut True [(2, .ptr 0 0), (3, .ptr 1 0)] [.box 100 [.int .u64 0, .int .u64 0, .int .u64 0, .int .u64 0, .int .u64 0, .int .u64 0, .int .u64 0, .int .u64 0], .box 100 (grps h l)] 29 ?_ ?_
    · refine W.seqE (T0_ok _) mixed M0 (by kernel_rfl) ?_
      simp
      refine W.block (W.for (fun _ => True) (fun k => [(1, .ptr 0 0), (2, .ptr 1 0), (3, .ptr 2 0), (5, .int .i64 k)]) (fun k => [.box 24 [.int .u64 h, .int .u64 l], .box 100 [.int .u64 0, .int .u64 0, .int .u64 0, .int .u64 0, .int .u64 0, .int .u64 0, .int .u64 0, .int .u64 0], .box 100 (grpK h l k)]) 29 4 trivial ?_ ?_)
      · simp [grpK]
      · intro k hk _
        have w2 : IntKind.i64.wrap 48 = 48 := by decide
        have w3 : IntKind.i64.wrap 32 = 32 := by decide
        have w4 : IntKind.i64.wrap 16 = 16 := by decide
        have w0 : IntKind.i64.wrap 0 = 0 := by decide
        have v1 : IntKind.i64.wrap 1 = 1 := by decide
        have v2 : IntKind.i64.wrap 2 = 2 := by decide
        have v3 : IntKind.i64.wrap 3 = 3 := by decide
        have v4 : IntKind.i64.wrap 4 = 4 := by decide
        have v5 : IntKind.i64.wrap 5 = 5 := by decide
        have v6 : IntKind.i64.wrap 6 = 6 := by decide
        have v7 : IntKind.i64.wrap 7 = 7 := by decide
        refine W.of_WE (T0_ok _) mixed M0 _ (by kernel_rfl) ?_
        match k, hk with
        | 0, _ => simp [grpK, grp, w2, w3, w4, w0, v1, v2, v3, v4, v5, v6, v7]
        | 1, _ => simp [grpK, grp, w2, w3, w4, w0, v1, v2, v3, v4, v5, v6, v7]
        | 2, _ => simp [grpK, grp, w2, w3, w4, w0, v1, v2, v3, v4, v5, v6, v7]
        | 3, _ => simp [grpK, grp, w2, w3, w4, w0, v1, v2, v3, v4, v5, v6, v7]
        | 4, _ => simp [grpK, grps]
    intro _
    refine W.of_WE (T0_ok _) mixed M0 _ (by kernel_rfl) ?_
    simp [grps]
  · cases hh
/-- How many zeros begin at a place. -/
def zrun : List Int → Nat
  | [] => 0
  | x :: l => if x = 0 then zrun l + 1 else 0
def gInts (l : List Int) : List V := l.map fun x => .int .u64 x
@[simp] theorem gInts_len (l : List Int) : (gInts l).length = l.length := by simp [gInts]
@[simp] theorem gInts_get (l : List Int) (i : Nat) (h : i < (gInts l).length) : (gInts l)[i] = .int .u64 (l[i]'(by simpa using h)) := by simp [gInts]
theorem zrun_drop {l : List Int} {i : Nat} (h : i < l.length) : zrun (l.drop i) = if l[i] = 0 then zrun (l.drop (i + 1)) + 1 else 0 := by
  rw [List.drop_eq_getElem_cons h]; rfl
def SRun : List V → Option Res
  | [.int .i64 i, .rptr row 0] => match row with
    | [.int .u64 a, .int .u64 b, .int .u64 c, .int .u64 d, .int .u64 e, .int .u64 f, .int .u64 g, .int .u64 h] => if 0 ≤ i ∧ i ≤ 8 then some ⟨.int .i64 (zrun (([a, b, c, d, e, f, g, h] : List Int).drop i.toNat) : Int), []⟩ else none
    | _ => none
  | _ => none
theorem runs_run : ∀ args r, SRun args = some r → Runs Tryz.prog 57 args r := by
  intro args r hh
  unfold SRun at hh
  split at hh
  · rename_i i0 row
    split at hh
    · rename_i a b c d e f g h
      split at hh
      · rename_i hin
        obtain ⟨i, rfl⟩ := Int.eq_ofNat_of_zero_le hin.1
        cases hh
        obtain ⟨L, hL⟩ : ∃ L : List Int, L = [a, b, c, d, e, f, g, h] := ⟨_, rfl⟩
        have hl8 : L.length = 8 := by rw [hL]; rfl
        have hrow : [V.int .u64 a, .int .u64 b, .int .u64 c, .int .u64 d, .int .u64 e, .int .u64 f, .int .u64 g, .int .u64 h] = gInts L := by rw [hL]; rfl
        rw [hrow, ← hL]
        change Runs _ _ [.int .i64 (i : Int), .rptr (gInts L) 0] ⟨.int .i64 (zrun (L.drop i) : Int), []⟩
        refine Runs.of_body Tryz.func57 (by decide) rfl (by simp [Tryz.f57]) ?_
        refine W.seqE (T0_ok _) mixed M0 (by kernel_rfl) ?_
        simp [Tryz.f57]
        refine W.seqE (T0_ok _) mixed M0 (by kernel_rfl) ?_
        simp
        refine W.cut True [(4, .int .i64 (zrun (L.drop i) : Int))] [] 20 ?_ ?_
        · refine W.block (W.for (fun k => i + k ≤ 8 ∧ zrun (L.drop i) = k + zrun (L.drop (i + k))) (fun k => [(0, .int .i64 i), (1, .rptr (gInts L) 0), (4, .int .i64 k)]) (fun _ => []) 20 8 ⟨by omega, by simp⟩ ?_ ?_)
          · simp
          · intro k hk hJ
            have hw1 : IntKind.i64.wrap ((k : Int) + 1) = k + 1 := wr_i64 (by omega) (by omega)
            have hw2 : IntKind.i64.wrap ((i : Int) + k) = i + k := wr_i64 (by omega) (by omega)
            have hn : ((i : Int) + k).toNat = i + k := by omega
            refine W.of_WE (T0_ok _) mixed M0 _ (by kernel_rfl) ?_
            by_cases hlt : i + k < 8
            · have hlt' : (i : Int) + k < 8 := by omega
              have hlL : i + k < L.length := by omega
              have hz := zrun_drop hlL
              have hnn : (0 : Int) ≤ (i : Int) + k := by omega
              have hd : List.drop (i + k) (gInts L) = .int .u64 L[i + k] :: List.drop (i + k + 1) (gInts L) := by
                rw [List.drop_eq_getElem_cons (by simpa using hlL)]; simp
              by_cases h0 : L[i + k] = 0
              · rw [if_pos h0] at hz
                simp [hlt', hw1, hw2, hn, hlL, hl8, hd, h0, hnn]
                exact ⟨by omega, by omega, by have h9 := hJ.2; rw [hz] at h9; rw [show i + (k + 1) = i + k + 1 from rfl]; omega⟩
              · rw [if_neg h0] at hz
                have he : zrun (L.drop i) = k := by omega
                simp [hlt', hw1, hw2, hn, hlL, hl8, hd, h0, hnn, he]
            · have h8 : i + k = 8 := by omega
              have hz : zrun (L.drop (i + k)) = 0 := by rw [h8, List.drop_eq_nil_of_le (by omega)]; rfl
              have he : zrun (L.drop i) = k := by omega
              have hlt' : ¬ (i : Int) + k < 8 := by omega
              simp [hlt', hw2, he]
        intro _
        refine W.of_WE (T0_ok _) mixed M0 _ (by kernel_rfl) ?_
        simp
      · cases hh
    · cases hh
  · cases hh

end Go.Proofs.YtbnjijffkjcmcaaGreatDoor.AL
namespace Go.Proofs.YtbnjijffkjcmcaaGreatDoor.AL
open Go
attribute [local simp] qf cv qbin ibin sbin qun retPost rvOk ctV ctPost marksOk retV resAll resOf V.lt ltL V.ren renL V.exp V.exp1 cleanL V.clean closedL V.closed V.cells V.one V.tree
  loadV cellsAt isNC nilQ isSlD isIfD slNew ownRows ownCells V.isOwn slStore srcO qlook mlook mget mstr zval qnone qmake mput lmap isAggD placesOf fillV putCells lstore bound seqParts V.sh shL Blk.sh newV V.ok peqs peq srcRows qbytes byteSl appOk mmV mmR hidE V.fz fzL Blk.fz fzOk and_assoc
attribute [-simp] Int.not_le Int.not_lt Nat.not_le Nat.not_lt
/-! FormatUint in base 16. -/
def digs : ByteArray := ⟨#[48, 49, 50, 51, 52, 53, 54, 55, 56, 57, 97, 98, 99, 100, 101, 102, 103, 104, 105, 106, 107, 108, 109, 110, 111, 112, 113, 114, 115, 116, 117, 118, 119, 120, 121, 122]⟩
theorem runs_Tz64_16 : Runs Tryz.prog 108 [.int .u64 16] ⟨.int .i64 4, []⟩ := by
  refine Runs.of_body Tryz.func108 (by decide) rfl (by simp [Tryz.f108]) ?_
  have e1 : IntKind.u64.wrap (-16) = 18446744073709551600 := by decide
  have e2 : bAnd .u64 16 18446744073709551600 = 16 := by decide
  have e3 : IntKind.u64.wrap 4573923408821661840 = 4573923408821661840 := by decide
  have e4 : bShr .u64 4573923408821661840 58 = 15 := by decide
  have e5 : IntKind.i64.wrap 4 = 4 := by decide
  refine W.of_WE (T0_ok _) mixed M0 _ (by kernel_rfl) ?_
  simp [Tryz.f108, e1, e2, e3, e4, e5, tab64]

theorem runs_Tz_16 : Runs Tryz.prog 98 [.int .u64 16] ⟨.int .i64 4, []⟩ := by
  have hT : (T0.add 108 (oneS [.int .u64 16] ⟨.int .i64 4, []⟩)).ok Tryz.prog := Tab.add_ok (T0_ok _) (oneS_ok runs_Tz64_16)
  have ho := oneS_self (args := [.int .u64 16]) (r := ⟨.int .i64 4, []⟩)
  have e1 : IntKind.u64.wrap 16 = 16 := by decide
  refine Runs.of_body Tryz.func98 (by decide) rfl (by simp [Tryz.f98]) ?_
  refine W.of_WE hT mixed M0 _ (by kernel_rfl) ?_
  simp [Tryz.f98, ho]
theorem runs_pow2_16 : Runs Tryz.prog 97 [.int .i64 16] ⟨.bool true, []⟩ := by
  have e1 : IntKind.i64.wrap 15 = 15 := by decide
  have e2 : bAnd .i64 16 15 = 0 := by decide
  refine Runs.of_body Tryz.func97 (by decide) rfl (by simp [Tryz.f97]) ?_
  refine W.of_WE (T0_ok _) mixed M0 _ (by kernel_rfl) ?_
  simp [Tryz.f97, e1, e2]
def hdg (n : Int) : Int := sat digs n
def hx (x : Nat) : Nat → List Int
  | 0 => []
  | k + 1 => hdg ((x / 16 ^ k % 16 : Nat) : Int) :: hx x k
theorem hx_len (x : Nat) : ∀ k, (hx x k).length = k
  | 0 => rfl
  | k + 1 => by simp [hx, hx_len x k]
/-- How many digits come behind the first one. -/
def hkF : Nat → Nat → Nat
  | 0, _ => 0
  | f + 1, x => if x < 16 then 0 else hkF f (x / 16) + 1
def hexL (x : Nat) : List Int := hx x (hkF 16 x + 1)
def hexS (x : Nat) : ByteArray := strR ((hexL x).map fun n => [.int .u8 n])
def arrH (x k : Nat) : List V := (List.replicate (65 - k) 0 ++ hx x k).map (V.int .u8)
theorem arrH_len {x k : Nat} (h : k ≤ 65) : (arrH x k).length = 65 := by simp [arrH, hx_len]; omega
theorem arrH_set {x k : Nat} (h : k ≤ 64) : (arrH x k).set (64 - k) (.int .u8 (hdg ((x / 16 ^ k % 16 : Nat) : Int))) = arrH x (k + 1) := by
  unfold arrH
  rw [← List.map_set, show 65 - k = (64 - k) + 1 by omega, List.replicate_succ', List.append_assoc, List.set_append_right _ _ (by simp)]
  simp [hx, show 65 - (k + 1) = 64 - k by omega]
theorem ints_ren (ns : List Nat) : ∀ l : List Int, renL ns (l.map (V.int .u8)) = l.map (V.int .u8)
  | [] => rfl
  | x :: l => by simp only [List.map_cons, renL, ints_ren ns l, V.ren]
theorem ints_lt (n : Nat) : ∀ l : List Int, ltL n (l.map (V.int .u8)) = true
  | [] => rfl
  | x :: l => by simp only [List.map_cons, ltL, ints_lt n l, V.lt, Bool.and_true]
@[simp] theorem arrH_ren (ns : List Nat) (x k : Nat) : renL ns (arrH x k) = arrH x k := ints_ren ns _
@[simp] theorem arrH_lt (n x k : Nat) : ltL n (arrH x k) = true := ints_lt n _
theorem chunk_ints : ∀ (l : List Int), chunkV 1 l.length (l.map (V.int .u8)) = l.map fun n => [V.int .u8 n]
  | [] => rfl
  | x :: l => by
    simp only [List.length_cons, List.map_cons, chunkV]
    have := chunk_ints l
    simp [this]
theorem arrH_chunk {x K : Nat} (h : K ≤ 64) : List.take (65 - (64 - K)) (List.drop (64 - K) (chunkV 1 65 (arrH x (K + 1)))) = (hx x (K + 1)).map fun n => [V.int .u8 n] := by
  have hl : (List.replicate (65 - (K + 1)) (0 : Int) ++ hx x (K + 1)).length = 65 := by simp [hx_len]; omega
  have := chunk_ints (List.replicate (65 - (K + 1)) (0 : Int) ++ hx x (K + 1))
  rw [hl] at this
  unfold arrH
  rw [this, List.map_append, show 65 - (K + 1) = 64 - K by omega]
  rw [List.drop_left' (by simp), List.take_of_length_le (by simp [hx_len]; omega)]
theorem arrH_tree (x k : Nat) : ∀ c ∈ arrH x k, c.tree = true := by
  intro c hc
  obtain ⟨n, _, rfl⟩ := List.mem_map.1 hc
  rfl
theorem hk_step {f x : Nat} (h : 16 ≤ x) : hkF (f + 1) x = hkF f (x / 16) + 1 := by
  rw [hkF, if_neg (by omega)]
theorem hk_end {f x : Nat} (h : x < 16) : hkF f x = 0 := by
  cases f with
  | zero => rfl
  | succ f => rw [hkF, if_pos h]
noncomputable def SFb16 : List V → Option Res
  | [.nils, .int .u64 x, .int .i64 16, .bool false, .bool false] => ifC (0 ≤ x ∧ x < 18446744073709551616) (some ⟨.tup [.nils, .str (hexS x.toNat)], []⟩)
  | _ => none
def M_f80 : Md := fun i => some #[]
@[simp] theorem M_f80_eq {i : Nat} : M_f80 i = (some #[]) := rfl
theorem runs_formatBits16 : ∀ args r, SFb16 args = some r → Runs Tryz.prog 80 args r := by
  intro args r hh
  unfold SFb16 ifC at hh
  split at hh
  · rename_i x0
    split at hh
    · rename_i hin
      obtain ⟨x, rfl⟩ := Int.eq_ofNat_of_zero_le hin.1
      have hx := hin.2
      cases hh
      change Runs _ _ [.nils, .int .u64 (x : Int), .int .i64 16, .bool false, .bool false] ⟨.tup [.nils, .str (hexS x)], []⟩
      have hT : ((T0.add 98 (oneS [.int .u64 16] ⟨.int .i64 4, []⟩)).add 97 (oneS [.int .i64 16] ⟨.bool true, []⟩)).ok Tryz.prog := Tab.add_ok (Tab.add_ok (T0_ok _) (oneS_ok runs_Tz_16)) (oneS_ok runs_pow2_16)
      have h1 := oneS_self (args := [.int .u64 16]) (r := ⟨.int .i64 4, []⟩)
      have h2 := oneS_self (args := [.int .i64 16]) (r := ⟨.bool true, []⟩)
      have w16 : IntKind.u64.wrap 16 = 16 := by decide
      have w15 : IntKind.u64.wrap 15 = 15 := by decide
      have w4 : IntKind.u64.wrap 4 = 4 := by decide
      have hk0 : x / 16 ^ 15 < 16 := by
        have : (x : Int) < 18446744073709551616 := hx
        omega
      refine Runs.of_body Tryz.func80 (by decide) rfl (by simp [Tryz.f80]) ?_
      refine W.seqE hT mixed M_f80 (by kernel_rfl) ?_
      simp [Tryz.f80]
      refine W.seqE hT mixed M_f80 (by kernel_rfl) ?_
      simp
      refine W.seqE hT mixed M_f80 (by kernel_rfl) ?_
      simp
      refine W.cut True [(1, .int .u64 (x : Int)), (2, .int .i64 16), (3, .bool false), (4, .bool false), (10, .nils), (12, .ptr 0 0), (13, .int .i64 65)] [.box 143 (arrH x 0)] 102 ?_ ?_
      · refine W.of_WE hT mixed M_f80 _ (by kernel_rfl) ?_
        simp
        rfl
      intro _
      refine W.seqE hT mixed M_f80 (by kernel_rfl) ?_
      simp
      have hlen := fun k (h : k ≤ 65) => arrH_len (x := x) h
      refine W.cut (hkF 16 x ≤ 15) [(3, .bool false), (4, .bool false), (10, .nils), (12, .ptr 0 0), (13, .int .i64 (64 - (hkF 16 x : Int)))] [.box 143 (arrH x (hkF 16 x + 1))] 102 ?_ ?_
      · refine W.seqE hT mixed M_f80 (by kernel_rfl) ?_
        simp [h2]
        refine W.cond true (by simp) (fun _ => ?_) (by simp)
        refine W.seqE hT mixed M_f80 (by kernel_rfl) ?_
        simp [h1, w16, w4]
        refine W.seqE hT mixed M_f80 (by kernel_rfl) ?_
        simp [w16]
        refine W.seqE hT mixed M_f80 (by kernel_rfl) ?_
        simp [w16, w15]
        refine W.cut (hkF 16 x ≤ 15 ∧ x / 16 ^ hkF 16 x < 16) [(1, .int .u64 ((x / 16 ^ hkF 16 x : Nat) : Int)), (3, .bool false), (4, .bool false), (10, .nils), (12, .ptr 0 0), (13, .int .i64 (65 - (hkF 16 x : Int)))] [.box 143 (arrH x (hkF 16 x))] 102 ?_ ?_
        · refine W.block (W.for (fun k => k ≤ 15 ∧ hkF 16 x = k + hkF (16 - k) (x / 16 ^ k)) (fun k => [(1, .int .u64 ((x / 16 ^ k : Nat) : Int)), (3, .bool false), (4, .bool false), (10, .nils), (12, .ptr 0 0), (13, .int .i64 (65 - (k : Int))), (14, .int .u64 4), (15, .int .u64 16), (16, .int .u64 15)]) (fun k => [.box 143 (arrH x k)]) 102 16 ⟨by omega, by simp⟩ ?_ ?_)
          · simp
            skip
          · intro k hk hJ
            refine W.of_WE hT mixed M_f80 _ (by kernel_rfl) ?_
            have hw1 : IntKind.i64.wrap (65 - (k : Int) - 1) = 64 - k := by rw [wr_i64 (by omega) (by omega)]; omega
            have hset := arrH_set (x := x) (k := k) (by omega)
            have hl := hlen k (by omega)
            have hz : x / 16 ^ (k + 1) = x / 16 ^ k / 16 := by rw [Nat.pow_succ, ← Nat.div_div_eq_div_mul]
            have hx64 : x / 16 ^ k < 18446744073709551616 := Nat.lt_of_le_of_lt (Nat.div_le_self _ _) (by omega)
            have h15 : k = 15 → x / 16 ^ k < 16 := fun e => by subst e; exact hk0
            obtain ⟨hJ1, hJ2⟩ := hJ
            by_cases he : x / 16 ^ k < 16
            · have hkk : hkF (16 - k) (x / 16 ^ k) = 0 := hk_end he
              have hek : hkF 16 x = k := by omega
              rw [hek]
              generalize x / 16 ^ k = y at *
              have h16' : ¬ (16 : Int) ≤ (y : Int) := by omega
              simp [h16']
              exact ⟨hJ1, he⟩
            · have hk14 : k ≤ 14 := by
                rcases Nat.lt_or_ge k 15 with g | g
                · omega
                · exact absurd (h15 (by omega)) he
              rw [hz]
              generalize x / 16 ^ k = y at *
              have hkk : hkF (16 - k) y = hkF (15 - k) (y / 16) + 1 := by
                rw [show 16 - k = (15 - k) + 1 by omega, hk_step (by omega)]
              have h16' : (16 : Int) ≤ (y : Int) := by omega
              have e16 : ((2 : Int) ^ 4) = 16 := by decide
              have hs4 : bShr .u64 (y : Int) 4 = (y : Int) / 16 := by
                rw [show (4 : Int) = ((4 : Nat) : Int) from rfl, bShr_nat (by omega), e16]
              have ha : bAnd .u64 (y : Int) 15 = (y : Int) % 16 := by
                rw [bAnd_u64' (by omega) (by omega) (by omega) (by omega)]
                have : (y : Int).toNat &&& (15 : Int).toNat = y % 16 := Nat.and_two_pow_sub_one_eq_mod y 4
                rw [this]; omega
              have hset' : (arrH x k).set (64 - k) (.int .u8 (hdg ((y : Int) % 16))) = arrH x (k + 1) := by
                rw [show ((y : Int) % 16) = ((y % 16 : Nat) : Int) by omega]; exact hset
              unfold hdg digs at hset'
              have hsz : ((⟨#[48, 49, 50, 51, 52, 53, 54, 55, 56, 57, 97, 98, 99, 100, 101, 102, 103, 104, 105, 106, 107, 108, 109, 110, 111, 112, 113, 114, 115, 116, 117, 118, 119, 120, 121, 122]⟩ : ByteArray).size : Int) = 36 := rfl
              simp [hw1, hs4, ha, h16', hl, hsz]
              exact ⟨by omega, by omega, by omega, by omega, by omega, hk14, by omega, by omega, hset'⟩
        rintro ⟨h15, hlt⟩
        have hset := arrH_set (x := x) (k := hkF 16 x) (by omega)
        have hl := hlen (hkF 16 x) (by omega)
        rw [Nat.mod_eq_of_lt hlt] at hset
        generalize hkF 16 x = K at *
        have hw1 : IntKind.i64.wrap (65 - (K : Int) - 1) = 64 - K := by rw [wr_i64 (by omega) (by omega)]; omega
        generalize x / 16 ^ K = y at *
        unfold hdg digs at hset
        have hsz : ((⟨#[48, 49, 50, 51, 52, 53, 54, 55, 56, 57, 97, 98, 99, 100, 101, 102, 103, 104, 105, 106, 107, 108, 109, 110, 111, 112, 113, 114, 115, 116, 117, 118, 119, 120, 121, 122]⟩ : ByteArray).size : Int) = 36 := rfl
        refine W.of_WE hT mixed M_f80 _ (by kernel_rfl) ?_
        simp [hw1, hl, hsz]
        exact ⟨by omega, by omega, by omega, h15, hset⟩
      intro h15
      refine W.seqE hT mixed M_f80 (by kernel_rfl) ?_
      simp
      refine W.seqE hT mixed M_f80 (by kernel_rfl) ?_
      simp
      refine W.wk (Wk.freeze 0 (.box 143 (arrH x (hkF 16 x + 1))) (by simp) (arrH_tree x _)) ?_
      refine W.of_WE hT mixed M_f80 _ (by kernel_rfl) ?_
      simp
      have hm : (65 : Nat) ≤ maxLen := by decide
      refine ⟨by rw [hlen _ (by omega)]; omega, hm, by omega, by omega, ?_, ?_⟩
      · rw [arrH_chunk (by omega)]
        intro r hr
        obtain ⟨n, _, rfl⟩ := List.mem_map.1 hr
        rfl
      · rw [arrH_chunk (by omega)]; rfl
    · cases hh
  · cases hh

end Go.Proofs.YtbnjijffkjcmcaaGreatDoor.AL
namespace Go.Proofs.YtbnjijffkjcmcaaGreatDoor.AL
open Go
attribute [local simp] qf cv qbin ibin sbin qun retPost rvOk ctV ctPost marksOk retV resAll resOf V.lt ltL V.ren renL V.exp V.exp1 cleanL V.clean closedL V.closed V.cells V.one V.tree
  loadV cellsAt isNC nilQ isSlD isIfD slNew ownRows ownCells V.isOwn slStore srcO qlook mlook mget mstr zval qnone qmake mput lmap isAggD placesOf fillV putCells lstore bound seqParts V.sh shL Blk.sh newV V.ok peqs peq srcRows qbytes byteSl appOk mmV mmR hidE V.fz fzL Blk.fz fzOk and_assoc
attribute [-simp] Int.not_le Int.not_lt Nat.not_le Nat.not_lt
noncomputable def SFu16 : List V → Option Res
  | [.int .u64 x, .int .i64 16] => ifC (0 ≤ x ∧ x < 18446744073709551616) (some ⟨.str (hexS x.toNat), []⟩)
  | _ => none
theorem fu16_at {x : Nat} (h : x < 18446744073709551616) : SFu16 [.int .u64 (x : Int), .int .i64 16] = some ⟨.str (hexS x), []⟩ := by
  simp only [SFu16]; rw [ifC_pos ⟨by omega, by omega⟩]; rfl
theorem runs_iFormatUint16 : ∀ args r, SFu16 args = some r → Runs Tryz.prog 59 args r := by
  intro args r hh
  unfold SFu16 ifC at hh
  split at hh
  · rename_i x
    split at hh
    · rename_i hin
      cases hh
      have hf : SFb16 [.nils, .int .u64 x, .int .i64 16, .bool false, .bool false] = some ⟨.tup [.nils, .str (hexS x.toNat)], []⟩ := by
        simp only [SFb16]; rw [ifC_pos hin]
      have hT : (T0.add 80 SFb16).ok Tryz.prog := Tab.add_ok (T0_ok _) runs_formatBits16
      generalize hexS x.toNat = H at *
      refine Runs.of_body Tryz.func59 (by decide) rfl (by simp [Tryz.f59]) ?_
      refine W.of_WE hT mixed M0 _ (by kernel_rfl) ?_
      simp [Tryz.f59, hf]
    · cases hh
  · cases hh
theorem runs_FormatUint16 : ∀ args r, SFu16 args = some r → Runs Tryz.prog 32 args r := by
  intro args r hh
  have h0 := hh
  unfold SFu16 ifC at hh
  split at hh
  · rename_i x
    split at hh
    · rename_i hin
      cases hh
      have hT : (T0.add 59 SFu16).ok Tryz.prog := Tab.add_ok (T0_ok _) runs_iFormatUint16
      generalize hexS x.toNat = H at *
      refine Runs.of_body Tryz.func32 (by decide) rfl (by simp [Tryz.f32]) ?_
      refine W.of_WE hT mixed M0 _ (by kernel_rfl) ?_
      simp [Tryz.f32, h0]
    · cases hh
  · cases hh

end Go.Proofs.YtbnjijffkjcmcaaGreatDoor.AL
