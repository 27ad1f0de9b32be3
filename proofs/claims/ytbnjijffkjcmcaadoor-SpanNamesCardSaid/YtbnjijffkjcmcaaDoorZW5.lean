import Derived.Test.YtbnjijffkjcmcaaDoorZW3
import Derived.Test.YtbnjijffkjcmcaaDoorZAL4
import Derived.Lib.ItoaNum
import Derived.Lib.Join
import Derived.Lib.IndexMore
/- What single functions compute: a part of the proof; no conditions. -/
set_option linter.unusedVariables false
set_option linter.unusedSimpArgs false
set_option linter.unusedSectionVars false
namespace Go.Proofs.YtbnjijffkjcmcaaDoor.AL
open Go
/-! Covering is an order. -/
theorem div_mul_div {x : Int} {a b : Nat} (h : a ≤ b) : x / 2 ^ a * 2 ^ a / 2 ^ b = x / 2 ^ b := by
  obtain ⟨d, rfl⟩ : ∃ d, b = a + d := ⟨b - a, by omega⟩
  have hp := ipow_pos a
  rw [ipow_add, ← Int.ediv_ediv_of_nonneg (Int.le_of_lt hp), ← Int.ediv_ediv_of_nonneg (Int.le_of_lt hp), Int.mul_ediv_cancel _ (by omega)]
theorem cutA_cut {h l : Int} {a b : Nat} (hin : inA h l) (hab : a ≤ b) : cutA (cutA h l a).1 (cutA h l a).2 b = cutA h l b := by
  have r1 := cutA_rng hin a
  have r2 := cutA_rng (show inA (cutA h l a).1 (cutA h l a).2 from r1) b
  have r3 := cutA_rng hin b
  refine numA_inj ⟨r2.2.2.1, r2.2.2.2⟩ ⟨r3.2.2.1, r3.2.2.2⟩ ?_
  rw [cutA_num r1.2.2.1 r1.2.2.2, cutA_num hin.2.2.1 hin.2.2.2, div_mul_div hab, cutA_num hin.2.2.1 hin.2.2.2]
theorem cov_iff {f h l n f' h' l' n' : Int} : covP f h l n f' h' l' n' = true ↔ chkP f h l n = 0 ∧ chkP f' h' l' n' = 0 ∧ f = f' ∧ n ≤ n' ∧ cutA h' l' (widN f - n.toNat) = (h, l) := by
  unfold covP
  simp only [Bool.and_eq_true, decide_eq_true_eq]
theorem cov_self (f h l n : Int) : covP f h l n f h l n = decide (chkP f h l n = 0) := by
  rw [Bool.eq_iff_iff, cov_iff, decide_eq_true_eq]
  constructor
  · intro h; exact h.1
  · intro hc
    obtain ⟨j, rfl, _, _, hcut⟩ := chk_zero hc
    exact ⟨hc, hc, rfl, Int.le_refl _, by rw [Int.toNat_natCast]; exact hcut⟩
theorem cov_anti {f h l n f' h' l' n' : Int} (h1 : covP f h l n f' h' l' n' = true) (h2 : covP f' h' l' n' f h l n = true) : f = f' ∧ h = h' ∧ l = l' ∧ n = n' := by
  obtain ⟨c1, c2, rfl, e1, k1⟩ := cov_iff.1 h1
  obtain ⟨_, _, _, e2, k2⟩ := cov_iff.1 h2
  obtain rfl : n = n' := by omega
  obtain ⟨j, rfl, _, _, hcut⟩ := chk_zero c2
  rw [Int.toNat_natCast, hcut] at k1
  simp only [Prod.mk.injEq] at k1
  exact ⟨rfl, k1.1.symm, k1.2.symm, rfl⟩
theorem cov_trans {f h l n f' h' l' n' f2 h2 l2 n2 : Int} (hin : inA h2 l2) (k1 : covP f h l n f' h' l' n' = true) (k2 : covP f' h' l' n' f2 h2 l2 n2 = true) : covP f h l n f2 h2 l2 n2 = true := by
  obtain ⟨c1, c2, rfl, e1, k1⟩ := cov_iff.1 k1
  obtain ⟨_, c3, rfl, e2, k2⟩ := cov_iff.1 k2
  refine cov_iff.2 ⟨c1, c3, rfl, by omega, ?_⟩
  have := cutA_cut hin (a := widN f - n'.toNat) (b := widN f - n.toNat) (by omega)
  rw [k2] at this
  rw [← this]
  exact k1
theorem cov_tree' {f h l n f' h' l' n' f2 h2 l2 n2 : Int} (hin : inA h2 l2) (k1 : covP f h l n f2 h2 l2 n2 = true) (k2 : covP f' h' l' n' f2 h2 l2 n2 = true) (hn : n ≤ n') : covP f h l n f' h' l' n' = true := by
  obtain ⟨c1, c3, rfl, e1, k1⟩ := cov_iff.1 k1
  obtain ⟨c2, _, rfl, e2, k2⟩ := cov_iff.1 k2
  refine cov_iff.2 ⟨c1, c2, rfl, hn, ?_⟩
  have := cutA_cut hin (a := widN f' - n'.toNat) (b := widN f' - n.toNat) (by omega)
  rw [k2, k1] at this
  exact this
theorem cov_tree {f h l n f' h' l' n' f2 h2 l2 n2 : Int} (hin : inA h2 l2) (k1 : covP f h l n f2 h2 l2 n2 = true) (k2 : covP f' h' l' n' f2 h2 l2 n2 = true) : covP f h l n f' h' l' n' = true ∨ covP f' h' l' n' f h l n = true := by
  rcases Int.le_total n n' with hn | hn
  · exact .inl (cov_tree' hin k1 k2 hn)
  · exact .inr (cov_tree' hin k2 k1 hn)
end Go.Proofs.YtbnjijffkjcmcaaDoor.AL
namespace Go.Proofs.YtbnjijffkjcmcaaDoor.AL
open Go
/-! Addresses in their order; prefixes that are cut. -/
theorem cmpA_num {a b c d : Int} (h1 : inA a b) (h2 : inA c d) : cmpA a b c d = if numA (a, b) < numA (c, d) then -1 else if numA (c, d) < numA (a, b) then 1 else 0 := by
  obtain ⟨a0, a1, b0, b1⟩ := h1
  obtain ⟨c0, c1, d0, d1⟩ := h2
  unfold cmpA numA
  simp only
  repeat' split
  all_goals omega
theorem numA_rng {a b : Int} (h1 : inA a b) : 0 ≤ numA (a, b) ∧ numA (a, b) < 2 ^ 128 := by
  obtain ⟨a0, a1, b0, b1⟩ := h1
  unfold numA
  simp only
  show _ ∧ _ < (340282366920938463463374607431768211456 : Int)
  omega
theorem pow_split {x : Int} (j : Nat) : x / 2 ^ j = 2 * (x / 2 ^ (j + 1)) + x / 2 ^ j % 2 := by
  have : x / 2 ^ (j + 1) = x / 2 ^ j / 2 := by rw [ipow_add, ← Int.ediv_ediv_of_nonneg (Int.le_of_lt (ipow_pos j))]; rfl
  rw [this]; omega
theorem div_lt {x y : Int} {j : Nat} (h : x / 2 ^ j < y / 2 ^ j) : x < y := by
  rcases Int.lt_or_le x y with k | k
  · exact k
  · have := Int.ediv_le_ediv (ipow_pos j) k
    omega
theorem cmp_diff {a b c d : Int} {k : Nat} (h1 : inA a b) (h2 : inA c d) (hk : k < 128) (hs : ∀ i, i < k → bt a b (127 - i) = bt c d (127 - i)) (hd : bt a b (127 - k) ≠ bt c d (127 - k)) :
    cmpA a b c d = bt a b (127 - k) - bt c d (127 - k) := by
  have n1 := numA_rng h1
  have n2 := numA_rng h2
  rw [cmpA_num h1 h2]
  have e1 := bt_num h1.2.2.1 h1.2.2.2 (h := a) (127 - k)
  have e2 := bt_num h2.2.2.1 h2.2.2.2 (h := c) (127 - k)
  have hb := (bits_from (w := 128) (k := 127 - k + 1) (N := numA (a, b)) (M := numA (c, d)) (by omega) n1.1 n1.2 n2.1 n2.2).1 (fun i x1 x2 => by
    have := hs (127 - i) (by omega)
    rw [show 127 - (127 - i) = i by omega, bt_num h1.2.2.1 h1.2.2.2, bt_num h2.2.2.1 h2.2.2.2] at this
    exact this)
  have s1 := pow_split (x := numA (a, b)) (127 - k)
  have s2 := pow_split (x := numA (c, d)) (127 - k)
  have l1 := @div_lt (numA (a, b)) (numA (c, d)) (127 - k)
  have l2 := @div_lt (numA (c, d)) (numA (a, b)) (127 - k)
  rw [e1, e2] at hd ⊢
  rw [hb] at s1
  generalize numA (a, b) / 2 ^ (127 - k) = X at *
  generalize numA (c, d) / 2 ^ (127 - k) = Y at *
  have : X < Y ∨ Y < X := by omega
  rcases this with q | q
  · rw [if_pos (l1 q)]; omega
  · have := l2 q
    rw [if_neg (by omega), if_pos this]; omega
theorem cmp_same {a b c d : Int} (h1 : inA a b) (h2 : inA c d) (hs : ∀ i, i < 128 → bt a b (127 - i) = bt c d (127 - i)) : cmpA a b c d = 0 := by
  have n1 := numA_rng h1
  have n2 := numA_rng h2
  have hb := (bits_from (w := 128) (k := 0) (N := numA (a, b)) (M := numA (c, d)) (by omega) n1.1 n1.2 n2.1 n2.2).1 (fun i x1 x2 => by
    have := hs (127 - i) (by omega)
    rw [show 127 - (127 - i) = i by omega, bt_num h1.2.2.1 h1.2.2.2, bt_num h2.2.2.1 h2.2.2.2] at this
    exact this)
  simp only [Int.pow_zero, Int.ediv_one] at hb
  rw [cmpA_num h1 h2, hb]; simp
theorem cmp_zero {a b c d : Int} : cmpA a b c d = 0 ↔ a = c ∧ b = d := by
  unfold cmpA
  split
  · simp_all
  · split <;> simp_all
theorem cmp_anti (a b c d : Int) : cmpA a b c d + cmpA c d a b = 0 := by
  unfold cmpA
  repeat' split
  all_goals omega
theorem cmp_rng (a b c d : Int) : -1 ≤ cmpA a b c d ∧ cmpA a b c d ≤ 1 := by
  unfold cmpA
  repeat' split
  all_goals omega
theorem cutA_zero (h l : Int) : cutA h l 0 = (h, l) := by simp [cutA]
theorem cAddr_cut {f h l : Int} {k : Nat} (hin : inA h l) (hc : cAddr f h l = true) (hk : k ≤ widN f) : cAddr f (cutA h l k).1 (cutA h l k).2 = true := by
  rcases cAddr_46 hc with rfl | rfl
  · obtain ⟨rfl, hl⟩ := cAddr_4 hc rfl
    have hk' : k ≤ 32 := hk
    have e : cutA 0 l k = (0, l / 2 ^ k * 2 ^ k) := by unfold cutA; rw [if_neg (by omega)]
    have := Int.ediv_mul_le l (Int.ne_of_gt (ipow_pos k))
    rw [e]
    unfold cAddr
    simp
    omega
  · rfl
theorem bt_cut {h l : Int} {k i : Nat} (hin : inA h l) : bt (cutA h l k).1 (cutA h l k).2 i = if k ≤ i then bt h l i else 0 := by
  have hr := cutA_rng hin k
  rw [bt_num hr.2.2.1 hr.2.2.2, bt_num hin.2.2.1 hin.2.2.2]
  rw [show ((cutA h l k).1, (cutA h l k).2) = cutA h l k from rfl, cutA_num hin.2.2.1 hin.2.2.2]
  split
  · rename_i hk; rw [div_mul_div hk]
  · rename_i hk
    obtain ⟨d, rfl⟩ : ∃ d, k = i + (d + 1) := ⟨k - i - 1, by omega⟩
    have hp := ipow_pos i
    rw [ipow_add i (d + 1), Int.mul_comm (2 ^ i) (2 ^ (d + 1)), ← Int.mul_assoc, Int.mul_ediv_cancel _ (by omega), ipow_succ, ← Int.mul_assoc]
    omega
theorem chk_cut {f h l : Int} {j : Nat} (hin : inA h l) (hc : cAddr f h l = true) (hj : j ≤ widN f) : chkP f (cutA h l (widN f - j)).1 (cutA h l (widN f - j)).2 j = 0 := by
  unfold chkP
  have hw : widN f ≠ 0 := by rcases cAddr_46 hc with rfl | rfl <;> decide
  rw [if_neg hw, if_pos ⟨cAddr_cut hin hc (by omega), by omega, by omega⟩, Int.toNat_natCast, cutA_cut hin (Nat.le_refl _), if_pos rfl]
theorem cov_cut {f h l : Int} {j j' : Nat} (hin : inA h l) (hc : cAddr f h l = true) (hj : j ≤ widN f) (hj' : j' ≤ widN f) :
    covP f (cutA h l (widN f - j)).1 (cutA h l (widN f - j)).2 j f (cutA h l (widN f - j')).1 (cutA h l (widN f - j')).2 j' = decide (j ≤ j') := by
  rw [Bool.eq_iff_iff, cov_iff, decide_eq_true_eq]
  constructor
  · intro h; omega
  · intro hjj
    exact ⟨chk_cut hin hc hj, chk_cut hin hc hj', rfl, by omega, by rw [Int.toNat_natCast, cutA_cut hin (by omega)]⟩
end Go.Proofs.YtbnjijffkjcmcaaDoor.AL
namespace Go.Proofs.YtbnjijffkjcmcaaDoor.AL
open Go
/-! ### Strings as lists of bytes -/
def bs (l : List UInt8) : ByteArray := ⟨l.toArray⟩
theorem bs_data (l : List UInt8) : (bs l).data.toList = l := by simp [bs]
theorem bs_toList (l : List UInt8) : (bs l).toList = l := by rw [ByteArray.toList_eq, bs_data]
theorem bs_size (l : List UInt8) : (bs l).size = l.length := by simp [bs, ByteArray.size]
theorem bs_eta (s : ByteArray) : bs s.data.toList = s := Lib.mk_data s
theorem bs_ex (s : ByteArray) : ∃ l, s = bs l := ⟨_, (bs_eta s).symm⟩
theorem bs_inj {l m : List UInt8} : bs l = bs m ↔ l = m := ⟨fun h => by rw [← bs_data l, h, bs_data], fun h => by rw [h]⟩
theorem ba_ext {a b : ByteArray} (h : a.data.toList = b.data.toList) : a = b := by rw [← bs_eta a, h, bs_eta]
theorem bs_append (l m : List UInt8) : bs l ++ bs m = bs (l ++ m) := by
  apply ba_ext
  rw [bs_data, ByteArray.data_append, Array.toList_append, bs_data, bs_data]
theorem bs_extract (l : List UInt8) (i j : Nat) : (bs l).extract i j = bs ((l.drop i).take (j - i)) := by rw [Lib.extract_eq, bs_data]; rfl
theorem bs_lit (a : Array UInt8) : (⟨a⟩ : ByteArray) = bs a.toList := rfl
theorem bs_sat (l : List UInt8) (n : Int) : sat (bs l) n = ((l.getD n.toNat 0).toNat : Int) := by
  unfold sat
  have : (bs l)[n.toNat]? = l[n.toNat]? := by
    rw [← bs_data l, bs_eta]
    generalize bs l = s
    rw [getElem?_def, getElem?_def]
    split
    · rename_i h
      rw [dif_pos (by rw [← Lib.size_eq]; exact h)]
      rfl
    · rename_i h
      rw [dif_neg (by rw [← Lib.size_eq]; exact h)]
  rw [this, List.getD_eq_getElem?_getD]
/-! ### Numerals -/
/-- The character of a digit. -/
def dch (d : Nat) : UInt8 := UInt8.ofNat (if d < 10 then 48 + d else 87 + d)
theorem head_app {l m : List UInt8} (h : l ≠ []) : (l ++ m).head? = l.head? := by cases l <;> simp_all
def dgF : Nat → Nat → Nat → List UInt8
  | 0, b, n => [dch n]
  | f + 1, b, n => if n < b then [dch n] else dgF f b (n / b) ++ [dch (n % b)]
/-- The numeral of a number in a base. -/
def dgs (b n : Nat) : List UInt8 := dgF 64 b n
theorem dgF_lt {f b n : Nat} (h : n < b) : dgF f b n = [dch n] := by
  cases f with
  | zero => rfl
  | succ f => rw [dgF, if_pos h]
theorem dgF_fuel {b : Nat} (hb : 2 ≤ b) : ∀ (f g n : Nat), n < 2 ^ f → n < 2 ^ g → dgF f b n = dgF g b n
  | 0, g, n, h, _ => by
    have : n = 0 := by simpa using h
    subst this
    rw [dgF_lt (by omega), dgF_lt (by omega)]
  | f + 1, 0, n, _, h => by
    have : n = 0 := by simpa using h
    subst this
    rw [dgF_lt (by omega), dgF_lt (by omega)]
  | f + 1, g + 1, n, h1, h2 => by
    rw [dgF, dgF]
    split
    · rfl
    · have key : ∀ k, n < 2 ^ (k + 1) → n / b < 2 ^ k := by
        intro k hk
        rw [Nat.pow_succ] at hk
        apply Nat.div_lt_of_lt_mul
        have : 2 * 2 ^ k ≤ b * 2 ^ k := Nat.mul_le_mul_right _ hb
        omega
      rw [dgF_fuel hb f g (n / b) (key f h1) (key g h2)]
theorem dgs_lt {b n : Nat} (h : n < b) : dgs b n = [dch n] := dgF_lt h
theorem dgs_step {b n : Nat} (hb : 2 ≤ b) (hn : n < 18446744073709551616) (h : b ≤ n) : dgs b n = dgs b (n / b) ++ [dch (n % b)] := by
  have h1 : n / b < 2 ^ 63 := by
    apply Nat.div_lt_of_lt_mul
    have : 2 * 2 ^ 63 ≤ b * 2 ^ 63 := Nat.mul_le_mul_right _ hb
    omega
  unfold dgs
  rw [dgF, if_neg (by omega), dgF_fuel hb 63 64 (n / b) h1 (by omega)]
theorem dgs_ne {b n : Nat} : dgs b n ≠ [] := by
  unfold dgs
  rw [dgF]
  split <;> simp
theorem decDigits_dgs : ∀ (n : Nat), n < 18446744073709551616 → Lib.decDigits n = dgs 10 n := by
  intro n
  induction n using Nat.strongRecOn with
  | _ n ih =>
    intro hn
    by_cases h : n < 10
    · rw [Lib.decDigits, dif_pos h, dgs_lt h]
      unfold dch
      rw [if_pos h]
    · rw [Lib.decDigits, dif_neg h, dgs_step (by omega) hn (by omega), ih (n / 10) (by omega) (by omega)]
      unfold dch
      rw [if_pos (by omega)]
/-- The value of a digit (small letters). -/
def dval (b : Nat) (c : UInt8) : Option Nat :=
  if 48 ≤ c.toNat ∧ c.toNat ≤ 57 then (if c.toNat - 48 < b then some (c.toNat - 48) else none)
  else if 97 ≤ c.toNat ∧ c.toNat ≤ 102 then (if c.toNat - 87 < b then some (c.toNat - 87) else none)
  else none
def valF (b : Nat) : Nat → List UInt8 → Option Nat
  | n, [] => some n
  | n, c :: l => match dval b c with
    | some d => valF b (n * b + d) l
    | none => none
theorem valF_app (b : Nat) : ∀ (l : List UInt8) (n : Nat) (c : UInt8), valF b n (l ++ [c]) = match valF b n l with | some m => (dval b c).map (m * b + ·) | none => none
  | [], n, c => by
    simp only [List.nil_append, valF]
    cases dval b c <;> rfl
  | x :: l, n, c => by
    simp only [List.cons_append, valF]
    cases dval b x with
    | none => rfl
    | some d => exact valF_app b l _ c
theorem dch_toNat {d : Nat} (h : d < 16) : (dch d).toNat = if d < 10 then 48 + d else 87 + d := by
  unfold dch
  have : (if d < 10 then 48 + d else 87 + d) < 256 := by split <;> omega
  simp [UInt8.toNat_ofNat, Nat.mod_eq_of_lt this]
theorem dval_dch {b d : Nat} (hb : b ≤ 16) (h : d < b) : dval b (dch d) = some d := by
  have h1 := dch_toNat (d := d) (by omega)
  unfold dval
  rw [h1]
  by_cases h2 : d < 10
  · simp only [h2, if_true]
    rw [if_pos (by omega), if_pos (by omega)]
    congr 1; omega
  · simp only [h2, if_false]
    rw [if_neg (by omega), if_pos (by omega), if_pos (by omega)]
    congr 1; omega
theorem dval_eq {b d : Nat} {c : UInt8} (h : dval b c = some d) : c = dch d ∧ d < b ∧ d < 16 := by
  unfold dval at h
  have hc : c.toNat < 256 := c.toNat_lt
  split at h
  · rename_i h1
    split at h
    · cases h
      refine ⟨?_, by assumption, by omega⟩
      apply UInt8.toNat_inj.1
      rw [dch_toNat (by omega), if_pos (by omega)]
      omega
    · cases h
  · split at h
    · rename_i h1
      split at h
      · cases h
        refine ⟨?_, by assumption, by omega⟩
        apply UInt8.toNat_inj.1
        rw [dch_toNat (by omega), if_neg (by omega)]
        omega
      · cases h
    · cases h
theorem valF_dgs {b : Nat} (hb : 2 ≤ b) (hb' : b ≤ 16) : ∀ n, n < 18446744073709551616 → valF b 0 (dgs b n) = some n := by
  intro n
  induction n using Nat.strongRecOn with
  | _ n ih =>
    intro hn
    by_cases h : n < b
    · rw [dgs_lt h]
      simp only [valF, dval_dch hb' h]
      simp
    · have hlt : n / b < n := Nat.div_lt_self (by omega) (by omega)
      rw [dgs_step hb hn (by omega), valF_app, ih (n / b) hlt (by omega), dval_dch hb' (Nat.mod_lt _ (by omega))]
      simp only [Option.map_some, Option.some.injEq]
      rw [Nat.mul_comm]
      exact Nat.div_add_mod n b
theorem dgs_len {b : Nat} (hb : 2 ≤ b) : ∀ (k n : Nat), n < 18446744073709551616 → n < b ^ (k + 1) → (dgs b n).length ≤ k + 1
  | 0, n, hn, h => by
    rw [dgs_lt (by simpa using h)]; simp
  | k + 1, n, hn, h => by
    by_cases h1 : n < b
    · rw [dgs_lt h1]; simp
    · rw [dgs_step hb hn (by omega), List.length_append]
      have := dgs_len hb k (n / b) (Nat.lt_of_le_of_lt (Nat.div_le_self _ _) hn) (by
        rw [Nat.pow_succ] at h
        exact Nat.div_lt_of_lt_mul (by rw [Nat.mul_comm]; exact h))
      simp; omega
theorem dch_ne48 {d : Nat} (h : d < 16) (h0 : d ≠ 0) : dch d ≠ 48 := by
  intro e
  have := congrArg UInt8.toNat e
  rw [dch_toNat h] at this
  have h48 : (48 : UInt8).toNat = 48 := rfl
  rw [h48] at this
  split at this <;> omega
theorem dgs_head {b : Nat} (hb : 2 ≤ b) (hb' : b ≤ 16) : ∀ n, n < 18446744073709551616 → 0 < n → (dgs b n).head? ≠ some 48 := by
  intro n
  induction n using Nat.strongRecOn with
  | _ n ih =>
    intro hn h0
    by_cases h : n < b
    · rw [dgs_lt h]
      simp only [List.head?_cons, ne_eq, Option.some.injEq]
      exact dch_ne48 (by omega) (by omega)
    · have hlt : n / b < n := Nat.div_lt_self (by omega) (by omega)
      rw [dgs_step hb hn (by omega), head_app dgs_ne]
      exact ih (n / b) hlt (by omega) (Nat.div_pos (by omega) (by omega))
theorem dgs_lead {b : Nat} (hb : 2 ≤ b) (hb' : b ≤ 16) {n : Nat} (hn : n < 18446744073709551616) (h : 1 < (dgs b n).length) : (dgs b n).head? ≠ some 48 := by
  refine dgs_head hb hb' n hn ?_
  rcases Nat.eq_zero_or_pos n with h0 | h0
  · subst h0
    rw [dgs_lt (by omega)] at h
    simp at h
  · exact h0
theorem valF_bd (b : Nat) : ∀ (l : List UInt8) (n m : Nat), valF b n l = some m → m < (n + 1) * b ^ l.length
  | [], n, m, h => by
    simp only [valF, Option.some.injEq] at h
    subst h; simp
  | c :: l, n, m, h => by
    simp only [valF] at h
    split at h
    · rename_i d hd
      have h1 := valF_bd b l _ m h
      have h2 := (dval_eq hd).2.1
      have h3 : n * b + d + 1 ≤ (n + 1) * b := by rw [Nat.add_mul]; omega
      have h4 := Nat.mul_le_mul_right (b ^ l.length) h3
      rw [List.length_cons, Nat.pow_succ, Nat.mul_comm (b ^ l.length) b, ← Nat.mul_assoc]
      omega
    · cases h
/-- A row of digits without zeros in front is a numeral. -/
theorem valF_canon {b : Nat} (hb : 2 ≤ b) (hb' : b ≤ 16) : ∀ (k : Nat) (l : List UInt8) (n : Nat), l.length = k + 1 → b ^ (k + 1) ≤ 18446744073709551616 → valF b 0 l = some n → (1 < l.length → l.head? ≠ some 48) → l = dgs b n
  | 0, l, n, hl, hp, hv, hz => by
    match l, hl with
    | [c], _ =>
      simp only [valF] at hv
      split at hv
      · rename_i d hd
        obtain ⟨e, h1, _⟩ := dval_eq hd
        simp at hv
        subst hv
        rw [dgs_lt h1, e]
      · cases hv
  | k + 1, l, n, hl, hp, hv, hz => by
    obtain ⟨m, c, rfl⟩ : ∃ m c, l = m ++ [c] := ⟨l.dropLast, l.getLast (by intro e; rw [e] at hl; simp at hl), (List.dropLast_concat_getLast _).symm⟩
    have hm : m.length = k + 1 := by simpa using hl
    have hmn : m ≠ [] := by intro e; rw [e] at hm; simp at hm
    rw [valF_app] at hv
    have hp' : b ^ (k + 1) ≤ b ^ (k + 1 + 1) := Nat.pow_le_pow_right (by omega) (by omega)
    cases hx : valF b 0 m with
    | none => rw [hx] at hv; cases hv
    | some x =>
      rw [hx] at hv
      cases hd : dval b c with
      | none => rw [hd] at hv; cases hv
      | some d =>
        rw [hd] at hv
        simp only [Option.map_some, Option.some.injEq] at hv
        obtain ⟨e, h1, _⟩ := dval_eq hd
        have hz' := hz (by simp [hm])
        rw [head_app hmn] at hz'
        have ih := valF_canon hb hb' k m x hm (by omega) hx (fun _ => hz')
        have hx0 : 0 < x := by
          rcases Nat.eq_zero_or_pos x with h0 | h0
          · rw [h0, dgs_lt (by omega)] at ih
            rw [ih] at hz'
            simp [dch] at hz'
          · exact h0
        have hbd := valF_bd b m 0 x hx
        rw [hm] at hbd
        have hn64 : n < 18446744073709551616 := by
          rw [← hv]
          rw [Nat.pow_succ] at hp
          simp only [Nat.zero_add, Nat.one_mul] at hbd
          have : (x + 1) * b ≤ b ^ (k + 1) * b := Nat.mul_le_mul_right b hbd
          rw [Nat.add_mul] at this
          omega
        have hge : b ≤ x * b + d := by
          have : 1 * b ≤ x * b := Nat.mul_le_mul_right b hx0
          omega
        rw [← hv] at hn64 ⊢
        rw [dgs_step hb hn64 hge, e]
        have e1 : (x * b + d) / b = x := by
          rw [Nat.mul_comm, Nat.mul_add_div (by omega), Nat.div_eq_of_lt h1]; omega
        have e2 : (x * b + d) % b = d := by
          rw [Nat.mul_comm, Nat.mul_add_mod, Nat.mod_eq_of_lt h1]
        rw [e1, e2, ← ih]
/-- What the reference reads as a number. -/
def rnum (b lim : Nat) (l : List UInt8) : Nat × Bool :=
  if l.length = 0 ∨ 10 < l.length ∨ (1 < l.length ∧ l.head? = some 48) then (0, false) else match valF b 0 l with
    | some n => (n, decide (n ≤ lim))
    | none => (0, false)
theorem rnum_iff {b lim : Nat} (hb : 2 ≤ b) (hb' : b ≤ 16) (hlim : lim < b ^ 10) (hl64 : lim < 18446744073709551616) {l : List UInt8} {n : Nat} : rnum b lim l = (n, true) ↔ l = dgs b n ∧ n ≤ lim := by
  have hp : b ^ 10 ≤ 18446744073709551616 := Nat.le_trans (Nat.pow_le_pow_left hb' 10) (by decide)
  constructor
  · intro h
    unfold rnum at h
    split at h
    · simp at h
    · rename_i h1
      split at h
      · rename_i m hm
        simp only [Prod.mk.injEq, decide_eq_true_eq] at h
        obtain ⟨rfl, h2⟩ := h
        have hpl : b ^ (l.length - 1 + 1) ≤ b ^ 10 := Nat.pow_le_pow_right (by omega) (by omega)
        exact ⟨valF_canon hb hb' (l.length - 1) l m (by omega) (by omega) hm (fun h3 h4 => h1 (.inr (.inr ⟨h3, h4⟩))), h2⟩
      · simp at h
  · rintro ⟨rfl, h⟩
    unfold rnum
    have h1 := dgs_len hb 9 n (by omega) (by show n < b ^ 10; omega)
    have h2 : (dgs b n).length ≠ 0 := by simpa using dgs_ne
    rw [if_neg ?_, valF_dgs hb hb' n (by omega)]
    · simp [h]
    · rintro (h3 | h3 | h3)
      · exact h2 h3
      · omega
      · exact dgs_lead hb hb' (by omega) h3.1 h3.2
theorem dgs_mem {b : Nat} (hb : 2 ≤ b) (hb' : b ≤ 16) : ∀ n, n < 18446744073709551616 → ∀ c ∈ dgs b n, ∃ d, d < b ∧ c = dch d := by
  intro n
  induction n using Nat.strongRecOn with
  | _ n ih =>
    intro hn c hc
    by_cases h : n < b
    · rw [dgs_lt h] at hc
      exact ⟨n, h, by simpa using hc⟩
    · have hlt : n / b < n := Nat.div_lt_self (by omega) (by omega)
      rw [dgs_step hb hn (by omega)] at hc
      rcases List.mem_append.1 hc with hc | hc
      · exact ih (n / b) hlt (by omega) c hc
      · exact ⟨n % b, Nat.mod_lt _ (by omega), by simpa using hc⟩
theorem dch_ne {d : Nat} (h : d < 16) {c : UInt8} (hc : c.toNat < 48 ∨ (57 < c.toNat ∧ c.toNat < 97) ∨ 102 < c.toNat) : dch d ≠ c := by
  rintro rfl
  rw [dch_toNat h] at hc
  split at hc <;> omega
theorem dgs_no {b : Nat} (hb : 2 ≤ b) (hb' : b ≤ 16) {n : Nat} (hn : n < 18446744073709551616) {c : UInt8} (hc : c.toNat < 48 ∨ (57 < c.toNat ∧ c.toNat < 97) ∨ 102 < c.toNat) : c ∉ dgs b n := by
  intro h
  obtain ⟨d, h1, rfl⟩ := dgs_mem hb hb' n hn c h
  exact dch_ne (by omega) hc rfl
theorem dgs_inj {b n m : Nat} (hb : 2 ≤ b) (hb' : b ≤ 16) (hn : n < 18446744073709551616) (hm : m < 18446744073709551616) (h : dgs b n = dgs b m) : n = m := by
  have h1 := valF_dgs hb hb' n hn
  rw [h, valF_dgs hb hb' m hm] at h1
  simpa using h1.symm
end Go.Proofs.YtbnjijffkjcmcaaDoor.AL
namespace Go.Proofs.YtbnjijffkjcmcaaDoor.AL
open Go
/-! ### Splitting at a byte, joining -/
def spl (c : UInt8) : List UInt8 → List (List UInt8)
  | [] => [[]]
  | x :: l => if x = c then [] :: spl c l else match spl c l with
    | p :: ps => (x :: p) :: ps
    | [] => [[x]]
theorem spl_none {c : UInt8} : ∀ {l : List UInt8}, c ∉ l → spl c l = [l]
  | [], _ => rfl
  | x :: l, h => by
    simp only [List.mem_cons, not_or] at h
    rw [spl, if_neg (Ne.symm h.1), spl_none h.2]
theorem spl_app {c : UInt8} : ∀ {p : List UInt8} (l : List UInt8), c ∉ p → spl c (p ++ c :: l) = p :: spl c l
  | [], l, _ => by simp [spl]
  | x :: p, l, h => by
    simp only [List.mem_cons, not_or] at h
    rw [List.cons_append, spl, if_neg (Ne.symm h.1), spl_app l h.2]
theorem spl_ne (c : UInt8) (l : List UInt8) : spl c l ≠ [] := by
  cases l with
  | nil => simp [spl]
  | cons x l => unfold spl; split; simp; split <;> simp
theorem join_cons2 (p q : List UInt8) (ps : List (List UInt8)) (sep : List UInt8) : Lib.join (p :: q :: ps) sep = p ++ sep ++ Lib.join (q :: ps) sep := by
  rw [Lib.join_cons, Lib.join_cons]
  simp [Lib.joinTail]
theorem spl_join {c : UInt8} : ∀ (ps : List (List UInt8)), ps ≠ [] → (∀ p ∈ ps, c ∉ p) → spl c (Lib.join ps [c]) = ps
  | [], h, _ => absurd rfl h
  | [p], _, h => by rw [Lib.join_one, spl_none (h p (by simp))]
  | p :: q :: ps, _, h => by
    rw [join_cons2, List.append_assoc, List.singleton_append, spl_app _ (h p (by simp)), spl_join (q :: ps) (by simp) (fun x hx => h x (by simp [hx]))]
theorem join_spl (c : UInt8) : ∀ (l : List UInt8), Lib.join (spl c l) [c] = l
  | [] => by simp [spl, Lib.join_one]
  | x :: l => by
    have ih := join_spl c l
    unfold spl
    split
    · rename_i h
      subst h
      obtain ⟨p, ps, e⟩ := List.exists_cons_of_ne_nil (spl_ne x l)
      rw [e] at ih ⊢
      rw [join_cons2, ih]
      simp
    · split
      · rename_i p ps e
        rw [e] at ih
        rw [Lib.join_cons] at ih ⊢
        rw [← ih]
        simp
      · rename_i e
        exact absurd e (spl_ne c l)
theorem spl_no (c : UInt8) : ∀ (l : List UInt8), ∀ p ∈ spl c l, c ∉ p
  | [], p, h => by simp [spl] at h; simp [h]
  | x :: l, p, h => by
    have ih := spl_no c l
    unfold spl at h
    split at h
    · rcases List.mem_cons.1 h with rfl | h
      · simp
      · exact ih p h
    · rename_i hx
      split at h
      · rename_i q qs e
        rw [e] at ih
        rcases List.mem_cons.1 h with rfl | h
        · simp only [List.mem_cons, not_or]
          exact ⟨fun e => hx e.symm, ih q (by simp)⟩
        · exact ih p (by simp [h])
      · simp only [List.mem_singleton] at h
        subst h
        simpa using fun e => hx e.symm
theorem mem_join {c : UInt8} {sep : List UInt8} : ∀ (ps : List (List UInt8)), c ∈ Lib.join ps sep → c ∈ sep ∨ ∃ p ∈ ps, c ∈ p
  | [], h => by simp [Lib.join_nil] at h
  | [p], h => by rw [Lib.join_one] at h; exact .inr ⟨p, by simp, h⟩
  | p :: q :: ps, h => by
    rw [join_cons2] at h
    rcases List.mem_append.1 h with h | h
    · rcases List.mem_append.1 h with h | h
      · exact .inr ⟨p, by simp, h⟩
      · exact .inl h
    · rcases mem_join (q :: ps) h with h | ⟨x, hx, h⟩
      · exact .inl h
      · exact .inr ⟨x, by simp [hx], h⟩
/-- The first place of two colons. -/
def cut2 : List UInt8 → Option (List UInt8 × List UInt8)
  | x :: y :: l => if x = 58 ∧ y = 58 then some ([], l) else (cut2 (y :: l)).map fun p => (x :: p.1, p.2)
  | _ => none
theorem cut2_ne {x : UInt8} (h : x ≠ 58) (m : List UInt8) : cut2 (x :: m) = (cut2 m).map fun p => (x :: p.1, p.2) := by
  cases m with
  | nil => rfl
  | cons y l => rw [cut2, if_neg (fun e => h e.1)]
theorem cut2_app {p : List UInt8} (h : (58 : UInt8) ∉ p) (m : List UInt8) : cut2 (p ++ m) = (cut2 m).map fun q => (p ++ q.1, q.2) := by
  induction p with
  | nil => simp
  | cons x p ih =>
    simp only [List.mem_cons, not_or] at h
    rw [List.cons_append, cut2_ne (Ne.symm h.1), ih h.2, Option.map_map]
    rfl
theorem cut2_tail : ∀ (ps : List (List UInt8)) (m : List UInt8), (∀ p ∈ ps, (58 : UInt8) ∉ p ∧ p ≠ []) → cut2 (Lib.joinTail [58] ps ++ m) = (cut2 m).map fun q => (Lib.joinTail [58] ps ++ q.1, q.2)
  | [], m, _ => by simp [Lib.joinTail]
  | p :: ps, m, h => by
    obtain ⟨h1, h2⟩ := h p (by simp)
    have e : Lib.joinTail [58] (p :: ps) = 58 :: (p ++ Lib.joinTail [58] ps) := by simp [Lib.joinTail]
    have ih := cut2_tail ps m (fun q hq => h q (by simp [hq]))
    rw [e, List.cons_append, List.append_assoc]
    have h3 := cut2_app h1 (Lib.joinTail [58] ps ++ m)
    rw [ih, Option.map_map] at h3
    obtain ⟨x, p', rfl⟩ := List.exists_cons_of_ne_nil h2
    simp only [List.mem_cons, not_or] at h1
    rw [List.cons_append, cut2, if_neg (fun e => h1.1 e.2.symm), ← List.cons_append, h3, Option.map_map]
    congr 1
    funext q
    simp
theorem cut2_join (ps : List (List UInt8)) (m : List UInt8) (h : ∀ p ∈ ps, (58 : UInt8) ∉ p ∧ p ≠ []) : cut2 (Lib.join ps [58] ++ m) = (cut2 m).map fun q => (Lib.join ps [58] ++ q.1, q.2) := by
  cases ps with
  | nil => simp [Lib.join_nil]
  | cons p ps =>
    rw [Lib.join_cons, List.append_assoc, cut2_app (h p (by simp)).1, cut2_tail ps m (fun q hq => h q (by simp [hq])), Option.map_map]
    congr 1
    funext q
    simp
theorem cut2_some : ∀ {l a b : List UInt8}, cut2 l = some (a, b) → l = a ++ 58 :: 58 :: b
  | [], a, b, h => by simp [cut2] at h
  | [x], a, b, h => by simp [cut2] at h
  | x :: y :: l, a, b, h => by
    unfold cut2 at h
    split at h
    · rename_i h1
      cases h
      rw [h1.1, h1.2]
      rfl
    · simp only [Option.map_eq_some_iff] at h
      obtain ⟨⟨a', b'⟩, h1, h2⟩ := h
      cases h2
      have := cut2_some h1
      rw [this]
      rfl
/-! ### The groups of an address -/
def grpN (x i : Nat) : Nat := x / 2 ^ (48 - 16 * i) % 65536
def G8 (h l : Nat) : List Nat := [grpN h 0, grpN h 1, grpN h 2, grpN h 3, grpN l 0, grpN l 1, grpN l 2, grpN l 3]
theorem G8_len (h l : Nat) : (G8 h l).length = 8 := rfl
theorem grpN_lt (x i : Nat) : grpN x i < 65536 := Nat.mod_lt _ (by decide)
theorem G8_lt (h l : Nat) : ∀ x ∈ G8 h l, x < 65536 := by
  intro x hx
  simp only [G8, List.mem_cons, List.not_mem_nil, or_false] at hx
  rcases hx with rfl | rfl | rfl | rfl | rfl | rfl | rfl | rfl <;> exact grpN_lt _ _
theorem grp_num {x : Nat} (hx : x < 18446744073709551616) : ((grpN x 0 * 65536 + grpN x 1) * 65536 + grpN x 2) * 65536 + grpN x 3 = x := by
  have e0 : grpN x 0 = x / 281474976710656 % 65536 := rfl
  have e1 : grpN x 1 = x / 4294967296 % 65536 := rfl
  have e2 : grpN x 2 = x / 65536 % 65536 := rfl
  have e3 : grpN x 3 = x / 1 % 65536 := rfl
  rw [e0, e1, e2, e3]
  omega
def putN (p : Nat × Nat) (x : Nat) : Nat × Nat := ((p.1 * 65536 + p.2 / 281474976710656) % 18446744073709551616, p.2 * 65536 % 18446744073709551616 + x)
def numN (p : Nat × Nat) : Nat := p.1 * 18446744073709551616 + p.2
theorem putN_lt {p : Nat × Nat} {x : Nat} (hx : x < 65536) : (putN p x).1 < 18446744073709551616 ∧ (putN p x).2 < 18446744073709551616 := by
  unfold putN
  simp only
  omega
theorem putN_num {p : Nat × Nat} {x : Nat} (h : numN p < 5192296858534827628530496329220096) : numN (putN p x) = numN p * 65536 + x := by
  unfold numN putN at *
  simp only
  omega
theorem numN_inj {p q : Nat × Nat} (hp : p.2 < 18446744073709551616) (hq : q.2 < 18446744073709551616) (h : numN p = numN q) : p = q := by
  unfold numN at h
  exact Prod.ext (by omega) (by omega)
theorem putN_fold : ∀ (L : List Nat) (p : Nat × Nat), (∀ x ∈ L, x < 65536) → p.1 < 18446744073709551616 → p.2 < 18446744073709551616 → (L.foldl putN p).1 < 18446744073709551616 ∧ (L.foldl putN p).2 < 18446744073709551616
  | [], p, _, h1, h2 => ⟨h1, h2⟩
  | x :: L, p, h, _, _ => by
    have := putN_lt (p := p) (h x (by simp))
    exact putN_fold L _ (fun y hy => h y (by simp [hy])) this.1 this.2
set_option maxRecDepth 100000 in
theorem putN_G8 {h l : Nat} (hh : h < 18446744073709551616) (hl : l < 18446744073709551616) : (G8 h l).foldl putN (0, 0) = (h, l) := by
  have b0 := grpN_lt h 0
  have b1 := grpN_lt h 1
  have b2 := grpN_lt h 2
  have b3 := grpN_lt h 3
  have c0 := grpN_lt l 0
  have c1 := grpN_lt l 1
  have c2 := grpN_lt l 2
  have c3 := grpN_lt l 3
  have eh := grp_num hh
  have el := grp_num hl
  refine numN_inj (putN_fold _ _ (G8_lt h l) (by omega) (by omega)).2 hl ?_
  unfold G8
  simp only [List.foldl_cons, List.foldl_nil]
  generalize grpN h 0 = x0 at *
  generalize grpN h 1 = x1 at *
  generalize grpN h 2 = x2 at *
  generalize grpN h 3 = x3 at *
  generalize grpN l 0 = y0 at *
  generalize grpN l 1 = y1 at *
  generalize grpN l 2 = y2 at *
  generalize grpN l 3 = y3 at *
  have s0 : numN ((0, 0) : Nat × Nat) = 0 := rfl
  have s1 := putN_num (p := (0, 0)) (x := x0) (by rw [s0]; omega)
  rw [s0] at s1
  have s2 := putN_num (x := x1) (show numN (putN (0, 0) x0) < _ by rw [s1]; omega)
  rw [s1] at s2
  have s3 := putN_num (x := x2) (show numN (putN (putN (0, 0) x0) x1) < _ by rw [s2]; omega)
  rw [s2] at s3
  have s4 := putN_num (x := x3) (show numN (putN (putN (putN (0, 0) x0) x1) x2) < _ by rw [s3]; omega)
  rw [s3] at s4
  have s5 := putN_num (x := y0) (show numN (putN (putN (putN (putN (0, 0) x0) x1) x2) x3) < _ by rw [s4]; omega)
  rw [s4] at s5
  have s6 := putN_num (x := y1) (show numN (putN (putN (putN (putN (putN (0, 0) x0) x1) x2) x3) y0) < _ by rw [s5]; omega)
  rw [s5] at s6
  have s7 := putN_num (x := y2) (show numN (putN (putN (putN (putN (putN (putN (0, 0) x0) x1) x2) x3) y0) y1) < _ by rw [s6]; omega)
  rw [s6] at s7
  have s8 := putN_num (x := y3) (show numN (putN (putN (putN (putN (putN (putN (putN (0, 0) x0) x1) x2) x3) y0) y1) y2) < _ by rw [s7]; omega)
  rw [s7] at s8
  rw [s8]
  clear s0 s1 s2 s3 s4 s5 s6 s7 s8 b0 b1 b2 b3 c0 c1 c2 c3
  subst eh el
  unfold numN
  simp only [Nat.zero_mul, Nat.zero_add, Nat.add_mul, Nat.mul_assoc, Nat.reduceMul, Nat.add_assoc]
def zrN : List Nat → Nat
  | [] => 0
  | x :: l => if x = 0 then zrN l + 1 else 0
theorem zrN_le : ∀ L : List Nat, zrN L ≤ L.length
  | [] => Nat.le_refl _
  | x :: L => by
    have := zrN_le L
    unfold zrN
    split <;> simp <;> omega
theorem zrN_take : ∀ (L : List Nat) (n : Nat), n ≤ zrN L → L.take n = List.replicate n 0
  | L, 0, _ => by simp
  | [], n + 1, h => by simp [zrN] at h
  | x :: L, n + 1, h => by
    unfold zrN at h
    split at h
    · rename_i hx
      rw [List.take_succ_cons, zrN_take L n (by omega), hx, List.replicate_succ]
    · omega
/-- The first longest run of zeros among the first k places: where, and how long (1 if there is none of 2). -/
def lrun (L : List Nat) : Nat → Nat × Nat
  | 0 => (0, 1)
  | k + 1 => if (lrun L k).2 < zrN (L.drop k) then (k, zrN (L.drop k)) else lrun L k
theorem lrun_le {L : List Nat} (h : L.length = 8) : ∀ k, k ≤ 8 → (lrun L k).2 ≤ 8 ∧ ((lrun L k).2 = 1 ∨ ((lrun L k).1 + (lrun L k).2 ≤ 8 ∧ (lrun L k).2 ≤ zrN (L.drop (lrun L k).1))) ∧ (lrun L k).1 ≤ 8
  | 0, _ => ⟨by simp [lrun], .inl rfl, by simp [lrun]⟩
  | k + 1, hk => by
    have ih := lrun_le h k (by omega)
    have hz := zrN_le (L.drop k)
    simp at hz
    unfold lrun
    split
    · exact ⟨by show zrN _ ≤ 8; omega, .inr ⟨by show k + zrN _ ≤ 8; omega, Nat.le_refl _⟩, by show k ≤ 8; omega⟩
    · exact ih
/-- Groups in hexadecimal with colons. -/
def hj (L : List Nat) : List UInt8 := Lib.join (L.map (dgs 16)) [58]
def text6L (L : List Nat) : List UInt8 := if (lrun L 8).2 < 2 then hj L else hj (L.take (lrun L 8).1) ++ 58 :: 58 :: hj (L.drop ((lrun L 8).1 + (lrun L 8).2))
def b4 (l i : Nat) : Nat := l / 2 ^ (24 - 8 * i) % 256
def t4 (l : Nat) : List UInt8 := Lib.join [dgs 10 (b4 l 0), dgs 10 (b4 l 1), dgs 10 (b4 l 2), dgs 10 (b4 l 3)] [46]
/-- The string of an address. -/
def addrT (f h l : Nat) : List UInt8 := if f = 6 then text6L (G8 h l) else t4 l
/-! ### Reading numbers as the program does -/
/-- A digit, of letters of any size. -/
def pdig (c : UInt8) : Option Nat :=
  if 48 ≤ c.toNat ∧ c.toNat ≤ 57 then some (c.toNat - 48)
  else if 97 ≤ (c.toNat ||| 32) ∧ (c.toNat ||| 32) ≤ 122 then some ((c.toNat ||| 32) - 87)
  else none
inductive PEnd where
  | ok (n : Nat)
  | synt
  | over
def puF (b M : Nat) : Nat → List UInt8 → PEnd
  | n, [] => .ok n
  | n, c :: l => match pdig c with
    | none => .synt
    | some d => if b ≤ d then .synt else if M < n * b + d then .over else puF b M (n * b + d) l
def pu (b M : Nat) (l : List UInt8) : PEnd := if l = [] then .synt else puF b M 0 l
def PEnd.val (M : Nat) : PEnd → Nat
  | .ok n => n
  | .synt => 0
  | .over => M
def PEnd.good : PEnd → Bool
  | .ok _ => true
  | _ => false
def pv (b M : Nat) (l : List UInt8) : Nat := (pu b M l).val M
theorem puF_le {b M : Nat} : ∀ (l : List UInt8) (n m : Nat), n ≤ M → puF b M n l = .ok m → m ≤ M
  | [], n, m, h, e => by simp only [puF, PEnd.ok.injEq] at e; omega
  | c :: l, n, m, h, e => by
    simp only [puF] at e
    split at e
    · cases e
    · split at e
      · cases e
      · split at e
        · cases e
        · exact puF_le l _ m (by omega) e
theorem pv_le {b M : Nat} (l : List UInt8) : pv b M l ≤ M := by
  unfold pv pu
  split
  · exact Nat.zero_le _
  · cases h : puF b M 0 l with
    | ok n => exact puF_le l 0 n (Nat.zero_le _) h
    | synt => exact Nat.zero_le _
    | over => exact Nat.le_refl _
theorem pdig_dval {b d : Nat} {c : UInt8} (h : dval b c = some d) : pdig c = some d ∧ d < b := by
  obtain ⟨rfl, h1, h2⟩ := dval_eq h
  refine ⟨?_, h1⟩
  have e := dch_toNat h2
  unfold pdig
  rw [e]
  have key : ∀ k : Fin 16, (if 48 ≤ (if k.val < 10 then 48 + k.val else 87 + k.val) ∧ (if k.val < 10 then 48 + k.val else 87 + k.val) ≤ 57 then some ((if k.val < 10 then 48 + k.val else 87 + k.val) - 48) else if 97 ≤ ((if k.val < 10 then 48 + k.val else 87 + k.val) ||| 32) ∧ ((if k.val < 10 then 48 + k.val else 87 + k.val) ||| 32) ≤ 122 then some (((if k.val < 10 then 48 + k.val else 87 + k.val) ||| 32) - 87) else none) = some k.val := by decide
  exact key ⟨d, h2⟩
theorem valF_ge {b : Nat} (hb : 1 ≤ b) : ∀ (l : List UInt8) (n m : Nat), valF b n l = some m → n ≤ m
  | [], n, m, h => by simp only [valF, Option.some.injEq] at h; omega
  | c :: l, n, m, h => by
    simp only [valF] at h
    split at h
    · have := valF_ge hb l _ m h
      have : n * 1 ≤ n * b := Nat.mul_le_mul_left n hb
      omega
    · cases h
theorem puF_val {b M : Nat} (hb : 1 ≤ b) : ∀ (l : List UInt8) (n m : Nat), valF b n l = some m → m ≤ M → puF b M n l = .ok m
  | [], n, m, h, _ => by simp only [valF, Option.some.injEq] at h; subst h; rfl
  | c :: l, n, m, h, hm => by
    simp only [valF] at h
    split at h
    · rename_i d hd
      obtain ⟨h1, h2⟩ := pdig_dval hd
      have h3 := valF_ge hb l _ m h
      simp only [puF, h1]
      rw [if_neg (by omega), if_neg (by omega)]
      exact puF_val hb l _ m h hm
    · cases h
theorem pu_dgs {b M n : Nat} (hb : 2 ≤ b) (hb' : b ≤ 16) (hn : n < 18446744073709551616) (h : n ≤ M) : pu b M (dgs b n) = .ok n := by
  unfold pu
  rw [if_neg dgs_ne]
  exact puF_val (by omega) _ 0 n (valF_dgs hb hb' n hn) h
theorem pv_dgs {b M n : Nat} (hb : 2 ≤ b) (hb' : b ≤ 16) (hn : n < 18446744073709551616) (h : n ≤ M) : pv b M (dgs b n) = n := by
  unfold pv
  rw [pu_dgs hb hb' hn h]
  rfl
/-! ### Addresses from strings as the program reads them -/
def st4 (a : Nat) (x : List UInt8) : Nat := (a * 256 + pv 10 255 x) % 4294967296
def parse4L (s : List UInt8) : Nat := (spl 46 s).foldl st4 0
def fieldsL (s : List UInt8) : List Nat := if s = [] then [] else (spl 58 s).map (pv 16 65535)
def parse6L (s : List UInt8) : Nat × Nat := match cut2 s with
  | some (a, b) => (fieldsL a ++ List.replicate (8 - ((fieldsL a).length + (fieldsL b).length)) 0 ++ fieldsL b).foldl putN (0, 0)
  | none => (fieldsL s).foldl putN (0, 0)
theorem fields_hj (L : List Nat) (h : ∀ x ∈ L, x < 65536) : fieldsL (hj L) = L := by
  unfold fieldsL hj
  cases L with
  | nil => simp [Lib.join_nil]
  | cons x L =>
    have hne : Lib.join (List.map (dgs 16) (x :: L)) [58] ≠ [] := by
      rw [List.map_cons, Lib.join_cons]
      intro e
      exact dgs_ne (List.append_eq_nil_iff.1 e).1
    rw [if_neg hne, spl_join _ (by simp) ?_, List.map_map]
    · have : ∀ y ∈ x :: L, (pv 16 65535 ∘ dgs 16) y = y := fun y hy => pv_dgs (by omega) (by omega) (by have := h y hy; omega) (by have := h y hy; omega)
      rw [List.map_congr_left this]
      simp
    · intro p hp
      obtain ⟨y, hy, rfl⟩ := List.mem_map.1 hp
      exact dgs_no (by omega) (by omega) (by have := h y hy; omega) (by decide)
theorem hj_parts (L : List Nat) (h : ∀ x ∈ L, x < 65536) : ∀ p ∈ L.map (dgs 16), (58 : UInt8) ∉ p ∧ p ≠ [] := by
  intro p hp
  obtain ⟨y, hy, rfl⟩ := List.mem_map.1 hp
  exact ⟨dgs_no (by omega) (by omega) (by have := h y hy; omega) (by decide), dgs_ne⟩
theorem parse6_text {h l : Nat} (hh : h < 18446744073709551616) (hl : l < 18446744073709551616) : parse6L (text6L (G8 h l)) = (h, l) := by
  have hG := G8_lt h l
  have hP := putN_G8 hh hl
  have hlen := G8_len h l
  generalize G8 h l = L at *
  unfold text6L
  split
  · unfold parse6L
    have := cut2_join (L.map (dgs 16)) [] (hj_parts L hG)
    rw [List.append_nil] at this
    have e : cut2 (hj L) = none := by unfold hj; rw [this]; rfl
    rw [e, fields_hj L hG]
    exact hP
  · rename_i h2
    obtain ⟨h3, h4, h5⟩ := lrun_le hlen 8 (by omega)
    obtain ⟨h4, h6⟩ := h4.resolve_left (by omega)
    generalize (lrun L 8).1 = at' at *
    generalize (lrun L 8).2 = n at *
    have hT : ∀ x ∈ L.take at', x < 65536 := fun x hx => hG x (List.mem_of_mem_take hx)
    have hD : ∀ x ∈ L.drop (at' + n), x < 65536 := fun x hx => hG x (List.mem_of_mem_drop hx)
    have e : cut2 (hj (L.take at') ++ 58 :: 58 :: hj (L.drop (at' + n))) = some (hj (L.take at'), hj (L.drop (at' + n))) := by
      unfold hj
      rw [cut2_join _ _ (hj_parts _ hT)]
      simp [cut2]
    unfold parse6L
    rw [e]
    simp only
    rw [fields_hj _ hT, fields_hj _ hD]
    have e2 : 8 - ((L.take at').length + (L.drop (at' + n)).length) = n := by simp; omega
    rw [e2, ← zrN_take _ n h6]
    have e3 : L.take at' ++ (L.drop at').take n ++ L.drop (at' + n) = L := by
      rw [List.append_assoc, ← List.drop_drop, List.take_append_drop, List.take_append_drop]
    rw [e3]
    exact hP
theorem b4_lt (l i : Nat) : b4 l i < 256 := Nat.mod_lt _ (by decide)
theorem parse4_text {l : Nat} (hl : l < 4294967296) : parse4L (t4 l) = l := by
  unfold parse4L t4
  have hno : ∀ i, (46 : UInt8) ∉ dgs 10 (b4 l i) := fun i => dgs_no (by omega) (by omega) (by have := b4_lt l i; omega) (by decide)
  have hv : ∀ i, pv 10 255 (dgs 10 (b4 l i)) = b4 l i := fun i => pv_dgs (by omega) (by omega) (by have := b4_lt l i; omega) (by have := b4_lt l i; omega)
  rw [spl_join _ (by simp) (by intro p hp; simp only [List.mem_cons, List.not_mem_nil, or_false] at hp; rcases hp with rfl | rfl | rfl | rfl <;> exact hno _)]
  simp only [List.foldl_cons, List.foldl_nil, st4, hv]
  have e0 : b4 l 0 = l / 16777216 % 256 := rfl
  have e1 : b4 l 1 = l / 65536 % 256 := rfl
  have e2 : b4 l 2 = l / 256 % 256 := rfl
  have e3 : b4 l 3 = l / 1 % 256 := rfl
  rw [e0, e1, e2, e3]
  omega
theorem text6_colon (L : List Nat) (h : L.length = 8) : (58 : UInt8) ∈ text6L L := by
  unfold text6L
  split
  · match L, h with
    | x :: y :: L, _ =>
      unfold hj
      rw [List.map_cons, List.map_cons, join_cons2]
      simp
  · simp
theorem t4_no (l : Nat) : (58 : UInt8) ∉ t4 l := by
  intro h
  unfold t4 at h
  rcases mem_join _ h with h | ⟨p, hp, h⟩
  · simp at h
  · simp only [List.mem_cons, List.not_mem_nil, or_false] at hp
    rcases hp with rfl | rfl | rfl | rfl <;> exact dgs_no (by omega) (by omega) (by have := b4_lt l 0; have := b4_lt l 1; have := b4_lt l 2; have := b4_lt l 3; omega) (by decide) h
end Go.Proofs.YtbnjijffkjcmcaaDoor.AL
