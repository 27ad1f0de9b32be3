import Derived.Test.YtpcblologcindaaAL3
import Derived.Test.YtpcblologcindaaProg
/- What single functions compute: a part of the proof; no conditions. -/
set_option linter.unusedVariables false
set_option linter.unusedSimpArgs false
set_option linter.unusedSectionVars false
set_option maxRecDepth 100000
namespace Go.Proofs.Ytpcblologcindaa.AL
open Go
theorem wrap_u64 (x : Int) : IntKind.u64.wrap x = x % 18446744073709551616 := by
  unfold IntKind.wrap
  simp [IntKind.bits, IntKind.signed]
theorem wrap_u8 (x : Int) : IntKind.u8.wrap x = x % 256 := by
  unfold IntKind.wrap
  simp [IntKind.bits, IntKind.signed]
theorem wrap_u32 (x : Int) : IntKind.u32.wrap x = x % 4294967296 := by
  unfold IntKind.wrap
  simp [IntKind.bits, IntKind.signed]
theorem wrap_i64 (x : Int) : IntKind.i64.wrap x = (x + 9223372036854775808) % 18446744073709551616 - 9223372036854775808 := by
  unfold IntKind.wrap
  simp [IntKind.bits, IntKind.signed]
  split <;> omega
theorem wf_u64 (x : Int) : (Lit.int .u64 x).wf = true ↔ 0 ≤ x ∧ x ≤ 18446744073709551615 := by
  simp [Lit.wf, IntKind.min, IntKind.max, IntKind.bits, IntKind.signed]
theorem wf_u32 (x : Int) : (Lit.int .u32 x).wf = true ↔ 0 ≤ x ∧ x ≤ 4294967295 := by
  simp [Lit.wf, IntKind.min, IntKind.max, IntKind.bits, IntKind.signed]
theorem wf_u8 (x : Int) : (Lit.int .u8 x).wf = true ↔ 0 ≤ x ∧ x ≤ 255 := by
  simp [Lit.wf, IntKind.min, IntKind.max, IntKind.bits, IntKind.signed]
theorem wf_i64 (x : Int) : (Lit.int .i64 x).wf = true ↔ -9223372036854775808 ≤ x ∧ x ≤ 9223372036854775807 := by
  simp [Lit.wf, IntKind.min, IntKind.max, IntKind.bits, IntKind.signed]
theorem bAnd_u64 (a b : Nat) (ha : a < 18446744073709551616) (hb : b < 18446744073709551616) : bAnd .u64 (a : Int) (b : Int) = ((a &&& b : Nat) : Int) := by
  unfold bAnd
  rw [wrap_u64]
  have h1 : (BitVec.ofInt 64 (a : Int) &&& BitVec.ofInt 64 (b : Int)).toNat = a &&& b := by
    simp
    rw [Nat.mod_eq_of_lt ha, Nat.mod_eq_of_lt hb]
  have h2 : a &&& b < 18446744073709551616 := Nat.lt_of_le_of_lt Nat.and_le_left ha
  change (((BitVec.ofInt 64 (a : Int) &&& BitVec.ofInt 64 (b : Int)).toNat : Nat) : Int) % 18446744073709551616 = _
  rw [h1]
  omega
theorem bAnd_one (a : Int) (h0 : 0 ≤ a) (ha : a ≤ 18446744073709551615) : bAnd .u64 a 1 = a % 2 := by
  have := bAnd_u64 a.toNat 1 (by omega) (by omega)
  rw [show ((a.toNat : Nat) : Int) = a by omega] at this
  rw [show ((1 : Nat) : Int) = 1 by rfl] at this
  rw [this, Nat.and_one_is_mod]
  omega
end Go.Proofs.Ytpcblologcindaa.AL
namespace Go.Proofs.Ytpcblologcindaa.AL
open Go
/-! ### Rows of ints; bits of addresses -/
def rg (n : Nat) (f : Nat → Int) : List (List V) := (List.range n).map fun i => [.int .i64 (f i)]
theorem rg_length (n : Nat) (f : Nat → Int) : (rg n f).length = n := by simp [rg]
theorem rg_getD {n i : Nat} (f : Nat → Int) (h : i < n) : (rg n f).getD i [] = [.int .i64 (f i)] := by simp [rg, h]
theorem rg_zero (f : Nat → Int) : rg 0 f = [] := rfl
theorem rg_snoc (n : Nat) (f : Nat → Int) : rg n f ++ [[.int .i64 (f n)]] = rg (n + 1) f := by simp [rg, List.range_succ]
theorem rg_set (n i : Nat) (f : Nat → Int) (x : Int) : (rg n f).set i [.int .i64 x] = rg n (fun j => if j = i then x else f j) := by
  apply List.ext_getElem
  · simp [rg]
  · intro j h1 h2
    simp only [rg, List.getElem_set, List.getElem_map, List.getElem_range]
    by_cases e : i = j
    · subst e; simp
    · rw [if_neg e, if_neg (Ne.symm e)]
theorem rg_congr {n : Nat} {f g : Nat → Int} (h : ∀ i, i < n → f i = g i) : rg n f = rg n g := by
  unfold rg
  apply List.map_congr_left
  intro i hi
  rw [h i (by simpa using hi)]
def intsOf : List (List V) → Option (List Int)
  | [] => some []
  | [.int .i64 x] :: rows => (intsOf rows).map (x :: ·)
  | _ :: _ => none
theorem intsOf_map (l : List Int) : intsOf (l.map fun x => [.int .i64 x]) = some l := by
  induction l with
  | nil => rfl
  | cons x l ih => simp [intsOf, ih]
theorem intsOf_rg (n : Nat) (f : Nat → Int) : intsOf (rg n f) = some ((List.range n).map f) := by
  have := intsOf_map ((List.range n).map f)
  rwa [List.map_map] at this
theorem intsOf_eq : ∀ {rows : List (List V)} {l : List Int}, intsOf rows = some l → rows = l.map fun x => [.int .i64 x]
  | [], l, h => by simp [intsOf] at h; subst h; rfl
  | r :: rows, l, h => by
    unfold intsOf at h
    split at h
    · simp at h; subst h; simp_all
    · rename_i e
      simp only [List.cons.injEq] at e
      obtain ⟨rfl, rfl⟩ := e
      simp only [Option.map_eq_some_iff] at h
      obtain ⟨l', h1, rfl⟩ := h
      rw [intsOf_eq h1]; rfl
    · cases h
/-- Bit k of an address, from the least one. -/
def bt (h l : Int) (k : Nat) : Int := if 63 < k then h / 2 ^ (k - 64) % 2 else l / 2 ^ k % 2
theorem ipow (k : Nat) : ((2 ^ k : Nat) : Int) = (2 : Int) ^ k := by push_cast; rfl
theorem ipow_pos (k : Nat) : (0 : Int) < 2 ^ k := Int.pow_pos (by omega)
theorem ipow_le {k : Nat} (h : k ≤ 63) : (2 : Int) ^ k ≤ 9223372036854775808 := by
  rw [← ipow]
  have := Nat.pow_le_pow_right (n := 2) (by omega) h
  omega
theorem ipow_le64 {k : Nat} (h : k ≤ 64) : (2 : Int) ^ k ≤ 18446744073709551616 := by
  rw [← ipow]
  have := Nat.pow_le_pow_right (n := 2) (by omega) h
  omega
theorem bt_01 (h l : Int) (k : Nat) : bt h l k = 0 ∨ bt h l k = 1 := by
  unfold bt
  split <;> omega
theorem tdiv_pos {a : Int} (ha : 0 ≤ a) (k : Nat) : a.tdiv (2 ^ k) = a / 2 ^ k := Int.tdiv_eq_ediv_of_nonneg ha
theorem div_pow_bd {a : Int} (ha : 0 ≤ a) (k : Nat) : 0 ≤ a / 2 ^ k ∧ a / 2 ^ k ≤ a :=
  ⟨Int.ediv_nonneg ha (Int.le_of_lt (ipow_pos k)), Int.ediv_le_self _ ha⟩
theorem tmod_two {a : Int} (ha : 0 ≤ a) : a.tmod 2 = a % 2 := Int.tmod_eq_emod_of_nonneg ha
theorem wr_i64 {x : Int} (h1 : -9223372036854775808 ≤ x) (h2 : x ≤ 9223372036854775807) : IntKind.i64.wrap x = x := by rw [wrap_i64]; omega
theorem wr_u64 {x : Int} (h1 : 0 ≤ x) (h2 : x ≤ 18446744073709551615) : IntKind.u64.wrap x = x := by rw [wrap_u64]; omega
theorem wr_u8 {x : Int} (h1 : 0 ≤ x) (h2 : x ≤ 255) : IntKind.u8.wrap x = x := by rw [wrap_u8]; omega
theorem wr_u32 {x : Int} (h1 : 0 ≤ x) (h2 : x ≤ 4294967295) : IntKind.u32.wrap x = x := by rw [wrap_u32]; omega
/-- An address, one bit more at its end. -/
def adrStep (p : Int × Int) (b : Int) : Int × Int := ((p.1 + p.1 + p.2 / 9223372036854775808) % 18446744073709551616, (p.2 + p.2) % 18446744073709551616 + b)
def adrOf (bs : List Int) : Int × Int := bs.foldl adrStep (0, 0)
def bits01 (bs : List Int) : Bool := bs.all fun b => decide (b = 0) || decide (b = 1)
theorem bits01_iff {bs : List Int} : bits01 bs = true ↔ ∀ b ∈ bs, b = 0 ∨ b = 1 := by simp [bits01]
theorem adrOf_bd : ∀ (bs : List Int), (∀ b ∈ bs, b = 0 ∨ b = 1) → ∀ p : Int × Int, (0 ≤ p.1 ∧ p.1 ≤ 18446744073709551615 ∧ 0 ≤ p.2 ∧ p.2 ≤ 18446744073709551615) →
    0 ≤ (bs.foldl adrStep p).1 ∧ (bs.foldl adrStep p).1 ≤ 18446744073709551615 ∧ 0 ≤ (bs.foldl adrStep p).2 ∧ (bs.foldl adrStep p).2 ≤ 18446744073709551615
  | [], _, p, h => h
  | b :: bs, hb, p, h => by
    refine adrOf_bd bs (fun x hx => hb x (by simp [hx])) (adrStep p b) ?_
    have := hb b (by simp)
    unfold adrStep
    simp only
    omega
theorem adrOf_snoc (bs : List Int) (b : Int) : adrOf (bs ++ [b]) = adrStep (adrOf bs) b := by simp [adrOf]
theorem take_snoc' {α : Type} (l : List α) (k : Nat) (h : k < l.length) : l.take (k + 1) = l.take k ++ [l[k]] := List.take_succ_eq_append_getElem h
end Go.Proofs.Ytpcblologcindaa.AL
namespace Go.Proofs.Ytpcblologcindaa.AL
open Go
theorem bAnd_u64' {a b : Int} (ha : 0 ≤ a) (ha' : a ≤ 18446744073709551615) (hb : 0 ≤ b) (hb' : b ≤ 18446744073709551615) : bAnd .u64 a b = ((a.toNat &&& b.toNat : Nat) : Int) := by
  unfold bAnd
  have e : ∀ x : Int, 0 ≤ x → x ≤ 18446744073709551615 → (BitVec.ofInt (IntKind.u64).bits x).toNat = x.toNat := by
    intro x h1 h2
    rw [BitVec.toNat_ofInt]
    show (x % ((2 ^ 64 : Nat) : Int)).toNat = x.toNat
    rw [Int.emod_eq_of_lt h1 (by omega)]
  rw [BitVec.toNat_and, e a ha ha', e b hb hb']
  have h2 : a.toNat &&& b.toNat ≤ a.toNat := Nat.and_le_left
  rw [wr_u64 (by omega) (by omega)]
theorem tb_range (m k i : Nat) (h : k ≤ m) : (2 ^ m - 2 ^ k : Nat).testBit i = (decide (k ≤ i) && decide (i < m)) := by
  have : 2 ^ m - 2 ^ k = (2 ^ (m - k) - 1) <<< k := by
    rw [Nat.shiftLeft_eq, Nat.sub_mul, ← Nat.pow_add, Nat.sub_add_cancel h]; simp
  rw [this, Nat.testBit_shiftLeft, Nat.testBit_two_pow_sub_one]
  by_cases h1 : k ≤ i
  · by_cases h2 : i < m <;> simp [h1, h2] <;> omega
  · simp [h1]
/-- Cutting the lowest k bits off. -/
theorem and_mask (a m k : Nat) (h : k ≤ m) (ha : a < 2 ^ m) : a &&& (2 ^ m - 2 ^ k) = a / 2 ^ k * 2 ^ k := by
  apply Nat.eq_of_testBit_eq
  intro i
  rw [Nat.testBit_and, tb_range m k i h, ← Nat.shiftLeft_eq, Nat.testBit_shiftLeft, Nat.testBit_div_two_pow]
  by_cases h1 : k ≤ i
  · have : k + (i - k) = i := by omega
    have : i - k + k = i := by omega
    by_cases h2 : i < m
    · simp [h1, h2, this]
    · have h3 : a.testBit i = false := Nat.testBit_lt_two_pow (Nat.lt_of_lt_of_le ha (Nat.pow_le_pow_right (by omega) (by omega)))
      simp [h1, h2, h3, this]
  · simp [h1]
theorem bAnd_mask {a : Int} {m k : Nat} (h : k ≤ m) (hm : m ≤ 64) (ha : 0 ≤ a) (ha' : a < 2 ^ m) : bAnd .u64 a (2 ^ m - 2 ^ k) = a / 2 ^ k * 2 ^ k := by
  have h1 := ipow_le64 hm
  have h2 : (2 : Int) ^ k ≤ 2 ^ m := by
    rw [← ipow, ← ipow]; exact_mod_cast Nat.pow_le_pow_right (by omega) h
  have h3 := ipow_pos k
  rw [bAnd_u64' ha (by omega) (by omega) (by omega)]
  have e1 : ((2 : Int) ^ m - 2 ^ k).toNat = 2 ^ m - 2 ^ k := by
    rw [← ipow, ← ipow]; omega
  have e2 : a.toNat < 2 ^ m := by
    have : (a.toNat : Int) < ((2 ^ m : Nat) : Int) := by rw [ipow]; omega
    exact_mod_cast this
  rw [e1, and_mask _ m k h e2]
  push_cast
  rw [Int.toNat_of_nonneg ha]
theorem bAnd_one' {a : Int} (ha : 0 ≤ a) (ha' : a ≤ 18446744073709551615) : bAnd .u64 a 1 = a % 2 := by
  rw [bAnd_u64' ha ha' (by omega) (by omega)]
  show (((a.toNat &&& 1) : Nat) : Int) = _
  rw [Nat.and_one_is_mod]
  omega
/-- The highest 64-k bits. -/
theorem shl_mask {k : Nat} (h : k ≤ 64) : IntKind.u64.wrap (18446744073709551615 * 2 ^ k) = 18446744073709551616 - 2 ^ k := by
  rw [wrap_u64]
  have h1 := ipow_le64 h
  have h3 := ipow_pos k
  have : (18446744073709551615 : Int) * 2 ^ k = 18446744073709551616 - 2 ^ k + (2 ^ k - 1) * 18446744073709551616 := by omega
  rw [this, Int.add_mul_emod_self_right]
  omega
/-- An address without its lowest k bits. -/
def cutA (h l : Int) (k : Nat) : Int × Int := if 64 ≤ k then (h / 2 ^ (k - 64) * 2 ^ (k - 64), 0) else (h, l / 2 ^ k * 2 ^ k)
def numA (p : Int × Int) : Int := p.1 * 18446744073709551616 + p.2
theorem ipow_add (a b : Nat) : (2 : Int) ^ (a + b) = 2 ^ a * 2 ^ b := Int.pow_add ..
theorem ipow_succ (a : Nat) : (2 : Int) ^ (a + 1) = 2 ^ a * 2 := Int.pow_succ ..
theorem cutA_num {h l : Int} (hl : 0 ≤ l) (hl' : l ≤ 18446744073709551615) (k : Nat) : numA (cutA h l k) = numA (h, l) / 2 ^ k * 2 ^ k := by
  unfold cutA numA
  by_cases hk : 64 ≤ k
  · obtain ⟨j, rfl⟩ : ∃ j, k = 64 + j := ⟨k - 64, by omega⟩
    rw [if_pos (by omega)]
    simp only [show 64 + j - 64 = j by omega]
    rw [ipow_add, ← Int.ediv_ediv_of_nonneg (by decide), show ((2 : Int) ^ 64) = 18446744073709551616 from rfl]
    rw [show (h * 18446744073709551616 + l) / 18446744073709551616 = h by omega]
    rw [Int.mul_comm 18446744073709551616 (2 ^ j), ← Int.mul_assoc]
    omega
  · rw [if_neg (by omega)]
    simp only
    have : (18446744073709551616 : Int) = 2 ^ (64 - k) * 2 ^ k := by rw [← ipow_add, show 64 - k + k = 64 by omega]; rfl
    have hp := ipow_pos k
    have e : (h * 18446744073709551616 + l) / 2 ^ k = h * 2 ^ (64 - k) + l / 2 ^ k := by
      rw [this, ← Int.mul_assoc, Int.add_comm, Int.add_mul_ediv_right _ _ (by omega), Int.add_comm]
    rw [e, Int.add_mul, Int.mul_assoc, ← this]
theorem bt_num {h l : Int} (hl : 0 ≤ l) (hl' : l ≤ 18446744073709551615) (k : Nat) : bt h l k = numA (h, l) / 2 ^ k % 2 := by
  unfold bt numA
  split
  · obtain ⟨j, rfl⟩ : ∃ j, k = 64 + j := ⟨k - 64, by omega⟩
    simp only [show 64 + j - 64 = j by omega]
    rw [ipow_add, ← Int.ediv_ediv_of_nonneg (by decide), show ((2 : Int) ^ 64) = 18446744073709551616 from rfl]
    rw [show (h * 18446744073709551616 + l) / 18446744073709551616 = h by omega]
  · have : (18446744073709551616 : Int) = 2 ^ (63 - k) * 2 * 2 ^ k := by rw [← ipow_succ, ← ipow_add, show 63 - k + 1 + k = 64 by omega]; rfl
    have hp := ipow_pos k
    simp only
    rw [this, ← Int.mul_assoc, Int.add_comm, Int.add_mul_ediv_right _ _ (by omega), ← Int.mul_assoc, Int.add_mul_emod_self_right]
theorem numA_inj {p q : Int × Int} (hp : 0 ≤ p.2 ∧ p.2 ≤ 18446744073709551615) (hq : 0 ≤ q.2 ∧ q.2 ≤ 18446744073709551615) (h : numA p = numA q) : p = q := by
  unfold numA at h
  have h1 : p.1 = q.1 := by omega
  have h2 : p.2 = q.2 := by omega
  exact Prod.ext h1 h2
theorem bits_eq : ∀ (n : Nat) {N M : Int}, N / 2 ^ n = M / 2 ^ n → (∀ i, i < n → N / 2 ^ i % 2 = M / 2 ^ i % 2) → N = M
  | 0, N, M, h, _ => by simpa using h
  | n + 1, N, M, h, hb => by
    refine bits_eq n ?_ (fun i hi => hb i (by omega))
    have hn := hb n (by omega)
    rw [ipow_succ, ← Int.ediv_ediv_of_nonneg (Int.le_of_lt (ipow_pos n)), ← Int.ediv_ediv_of_nonneg (Int.le_of_lt (ipow_pos n))] at h
    omega
theorem div_div_pow (N : Int) (a b : Nat) : N / 2 ^ a / 2 ^ b = N / 2 ^ (a + b) := by
  rw [ipow_add, Int.ediv_ediv_of_nonneg (Int.le_of_lt (ipow_pos a))]
/-- The bits from k on are the same. -/
theorem bits_from {N M : Int} {k w : Nat} (hk : k ≤ w) (hN : 0 ≤ N) (hN' : N < 2 ^ w) (hM : 0 ≤ M) (hM' : M < 2 ^ w) :
    (∀ i, k ≤ i → i < w → N / 2 ^ i % 2 = M / 2 ^ i % 2) ↔ N / 2 ^ k = M / 2 ^ k := by
  constructor
  · intro h
    refine bits_eq (w - k) ?_ (fun i hi => ?_)
    · rw [div_div_pow, div_div_pow, show k + (w - k) = w by omega, Int.ediv_eq_zero_of_lt hN hN', Int.ediv_eq_zero_of_lt hM hM']
    · rw [div_div_pow, div_div_pow]; exact h (k + i) (by omega) (by omega)
  · intro h i h1 h2
    rw [show i = k + (i - k) by omega, ← div_div_pow, ← div_div_pow, h]
theorem cut_iff (N : Int) (k : Nat) : N / 2 ^ k * 2 ^ k = N ↔ ∀ i, i < k → N / 2 ^ i % 2 = 0 := by
  have hp := ipow_pos k
  constructor
  · intro h i hi
    have e : (2 : Int) ^ k = 2 ^ (k - i - 1) * 2 * 2 ^ i := by rw [← ipow_succ, ← ipow_add]; congr 1; omega
    have hpi := ipow_pos i
    rw [e, ← Int.mul_assoc, ← Int.mul_assoc] at h
    generalize N / (2 ^ (k - i - 1) * 2 * 2 ^ i) * 2 ^ (k - i - 1) = x at h
    rw [← h, Int.mul_ediv_cancel _ (by omega)]
    omega
  · intro h
    have : N = N / 2 ^ k * 2 ^ k := by
      refine bits_eq k ?_ (fun i hi => ?_)
      · rw [Int.mul_ediv_cancel _ (by omega)]
      · rw [h i hi]
        have e : (2 : Int) ^ k = 2 ^ (k - i - 1) * 2 * 2 ^ i := by rw [← ipow_succ, ← ipow_add]; congr 1; omega
        have hpi := ipow_pos i
        rw [e, ← Int.mul_assoc, ← Int.mul_assoc]
        generalize N / (2 ^ (k - i - 1) * 2 * 2 ^ i) * 2 ^ (k - i - 1) = x
        rw [Int.mul_ediv_cancel _ (by omega)]
        omega
    exact this.symm
theorem adrStep_num {p : Int × Int} {b : Int} (h0 : 0 ≤ p.1) (h1 : 0 ≤ p.2) (h2 : p.2 ≤ 18446744073709551615) (hb : b = 0 ∨ b = 1) (hN : numA p < 170141183460469231731687303715884105728) : numA (adrStep p b) = 2 * numA p + b := by
  unfold numA adrStep at *
  simp only
  omega
/-- The address whose bits, from the highest, are those of N and then nothing. -/
theorem adrOf_bits (N : Int) (w n : Nat) (hw : w ≤ 128) (hn : n ≤ w) (hN : 0 ≤ N) (hN' : N < 2 ^ w) : ∀ j, j ≤ w →
    numA (adrOf ((List.range j).map fun i => if i < n then N / 2 ^ (w - 1 - i) % 2 else 0)) = if j ≤ n then N / 2 ^ (w - j) else N / 2 ^ (w - n) * 2 ^ (j - n)
  | 0, _ => by
    simp [adrOf, numA, Int.ediv_eq_zero_of_lt hN hN']
  | j + 1, hj => by
    have ih := adrOf_bits N w n hw hn hN hN' j (by omega)
    have hbd := adrOf_bd ((List.range j).map fun i => if i < n then N / 2 ^ (w - 1 - i) % 2 else 0) (by
      intro b hb
      simp only [List.mem_map] at hb
      obtain ⟨i, _, rfl⟩ := hb
      split <;> omega) (0, 0) (by simp)
    rw [List.range_succ, List.map_append, List.map_singleton, adrOf_snoc]
    simp only [← adrOf.eq_1] at hbd
    have hbnd : numA (adrOf ((List.range j).map fun i => if i < n then N / 2 ^ (w - 1 - i) % 2 else 0)) < 170141183460469231731687303715884105728 := by
      rw [ih]
      have hpw : (2 : Int) ^ (w - 1) ≤ 170141183460469231731687303715884105728 := by
        rw [← ipow]
        have := Nat.pow_le_pow_right (n := 2) (by omega) (show w - 1 ≤ 127 by omega)
        omega
      have hw1 : (2 : Int) ^ w = 2 ^ (w - 1) * 2 := by rw [← ipow_succ]; congr 1; omega
      split
      · have e : (2 : Int) ^ (w - j) = 2 ^ (w - j - 1) * 2 := by rw [← ipow_succ]; congr 1; omega
        have h1 : N / 2 ^ (w - j) ≤ N / 2 := by
          rw [e, Int.mul_comm, ← Int.ediv_ediv_of_nonneg (by omega)]
          exact Int.ediv_le_self _ (by omega)
        omega
      · have h1 : N / 2 ^ (w - n) * 2 ^ (j - n) * 2 ^ (w - j) ≤ N := by
          rw [Int.mul_assoc, ← ipow_add, show j - n + (w - j) = w - n by omega]
          exact Int.ediv_mul_le N (Int.ne_of_gt (ipow_pos _))
        have e : (2 : Int) ^ (w - j) = 2 ^ (w - j - 1) * 2 := by rw [← ipow_succ]; congr 1; omega
        have h0 : 0 ≤ N / 2 ^ (w - n) * 2 ^ (j - n) := Int.mul_nonneg (Int.ediv_nonneg hN (Int.le_of_lt (ipow_pos _))) (Int.le_of_lt (ipow_pos _))
        rw [e] at h1
        have h3 := ipow_pos (w - j - 1)
        generalize N / 2 ^ (w - n) * 2 ^ (j - n) = x at *
        have : x * 2 ≤ x * (2 ^ (w - j - 1) * 2) := Int.mul_le_mul_of_nonneg_left (by omega) h0
        omega
    rw [adrStep_num hbd.1 hbd.2.2.1 hbd.2.2.2 (by split <;> omega) hbnd, ih]
    by_cases h1 : j + 1 ≤ n
    · rw [if_pos (show j ≤ n by omega), if_pos h1, if_pos (show j < n by omega)]
      have e : N / 2 ^ (w - j) = N / 2 ^ (w - (j + 1)) / 2 := by
        have := div_div_pow N (w - (j + 1)) 1
        rw [show w - (j + 1) + 1 = w - j by omega] at this
        rw [← this]
        rfl
      rw [e, show w - 1 - j = w - (j + 1) by omega]
      omega
    · rw [if_neg h1, if_neg (show ¬ j < n by omega)]
      have e : (2 : Int) ^ (j + 1 - n) = 2 ^ (j - n) * 2 := by rw [← ipow_succ]; congr 1; omega
      rw [e, ← Int.mul_assoc]
      by_cases h2 : j ≤ n
      · rw [if_pos h2, show j = n by omega]
        simp
        omega
      · rw [if_neg h2]
        omega
theorem bShl_nat {x : Int} {k : Nat} (h : k ≤ 64) : bShl .u64 x k = IntKind.u64.wrap (x * 2 ^ k) := by
  unfold bShl
  rw [show min (k : Int).toNat (IntKind.u64).bits = k from by show min (k : Int).toNat 64 = k; omega]
theorem bShr_nat {x : Int} {k : Nat} (h : k ≤ 64) : bShr .u64 x k = x / 2 ^ k := by
  unfold bShr
  rw [show min (k : Int).toNat (IntKind.u64).bits = k from by show min (k : Int).toNat 64 = k; omega]
  rw [Int.fdiv_eq_ediv_of_nonneg _ (Int.le_of_lt (ipow_pos k))]
theorem bShl_all {k : Nat} (h : k ≤ 64) : bShl .u64 18446744073709551615 k = 18446744073709551616 - 2 ^ k := by rw [bShl_nat h, shl_mask h]
theorem bAnd_zero {a : Int} (ha : 0 ≤ a) (ha' : a ≤ 18446744073709551615) : bAnd .u64 0 a = 0 := by
  rw [bAnd_u64' (by omega) (by omega) ha ha']
  simp
theorem bAnd_zero' {a : Int} (ha : 0 ≤ a) (ha' : a ≤ 18446744073709551615) : bAnd .u64 a 0 = 0 := by
  rw [bAnd_u64' ha ha' (by omega) (by omega)]
  simp
theorem bAnd_full {a : Int} (ha : 0 ≤ a) (ha' : a ≤ 18446744073709551615) : bAnd .u64 a 18446744073709551615 = a := by
  have := bAnd_mask (a := a) (m := 64) (k := 0) (by omega) (by omega) ha (by show a < 18446744073709551616; omega)
  simpa using this
theorem mask32 {k : Nat} (h : k ≤ 32) : bAnd .u64 (18446744073709551616 - 2 ^ k) 4294967295 = 4294967296 - 2 ^ k := by
  have h1 := ipow_le64 (k := k) (by omega)
  have h2 := ipow_pos k
  have h3 : (2 : Int) ^ k ≤ 4294967296 := by
    rw [← ipow]
    have := Nat.pow_le_pow_right (n := 2) (by omega) h
    omega
  rw [bAnd_u64' (by omega) (by omega) (by omega) (by omega)]
  have e : ((18446744073709551616 : Int) - 2 ^ k).toNat = 2 ^ 64 - 2 ^ k := by
    rw [← ipow]; omega
  have e2 : ((4294967295 : Int)).toNat = 2 ^ 32 - 2 ^ 0 := rfl
  have e3 : (4294967296 : Int) - 2 ^ k = ((2 ^ 32 - 2 ^ k : Nat) : Int) := by
    rw [← ipow] at h3 ⊢; omega
  rw [e, e2, e3]
  congr 1
  apply Nat.eq_of_testBit_eq
  intro i
  rw [Nat.testBit_and, tb_range 64 k i (by omega), tb_range 32 0 i (by omega), tb_range 32 k i h]
  by_cases h1 : k ≤ i <;> by_cases h2 : i < 32 <;> simp [h1, h2] <;> omega
theorem u64_rng {n : Int} (h : (Lit.int .u64 n).wf = true) : 0 ≤ n ∧ n ≤ 18446744073709551615 := by
  simp only [Lit.wf, Bool.and_eq_true, decide_eq_true_eq] at h
  have e1 : IntKind.u64.min = 0 := rfl
  have e2 : IntKind.u64.max = 18446744073709551615 := rfl
  omega
theorem i64_rng {n : Int} (h : (Lit.int .i64 n).wf = true) : -9223372036854775808 ≤ n ∧ n ≤ 9223372036854775807 := by
  simp only [Lit.wf, Bool.and_eq_true, decide_eq_true_eq] at h
  have e1 : IntKind.i64.min = -9223372036854775808 := rfl
  have e2 : IntKind.i64.max = 9223372036854775807 := rfl
  omega
theorem u8_rng {n : Int} (h : (Lit.int .u8 n).wf = true) : 0 ≤ n ∧ n ≤ 255 := by
  simp only [Lit.wf, Bool.and_eq_true, decide_eq_true_eq] at h
  have e1 : IntKind.u8.min = 0 := rfl
  have e2 : IntKind.u8.max = 255 := rfl
  omega
end Go.Proofs.Ytpcblologcindaa.AL
namespace Go.Proofs.Ytpcblologcindaa.AL
open Go
attribute [local simp] dstOk qf cv qbin ibin sbin qun retPost rvOk ctV ctPost marksOk retV resAll resOf V.lt ltL V.ren renL V.exp cleanL V.clean closedL V.closed V.cells V.one V.tree
  loadV cellsAt isAggD placesOf fillV putCells lstore bound seqParts V.sh shL Blk.sh newV V.ok peqs peq srcRows appOk V.fz fzL Blk.fz fzOk and_assoc
attribute [-simp] Int.not_le Int.not_lt Nat.not_le Nat.not_lt
@[simp] theorem Try.cells1 : Try.prog.cellsOf 1 = 1 := by kernel_rfl
@[simp] theorem Try.bytes1 : Try.prog.bytesOf 1 = 8 := by kernel_rfl
@[simp] theorem Try.zc1 : zcells Try.prog 1 = some [.nilfn] := by kernel_rfl
@[simp] theorem Try.zl1 : zlen Try.prog 1 = 1 := by kernel_rfl
@[simp] theorem Try.cells2 : Try.prog.cellsOf 2 = 1 := by kernel_rfl
@[simp] theorem Try.bytes2 : Try.prog.bytesOf 2 = 8 := by kernel_rfl
@[simp] theorem Try.zc2 : zcells Try.prog 2 = some [.int .i64 0] := by kernel_rfl
@[simp] theorem Try.zl2 : zlen Try.prog 2 = 1 := by kernel_rfl
@[simp] theorem Try.cells3 : Try.prog.cellsOf 3 = 1 := by kernel_rfl
@[simp] theorem Try.bytes3 : Try.prog.bytesOf 3 = 8 := by kernel_rfl
@[simp] theorem Try.zc3 : zcells Try.prog 3 = some [.int .i64 0] := by kernel_rfl
@[simp] theorem Try.zl3 : zlen Try.prog 3 = 1 := by kernel_rfl
@[simp] theorem Try.cells4 : Try.prog.cellsOf 4 = 1 := by kernel_rfl
@[simp] theorem Try.bytes4 : Try.prog.bytesOf 4 = 1 := by kernel_rfl
@[simp] theorem Try.zc4 : zcells Try.prog 4 = some [.bool false] := by kernel_rfl
@[simp] theorem Try.zl4 : zlen Try.prog 4 = 1 := by kernel_rfl
@[simp] theorem Try.cells5 : Try.prog.cellsOf 5 = 1 := by kernel_rfl
@[simp] theorem Try.bytes5 : Try.prog.bytesOf 5 = 1 := by kernel_rfl
@[simp] theorem Try.zc5 : zcells Try.prog 5 = some [.int .u8 0] := by kernel_rfl
@[simp] theorem Try.zl5 : zlen Try.prog 5 = 1 := by kernel_rfl
@[simp] theorem Try.cells6 : Try.prog.cellsOf 6 = 1 := by kernel_rfl
@[simp] theorem Try.bytes6 : Try.prog.bytesOf 6 = 1 := by kernel_rfl
@[simp] theorem Try.zc6 : zcells Try.prog 6 = some [.int .u8 0] := by kernel_rfl
@[simp] theorem Try.zl6 : zlen Try.prog 6 = 1 := by kernel_rfl
@[simp] theorem Try.cells7 : Try.prog.cellsOf 7 = 4 := by kernel_rfl
@[simp] theorem Try.bytes7 : Try.prog.bytesOf 7 = 24 := by kernel_rfl
@[simp] theorem Try.zc7 : zcells Try.prog 7 = some [.int .i64 0, .int .i64 0, .bool false, .int .u8 0] := by kernel_rfl
@[simp] theorem Try.zl7 : zlen Try.prog 7 = 4 := by kernel_rfl
@[simp] theorem Try.eqa7 (x0 y0 : Int) (x1 y1 : Int) (x2 y2 : Bool) (x3 y3 : Int) : EqA Try.prog 7 [.int .i64 x0, .int .i64 x1, .bool x2, .int .u8 x3] [.int .i64 y0, .int .i64 y1, .bool y2, .int .u8 y3] :=
  EqA_of (l := [.int .i64, .int .i64, .bool, .int .u8]) 6 (by kernel_rfl) (by kernel_rfl) (by kernel_rfl) (by kernel_rfl) (by omega) (by simp [LSS, SSh]) (by simp [LSS, SSh])
@[simp] theorem Try.cells8 : Try.prog.cellsOf 8 = 4 := by kernel_rfl
@[simp] theorem Try.bytes8 : Try.prog.bytesOf 8 = 24 := by kernel_rfl
@[simp] theorem Try.zc8 : zcells Try.prog 8 = some [.int .i64 0, .int .i64 0, .bool false, .int .u8 0] := by kernel_rfl
@[simp] theorem Try.zl8 : zlen Try.prog 8 = 4 := by kernel_rfl
@[simp] theorem Try.eqa8 (x0 y0 : Int) (x1 y1 : Int) (x2 y2 : Bool) (x3 y3 : Int) : EqA Try.prog 8 [.int .i64 x0, .int .i64 x1, .bool x2, .int .u8 x3] [.int .i64 y0, .int .i64 y1, .bool y2, .int .u8 y3] :=
  EqA_of (l := [.int .i64, .int .i64, .bool, .int .u8]) 6 (by kernel_rfl) (by kernel_rfl) (by kernel_rfl) (by kernel_rfl) (by omega) (by simp [LSS, SSh]) (by simp [LSS, SSh])
@[simp] theorem Try.cells9 : Try.prog.cellsOf 9 = 1 := by kernel_rfl
@[simp] theorem Try.bytes9 : Try.prog.bytesOf 9 = 16 := by kernel_rfl
@[simp] theorem Try.zc9 : zcells Try.prog 9 = some [.str ByteArray.empty] := by kernel_rfl
@[simp] theorem Try.zl9 : zlen Try.prog 9 = 1 := by kernel_rfl
@[simp] theorem Try.cells10 : Try.prog.cellsOf 10 = 1 := by kernel_rfl
@[simp] theorem Try.bytes10 : Try.prog.bytesOf 10 = 16 := by kernel_rfl
@[simp] theorem Try.zc10 : zcells Try.prog 10 = some [.str ByteArray.empty] := by kernel_rfl
@[simp] theorem Try.zl10 : zlen Try.prog 10 = 1 := by kernel_rfl
@[simp] theorem Try.cells11 : Try.prog.cellsOf 11 = 1 := by kernel_rfl
@[simp] theorem Try.bytes11 : Try.prog.bytesOf 11 = 16 := by kernel_rfl
@[simp] theorem Try.zc11 : zcells Try.prog 11 = some [.str ByteArray.empty] := by kernel_rfl
@[simp] theorem Try.zl11 : zlen Try.prog 11 = 1 := by kernel_rfl
@[simp] theorem Try.cells12 : Try.prog.cellsOf 12 = 1 := by kernel_rfl
@[simp] theorem Try.bytes12 : Try.prog.bytesOf 12 = 8 := by kernel_rfl
@[simp] theorem Try.zc12 : zcells Try.prog 12 = some [.int .u64 0] := by kernel_rfl
@[simp] theorem Try.zl12 : zlen Try.prog 12 = 1 := by kernel_rfl
@[simp] theorem Try.cells13 : Try.prog.cellsOf 13 = 2 := by kernel_rfl
@[simp] theorem Try.bytes13 : Try.prog.bytesOf 13 = 24 := by kernel_rfl
@[simp] theorem Try.zc13 : zcells Try.prog 13 = some [.str ByteArray.empty, .int .u64 0] := by kernel_rfl
@[simp] theorem Try.zl13 : zlen Try.prog 13 = 2 := by kernel_rfl
@[simp] theorem Try.cells14 : Try.prog.cellsOf 14 = 2 := by kernel_rfl
@[simp] theorem Try.bytes14 : Try.prog.bytesOf 14 = 24 := by kernel_rfl
@[simp] theorem Try.zc14 : zcells Try.prog 14 = some [.str ByteArray.empty, .int .u64 0] := by kernel_rfl
@[simp] theorem Try.zl14 : zlen Try.prog 14 = 2 := by kernel_rfl
@[simp] theorem Try.cells15 : Try.prog.cellsOf 15 = 1 := by kernel_rfl
@[simp] theorem Try.bytes15 : Try.prog.bytesOf 15 = 8 := by kernel_rfl
@[simp] theorem Try.zc15 : zcells Try.prog 15 = some [.nilp] := by kernel_rfl
@[simp] theorem Try.zl15 : zlen Try.prog 15 = 1 := by kernel_rfl
@[simp] theorem Try.cells16 : Try.prog.cellsOf 16 = 1 := by kernel_rfl
@[simp] theorem Try.bytes16 : Try.prog.bytesOf 16 = 8 := by kernel_rfl
@[simp] theorem Try.zc16 : zcells Try.prog 16 = some [.nilp] := by kernel_rfl
@[simp] theorem Try.zl16 : zlen Try.prog 16 = 1 := by kernel_rfl
@[simp] theorem Try.cells17 : Try.prog.cellsOf 17 = 1 := by kernel_rfl
@[simp] theorem Try.bytes17 : Try.prog.bytesOf 17 = 8 := by kernel_rfl
@[simp] theorem Try.zc17 : zcells Try.prog 17 = some [.nilp] := by kernel_rfl
@[simp] theorem Try.zl17 : zlen Try.prog 17 = 1 := by kernel_rfl
@[simp] theorem Try.cells18 : Try.prog.cellsOf 18 = 1 := by kernel_rfl
@[simp] theorem Try.bytes18 : Try.prog.bytesOf 18 = 8 := by kernel_rfl
@[simp] theorem Try.zc18 : zcells Try.prog 18 = some [.nilp] := by kernel_rfl
@[simp] theorem Try.zl18 : zlen Try.prog 18 = 1 := by kernel_rfl
@[simp] theorem Try.cells19 : Try.prog.cellsOf 19 = 1 := by kernel_rfl
@[simp] theorem Try.bytes19 : Try.prog.bytesOf 19 = 8 := by kernel_rfl
@[simp] theorem Try.zc19 : zcells Try.prog 19 = some [.nilp] := by kernel_rfl
@[simp] theorem Try.zl19 : zlen Try.prog 19 = 1 := by kernel_rfl
@[simp] theorem Try.cells20 : Try.prog.cellsOf 20 = 1 := by kernel_rfl
@[simp] theorem Try.bytes20 : Try.prog.bytesOf 20 = 16 := by kernel_rfl
@[simp] theorem Try.zc20 : zcells Try.prog 20 = some [.nilif] := by kernel_rfl
@[simp] theorem Try.zl20 : zlen Try.prog 20 = 1 := by kernel_rfl
@[simp] theorem Try.cells21 : Try.prog.cellsOf 21 = 1 := by kernel_rfl
@[simp] theorem Try.bytes21 : Try.prog.bytesOf 21 = 4 := by kernel_rfl
@[simp] theorem Try.zc21 : zcells Try.prog 21 = some [.int .i32 0] := by kernel_rfl
@[simp] theorem Try.zl21 : zlen Try.prog 21 = 1 := by kernel_rfl
@[simp] theorem Try.cells22 : Try.prog.cellsOf 22 = 1 := by kernel_rfl
@[simp] theorem Try.bytes22 : Try.prog.bytesOf 22 = 8 := by kernel_rfl
@[simp] theorem Try.zc22 : zcells Try.prog 22 = some [.int .u64 0] := by kernel_rfl
@[simp] theorem Try.zl22 : zlen Try.prog 22 = 1 := by kernel_rfl
@[simp] theorem Try.cells23 : Try.prog.cellsOf 23 = 2 := by kernel_rfl
@[simp] theorem Try.bytes23 : Try.prog.bytesOf 23 = 16 := by kernel_rfl
@[simp] theorem Try.zc23 : zcells Try.prog 23 = some [.int .u64 0, .int .u64 0] := by kernel_rfl
@[simp] theorem Try.zl23 : zlen Try.prog 23 = 2 := by kernel_rfl
@[simp] theorem Try.eqa23 (x0 y0 : Int) (x1 y1 : Int) : EqA Try.prog 23 [.int .u64 x0, .int .u64 x1] [.int .u64 y0, .int .u64 y1] :=
  EqA_of (l := [.int .u64, .int .u64]) 6 (by kernel_rfl) (by kernel_rfl) (by kernel_rfl) (by kernel_rfl) (by omega) (by simp [LSS, SSh]) (by simp [LSS, SSh])
@[simp] theorem Try.cells24 : Try.prog.cellsOf 24 = 2 := by kernel_rfl
@[simp] theorem Try.bytes24 : Try.prog.bytesOf 24 = 16 := by kernel_rfl
@[simp] theorem Try.zc24 : zcells Try.prog 24 = some [.int .u64 0, .int .u64 0] := by kernel_rfl
@[simp] theorem Try.zl24 : zlen Try.prog 24 = 2 := by kernel_rfl
@[simp] theorem Try.eqa24 (x0 y0 : Int) (x1 y1 : Int) : EqA Try.prog 24 [.int .u64 x0, .int .u64 x1] [.int .u64 y0, .int .u64 y1] :=
  EqA_of (l := [.int .u64, .int .u64]) 6 (by kernel_rfl) (by kernel_rfl) (by kernel_rfl) (by kernel_rfl) (by omega) (by simp [LSS, SSh]) (by simp [LSS, SSh])
@[simp] theorem Try.cells25 : Try.prog.cellsOf 25 = 4 := by kernel_rfl
@[simp] theorem Try.bytes25 : Try.prog.bytesOf 25 = 32 := by kernel_rfl
@[simp] theorem Try.zc25 : zcells Try.prog 25 = some [.int .u8 0, .int .u64 0, .int .u64 0, .int .i64 0] := by kernel_rfl
@[simp] theorem Try.zl25 : zlen Try.prog 25 = 4 := by kernel_rfl
@[simp] theorem Try.eqa25 (x0 y0 : Int) (x1 y1 : Int) (x2 y2 : Int) (x3 y3 : Int) : EqA Try.prog 25 [.int .u8 x0, .int .u64 x1, .int .u64 x2, .int .i64 x3] [.int .u8 y0, .int .u64 y1, .int .u64 y2, .int .i64 y3] :=
  EqA_of (l := [.int .u8, .int .u64, .int .u64, .int .i64]) 6 (by kernel_rfl) (by kernel_rfl) (by kernel_rfl) (by kernel_rfl) (by omega) (by simp [LSS, SSh]) (by simp [LSS, SSh])
@[simp] theorem Try.cells26 : Try.prog.cellsOf 26 = 4 := by kernel_rfl
@[simp] theorem Try.bytes26 : Try.prog.bytesOf 26 = 32 := by kernel_rfl
@[simp] theorem Try.zc26 : zcells Try.prog 26 = some [.int .u8 0, .int .u64 0, .int .u64 0, .int .i64 0] := by kernel_rfl
@[simp] theorem Try.zl26 : zlen Try.prog 26 = 4 := by kernel_rfl
@[simp] theorem Try.eqa26 (x0 y0 : Int) (x1 y1 : Int) (x2 y2 : Int) (x3 y3 : Int) : EqA Try.prog 26 [.int .u8 x0, .int .u64 x1, .int .u64 x2, .int .i64 x3] [.int .u8 y0, .int .u64 y1, .int .u64 y2, .int .i64 y3] :=
  EqA_of (l := [.int .u8, .int .u64, .int .u64, .int .i64]) 6 (by kernel_rfl) (by kernel_rfl) (by kernel_rfl) (by kernel_rfl) (by omega) (by simp [LSS, SSh]) (by simp [LSS, SSh])
@[simp] theorem Try.cells27 : Try.prog.cellsOf 27 = 1 := by kernel_rfl
@[simp] theorem Try.bytes27 : Try.prog.bytesOf 27 = 8 := by kernel_rfl
@[simp] theorem Try.zc27 : zcells Try.prog 27 = some [.int .i64 0] := by kernel_rfl
@[simp] theorem Try.zl27 : zlen Try.prog 27 = 1 := by kernel_rfl
@[simp] theorem Try.cells29 : Try.prog.cellsOf 29 = 1 := by kernel_rfl
@[simp] theorem Try.bytes29 : Try.prog.bytesOf 29 = 8 := by kernel_rfl
@[simp] theorem Try.zc29 : zcells Try.prog 29 = some [.nilfn] := by kernel_rfl
@[simp] theorem Try.zl29 : zlen Try.prog 29 = 1 := by kernel_rfl
@[simp] theorem Try.cells31 : Try.prog.cellsOf 31 = 1 := by kernel_rfl
@[simp] theorem Try.bytes31 : Try.prog.bytesOf 31 = 8 := by kernel_rfl
@[simp] theorem Try.zc31 : zcells Try.prog 31 = some [.nilfn] := by kernel_rfl
@[simp] theorem Try.zl31 : zlen Try.prog 31 = 1 := by kernel_rfl
@[simp] theorem Try.cells33 : Try.prog.cellsOf 33 = 1 := by kernel_rfl
@[simp] theorem Try.bytes33 : Try.prog.bytesOf 33 = 8 := by kernel_rfl
@[simp] theorem Try.zc33 : zcells Try.prog 33 = some [.nilfn] := by kernel_rfl
@[simp] theorem Try.zl33 : zlen Try.prog 33 = 1 := by kernel_rfl
@[simp] theorem Try.cells35 : Try.prog.cellsOf 35 = 1 := by kernel_rfl
@[simp] theorem Try.bytes35 : Try.prog.bytesOf 35 = 8 := by kernel_rfl
@[simp] theorem Try.zc35 : zcells Try.prog 35 = some [.nilfn] := by kernel_rfl
@[simp] theorem Try.zl35 : zlen Try.prog 35 = 1 := by kernel_rfl
@[simp] theorem Try.cells36 : Try.prog.cellsOf 36 = 1 := by kernel_rfl
@[simp] theorem Try.bytes36 : Try.prog.bytesOf 36 = 8 := by kernel_rfl
@[simp] theorem Try.zc36 : zcells Try.prog 36 = some [.nilfn] := by kernel_rfl
@[simp] theorem Try.zl36 : zlen Try.prog 36 = 1 := by kernel_rfl
@[simp] theorem Try.cells37 : Try.prog.cellsOf 37 = 1 := by kernel_rfl
@[simp] theorem Try.bytes37 : Try.prog.bytesOf 37 = 8 := by kernel_rfl
@[simp] theorem Try.zc37 : zcells Try.prog 37 = some [.nilfn] := by kernel_rfl
@[simp] theorem Try.zl37 : zlen Try.prog 37 = 1 := by kernel_rfl
@[simp] theorem Try.cells38 : Try.prog.cellsOf 38 = 1 := by kernel_rfl
@[simp] theorem Try.bytes38 : Try.prog.bytesOf 38 = 8 := by kernel_rfl
@[simp] theorem Try.zc38 : zcells Try.prog 38 = some [.nilfn] := by kernel_rfl
@[simp] theorem Try.zl38 : zlen Try.prog 38 = 1 := by kernel_rfl
@[simp] theorem Try.cells39 : Try.prog.cellsOf 39 = 1 := by kernel_rfl
@[simp] theorem Try.bytes39 : Try.prog.bytesOf 39 = 8 := by kernel_rfl
@[simp] theorem Try.zc39 : zcells Try.prog 39 = some [.nilfn] := by kernel_rfl
@[simp] theorem Try.zl39 : zlen Try.prog 39 = 1 := by kernel_rfl
@[simp] theorem Try.cells40 : Try.prog.cellsOf 40 = 1 := by kernel_rfl
@[simp] theorem Try.bytes40 : Try.prog.bytesOf 40 = 8 := by kernel_rfl
@[simp] theorem Try.zc40 : zcells Try.prog 40 = some [.nilfn] := by kernel_rfl
@[simp] theorem Try.zl40 : zlen Try.prog 40 = 1 := by kernel_rfl
@[simp] theorem Try.cells41 : Try.prog.cellsOf 41 = 1 := by kernel_rfl
@[simp] theorem Try.bytes41 : Try.prog.bytesOf 41 = 8 := by kernel_rfl
@[simp] theorem Try.zc41 : zcells Try.prog 41 = some [.nilfn] := by kernel_rfl
@[simp] theorem Try.zl41 : zlen Try.prog 41 = 1 := by kernel_rfl
@[simp] theorem Try.cells42 : Try.prog.cellsOf 42 = 1 := by kernel_rfl
@[simp] theorem Try.bytes42 : Try.prog.bytesOf 42 = 8 := by kernel_rfl
@[simp] theorem Try.zc42 : zcells Try.prog 42 = some [.nilfn] := by kernel_rfl
@[simp] theorem Try.zl42 : zlen Try.prog 42 = 1 := by kernel_rfl
@[simp] theorem Try.cells43 : Try.prog.cellsOf 43 = 4 := by kernel_rfl
@[simp] theorem Try.bytes43 : Try.prog.bytesOf 43 = 32 := by kernel_rfl
@[simp] theorem Try.zc43 : zcells Try.prog 43 = some [.int .u64 0, .int .u64 0, .int .u64 0, .int .u64 0] := by kernel_rfl
@[simp] theorem Try.zl43 : zlen Try.prog 43 = 4 := by kernel_rfl
@[simp] theorem Try.eqa43 (x0 y0 : Int) (x1 y1 : Int) (x2 y2 : Int) (x3 y3 : Int) : EqA Try.prog 43 [.int .u64 x0, .int .u64 x1, .int .u64 x2, .int .u64 x3] [.int .u64 y0, .int .u64 y1, .int .u64 y2, .int .u64 y3] :=
  EqA_of (l := [.int .u64, .int .u64, .int .u64, .int .u64]) 6 (by kernel_rfl) (by kernel_rfl) (by kernel_rfl) (by kernel_rfl) (by omega) (by simp [LSS, SSh]) (by simp [LSS, SSh])
@[simp] theorem Try.cells44 : Try.prog.cellsOf 44 = 4 := by kernel_rfl
@[simp] theorem Try.bytes44 : Try.prog.bytesOf 44 = 32 := by kernel_rfl
@[simp] theorem Try.zc44 : zcells Try.prog 44 = some [.int .u64 0, .int .u64 0, .int .u64 0, .int .u64 0] := by kernel_rfl
@[simp] theorem Try.zl44 : zlen Try.prog 44 = 4 := by kernel_rfl
@[simp] theorem Try.eqa44 (x0 y0 : Int) (x1 y1 : Int) (x2 y2 : Int) (x3 y3 : Int) : EqA Try.prog 44 [.int .u64 x0, .int .u64 x1, .int .u64 x2, .int .u64 x3] [.int .u64 y0, .int .u64 y1, .int .u64 y2, .int .u64 y3] :=
  EqA_of (l := [.int .u64, .int .u64, .int .u64, .int .u64]) 6 (by kernel_rfl) (by kernel_rfl) (by kernel_rfl) (by kernel_rfl) (by omega) (by simp [LSS, SSh]) (by simp [LSS, SSh])
@[simp] theorem Try.cells46 : Try.prog.cellsOf 46 = 1 := by kernel_rfl
@[simp] theorem Try.bytes46 : Try.prog.bytesOf 46 = 8 := by kernel_rfl
@[simp] theorem Try.zc46 : zcells Try.prog 46 = some [.nilfn] := by kernel_rfl
@[simp] theorem Try.zl46 : zlen Try.prog 46 = 1 := by kernel_rfl
@[simp] theorem Try.cells48 : Try.prog.cellsOf 48 = 1 := by kernel_rfl
@[simp] theorem Try.bytes48 : Try.prog.bytesOf 48 = 8 := by kernel_rfl
@[simp] theorem Try.zc48 : zcells Try.prog 48 = some [.nilfn] := by kernel_rfl
@[simp] theorem Try.zl48 : zlen Try.prog 48 = 1 := by kernel_rfl
@[simp] theorem Try.cells49 : Try.prog.cellsOf 49 = 1 := by kernel_rfl
@[simp] theorem Try.bytes49 : Try.prog.bytesOf 49 = 24 := by kernel_rfl
@[simp] theorem Try.zc49 : zcells Try.prog 49 = some [.nils] := by kernel_rfl
@[simp] theorem Try.zl49 : zlen Try.prog 49 = 1 := by kernel_rfl
@[simp] theorem Try.cells51 : Try.prog.cellsOf 51 = 1 := by kernel_rfl
@[simp] theorem Try.bytes51 : Try.prog.bytesOf 51 = 8 := by kernel_rfl
@[simp] theorem Try.zc51 : zcells Try.prog 51 = some [.nilfn] := by kernel_rfl
@[simp] theorem Try.zl51 : zlen Try.prog 51 = 1 := by kernel_rfl
@[simp] theorem Try.cells53 : Try.prog.cellsOf 53 = 1 := by kernel_rfl
@[simp] theorem Try.bytes53 : Try.prog.bytesOf 53 = 8 := by kernel_rfl
@[simp] theorem Try.zc53 : zcells Try.prog 53 = some [.nilfn] := by kernel_rfl
@[simp] theorem Try.zl53 : zlen Try.prog 53 = 1 := by kernel_rfl
@[simp] theorem Try.cells54 : Try.prog.cellsOf 54 = 1 := by kernel_rfl
@[simp] theorem Try.bytes54 : Try.prog.bytesOf 54 = 8 := by kernel_rfl
@[simp] theorem Try.zc54 : zcells Try.prog 54 = some [.nilfn] := by kernel_rfl
@[simp] theorem Try.zl54 : zlen Try.prog 54 = 1 := by kernel_rfl
@[simp] theorem Try.cells56 : Try.prog.cellsOf 56 = 1 := by kernel_rfl
@[simp] theorem Try.bytes56 : Try.prog.bytesOf 56 = 8 := by kernel_rfl
@[simp] theorem Try.zc56 : zcells Try.prog 56 = some [.nilfn] := by kernel_rfl
@[simp] theorem Try.zl56 : zlen Try.prog 56 = 1 := by kernel_rfl
@[simp] theorem Try.cells57 : Try.prog.cellsOf 57 = 1 := by kernel_rfl
@[simp] theorem Try.bytes57 : Try.prog.bytesOf 57 = 8 := by kernel_rfl
@[simp] theorem Try.zc57 : zcells Try.prog 57 = some [.nilfn] := by kernel_rfl
@[simp] theorem Try.zl57 : zlen Try.prog 57 = 1 := by kernel_rfl
@[simp] theorem Try.cells58 : Try.prog.cellsOf 58 = 1 := by kernel_rfl
@[simp] theorem Try.bytes58 : Try.prog.bytesOf 58 = 8 := by kernel_rfl
@[simp] theorem Try.zc58 : zcells Try.prog 58 = some [.nilfn] := by kernel_rfl
@[simp] theorem Try.zl58 : zlen Try.prog 58 = 1 := by kernel_rfl
@[simp] theorem Try.cells59 : Try.prog.cellsOf 59 = 1 := by kernel_rfl
@[simp] theorem Try.bytes59 : Try.prog.bytesOf 59 = 8 := by kernel_rfl
@[simp] theorem Try.zc59 : zcells Try.prog 59 = some [.nilfn] := by kernel_rfl
@[simp] theorem Try.zl59 : zlen Try.prog 59 = 1 := by kernel_rfl
@[simp] theorem Try.cells60 : Try.prog.cellsOf 60 = 1 := by kernel_rfl
@[simp] theorem Try.bytes60 : Try.prog.bytesOf 60 = 8 := by kernel_rfl
@[simp] theorem Try.zc60 : zcells Try.prog 60 = some [.nilfn] := by kernel_rfl
@[simp] theorem Try.zl60 : zlen Try.prog 60 = 1 := by kernel_rfl
@[simp] theorem Try.cells61 : Try.prog.cellsOf 61 = 1 := by kernel_rfl
@[simp] theorem Try.bytes61 : Try.prog.bytesOf 61 = 8 := by kernel_rfl
@[simp] theorem Try.zc61 : zcells Try.prog 61 = some [.nilfn] := by kernel_rfl
@[simp] theorem Try.zl61 : zlen Try.prog 61 = 1 := by kernel_rfl
@[simp] theorem Try.cells62 : Try.prog.cellsOf 62 = 1 := by kernel_rfl
@[simp] theorem Try.bytes62 : Try.prog.bytesOf 62 = 24 := by kernel_rfl
@[simp] theorem Try.zc62 : zcells Try.prog 62 = some [.nils] := by kernel_rfl
@[simp] theorem Try.zl62 : zlen Try.prog 62 = 1 := by kernel_rfl
@[simp] theorem Try.cells63 : Try.prog.cellsOf 63 = 1 := by kernel_rfl
@[simp] theorem Try.bytes63 : Try.prog.bytesOf 63 = 8 := by kernel_rfl
@[simp] theorem Try.zc63 : zcells Try.prog 63 = some [.nilfn] := by kernel_rfl
@[simp] theorem Try.zl63 : zlen Try.prog 63 = 1 := by kernel_rfl
@[simp] theorem Try.cells64 : Try.prog.cellsOf 64 = 1 := by kernel_rfl
@[simp] theorem Try.bytes64 : Try.prog.bytesOf 64 = 8 := by kernel_rfl
@[simp] theorem Try.zc64 : zcells Try.prog 64 = some [.nilfn] := by kernel_rfl
@[simp] theorem Try.zl64 : zlen Try.prog 64 = 1 := by kernel_rfl
@[simp] theorem Try.cells65 : Try.prog.cellsOf 65 = 1 := by kernel_rfl
@[simp] theorem Try.bytes65 : Try.prog.bytesOf 65 = 8 := by kernel_rfl
@[simp] theorem Try.zc65 : zcells Try.prog 65 = some [.nilfn] := by kernel_rfl
@[simp] theorem Try.zl65 : zlen Try.prog 65 = 1 := by kernel_rfl
@[simp] theorem Try.cells66 : Try.prog.cellsOf 66 = 1 := by kernel_rfl
@[simp] theorem Try.bytes66 : Try.prog.bytesOf 66 = 8 := by kernel_rfl
@[simp] theorem Try.zc66 : zcells Try.prog 66 = some [.nilfn] := by kernel_rfl
@[simp] theorem Try.zl66 : zlen Try.prog 66 = 1 := by kernel_rfl
@[simp] theorem Try.cells67 : Try.prog.cellsOf 67 = 1 := by kernel_rfl
@[simp] theorem Try.bytes67 : Try.prog.bytesOf 67 = 8 := by kernel_rfl
@[simp] theorem Try.zc67 : zcells Try.prog 67 = some [.nilfn] := by kernel_rfl
@[simp] theorem Try.zl67 : zlen Try.prog 67 = 1 := by kernel_rfl
@[simp] theorem Try.cells68 : Try.prog.cellsOf 68 = 1 := by kernel_rfl
@[simp] theorem Try.bytes68 : Try.prog.bytesOf 68 = 8 := by kernel_rfl
@[simp] theorem Try.zc68 : zcells Try.prog 68 = some [.nilfn] := by kernel_rfl
@[simp] theorem Try.zl68 : zlen Try.prog 68 = 1 := by kernel_rfl
@[simp] theorem Try.cells69 : Try.prog.cellsOf 69 = 1 := by kernel_rfl
@[simp] theorem Try.bytes69 : Try.prog.bytesOf 69 = 8 := by kernel_rfl
@[simp] theorem Try.zc69 : zcells Try.prog 69 = some [.nilfn] := by kernel_rfl
@[simp] theorem Try.zl69 : zlen Try.prog 69 = 1 := by kernel_rfl
@[simp] theorem Try.cells70 : Try.prog.cellsOf 70 = 1 := by kernel_rfl
@[simp] theorem Try.bytes70 : Try.prog.bytesOf 70 = 8 := by kernel_rfl
@[simp] theorem Try.zc70 : zcells Try.prog 70 = some [.nilfn] := by kernel_rfl
@[simp] theorem Try.zl70 : zlen Try.prog 70 = 1 := by kernel_rfl
@[simp] theorem Try.cells71 : Try.prog.cellsOf 71 = 1 := by kernel_rfl
@[simp] theorem Try.bytes71 : Try.prog.bytesOf 71 = 8 := by kernel_rfl
@[simp] theorem Try.zc71 : zcells Try.prog 71 = some [.nilfn] := by kernel_rfl
@[simp] theorem Try.zl71 : zlen Try.prog 71 = 1 := by kernel_rfl
@[simp] theorem Try.cells72 : Try.prog.cellsOf 72 = 1 := by kernel_rfl
@[simp] theorem Try.bytes72 : Try.prog.bytesOf 72 = 1 := by kernel_rfl
@[simp] theorem Try.zc72 : zcells Try.prog 72 = some [.int .u8 0] := by kernel_rfl
@[simp] theorem Try.zl72 : zlen Try.prog 72 = 1 := by kernel_rfl
@[simp] theorem Try.cells73 : Try.prog.cellsOf 73 = 5 := by kernel_rfl
@[simp] theorem Try.bytes73 : Try.prog.bytesOf 73 = 40 := by kernel_rfl
@[simp] theorem Try.zc73 : zcells Try.prog 73 = some [.int .u8 0, .int .u64 0, .int .u64 0, .int .u64 0, .int .u64 0] := by kernel_rfl
@[simp] theorem Try.zl73 : zlen Try.prog 73 = 5 := by kernel_rfl
@[simp] theorem Try.eqa73 (x0 y0 : Int) (x1 y1 : Int) (x2 y2 : Int) (x3 y3 : Int) (x4 y4 : Int) : EqA Try.prog 73 [.int .u8 x0, .int .u64 x1, .int .u64 x2, .int .u64 x3, .int .u64 x4] [.int .u8 y0, .int .u64 y1, .int .u64 y2, .int .u64 y3, .int .u64 y4] :=
  EqA_of (l := [.int .u8, .int .u64, .int .u64, .int .u64, .int .u64]) 6 (by kernel_rfl) (by kernel_rfl) (by kernel_rfl) (by kernel_rfl) (by omega) (by simp [LSS, SSh]) (by simp [LSS, SSh])
@[simp] theorem Try.cells74 : Try.prog.cellsOf 74 = 5 := by kernel_rfl
@[simp] theorem Try.bytes74 : Try.prog.bytesOf 74 = 40 := by kernel_rfl
@[simp] theorem Try.zc74 : zcells Try.prog 74 = some [.int .u8 0, .int .u64 0, .int .u64 0, .int .u64 0, .int .u64 0] := by kernel_rfl
@[simp] theorem Try.zl74 : zlen Try.prog 74 = 5 := by kernel_rfl
@[simp] theorem Try.eqa74 (x0 y0 : Int) (x1 y1 : Int) (x2 y2 : Int) (x3 y3 : Int) (x4 y4 : Int) : EqA Try.prog 74 [.int .u8 x0, .int .u64 x1, .int .u64 x2, .int .u64 x3, .int .u64 x4] [.int .u8 y0, .int .u64 y1, .int .u64 y2, .int .u64 y3, .int .u64 y4] :=
  EqA_of (l := [.int .u8, .int .u64, .int .u64, .int .u64, .int .u64]) 6 (by kernel_rfl) (by kernel_rfl) (by kernel_rfl) (by kernel_rfl) (by omega) (by simp [LSS, SSh]) (by simp [LSS, SSh])
@[simp] theorem Try.cells75 : Try.prog.cellsOf 75 = 1 := by kernel_rfl
@[simp] theorem Try.bytes75 : Try.prog.bytesOf 75 = 8 := by kernel_rfl
@[simp] theorem Try.zc75 : zcells Try.prog 75 = some [.nilfn] := by kernel_rfl
@[simp] theorem Try.zl75 : zlen Try.prog 75 = 1 := by kernel_rfl
@[simp] theorem Try.cells76 : Try.prog.cellsOf 76 = 1 := by kernel_rfl
@[simp] theorem Try.bytes76 : Try.prog.bytesOf 76 = 8 := by kernel_rfl
@[simp] theorem Try.zc76 : zcells Try.prog 76 = some [.nilfn] := by kernel_rfl
@[simp] theorem Try.zl76 : zlen Try.prog 76 = 1 := by kernel_rfl
@[simp] theorem Try.cells78 : Try.prog.cellsOf 78 = 1 := by kernel_rfl
@[simp] theorem Try.bytes78 : Try.prog.bytesOf 78 = 8 := by kernel_rfl
@[simp] theorem Try.zc78 : zcells Try.prog 78 = some [.nilfn] := by kernel_rfl
@[simp] theorem Try.zl78 : zlen Try.prog 78 = 1 := by kernel_rfl
@[simp] theorem Try.cells79 : Try.prog.cellsOf 79 = 1 := by kernel_rfl
@[simp] theorem Try.bytes79 : Try.prog.bytesOf 79 = 8 := by kernel_rfl
@[simp] theorem Try.zc79 : zcells Try.prog 79 = some [.nilfn] := by kernel_rfl
@[simp] theorem Try.zl79 : zlen Try.prog 79 = 1 := by kernel_rfl
@[simp] theorem Try.cells80 : Try.prog.cellsOf 80 = 1 := by kernel_rfl
@[simp] theorem Try.bytes80 : Try.prog.bytesOf 80 = 8 := by kernel_rfl
@[simp] theorem Try.zc80 : zcells Try.prog 80 = some [.nilfn] := by kernel_rfl
@[simp] theorem Try.zl80 : zlen Try.prog 80 = 1 := by kernel_rfl
@[simp] theorem Try.cells81 : Try.prog.cellsOf 81 = 1 := by kernel_rfl
@[simp] theorem Try.bytes81 : Try.prog.bytesOf 81 = 8 := by kernel_rfl
@[simp] theorem Try.zc81 : zcells Try.prog 81 = some [.nilfn] := by kernel_rfl
@[simp] theorem Try.zl81 : zlen Try.prog 81 = 1 := by kernel_rfl
@[simp] theorem Try.cells82 : Try.prog.cellsOf 82 = 1 := by kernel_rfl
@[simp] theorem Try.bytes82 : Try.prog.bytesOf 82 = 8 := by kernel_rfl
@[simp] theorem Try.zc82 : zcells Try.prog 82 = some [.nilfn] := by kernel_rfl
@[simp] theorem Try.zl82 : zlen Try.prog 82 = 1 := by kernel_rfl
@[simp] theorem Try.cells83 : Try.prog.cellsOf 83 = 1 := by kernel_rfl
@[simp] theorem Try.bytes83 : Try.prog.bytesOf 83 = 8 := by kernel_rfl
@[simp] theorem Try.zc83 : zcells Try.prog 83 = some [.nilfn] := by kernel_rfl
@[simp] theorem Try.zl83 : zlen Try.prog 83 = 1 := by kernel_rfl
@[simp] theorem Try.cells84 : Try.prog.cellsOf 84 = 1 := by kernel_rfl
@[simp] theorem Try.bytes84 : Try.prog.bytesOf 84 = 8 := by kernel_rfl
@[simp] theorem Try.zc84 : zcells Try.prog 84 = some [.nilfn] := by kernel_rfl
@[simp] theorem Try.zl84 : zlen Try.prog 84 = 1 := by kernel_rfl
@[simp] theorem Try.cells85 : Try.prog.cellsOf 85 = 1 := by kernel_rfl
@[simp] theorem Try.bytes85 : Try.prog.bytesOf 85 = 8 := by kernel_rfl
@[simp] theorem Try.zc85 : zcells Try.prog 85 = some [.nilfn] := by kernel_rfl
@[simp] theorem Try.zl85 : zlen Try.prog 85 = 1 := by kernel_rfl
@[simp] theorem Try.cells86 : Try.prog.cellsOf 86 = 1 := by kernel_rfl
@[simp] theorem Try.bytes86 : Try.prog.bytesOf 86 = 8 := by kernel_rfl
@[simp] theorem Try.zc86 : zcells Try.prog 86 = some [.nilfn] := by kernel_rfl
@[simp] theorem Try.zl86 : zlen Try.prog 86 = 1 := by kernel_rfl
@[simp] theorem Try.cells87 : Try.prog.cellsOf 87 = 4 := by kernel_rfl
@[simp] theorem Try.bytes87 : Try.prog.bytesOf 87 = 40 := by kernel_rfl
@[simp] theorem Try.zc87 : zcells Try.prog 87 = some [.nilp, .nilp, .nilp, .str ByteArray.empty] := by kernel_rfl
@[simp] theorem Try.zl87 : zlen Try.prog 87 = 4 := by kernel_rfl
@[simp] theorem Try.cells88 : Try.prog.cellsOf 88 = 4 := by kernel_rfl
@[simp] theorem Try.bytes88 : Try.prog.bytesOf 88 = 40 := by kernel_rfl
@[simp] theorem Try.zc88 : zcells Try.prog 88 = some [.nilp, .nilp, .nilp, .str ByteArray.empty] := by kernel_rfl
@[simp] theorem Try.zl88 : zlen Try.prog 88 = 4 := by kernel_rfl
@[simp] theorem Try.cells89 : Try.prog.cellsOf 89 = 0 := by kernel_rfl
@[simp] theorem Try.bytes89 : Try.prog.bytesOf 89 = 0 := by kernel_rfl
@[simp] theorem Try.zc89 : zcells Try.prog 89 = some [] := by kernel_rfl
@[simp] theorem Try.zl89 : zlen Try.prog 89 = 0 := by kernel_rfl
@[simp] theorem Try.cells90 : Try.prog.cellsOf 90 = 0 := by kernel_rfl
@[simp] theorem Try.bytes90 : Try.prog.bytesOf 90 = 0 := by kernel_rfl
@[simp] theorem Try.zc90 : zcells Try.prog 90 = some [] := by kernel_rfl
@[simp] theorem Try.zl90 : zlen Try.prog 90 = 0 := by kernel_rfl
@[simp] theorem Try.cells91 : Try.prog.cellsOf 91 = 0 := by kernel_rfl
@[simp] theorem Try.bytes91 : Try.prog.bytesOf 91 = 0 := by kernel_rfl
@[simp] theorem Try.zc91 : zcells Try.prog 91 = some [] := by kernel_rfl
@[simp] theorem Try.zl91 : zlen Try.prog 91 = 0 := by kernel_rfl
@[simp] theorem Try.cells92 : Try.prog.cellsOf 92 = 1 := by kernel_rfl
@[simp] theorem Try.bytes92 : Try.prog.bytesOf 92 = 4 := by kernel_rfl
@[simp] theorem Try.zc92 : zcells Try.prog 92 = some [.int .u32 0] := by kernel_rfl
@[simp] theorem Try.zl92 : zlen Try.prog 92 = 1 := by kernel_rfl
@[simp] theorem Try.cells93 : Try.prog.cellsOf 93 = 1 := by kernel_rfl
@[simp] theorem Try.bytes93 : Try.prog.bytesOf 93 = 1 := by kernel_rfl
@[simp] theorem Try.zc93 : zcells Try.prog 93 = some [.int .u8 0] := by kernel_rfl
@[simp] theorem Try.zl93 : zlen Try.prog 93 = 1 := by kernel_rfl
@[simp] theorem Try.cells94 : Try.prog.cellsOf 94 = 1 := by kernel_rfl
@[simp] theorem Try.bytes94 : Try.prog.bytesOf 94 = 1 := by kernel_rfl
@[simp] theorem Try.zc94 : zcells Try.prog 94 = some [.int .u8 0] := by kernel_rfl
@[simp] theorem Try.zl94 : zlen Try.prog 94 = 1 := by kernel_rfl
@[simp] theorem Try.cells95 : Try.prog.cellsOf 95 = 1 := by kernel_rfl
@[simp] theorem Try.bytes95 : Try.prog.bytesOf 95 = 8 := by kernel_rfl
@[simp] theorem Try.zc95 : zcells Try.prog 95 = some [.nilfn] := by kernel_rfl
@[simp] theorem Try.zl95 : zlen Try.prog 95 = 1 := by kernel_rfl
@[simp] theorem Try.cells96 : Try.prog.cellsOf 96 = 1 := by kernel_rfl
@[simp] theorem Try.bytes96 : Try.prog.bytesOf 96 = 8 := by kernel_rfl
@[simp] theorem Try.zc96 : zcells Try.prog 96 = some [.nilp] := by kernel_rfl
@[simp] theorem Try.zl96 : zlen Try.prog 96 = 1 := by kernel_rfl
@[simp] theorem Try.cells97 : Try.prog.cellsOf 97 = 1 := by kernel_rfl
@[simp] theorem Try.bytes97 : Try.prog.bytesOf 97 = 4 := by kernel_rfl
@[simp] theorem Try.zc97 : zcells Try.prog 97 = some [.int .i32 0] := by kernel_rfl
@[simp] theorem Try.zl97 : zlen Try.prog 97 = 1 := by kernel_rfl
@[simp] theorem Try.cells98 : Try.prog.cellsOf 98 = 1 := by kernel_rfl
@[simp] theorem Try.bytes98 : Try.prog.bytesOf 98 = 4 := by kernel_rfl
@[simp] theorem Try.zc98 : zcells Try.prog 98 = some [.int .i32 0] := by kernel_rfl
@[simp] theorem Try.zl98 : zlen Try.prog 98 = 1 := by kernel_rfl
@[simp] theorem Try.cells99 : Try.prog.cellsOf 99 = 11 := by kernel_rfl
@[simp] theorem Try.bytes99 : Try.prog.bytesOf 99 = 48 := by kernel_rfl
@[simp] theorem Try.zc99 : zcells Try.prog 99 = some [.int .u64 0, .int .u64 0, .int .u32 0, .int .u8 0, .int .u8 0, .int .u8 0, .int .u8 0, .nilfn, .nilp, .int .i32 0, .int .i32 0] := by kernel_rfl
@[simp] theorem Try.zl99 : zlen Try.prog 99 = 11 := by kernel_rfl
@[simp] theorem Try.cells100 : Try.prog.cellsOf 100 = 11 := by kernel_rfl
@[simp] theorem Try.bytes100 : Try.prog.bytesOf 100 = 48 := by kernel_rfl
@[simp] theorem Try.zc100 : zcells Try.prog 100 = some [.int .u64 0, .int .u64 0, .int .u32 0, .int .u8 0, .int .u8 0, .int .u8 0, .int .u8 0, .nilfn, .nilp, .int .i32 0, .int .i32 0] := by kernel_rfl
@[simp] theorem Try.zl100 : zlen Try.prog 100 = 11 := by kernel_rfl
@[simp] theorem Try.cells101 : Try.prog.cellsOf 101 = 1 := by kernel_rfl
@[simp] theorem Try.bytes101 : Try.prog.bytesOf 101 = 8 := by kernel_rfl
@[simp] theorem Try.zc101 : zcells Try.prog 101 = some [.nilp] := by kernel_rfl
@[simp] theorem Try.zl101 : zlen Try.prog 101 = 1 := by kernel_rfl
theorem mixed : Try.prog.follows .mixedOrders = true := by kernel_rfl
instance : Gl Try.prog := ⟨fun _ => .junk, fun _ => rfl⟩
end Go.Proofs.Ytpcblologcindaa.AL
namespace Go.Proofs.Ytpcblologcindaa.AL
open Go
attribute [local simp] dstOk qf cv qbin ibin sbin qun retPost rvOk ctV ctPost marksOk retV resAll resOf V.lt ltL V.ren renL V.exp cleanL V.clean closedL V.closed V.cells V.one V.tree
  loadV cellsAt isAggD placesOf fillV putCells lstore bound seqParts V.sh shL Blk.sh newV V.ok peqs peq srcRows appOk V.fz fzL Blk.fz fzOk and_assoc
attribute [-simp] Int.not_le Int.not_lt Nat.not_le Nat.not_lt
def cAddr (f h l : Int) : Bool := f == 6 || (f == 4 && h == 0 && decide (l < 4294967296))
def wid (f : Int) : Int := if f = 4 then 32 else if f = 6 then 128 else 0
def SWid : List V → Option Res
  | [.int .u8 f] => some ⟨.int .i64 (wid f), []⟩
  | _ => none
def SAddr : List V → Option Res
  | [.int .u8 f, .agg [.int .u64 h, .int .u64 l]] => some ⟨.bool (cAddr f h l), []⟩
  | _ => none
theorem runs_number_width : ∀ args r, SWid args = some r → Runs Try.prog 30 args r := by
  intro args r h
  unfold SWid at h
  split at h
  · rename_i f
    cases h
    refine Runs.of_body Try.func30 (by decide) rfl (by simp [Try.f30]) (W.of_WE (T0_ok _) (by kernel_rfl) M0 _ (by kernel_rfl) ?_)
    simp +contextual [Try.f30, wid]
    try grind
  · cases h
theorem runs_ref01_Width : ∀ args r, SWid args = some r → Runs Try.prog 31 args r := by
  intro args r h
  unfold SWid at h
  split at h
  · rename_i f
    cases h
    refine Runs.of_body Try.func31 (by decide) rfl (by simp [Try.f31]) (W.of_WE (T0_ok _) (by kernel_rfl) M0 _ (by kernel_rfl) ?_)
    simp +contextual [Try.f31, wid]
    try grind
  · cases h
theorem runs_number_CheckAddr : ∀ args r, SAddr args = some r → Runs Try.prog 11 args r := by
  intro args r h
  unfold SAddr at h
  split at h
  · rename_i f h l
    cases h
    refine Runs.of_body Try.func11 (by decide) rfl (by simp [Try.f11]) (W.of_WE (T0_ok _) (by kernel_rfl) M0 _ (by kernel_rfl) ?_)
    simp +contextual [Try.f11, cAddr]
    try grind
  · cases h
theorem runs_ref01_CheckAddr : ∀ args r, SAddr args = some r → Runs Try.prog 12 args r := by
  intro args r h
  unfold SAddr at h
  split at h
  · rename_i f h l
    cases h
    refine Runs.of_body Try.func12 (by decide) rfl (by simp [Try.f12]) (W.of_WE (T0_ok _) (by kernel_rfl) M0 _ (by kernel_rfl) ?_)
    simp +contextual [Try.f12, cAddr]
    try grind
  · cases h
end Go.Proofs.Ytpcblologcindaa.AL
namespace Go.Proofs.Ytpcblologcindaa.AL
open Go
attribute [local simp] dstOk qf cv qbin ibin sbin qun retPost rvOk ctV ctPost marksOk retV resAll resOf V.lt ltL V.ren renL V.exp cleanL V.clean closedL V.closed V.cells V.one V.tree
  loadV cellsAt isAggD placesOf fillV putCells lstore bound seqParts V.sh shL Blk.sh newV V.ok peqs peq srcRows appOk V.fz fzL Blk.fz fzOk and_assoc
attribute [-simp] Int.not_le Int.not_lt Nat.not_le Nat.not_lt
def goodC (c : Int) : Bool := (decide (97 ≤ c) && decide (c ≤ 122)) || (decide (65 ≤ c) && decide (c ≤ 90)) || (decide (48 ≤ c) && decide (c ≤ 57)) || decide (c = 45) || decide (c = 95)
def SGood : List V → Option Res
  | [.int .u8 c] => some ⟨.bool (goodC c), []⟩
  | _ => none
theorem runs_number_Name_1 : ∀ args r, SGood args = some r → Runs Try.prog 36 args r := by
  intro args r h
  unfold SGood at h
  split at h
  · rename_i c
    cases h
    refine Runs.of_body Try.func36 (by decide) rfl (by simp [Try.f36]) (W.of_WE (T0_ok _) (by kernel_rfl) M0 _ (by kernel_rfl) ?_)
    simp +contextual (maxSteps := 1000000) [Try.f36]
    simp [goodC]
    repeat' (first | apply And.intro | intro _)
    all_goals (first | omega | (apply propext; omega))
  · cases h
def SNan : List V → Option Res
  | [.int .u64 c] => some ⟨.bool false, []⟩
  | _ => none
theorem runs_cmp_isNaN_uint64_ : ∀ args r, SNan args = some r → Runs Try.prog 45 args r := by
  intro args r h
  unfold SNan at h
  split at h
  · rename_i c
    cases h
    refine Runs.of_body Try.func45 (by decide) rfl (by simp [Try.f45]) (W.of_WE (T0_ok _) (by kernel_rfl) M0 _ (by kernel_rfl) ?_)
    simp +contextual [Try.f45]
  · cases h
def cmpI (a b : Int) : Int := if a < b then -1 else if a > b then 1 else 0
def SCmp : List V → Option Res
  | [.int .u64 a, .int .u64 b] => some ⟨.int .i64 (cmpI a b), []⟩
  | _ => none
theorem runs_cmp_Compare_uint64_ : ∀ args r, SCmp args = some r → Runs Try.prog 37 args r := by
  intro args r h
  unfold SCmp at h
  split at h
  · rename_i c
    cases h
    refine Runs.of_body Try.func37 (by decide) rfl (by simp [Try.f37]) (W.of_WE (T := T0.add 45 SNan) (Tab.add_ok (T0_ok _) runs_cmp_isNaN_uint64_) (by kernel_rfl) M0 _ (by kernel_rfl) ?_)
    simp +contextual [Try.f37, SNan]
    simp only [cmpI]
    grind
  · cases h
def cmpA (a b c d : Int) : Int := if a = c ∧ b = d then 0 else if a < c ∨ (a = c ∧ b < d) then -1 else 1
def SCompare : List V → Option Res
  | [.agg [.int .u64 a, .int .u64 b], .agg [.int .u64 c, .int .u64 d]] => some ⟨.int .i64 (cmpA a b c d), []⟩
  | _ => none
theorem runs_number_Compare : ∀ args r, SCompare args = some r → Runs Try.prog 13 args r := by
  intro args r h
  unfold SCompare at h
  split at h
  · rename_i c
    cases h
    refine Runs.of_body Try.func13 (by decide) rfl (by simp [Try.f13]) (W.of_WE (T := T0.add 37 SCmp) (Tab.add_ok (T0_ok _) runs_cmp_Compare_uint64_) (by kernel_rfl) M0 _ (by kernel_rfl) ?_)
    simp +contextual [Try.f13, SCmp]
    simp only [cmpI, cmpA]
    grind
  · cases h
theorem runs_ref01_Compare : ∀ args r, SCompare args = some r → Runs Try.prog 14 args r := by
  intro args r h
  unfold SCompare at h
  split at h
  · rename_i c
    cases h
    refine Runs.of_body Try.func14 (by decide) rfl (by simp [Try.f14]) (W.of_WE (T0_ok _) (by kernel_rfl) M0 _ (by kernel_rfl) ?_)
    simp +contextual (maxSteps := 1000000) [Try.f14]
    simp only [cmpA]
    grind
  · cases h
end Go.Proofs.Ytpcblologcindaa.AL
