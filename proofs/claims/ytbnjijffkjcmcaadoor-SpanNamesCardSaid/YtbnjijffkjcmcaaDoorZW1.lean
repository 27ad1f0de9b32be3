import Derived.Test.YtbnjijffkjcmcaaDoorZAL4
/- What single functions compute: a part of the proof; no conditions. -/
set_option linter.unusedVariables false
set_option linter.unusedSimpArgs false
set_option linter.unusedSectionVars false
namespace Go.Proofs.YtbnjijffkjcmcaaDoor.AL
open Go
theorem wrap_u64 (x : Int) : IntKind.u64.wrap x = x % 18446744073709551616 := by
  unfold IntKind.wrap
  simp [IntKind.bits, IntKind.signed]
theorem wrap_u8 (x : Int) : IntKind.u8.wrap x = x % 256 := by
  unfold IntKind.wrap
  simp [IntKind.bits, IntKind.signed]
theorem wrap_u32 (x : Int) : IntKind.u32.wrap x = x % 4294967296 := by
  unfold IntKind.wrap
  simp [IntKind.bits, IntKind.signed]
theorem wrap_i64 (x : Int) : IntKind.i64.wrap x = (x + 9223372036854775808) % 18446744073709551616 - 9223372036854775808 := by
  unfold IntKind.wrap
  simp [IntKind.bits, IntKind.signed]
  split <;> omega
theorem wf_u64 (x : Int) : (Lit.int .u64 x).wf = true ↔ 0 ≤ x ∧ x ≤ 18446744073709551615 := by
  simp [Lit.wf, IntKind.min, IntKind.max, IntKind.bits, IntKind.signed]
theorem wf_u32 (x : Int) : (Lit.int .u32 x).wf = true ↔ 0 ≤ x ∧ x ≤ 4294967295 := by
  simp [Lit.wf, IntKind.min, IntKind.max, IntKind.bits, IntKind.signed]
theorem wf_u8 (x : Int) : (Lit.int .u8 x).wf = true ↔ 0 ≤ x ∧ x ≤ 255 := by
  simp [Lit.wf, IntKind.min, IntKind.max, IntKind.bits, IntKind.signed]
theorem wf_i64 (x : Int) : (Lit.int .i64 x).wf = true ↔ -9223372036854775808 ≤ x ∧ x ≤ 9223372036854775807 := by
  simp [Lit.wf, IntKind.min, IntKind.max, IntKind.bits, IntKind.signed]
theorem bAnd_u64 (a b : Nat) (ha : a < 18446744073709551616) (hb : b < 18446744073709551616) : bAnd .u64 (a : Int) (b : Int) = ((a &&& b : Nat) : Int) := by
  unfold bAnd
  rw [wrap_u64]
  have h1 : (BitVec.ofInt 64 (a : Int) &&& BitVec.ofInt 64 (b : Int)).toNat = a &&& b := by
    simp
    rw [Nat.mod_eq_of_lt ha, Nat.mod_eq_of_lt hb]
  have h2 : a &&& b < 18446744073709551616 := Nat.lt_of_le_of_lt Nat.and_le_left ha
  change (((BitVec.ofInt 64 (a : Int) &&& BitVec.ofInt 64 (b : Int)).toNat : Nat) : Int) % 18446744073709551616 = _
  rw [h1]
  omega
theorem bAnd_one (a : Int) (h0 : 0 ≤ a) (ha : a ≤ 18446744073709551615) : bAnd .u64 a 1 = a % 2 := by
  have := bAnd_u64 a.toNat 1 (by omega) (by omega)
  rw [show ((a.toNat : Nat) : Int) = a by omega] at this
  rw [show ((1 : Nat) : Int) = 1 by rfl] at this
  rw [this, Nat.and_one_is_mod]
  omega
end Go.Proofs.YtbnjijffkjcmcaaDoor.AL
namespace Go.Proofs.YtbnjijffkjcmcaaDoor.AL
open Go
/-! ### Rows of ints; bits of addresses -/
def rg (n : Nat) (f : Nat → Int) : List (List V) := (List.range n).map fun i => [.int .i64 (f i)]
theorem rg_length (n : Nat) (f : Nat → Int) : (rg n f).length = n := by simp [rg]
theorem rg_getD {n i : Nat} (f : Nat → Int) (h : i < n) : (rg n f).getD i [] = [.int .i64 (f i)] := by simp [rg, h]
theorem rg_zero (f : Nat → Int) : rg 0 f = [] := rfl
theorem rg_snoc (n : Nat) (f : Nat → Int) : rg n f ++ [[.int .i64 (f n)]] = rg (n + 1) f := by simp [rg, List.range_succ]
theorem rg_set (n i : Nat) (f : Nat → Int) (x : Int) : (rg n f).set i [.int .i64 x] = rg n (fun j => if j = i then x else f j) := by
  apply List.ext_getElem
  · simp [rg]
  · intro j h1 h2
    simp only [rg, List.getElem_set, List.getElem_map, List.getElem_range]
    by_cases e : i = j
    · subst e; simp
    · rw [if_neg e, if_neg (Ne.symm e)]
theorem rg_congr {n : Nat} {f g : Nat → Int} (h : ∀ i, i < n → f i = g i) : rg n f = rg n g := by
  unfold rg
  apply List.map_congr_left
  intro i hi
  rw [h i (by simpa using hi)]
def intsOf : List (List V) → Option (List Int)
  | [] => some []
  | [.int .i64 x] :: rows => (intsOf rows).map (x :: ·)
  | _ :: _ => none
theorem intsOf_map (l : List Int) : intsOf (l.map fun x => [.int .i64 x]) = some l := by
  induction l with
  | nil => rfl
  | cons x l ih => simp [intsOf, ih]
theorem intsOf_rg (n : Nat) (f : Nat → Int) : intsOf (rg n f) = some ((List.range n).map f) := by
  have := intsOf_map ((List.range n).map f)
  rwa [List.map_map] at this
theorem intsOf_eq : ∀ {rows : List (List V)} {l : List Int}, intsOf rows = some l → rows = l.map fun x => [.int .i64 x]
  | [], l, h => by simp [intsOf] at h; subst h; rfl
  | r :: rows, l, h => by
    unfold intsOf at h
    split at h
    · simp at h; subst h; simp_all
    · rename_i e
      simp only [List.cons.injEq] at e
      obtain ⟨rfl, rfl⟩ := e
      simp only [Option.map_eq_some_iff] at h
      obtain ⟨l', h1, rfl⟩ := h
      rw [intsOf_eq h1]; rfl
    · cases h
/-- Bit k of an address, from the least one. -/
def bt (h l : Int) (k : Nat) : Int := if 63 < k then h / 2 ^ (k - 64) % 2 else l / 2 ^ k % 2
theorem ipow (k : Nat) : ((2 ^ k : Nat) : Int) = (2 : Int) ^ k := by push_cast; rfl
theorem ipow_pos (k : Nat) : (0 : Int) < 2 ^ k := Int.pow_pos (by omega)
theorem ipow_le {k : Nat} (h : k ≤ 63) : (2 : Int) ^ k ≤ 9223372036854775808 := by
  rw [← ipow]
  have := Nat.pow_le_pow_right (n := 2) (by omega) h
  omega
theorem ipow_le64 {k : Nat} (h : k ≤ 64) : (2 : Int) ^ k ≤ 18446744073709551616 := by
  rw [← ipow]
  have := Nat.pow_le_pow_right (n := 2) (by omega) h
  omega
theorem bt_01 (h l : Int) (k : Nat) : bt h l k = 0 ∨ bt h l k = 1 := by
  unfold bt
  split <;> omega
theorem tdiv_pos {a : Int} (ha : 0 ≤ a) (k : Nat) : a.tdiv (2 ^ k) = a / 2 ^ k := Int.tdiv_eq_ediv_of_nonneg ha
theorem div_pow_bd {a : Int} (ha : 0 ≤ a) (k : Nat) : 0 ≤ a / 2 ^ k ∧ a / 2 ^ k ≤ a :=
  ⟨Int.ediv_nonneg ha (Int.le_of_lt (ipow_pos k)), Int.ediv_le_self _ ha⟩
theorem tmod_two {a : Int} (ha : 0 ≤ a) : a.tmod 2 = a % 2 := Int.tmod_eq_emod_of_nonneg ha
theorem wr_i64 {x : Int} (h1 : -9223372036854775808 ≤ x) (h2 : x ≤ 9223372036854775807) : IntKind.i64.wrap x = x := by rw [wrap_i64]; omega
theorem wr_u64 {x : Int} (h1 : 0 ≤ x) (h2 : x ≤ 18446744073709551615) : IntKind.u64.wrap x = x := by rw [wrap_u64]; omega
theorem wr_u8 {x : Int} (h1 : 0 ≤ x) (h2 : x ≤ 255) : IntKind.u8.wrap x = x := by rw [wrap_u8]; omega
theorem wr_u32 {x : Int} (h1 : 0 ≤ x) (h2 : x ≤ 4294967295) : IntKind.u32.wrap x = x := by rw [wrap_u32]; omega
/-- An address, one bit more at its end. -/
def adrStep (p : Int × Int) (b : Int) : Int × Int := ((p.1 + p.1 + p.2 / 9223372036854775808) % 18446744073709551616, (p.2 + p.2) % 18446744073709551616 + b)
def adrOf (bs : List Int) : Int × Int := bs.foldl adrStep (0, 0)
def bits01 (bs : List Int) : Bool := bs.all fun b => decide (b = 0) || decide (b = 1)
theorem bits01_iff {bs : List Int} : bits01 bs = true ↔ ∀ b ∈ bs, b = 0 ∨ b = 1 := by simp [bits01]
theorem adrOf_bd : ∀ (bs : List Int), (∀ b ∈ bs, b = 0 ∨ b = 1) → ∀ p : Int × Int, (0 ≤ p.1 ∧ p.1 ≤ 18446744073709551615 ∧ 0 ≤ p.2 ∧ p.2 ≤ 18446744073709551615) →
    0 ≤ (bs.foldl adrStep p).1 ∧ (bs.foldl adrStep p).1 ≤ 18446744073709551615 ∧ 0 ≤ (bs.foldl adrStep p).2 ∧ (bs.foldl adrStep p).2 ≤ 18446744073709551615
  | [], _, p, h => h
  | b :: bs, hb, p, h => by
    refine adrOf_bd bs (fun x hx => hb x (by simp [hx])) (adrStep p b) ?_
    have := hb b (by simp)
    unfold adrStep
    simp only
    omega
theorem adrOf_snoc (bs : List Int) (b : Int) : adrOf (bs ++ [b]) = adrStep (adrOf bs) b := by simp [adrOf]
theorem take_snoc' {α : Type} (l : List α) (k : Nat) (h : k < l.length) : l.take (k + 1) = l.take k ++ [l[k]] := List.take_succ_eq_append_getElem h
end Go.Proofs.YtbnjijffkjcmcaaDoor.AL
namespace Go.Proofs.YtbnjijffkjcmcaaDoor.AL
open Go
theorem bAnd_u64' {a b : Int} (ha : 0 ≤ a) (ha' : a ≤ 18446744073709551615) (hb : 0 ≤ b) (hb' : b ≤ 18446744073709551615) : bAnd .u64 a b = ((a.toNat &&& b.toNat : Nat) : Int) := by
  unfold bAnd
  have e : ∀ x : Int, 0 ≤ x → x ≤ 18446744073709551615 → (BitVec.ofInt (IntKind.u64).bits x).toNat = x.toNat := by
    intro x h1 h2
    rw [BitVec.toNat_ofInt]
    show (x % ((2 ^ 64 : Nat) : Int)).toNat = x.toNat
    rw [Int.emod_eq_of_lt h1 (by omega)]
  rw [BitVec.toNat_and, e a ha ha', e b hb hb']
  have h2 : a.toNat &&& b.toNat ≤ a.toNat := Nat.and_le_left
  rw [wr_u64 (by omega) (by omega)]
theorem tb_range (m k i : Nat) (h : k ≤ m) : (2 ^ m - 2 ^ k : Nat).testBit i = (decide (k ≤ i) && decide (i < m)) := by
  have : 2 ^ m - 2 ^ k = (2 ^ (m - k) - 1) <<< k := by
    rw [Nat.shiftLeft_eq, Nat.sub_mul, ← Nat.pow_add, Nat.sub_add_cancel h]; simp
  rw [this, Nat.testBit_shiftLeft, Nat.testBit_two_pow_sub_one]
  by_cases h1 : k ≤ i
  · by_cases h2 : i < m <;> simp [h1, h2] <;> omega
  · simp [h1]
/-- Cutting the lowest k bits off. -/
theorem and_mask (a m k : Nat) (h : k ≤ m) (ha : a < 2 ^ m) : a &&& (2 ^ m - 2 ^ k) = a / 2 ^ k * 2 ^ k := by
  apply Nat.eq_of_testBit_eq
  intro i
  rw [Nat.testBit_and, tb_range m k i h, ← Nat.shiftLeft_eq, Nat.testBit_shiftLeft, Nat.testBit_div_two_pow]
  by_cases h1 : k ≤ i
  · have : k + (i - k) = i := by omega
    have : i - k + k = i := by omega
    by_cases h2 : i < m
    · simp [h1, h2, this]
    · have h3 : a.testBit i = false := Nat.testBit_lt_two_pow (Nat.lt_of_lt_of_le ha (Nat.pow_le_pow_right (by omega) (by omega)))
      simp [h1, h2, h3, this]
  · simp [h1]
theorem bAnd_mask {a : Int} {m k : Nat} (h : k ≤ m) (hm : m ≤ 64) (ha : 0 ≤ a) (ha' : a < 2 ^ m) : bAnd .u64 a (2 ^ m - 2 ^ k) = a / 2 ^ k * 2 ^ k := by
  have h1 := ipow_le64 hm
  have h2 : (2 : Int) ^ k ≤ 2 ^ m := by
    rw [← ipow, ← ipow]; exact_mod_cast Nat.pow_le_pow_right (by omega) h
  have h3 := ipow_pos k
  rw [bAnd_u64' ha (by omega) (by omega) (by omega)]
  have e1 : ((2 : Int) ^ m - 2 ^ k).toNat = 2 ^ m - 2 ^ k := by
    rw [← ipow, ← ipow]; omega
  have e2 : a.toNat < 2 ^ m := by
    have : (a.toNat : Int) < ((2 ^ m : Nat) : Int) := by rw [ipow]; omega
    exact_mod_cast this
  rw [e1, and_mask _ m k h e2]
  push_cast
  rw [Int.toNat_of_nonneg ha]
theorem bAnd_one' {a : Int} (ha : 0 ≤ a) (ha' : a ≤ 18446744073709551615) : bAnd .u64 a 1 = a % 2 := by
  rw [bAnd_u64' ha ha' (by omega) (by omega)]
  show (((a.toNat &&& 1) : Nat) : Int) = _
  rw [Nat.and_one_is_mod]
  omega
/-- The highest 64-k bits. -/
theorem shl_mask {k : Nat} (h : k ≤ 64) : IntKind.u64.wrap (18446744073709551615 * 2 ^ k) = 18446744073709551616 - 2 ^ k := by
  rw [wrap_u64]
  have h1 := ipow_le64 h
  have h3 := ipow_pos k
  have : (18446744073709551615 : Int) * 2 ^ k = 18446744073709551616 - 2 ^ k + (2 ^ k - 1) * 18446744073709551616 := by omega
  rw [this, Int.add_mul_emod_self_right]
  omega
/-- An address without its lowest k bits. -/
def cutA (h l : Int) (k : Nat) : Int × Int := if 64 ≤ k then (h / 2 ^ (k - 64) * 2 ^ (k - 64), 0) else (h, l / 2 ^ k * 2 ^ k)
def numA (p : Int × Int) : Int := p.1 * 18446744073709551616 + p.2
theorem ipow_add (a b : Nat) : (2 : Int) ^ (a + b) = 2 ^ a * 2 ^ b := Int.pow_add ..
theorem ipow_succ (a : Nat) : (2 : Int) ^ (a + 1) = 2 ^ a * 2 := Int.pow_succ ..
theorem cutA_num {h l : Int} (hl : 0 ≤ l) (hl' : l ≤ 18446744073709551615) (k : Nat) : numA (cutA h l k) = numA (h, l) / 2 ^ k * 2 ^ k := by
  unfold cutA numA
  by_cases hk : 64 ≤ k
  · obtain ⟨j, rfl⟩ : ∃ j, k = 64 + j := ⟨k - 64, by omega⟩
    rw [if_pos (by omega)]
    simp only [show 64 + j - 64 = j by omega]
    rw [ipow_add, ← Int.ediv_ediv_of_nonneg (by decide), show ((2 : Int) ^ 64) = 18446744073709551616 from rfl]
    rw [show (h * 18446744073709551616 + l) / 18446744073709551616 = h by omega]
    rw [Int.mul_comm 18446744073709551616 (2 ^ j), ← Int.mul_assoc]
    omega
  · rw [if_neg (by omega)]
    simp only
    have : (18446744073709551616 : Int) = 2 ^ (64 - k) * 2 ^ k := by rw [← ipow_add, show 64 - k + k = 64 by omega]; rfl
    have hp := ipow_pos k
    have e : (h * 18446744073709551616 + l) / 2 ^ k = h * 2 ^ (64 - k) + l / 2 ^ k := by
      rw [this, ← Int.mul_assoc, Int.add_comm, Int.add_mul_ediv_right _ _ (by omega), Int.add_comm]
    rw [e, Int.add_mul, Int.mul_assoc, ← this]
theorem bt_num {h l : Int} (hl : 0 ≤ l) (hl' : l ≤ 18446744073709551615) (k : Nat) : bt h l k = numA (h, l) / 2 ^ k % 2 := by
  unfold bt numA
  split
  · obtain ⟨j, rfl⟩ : ∃ j, k = 64 + j := ⟨k - 64, by omega⟩
    simp only [show 64 + j - 64 = j by omega]
    rw [ipow_add, ← Int.ediv_ediv_of_nonneg (by decide), show ((2 : Int) ^ 64) = 18446744073709551616 from rfl]
    rw [show (h * 18446744073709551616 + l) / 18446744073709551616 = h by omega]
  · have : (18446744073709551616 : Int) = 2 ^ (63 - k) * 2 * 2 ^ k := by rw [← ipow_succ, ← ipow_add, show 63 - k + 1 + k = 64 by omega]; rfl
    have hp := ipow_pos k
    simp only
    rw [this, ← Int.mul_assoc, Int.add_comm, Int.add_mul_ediv_right _ _ (by omega), ← Int.mul_assoc, Int.add_mul_emod_self_right]
theorem numA_inj {p q : Int × Int} (hp : 0 ≤ p.2 ∧ p.2 ≤ 18446744073709551615) (hq : 0 ≤ q.2 ∧ q.2 ≤ 18446744073709551615) (h : numA p = numA q) : p = q := by
  unfold numA at h
  have h1 : p.1 = q.1 := by omega
  have h2 : p.2 = q.2 := by omega
  exact Prod.ext h1 h2
theorem bits_eq : ∀ (n : Nat) {N M : Int}, N / 2 ^ n = M / 2 ^ n → (∀ i, i < n → N / 2 ^ i % 2 = M / 2 ^ i % 2) → N = M
  | 0, N, M, h, _ => by simpa using h
  | n + 1, N, M, h, hb => by
    refine bits_eq n ?_ (fun i hi => hb i (by omega))
    have hn := hb n (by omega)
    rw [ipow_succ, ← Int.ediv_ediv_of_nonneg (Int.le_of_lt (ipow_pos n)), ← Int.ediv_ediv_of_nonneg (Int.le_of_lt (ipow_pos n))] at h
    omega
theorem div_div_pow (N : Int) (a b : Nat) : N / 2 ^ a / 2 ^ b = N / 2 ^ (a + b) := by
  rw [ipow_add, Int.ediv_ediv_of_nonneg (Int.le_of_lt (ipow_pos a))]
/-- The bits from k on are the same. -/
theorem bits_from {N M : Int} {k w : Nat} (hk : k ≤ w) (hN : 0 ≤ N) (hN' : N < 2 ^ w) (hM : 0 ≤ M) (hM' : M < 2 ^ w) :
    (∀ i, k ≤ i → i < w → N / 2 ^ i % 2 = M / 2 ^ i % 2) ↔ N / 2 ^ k = M / 2 ^ k := by
  constructor
  · intro h
    refine bits_eq (w - k) ?_ (fun i hi => ?_)
    · rw [div_div_pow, div_div_pow, show k + (w - k) = w by omega, Int.ediv_eq_zero_of_lt hN hN', Int.ediv_eq_zero_of_lt hM hM']
    · rw [div_div_pow, div_div_pow]; exact h (k + i) (by omega) (by omega)
  · intro h i h1 h2
    rw [show i = k + (i - k) by omega, ← div_div_pow, ← div_div_pow, h]
theorem cut_iff (N : Int) (k : Nat) : N / 2 ^ k * 2 ^ k = N ↔ ∀ i, i < k → N / 2 ^ i % 2 = 0 := by
  have hp := ipow_pos k
  constructor
  · intro h i hi
    have e : (2 : Int) ^ k = 2 ^ (k - i - 1) * 2 * 2 ^ i := by rw [← ipow_succ, ← ipow_add]; congr 1; omega
    have hpi := ipow_pos i
    rw [e, ← Int.mul_assoc, ← Int.mul_assoc] at h
    generalize N / (2 ^ (k - i - 1) * 2 * 2 ^ i) * 2 ^ (k - i - 1) = x at h
    rw [← h, Int.mul_ediv_cancel _ (by omega)]
    omega
  · intro h
    have : N = N / 2 ^ k * 2 ^ k := by
      refine bits_eq k ?_ (fun i hi => ?_)
      · rw [Int.mul_ediv_cancel _ (by omega)]
      · rw [h i hi]
        have e : (2 : Int) ^ k = 2 ^ (k - i - 1) * 2 * 2 ^ i := by rw [← ipow_succ, ← ipow_add]; congr 1; omega
        have hpi := ipow_pos i
        rw [e, ← Int.mul_assoc, ← Int.mul_assoc]
        generalize N / (2 ^ (k - i - 1) * 2 * 2 ^ i) * 2 ^ (k - i - 1) = x
        rw [Int.mul_ediv_cancel _ (by omega)]
        omega
    exact this.symm
theorem adrStep_num {p : Int × Int} {b : Int} (h0 : 0 ≤ p.1) (h1 : 0 ≤ p.2) (h2 : p.2 ≤ 18446744073709551615) (hb : b = 0 ∨ b = 1) (hN : numA p < 170141183460469231731687303715884105728) : numA (adrStep p b) = 2 * numA p + b := by
  unfold numA adrStep at *
  simp only
  omega
/-- The address whose bits, from the highest, are those of N and then nothing. -/
theorem adrOf_bits (N : Int) (w n : Nat) (hw : w ≤ 128) (hn : n ≤ w) (hN : 0 ≤ N) (hN' : N < 2 ^ w) : ∀ j, j ≤ w →
    numA (adrOf ((List.range j).map fun i => if i < n then N / 2 ^ (w - 1 - i) % 2 else 0)) = if j ≤ n then N / 2 ^ (w - j) else N / 2 ^ (w - n) * 2 ^ (j - n)
  | 0, _ => by
    simp [adrOf, numA, Int.ediv_eq_zero_of_lt hN hN']
  | j + 1, hj => by
    have ih := adrOf_bits N w n hw hn hN hN' j (by omega)
    have hbd := adrOf_bd ((List.range j).map fun i => if i < n then N / 2 ^ (w - 1 - i) % 2 else 0) (by
      intro b hb
      simp only [List.mem_map] at hb
      obtain ⟨i, _, rfl⟩ := hb
      split <;> omega) (0, 0) (by simp)
    rw [List.range_succ, List.map_append, List.map_singleton, adrOf_snoc]
    simp only [← adrOf.eq_1] at hbd
    have hbnd : numA (adrOf ((List.range j).map fun i => if i < n then N / 2 ^ (w - 1 - i) % 2 else 0)) < 170141183460469231731687303715884105728 := by
      rw [ih]
      have hpw : (2 : Int) ^ (w - 1) ≤ 170141183460469231731687303715884105728 := by
        rw [← ipow]
        have := Nat.pow_le_pow_right (n := 2) (by omega) (show w - 1 ≤ 127 by omega)
        omega
      have hw1 : (2 : Int) ^ w = 2 ^ (w - 1) * 2 := by rw [← ipow_succ]; congr 1; omega
      split
      · have e : (2 : Int) ^ (w - j) = 2 ^ (w - j - 1) * 2 := by rw [← ipow_succ]; congr 1; omega
        have h1 : N / 2 ^ (w - j) ≤ N / 2 := by
          rw [e, Int.mul_comm, ← Int.ediv_ediv_of_nonneg (by omega)]
          exact Int.ediv_le_self _ (by omega)
        omega
      · have h1 : N / 2 ^ (w - n) * 2 ^ (j - n) * 2 ^ (w - j) ≤ N := by
          rw [Int.mul_assoc, ← ipow_add, show j - n + (w - j) = w - n by omega]
          exact Int.ediv_mul_le N (Int.ne_of_gt (ipow_pos _))
        have e : (2 : Int) ^ (w - j) = 2 ^ (w - j - 1) * 2 := by rw [← ipow_succ]; congr 1; omega
        have h0 : 0 ≤ N / 2 ^ (w - n) * 2 ^ (j - n) := Int.mul_nonneg (Int.ediv_nonneg hN (Int.le_of_lt (ipow_pos _))) (Int.le_of_lt (ipow_pos _))
        rw [e] at h1
        have h3 := ipow_pos (w - j - 1)
        generalize N / 2 ^ (w - n) * 2 ^ (j - n) = x at *
        have : x * 2 ≤ x * (2 ^ (w - j - 1) * 2) := Int.mul_le_mul_of_nonneg_left (by omega) h0
        omega
    rw [adrStep_num hbd.1 hbd.2.2.1 hbd.2.2.2 (by split <;> omega) hbnd, ih]
    by_cases h1 : j + 1 ≤ n
    · rw [if_pos (show j ≤ n by omega), if_pos h1, if_pos (show j < n by omega)]
      have e : N / 2 ^ (w - j) = N / 2 ^ (w - (j + 1)) / 2 := by
        have := div_div_pow N (w - (j + 1)) 1
        rw [show w - (j + 1) + 1 = w - j by omega] at this
        rw [← this]
        rfl
      rw [e, show w - 1 - j = w - (j + 1) by omega]
      omega
    · rw [if_neg h1, if_neg (show ¬ j < n by omega)]
      have e : (2 : Int) ^ (j + 1 - n) = 2 ^ (j - n) * 2 := by rw [← ipow_succ]; congr 1; omega
      rw [e, ← Int.mul_assoc]
      by_cases h2 : j ≤ n
      · rw [if_pos h2, show j = n by omega]
        simp
        omega
      · rw [if_neg h2]
        omega
theorem bShl_nat {x : Int} {k : Nat} (h : k ≤ 64) : bShl .u64 x k = IntKind.u64.wrap (x * 2 ^ k) := by
  unfold bShl
  rw [show min (k : Int).toNat (IntKind.u64).bits = k from by show min (k : Int).toNat 64 = k; omega]
theorem bShr_nat {x : Int} {k : Nat} (h : k ≤ 64) : bShr .u64 x k = x / 2 ^ k := by
  unfold bShr
  rw [show min (k : Int).toNat (IntKind.u64).bits = k from by show min (k : Int).toNat 64 = k; omega]
  rw [Int.fdiv_eq_ediv_of_nonneg _ (Int.le_of_lt (ipow_pos k))]
theorem bShl_all {k : Nat} (h : k ≤ 64) : bShl .u64 18446744073709551615 k = 18446744073709551616 - 2 ^ k := by rw [bShl_nat h, shl_mask h]
theorem bAnd_zero {a : Int} (ha : 0 ≤ a) (ha' : a ≤ 18446744073709551615) : bAnd .u64 0 a = 0 := by
  rw [bAnd_u64' (by omega) (by omega) ha ha']
  simp
theorem bAnd_zero' {a : Int} (ha : 0 ≤ a) (ha' : a ≤ 18446744073709551615) : bAnd .u64 a 0 = 0 := by
  rw [bAnd_u64' ha ha' (by omega) (by omega)]
  simp
theorem bAnd_full {a : Int} (ha : 0 ≤ a) (ha' : a ≤ 18446744073709551615) : bAnd .u64 a 18446744073709551615 = a := by
  have := bAnd_mask (a := a) (m := 64) (k := 0) (by omega) (by omega) ha (by show a < 18446744073709551616; omega)
  simpa using this
theorem mask32 {k : Nat} (h : k ≤ 32) : bAnd .u64 (18446744073709551616 - 2 ^ k) 4294967295 = 4294967296 - 2 ^ k := by
  have h1 := ipow_le64 (k := k) (by omega)
  have h2 := ipow_pos k
  have h3 : (2 : Int) ^ k ≤ 4294967296 := by
    rw [← ipow]
    have := Nat.pow_le_pow_right (n := 2) (by omega) h
    omega
  rw [bAnd_u64' (by omega) (by omega) (by omega) (by omega)]
  have e : ((18446744073709551616 : Int) - 2 ^ k).toNat = 2 ^ 64 - 2 ^ k := by
    rw [← ipow]; omega
  have e2 : ((4294967295 : Int)).toNat = 2 ^ 32 - 2 ^ 0 := rfl
  have e3 : (4294967296 : Int) - 2 ^ k = ((2 ^ 32 - 2 ^ k : Nat) : Int) := by
    rw [← ipow] at h3 ⊢; omega
  rw [e, e2, e3]
  congr 1
  apply Nat.eq_of_testBit_eq
  intro i
  rw [Nat.testBit_and, tb_range 64 k i (by omega), tb_range 32 0 i (by omega), tb_range 32 k i h]
  by_cases h1 : k ≤ i <;> by_cases h2 : i < 32 <;> simp [h1, h2] <;> omega
theorem u64_rng {n : Int} (h : (Lit.int .u64 n).wf = true) : 0 ≤ n ∧ n ≤ 18446744073709551615 := by
  simp only [Lit.wf, Bool.and_eq_true, decide_eq_true_eq] at h
  have e1 : IntKind.u64.min = 0 := rfl
  have e2 : IntKind.u64.max = 18446744073709551615 := rfl
  omega
theorem i64_rng {n : Int} (h : (Lit.int .i64 n).wf = true) : -9223372036854775808 ≤ n ∧ n ≤ 9223372036854775807 := by
  simp only [Lit.wf, Bool.and_eq_true, decide_eq_true_eq] at h
  have e1 : IntKind.i64.min = -9223372036854775808 := rfl
  have e2 : IntKind.i64.max = 9223372036854775807 := rfl
  omega
theorem u8_rng {n : Int} (h : (Lit.int .u8 n).wf = true) : 0 ≤ n ∧ n ≤ 255 := by
  simp only [Lit.wf, Bool.and_eq_true, decide_eq_true_eq] at h
  have e1 : IntKind.u8.min = 0 := rfl
  have e2 : IntKind.u8.max = 255 := rfl
  omega
end Go.Proofs.YtbnjijffkjcmcaaDoor.AL
namespace Go.Proofs.YtbnjijffkjcmcaaDoor.AL
open Go
/-- Rows of numbers without sign. -/
def u64sOf : List (List V) → Option (List Int)
  | [] => some []
  | [.int .u64 x] :: rows => (u64sOf rows).map (x :: ·)
  | _ :: _ => none
theorem u64sOf_map (l : List Int) : u64sOf (l.map fun x => [.int .u64 x]) = some l := by
  induction l with
  | nil => rfl
  | cons x l ih => simp [u64sOf, ih]
theorem u64sOf_eq : ∀ {rows : List (List V)} {l : List Int}, u64sOf rows = some l → rows = l.map fun x => [.int .u64 x]
  | [], l, h => by simp [u64sOf] at h; subst h; rfl
  | r :: rows, l, h => by
    unfold u64sOf at h
    split at h
    · simp at h; subst h; simp_all
    · rename_i e
      simp only [List.cons.injEq] at e
      obtain ⟨rfl, rfl⟩ := e
      simp only [Option.map_eq_some_iff] at h
      obtain ⟨l', h1, rfl⟩ := h
      rw [u64sOf_eq h1]; rfl
    · cases h
/-- An element of an authorisation. -/
structure AP where
  f : Int
  h : Int
  l : Int
  n : Int
  m : Int
def AP.row (a : AP) : List V := [.int .u8 a.f, .int .u64 a.h, .int .u64 a.l, .int .i64 a.n, .int .i64 a.m]
def apOf : List V → Option AP
  | [.int .u8 f, .int .u64 h, .int .u64 l, .int .i64 n, .int .i64 m] => some ⟨f, h, l, n, m⟩
  | _ => none
theorem apOf_row (a : AP) : apOf a.row = some a := rfl
theorem apOf_eq {r : List V} {a : AP} (h : apOf r = some a) : r = a.row := by
  unfold apOf at h
  split at h
  · cases h; rfl
  · cases h
def apsOf : List (List V) → Option (List AP)
  | [] => some []
  | r :: rows => match apOf r, apsOf rows with
    | some a, some l => some (a :: l)
    | _, _ => none
theorem apsOf_map (l : List AP) : apsOf (l.map AP.row) = some l := by
  induction l with
  | nil => rfl
  | cons x l ih => simp [apsOf, ih, apOf_row]
theorem apsOf_eq : ∀ {rows : List (List V)} {l : List AP}, apsOf rows = some l → rows = l.map AP.row
  | [], l, h => by simp [apsOf] at h; subst h; rfl
  | r :: rows, l, h => by
    unfold apsOf at h
    split at h
    · rename_i a l' h1 h2
      cases h
      rw [apOf_eq h1, apsOf_eq h2]; rfl
    · cases h
def cmpL : List Int → List Int → Int
  | [], [] => 0
  | [], _ :: _ => -1
  | _ :: _, [] => 1
  | x :: xs, y :: ys => if x < y then -1 else if y < x then 1 else cmpL xs ys
def AP.key (a : AP) : List Int := [a.f, a.h, a.l, a.n, a.m]
def AP.ukey (a : AP) : List Int := [IntKind.u64.wrap a.f, a.h, a.l, IntKind.u64.wrap a.n, IntKind.u64.wrap a.m]
def inAP (a : AP) : Prop := 0 ≤ a.f ∧ a.f ≤ 255 ∧ 0 ≤ a.h ∧ a.h ≤ 18446744073709551615 ∧ 0 ≤ a.l ∧ a.l ≤ 18446744073709551615 ∧ -9223372036854775808 ≤ a.n ∧ a.n ≤ 9223372036854775807 ∧ -9223372036854775808 ≤ a.m ∧ a.m ≤ 9223372036854775807
instance (a : AP) : Decidable (inAP a) := by unfold inAP; infer_instance
/-- Before another, in the order of elements. -/
def befA (a b : AP) : Bool := decide (cmpL a.key b.key = -1)
def ordA (a b : AP) : Int := cmpL a.ukey b.ukey
theorem cmpL_self : ∀ l : List Int, cmpL l l = 0
  | [] => rfl
  | x :: l => by simp [cmpL, cmpL_self l]
theorem cmpL_rng : ∀ a b : List Int, cmpL a b = -1 ∨ cmpL a b = 0 ∨ cmpL a b = 1
  | [], [] => by simp [cmpL]
  | [], _ :: _ => by simp [cmpL]
  | _ :: _, [] => by simp [cmpL]
  | x :: xs, y :: ys => by
    unfold cmpL
    split
    · simp
    · split
      · simp
      · exact cmpL_rng xs ys
/-- Of two elements that are sound the one is before the other if its key is. -/
theorem ord_bef {a b : AP} (ha : inAP a) (hb : inAP b) (h1 : 0 ≤ a.n) (h2 : 0 ≤ a.m) (h3 : 0 ≤ b.n) (h4 : 0 ≤ b.m) : decide (ordA a b < 0) = befA a b := by
  have e : ∀ c : AP, inAP c → 0 ≤ c.n → 0 ≤ c.m → c.ukey = c.key := by
    intro c hc g1 g2
    obtain ⟨f0, f1, _, _, _, _, n0, n1, m0, m1⟩ := hc
    unfold AP.ukey AP.key
    rw [wr_u64 f0 (by omega), wr_u64 g1 (by omega), wr_u64 g2 (by omega)]
  unfold ordA befA
  rw [e a ha h1 h2, e b hb h3 h4]
  rcases cmpL_rng a.key b.key with h | h | h <;> rw [h] <;> decide
end Go.Proofs.YtbnjijffkjcmcaaDoor.AL
namespace Go.Proofs.YtbnjijffkjcmcaaDoor.AL
open Go
theorem bOr_u64' {a b : Int} (ha : 0 ≤ a) (ha' : a ≤ 18446744073709551615) (hb : 0 ≤ b) (hb' : b ≤ 18446744073709551615) : bOr .u64 a b = ((a.toNat ||| b.toNat : Nat) : Int) := by
  unfold bOr
  have e : ∀ x : Int, 0 ≤ x → x ≤ 18446744073709551615 → (BitVec.ofInt (IntKind.u64).bits x).toNat = x.toNat := by
    intro x h1 h2
    rw [BitVec.toNat_ofInt]
    show (x % ((2 ^ 64 : Nat) : Int)).toNat = x.toNat
    rw [Int.emod_eq_of_lt h1 (by omega)]
  rw [BitVec.toNat_or, e a ha ha', e b hb hb']
  have h2 : a.toNat ||| b.toNat < 2 ^ 64 := Nat.or_lt_two_pow (by omega) (by omega)
  rw [wr_u64 (by omega) (by omega)]
theorem bCom_u64' {a : Int} (ha : 0 ≤ a) (ha' : a ≤ 18446744073709551615) : bCom .u64 a = 18446744073709551615 - a := by
  unfold bCom
  have e : ∀ x : Int, 0 ≤ x → x ≤ 18446744073709551615 → (BitVec.ofInt 64 x).toNat = x.toNat := by
    intro x h1 h2
    rw [BitVec.toNat_ofInt]
    show (x % ((2 ^ 64 : Nat) : Int)).toNat = x.toNat
    rw [Int.emod_eq_of_lt h1 (by omega)]
  show IntKind.u64.wrap ((BitVec.ofInt 64 (18446744073709551615 : Int) ^^^ BitVec.ofInt 64 a).toNat : Int) = _
  have h1 : BitVec.ofInt 64 (18446744073709551615 : Int) = BitVec.allOnes 64 := by decide
  rw [h1, BitVec.allOnes_xor, BitVec.toNat_not, e a ha ha']
  rw [wr_u64 (by omega) (by omega)]
  omega
theorem or_mask (a k : Nat) : a ||| (2 ^ k - 1) = a / 2 ^ k * 2 ^ k + (2 ^ k - 1) := by
  have hp : 0 < 2 ^ k := Nat.pow_pos (by omega)
  rw [Nat.mul_comm, Nat.two_pow_add_eq_or_of_lt (by omega)]
  apply Nat.eq_of_testBit_eq
  intro i
  rw [Nat.testBit_or, Nat.testBit_or, Nat.testBit_two_pow_sub_one, Nat.testBit_two_pow_mul, Nat.testBit_div_two_pow]
  by_cases h : k ≤ i
  · simp [h, show k + (i - k) = i by omega, show i - k + k = i by omega]
  · simp [h, show i < k by omega]
theorem bOr_mask {a : Int} {k : Nat} (hk : k ≤ 64) (ha : 0 ≤ a) (ha' : a ≤ 18446744073709551615) : bOr .u64 a (2 ^ k - 1) = a / 2 ^ k * 2 ^ k + (2 ^ k - 1) := by
  have h1 := ipow_le64 hk
  have h3 := ipow_pos k
  rw [bOr_u64' ha ha' (by omega) (by omega)]
  have e1 : ((2 : Int) ^ k - 1).toNat = 2 ^ k - 1 := by
    rw [← ipow]; omega
  rw [e1, or_mask]
  have hp : 0 < 2 ^ k := Nat.pow_pos (by omega)
  rw [Int.natCast_add, Int.natCast_sub (by omega)]
  push_cast
  rw [Int.toNat_of_nonneg ha]
/-- The last address with the highest bits of this one (all but k). -/
def lastA (h l : Int) (k : Nat) : Int × Int := if 64 ≤ k then (h / 2 ^ (k - 64) * 2 ^ (k - 64) + (2 ^ (k - 64) - 1), 18446744073709551615) else (h, l / 2 ^ k * 2 ^ k + (2 ^ k - 1))
theorem lastA_num {h l : Int} (hl : 0 ≤ l) (hl' : l ≤ 18446744073709551615) (k : Nat) : numA (lastA h l k) = numA (h, l) / 2 ^ k * 2 ^ k + (2 ^ k - 1) := by
  rw [← cutA_num hl hl' k]
  unfold lastA cutA numA
  by_cases hk : 64 ≤ k
  · obtain ⟨j, rfl⟩ : ∃ j, k = 64 + j := ⟨k - 64, by omega⟩
    rw [if_pos hk, if_pos hk]
    simp only [show 64 + j - 64 = j by omega]
    rw [ipow_add, show ((2 : Int) ^ 64) = 18446744073709551616 from rfl]
    omega
  · rw [if_neg hk, if_neg hk]
    simp only
    omega
/-- The address whose bits, from the highest, are those of N and then ones. -/
theorem adrOf_ones (N : Int) (w n : Nat) (hw : w ≤ 128) (hn : n ≤ w) (hN : 0 ≤ N) (hN' : N < 2 ^ w) : ∀ j, j ≤ w →
    numA (adrOf ((List.range j).map fun i => if i < n then N / 2 ^ (w - 1 - i) % 2 else 1)) = if j ≤ n then N / 2 ^ (w - j) else N / 2 ^ (w - n) * 2 ^ (j - n) + (2 ^ (j - n) - 1)
  | 0, _ => by
    simp [adrOf, numA, Int.ediv_eq_zero_of_lt hN hN']
  | j + 1, hj => by
    have ih := adrOf_ones N w n hw hn hN hN' j (by omega)
    have hbd := adrOf_bd ((List.range j).map fun i => if i < n then N / 2 ^ (w - 1 - i) % 2 else 1) (by
      intro b hb
      simp only [List.mem_map] at hb
      obtain ⟨i, _, rfl⟩ := hb
      split <;> omega) (0, 0) (by simp)
    rw [List.range_succ, List.map_append, List.map_singleton, adrOf_snoc]
    simp only [← adrOf.eq_1] at hbd
    have hbnd : numA (adrOf ((List.range j).map fun i => if i < n then N / 2 ^ (w - 1 - i) % 2 else 1)) < 170141183460469231731687303715884105728 := by
      rw [ih]
      have hpw : (2 : Int) ^ (w - 1) ≤ 170141183460469231731687303715884105728 := by
        rw [← ipow]
        have := Nat.pow_le_pow_right (n := 2) (by omega) (show w - 1 ≤ 127 by omega)
        omega
      have hw1 : (2 : Int) ^ w = 2 ^ (w - 1) * 2 := by rw [← ipow_succ]; congr 1; omega
      split
      · have e : (2 : Int) ^ (w - j) = 2 ^ (w - j - 1) * 2 := by rw [← ipow_succ]; congr 1; omega
        have h1 : N / 2 ^ (w - j) ≤ N / 2 := by
          rw [e, Int.mul_comm, ← Int.ediv_ediv_of_nonneg (by omega)]
          exact Int.ediv_le_self _ (by omega)
        omega
      · have hlt : N / 2 ^ (w - n) < 2 ^ n := by
          apply Int.ediv_lt_of_lt_mul (ipow_pos _)
          rw [← ipow_add, show n + (w - n) = w by omega]
          exact hN'
        have e2 : (2 : Int) ^ n * 2 ^ (j - n) = 2 ^ j := by rw [← ipow_add]; congr 1; omega
        have e3 : (2 : Int) ^ j ≤ 2 ^ (w - 1) := by
          rw [← ipow, ← ipow]; exact_mod_cast Nat.pow_le_pow_right (by omega) (by omega)
        have h3 := ipow_pos (j - n)
        have h4 : (N / 2 ^ (w - n) + 1) * 2 ^ (j - n) ≤ 2 ^ n * 2 ^ (j - n) := Int.mul_le_mul_of_nonneg_right (by omega) (by omega)
        rw [Int.add_mul] at h4
        omega
    rw [adrStep_num hbd.1 hbd.2.2.1 hbd.2.2.2 (by split <;> omega) hbnd, ih]
    by_cases h1 : j + 1 ≤ n
    · rw [if_pos (show j ≤ n by omega), if_pos h1, if_pos (show j < n by omega)]
      have e : N / 2 ^ (w - j) = N / 2 ^ (w - (j + 1)) / 2 := by
        have := div_div_pow N (w - (j + 1)) 1
        rw [show w - (j + 1) + 1 = w - j by omega] at this
        rw [← this]
        rfl
      rw [e, show w - 1 - j = w - (j + 1) by omega]
      omega
    · rw [if_neg h1, if_neg (show ¬ j < n by omega)]
      have e : (2 : Int) ^ (j + 1 - n) = 2 ^ (j - n) * 2 := by rw [← ipow_succ]; congr 1; omega
      rw [e, ← Int.mul_assoc]
      by_cases h2 : j ≤ n
      · rw [if_pos h2, show j = n by omega]
        simp
        omega
      · rw [if_neg h2]
        omega
end Go.Proofs.YtbnjijffkjcmcaaDoor.AL
namespace Go.Proofs.YtbnjijffkjcmcaaDoor.AL
open Go
theorem ones_mul {N : Int} : ∀ k : Nat, (∀ m, m < k → N / 2 ^ m % 2 = 1) → ∃ q, N + 1 = q * 2 ^ k
  | 0, _ => ⟨N + 1, by simp⟩
  | k + 1, h => by
    obtain ⟨q, hq⟩ := ones_mul k (fun m hm => h m (by omega))
    have hp := ipow_pos k
    have hk := h k (by omega)
    have e : N / 2 ^ k = q - 1 := by
      have : N = (2 ^ k - 1) + (q - 1) * 2 ^ k := by rw [Int.sub_mul]; omega
      rw [this, Int.add_mul_ediv_right _ _ (by omega), Int.ediv_eq_zero_of_lt (by omega) (by omega)]
      omega
    rw [e] at hk
    refine ⟨q / 2, ?_⟩
    rw [ipow_succ, hq, Int.mul_comm (2 ^ k) 2, ← Int.mul_assoc]
    congr 1
    omega
theorem zeros_mul {N : Int} (k : Nat) (h : ∀ m, m < k → N / 2 ^ m % 2 = 0) : ∃ q, N = q * 2 ^ k :=
  ⟨N / 2 ^ k, ((cut_iff N k).2 h).symm⟩
theorem mul_bit_lt {q : Int} {k m : Nat} (h : m < k) : q * 2 ^ k / 2 ^ m % 2 = 0 := by
  have hp := ipow_pos m
  have e : (2 : Int) ^ k = 2 ^ (k - m - 1) * 2 * 2 ^ m := by rw [← ipow_succ, ← ipow_add]; congr 1; omega
  rw [e, ← Int.mul_assoc, ← Int.mul_assoc, Int.mul_ediv_cancel _ (by omega)]
  omega
theorem mul_bit_ge {q : Int} {k m : Nat} (h : k ≤ m) : q * 2 ^ k / 2 ^ m = q / 2 ^ (m - k) := by
  have hp := ipow_pos k
  rw [show m = k + (m - k) by omega, ← div_div_pow, Int.mul_ediv_cancel _ (by omega), show k + (m - k) - k = m - k by omega]
theorem pred_bit_ge {q : Int} {k m : Nat} (h : k ≤ m) : (q * 2 ^ k - 1) / 2 ^ m = (q - 1) / 2 ^ (m - k) := by
  have hp := ipow_pos k
  rw [show m = k + (m - k) by omega, ← div_div_pow, show k + (m - k) - k = m - k by omega]
  congr 1
  have : q * 2 ^ k - 1 = (2 ^ k - 1) + (q - 1) * 2 ^ k := by rw [Int.sub_mul]; omega
  rw [this, Int.add_mul_ediv_right _ _ (by omega), Int.ediv_eq_zero_of_lt (by omega) (by omega)]
  omega
theorem half_odd {q : Int} {d : Nat} (hq : q % 2 = 1) (hd : 0 < d) : q / 2 ^ d = (q - 1) / 2 ^ d := by
  rw [show d = 1 + (d - 1) by omega, ← div_div_pow, ← div_div_pow]
  congr 1
  show q / 2 = (q - 1) / 2
  omega
/-- The bits of N + 1, where the lowest k bits of N are ones and the next one is not. -/
theorem succ_bits {N : Int} {k : Nat} (h : ∀ m, m < k → N / 2 ^ m % 2 = 1) (h0 : N / 2 ^ k % 2 = 0) (m : Nat) :
    (N + 1) / 2 ^ m % 2 = if m < k then 0 else if m = k then 1 else N / 2 ^ m % 2 := by
  obtain ⟨q, hq⟩ := ones_mul k h
  have hN : N = q * 2 ^ k - 1 := by omega
  have hb := pred_bit_ge (q := q) (k := k) (m := k) (Nat.le_refl _)
  rw [Nat.sub_self] at hb
  simp at hb
  rw [hN, hb] at h0
  rw [hq]
  by_cases h1 : m < k
  · rw [if_pos h1, mul_bit_lt h1]
  · rw [if_neg h1, mul_bit_ge (by omega)]
    by_cases h2 : m = k
    · rw [if_pos h2, h2, Nat.sub_self]; simp; omega
    · rw [if_neg h2, hN, pred_bit_ge (by omega), half_odd (by omega) (by omega)]
/-- The bits of N - 1, where the lowest k bits of N are nought and the next one is not. -/
theorem pred_bits {N : Int} {k : Nat} (h : ∀ m, m < k → N / 2 ^ m % 2 = 0) (h0 : N / 2 ^ k % 2 = 1) (m : Nat) :
    (N - 1) / 2 ^ m % 2 = if m < k then 1 else if m = k then 0 else N / 2 ^ m % 2 := by
  obtain ⟨q, hq⟩ := zeros_mul k h
  rw [hq, mul_bit_ge (Nat.le_refl _), Nat.sub_self] at h0
  simp at h0
  rw [hq]
  by_cases h1 : m < k
  · rw [if_pos h1]
    have hp := ipow_pos m
    have e : (2 : Int) ^ k = 2 ^ (k - m - 1) * 2 * 2 ^ m := by rw [← ipow_succ, ← ipow_add]; congr 1; omega
    rw [e, ← Int.mul_assoc, ← Int.mul_assoc, show ∀ x : Int, x * 2 * 2 ^ m - 1 = (2 ^ m - 1) + (x * 2 - 1) * 2 ^ m from fun x => by rw [Int.sub_mul]; omega, Int.add_mul_ediv_right _ _ (by omega), Int.ediv_eq_zero_of_lt (by omega) (by omega)]
    omega
  · rw [if_neg h1, pred_bit_ge (by omega)]
    by_cases h2 : m = k
    · rw [if_pos h2, h2, Nat.sub_self]; simp; omega
    · rw [if_neg h2, mul_bit_ge (by omega), half_odd h0 (by omega)]
end Go.Proofs.YtbnjijffkjcmcaaDoor.AL
namespace Go.Proofs.YtbnjijffkjcmcaaDoor.AL
open Go
/-- The prefixes of the part of [a, b] that lies in the block of 2^k numbers from N: by halves. -/
def wthN (a b : Int) : Nat → Int → List (Int × Nat)
  | 0, N => if N < a ∨ b < N then [] else [(N, 0)]
  | k + 1, N => if N + 2 ^ (k + 1) - 1 < a ∨ b < N then [] else if a ≤ N ∧ N + 2 ^ (k + 1) - 1 ≤ b then [(N, k + 1)] else wthN a b k N ++ wthN a b k (N + 2 ^ k)
theorem wthN_out {a b : Int} : ∀ {k : Nat} {N : Int}, (N + 2 ^ k - 1 < a ∨ b < N) → wthN a b k N = []
  | 0, N, h => by
    rw [wthN, if_pos]
    simp at h; exact h
  | k + 1, N, h => by rw [wthN, if_pos h]
theorem wthN_in {a b : Int} : ∀ {k : Nat} {N : Int}, a ≤ N → N + 2 ^ k - 1 ≤ b → wthN a b k N = [(N, k)]
  | 0, N, h1, h2 => by
    simp at h2
    rw [wthN, if_neg (by omega)]
  | k + 1, N, h1, h2 => by
    have := ipow_pos (k + 1)
    rw [wthN, if_neg (by omega), if_pos ⟨h1, h2⟩]
theorem wthN_halves {a b : Int} {k : Nat} {N : Int} (h : ¬ (a ≤ N ∧ N + 2 ^ (k + 1) - 1 ≤ b)) : wthN a b (k + 1) N = wthN a b k N ++ wthN a b k (N + 2 ^ k) := by
  rw [wthN]
  have e := ipow_succ k
  have := ipow_pos k
  split
  · rename_i ho
    rw [wthN_out (k := k) (N := N) (by omega), wthN_out (k := k) (N := N + 2 ^ k) (by omega)]; rfl
  · rfl
theorem wthN_low {a a' b : Int} : ∀ {k : Nat} {N : Int}, a ≤ N → a' ≤ N → wthN a b k N = wthN a' b k N
  | 0, N, h1, h2 => by
    rw [wthN, wthN]
    by_cases hb : b < N
    · rw [if_pos (.inr hb), if_pos (.inr hb)]
    · rw [if_neg (by omega), if_neg (by omega)]
  | k + 1, N, h1, h2 => by
    have := ipow_pos k
    by_cases h : N + 2 ^ (k + 1) - 1 ≤ b
    · rw [wthN_in h1 h, wthN_in h2 h]
    · rw [wthN_halves (fun g => h g.2), wthN_halves (fun g => h g.2), wthN_low h1 h2, wthN_low (k := k) (N := N + 2 ^ k) (a := a) (a' := a') (by omega) (by omega)]
theorem wthN_empty {a b : Int} (h : b < a) : ∀ {k : Nat} {N : Int}, wthN a b k N = []
  | 0, N => by rw [wthN, if_pos (by omega)]
  | k + 1, N => by
    have := ipow_pos (k + 1)
    rw [wthN_halves (by omega), wthN_empty h, wthN_empty h]; rfl
/-- The first of the prefixes is the largest that begins the span. -/
theorem wthN_step {a b : Int} {j : Nat} (hj : ∃ q : Int, a = q * 2 ^ j) (hb : a + 2 ^ j - 1 ≤ b) : ∀ {k : Nat} {N : Int}, (∃ q : Int, N = q * 2 ^ k) → N ≤ a → a < N + 2 ^ k → j ≤ k →
    (j = k ∨ ¬ ((∃ q : Int, a = q * 2 ^ (j + 1)) ∧ a + 2 ^ (j + 1) - 1 ≤ b)) → wthN a b k N = (a, j) :: wthN (a + 2 ^ j) b k N
  | 0, N, hN, h1, h2, hk, hm => by
    obtain rfl : j = 0 := by omega
    simp at h2 hb ⊢
    obtain rfl : N = a := by omega
    rw [wthN, wthN, if_neg (by omega), if_pos (by omega)]
  | k + 1, N, hN, h1, h2, hk, hm => by
    have e := ipow_succ k
    have hp := ipow_pos k
    have hpj := ipow_pos j
    obtain ⟨qN, eN⟩ := hN
    have hN' : ∃ q : Int, N = q * 2 ^ k := ⟨qN * 2, by rw [eN, e, Int.mul_assoc, Int.mul_comm 2]⟩
    have hM' : ∃ q : Int, N + 2 ^ k = q * 2 ^ k := by
      obtain ⟨q, hq⟩ := hN'
      exact ⟨q + 1, by rw [Int.add_mul, Int.one_mul, ← hq]⟩
    by_cases hin : a ≤ N ∧ N + 2 ^ (k + 1) - 1 ≤ b
    · obtain rfl : N = a := by omega
      have hjk : j = k + 1 := by
        rcases hm with hm | hm
        · exact hm
        · rcases Nat.lt_or_ge j (k + 1) with hlt | hge
          · exfalso
            apply hm
            have e2 : (2 : Int) ^ (k + 1) = 2 ^ (k - j) * 2 ^ (j + 1) := by rw [← ipow_add]; congr 1; omega
            have hle : (2 : Int) ^ (j + 1) ≤ 2 ^ (k + 1) := by
              rw [e2]
              have := ipow_pos (k - j)
              have h3 : (1 : Int) * 2 ^ (j + 1) ≤ 2 ^ (k - j) * 2 ^ (j + 1) := Int.mul_le_mul_of_nonneg_right (by omega) (Int.le_of_lt (ipow_pos _))
              omega
            exact ⟨⟨qN * 2 ^ (k - j), by rw [Int.mul_assoc, ← e2]; exact eN⟩, by omega⟩
          · omega
      subst hjk
      rw [wthN_in hin.1 hin.2, wthN_out (.inl (by omega))]
    · have hjk : j ≤ k := by
        rcases Nat.lt_or_ge k j with hlt | hge
        · exfalso
          obtain rfl : j = k + 1 := by omega
          obtain ⟨q, hq⟩ := hj
          have hqq : q = qN := by
            have g1 : qN * 2 ^ (k + 1) ≤ q * 2 ^ (k + 1) := by rw [← eN, ← hq]; exact h1
            have g2 : q * 2 ^ (k + 1) < (qN + 1) * 2 ^ (k + 1) := by rw [Int.add_mul, Int.one_mul, ← eN, ← hq]; exact h2
            have g3 := Int.le_of_mul_le_mul_right g1 hpj
            have g4 := Int.lt_of_mul_lt_mul_right g2 (Int.le_of_lt hpj)
            omega
          subst hqq
          exact hin ⟨by omega, by omega⟩
        · exact hge
      have hmax : ¬ ((∃ q : Int, a = q * 2 ^ (j + 1)) ∧ a + 2 ^ (j + 1) - 1 ≤ b) := hm.resolve_left (by omega)
      rw [wthN_halves hin, wthN_halves (a := a + 2 ^ j) (by omega)]
      by_cases hl : a < N + 2 ^ k
      · have ha' : a + 2 ^ j ≤ N + 2 ^ k := by
          obtain ⟨q, hq⟩ := hj
          obtain ⟨m, hm'⟩ := hM'
          have e2 : (2 : Int) ^ k = 2 ^ (k - j) * 2 ^ j := by rw [← ipow_add]; congr 1; omega
          have e3 : N + 2 ^ k = (m * 2 ^ (k - j)) * 2 ^ j := by rw [hm', Int.mul_assoc, ← e2]
          have g : q * 2 ^ j < (m * 2 ^ (k - j)) * 2 ^ j := by rw [← e3, ← hq]; exact hl
          have g2 := Int.lt_of_mul_lt_mul_right g (Int.le_of_lt hpj)
          have g3 : (q + 1) * 2 ^ j ≤ (m * 2 ^ (k - j)) * 2 ^ j := Int.mul_le_mul_of_nonneg_right (by omega) (Int.le_of_lt hpj)
          rw [Int.add_mul, Int.one_mul, ← hq, ← e3] at g3
          exact g3
        rw [wthN_step hj hb hN' h1 hl hjk (.inr hmax), List.cons_append, wthN_low (a := a) (a' := a + 2 ^ j) (k := k) (N := N + 2 ^ k) (by omega) ha']
      · rw [wthN_out (k := k) (N := N) (a := a) (.inl (by omega)), wthN_out (k := k) (N := N) (a := a + 2 ^ j) (.inl (by omega)), List.nil_append, List.nil_append]
        exact wthN_step hj hb hM' (by omega) (by omega) hjk (.inr hmax)
theorem wthN_lenR {a b : Int} : ∀ {k : Nat} {N : Int}, N + 2 ^ k - 1 ≤ b → (wthN a b k N).length ≤ k + 1
  | 0, N, h => by rw [wthN]; split <;> simp
  | k + 1, N, h => by
    have e := ipow_succ k
    have hp := ipow_pos k
    by_cases ha : a ≤ N
    · rw [wthN_in ha h]; simp
    · rw [wthN_halves (by omega), List.length_append]
      by_cases hm : a ≤ N + 2 ^ k
      · rw [wthN_in (k := k) hm (by omega)]
        have := wthN_lenR (a := a) (b := b) (k := k) (N := N) (by omega)
        simp; omega
      · rw [wthN_out (k := k) (N := N) (by omega)]
        have := wthN_lenR (a := a) (b := b) (k := k) (N := N + 2 ^ k) (by omega)
        simp; omega
theorem wthN_lenL {a b : Int} : ∀ {k : Nat} {N : Int}, a ≤ N → (wthN a b k N).length ≤ k + 1
  | 0, N, h => by rw [wthN]; split <;> simp
  | k + 1, N, h => by
    have e := ipow_succ k
    have hp := ipow_pos k
    by_cases hb : N + 2 ^ (k + 1) - 1 ≤ b
    · rw [wthN_in h hb]; simp
    · rw [wthN_halves (by omega), List.length_append]
      by_cases hm : N + 2 ^ k - 1 ≤ b
      · rw [wthN_in (k := k) h hm]
        have := wthN_lenL (a := a) (b := b) (k := k) (N := N + 2 ^ k) (by omega)
        simp; omega
      · rw [wthN_out (k := k) (N := N + 2 ^ k) (by omega)]
        have := wthN_lenL (a := a) (b := b) (k := k) (N := N) h
        simp; omega
theorem wthN_len {a b : Int} : ∀ {k : Nat} {N : Int}, (wthN a b k N).length ≤ 2 * k + 2
  | 0, N => by rw [wthN]; split <;> simp
  | k + 1, N => by
    have e := ipow_succ k
    have hp := ipow_pos k
    by_cases hin : a ≤ N ∧ N + 2 ^ (k + 1) - 1 ≤ b
    · rw [wthN_in hin.1 hin.2]; simp
    · rw [wthN_halves hin, List.length_append]
      by_cases hm : a ≤ N + 2 ^ k
      · by_cases hm2 : N + 2 ^ k - 1 ≤ b
        · have := wthN_lenR (a := a) (b := b) (k := k) (N := N) hm2
          have := wthN_lenL (a := a) (b := b) (k := k) (N := N + 2 ^ k) hm
          omega
        · rw [wthN_out (k := k) (N := N + 2 ^ k) (by omega)]
          have := wthN_len (a := a) (b := b) (k := k) (N := N)
          simp; omega
      · rw [wthN_out (k := k) (N := N) (by omega)]
        have := wthN_len (a := a) (b := b) (k := k) (N := N + 2 ^ k)
        simp; omega
/-- An address by its number. -/
def toA (N : Int) : Int × Int := (N / 18446744073709551616, N % 18446744073709551616)
theorem numA_toA (N : Int) : numA (toA N) = N := by unfold numA toA; simp only; omega
theorem toA_numA {h l : Int} (hl : 0 ≤ l) (hl' : l ≤ 18446744073709551615) : toA (numA (h, l)) = (h, l) := by
  unfold numA toA
  simp only
  apply Prod.ext
  · show _ / _ = h; omega
  · show _ % _ = l; omega
theorem toA_rng {N : Int} (h0 : 0 ≤ N) (h1 : N < 340282366920938463463374607431768211456) : 0 ≤ (toA N).1 ∧ (toA N).1 ≤ 18446744073709551615 ∧ 0 ≤ (toA N).2 ∧ (toA N).2 ≤ 18446744073709551615 := by
  unfold toA
  simp only
  omega
end Go.Proofs.YtbnjijffkjcmcaaDoor.AL
namespace Go.Proofs.YtbnjijffkjcmcaaDoor.AL
open Go
/-- The index of the first row that a test takes, or -1. -/
def idxP (p : List V → Bool) : List (List V) → Int
  | [] => -1
  | r :: l => if p r = true then 0 else if idxP p l = -1 then -1 else idxP p l + 1
theorem idxP_rng {p : List V → Bool} : ∀ {l : List (List V)}, idxP p l = -1 ∨ 0 ≤ idxP p l
  | [] => .inl rfl
  | r :: l => by
    simp only [idxP]
    have ih := idxP_rng (p := p) (l := l)
    split
    · right; omega
    · split
      · left; rfl
      · right; omega
theorem idxP_iff {p : List V → Bool} : ∀ {l : List (List V)}, 0 ≤ idxP p l ↔ l.any p = true
  | [] => by simp [idxP]
  | r :: l => by
    have ih := idxP_iff (p := p) (l := l)
    have hr := idxP_rng (p := p) (l := l)
    rw [List.any_cons, Bool.or_eq_true, ← ih, idxP]
    by_cases h : p r = true
    · simp [h]
    · rw [if_neg h]
      split
      · rename_i h1
        rw [h1]
        exact ⟨fun hh => absurd hh (by decide), fun hh => hh.elim (fun g => absurd g h) id⟩
      · rename_i h1
        exact ⟨fun _ => .inr (hr.resolve_left h1), fun _ => by have := hr.resolve_left h1; omega⟩
theorem idxP_any {p : List V → Bool} {l : List (List V)} : (decide (0 ≤ idxP p l)) = l.any p := by
  rw [Bool.eq_iff_iff, decide_eq_true_eq]
  exact idxP_iff
theorem idxP_at {p : List V → Bool} : ∀ {l : List (List V)} {k : Nat} (hk : k < l.length), (∀ i (hi : i < k), p (l[i]'(by omega)) = false) → p l[k] = true → idxP p l = k
  | r :: l, 0, hk, _, h => by simp at h; simp [idxP, h]
  | r :: l, k + 1, hk, hf, h => by
    have h0 : p r = false := by have := hf 0 (by omega); simpa using this
    have ih := idxP_at (p := p) (l := l) (k := k) (by simpa using hk) (fun i hi => by have := hf (i + 1) (by omega); simpa using this) (by simpa using h)
    simp only [idxP, h0, Bool.false_eq_true, if_false, ih]
    rw [if_neg (by omega)]
    omega
theorem idxP_none {p : List V → Bool} : ∀ {l : List (List V)}, (∀ r ∈ l, p r = false) → idxP p l = -1
  | [], _ => rfl
  | r :: l, h => by
    have ih := idxP_none (p := p) (l := l) (fun x hx => h x (List.mem_cons_of_mem r hx))
    rw [idxP, h r List.mem_cons_self, ih]
    simp
mutual
theorem V.clean_ren (ns : List Nat) (n : Nat) : ∀ (x : V), x.clean = true → x.lt n = true ∧ x.ren ns = x
  | .int _ _, _ | .bool _, _ | .str _, _ | .nilp, _ | .nils, _ | .nilfn, _ | .nilif, _ | .nilm, _ | .bany, _ | .iany _, _ | .rd _ _, _ | .rptr _ _, _ | .mrd _ _, _ | .junk, _ => ⟨rfl, rfl⟩
  | .own _, h | .ptr _ _, h | .eptr _ _ _ _, h | .yld _, h | .mp _, h => by simp [V.clean] at h
  | .fn f fi cs, h => by
    simp only [V.clean, Bool.and_eq_true] at h
    obtain ⟨a1, a2⟩ := cleanL_ren ns n fi h.1
    obtain ⟨b1, b2⟩ := cleanL_ren ns n cs h.2
    simp only [V.lt, V.ren, a1, a2, b1, b2, Bool.and_self, and_self]
  | .iface t v, h => by
    simp only [V.clean] at h
    obtain ⟨a1, a2⟩ := V.clean_ren ns n v h
    simp only [V.lt, V.ren, a1, a2, and_self]
  | .agg cs, h => by
    simp only [V.clean] at h
    obtain ⟨a1, a2⟩ := cleanL_ren ns n cs h
    simp only [V.lt, V.ren, a1, a2, and_self]
  | .tup cs, h => by
    simp only [V.clean] at h
    obtain ⟨a1, a2⟩ := cleanL_ren ns n cs h
    simp only [V.lt, V.ren, a1, a2, and_self]
theorem cleanL_ren (ns : List Nat) (n : Nat) : ∀ (cs : List V), cleanL cs = true → ltL n cs = true ∧ renL ns cs = cs
  | [], _ => ⟨rfl, rfl⟩
  | c :: cs, h => by
    simp only [cleanL, Bool.and_eq_true] at h
    obtain ⟨a1, a2⟩ := V.clean_ren ns n c h.1
    obtain ⟨b1, b2⟩ := cleanL_ren ns n cs h.2
    simp only [ltL, renL, a1, a2, b1, b2, Bool.and_self, and_self]
end
open Classical in
/-- What is known of a function at one list of arguments. -/
noncomputable def oneS (args : List V) (r : Res) : List V → Option Res := fun a => if a = args then some r else none
theorem oneS_self {args : List V} {r : Res} : oneS args r args = some r := by unfold oneS; rw [if_pos rfl]
theorem oneS_ok {P : Program} [Gl P] {f : FuncId} {args : List V} {r : Res} (h : Runs P f args r) : ∀ a x, oneS args r a = some x → Runs P f a x := by
  intro a x hx
  unfold oneS at hx
  split at hx
  · rename_i e; cases hx; rw [e]; exact h
  · cases hx
/-- A guard that the kernel does not evaluate. -/
noncomputable def ifC {α : Type} (p : Prop) (a : Option α) : Option α := @ite _ p (Classical.propDecidable p) a none
theorem ifC_pos {α : Type} {p : Prop} {a : Option α} (h : p) : ifC p a = a := by unfold ifC; rw [if_pos h]
theorem ifC_some {α : Type} {p : Prop} {a : Option α} {r : α} (h : ifC p a = some r) : p ∧ a = some r := by
  unfold ifC at h
  split at h
  · exact ⟨by assumption, h⟩
  · cases h
end Go.Proofs.YtbnjijffkjcmcaaDoor.AL
namespace Go.Proofs.YtbnjijffkjcmcaaDoor.AL
open Go
/-! Rows of data. -/
def parseRows {α : Type} (f : List V → Option α) : List (List V) → Option (List α)
  | [] => some []
  | r :: rows => match f r, parseRows f rows with
    | some a, some l => some (a :: l)
    | _, _ => none
theorem parse_map {α : Type} {f : List V → Option α} {row : α → List V} (hf : ∀ a, f (row a) = some a) (l : List α) : parseRows f (l.map row) = some l := by
  induction l with
  | nil => rfl
  | cons x l ih => simp [parseRows, ih, hf]
theorem parse_eq {α : Type} {f : List V → Option α} {row : α → List V} (hf : ∀ r a, f r = some a → r = row a) : ∀ {rows : List (List V)} {l : List α}, parseRows f rows = some l → rows = l.map row
  | [], l, h => by simp [parseRows] at h; subst h; rfl
  | r :: rows, l, h => by
    unfold parseRows at h
    split at h
    · rename_i a l' h1 h2
      cases h
      rw [hf _ _ h1, parse_eq hf h2]; rfl
    · cases h
/-- A span. -/
structure SP where
  h : Int
  l : Int
  h' : Int
  l' : Int
  deriving DecidableEq
def SP.row (s : SP) : List V := [.int .u64 s.h, .int .u64 s.l, .int .u64 s.h', .int .u64 s.l']
def spOf : List V → Option SP
  | [.int .u64 h, .int .u64 l, .int .u64 h', .int .u64 l'] => some ⟨h, l, h', l'⟩
  | _ => none
theorem spOf_row (s : SP) : spOf s.row = some s := rfl
theorem spOf_eq (r : List V) (s : SP) (h : spOf r = some s) : r = s.row := by
  unfold spOf at h
  split at h
  · cases h; rfl
  · cases h
/-- A span of numbers of systems. -/
structure AS where
  a : Int
  b : Int
  deriving DecidableEq
def AS.row (s : AS) : List V := [.int .u32 s.a, .int .u32 s.b]
def asOf : List V → Option AS
  | [.int .u32 a, .int .u32 b] => some ⟨a, b⟩
  | _ => none
theorem asOf_row (s : AS) : asOf s.row = some s := rfl
theorem asOf_eq (r : List V) (s : AS) (h : asOf r = some s) : r = s.row := by
  unfold asOf at h
  split at h
  · cases h; rfl
  · cases h
def inAS (s : AS) : Prop := 0 ≤ s.a ∧ s.a ≤ 4294967295 ∧ 0 ≤ s.b ∧ s.b ≤ 4294967295
instance (s : AS) : Decidable (inAS s) := by unfold inAS; infer_instance
def wideS (s : AS) : SP := ⟨0, s.a, 0, s.b⟩
abbrev spsOf := parseRows spOf
abbrev assOf := parseRows asOf
def sRows (l : List SP) : List (List V) := l.map SP.row
def aRows (l : List AS) : List (List V) := l.map AS.row
theorem sRows_len (l : List SP) : (sRows l).length = l.length := by simp [sRows]
theorem aRows_len (l : List AS) : (aRows l).length = l.length := by simp [aRows]
theorem sRows_parse (l : List SP) : spsOf (sRows l) = some l := parse_map spOf_row l
theorem aRows_parse (l : List AS) : assOf (aRows l) = some l := parse_map asOf_row l
theorem sRows_get {l : List SP} {k : Nat} (hk : k < l.length) : (sRows l)[k]? = some l[k].row := by simp [sRows, hk]
theorem aRows_get {l : List AS} {k : Nat} (hk : k < l.length) : (aRows l)[k]? = some l[k].row := by simp [aRows, hk]
theorem sRows_wide_snoc {l : List AS} {k : Nat} (hk : k < l.length) : sRows ((l.take k).map wideS) ++ [(wideS l[k]).row] = sRows ((l.take (k + 1)).map wideS) := by
  rw [take_snoc' l k hk]; simp only [sRows, List.map_append, List.map_cons, List.map_nil]
@[simp] theorem sRows_getElem {l : List SP} {k : Nat} (h : k < (sRows l).length) : (sRows l)[k] = (l[k]'(by rw [sRows_len] at h; exact h)).row := by simp [sRows]
@[simp] theorem aRows_getElem {l : List AS} {k : Nat} (h : k < (aRows l).length) : (aRows l)[k] = (l[k]'(by rw [aRows_len] at h; exact h)).row := by simp [aRows]
attribute [simp] sRows_len aRows_len
end Go.Proofs.YtbnjijffkjcmcaaDoor.AL
